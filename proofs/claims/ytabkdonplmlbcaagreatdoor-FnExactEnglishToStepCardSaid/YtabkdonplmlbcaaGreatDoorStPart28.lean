import Derived.Test.YtabkdonplmlbcaaGreatDoorStPart27
namespace Go.Proofs.YtabkdonplmlbcaaGreatDoor
set_option maxRecDepth 100000
open Go.RowKit
structure StB (lo g sb : Nat) (rule : Int) (ps wh : List Int) (vp vw : Value) (Fp Fw : Nat → Prop) (w : World) : Prop where
 box : w.heap[sb]? = some (.cells #[.int .i64 rule, vp, vw, .slice none 0 0] 27 (0, 0))
 ps : IntOwn 3 Fp w ps vp
 wh : IntOwn 3 Fw w wh vw
 fp : ∀ b, Fp b → lo ≤ b ∧ b < w.heap.size ∧ b ≠ sb ∧ b ≠ g ∧ ¬ Fw b
 fw : ∀ b, Fw b → lo ≤ b ∧ b < w.heap.size ∧ b ≠ sb ∧ b ≠ g
theorem StB.cells {sb : Nat} {rule : Int} {vp vw : Value} {w : World} (h : w.heap[sb]? = some (.cells #[.int .i64 rule, vp, vw, .slice none 0 0] 27 (0, 0))) : w.cell? ⟨sb, 0, none⟩ = some (.int .i64 rule) ∧ w.cell? ⟨sb, 1, none⟩ = some vp ∧ w.cell? ⟨sb, 2, none⟩ = some vw ∧ (∀ j, w.frozen? ⟨sb, j, none⟩ = false) := by
 refine ⟨?_, ?_, ?_, fun j => frozen_of_row w sb j _ _ h⟩
 ·rw [cell_of_row w sb 0 _ _ (0, 0) h]; rfl
 ·rw [cell_of_row w sb 1 _ _ (0, 0) h]; rfl
 ·rw [cell_of_row w sb 2 _ _ (0, 0) h]; rfl
theorem StB.gr {lo g sb : Nat} {rule : Int} {ps wh : List Int} {vp vw : Value} {Fp Fw : Nat → Prop} {w w' : World} (h : StB lo g sb rule ps wh vp vw Fp Fw w) (hg : w.grownBy w' (some g)) (hne : sb ≠ g) : StB lo g sb rule ps wh vp vw Fp Fw w' := by
 have hz := hg.size
 exact ⟨(hg.block _ (blk_lt h.box) (by simpa using hne)).trans h.box, h.ps.mono (fun b hb hl => hg.block b hl (by simpa using (h.fp b hb).2.2.2.1)) (fun _ h => h), h.wh.mono (fun b hb hl => hg.block b hl (by simpa using (h.fw b hb).2.2.2)) (fun _ h => h), fun b e => ⟨(h.fp b e).1, by have := (h.fp b e).2.1; omega, (h.fp b e).2.2⟩, fun b e => ⟨(h.fw b e).1, by have := (h.fw b e).2.1; omega, (h.fw b e).2.2⟩⟩
theorem StB.rule {lo g sb : Nat} {rule : Int} {ps wh : List Int} {vp vw : Value} {Fp Fw : Nat → Prop} {w : World} (h : StB lo g sb rule ps wh vp vw Fp Fw w) (r : Int) : StB lo g sb r ps wh vp vw Fp Fw (w.setCell ⟨sb, 0, none⟩ (.int .i64 r)) := by
 have h2 := heap_setCell_same _ sb 0 _ 27 (.int .i64 r) h.box
 refine ⟨by simpa using h2, ?_, ?_, fun b e => by simpa using h.fp b e, fun b e => by simpa using h.fw b e⟩
 ·exact h.ps.mono ((SameOn.refl _ _).sc (fun b hb' e => (h.fp b hb').2.2.1 e) _) (fun _ h => h)
 ·exact h.wh.mono ((SameOn.refl _ _).sc (fun b hb' e => (h.fw b hb').2.2.1 e) _) (fun _ h => h)
abbrev RdG (g : Nat) (s : ByteArray) (p : PSt) : (Nat → Prop) → World → Prop := fun F w => PAt 35 w g s p ∧ F g
theorem RdG.stab (g : Nat) (s : ByteArray) (p : PSt) : StabG (RdG g s p) := fun _ _ _ hs _ h => ⟨(hs g h.2).trans h.1, h.2⟩
theorem iNum_bd (L : List UInt8) (p : PSt) : -1000000 ≤ (iNum L p).1 ∧ (iNum L p).1 ≤ 999998 := by
 have := rdInt_bd (digs L p)
 rw [iNum]; simp only; omega
theorem iNum_pos (L : List UInt8) (p : PSt) (hp : p.pos ≤ L.length) : (iNum L p).2.pos ≤ L.length ∧ p.pos ≤ (iNum L p).2.pos := by
 have h : (digs L p).length ≤ (L.drop p.pos).length := (List.takeWhile_sublist _).length_le
 rw [List.length_drop] at h
 rw [iNum]; simp only; omega
theorem intNew (w : World) (l : List Int) (hl : l.length ≤ maxLen) (hb : ∀ n ∈ l, i64B n) : IntOwn 3 (fun b => b = w.heap.size) (w.alloc (.cells (intW l).toArray 3)) l (.slice (some ⟨w.heap.size, 0, none⟩) l.length l.length) :=
 rowI_own (base := 0) (by have := row_new w 3 1 l.length (intW l).toArray (by simp [intW]) hl; simpa using this) hb hl (fun g hg => by simp [Value.ownBlock] at hg; exact hg.symm)
theorem PAt.outs {T : TypeId} {g sb : Nat} {s : ByteArray} {p : PSt} {w : World} {o : Obj} {x y : Value} {i j : Nat} (h : PAt T w g s p) (hne : sb ≠ g) : PAt T (((w.setCell ⟨sb, i, none⟩ x).setCell ⟨sb, j, none⟩ y).alloc o) g s p := by
 unfold PAt
 rw [Below.heap_alloc _ _ _ (by have := h.lt; simpa using this), heap_setCell_other _ _ _ _ (fun e => hne e.symm), heap_setCell_other _ _ _ _ (fun e => hne e.symm)]
 exact h
theorem PAt.outs2 {T : TypeId} {g sb : Nat} {s : ByteArray} {p : PSt} {w : World} {x y : Value} {i j : Nat} (h : PAt T w g s p) (hne : sb ≠ g) : PAt T ((w.setCell ⟨sb, i, none⟩ x).setCell ⟨sb, j, none⟩ y) g s p := by
 unfold PAt
 rw [heap_setCell_other _ _ _ _ (fun e => hne e.symm), heap_setCell_other _ _ _ _ (fun e => hne e.symm)]
 exact h
theorem StB.put {lo g sb : Nat} {rule : Int} {ps wh : List Int} {vp vw : Value} {Fp Fw : Nat → Prop} {w : World} (h : StB lo g sb rule ps wh vp vw Fp Fw w) (r : Int) (l : List Int) (hl : l.length ≤ maxLen) (hb : ∀ n ∈ l, i64B n) (hlo : lo ≤ sb) (hg : g < w.heap.size) :
  StB lo g sb r ps l vp (.slice (some ⟨w.heap.size, 0, none⟩) l.length l.length) Fp (fun b => b = w.heap.size) (((w.setCell ⟨sb, 0, none⟩ (.int .i64 r)).setCell ⟨sb, 2, none⟩ (.slice (some ⟨w.heap.size, 0, none⟩) l.length l.length)).alloc (.cells (intW l).toArray 3)) := by
 have hk := blk_lt h.box
 have h2 := heap_setCell_same _ sb 0 _ 27 (.int .i64 r) h.box
 have h3 := heap_setCell_same _ sb 2 _ 27 (.slice (some ⟨w.heap.size, 0, none⟩) l.length l.length) h2
 refine ⟨(Below.heap_alloc _ _ sb (by simpa using hk)).trans (by simpa using h3), ?_, ?_, fun b e => ⟨(h.fp b e).1, by have := (h.fp b e).2.1; simp; omega, (h.fp b e).2.2.1, (h.fp b e).2.2.2.1, fun e' => by have := (h.fp b e).2.1; omega⟩, fun b e => ⟨by omega, by simp; omega, by omega, by omega⟩⟩
 ·exact h.ps.mono ((((SameOn.refl _ _).sc (fun b hb' e => (h.fp b hb').2.2.1 e) _).sc (fun b hb' e => (h.fp b hb').2.2.1 e) _).al (by simp) _) (fun _ h => h)
 ·have := intNew ((w.setCell ⟨sb, 0, none⟩ (.int .i64 r)).setCell ⟨sb, 2, none⟩ (.slice (some ⟨w.heap.size, 0, none⟩) l.length l.length)) l hl hb
  simpa using this
theorem iPos_pos (L : List UInt8) (p : PSt) (hp : p.pos ≤ L.length) : (iPos L p).2.pos ≤ L.length ∧ p.pos ≤ (iPos L p).2.pos := by
 have h : (iPlc L p).length ≤ (L.drop p.pos).length := (List.takeWhile_sublist _).length_le
 rw [List.length_drop] at h
 rw [iPos]; simp only; omega
theorem iPos_len (L : List UInt8) (p : PSt) : (iPos L p).1.length ≤ 8 ∧ ∀ n ∈ (iPos L p).1, 0 ≤ n ∧ n ≤ 3 := by
 rw [iPos]; simp only
 rw [rdPos]
 split
 ·simp
 ·split
  ·split
   ·rename_i hb
    refine ⟨?_, posB_dec hb⟩
    simp only [posB, Bool.and_eq_true, decide_eq_true_eq] at hb
    exact hb.1
   ·simp
  ·simp
theorem run_appI {P : Program} (w : World) (t ty e : TypeId) (bytes : Nat) (hE : Elem P t e 1 bytes) (base : Nat) (v : Value) (n : Nat) (xs : List Value) (hown : w.ownsRow base e 1 v n xs) (v2 : Value) {B : Nat → Prop} (us : List Int) (hsrc : IntsAt B w v2 us)
  (hbytes : (n + us.length) * bytes ≤ 140737488355328) (h63 : n + us.length ≤ maxLen) (hbase : base ≤ w.heap.size) :
  ∃ v' w', (Builtin.append_ #[t, t] ty #[v, v2]).run P w = .ok v' w' ∧ w'.ownsRow base e 1 v' (n + us.length) (xs ++ intW us) ∧ w.grownBy w' v.ownBlock ∧ NewRow v v' w.heap.size := by
 obtain ⟨p, c, rfl, -⟩ := hsrc.form
 cases p with
 | none =>
  have h0 : us = [] := by
   match us, hsrc with
   | [], _ => rfl
   | a :: us, hsrc => obtain ⟨b, o, hq, -⟩ := hsrc.at_ (i := 0) (by simp); cases hq
  subst h0
  exact ⟨v, w, run_app_nil w base t ty e 1 bytes hE v n xs hown c, by simpa [intW] using hown, ⟨rfl, rfl, rfl, Nat.le_refl _, fun _ _ _ => rfl⟩, .inl rfl⟩
 | some b =>
  have hE' := hE
  obtain ⟨ht, i, z, hi, hz, hsz, hby, hzs, hpos⟩ := hE'
  have hnews : ∀ j u, (intW us)[j]? = some u → w.cell? (b.add j) = some u := by
   intro j u hu
   rw [intW, List.getElem?_map] at hu
   obtain ⟨x, hx, rfl⟩ := Option.map_eq_some_iff.1 hu
   obtain ⟨hj, rfl⟩ := List.getElem?_eq_some_iff.1 hx
   obtain ⟨b', o', hq, -, hc, -⟩ := hsrc.at_ hj
   obtain rfl : b = ⟨b', o', none⟩ := Option.some.inj hq
   have : (⟨b', o', none⟩ : Addr).add j = ⟨b', o' + j, none⟩ := by unfold Addr.add; split <;> simp_all
   rw [this]; exact hc
  obtain ⟨v', w', hr, h2, h3, _, h5⟩ := run_append_own_at (P := P) w base t ty e i z 1 bytes ht hi hz hsz hby hzs hpos v n xs hown b us.length c (intW us) (by simp [intW]) hnews (fun u hu => by rw [intW, List.mem_map] at hu; obtain ⟨x, -, rfl⟩ := hu; rfl) h63 hbytes hbase
  exact ⟨v', w', hr, h2, h3, h5.imp id (fun h => ⟨_, h, Nat.le_refl _⟩)⟩
theorem wpList_appI {P : Program} {w : World} {ops : Array Oper} {rest : List Oper} {o : Oper} {a : Act} {Q : Exit → Act → World → Prop} (hgd : o.guard = none) (s x : Operand) (t : TypeId)
  (ho : o.op = .call { callee := .builtin .append, args := #[s, x], argTypes := #[t, t] }) (base : Nat) (e : TypeId) (bytes : Nat) (hE : Elem P t e 1 bytes)
  (v : Value) (n : Nat) (xs : List Value) (hs : a.eval s = v) (v2 : Value) {B : Nat → Prop} (us : List Int) (hx : a.eval x = v2) (hsrc : IntsAt B w v2 us)
  (hown : w.ownsRow base e 1 v n xs) (hbytes : (n + us.length) * bytes ≤ 140737488355328) (h63 : n + us.length ≤ maxLen) (hbase : base ≤ w.heap.size)
  (h : ∀ v' w', w'.ownsRow base e 1 v' (n + us.length) (xs ++ intW us) → w.grownBy w' v.ownBlock → NewRow v v' w.heap.size → wpList P ops Q rest (a.put o.dst v') w') : wpList P ops Q (o :: rest) a w := by
 obtain ⟨v', w', hr, h2, h3, h5⟩ := run_appI w t o.type e bytes hE base v n xs hown v2 us hsrc hbytes h63 hbase
 refine wpList_plain hgd fun _ hK => ?_
 unfold Oper.wp execOp
 simp only [ho, resolve, invoke, builtin, Sem.run_bind, Sem.run_pure, Result.andThen_ok, List.map_toArray, List.map_cons, List.map_nil, hs, hx, hr]
 exact hK _ _ (h v' w' h2 h3 h5)
theorem below_app {w w3 : World} {o : Obj} {n c : Nat} (hg : (w.alloc o).grownBy w3 (Value.slice (some ⟨w.heap.size, 0, none⟩) n c).ownBlock) : Below w.heap.size w w3 := by
 have hz := hg.size
 simp at hz
 exact ⟨hg.os, hg.tape, hg.output, by omega, fun k hk => (hg.block k (by simp; omega) (by simp [Value.ownBlock]; omega)).trans (Below.heap_alloc w _ k hk)⟩
theorem supRow {w w3 : World} (a sd b : Int) (l : List Int) {pv cv H : Nat} (h : w3.ownsRow 0 3 1 (.slice (some ⟨pv, 0, none⟩) (3 + l.length) cv) (3 + l.length) ([.int .i64 a, .int .i64 sd, .int .i64 b] ++ intW l)) (hn : NewRow (.slice (some ⟨w.heap.size, 0, none⟩) 3 3) (.slice (some ⟨pv, 0, none⟩) (3 + l.length) cv) H) (hH : w.heap.size ≤ H)
  (ha : i64B a) (hs : i64B sd) (hb : i64B b) (hl : l.length ≤ 8 ∧ ∀ n ∈ l, 0 ≤ n ∧ n ≤ 3) : IntOwn 3 (NewB w w3) w3 (a :: sd :: b :: l) (.slice (some ⟨pv, 0, none⟩) (3 + l.length) cv) := by
 have e : (a :: sd :: b :: l).length = 3 + l.length := by simp; omega
 refine rowI_own (base := 0) (by rw [e]; exact h) ?_ (by rw [e]; unfold maxLen; omega) ?_
 ·intro n hn
  simp only [List.mem_cons] at hn
  rcases hn with rfl | rfl | rfl | hn
  ·exact ha
  ·exact hs
  ·exact hb
  ·have := hl.2 n hn; exact ⟨by omega, by omega⟩
 ·intro g e'
  refine ⟨?_, own_lt' h e'⟩
  rcases hn with h1 | ⟨b3, h1, h2⟩
  ·rw [h1] at e'; simp [Value.ownBlock] at e'; omega
  ·rw [h1] at e'; injection e' with e'; omega
theorem StB.put3 {lo g sb : Nat} {rule : Int} {ps wh : List Int} {vp vw v1 : Value} {Fp Fw : Nat → Prop} {w w3 : World} (h : StB lo g sb rule ps wh vp vw Fp Fw w) (r : Int) (l : List Int) (hb : Below w.heap.size w w3) (hr : IntOwn 3 (NewB w w3) w3 l v1) (hlo : lo ≤ sb) (hg : g < w.heap.size) :
  StB lo g sb r ps l vp v1 Fp (NewB w w3) ((w3.setCell ⟨sb, 0, none⟩ (.int .i64 r)).setCell ⟨sb, 2, none⟩ v1) := by
 have hk := blk_lt h.box
 have hz := hb.size
 have h2 := heap_setCell_same _ sb 0 _ 27 (.int .i64 r) ((hb.block sb hk).trans h.box)
 have h3 := heap_setCell_same _ sb 2 _ 27 v1 h2
 refine ⟨by simpa using h3, ?_, ?_, fun b e => ⟨(h.fp b e).1, by have := (h.fp b e).2.1; simp; omega, (h.fp b e).2.2.1, (h.fp b e).2.2.2.1, fun e' => by have := (h.fp b e).2.1; have := e'.1; omega⟩, fun b e => ⟨by have := e.1; omega, by have := e.2; simp; omega, by have := e.1; omega, by have := e.1; omega⟩⟩
 ·exact (IntOwn.later hb h.ps).mono (((SameOn.refl _ _).sc (fun b hb' e => (h.fp b hb').2.2.1 e) _).sc (fun b hb' e => (h.fp b hb').2.2.1 e) _) (fun _ h => h)
 ·exact hr.mono (((SameOn.refl _ _).sc (fun b hb' e => by have := hb'.1; simp at e; omega) _).sc (fun b hb' e => by have := hb'.1; simp at e; omega) _) (fun _ h => h)
structure RdSt (lo g sb : Nat) (s : ByteArray) (X : Nat → Prop) (w : World) (rule : Int) (ps wh : List Int) (vp vw : Value) (Fp Fw : Nat → Prop) (p : PSt) (w1 : World) : Prop where
 rd : PAt 35 w1 g s p
 st : StB lo g sb rule ps wh vp vw Fp Fw w1
 ev : EnvP lo w1
 kp : Kp X w w1
 pos : p.pos ≤ s.size
theorem RdSt.step {lo g sb : Nat} {s : ByteArray} {X : Nat → Prop} {w : World} {rule : Int} {ps wh : List Int} {vp vw : Value} {Fp Fw : Nat → Prop} {p p' : PSt} {w1 w2 : World} (h : RdSt lo g sb s X w rule ps wh vp vw Fp Fw p w1) (hP : PAt 35 w2 g s p') (hg : w1.grownBy w2 (some g)) (hpos : p'.pos ≤ s.size) (hne : sb ≠ g) (hlo : lo ≤ g) (hX : X g) : RdSt lo g sb s X w rule ps wh vp vw Fp Fw p' w2 :=
 ⟨hP, h.st.gr hg hne, h.ev.gr hg hlo, h.kp.trans (Kp.of_gr hg) (fun b e => .inl (by injection e with e; subst e; exact hX)), hpos⟩
set_option maxHeartbeats 6400000 in
theorem binaryStep_any {lo : Nat} (g sb : Nat) (s : ByteArray) (p : PSt) (x : Int) (vp : Value) (Fp : Nat → Prop) (w : World) (h : PAt 35 w g s p) (hS : StB lo g sb 0 [x] [] vp (.slice none 0 0) Fp (fun _ => False) w) (hp : p.pos ≤ s.size) (hs : s.size ≤ 1000000) (hV : EnvP lo w) (hlo : lo ≤ g) (hls : lo ≤ sb) (hne : sb ≠ g) :
  Calls Tryz.prog 13 #[.pointer (some ⟨g, 0, none⟩), .pointer (some ⟨sb, 0, none⟩)] w fun e w' => e = .returned (.tuple #[]) ∧ ∃ vp' vw' Fp' Fw', StB lo g sb (iBin s.data.toList x p).1.rule (iBin s.data.toList x p).1.ps (iBin s.data.toList x p).1.wh vp' vw' Fp' Fw' w' ∧ PAt 35 w' g s (iBin s.data.toList x p).2 ∧ Kp (fun b => b = g ∨ b = sb ∨ Fp b) w w' := by
 have H := Lib.hid h
 have HS := Lib.hid hS
 have HV := Lib.hid hV
 have hg := bsz h.lt
 have hsb := bsz (blk_lt hS.box)
 obtain ⟨qp, cp, rfl, -⟩ := hS.ps.form
 have nb := iNum_bd s.data.toList p
 have npos := iNum_pos s.data.toList p (by rw [← size_list]; exact hp)
 rw [← size_list] at npos
 obtain ⟨a, ha⟩ : ∃ a, iNum s.data.toList p = a := ⟨_, rfl⟩
 have HA := Lib.hid ha
 rw [ha] at nb npos
 have HB := Lib.hid (show iBin s.data.toList x p = if pTake s.data.toList sResL a.2 then iRes s.data.toList x a.1 (pAdv sResL a.2) else iSup s.data.toList x a.1 a.2 by rw [iBin, ha])
 clear h hS hV ha
 have h4 : FourT [] 6 7 8 11 := ⟨⟨by decide, by decide⟩, fun _ _ => rfl⟩
 go_enter Tryz.func13, Tryz.ntmps13
 go_wp2_with fail
 refine wp_region_app 3 (RdG g s p) (RdG g s a.2) 1 #[.int .i64 0, .slice qp 1 cp, .slice none 0 0, .slice none 0 0] 27 (.slice qp 1 cp) [x] 6 7 8 11 a.1 a.1 [] [some (.pointer (some ⟨sb, 0, none⟩)), some (.pointer (some ⟨sb, 0, none⟩)), some (.pointer (some ⟨sb, 0, none⟩)), some (.pointer (some ⟨sb, 1, none⟩)), some (.slice qp 1 cp), some (.pointer (some ⟨g, 0, none⟩)), none, none, none, some (.pointer (some ⟨sb, 0, none⟩)), some (.pointer (some ⟨sb, 1, none⟩)), none] (by kernel_rfl) (by kernel_rfl) (by simp) HS.out.ps (fun b e => ⟨(HS.out.fp b e).2.1, (HS.out.fp b e).2.2.1, (HS.out.fp b e).2.2.2.1⟩) HS.out.box ⟨H.out, rfl⟩ H.out.lt hne ?_
 go_simp
 iterate 4
  refine flowV_st rfl rfl (by
   intro u' L w' hun hbe hD
   go_simp
   first | exact ⟨hD.other rfl hbe hun (by rfl) (by rfl), rfl⟩ | exact hD.other rfl hbe hun (by rfl) (by rfl)) ?_
  go_simp
 refine flowV_st rfl rfl (by
  intro u' L w' hun hbe hD
  have hbx := AiD.bx hD (by simp) hun (by kernel_rfl)
  obtain ⟨c0, c1, c2, cf⟩ := StB.cells hbx
  have zk := bsz (blk_lt hbx)
  clear hbx
  go_simp
  first | exact ⟨hD.other rfl hbe hun (by rfl) (by rfl), rfl⟩ | exact hD.other rfl hbe hun (by rfl) (by rfl)) ?_
 go_simp
 refine flowV_st rfl rfl (by
  intro u' L w' hun hbe hD
  go_simp
  first | exact ⟨hD.other rfl hbe hun (by rfl) (by rfl), rfl⟩ | exact hD.other rfl hbe hun (by rfl) (by rfl)) ?_
 go_simp
 refine flowV_ch rfl rfl (by
  intro u' hu' L w' hun hbe hD
  obtain ⟨F, ⟨hP, hFg⟩, hF, hcall⟩ := AiD.call hD (RdG.stab _ _ _) (RdG.stab _ _ _) h4 (by kernel_rfl) rfl hbe hun
  have hE := HV.out.kp hD.bw (fun b e => e.elim (fun e => by omega) (fun e => e.elim (fun e => by omega) (fun e => (HS.out.fp b e).1)))
  go_simp
  refine (number_any g s p w' hP hp (by omega) hE hlo).mono ?_
  rw [HA.out]
  rintro e w'' ⟨v, rfl, rfl, hP2, hg2⟩
  exact ⟨_, rfl, hcall w'' F ((Kp.of_gr hg2).mono (fun b e => by injection e with e; subst e; exact .inl hFg)) (fun b e => .inl e) (fun b e => Nat.lt_of_lt_of_le (hF b e).2 hg2.size) ⟨hP2, hFg⟩⟩) ?_
 intro x6
 go_simp
 refine flowV_ch rfl rfl (by
  intro u' hu' L w' hun hbe hD
  have d := after_behind hbe (p := 6) (by kernel_rfl)
  have e6 : u' 6 = x6 := (after_eq hu' (p := 6) (by kernel_rfl)).trans (by simp [upd])
  have hv := AiD.val hD h4 d
  have hst := AiD.build hD (RdG.stab _ _ _) (RdG.stab _ _ _) h4 (by kernel_rfl) rfl hbe hun
  obtain rfl : x6 = .int .i64 a.1 := e6.symm.trans hv
  first | (go_simp; done) | (go_simp; exact hst)) ?_
 intro x7
 go_simp
 refine flowV_ch rfl rfl (by
  intro u' hu' L w' hun hbe hD
  have e7 : u' 7 = x7 := (after_eq hu' (p := 7) (by kernel_rfl)).trans (by simp [upd])
  exact AiD.app hD (RdG.stab _ _ _) (RdG.stab _ _ _) ⟨by omega, by omega⟩ h4 (by kernel_rfl) rfl hbe hun _ _ _ rfl 8 elemIntE rfl e7.symm (by simp) (by simp [maxLen])) ?_
 intro x8
 go_simp
 iterate 2
  refine flowV_st rfl rfl (by
   intro u' L w' hun hbe hD
   go_simp
   first | exact ⟨hD.other rfl hbe hun (by rfl) (by rfl), rfl⟩ | exact hD.other rfl hbe hun (by rfl) (by rfl)) ?_
  go_simp
 refine flowV_ch rfl rfl (by
  intro u' hu' L w' hun hbe hD
  have e8 : u' 8 = x8 := (after_eq hu' (p := 8) (by kernel_rfl)).trans (by simp [upd])
  obtain ⟨hbx, ⟨p8, c8, h8⟩, hst⟩ := AiD.put hD (RdG.stab _ _ _) (RdG.stab _ _ _) h4 (by kernel_rfl) rfl hbe hun
  have hst := hst undef
  rw [h8] at hst
  obtain rfl : x8 = _ := e8.symm.trans h8
  simp only [List.length_cons, List.length_nil] at hst ⊢
  obtain ⟨c0, c1, c2, cf⟩ := StB.cells hbx
  have zk := bsz (blk_lt hbx)
  clear hbx
  first | (go_simp; done) | (go_simp; exact hst)) ?_
 intro x11
 refine flowV_nil ?_
 intro L w1 hL hD
 obtain ⟨hk1, F, ⟨hP1, hFg⟩, hF, F1, hrow, hbx, hF1⟩ := AiD.end (N := 12) hD h4 rfl (fun i hi => by simpa using hL i (by simpa using hi))
 rw [show upd (upd (upd (upd (fun _ => undef) 6 x6) 7 x7) 8 x8) 11 x11 8 = x8 by simp [upd]] at hrow hbx
 have hz1 := hk1.size
 have HB1 := Lib.hid (show RdSt lo g sb s (fun b => b = g ∨ b = sb ∨ Fp b) w 0 [x, a.1] [] x8 (.slice none 0 0) F1 (fun _ => False) a.2 w1 from
  ⟨hP1, ⟨by simpa using hbx, hrow, OwnRow.nil _ _ _ _ _, fun b e => ⟨(hF1 b e).1.elim (fun e => e.elim (fun e => by omega) (fun e => e.elim (fun e => by omega) (fun e => (HS.out.fp b e).1))) (fun e => by omega), (hF1 b e).2.1, (hF1 b e).2.2.1, fun e' => (hF1 b e).2.2.2 (e' ▸ hFg), fun h => h⟩, fun b e => e.elim⟩,
   HV.out.kp hk1 (fun b e => e.elim (fun e => by omega) (fun e => e.elim (fun e => by omega) (fun e => (HS.out.fp b e).1))), hk1, npos.1⟩)
 clear hL hD hk1 hP1 hFg hF hrow hbx hF1
 go_wp2_with fail
 refine (take_any g s (⟨sResL.toArray⟩ : ByteArray) a.2 w1 HB1.out.rd npos.1 (by omega) (by decide)).mono ?_
 rintro e w2 ⟨v, rfl, rfl, hP2, hg2⟩
 cases hT : pTake s.data.toList sResL a.2
 ·have HT := Lib.hid (show iBin s.data.toList x p = iSup s.data.toList x a.1 a.2 by rw [HB.out, if_neg (by rw [hT]; simp)])
  rw [show (⟨sResL.toArray⟩ : ByteArray).data.toList = sResL from rfl, hT, if_neg (by simp)] at hP2
  have HB2 := Lib.hid (HB1.out.step hP2 hg2 npos.1 hne hlo (.inl rfl))
  clear hP2 hg2 hT
  obtain ⟨p3, hp3⟩ : ∃ p3, pMust s.data.toList sRepl a.2 = p3 := ⟨_, rfl⟩
  have HP3 := Lib.hid hp3
  go_wp2_with fail
  refine (must_any g s (⟨(sRepl).toArray⟩ : ByteArray) a.2 _ HB2.out.rd HB2.out.pos (by omega) (by decide)).mono ?_
  rw [show (⟨(sRepl).toArray⟩ : ByteArray).data.toList = sRepl from rfl, hp3]
  rintro e wmp3 ⟨v, rfl, rfl, hPn, hgn⟩
  have HB3 := Lib.hid (HB2.out.step hPn hgn (by have := pMust_pos s.data.toList sRepl a.2 (by rw [← size_list]; exact HB2.out.pos); rw [hp3, ← size_list] at this; exact this.2) hne hlo (.inl rfl))
  have HGp3 := Lib.hid hgn
  clear hPn hgn hp3
  obtain ⟨b, hb⟩ : ∃ b, iNum s.data.toList p3 = b := ⟨_, rfl⟩
  have HBN := Lib.hid hb
  go_wp2_with fail
  refine (number_any g s p3 _ HB3.out.rd HB3.out.pos (by omega) HB3.out.ev hlo).mono ?_
  rw [hb]
  rintro e wnb ⟨v, rfl, rfl, hPn, hgn⟩
  have HB4 := Lib.hid (HB3.out.step hPn hgn (by have := iNum_pos s.data.toList p3 (by rw [← size_list]; exact HB3.out.pos); rw [hb, ← size_list] at this; exact this.1) hne hlo (.inl rfl))
  have nbb := iNum_bd s.data.toList p3
  rw [hb] at nbb
  have HGb := Lib.hid hgn
  clear hPn hgn hb
  obtain ⟨p5, hp5⟩ : ∃ p5, pMust s.data.toList sAt b.2 = p5 := ⟨_, rfl⟩
  have HP5 := Lib.hid hp5
  go_wp2_with fail
  refine (must_any g s (⟨(sAt).toArray⟩ : ByteArray) b.2 _ HB4.out.rd HB4.out.pos (by omega) (by decide)).mono ?_
  rw [show (⟨(sAt).toArray⟩ : ByteArray).data.toList = sAt from rfl, hp5]
  rintro e wmp5 ⟨v, rfl, rfl, hPn, hgn⟩
  have HB5 := Lib.hid (HB4.out.step hPn hgn (by have := pMust_pos s.data.toList sAt b.2 (by rw [← size_list]; exact HB4.out.pos); rw [hp5, ← size_list] at this; exact this.2) hne hlo (.inl rfl))
  have HGp5 := Lib.hid hgn
  clear hPn hgn hp5
  obtain ⟨q, hq⟩ : ∃ q, iPos s.data.toList p5 = q := ⟨_, rfl⟩
  have HQ := Lib.hid hq
  have hql := iPos_len s.data.toList p5
  have hqp := iPos_pos s.data.toList p5 (by rw [← size_list]; exact HB5.out.pos)
  rw [hq] at hql hqp
  rw [← size_list] at hqp
  have zg5 := HB5.out.rd.lt
  go_wp2_with fail
  refine (position_any g s p5 _ HB5.out.rd HB5.out.pos hs HB5.out.ev hlo).mono ?_
  rw [hq]
  rintro e wq ⟨vq, rfl, hvq, hPn, hgn⟩
  obtain ⟨pq, cq, rfl, -⟩ := hvq.form
  have HVQ := Lib.hid hvq
  have HB6 := Lib.hid (HB5.out.step hPn hgn hqp.1 hne hlo (.inl rfl))
  clear hvq hPn hgn hq
  obtain ⟨p7, hp7⟩ : ∃ p7, pMust s.data.toList sWithL q.2 = p7 := ⟨_, rfl⟩
  have HP7 := Lib.hid hp7
  go_wp2_with fail
  refine (must_any g s (⟨(sWithL).toArray⟩ : ByteArray) q.2 _ HB6.out.rd HB6.out.pos (by omega) (by decide)).mono ?_
  rw [show (⟨(sWithL).toArray⟩ : ByteArray).data.toList = sWithL from rfl, hp7]
  rintro e wmp7 ⟨v, rfl, rfl, hPn, hgn⟩
  have HB7 := Lib.hid (HB6.out.step hPn hgn (by have := pMust_pos s.data.toList sWithL q.2 (by rw [← size_list]; exact HB6.out.pos); rw [hp7, ← size_list] at this; exact this.2) hne hlo (.inl rfl))
  have HGp7 := Lib.hid hgn
  clear hPn hgn hp7
  obtain ⟨c, hc⟩ : ∃ c, iNum s.data.toList p7 = c := ⟨_, rfl⟩
  have HCN := Lib.hid hc
  go_wp2_with fail
  refine (number_any g s p7 _ HB7.out.rd HB7.out.pos (by omega) HB7.out.ev hlo).mono ?_
  rw [hc]
  rintro e wnc ⟨v, rfl, rfl, hPn, hgn⟩
  have HB8 := Lib.hid (HB7.out.step hPn hgn (by have := iNum_pos s.data.toList p7 (by rw [← size_list]; exact HB7.out.pos); rw [hc, ← size_list] at this; exact this.1) hne hlo (.inl rfl))
  have nbc := iNum_bd s.data.toList p7
  rw [hc] at nbc
  have HGc := Lib.hid hgn
  clear hPn hgn hc
  obtain ⟨p9, hp9⟩ : ∃ p9, pMust s.data.toList sRead c.2 = p9 := ⟨_, rfl⟩
  have HP9 := Lib.hid hp9
  go_wp2_with fail
  refine (must_any g s (⟨(sRead).toArray⟩ : ByteArray) c.2 _ HB8.out.rd HB8.out.pos (by omega) (by decide)).mono ?_
  rw [show (⟨(sRead).toArray⟩ : ByteArray).data.toList = sRead from rfl, hp9]
  rintro e wmp9 ⟨v, rfl, rfl, hPn, hgn⟩
  have HB9 := Lib.hid (HB8.out.step hPn hgn (by have := pMust_pos s.data.toList sRead c.2 (by rw [← size_list]; exact HB8.out.pos); rw [hp9, ← size_list] at this; exact this.2) hne hlo (.inl rfl))
  have HGp9 := Lib.hid hgn
  clear hPn hgn hp9
  have hgq9 := gr_trans (gr_trans HGp7.out HGc.out) HGp9.out
  have HQ9 := Lib.hid (show IntsAt (NewB wmp5 wq) wmp9 (.slice pq q.1.length cq) q.1 from HVQ.out.at_.mono (fun b hb hl => hgq9.block b hl (by have := hb.1; simp; omega)) (fun _ h => h))
  go_wp2_with fail
  refine (take_any g s (⟨sLeft.toArray⟩ : ByteArray) p9 wmp9 HB9.out.rd HB9.out.pos (by omega) (by decide)).mono ?_
  rintro e wt ⟨v, rfl, rfl, hPt, hgt⟩
  have HQt := Lib.hid (show IntsAt (NewB wmp5 wq) wt (.slice pq q.1.length cq) q.1 from HQ9.out.mono (fun b hb hl => hgt.block b hl (by have := hb.1; simp; omega)) (fun _ h => h))
  cases hT2 : pTake s.data.toList sLeft p9
  ·have HT2 := Lib.hid hT2
   rw [show (⟨sLeft.toArray⟩ : ByteArray).data.toList = sLeft from rfl, hT2, if_neg (by simp)] at hPt
   have HBs := Lib.hid (HB9.out.step hPt hgt HB9.out.pos hne hlo (.inl rfl))
   clear hPt hT2
   obtain ⟨p10, hp10⟩ : ∃ p10, pMust s.data.toList sRight p9 = p10 := ⟨_, rfl⟩
   have HP10 := Lib.hid hp10
   go_wp2_with fail
   refine (must_any g s (⟨(sRight).toArray⟩ : ByteArray) p9 _ HBs.out.rd HBs.out.pos (by omega) (by decide)).mono ?_
   rw [show (⟨(sRight).toArray⟩ : ByteArray).data.toList = sRight from rfl, hp10]
   rintro e wmp10 ⟨v, rfl, rfl, hPn, hgn⟩
   have HBu := Lib.hid (HBs.out.step hPn hgn (by have := pMust_pos s.data.toList sRight p9 (by rw [← size_list]; exact HBs.out.pos); rw [hp10, ← size_list] at this; exact this.2) hne hlo (.inl rfl))
   have HGp10 := Lib.hid hgn
   clear hPn hgn hp10
   have HRS := Lib.hid (show iBin s.data.toList x p = (⟨4, [x, a.1], c.1 :: 1 :: b.1 :: q.1, []⟩, p10) by rw [HT.out]; simp only [iSup, HP3.out, HBN.out, HP5.out, HQ.out, HP7.out, HCN.out, HP9.out, HT2.out, HP10.out, Bool.false_eq_true, if_false])
   have HQu := Lib.hid (show IntsAt (NewB wmp5 wq) wmp10 (.slice pq q.1.length cq) q.1 from HQt.out.mono (fun b hb hl => HGp10.out.block b hl (by have := hb.1; simp; omega)) (fun _ h => h))
   obtain ⟨c0, c1, c2, cf⟩ := StB.cells HBu.out.st.box
   have zk := bsz (blk_lt HBu.out.st.box)
   have zg := HBu.out.rd.lt
   have hrow := row_new wmp10 3 1 3 #[.int .i64 c.1, .int .i64 1, .int .i64 b.1] rfl (by simp [maxLen])
   have HQa := Lib.hid (show IntsAt (NewB wmp5 wq) (wmp10.alloc (.cells #[.int .i64 c.1, .int .i64 1, .int .i64 b.1] 3)) (.slice pq q.1.length cq) q.1 from HQu.out.below ((Below.refl _ _).alloc (Nat.le_refl _) _))
   have HRW := Lib.hid hrow
   clear hrow
   go_wp2_with (at_builtin; refine wpList_appI rfl (.tmp 60) (.tmp 61) _ rfl 0 3 8 elemIntE _ 3 [.int .i64 c.1, .int .i64 1, .int .i64 b.1] rfl _ q.1 rfl HQa.out HRW.out (by omega) (by unfold maxLen; omega) (Nat.zero_le _) ?_; intro v1 w3 hown1 hg1 hnr1; have hb3 := below_app hg1; obtain ⟨pv, cv, rfl⟩ := own_form hown1 (by omega); obtain ⟨d0, d1, d2, df⟩ := StB.cells ((hb3.block _ (blk_lt HBu.out.st.box)).trans HBu.out.st.box); have zk3 := bsz (Nat.lt_of_lt_of_le (blk_lt HBu.out.st.box) hb3.size))
   go_end0
   rw [HRS.out]
   have hro := supRow (w := wmp10) c.1 1 b.1 q.1 hown1 hnr1 (by simp) ⟨by omega, by omega⟩ ⟨by omega, by omega⟩ ⟨by omega, by omega⟩ hql
   exact ⟨rfl, _, _, _, _, HBu.out.st.put3 4 _ hb3 hro hls zg, ((HBu.out.rd.below hb3).outs2 hne), ((HBu.out.kp.be hb3).sc (.inl (.inr (.inl rfl))) _).sc (.inl (.inr (.inl rfl))) _⟩
  ·have HRS := Lib.hid (show iBin s.data.toList x p = (⟨4, [x, a.1], c.1 :: 0 :: b.1 :: q.1, []⟩, pAdv sLeft p9) by rw [HT.out]; simp only [iSup, HP3.out, HBN.out, HP5.out, HQ.out, HP7.out, HCN.out, HP9.out, hT2, if_true])
   rw [show (⟨sLeft.toArray⟩ : ByteArray).data.toList = sLeft from rfl, hT2, if_pos rfl] at hPt
   have hpt := pTake_le hT2 (by rw [← size_list]; exact HB9.out.pos)
   have HBt := Lib.hid (HB9.out.step hPt hgt (by rw [size_list]; exact hpt) hne hlo (.inl rfl))
   clear hPt hT2
   obtain ⟨c0, c1, c2, cf⟩ := StB.cells HBt.out.st.box
   have zk := bsz (blk_lt HBt.out.st.box)
   have zg := HBt.out.rd.lt
   have hrow := row_new wt 3 1 3 #[.int .i64 c.1, .int .i64 0, .int .i64 b.1] rfl (by simp [maxLen])
   have HQa := Lib.hid (show IntsAt (NewB wmp5 wq) (wt.alloc (.cells #[.int .i64 c.1, .int .i64 0, .int .i64 b.1] 3)) (.slice pq q.1.length cq) q.1 from HQt.out.below ((Below.refl _ _).alloc (Nat.le_refl _) _))
   have HRW := Lib.hid hrow
   clear hrow
   go_wp2_with (at_builtin; refine wpList_appI rfl (.tmp 60) (.tmp 61) _ rfl 0 3 8 elemIntE _ 3 [.int .i64 c.1, .int .i64 0, .int .i64 b.1] rfl _ q.1 rfl HQa.out HRW.out (by omega) (by unfold maxLen; omega) (Nat.zero_le _) ?_; intro v1 w3 hown1 hg1 hnr1; have hb3 := below_app hg1; obtain ⟨pv, cv, rfl⟩ := own_form hown1 (by omega); obtain ⟨d0, d1, d2, df⟩ := StB.cells ((hb3.block _ (blk_lt HBt.out.st.box)).trans HBt.out.st.box); have zk3 := bsz (Nat.lt_of_lt_of_le (blk_lt HBt.out.st.box) hb3.size))
   go_end0
   rw [HRS.out]
   have hro := supRow (w := wt) c.1 0 b.1 q.1 hown1 hnr1 (by simp) ⟨by omega, by omega⟩ ⟨by omega, by omega⟩ ⟨by omega, by omega⟩ hql
   exact ⟨rfl, _, _, _, _, HBt.out.st.put3 4 _ hb3 hro hls zg, ((HBt.out.rd.below hb3).outs2 hne), ((HBt.out.kp.be hb3).sc (.inl (.inr (.inl rfl))) _).sc (.inl (.inr (.inl rfl))) _⟩
 ·have HT := Lib.hid (show iBin s.data.toList x p = iRes s.data.toList x a.1 (pAdv sResL a.2) by rw [HB.out, if_pos hT])
  rw [show (⟨sResL.toArray⟩ : ByteArray).data.toList = sResL from rfl, hT, if_pos rfl] at hP2
  have hpt := pTake_le hT (by rw [← size_list]; exact npos.1)
  obtain ⟨p2, hp2⟩ : ∃ p2, pAdv sResL a.2 = p2 := ⟨_, rfl⟩
  rw [hp2] at hP2 HT
  have HB2 := Lib.hid (HB1.out.step hP2 hg2 (by rw [← hp2, size_list]; exact hpt) hne hlo (.inl rfl))
  clear hP2 hg2 hT hp2
  obtain ⟨b, hb⟩ : ∃ b, iNum s.data.toList p2 = b := ⟨_, rfl⟩
  have HBN := Lib.hid hb
  go_wp2_with fail
  refine (number_any g s p2 _ HB2.out.rd HB2.out.pos (by omega) HB2.out.ev hlo).mono ?_
  rw [hb]
  rintro e wnb ⟨v, rfl, rfl, hPn, hgn⟩
  have HB3 := Lib.hid (HB2.out.step hPn hgn (by have := iNum_pos s.data.toList p2 (by rw [← size_list]; exact HB2.out.pos); rw [hb, ← size_list] at this; exact this.1) hne hlo (.inl rfl))
  have nbb := iNum_bd s.data.toList p2
  rw [hb] at nbb
  have HGb := Lib.hid hgn
  clear hPn hgn hb
  obtain ⟨p4, hp4⟩ : ∃ p4, pMust s.data.toList sWithL b.2 = p4 := ⟨_, rfl⟩
  have HP4 := Lib.hid hp4
  go_wp2_with fail
  refine (must_any g s (⟨(sWithL).toArray⟩ : ByteArray) b.2 _ HB3.out.rd HB3.out.pos (by omega) (by decide)).mono ?_
  rw [show (⟨(sWithL).toArray⟩ : ByteArray).data.toList = sWithL from rfl, hp4]
  rintro e wmp4 ⟨v, rfl, rfl, hPn, hgn⟩
  have HB4 := Lib.hid (HB3.out.step hPn hgn (by have := pMust_pos s.data.toList sWithL b.2 (by rw [← size_list]; exact HB3.out.pos); rw [hp4, ← size_list] at this; exact this.2) hne hlo (.inl rfl))
  have HGp4 := Lib.hid hgn
  clear hPn hgn hp4
  obtain ⟨c, hc⟩ : ∃ c, iNum s.data.toList p4 = c := ⟨_, rfl⟩
  have HCN := Lib.hid hc
  go_wp2_with fail
  refine (number_any g s p4 _ HB4.out.rd HB4.out.pos (by omega) HB4.out.ev hlo).mono ?_
  rw [hc]
  rintro e wnc ⟨v, rfl, rfl, hPn, hgn⟩
  have HB5 := Lib.hid (HB4.out.step hPn hgn (by have := iNum_pos s.data.toList p4 (by rw [← size_list]; exact HB4.out.pos); rw [hc, ← size_list] at this; exact this.1) hne hlo (.inl rfl))
  have nbc := iNum_bd s.data.toList p4
  rw [hc] at nbc
  have HGc := Lib.hid hgn
  clear hPn hgn hc
  have HRS := Lib.hid (show iBin s.data.toList x p = (⟨2, [x, a.1], [b.1, c.1], []⟩, c.2) by rw [HT.out]; simp only [iRes, HBN.out, HP4.out, HCN.out])
  obtain ⟨c0, c1, c2, cf⟩ := StB.cells HB5.out.st.box
  have zk := bsz (blk_lt HB5.out.st.box)
  have zg := HB5.out.rd.lt
  go_wp2
  refine bodyPost_ret (results_none rfl _ _ _) rfl ?_
  rw [HRS.out]
  exact ⟨rfl, _, _, _, _, HB5.out.st.put 2 [b.1, c.1] (by simp [maxLen]) (by intro n hn; simp only [List.mem_cons, List.not_mem_nil, or_false] at hn; rcases hn with rfl | rfl <;> exact ⟨by omega, by omega⟩) hls zg, HB5.out.rd.outs hne, ((HB5.out.kp.sc (.inl (.inr (.inl rfl))) _).sc (.inl (.inr (.inl rfl))) _).alloc _⟩
end Go.Proofs.YtabkdonplmlbcaaGreatDoor
