import Derived.Test.YtabkdonplmlbcaaGreatDoorStPart29
namespace Go.Proofs.YtabkdonplmlbcaaGreatDoor
set_option maxRecDepth 100000
open Go.RowKit
theorem OwnRow.pair {α : Type} {S : Nat → Prop} {w : World} {e : TypeId} {size : Nat} {R : (Nat → Prop) → α → List Value → Prop} {v : Value} {x y : α} (_hz : 0 < size) (h : OwnRow S w e size R v [x, y]) :
  ∃ (g cap : Nat) (cs ds : List Value) (Sx Sy : Nat → Prop), v = .slice (some ⟨g, 0, none⟩) 2 cap ∧ g < w.heap.size ∧ S g ∧ cs.length = size ∧ ds.length = size ∧ (∀ j, j < size → w.cell? ⟨g, j, none⟩ = cs[j]?) ∧ (∀ j, j < size → w.cell? ⟨g, size + j, none⟩ = ds[j]?) ∧ R Sx x cs ∧ R Sy y ds ∧ (∀ b, Sx b → S b ∧ ¬ Sy b) ∧ ∀ b, Sy b → S b := by
 obtain ⟨_, vals, Ss, h1, h2, h3, h4⟩ := h
 rcases h1.2 with ⟨_, h0⟩ | ⟨g, cap, cur, rfl, _, hh, _⟩
 ·simp at h0
 ·have hl : vals.length = 2 * size := h1.1
  have g0 := h3 0 x rfl
  have g1 := h3 1 y rfl
  refine ⟨g, cap, (vals.drop (0 * size)).take size, (vals.drop (1 * size)).take size, Ss 0, Ss 1, rfl, blk_lt hh, h2 g rfl, by simp; omega, by simp; omega, fun j hj => ?_, fun j hj => ?_, g0.1, g1.1, fun b hb => ⟨(g0.2 b hb).1, h4 0 1 b (by simp) (by simp) (by omega) hb⟩, fun b hb => (g1.2 b hb).1⟩
  ·rw [h1.cellAt j (by simp; omega), List.getElem?_take, if_pos hj, List.getElem?_drop]; simp
  ·rw [h1.cellAt (size + j) (by simp; omega), List.getElem?_take, if_pos hj, List.getElem?_drop]; simp
theorem own_in {α : Type} {S : Nat → Prop} {w : World} {e : TypeId} {size : Nat} {R : (Nat → Prop) → α → List Value → Prop} {v : Value} {xs : List α} (h : OwnRow S w e size R v xs) : ∀ g, v.ownBlock = some g → S g ∧ g < w.heap.size := by
 obtain ⟨_, vals, Ss, h1, h2, _⟩ := h
 exact fun g hg => ⟨h2 g hg, own_lt' h1 hg⟩
theorem frozen_blk {w w' : World} {p : Addr} (h : w'.heap[p.block]? = w.heap[p.block]?) : w'.frozen? p = w.frozen? p := by unfold World.frozen?; rw [h]
def lenAt (w : World) (g : Nat) : Nat := match w.cell? ⟨g, 0, none⟩ with | some (.slice _ n _) => n | _ => 0
def okC : Option (List Lit3) → Bool | some c => Cls.good c | none => false
theorem litOf_wt {f : Fm} (h : f.form = true) : (litOf f).1.a.wt ≤ f.wt := by
 by_cases h4 : f.op = 4
 ·obtain ⟨g, rfl, -⟩ := form_neg h h4
  obtain ⟨op, a, v, ps⟩ := g
  show a.wt ≤ _
  simp [opF, Fm.wt, Fm.wts]; omega
 ·rw [litOf, if_neg h4]
  obtain ⟨op, a, v, ps⟩ := f
  show a.wt ≤ _
  simp [Fm.wt]; omega
theorem Cls.wts_snoc (c : List Lit3) (l : Lit3) : Cls.wts (c ++ [l]) = Cls.wts c + l.a.wt := by
 induction c with
 | nil => simp [Cls.wts]
 | cons a c ih => rw [List.cons_append, Cls.wts, Cls.wts, ih]; omega
theorem elemLitI : Elem Tryz.prog 23 81 3 48 := elem_of Tryz.underlying23 (z := .agg #[.bool false, .string ⟨#[]⟩, .slice none 0 0]) (by kernel_rfl) rfl (by omega)
structure ClSt (m : Nat) (SF : Nat → Prop) (w : World) (F : Fm) (n : Nat) (f : Fm) (done : List Lit3) (u0 u1 u2 u3 u4 v : Value) (C T : Nat → Prop) (wr : World) : Prop where
 fbox : wr.heap[w.heap.size]? = some (.cells #[u0, u1, u2, u3, u4] 67 (0, 0))
 rbox : wr.heap[w.heap.size + 1]? = some (.cells #[.slice none 0 0] 25 (0, 0))
 cbox : wr.heap[w.heap.size + 2]? = some (.cells #[v] 25 (0, 0))
 fm : FmOwn 64 67 (m + 2) T wr f [u0, u1, u2, u3, u4]
 form : f.form = true
 row : ClsOwn 64 81 (m + 2) (fun b => C b ∨ (w.heap.size + 2 < b ∧ b < wr.heap.size)) wr done v
 cs : ∀ b, C b → SF b ∧ ¬ T b
 ts : ∀ b, T b → SF b
 found : clsOf (F.sz + 1) F = (clsOf n f).map (done ++ ·)
 fuel : f.sz < n
 len : 2 * done.length + f.wt ≤ F.wt
 wts : Cls.wts done + f.wt ≤ F.wt
 vnew : ∀ b, v.ownBlock = some b → w.heap.size + 2 < b
 bel : Below w.heap.size w wr
def ClRelI (m : Nat) (SF : Nat → Prop) (w : World) (F : Fm) (wr : World) : Prop := ∃ n f done u0 u1 u2 u3 u4 v C T, ClSt m SF w F n f done u0 u1 u2 u3 u4 v C T wr
structure ClAp (m : Nat) (w wr : World) (done : List Lit3) (u0 u1 u2 u3 u4 v' : Value) (C' : Nat → Prop) (W5 : World) : Prop where
 fbox : W5.heap[w.heap.size]? = some (.cells #[u0, u1, u2, u3, u4] 67 (0, 0))
 rbox : W5.heap[w.heap.size + 1]? = some (.cells #[.slice none 0 0] 25 (0, 0))
 cbox : W5.heap[w.heap.size + 2]? = some (.cells #[v'] 25 (0, 0))
 row : ClsOwn 64 81 (m + 2) (fun b => C' b ∨ (w.heap.size + 2 < b ∧ b < W5.heap.size)) W5 done v'
 vnew : ∀ b, v'.ownBlock = some b → w.heap.size + 2 < b
 old : ∀ b, b < w.heap.size → W5.heap[b]? = wr.heap[b]?
 size : wr.heap.size ≤ W5.heap.size
 bel : Below w.heap.size w W5
theorem ClSt.app {m n : Nat} {SF C T Sx : Nat → Prop} {w wr w2 w4 : World} {F f : Fm} {done : List Lit3} {u0 u1 u2 u3 u4 v v' t0 t1 : Value} {l : Lit3} {o : Obj} {vals : List Value} (h : ClSt m SF w F n f done u0 u1 u2 u3 u4 v C T wr) (hSF : ∀ b, SF b → b < w.heap.size)
  (hb : Below wr.heap.size wr w2) (hT : TmOwn 64 (m + 1) Sx w2 l.a [t0, t1]) (hSx : ∀ b, Sx b → T b) (hlen : done.length + 1 ≤ 1048576)
  (hv : (w2.alloc o).ownsRow 0 81 3 v done.length vals) (happ : w4.ownsRow 0 81 3 v' (done.length + 1) (vals ++ [.bool l.pos, t0, t1])) (hg : (w2.alloc o).grownBy w4 v.ownBlock) (hnr : NewRow v v' (w2.alloc o).heap.size) :
  ClAp m w wr (done ++ [l]) u0 u1 u2 u3 u4 v' (fun b => C b ∨ Sx b) (w4.setCell ⟨w.heap.size + 2, 0, none⟩ v') := by
 have hz := hb.size
 have hz4 := hg.size
 simp at hz4
 have hbel := h.bel.size
 have hfl := blk_lt h.fbox
 have hrl := blk_lt h.rbox
 have hcl := blk_lt h.cbox
 have hvl := own_in h.row
 have nob : ∀ b, b ≤ w.heap.size + 2 → v.ownBlock ≠ some b := fun b hb e => by have := h.vnew b e; omega
 have hnew : ∀ b, v'.ownBlock = some b → w.heap.size + 2 < b := fun b hb => by
  rcases hnr with e | ⟨b', e, hge⟩
  ·rw [e] at hb; exact h.vnew b hb
  ·rw [e] at hb; injection hb with hb; subst hb; simp at hge; omega
 have st : ∀ b, b < wr.heap.size → v.ownBlock ≠ some b → b ≠ w.heap.size + 2 → (w4.setCell ⟨w.heap.size + 2, 0, none⟩ v').heap[b]? = wr.heap[b]? := fun b hlt hne hc =>
  (heap_setCell_other w4 ⟨w.heap.size + 2, 0, none⟩ b v' hc).trans ((hg.block b (by simp; omega) (fun e => hne e.symm)).trans ((hao w2 _ _ (by omega)).trans (hb.block b hlt)))
 have hc4 : w4.heap[w.heap.size + 2]? = some (.cells #[v] 25 (0, 0)) := (hg.block _ (by simp; omega) (fun e => nob _ (Nat.le_refl _) e.symm)).trans ((hao w2 _ _ (by omega)).trans ((hb.block _ hcl).trans h.cbox))
 have hold : ∀ b, b < w.heap.size → (w4.setCell ⟨w.heap.size + 2, 0, none⟩ v').heap[b]? = wr.heap[b]? := fun b hlt => st b (by omega) (nob b (by omega)) (by omega)
 refine ⟨(st _ hfl (nob _ (by omega)) (by omega)).trans h.fbox, (st _ hrl (nob _ (by omega)) (by omega)).trans h.rbox, ?_, ?_, hnew, hold, by simp; omega, ⟨hg.os.trans (hb.os.trans h.bel.os), hg.tape.trans (hb.tape.trans h.bel.tape), hg.output.trans (hb.output.trans h.bel.output), by simp; omega, fun b hlt => (hold b hlt).trans (h.bel.block b hlt)⟩⟩
 ·have := heap_setCell_same w4 (w.heap.size + 2) 0 _ 25 v' hc4
  simpa using this
 ·have hrow0 : ClsOwn 64 81 (m + 2) (fun b => C b ∨ (w.heap.size + 2 < b ∧ b < wr.heap.size)) (w2.alloc o) done v := ClsOwn.mono (Nat.le_refl _) (fun b _ hlt => (hao w2 _ _ (by omega)).trans (hb.block b hlt)) (fun _ h => h) h.row
  have hx0 : LitOwn 64 (m + 2) Sx (w2.alloc o) l [.bool l.pos, t0, t1] := ⟨_, _, rfl, TmOwn.mono (m + 1) (m + 2) l.a _ (by omega) (fun b _ hlt => hao w2 _ _ hlt) (fun _ h => h) hT⟩
  have h1 := OwnRow.snoc (S' := fun b => (C b ∨ Sx b) ∨ (w.heap.size + 2 < b ∧ b < w4.heap.size)) (w' := w4) (v' := v') (R' := fun S x c => LitOwn 64 (m + 2) S w4 x c) hrow0 hx0 rfl (fun vs hvs => by rw [own_unique hvs hv]; exact happ) hg hnr (by unfold maxLen; omega)
   (fun b hb' => by
    have h2 := hSx b hb'
    have h3 := hSF b (h.ts b h2)
    rintro (h4 | h4)
    ·exact (h.cs b h4).2 h2
    ·omega) (fun b hb' => by
    rcases hb' with h4 | h4
    ·have := hSF b (h.cs b h4).1; simp; omega
    ·simp; omega) (fun b hb' => by have := hSF b (h.ts b (hSx b hb')); simp; omega) (fun b hb' => by
    rcases hb' with h4 | h4
    ·exact .inl (.inl h4)
    ·exact .inr ⟨h4.1, by omega⟩) (fun b hb' => .inl (.inr hb')) (fun b hb' => .inr ⟨hnew b hb', own_lt' happ hb'⟩)
   (fun S x c hS hx => LitOwn.mono (Nat.le_refl _) (fun b hb' hlt => hg.block b hlt (fun e => (hS b hb').2 e.symm)) (fun _ h => h) hx)
  refine ClsOwn.mono (Nat.le_refl _) (fun b hb' _ => heap_setCell_other w4 ⟨w.heap.size + 2, 0, none⟩ b v' ?_) (fun b hb' => by simpa using hb') h1
  rcases hb' with (h4 | h4) | h4
  ·have := hSF b (h.cs b h4).1; simp; omega
  ·have := hSF b (h.ts b (hSx b h4)); simp; omega
  ·simp; omega
def ClfV (m : Nat) (SF : Nat → Prop) (o : Option (List Lit3)) (w : World) (e : Ending) (w' : World) : Prop :=
 Below w.heap.size w w' ∧ ∃ p n d, e = .returned (.tuple #[.agg #[.slice p n d], .bool (okC o)]) ∧ (okC o = true → ∃ c, o = some c ∧ ClsOwn 64 81 (m + 2) (fun b => SF b ∨ (w.heap.size ≤ b ∧ b < w'.heap.size)) w' c (.slice p n d))
set_option maxHeartbeats 3200000 in
theorem clauseOfFormula_any {m : Nat} {SF : Nat → Prop} (F : Fm) (v0 v1 v2 v3 v4 : Value) (w : World) (h : FmOwn 64 67 (m + 2) SF w F [v0, v1, v2, v3, v4]) (hSF : ∀ b, SF b → b < w.heap.size) (hf : F.form = true) (hw : F.wt ≤ 100000) :
  Calls Tryz.prog 37 #[.agg #[v0, v1, v2, v3, v4]] w (ClfV m SF (clsOf (F.sz + 1) F) w) := by
 obtain ⟨p, c, q, d, rfl, rfl, rfl, rfl, rfl, -⟩ := h.form
 have H := Lib.hid h
 have HF := Lib.hid hf
 clear h hf
 go_enter Tryz.func37, Tryz.ntmps37
 go_wp2
 obtain ⟨W, hW⟩ : ∃ W : World, W = ((w.alloc (.cells #[.int .i64 F.op, .string F.a.n, .slice p F.a.us.length c, .string F.v, .slice q F.ps.length d] 67)).alloc (.cells #[.slice none 0 0] 25)).alloc (.cells #[.slice none 0 0] 25) := ⟨_, rfl⟩
 have h0 : ClRelI m SF w F W := by
  refine ⟨F.sz + 1, F, [], .int .i64 F.op, .string F.a.n, .slice p F.a.us.length c, .string F.v, .slice q F.ps.length d, .slice none 0 0, fun _ => False, SF, ⟨?_, ?_, ?_, ?_, HF.out, ClsOwn.nil _ _ _ _ _, fun _ h => h.elim, fun _ h => h, by cases clsOf (F.sz + 1) F <;> rfl, by omega, by simp, by simp [Cls.wts], fun b h => by simp [Value.ownBlock] at h, by rw [hW]; exact bel⟩⟩
  ·rw [hW]; exact (hao ((w.alloc _).alloc _) _ _ (by simp; omega)).trans ((hao (w.alloc _) _ _ (by simp)).trans (heap_alloc_new w _))
  ·rw [hW]; exact (hao ((w.alloc _).alloc _) _ _ (by simp)).trans (alloc_new_at (by simp))
  ·rw [hW]; exact alloc_new_at (by simp)
  ·rw [hW]; exact FmOwn.later (by exact bel) H.out
 rw [← hW]
 clear hW
 go_loopw [] (ClRelI m SF w F) (fun wr => F.wt + 1 - lenAt wr (w.heap.size + 2))
 case atStart => exact h0
 case round =>
  obtain ⟨n, f, done, u0, u1, u2, u3, u4, v, C, T, hst⟩ := hrel
  obtain ⟨pf, cf, qf, df, rfl, rfl, rfl, rfl, rfl, -⟩ := hst.fm.form
  obtain ⟨pv, dv, rfl, -⟩ := OwnRow.form hst.row
  have bF : BoxN wr w.heap.size 67 _ := hst.fbox
  have f0 := bF.cell 0
  have f1 := bF.cell 1
  have f2 := bF.cell 2
  have f3 := bF.cell 3
  have f4 := bF.cell 4
  have ff := fun i => bF.frozen i
  simp only [List.getElem?_toArray, List.getElem?_cons_zero, List.getElem?_cons_succ] at f0 f1 f2 f3 f4
  clear bF
  have k0 : wr.cell? ⟨w.heap.size + 1 + 1, 0, none⟩ = some (.slice pv done.length dv) := (cell_of_row _ _ 0 _ _ (0, 0) hst.cbox).trans rfl
  have kf : ∀ i, wr.frozen? ⟨w.heap.size + 1 + 1, i, none⟩ = false := fun i => frozen_of_row _ _ i _ _ hst.cbox
  have r0 : wr.cell? ⟨w.heap.size + 1, 0, none⟩ = some (.slice none 0 0) := by rw [cell_of_row _ _ 0 _ _ (0, 0) hst.rbox]; rfl
  have rf : ∀ i, wr.frozen? ⟨w.heap.size + 1, i, none⟩ = false := fun i => frozen_of_row _ _ i _ _ hst.rbox
  have zf := bsz (blk_lt hst.fbox)
  have zr := bsz (blk_lt hst.rbox)
  have zc := bsz (show w.heap.size + 1 + 1 < wr.heap.size from blk_lt hst.cbox)
  have hlen := hst.len
  have hfuel := hst.fuel
  have HST := Lib.hid hst
  clear hst
  by_cases h6 : f.op = 6
  ·obtain ⟨g, g', rfl, hg, hg'⟩ := form_or HST.out.form h6
   obtain ⟨Sa, Sp, -, hrow, -, hSp⟩ := HST.out.fm.split
   obtain ⟨b, cap, cs, ds, Sx, Sy, hv, hbl, hSb, hcl, hdl, hcs, hds, hX, hY, hSx, hSy⟩ := OwnRow.pair (by omega) hrow
   simp only [Value.slice.injEq] at hv
   obtain ⟨rfl, -, rfl⟩ := hv
   obtain ⟨x0, x1, x2, x3, x4, rfl⟩ : ∃ x0 x1 x2 x3 x4, cs = [x0, x1, x2, x3, x4] := by
    match cs, hcl with
    | [x0, x1, x2, x3, x4], _ => exact ⟨x0, x1, x2, x3, x4, rfl⟩
   obtain ⟨z0, z1, z2, z3, z4, rfl⟩ : ∃ x0 x1 x2 x3 x4, ds = [x0, x1, x2, x3, x4] := by
    match ds, hdl with
    | [x0, x1, x2, x3, x4], _ => exact ⟨x0, x1, x2, x3, x4, rfl⟩
   obtain ⟨pg, cg, qg, dg, rfl, rfl, rfl, rfl, rfl, -⟩ := FmOwn.form hX
   obtain ⟨ph, ch, qh, dh, rfl, rfl, rfl, rfl, rfl, -⟩ := FmOwn.form hY
   have HX := Lib.hid hX
   have HY := Lib.hid hY
   replace f0 : wr.cell? ⟨w.heap.size, 0, none⟩ = some (.int .i64 6) := f0
   replace f4 : wr.cell? ⟨w.heap.size, 4, none⟩ = some (.slice (some ⟨b, 0, none⟩) 2 df) := f4
   have y0 := hcs 0 (by omega)
   have y1 := hcs 1 (by omega)
   have y2 := hcs 2 (by omega)
   have y3 := hcs 3 (by omega)
   have y4 := hcs 4 (by omega)
   have q0 := hds 0 (by omega)
   have q1 := hds 1 (by omega)
   have q2 := hds 2 (by omega)
   have q3 := hds 3 (by omega)
   have q4 := hds 4 (by omega)
   simp only [List.getElem?_cons_zero, List.getElem?_cons_succ, Nat.add_zero, Nat.reduceAdd] at y0 y1 y2 y3 y4 q0 q1 q2 q3 q4
   have hbw : b < w.heap.size := hSF b (HST.out.ts b (hSp b hSb))
   have zb := bsz hbl
   have HSUB := Lib.hid (And.intro hSp (And.intro hSx hSy))
   have HG := Lib.hid (And.intro hg hg')
   clear hrow hX hY hcs hds hSx hSy hg hg' h6
   obtain ⟨n', rfl⟩ : ∃ n', n = n' + 1 := ⟨n - 1, by omega⟩
   have hsz : (opF 6 [g, g']).sz = 1 + (g.sz + (g'.sz + 0)) := by rw [opF, Fm.sz, Fm.szs, Fm.szs, Fm.szs]
   have hwt := or_wt g g'
   have HFD := Lib.hid (show clsOf (n' + 1) (opF 6 [g, g']) = if (litOf g).2 then (clsOf n' g').map ((litOf g).1 :: ·) else none by rw [clsOf, if_pos (by rfl)]; rfl)
   go_wp2_with fail
   refine (literalOf_any (m := m) g _ _ _ _ _ _ (FmOwn.mono (m + 1) (m + 2) g _ (by omega) (SameOn.refl _ _) (fun _ h => h) HX.out) HG.out.1).mono ?_
   rintro e w2 ⟨t0, t1, Sl, rfl, hT, hsub, hb2⟩
   obtain ⟨pt, ct, rfl, rfl, -⟩ := hT.form
   have HT := Lib.hid (And.intro hT hsub)
   have ⟨cw2, fw2⟩ := bcell hb2
   have hq2 := hb2.size
   have zf2 := bsz (show w.heap.size < w2.heap.size by omega)
   have zr2 := bsz (show w.heap.size + 1 < w2.heap.size by omega)
   have zc2 := bsz (show w.heap.size + 1 + 1 < w2.heap.size by omega)
   have zb2 := bsz (show b < w2.heap.size by omega)
   clear hT hsub
   cases hok : (litOf g).2
   ·have HNO := Lib.hid (show clsOf (F.sz + 1) F = none by rw [HST.out.found, HFD.out, hok]; rfl)
    have hbw2 : Below w.heap.size w w2 := HST.out.bel.trans (hb2.mono (by omega))
    go_wp2
    refine bodyPost_ret (v := .tuple #[.agg #[.slice none 0 0], .bool false]) (by simp only [results, Tryz.results37]; go_simp) rfl ?_
    refine ⟨by clear hb2; exact bel, none, 0, 0, ?_, ?_⟩
    ·rw [HNO.out]; rfl
    ·rw [HNO.out]; intro h; cases h
   ·obtain ⟨-, vals, -, hvr, -⟩ := HST.out.row
    have HV := Lib.hid hvr
    have NB := Lib.hid (show ∀ k, k ≤ w.heap.size + 2 → (Value.slice pv done.length dv).ownBlock ≠ some k from fun k hk e => by have := HST.out.vnew k e; omega)
    have HK := Lib.hid (show ∀ w4 : World, (w2.alloc (.cells #[.bool (litOf g).1.pos, .string (litOf g).1.a.n, .slice pt (litOf g).1.a.us.length ct] 81)).grownBy w4 (Value.slice pv done.length dv).ownBlock → ∀ k, k < wr.heap.size → (Value.slice pv done.length dv).ownBlock ≠ some k → w4.heap[k]? = wr.heap[k]? from fun w4 hg k hlt hne => (hg.block k (by simp; omega) (fun e => hne e.symm)).trans ((hao w2 _ _ (by omega)).trans (hb2.block k hlt)))
    have HC4 := Lib.hid (show ∀ w4 : World, (w2.alloc (.cells #[.bool (litOf g).1.pos, .string (litOf g).1.a.n, .slice pt (litOf g).1.a.us.length ct] 81)).grownBy w4 (Value.slice pv done.length dv).ownBlock →
      w4.cell? ⟨w.heap.size + 1 + 1, 0, none⟩ = some (.slice pv done.length dv) ∧ (∀ i, w4.frozen? ⟨w.heap.size + 1 + 1, i, none⟩ = false) ∧
      w4.cell? ⟨w.heap.size, 0, none⟩ = some (.int .i64 6) ∧ w4.cell? ⟨w.heap.size, 1, none⟩ = some (.string (opF 6 [g, g']).a.n) ∧ w4.cell? ⟨w.heap.size, 2, none⟩ = some (.slice pf (opF 6 [g, g']).a.us.length cf) ∧ w4.cell? ⟨w.heap.size, 3, none⟩ = some (.string (opF 6 [g, g']).v) ∧ w4.cell? ⟨w.heap.size, 4, none⟩ = some (.slice (some ⟨b, 0, none⟩) 2 df) ∧ (∀ i, w4.frozen? ⟨w.heap.size, i, none⟩ = false) ∧
      w4.cell? ⟨b, 5, none⟩ = some (.int .i64 g'.op) ∧ w4.cell? ⟨b, 6, none⟩ = some (.string g'.a.n) ∧ w4.cell? ⟨b, 7, none⟩ = some (.slice ph g'.a.us.length ch) ∧ w4.cell? ⟨b, 8, none⟩ = some (.string g'.v) ∧ w4.cell? ⟨b, 9, none⟩ = some (.slice qh g'.ps.length dh) from by
     intro w4 hg
     have hC := HK.out w4 hg _ (show w.heap.size + 1 + 1 < wr.heap.size by omega) (NB.out _ (by omega))
     have hFb := HK.out w4 hg _ (show w.heap.size < wr.heap.size by omega) (NB.out _ (by omega))
     have hBb := HK.out w4 hg _ (show b < wr.heap.size by omega) (NB.out _ (by omega))
     exact ⟨(World.cell?_of_block hC).trans k0, fun i => (frozen_blk hC).trans (kf i), (World.cell?_of_block hFb).trans f0, (World.cell?_of_block hFb).trans f1, (World.cell?_of_block hFb).trans f2, (World.cell?_of_block hFb).trans f3, (World.cell?_of_block hFb).trans f4, fun i => (frozen_blk hFb).trans (ff i),
      (World.cell?_of_block hBb).trans q0, (World.cell?_of_block hBb).trans q1, (World.cell?_of_block hBb).trans q2, (World.cell?_of_block hBb).trans q3, (World.cell?_of_block hBb).trans q4⟩)
    clear hvr
    go_wp2_with (at_builtin; refine wpList_app1 rfl (.tmp 25) (.tmp 27) _ rfl 0 81 3 48 elemLitI _ _ vals rfl (w2.alloc (.cells #[.bool (litOf g).1.pos, .string (litOf g).1.a.n, .slice pt (litOf g).1.a.us.length ct] 81)) #[.bool (litOf g).1.pos, .string (litOf g).1.a.n, .slice pt (litOf g).1.a.us.length ct] rfl _ (by simp) rfl ((own_below HV.out hb2).alloc _) rfl (by simp [Value.oneCell']) (by omega) (by unfold maxLen; omega) (Nat.zero_le _) ?_; intro v' w4 happ hg4 hnr hlt4; obtain ⟨gv, cv, rfl⟩ := own_form happ (Nat.succ_pos _); have HAPP := Lib.hid (And.intro happ hnr); clear happ hnr; obtain ⟨k04, kf4, f04, f14, f24, f34, f44, ff4, q04, q14, q24, q34, q44⟩ := HC4.out w4 hg4)
    have A := HST.out.app hSF hb2 HT.out.1 (fun b hb => HSUB.out.1 b (HSUB.out.2.1 b (HT.out.2 b hb)).1) (by omega) ((own_below HV.out hb2).alloc _) HAPP.out.1 hg4 HAPP.out.2
    have hA5 := A.size
    have hcl := (set5_other (w4.setCell ⟨w.heap.size + 2, 0, none⟩ (.slice (some ⟨gv, 0, none⟩) (done.length + 1) cv)) (.int .i64 g'.op) (.string g'.a.n) (.slice ph g'.a.us.length ch) (.string g'.v) (.slice qh g'.ps.length dh) (show w.heap.size + 2 ≠ w.heap.size by omega)).trans A.cbox
    refine ⟨⟨n', g', done ++ [(litOf g).1], _, _, _, _, _, _, fun b => C b ∨ Sl b, Sy, ⟨BoxN.set5 A.fbox _ _ _ _ _, (set5_other _ _ _ _ _ _ (by omega)).trans A.rbox, hcl, ?_, HG.out.2, ?_, ?_, fun b hb => HST.out.ts b (HSUB.out.1 b (HSUB.out.2.2 b hb)), ?_, by omega, by simp; omega, ?_, A.vnew, A.bel.trans (set5_below _ _ _ _ _ _ (Nat.le_refl _))⟩⟩, ?_⟩
    ·exact FmOwn.mono (m + 1) (m + 2) g' _ (by omega) (fun b hb _ => by
      have h1 := hSF b (HST.out.ts b (HSUB.out.1 b (HSUB.out.2.2 b hb)))
      exact (set5_other _ _ _ _ _ _ (by omega)).trans (A.old b h1)) (fun _ h => h) HY.out
    ·refine ClsOwn.mono (Nat.le_refl _) (fun b hb _ => set5_other _ _ _ _ _ _ ?_) (fun b hb => by simpa using hb) A.row
     rcases hb with (h4 | h4) | h4
     ·have := hSF b (HST.out.cs b h4).1; omega
     ·have := hSF b (HST.out.ts b (HSUB.out.1 b (HSUB.out.2.1 b (HT.out.2 b h4)).1)); omega
     ·omega
    ·intro b hb
     rcases hb with h4 | h4
     ·exact ⟨(HST.out.cs b h4).1, fun h => (HST.out.cs b h4).2 (HSUB.out.1 b (HSUB.out.2.2 b h))⟩
     ·have h5 := HSUB.out.2.1 b (HT.out.2 b h4)
      exact ⟨HST.out.ts b (HSUB.out.1 b h5.1), h5.2⟩
    ·rw [HST.out.found, HFD.out, hok, if_pos rfl]
     cases clsOf n' g' <;> simp
    ·have h1 := litOf_wt HG.out.1
     have h2 := HST.out.wts
     rw [Cls.wts_snoc]; omega
    ·have e1 : lenAt wr (w.heap.size + 2) = done.length := by
      have : wr.cell? ⟨w.heap.size + 2, 0, none⟩ = some (.slice pv done.length dv) := k0
      rw [lenAt, this]
     have e2 : ∀ W' : World, W'.heap[w.heap.size + 2]? = some (.cells #[.slice (some ⟨gv, 0, none⟩) (done.length + 1) cv] 25 (0, 0)) → lenAt W' (w.heap.size + 2) = done.length + 1 := fun W' h => by
      have : W'.cell? ⟨w.heap.size + 2, 0, none⟩ = some (.slice (some ⟨gv, 0, none⟩) (done.length + 1) cv) := (cell_of_row _ _ 0 _ _ (0, 0) h).trans rfl
      rw [lenAt, this]
     rw [e1, e2 _ hcl]; omega
  ·have hop : (f.op == 6) = false := by simpa using h6
   obtain ⟨n', rfl⟩ : ∃ n', n = n' + 1 := ⟨n - 1, by omega⟩
   have HFD := Lib.hid (show clsOf (n' + 1) f = if (litOf f).2 then some [(litOf f).1] else none by rw [clsOf, if_neg h6])
   go_wp2_with fail
   refine (literalOf_any (m := m) f _ _ _ _ _ _ HST.out.fm HST.out.form).mono ?_
   rintro e w2 ⟨t0, t1, Sl, rfl, hT, hsub, hb2⟩
   obtain ⟨pt, ct, rfl, rfl, -⟩ := hT.form
   have HT := Lib.hid (And.intro hT hsub)
   have ⟨cw2, fw2⟩ := bcell hb2
   have hq2 := hb2.size
   have zf2 := bsz (show w.heap.size < w2.heap.size by omega)
   have zr2 := bsz (show w.heap.size + 1 < w2.heap.size by omega)
   have zc2 := bsz (show w.heap.size + 1 + 1 < w2.heap.size by omega)
   clear hT hsub
   obtain ⟨-, vals, -, hvr, -⟩ := HST.out.row
   have HV := Lib.hid hvr
   have NB := Lib.hid (show ∀ k, k ≤ w.heap.size + 2 → (Value.slice pv done.length dv).ownBlock ≠ some k from fun k hk e => by have := HST.out.vnew k e; omega)
   have HK := Lib.hid (show ∀ w4 : World, (w2.alloc (.cells #[.bool (litOf f).1.pos, .string (litOf f).1.a.n, .slice pt (litOf f).1.a.us.length ct] 81)).grownBy w4 (Value.slice pv done.length dv).ownBlock → ∀ k, k < wr.heap.size → (Value.slice pv done.length dv).ownBlock ≠ some k → w4.heap[k]? = wr.heap[k]? from fun w4 hg k hlt hne => (hg.block k (by simp; omega) (fun e => hne e.symm)).trans ((hao w2 _ _ (by omega)).trans (hb2.block k hlt)))
   clear hvr
   have HC4 := Lib.hid (show ∀ w4 : World, (w2.alloc (.cells #[.bool (litOf f).1.pos, .string (litOf f).1.a.n, .slice pt (litOf f).1.a.us.length ct] 81)).grownBy w4 (Value.slice pv done.length dv).ownBlock →
     w4.cell? ⟨w.heap.size + 1 + 1, 0, none⟩ = some (.slice pv done.length dv) ∧ (∀ i, w4.frozen? ⟨w.heap.size + 1 + 1, i, none⟩ = false) ∧
     w4.cell? ⟨w.heap.size + 1, 0, none⟩ = some (.slice none 0 0) ∧ (∀ i, w4.frozen? ⟨w.heap.size + 1, i, none⟩ = false) from by
    intro w4 hg
    have hC := HK.out w4 hg _ (show w.heap.size + 1 + 1 < wr.heap.size by omega) (NB.out _ (by omega))
    have hRb := HK.out w4 hg _ (show w.heap.size + 1 < wr.heap.size by omega) (NB.out _ (by omega))
    exact ⟨(World.cell?_of_block hC).trans k0, fun i => (frozen_blk hC).trans (kf i), (World.cell?_of_block hRb).trans r0, fun i => (frozen_blk hRb).trans (rf i)⟩)
   go_wp2_with (at_builtin; refine wpList_app1 rfl (.tmp 40) (.tmp 42) _ rfl 0 81 3 48 elemLitI _ _ vals rfl (w2.alloc (.cells #[.bool (litOf f).1.pos, .string (litOf f).1.a.n, .slice pt (litOf f).1.a.us.length ct] 81)) #[.bool (litOf f).1.pos, .string (litOf f).1.a.n, .slice pt (litOf f).1.a.us.length ct] rfl _ (by simp) rfl ((own_below HV.out hb2).alloc _) rfl (by simp [Value.oneCell']) (by omega) (by unfold maxLen; omega) (Nat.zero_le _) ?_; intro v' w4 happ hg4 hnr hlt4; obtain ⟨gv, cv, rfl⟩ := own_form happ (Nat.succ_pos _); have HAPP := Lib.hid (And.intro happ hnr); clear happ hnr; obtain ⟨k04, kf4, r04, rf4⟩ := HC4.out w4 hg4)
   have A := HST.out.app hSF hb2 HT.out.1 (fun b hb => HT.out.2 b hb) (by omega) ((own_below HV.out hb2).alloc _) HAPP.out.1 hg4 HAPP.out.2
   have hA5 := A.size
   have HA := Lib.hid A
   have d0 : (w4.setCell ⟨w.heap.size + 1 + 1, 0, none⟩ (.slice (some ⟨gv, 0, none⟩) (done.length + 1) cv)).cell? ⟨w.heap.size + 1 + 1, 0, none⟩ = some (.slice (some ⟨gv, 0, none⟩) (done.length + 1) cv) := (cell_of_row _ _ 0 _ _ (0, 0) A.cbox).trans rfl
   have e0 : (w4.setCell ⟨w.heap.size + 1 + 1, 0, none⟩ (.slice (some ⟨gv, 0, none⟩) (done.length + 1) cv)).cell? ⟨w.heap.size + 1, 0, none⟩ = some (.slice none 0 0) := (cell_of_row _ _ 0 _ _ (0, 0) A.rbox).trans rfl
   have ef : ∀ i, (w4.setCell ⟨w.heap.size + 1 + 1, 0, none⟩ (.slice (some ⟨gv, 0, none⟩) (done.length + 1) cv)).frozen? ⟨w.heap.size + 1, i, none⟩ = false := fun i => frozen_of_row _ _ i _ _ A.rbox
   have hlA := blk_lt A.rbox
   have hcA := blk_lt A.cbox
   clear A
   obtain ⟨W5, hW5⟩ : ∃ W5 : World, W5 = w4.setCell ⟨w.heap.size + 1 + 1, 0, none⟩ (.slice (some ⟨gv, 0, none⟩) (done.length + 1) cv) := ⟨_, rfl⟩
   have hW5' : w4.setCell ⟨w.heap.size + 2, 0, none⟩ (.slice (some ⟨gv, 0, none⟩) (done.length + 1) cv) = W5 := hW5.symm
   rw [hW5'] at HA hA5 hlA hcA
   rw [← hW5] at d0 e0 ef ⊢
   clear hW5 hW5' k04 kf4 r04 rf4 hg4
   have z5r := bsz hlA
   have z5c := bsz (show w.heap.size + 1 + 1 < W5.heap.size from hcA)
   have hin : ∀ (W' : World), (∀ b, b ≠ w.heap.size + 1 → b < W5.heap.size → W'.heap[b]? = W5.heap[b]?) → W5.heap.size ≤ W'.heap.size → ClsOwn 64 81 (m + 2) (fun b => SF b ∨ (w.heap.size ≤ b ∧ b < W'.heap.size)) W' (done ++ [(litOf f).1]) (.slice (some ⟨gv, 0, none⟩) (done.length + 1) cv) := fun W' hs hz => ClsOwn.mono (Nat.le_refl _) (fun b hb hlt => hs b (by
     rcases hb with (h4 | h4) | h4
     ·have := hSF b (HST.out.cs b h4).1; omega
     ·have := hSF b (HST.out.ts b (HT.out.2 b h4)); omega
     ·omega) hlt) (fun b hb => by
     rcases hb with (h4 | h4) | h4
     ·exact .inl (HST.out.cs b h4).1
     ·exact .inl (HST.out.ts b (HT.out.2 b h4))
     ·exact .inr ⟨by omega, by omega⟩) HA.out.row
   have HIN := Lib.hid hin
   have hbel := HA.out.bel
   clear hin
   cases hok : (litOf f).2
   ·have HNO := Lib.hid (show clsOf (F.sz + 1) F = none by rw [HST.out.found, HFD.out, hok]; rfl)
    clear hb2
    go_region
    go_wp2
    refine bodyPost_ret (v := .tuple #[.agg #[.slice (some ⟨gv, 0, none⟩) (done.length + 1) cv], .bool false]) (by simp only [results, Tryz.results37]; go_simp) rfl ?_
    refine ⟨by exact bel, some ⟨gv, 0, none⟩, done.length + 1, cv, ?_, ?_⟩
    ·rw [HNO.out]; rfl
    ·rw [HNO.out]; intro h; cases h
   ·have HYES := Lib.hid (show clsOf (F.sz + 1) F = some (done ++ [(litOf f).1]) by rw [HST.out.found, HFD.out, hok]; rfl)
    have HZ := Lib.hid (show ∀ l ∈ done ++ [(litOf f).1], l.a.sz ≤ 100000000 from fun l hl => by
     have h1 := Cls.wts_le _ l hl
     have h2 := l.a.sz_wt
     have h3 := litOf_wt HST.out.form
     have h4 := HST.out.wts
     rw [Cls.wts_snoc] at h1; omega)
    have HAT := Lib.hid (ClsOwn.at_ HA.out.row)
    clear hb2
    go_region_with (go_at_call 42; refine (isValidClause_any (m + 2) (done ++ [(litOf f).1]) _ _ (ClsAt.below (by exact bel) HAT.out) HZ.out).mono ?_; rintro e w6 ⟨rfl, hb6⟩; have e06 : w6.cell? ⟨w.heap.size + 1, 0, none⟩ = some (.slice none 0 0) := (World.cell?_of_block (hb6.block _ hlA)).trans e0; have ef6 : ∀ i, w6.frozen? ⟨w.heap.size + 1, i, none⟩ = false := fun i => (frozen_blk (p := ⟨w.heap.size + 1, i, none⟩) (hb6.block _ hlA)).trans (ef i); have d06 : w6.cell? ⟨w.heap.size + 1 + 1, 0, none⟩ = some (.slice (some ⟨gv, 0, none⟩) (done.length + 1) cv) := (World.cell?_of_block (hb6.block _ hcA)).trans d0; have hq6 : W5.heap.size ≤ w6.heap.size := hb6.size; have z6r := bsz (show w.heap.size + 1 < w6.heap.size by omega); have z6c := bsz (show w.heap.size + 1 + 1 < w6.heap.size by omega))
    all_goals go_wp2
    all_goals
     refine bodyPost_ret (v := .tuple #[.agg #[.slice (some ⟨gv, 0, none⟩) (done.length + 1) cv], .bool (Cls.good (done ++ [(litOf f).1]))]) (by simp only [results, Tryz.results37]; go_simp) rfl ?_
     refine ⟨by exact bel, some ⟨gv, 0, none⟩, done.length + 1, cv, ?_, fun _ => ⟨_, HYES.out, HIN.out _ (fun b' hne hlt => (heap_setCell_other w6 ⟨w.heap.size + 1, 0, none⟩ b' _ hne).trans (hb6.block b' hlt)) (by simp; omega)⟩⟩
     rw [HYES.out]; rfl
theorem engP_any : ∀ f : Nat, EngP f
 | 0 => fun _ _ _ _ _ _ _ hf => absurd hf (by omega)
 | f + 1 => fun g s p w h hp hs hf => english_of f (engP_any f) g s p w h hp hs hf
theorem english_read (g : Nat) (s : ByteArray) (p : PSt) (w : World) (h : PAt 35 w g s p) (hp : p.pos ≤ s.size) (hs : s.size ≤ 1000000) :
  Calls Tryz.prog 67 #[.pointer (some ⟨g, 0, none⟩)] w fun e w' => ∃ x, e = .returned x ∧ FmP (s.size + 5) g s (pEng s.data.toList (s.size + 2) p).1 (pEng s.data.toList (s.size + 2) p).2 w x w' :=
 engP_any (s.size + 2) g s p w h hp hs (by omega)
set_option maxHeartbeats 3200000 in
theorem implETF_long (s : ByteArray) (hs : 12000 < s.size) (hz : s.size ≤ 1000000000000) (w : World) :
  Calls Tryz.prog 36 #[.string s] w fun e w' => e = .returned (.tuple #[.agg #[.int .i64 0, .string ⟨#[]⟩, .slice none 0 0, .string ⟨#[]⟩, .slice none 0 0], .bool false]) ∧ Below w.heap.size w w' := by
 go_enter Tryz.func36, Tryz.ntmps36
 go_wp2
 refine bodyPost_ret (v := .tuple #[.agg #[.int .i64 0, .string ⟨#[]⟩, .slice none 0 0, .string ⟨#[]⟩, .slice none 0 0], .bool false]) (by simp only [results, Tryz.results36]; go_simp) rfl ⟨rfl, by exact bel⟩
set_option maxHeartbeats 3200000 in
theorem implETF_short (s : ByteArray) (hs : s.size ≤ 12000) (w : World) :
  Calls Tryz.prog 36 #[.string s] w (EtfPost (s.size + 5) (pOk s.data.toList) (pRead s.data.toList).1 w) := by
 have hwt := pEng_wt s.data.toList (s.size + 2) ⟨0, false⟩
 have hpo := (pEng_pos s.data.toList (s.size + 2) ⟨0, false⟩ (Nat.zero_le _)).2
 have hpr : pEng s.data.toList (s.size + 2) ⟨0, false⟩ = pRead s.data.toList := by rw [pRead, ← size_list]
 have hok : pOk s.data.toList = (!(pRead s.data.toList).2.bad && (pRead s.data.toList).2.pos == s.size && (pRead s.data.toList).1.good && (pRead s.data.toList).1.eng == s.data.toList) := by rw [pOk, ← size_list]
 rw [hpr] at hwt hpo
 rw [← size_list] at hpo
 have HPR := Lib.hid hpr
 clear hpr
 generalize pRead s.data.toList = r at *
 obtain ⟨F, p1⟩ := r
 simp only at hwt hpo hok
 have HOK := Lib.hid hok
 clear hok
 go_enter Tryz.func36, Tryz.ntmps36
 go_wp2_with fail
 refine (english_read (w.heap.size + 1) s ⟨0, false⟩ _ ?_ (Nat.zero_le _) (by omega)).mono ?_
 ·have h0 := heap_alloc_new (w.alloc (.cells #[.int .i64 0, .string ⟨#[]⟩, .slice none 0 0, .string ⟨#[]⟩, .slice none 0 0] 67)) (.cells #[.string s, .int .i64 0, .bool false] 35)
  rw [show (w.alloc (.cells #[.int .i64 0, .string ⟨#[]⟩, .slice none 0 0, .string ⟨#[]⟩, .slice none 0 0] 67)).heap.size = w.heap.size + 1 by simp] at h0
  exact h0
 rw [HPR.out]
 simp only
 rintro e w1 ⟨x, rfl, hx⟩
 have HX := Lib.hid hx
 obtain ⟨z1, e1, z2, e2, rfl⟩ := hx.form
 clear hx
 have hz1 := HX.out.2.2.size
 simp at hz1
 go_wp2_with fail
 refine (ended_any (w.heap.size + 1) s p1 _ (PAt.below HX.out.2.1 (by exact bel))).mono ?_
 rintro e w2 ⟨rfl, hb2⟩
 have G2 := gr_below (gr_al HX.out.2.2 _) hb2
 have HR := (G2.block w.heap.size (by simp; omega) (by simp)).trans ((hao (w.alloc _) _ _ (by simp)).trans (heap_alloc_new w _))
 have HB := (hb2.block w1.heap.size (by simp)).trans (heap_alloc_new w1 _)
 have hz2 := hb2.size
 simp at hz2
 have BW := Lib.hid (show True → Below w.heap.size w w2 from fun _ => ⟨G2.os, G2.tape, G2.output, by have := G2.size; simp at this; omega, fun b hb => (G2.block b (by simp; omega) (by simp; omega)).trans ((hao (w.alloc _) _ _ (by simp; omega)).trans (hao w _ _ hb))⟩)
 obtain ⟨r0, r1, r2, r3, r4, rf⟩ := cells5_cell HR
 obtain ⟨f0, f1, f2, f3, f4, ff⟩ := cells5_cell HB
 have hr1 := bsz (heap_lt HR)
 have hr2 := bsz (heap_lt HB)
 have HRH := Lib.hid HR
 clear HR HB G2
 cases hE : (!p1.bad && p1.pos == s.size)
 ·have HE := Lib.hid (show pOk s.data.toList = false by rw [HOK.out, hE]; rfl)
  have hb3 := BW.out trivial
  go_wp2
  refine bodyPost_ret (v := .tuple #[.agg #[.int .i64 0, .string ⟨#[]⟩, .slice none 0 0, .string ⟨#[]⟩, .slice none 0 0], .bool false]) (by simp only [results, Tryz.results36]; go_simp) rfl (EtfPost.no HE.out (by clear hb2; exact bel))
 ·have HE := Lib.hid hE
  obtain ⟨v0, v1, v2, v3, v4, hx5, hO⟩ := HX.out.1
  simp only [Value.agg.injEq, Array.mk.injEq, List.cons.injEq, and_true] at hx5
  obtain ⟨rfl, rfl, rfl, rfl, rfl⟩ := hx5
  have HO := Lib.hid hO
  have HAT := Lib.hid (FmOwn.at_ _ _ _ hO)
  clear hO hE
  have hwt' : F.wt ≤ s.size := by omega
  have hsz := F.sz_wt
  have hasz := F.asz_wt
  go_wp2_with fail
  refine (isValidFormula_any (s.size + 5) F _ _ _ _ _ _ (FmAt.below (by exact bel) HAT.out) (by omega) (by omega)).mono ?_
  rintro e w3 ⟨rfl, hbv⟩
  have ⟨cv, fv⟩ := bcell hbv
  have hqv := hbv.size
  have hv1 := bsz (show w.heap.size < w3.heap.size by omega)
  have hv2 := bsz (show w1.heap.size < w3.heap.size by omega)
  cases hG : F.good
  ·have HG := Lib.hid (show pOk s.data.toList = false by rw [HOK.out, hG]; simp)
   go_wp2
   refine bodyPost_ret (v := .tuple #[.agg #[.int .i64 0, .string ⟨#[]⟩, .slice none 0 0, .string ⟨#[]⟩, .slice none 0 0], .bool false]) (by simp only [results, Tryz.results36]; go_simp) rfl (EtfPost.no HG.out (by have hb3 := BW.out trivial; clear hb2; exact bel))
  ·have HG := Lib.hid hG
   have hform : F.form = true := by rw [Fm.good, Bool.and_eq_true] at hG; exact hG.2
   have hel := Fm.eng_wt F.sz F (Nat.le_refl _) hform
   clear hG
   go_wp2_with fail
   refine (english_any (s.size + 5) F _ _ _ _ _ _ (FmAt.below (by exact bel) HAT.out) hform (by omega)).mono ?_
   rintro e w4 ⟨rfl, hbe⟩
   have ⟨ce, fe⟩ := bcell hbe
   have hqe := hbe.size
   have hw1 := bsz (show w.heap.size < w4.heap.size by omega)
   have hw2 := bsz (show w1.heap.size < w4.heap.size by omega)
   by_cases hq : (⟨F.eng.toArray⟩ : ByteArray) = s
   ·have HQ := Lib.hid (show pOk s.data.toList = true by rw [HOK.out, HE.out, HG.out]; simp [← hq])
    go_wp2
    refine bodyPost_ret (v := .tuple #[.agg #[.int .i64 F.op, .string F.a.n, .slice z1 F.a.us.length e1, .string F.v, .slice z2 F.ps.length e2], .bool true]) (by simp only [results, Tryz.results36]; go_simp) rfl ?_
    rw [HQ.out]
    refine ⟨by have hb3 := BW.out trivial; clear hb2; exact bel, _, rfl, _, _, _, _, _, rfl, ?_⟩
    have hb3 : Below w1.heap.size w1 w4 := by exact bel
    exact FmOwn.mono _ _ _ _ (Nat.le_refl _) (fun b hb hlt => by
     have h0 : w.heap.size + 1 + 1 ≤ b := by simpa [NewB] using hb.1
     repeat rw [heap_setCell_other _ _ _ _ (by simp; omega)]
     exact hb3.block b hlt) (fun b hb => by
     have h0 : w.heap.size + 1 + 1 ≤ b := by simpa [NewB] using hb.1
     have h1 := hb.2
     exact ⟨by omega, by simp; omega⟩) HO.out
   ·have HQ := Lib.hid (show pOk s.data.toList = false by
     rw [HOK.out, HE.out, HG.out, Bool.true_and, Bool.true_and, beq_eq_false_iff_ne]
     exact fun e => hq (by rw [e]))
    have hq2 : (F.eng == s.toList) = false := by
     rw [ByteArray.toList_eq, beq_eq_false_iff_ne]
     exact fun e => hq (by rw [e])
    go_wp2
    refine bodyPost_ret (v := .tuple #[.agg #[.int .i64 0, .string ⟨#[]⟩, .slice none 0 0, .string ⟨#[]⟩, .slice none 0 0], .bool false]) (by simp only [results, Tryz.results36]; go_simp) rfl (EtfPost.no HQ.out (by have hb3 := BW.out trivial; clear hb2; exact bel))
theorem implETF_any (s : ByteArray) (hz : s.size ≤ 1000000000000) (w : World) : Calls Tryz.prog 36 #[.string s] w (EtfV (2 * s.size + 7) (etfOk s) (etfF s) w) := by
 by_cases h : s.size ≤ 12000
 ·have e : etfOk s = pOk s.data.toList := by rw [etfOk, decide_eq_true h, Bool.true_and]
  refine (implETF_short s h w).mono fun e' w' hp => ?_
  have := hp.v (m := 2 * s.size + 7) (by omega) (by omega)
  rw [etfF, e]; exact this
 ·have e : etfOk s = false := by rw [etfOk, decide_eq_false h, Bool.false_and]
  refine (implETF_long s (by omega) hz w).mono fun e' w' hp => ?_
  rw [etfF, e]; exact EtfV.zero hp (by omega)
end Go.Proofs.YtabkdonplmlbcaaGreatDoor
