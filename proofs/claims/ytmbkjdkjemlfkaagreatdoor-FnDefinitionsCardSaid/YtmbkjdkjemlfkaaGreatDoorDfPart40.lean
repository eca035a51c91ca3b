import Derived.Test.YtmbkjdkjemlfkaaGreatDoorDfPart39
namespace Go.Proofs.YtmbkjdkjemlfkaaGreatDoor
set_option maxRecDepth 100000
open Go.RowKit Go.Shelf
attribute [local go_sem] Oper.semAt_some
theorem FmAt.turned {B : Nat → Prop} {X Y : World} {row : Option Nat} {n : Nat} {t : Fm} {cs : List Value} (h : FmAt B n X t cs) (hg : X.grownBy Y row) (hr : ∀ r, row = some r → ∃ o : Obj, X.heap[r]? = some o ∧ o.isCells = false) : FmAt B n Y t cs :=
  FmAt.mono (fun b hb hl => hg.block b hl (fun e => by obtain ⟨o, ho, hc⟩ := hr b e.symm; obtain ⟨o', ho', hc'⟩ := hb.2; rw [ho] at ho'; cases ho'; rw [hc] at hc'; cases hc')) (fun _ hb => hb.1) _ _ _ _ (Nat.le_refl _) (FmAt.cells _ _ _ h)
def UnfQ (n : Nat) (f : Fm) (w : World) (e : Ending) (w' : World) : Prop := ∃ y : FC, e = .returned (.tuple #[.agg y.cs.toArray, .bool true]) ∧ y.f = f ∧ FmAt (fun b => w.heap.size ≤ b) n w' y.f y.cs ∧ Below w.heap.size w w'
set_option maxHeartbeats 6400000 in
theorem unfoldDs_any {B : Nat → Prop} (m M : Nat) (t : Fm) (D : List DC) (p : Option Addr) (c : Nat) (v0 v1 v2 v3 v4 : Value) (w : World) (h : FmAt B m w t [v0, v1, v2, v3, v4]) (hr : ListAt (fun b => b < w.heap.size) w 7 (DCAt (fun b => b < w.heap.size) M w) (.slice p D.length c) D)
    (hg : t.good = true) (hq : t.nq = true) (hok : ∀ x ∈ D, DfOk x.d) (hmid : ∀ A Bs, D.map DC.d = A ++ Bs → (uAll Bs t).2 = true ∧ (uAll Bs t).1.good = true) (hl : D.length ≤ 1000) (hvl : ∀ x ∈ D, x.vars.length ≤ 100000) :
    Calls Tryz.prog 8 #[.agg #[v0, v1, v2, v3, v4], .slice p D.length c] w (UnfQ (m + M * D.length) (uAll (D.map DC.d) t).1 w) := by
  have h := FmAt.inb _ _ _ h
  obtain ⟨pt, ct, qt, dt, rfl, rfl, rfl, rfl, rfl, -⟩ := h.form
  obtain ⟨zs, hz1, hz2, hz3, hz4⟩ := backs7 hr (fun x hx => (hok x hx).good) D.length (Nat.le_refl _)
  rw [List.take_length] at hz2
  have hwt := good_wt hg
  have hs1 := Fm.sz_wt t
  have hs2 := Fm.asz_wt t
  have H := Lib.hid h
  have HR := Lib.hid hr
  have HG := Lib.hid hg
  have HQ := Lib.hid hq
  have HOK := Lib.hid hok
  have HVL := Lib.hid hvl
  have HMID := Lib.hid hmid
  have HZ1 := Lib.hid hz1
  have HZ2 := Lib.hid hz2
  have HZ3 := Lib.hid hz3
  have HZ4 := Lib.hid hz4
  clear h hr hg hq hok hvl hmid hz1 hz2 hz3 hz4
  obtain ⟨W, hW⟩ : ∃ W : World, W = ((w.alloc (.cells #[.int .i64 t.op, .string t.a.n, .slice pt t.a.us.length ct, .string t.v, .slice qt t.ps.length dt] 29)).alloc (.cells #[.int .i64 0, .string ⟨#[]⟩, .slice none 0 0, .string ⟨#[]⟩, .slice none 0 0] 29)).alloc (.cells #[.bool false] 4) := ⟨_, rfl⟩
  obtain ⟨hsW, hbW, A0, A1, A2⟩ := three_new hW
  obtain ⟨a0, a1, a2, a3, a4⟩ := five_at A0
  have za := bsz (show w.heap.size < W.heap.size by omega)
  have HA0 := Lib.hid A0
  have HA1 := Lib.hid A1
  have HA2 := Lib.hid A2
  have HBW := Lib.hid hbW
  clear A0 A1 A2 hbW
  refine (callsIn_wide (n := 6)).1 ?_
  refine callsIn_of_wp_marks Tryz.func8 rfl trivial ?_ rfl
  simp only [Tryz.ntmps8, List.size_toArray, List.length_cons, List.length_nil, Nat.reduceAdd, Nat.reduceSub, Array.replicate_succ, Array.replicate_zero, List.push_toArray, List.append_toArray, List.nil_append, List.cons_append]
  gi_wp2_with fail
  rw [← hW]
  clear hW
  refine ⟨trivial, ?_⟩
  refine (callsIn_wide.2 (isValidFormula_any m t _ _ _ _ _ W (FmAt.below HBW.out H.out) (by omega) (by omega))).mono ?_
  rintro e w1 ⟨rfl, hb1⟩
  rw [HG.out]
  have hz1 := hb1.size
  have HA01 := Lib.hid ((hb1.block _ (by omega)).trans HA0.out)
  have HA11 := Lib.hid ((hb1.block _ (by omega)).trans HA1.out)
  have HA21 := Lib.hid ((hb1.block _ (by omega)).trans HA2.out)
  have HB1 := Lib.hid (Below.step HBW.out hb1)
  clear hb1 a0 a1 a2 a3 a4 za
  obtain ⟨a0, a1, a2, a3, a4⟩ := five_at HA01.out
  have za := bsz (blk_lt HA01.out)
  gi_wp2_with fail
  obtain ⟨W3, hW3⟩ : ∃ q, q = w1.alloc (.cells #[.int .i64 8, .int .i64 9] 3) := ⟨_, rfl⟩
  have hb3 : Below w1.heap.size w1 W3 := by rw [hW3]; exact (Below.refl _ _).alloc (Nat.le_refl _) _
  have h89 : Ops89 W3 w1.heap.size := by
    have := heap_alloc_new w1 (.cells #[.int .i64 8, .int .i64 9] 3)
    rw [← hW3] at this
    exact ⟨by rw [cell_of_row W3 _ 0 _ _ (0, 0) this]; rfl, by rw [cell_of_row W3 _ 1 _ _ (0, 0) this]; rfl⟩
  rw [← hW3]
  clear hW3
  have HB3 := Lib.hid (Below.step HB1.out hb3)
  refine ⟨trivial, ?_⟩
  refine (callsIn_wide.2 (hasOp_any w1.heap.size 2 m t _ _ _ _ _ W3 (FmAt.below HB3.out H.out) h89)).mono ?_
  rintro e w4 ⟨rfl, hb4⟩
  rw [HQ.out]
  have hz4 : w1.heap.size ≤ w4.heap.size := Nat.le_trans hb3.size hb4.size
  have HA04 := Lib.hid ((hb4.block _ (by have := hb3.size; omega)).trans ((hb3.block _ (by omega)).trans HA01.out))
  have HA14 := Lib.hid ((hb4.block _ (by have := hb3.size; omega)).trans ((hb3.block _ (by omega)).trans HA11.out))
  have HA24 := Lib.hid ((hb4.block _ (by have := hb3.size; omega)).trans ((hb3.block _ (by omega)).trans HA21.out))
  have HB4 := Lib.hid (Below.step HB3.out hb4)
  clear hb3 hb4 h89 a0 a1 a2 a3 a4 za
  gi_wp2_with fail
  refine ⟨trivial, ?_⟩
  refine (callsIn_wide.2 (containsDf M D (fun x u0 u1 u2 u3 u4 u5 u6 w' hx hd => unfold0_any M x _ _ _ _ _ _ _ w' hd (HOK.out x hx) (HVL.out x hx)) _ w4 (HR.out.mono (SameOn.below HB4.out) (fun _ h => h) (fun x cs _ hx => DCAt.below HB4.out hx)))).mono ?_
  rintro e w5 ⟨rfl, hb5⟩
  rw [nvD_any]
  have hz5 := hb5.size
  have HA05 := Lib.hid ((hb5.block _ (by omega)).trans HA04.out)
  have HA15 := Lib.hid ((hb5.block _ (by omega)).trans HA14.out)
  have HA25 := Lib.hid ((hb5.block _ (by omega)).trans HA24.out)
  have HB5 := Lib.hid (Below.step HB4.out hb5)
  clear hb5
  obtain ⟨a0, a1, a2, a3, a4⟩ := five_at HA05.out
  have za := bsz (blk_lt HA05.out)
  gi_wp2_with fail
  refine ⟨trivial, ?_⟩
  refine (callsIn_wide.2 (copyFormula_any w.heap.size m t _ _ _ _ _ w5 (FmAt.mono (SameOn.refl _ _) (fun b hb => hb.2) _ _ _ _ (Nat.le_refl _) (FmAt.below HB5.out H.out)) HB5.out.size (by omega))).mono ?_
  rintro e w6 ⟨y, rfl, hy, hf, hb6⟩
  have hz6 := hb6.size
  have HA16 := Lib.hid ((hb6.block _ (by omega)).trans HA15.out)
  have HA26 := Lib.hid ((hb6.block _ (by omega)).trans HA25.out)
  have HB6 := Lib.hid (Below.step HB5.out hb6)
  have hzw := HB5.out.size
  have HY := Lib.hid hy
  have HF6 := Lib.hid hf
  clear hb6 hy hf a0 a1 a2 a3 a4 za
  rw [show y.cs.toArray = #[.int .i64 y.f.op, .string y.f.a.n, .slice y.p y.f.a.us.length y.c, .string y.f.v, .slice y.q y.f.ps.length y.d] from rfl]
  gi_wp2_with fail
  refine ⟨trivial, ?_⟩
  refine (backD_in Fence.wide _ trivial rfl _ _ _ _).mono ?_
  rintro e w7 ⟨rfl, rfl⟩
  gi_wp2_with fail
  obtain ⟨y0, hy0⟩ : ∃ q, q = Value.int IntKind.i64 y.f.op := ⟨_, rfl⟩
  obtain ⟨y1, hy1⟩ : ∃ q, q = Value.string y.f.a.n := ⟨_, rfl⟩
  obtain ⟨y2, hy2⟩ : ∃ q, q = Value.slice y.p y.f.a.us.length y.c := ⟨_, rfl⟩
  obtain ⟨y3, hy3⟩ : ∃ q, q = Value.string y.f.v := ⟨_, rfl⟩
  obtain ⟨y4, hy4⟩ : ∃ q, q = Value.slice y.q y.f.ps.length y.d := ⟨_, rfl⟩
  have hf6 : FmAt (fun b => w5.heap.size ≤ b ∧ b < w6.heap.size) m w6 t [y0, y1, y2, y3, y4] := by
    have h := HF6.out
    rw [show y.cs = [.int .i64 y.f.op, .string y.f.a.n, .slice y.p y.f.a.us.length y.c, .string y.f.v, .slice y.q y.f.ps.length y.d] from rfl, ← hy0, ← hy1, ← hy2, ← hy3, ← hy4, HY.out] at h
    exact h
  rw [← hy0, ← hy1, ← hy2, ← hy3, ← hy4]
  clear hy0 hy1 hy2 hy3 hy4
  obtain ⟨W0, hW0⟩ : ∃ W0 : World, W0 = (w6.alloc (.cells #[y0, y1, y2, y3, y4] 29)).alloc (.cells #[.slice p D.length c] 31) := ⟨_, rfl⟩
  have hb06 : Below w6.heap.size w6 W0 := by rw [hW0]; exact bel
  have hs0 : W0.heap.size = w6.heap.size + 2 := by rw [hW0]; simp
  have bxF : BoxN W0 w6.heap.size 29 #[y0, y1, y2, y3, y4] := by rw [hW0]; exact BoxN.al (heap_alloc_new w6 _) _
  have bxS : BoxN W0 (w6.heap.size + 1) 31 #[.slice p D.length c] := by
    rw [hW0]
    have := heap_alloc_new (w6.alloc (.cells #[y0, y1, y2, y3, y4] 29)) (.cells #[.slice p D.length c] 31)
    simpa [BoxN] using this
  have bxR : BoxN W0 (w.heap.size + 1) 29 #[.int .i64 0, .string ⟨#[]⟩, .slice none 0 0, .string ⟨#[]⟩, .slice none 0 0] := (hb06.block _ (by omega)).trans HA16.out
  have bxB : BoxN W0 (w.heap.size + 2) 4 #[.bool false] := (hb06.block _ (by omega)).trans HA26.out
  have hB0 : Below w.heap.size w W0 := Below.step HB6.out hb06
  have hbl : ∀ k (h : k < zs.length), ∃ b o, p = some ⟨b, o, none⟩ ∧ b < w.heap.size ∧ W0.cell? ⟨b, o + k * 7, none⟩ = some (.string zs[k].1.1.name) ∧ W0.cell? ⟨b, o + k * 7 + 1, none⟩ = some (.slice zs[k].1.1.p zs[k].1.1.vars.length zs[k].1.1.c) ∧ W0.cell? ⟨b, o + k * 7 + 2, none⟩ = some (.int .i64 zs[k].1.1.f.f.op) ∧ W0.cell? ⟨b, o + k * 7 + 3, none⟩ = some (.string zs[k].1.1.f.f.a.n) ∧ W0.cell? ⟨b, o + k * 7 + 4, none⟩ = some (.slice zs[k].1.1.f.p zs[k].1.1.f.f.a.us.length zs[k].1.1.f.c) ∧ W0.cell? ⟨b, o + k * 7 + 5, none⟩ = some (.string zs[k].1.1.f.f.v) ∧ W0.cell? ⟨b, o + k * 7 + 6, none⟩ = some (.slice zs[k].1.1.f.q zs[k].1.1.f.f.ps.length zs[k].1.1.f.d) := fun k h => by
    obtain ⟨b', o', e, h1, c0, c1, c2, c3, c4, c5, c6⟩ := HZ4.out k h
    exact ⟨b', o', e, h1, (hB0.cell (p := ⟨b', _, none⟩) h1).trans c0, (hB0.cell (p := ⟨b', _, none⟩) h1).trans c1, (hB0.cell (p := ⟨b', _, none⟩) h1).trans c2, (hB0.cell (p := ⟨b', _, none⟩) h1).trans c3, (hB0.cell (p := ⟨b', _, none⟩) h1).trans c4, (hB0.cell (p := ⟨b', _, none⟩) h1).trans c5, (hB0.cell (p := ⟨b', _, none⟩) h1).trans c6⟩
  have bxS' : W0.cell? ⟨w6.heap.size + 1, 0, none⟩ = some (.slice p zs.length c) := by rw [HZ1.out]; exact bxS.cell 0
  have hF0 : FmAt (fun b => w.heap.size + 2 < b ∧ b ≠ w6.heap.size) (m + M * 0) W0 t [y0, y1, y2, y3, y4] := FmAt.mono (SameOn.below hb06) (fun b hb => ⟨by have := hb.1; omega, by have := hb.2; omega⟩) _ _ _ _ (by omega) hf6
  rw [show w.heap.size + 1 + 1 = w.heap.size + 2 from rfl]
  rw [← hW0]
  have hzl := HZ1.out
  clear hW0 bxS hf6
  refine wpIn_rangeFunc_ownH (F := Fence.wide) (n := 6) rfl (by omega) (gf := 54) (lb := #[.pointer (some ⟨w6.heap.size + 1, 0, none⟩)]) rfl trivial (enters_of Tryz.func54 (by kernel_rfl) rfl)
    (backD_stops (fun x : BackX7 (fun b => b < w.heap.size) M w => x.1.2) (fun x => .string x.1.1.name) (fun x => .slice x.1.1.p x.1.1.vars.length x.1.1.c) (fun x => .int .i64 x.1.1.f.f.op) (fun x => .string x.1.1.f.f.a.n) (fun x => .slice x.1.1.f.p x.1.1.f.f.a.us.length x.1.1.f.c) (fun x => .string x.1.1.f.f.v) (fun x => .slice x.1.1.f.q x.1.1.f.f.ps.length x.1.1.f.d) Fence.wide 5 trivial rfl (by omega) (w6.heap.size + 1) w.heap.size p c zs (by omega) HZ3.out W0 (by omega) bxS' hbl)
    (fun h k => h.trans k)
    (fun W l o o' hl h h1 h2 => ⟨belowK_b (w := W0) (by omega) W l o o' hl h h1 h2, fun hlt => World.putObj_heap_other (fun e => by omega)⟩)
    (Below.refl _ _) (fun _ => rfl)
    (fun pre W => ((∃ (f : Fm) (u0 u1 u2 u3 u4 : Value), (BoxN W w6.heap.size 29 #[u0, u1, u2, u3, u4] ∧ FmAt (fun b => w.heap.size + 2 < b ∧ b ≠ w6.heap.size) (m + M * pre.length) W f [u0, u1, u2, u3, u4]) ∧ f.good = true ∧ ((∃ k, zs.drop k = pre.reverse) → f = (uAll (pre.reverse.map (fun x => x.1.1.d)) t).1)) ∧
      (BoxN W (w.heap.size + 1) 29 #[.int .i64 0, .string ⟨#[]⟩, .slice none 0 0, .string ⟨#[]⟩, .slice none 0 0] ∧ BoxN W (w.heap.size + 2) 4 #[.bool false])) ∧ (Below w.heap.size w W ∧ W0.heap.size ≤ W.heap.size))
    (fun _ pre _ => ¬ ∃ k, zs.drop k = pre.reverse)
    (OwnFrom.and (OwnFrom.and (fun s X Y row hs hg hr => by
      obtain ⟨f, u0, u1, u2, u3, u4, ⟨h1, h2⟩, h3⟩ := hs
      exact ⟨f, u0, u1, u2, u3, u4, ⟨boxN_own w6.heap.size 29 (fun (_ : Unit) => #[u0, u1, u2, u3, u4]) () X Y row h1 hg (fun r e => (hr r e).2), h2.turned hg (fun r e => (hr r e).2)⟩, h3⟩) (OwnFrom.and (Own.from (boxN_own _ _ _) _) (Own.from (boxN_own _ _ _) _))) (OwnFrom.and (ownFrom_below (Nat.le_refl _) (by omega)) (fun s X Y row hs hg hr => Nat.le_trans hs hg.size)))
    (fun _ _ _ _ _ hs _ _ => hs)
    ⟨⟨⟨t, _, _, _, _, _, ⟨bxF, hF0⟩, HG.out, fun _ => by rw [List.reverse_nil, List.map_nil, uAll]⟩, bxR, bxB⟩, hB0, Nat.le_refl _⟩
    (fun x a' W => ∃ Bx, w6.heap.size + 1 < Bx ∧ BoxN W Bx 60 #[.string x.1.1.name, .slice x.1.1.p x.1.1.vars.length x.1.1.c, .int .i64 x.1.1.f.f.op, .string x.1.1.f.f.a.n, .slice x.1.1.f.p x.1.1.f.f.a.us.length x.1.1.f.c, .string x.1.1.f.f.v, .slice x.1.1.f.q x.1.1.f.f.ps.length x.1.1.f.d] ∧ a' = { tmps := #[Value.agg #[Value.int IntKind.i64 t.op, Value.string t.a.n, Value.slice pt t.a.us.length ct, Value.string t.v, Value.slice qt t.ps.length dt], Value.slice p D.length c, Value.pointer (some ⟨w.heap.size, 0, none⟩), undef, Value.pointer (some ⟨w.heap.size + 1, 0, none⟩), Value.pointer (some ⟨w.heap.size + 2, 0, none⟩), Value.pointer (some ⟨w6.heap.size, 0, none⟩), undef, Value.pointer (some ⟨Bx, 0, none⟩), undef, undef, Value.agg #[Value.int IntKind.i64 t.op, Value.string t.a.n, Value.slice pt t.a.us.length ct, Value.string t.v, Value.slice qt t.ps.length dt], Value.bool true, Value.bool false, Value.bool false, Value.agg #[Value.int IntKind.i64 t.op, Value.string t.a.n, Value.slice pt t.a.us.length ct, Value.string t.v, Value.slice qt t.ps.length dt], Value.slice (some ⟨w1.heap.size, 0, none⟩) 2 2, Value.bool false, Value.bool false, Value.bool false, Value.slice p D.length c, Value.bool false, Value.bool false, undef, Value.agg #[Value.int IntKind.i64 t.op, Value.string t.a.n, Value.slice pt t.a.us.length ct, Value.string t.v, Value.slice qt t.ps.length dt], Value.agg #[y0, y1, y2, y3, y4], Value.slice p D.length c, Value.func (Fn.func 54) #[] #[Value.pointer (some ⟨w6.heap.size + 1, 0, none⟩)], Value.int .i64 x.1.2, Value.agg #[.string x.1.1.name, .slice x.1.1.p x.1.1.vars.length x.1.1.c, .int .i64 x.1.1.f.f.op, .string x.1.1.f.f.a.n, .slice x.1.1.f.p x.1.1.f.f.a.us.length x.1.1.f.c, .string x.1.1.f.f.v, .slice x.1.1.f.q x.1.1.f.f.ps.length x.1.1.f.d], undef, undef, undef, undef, undef, undef, undef, undef, undef, undef, undef, undef, undef, undef, undef, undef], defers := [] })
    (fun x a' _ X Y row hs hg hr => by
      obtain ⟨Bx, h1, h2, h3⟩ := hs
      exact ⟨Bx, h1, boxN_own Bx 60 (fun (_ : Unit) => #[.string x.1.1.name, .slice x.1.1.p x.1.1.vars.length x.1.1.c, .int .i64 x.1.1.f.f.op, .string x.1.1.f.f.a.n, .slice x.1.1.f.p x.1.1.f.f.a.us.length x.1.1.f.c, .string x.1.1.f.f.v, .slice x.1.1.f.q x.1.1.f.f.ps.length x.1.1.f.d]) () X Y row h2 hg (fun r e => (hr r e).2), h3⟩)
    ?assign ?body ?done ?stop
  case assign =>
    rintro l pre ⟨⟨x, idx⟩, hxl, hxg⟩ W K ⟨⟨⟨f, u0, u1, u2, u3, u4, ⟨h1, h2⟩, h3⟩, h4, h5⟩, ⟨hBW, hsz⟩⟩ hK
    gi_wp2
    exact hK _ _ ((KeepsOthers.alloc _ _).from _) ⟨(Below.refl _ W).alloc hBW.size _, fun hl => Below.heap_alloc W _ _ hl⟩
      ⟨⟨⟨f, _, _, _, _, _, ⟨h1.al _, FmAt.below ((Below.refl _ W).alloc (Nat.le_refl _) _) h2⟩, h3⟩, h4.al _, h5.al _⟩, hBW.alloc hBW.size _, by simp; omega⟩ ⟨W.heap.size, by omega, heap_alloc_new W _, rfl⟩
  case body =>
    rintro l pre ⟨⟨x, idx⟩, hxl, hxg⟩ a' W hl - ⟨⟨⟨f, u0, u1, u2, u3, u4, ⟨bF1, hf⟩, hfg, hfp⟩, bR1, bB1⟩, ⟨hBW, hsz⟩⟩ ⟨Bx, hBx, bX, rfl⟩ hlt
    have hxl' : DAt (fun b => b < w.heap.size) M w x := hxl
    have hxg' : x.f.f.good = true := hxg
    obtain ⟨XX, hXX⟩ : ∃ XX : BackX7 (fun b => b < w.heap.size) M w, XX = ⟨(x, idx), hxl, hxg⟩ := ⟨_, rfl⟩
    have HP := Lib.hid (show (∃ k, zs.drop k = (pre ++ [XX]).reverse) → (unfD x.d f).2 = true ∧ (unfD x.d f).1.good = true ∧ (unfD x.d f).1 = (uAll ((pre ++ [XX]).reverse.map (fun x => x.1.1.d)) t).1 from fun ⟨k, hk⟩ => by
      rw [List.reverse_append, List.reverse_cons, List.reverse_nil, List.nil_append, List.singleton_append] at hk ⊢
      have hk1 : zs.drop (k + 1) = pre.reverse := by rw [← List.tail_drop, hk]; rfl
      have hfe := hfp ⟨k + 1, hk1⟩
      have hD : D.map DC.d = ((zs.take k).map (fun x => x.1.1.d)) ++ (XX :: pre.reverse).map (fun x => x.1.1.d) := by
        rw [← hk, ← List.map_append, List.take_append_drop, ← HZ2.out, List.map_map]; rfl
      obtain ⟨m1, m2⟩ := HMID.out _ _ hD
      have hXd : XX.1.1.d = x.d := by rw [hXX]
      rw [List.map_cons, hXd, uAll, ← hfe] at m1 m2
      rw [List.map_cons, hXd, uAll, ← hfe]
      rw [Bool.and_eq_true] at m1
      exact ⟨m1.2, m2, rfl⟩)
    rw [← hXX]
    clear hXX hfp
    have hxw := good_wt hxg'
    have hfw := good_wt hfg
    have HSM := Lib.hid (unfD_small (d := x.d) (f := f) hxg' hfg)
    have hf := FmAt.inb _ _ _ hf
    obtain ⟨pf, cf, qf, df, rfl, rfl, rfl, rfl, rfl, -⟩ := hf.form
    simp only at bX
    have HF := Lib.hid hf
    have HX := Lib.hid (hxl'.mono (w' := W) (B' := fun b => b < W.heap.size) (SameOn.below hBW) (fun b hb => Nat.lt_of_lt_of_le hb hBW.size) (Nat.le_refl _))
    have HBW2 := Lib.hid hBW
    have k0 := bX.cell 0
    have k1 := bX.cell 1
    have k2 := bX.cell 2
    have k3 := bX.cell 3
    have k4 := bX.cell 4
    have k5 := bX.cell 5
    have k6 := bX.cell 6
    have f0 := bF1.cell 0
    have f1 := bF1.cell 1
    have f2 := bF1.cell 2
    have f3 := bF1.cell 3
    have f4 := bF1.cell 4
    have zX := bsz bX.lt
    have zF := bsz bF1.lt
    have zR := bsz bR1.lt
    have zB := bsz bB1.lt
    simp only [List.getElem?_toArray, List.getElem?_cons_zero, List.getElem?_cons_succ] at k0 k1 k2 k3 k4 k5 k6 f0 f1 f2 f3 f4
    have h1' : 1 ≤ 6 - 1 - 1 := by omega
    have hgx := hxg'
    clear hf hxl' hxg' hfg hBW
    gi_wp2_with fail
    refine ⟨trivial, ?_⟩
    refine (CallsIn.inRound l (callsIn_wide.2 (unfold_any W.heap.size M x (by omega) (m + M * pre.length) f _ _ _ _ _ W (FmAt.mono (SameOn.refl _ _) (fun b hb => hb.2) _ _ _ _ (Nat.le_refl _) HF.out) (Nat.le_refl _) HX.out (by omega)))).mono ?_
    rintro e w2 ⟨y', rfl, hy', hf2, hb2⟩
    rw [show y'.cs.toArray = #[.int .i64 y'.f.op, .string y'.f.a.n, .slice y'.p y'.f.a.us.length y'.c, .string y'.f.v, .slice y'.q y'.f.ps.length y'.d] from rfl]
    have hq2 := hb2.size
    have bF2 := bF1.below hb2 bF1.lt
    have bR2 := bR1.below hb2 bR1.lt
    have bB2 := bB1.below hb2 bB1.lt
    have HF2 := Lib.hid hf2
    have HY' := Lib.hid hy'
    rw [← hy'] at HP HSM
    clear hf2 hy' k0 k1 k2 k3 k4 k5 k6 f0 f1 f2 f3 f4 zX zF zR zB
    obtain ⟨W9, hW9⟩ : ∃ q, q = w2.alloc (.cells #[.int .i64 y'.f.op, .string y'.f.a.n, .slice y'.p y'.f.a.us.length y'.c, .string y'.f.v, .slice y'.q y'.f.ps.length y'.d] 29) := ⟨_, rfl⟩
    have hb9 : Below w2.heap.size w2 W9 := by rw [hW9]; exact (Below.refl _ _).alloc (Nat.le_refl _) _
    have hs9 : W9.heap.size = w2.heap.size + 1 := by rw [hW9]; simp
    have b9 : BoxN W9 w2.heap.size 29 #[.int .i64 y'.f.op, .string y'.f.a.n, .slice y'.p y'.f.a.us.length y'.c, .string y'.f.v, .slice y'.q y'.f.ps.length y'.d] := by rw [hW9]; exact heap_alloc_new w2 _
    have bF9 := bF2.below hb9 bF2.lt
    have bR9 := bR2.below hb9 bR2.lt
    have bB9 := bB2.below hb9 bB2.lt
    have hb29 : Below W.heap.size W W9 := Below.step hb2 hb9
    cases hfl : (unfD x.d f).2
    · have HNP := Lib.hid (show ¬ ∃ k, zs.drop k = (pre ++ [XX]).reverse from fun hk => by have := (HP.out hk).1; rw [hfl] at this; cases this)
      clear hfl
      have r0 := bR2.cell 0
      have r1 := bR2.cell 1
      have r2 := bR2.cell 2
      have r3 := bR2.cell 3
      have r4 := bR2.cell 4
      have rf := fun j => bR2.frozen j
      have s0 := bB2.cell 0
      have sf := fun j => bB2.frozen j
      have zR := bsz bR2.lt
      have zB := bsz bB2.lt
      simp only [List.getElem?_toArray, List.getElem?_cons_zero, List.getElem?_cons_succ] at r0 r1 r2 r3 r4 s0
      gi_wp2
      refine ⟨trivial, ?_⟩
      gi_wp2
      exact ⟨(keepsFrom_below hb2).trans ((((set5_keeps w2 (w.heap.size + 1) _ _ _ _ _).trans (KeepsOthers.setCell _ _ _)).trans (KeepsOthers.alloc _ _)).from _), HNP.out⟩
    · gi_wp2_with fail
      rw [← hW9]
      clear hW9
      refine ⟨trivial, ?_⟩
      refine (CallsIn.inRound l (callsIn_wide.2 (isValidFormula_any _ y'.f _ _ _ _ _ W9 (FmAt.below hb9 HF2.out) HSM.out.1 HSM.out.2))).mono ?_
      rintro e w3 ⟨rfl, hb3⟩
      have hq3 := hb3.size
      have b93 := b9.below hb3 b9.lt
      have bF3 := bF9.below hb3 bF9.lt
      have bR3 := bR9.below hb3 bR9.lt
      have bB3 := bB9.below hb3 bB9.lt
      have hb239 : Below W.heap.size W w3 := Below.step hb29 hb3
      cases hgd : y'.f.good
      · have HNP := Lib.hid (show ¬ ∃ k, zs.drop k = (pre ++ [XX]).reverse from fun hk => by have := (HP.out hk).2.1; rw [hgd] at this; cases this)
        clear hgd
        have r0 := bR3.cell 0
        have r1 := bR3.cell 1
        have r2 := bR3.cell 2
        have r3 := bR3.cell 3
        have r4 := bR3.cell 4
        have rf := fun j => bR3.frozen j
        have s0 := bB3.cell 0
        have sf := fun j => bB3.frozen j
        have zR := bsz bR3.lt
        have zB := bsz bB3.lt
        simp only [List.getElem?_toArray, List.getElem?_cons_zero, List.getElem?_cons_succ] at r0 r1 r2 r3 r4 s0
        gi_wp2
        exact ⟨(keepsFrom_below hb239).trans (((set5_keeps w3 (w.heap.size + 1) _ _ _ _ _).trans (KeepsOthers.setCell _ _ _)).from _), HNP.out⟩
      · have HGD := Lib.hid hgd
        clear hgd
        have d0 := b93.cell 0
        have d1 := b93.cell 1
        have d2 := b93.cell 2
        have d3 := b93.cell 3
        have d4 := b93.cell 4
        have f0 := bF3.cell 0
        have f1 := bF3.cell 1
        have f2 := bF3.cell 2
        have f3 := bF3.cell 3
        have f4 := bF3.cell 4
        have ff := fun j => bF3.frozen j
        have zD := bsz b93.lt
        have zF := bsz bF3.lt
        simp only [List.getElem?_toArray, List.getElem?_cons_zero, List.getElem?_cons_succ] at d0 d1 d2 d3 d4 f0 f1 f2 f3 f4
        gi_wp2
        have hlF := bF1.lt
        have hbW := HBW2.out
        have hzw2 := hbW.size
        refine ⟨(keepsFrom_below hb239).trans ((set5_keeps w3 w6.heap.size _ _ _ _ _).from _), ⟨(hb239.mono hzw2).trans (set5_below w3 _ _ _ _ _ (by omega)), fun hl => (set5_other w3 _ _ _ _ _ (by omega)).trans (hb239.block _ hl)⟩,
          ⟨⟨y'.f, _, _, _, _, _, ⟨bF3.set5 _ _ _ _ _, ?_⟩, HGD.out, fun hk => (HP.out hk).2.2⟩, (set5_other w3 _ _ _ _ _ (by omega)).trans bR3, (set5_other w3 _ _ _ _ _ (by omega)).trans bB3⟩, (hbW.trans (hb239.mono hzw2)).trans (set5_below w3 _ _ _ _ _ (by omega)), Nat.le_trans (show W0.heap.size ≤ w3.heap.size by omega) (set5_keeps w3 w6.heap.size _ _ _ _ _).size⟩
        refine FmAt.mono (fun b hb _ => set5_other w3 _ _ _ _ _ (by have := hb.1; omega)) (fun b hb => ⟨by have := hb.1; omega, by have := hb.1; omega⟩) _ _ _ _ (by rw [List.length_append, Nat.mul_add]; simp; omega) (FmAt.below hb3 (FmAt.below hb9 HF2.out))
  case done =>
    rintro D' ys W hD' rfl ⟨⟨⟨f, u0, u1, u2, u3, u4, ⟨bF1, hf⟩, hfg, hfp⟩, bR1, bB1⟩, ⟨hBW, hsz⟩⟩ hK
    have hfe := hfp ⟨0, by rw [List.drop_zero, List.reverse_reverse]⟩
    rw [List.reverse_reverse, show zs.map (fun x => x.1.1.d) = D.map DC.d by rw [← HZ2.out, List.map_map]; rfl] at hfe
    obtain ⟨pf, cf, qf, df, rfl, rfl, rfl, rfl, rfl, -⟩ := hf.form
    have f0 := bF1.cell 0
    have f1 := bF1.cell 1
    have f2 := bF1.cell 2
    have f3 := bF1.cell 3
    have f4 := bF1.cell 4
    have g0 := bR1.cell 0
    have g1 := bR1.cell 1
    have g2 := bR1.cell 2
    have g3 := bR1.cell 3
    have g4 := bR1.cell 4
    have gf := fun j => bR1.frozen j
    have s0 := bB1.cell 0
    have sf := fun j => bB1.frozen j
    simp only [List.getElem?_toArray, List.getElem?_cons_zero, List.getElem?_cons_succ] at f0 f1 f2 f3 f4 g0 g1 g2 g3 g4 s0
    have HFE := Lib.hid hfe
    have HF := Lib.hid hf
    clear hfp hfe hf
    gi_wp2
    have hK' := ((set5_keeps W (w.heap.size + 1) (.int .i64 f.op) (.string f.a.n) (.slice pf f.a.us.length cf) (.string f.v) (.slice qf f.ps.length df)).trans (KeepsOthers.setCell _ ⟨w.heap.size + 2, 0, none⟩ (.bool true))).same D' _ hK rfl
    refine ⟨by simp, .inl ⟨_, _, rfl, run_takeDeferred hK', ?_⟩⟩
    have bR2 := (bR1.set5 (.int .i64 f.op) (.string f.a.n) (.slice pf f.a.us.length cf) (.string f.v) (.slice qf f.ps.length df)).other (b' := w.heap.size + 2) (i := 0) (by omega) (.bool true)
    have bB2 : BoxN ((set5W W (w.heap.size + 1) (.int .i64 f.op) (.string f.a.n) (.slice pf f.a.us.length cf) (.string f.v) (.slice qf f.ps.length df)).setCell ⟨w.heap.size + 2, 0, none⟩ (.bool true)) (w.heap.size + 2) 4 #[.bool true] := BoxN.set (cs := #[.bool false]) ((set5_other W _ _ _ _ _ (by omega)).trans bB1) 0 (.bool true)
    have bR3 := bR2.kept (grownBy_putObj' _ D' (.deferred none)) (fun e => by have := bR1.lt; have := bF1.lt; cases e; omega)
    have bB3 := bB2.kept (grownBy_putObj' _ D' (.deferred none)) (fun e => by cases e; omega)
    have p0 := bR3.cell 0
    have p1 := bR3.cell 1
    have p2 := bR3.cell 2
    have p3 := bR3.cell 3
    have p4 := bR3.cell 4
    have t0 := bB3.cell 0
    simp only [List.getElem?_toArray, List.getElem?_cons_zero, List.getElem?_cons_succ] at p0 p1 p2 p3 p4 t0
    refine ⟨.tuple #[.agg #[.int .i64 f.op, .string f.a.n, .slice pf f.a.us.length cf, .string f.v, .slice qf f.ps.length df], .bool true], ?_, ⟨⟨f, pf, cf, qf, df⟩, rfl, HFE.out, ?_, ?_⟩⟩
    · simp [results, Tryz.results8, go_sem, p0, p1, p2, p3, p4, t0]
    · have h1 := FmAt.mono (w' := (set5W W (w.heap.size + 1) (.int .i64 f.op) (.string f.a.n) (.slice pf f.a.us.length cf) (.string f.v) (.slice qf f.ps.length df)).setCell ⟨w.heap.size + 2, 0, none⟩ (.bool true)) (B' := fun b => w.heap.size + 2 < b ∧ b ≠ w6.heap.size) (fun b hb _ => (heap_setCell_other _ ⟨w.heap.size + 2, 0, none⟩ b _ (by show b ≠ w.heap.size + 2; have := hb.1; omega)).trans (set5_other W _ _ _ _ _ (by have := hb.1; omega))) (fun b hb => hb) _ _ _ _ (Nat.le_refl _) HF.out
      refine FmAt.mono (SameOn.refl _ _) (fun b hb => by have := hb.1; omega) _ _ _ _ (by rw [List.length_reverse, hzl]; omega) (h1.turned (grownBy_putObj' _ D' (.deferred none)) (fun r e => by cases e; exact ⟨_, hK', rfl⟩))
    · exact ((hBW.trans (set5_below W _ _ _ _ _ (by omega))).setCell (p := ⟨w.heap.size + 2, 0, none⟩) (by show w.heap.size ≤ w.heap.size + 2; omega) _).trans (belowK_b (w := w) (Nat.le_refl _) _ D' _ _ (by omega) hK' rfl rfl)
  case stop =>
    rintro D' c' pre W hD' hSp hIx _
    exact absurd hSp hIx
open Go.RowKit
theorem dcOk_agree (t : Fm) : dcOk (inS t.syms) t = dcOk (inS (Tm.symIs t.atoms [])) t := by
  cases hg : t.good && t.nq && t.nnf
  · rw [dcOk_no hg, dcOk_no hg]
  · have hf : t.form = true := by
      simp only [Bool.and_eq_true] at hg
      have := hg.1.1
      rw [Fm.good, Bool.and_eq_true] at this
      exact this.2
    rw [dcOk, dcOk, dfn_congr (vf := vfD) (fun j => taken_agree hf j) t false 0]
theorem dc_facts {t : Fm} {E : List Dfn} {g : Fm} (h : dcOk (inS (Tm.symIs t.atoms [])) t = true) (hE : E = (dfn (inS (Tm.symIs t.atoms [])) vfD t false 0).2.2) (hg : g = (dfn (inS (Tm.symIs t.atoms [])) vfD t false 0).1) :
    g.good = true ∧ g.nq = true ∧ (∀ d ∈ E, DfOk d) ∧ (∀ A Bs, E = A ++ Bs → (uAll Bs g).2 = true ∧ (uAll Bs g).1.good = true) ∧ (uAll E g).1 = t ∧ E.length ≤ 40 ∧ ∀ d ∈ E, d.vars.length ≤ 4 := by
  subst hE hg
  rw [dcOk] at h
  simp only [Bool.and_eq_true, Bool.not_eq_true'] at h
  obtain ⟨⟨⟨⟨h1, h2⟩, -⟩, h3⟩, h4⟩ := h
  obtain ⟨hR, -, hd⟩ := def_all h1 h2 h3
  have hz : t.sz ≤ 40 := by rw [Fm.good, Bool.and_eq_true, decide_eq_true_eq] at h1; exact h1.1
  have hq := (hR.mid _ [] (List.append_nil _).symm).2.2.2
  rw [uAll] at hq
  refine ⟨h4, hq, fun d hd' => ?_, fun A Bs e => ?_, by rw [hR.back], Nat.le_trans (dfn_cnt (S := inS (Tm.symIs t.atoms [])) (vf := vfD) t false 0) hz, fun d hd' => ?_⟩
  · obtain ⟨d1, d2, d3, d4, d5⟩ := hd d hd'
    exact ⟨d1, d2, d3, d4, d5⟩
  · obtain ⟨m1, m2, m3, -⟩ := hR.mid A Bs e
    exact ⟨m1, by rw [Fm.good, m2, Bool.and_true, decide_eq_true_eq]; omega⟩
  · rw [tooMany, List.any_eq_false] at h3
    have := h3 d hd'
    simp only [decide_eq_true_eq] at this
    omega
theorem vBigD_any (pp : Option Addr) (nn cc : Nat) (w : World) : Calls Tryz.prog 4 #[.slice pp nn cc] w fun e w' => e = .returned (.bool (decide ((65536 : Int) < (nn : Int)))) ∧ w = w' := by
  go_enter Tryz.func4, Tryz.ntmps4
  go_wp2
  go_ret
  exact ⟨rfl, rfl⟩
set_option maxHeartbeats 6400000 in
theorem fnDefinitions_small (pp : Option Addr) (nn cc : Nat) (w : World) (hE : Env w) (h : CodeIn w (.slice pp nn cc)) (hn : nn ≤ 65536) :
    Calls Tryz.prog 3 #[.slice pp nn cc] w fun e w' => e = .returned (.bool true) ∧ Below w.heap.size w w' := by
  have H := Lib.hid h
  have HE := Lib.hid hE
  have hGw := hE.size
  have hnn : ¬ (65536 : Int) < (nn : Int) := by omega
  clear h hE
  go_enter Tryz.func3, Tryz.ntmps3
  go_wp2_with fail
  refine (vBigD_any _ _ _ _).mono ?_
  rintro e w' ⟨rfl, rfl⟩
  go_wp2_with fail
  refine (drawDC_any pp nn cc _ H.out).mono ?_
  rintro e w1 ⟨f, rfl, hf, hwt, hb1⟩
  rw [fc_agg]
  obtain ⟨W1, hW1⟩ : ∃ q' : World, q' = w1.alloc (.cells #[.int .i64 f.f.op, .string f.f.a.n, .slice f.p f.f.a.us.length f.c, .string f.f.v, .slice f.q f.f.ps.length f.d] 29) := ⟨_, rfl⟩
  have hbW1 : Below w1.heap.size w1 W1 := by rw [hW1]; exact (Below.refl _ _).alloc (Nat.le_refl _) _
  have hzW1 : W1.heap.size = w1.heap.size + 1 := by rw [hW1]; simp
  have B1 := Lib.hid (show W1.heap[w1.heap.size]? = some (.cells #[.int .i64 f.f.op, .string f.f.a.n, .slice f.p f.f.a.us.length f.c, .string f.f.v, .slice f.q f.f.ps.length f.d] 29 (0, 0)) by rw [hW1]; exact heap_alloc_new w1 _)
  have HF := Lib.hid (FmAt.below hbW1 hf)
  have HB1 := Lib.hid (Below.step hb1 hbW1)
  have hz1 := hb1.size
  clear hf hb1 hbW1
  go_wp2_with fail
  rw [← hW1]
  clear hW1
  refine (defineC_any 61 f.f _ _ _ _ _ W1 (HE.out.below HB1.out) HF.out (fun b hb => by have := hb.1; omega) (by omega)).mono ?_
  rintro e w2 ⟨hb2, hcase⟩
  have hz2 := hb2.size
  have HAG := Lib.hid (dcOk_agree f.f)
  have HSY := Lib.hid (show f.f.good = true → ∀ j, 99999 < j → inS f.f.syms (dNm j) = false from fun hg j hj => by
    rw [Fm.good, Bool.and_eq_true] at hg
    rw [taken_agree hg.2]
    exact taken_short j hj)
  rcases hcase with ⟨hno, rfl⟩ | ⟨hyes, y, lv, D, rfl, hy, hfy, hrow, hds, heach⟩
  · rw [show fmZa = #[.int .i64 0, .string ⟨#[]⟩, .slice none 0 0, .string ⟨#[]⟩, .slice none 0 0] from rfl]
    obtain ⟨W3, hW3⟩ : ∃ q' : World, q' = w2.alloc (.cells #[.int .i64 0, .string ⟨#[]⟩, .slice none 0 0, .string ⟨#[]⟩, .slice none 0 0] 29) := ⟨_, rfl⟩
    have hb3 : Below w2.heap.size w2 W3 := by rw [hW3]; exact (Below.refl _ _).alloc (Nat.le_refl _) _
    have hz3 : W3.heap.size = w2.heap.size + 1 := by rw [hW3]; simp
    have C2 := Lib.hid ((hb2.block _ (blk_lt B1.out)).trans B1.out)
    have C3 := Lib.hid ((hb3.block _ (blk_lt C2.out)).trans C2.out)
    have D3 := Lib.hid (show W3.heap[w2.heap.size]? = some (.cells #[.int .i64 0, .string ⟨#[]⟩, .slice none 0 0, .string ⟨#[]⟩, .slice none 0 0] 29 (0, 0)) by rw [hW3]; exact heap_alloc_new w2 _)
    have HB3 := Lib.hid (Below.step HB1.out (Below.step hb2 hb3))
    have HF3 := Lib.hid (FmAt.below (Below.step hb2 hb3) HF.out)
    obtain ⟨a0, a1, a2, a3, a4⟩ := five_at C2.out
    have za := bsz (blk_lt C2.out)
    have HNO := Lib.hid (show dcOk (inS f.f.syms) f.f = false by rw [HAG.out]; exact hno)
    clear hno
    go_wp2_with fail
    rw [← hW3]
    clear hW3
    refine (specDC_any 61 f.f _ _ _ _ _ W3 HF3.out (by omega) HSY.out).mono ?_
    rintro e w4 ⟨y3, lv3, rfl, hb4⟩
    rw [HNO.out, fc_agg]
    have B4 := Lib.hid ((hb4.block _ (blk_lt D3.out)).trans D3.out)
    have HB4 := Lib.hid (Below.step HB3.out hb4)
    clear hb4 a0 a1 a2 a3 a4 za
    obtain ⟨g0, g1, g2, g3, g4⟩ := five_at B4.out
    have zg := bsz (blk_lt B4.out)
    have hbe := HB4.out
    go_wp2
    go_ret
    exact ⟨rfl, by exact bel⟩
  · obtain ⟨pl, cl, rfl⟩ := own_slice hrow
    have HFY := Lib.hid hfy
    have HROW := Lib.hid hrow
    have HDS := Lib.hid hds
    have HEA := Lib.hid heach
    have HYE := Lib.hid hy
    have HFA := Lib.hid (dc_facts hyes hds.symm.symm hy)
    clear hfy hrow hds heach hy
    rw [fc_agg]
    obtain ⟨W3, hW3⟩ : ∃ q' : World, q' = w2.alloc (.cells #[.int .i64 y.f.op, .string y.f.a.n, .slice y.p y.f.a.us.length y.c, .string y.f.v, .slice y.q y.f.ps.length y.d] 29) := ⟨_, rfl⟩
    have hb3 : Below w2.heap.size w2 W3 := by rw [hW3]; exact (Below.refl _ _).alloc (Nat.le_refl _) _
    have hz3 : W3.heap.size = w2.heap.size + 1 := by rw [hW3]; simp
    have C2 := Lib.hid ((hb2.block _ (blk_lt B1.out)).trans B1.out)
    have C3 := Lib.hid ((hb3.block _ (blk_lt C2.out)).trans C2.out)
    have D3 := Lib.hid (show W3.heap[w2.heap.size]? = some (.cells #[.int .i64 y.f.op, .string y.f.a.n, .slice y.p y.f.a.us.length y.c, .string y.f.v, .slice y.q y.f.ps.length y.d] 29 (0, 0)) by rw [hW3]; exact heap_alloc_new w2 _)
    have HB3 := Lib.hid (Below.step HB1.out (Below.step hb2 hb3))
    have HF3 := Lib.hid (FmAt.below (Below.step hb2 hb3) HF.out)
    obtain ⟨a0, a1, a2, a3, a4⟩ := five_at C2.out
    have za := bsz (blk_lt C2.out)
    have HYS := Lib.hid (show dcOk (inS f.f.syms) f.f = true by rw [HAG.out]; exact hyes)
    clear hyes
    have HROW3 := Lib.hid (own_below HROW.out hb3)
    have HEA3 := Lib.hid (fun x (hx : x ∈ D) => (HEA.out x hx).mono (w' := W3) (B' := fun b => b < W3.heap.size) (SameOn.below hb3) (fun b hb => by omega) (Nat.le_refl _))
    have HFY3 := Lib.hid (FmAt.below hb3 HFY.out)
    go_wp2_with fail
    rw [← hW3]
    clear hW3
    refine (specDC_any 61 f.f _ _ _ _ _ W3 HF3.out (by omega) HSY.out).mono ?_
    rintro e w4 ⟨y3, lv3, rfl, hb4⟩
    rw [HYS.out, fc_agg]
    have hz4 := hb4.size
    have B4 := Lib.hid ((hb4.block _ (blk_lt D3.out)).trans D3.out)
    have A4 := Lib.hid ((hb4.block _ (blk_lt C3.out)).trans C3.out)
    have HB4 := Lib.hid (Below.step HB3.out hb4)
    obtain ⟨W5, hW5⟩ : ∃ q' : World, q' = w4.alloc (.cells #[.int .i64 y3.f.op, .string y3.f.a.n, .slice y3.p y3.f.a.us.length y3.c, .string y3.f.v, .slice y3.q y3.f.ps.length y3.d] 29) := ⟨_, rfl⟩
    have hb5 : Below w4.heap.size w4 W5 := by rw [hW5]; exact (Below.refl _ _).alloc (Nat.le_refl _) _
    have hb35 := Below.step hb4 hb5
    have hz5 : W5.heap.size = w4.heap.size + 1 := by rw [hW5]; simp
    have A5 := Lib.hid ((hb5.block _ (blk_lt A4.out)).trans A4.out)
    have HB5 := Lib.hid (Below.step HB4.out hb5)
    have HROW5 := Lib.hid (own_below HROW3.out hb35)
    have HEA5 := Lib.hid (fun x (hx : x ∈ D) => (HEA3.out x hx).mono (w' := W5) (B' := fun b => b < W5.heap.size) (SameOn.below hb35) (fun b hb => by omega) (Nat.le_refl _))
    have HFY5 := Lib.hid (FmAt.below hb35 HFY3.out)
    have HF5 := Lib.hid (FmAt.below hb35 HF3.out)
    obtain ⟨f1, f2, f3, f4, f5, f6, f7⟩ := HFA.out
    have hDl : D.length ≤ 40 := by rw [List.length_map] at f6; exact f6
    have HU := Lib.hid f5
    have hgt := good_wt f1
    clear hb4 hb5 hb35 a0 a1 a2 a3 a4 za
    obtain ⟨g0, g1, g2, g3, g4⟩ := five_at B4.out
    have zg := bsz (blk_lt B4.out)
    go_wp2_with fail
    rw [← hW5]
    clear hW5
    refine (unfoldDs_any 65 65 y.f D pl cl _ _ _ _ _ W5 HFY5.out (rowD_list HROW5.out HEA5.out (by unfold maxLen; omega) (fun b e => own_lt' HROW5.out e)) f1 f2 (fun x hx => f3 _ (List.mem_map.2 ⟨x, hx, rfl⟩)) f4 (by omega) (fun x hx => by have := f7 x.d (List.mem_map.2 ⟨x, hx, rfl⟩); have : x.vars.length ≤ 4 := this; omega)).mono ?_
    rintro e w6 ⟨y6, rfl, hy6, hf6, hb6⟩
    rw [HU.out] at hy6
    obtain ⟨f6, p6, c6, q6, d6⟩ := y6
    obtain rfl : f6 = f.f := hy6
    rw [show (⟨f.f, p6, c6, q6, d6⟩ : FC).cs.toArray = #[.int .i64 f.f.op, .string f.f.a.n, .slice p6 f.f.a.us.length c6, .string f.f.v, .slice q6 f.f.ps.length d6] from rfl]
    replace hf6 : FmAt _ _ w6 f.f [.int .i64 f.f.op, .string f.f.a.n, .slice p6 f.f.a.us.length c6, .string f.f.v, .slice q6 f.f.ps.length d6] := hf6
    have hz6 := hb6.size
    have A6 := Lib.hid ((hb6.block _ (blk_lt A5.out)).trans A5.out)
    have HB6 := Lib.hid (Below.step HB5.out hb6)
    have HF6 := Lib.hid (FmAt.below hb6 HF5.out)
    obtain ⟨W7, hW7⟩ : ∃ q' : World, q' = w6.alloc (.cells #[.int .i64 f.f.op, .string f.f.a.n, .slice p6 f.f.a.us.length c6, .string f.f.v, .slice q6 f.f.ps.length d6] 29) := ⟨_, rfl⟩
    have hb7 : Below w6.heap.size w6 W7 := by rw [hW7]; exact (Below.refl _ _).alloc (Nat.le_refl _) _
    have D7 := Lib.hid (show W7.heap[w6.heap.size]? = some (.cells #[.int .i64 f.f.op, .string f.f.a.n, .slice p6 f.f.a.us.length c6, .string f.f.v, .slice q6 f.f.ps.length d6] 29 (0, 0)) by rw [hW7]; exact heap_alloc_new w6 _)
    have HB7 := Lib.hid (Below.step HB6.out hb7)
    have HF7 := Lib.hid (FmAt.mono (SameOn.below hb7) (fun _ h => h) _ (65 + 65 * D.length) _ _ (by omega) HF6.out)
    have HG7 := Lib.hid (FmAt.below hb7 hf6)
    clear hb6 hf6 hb7 g0 g1 g2 g3 g4 zg
    obtain ⟨a0, a1, a2, a3, a4⟩ := five_at A6.out
    have za := bsz (blk_lt A6.out)
    go_wp2_with fail
    rw [← hW7]
    clear hW7
    refine (vFormulas_same (65 + 65 * D.length) f.f _ _ _ _ _ _ _ _ _ _ W7 HF7.out HG7.out).mono ?_
    rintro e w8 ⟨rfl, hb8⟩
    have HB8 := Lib.hid (Below.step HB7.out hb8)
    go_wp2
    go_ret
    exact ⟨rfl, HB8.out⟩
theorem fnDefinitions (pp : Option Addr) (nn cc : Nat) (w : World) (hE : Env w) (h : nn ≤ 1000000 → CodeIn w (.slice pp nn cc)) :
    Calls Tryz.prog 3 #[.slice pp nn cc] w fun e w' => e = .returned (.bool true) ∧ Below w.heap.size w w' := by
  by_cases hn : nn ≤ 65536
  · exact fnDefinitions_small pp nn cc w hE (h (by omega)) hn
  · have hnn : (65536 : Int) < (nn : Int) := by omega
    clear hE h
    go_enter Tryz.func3, Tryz.ntmps3
    go_wp2_with fail
    refine (vBigD_any _ _ _ _).mono ?_
    rintro e w' ⟨rfl, rfl⟩
    go_wp2
    go_ret
    exact ⟨rfl, Below.refl _ _⟩
end Go.Proofs.YtmbkjdkjemlfkaaGreatDoor
