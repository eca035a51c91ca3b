/- 'FnExactEnglishToFormula': the law is true for all arguments.
The laws' marks on a row of formulas, and that they are held. Conditions: sizes.
The laws' marks on a formula, and that they are held. Conditions: sizes.
EnglishToFormula: both sides answer the same, and the result's memory is nobody else's. Conditions: sizes.
How a law's row is closed out of its walk: the call answers true and turns nothing that was there. No conditions. -/
import Derived.OpenShut
import Derived.JoinedCond
import Derived.Deep.DeepHandedRow
import Derived.Lib.SmallJoins
import Derived.Stop.LaidErr
import Derived.Test.YtdklemmincejpaaGreatEtfPart11
namespace Go.Proofs.YtdklemmincejpaaGreat
open Go.RowKit
def MarkFRel (S : Nat → Prop) (m : Nat) (us : List Fm) (v : Value) (k0 : Nat) (w : World) (kv i : Value) (wr : World) : Prop :=
  ∃ (j q : Nat) (done : List Fm), i = .int .i64 (j : Nat) ∧ kv = .int .i64 (q : Nat) ∧ done.length = j ∧ j ≤ us.length ∧ Fm.Mkds done k0 q ∧ q + Fm.cts (us.drop j) ≤ k0 + Fm.cts us ∧ OwnRow S wr 27 5 (fun S x c => FmOwn 24 27 m S wr x c) v (done ++ us.drop j) ∧ Kept S w wr
def MarkFC (m : Nat) : Prop := ∀ (S : Nat → Prop) (us : List Fm) (v : Value) (k : Nat) (w : World), OwnRow S w 27 5 (fun S x c => FmOwn 24 27 m S w x c) v us → 0 < k → k + Fm.cts us ≤ 1000000 →
  Calls Tryz.prog 36 #[v, .int .i64 (k : Nat)] w fun e w' => ∃ (L : List Fm) (k' : Nat), e = .returned (.int .i64 (k' : Nat)) ∧ Fm.Mkds L k k' ∧ L.length = us.length ∧ k' ≤ k + Fm.cts us ∧ OwnRow S w' 27 5 (fun S x c => FmOwn 24 27 m S w' x c) v L ∧ Kept S w w'
set_option maxRecDepth 100000 in
set_option maxHeartbeats 3200000 in
theorem markFormulaS_any : ∀ m : Nat, MarkFC m := by
  intro m
  induction m with
  | zero =>
    intro S us v k w h hk hb
    have hu : us = [] := by
      cases us with
      | nil => rfl
      | cons a us =>
        obtain ⟨g, cap, cs, Si, cur, hv, hSg, hh, hcl, hsz, hcs, hR, -⟩ := OwnRow.elem h (i := 0) rfl
        exact hR.elim
    subst hu
    obtain ⟨p, c, rfl, -⟩ := h.form
    have H := Lib.hid h
    clear h
    go_enter Tryz.func36, Tryz.ntmps36
    go_wp2
    go_loopw [1, 5] (fun kv i wr => kv = .int .i64 (k : Nat) ∧ i = .int .i64 0 ∧ wr = w) (fun _ _ _ => 0)
    case atStart => exact ⟨rfl, rfl, rfl⟩
    case round =>
      obtain ⟨rfl, rfl, rfl⟩ := hrel
      go_wp2
      go_ret
      exact ⟨[], k, rfl, rfl, rfl, by omega, H.out, Kept.refl _ _⟩
  | succ m ih =>
    intro S us v k w h hk hb
    obtain ⟨p, c, rfl, hlen⟩ := h.form
    unfold maxLen at hlen
    have H := Lib.hid h
    have IH := Lib.hid ih
    clear h ih
    go_enter Tryz.func36, Tryz.ntmps36
    go_wp2
    go_loopw [1, 5] (MarkFRel S (m + 1) us (.slice p us.length c) k w) (fun _ i _ => us.length - (intOf i).toNat)
    case atStart => exact ⟨0, k, [], rfl, rfl, rfl, Nat.zero_le _, rfl, Nat.le_refl _, H.out, Kept.refl _ _⟩
    case round =>
      obtain ⟨j, q, done, rfl, rfl, hdl, hju, hmk, hct, hrow, hkp⟩ := hrel
      have hqk := Fm.Mkds.le _ _ _ hmk
      have HMK := Lib.hid hmk
      have HKP := Lib.hid hkp
      clear hmk hkp
      by_cases hlt : j < us.length
      · have hcd := Fm.cts_drop hlt
        have hx : (done ++ us.drop j)[j]? = some us[j] := by rw [List.getElem?_append_right (by omega), hdl, Nat.sub_self, List.getElem?_drop, Nat.add_zero, List.getElem?_eq_getElem hlt]
        obtain ⟨g, cap, cs, Si, cur, hv, hSg, hh, hcl, hsz, hcs, hR, hSi, hclose⟩ := OwnRow.elem hrow hx
        have HCL := Lib.hid hclose
        clear hrow hclose hx
        have hset : ∀ y, (done ++ us.drop j).set j y = (done ++ [y]) ++ us.drop (j + 1) := fun y => by
          rw [List.set_append_right _ _ (by omega), hdl, Nat.sub_self, List.append_assoc, List.singleton_append]
          have e := List.drop_eq_getElem_cons hlt
          rw [e]; rfl
        have HSET := Lib.hid hset
        clear hset
        generalize us[j] = a at *
        obtain ⟨op, ⟨n, vs⟩, x, ps⟩ := a
        obtain ⟨vn, va, vp, Sa, Sp, rfl, hop, hxs, hta, hrp, hSa, hSp⟩ := hR
        cases m with
        | zero => exact hta.elim
        | succ m' =>
        obtain ⟨va', he, hn, hsub⟩ := hta
        simp only [List.cons.injEq, and_true] at he
        obtain ⟨rfl, rfl⟩ := he
        simp only [Value.slice.injEq] at hv
        obtain ⟨rfl, -, rfl⟩ := hv
        have HSUB := Lib.hid hsub
        have HRP := Lib.hid hrp
        have HHH := Lib.hid hh
        rw [Fm.ct] at hcd
        simp only [Tm.us] at hcd
        have c0 : wr.cell? ⟨g, j * 5, none⟩ = some (.int .i64 op) := (cell_of_row wr g _ cur _ (0, 0) hh).trans (hcs 0 (by omega))
        have c1 : wr.cell? ⟨g, j * 5 + 1, none⟩ = some (.string n) := (cell_of_row wr g _ cur _ (0, 0) hh).trans (hcs 1 (by omega))
        have c2 : wr.cell? ⟨g, j * 5 + 2, none⟩ = some va := (cell_of_row wr g _ cur _ (0, 0) hh).trans (hcs 2 (by omega))
        have c3 : wr.cell? ⟨g, j * 5 + 3, none⟩ = some (.string x) := (cell_of_row wr g _ cur _ (0, 0) hh).trans (hcs 3 (by omega))
        have c4 : wr.cell? ⟨g, j * 5 + 4, none⟩ = some vp := (cell_of_row wr g _ cur _ (0, 0) hh).trans (hcs 4 (by omega))
        have cf : ∀ i, wr.frozen? ⟨g, i, none⟩ = false := fun i => frozen_of_row wr g i _ _ hh
        have hgl := bsz (blk_lt hh)
        have HSA := Lib.hid hSa
        have HSP := Lib.hid hSp
        have HSI := Lib.hid hSi
        have HCS := Lib.hid hcs
        clear hsub hrp hh hSa hSp hSi hcs
        go_wp2_with fail
        rw [show ((q : Int) + 1) = ((q + 1 : Nat) : Int) by omega]
        refine (markText_any (q + 1) _ (by omega) (by omega)).mono ?_
        rintro e w1 ⟨rfl, hb1⟩
        have ⟨cb, fb⟩ := bcell hb1
        have hq1 := hb1.size
        simp at hq1
        have hg1 := bsz (show g < w1.heap.size by omega)
        go_wp2_with fail
        rw [show ((q : Int) + 1 + 1) = ((q + 2 : Nat) : Int) by omega]
        have HA1 := Lib.hid (show w1.heap[g]? = some (.cells (cur.setIfInBounds (j * 5) (.int .i64 (q : Nat))) 27 (0, 0)) from (hb1.block g (by simp; omega)).trans (heap_setCell_same wr g (j * 5) cur _ _ HHH.out))
        have HW2 := Lib.hid (show SameOn (fun b => b ≠ g) wr (w1.setCell ⟨g, j * 5 + 1, none⟩ (.string (markB (q + 1)))) from fun b hb hlt => (heap_setCell_other w1 ⟨g, j * 5 + 1, none⟩ b _ (fun e => hb e)).trans ((hb1.block b (by simpa using hlt)).trans (heap_setCell_other wr ⟨g, j * 5, none⟩ b _ (fun e => hb e))))
        have HA2 := Lib.hid (heap_setCell_same w1 g (j * 5 + 1) _ _ (.string (markB (q + 1))) HA1.out)
        have HNA := Lib.hid (show ∀ b, Sa b → b ≠ g from fun b hb => (HSI.out b (HSA.out b hb).1).2)
        have HNP := Lib.hid (show ∀ b, Sp b → b ≠ g from fun b hb => (HSI.out b (HSP.out b hb)).2)
        have HKW := Lib.hid (show Kept (fun b => b = g) wr (w1.setCell ⟨g, j * 5 + 1, none⟩ (.string (markB (q + 1)))) from (((((Kept.refl (fun b => b = g) wr).set rfl (j * 5) (.int .i64 (q : Nat)))).below hb1).set rfl (j * 5 + 1) _))
        have HSUB2 := HSUB.out.mono (S' := Sa) (w' := w1.setCell ⟨g, j * 5 + 1, none⟩ (.string (markB (q + 1)))) (R' := fun S x c => TmOwn 24 m' S (w1.setCell ⟨g, j * 5 + 1, none⟩ (.string (markB (q + 1)))) x c) (fun b hb hlt => HW2.out b (HNA.out b hb) hlt) (fun _ h => h)
          (fun T x c _ hT hx => TmOwn.mono m' m' x c (Nat.le_refl _) (fun b hb hlt => HW2.out b (HNA.out b (hT b hb)) hlt) (fun _ h => h) hx)
        obtain ⟨W2, hW2⟩ : ∃ W2, W2 = w1.setCell ⟨g, j * 5 + 1, none⟩ (.string (markB (q + 1))) := ⟨_, rfl⟩
        have hs2 : W2.heap.size = w1.heap.size := by rw [hW2]; simp
        have d2 : W2.cell? ⟨g, j * 5 + 2, none⟩ = some va := by rw [hW2]; go_simp
        have d3 : W2.cell? ⟨g, j * 5 + 3, none⟩ = some (.string x) := by rw [hW2]; go_simp
        have d4 : W2.cell? ⟨g, j * 5 + 4, none⟩ = some vp := by rw [hW2]; go_simp
        have df : ∀ i, W2.frozen? ⟨g, i, none⟩ = false := fun i => by rw [hW2]; exact frozen_of_row _ g i _ _ HA2.out
        rw [← hW2] at HW2 HA2 HKW HSUB2 ⊢
        clear hW2 cb fb c0 c1 c2 c3 c4 cf HA1
        have hg2 := bsz (show g < W2.heap.size by omega)
        refine (markTermS_any m' Sa vs va (q + 2) _ HSUB2 (by omega) (by omega)).mono ?_
        rintro e w3 ⟨L1, k1, rfl, hmk3, hll, hk3, hrow3, hkp3⟩
        have hge3 := Tm.Mkds.le _ _ _ hmk3
        have hg3 : w3.heap[g]? = _ := (hkp3.block g (by omega) (fun e => HNA.out g e rfl)).trans HA2.out
        have HG3 := Lib.hid hg3
        have HR3 := Lib.hid (And.intro hmk3 (And.intro hrow3 hkp3))
        have hq3 := hkp3.size
        have e2 : w3.cell? ⟨g, j * 5 + 2, none⟩ = some va := (World.cell?_of_block (hkp3.block g (by omega) (fun e => HNA.out g e rfl))).trans d2
        have e3 : w3.cell? ⟨g, j * 5 + 3, none⟩ = some (.string x) := (World.cell?_of_block (hkp3.block g (by omega) (fun e => HNA.out g e rfl))).trans d3
        have e4 : w3.cell? ⟨g, j * 5 + 4, none⟩ = some vp := (World.cell?_of_block (hkp3.block g (by omega) (fun e => HNA.out g e rfl))).trans d4
        have ef : ∀ i, w3.frozen? ⟨g, i, none⟩ = false := fun i => frozen_of_row _ g i _ _ HG3.out
        have hgl3 := bsz (show g < w3.heap.size by omega)
        clear hmk3 hrow3 hkp3 HSUB2 d2 d3 d4 df hg3
        go_wp2_with fail
        refine (markText_any k1 _ (by omega) (by omega)).mono ?_
        rintro e w4 ⟨rfl, hb4⟩
        have ⟨cb, fb⟩ := bcell hb4
        have hq4 := hb4.size
        have hgl4 := bsz (show g < w4.heap.size by omega)
        go_wp2_with fail
        rw [show ((k1 : Int) + 1) = ((k1 + 1 : Nat) : Int) by omega]
        have hkp3 := HR3.out.2.2
        have HW5 := Lib.hid (show SameOn (fun b => b ≠ g ∧ ¬ Sa b) wr (w4.setCell ⟨g, j * 5 + 3, none⟩ (.string (markB k1))) from fun b hb hlt => (heap_setCell_other w4 ⟨g, j * 5 + 3, none⟩ b _ (fun e => hb.1 e)).trans ((hb4.block b (by omega)).trans ((hkp3.block b (by omega) hb.2).trans (HW2.out b hb.1 hlt))))
        have HDJ := Lib.hid (show ∀ b, Sp b → b ≠ g ∧ ¬ Sa b from fun b hb => ⟨HNP.out b hb, fun h => (HSA.out b h).2 hb⟩)
        have HRP5 := HRP.out.mono (S' := Sp) (w' := w4.setCell ⟨g, j * 5 + 3, none⟩ (.string (markB k1))) (R' := fun S x c => FmOwn 24 27 (m' + 1) S (w4.setCell ⟨g, j * 5 + 3, none⟩ (.string (markB k1))) x c) (fun b hb hlt => HW5.out b (HDJ.out b hb) hlt) (fun _ h => h)
          (fun T x c _ hT hx => FmOwn.mono (m' + 1) (m' + 1) x c (Nat.le_refl _) (fun b hb hlt => HW5.out b (HDJ.out b (hT b hb)) hlt) (fun _ h => h) hx)
        refine (IH.out Sp ps vp (k1 + 1) _ HRP5 (by omega) (by omega)).mono ?_
        rintro e w6 ⟨L2, k', rfl, hmk6, hll6, hk6, hrow6, hkp6⟩
        have HR6 := Lib.hid (And.intro hmk6 (And.intro hrow6 hkp6))
        have hq6 := hkp6.size
        simp at hq6
        clear hmk6 hrow6 hkp6 hkp3 HRP5 cb fb e2 e3 e4 ef
        go_wp2
        obtain ⟨hmk3, hrow3, hkp3⟩ := HR3.out
        obtain ⟨hmk6, hrow6, hkp6⟩ := HR6.out
        refine ⟨⟨j + 1, k', done ++ [.mk (q : Int) (.mk (markB (q + 1)) L1) (markB k1) L2], by go_num, rfl, by simp; omega, by omega, Fm.Mkds.snoc _ _ _ _ _ HMK.out (Fm.Mkd.of rfl rfl hmk3 rfl hmk6), by omega, ?_, ?_⟩, by simp [intOf]; omega⟩
        · rw [← HSET.out]
          have hpt : Patch cur (((cur.setIfInBounds (j * 5 + 0) (.int .i64 (q : Nat))).setIfInBounds (j * 5 + 1) (.string (markB (q + 1)))).setIfInBounds (j * 5 + 3) (.string (markB k1))) (j * 5) [.int .i64 (q : Nat), .string (markB (q + 1)), va, .string (markB k1), vp] :=
            Patch.set (cs := [.int .i64 (q : Nat), .string (markB (q + 1)), va, .string x, vp]) (Patch.set (cs := [.int .i64 (q : Nat), .string n, va, .string x, vp]) (Patch.set (cs := [.int .i64 op, .string n, va, .string x, vp]) (Patch.refl HCS.out) (j := 0) (by simp) hsz _) (j := 1) (by simp) hsz _) (j := 3) (by simp) hsz _
          refine HCL.out w6 (.mk (q : Int) (.mk (markB (q + 1)) L1) (markB k1) L2) [.int .i64 (q : Nat), .string (markB (q + 1)), va, .string (markB k1), vp] _ _ rfl ?_ hpt ⟨.string (markB (q + 1)), va, vp, Sa, Sp, rfl, by omega, markB_size k1 (by omega), ⟨va, rfl, markB_size (q + 1) (by omega), ?_⟩, hrow6, HSA.out, HSP.out⟩ (fun T y c hT hy => FmOwn.mono _ _ y c (Nat.le_refl _) (fun b hb hlt => ?_) (fun _ h => h) hy)
          · exact (hkp6.block g (by simp; omega) (fun e => HNP.out g e rfl)).trans (heap_setCell_same w4 g (j * 5 + 3) _ _ _ ((hb4.block g (by omega)).trans HG3.out))
          · have hs : ∀ b, Sa b → b < w3.heap.size → w6.heap[b]? = w3.heap[b]? := fun b hb hlt => (hkp6.block b (by simp; omega) (fun h => (HSA.out b hb).2 h)).trans ((heap_setCell_other w4 ⟨g, j * 5 + 3, none⟩ b _ (fun e => HNA.out b hb e)).trans (hb4.block b hlt))
            exact hrow3.mono hs (fun _ h => h) (fun T x c _ hT hx => TmOwn.mono m' m' x c (Nat.le_refl _) (fun b hb hlt => hs b (hT b hb) hlt) (fun _ h => h) hx)
          · obtain ⟨t1, t2, t3⟩ := hT b hb
            exact (hkp6.block b (by simp; omega) (fun h => t3 (HSP.out b h))).trans (HW5.out b ⟨t2, fun h => t3 (HSA.out b h).1⟩ hlt)
        · exact HKP.out.trans ((HKW.out.mono (fun b hb => by rw [hb]; exact hSg)).trans ((((hkp3.mono (fun b hb => (HSI.out b (HSA.out b hb).1).1)).below hb4).set hSg _ _).trans (hkp6.mono (fun b hb => (HSI.out b (HSP.out b hb)).1))))
      · obtain rfl : j = us.length := by omega
        rw [List.drop_length, List.append_nil] at hrow
        have HRW := Lib.hid hrow
        clear hrow
        go_wp2
        go_ret
        exact ⟨done, q, rfl, HMK.out, hdl, by simpa [Fm.cts] using hct, HRW.out, HKP.out⟩
theorem FmAt.sub {B : Nat → Prop} {w : World} {n : Nat} {t : Fm} {v0 v1 v2 v3 v4 : Value} (h : FmAt B (n + 1) w t [v0, v1, v2, v3, v4]) : ListAt B w 2 (TmAt B n w) v2 t.a.us ∧ ListAt B w 5 (FmAt B n w) v4 t.ps := by
  obtain ⟨op, a, x, ps⟩ := t
  obtain ⟨vn, va, vp, h1, h2, h3, h4, h5⟩ := h
  simp only [List.cons.injEq, and_true] at h1
  obtain ⟨-, rfl, rfl, -, rfl⟩ := h1
  exact ⟨TmAt.args h4, h5⟩
theorem Fm.Mkd.at_ {a : Fm} {k k' : Nat} (h : a.Mkd k k') : a.op = (k : Int) ∧ a.a.n = markB (k + 1) ∧ ∃ j, Tm.Mkds a.a.us (k + 2) j ∧ a.v = markB j ∧ Fm.Mkds a.ps (j + 1) k' := by obtain ⟨op, a, v, ps⟩ := a; rw [Fm.Mkd] at h; exact h
def HeldFC (B : Nat → Prop) (m : Nat) : Prop := ∀ (us : List Fm) (v : Value) (k k' : Nat) (w : World), ListAt B w 5 (FmAt B m w) v us → Fm.Mkds us k k' → 0 < k → k' ≤ 1000000 →
  Calls Tryz.prog 38 #[v, .int .i64 (k : Nat)] w fun e w' => e = .returned (.int .i64 (k' : Nat)) ∧ Below w.heap.size w w'
def HeldFRel (us : List Fm) (k' : Nat) (w : World) (kv i : Value) (wr : World) : Prop :=
  ∃ j q : Nat, i = .int .i64 (j : Nat) ∧ kv = .int .i64 (q : Nat) ∧ j ≤ us.length ∧ Fm.Mkds (us.drop j) q k' ∧ 0 < q ∧ Below w.heap.size w wr
set_option maxRecDepth 100000 in
set_option maxHeartbeats 3200000 in
theorem heldFormulaS_any {B : Nat → Prop} : ∀ m : Nat, HeldFC B m := by
  intro m
  induction m with
  | zero =>
    intro us v k k' w h hmk hk hb
    have hu : us = [] := by
      cases us with
      | nil => rfl
      | cons a us =>
        obtain ⟨p, c, rfl, -⟩ := h.form
        obtain ⟨b, o, -, -, x0, x1, x2, x3, x4, -, -, -, -, -, hx⟩ := h.at5 (i := 0) (by simp)
        exact hx.elim
    subst hu
    obtain ⟨p, c, rfl, -⟩ := h.form
    have hkk : k = k' := hmk
    subst hkk
    clear h hmk
    go_enter Tryz.func38, Tryz.ntmps38
    go_wp2
    go_loopw [1, 5] (fun kv i wr => kv = .int .i64 (k : Nat) ∧ i = .int .i64 0 ∧ wr = w) (fun _ _ _ => 0)
    case atStart => exact ⟨rfl, rfl, rfl⟩
    case round =>
      obtain ⟨rfl, rfl, rfl⟩ := hrel
      go_wp2
      go_ret
      exact ⟨rfl, Below.refl _ _⟩
  | succ m ih =>
    intro us v k k' w h hmk hk hb0
    obtain ⟨p, c, rfl, hlen⟩ := h.form
    unfold maxLen at hlen
    have HL := Lib.hid h
    have HMK := Lib.hid hmk
    have IH := Lib.hid ih
    clear h ih hmk
    go_enter Tryz.func38, Tryz.ntmps38
    go_wp2
    go_loopw [1, 5] (HeldFRel us k' w) (fun _ i _ => us.length - (intOf i).toNat)
    case atStart => exact ⟨0, k, rfl, rfl, Nat.zero_le _, HMK.out, hk, by (repeat (first | with_reducible exact Below.refl _ _ | with_reducible assumption | with_reducible refine Below.al ?_ _ | with_reducible refine Below.sc ?_ (by first | exact Nat.le_refl _ | (simp; done) | (simp; omega)) _ | assumption | exact Below.refl _ _ | refine Below.dr ?_ | refine Below.drN ?_ _ | refine Below.step ?_ (by assumption)))⟩
    case round =>
      obtain ⟨j, q, rfl, rfl, hju, hmk, hq, hb⟩ := hrel
      by_cases hlt : j < us.length
      · obtain ⟨j', hm1, hm2⟩ := Fm.Mkds.drop hmk hlt
        have hle1 := Fm.Mkd.le _ _ _ hm1
        have hle2 := Fm.Mkds.le _ _ _ hm2
        have HM2 := Lib.hid hm2
        clear hmk hm2
        obtain ⟨b, o, rfl, hB, x0, x1, x2, x3, x4, hx0, hx1, hx2, hx3, hx4, hx⟩ := (HL.out.mono (SameOn.below hb) (fun _ h => h) (fun x cs _ hx => FmAt.below hb hx)).at5 hlt
        have hM := hm1
        obtain ⟨a, ha⟩ : ∃ a, us[j] = a := ⟨_, rfl⟩
        rw [ha] at hx
        rw [ha] at hM
        have HX := Lib.hid hx
        have HM := Lib.hid hM
        clear hx ha hM
        have zb := bsz (World.block_lt_of_cell? _ _ hx0)
        obtain ⟨pa, ca, qa, da, rfl, rfl, rfl, rfl, rfl, -⟩ := HX.out.form
        obtain ⟨hop, hn, j1, ht, hv, hp⟩ := HM.out.at_
        have hle3 := Tm.Mkds.le _ _ _ ht
        have hle4 := Fm.Mkds.le _ _ _ hp
        have HT := Lib.hid (And.intro ht hp)
        clear ht hp
        have hoq : ((a.op : Int) == (q : Int)) = true := by rw [hop]; simp
        have hoq' : ((a.op : Int) != (q : Int)) = false := by rw [bne, hoq]; rfl
        have HN := Lib.hid (And.intro hn hv)
        clear hn hv hop
        go_wp2
        rw [show ((q : Int) + 1) = ((q + 1 : Nat) : Int) by omega]
        have hn := HN.out.1
        obtain ⟨C, HC0⟩ := class_of (InF wr.heap.size _ [(⟨b, o + j * 5 + 1, none⟩, .string a.a.n), (⟨b, o + j * 5 + 2, none⟩, .slice pa a.a.us.length ca), (⟨b, o + j * 5 + 3, none⟩, .string a.v), (⟨b, o + j * 5 + 4, none⟩, .slice qa a.ps.length da)] [] [])
        have HC := Lib.hid HC0
        clear HC0
        refine wp_region_flow (C := C) (by kernel_rfl) (by kernel_rfl) (fun L hL => (HC.out _ _).2 (InF.start (by first | (intro _ hs; cases hs; done) | (simp only [List.forall_mem_cons]; go_simp)) (by first | (intro _ hs; cases hs; done) | (simp only [List.forall_mem_cons]; go_simp)) (by first | (intro _ hs; cases hs; done) | (simp only [List.forall_mem_cons]; go_simp)) (by first | (intro _ hs; cases hs; done) | (simp only [List.forall_mem_cons]; go_simp)) L hL)) ?_
        repeat (first | (apply flow_free rfl; (intro L w' hun hrd hC; have hC := (HC.out _ _).1 hC; have hb' := hC.below; (try have hw' : Below w.heap.size w w' := by first | exact Below.trans (by (repeat (first | with_reducible exact Below.refl _ _ | with_reducible assumption | with_reducible refine Below.al ?_ _ | with_reducible refine Below.sc ?_ (by first | exact Nat.le_refl _ | (simp; done) | (simp; omega)) _ | assumption | exact Below.refl _ _ | refine Below.dr ?_ | refine Below.drN ?_ _ | refine Below.step ?_ (by assumption)))) hb' | ((repeat (first | with_reducible exact Below.refl _ _ | with_reducible assumption | with_reducible refine Below.al ?_ _ | with_reducible refine Below.sc ?_ (by first | exact Nat.le_refl _ | (simp; done) | (simp; omega)) _ | assumption | exact Below.refl _ _ | refine Below.dr ?_ | refine Below.drN ?_ _ | refine Below.step ?_ (by assumption))); done)); have hf' := hC.cell; (try simp only [List.forall_mem_cons] at hf'); go_simp; first | exact ⟨(HC.out _ _).2 (hC.skip _ (by rfl)), rfl⟩ | (rw [if_neg]; (exact ⟨(HC.out _ _).2 (hC.skip _ (by rfl)), rfl⟩); omega) | (go_at_call 74; refine (markText_any (q + 1) _ (by omega) (by omega)).mono ?_; rintro e w1 ⟨rfl, hb1⟩; exact ⟨rfl, (HC.out _ _).2 ((hC.next (by first | (simp; done) | (simp; omega) | omega) hb1).skip _ (by rfl))⟩)); go_simp) | (apply flow_yes; (case hw => go_simp); (intro L w' hun hrd hC; have hC := (HC.out _ _).1 hC; have hb' := hC.below; (try have hw' : Below w.heap.size w w' := by first | exact Below.trans (by (repeat (first | with_reducible exact Below.refl _ _ | with_reducible assumption | with_reducible refine Below.al ?_ _ | with_reducible refine Below.sc ?_ (by first | exact Nat.le_refl _ | (simp; done) | (simp; omega)) _ | assumption | exact Below.refl _ _ | refine Below.dr ?_ | refine Below.drN ?_ _ | refine Below.step ?_ (by assumption)))) hb' | ((repeat (first | with_reducible exact Below.refl _ _ | with_reducible assumption | with_reducible refine Below.al ?_ _ | with_reducible refine Below.sc ?_ (by first | exact Nat.le_refl _ | (simp; done) | (simp; omega)) _ | assumption | exact Below.refl _ _ | refine Below.dr ?_ | refine Below.drN ?_ _ | refine Below.step ?_ (by assumption))); done)); have hf' := hC.cell; (try simp only [List.forall_mem_cons] at hf'); go_simp; first | exact ⟨(HC.out _ _).2 (hC.skip _ (by rfl)), rfl⟩ | (rw [if_neg]; (exact ⟨(HC.out _ _).2 (hC.skip _ (by rfl)), rfl⟩); omega) | (go_at_call 74; refine (markText_any (q + 1) _ (by omega) (by omega)).mono ?_; rintro e w1 ⟨rfl, hb1⟩; exact ⟨rfl, (HC.out _ _).2 ((hC.next (by first | (simp; done) | (simp; omega) | omega) hb1).skip _ (by rfl))⟩)); go_simp) | (apply flow_no; (case hw => (go_simp; try (intro hh; cases hh))); (intro L w' _ _ hC; exact (HC.out _ _).2 (((HC.out _ _).1 hC).skip _ (by rfl))); go_simp))
        refine flow_nil ?_
        intro L wz hL hz
        have hz := (HC.out _ _).1 hz
        have hbz := hz.below
        have hcz := hz.cell
        try simp only [List.forall_mem_cons] at hcz
        have hdz := hz.done
        try simp only [List.forall_mem_cons] at hdz
        (try have hwz : Below w.heap.size w wz := by first | exact Below.trans (by (repeat (first | with_reducible exact Below.refl _ _ | with_reducible assumption | with_reducible refine Below.al ?_ _ | with_reducible refine Below.sc ?_ (by first | exact Nat.le_refl _ | (simp; done) | (simp; omega)) _ | assumption | exact Below.refl _ _ | refine Below.dr ?_ | refine Below.drN ?_ _ | refine Below.step ?_ (by assumption)))) hbz | ((repeat (first | with_reducible exact Below.refl _ _ | with_reducible assumption | with_reducible refine Below.al ?_ _ | with_reducible refine Below.sc ?_ (by first | exact Nat.le_refl _ | (simp; done) | (simp; omega)) _ | assumption | exact Below.refl _ _ | refine Below.dr ?_ | refine Below.drN ?_ _ | refine Below.step ?_ (by assumption))); done))
        clear hn
        have hz1 := bsz (show b < wz.heap.size by have := hbz.size; omega)
        go_wp2_with fail
        rw [show ((q : Int) + 1 + 1) = ((q + 2 : Nat) : Int) by omega]
        refine (heldTermS_any m a.a.us _ (q + 2) j1 _ (FmAt.sub (FmAt.below (by (repeat (first | with_reducible exact Below.refl _ _ | with_reducible assumption | with_reducible refine Below.al ?_ _ | with_reducible refine Below.sc ?_ (by first | exact Nat.le_refl _ | (simp; done) | (simp; omega)) _ | assumption | exact Below.refl _ _ | refine Below.dr ?_ | refine Below.drN ?_ _ | refine Below.step ?_ (by assumption)))) HX.out)).1 HT.out.1 (by omega) (by omega)).mono ?_
        rintro e w2 ⟨rfl, hb2⟩
        have hj0 : ¬ (j1 : Int) < 0 := by omega
        have hq2 := hb2.size
        have ⟨cb2, fb2⟩ := bcell hb2
        have hz2 := bsz (show b < w2.heap.size by omega)
        have f3 : w2.cell? ⟨b, o + j * 5 + 3, none⟩ = some (.string a.v) := by go_simp
        have f4 : w2.cell? ⟨b, o + j * 5 + 4, none⟩ = some (.slice qa a.ps.length da) := by go_simp
        have hbw2 : Below wr.heap.size wr w2 := by (try clear hwz); (repeat (first | with_reducible exact Below.refl _ _ | with_reducible assumption | with_reducible refine Below.al ?_ _ | with_reducible refine Below.sc ?_ (by first | exact Nat.le_refl _ | (simp; done) | (simp; omega)) _ | assumption | exact Below.refl _ _ | refine Below.dr ?_ | refine Below.drN ?_ _ | refine Below.step ?_ (by assumption)))
        (try clear hwz)
        clear cb2 fb2 hb2 hbz hcz hdz
        have hn := HN.out.2
        go_wp2
        obtain ⟨C, HC0⟩ := class_of (InF w2.heap.size _ [(⟨b, o + j * 5 + 3, none⟩, .string a.v), (⟨b, o + j * 5 + 4, none⟩, .slice qa a.ps.length da)] [] [])
        have HC := Lib.hid HC0
        clear HC0
        refine wp_region_flow (C := C) (by kernel_rfl) (by kernel_rfl) (fun L hL => (HC.out _ _).2 (InF.start (by first | (intro _ hs; cases hs; done) | (simp only [List.forall_mem_cons]; go_simp)) (by first | (intro _ hs; cases hs; done) | (simp only [List.forall_mem_cons]; go_simp)) (by first | (intro _ hs; cases hs; done) | (simp only [List.forall_mem_cons]; go_simp)) (by first | (intro _ hs; cases hs; done) | (simp only [List.forall_mem_cons]; go_simp)) L hL)) ?_
        repeat (first | (apply flow_free rfl; (intro L w' hun hrd hC; have hC := (HC.out _ _).1 hC; have hb' := hC.below; (try have hw' : Below w.heap.size w w' := by first | exact Below.trans (by (repeat (first | with_reducible exact Below.refl _ _ | with_reducible assumption | with_reducible refine Below.al ?_ _ | with_reducible refine Below.sc ?_ (by first | exact Nat.le_refl _ | (simp; done) | (simp; omega)) _ | assumption | exact Below.refl _ _ | refine Below.dr ?_ | refine Below.drN ?_ _ | refine Below.step ?_ (by assumption)))) hb' | ((repeat (first | with_reducible exact Below.refl _ _ | with_reducible assumption | with_reducible refine Below.al ?_ _ | with_reducible refine Below.sc ?_ (by first | exact Nat.le_refl _ | (simp; done) | (simp; omega)) _ | assumption | exact Below.refl _ _ | refine Below.dr ?_ | refine Below.drN ?_ _ | refine Below.step ?_ (by assumption))); done)); have hf' := hC.cell; (try simp only [List.forall_mem_cons] at hf'); go_simp; first | exact ⟨(HC.out _ _).2 (hC.skip _ (by rfl)), rfl⟩ | (rw [if_neg]; (exact ⟨(HC.out _ _).2 (hC.skip _ (by rfl)), rfl⟩); omega) | (go_at_call 74; refine (markText_any j1 _ (by omega) (by omega)).mono ?_; rintro e w1 ⟨rfl, hb1⟩; exact ⟨rfl, (HC.out _ _).2 ((hC.next (by first | (simp; done) | (simp; omega) | omega) hb1).skip _ (by rfl))⟩)); go_simp) | (apply flow_yes; (case hw => go_simp); (intro L w' hun hrd hC; have hC := (HC.out _ _).1 hC; have hb' := hC.below; (try have hw' : Below w.heap.size w w' := by first | exact Below.trans (by (repeat (first | with_reducible exact Below.refl _ _ | with_reducible assumption | with_reducible refine Below.al ?_ _ | with_reducible refine Below.sc ?_ (by first | exact Nat.le_refl _ | (simp; done) | (simp; omega)) _ | assumption | exact Below.refl _ _ | refine Below.dr ?_ | refine Below.drN ?_ _ | refine Below.step ?_ (by assumption)))) hb' | ((repeat (first | with_reducible exact Below.refl _ _ | with_reducible assumption | with_reducible refine Below.al ?_ _ | with_reducible refine Below.sc ?_ (by first | exact Nat.le_refl _ | (simp; done) | (simp; omega)) _ | assumption | exact Below.refl _ _ | refine Below.dr ?_ | refine Below.drN ?_ _ | refine Below.step ?_ (by assumption))); done)); have hf' := hC.cell; (try simp only [List.forall_mem_cons] at hf'); go_simp; first | exact ⟨(HC.out _ _).2 (hC.skip _ (by rfl)), rfl⟩ | (rw [if_neg]; (exact ⟨(HC.out _ _).2 (hC.skip _ (by rfl)), rfl⟩); omega) | (go_at_call 74; refine (markText_any j1 _ (by omega) (by omega)).mono ?_; rintro e w1 ⟨rfl, hb1⟩; exact ⟨rfl, (HC.out _ _).2 ((hC.next (by first | (simp; done) | (simp; omega) | omega) hb1).skip _ (by rfl))⟩)); go_simp) | (apply flow_no; (case hw => (go_simp; try (intro hh; cases hh))); (intro L w' _ _ hC; exact (HC.out _ _).2 (((HC.out _ _).1 hC).skip _ (by rfl))); go_simp))
        refine flow_nil ?_
        intro L wz hL hz
        have hz := (HC.out _ _).1 hz
        have hbz := hz.below
        have hcz := hz.cell
        try simp only [List.forall_mem_cons] at hcz
        have hdz := hz.done
        try simp only [List.forall_mem_cons] at hdz
        (try have hwz : Below w.heap.size w wz := by first | exact Below.trans (by (repeat (first | with_reducible exact Below.refl _ _ | with_reducible assumption | with_reducible refine Below.al ?_ _ | with_reducible refine Below.sc ?_ (by first | exact Nat.le_refl _ | (simp; done) | (simp; omega)) _ | assumption | exact Below.refl _ _ | refine Below.dr ?_ | refine Below.drN ?_ _ | refine Below.step ?_ (by assumption)))) hbz | ((repeat (first | with_reducible exact Below.refl _ _ | with_reducible assumption | with_reducible refine Below.al ?_ _ | with_reducible refine Below.sc ?_ (by first | exact Nat.le_refl _ | (simp; done) | (simp; omega)) _ | assumption | exact Below.refl _ _ | refine Below.dr ?_ | refine Below.drN ?_ _ | refine Below.step ?_ (by assumption))); done))
        clear hn
        have hz3 := bsz (show b < wz.heap.size by have := hbz.size; omega)
        go_wp2_with fail
        rw [show ((j1 : Int) + 1) = ((j1 + 1 : Nat) : Int) by omega]
        refine (IH.out a.ps _ (j1 + 1) j' _ (FmAt.sub (FmAt.below (by (try clear hwz); (repeat (first | with_reducible exact Below.refl _ _ | with_reducible assumption | with_reducible refine Below.al ?_ _ | with_reducible refine Below.sc ?_ (by first | exact Nat.le_refl _ | (simp; done) | (simp; omega)) _ | assumption | exact Below.refl _ _ | refine Below.dr ?_ | refine Below.drN ?_ _ | refine Below.step ?_ (by assumption)))) HX.out)).2 HT.out.2 (by omega) (by omega)).mono ?_
        rintro e w5 ⟨rfl, hb5⟩
        have hj0' : ¬ (j' : Int) < 0 := by omega
        go_wp2
        exact ⟨⟨j + 1, j', by go_num, rfl, by omega, HM2.out, by omega, by (repeat (first | with_reducible exact Below.refl _ _ | with_reducible assumption | with_reducible refine Below.al ?_ _ | with_reducible refine Below.sc ?_ (by first | exact Nat.le_refl _ | (simp; done) | (simp; omega)) _ | assumption | exact Below.refl _ _ | refine Below.dr ?_ | refine Below.drN ?_ _ | refine Below.step ?_ (by assumption)))⟩, by simp [intOf]; omega⟩
      · obtain rfl : j = us.length := by omega
        rw [List.drop_length] at hmk
        have hkk : q = k' := hmk
        subst hkk
        clear hmk
        go_wp2
        go_ret
        exact ⟨rfl, by (repeat (first | with_reducible exact Below.refl _ _ | with_reducible assumption | with_reducible refine Below.al ?_ _ | with_reducible refine Below.sc ?_ (by first | exact Nat.le_refl _ | (simp; done) | (simp; omega)) _ | assumption | exact Below.refl _ _ | refine Below.dr ?_ | refine Below.drN ?_ _ | refine Below.step ?_ (by assumption)))⟩
end Go.Proofs.YtdklemmincejpaaGreat
namespace Go.Proofs.YtdklemmincejpaaGreat
open Go.RowKit
def Fm.Top (F : Fm) (k k' : Nat) : Prop := ∃ j, Tm.Mkds F.a.us k j ∧ Fm.Mkds F.ps j k'
set_option maxRecDepth 100000 in
theorem markTerm_any (m : Nat) (S : Nat → Prop) (n : ByteArray) (us : List Tm) (v0 v1 : Value) (k : Nat) (w : World) (h : TmOwn 24 (m + 1) S w (.mk n us) [v0, v1]) (hk : 0 < k) (hb : k + Tm.cts us ≤ 1000000) :
    Calls Tryz.prog 35 #[.agg #[v0, v1], .int .i64 (k : Nat)] w fun e w' => ∃ (L : List Tm) (k' : Nat), e = .returned (.int .i64 (k' : Nat)) ∧ Tm.Mkds L k k' ∧ k' ≤ k + Tm.cts us ∧ TmOwn 24 (m + 1) S w' (.mk n L) [v0, v1] ∧ Kept S w w' := by
  obtain ⟨va, he, hn, hrow⟩ := h
  simp only [List.cons.injEq, and_true] at he
  obtain ⟨rfl, rfl⟩ := he
  obtain ⟨p, c, rfl, -⟩ := hrow.form
  have HR := Lib.hid hrow
  have HN := Lib.hid hn
  clear hrow hn
  go_enter Tryz.func35, Tryz.ntmps35
  go_wp2_with fail
  refine (markTermS_any m S us _ k _ (HR.out.mono (SameOn.below (by (repeat (first | with_reducible exact Below.refl _ _ | with_reducible assumption | with_reducible refine Below.al ?_ _ | with_reducible refine Below.sc ?_ (by first | exact Nat.le_refl _ | (simp; done) | (simp; omega)) _ | assumption | exact Below.refl _ _ | refine Below.dr ?_ | refine Below.drN ?_ _ | refine Below.step ?_ (by assumption))))) (fun _ h => h) (fun T x c _ _ hx => TmOwn.mono m m x c (Nat.le_refl _) (SameOn.below (by (repeat (first | with_reducible exact Below.refl _ _ | with_reducible assumption | with_reducible refine Below.al ?_ _ | with_reducible refine Below.sc ?_ (by first | exact Nat.le_refl _ | (simp; done) | (simp; omega)) _ | assumption | exact Below.refl _ _ | refine Below.dr ?_ | refine Below.drN ?_ _ | refine Below.step ?_ (by assumption))))) (fun _ h => h) hx)) hk hb).mono ?_
  rintro e w1 ⟨L, k', rfl, hmk, hll, hk', hrow, hkp⟩
  have H1 := Lib.hid (And.intro hmk (And.intro hrow hkp))
  clear hmk hrow hkp
  go_wp2
  go_ret
  obtain ⟨hmk, hrow, hkp⟩ := H1.out
  exact ⟨L, k', rfl, hmk, hk', ⟨_, rfl, HN.out, hrow⟩, ((Kept.refl S w).below (by (repeat (first | with_reducible exact Below.refl _ _ | with_reducible assumption | with_reducible refine Below.al ?_ _ | with_reducible refine Below.sc ?_ (by first | exact Nat.le_refl _ | (simp; done) | (simp; omega)) _ | assumption | exact Below.refl _ _ | refine Below.dr ?_ | refine Below.drN ?_ _ | refine Below.step ?_ (by assumption))))).trans hkp⟩
set_option maxRecDepth 100000 in
theorem heldTerm_any {B : Nat → Prop} (m : Nat) (t : Tm) (v0 v1 : Value) (k k' : Nat) (w : World) (h : TmAt B m w t [v0, v1]) (hm : Tm.Mkds t.us k k') (hk : 0 < k) (hb : k' ≤ 1000000) :
    Calls Tryz.prog 37 #[.agg #[v0, v1], .int .i64 (k : Nat)] w fun e w' => e = .returned (.int .i64 (k' : Nat)) ∧ Below w.heap.size w w' := by
  obtain ⟨p, c, rfl, rfl, -⟩ := h.form
  have H := Lib.hid h
  have HM := Lib.hid hm
  clear h hm
  go_enter Tryz.func37, Tryz.ntmps37
  go_wp2_with fail
  refine (heldTermS_any m t.us _ k k' _ (TmAt.args (TmAt.below (by (repeat (first | with_reducible exact Below.refl _ _ | with_reducible assumption | with_reducible refine Below.al ?_ _ | with_reducible refine Below.sc ?_ (by first | exact Nat.le_refl _ | (simp; done) | (simp; omega)) _ | assumption | exact Below.refl _ _ | refine Below.dr ?_ | refine Below.drN ?_ _ | refine Below.step ?_ (by assumption)))) H.out)) HM.out hk hb).mono ?_
  rintro e w1 ⟨rfl, hb1⟩
  have hj0 : ¬ (k' : Int) < 0 := by omega
  go_wp2
  go_ret
  exact ⟨rfl, by (repeat (first | with_reducible exact Below.refl _ _ | with_reducible assumption | with_reducible refine Below.al ?_ _ | with_reducible refine Below.sc ?_ (by first | exact Nat.le_refl _ | (simp; done) | (simp; omega)) _ | assumption | exact Below.refl _ _ | refine Below.dr ?_ | refine Below.drN ?_ _ | refine Below.step ?_ (by assumption)))⟩
set_option maxRecDepth 100000 in
set_option maxHeartbeats 1600000 in
theorem markFormula_any (m : Nat) (S : Nat → Prop) (F : Fm) (v0 v1 v2 v3 v4 : Value) (k : Nat) (w : World) (h : FmOwn 24 27 m S w F [v0, v1, v2, v3, v4]) (hS : ∀ b, S b → b < w.heap.size) (hk : 0 < k) (hb : k + Fm.ct F ≤ 1000000) :
    Calls Tryz.prog 9 #[.agg #[v0, v1, v2, v3, v4], .int .i64 (k : Nat)] w fun e w' => ∃ (F' : Fm) (k' : Nat), e = .returned (.int .i64 (k' : Nat)) ∧ F'.Top k k' ∧ k ≤ k' ∧ k' ≤ 1000000 ∧ FmOwn 24 27 m S w' F' [v0, v1, v2, v3, v4] ∧ Kept S w w' := by
  obtain ⟨p, c, q, d, rfl, rfl, rfl, rfl, rfl, -⟩ := h.form
  obtain ⟨op, ⟨n, us⟩, x, ps⟩ := F
  cases m with
  | zero => exact h.elim
  | succ m =>
  obtain ⟨vn, va, vp, Sa, Sp, he, hop, hxs, hta, hrp, hSa, hSp⟩ := h
  simp only [List.cons.injEq, and_true, true_and] at he
  obtain ⟨-, rfl, rfl, -, rfl⟩ := he
  rw [Fm.ct] at hb
  simp only [Tm.us] at hb
  cases m with
  | zero => exact hta.elim
  | succ m =>
  have HTA := Lib.hid hta
  have HRP := Lib.hid hrp
  have HSA := Lib.hid hSa
  have HSP := Lib.hid hSp
  clear hta hrp hSa hSp
  simp only [Fm.op, Fm.a, Fm.v, Fm.ps, Tm.n, Tm.us]
  go_enter Tryz.func9, Tryz.ntmps9
  go_wp2_with fail
  refine (markTerm_any m Sa n us _ _ k _ (TmOwn.mono _ _ _ _ (Nat.le_refl _) (SameOn.below (by (repeat (first | with_reducible exact Below.refl _ _ | with_reducible assumption | with_reducible refine Below.al ?_ _ | with_reducible refine Below.sc ?_ (by first | exact Nat.le_refl _ | (simp; done) | (simp; omega)) _ | assumption | exact Below.refl _ _ | refine Below.dr ?_ | refine Below.drN ?_ _ | refine Below.step ?_ (by assumption))))) (fun _ h => h) HTA.out) hk (by omega)).mono ?_
  rintro e w1 ⟨L, k1, rfl, hmk, hk1, hta1, hkp1⟩
  have hle1 := Tm.Mkds.le _ _ _ hmk
  have H1 := Lib.hid (And.intro hmk (And.intro hta1 hkp1))
  have hq1 := hkp1.size
  simp at hq1
  have hns : ¬ Sa w.heap.size := fun h => by have := hS _ (HSA.out _ h).1; omega
  have hbx : w1.heap[w.heap.size]? = _ := (hkp1.block w.heap.size (by simp) hns).trans (heap_alloc_new w _)
  have e4 : w1.cell? ⟨w.heap.size, 4, none⟩ = some (.slice q ps.length d) := by rw [cell_of_row w1 _ 4 _ _ (0, 0) hbx]; rfl
  have HRP2 := HRP.out.mono (S' := Sp) (w' := w1) (R' := fun S x c => FmOwn 24 27 (m + 1) S w1 x c) (fun b hb hlt => (hkp1.block b (by simp; omega) (fun h => (HSA.out b h).2 hb)).trans (heap_alloc_old w _ hlt)) (fun _ h => h)
    (fun T y c _ hT hx => FmOwn.mono _ _ y c (Nat.le_refl _) (fun b hb hlt => (hkp1.block b (by simp; omega) (fun h => (HSA.out b h).2 (hT b hb))).trans (heap_alloc_old w _ hlt)) (fun _ h => h) hx)
  have HRP2 := Lib.hid HRP2
  clear hmk hta1 hkp1 hbx
  go_wp2_with fail
  refine (markFormulaS_any (m + 1) Sp ps _ k1 _ HRP2.out (by omega) (by omega)).mono ?_
  rintro e w2 ⟨L2, k', rfl, hmk2, hll2, hk2, hrow2, hkp2⟩
  have hle2 := Fm.Mkds.le _ _ _ hmk2
  have H2 := Lib.hid (And.intro hmk2 (And.intro hrow2 hkp2))
  clear hmk2 hrow2 hkp2
  go_wp2
  go_ret
  obtain ⟨hmk, hta1, hkp1⟩ := H1.out
  obtain ⟨hmk2, hrow2, hkp2⟩ := H2.out
  refine ⟨.mk op (.mk n L) x L2, k', rfl, ⟨k1, hmk, hmk2⟩, by omega, by omega, ⟨_, _, _, Sa, Sp, rfl, hop, hxs, ?_, hrow2, HSA.out, HSP.out⟩, ?_⟩
  · exact TmOwn.mono _ _ _ _ (Nat.le_refl _) (fun b hb hlt => hkp2.block b hlt (fun h => (HSA.out b hb).2 h)) (fun _ h => h) hta1
  · exact (((Kept.refl S w).below (by (repeat (first | with_reducible exact Below.refl _ _ | with_reducible assumption | with_reducible refine Below.al ?_ _ | with_reducible refine Below.sc ?_ (by first | exact Nat.le_refl _ | (simp; done) | (simp; omega)) _ | assumption | exact Below.refl _ _ | refine Below.dr ?_ | refine Below.drN ?_ _ | refine Below.step ?_ (by assumption))))).trans (hkp1.mono (fun b hb => (HSA.out b hb).1))).trans (hkp2.mono HSP.out)
theorem FmAt.atomAt {B : Nat → Prop} {w : World} {n : Nat} {t : Fm} {v0 v1 v2 v3 v4 : Value} (h : FmAt B n w t [v0, v1, v2, v3, v4]) : TmAt B n w t.a [v1, v2] := by
  obtain ⟨op, a, x, ps⟩ := t
  cases n with
  | zero => exact h.elim
  | succ n =>
  obtain ⟨vn, va, vp, h1, h2, h3, h4, h5⟩ := h
  simp only [List.cons.injEq, and_true] at h1
  obtain ⟨-, rfl, rfl, -, rfl⟩ := h1
  exact TmAt.mono (SameOn.refl _ _) (fun _ h => h) n (n + 1) a _ (by omega) h4
theorem FmAt.partsAt {B : Nat → Prop} {w : World} {n : Nat} {t : Fm} {v0 v1 v2 v3 v4 : Value} (h : FmAt B n w t [v0, v1, v2, v3, v4]) : ListAt B w 5 (FmAt B n w) v4 t.ps := by
  cases n with
  | zero => obtain ⟨op, a, x, ps⟩ := t; exact h.elim
  | succ n => exact (FmAt.sub h).2.mono (SameOn.refl _ _) (fun _ h => h) (fun x c _ hx => FmAt.mono (SameOn.refl _ _) (fun _ h => h) n (n + 1) x c (by omega) hx)
set_option maxRecDepth 100000 in
set_option maxHeartbeats 1600000 in
theorem heldFormula_any {B : Nat → Prop} (m : Nat) (F : Fm) (v0 v1 v2 v3 v4 : Value) (k k' : Nat) (w : World) (h : FmAt B m w F [v0, v1, v2, v3, v4]) (hm : F.Top k k') (hk : 0 < k) (hb : k' ≤ 1000000) :
    Calls Tryz.prog 10 #[.agg #[v0, v1, v2, v3, v4], .int .i64 (k : Nat)] w fun e w' => e = .returned (.int .i64 (k' : Nat)) ∧ Below w.heap.size w w' := by
  obtain ⟨p, c, q, d, rfl, rfl, rfl, rfl, rfl, -⟩ := h.form
  obtain ⟨k1, hm1, hm2⟩ := hm
  have hle1 := Tm.Mkds.le _ _ _ hm1
  have hle2 := Fm.Mkds.le _ _ _ hm2
  have H := Lib.hid h
  have HM := Lib.hid (And.intro hm1 hm2)
  clear h hm1 hm2
  go_enter Tryz.func10, Tryz.ntmps10
  go_wp2_with fail
  refine (heldTerm_any m F.a _ _ k k1 _ (FmAt.atomAt (FmAt.below (by (repeat (first | with_reducible exact Below.refl _ _ | with_reducible assumption | with_reducible refine Below.al ?_ _ | with_reducible refine Below.sc ?_ (by first | exact Nat.le_refl _ | (simp; done) | (simp; omega)) _ | assumption | exact Below.refl _ _ | refine Below.dr ?_ | refine Below.drN ?_ _ | refine Below.step ?_ (by assumption)))) H.out)) HM.out.1 hk (by omega)).mono ?_
  rintro e w1 ⟨rfl, hb1⟩
  have ⟨cb1, fb1⟩ := bcell hb1
  have hq1 := hb1.size
  simp at hq1
  have hz1 := bsz (show w.heap.size < w1.heap.size by omega)
  have hj0 : ¬ (k1 : Int) < 0 := by omega
  go_wp2_with fail
  refine (heldFormulaS_any m F.ps _ k1 k' _ (FmAt.partsAt (FmAt.below (by (repeat (first | with_reducible exact Below.refl _ _ | with_reducible assumption | with_reducible refine Below.al ?_ _ | with_reducible refine Below.sc ?_ (by first | exact Nat.le_refl _ | (simp; done) | (simp; omega)) _ | assumption | exact Below.refl _ _ | refine Below.dr ?_ | refine Below.drN ?_ _ | refine Below.step ?_ (by assumption)))) H.out)) HM.out.2 (by omega) hb).mono ?_
  rintro e w2 ⟨rfl, hb2⟩
  have hj1 : ¬ (k' : Int) < 0 := by omega
  go_wp2
  go_ret
  exact ⟨rfl, by (repeat (first | with_reducible exact Below.refl _ _ | with_reducible assumption | with_reducible refine Below.al ?_ _ | with_reducible refine Below.sc ?_ (by first | exact Nat.le_refl _ | (simp; done) | (simp; omega)) _ | assumption | exact Below.refl _ _ | refine Below.dr ?_ | refine Below.drN ?_ _ | refine Below.step ?_ (by assumption)))⟩
end Go.Proofs.YtdklemmincejpaaGreat
namespace Go.Proofs.YtdklemmincejpaaGreat
open Go.RowKit
theorem implETF_any (s : ByteArray) (hz : s.size ≤ 1000000000000) (w : World) : Calls Tryz.prog 7 #[.string s] w (EtfV (2 * s.size + 7) (etfOk s) (etfF s) w) := by
  by_cases h : s.size ≤ 12000
  · have e : etfOk s = pOk s.data.toList := by rw [etfOk, decide_eq_true h, Bool.true_and]
    refine (implETF_short s h w).mono fun e' w' hp => ?_
    have := hp.v (m := 2 * s.size + 7) (by omega) (by omega)
    rw [etfF, e]; exact this
  · have e : etfOk s = false := by rw [etfOk, decide_eq_false h, Bool.false_and]
    refine (implETF_long s (by omega) hz w).mono fun e' w' hp => ?_
    rw [etfF, e]; exact EtfV.zero hp (by omega)
theorem specETF_any (s : ByteArray) (hz : s.size ≤ 1000000000000) (w : World) : Calls Tryz.prog 6 #[.string s] w (EtfV (2 * s.size + 7) (etfOk s) (etfF s) w) := by
  by_cases h : s.size ≤ 12000
  · have e : etfOk s = pOk s.data.toList := by rw [etfOk, decide_eq_true h, Bool.true_and]
    refine (specETF_short s h w).mono fun e' w' hp => ?_
    have := hp.v (m := 2 * s.size + 7) (by omega) (by omega)
    rw [qOk_eq] at this
    rw [etfF, e]
    cases hk : pOk s.data.toList
    · rw [hk] at this; exact this
    · rw [hk, qRead_eq hk] at this; exact this
  · have e : etfOk s = false := by rw [etfOk, decide_eq_false h, Bool.false_and]
    refine (specETF_long s (by omega) hz w).mono fun e' w' hp => ?_
    rw [etfF, e]; exact EtfV.zero hp (by omega)
set_option maxRecDepth 100000 in
set_option maxHeartbeats 3200000 in
theorem exactETF (s : ByteArray) (w : World) (hs : s.size ≤ maxLen) :
    Calls Tryz.prog 3 #[.string s] w fun e w' => e = .returned (.bool true) ∧ Below w.heap.size w w' := by
  unfold maxLen at hs
  by_cases h20 : (1048576 : Int) < s.size
  · go_enter Tryz.func3, Tryz.ntmps3
    go_wp2
    go_ret
    exact ⟨rfl, by (repeat (first | with_reducible exact Below.refl _ _ | with_reducible assumption | with_reducible refine Below.al ?_ _ | with_reducible refine Below.sc ?_ (by first | exact Nat.le_refl _ | (simp; done) | (simp; omega)) _ | assumption | exact Below.refl _ _ | refine Below.dr ?_ | refine Below.drN ?_ _ | refine Below.step ?_ (by assumption)))⟩
  · have hct := etfF_ct s
    have HI := Lib.hid (implETF_any s (by omega))
    have HS := Lib.hid (specETF_any s (by omega))
    obtain ⟨m, hm⟩ : ∃ m, 2 * s.size + 7 = m := ⟨_, rfl⟩
    rw [hm] at HI HS
    clear hm
    generalize etfF s = F at *
    generalize etfOk s = ok at *
    go_enter Tryz.func3, Tryz.ntmps3
    go_wp2_with fail
    refine (HS.out _).mono ?_
    rintro e w1 ⟨hb1, x0, x1, x2, x3, x4, rfl, hO1⟩
    obtain ⟨p, c, q, d, rfl, rfl, rfl, rfl, rfl, -⟩ := hO1.form
    have HW0 := Lib.hid (FmOwn.at_ _ _ _ hO1)
    clear hO1
    have hq1 := hb1.size
    go_wp2_with fail
    refine (HI.out _).mono ?_
    rintro e w2 ⟨hb2, y0, y1, y2, y3, y4, rfl, hO2⟩
    obtain ⟨p2, c2, q2, d2, rfl, rfl, rfl, rfl, rfl, -⟩ := hO2.form
    have HG0 := Lib.hid hO2
    clear hO2
    have hq2 := hb2.size
    simp at hq2
    have ⟨cb2, fb2⟩ := bcell hb2
    have hz12 := bsz (show w1.heap.size < w2.heap.size by omega)
    go_wp2_with fail
    refine (eqFormula_same m F _ _ _ _ _ _ _ _ _ _ _ (FmAt.below (by (repeat (first | with_reducible exact Below.refl _ _ | with_reducible assumption | with_reducible refine Below.al ?_ _ | with_reducible refine Below.sc ?_ (by first | exact Nat.le_refl _ | (simp; done) | (simp; omega)) _ | assumption | exact Below.refl _ _ | refine Below.dr ?_ | refine Below.drN ?_ _ | refine Below.step ?_ (by assumption)))) (FmOwn.at_ _ _ _ HG0.out)) (FmAt.below (by (repeat (first | with_reducible exact Below.refl _ _ | with_reducible assumption | with_reducible refine Below.al ?_ _ | with_reducible refine Below.sc ?_ (by first | exact Nat.le_refl _ | (simp; done) | (simp; omega)) _ | assumption | exact Below.refl _ _ | refine Below.dr ?_ | refine Below.drN ?_ _ | refine Below.step ?_ (by assumption)))) HW0.out)).mono ?_
    rintro e w3 ⟨rfl, hb3⟩
    have hq3 := hb3.size
    simp at hq3
    have ⟨cb3, fb3⟩ := bcell hb3
    have hz13 := bsz (show w1.heap.size < w3.heap.size by omega)
    have hz23 := bsz (show w2.heap.size < w3.heap.size by omega)
    go_wp2_with fail
    refine (markFormula_any m _ F _ _ _ _ _ 1 _ (HG0.out.later (by (repeat (first | with_reducible exact Below.refl _ _ | with_reducible assumption | with_reducible refine Below.al ?_ _ | with_reducible refine Below.sc ?_ (by first | exact Nat.le_refl _ | (simp; done) | (simp; omega)) _ | assumption | exact Below.refl _ _ | refine Below.dr ?_ | refine Below.drN ?_ _ | refine Below.step ?_ (by assumption))))) (fun b hb => by have := hb.2; omega) (by decide) (by omega)).mono ?_
    rintro e w4 ⟨F', k', rfl, htop, hk1, hk2, hO4, hkp4⟩
    have hq4 := hkp4.size
    have nW : ∀ b, b ≤ w1.heap.size → ¬ NewB (w1.alloc (.cells #[.int .i64 F.op, .string F.a.n, .slice p F.a.us.length c, .string F.v, .slice q F.ps.length d] 27)) w2 b := fun b hb h => by have := h.1; simp at this; omega
    have B3 : ∀ b, b < w1.heap.size → w4.heap[b]? = w1.heap[b]? := fun b hb => (hkp4.block b (by omega) (nW b (by omega))).trans ((hb3.block b (by simp; omega)).trans ((heap_alloc_old w2 _ (by omega)).trans ((hb2.block b (by simp; omega)).trans (heap_alloc_old w1 _ hb))))
    have B0 : w4.heap[w1.heap.size]? = some (.cells #[.int .i64 F.op, .string F.a.n, .slice p F.a.us.length c, .string F.v, .slice q F.ps.length d] 27 (0, 0)) := (hkp4.block _ (by omega) (nW _ (by omega))).trans ((hb3.block _ (by simp; omega)).trans ((heap_alloc_old w2 _ (by omega)).trans ((hb2.block _ (by simp)).trans (heap_alloc_new w1 _))))
    have B1 : w4.heap[w2.heap.size]? = some (.cells #[.int .i64 F.op, .string F.a.n, .slice p2 F.a.us.length c2, .string F.v, .slice q2 F.ps.length d2] 27 (0, 0)) := (hkp4.block _ (by omega) (fun h => by have := h.2; omega)).trans ((hb3.block _ (by simp)).trans (heap_alloc_new w2 _))
    have HW4 := Lib.hid (FmAt.mono (B := NewB w w1) (B' := NewB w w1) (w' := w4) (fun b hb _ => B3 b hb.2) (fun _ h => h) m m F _ (Nat.le_refl _) HW0.out)
    have HG4 := Lib.hid (FmOwn.at_ _ _ _ hO4)
    have HT := Lib.hid htop
    have hb04 : Below w.heap.size w w4 := ⟨hkp4.os.trans (hb3.os.trans (hb2.os.trans hb1.os)), hkp4.tape.trans (hb3.tape.trans (hb2.tape.trans hb1.tape)), hkp4.output.trans (hb3.output.trans (hb2.output.trans hb1.output)), by omega, fun b hb => (B3 b (by omega)).trans (hb1.block b hb)⟩
    obtain ⟨r0, r1, r2, r3, r4, rf⟩ := cells5_cell B0
    obtain ⟨s0, s1, s2, s3, s4, sf⟩ := cells5_cell B1
    have hz14 := bsz (show w1.heap.size < w4.heap.size by omega)
    have hz24 := bsz (show w2.heap.size < w4.heap.size by omega)
    clear hkp4 nW B3 B0 B1 hO4 htop hb1 hb2 hb3 cb2 fb2 cb3 fb3 HW0 HG0 hz12 hz13 hz23
    go_wp2_with fail
    refine (heldFormula_any m F' _ _ _ _ _ 1 k' _ (FmAt.below (by (repeat (first | with_reducible exact Below.refl _ _ | with_reducible assumption | with_reducible refine Below.al ?_ _ | with_reducible refine Below.sc ?_ (by first | exact Nat.le_refl _ | (simp; done) | (simp; omega)) _ | assumption | exact Below.refl _ _ | refine Below.dr ?_ | refine Below.drN ?_ _ | refine Below.step ?_ (by assumption)))) HG4.out) HT.out (by decide) hk2).mono ?_
    rintro e w5 ⟨rfl, hb5⟩
    have ⟨cb5, fb5⟩ := bcell hb5
    have hq5 := hb5.size
    have hz15 := bsz (show w1.heap.size < w5.heap.size by omega)
    have hz25 := bsz (show w2.heap.size < w5.heap.size by omega)
    have hk0 : ¬ (k' : Int) < 0 := by omega
    go_wp2_with fail
    refine (HI.out _).mono ?_
    rintro e w6 ⟨hb6, t0, t1, t2, t3, t4, rfl, hO6⟩
    obtain ⟨p3, c3, q3, d3, rfl, rfl, rfl, rfl, rfl, -⟩ := hO6.form
    have HH0 := Lib.hid (FmOwn.at_ _ _ _ hO6)
    clear hO6
    have hq6 := hb6.size
    have ⟨cb6, fb6⟩ := bcell hb6
    have hz16 := bsz (show w1.heap.size < w6.heap.size by omega)
    have hz26 := bsz (show w2.heap.size < w6.heap.size by omega)
    go_wp2_with fail
    refine (eqFormula_same m F _ _ _ _ _ _ _ _ _ _ _ (FmAt.below (by (repeat (first | with_reducible exact Below.refl _ _ | with_reducible assumption | with_reducible refine Below.al ?_ _ | with_reducible refine Below.sc ?_ (by first | exact Nat.le_refl _ | (simp; done) | (simp; omega)) _ | assumption | exact Below.refl _ _ | refine Below.dr ?_ | refine Below.drN ?_ _ | refine Below.step ?_ (by assumption)))) HH0.out) (FmAt.below (by (repeat (first | with_reducible exact Below.refl _ _ | with_reducible assumption | with_reducible refine Below.al ?_ _ | with_reducible refine Below.sc ?_ (by first | exact Nat.le_refl _ | (simp; done) | (simp; omega)) _ | assumption | exact Below.refl _ _ | refine Below.dr ?_ | refine Below.drN ?_ _ | refine Below.step ?_ (by assumption)))) HW4.out)).mono ?_
    rintro e w7 ⟨rfl, hb7⟩
    have ⟨cb7, fb7⟩ := bcell hb7
    have hq7 := hb7.size
    simp at hq7
    have hz17 := bsz (show w1.heap.size < w7.heap.size by omega)
    have hz27 := bsz (show w2.heap.size < w7.heap.size by omega)
    go_wp2_with fail
    refine (heldFormula_any m F' _ _ _ _ _ 1 k' _ (FmAt.below (by (repeat (first | with_reducible exact Below.refl _ _ | with_reducible assumption | with_reducible refine Below.al ?_ _ | with_reducible refine Below.sc ?_ (by first | exact Nat.le_refl _ | (simp; done) | (simp; omega)) _ | assumption | exact Below.refl _ _ | refine Below.dr ?_ | refine Below.drN ?_ _ | refine Below.step ?_ (by assumption)))) HG4.out) HT.out (by decide) hk2).mono ?_
    rintro e w8 ⟨rfl, hb8⟩
    go_wp2
    go_ret
    exact ⟨rfl, by (repeat (first | with_reducible exact Below.refl _ _ | with_reducible assumption | with_reducible refine Below.al ?_ _ | with_reducible refine Below.sc ?_ (by first | exact Nat.le_refl _ | (simp; done) | (simp; omega)) _ | assumption | exact Below.refl _ _ | refine Below.dr ?_ | refine Below.drN ?_ _ | refine Below.step ?_ (by assumption)))⟩
end Go.Proofs.YtdklemmincejpaaGreat
namespace Go.Proofs.YtdklemmincejpaaGreat
open Go.ChangeShapes Go.WideShapes Go.ChangeAt Go.RowKit Go.Joins
theorem own : ownKnob Tryz.prog.godebug = none := by kernel_rfl
theorem laidOut : laidOutB Tryz.prog = true := by kernel_rfl
theorem trodAll_stays {H : Type} {enc : TypeId × Value → H} {P : Program} (hl : laidOutB P = true) {W W' : World} {sp : Nat → Bool} : ∀ (ts : List TypeId) (vs : List Value) (ds : List (DataW H)) (ps : List MemPlace),
    (∀ t ∈ ts, P.readableRec t = true ∧ t < P.types.size) → DataW.TrodAll enc P W 0 (fun _ => true) true ts vs ds ps → (∀ x ∈ ps, W.sameAt W' x) → (∀ x ∈ ps, sp x.block = true) → DataW.TrodAll enc P W' 0 sp true ts vs ds ps
  | [], vs, ds, ps, _, h, _, _ => by
    cases vs <;> cases ds <;> simp_all [DataW.TrodAll]
  | t :: ts, [], ds, ps, _, h, _, _ => by simp [DataW.TrodAll] at h
  | t :: ts, v :: vs, [], ps, _, h, _, _ => by simp [DataW.TrodAll] at h
  | t :: ts, v :: vs, d :: ds, ps, ht, h, hs, hp => by
    obtain ⟨p, q, h1, h2, rfl⟩ := h
    exact ⟨p, q, WideElems.Trod_stays hl (ht t (by simp)).1 (ht t (by simp)).2 h1 (fun x hx => hs x (by simp [hx])) (fun x hx => hp x (by simp [hx])),
      trodAll_stays hl ts vs ds q (fun t h => ht t (by simp [h])) h2 (fun x hx => hs x (by simp [hx])) (fun x hx => hp x (by simp [hx])), rfl⟩
/-- The row's last step, the same for every law: it answers true, nothing that was there has turned. -/
theorem close_true {H : Type} {enc : TypeId × Value → H} {f : Func} {s : ChangeSpec} {W W' : World} {args : Array Value} {ds gs : List (DataW H)} {before : List MemPlace}
    (hW : DataW.Whole enc Tryz.prog f.params.toList s.vars false W args.toList ds gs before) (hv : s.vars = []) (hr : f.resultTypes = #[4])
    (hp : f.params.toList.all (fun t => Tryz.prog.readableRec t && decide (t < Tryz.prog.types.size)) = true) (hfn : s.fn H ds = { results := [.lit (.bool true)], args := ds }) (hb : Below W.heap.size W W') :
    s.post enc Tryz.prog f false true false false W args (.bool true) W' := by
  have hW2 := hW
  have hlt : ∀ p ∈ before, p.block < W.heap.size := fun p hp => hW.lt p hp
  obtain ⟨p, q, hA, hV, rfl, _, _⟩ := hW2
  rw [hv] at hV
  obtain ⟨rfl, rfl⟩ := trodVars_none hV
  rw [List.append_nil] at hlt
  refine ⟨ds, [], p ++ [], [], p, [], hW, ?_, ?_, ?_, hb.frame _, fun h => by cases h⟩
  · rw [List.append_nil, hfn, hr]; exact trodAll_mk1 (shut_bool Tryz.underlying4 true)
  · rw [List.append_nil, hfn]
    refine trodAll_stays laidOut _ _ _ _ (fun t ht => ?_) hA (fun x hx => hb.same (hlt x hx)) (fun x hx => by simpa using hlt x hx)
    have := List.all_eq_true.1 hp t ht
    simpa using this
  · rw [List.append_nil, hfn, hv]; rfl
end Go.Proofs.YtdklemmincejpaaGreat
namespace Go.Proofs.YtdklemmincejpaaGreat.fnExactEnglishToFormulaLaw
open Go.ChangeShapes Go.WideShapes Go.ChangeAt Go.RowKit Go.Joins Go.ChangeMaps
set_option maxRecDepth 100000 in
theorem contract (H : Type) (enc : TypeId × Value → H) (W : World) (base : Nat) (args : Array Value) (ds gs : List (DataW H)) (before : List MemPlace)
    (hval : ∀ (j : Nat) t v, Tryz.f3.params[j]? = some t → args[j]? = some v → Value.okWide Tryz.prog W .any base t v)
    (hW : DataW.Whole enc Tryz.prog Tryz.f3.params.toList Rows.fnExactEnglishToFormulaSpec.vars false W args.toList ds gs before) :
    Calls Tryz.prog 3 args W fun e W' => ∃ v, e = .returned v ∧ Rows.fnExactEnglishToFormulaSpec.post enc Tryz.prog Tryz.f3 false true false false W args v W' := by
  have hW' := hW
  obtain ⟨p, q, hA0, hV, rfl, hfz, hnd⟩ := hW
  have hA : DataW.TrodAll enc Tryz.prog W 0 (fun _ => true) true Tryz.f3.params.toList args.toList ds p := hA0
  rw [Tryz.params3] at hA hval
  obtain ⟨v0, vs0, d0, ds0, p0, q0, hargs, rfl, rfl, h0, r0⟩ := trodAll_cons hA
  obtain ⟨rfl, rfl, rfl⟩ := trodAll_nil r0
  obtain rfl : args = #[v0] := Array.ext' hargs
  obtain ⟨s0, rfl, rfl, rfl, hs0⟩ := open_string Tryz.underlying9 (hval 0 9 v0 rfl rfl) h0
  clear hA0
  refine (exactETF s0 W hs0).mono fun e W' ⟨he, hb⟩ => ?_
  subst he
  exact ⟨_, rfl, close_true hW' rfl (by kernel_rfl) (by kernel_rfl) rfl hb⟩
set_option maxRecDepth 100000 in
theorem lifted (os : Os) (started : os.Started) (H : Type) (enc : TypeId × Value → H) :
    ReturnsInHanded {} Tryz.checked os 3 .any (Rows.fnExactEnglishToFormulaSpec.pre6 enc Tryz.prog Tryz.f3 Rows.fnExactEnglishToFormulaRow.domain false) (Rows.fnExactEnglishToFormulaSpec.post enc Tryz.prog Tryz.f3 false true false false) := by
  refine returnsInHanded_of_change (C := Tryz.checked) own started (by kernel_rfl) Tryz.func3
    (ChangeSpec.witness6 (enc := enc) (C := Tryz.checked) false ⟨#[], #[.string ⟨#[]⟩], []⟩ 8 (by kernel_rfl) (by kernel_rfl) (by kernel_rfl) (by kernel_rfl)) ?_
  intro W base args ds gs before hval hW _ _
  exact contract H enc W base args ds gs before hval hW
theorem said : Rows.FnExactEnglishToFormulaSaid :=
  OpenClaim.holds_of_wide 3 Tryz.f3 rfl rfl rfl rfl rfl rfl rfl ⟨rfl, rfl, rfl, rfl, rfl⟩ rfl rfl rfl rfl rfl (by kernel_rfl) Tryz.func3 (by kernel_rfl)
    (of_decide_eq_true (by kernel_rfl)) (by unfold Func.isWrapper; first | (rw [if_pos (by decide +kernel)]; kernel_rfl) | (rw [if_neg (by decide +kernel)]; exact ⟨rfl, rfl⟩))
    (fun os started H enc _ => lifted os started H enc)
end Go.Proofs.YtdklemmincejpaaGreat.fnExactEnglishToFormulaLaw
