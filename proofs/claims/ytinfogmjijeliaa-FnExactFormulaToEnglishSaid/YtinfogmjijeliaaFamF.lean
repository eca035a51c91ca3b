/- The laws' own functions on formulas: how large one is, its copy, the comparison. Conditions: sizes. -/
import Derived.Test.YtinfogmjijeliaaFamT
namespace Go.Proofs.Ytinfogmjijeliaa
open Go.RowKit
mutual
def Fm.wt : Fm → Nat | .mk _ a v us => a.wt + v.size + us.length + Fm.wts us
def Fm.wts : List Fm → Nat | [] => 0 | a :: us => a.wt + Fm.wts us
end
theorem Fm.wts_drop (us : List Fm) {k : Nat} (h : k < us.length) : Fm.wts (us.drop k) = us[k].wt + Fm.wts (us.drop (k + 1)) := by
  rw [List.drop_eq_getElem_cons h, Fm.wts]
theorem Fm.wts_le (us : List Fm) {k : Nat} (h : k < us.length) : us[k].wt ≤ Fm.wts us := by
  induction us generalizing k with
  | nil => simp at h
  | cons a us ih =>
    cases k with
    | zero => simp [Fm.wts]
    | succ k => have := ih (k := k) (by simpa using h); simp only [List.getElem_cons_succ, Fm.wts]; omega
set_option maxRecDepth 100000 in
set_option maxHeartbeats 800000 in
theorem szFormulaS_of {B : Nat → Prop} (n : Nat) (ih : ∀ (t : Fm) (v0 v1 v2 v3 v4 : Value) (left : Int) (w : World), FmAt B n w t [v0, v1, v2, v3, v4] → 0 ≤ left → left ≤ 1048576 →
      Calls Try.prog 7 #[.agg #[v0, v1, v2, v3, v4], .int .i64 left] w fun e w' => e = .returned (.int .i64 (szR left t.wt)) ∧ Below w.heap.size w w')
    (us : List Fm) (va : Value) (left : Int) (w : World) (h : ListAt B w 5 (FmAt B n w) va us) (h0 : 0 ≤ left) (h1 : left ≤ 1048576) :
    Calls Try.prog 25 #[va, .int .i64 left] w fun e w' => e = .returned (.int .i64 (szR left (us.length + Fm.wts us))) ∧ Below w.heap.size w w' := by
  obtain ⟨p, c, rfl, hlen⟩ := h.form
  unfold maxLen at hlen
  have H := Lib.hid h
  have IH := Lib.hid ih
  clear h ih
  by_cases hl : (us.length : Int) ≤ left
  · go_enter Try.func25, Try.ntmps25
    go_wp2
    go_loopw [1, 5] (fun l i wr => ∃ k done : Nat, k ≤ us.length ∧ i = .int .i64 k ∧ done + Fm.wts (us.drop k) = Fm.wts us ∧ l = .int .i64 (left - us.length - done) ∧ (done : Int) ≤ left - us.length ∧ Below w.heap.size w wr) (fun _ i _ => us.length - (intOf i).toNat)
    case atStart => exact ⟨0, 0, Nat.zero_le _, rfl, by simp, by simp, by omega, by (repeat (first | with_reducible exact Below.refl _ _ | with_reducible assumption | with_reducible refine Below.al ?_ _ | with_reducible refine Below.sc ?_ (by first | exact Nat.le_refl _ | (simp; done) | (simp; omega)) _ | assumption | exact Below.refl _ _ | refine Below.dr ?_ | refine Below.drN ?_ _ | refine Below.step ?_ (by assumption)))⟩
    case round =>
      obtain ⟨k, done, hk, rfl, hd, rfl, hdl, hb⟩ := hrel
      have HD := Lib.hid hd
      clear hd
      by_cases hlt : k < us.length
      · obtain ⟨b, o, rfl, hB, x0, x1, x2, x3, x4, hx0, hx1, hx2, hx3, hx4, hx⟩ := (H.out.mono (SameOn.below hb) (fun _ h => h) (fun x cs _ hx => FmAt.below hb hx)).at5 hlt
        have HW := Lib.hid (Fm.wts_drop us hlt)
        obtain ⟨a, ha⟩ : ∃ a, us[k] = a := ⟨_, rfl⟩
        rw [ha] at hx HW
        have HX := Lib.hid hx
        clear hx ha
        by_cases hw : (a.wt : Int) ≤ left - us.length - done
        · have hs : szR (left - us.length - done) a.wt = left - us.length - done - a.wt := if_pos hw
          have HS := Lib.hid hs
          clear hs
          go_wp2_with fail
          refine (IH.out a x0 x1 x2 x3 x4 _ _ HX.out (by omega) (by omega)).mono ?_
          rintro e w1 ⟨rfl, hb1⟩
          have ⟨cw1, fw1⟩ := bcell hb1
          have qw1 := hb1.size
          (try simp at qw1)
          (try have zw1w := bsz (show w.heap.size < w1.heap.size by omega))
          rw [HS.out]
          go_wp2
          have h1 := HD.out
          have h2 := HW.out
          refine ⟨⟨k + 1, done + a.wt, by omega, by go_num, by omega, ?_, by omega, by (repeat (first | with_reducible exact Below.refl _ _ | with_reducible assumption | with_reducible refine Below.al ?_ _ | with_reducible refine Below.sc ?_ (by first | exact Nat.le_refl _ | (simp; done) | (simp; omega)) _ | assumption | exact Below.refl _ _ | refine Below.dr ?_ | refine Below.drN ?_ _ | refine Below.step ?_ (by assumption)))⟩, by simp [intOf]; omega⟩
          exact congrArg (Value.int .i64) (by omega)
        · have HS := Lib.hid (show szR (left - us.length - done) a.wt = -1 from if_neg hw)
          go_wp2_with fail
          refine (IH.out a x0 x1 x2 x3 x4 _ _ HX.out (by omega) (by omega)).mono ?_
          rintro e w1 ⟨rfl, hb1⟩
          have ⟨cw1, fw1⟩ := bcell hb1
          have qw1 := hb1.size
          (try simp at qw1)
          (try have zw1w := bsz (show w.heap.size < w1.heap.size by omega))
          rw [HS.out]
          go_wp2
          go_ret
          have h1 := HD.out
          have h2 := HW.out
          exact ⟨ret_int (by rw [szR, if_neg (by omega)]), by (repeat (first | with_reducible exact Below.refl _ _ | with_reducible assumption | with_reducible refine Below.al ?_ _ | with_reducible refine Below.sc ?_ (by first | exact Nat.le_refl _ | (simp; done) | (simp; omega)) _ | assumption | exact Below.refl _ _ | refine Below.dr ?_ | refine Below.drN ?_ _ | refine Below.step ?_ (by assumption)))⟩
      · obtain rfl : k = us.length := by omega
        have hd := HD.out
        rw [List.drop_length, Fm.wts] at hd
        have HD2 := Lib.hid hd
        clear hd
        go_wp2
        go_ret
        have h1 := HD2.out
        exact ⟨ret_int (by rw [szR, if_pos (by omega)]; omega), by (repeat (first | with_reducible exact Below.refl _ _ | with_reducible assumption | with_reducible refine Below.al ?_ _ | with_reducible refine Below.sc ?_ (by first | exact Nat.le_refl _ | (simp; done) | (simp; omega)) _ | assumption | exact Below.refl _ _ | refine Below.dr ?_ | refine Below.drN ?_ _ | refine Below.step ?_ (by assumption)))⟩
  · go_enter Try.func25, Try.ntmps25
    go_wp2
    go_ret
    exact ⟨ret_int (by rw [szR, if_neg (by omega)]), by (repeat (first | with_reducible exact Below.refl _ _ | with_reducible assumption | with_reducible refine Below.al ?_ _ | with_reducible refine Below.sc ?_ (by first | exact Nat.le_refl _ | (simp; done) | (simp; omega)) _ | assumption | exact Below.refl _ _ | refine Below.dr ?_ | refine Below.drN ?_ _ | refine Below.step ?_ (by assumption)))⟩
set_option maxRecDepth 100000 in
set_option maxHeartbeats 1600000 in
theorem szFormula_any {B : Nat → Prop} : ∀ (n : Nat) (t : Fm) (v0 v1 v2 v3 v4 : Value) (left : Int) (w : World), FmAt B n w t [v0, v1, v2, v3, v4] → 0 ≤ left → left ≤ 1048576 →
      Calls Try.prog 7 #[.agg #[v0, v1, v2, v3, v4], .int .i64 left] w fun e w' => e = .returned (.int .i64 (szR left t.wt)) ∧ Below w.heap.size w w' := by
  intro n
  induction n with
  | zero => intro t v0 v1 v2 v3 v4 left w h; exact h.elim
  | succ n ih =>
    rintro ⟨op, t, s, us⟩ v0 v1 v2 v3 v4 left w ⟨vn, va, vp, hcs, hop, hs, ht, hl⟩ h0 h1
    simp only [List.cons.injEq, and_true] at hcs
    obtain ⟨rfl, rfl, rfl, rfl, rfl⟩ := hcs
    have HS := Lib.hid (szFormulaS_of n ih)
    have HL := Lib.hid hl
    have HT := Lib.hid ht
    have HW := Lib.hid (show (Fm.mk op t s us).wt = t.wt + (s.size + (us.length + Fm.wts us)) by rw [Fm.wt]; omega)
    clear ih hl ht
    unfold maxLen at hs
    by_cases hc : (t.wt : Int) ≤ left
    · have HR0 := Lib.hid (show szR left t.wt = left - t.wt from if_pos hc)
      by_cases ha : (s.size : Int) ≤ left - t.wt
      · by_cases hb : ((us.length + Fm.wts us : Nat) : Int) ≤ left - t.wt - s.size
        · have HR := Lib.hid (show szR (left - t.wt - s.size) (us.length + Fm.wts us) = left - t.wt - s.size - (us.length + Fm.wts us : Nat) from if_pos hb)
          go_enter Try.func7, Try.ntmps7
          go_wp2_with fail
          refine (szTerm_any n t v1 v2 _ _ (HT.out.below (by (repeat (first | with_reducible exact Below.refl _ _ | with_reducible assumption | with_reducible refine Below.al ?_ _ | with_reducible refine Below.sc ?_ (by first | exact Nat.le_refl _ | (simp; done) | (simp; omega)) _ | assumption | exact Below.refl _ _ | refine Below.dr ?_ | refine Below.drN ?_ _ | refine Below.step ?_ (by assumption))))) h0 h1).mono ?_
          rintro e w1 ⟨rfl, hb1⟩
          have ⟨cw1, fw1⟩ := bcell hb1
          have qw1 := hb1.size
          (try simp at qw1)
          (try have zw1w := bsz (show w.heap.size < w1.heap.size by omega))
          rw [HR0.out]
          go_wp2_with fail
          refine (HS.out us v4 _ _ (HL.out.mono (SameOn.below (by (repeat (first | with_reducible exact Below.refl _ _ | with_reducible assumption | with_reducible refine Below.al ?_ _ | with_reducible refine Below.sc ?_ (by first | exact Nat.le_refl _ | (simp; done) | (simp; omega)) _ | assumption | exact Below.refl _ _ | refine Below.dr ?_ | refine Below.drN ?_ _ | refine Below.step ?_ (by assumption))))) (fun _ h => h) (fun x cs _ hx => FmAt.below (by (repeat (first | with_reducible exact Below.refl _ _ | with_reducible assumption | with_reducible refine Below.al ?_ _ | with_reducible refine Below.sc ?_ (by first | exact Nat.le_refl _ | (simp; done) | (simp; omega)) _ | assumption | exact Below.refl _ _ | refine Below.dr ?_ | refine Below.drN ?_ _ | refine Below.step ?_ (by assumption)))) hx)) (by omega) (by omega)).mono ?_
          rintro e w2 ⟨rfl, hb2⟩
          have ⟨cw2, fw2⟩ := bcell hb2
          have qw2 := hb2.size
          (try simp at qw2)
          (try have zw2w := bsz (show w.heap.size < w2.heap.size by omega))
          (try have zw2w1 := bsz (show w1.heap.size < w2.heap.size by omega))
          rw [HR.out]
          have hbb : (us.length : Int) + (Fm.wts us : Nat) ≤ left - t.wt - s.size := by omega
          go_wp2
          go_ret
          exact ⟨ret_int (by rw [HW.out, szR, if_pos (by omega)]; omega), by (repeat (first | with_reducible exact Below.refl _ _ | with_reducible assumption | with_reducible refine Below.al ?_ _ | with_reducible refine Below.sc ?_ (by first | exact Nat.le_refl _ | (simp; done) | (simp; omega)) _ | assumption | exact Below.refl _ _ | refine Below.dr ?_ | refine Below.drN ?_ _ | refine Below.step ?_ (by assumption)))⟩
        · have HR := Lib.hid (show szR (left - t.wt - s.size) (us.length + Fm.wts us) = -1 from if_neg hb)
          go_enter Try.func7, Try.ntmps7
          go_wp2_with fail
          refine (szTerm_any n t v1 v2 _ _ (HT.out.below (by (repeat (first | with_reducible exact Below.refl _ _ | with_reducible assumption | with_reducible refine Below.al ?_ _ | with_reducible refine Below.sc ?_ (by first | exact Nat.le_refl _ | (simp; done) | (simp; omega)) _ | assumption | exact Below.refl _ _ | refine Below.dr ?_ | refine Below.drN ?_ _ | refine Below.step ?_ (by assumption))))) h0 h1).mono ?_
          rintro e w1 ⟨rfl, hb1⟩
          have ⟨cw1, fw1⟩ := bcell hb1
          have qw1 := hb1.size
          (try simp at qw1)
          (try have zw1w := bsz (show w.heap.size < w1.heap.size by omega))
          rw [HR0.out]
          go_wp2_with fail
          refine (HS.out us v4 _ _ (HL.out.mono (SameOn.below (by (repeat (first | with_reducible exact Below.refl _ _ | with_reducible assumption | with_reducible refine Below.al ?_ _ | with_reducible refine Below.sc ?_ (by first | exact Nat.le_refl _ | (simp; done) | (simp; omega)) _ | assumption | exact Below.refl _ _ | refine Below.dr ?_ | refine Below.drN ?_ _ | refine Below.step ?_ (by assumption))))) (fun _ h => h) (fun x cs _ hx => FmAt.below (by (repeat (first | with_reducible exact Below.refl _ _ | with_reducible assumption | with_reducible refine Below.al ?_ _ | with_reducible refine Below.sc ?_ (by first | exact Nat.le_refl _ | (simp; done) | (simp; omega)) _ | assumption | exact Below.refl _ _ | refine Below.dr ?_ | refine Below.drN ?_ _ | refine Below.step ?_ (by assumption)))) hx)) (by omega) (by omega)).mono ?_
          rintro e w2 ⟨rfl, hb2⟩
          have ⟨cw2, fw2⟩ := bcell hb2
          have qw2 := hb2.size
          (try simp at qw2)
          (try have zw2w := bsz (show w.heap.size < w2.heap.size by omega))
          (try have zw2w1 := bsz (show w1.heap.size < w2.heap.size by omega))
          rw [HR.out]
          go_wp2
          go_ret
          exact ⟨ret_int (by rw [HW.out, szR, if_neg (by omega)]), by (repeat (first | with_reducible exact Below.refl _ _ | with_reducible assumption | with_reducible refine Below.al ?_ _ | with_reducible refine Below.sc ?_ (by first | exact Nat.le_refl _ | (simp; done) | (simp; omega)) _ | assumption | exact Below.refl _ _ | refine Below.dr ?_ | refine Below.drN ?_ _ | refine Below.step ?_ (by assumption)))⟩
      · go_enter Try.func7, Try.ntmps7
        go_wp2_with fail
        refine (szTerm_any n t v1 v2 _ _ (HT.out.below (by (repeat (first | with_reducible exact Below.refl _ _ | with_reducible assumption | with_reducible refine Below.al ?_ _ | with_reducible refine Below.sc ?_ (by first | exact Nat.le_refl _ | (simp; done) | (simp; omega)) _ | assumption | exact Below.refl _ _ | refine Below.dr ?_ | refine Below.drN ?_ _ | refine Below.step ?_ (by assumption))))) h0 h1).mono ?_
        rintro e w1 ⟨rfl, hb1⟩
        have ⟨cw1, fw1⟩ := bcell hb1
        have qw1 := hb1.size
        (try simp at qw1)
        (try have zw1w := bsz (show w.heap.size < w1.heap.size by omega))
        rw [HR0.out]
        go_wp2
        go_ret
        exact ⟨ret_int (by rw [HW.out, szR, if_neg (by omega)]), by (repeat (first | with_reducible exact Below.refl _ _ | with_reducible assumption | with_reducible refine Below.al ?_ _ | with_reducible refine Below.sc ?_ (by first | exact Nat.le_refl _ | (simp; done) | (simp; omega)) _ | assumption | exact Below.refl _ _ | refine Below.dr ?_ | refine Below.drN ?_ _ | refine Below.step ?_ (by assumption)))⟩
    · have HR0 := Lib.hid (show szR left t.wt = -1 from if_neg hc)
      go_enter Try.func7, Try.ntmps7
      go_wp2_with fail
      refine (szTerm_any n t v1 v2 _ _ (HT.out.below (by (repeat (first | with_reducible exact Below.refl _ _ | with_reducible assumption | with_reducible refine Below.al ?_ _ | with_reducible refine Below.sc ?_ (by first | exact Nat.le_refl _ | (simp; done) | (simp; omega)) _ | assumption | exact Below.refl _ _ | refine Below.dr ?_ | refine Below.drN ?_ _ | refine Below.step ?_ (by assumption))))) h0 h1).mono ?_
      rintro e w1 ⟨rfl, hb1⟩
      have ⟨cw1, fw1⟩ := bcell hb1
      have qw1 := hb1.size
      (try simp at qw1)
      (try have zw1w := bsz (show w.heap.size < w1.heap.size by omega))
      rw [HR0.out]
      go_wp2
      go_ret
      exact ⟨ret_int (by rw [HW.out, szR, if_neg (by omega)]), by (repeat (first | with_reducible exact Below.refl _ _ | with_reducible assumption | with_reducible refine Below.al ?_ _ | with_reducible refine Below.sc ?_ (by first | exact Nat.le_refl _ | (simp; done) | (simp; omega)) _ | assumption | exact Below.refl _ _ | refine Below.dr ?_ | refine Below.drN ?_ _ | refine Below.step ?_ (by assumption)))⟩
set_option maxRecDepth 100000 in
set_option maxHeartbeats 1600000 in
theorem eqFormulaS_of {B B' : Nat → Prop} (m : Nat) (ih : ∀ (t : Fm) (v0 v1 v2 v3 v4 u0 u1 u2 u3 u4 : Value) (w : World), FmAt B m w t [v0, v1, v2, v3, v4] → FmAt B' m w t [u0, u1, u2, u3, u4] →
      Calls Try.prog 11 #[.agg #[v0, v1, v2, v3, v4], .agg #[u0, u1, u2, u3, u4]] w fun e w' => e = .returned (.bool true) ∧ Below w.heap.size w w')
    (us : List Fm) (va ua : Value) (w : World) (h : ListAt B w 5 (FmAt B m w) va us) (h' : ListAt B' w 5 (FmAt B' m w) ua us) :
    Calls Try.prog 33 #[va, ua] w fun e w' => e = .returned (.bool true) ∧ Below w.heap.size w w' := by
  obtain ⟨p, c, rfl, hlen⟩ := h.form
  obtain ⟨p', c', rfl, -⟩ := h'.form
  unfold maxLen at hlen
  have H := Lib.hid h
  have H' := Lib.hid h'
  have IH := Lib.hid ih
  clear h h' ih
  go_enter Try.func33, Try.ntmps33
  go_wp2
  go_loopw [5] (fun i wr => ∃ k : Nat, k ≤ us.length ∧ i = .int .i64 k ∧ Below w.heap.size w wr) (fun i _ => us.length - (intOf i).toNat)
  case atStart => exact ⟨0, Nat.zero_le _, rfl, by (repeat (first | with_reducible exact Below.refl _ _ | with_reducible assumption | with_reducible refine Below.al ?_ _ | with_reducible refine Below.sc ?_ (by first | exact Nat.le_refl _ | (simp; done) | (simp; omega)) _ | assumption | exact Below.refl _ _ | refine Below.dr ?_ | refine Below.drN ?_ _ | refine Below.step ?_ (by assumption)))⟩
  case round =>
    obtain ⟨k, hk, rfl, hb⟩ := hrel
    by_cases hlt : k < us.length
    · obtain ⟨b, o, rfl, hB, x0, x1, x2, x3, x4, hx0, hx1, hx2, hx3, hx4, hx⟩ := (H.out.mono (SameOn.below hb) (fun _ h => h) (fun x cs _ hx => FmAt.below hb hx)).at5 hlt
      obtain ⟨b', o', rfl, hB', y0, y1, y2, y3, y4, hy0, hy1, hy2, hy3, hy4, hy⟩ := (H'.out.mono (SameOn.below hb) (fun _ h => h) (fun x cs _ hx => FmAt.below hb hx)).at5 hlt
      obtain ⟨a, ha⟩ : ∃ a, us[k] = a := ⟨_, rfl⟩
      rw [ha] at hx hy
      have HX := Lib.hid hx
      have HY := Lib.hid hy
      clear hx hy ha
      go_wp2
      obtain ⟨C, HC0⟩ := class_of (InF wr.heap.size _ [(⟨b, o + k * 5, none⟩, x0), (⟨b, o + k * 5 + 1, none⟩, x1), (⟨b, o + k * 5 + 2, none⟩, x2), (⟨b, o + k * 5 + 3, none⟩, x3), (⟨b, o + k * 5 + 4, none⟩, x4), (⟨b', o' + k * 5, none⟩, y0), (⟨b', o' + k * 5 + 1, none⟩, y1), (⟨b', o' + k * 5 + 2, none⟩, y2), (⟨b', o' + k * 5 + 3, none⟩, y3), (⟨b', o' + k * 5 + 4, none⟩, y4)] [] [])
      have HC := Lib.hid HC0
      clear HC0
      refine wp_region_flow (C := C) (by kernel_rfl) (by kernel_rfl) (fun L hL => (HC.out _ _).2 (InF.start (by first | (intro _ hs; cases hs; done) | (simp only [List.forall_mem_cons]; go_simp)) (by first | (intro _ hs; cases hs; done) | (simp only [List.forall_mem_cons]; go_simp)) (by first | (intro _ hs; cases hs; done) | (simp only [List.forall_mem_cons]; go_simp)) (by first | (intro _ hs; cases hs; done) | (simp only [List.forall_mem_cons]; go_simp)) L hL)) ?_
      repeat (first | (apply flow_free rfl; (intro L w' hun hrd hC; have hC := (HC.out _ _).1 hC; have hb' := hC.below; (try have hw' : Below w.heap.size w w' := by first | exact Below.trans (by (repeat (first | with_reducible exact Below.refl _ _ | with_reducible assumption | with_reducible refine Below.al ?_ _ | with_reducible refine Below.sc ?_ (by first | exact Nat.le_refl _ | (simp; done) | (simp; omega)) _ | assumption | exact Below.refl _ _ | refine Below.dr ?_ | refine Below.drN ?_ _ | refine Below.step ?_ (by assumption)))) hb' | ((repeat (first | with_reducible exact Below.refl _ _ | with_reducible assumption | with_reducible refine Below.al ?_ _ | with_reducible refine Below.sc ?_ (by first | exact Nat.le_refl _ | (simp; done) | (simp; omega)) _ | assumption | exact Below.refl _ _ | refine Below.dr ?_ | refine Below.drN ?_ _ | refine Below.step ?_ (by assumption))); done)); have hf' := hC.cell; (try simp only [List.forall_mem_cons] at hf'); go_simp; first | exact ⟨(HC.out _ _).2 (hC.skip _ (by rfl)), rfl⟩ | (rw [if_neg]; (exact ⟨(HC.out _ _).2 (hC.skip _ (by rfl)), rfl⟩); omega) | (go_at_call 11; refine (IH.out a x0 x1 x2 x3 x4 y0 y1 y2 y3 y4 _ (HX.out.below hb') (HY.out.below hb')).mono ?_; rintro e w1 ⟨rfl, hb1⟩; exact ⟨rfl, (HC.out _ _).2 ((hC.next (by first | (simp; done) | (simp; omega) | omega) hb1).skip _ (by rfl))⟩)); go_simp) | (apply flow_yes; (case hw => go_simp); (intro L w' hun hrd hC; have hC := (HC.out _ _).1 hC; have hb' := hC.below; (try have hw' : Below w.heap.size w w' := by first | exact Below.trans (by (repeat (first | with_reducible exact Below.refl _ _ | with_reducible assumption | with_reducible refine Below.al ?_ _ | with_reducible refine Below.sc ?_ (by first | exact Nat.le_refl _ | (simp; done) | (simp; omega)) _ | assumption | exact Below.refl _ _ | refine Below.dr ?_ | refine Below.drN ?_ _ | refine Below.step ?_ (by assumption)))) hb' | ((repeat (first | with_reducible exact Below.refl _ _ | with_reducible assumption | with_reducible refine Below.al ?_ _ | with_reducible refine Below.sc ?_ (by first | exact Nat.le_refl _ | (simp; done) | (simp; omega)) _ | assumption | exact Below.refl _ _ | refine Below.dr ?_ | refine Below.drN ?_ _ | refine Below.step ?_ (by assumption))); done)); have hf' := hC.cell; (try simp only [List.forall_mem_cons] at hf'); go_simp; first | exact ⟨(HC.out _ _).2 (hC.skip _ (by rfl)), rfl⟩ | (rw [if_neg]; (exact ⟨(HC.out _ _).2 (hC.skip _ (by rfl)), rfl⟩); omega) | (go_at_call 11; refine (IH.out a x0 x1 x2 x3 x4 y0 y1 y2 y3 y4 _ (HX.out.below hb') (HY.out.below hb')).mono ?_; rintro e w1 ⟨rfl, hb1⟩; exact ⟨rfl, (HC.out _ _).2 ((hC.next (by first | (simp; done) | (simp; omega) | omega) hb1).skip _ (by rfl))⟩)); go_simp) | (apply flow_no; (case hw => go_simp); (intro L w' _ _ hC; exact (HC.out _ _).2 (((HC.out _ _).1 hC).skip _ (by rfl))); go_simp))
      refine flow_nil ?_
      intro L wz hL hz
      have hz := (HC.out _ _).1 hz
      have hbz := hz.below
      have hcz := hz.cell
      try simp only [List.forall_mem_cons] at hcz
      have hdz := hz.done
      try simp only [List.forall_mem_cons] at hdz
      (try have hwz : Below w.heap.size w wz := by first | exact Below.trans (by (repeat (first | with_reducible exact Below.refl _ _ | with_reducible assumption | with_reducible refine Below.al ?_ _ | with_reducible refine Below.sc ?_ (by first | exact Nat.le_refl _ | (simp; done) | (simp; omega)) _ | assumption | exact Below.refl _ _ | refine Below.dr ?_ | refine Below.drN ?_ _ | refine Below.step ?_ (by assumption)))) hbz | ((repeat (first | with_reducible exact Below.refl _ _ | with_reducible assumption | with_reducible refine Below.al ?_ _ | with_reducible refine Below.sc ?_ (by first | exact Nat.le_refl _ | (simp; done) | (simp; omega)) _ | assumption | exact Below.refl _ _ | refine Below.dr ?_ | refine Below.drN ?_ _ | refine Below.step ?_ (by assumption))); done))
      go_wp2
      refine ⟨⟨k + 1, by omega, by go_num, Below.step hb hbz⟩, by simp [intOf]; omega⟩
    · go_wp2
      go_ret
      exact ⟨rfl, hb⟩
set_option maxRecDepth 100000 in
set_option maxHeartbeats 1600000 in
theorem eqFormula_same {B B' : Nat → Prop} : ∀ (m : Nat) (t : Fm) (v0 v1 v2 v3 v4 u0 u1 u2 u3 u4 : Value) (w : World), FmAt B m w t [v0, v1, v2, v3, v4] → FmAt B' m w t [u0, u1, u2, u3, u4] →
      Calls Try.prog 11 #[.agg #[v0, v1, v2, v3, v4], .agg #[u0, u1, u2, u3, u4]] w fun e w' => e = .returned (.bool true) ∧ Below w.heap.size w w' := by
  intro m
  induction m with
  | zero => intro t v0 v1 v2 v3 v4 u0 u1 u2 u3 u4 w h; exact h.elim
  | succ m ih =>
    rintro ⟨op, t, s, us⟩ v0 v1 v2 v3 v4 u0 u1 u2 u3 u4 w ⟨vn, va, vp, hcs, hop, hs, ht, hl⟩ ⟨vn', va', vp', hcs', hop', hs', ht', hl'⟩
    simp only [List.cons.injEq, and_true] at hcs hcs'
    obtain ⟨rfl, rfl, rfl, rfl, rfl⟩ := hcs
    obtain ⟨rfl, rfl, rfl, rfl, rfl⟩ := hcs'
    have HS := Lib.hid (eqFormulaS_of m ih)
    have HL := Lib.hid hl
    have HL' := Lib.hid hl'
    have HT := Lib.hid ht
    have HT' := Lib.hid ht'
    clear ih hl hl' hs hs' ht ht' hop hop'
    go_enter Try.func11, Try.ntmps11
    go_wp2_with fail
    refine (eqTerm_same m t v1 v2 u1 u2 _ (HT.out.below (by (repeat (first | with_reducible exact Below.refl _ _ | with_reducible assumption | with_reducible refine Below.al ?_ _ | with_reducible refine Below.sc ?_ (by first | exact Nat.le_refl _ | (simp; done) | (simp; omega)) _ | assumption | exact Below.refl _ _ | refine Below.dr ?_ | refine Below.drN ?_ _ | refine Below.step ?_ (by assumption))))) (HT'.out.below (by (repeat (first | with_reducible exact Below.refl _ _ | with_reducible assumption | with_reducible refine Below.al ?_ _ | with_reducible refine Below.sc ?_ (by first | exact Nat.le_refl _ | (simp; done) | (simp; omega)) _ | assumption | exact Below.refl _ _ | refine Below.dr ?_ | refine Below.drN ?_ _ | refine Below.step ?_ (by assumption)))))).mono ?_
    rintro e w1 ⟨rfl, hb1⟩
    have ⟨cw1, fw1⟩ := bcell hb1
    have qw1 := hb1.size
    (try simp at qw1)
    (try have zw1w := bsz (show w.heap.size < w1.heap.size by omega))
    have y1 := bsz (show w.heap.size + 1 < w1.heap.size by omega)
    go_wp2_with fail
    refine (HS.out us _ _ _ (HL.out.mono (SameOn.below (by (repeat (first | with_reducible exact Below.refl _ _ | with_reducible assumption | with_reducible refine Below.al ?_ _ | with_reducible refine Below.sc ?_ (by first | exact Nat.le_refl _ | (simp; done) | (simp; omega)) _ | assumption | exact Below.refl _ _ | refine Below.dr ?_ | refine Below.drN ?_ _ | refine Below.step ?_ (by assumption))))) (fun _ h => h) (fun x cs _ hx => FmAt.below (by (repeat (first | with_reducible exact Below.refl _ _ | with_reducible assumption | with_reducible refine Below.al ?_ _ | with_reducible refine Below.sc ?_ (by first | exact Nat.le_refl _ | (simp; done) | (simp; omega)) _ | assumption | exact Below.refl _ _ | refine Below.dr ?_ | refine Below.drN ?_ _ | refine Below.step ?_ (by assumption)))) hx)) (HL'.out.mono (SameOn.below (by (repeat (first | with_reducible exact Below.refl _ _ | with_reducible assumption | with_reducible refine Below.al ?_ _ | with_reducible refine Below.sc ?_ (by first | exact Nat.le_refl _ | (simp; done) | (simp; omega)) _ | assumption | exact Below.refl _ _ | refine Below.dr ?_ | refine Below.drN ?_ _ | refine Below.step ?_ (by assumption))))) (fun _ h => h) (fun x cs _ hx => FmAt.below (by (repeat (first | with_reducible exact Below.refl _ _ | with_reducible assumption | with_reducible refine Below.al ?_ _ | with_reducible refine Below.sc ?_ (by first | exact Nat.le_refl _ | (simp; done) | (simp; omega)) _ | assumption | exact Below.refl _ _ | refine Below.dr ?_ | refine Below.drN ?_ _ | refine Below.step ?_ (by assumption)))) hx))).mono ?_
    rintro e w2 ⟨rfl, hb2⟩
    have ⟨cw2, fw2⟩ := bcell hb2
    have qw2 := hb2.size
    (try simp at qw2)
    (try have zw2w := bsz (show w.heap.size < w2.heap.size by omega))
    (try have zw2w1 := bsz (show w1.heap.size < w2.heap.size by omega))
    go_wp2
    go_ret
    exact ⟨rfl, by (repeat (first | with_reducible exact Below.refl _ _ | with_reducible assumption | with_reducible refine Below.al ?_ _ | with_reducible refine Below.sc ?_ (by first | exact Nat.le_refl _ | (simp; done) | (simp; omega)) _ | assumption | exact Below.refl _ _ | refine Below.dr ?_ | refine Below.drN ?_ _ | refine Below.step ?_ (by assumption)))⟩
theorem elemFm : Elem Try.prog 34 36 5 88 := elem_of Try.underlying34 (z := .agg #[.int .i64 0, .string ⟨#[]⟩, .slice none 0 0, .string ⟨#[]⟩, .slice none 0 0]) (by kernel_rfl) rfl (by omega)
def ToFmRel (g n m : Nat) (us : List Fm) (w : World) (i : Value) (wr : World) : Prop :=
  ∃ (k : Nat) (xs : List Value), k ≤ n ∧ i = .int .i64 k ∧ wr.ownsRow g 36 5 (.slice (some ⟨g, 0, none⟩) n n) n xs ∧ Below w.heap.size w wr ∧
    ∀ j t, j < k → us[j]? = some t → ∃ y0 y1 y2 y3 y4, xs[j * 5]? = some y0 ∧ xs[j * 5 + 1]? = some y1 ∧ xs[j * 5 + 2]? = some y2 ∧ xs[j * 5 + 3]? = some y3 ∧ xs[j * 5 + 4]? = some y4 ∧ FmAt (fun b => g < b) m wr t [y0, y1, y2, y3, y4]
theorem listAt_row5 {α : Type} {B : Nat → Prop} {w : World} {R : α → List Value → Prop} {base g n c : Nat} {e : TypeId} {xs : List Value} {us : List α} (h : w.ownsRow base e 5 (.slice (some ⟨g, 0, none⟩) n c) n xs) (hn : n = us.length) (hm : n ≤ maxLen) (hB : B g)
    (hR : ∀ j t, us[j]? = some t → ∃ y0 y1 y2 y3 y4, xs[j * 5]? = some y0 ∧ xs[j * 5 + 1]? = some y1 ∧ xs[j * 5 + 2]? = some y2 ∧ xs[j * 5 + 3]? = some y3 ∧ xs[j * 5 + 4]? = some y4 ∧ R t [y0, y1, y2, y3, y4]) : ListAt B w 5 R (.slice (some ⟨g, 0, none⟩) n c) us := by
  subst hn
  refine ⟨_, _, rfl, hm, fun i t ht => ⟨g, 0, rfl, hB, ?_⟩⟩
  obtain ⟨y0, y1, y2, y3, y4, h0, h1, h2, h3, h4, hr⟩ := hR i t ht
  have hi : i < us.length := (List.getElem?_eq_some_iff.1 ht).1
  refine ⟨[y0, y1, y2, y3, y4], rfl, fun j hj => ?_, hr⟩
  rw [Nat.zero_add, h.cellAt (i * 5 + j) (by omega)]
  match j, hj with
  | 0, _ => simpa using h0
  | 1, _ => simpa using h1
  | 2, _ => simpa using h2
  | 3, _ => simpa using h3
  | 4, _ => simpa using h4
set_option maxRecDepth 100000 in
set_option maxHeartbeats 3200000 in
theorem toFormulaS_of {B : Nat → Prop} (m : Nat) (ih : ∀ (t : Fm) (v0 v1 v2 v3 v4 : Value) (w : World), FmAt B m w t [v0, v1, v2, v3, v4] → t.wt ≤ 1048576 →
      Calls Try.prog 9 #[.agg #[v0, v1, v2, v3, v4]] w fun e w' => ∃ u0 u1 u2 u3 u4, e = .returned (.agg #[u0, u1, u2, u3, u4]) ∧ FmAt (fun b => w.heap.size ≤ b) m w' t [u0, u1, u2, u3, u4] ∧ Below w.heap.size w w')
    (us : List Fm) (va : Value) (w : World) (h : ListAt B w 5 (FmAt B m w) va us) (hw : us.length + Fm.wts us ≤ 1048576) :
    Calls Try.prog 29 #[va] w fun e w' => ∃ u, e = .returned u ∧ ListAt (fun b => w.heap.size ≤ b) w' 5 (FmAt (fun b => w.heap.size ≤ b) m w') u us ∧ Below w.heap.size w w' := by
  obtain ⟨p, c, rfl, -⟩ := h.form
  have H := Lib.hid h
  have IH := Lib.hid ih
  have HW := Lib.hid hw
  have hlen : us.length ≤ 1048576 := by omega
  obtain ⟨-, i, z, hi, hz, hsz, hby, hzs, -⟩ := elemFm
  clear h ih hw
  go_enter Try.func29, Try.ntmps29
  go_wp2_with (at_make; refine wpList_make_full _ rfl _ _ _ rfl w.heap.size 36 i z 5 Try.underlying34 hi hz hsz _ _ _ _ us.length rfl rfl rfl rfl (by rw [hby]; omega) (by unfold maxLen; omega) (Nat.le_refl _) ?_; intro w1 ho1 hg1)
  have hb1 : Below w.heap.size w w1 := ⟨hg1.os, hg1.tape, hg1.output, hg1.size, fun k hk => hg1.block k hk (by simp)⟩
  have HO1 := Lib.hid ho1
  clear ho1 hg1
  go_loopw [4] (ToFmRel w.heap.size us.length m us w) (fun i _ => us.length - (intOf i).toNat)
  case atStart => exact ⟨0, _, Nat.zero_le _, rfl, HO1.out, hb1, fun j t hj => absurd hj (Nat.not_lt_zero _)⟩
  case round =>
    obtain ⟨k, xs, hk, rfl, ho, hb, hall⟩ := hrel
    have HO := Lib.hid ho
    have HALL := Lib.hid hall
    have hxl : xs.length = us.length * 5 := ho.1
    clear ho hall HO1 hb1
    by_cases hlt : k < us.length
    · obtain ⟨b, o, rfl, hB, x0, x1, x2, x3, x4, hx0, hx1, hx2, hx3, hx4, hx⟩ := (H.out.mono (SameOn.below hb) (fun _ h => h) (fun x cs _ hx => FmAt.below hb hx)).at5 hlt
      have hwt := Fm.wts_le us hlt
      obtain ⟨a, ha⟩ : ∃ a, us[k] = a := ⟨_, rfl⟩
      have HK : Hid (us[k]? = some a) := Lib.hid (by rw [List.getElem?_eq_getElem hlt, ha])
      rw [ha] at hx hwt
      have HX := Lib.hid hx
      clear hx ha
      have hgw := own_lt HO.out
      go_wp2_with fail
      refine (IH.out a x0 x1 x2 x3 x4 _ HX.out (by have := HW.out; omega)).mono ?_
      rintro e w2 ⟨u0, u1, u2, u3, u4, rfl, hu, hb2⟩
      have ⟨cw2, fw2⟩ := bcell hb2
      have qw2 := hb2.size
      (try simp at qw2)
      (try have zw2w := bsz (show w.heap.size < w2.heap.size by omega))
      obtain ⟨pu, cu, qu, du, rfl, rfl, rfl, rfl, rfl, -⟩ := hu.form
      have HU := Lib.hid hu
      have HO2 := Lib.hid (own_below HO.out hb2)
      clear hu
      obtain ⟨q0, hq0⟩ : ∃ q, w2.cell? ⟨w.heap.size, k * 5, none⟩ = some q := ⟨_, (HO2.out.cellAt (k * 5) (by omega)).trans (List.getElem?_eq_getElem (by omega))⟩
      obtain ⟨q1, hq1⟩ : ∃ q, w2.cell? ⟨w.heap.size, k * 5 + 1, none⟩ = some q := ⟨_, (HO2.out.cellAt (k * 5 + 1) (by omega)).trans (List.getElem?_eq_getElem (by omega))⟩
      obtain ⟨q2, hq2⟩ : ∃ q, w2.cell? ⟨w.heap.size, k * 5 + 2, none⟩ = some q := ⟨_, (HO2.out.cellAt (k * 5 + 2) (by omega)).trans (List.getElem?_eq_getElem (by omega))⟩
      obtain ⟨q3, hq3⟩ : ∃ q, w2.cell? ⟨w.heap.size, k * 5 + 3, none⟩ = some q := ⟨_, (HO2.out.cellAt (k * 5 + 3) (by omega)).trans (List.getElem?_eq_getElem (by omega))⟩
      obtain ⟨q4, hq4⟩ : ∃ q, w2.cell? ⟨w.heap.size, k * 5 + 4, none⟩ = some q := ⟨_, (HO2.out.cellAt (k * 5 + 4) (by omega)).trans (List.getElem?_eq_getElem (by omega))⟩
      have hf2 := fun j => HO2.out.frozenAt j
      clear cw2 fw2
      go_wp2
      generalize Value.int .i64 a.op = u0 at *
      generalize Value.string a.a.n = u1 at *
      generalize Value.slice pu a.a.us.length cu = u2 at *
      generalize Value.string a.v = u3 at *
      generalize Value.slice qu a.ps.length du = u4 at *
      have ho4 := (((((HO2.out.stored (k * 5) u0).1.stored (k * 5 + 1) u1).1.stored (k * 5 + 2) u2).1.stored (k * 5 + 3) u3).1.stored (k * 5 + 4) u4).1
      have hS : SameOn (fun b => w.heap.size < b) w2 (((((w2.setCell ⟨w.heap.size, k * 5, none⟩ u0).setCell ⟨w.heap.size, k * 5 + 1, none⟩ u1).setCell ⟨w.heap.size, k * 5 + 2, none⟩ u2).setCell ⟨w.heap.size, k * 5 + 3, none⟩ u3).setCell ⟨w.heap.size, k * 5 + 4, none⟩ u4) := by
        refine ((((((SameOn.refl _ _).sc ?_ _).sc ?_ _).sc ?_ _).sc ?_ _).sc ?_ _)
        all_goals (intro b hb e; simp at e; omega)
      refine ⟨⟨k + 1, _, by omega, by go_num, ho4, ?_, ?_⟩, by simp [intOf]; omega⟩
      · exact ((((((show Below w.heap.size w w2 by (repeat (first | with_reducible exact Below.refl _ _ | with_reducible assumption | with_reducible refine Below.al ?_ _ | with_reducible refine Below.sc ?_ (by first | exact Nat.le_refl _ | (simp; done) | (simp; omega)) _ | assumption | exact Below.refl _ _ | refine Below.dr ?_ | refine Below.drN ?_ _ | refine Below.step ?_ (by assumption)))).setCell (Nat.le_refl _) _).setCell (Nat.le_refl _) _).setCell (Nat.le_refl _) _).setCell (Nat.le_refl _) _).setCell (Nat.le_refl _) _)
      · intro j t hj ht
        by_cases hjk : j = k
        · subst hjk
          rw [HK.out] at ht
          obtain rfl := Option.some.inj ht
          refine ⟨u0, u1, u2, u3, u4, ?_, ?_, ?_, ?_, ?_, (HU.out.mono (B' := fun b => w.heap.size < b) (SameOn.refl _ _) (fun b hb => by omega) m m _ _ (Nat.le_refl _)).mono hS (fun b hb => hb) m m _ _ (Nat.le_refl _)⟩
          · repeat (first | rw [List.getElem?_set_self (by first | omega | (simp; done) | (simp; omega))] | rw [List.getElem?_set_ne (by omega)])
          · repeat (first | rw [List.getElem?_set_self (by first | omega | (simp; done) | (simp; omega))] | rw [List.getElem?_set_ne (by omega)])
          · repeat (first | rw [List.getElem?_set_self (by first | omega | (simp; done) | (simp; omega))] | rw [List.getElem?_set_ne (by omega)])
          · repeat (first | rw [List.getElem?_set_self (by first | omega | (simp; done) | (simp; omega))] | rw [List.getElem?_set_ne (by omega)])
          · repeat (first | rw [List.getElem?_set_self (by first | omega | (simp; done) | (simp; omega))] | rw [List.getElem?_set_ne (by omega)])
        · obtain ⟨y0, y1, y2, y3, y4, e0, e1, e2, e3, e4, hy⟩ := HALL.out j t (by omega) ht
          refine ⟨y0, y1, y2, y3, y4, ?_, ?_, ?_, ?_, ?_, (hy.below hb2).mono hS (fun b hb => hb) m m _ _ (Nat.le_refl _)⟩
          · repeat rw [List.getElem?_set_ne (by omega)]
            exact e0
          · repeat rw [List.getElem?_set_ne (by omega)]
            exact e1
          · repeat rw [List.getElem?_set_ne (by omega)]
            exact e2
          · repeat rw [List.getElem?_set_ne (by omega)]
            exact e3
          · repeat rw [List.getElem?_set_ne (by omega)]
            exact e4
    · obtain rfl : k = us.length := by omega
      go_wp2
      go_ret
      refine ⟨_, rfl, listAt_row5 HO.out rfl (by unfold maxLen; omega) (Nat.le_refl _) (fun j t ht => ?_), hb⟩
      obtain ⟨y0, y1, y2, y3, y4, e0, e1, e2, e3, e4, hy⟩ := HALL.out j t ((List.getElem?_eq_some_iff.1 ht).1) ht
      exact ⟨y0, y1, y2, y3, y4, e0, e1, e2, e3, e4, hy.mono (SameOn.refl _ _) (fun b hb => Nat.le_of_lt hb) m m _ _ (Nat.le_refl _)⟩
set_option maxRecDepth 100000 in
set_option maxHeartbeats 800000 in
theorem toFormula_any {B : Nat → Prop} : ∀ (m : Nat) (t : Fm) (v0 v1 v2 v3 v4 : Value) (w : World), FmAt B m w t [v0, v1, v2, v3, v4] → t.wt ≤ 1048576 →
      Calls Try.prog 9 #[.agg #[v0, v1, v2, v3, v4]] w fun e w' => ∃ u0 u1 u2 u3 u4, e = .returned (.agg #[u0, u1, u2, u3, u4]) ∧ FmAt (fun b => w.heap.size ≤ b) m w' t [u0, u1, u2, u3, u4] ∧ Below w.heap.size w w' := by
  intro m
  induction m with
  | zero => intro t v0 v1 v2 v3 v4 w h; exact h.elim
  | succ m ih =>
    rintro ⟨op, t, s, us⟩ v0 v1 v2 v3 v4 w ⟨vn, va, vp, hcs, hop, hs, ht, hl⟩ hw
    simp only [List.cons.injEq, and_true] at hcs
    obtain ⟨rfl, rfl, rfl, rfl, rfl⟩ := hcs
    rw [Fm.wt] at hw
    have HS := Lib.hid (toFormulaS_of m ih)
    have HL := Lib.hid hl
    have HT := Lib.hid ht
    have HM := Lib.hid (And.intro hop (And.intro hs hw))
    obtain ⟨p, c, rfl, -⟩ := hl.form
    obtain ⟨p', c', rfl, rfl, -, -⟩ := ht.form
    clear ih hl ht hop hs hw
    go_enter Try.func9, Try.ntmps9
    go_wp2_with fail
    refine (toTerm_any m t _ _ _ (HT.out.below (by (repeat (first | with_reducible exact Below.refl _ _ | with_reducible assumption | with_reducible refine Below.al ?_ _ | with_reducible refine Below.sc ?_ (by first | exact Nat.le_refl _ | (simp; done) | (simp; omega)) _ | assumption | exact Below.refl _ _ | refine Below.dr ?_ | refine Below.drN ?_ _ | refine Below.step ?_ (by assumption))))) (by have := HM.out.2.2; omega)).mono ?_
    rintro e w1 ⟨u0, u1, rfl, hu, hb1⟩
    have ⟨cw1, fw1⟩ := bcell hb1
    have qw1 := hb1.size
    (try simp at qw1)
    (try have zw1w := bsz (show w.heap.size < w1.heap.size by omega))
    obtain ⟨pu, cu, rfl, rfl, -, -⟩ := hu.form
    have HU := Lib.hid hu
    clear hu
    have y1 := bsz (show w.heap.size + 1 < w1.heap.size by omega)
    have y2 := bsz (show w.heap.size + 2 < w1.heap.size by omega)
    go_wp2_with fail
    refine (HS.out us _ _ (HL.out.mono (SameOn.below (by (repeat (first | with_reducible exact Below.refl _ _ | with_reducible assumption | with_reducible refine Below.al ?_ _ | with_reducible refine Below.sc ?_ (by first | exact Nat.le_refl _ | (simp; done) | (simp; omega)) _ | assumption | exact Below.refl _ _ | refine Below.dr ?_ | refine Below.drN ?_ _ | refine Below.step ?_ (by assumption))))) (fun _ h => h) (fun x cs _ hx => FmAt.below (by (repeat (first | with_reducible exact Below.refl _ _ | with_reducible assumption | with_reducible refine Below.al ?_ _ | with_reducible refine Below.sc ?_ (by first | exact Nat.le_refl _ | (simp; done) | (simp; omega)) _ | assumption | exact Below.refl _ _ | refine Below.dr ?_ | refine Below.drN ?_ _ | refine Below.step ?_ (by assumption)))) hx)) (by have := HM.out.2.2; omega)).mono ?_
    rintro e w2 ⟨u, rfl, hv, hb2⟩
    have ⟨cw2, fw2⟩ := bcell hb2
    have qw2 := hb2.size
    (try simp at qw2)
    (try have zw2w := bsz (show w.heap.size < w2.heap.size by omega))
    (try have zw2w1 := bsz (show w1.heap.size < w2.heap.size by omega))
    obtain ⟨pv, cv, rfl, -⟩ := hv.form
    have HV := Lib.hid hv
    clear hv
    have y3 := bsz (show w.heap.size + 1 < w2.heap.size by omega)
    have y4 := bsz (show w.heap.size + 2 < w2.heap.size by omega)
    go_wp2
    have hz1 : w.heap.size + 2 < w1.heap.size := by omega
    have hz2 : w.heap.size + 2 < w2.heap.size := by omega
    have hz12 : w1.heap.size ≤ w2.heap.size := by omega
    refine bodyPost_ret (v := .agg #[.int .i64 op, .string t.n, .slice pu t.us.length cu, .string s, .slice pv us.length cv]) (by simp only [results, Try.results9]; go_simp) rfl ?_
    refine ⟨_, _, _, _, _, rfl, ?_, ?_⟩
    rotate_left
    · (repeat (first | with_reducible exact Below.refl _ _ | with_reducible assumption | with_reducible refine Below.al ?_ _ | with_reducible refine Below.sc ?_ (by first | exact Nat.le_refl _ | (simp; done) | (simp; omega)) _ | assumption | exact Below.refl _ _ | refine Below.dr ?_ | refine Below.drN ?_ _ | refine Below.step ?_ (by assumption)))
    refine FmAt.mk HM.out.1 HM.out.2.1 ?_ ?_
    · exact HU.out.mono (by ((repeat' (first | with_reducible exact SameOn.refl _ _ | with_reducible refine SameOn.sc ?_ ?_ _ | with_reducible refine SameOn.al ?_ ?_ _ | with_reducible refine SameOn.be ?_ ?_ (by with_reducible assumption))) <;> (first | (intro b hb; simp at hb ⊢; omega) | exact Nat.le_refl _ | (simp; done) | (simp; omega) | omega))) (fun b hb => by simp at hb; omega) m m _ _ (Nat.le_refl _)
    · exact HV.out.mono (by ((repeat' (first | with_reducible exact SameOn.refl _ _ | with_reducible refine SameOn.sc ?_ ?_ _ | with_reducible refine SameOn.al ?_ ?_ _ | with_reducible refine SameOn.be ?_ ?_ (by with_reducible assumption))) <;> (first | (intro b hb; simp at hb ⊢; omega) | exact Nat.le_refl _ | (simp; done) | (simp; omega) | omega))) (fun b hb => by simp at hb; omega) (fun x cs _ hx => FmAt.mono (by ((repeat' (first | with_reducible exact SameOn.refl _ _ | with_reducible refine SameOn.sc ?_ ?_ _ | with_reducible refine SameOn.al ?_ ?_ _ | with_reducible refine SameOn.be ?_ ?_ (by with_reducible assumption))) <;> (first | (intro b hb; simp at hb ⊢; omega) | exact Nat.le_refl _ | (simp; done) | (simp; omega) | omega))) (fun b hb => by simp at hb; omega) m m x cs (Nat.le_refl _) hx)
end Go.Proofs.Ytinfogmjijeliaa
