/- Valid terms and atoms, both sides: the whole. Conditions: sizes. -/
import Derived.Test.YtinfogmjijeliaaValid
namespace Go.Proofs.Ytinfogmjijeliaa
open Go.RowKit
theorem Tm.sz_arg (us : List Tm) {k : Nat} (h : k < us.length) : us[k].sz ≤ Tm.szs us := by
  induction us generalizing k with
  | nil => simp at h
  | cons a us ih =>
    cases k with
    | zero => simp [Tm.szs]
    | succ k => have := ih (k := k) (by simpa using h); simp only [List.getElem_cons_succ, Tm.szs]; omega
theorem isValidTerm_any {B : Nat → Prop} (m : Nat) (t : Tm) (v0 v1 : Value) (w : World) (h : TmAt B m w t [v0, v1]) (hz : t.sz ≤ 100000000) :
      Calls Try.prog 116 #[.agg #[v0, v1]] w fun e w' => e = .returned (.bool t.good) ∧ Below w.heap.size w w' := by
  obtain ⟨p, c, rfl, rfl, -, -⟩ := h.form
  have H := Lib.hid h
  have HT := Lib.hid (show t.good = (t.small && t.nodes) from rfl)
  clear h
  cases h1 : t.small
  all_goals
    have H1 := Lib.hid h1
    go_enter Try.func116, Try.ntmps116
    go_wp2_with (first | (go_at_call 114; refine (isSmall_any m t _ _ _ (H.out.below (by (repeat (first | with_reducible exact Below.refl _ _ | with_reducible assumption | with_reducible refine Below.al ?_ _ | with_reducible refine Below.sc ?_ (by first | exact Nat.le_refl _ | (simp; done) | (simp; omega)) _ | assumption | exact Below.refl _ _ | refine Below.dr ?_ | refine Below.drN ?_ _ | refine Below.step ?_ (by assumption))))) hz).mono ?_; rintro e w1 ⟨rfl, hb1⟩; have ⟨cw1, fw1⟩ := bcell hb1; have qw1 := hb1.size; (try simp at qw1); (try have zw1w := bsz (show w.heap.size < w1.heap.size by omega))) | (go_at_call 115; refine (hasNames_any m t _ _ _ (H.out.below (by (repeat (first | with_reducible exact Below.refl _ _ | with_reducible assumption | with_reducible refine Below.al ?_ _ | with_reducible refine Below.sc ?_ (by first | exact Nat.le_refl _ | (simp; done) | (simp; omega)) _ | assumption | exact Below.refl _ _ | refine Below.dr ?_ | refine Below.drN ?_ _ | refine Below.step ?_ (by assumption)))))).mono ?_; rintro e w2 ⟨rfl, hb2⟩; have ⟨cw2, fw2⟩ := bcell hb2; have qw2 := hb2.size; (try simp at qw2); (try have zw2w := bsz (show w.heap.size < w2.heap.size by omega)); (try have zw2w1 := bsz (show w1.heap.size < w2.heap.size by omega))))
    go_ret
    exact ⟨ret_bool (by rw [HT.out, H1.out]; rfl), by (repeat (first | with_reducible exact Below.refl _ _ | with_reducible assumption | with_reducible refine Below.al ?_ _ | with_reducible refine Below.sc ?_ (by first | exact Nat.le_refl _ | (simp; done) | (simp; omega)) _ | assumption | exact Below.refl _ _ | refine Below.dr ?_ | refine Below.drN ?_ _ | refine Below.step ?_ (by assumption)))⟩
theorem l2Good_any {B : Nat → Prop} (m : Nat) (t : Tm) (v0 v1 : Value) (w : World) (h : TmAt B m w t [v0, v1]) (hz : t.sz ≤ 100000000) :
      Calls Try.prog 94 #[.agg #[v0, v1]] w fun e w' => e = .returned (.bool t.good) ∧ Below w.heap.size w w' := by
  obtain ⟨p, c, rfl, rfl, -, -⟩ := h.form
  have H := Lib.hid h
  have HT := Lib.hid (show t.good = (t.small && t.nodes) from rfl)
  clear h
  cases h1 : t.small
  all_goals
    have H1 := Lib.hid h1
    go_enter Try.func94, Try.ntmps94
    go_wp2_with (first | (go_at_call 92; refine (l2Fits_any m t _ _ _ (H.out.below (by (repeat (first | with_reducible exact Below.refl _ _ | with_reducible assumption | with_reducible refine Below.al ?_ _ | with_reducible refine Below.sc ?_ (by first | exact Nat.le_refl _ | (simp; done) | (simp; omega)) _ | assumption | exact Below.refl _ _ | refine Below.dr ?_ | refine Below.drN ?_ _ | refine Below.step ?_ (by assumption))))) hz).mono ?_; rintro e w1 ⟨rfl, hb1⟩; have ⟨cw1, fw1⟩ := bcell hb1; have qw1 := hb1.size; (try simp at qw1); (try have zw1w := bsz (show w.heap.size < w1.heap.size by omega))) | (go_at_call 93; refine (l2Nodes_any m t _ _ _ (H.out.below (by (repeat (first | with_reducible exact Below.refl _ _ | with_reducible assumption | with_reducible refine Below.al ?_ _ | with_reducible refine Below.sc ?_ (by first | exact Nat.le_refl _ | (simp; done) | (simp; omega)) _ | assumption | exact Below.refl _ _ | refine Below.dr ?_ | refine Below.drN ?_ _ | refine Below.step ?_ (by assumption)))))).mono ?_; rintro e w2 ⟨rfl, hb2⟩; have ⟨cw2, fw2⟩ := bcell hb2; have qw2 := hb2.size; (try simp at qw2); (try have zw2w := bsz (show w.heap.size < w2.heap.size by omega)); (try have zw2w1 := bsz (show w1.heap.size < w2.heap.size by omega))))
    go_ret
    exact ⟨ret_bool (by rw [HT.out, H1.out]; rfl), by (repeat (first | with_reducible exact Below.refl _ _ | with_reducible assumption | with_reducible refine Below.al ?_ _ | with_reducible refine Below.sc ?_ (by first | exact Nat.le_refl _ | (simp; done) | (simp; omega)) _ | assumption | exact Below.refl _ _ | refine Below.dr ?_ | refine Below.drN ?_ _ | refine Below.step ?_ (by assumption)))⟩
/-- What an equation's atom comes to. -/
theorem Tm.atom_eq {t : Tm} (h : isEq t.n = true) : t.atom = (decide (t.us.length = 2) && t.small && Tm.nodess t.us) := by rw [Tm.atom, if_pos h]
theorem Tm.atom_no {t : Tm} (h : isEq t.n = false) : t.atom = (symB t.n.data.toList && t.good) := by rw [Tm.atom, if_neg (by simp [h])]
theorem isEq_list {s : ByteArray} {b : Bool} (h : isEq s = b) : (s.toList == [61]) = b := by rw [ByteArray.toList_eq]; exact h
theorem isEquality_any (s : ByteArray) (v : Value) (w : World) : Calls Try.prog 89 #[.agg #[.string s, v]] w fun e w' => e = .returned (.bool (isEq s)) ∧ Below w.heap.size w w' := by
  cases h : isEq s
  all_goals
    have h2 := isEq_list h
    go_enter Try.func89, Try.ntmps89
    go_wp2
    go_ret
    exact ⟨rfl, by (repeat (first | with_reducible exact Below.refl _ _ | with_reducible assumption | with_reducible refine Below.al ?_ _ | with_reducible refine Below.sc ?_ (by first | exact Nat.le_refl _ | (simp; done) | (simp; omega)) _ | assumption | exact Below.refl _ _ | refine Below.dr ?_ | refine Below.drN ?_ _ | refine Below.step ?_ (by assumption)))⟩
set_option maxRecDepth 100000 in
set_option maxHeartbeats 400000 in
theorem isValidAtom_any {B : Nat → Prop} (m : Nat) (t : Tm) (v0 v1 : Value) (w : World) (h : TmAt B m w t [v0, v1]) (hz : t.sz ≤ 100000000) :
      Calls Try.prog 85 #[.agg #[v0, v1]] w fun e w' => e = .returned (.bool t.atom) ∧ Below w.heap.size w w' := by
  have H := Lib.hid h
  obtain ⟨p, c, rfl, rfl, hs, hlen⟩ := h.form
  have HL := Lib.hid h.args
  have HS := Lib.hid hs
  unfold maxLen at hlen
  clear h hs
  cases hq : isEq t.n
  · have HQ := Lib.hid hq
    have HA := Lib.hid (Tm.atom_no hq)
    cases hy : symB t.n.data.toList
    all_goals
      have HY := Lib.hid hy
      go_enter Try.func85, Try.ntmps85
      go_wp2_with fail
      refine (isEquality_any _ _ _).mono ?_
      rintro e w1 ⟨rfl, hb1⟩
      have ⟨cw1, fw1⟩ := bcell hb1
      have qw1 := hb1.size
      (try simp at qw1)
      (try have zw1w := bsz (show w.heap.size < w1.heap.size by omega))
      rw [HQ.out]
      go_wp2_with fail
      refine (isSymbol_any _ _ HS.out).mono ?_
      rintro e w2 ⟨rfl, hb2⟩
      have ⟨cw2, fw2⟩ := bcell hb2
      have qw2 := hb2.size
      (try simp at qw2)
      (try have zw2w := bsz (show w.heap.size < w2.heap.size by omega))
      (try have zw2w1 := bsz (show w1.heap.size < w2.heap.size by omega))
      rw [HY.out]
    · go_wp2
      go_ret
      exact ⟨ret_bool (by rw [HA.out, HY.out]; rfl), by (repeat (first | with_reducible exact Below.refl _ _ | with_reducible assumption | with_reducible refine Below.al ?_ _ | with_reducible refine Below.sc ?_ (by first | exact Nat.le_refl _ | (simp; done) | (simp; omega)) _ | assumption | exact Below.refl _ _ | refine Below.dr ?_ | refine Below.drN ?_ _ | refine Below.step ?_ (by assumption)))⟩
    · go_wp2_with fail
      refine (isValidTerm_any m t _ _ _ (H.out.below (by (repeat (first | with_reducible exact Below.refl _ _ | with_reducible assumption | with_reducible refine Below.al ?_ _ | with_reducible refine Below.sc ?_ (by first | exact Nat.le_refl _ | (simp; done) | (simp; omega)) _ | assumption | exact Below.refl _ _ | refine Below.dr ?_ | refine Below.drN ?_ _ | refine Below.step ?_ (by assumption))))) hz).mono ?_
      rintro e w3 ⟨rfl, hb3⟩
      have ⟨cw3, fw3⟩ := bcell hb3
      have qw3 := hb3.size
      (try simp at qw3)
      (try have zw3w := bsz (show w.heap.size < w3.heap.size by omega))
      (try have zw3w1 := bsz (show w1.heap.size < w3.heap.size by omega))
      (try have zw3w2 := bsz (show w2.heap.size < w3.heap.size by omega))
      go_wp2
      go_ret
      exact ⟨ret_bool (by rw [HA.out, HY.out]; rfl), by (repeat (first | with_reducible exact Below.refl _ _ | with_reducible assumption | with_reducible refine Below.al ?_ _ | with_reducible refine Below.sc ?_ (by first | exact Nat.le_refl _ | (simp; done) | (simp; omega)) _ | assumption | exact Below.refl _ _ | refine Below.dr ?_ | refine Below.drN ?_ _ | refine Below.step ?_ (by assumption)))⟩
  · have HQ := Lib.hid hq
    have HA := Lib.hid (Tm.atom_eq hq)
    by_cases h2 : t.us.length = 2
    · have h2i : ((t.us.length : Int) == 2) = true := by simp; omega
      have H2 := Lib.hid (show decide (t.us.length = 2) = true by simpa using h2)
      have H' := Lib.hid (show TmAt B m w t [.string t.n, .slice p 2 c] by
        have e := H.out
        rw [h2] at e
        exact e)
      cases hsm : t.small
      · have HSM := Lib.hid hsm
        go_enter Try.func85, Try.ntmps85
        go_wp2_with fail
        refine (isEquality_any _ _ _).mono ?_
        rintro e w1 ⟨rfl, hb1⟩
        have ⟨cw1, fw1⟩ := bcell hb1
        have qw1 := hb1.size
        (try simp at qw1)
        (try have zw1w := bsz (show w.heap.size < w1.heap.size by omega))
        go_wp2_with fail
        refine (isSmall_any m t _ _ _ (H'.out.below (by (repeat (first | with_reducible exact Below.refl _ _ | with_reducible assumption | with_reducible refine Below.al ?_ _ | with_reducible refine Below.sc ?_ (by first | exact Nat.le_refl _ | (simp; done) | (simp; omega)) _ | assumption | exact Below.refl _ _ | refine Below.dr ?_ | refine Below.drN ?_ _ | refine Below.step ?_ (by assumption))))) hz).mono ?_
        rintro e w2 ⟨rfl, hb2⟩
        have ⟨cw2, fw2⟩ := bcell hb2
        have qw2 := hb2.size
        (try simp at qw2)
        (try have zw2w := bsz (show w.heap.size < w2.heap.size by omega))
        (try have zw2w1 := bsz (show w1.heap.size < w2.heap.size by omega))
        rw [HSM.out]
        go_wp2
        go_ret
        exact ⟨ret_bool (by rw [HA.out, HSM.out]; simp), by (repeat (first | with_reducible exact Below.refl _ _ | with_reducible assumption | with_reducible refine Below.al ?_ _ | with_reducible refine Below.sc ?_ (by first | exact Nat.le_refl _ | (simp; done) | (simp; omega)) _ | assumption | exact Below.refl _ _ | refine Below.dr ?_ | refine Below.drN ?_ _ | refine Below.step ?_ (by assumption)))⟩
      · have HSM := Lib.hid hsm
        have hl0 : 0 < t.us.length := by omega
        have hl1 : 1 < t.us.length := by omega
        obtain ⟨b, o, rfl, hB, x0, x1, hx0, hx1, hx⟩ := HL.out.at2 hl0
        obtain ⟨b', o', he, hB', y0, y1, hy0, hy1, hy⟩ := HL.out.at2 hl1
        simp only [Option.some.injEq, Addr.mk.injEq, and_true] at he
        obtain ⟨rfl, rfl⟩ := he
        simp only [Nat.zero_mul, Nat.one_mul, Nat.add_zero, Nat.add_assoc, Nat.reduceAdd, Nat.reduceMul] at hx0 hx1 hy0 hy1
        have hbw : b < w.heap.size := World.block_lt_of_cell? _ _ hx0
        have zbw := bsz hbw
        have HN := Lib.hid (show Tm.nodess t.us = (t.us[0].nodes && t.us[1].nodes) by
          have e0 := Tm.nodess_drop t.us hl0
          have e1 := Tm.nodess_drop t.us hl1
          rw [List.drop_zero] at e0
          rw [e0, e1, List.drop_eq_nil_of_le (by omega), Tm.nodess, Bool.and_true])
        obtain ⟨a0, ha0⟩ : ∃ a, t.us[0] = a := ⟨_, rfl⟩
        obtain ⟨a1, ha1⟩ : ∃ a, t.us[1] = a := ⟨_, rfl⟩
        rw [ha0] at hx
        rw [ha1] at hy
        rw [ha0, ha1] at HN
        clear ha0 ha1
        obtain ⟨p0, c0, rfl, rfl, -, -⟩ := hx.form
        obtain ⟨p1, c1, rfl, rfl, -, -⟩ := hy.form
        have HX := Lib.hid hx
        have HY := Lib.hid hy
        clear hx hy
        cases hn0 : a0.nodes
        all_goals
          have HN0 := Lib.hid hn0
          go_enter Try.func85, Try.ntmps85
          go_wp2_with fail
          refine (isEquality_any _ _ _).mono ?_
          rintro e w1 ⟨rfl, hb1⟩
          have ⟨cw1, fw1⟩ := bcell hb1
          have qw1 := hb1.size
          (try simp at qw1)
          (try have zw1w := bsz (show w.heap.size < w1.heap.size by omega))
          go_wp2_with fail
          refine (isSmall_any m t _ _ _ (H'.out.below (by (repeat (first | with_reducible exact Below.refl _ _ | with_reducible assumption | with_reducible refine Below.al ?_ _ | with_reducible refine Below.sc ?_ (by first | exact Nat.le_refl _ | (simp; done) | (simp; omega)) _ | assumption | exact Below.refl _ _ | refine Below.dr ?_ | refine Below.drN ?_ _ | refine Below.step ?_ (by assumption))))) hz).mono ?_
          rintro e w2 ⟨rfl, hb2⟩
          have ⟨cw2, fw2⟩ := bcell hb2
          have qw2 := hb2.size
          (try simp at qw2)
          (try have zw2w := bsz (show w.heap.size < w2.heap.size by omega))
          (try have zw2w1 := bsz (show w1.heap.size < w2.heap.size by omega))
          rw [HSM.out]
          have zb1 := bsz (show b < w1.heap.size by omega)
          have zb2 := bsz (show b < w2.heap.size by omega)
          go_wp2_with fail
          refine (hasNames_any m a0 _ _ _ (HX.out.below (by (repeat (first | with_reducible exact Below.refl _ _ | with_reducible assumption | with_reducible refine Below.al ?_ _ | with_reducible refine Below.sc ?_ (by first | exact Nat.le_refl _ | (simp; done) | (simp; omega)) _ | assumption | exact Below.refl _ _ | refine Below.dr ?_ | refine Below.drN ?_ _ | refine Below.step ?_ (by assumption)))))).mono ?_
          rintro e w3 ⟨rfl, hb3⟩
          have ⟨cw3, fw3⟩ := bcell hb3
          have qw3 := hb3.size
          (try simp at qw3)
          (try have zw3w := bsz (show w.heap.size < w3.heap.size by omega))
          (try have zw3w1 := bsz (show w1.heap.size < w3.heap.size by omega))
          (try have zw3w2 := bsz (show w2.heap.size < w3.heap.size by omega))
          rw [HN0.out]
        · go_wp2
          go_ret
          exact ⟨ret_bool (by rw [HA.out, H2.out, HSM.out, HN.out, HN0.out]; rfl), by (repeat (first | with_reducible exact Below.refl _ _ | with_reducible assumption | with_reducible refine Below.al ?_ _ | with_reducible refine Below.sc ?_ (by first | exact Nat.le_refl _ | (simp; done) | (simp; omega)) _ | assumption | exact Below.refl _ _ | refine Below.dr ?_ | refine Below.drN ?_ _ | refine Below.step ?_ (by assumption)))⟩
        · go_wp2_with fail
          refine (hasNames_any m a1 _ _ _ (HY.out.below (by (repeat (first | with_reducible exact Below.refl _ _ | with_reducible assumption | with_reducible refine Below.al ?_ _ | with_reducible refine Below.sc ?_ (by first | exact Nat.le_refl _ | (simp; done) | (simp; omega)) _ | assumption | exact Below.refl _ _ | refine Below.dr ?_ | refine Below.drN ?_ _ | refine Below.step ?_ (by assumption)))))).mono ?_
          rintro e w4 ⟨rfl, hb4⟩
          have ⟨cw4, fw4⟩ := bcell hb4
          have qw4 := hb4.size
          (try simp at qw4)
          (try have zw4w := bsz (show w.heap.size < w4.heap.size by omega))
          (try have zw4w1 := bsz (show w1.heap.size < w4.heap.size by omega))
          (try have zw4w2 := bsz (show w2.heap.size < w4.heap.size by omega))
          (try have zw4w3 := bsz (show w3.heap.size < w4.heap.size by omega))
          go_wp2
          go_ret
          exact ⟨ret_bool (by rw [HA.out, H2.out, HSM.out, HN.out, HN0.out]; rfl), by (repeat (first | with_reducible exact Below.refl _ _ | with_reducible assumption | with_reducible refine Below.al ?_ _ | with_reducible refine Below.sc ?_ (by first | exact Nat.le_refl _ | (simp; done) | (simp; omega)) _ | assumption | exact Below.refl _ _ | refine Below.dr ?_ | refine Below.drN ?_ _ | refine Below.step ?_ (by assumption)))⟩
    · have h2i : ((t.us.length : Int) == 2) = false := by simp; omega
      have H2 := Lib.hid (show decide (t.us.length = 2) = false by simpa using h2)
      go_enter Try.func85, Try.ntmps85
      go_wp2_with fail
      refine (isEquality_any _ _ _).mono ?_
      rintro e w1 ⟨rfl, hb1⟩
      have ⟨cw1, fw1⟩ := bcell hb1
      have qw1 := hb1.size
      (try simp at qw1)
      (try have zw1w := bsz (show w.heap.size < w1.heap.size by omega))
      go_wp2
      go_ret
      exact ⟨ret_bool (by rw [HA.out, H2.out]; rfl), by (repeat (first | with_reducible exact Below.refl _ _ | with_reducible assumption | with_reducible refine Below.al ?_ _ | with_reducible refine Below.sc ?_ (by first | exact Nat.le_refl _ | (simp; done) | (simp; omega)) _ | assumption | exact Below.refl _ _ | refine Below.dr ?_ | refine Below.drN ?_ _ | refine Below.step ?_ (by assumption)))⟩
set_option maxRecDepth 100000 in
set_option maxHeartbeats 400000 in
theorem l2Atom_any {B : Nat → Prop} (m : Nat) (t : Tm) (v0 v1 : Value) (w : World) (h : TmAt B m w t [v0, v1]) (hz : t.sz ≤ 100000000) :
      Calls Try.prog 63 #[.agg #[v0, v1]] w fun e w' => e = .returned (.bool t.atom) ∧ Below w.heap.size w w' := by
  have H := Lib.hid h
  obtain ⟨p, c, rfl, rfl, hs, hlen⟩ := h.form
  have HL := Lib.hid h.args
  have HS := Lib.hid hs
  unfold maxLen at hlen
  clear h hs
  cases hq : isEq t.n
  · have HQ := isEq_list hq
    have HA := Lib.hid (Tm.atom_no hq)
    cases hy : symB t.n.data.toList
    all_goals
      have HY := Lib.hid hy
      go_enter Try.func63, Try.ntmps63
      go_wp2_with fail
      refine (l2Symbol_any _ _ HS.out).mono ?_
      rintro e w' ⟨rfl, rfl⟩
      rw [HY.out]
    · go_wp2
      go_ret
      exact ⟨ret_bool (by rw [HA.out, HY.out]; rfl), by (repeat (first | with_reducible exact Below.refl _ _ | with_reducible assumption | with_reducible refine Below.al ?_ _ | with_reducible refine Below.sc ?_ (by first | exact Nat.le_refl _ | (simp; done) | (simp; omega)) _ | assumption | exact Below.refl _ _ | refine Below.dr ?_ | refine Below.drN ?_ _ | refine Below.step ?_ (by assumption)))⟩
    · go_wp2_with fail
      refine (l2Good_any m t _ _ _ (H.out.below (by (repeat (first | with_reducible exact Below.refl _ _ | with_reducible assumption | with_reducible refine Below.al ?_ _ | with_reducible refine Below.sc ?_ (by first | exact Nat.le_refl _ | (simp; done) | (simp; omega)) _ | assumption | exact Below.refl _ _ | refine Below.dr ?_ | refine Below.drN ?_ _ | refine Below.step ?_ (by assumption))))) hz).mono ?_
      rintro e w1 ⟨rfl, hb1⟩
      have ⟨cw1, fw1⟩ := bcell hb1
      have qw1 := hb1.size
      (try simp at qw1)
      (try have zw1w := bsz (show w.heap.size < w1.heap.size by omega))
      go_wp2
      go_ret
      exact ⟨ret_bool (by rw [HA.out, HY.out]; rfl), by (repeat (first | with_reducible exact Below.refl _ _ | with_reducible assumption | with_reducible refine Below.al ?_ _ | with_reducible refine Below.sc ?_ (by first | exact Nat.le_refl _ | (simp; done) | (simp; omega)) _ | assumption | exact Below.refl _ _ | refine Below.dr ?_ | refine Below.drN ?_ _ | refine Below.step ?_ (by assumption)))⟩
  · have HQ := isEq_list hq
    have HA := Lib.hid (Tm.atom_eq hq)
    by_cases h2 : t.us.length = 2
    · have h2i : ((t.us.length : Int) == 2) = true := by simp; omega
      have H2 := Lib.hid (show decide (t.us.length = 2) = true by simpa using h2)
      have H' := Lib.hid (show TmAt B m w t [.string t.n, .slice p 2 c] by
        have e := H.out
        rw [h2] at e
        exact e)
      cases hsm : t.small
      · have HSM := Lib.hid hsm
        go_enter Try.func63, Try.ntmps63
        go_wp2_with fail
        refine (l2Fits_any m t _ _ _ (H'.out.below (by (repeat (first | with_reducible exact Below.refl _ _ | with_reducible assumption | with_reducible refine Below.al ?_ _ | with_reducible refine Below.sc ?_ (by first | exact Nat.le_refl _ | (simp; done) | (simp; omega)) _ | assumption | exact Below.refl _ _ | refine Below.dr ?_ | refine Below.drN ?_ _ | refine Below.step ?_ (by assumption))))) hz).mono ?_
        rintro e w1 ⟨rfl, hb1⟩
        have ⟨cw1, fw1⟩ := bcell hb1
        have qw1 := hb1.size
        (try simp at qw1)
        (try have zw1w := bsz (show w.heap.size < w1.heap.size by omega))
        rw [HSM.out]
        go_wp2
        go_ret
        exact ⟨ret_bool (by rw [HA.out, HSM.out]; simp), by (repeat (first | with_reducible exact Below.refl _ _ | with_reducible assumption | with_reducible refine Below.al ?_ _ | with_reducible refine Below.sc ?_ (by first | exact Nat.le_refl _ | (simp; done) | (simp; omega)) _ | assumption | exact Below.refl _ _ | refine Below.dr ?_ | refine Below.drN ?_ _ | refine Below.step ?_ (by assumption)))⟩
      · have HSM := Lib.hid hsm
        have hl0 : 0 < t.us.length := by omega
        have hl1 : 1 < t.us.length := by omega
        obtain ⟨b, o, rfl, hB, x0, x1, hx0, hx1, hx⟩ := HL.out.at2 hl0
        obtain ⟨b', o', he, hB', y0, y1, hy0, hy1, hy⟩ := HL.out.at2 hl1
        simp only [Option.some.injEq, Addr.mk.injEq, and_true] at he
        obtain ⟨rfl, rfl⟩ := he
        simp only [Nat.zero_mul, Nat.one_mul, Nat.add_zero, Nat.add_assoc, Nat.reduceAdd, Nat.reduceMul] at hx0 hx1 hy0 hy1
        have hbw : b < w.heap.size := World.block_lt_of_cell? _ _ hx0
        have zbw := bsz hbw
        skip
        have HN := Lib.hid (show Tm.nodess t.us = (t.us[0].nodes && t.us[1].nodes) by
          have e0 := Tm.nodess_drop t.us hl0
          have e1 := Tm.nodess_drop t.us hl1
          rw [List.drop_zero] at e0
          rw [e0, e1, List.drop_eq_nil_of_le (by omega), Tm.nodess, Bool.and_true])
        obtain ⟨a0, ha0⟩ : ∃ a, t.us[0] = a := ⟨_, rfl⟩
        obtain ⟨a1, ha1⟩ : ∃ a, t.us[1] = a := ⟨_, rfl⟩
        rw [ha0] at hx
        rw [ha1] at hy
        rw [ha0, ha1] at HN
        clear ha0 ha1
        obtain ⟨p0, c0, rfl, rfl, -, -⟩ := hx.form
        obtain ⟨p1, c1, rfl, rfl, -, -⟩ := hy.form
        have HX := Lib.hid hx
        have HY := Lib.hid hy
        clear hx hy
        cases hn0 : a0.nodes
        all_goals
          have HN0 := Lib.hid hn0
          go_enter Try.func63, Try.ntmps63
          go_wp2_with fail
          refine (l2Fits_any m t _ _ _ (H'.out.below (by (repeat (first | with_reducible exact Below.refl _ _ | with_reducible assumption | with_reducible refine Below.al ?_ _ | with_reducible refine Below.sc ?_ (by first | exact Nat.le_refl _ | (simp; done) | (simp; omega)) _ | assumption | exact Below.refl _ _ | refine Below.dr ?_ | refine Below.drN ?_ _ | refine Below.step ?_ (by assumption))))) hz).mono ?_
          rintro e w1 ⟨rfl, hb1⟩
          have ⟨cw1, fw1⟩ := bcell hb1
          have qw1 := hb1.size
          (try simp at qw1)
          (try have zw1w := bsz (show w.heap.size < w1.heap.size by omega))
          (try have zw1b := bsz (show b < w1.heap.size by omega))
          rw [HSM.out]
          go_wp2_with fail
          refine (l2Nodes_any m a0 _ _ _ (HX.out.below (by (repeat (first | with_reducible exact Below.refl _ _ | with_reducible assumption | with_reducible refine Below.al ?_ _ | with_reducible refine Below.sc ?_ (by first | exact Nat.le_refl _ | (simp; done) | (simp; omega)) _ | assumption | exact Below.refl _ _ | refine Below.dr ?_ | refine Below.drN ?_ _ | refine Below.step ?_ (by assumption)))))).mono ?_
          rintro e w2 ⟨rfl, hb2⟩
          have ⟨cw2, fw2⟩ := bcell hb2
          have qw2 := hb2.size
          (try simp at qw2)
          (try have zw2w := bsz (show w.heap.size < w2.heap.size by omega))
          (try have zw2w1 := bsz (show w1.heap.size < w2.heap.size by omega))
          (try have zw2b := bsz (show b < w2.heap.size by omega))
          rw [HN0.out]
        · go_wp2
          go_ret
          exact ⟨ret_bool (by rw [HA.out, H2.out, HSM.out, HN.out, HN0.out]; rfl), by (repeat (first | with_reducible exact Below.refl _ _ | with_reducible assumption | with_reducible refine Below.al ?_ _ | with_reducible refine Below.sc ?_ (by first | exact Nat.le_refl _ | (simp; done) | (simp; omega)) _ | assumption | exact Below.refl _ _ | refine Below.dr ?_ | refine Below.drN ?_ _ | refine Below.step ?_ (by assumption)))⟩
        · go_wp2_with fail
          refine (l2Nodes_any m a1 _ _ _ (HY.out.below (by (repeat (first | with_reducible exact Below.refl _ _ | with_reducible assumption | with_reducible refine Below.al ?_ _ | with_reducible refine Below.sc ?_ (by first | exact Nat.le_refl _ | (simp; done) | (simp; omega)) _ | assumption | exact Below.refl _ _ | refine Below.dr ?_ | refine Below.drN ?_ _ | refine Below.step ?_ (by assumption)))))).mono ?_
          rintro e w1 ⟨rfl, hb1⟩
          have ⟨cw1, fw1⟩ := bcell hb1
          have qw1 := hb1.size
          (try simp at qw1)
          (try have zw1w := bsz (show w.heap.size < w1.heap.size by omega))
          (try have zw1b := bsz (show b < w1.heap.size by omega))
          go_wp2
          go_ret
          exact ⟨ret_bool (by rw [HA.out, H2.out, HSM.out, HN.out, HN0.out]; rfl), by (repeat (first | with_reducible exact Below.refl _ _ | with_reducible assumption | with_reducible refine Below.al ?_ _ | with_reducible refine Below.sc ?_ (by first | exact Nat.le_refl _ | (simp; done) | (simp; omega)) _ | assumption | exact Below.refl _ _ | refine Below.dr ?_ | refine Below.drN ?_ _ | refine Below.step ?_ (by assumption)))⟩
    · have h2i : ((t.us.length : Int) == 2) = false := by simp; omega
      have H2 := Lib.hid (show decide (t.us.length = 2) = false by simpa using h2)
      go_enter Try.func63, Try.ntmps63
      go_wp2
      go_ret
      exact ⟨ret_bool (by rw [HA.out, H2.out]; rfl), by (repeat (first | with_reducible exact Below.refl _ _ | with_reducible assumption | with_reducible refine Below.al ?_ _ | with_reducible refine Below.sc ?_ (by first | exact Nat.le_refl _ | (simp; done) | (simp; omega)) _ | assumption | exact Below.refl _ _ | refine Below.dr ?_ | refine Below.drN ?_ _ | refine Below.step ?_ (by assumption)))⟩
end Go.Proofs.Ytinfogmjijeliaa
