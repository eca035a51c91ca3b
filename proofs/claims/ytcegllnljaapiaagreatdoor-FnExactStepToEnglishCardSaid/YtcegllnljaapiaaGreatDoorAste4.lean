/- Valid formulas, both sides. Conditions: sizes. -/
import Derived.RangeFuncOwn
import Derived.Test.YtcegllnljaapiaaGreatDoorAste1
import Derived.Test.YtcegllnljaapiaaGreatDoorAste2
import Derived.Test.YtcegllnljaapiaaGreatDoorAste3
namespace Go.Proofs.YtcegllnljaapiaaGreatDoor
open Go.RowKit
theorem isValidTerm_any {B : Nat → Prop} (m : Nat) (t : Tm) (v0 v1 : Value) (w : World) (h : TmAt B m w t [v0, v1]) (hz : t.sz ≤ 100000000) :
      Calls Tryz.prog 263 #[.agg #[v0, v1]] w fun e w' => e = .returned (.bool t.good) ∧ Below w.heap.size w w' := by
  obtain ⟨p, c, rfl, rfl, -, -⟩ := h.form
  have H := Lib.hid h
  have HT := Lib.hid (show t.good = (t.small && t.nodes) from rfl)
  clear h
  cases h1 : t.small
  all_goals
    have H1 := Lib.hid h1
    go_enter Tryz.func263, Tryz.ntmps263
    go_wp2_with (first | (go_at_call 261; refine (isSmall_any m t _ _ _ (H.out.below (by (repeat (first | with_reducible exact Below.refl _ _ | with_reducible assumption | with_reducible refine Below.al ?_ _ | with_reducible refine Below.sc ?_ (by first | exact Nat.le_refl _ | (simp; done) | (simp; omega)) _ | assumption | exact Below.refl _ _ | refine Below.dr ?_ | refine Below.drN ?_ _ | refine Below.step ?_ (by assumption))))) hz).mono ?_; rintro e w1 ⟨rfl, hb1⟩; have ⟨cw1, fw1⟩ := bcell hb1; have qw1 := hb1.size; (try simp at qw1); (try have zw1w := bsz (show w.heap.size < w1.heap.size by omega))) | (go_at_call 262; refine (hasNames_any m t _ _ _ (H.out.below (by (repeat (first | with_reducible exact Below.refl _ _ | with_reducible assumption | with_reducible refine Below.al ?_ _ | with_reducible refine Below.sc ?_ (by first | exact Nat.le_refl _ | (simp; done) | (simp; omega)) _ | assumption | exact Below.refl _ _ | refine Below.dr ?_ | refine Below.drN ?_ _ | refine Below.step ?_ (by assumption)))))).mono ?_; rintro e w2 ⟨rfl, hb2⟩; have ⟨cw2, fw2⟩ := bcell hb2; have qw2 := hb2.size; (try simp at qw2); (try have zw2w := bsz (show w.heap.size < w2.heap.size by omega)); (try have zw2w1 := bsz (show w1.heap.size < w2.heap.size by omega))))
    go_ret
    exact ⟨ret_bool (by rw [HT.out, H1.out]; rfl), by (repeat (first | with_reducible exact Below.refl _ _ | with_reducible assumption | with_reducible refine Below.al ?_ _ | with_reducible refine Below.sc ?_ (by first | exact Nat.le_refl _ | (simp; done) | (simp; omega)) _ | assumption | exact Below.refl _ _ | refine Below.dr ?_ | refine Below.drN ?_ _ | refine Below.step ?_ (by assumption)))⟩
theorem l2Good_any {B : Nat → Prop} (m : Nat) (t : Tm) (v0 v1 : Value) (w : World) (h : TmAt B m w t [v0, v1]) (hz : t.sz ≤ 100000000) :
      Calls Tryz.prog 189 #[.agg #[v0, v1]] w fun e w' => e = .returned (.bool t.good) ∧ Below w.heap.size w w' := by
  obtain ⟨p, c, rfl, rfl, -, -⟩ := h.form
  have H := Lib.hid h
  have HT := Lib.hid (show t.good = (t.small && t.nodes) from rfl)
  clear h
  cases h1 : t.small
  all_goals
    have H1 := Lib.hid h1
    go_enter Tryz.func189, Tryz.ntmps189
    go_wp2_with (first | (go_at_call 187; refine (l2Fits_any m t _ _ _ (H.out.below (by (repeat (first | with_reducible exact Below.refl _ _ | with_reducible assumption | with_reducible refine Below.al ?_ _ | with_reducible refine Below.sc ?_ (by first | exact Nat.le_refl _ | (simp; done) | (simp; omega)) _ | assumption | exact Below.refl _ _ | refine Below.dr ?_ | refine Below.drN ?_ _ | refine Below.step ?_ (by assumption))))) hz).mono ?_; rintro e w1 ⟨rfl, hb1⟩; have ⟨cw1, fw1⟩ := bcell hb1; have qw1 := hb1.size; (try simp at qw1); (try have zw1w := bsz (show w.heap.size < w1.heap.size by omega))) | (go_at_call 188; refine (l2Nodes_any m t _ _ _ (H.out.below (by (repeat (first | with_reducible exact Below.refl _ _ | with_reducible assumption | with_reducible refine Below.al ?_ _ | with_reducible refine Below.sc ?_ (by first | exact Nat.le_refl _ | (simp; done) | (simp; omega)) _ | assumption | exact Below.refl _ _ | refine Below.dr ?_ | refine Below.drN ?_ _ | refine Below.step ?_ (by assumption)))))).mono ?_; rintro e w2 ⟨rfl, hb2⟩; have ⟨cw2, fw2⟩ := bcell hb2; have qw2 := hb2.size; (try simp at qw2); (try have zw2w := bsz (show w.heap.size < w2.heap.size by omega)); (try have zw2w1 := bsz (show w1.heap.size < w2.heap.size by omega))))
    go_ret
    exact ⟨ret_bool (by rw [HT.out, H1.out]; rfl), by (repeat (first | with_reducible exact Below.refl _ _ | with_reducible assumption | with_reducible refine Below.al ?_ _ | with_reducible refine Below.sc ?_ (by first | exact Nat.le_refl _ | (simp; done) | (simp; omega)) _ | assumption | exact Below.refl _ _ | refine Below.dr ?_ | refine Below.drN ?_ _ | refine Below.step ?_ (by assumption)))⟩
/-- What an equation's atom comes to. -/
theorem Tm.atom_eq {t : Tm} (h : isEq t.n = true) : t.atom = (decide (t.us.length = 2) && t.small && Tm.nodess t.us) := by rw [Tm.atom, if_pos h]
theorem Tm.atom_no {t : Tm} (h : isEq t.n = false) : t.atom = (symB t.n.data.toList && t.good) := by rw [Tm.atom, if_neg (by simp [h])]
theorem isEq_list {s : ByteArray} {b : Bool} (h : isEq s = b) : (s.toList == [61]) = b := by rw [ByteArray.toList_eq]; exact h
theorem isEquality_any (s : ByteArray) (v : Value) (w : World) : Calls Tryz.prog 260 #[.agg #[.string s, v]] w fun e w' => e = .returned (.bool (isEq s)) ∧ Below w.heap.size w w' := by
  cases h : isEq s
  all_goals
    have h2 := isEq_list h
    go_enter Tryz.func260, Tryz.ntmps260
    go_wp2
    go_ret
    exact ⟨rfl, by (repeat (first | with_reducible exact Below.refl _ _ | with_reducible assumption | with_reducible refine Below.al ?_ _ | with_reducible refine Below.sc ?_ (by first | exact Nat.le_refl _ | (simp; done) | (simp; omega)) _ | assumption | exact Below.refl _ _ | refine Below.dr ?_ | refine Below.drN ?_ _ | refine Below.step ?_ (by assumption)))⟩
set_option maxRecDepth 100000 in
set_option maxHeartbeats 400000 in
theorem isValidAtom_any {B : Nat → Prop} (m : Nat) (t : Tm) (v0 v1 : Value) (w : World) (h : TmAt B m w t [v0, v1]) (hz : t.sz ≤ 100000000) :
      Calls Tryz.prog 196 #[.agg #[v0, v1]] w fun e w' => e = .returned (.bool t.atom) ∧ Below w.heap.size w w' := by
  have H := Lib.hid h
  obtain ⟨p, c, rfl, rfl, hs, hlen⟩ := h.form
  have HL := Lib.hid h.args
  have HS := Lib.hid hs
  unfold maxLen at hlen
  clear h hs
  cases hq : isEq t.n
  · have HQ := Lib.hid hq
    have HA := Lib.hid (Tm.atom_no hq)
    cases hy : symB t.n.data.toList
    all_goals
      have HY := Lib.hid hy
      go_enter Tryz.func196, Tryz.ntmps196
      go_wp2_with fail
      refine (isEquality_any _ _ _).mono ?_
      rintro e w1 ⟨rfl, hb1⟩
      have ⟨cw1, fw1⟩ := bcell hb1
      have qw1 := hb1.size
      (try simp at qw1)
      (try have zw1w := bsz (show w.heap.size < w1.heap.size by omega))
      rw [HQ.out]
      go_wp2_with fail
      refine (isSymbol_any _ _ HS.out).mono ?_
      rintro e w2 ⟨rfl, hb2⟩
      have ⟨cw2, fw2⟩ := bcell hb2
      have qw2 := hb2.size
      (try simp at qw2)
      (try have zw2w := bsz (show w.heap.size < w2.heap.size by omega))
      (try have zw2w1 := bsz (show w1.heap.size < w2.heap.size by omega))
      rw [HY.out]
    · go_wp2
      go_ret
      exact ⟨ret_bool (by rw [HA.out, HY.out]; rfl), by (repeat (first | with_reducible exact Below.refl _ _ | with_reducible assumption | with_reducible refine Below.al ?_ _ | with_reducible refine Below.sc ?_ (by first | exact Nat.le_refl _ | (simp; done) | (simp; omega)) _ | assumption | exact Below.refl _ _ | refine Below.dr ?_ | refine Below.drN ?_ _ | refine Below.step ?_ (by assumption)))⟩
    · go_wp2_with fail
      refine (isValidTerm_any m t _ _ _ (H.out.below (by (repeat (first | with_reducible exact Below.refl _ _ | with_reducible assumption | with_reducible refine Below.al ?_ _ | with_reducible refine Below.sc ?_ (by first | exact Nat.le_refl _ | (simp; done) | (simp; omega)) _ | assumption | exact Below.refl _ _ | refine Below.dr ?_ | refine Below.drN ?_ _ | refine Below.step ?_ (by assumption))))) hz).mono ?_
      rintro e w3 ⟨rfl, hb3⟩
      have ⟨cw3, fw3⟩ := bcell hb3
      have qw3 := hb3.size
      (try simp at qw3)
      (try have zw3w := bsz (show w.heap.size < w3.heap.size by omega))
      (try have zw3w1 := bsz (show w1.heap.size < w3.heap.size by omega))
      (try have zw3w2 := bsz (show w2.heap.size < w3.heap.size by omega))
      go_wp2
      go_ret
      exact ⟨ret_bool (by rw [HA.out, HY.out]; rfl), by (repeat (first | with_reducible exact Below.refl _ _ | with_reducible assumption | with_reducible refine Below.al ?_ _ | with_reducible refine Below.sc ?_ (by first | exact Nat.le_refl _ | (simp; done) | (simp; omega)) _ | assumption | exact Below.refl _ _ | refine Below.dr ?_ | refine Below.drN ?_ _ | refine Below.step ?_ (by assumption)))⟩
  · have HQ := Lib.hid hq
    have HA := Lib.hid (Tm.atom_eq hq)
    by_cases h2 : t.us.length = 2
    · have h2i : ((t.us.length : Int) == 2) = true := by simp; omega
      have H2 := Lib.hid (show decide (t.us.length = 2) = true by simpa using h2)
      have H' := Lib.hid (show TmAt B m w t [.string t.n, .slice p 2 c] by
        have e := H.out
        rw [h2] at e
        exact e)
      cases hsm : t.small
      · have HSM := Lib.hid hsm
        go_enter Tryz.func196, Tryz.ntmps196
        go_wp2_with fail
        refine (isEquality_any _ _ _).mono ?_
        rintro e w1 ⟨rfl, hb1⟩
        have ⟨cw1, fw1⟩ := bcell hb1
        have qw1 := hb1.size
        (try simp at qw1)
        (try have zw1w := bsz (show w.heap.size < w1.heap.size by omega))
        go_wp2_with fail
        refine (isSmall_any m t _ _ _ (H'.out.below (by (repeat (first | with_reducible exact Below.refl _ _ | with_reducible assumption | with_reducible refine Below.al ?_ _ | with_reducible refine Below.sc ?_ (by first | exact Nat.le_refl _ | (simp; done) | (simp; omega)) _ | assumption | exact Below.refl _ _ | refine Below.dr ?_ | refine Below.drN ?_ _ | refine Below.step ?_ (by assumption))))) hz).mono ?_
        rintro e w2 ⟨rfl, hb2⟩
        have ⟨cw2, fw2⟩ := bcell hb2
        have qw2 := hb2.size
        (try simp at qw2)
        (try have zw2w := bsz (show w.heap.size < w2.heap.size by omega))
        (try have zw2w1 := bsz (show w1.heap.size < w2.heap.size by omega))
        rw [HSM.out]
        go_wp2
        go_ret
        exact ⟨ret_bool (by rw [HA.out, HSM.out]; simp), by (repeat (first | with_reducible exact Below.refl _ _ | with_reducible assumption | with_reducible refine Below.al ?_ _ | with_reducible refine Below.sc ?_ (by first | exact Nat.le_refl _ | (simp; done) | (simp; omega)) _ | assumption | exact Below.refl _ _ | refine Below.dr ?_ | refine Below.drN ?_ _ | refine Below.step ?_ (by assumption)))⟩
      · have HSM := Lib.hid hsm
        have hl0 : 0 < t.us.length := by omega
        have hl1 : 1 < t.us.length := by omega
        obtain ⟨b, o, rfl, hB, x0, x1, hx0, hx1, hx⟩ := HL.out.at2 hl0
        obtain ⟨b', o', he, hB', y0, y1, hy0, hy1, hy⟩ := HL.out.at2 hl1
        simp only [Option.some.injEq, Addr.mk.injEq, and_true] at he
        obtain ⟨rfl, rfl⟩ := he
        simp only [Nat.zero_mul, Nat.one_mul, Nat.add_zero, Nat.add_assoc, Nat.reduceAdd] at hx0 hx1 hy0 hy1
        have hbw : b < w.heap.size := World.block_lt_of_cell? _ _ hx0
        have zbw := bsz hbw
        have HN := Lib.hid (show Tm.nodess t.us = (t.us[0].nodes && t.us[1].nodes) by
          have e0 := Tm.nodess_drop t.us hl0
          have e1 := Tm.nodess_drop t.us hl1
          rw [List.drop_zero] at e0
          rw [e0, e1, List.drop_eq_nil_of_le (by omega), Tm.nodess, Bool.and_true])
        obtain ⟨a0, ha0⟩ : ∃ a, t.us[0] = a := ⟨_, rfl⟩
        obtain ⟨a1, ha1⟩ : ∃ a, t.us[1] = a := ⟨_, rfl⟩
        rw [ha0] at hx
        rw [ha1] at hy
        rw [ha0, ha1] at HN
        clear ha0 ha1
        obtain ⟨p0, c0, rfl, rfl, -, -⟩ := hx.form
        obtain ⟨p1, c1, rfl, rfl, -, -⟩ := hy.form
        have HX := Lib.hid hx
        have HY := Lib.hid hy
        clear hx hy
        cases hn0 : a0.nodes
        all_goals
          have HN0 := Lib.hid hn0
          go_enter Tryz.func196, Tryz.ntmps196
          go_wp2_with fail
          refine (isEquality_any _ _ _).mono ?_
          rintro e w1 ⟨rfl, hb1⟩
          have ⟨cw1, fw1⟩ := bcell hb1
          have qw1 := hb1.size
          (try simp at qw1)
          (try have zw1w := bsz (show w.heap.size < w1.heap.size by omega))
          go_wp2_with fail
          refine (isSmall_any m t _ _ _ (H'.out.below (by (repeat (first | with_reducible exact Below.refl _ _ | with_reducible assumption | with_reducible refine Below.al ?_ _ | with_reducible refine Below.sc ?_ (by first | exact Nat.le_refl _ | (simp; done) | (simp; omega)) _ | assumption | exact Below.refl _ _ | refine Below.dr ?_ | refine Below.drN ?_ _ | refine Below.step ?_ (by assumption))))) hz).mono ?_
          rintro e w2 ⟨rfl, hb2⟩
          have ⟨cw2, fw2⟩ := bcell hb2
          have qw2 := hb2.size
          (try simp at qw2)
          (try have zw2w := bsz (show w.heap.size < w2.heap.size by omega))
          (try have zw2w1 := bsz (show w1.heap.size < w2.heap.size by omega))
          rw [HSM.out]
          have zb1 := bsz (show b < w1.heap.size by omega)
          have zb2 := bsz (show b < w2.heap.size by omega)
          go_wp2_with fail
          refine (hasNames_any m a0 _ _ _ (HX.out.below (by (repeat (first | with_reducible exact Below.refl _ _ | with_reducible assumption | with_reducible refine Below.al ?_ _ | with_reducible refine Below.sc ?_ (by first | exact Nat.le_refl _ | (simp; done) | (simp; omega)) _ | assumption | exact Below.refl _ _ | refine Below.dr ?_ | refine Below.drN ?_ _ | refine Below.step ?_ (by assumption)))))).mono ?_
          rintro e w3 ⟨rfl, hb3⟩
          have ⟨cw3, fw3⟩ := bcell hb3
          have qw3 := hb3.size
          (try simp at qw3)
          (try have zw3w := bsz (show w.heap.size < w3.heap.size by omega))
          (try have zw3w1 := bsz (show w1.heap.size < w3.heap.size by omega))
          (try have zw3w2 := bsz (show w2.heap.size < w3.heap.size by omega))
          rw [HN0.out]
        · go_wp2
          go_ret
          exact ⟨ret_bool (by rw [HA.out, H2.out, HSM.out, HN.out, HN0.out]; rfl), by (repeat (first | with_reducible exact Below.refl _ _ | with_reducible assumption | with_reducible refine Below.al ?_ _ | with_reducible refine Below.sc ?_ (by first | exact Nat.le_refl _ | (simp; done) | (simp; omega)) _ | assumption | exact Below.refl _ _ | refine Below.dr ?_ | refine Below.drN ?_ _ | refine Below.step ?_ (by assumption)))⟩
        · go_wp2_with fail
          refine (hasNames_any m a1 _ _ _ (HY.out.below (by (repeat (first | with_reducible exact Below.refl _ _ | with_reducible assumption | with_reducible refine Below.al ?_ _ | with_reducible refine Below.sc ?_ (by first | exact Nat.le_refl _ | (simp; done) | (simp; omega)) _ | assumption | exact Below.refl _ _ | refine Below.dr ?_ | refine Below.drN ?_ _ | refine Below.step ?_ (by assumption)))))).mono ?_
          rintro e w4 ⟨rfl, hb4⟩
          have ⟨cw4, fw4⟩ := bcell hb4
          have qw4 := hb4.size
          (try simp at qw4)
          (try have zw4w := bsz (show w.heap.size < w4.heap.size by omega))
          (try have zw4w1 := bsz (show w1.heap.size < w4.heap.size by omega))
          (try have zw4w2 := bsz (show w2.heap.size < w4.heap.size by omega))
          (try have zw4w3 := bsz (show w3.heap.size < w4.heap.size by omega))
          go_wp2
          go_ret
          exact ⟨ret_bool (by rw [HA.out, H2.out, HSM.out, HN.out, HN0.out]; rfl), by (repeat (first | with_reducible exact Below.refl _ _ | with_reducible assumption | with_reducible refine Below.al ?_ _ | with_reducible refine Below.sc ?_ (by first | exact Nat.le_refl _ | (simp; done) | (simp; omega)) _ | assumption | exact Below.refl _ _ | refine Below.dr ?_ | refine Below.drN ?_ _ | refine Below.step ?_ (by assumption)))⟩
    · have h2i : ((t.us.length : Int) == 2) = false := by simp; omega
      have H2 := Lib.hid (show decide (t.us.length = 2) = false by simpa using h2)
      go_enter Tryz.func196, Tryz.ntmps196
      go_wp2_with fail
      refine (isEquality_any _ _ _).mono ?_
      rintro e w1 ⟨rfl, hb1⟩
      have ⟨cw1, fw1⟩ := bcell hb1
      have qw1 := hb1.size
      (try simp at qw1)
      (try have zw1w := bsz (show w.heap.size < w1.heap.size by omega))
      go_wp2
      go_ret
      exact ⟨ret_bool (by rw [HA.out, H2.out]; rfl), by (repeat (first | with_reducible exact Below.refl _ _ | with_reducible assumption | with_reducible refine Below.al ?_ _ | with_reducible refine Below.sc ?_ (by first | exact Nat.le_refl _ | (simp; done) | (simp; omega)) _ | assumption | exact Below.refl _ _ | refine Below.dr ?_ | refine Below.drN ?_ _ | refine Below.step ?_ (by assumption)))⟩
set_option maxRecDepth 100000 in
set_option maxHeartbeats 400000 in
theorem l2Atom_any {B : Nat → Prop} (m : Nat) (t : Tm) (v0 v1 : Value) (w : World) (h : TmAt B m w t [v0, v1]) (hz : t.sz ≤ 100000000) :
      Calls Tryz.prog 124 #[.agg #[v0, v1]] w fun e w' => e = .returned (.bool t.atom) ∧ Below w.heap.size w w' := by
  have H := Lib.hid h
  obtain ⟨p, c, rfl, rfl, hs, hlen⟩ := h.form
  have HL := Lib.hid h.args
  have HS := Lib.hid hs
  unfold maxLen at hlen
  clear h hs
  cases hq : isEq t.n
  · have HQ := isEq_list hq
    have HA := Lib.hid (Tm.atom_no hq)
    cases hy : symB t.n.data.toList
    all_goals
      have HY := Lib.hid hy
      go_enter Tryz.func124, Tryz.ntmps124
      go_wp2_with fail
      refine (l2Symbol_any _ _ HS.out).mono ?_
      rintro e w' ⟨rfl, rfl⟩
      rw [HY.out]
    · go_wp2
      go_ret
      exact ⟨ret_bool (by rw [HA.out, HY.out]; rfl), by (repeat (first | with_reducible exact Below.refl _ _ | with_reducible assumption | with_reducible refine Below.al ?_ _ | with_reducible refine Below.sc ?_ (by first | exact Nat.le_refl _ | (simp; done) | (simp; omega)) _ | assumption | exact Below.refl _ _ | refine Below.dr ?_ | refine Below.drN ?_ _ | refine Below.step ?_ (by assumption)))⟩
    · go_wp2_with fail
      refine (l2Good_any m t _ _ _ (H.out.below (by (repeat (first | with_reducible exact Below.refl _ _ | with_reducible assumption | with_reducible refine Below.al ?_ _ | with_reducible refine Below.sc ?_ (by first | exact Nat.le_refl _ | (simp; done) | (simp; omega)) _ | assumption | exact Below.refl _ _ | refine Below.dr ?_ | refine Below.drN ?_ _ | refine Below.step ?_ (by assumption))))) hz).mono ?_
      rintro e w1 ⟨rfl, hb1⟩
      have ⟨cw1, fw1⟩ := bcell hb1
      have qw1 := hb1.size
      (try simp at qw1)
      (try have zw1w := bsz (show w.heap.size < w1.heap.size by omega))
      go_wp2
      go_ret
      exact ⟨ret_bool (by rw [HA.out, HY.out]; rfl), by (repeat (first | with_reducible exact Below.refl _ _ | with_reducible assumption | with_reducible refine Below.al ?_ _ | with_reducible refine Below.sc ?_ (by first | exact Nat.le_refl _ | (simp; done) | (simp; omega)) _ | assumption | exact Below.refl _ _ | refine Below.dr ?_ | refine Below.drN ?_ _ | refine Below.step ?_ (by assumption)))⟩
  · have HQ := isEq_list hq
    have HA := Lib.hid (Tm.atom_eq hq)
    by_cases h2 : t.us.length = 2
    · have h2i : ((t.us.length : Int) == 2) = true := by simp; omega
      have H2 := Lib.hid (show decide (t.us.length = 2) = true by simpa using h2)
      have H' := Lib.hid (show TmAt B m w t [.string t.n, .slice p 2 c] by
        have e := H.out
        rw [h2] at e
        exact e)
      cases hsm : t.small
      · have HSM := Lib.hid hsm
        go_enter Tryz.func124, Tryz.ntmps124
        go_wp2_with fail
        refine (l2Fits_any m t _ _ _ (H'.out.below (by (repeat (first | with_reducible exact Below.refl _ _ | with_reducible assumption | with_reducible refine Below.al ?_ _ | with_reducible refine Below.sc ?_ (by first | exact Nat.le_refl _ | (simp; done) | (simp; omega)) _ | assumption | exact Below.refl _ _ | refine Below.dr ?_ | refine Below.drN ?_ _ | refine Below.step ?_ (by assumption))))) hz).mono ?_
        rintro e w1 ⟨rfl, hb1⟩
        have ⟨cw1, fw1⟩ := bcell hb1
        have qw1 := hb1.size
        (try simp at qw1)
        (try have zw1w := bsz (show w.heap.size < w1.heap.size by omega))
        rw [HSM.out]
        go_wp2
        go_ret
        exact ⟨ret_bool (by rw [HA.out, HSM.out]; simp), by (repeat (first | with_reducible exact Below.refl _ _ | with_reducible assumption | with_reducible refine Below.al ?_ _ | with_reducible refine Below.sc ?_ (by first | exact Nat.le_refl _ | (simp; done) | (simp; omega)) _ | assumption | exact Below.refl _ _ | refine Below.dr ?_ | refine Below.drN ?_ _ | refine Below.step ?_ (by assumption)))⟩
      · have HSM := Lib.hid hsm
        have hl0 : 0 < t.us.length := by omega
        have hl1 : 1 < t.us.length := by omega
        obtain ⟨b, o, rfl, hB, x0, x1, hx0, hx1, hx⟩ := HL.out.at2 hl0
        obtain ⟨b', o', he, hB', y0, y1, hy0, hy1, hy⟩ := HL.out.at2 hl1
        simp only [Option.some.injEq, Addr.mk.injEq, and_true] at he
        obtain ⟨rfl, rfl⟩ := he
        simp only [Nat.zero_mul, Nat.one_mul, Nat.add_zero, Nat.add_assoc, Nat.reduceAdd] at hx0 hx1 hy0 hy1
        have hbw : b < w.heap.size := World.block_lt_of_cell? _ _ hx0
        have zbw := bsz hbw
        skip
        have HN := Lib.hid (show Tm.nodess t.us = (t.us[0].nodes && t.us[1].nodes) by
          have e0 := Tm.nodess_drop t.us hl0
          have e1 := Tm.nodess_drop t.us hl1
          rw [List.drop_zero] at e0
          rw [e0, e1, List.drop_eq_nil_of_le (by omega), Tm.nodess, Bool.and_true])
        obtain ⟨a0, ha0⟩ : ∃ a, t.us[0] = a := ⟨_, rfl⟩
        obtain ⟨a1, ha1⟩ : ∃ a, t.us[1] = a := ⟨_, rfl⟩
        rw [ha0] at hx
        rw [ha1] at hy
        rw [ha0, ha1] at HN
        clear ha0 ha1
        obtain ⟨p0, c0, rfl, rfl, -, -⟩ := hx.form
        obtain ⟨p1, c1, rfl, rfl, -, -⟩ := hy.form
        have HX := Lib.hid hx
        have HY := Lib.hid hy
        clear hx hy
        cases hn0 : a0.nodes
        all_goals
          have HN0 := Lib.hid hn0
          go_enter Tryz.func124, Tryz.ntmps124
          go_wp2_with fail
          refine (l2Fits_any m t _ _ _ (H'.out.below (by (repeat (first | with_reducible exact Below.refl _ _ | with_reducible assumption | with_reducible refine Below.al ?_ _ | with_reducible refine Below.sc ?_ (by first | exact Nat.le_refl _ | (simp; done) | (simp; omega)) _ | assumption | exact Below.refl _ _ | refine Below.dr ?_ | refine Below.drN ?_ _ | refine Below.step ?_ (by assumption))))) hz).mono ?_
          rintro e w1 ⟨rfl, hb1⟩
          have ⟨cw1, fw1⟩ := bcell hb1
          have qw1 := hb1.size
          (try simp at qw1)
          (try have zw1w := bsz (show w.heap.size < w1.heap.size by omega))
          (try have zw1b := bsz (show b < w1.heap.size by omega))
          rw [HSM.out]
          go_wp2_with fail
          refine (l2Nodes_any m a0 _ _ _ (HX.out.below (by (repeat (first | with_reducible exact Below.refl _ _ | with_reducible assumption | with_reducible refine Below.al ?_ _ | with_reducible refine Below.sc ?_ (by first | exact Nat.le_refl _ | (simp; done) | (simp; omega)) _ | assumption | exact Below.refl _ _ | refine Below.dr ?_ | refine Below.drN ?_ _ | refine Below.step ?_ (by assumption)))))).mono ?_
          rintro e w2 ⟨rfl, hb2⟩
          have ⟨cw2, fw2⟩ := bcell hb2
          have qw2 := hb2.size
          (try simp at qw2)
          (try have zw2w := bsz (show w.heap.size < w2.heap.size by omega))
          (try have zw2w1 := bsz (show w1.heap.size < w2.heap.size by omega))
          (try have zw2b := bsz (show b < w2.heap.size by omega))
          rw [HN0.out]
        · go_wp2
          go_ret
          exact ⟨ret_bool (by rw [HA.out, H2.out, HSM.out, HN.out, HN0.out]; rfl), by (repeat (first | with_reducible exact Below.refl _ _ | with_reducible assumption | with_reducible refine Below.al ?_ _ | with_reducible refine Below.sc ?_ (by first | exact Nat.le_refl _ | (simp; done) | (simp; omega)) _ | assumption | exact Below.refl _ _ | refine Below.dr ?_ | refine Below.drN ?_ _ | refine Below.step ?_ (by assumption)))⟩
        · go_wp2_with fail
          refine (l2Nodes_any m a1 _ _ _ (HY.out.below (by (repeat (first | with_reducible exact Below.refl _ _ | with_reducible assumption | with_reducible refine Below.al ?_ _ | with_reducible refine Below.sc ?_ (by first | exact Nat.le_refl _ | (simp; done) | (simp; omega)) _ | assumption | exact Below.refl _ _ | refine Below.dr ?_ | refine Below.drN ?_ _ | refine Below.step ?_ (by assumption)))))).mono ?_
          rintro e w1 ⟨rfl, hb1⟩
          have ⟨cw1, fw1⟩ := bcell hb1
          have qw1 := hb1.size
          (try simp at qw1)
          (try have zw1w := bsz (show w.heap.size < w1.heap.size by omega))
          (try have zw1b := bsz (show b < w1.heap.size by omega))
          go_wp2
          go_ret
          exact ⟨ret_bool (by rw [HA.out, H2.out, HSM.out, HN.out, HN0.out]; rfl), by (repeat (first | with_reducible exact Below.refl _ _ | with_reducible assumption | with_reducible refine Below.al ?_ _ | with_reducible refine Below.sc ?_ (by first | exact Nat.le_refl _ | (simp; done) | (simp; omega)) _ | assumption | exact Below.refl _ _ | refine Below.dr ?_ | refine Below.drN ?_ _ | refine Below.step ?_ (by assumption)))⟩
    · have h2i : ((t.us.length : Int) == 2) = false := by simp; omega
      have H2 := Lib.hid (show decide (t.us.length = 2) = false by simpa using h2)
      go_enter Tryz.func124, Tryz.ntmps124
      go_wp2
      go_ret
      exact ⟨ret_bool (by rw [HA.out, H2.out]; rfl), by (repeat (first | with_reducible exact Below.refl _ _ | with_reducible assumption | with_reducible refine Below.al ?_ _ | with_reducible refine Below.sc ?_ (by first | exact Nat.le_refl _ | (simp; done) | (simp; omega)) _ | assumption | exact Below.refl _ _ | refine Below.dr ?_ | refine Below.drN ?_ _ | refine Below.step ?_ (by assumption)))⟩
end Go.Proofs.YtcegllnljaapiaaGreatDoor
namespace Go.Proofs.YtcegllnljaapiaaGreatDoor
open Go.RowKit
theorem LitAt.form {B : Nat → Prop} {n : Nat} {w : World} {l : Lit3} {x0 x1 x2 : Value} (h : LitAt B n w l [x0, x1, x2]) : ∃ p c, x0 = .bool l.pos ∧ x1 = .string l.a.n ∧ x2 = .slice p l.a.us.length c ∧ TmAt B n w l.a [x1, x2] := by
  obtain ⟨vn, va, h1, h2⟩ := h
  simp only [List.cons.injEq, and_true] at h1
  obtain ⟨rfl, rfl, rfl⟩ := h1
  obtain ⟨p, c, rfl, rfl, -⟩ := h2.form
  exact ⟨p, c, rfl, rfl, rfl, h2⟩
theorem LitAt.below {B : Nat → Prop} {w w' : World} (hb : Below w.heap.size w w') {n : Nat} {l : Lit3} {cs : List Value} (h : LitAt B n w l cs) : LitAt B n w' l cs := LitAt.mono (SameOn.below hb) (fun _ h => h) (Nat.le_refl _) h
set_option maxRecDepth 100000 in
theorem isValidLiteral_any {B : Nat → Prop} (m : Nat) (l : Lit3) (v0 v1 v2 : Value) (w : World) (h : LitAt B m w l [v0, v1, v2]) (hz : l.a.sz ≤ 100000000) :
    Calls Tryz.prog 131 #[.agg #[v0, v1, v2]] w fun e w' => e = .returned (.bool l.a.atom) ∧ Below w.heap.size w w' := by
  obtain ⟨p, c, rfl, rfl, rfl, ht⟩ := h.form
  have HT := Lib.hid ht
  clear h ht
  go_enter Tryz.func131, Tryz.ntmps131
  go_wp2_with (first | (go_at_call 196; refine (isValidAtom_any m l.a _ _ _ (HT.out.below (by (repeat (first | with_reducible exact Below.refl _ _ | with_reducible assumption | with_reducible refine Below.al ?_ _ | with_reducible refine Below.sc ?_ (by first | exact Nat.le_refl _ | (simp; done) | (simp; omega)) _ | assumption | exact Below.refl _ _ | refine Below.dr ?_ | refine Below.drN ?_ _ | refine Below.step ?_ (by assumption))))) hz).mono ?_; rintro e w1 ⟨rfl, hb1⟩; have ⟨cw1, fw1⟩ := bcell hb1; have qw1 := hb1.size; (try simp at qw1); (try have zw1w := bsz (show w.heap.size < w1.heap.size by omega))))
  go_ret
  exact ⟨rfl, by (repeat (first | with_reducible exact Below.refl _ _ | with_reducible assumption | with_reducible refine Below.al ?_ _ | with_reducible refine Below.sc ?_ (by first | exact Nat.le_refl _ | (simp; done) | (simp; omega)) _ | assumption | exact Below.refl _ _ | refine Below.dr ?_ | refine Below.drN ?_ _ | refine Below.step ?_ (by assumption)))⟩
set_option maxRecDepth 100000 in
theorem flag_any (b : Bool) (w : World) : Calls Tryz.prog 200 #[.bool b] w fun e w' => e = .returned (.int .i64 (flagI b)) ∧ w = w' := by
  go_enter Tryz.func200, Tryz.ntmps200
  cases b
  all_goals
    go_wp2
    go_ret
    exact ⟨rfl, rfl⟩
set_option maxRecDepth 100000 in
set_option maxHeartbeats 1600000 in
theorem compareLiterals_any {B : Nat → Prop} (m : Nat) (a b : Lit3) (v0 v1 v2 u0 u1 u2 : Value) (w : World) (ha : LitAt B m w a [v0, v1, v2]) (hb : LitAt B m w b [u0, u1, u2]) (hoa : a.a.ord = true) (hob : b.a.ord = true) :
    Calls Tryz.prog 132 #[.agg #[v0, v1, v2], .agg #[u0, u1, u2]] w fun e w' => e = .returned (.int .i64 (a.cmp b)) ∧ Below w.heap.size w w' := by
  obtain ⟨p, c, rfl, rfl, rfl, hta⟩ := ha.form
  obtain ⟨q, d, rfl, rfl, rfl, htb⟩ := hb.form
  have HA := Lib.hid hta
  have HB := Lib.hid htb
  clear ha hb hta htb
  go_enter Tryz.func132, Tryz.ntmps132
  go_wp2
  obtain ⟨W, hW⟩ : ∃ W : World, W = (w.alloc (.cells #[.bool a.pos, .string a.a.n, .slice p a.a.us.length c] 169)).alloc (.cells #[.bool b.pos, .string b.a.n, .slice q b.a.us.length d] 169) := ⟨_, rfl⟩
  have hsW : W.heap.size = w.heap.size + 2 := by rw [hW]; simp
  have hbW : Below w.heap.size w W := by rw [hW]; (repeat (first | with_reducible exact Below.refl _ _ | with_reducible assumption | with_reducible refine Below.al ?_ _ | with_reducible refine Below.sc ?_ (by first | exact Nat.le_refl _ | (simp; done) | (simp; omega)) _ | assumption | exact Below.refl _ _ | refine Below.dr ?_ | refine Below.drN ?_ _ | refine Below.step ?_ (by assumption)))
  have a0 : W.cell? ⟨w.heap.size, 0, none⟩ = some (.bool a.pos) := by rw [hW]; go_simp
  have a1 : W.cell? ⟨w.heap.size, 1, none⟩ = some (.string a.a.n) := by rw [hW]; go_simp
  have a2 : W.cell? ⟨w.heap.size, 2, none⟩ = some (.slice p a.a.us.length c) := by rw [hW]; go_simp
  have b0 : W.cell? ⟨w.heap.size + 1, 0, none⟩ = some (.bool b.pos) := by rw [hW]; go_simp
  have b1 : W.cell? ⟨w.heap.size + 1, 1, none⟩ = some (.string b.a.n) := by rw [hW]; go_simp
  have b2 : W.cell? ⟨w.heap.size + 1, 2, none⟩ = some (.slice q b.a.us.length d) := by rw [hW]; go_simp
  rw [← hW]
  clear hW
  have zW := bsz (show w.heap.size < W.heap.size by omega)
  have zW1 := bsz (show w.heap.size + 1 < W.heap.size by omega)
  go_region_held3 (fun w' => w'.cell? ⟨w.heap.size, 0, none⟩ = some (.bool a.pos) ∧ w'.cell? ⟨w.heap.size, 1, none⟩ = some (.string a.a.n) ∧ w'.cell? ⟨w.heap.size, 2, none⟩ = some (.slice p a.a.us.length c) ∧ w'.cell? ⟨w.heap.size + 1, 0, none⟩ = some (.bool b.pos) ∧ w'.cell? ⟨w.heap.size + 1, 1, none⟩ = some (.string b.a.n) ∧ w'.cell? ⟨w.heap.size + 1, 2, none⟩ = some (.slice q b.a.us.length d)) (first | go_keep | (refine ⟨?_, ?_, ?_, ?_, ?_, ?_⟩ <;> first | assumption | (go_simp; done) | (exact (World.cell?_of_block (hb6.block _ (by simp; omega))).trans (by first | assumption | (go_simp; done))) | (exact (World.cell?_of_block (hb7.block _ (by simp; omega))).trans (by first | assumption | (go_simp; done))) | fail)) (first | (go_at_call 198; refine (compareTerms_any m a.a b.a _ _ _ _ _ (HA.out.below (by (repeat (first | with_reducible exact Below.refl _ _ | with_reducible assumption | with_reducible refine Below.al ?_ _ | with_reducible refine Below.sc ?_ (by first | exact Nat.le_refl _ | (simp; done) | (simp; omega)) _ | assumption | exact Below.refl _ _ | refine Below.dr ?_ | refine Below.drN ?_ _ | refine Below.step ?_ (by assumption))))) (HB.out.below (by (repeat (first | with_reducible exact Below.refl _ _ | with_reducible assumption | with_reducible refine Below.al ?_ _ | with_reducible refine Below.sc ?_ (by first | exact Nat.le_refl _ | (simp; done) | (simp; omega)) _ | assumption | exact Below.refl _ _ | refine Below.dr ?_ | refine Below.drN ?_ _ | refine Below.step ?_ (by assumption))))) hoa hob).mono ?_; rintro e w6 ⟨rfl, hb6⟩; have hq6 := hb6.size; (try simp at hq6)) | (go_at_call 200; refine (flag_any _ _).mono ?_; rintro e w5 ⟨rfl, rfl⟩) | (go_at_call 199; refine (Tryz.cmp_Compare_int _ _ _).mono ?_; rintro e w5 ⟨rfl, rfl⟩) | (go_at_call 197; refine (or2_any (a.a.cmp b.a) (Lib.compareInt (flagI a.pos) (flagI b.pos)) _ _ _ (by go_simp) (by go_simp)).mono ?_; rintro e w7 ⟨rfl, hb7⟩))
  all_goals
    go_wp2
    go_ret
    exact ⟨rfl, by (repeat (first | with_reducible exact Below.refl _ _ | with_reducible assumption | with_reducible refine Below.al ?_ _ | with_reducible refine Below.sc ?_ (by first | exact Nat.le_refl _ | (simp; done) | (simp; omega)) _ | assumption | exact Below.refl _ _ | refine Below.dr ?_ | refine Below.drN ?_ _ | refine Below.step ?_ (by assumption)))⟩
def ClsRel (c : List Lit3) (w : World) (i : Value) (wr : World) : Prop := ∃ k : Nat, k ≤ c.length ∧ i = .int .i64 k ∧ Cls.okF none c = Cls.okF (prevAt c k) (c.drop k) ∧ (∀ _ : 0 < k, ∀ h2 : k - 1 < c.length, (c[k - 1]'h2).a.atom = true) ∧ Below w.heap.size w wr
set_option maxRecDepth 100000 in
set_option maxHeartbeats 3200000 in
theorem isValidClause_any {B : Nat → Prop} (m : Nat) (c : List Lit3) (v : Value) (w : World) (h : ClsAt B m w c v) (hz : ∀ l ∈ c, l.a.sz ≤ 100000000) :
    Calls Tryz.prog 56 #[.agg #[v]] w fun e w' => e = .returned (.bool (Cls.good c)) ∧ Below w.heap.size w w' := by
  obtain ⟨p, d, rfl, hlen⟩ := (show ListAt B w 3 (LitAt B m w) v c from h).form
  unfold maxLen at hlen
  have H := Lib.hid (show ListAt B w 3 (LitAt B m w) (.slice p c.length d) c from h)
  have HG := Lib.hid (show Cls.good c = (decide (c.length ≤ 8) && Cls.okF none c) from rfl)
  have HZ := Lib.hid hz
  clear h hz
  go_enter Tryz.func56, Tryz.ntmps56
  go_wp2
  obtain ⟨W, hW⟩ : ∃ W : World, W = w.alloc (.cells #[.slice p c.length d] 49) := ⟨_, rfl⟩
  have hsW : W.heap.size = w.heap.size + 1 := by rw [hW]; simp
  have hbW : Below w.heap.size w W := by rw [hW]; (repeat (first | with_reducible exact Below.refl _ _ | with_reducible assumption | with_reducible refine Below.al ?_ _ | with_reducible refine Below.sc ?_ (by first | exact Nat.le_refl _ | (simp; done) | (simp; omega)) _ | assumption | exact Below.refl _ _ | refine Below.dr ?_ | refine Below.drN ?_ _ | refine Below.step ?_ (by assumption)))
  have a0 : W.cell? ⟨w.heap.size, 0, none⟩ = some (.slice p c.length d) := by rw [hW]; go_simp
  rw [← hW]
  clear hW
  have HL := Lib.hid (H.out.mono (SameOn.below hbW) (fun _ h => h) (fun x cs _ hx => LitAt.below hbW hx))
  go_loopw [8] (ClsRel c W) (fun i _ => c.length - (intOf i).toNat)
  case atStart => exact ⟨0, Nat.zero_le _, rfl, rfl, fun h => absurd h (by omega), Below.refl _ _⟩
  case round =>
    obtain ⟨k, hk, rfl, he, hpv, hb⟩ := hrel
    have HE := Lib.hid he
    have HPV := Lib.hid hpv
    have hqr := hb.size
    have zr := bsz (show w.heap.size < wr.heap.size by omega)
    have e0 : wr.cell? ⟨w.heap.size, 0, none⟩ = some (.slice p c.length d) := (World.cell?_of_block (hb.block _ (by simp; omega))).trans a0
    have hwr : Below w.heap.size w wr := hbW.trans (hb.mono hbW.size)
    clear he hpv a0
    by_cases hlt : k < c.length
    · have hD := okF_drop hlt
      have hszl := HZ.out _ (List.getElem_mem hlt)
      obtain ⟨b1, o1, hq1, hB1, x0, x1, x2, hx0, hx1, hx2, hx⟩ := (HL.out.mono (SameOn.below hb) (fun _ h => h) (fun x cs _ hx => LitAt.below hb hx)).at3 hlt
      have hprev : ∀ h : 0 < k, ∃ y0 y1 y2, wr.cell? ⟨b1, o1 + (k - 1) * 3, none⟩ = some y0 ∧ wr.cell? ⟨b1, o1 + (k - 1) * 3 + 1, none⟩ = some y1 ∧ wr.cell? ⟨b1, o1 + (k - 1) * 3 + 2, none⟩ = some y2 ∧ LitAt B m wr (c[k - 1]'(by omega)) [y0, y1, y2] := fun h => by
        obtain ⟨b2, o2, hq2, -, y0, y1, y2, hy0, hy1, hy2, hy⟩ := (HL.out.mono (SameOn.below hb) (fun _ h => h) (fun x cs _ hx => LitAt.below hb hx)).at3 (show k - 1 < c.length by omega)
        rw [hq1] at hq2
        simp only [Option.some.injEq, Addr.mk.injEq, and_true] at hq2
        obtain ⟨rfl, rfl⟩ := hq2
        exact ⟨y0, y1, y2, hy0, hy1, hy2, hy⟩
      subst hq1
      have HPR := Lib.hid hprev
      have hpp := fun h : 0 < k => prevAt_pos hlt h
      have HPP := Lib.hid hpp
      clear hprev hpp
      obtain ⟨l, hl⟩ : ∃ l, c[k] = l := ⟨_, rfl⟩
      rw [hl] at hx hD hszl
      have HX := Lib.hid hx
      have HD := Lib.hid hD
      have HLK := Lib.hid hl
      clear hx hD hl
      obtain ⟨pa, ca, rfl, rfl, rfl, ht⟩ := HX.out.form
      clear ht
      have zb := bsz (World.block_lt_of_cell? _ _ hx0)
      cases hA : l.a.atom
      · have HA := Lib.hid (show Cls.good c = false by rw [HG.out, HE.out, HD.out, hA, Bool.false_and, Bool.false_and, Bool.and_false])
        go_wp2
        obtain ⟨V, hV⟩ : ∃ V : World, V = wr.alloc (.cells #[.bool l.pos, .string l.a.n, .slice pa l.a.us.length ca] 169) := ⟨_, rfl⟩
        have hsV : V.heap.size = wr.heap.size + 1 := by rw [hV]; simp
        have hbV : Below wr.heap.size wr V := by rw [hV]; (repeat (first | with_reducible exact Below.refl _ _ | with_reducible assumption | with_reducible refine Below.al ?_ _ | with_reducible refine Below.sc ?_ (by first | exact Nat.le_refl _ | (simp; done) | (simp; omega)) _ | assumption | exact Below.refl _ _ | refine Below.dr ?_ | refine Below.drN ?_ _ | refine Below.step ?_ (by assumption)))
        have g0 : V.cell? ⟨wr.heap.size, 0, none⟩ = some (.bool l.pos) := by rw [hV]; go_simp
        have g1 : V.cell? ⟨wr.heap.size, 1, none⟩ = some (.string l.a.n) := by rw [hV]; go_simp
        have g2 : V.cell? ⟨wr.heap.size, 2, none⟩ = some (.slice pa l.a.us.length ca) := by rw [hV]; go_simp
        have g3 : V.cell? ⟨w.heap.size, 0, none⟩ = some (.slice (some ⟨b1, o1, none⟩) c.length d) := by rw [hV]; go_simp
        have zv := bsz (show w.heap.size < V.heap.size by omega)
        have zv1 := bsz (show wr.heap.size < V.heap.size by omega)
        have zv2 := bsz (show b1 < V.heap.size by omega)
        have hwV : Below w.heap.size w V := hwr.trans (hbV.mono hwr.size)
        have hWV : Below W.heap.size W V := hb.trans (hbV.mono hb.size)
        rw [← hV]
        clear hV
        obtain ⟨C, HC0⟩ := class_of (InF V.heap.size _ [(⟨wr.heap.size, 0, none⟩, .bool l.pos), (⟨wr.heap.size, 1, none⟩, .string l.a.n), (⟨wr.heap.size, 2, none⟩, .slice pa l.a.us.length ca)] [] [])
        have HC := Lib.hid HC0
        clear HC0
        refine wp_region_flow (C := C) (by kernel_rfl) (by kernel_rfl) (fun L hL => (HC.out _ _).2 (InF.start (by first | (intro _ hs; cases hs; done) | (simp only [List.forall_mem_cons]; go_simp)) (by first | (intro _ hs; cases hs; done) | (simp only [List.forall_mem_cons]; go_simp)) (by first | (intro _ hs; cases hs; done) | (simp only [List.forall_mem_cons]; go_simp)) (by first | (intro _ hs; cases hs; done) | (simp only [List.forall_mem_cons]; go_simp)) L hL)) ?_
        repeat (first | (apply flow_free rfl; (intro L w' hun hrd hC; have hC := (HC.out _ _).1 hC; have hb' := hC.below; (try have hw' : Below w.heap.size w w' := by first | exact Below.trans (by (repeat (first | with_reducible exact Below.refl _ _ | with_reducible assumption | with_reducible refine Below.al ?_ _ | with_reducible refine Below.sc ?_ (by first | exact Nat.le_refl _ | (simp; done) | (simp; omega)) _ | assumption | exact Below.refl _ _ | refine Below.dr ?_ | refine Below.drN ?_ _ | refine Below.step ?_ (by assumption)))) hb' | ((repeat (first | with_reducible exact Below.refl _ _ | with_reducible assumption | with_reducible refine Below.al ?_ _ | with_reducible refine Below.sc ?_ (by first | exact Nat.le_refl _ | (simp; done) | (simp; omega)) _ | assumption | exact Below.refl _ _ | refine Below.dr ?_ | refine Below.drN ?_ _ | refine Below.step ?_ (by assumption))); done)); have hf' := hC.cell; (try simp only [List.forall_mem_cons] at hf'); go_simp; first | exact ⟨(HC.out _ _).2 (hC.skip _ (by rfl)), rfl⟩ | (rw [if_neg]; (exact ⟨(HC.out _ _).2 (hC.skip _ (by rfl)), rfl⟩); omega) | (go_at_call 131; refine (isValidLiteral_any m l _ _ _ _ (LitAt.below (hbV.trans (hb'.mono hbV.size)) HX.out) hszl).mono ?_; rintro e w1 ⟨rfl, hb1⟩; exact ⟨rfl, (HC.out _ _).2 ((hC.next (by first | (simp; done) | (simp; omega) | omega) hb1).skip _ (by rfl))⟩)); go_simp) | (apply flow_yes; (case hw => go_simp); (intro L w' hun hrd hC; have hC := (HC.out _ _).1 hC; have hb' := hC.below; (try have hw' : Below w.heap.size w w' := by first | exact Below.trans (by (repeat (first | with_reducible exact Below.refl _ _ | with_reducible assumption | with_reducible refine Below.al ?_ _ | with_reducible refine Below.sc ?_ (by first | exact Nat.le_refl _ | (simp; done) | (simp; omega)) _ | assumption | exact Below.refl _ _ | refine Below.dr ?_ | refine Below.drN ?_ _ | refine Below.step ?_ (by assumption)))) hb' | ((repeat (first | with_reducible exact Below.refl _ _ | with_reducible assumption | with_reducible refine Below.al ?_ _ | with_reducible refine Below.sc ?_ (by first | exact Nat.le_refl _ | (simp; done) | (simp; omega)) _ | assumption | exact Below.refl _ _ | refine Below.dr ?_ | refine Below.drN ?_ _ | refine Below.step ?_ (by assumption))); done)); have hf' := hC.cell; (try simp only [List.forall_mem_cons] at hf'); go_simp; first | exact ⟨(HC.out _ _).2 (hC.skip _ (by rfl)), rfl⟩ | (rw [if_neg]; (exact ⟨(HC.out _ _).2 (hC.skip _ (by rfl)), rfl⟩); omega) | (go_at_call 131; refine (isValidLiteral_any m l _ _ _ _ (LitAt.below (hbV.trans (hb'.mono hbV.size)) HX.out) hszl).mono ?_; rintro e w1 ⟨rfl, hb1⟩; exact ⟨rfl, (HC.out _ _).2 ((hC.next (by first | (simp; done) | (simp; omega) | omega) hb1).skip _ (by rfl))⟩)); go_simp) | (apply flow_no; (case hw => (go_simp; try (intro hh; cases hh))); (intro L w' _ _ hC; exact (HC.out _ _).2 (((HC.out _ _).1 hC).skip _ (by rfl))); go_simp))
        refine flow_nil ?_
        intro L wz hL hz
        have hz := (HC.out _ _).1 hz
        have hbz := hz.below
        have hcz := hz.cell
        try simp only [List.forall_mem_cons] at hcz
        have hdz := hz.done
        try simp only [List.forall_mem_cons] at hdz
        (try have hwz : Below w.heap.size w wz := by first | exact Below.trans (by (repeat (first | with_reducible exact Below.refl _ _ | with_reducible assumption | with_reducible refine Below.al ?_ _ | with_reducible refine Below.sc ?_ (by first | exact Nat.le_refl _ | (simp; done) | (simp; omega)) _ | assumption | exact Below.refl _ _ | refine Below.dr ?_ | refine Below.drN ?_ _ | refine Below.step ?_ (by assumption)))) hbz | ((repeat (first | with_reducible exact Below.refl _ _ | with_reducible assumption | with_reducible refine Below.al ?_ _ | with_reducible refine Below.sc ?_ (by first | exact Nat.le_refl _ | (simp; done) | (simp; omega)) _ | assumption | exact Below.refl _ _ | refine Below.dr ?_ | refine Below.drN ?_ _ | refine Below.step ?_ (by assumption))); done))
        go_wp2
        go_ret
        exact ⟨ret_bool HA.out.symm, hwV.trans (hbz.mono hwV.size)⟩
      · cases k with
        | zero =>
          simp only [Nat.zero_mul, Nat.add_zero] at hx0 hx1 hx2
          have HOK := Lib.hid (show Cls.okF none c = Cls.okF (prevAt c (0 + 1)) (c.drop (0 + 1)) by rw [HE.out, HD.out, hA]; simp [prevAt, ascP])
          go_wp2
          obtain ⟨V, hV⟩ : ∃ V : World, V = wr.alloc (.cells #[.bool l.pos, .string l.a.n, .slice pa l.a.us.length ca] 169) := ⟨_, rfl⟩
          have hsV : V.heap.size = wr.heap.size + 1 := by rw [hV]; simp
          have hbV : Below wr.heap.size wr V := by rw [hV]; (repeat (first | with_reducible exact Below.refl _ _ | with_reducible assumption | with_reducible refine Below.al ?_ _ | with_reducible refine Below.sc ?_ (by first | exact Nat.le_refl _ | (simp; done) | (simp; omega)) _ | assumption | exact Below.refl _ _ | refine Below.dr ?_ | refine Below.drN ?_ _ | refine Below.step ?_ (by assumption)))
          have g0 : V.cell? ⟨wr.heap.size, 0, none⟩ = some (.bool l.pos) := by rw [hV]; go_simp
          have g1 : V.cell? ⟨wr.heap.size, 1, none⟩ = some (.string l.a.n) := by rw [hV]; go_simp
          have g2 : V.cell? ⟨wr.heap.size, 2, none⟩ = some (.slice pa l.a.us.length ca) := by rw [hV]; go_simp
          have g3 : V.cell? ⟨w.heap.size, 0, none⟩ = some (.slice (some ⟨b1, o1, none⟩) c.length d) := by rw [hV]; go_simp
          have zv := bsz (show w.heap.size < V.heap.size by omega)
          have zv1 := bsz (show wr.heap.size < V.heap.size by omega)
          have zv2 := bsz (show b1 < V.heap.size by omega)
          have hwV : Below w.heap.size w V := hwr.trans (hbV.mono hwr.size)
          have hWV : Below W.heap.size W V := hb.trans (hbV.mono hb.size)
          rw [← hV]
          clear hV
          obtain ⟨C, HC0⟩ := class_of (InF V.heap.size _ [(⟨wr.heap.size, 0, none⟩, .bool l.pos), (⟨wr.heap.size, 1, none⟩, .string l.a.n), (⟨wr.heap.size, 2, none⟩, .slice pa l.a.us.length ca)] [] [])
          have HC := Lib.hid HC0
          clear HC0
          refine wp_region_flow (C := C) (by kernel_rfl) (by kernel_rfl) (fun L hL => (HC.out _ _).2 (InF.start (by first | (intro _ hs; cases hs; done) | (simp only [List.forall_mem_cons]; go_simp)) (by first | (intro _ hs; cases hs; done) | (simp only [List.forall_mem_cons]; go_simp)) (by first | (intro _ hs; cases hs; done) | (simp only [List.forall_mem_cons]; go_simp)) (by first | (intro _ hs; cases hs; done) | (simp only [List.forall_mem_cons]; go_simp)) L hL)) ?_
          repeat (first | (apply flow_free rfl; (intro L w' hun hrd hC; have hC := (HC.out _ _).1 hC; have hb' := hC.below; (try have hw' : Below w.heap.size w w' := by first | exact Below.trans (by (repeat (first | with_reducible exact Below.refl _ _ | with_reducible assumption | with_reducible refine Below.al ?_ _ | with_reducible refine Below.sc ?_ (by first | exact Nat.le_refl _ | (simp; done) | (simp; omega)) _ | assumption | exact Below.refl _ _ | refine Below.dr ?_ | refine Below.drN ?_ _ | refine Below.step ?_ (by assumption)))) hb' | ((repeat (first | with_reducible exact Below.refl _ _ | with_reducible assumption | with_reducible refine Below.al ?_ _ | with_reducible refine Below.sc ?_ (by first | exact Nat.le_refl _ | (simp; done) | (simp; omega)) _ | assumption | exact Below.refl _ _ | refine Below.dr ?_ | refine Below.drN ?_ _ | refine Below.step ?_ (by assumption))); done)); have hf' := hC.cell; (try simp only [List.forall_mem_cons] at hf'); go_simp; first | exact ⟨(HC.out _ _).2 (hC.skip _ (by rfl)), rfl⟩ | (rw [if_neg]; (exact ⟨(HC.out _ _).2 (hC.skip _ (by rfl)), rfl⟩); omega) | (go_at_call 131; refine (isValidLiteral_any m l _ _ _ _ (LitAt.below (hbV.trans (hb'.mono hbV.size)) HX.out) hszl).mono ?_; rintro e w1 ⟨rfl, hb1⟩; exact ⟨rfl, (HC.out _ _).2 ((hC.next (by first | (simp; done) | (simp; omega) | omega) hb1).skip _ (by rfl))⟩)); go_simp) | (apply flow_yes; (case hw => go_simp); (intro L w' hun hrd hC; have hC := (HC.out _ _).1 hC; have hb' := hC.below; (try have hw' : Below w.heap.size w w' := by first | exact Below.trans (by (repeat (first | with_reducible exact Below.refl _ _ | with_reducible assumption | with_reducible refine Below.al ?_ _ | with_reducible refine Below.sc ?_ (by first | exact Nat.le_refl _ | (simp; done) | (simp; omega)) _ | assumption | exact Below.refl _ _ | refine Below.dr ?_ | refine Below.drN ?_ _ | refine Below.step ?_ (by assumption)))) hb' | ((repeat (first | with_reducible exact Below.refl _ _ | with_reducible assumption | with_reducible refine Below.al ?_ _ | with_reducible refine Below.sc ?_ (by first | exact Nat.le_refl _ | (simp; done) | (simp; omega)) _ | assumption | exact Below.refl _ _ | refine Below.dr ?_ | refine Below.drN ?_ _ | refine Below.step ?_ (by assumption))); done)); have hf' := hC.cell; (try simp only [List.forall_mem_cons] at hf'); go_simp; first | exact ⟨(HC.out _ _).2 (hC.skip _ (by rfl)), rfl⟩ | (rw [if_neg]; (exact ⟨(HC.out _ _).2 (hC.skip _ (by rfl)), rfl⟩); omega) | (go_at_call 131; refine (isValidLiteral_any m l _ _ _ _ (LitAt.below (hbV.trans (hb'.mono hbV.size)) HX.out) hszl).mono ?_; rintro e w1 ⟨rfl, hb1⟩; exact ⟨rfl, (HC.out _ _).2 ((hC.next (by first | (simp; done) | (simp; omega) | omega) hb1).skip _ (by rfl))⟩)); go_simp) | (apply flow_no; (case hw => (go_simp; try (intro hh; cases hh))); (intro L w' _ _ hC; exact (HC.out _ _).2 (((HC.out _ _).1 hC).skip _ (by rfl))); go_simp))
          refine flow_nil ?_
          intro L wz hL hz
          have hz := (HC.out _ _).1 hz
          have hbz := hz.below
          have hcz := hz.cell
          try simp only [List.forall_mem_cons] at hcz
          have hdz := hz.done
          try simp only [List.forall_mem_cons] at hdz
          (try have hwz : Below w.heap.size w wz := by first | exact Below.trans (by (repeat (first | with_reducible exact Below.refl _ _ | with_reducible assumption | with_reducible refine Below.al ?_ _ | with_reducible refine Below.sc ?_ (by first | exact Nat.le_refl _ | (simp; done) | (simp; omega)) _ | assumption | exact Below.refl _ _ | refine Below.dr ?_ | refine Below.drN ?_ _ | refine Below.step ?_ (by assumption)))) hbz | ((repeat (first | with_reducible exact Below.refl _ _ | with_reducible assumption | with_reducible refine Below.al ?_ _ | with_reducible refine Below.sc ?_ (by first | exact Nat.le_refl _ | (simp; done) | (simp; omega)) _ | assumption | exact Below.refl _ _ | refine Below.dr ?_ | refine Below.drN ?_ _ | refine Below.step ?_ (by assumption))); done))
          go_wp2
          refine ⟨⟨0 + 1, by omega, by go_num, HOK.out, fun _ h2 => ?_, hWV.trans (hbz.mono hWV.size)⟩, by simp [intOf]; omega⟩
          rw [← hA, ← HLK.out]
        | succ j =>
          obtain ⟨y0, y1, y2, hy0, hy1, hy2, hy⟩ := HPR.out (by omega)
          have hpa := HPV.out (by omega) (by omega)
          have hpp := HPP.out (by omega)
          simp only [Nat.add_sub_cancel] at hy0 hy1 hy2 hy hpa hpp
          obtain ⟨l0, hl0⟩ : ∃ l0, c[j]'(by omega) = l0 := ⟨_, rfl⟩
          rw [hl0] at hy hpa hpp
          have HY := Lib.hid hy
          have HPP0 := Lib.hid hpp
          have hop := Tm.ord_atom hpa
          have hol := Tm.ord_atom hA
          clear hy hpp hl0 hpa
          obtain ⟨pb, cb, rfl, rfl, rfl, ht⟩ := HY.out.form
          clear ht
          have hj1 : (0 : Int) < (j : Int) + 1 := by omega
          have hwj : IntKind.i64.wrap (j : Int) = (j : Int) := IntWalk.i64_in _ (by omega)
          have hjl : (j : Int) < c.length := by omega
          by_cases hcm : l0.cmp l < 0
          · have HOK := Lib.hid (show Cls.okF none c = Cls.okF (prevAt c (j + 1 + 1)) (c.drop (j + 1 + 1)) by rw [HE.out, HD.out, hA, HPP0.out]; simp [ascP, hcm])
            have hcm2 : ¬ 0 ≤ l0.cmp l := by omega
            go_wp2
            obtain ⟨V, hV⟩ : ∃ V : World, V = wr.alloc (.cells #[.bool l.pos, .string l.a.n, .slice pa l.a.us.length ca] 169) := ⟨_, rfl⟩
            have hsV : V.heap.size = wr.heap.size + 1 := by rw [hV]; simp
            have hbV : Below wr.heap.size wr V := by rw [hV]; (repeat (first | with_reducible exact Below.refl _ _ | with_reducible assumption | with_reducible refine Below.al ?_ _ | with_reducible refine Below.sc ?_ (by first | exact Nat.le_refl _ | (simp; done) | (simp; omega)) _ | assumption | exact Below.refl _ _ | refine Below.dr ?_ | refine Below.drN ?_ _ | refine Below.step ?_ (by assumption)))
            have g0 : V.cell? ⟨wr.heap.size, 0, none⟩ = some (.bool l.pos) := by rw [hV]; go_simp
            have g1 : V.cell? ⟨wr.heap.size, 1, none⟩ = some (.string l.a.n) := by rw [hV]; go_simp
            have g2 : V.cell? ⟨wr.heap.size, 2, none⟩ = some (.slice pa l.a.us.length ca) := by rw [hV]; go_simp
            have g3 : V.cell? ⟨w.heap.size, 0, none⟩ = some (.slice (some ⟨b1, o1, none⟩) c.length d) := by rw [hV]; go_simp
            have zv := bsz (show w.heap.size < V.heap.size by omega)
            have zv1 := bsz (show wr.heap.size < V.heap.size by omega)
            have zv2 := bsz (show b1 < V.heap.size by omega)
            have hwV : Below w.heap.size w V := hwr.trans (hbV.mono hwr.size)
            have hWV : Below W.heap.size W V := hb.trans (hbV.mono hb.size)
            have hy0' : V.cell? ⟨b1, o1 + j * 3, none⟩ = some (.bool l0.pos) := by rw [hV]; go_simp
            have hy1' : V.cell? ⟨b1, o1 + j * 3 + 1, none⟩ = some (.string l0.a.n) := by rw [hV]; go_simp
            have hy2' : V.cell? ⟨b1, o1 + j * 3 + 2, none⟩ = some (.slice pb l0.a.us.length cb) := by rw [hV]; go_simp
            rw [← hV]
            clear hV
            obtain ⟨C, HC0⟩ := class_of (InF V.heap.size _ [(⟨wr.heap.size, 0, none⟩, .bool l.pos), (⟨wr.heap.size, 1, none⟩, .string l.a.n), (⟨wr.heap.size, 2, none⟩, .slice pa l.a.us.length ca), (⟨w.heap.size, 0, none⟩, .slice (some ⟨b1, o1, none⟩) c.length d), (⟨b1, o1 + j * 3, none⟩, .bool l0.pos), (⟨b1, o1 + j * 3 + 1, none⟩, .string l0.a.n), (⟨b1, o1 + j * 3 + 2, none⟩, .slice pb l0.a.us.length cb)] [] [])
            have HC := Lib.hid HC0
            clear HC0
            refine wp_region_flow (C := C) (by kernel_rfl) (by kernel_rfl) (fun L hL => (HC.out _ _).2 (InF.start (by first | (intro _ hs; cases hs; done) | (simp only [List.forall_mem_cons]; go_simp)) (by first | (intro _ hs; cases hs; done) | (simp only [List.forall_mem_cons]; go_simp)) (by first | (intro _ hs; cases hs; done) | (simp only [List.forall_mem_cons]; go_simp)) (by first | (intro _ hs; cases hs; done) | (simp only [List.forall_mem_cons]; go_simp)) L hL)) ?_
            repeat (first | (apply flow_free rfl; (intro L w' hun hrd hC; have hC := (HC.out _ _).1 hC; have hb' := hC.below; (try have hw' : Below w.heap.size w w' := by first | exact Below.trans (by (repeat (first | with_reducible exact Below.refl _ _ | with_reducible assumption | with_reducible refine Below.al ?_ _ | with_reducible refine Below.sc ?_ (by first | exact Nat.le_refl _ | (simp; done) | (simp; omega)) _ | assumption | exact Below.refl _ _ | refine Below.dr ?_ | refine Below.drN ?_ _ | refine Below.step ?_ (by assumption)))) hb' | ((repeat (first | with_reducible exact Below.refl _ _ | with_reducible assumption | with_reducible refine Below.al ?_ _ | with_reducible refine Below.sc ?_ (by first | exact Nat.le_refl _ | (simp; done) | (simp; omega)) _ | assumption | exact Below.refl _ _ | refine Below.dr ?_ | refine Below.drN ?_ _ | refine Below.step ?_ (by assumption))); done)); have hf' := hC.cell; (try simp only [List.forall_mem_cons] at hf'); go_simp; first | exact ⟨(HC.out _ _).2 (hC.skip _ (by rfl)), rfl⟩ | (rw [if_neg]; (exact ⟨(HC.out _ _).2 (hC.skip _ (by rfl)), rfl⟩); omega) | (go_at_call 131; refine (isValidLiteral_any m l _ _ _ _ (LitAt.below (hbV.trans (hb'.mono hbV.size)) HX.out) hszl).mono ?_; rintro e w1 ⟨rfl, hb1⟩; exact ⟨rfl, (HC.out _ _).2 ((hC.next (by first | (simp; done) | (simp; omega) | omega) hb1).skip _ (by rfl))⟩) | (go_at_call 132; refine (compareLiterals_any m l0 l _ _ _ _ _ _ _ (LitAt.below (hbV.trans (hb'.mono hbV.size)) HY.out) (LitAt.below (hbV.trans (hb'.mono hbV.size)) HX.out) hop hol).mono ?_; rintro e w1 ⟨rfl, hb1⟩; exact ⟨rfl, (HC.out _ _).2 ((hC.next (by first | (simp; done) | (simp; omega) | omega) hb1).skip _ (by rfl))⟩)); go_simp) | (apply flow_yes; (case hw => go_simp); (intro L w' hun hrd hC; have hC := (HC.out _ _).1 hC; have hb' := hC.below; (try have hw' : Below w.heap.size w w' := by first | exact Below.trans (by (repeat (first | with_reducible exact Below.refl _ _ | with_reducible assumption | with_reducible refine Below.al ?_ _ | with_reducible refine Below.sc ?_ (by first | exact Nat.le_refl _ | (simp; done) | (simp; omega)) _ | assumption | exact Below.refl _ _ | refine Below.dr ?_ | refine Below.drN ?_ _ | refine Below.step ?_ (by assumption)))) hb' | ((repeat (first | with_reducible exact Below.refl _ _ | with_reducible assumption | with_reducible refine Below.al ?_ _ | with_reducible refine Below.sc ?_ (by first | exact Nat.le_refl _ | (simp; done) | (simp; omega)) _ | assumption | exact Below.refl _ _ | refine Below.dr ?_ | refine Below.drN ?_ _ | refine Below.step ?_ (by assumption))); done)); have hf' := hC.cell; (try simp only [List.forall_mem_cons] at hf'); go_simp; first | exact ⟨(HC.out _ _).2 (hC.skip _ (by rfl)), rfl⟩ | (rw [if_neg]; (exact ⟨(HC.out _ _).2 (hC.skip _ (by rfl)), rfl⟩); omega) | (go_at_call 131; refine (isValidLiteral_any m l _ _ _ _ (LitAt.below (hbV.trans (hb'.mono hbV.size)) HX.out) hszl).mono ?_; rintro e w1 ⟨rfl, hb1⟩; exact ⟨rfl, (HC.out _ _).2 ((hC.next (by first | (simp; done) | (simp; omega) | omega) hb1).skip _ (by rfl))⟩) | (go_at_call 132; refine (compareLiterals_any m l0 l _ _ _ _ _ _ _ (LitAt.below (hbV.trans (hb'.mono hbV.size)) HY.out) (LitAt.below (hbV.trans (hb'.mono hbV.size)) HX.out) hop hol).mono ?_; rintro e w1 ⟨rfl, hb1⟩; exact ⟨rfl, (HC.out _ _).2 ((hC.next (by first | (simp; done) | (simp; omega) | omega) hb1).skip _ (by rfl))⟩)); go_simp) | (apply flow_no; (case hw => (go_simp; try (intro hh; cases hh))); (intro L w' _ _ hC; exact (HC.out _ _).2 (((HC.out _ _).1 hC).skip _ (by rfl))); go_simp))
            refine flow_nil ?_
            intro L wz hL hz
            have hz := (HC.out _ _).1 hz
            have hbz := hz.below
            have hcz := hz.cell
            try simp only [List.forall_mem_cons] at hcz
            have hdz := hz.done
            try simp only [List.forall_mem_cons] at hdz
            (try have hwz : Below w.heap.size w wz := by first | exact Below.trans (by (repeat (first | with_reducible exact Below.refl _ _ | with_reducible assumption | with_reducible refine Below.al ?_ _ | with_reducible refine Below.sc ?_ (by first | exact Nat.le_refl _ | (simp; done) | (simp; omega)) _ | assumption | exact Below.refl _ _ | refine Below.dr ?_ | refine Below.drN ?_ _ | refine Below.step ?_ (by assumption)))) hbz | ((repeat (first | with_reducible exact Below.refl _ _ | with_reducible assumption | with_reducible refine Below.al ?_ _ | with_reducible refine Below.sc ?_ (by first | exact Nat.le_refl _ | (simp; done) | (simp; omega)) _ | assumption | exact Below.refl _ _ | refine Below.dr ?_ | refine Below.drN ?_ _ | refine Below.step ?_ (by assumption))); done))
            go_wp2
            refine ⟨⟨j + 1 + 1, by omega, by go_num, HOK.out, fun _ h2 => ?_, hWV.trans (hbz.mono hWV.size)⟩, by simp [intOf]; omega⟩
            rw [← hA, ← HLK.out]
            rfl
          · have HNO := Lib.hid (show Cls.good c = false by rw [HG.out, HE.out, HD.out, hA, HPP0.out]; simp [ascP, hcm])
            have hcm2 : 0 ≤ l0.cmp l := by omega
            go_wp2
            obtain ⟨V, hV⟩ : ∃ V : World, V = wr.alloc (.cells #[.bool l.pos, .string l.a.n, .slice pa l.a.us.length ca] 169) := ⟨_, rfl⟩
            have hsV : V.heap.size = wr.heap.size + 1 := by rw [hV]; simp
            have hbV : Below wr.heap.size wr V := by rw [hV]; (repeat (first | with_reducible exact Below.refl _ _ | with_reducible assumption | with_reducible refine Below.al ?_ _ | with_reducible refine Below.sc ?_ (by first | exact Nat.le_refl _ | (simp; done) | (simp; omega)) _ | assumption | exact Below.refl _ _ | refine Below.dr ?_ | refine Below.drN ?_ _ | refine Below.step ?_ (by assumption)))
            have g0 : V.cell? ⟨wr.heap.size, 0, none⟩ = some (.bool l.pos) := by rw [hV]; go_simp
            have g1 : V.cell? ⟨wr.heap.size, 1, none⟩ = some (.string l.a.n) := by rw [hV]; go_simp
            have g2 : V.cell? ⟨wr.heap.size, 2, none⟩ = some (.slice pa l.a.us.length ca) := by rw [hV]; go_simp
            have g3 : V.cell? ⟨w.heap.size, 0, none⟩ = some (.slice (some ⟨b1, o1, none⟩) c.length d) := by rw [hV]; go_simp
            have zv := bsz (show w.heap.size < V.heap.size by omega)
            have zv1 := bsz (show wr.heap.size < V.heap.size by omega)
            have zv2 := bsz (show b1 < V.heap.size by omega)
            have hwV : Below w.heap.size w V := hwr.trans (hbV.mono hwr.size)
            have hWV : Below W.heap.size W V := hb.trans (hbV.mono hb.size)
            have hy0' : V.cell? ⟨b1, o1 + j * 3, none⟩ = some (.bool l0.pos) := by rw [hV]; go_simp
            have hy1' : V.cell? ⟨b1, o1 + j * 3 + 1, none⟩ = some (.string l0.a.n) := by rw [hV]; go_simp
            have hy2' : V.cell? ⟨b1, o1 + j * 3 + 2, none⟩ = some (.slice pb l0.a.us.length cb) := by rw [hV]; go_simp
            rw [← hV]
            clear hV
            obtain ⟨C, HC0⟩ := class_of (InF V.heap.size _ [(⟨wr.heap.size, 0, none⟩, .bool l.pos), (⟨wr.heap.size, 1, none⟩, .string l.a.n), (⟨wr.heap.size, 2, none⟩, .slice pa l.a.us.length ca), (⟨w.heap.size, 0, none⟩, .slice (some ⟨b1, o1, none⟩) c.length d), (⟨b1, o1 + j * 3, none⟩, .bool l0.pos), (⟨b1, o1 + j * 3 + 1, none⟩, .string l0.a.n), (⟨b1, o1 + j * 3 + 2, none⟩, .slice pb l0.a.us.length cb)] [] [])
            have HC := Lib.hid HC0
            clear HC0
            refine wp_region_flow (C := C) (by kernel_rfl) (by kernel_rfl) (fun L hL => (HC.out _ _).2 (InF.start (by first | (intro _ hs; cases hs; done) | (simp only [List.forall_mem_cons]; go_simp)) (by first | (intro _ hs; cases hs; done) | (simp only [List.forall_mem_cons]; go_simp)) (by first | (intro _ hs; cases hs; done) | (simp only [List.forall_mem_cons]; go_simp)) (by first | (intro _ hs; cases hs; done) | (simp only [List.forall_mem_cons]; go_simp)) L hL)) ?_
            repeat (first | (apply flow_free rfl; (intro L w' hun hrd hC; have hC := (HC.out _ _).1 hC; have hb' := hC.below; (try have hw' : Below w.heap.size w w' := by first | exact Below.trans (by (repeat (first | with_reducible exact Below.refl _ _ | with_reducible assumption | with_reducible refine Below.al ?_ _ | with_reducible refine Below.sc ?_ (by first | exact Nat.le_refl _ | (simp; done) | (simp; omega)) _ | assumption | exact Below.refl _ _ | refine Below.dr ?_ | refine Below.drN ?_ _ | refine Below.step ?_ (by assumption)))) hb' | ((repeat (first | with_reducible exact Below.refl _ _ | with_reducible assumption | with_reducible refine Below.al ?_ _ | with_reducible refine Below.sc ?_ (by first | exact Nat.le_refl _ | (simp; done) | (simp; omega)) _ | assumption | exact Below.refl _ _ | refine Below.dr ?_ | refine Below.drN ?_ _ | refine Below.step ?_ (by assumption))); done)); have hf' := hC.cell; (try simp only [List.forall_mem_cons] at hf'); go_simp; first | exact ⟨(HC.out _ _).2 (hC.skip _ (by rfl)), rfl⟩ | (rw [if_neg]; (exact ⟨(HC.out _ _).2 (hC.skip _ (by rfl)), rfl⟩); omega) | (go_at_call 131; refine (isValidLiteral_any m l _ _ _ _ (LitAt.below (hbV.trans (hb'.mono hbV.size)) HX.out) hszl).mono ?_; rintro e w1 ⟨rfl, hb1⟩; exact ⟨rfl, (HC.out _ _).2 ((hC.next (by first | (simp; done) | (simp; omega) | omega) hb1).skip _ (by rfl))⟩) | (go_at_call 132; refine (compareLiterals_any m l0 l _ _ _ _ _ _ _ (LitAt.below (hbV.trans (hb'.mono hbV.size)) HY.out) (LitAt.below (hbV.trans (hb'.mono hbV.size)) HX.out) hop hol).mono ?_; rintro e w1 ⟨rfl, hb1⟩; exact ⟨rfl, (HC.out _ _).2 ((hC.next (by first | (simp; done) | (simp; omega) | omega) hb1).skip _ (by rfl))⟩)); go_simp) | (apply flow_yes; (case hw => go_simp); (intro L w' hun hrd hC; have hC := (HC.out _ _).1 hC; have hb' := hC.below; (try have hw' : Below w.heap.size w w' := by first | exact Below.trans (by (repeat (first | with_reducible exact Below.refl _ _ | with_reducible assumption | with_reducible refine Below.al ?_ _ | with_reducible refine Below.sc ?_ (by first | exact Nat.le_refl _ | (simp; done) | (simp; omega)) _ | assumption | exact Below.refl _ _ | refine Below.dr ?_ | refine Below.drN ?_ _ | refine Below.step ?_ (by assumption)))) hb' | ((repeat (first | with_reducible exact Below.refl _ _ | with_reducible assumption | with_reducible refine Below.al ?_ _ | with_reducible refine Below.sc ?_ (by first | exact Nat.le_refl _ | (simp; done) | (simp; omega)) _ | assumption | exact Below.refl _ _ | refine Below.dr ?_ | refine Below.drN ?_ _ | refine Below.step ?_ (by assumption))); done)); have hf' := hC.cell; (try simp only [List.forall_mem_cons] at hf'); go_simp; first | exact ⟨(HC.out _ _).2 (hC.skip _ (by rfl)), rfl⟩ | (rw [if_neg]; (exact ⟨(HC.out _ _).2 (hC.skip _ (by rfl)), rfl⟩); omega) | (go_at_call 131; refine (isValidLiteral_any m l _ _ _ _ (LitAt.below (hbV.trans (hb'.mono hbV.size)) HX.out) hszl).mono ?_; rintro e w1 ⟨rfl, hb1⟩; exact ⟨rfl, (HC.out _ _).2 ((hC.next (by first | (simp; done) | (simp; omega) | omega) hb1).skip _ (by rfl))⟩) | (go_at_call 132; refine (compareLiterals_any m l0 l _ _ _ _ _ _ _ (LitAt.below (hbV.trans (hb'.mono hbV.size)) HY.out) (LitAt.below (hbV.trans (hb'.mono hbV.size)) HX.out) hop hol).mono ?_; rintro e w1 ⟨rfl, hb1⟩; exact ⟨rfl, (HC.out _ _).2 ((hC.next (by first | (simp; done) | (simp; omega) | omega) hb1).skip _ (by rfl))⟩)); go_simp) | (apply flow_no; (case hw => (go_simp; try (intro hh; cases hh))); (intro L w' _ _ hC; exact (HC.out _ _).2 (((HC.out _ _).1 hC).skip _ (by rfl))); go_simp))
            refine flow_nil ?_
            intro L wz hL hz
            have hz := (HC.out _ _).1 hz
            have hbz := hz.below
            have hcz := hz.cell
            try simp only [List.forall_mem_cons] at hcz
            have hdz := hz.done
            try simp only [List.forall_mem_cons] at hdz
            (try have hwz : Below w.heap.size w wz := by first | exact Below.trans (by (repeat (first | with_reducible exact Below.refl _ _ | with_reducible assumption | with_reducible refine Below.al ?_ _ | with_reducible refine Below.sc ?_ (by first | exact Nat.le_refl _ | (simp; done) | (simp; omega)) _ | assumption | exact Below.refl _ _ | refine Below.dr ?_ | refine Below.drN ?_ _ | refine Below.step ?_ (by assumption)))) hbz | ((repeat (first | with_reducible exact Below.refl _ _ | with_reducible assumption | with_reducible refine Below.al ?_ _ | with_reducible refine Below.sc ?_ (by first | exact Nat.le_refl _ | (simp; done) | (simp; omega)) _ | assumption | exact Below.refl _ _ | refine Below.dr ?_ | refine Below.drN ?_ _ | refine Below.step ?_ (by assumption))); done))
            go_wp2
            go_ret
            exact ⟨ret_bool HNO.out.symm, hwV.trans (hbz.mono hwV.size)⟩
    · obtain rfl : k = c.length := by omega
      go_wp2
      go_ret
      exact ⟨ret_bool (by rw [HG.out, HE.out, List.drop_length, Cls.okF, Bool.and_true, decide_eq_decide]; omega), hwr⟩
end Go.Proofs.YtcegllnljaapiaaGreatDoor
namespace Go.Proofs.YtcegllnljaapiaaGreatDoor
open Go.RowKit
theorem ListAt.cells {α : Type} {B : Nat → Prop} {w : World} {size : Nat} {R R' : α → List Value → Prop} {v : Value} {xs : List α} (hs : 0 < size) (h : ListAt B w size R v xs) (hR : ∀ x cs, x ∈ xs → R x cs → R' x cs) : ListAt (fun b => B b ∧ ∃ o, w.heap[b]? = some o ∧ o.isCells = true) w size R' v xs := by
  obtain ⟨p, c, h1, h2, h3⟩ := h
  refine ⟨p, c, h1, h2, fun i x hx => ?_⟩
  obtain ⟨b, o, hp, hB, cs, hl, hc, hr⟩ := h3 i x hx
  refine ⟨b, o, hp, ⟨hB, ?_⟩, cs, hl, hc, hR x cs (List.mem_of_getElem? hx) hr⟩
  have h0 := hc 0 hs
  rw [List.getElem?_eq_getElem (by omega)] at h0
  unfold World.cell? at h0
  split at h0
  · exact ⟨_, by assumption, rfl⟩
  all_goals simp at h0
theorem TmAt.cells {B : Nat → Prop} {w : World} : ∀ (n : Nat) (t : Tm) (cs : List Value), TmAt B n w t cs → TmAt (fun b => B b ∧ ∃ o, w.heap[b]? = some o ∧ o.isCells = true) n w t cs
  | 0, _, _, h => h.elim
  | n + 1, .mk s us, cs, h => by
    obtain ⟨va, h1, h2, h3⟩ := h
    exact ⟨va, h1, h2, h3.cells (by omega) (fun x cs _ hx => TmAt.cells n x cs hx)⟩
theorem FmAt.cells {B : Nat → Prop} {w : World} : ∀ (n : Nat) (t : Fm) (cs : List Value), FmAt B n w t cs → FmAt (fun b => B b ∧ ∃ o, w.heap[b]? = some o ∧ o.isCells = true) n w t cs
  | 0, _, _, h => h.elim
  | n + 1, .mk op a x ps, cs, h => by
    obtain ⟨vn, va, vp, h1, h2, h3, h4, h5⟩ := h
    exact ⟨vn, va, vp, h1, h2, h3, TmAt.cells n _ _ h4, h5.cells (by omega) (fun x cs _ hx => FmAt.cells n x cs hx)⟩
theorem FmAt.lies {B : Nat → Prop} {w : World} {n : Nat} {t : Fm} {cs : List Value} (h : FmAt B n w t cs) : FmAt (fun b => B b ∧ b < w.heap.size) n w t cs :=
  FmAt.mono (SameOn.refl _ _) (fun _ hb => ⟨hb.1, let ⟨_, h, _⟩ := hb.2; (Array.getElem?_eq_some_iff.1 h).1⟩) _ _ _ _ (Nat.le_refl _) (FmAt.cells _ _ _ h)
set_option maxRecDepth 100000 in
set_option maxHeartbeats 1600000 in
theorem formulaOfLiteral_any {B : Nat → Prop} (m : Nat) (l : Lit3) (v0 v1 v2 : Value) (w : World) (h : LitAt B m w l [v0, v1, v2]) (hw : l.a.wt ≤ 1048576) :
    Calls Tryz.prog 204 #[.agg #[v0, v1, v2]] w fun e w' => ∃ u0 u1 u2 u3 u4, e = .returned (.agg #[u0, u1, u2, u3, u4]) ∧ FmAt (fun b => w.heap.size ≤ b) (m + 2) w' l.fm [u0, u1, u2, u3, u4] ∧ Below w.heap.size w w' := by
  obtain ⟨p, c, rfl, rfl, rfl, ht⟩ := h.form
  have HT := Lib.hid ht
  have HW := Lib.hid hw
  have HL := Lib.hid (show l.fm = if l.pos then atomOfF l.a else opF 4 [atomOfF l.a] from rfl)
  clear h ht hw
  go_enter Tryz.func204, Tryz.ntmps204
  go_wp2_with fail
  obtain ⟨W, hW⟩ : ∃ W : World, W = (w.alloc (.cells #[.bool l.pos, .string l.a.n, .slice p l.a.us.length c] 169)).alloc (.cells #[.int .i64 0, .string ⟨#[]⟩, .slice none 0 0, .string ⟨#[]⟩, .slice none 0 0] 60) := ⟨_, rfl⟩
  have hsW : W.heap.size = w.heap.size + 2 := by rw [hW]; simp
  have hbW : Below w.heap.size w W := by rw [hW]; (repeat (first | with_reducible exact Below.refl _ _ | with_reducible assumption | with_reducible refine Below.al ?_ _ | with_reducible refine Below.sc ?_ (by first | exact Nat.le_refl _ | (simp; done) | (simp; omega)) _ | assumption | exact Below.refl _ _ | refine Below.dr ?_ | refine Below.drN ?_ _ | refine Below.step ?_ (by assumption)))
  have a0 : W.cell? ⟨w.heap.size, 0, none⟩ = some (.bool l.pos) := by rw [hW]; go_simp
  have a1 : W.cell? ⟨w.heap.size, 1, none⟩ = some (.string l.a.n) := by rw [hW]; go_simp
  have a2 : W.cell? ⟨w.heap.size, 2, none⟩ = some (.slice p l.a.us.length c) := by rw [hW]; go_simp
  have r0 : W.cell? ⟨w.heap.size + 1, 0, none⟩ = some (.int .i64 0) := by rw [hW]; go_simp
  have r1 : W.cell? ⟨w.heap.size + 1, 1, none⟩ = some (.string ⟨#[]⟩) := by rw [hW]; go_simp
  have r2 : W.cell? ⟨w.heap.size + 1, 2, none⟩ = some (.slice none 0 0) := by rw [hW]; go_simp
  have r3 : W.cell? ⟨w.heap.size + 1, 3, none⟩ = some (.string ⟨#[]⟩) := by rw [hW]; go_simp
  have r4 : W.cell? ⟨w.heap.size + 1, 4, none⟩ = some (.slice none 0 0) := by rw [hW]; go_simp
  have rf : ∀ j, W.frozen? ⟨w.heap.size + 1, j, none⟩ = false := fun j => by rw [hW]; go_simp
  rw [← hW]
  clear hW
  have zW := bsz (show w.heap.size < W.heap.size by omega)
  have zW1 := bsz (show w.heap.size + 1 < W.heap.size by omega)
  refine (copyTerm_any m l.a _ _ _ (HT.out.below (by (repeat (first | with_reducible exact Below.refl _ _ | with_reducible assumption | with_reducible refine Below.al ?_ _ | with_reducible refine Below.sc ?_ (by first | exact Nat.le_refl _ | (simp; done) | (simp; omega)) _ | assumption | exact Below.refl _ _ | refine Below.dr ?_ | refine Below.drN ?_ _ | refine Below.step ?_ (by assumption))))) HW.out).mono ?_
  rintro e w1 ⟨u0, u1, rfl, hu, hb1⟩
  have ⟨cw1, fw1⟩ := bcell hb1
  have qw1 := hb1.size
  obtain ⟨pu, cu, rfl, rfl, -, -⟩ := hu.form
  have HU := Lib.hid hu
  clear hu
  have hw1 : Below w.heap.size w w1 := by (repeat (first | with_reducible exact Below.refl _ _ | with_reducible assumption | with_reducible refine Below.al ?_ _ | with_reducible refine Below.sc ?_ (by first | exact Nat.le_refl _ | (simp; done) | (simp; omega)) _ | assumption | exact Below.refl _ _ | refine Below.dr ?_ | refine Below.drN ?_ _ | refine Below.step ?_ (by assumption)))
  go_wp2_with fail
  refine (atomOf_at m l.a _ _ _ HU.out).mono ?_
  rintro e w2 ⟨rfl, hf, hb2⟩
  have ⟨cw2, fw2⟩ := bcell hb2
  have qw2 := hb2.size
  (try simp at qw2)
  (try have zw2w := bsz (show w.heap.size < w2.heap.size by omega))
  have HF := Lib.hid (FmAt.lies hf)
  clear hf
  have z1 := bsz (show w.heap.size < w1.heap.size by omega)
  have z11 := bsz (show w.heap.size + 1 < w1.heap.size by omega)
  have z2 := bsz (show w.heap.size < w2.heap.size by omega)
  have z21 := bsz (show w.heap.size + 1 < w2.heap.size by omega)
  cases hp : l.pos
  · have HL2 := Lib.hid (show l.fm = opF 4 [atomOfF l.a] by rw [HL.out, hp]; rfl)
    clear HU HT HL
    go_wp2_with fail
    refine (not_at m (atomOfF l.a) _ _ _ _ _ _ (HF.out.below (by (repeat (first | with_reducible exact Below.refl _ _ | with_reducible assumption | with_reducible refine Below.al ?_ _ | with_reducible refine Below.sc ?_ (by first | exact Nat.le_refl _ | (simp; done) | (simp; omega)) _ | assumption | exact Below.refl _ _ | refine Below.dr ?_ | refine Below.drN ?_ _ | refine Below.step ?_ (by assumption)))))).mono ?_
    rintro e w3 ⟨x0, x1, x2, x3, x4, rfl, hx, hb3⟩
    have ⟨cw3, fw3⟩ := bcell hb3
    have qw3 := hb3.size
    (try simp at qw3)
    (try have zw3w := bsz (show w.heap.size < w3.heap.size by omega))
    have z3 := bsz (show w.heap.size < w3.heap.size by omega)
    have z31 := bsz (show w.heap.size + 1 < w3.heap.size by omega)
    have z32 := bsz (show w2.heap.size < w3.heap.size by omega)
    obtain ⟨px, cx, qx, dx, rfl, rfl, rfl, rfl, rfl, -⟩ := hx.form
    have HX := Lib.hid hx
    clear hx
    go_wp2
    refine bodyPost_ret (v := .agg #[.int .i64 (opF 4 [atomOfF l.a]).op, .string (opF 4 [atomOfF l.a]).a.n, .slice px (opF 4 [atomOfF l.a]).a.us.length cx, .string (opF 4 [atomOfF l.a]).v, .slice qx (opF 4 [atomOfF l.a]).ps.length dx]) (by simp only [results, Tryz.results204]; go_simp) rfl ⟨_, _, _, _, _, rfl, ?_, by (repeat (first | with_reducible exact Below.refl _ _ | with_reducible assumption | with_reducible refine Below.al ?_ _ | with_reducible refine Below.sc ?_ (by first | exact Nat.le_refl _ | (simp; done) | (simp; omega)) _ | assumption | exact Below.refl _ _ | refine Below.dr ?_ | refine Below.drN ?_ _ | refine Below.step ?_ (by assumption)))⟩
    rw [HL2.out]
    exact FmAt.mono (by ((repeat' (first | with_reducible exact SameOn.refl _ _ | with_reducible refine SameOn.sc ?_ ?_ _ | with_reducible refine SameOn.al ?_ ?_ _ | with_reducible refine SameOn.be ?_ ?_ (by with_reducible assumption))) <;> (first | (intro b hb; simp at hb ⊢; omega) | exact Nat.le_refl _ | (simp; done) | (simp; omega) | omega))) (fun b hb => by (try simp at hb); omega) _ _ _ _ (Nat.le_refl _) HX.out
  · have HL2 := Lib.hid (show l.fm = atomOfF l.a by rw [HL.out, hp]; rfl)
    clear HU HT HL
    go_wp2
    refine bodyPost_ret (v := .agg #[.int .i64 3, .string l.a.n, .slice pu l.a.us.length cu, .string ⟨#[]⟩, .slice none 0 0]) (by simp only [results, Tryz.results204]; go_simp) rfl ⟨_, _, _, _, _, rfl, ?_, by (repeat (first | with_reducible exact Below.refl _ _ | with_reducible assumption | with_reducible refine Below.al ?_ _ | with_reducible refine Below.sc ?_ (by first | exact Nat.le_refl _ | (simp; done) | (simp; omega)) _ | assumption | exact Below.refl _ _ | refine Below.dr ?_ | refine Below.drN ?_ _ | refine Below.step ?_ (by assumption)))⟩
    rw [HL2.out]
    exact FmAt.mono (by ((repeat' (first | with_reducible exact SameOn.refl _ _ | with_reducible refine SameOn.sc ?_ ?_ _ | with_reducible refine SameOn.al ?_ ?_ _ | with_reducible refine SameOn.be ?_ ?_ (by with_reducible assumption))) <;> (first | (intro b hb; simp at hb ⊢; omega) | exact Nat.le_refl _ | (simp; done) | (simp; omega) | omega))) (fun b hb => by (try simp at hb); omega) _ _ _ _ (by omega) HF.out
end Go.Proofs.YtcegllnljaapiaaGreatDoor
namespace Go.Proofs.YtcegllnljaapiaaGreatDoor
open Go.RowKit Go.Shelf
attribute [local go_sem] Oper.semAt_some
def disF (f : Fm) (ls : List Lit3) : Fm := ls.foldl (fun f l => opF 6 [l.fm, f]) f
theorem disF_snoc (f : Fm) (ls : List Lit3) (l : Lit3) : disF f (ls ++ [l]) = opF 6 [l.fm, disF f ls] := by simp [disF]
/-- The formula of literals. -/
def disj (c : List Lit3) : Fm := match c.reverse with | [] => opF 2 [] | l :: ls => disF l.fm ls
theorem disj_of {c : List Lit3} (h : 0 < c.length) : disj c = disF (c[c.length - 1]'(by omega)).fm (c.take (c.length - 1)).reverse := by
  obtain ⟨ls, l, rfl⟩ : ∃ ls l, c = ls ++ [l] := ⟨c.dropLast, c.getLast (List.ne_nil_of_length_pos h), (List.dropLast_concat_getLast _).symm⟩
  simp [disj]
theorem FmAt.turned {B : Nat → Prop} {X Y : World} {row : Option Nat} {n : Nat} {t : Fm} {cs : List Value} (h : FmAt B n X t cs) (hg : X.grownBy Y row) (hr : ∀ r, row = some r → ∃ o : Obj, X.heap[r]? = some o ∧ o.isCells = false) : FmAt B n Y t cs :=
  FmAt.mono (fun b hb hl => hg.block b hl (fun e => by obtain ⟨o, ho, hc⟩ := hr b e.symm; obtain ⟨o', ho', hc'⟩ := hb.2; rw [ho] at ho'; cases ho'; rw [hc] at hc'; cases hc')) (fun _ hb => hb.1) _ _ _ _ (Nat.le_refl _) (FmAt.cells _ _ _ h)
/-! ### What comes of the range -/
abbrev BackX (B : Nat → Prop) (m : Nat) (w : World) := { x : Lit3 × Int × Value × Value × Value // LitAt B m w x.1 [x.2.2.1, x.2.2.2.1, x.2.2.2.2] ∧ x.1.a.wt ≤ 1048576 }
theorem backs {B : Nat → Prop} {m : Nat} {w : World} {p : Option Addr} {c : Nat} {xs : List Lit3} (h : ListAt B w 3 (LitAt B m w) (.slice p xs.length c) xs) (hw : ∀ l ∈ xs, l.a.wt ≤ 1048576) : ∀ n, n ≤ xs.length →
    ∃ zs : List (BackX B m w), zs.length = n ∧ zs.map (·.1.1) = xs.take n ∧ (∀ k (h : k < zs.length), zs[k].1.2.1 = k) ∧ ∀ k (h : k < zs.length), ∃ b o, p = some ⟨b, o, none⟩ ∧ b < w.heap.size ∧ w.cell? ⟨b, o + k * 3, none⟩ = some zs[k].1.2.2.1 ∧ w.cell? ⟨b, o + k * 3 + 1, none⟩ = some zs[k].1.2.2.2.1 ∧ w.cell? ⟨b, o + k * 3 + 2, none⟩ = some zs[k].1.2.2.2.2
  | 0, _ => ⟨[], rfl, by simp, by simp, by simp⟩
  | n + 1, hn => by
    obtain ⟨zs, h1, h2, h3, h4⟩ := backs h hw n (by omega)
    obtain ⟨b, o, hp, -, x0, x1, x2, hx0, hx1, hx2, hx⟩ := h.at3 (show n < xs.length by omega)
    obtain ⟨e, he⟩ : ∃ e : BackX B m w, e.1 = (xs[n], (n : Int), x0, x1, x2) := ⟨⟨(xs[n], (n : Int), x0, x1, x2), hx, hw _ (List.getElem_mem _)⟩, rfl⟩
    refine ⟨zs ++ [e], by rw [List.length_append, h1]; rfl, by rw [List.map_append, h2, List.map_cons, he, List.map_nil, List.take_append_getElem], fun k hk => ?_, fun k hk => ?_⟩
    · by_cases hkn : k < zs.length
      · rw [List.getElem_append_left hkn]; exact h3 k hkn
      · rw [List.length_append] at hk
        simp only [List.length_cons, List.length_nil] at hk
        obtain rfl : k = n := by omega
        rw [List.getElem_append_right (by omega)]
        simp [h1, he]
    · by_cases hkn : k < zs.length
      · rw [List.getElem_append_left hkn]; exact h4 k hkn
      · rw [List.length_append] at hk
        simp only [List.length_cons, List.length_nil] at hk
        obtain rfl : k = n := by omega
        rw [List.getElem_append_right (by omega)]
        exact ⟨b, o, hp, World.block_lt_of_cell? _ _ hx0, by simpa [h1, he] using hx0, by simpa [h1, he] using hx1, by simpa [h1, he] using hx2⟩
set_option maxRecDepth 100000 in
set_option maxHeartbeats 4000000 in
theorem disjunction_any {B : Nat → Prop} (m : Nat) (c : List Lit3) (v : Value) (w : World) (h : ListAt B w 3 (LitAt B m w) v c) (hn : c.length ≤ 8) (hcap : ∀ p d, v = .slice p c.length d → c.length ≤ d) (hw : ∀ l ∈ c, l.a.wt ≤ 1048576) :
    Calls Tryz.prog 139 #[v] w fun e w' => ∃ u0 u1 u2 u3 u4, e = .returned (.agg #[u0, u1, u2, u3, u4]) ∧ FmAt (fun b => w.heap.size ≤ b) (m + 2 + c.length) w' (disj c) [u0, u1, u2, u3, u4] ∧ Below w.heap.size w w' := by
  obtain ⟨p, d, rfl, -⟩ := h.form
  have hcd := hcap _ _ rfl
  clear hcap
  have H := Lib.hid h
  have HW := Lib.hid hw
  by_cases hc0 : c.length = 0
  · obtain rfl : c = [] := List.eq_nil_of_length_eq_zero hc0
    clear h hw
    go_enter Tryz.func139, Tryz.ntmps139
    go_wp2
    refine bodyPost_ret (v := .agg #[.int .i64 2, .string ⟨#[]⟩, .slice none 0 0, .string ⟨#[]⟩, .slice none 0 0]) (by simp only [results, Tryz.results139]; go_simp) rfl ⟨_, _, _, _, _, rfl, ?_, by (repeat (first | with_reducible exact Below.refl _ _ | with_reducible assumption | with_reducible refine Below.al ?_ _ | with_reducible refine Below.sc ?_ (by first | exact Nat.le_refl _ | (simp; done) | (simp; omega)) _ | assumption | exact Below.refl _ _ | refine Below.dr ?_ | refine Below.drN ?_ _ | refine Below.step ?_ (by assumption)))⟩
    exact opF_at (by omega) (ListAt.nil _ _ _ _ _ _)
  have hlast : c.length - 1 < c.length := by omega
  obtain ⟨b, o, rfl, hB, x0, x1, x2, hx0, hx1, hx2, hx⟩ := h.at3 hlast
  have hwt := hw _ (List.getElem_mem hlast)
  obtain ⟨zs, hz1, hz2, hz3, hz4⟩ := backs h hw (c.length - 1) (by omega)
  have HD := Lib.hid (disj_of (by omega : 0 < c.length))
  obtain ⟨a, ha⟩ : ∃ a, c[c.length - 1] = a := ⟨_, rfl⟩
  rw [ha] at hx hwt
  rw [ha] at HD
  have HX := Lib.hid hx
  have HZ2 := Lib.hid hz2
  have HZ3 := Lib.hid hz3
  have HZ4 := Lib.hid hz4
  clear h hw ha hx hz2 hz3 hz4
  have hci : ((c.length : Int) == 0) = false := by rw [beq_eq_false_iff_ne]; omega
  have hci1 : IntKind.i64.wrap ((c.length : Int) - 1) = ((c.length - 1 : Nat) : Int) := by rw [IntWalk.i64_in _ (by omega)]; omega
  refine (callsIn_wide (n := 6)).1 ?_
  refine callsIn_of_wp_marks Tryz.func139 rfl trivial ?_ rfl
  simp only [Tryz.ntmps139, List.size_toArray, List.length_cons, List.length_nil, Nat.reduceAdd, Nat.reduceSub, Array.replicate_succ, Array.replicate_zero, List.push_toArray, List.append_toArray, List.nil_append, List.cons_append]
  have zb := bsz (World.block_lt_of_cell? _ _ hx0)
  have R0 : BoxN (w.alloc (.cells #[.int .i64 0, .string ⟨#[]⟩, .slice none 0 0, .string ⟨#[]⟩, .slice none 0 0] 60)) w.heap.size 60 #[.int .i64 0, .string ⟨#[]⟩, .slice none 0 0, .string ⟨#[]⟩, .slice none 0 0] := heap_alloc_new w _
  gi_wp2_with (first | (refine ⟨trivial, ?_⟩; gi_at_call 204; refine (callsIn_wide.2 (formulaOfLiteral_any m a _ _ _ _ (HX.out.below (by (repeat (first | with_reducible exact Below.refl _ _ | with_reducible assumption | with_reducible refine Below.al ?_ _ | with_reducible refine Below.sc ?_ (by first | exact Nat.le_refl _ | (simp; done) | (simp; omega)) _ | assumption | exact Below.refl _ _ | refine Below.dr ?_ | refine Below.drN ?_ _ | refine Below.step ?_ (by assumption))))) hwt)).mono ?_; rintro e w1 ⟨u0, u1, u2, u3, u4, rfl, hu, hb1⟩; obtain ⟨pu, cu, qu, du, rfl, rfl, rfl, rfl, rfl, -⟩ := hu.form; have HU := Lib.hid hu; clear hu; have hq1 := hb1.size; simp at hq1) | (refine ⟨trivial, ?_⟩; gi_at_call 205; refine (back_in Fence.wide _ trivial rfl _ _ _ _).mono ?_; rintro e w2 ⟨rfl, rfl⟩))
  have hu2 := FmAt.lies HU.out
  obtain ⟨y0, hy0⟩ : ∃ y, y = Value.int IntKind.i64 a.fm.op := ⟨_, rfl⟩
  obtain ⟨y1, hy1⟩ : ∃ y, y = Value.string a.fm.a.n := ⟨_, rfl⟩
  obtain ⟨y2, hy2⟩ : ∃ y, y = Value.slice pu a.fm.a.us.length cu := ⟨_, rfl⟩
  obtain ⟨y3, hy3⟩ : ∃ y, y = Value.string a.fm.v := ⟨_, rfl⟩
  obtain ⟨y4, hy4⟩ : ∃ y, y = Value.slice qu a.fm.ps.length du := ⟨_, rfl⟩
  rw [← hy0, ← hy1, ← hy2, ← hy3, ← hy4] at hu2 ⊢
  clear hy0 hy1 hy2 hy3 hy4 HU
  obtain ⟨W0, hW0⟩ : ∃ W0 : World, W0 = (w1.alloc (.cells #[y0, y1, y2, y3, y4] 60)).alloc (.cells #[.slice (some ⟨b, o, none⟩) (c.length - 1) d] 47) := ⟨_, rfl⟩
  have bF : BoxN W0 w1.heap.size 60 #[y0, y1, y2, y3, y4] := by rw [hW0]; exact BoxN.al (heap_alloc_new w1 _) _
  have bS : BoxN W0 (w1.heap.size + 1) 47 #[.slice (some ⟨b, o, none⟩) (c.length - 1) d] := by rw [hW0]; exact alloc_new_at (by simp)
  have bR : BoxN W0 w.heap.size 60 #[.int .i64 0, .string ⟨#[]⟩, .slice none 0 0, .string ⟨#[]⟩, .slice none 0 0] := by rw [hW0]; exact (R0.below hb1 (by simp)).al _ |>.al _
  have hB0 : Below w.heap.size w W0 := by rw [hW0]; (repeat (first | with_reducible exact Below.refl _ _ | with_reducible assumption | with_reducible refine Below.al ?_ _ | with_reducible refine Below.sc ?_ (by first | exact Nat.le_refl _ | (simp; done) | (simp; omega)) _ | assumption | exact Below.refl _ _ | refine Below.dr ?_ | refine Below.drN ?_ _ | refine Below.step ?_ (by assumption)))
  have hs0 : W0.heap.size = w1.heap.size + 2 := by rw [hW0]; simp
  have hB1 : Below w1.heap.size w1 W0 := by rw [hW0]; (repeat (first | with_reducible exact Below.refl _ _ | with_reducible assumption | with_reducible refine Below.al ?_ _ | with_reducible refine Below.sc ?_ (by first | exact Nat.le_refl _ | (simp; done) | (simp; omega)) _ | assumption | exact Below.refl _ _ | refine Below.dr ?_ | refine Below.drN ?_ _ | refine Below.step ?_ (by assumption)))
  have hF0 : FmAt (fun b => w.heap.size < b ∧ b ≠ w1.heap.size) (m + 2) W0 a.fm [y0, y1, y2, y3, y4] := FmAt.mono (SameOn.below hB1) (fun b hb => by simp at hb; omega) _ _ _ _ (Nat.le_refl _) hu2
  rw [← hW0]
  clear hW0 hu2 hB1 R0 hb1
  have bS' : W0.cell? ⟨w1.heap.size + 1, 0, none⟩ = some (.slice (some ⟨b, o, none⟩) zs.length d) := by rw [hz1]; exact bS.cell 0
  have hbl : ∀ k (h : k < zs.length), ∃ b' o', some (⟨b, o, none⟩ : Addr) = some ⟨b', o', none⟩ ∧ b' < w.heap.size ∧ W0.cell? ⟨b', o' + k * 3, none⟩ = some zs[k].1.2.2.1 ∧ W0.cell? ⟨b', o' + k * 3 + 1, none⟩ = some zs[k].1.2.2.2.1 ∧ W0.cell? ⟨b', o' + k * 3 + 2, none⟩ = some zs[k].1.2.2.2.2 := fun k h => by
    obtain ⟨b', o', e, h1, h2, h3, h4⟩ := HZ4.out k h
    exact ⟨b', o', e, h1, (hB0.cell (p := ⟨b', _, none⟩) h1).trans h2, (hB0.cell (p := ⟨b', _, none⟩) h1).trans h3, (hB0.cell (p := ⟨b', _, none⟩) h1).trans h4⟩
  refine wpIn_rangeFunc_ownH (F := Fence.wide) (n := 6) rfl (by omega) (gf := 270) (lb := #[.pointer (some ⟨w1.heap.size + 1, 0, none⟩)]) rfl trivial (enters_of Tryz.func270 (by kernel_rfl) rfl)
    (back_stops (fun x : BackX B m w => x.1.2.1) (fun x => x.1.2.2.1) (fun x => x.1.2.2.2.1) (fun x => x.1.2.2.2.2) Fence.wide 5 trivial rfl (by omega) (w1.heap.size + 1) w.heap.size (some ⟨b, o, none⟩) d zs (by omega) HZ3.out W0 (by omega) bS' hbl)
    (fun h k => h.trans k)
    (fun W l o o' hl h h1 h2 => ⟨belowK_b (w := W0) (by omega) W l o o' hl h h1 h2, fun hlt => World.putObj_heap_other (fun e => by omega)⟩)
    (Below.refl _ _) (fun _ => rfl)
    (fun pre W => ((∃ u0 u1 u2 u3 u4, BoxN W w1.heap.size 60 #[u0, u1, u2, u3, u4] ∧ FmAt (fun b => w.heap.size < b ∧ b ≠ w1.heap.size) (m + 2 + pre.length) W (disF a.fm (pre.map (·.1.1))) [u0, u1, u2, u3, u4]) ∧
      BoxN W w.heap.size 60 #[.int .i64 0, .string ⟨#[]⟩, .slice none 0 0, .string ⟨#[]⟩, .slice none 0 0]) ∧ (Below w.heap.size w W ∧ W0.heap.size ≤ W.heap.size))
    (fun _ _ _ => False)
    (OwnFrom.and (OwnFrom.and (fun s X Y row hs hg hr => by
      obtain ⟨u0, u1, u2, u3, u4, h1, h2⟩ := hs
      exact ⟨u0, u1, u2, u3, u4, boxN_own w1.heap.size 60 (fun (_ : Unit) => #[u0, u1, u2, u3, u4]) () X Y row h1 hg (fun r e => (hr r e).2), h2.turned hg (fun r e => (hr r e).2)⟩) (Own.from (boxN_own _ _ _) _)) (OwnFrom.and (ownFrom_below (Nat.le_refl _) (by omega)) (fun s X Y row hs hg hr => Nat.le_trans hs hg.size)))
    (fun _ _ _ _ _ hs _ _ => hs)
    ⟨⟨⟨_, _, _, _, _, bF, hF0⟩, bR⟩, hB0, Nat.le_refl _⟩
    (fun x a' W => ∃ Bx, w1.heap.size + 1 < Bx ∧ BoxN W Bx 169 #[x.1.2.2.1, x.1.2.2.2.1, x.1.2.2.2.2] ∧ a' = { tmps := #[Value.slice (some ⟨b, o, none⟩) c.length d, undef, Value.pointer (some ⟨w.heap.size, 0, none⟩), Value.pointer (some ⟨w1.heap.size, 0, none⟩), undef, Value.pointer (some ⟨Bx, 0, none⟩), Value.slice (some ⟨b, o, none⟩) c.length d, Value.int IntKind.i64 c.length, Value.bool false, undef, Value.slice (some ⟨b, o, none⟩) c.length d, Value.slice (some ⟨b, o, none⟩) c.length d, Value.int IntKind.i64 c.length, Value.int IntKind.i64 (c.length - 1 : Nat), Value.pointer (some ⟨b, o + (c.length - 1) * 3, none⟩), Value.agg #[x0, x1, x2], Value.agg #[y0, y1, y2, y3, y4], Value.slice (some ⟨b, o, none⟩) c.length d, Value.slice (some ⟨b, o, none⟩) c.length d, Value.int IntKind.i64 c.length, Value.int IntKind.i64 (c.length - 1 : Nat), Value.slice (some ⟨b, o, none⟩) (c.length - 1) d, Value.func (Fn.func 270) #[] #[Value.pointer (some ⟨w1.heap.size + 1, 0, none⟩)], Value.int .i64 x.1.2.1, Value.agg #[x.1.2.2.1, x.1.2.2.2.1, x.1.2.2.2.2], undef, undef, undef, undef, undef], defers := [] })
    (fun x a' _ X Y row hs hg hr => by
      obtain ⟨Bx, h1, h2, h3⟩ := hs
      exact ⟨Bx, h1, boxN_own Bx 169 (fun (_ : Unit) => #[x.1.2.2.1, x.1.2.2.2.1, x.1.2.2.2.2]) () X Y row h2 hg (fun r e => (hr r e).2), h3⟩)
    ?assign ?body ?done ?stop
  case assign =>
    rintro l pre ⟨⟨li, idx, v0, v1, v2⟩, hxl, hxw⟩ W K ⟨⟨⟨u0, u1, u2, u3, u4, h1, h2⟩, h3⟩, ⟨hBW, hsz⟩⟩ hK
    have hxl' : LitAt B m w li [v0, v1, v2] := hxl
    obtain ⟨px, cx, rfl, rfl, rfl, -⟩ := hxl'.form
    gi_wp2
    exact hK _ _ ((KeepsOthers.alloc _ _).from _) ⟨(Below.refl _ W).alloc hBW.size _, fun hl => Below.heap_alloc W _ _ hl⟩
      ⟨⟨⟨_, _, _, _, _, h1.al _, FmAt.below ((Below.refl _ W).alloc (Nat.le_refl _) _) h2⟩, h3.al _⟩, hBW.alloc hBW.size _, by simp; omega⟩ ⟨W.heap.size, by omega, heap_alloc_new W _, rfl⟩
  case body =>
    rintro l pre ⟨⟨li, idx, v0, v1, v2⟩, hxl, hxw⟩ a' W hl - ⟨⟨⟨u0, u1, u2, u3, u4, bF1, hf⟩, bR1⟩, ⟨hBW, hsz⟩⟩ ⟨Bx, hBx, bX, rfl⟩ hlt
    have hxl' : LitAt B m w li [v0, v1, v2] := hxl
    obtain ⟨px, cx, rfl, rfl, rfl, -⟩ := hxl'.form
    obtain ⟨pf, cf, qf, df, rfl, rfl, rfl, rfl, rfl, -⟩ := hf.form
    simp only at bX
    have hpl : pre.length < 8 := by omega
    have HLIT := Lib.hid (LitAt.below hBW hxl')
    have HF1 := Lib.hid (FmAt.lies hf)
    have hxw' : li.a.wt ≤ 1048576 := hxw
    clear hxl' hf
    have k0 := bX.cell 0
    have k1 := bX.cell 1
    have k2 := bX.cell 2
    have f0 := bF1.cell 0
    have f1 := bF1.cell 1
    have f2 := bF1.cell 2
    have f3 := bF1.cell 3
    have f4 := bF1.cell 4
    have zX := bsz bX.lt
    have zF := bsz bF1.lt
    simp only [List.getElem?_toArray, List.getElem?_cons_zero, List.getElem?_cons_succ] at k0 k1 k2 f0 f1 f2 f3 f4
    have h1' : 1 ≤ 6 - 1 - 1 := by omega
    have hmx : Tryz.prog.follows .mixedOrders = true := by kernel_rfl
    gi_wp2
    gi_region_with_o (refine ⟨trivial, ?_⟩; (first | (gi_at_call 204; refine (CallsIn.inRound l (callsIn_wide.2 (formulaOfLiteral_any m li _ _ _ _ (HLIT.out.below (by (repeat (first | with_reducible exact Below.refl _ _ | with_reducible assumption | with_reducible refine Below.al ?_ _ | with_reducible refine Below.sc ?_ (by first | exact Nat.le_refl _ | (simp; done) | (simp; omega)) _ | assumption | exact Below.refl _ _ | refine Below.dr ?_ | refine Below.drN ?_ _ | refine Below.step ?_ (by assumption))))) hxw'))).mono ?_; rintro e w2 ⟨y0, y1, y2, y3, y4, rfl, hy, hb2⟩; obtain ⟨py, cy, qy, dy, rfl, rfl, rfl, rfl, rfl, -⟩ := hy.form; have HY := Lib.hid (FmAt.lies hy); clear hy; have hb2' : Below W.heap.size W w2 := (by (repeat (first | with_reducible exact Below.refl _ _ | with_reducible assumption | with_reducible refine Below.al ?_ _ | with_reducible refine Below.sc ?_ (by first | exact Nat.le_refl _ | (simp; done) | (simp; omega)) _ | assumption | exact Below.refl _ _ | refine Below.dr ?_ | refine Below.drN ?_ _ | refine Below.step ?_ (by assumption)))); have bF2 := bF1.below hb2' bF1.lt; have f20 := bF2.cell 0; have f21 := bF2.cell 1; have f22 := bF2.cell 2; have f23 := bF2.cell 3; have f24 := bF2.cell 4) | (gi_at_call 206; refine (CallsIn.inRound l (callsIn_wide.2 (binary_at (m + 1 + pre.length) 6 (by omega) li.fm (disF a.fm (pre.map (·.1.1))) _ _ _ _ _ _ _ _ _ _ _ (FmAt.mono (B' := fun b => b ≠ w1.heap.size ∧ w.heap.size < b) (SameOn.below (by (repeat (first | with_reducible exact Below.refl _ _ | with_reducible assumption | with_reducible refine Below.al ?_ _ | with_reducible refine Below.sc ?_ (by first | exact Nat.le_refl _ | (simp; done) | (simp; omega)) _ | assumption | exact Below.refl _ _ | refine Below.dr ?_ | refine Below.drN ?_ _ | refine Below.step ?_ (by assumption))))) (fun b hb => by (try simp at hb ⊢); omega) _ _ _ _ (by omega) HY.out) (FmAt.mono (SameOn.below (by (repeat (first | with_reducible exact Below.refl _ _ | with_reducible assumption | with_reducible refine Below.al ?_ _ | with_reducible refine Below.sc ?_ (by first | exact Nat.le_refl _ | (simp; done) | (simp; omega)) _ | assumption | exact Below.refl _ _ | refine Below.dr ?_ | refine Below.drN ?_ _ | refine Below.step ?_ (by assumption))))) (fun b hb => by (try simp at hb ⊢); omega) _ _ _ _ (by omega) HF1.out)))).mono ?_; rintro e w3 ⟨z0, z1, z2, z3, z4, rfl, hz, hb3⟩; obtain ⟨pz, cz, qz, dz, rfl, rfl, rfl, rfl, rfl, -⟩ := hz.form; have HZ := Lib.hid (FmAt.lies hz); clear hz; have hb3' : Below w2.heap.size w2 w3 := (by (repeat (first | with_reducible exact Below.refl _ _ | with_reducible assumption | with_reducible refine Below.al ?_ _ | with_reducible refine Below.sc ?_ (by first | exact Nat.le_refl _ | (simp; done) | (simp; omega)) _ | assumption | exact Below.refl _ _ | refine Below.dr ?_ | refine Below.drN ?_ _ | refine Below.step ?_ (by assumption)))); have bF3 := bF2.below hb3' bF2.lt; have f30 := bF3.cell 0; have f31 := bF3.cell 1; have f32 := bF3.cell 2; have f33 := bF3.cell 3; have f34 := bF3.cell 4; have f3f := fun j => bF3.frozen j)))
    all_goals gi_wp2
    all_goals
      have hb4 : Below W.heap.size W w3 := hb2'.trans (hb3'.mono hb2'.size)
      have hq4 := hb4.size
      have hq2 := hb2'.size
      have hlF := bF1.lt
      have hlR := bR1.lt
      refine ⟨(keepsFrom_below hb4).trans ((set5_keeps w3 w1.heap.size _ _ _ _ _).from _), ⟨(hb4.mono hBW.size).trans (set5_below w3 _ _ _ _ _ (by omega)), fun hl => (set5_other w3 _ _ _ _ _ (by omega)).trans (hb4.block _ hl)⟩,
        ⟨⟨_, _, _, _, _, bF3.set5 _ _ _ _ _, ?_⟩, (set5_other w3 _ _ _ _ _ (by omega)).trans ((hb4.block _ hlR).trans bR1)⟩, (hBW.trans (hb4.mono hBW.size)).trans (set5_below w3 _ _ _ _ _ (by omega)), Nat.le_trans hsz (Nat.le_trans hq4 (set5_keeps w3 w1.heap.size _ _ _ _ _).size)⟩
      rw [List.map_append, List.map_cons, List.map_nil, disF_snoc]
      exact FmAt.mono (fun b hb _ => set5_other w3 _ _ _ _ _ (by simp at hb; omega)) (fun b hb => by simp at hb ⊢; omega) _ _ _ _ (by simp; omega) HZ.out
  case done =>
    rintro D ys W hD rfl ⟨⟨⟨u0, u1, u2, u3, u4, bF1, hf⟩, bR1⟩, ⟨hBW, hsz⟩⟩ hK
    obtain ⟨pf, cf, qf, df, rfl, rfl, rfl, rfl, rfl, -⟩ := hf.form
    have f0 := bF1.cell 0
    have f1 := bF1.cell 1
    have f2 := bF1.cell 2
    have f3 := bF1.cell 3
    have f4 := bF1.cell 4
    have g0 := bR1.cell 0
    have g1 := bR1.cell 1
    have g2 := bR1.cell 2
    have g3 := bR1.cell 3
    have g4 := bR1.cell 4
    have gf := fun j => bR1.frozen j
    simp only [List.getElem?_toArray, List.getElem?_cons_zero, List.getElem?_cons_succ] at f0 f1 f2 f3 f4 g0 g1 g2 g3 g4
    gi_wp2
    have hK' := (set5_keeps W w.heap.size (Value.int IntKind.i64 (disF a.fm (List.map (fun x => x.1.1) zs).reverse).op) (Value.string (disF a.fm (List.map (fun x => x.1.1) zs).reverse).a.n) (Value.slice pf (disF a.fm (List.map (fun x => x.1.1) zs).reverse).a.us.length cf) (Value.string (disF a.fm (List.map (fun x => x.1.1) zs).reverse).v) (Value.slice qf (disF a.fm (List.map (fun x => x.1.1) zs).reverse).ps.length df)).same D _ hK rfl
    refine ⟨by simp, .inl ⟨_, _, rfl, run_takeDeferred hK', ?_⟩⟩
    have bR2 := bR1.set5 (Value.int IntKind.i64 (disF a.fm (List.map (fun x => x.1.1) zs).reverse).op) (Value.string (disF a.fm (List.map (fun x => x.1.1) zs).reverse).a.n) (Value.slice pf (disF a.fm (List.map (fun x => x.1.1) zs).reverse).a.us.length cf) (Value.string (disF a.fm (List.map (fun x => x.1.1) zs).reverse).v) (Value.slice qf (disF a.fm (List.map (fun x => x.1.1) zs).reverse).ps.length df)
    have hne : D ≠ w.heap.size := by omega
    have bR3 := bR2.kept (grownBy_putObj' _ D (.deferred none)) (fun e => hne (by cases e; rfl))
    have p0 := bR3.cell 0
    have p1 := bR3.cell 1
    have p2 := bR3.cell 2
    have p3 := bR3.cell 3
    have p4 := bR3.cell 4
    simp only [List.getElem?_toArray, List.getElem?_cons_zero, List.getElem?_cons_succ] at p0 p1 p2 p3 p4
    refine ⟨.agg #[Value.int IntKind.i64 (disF a.fm (List.map (fun x => x.1.1) zs).reverse).op, Value.string (disF a.fm (List.map (fun x => x.1.1) zs).reverse).a.n, Value.slice pf (disF a.fm (List.map (fun x => x.1.1) zs).reverse).a.us.length cf, Value.string (disF a.fm (List.map (fun x => x.1.1) zs).reverse).v, Value.slice qf (disF a.fm (List.map (fun x => x.1.1) zs).reverse).ps.length df], ?_, ⟨_, _, _, _, _, rfl, ?_, ?_⟩⟩
    · simp [results, Tryz.results139, go_sem, p0, p1, p2, p3, p4]
    · have e : disj c = disF a.fm (List.map (fun x => x.1.1) zs).reverse := by rw [HD.out, HZ2.out]
      rw [e]
      simp only [List.map_reverse, List.length_reverse] at hf
      have key := fun u0 u1 u2 u3 u4 => FmAt.mono (w' := set5W W w.heap.size u0 u1 u2 u3 u4) (B' := fun b => w.heap.size < b ∧ b ≠ w1.heap.size) (fun b hb _ => set5_other W u0 u1 u2 u3 u4 (by omega)) (fun b hb => hb) _ _ _ _ (Nat.le_refl _) hf
      exact FmAt.mono (SameOn.refl _ _) (fun b hb => by omega) _ _ _ _ (by omega) ((key _ _ _ _ _).turned (grownBy_putObj' _ D (.deferred none)) (fun r e => by cases e; exact ⟨_, hK', rfl⟩))
    · exact (hBW.trans (set5_below W _ _ _ _ _ (Nat.le_refl _))).trans (belowK_b (w := w) (Nat.le_refl _) _ D _ _ (by omega) hK' rfl rfl)
  case stop =>
    rintro D c pre W _ _ h _
    exact h.elim
end Go.Proofs.YtcegllnljaapiaaGreatDoor
namespace Go.Proofs.YtcegllnljaapiaaGreatDoor
open Go.RowKit
mutual
def Fm.wt : Fm → Nat | .mk _ a v us => a.wt + v.size + us.length + Fm.wts us
def Fm.wts : List Fm → Nat | [] => 0 | a :: us => a.wt + Fm.wts us
end
end Go.Proofs.YtcegllnljaapiaaGreatDoor
namespace Go.Proofs.YtcegllnljaapiaaGreatDoor
open Go.RowKit
theorem FmAt.parts {B : Nat → Prop} {w : World} : ∀ {n : Nat} {t : Fm} {v0 v1 v2 v3 v4 : Value}, FmAt B n w t [v0, v1, v2, v3, v4] → ListAt B w 5 (FmAt B n w) v4 t.ps
  | 0, _, _, _, _, _, _, h => h.elim
  | n + 1, .mk op a x ps, v0, v1, v2, v3, v4, h => by
    obtain ⟨vn, va, vp, h1, h2, h3, h4, h5⟩ := h
    simp only [List.cons.injEq, and_true] at h1
    obtain ⟨rfl, rfl, rfl, rfl, rfl⟩ := h1
    exact h5.mono (SameOn.refl _ _) (fun _ h => h) (fun x cs _ hx => FmAt.mono (SameOn.refl _ _) (fun _ h => h) n (n + 1) x cs (by omega) hx)
theorem FmAt.atm {B : Nat → Prop} {w : World} : ∀ {n : Nat} {t : Fm} {v0 v1 v2 v3 v4 : Value}, FmAt B n w t [v0, v1, v2, v3, v4] → TmAt B n w t.a [v1, v2]
  | 0, _, _, _, _, _, _, h => h.elim
  | n + 1, .mk op a x ps, v0, v1, v2, v3, v4, h => by
    obtain ⟨vn, va, vp, h1, h2, h3, h4, h5⟩ := h
    simp only [List.cons.injEq, and_true] at h1
    obtain ⟨rfl, rfl, rfl, rfl, rfl⟩ := h1
    exact TmAt.mono (SameOn.refl _ _) (fun _ h => h) n (n + 1) a _ (by omega) h4
end Go.Proofs.YtcegllnljaapiaaGreatDoor
