/- The reference's reader: what its smallest steps answer. Conditions: it stands inside its text. -/
import Derived.Test.YtkgfanajgdelcaaGreatDoorUnPart1
import Derived.Test.YtkgfanajgdelcaaGreatDoorUnPart2
namespace Go.Proofs.YtkgfanajgdelcaaGreatDoor
open Go.RowKit
theorem isValidTerm_any {B : Nat → Prop} (m : Nat) (t : Tm) (v0 v1 : Value) (w : World) (h : TmAt B m w t [v0, v1]) (hz : t.sz ≤ 100000000) :
      Calls Tryz.prog 200 #[.agg #[v0, v1]] w fun e w' => e = .returned (.bool t.good) ∧ Below w.heap.size w w' := by
  obtain ⟨p, c, rfl, rfl, -, -⟩ := h.form
  have H := Lib.hid h
  have HT := Lib.hid (show t.good = (t.small && t.nodes) from rfl)
  clear h
  cases h1 : t.small
  all_goals
    have H1 := Lib.hid h1
    go_enter Tryz.func200, Tryz.ntmps200
    go_wp2_with (first | (go_at_call 198; refine (isSmall_any m t _ _ _ (H.out.below (by (repeat (first | with_reducible (first | exact bR _ _ | assumption | refine bA ?_ _ | refine bS ?_ (by first | exact Nat.le_refl _ | (simp; done) | (simp; omega)) _) | assumption | exact bR _ _ | refine bD ?_ | refine bN ?_ _ | refine bT ?_ (by assumption))))) hz).mono ?_; rintro e w1 ⟨rfl, hb1⟩; have ⟨cw1, fw1⟩ := bcell hb1; have qw1 := hb1.size; (try simp at qw1); (try have zw1w := bsz (show w.heap.size < w1.heap.size by omega))) | (go_at_call 199; refine (hasNames_any m t _ _ _ (H.out.below (by (repeat (first | with_reducible (first | exact bR _ _ | assumption | refine bA ?_ _ | refine bS ?_ (by first | exact Nat.le_refl _ | (simp; done) | (simp; omega)) _) | assumption | exact bR _ _ | refine bD ?_ | refine bN ?_ _ | refine bT ?_ (by assumption)))))).mono ?_; rintro e w2 ⟨rfl, hb2⟩; have ⟨cw2, fw2⟩ := bcell hb2; have qw2 := hb2.size; (try simp at qw2); (try have zw2w := bsz (show w.heap.size < w2.heap.size by omega)); (try have zw2w1 := bsz (show w1.heap.size < w2.heap.size by omega))))
    go_ret
    exact ⟨ret_bool (by rw [HT.out, H1.out]; rfl), by exact bel⟩
theorem l2Good_any {B : Nat → Prop} (m : Nat) (t : Tm) (v0 v1 : Value) (w : World) (h : TmAt B m w t [v0, v1]) (hz : t.sz ≤ 100000000) :
      Calls Tryz.prog 246 #[.agg #[v0, v1]] w fun e w' => e = .returned (.bool t.good) ∧ Below w.heap.size w w' := by
  obtain ⟨p, c, rfl, rfl, -, -⟩ := h.form
  have H := Lib.hid h
  have HT := Lib.hid (show t.good = (t.small && t.nodes) from rfl)
  clear h
  cases h1 : t.small
  all_goals
    have H1 := Lib.hid h1
    go_enter Tryz.func246, Tryz.ntmps246
    go_wp2_with (first | (go_at_call 244; refine (l2Fits_any m t _ _ _ (H.out.below (by (repeat (first | with_reducible (first | exact bR _ _ | assumption | refine bA ?_ _ | refine bS ?_ (by first | exact Nat.le_refl _ | (simp; done) | (simp; omega)) _) | assumption | exact bR _ _ | refine bD ?_ | refine bN ?_ _ | refine bT ?_ (by assumption))))) hz).mono ?_; rintro e w1 ⟨rfl, hb1⟩; have ⟨cw1, fw1⟩ := bcell hb1; have qw1 := hb1.size; (try simp at qw1); (try have zw1w := bsz (show w.heap.size < w1.heap.size by omega))) | (go_at_call 245; refine (l2Nodes_any m t _ _ _ (H.out.below (by (repeat (first | with_reducible (first | exact bR _ _ | assumption | refine bA ?_ _ | refine bS ?_ (by first | exact Nat.le_refl _ | (simp; done) | (simp; omega)) _) | assumption | exact bR _ _ | refine bD ?_ | refine bN ?_ _ | refine bT ?_ (by assumption)))))).mono ?_; rintro e w2 ⟨rfl, hb2⟩; have ⟨cw2, fw2⟩ := bcell hb2; have qw2 := hb2.size; (try simp at qw2); (try have zw2w := bsz (show w.heap.size < w2.heap.size by omega)); (try have zw2w1 := bsz (show w1.heap.size < w2.heap.size by omega))))
    go_ret
    exact ⟨ret_bool (by rw [HT.out, H1.out]; rfl), by exact bel⟩
theorem Tm.atom_eq {t : Tm} (h : isEq t.n = true) : t.atom = (decide (t.us.length = 2) && t.small && Tm.nodess t.us) := by rw [Tm.atom, if_pos h]
theorem Tm.atom_no {t : Tm} (h : isEq t.n = false) : t.atom = (symB t.n.data.toList && t.good) := by rw [Tm.atom, if_neg (by simp [h])]
theorem isEq_list {s : ByteArray} {b : Bool} (h : isEq s = b) : (s.toList == [61]) = b := by rw [ByteArray.toList_eq]; exact h
theorem isEquality_any (s : ByteArray) (v : Value) (w : World) : Calls Tryz.prog 197 #[.agg #[.string s, v]] w fun e w' => e = .returned (.bool (isEq s)) ∧ Below w.heap.size w w' := by
  cases h : isEq s
  all_goals
    have h2 := isEq_list h
    go_enter Tryz.func197, Tryz.ntmps197
    go_wp2
    go_ret
    exact ⟨rfl, by exact bel⟩
set_option maxRecDepth 100000 in
set_option maxHeartbeats 400000 in
theorem isValidAtom_any {B : Nat → Prop} (m : Nat) (t : Tm) (v0 v1 : Value) (w : World) (h : TmAt B m w t [v0, v1]) (hz : t.sz ≤ 100000000) :
      Calls Tryz.prog 147 #[.agg #[v0, v1]] w fun e w' => e = .returned (.bool t.atom) ∧ Below w.heap.size w w' := by
  have H := Lib.hid h
  obtain ⟨p, c, rfl, rfl, hs, hlen⟩ := h.form
  have HL := Lib.hid h.args
  have HS := Lib.hid hs
  unfold maxLen at hlen
  clear h hs
  cases hq : isEq t.n
  · have HQ := Lib.hid hq
    have HA := Lib.hid (Tm.atom_no hq)
    cases hy : symB t.n.data.toList
    all_goals
      have HY := Lib.hid hy
      go_enter Tryz.func147, Tryz.ntmps147
      go_wp2_with fail
      refine (isEquality_any _ _ _).mono ?_
      rintro e w1 ⟨rfl, hb1⟩
      have ⟨cw1, fw1⟩ := bcell hb1
      have qw1 := hb1.size
      (try simp at qw1)
      (try have zw1w := bsz (show w.heap.size < w1.heap.size by omega))
      rw [HQ.out]
      go_wp2_with fail
      refine (isSymbol_any _ _ HS.out).mono ?_
      rintro e w2 ⟨rfl, hb2⟩
      have ⟨cw2, fw2⟩ := bcell hb2
      have qw2 := hb2.size
      (try simp at qw2)
      (try have zw2w := bsz (show w.heap.size < w2.heap.size by omega))
      (try have zw2w1 := bsz (show w1.heap.size < w2.heap.size by omega))
      rw [HY.out]
    · go_wp2
      go_ret
      exact ⟨ret_bool (by rw [HA.out, HY.out]; rfl), by exact bel⟩
    · go_wp2_with fail
      refine (isValidTerm_any m t _ _ _ (H.out.below (by exact bel)) hz).mono ?_
      rintro e w3 ⟨rfl, hb3⟩
      have ⟨cw3, fw3⟩ := bcell hb3
      have qw3 := hb3.size
      (try simp at qw3)
      (try have zw3w := bsz (show w.heap.size < w3.heap.size by omega))
      (try have zw3w1 := bsz (show w1.heap.size < w3.heap.size by omega))
      (try have zw3w2 := bsz (show w2.heap.size < w3.heap.size by omega))
      go_wp2
      go_ret
      exact ⟨ret_bool (by rw [HA.out, HY.out]; rfl), by exact bel⟩
  · have HQ := Lib.hid hq
    have HA := Lib.hid (Tm.atom_eq hq)
    by_cases h2 : t.us.length = 2
    · have h2i : ((t.us.length : Int) == 2) = true := by simp; omega
      have H2 := Lib.hid (show decide (t.us.length = 2) = true by simpa using h2)
      have H' := Lib.hid (show TmAt B m w t [.string t.n, .slice p 2 c] by
        have e := H.out
        rw [h2] at e
        exact e)
      cases hsm : t.small
      · have HSM := Lib.hid hsm
        go_enter Tryz.func147, Tryz.ntmps147
        go_wp2_with fail
        refine (isEquality_any _ _ _).mono ?_
        rintro e w1 ⟨rfl, hb1⟩
        have ⟨cw1, fw1⟩ := bcell hb1
        have qw1 := hb1.size
        (try simp at qw1)
        (try have zw1w := bsz (show w.heap.size < w1.heap.size by omega))
        go_wp2_with fail
        refine (isSmall_any m t _ _ _ (H'.out.below (by exact bel)) hz).mono ?_
        rintro e w2 ⟨rfl, hb2⟩
        have ⟨cw2, fw2⟩ := bcell hb2
        have qw2 := hb2.size
        (try simp at qw2)
        (try have zw2w := bsz (show w.heap.size < w2.heap.size by omega))
        (try have zw2w1 := bsz (show w1.heap.size < w2.heap.size by omega))
        rw [HSM.out]
        go_wp2
        go_ret
        exact ⟨ret_bool (by rw [HA.out, HSM.out]; simp), by exact bel⟩
      · have HSM := Lib.hid hsm
        have hl0 : 0 < t.us.length := by omega
        have hl1 : 1 < t.us.length := by omega
        obtain ⟨b, o, rfl, hB, x0, x1, hx0, hx1, hx⟩ := HL.out.at2 hl0
        obtain ⟨b', o', he, hB', y0, y1, hy0, hy1, hy⟩ := HL.out.at2 hl1
        simp only [Option.some.injEq, Addr.mk.injEq, and_true] at he
        obtain ⟨rfl, rfl⟩ := he
        simp only [Nat.zero_mul, Nat.one_mul, Nat.add_zero, Nat.add_assoc, Nat.reduceAdd] at hx0 hx1 hy0 hy1
        have hbw : b < w.heap.size := World.block_lt_of_cell? _ _ hx0
        have zbw := bsz hbw
        have HN := Lib.hid (show Tm.nodess t.us = (t.us[0].nodes && t.us[1].nodes) by
          have e0 := Tm.nodess_drop t.us hl0
          have e1 := Tm.nodess_drop t.us hl1
          rw [List.drop_zero] at e0
          rw [e0, e1, List.drop_eq_nil_of_le (by omega), Tm.nodess, Bool.and_true])
        obtain ⟨a0, ha0⟩ : ∃ a, t.us[0] = a := ⟨_, rfl⟩
        obtain ⟨a1, ha1⟩ : ∃ a, t.us[1] = a := ⟨_, rfl⟩
        rw [ha0] at hx
        rw [ha1] at hy
        rw [ha0, ha1] at HN
        clear ha0 ha1
        obtain ⟨p0, c0, rfl, rfl, -, -⟩ := hx.form
        obtain ⟨p1, c1, rfl, rfl, -, -⟩ := hy.form
        have HX := Lib.hid hx
        have HY := Lib.hid hy
        clear hx hy
        cases hn0 : a0.nodes
        all_goals
          have HN0 := Lib.hid hn0
          go_enter Tryz.func147, Tryz.ntmps147
          go_wp2_with fail
          refine (isEquality_any _ _ _).mono ?_
          rintro e w1 ⟨rfl, hb1⟩
          have ⟨cw1, fw1⟩ := bcell hb1
          have qw1 := hb1.size
          (try simp at qw1)
          (try have zw1w := bsz (show w.heap.size < w1.heap.size by omega))
          go_wp2_with fail
          refine (isSmall_any m t _ _ _ (H'.out.below (by exact bel)) hz).mono ?_
          rintro e w2 ⟨rfl, hb2⟩
          have ⟨cw2, fw2⟩ := bcell hb2
          have qw2 := hb2.size
          (try simp at qw2)
          (try have zw2w := bsz (show w.heap.size < w2.heap.size by omega))
          (try have zw2w1 := bsz (show w1.heap.size < w2.heap.size by omega))
          rw [HSM.out]
          have zb1 := bsz (show b < w1.heap.size by omega)
          have zb2 := bsz (show b < w2.heap.size by omega)
          go_wp2_with fail
          refine (hasNames_any m a0 _ _ _ (HX.out.below (by exact bel))).mono ?_
          rintro e w3 ⟨rfl, hb3⟩
          have ⟨cw3, fw3⟩ := bcell hb3
          have qw3 := hb3.size
          (try simp at qw3)
          (try have zw3w := bsz (show w.heap.size < w3.heap.size by omega))
          (try have zw3w1 := bsz (show w1.heap.size < w3.heap.size by omega))
          (try have zw3w2 := bsz (show w2.heap.size < w3.heap.size by omega))
          rw [HN0.out]
        · go_wp2
          go_ret
          exact ⟨ret_bool (by rw [HA.out, H2.out, HSM.out, HN.out, HN0.out]; rfl), by exact bel⟩
        · go_wp2_with fail
          refine (hasNames_any m a1 _ _ _ (HY.out.below (by exact bel))).mono ?_
          rintro e w4 ⟨rfl, hb4⟩
          have ⟨cw4, fw4⟩ := bcell hb4
          have qw4 := hb4.size
          (try simp at qw4)
          (try have zw4w := bsz (show w.heap.size < w4.heap.size by omega))
          (try have zw4w1 := bsz (show w1.heap.size < w4.heap.size by omega))
          (try have zw4w2 := bsz (show w2.heap.size < w4.heap.size by omega))
          (try have zw4w3 := bsz (show w3.heap.size < w4.heap.size by omega))
          go_wp2
          go_ret
          exact ⟨ret_bool (by rw [HA.out, H2.out, HSM.out, HN.out, HN0.out]; rfl), by exact bel⟩
    · have h2i : ((t.us.length : Int) == 2) = false := by simp; omega
      have H2 := Lib.hid (show decide (t.us.length = 2) = false by simpa using h2)
      go_enter Tryz.func147, Tryz.ntmps147
      go_wp2_with fail
      refine (isEquality_any _ _ _).mono ?_
      rintro e w1 ⟨rfl, hb1⟩
      have ⟨cw1, fw1⟩ := bcell hb1
      have qw1 := hb1.size
      (try simp at qw1)
      (try have zw1w := bsz (show w.heap.size < w1.heap.size by omega))
      go_wp2
      go_ret
      exact ⟨ret_bool (by rw [HA.out, H2.out]; rfl), by exact bel⟩
set_option maxRecDepth 100000 in
set_option maxHeartbeats 400000 in
theorem l2Atom_any {B : Nat → Prop} (m : Nat) (t : Tm) (v0 v1 : Value) (w : World) (h : TmAt B m w t [v0, v1]) (hz : t.sz ≤ 100000000) :
      Calls Tryz.prog 204 #[.agg #[v0, v1]] w fun e w' => e = .returned (.bool t.atom) ∧ Below w.heap.size w w' := by
  have H := Lib.hid h
  obtain ⟨p, c, rfl, rfl, hs, hlen⟩ := h.form
  have HL := Lib.hid h.args
  have HS := Lib.hid hs
  unfold maxLen at hlen
  clear h hs
  cases hq : isEq t.n
  · have HQ := isEq_list hq
    have HA := Lib.hid (Tm.atom_no hq)
    cases hy : symB t.n.data.toList
    all_goals
      have HY := Lib.hid hy
      go_enter Tryz.func204, Tryz.ntmps204
      go_wp2_with fail
      refine (l2Symbol_any _ _ HS.out).mono ?_
      rintro e w' ⟨rfl, rfl⟩
      rw [HY.out]
    · go_wp2
      go_ret
      exact ⟨ret_bool (by rw [HA.out, HY.out]; rfl), by exact bel⟩
    · go_wp2_with fail
      refine (l2Good_any m t _ _ _ (H.out.below (by exact bel)) hz).mono ?_
      rintro e w1 ⟨rfl, hb1⟩
      have ⟨cw1, fw1⟩ := bcell hb1
      have qw1 := hb1.size
      (try simp at qw1)
      (try have zw1w := bsz (show w.heap.size < w1.heap.size by omega))
      go_wp2
      go_ret
      exact ⟨ret_bool (by rw [HA.out, HY.out]; rfl), by exact bel⟩
  · have HQ := isEq_list hq
    have HA := Lib.hid (Tm.atom_eq hq)
    by_cases h2 : t.us.length = 2
    · have h2i : ((t.us.length : Int) == 2) = true := by simp; omega
      have H2 := Lib.hid (show decide (t.us.length = 2) = true by simpa using h2)
      have H' := Lib.hid (show TmAt B m w t [.string t.n, .slice p 2 c] by
        have e := H.out
        rw [h2] at e
        exact e)
      cases hsm : t.small
      · have HSM := Lib.hid hsm
        go_enter Tryz.func204, Tryz.ntmps204
        go_wp2_with fail
        refine (l2Fits_any m t _ _ _ (H'.out.below (by exact bel)) hz).mono ?_
        rintro e w1 ⟨rfl, hb1⟩
        have ⟨cw1, fw1⟩ := bcell hb1
        have qw1 := hb1.size
        (try simp at qw1)
        (try have zw1w := bsz (show w.heap.size < w1.heap.size by omega))
        rw [HSM.out]
        go_wp2
        go_ret
        exact ⟨ret_bool (by rw [HA.out, HSM.out]; simp), by exact bel⟩
      · have HSM := Lib.hid hsm
        have hl0 : 0 < t.us.length := by omega
        have hl1 : 1 < t.us.length := by omega
        obtain ⟨b, o, rfl, hB, x0, x1, hx0, hx1, hx⟩ := HL.out.at2 hl0
        obtain ⟨b', o', he, hB', y0, y1, hy0, hy1, hy⟩ := HL.out.at2 hl1
        simp only [Option.some.injEq, Addr.mk.injEq, and_true] at he
        obtain ⟨rfl, rfl⟩ := he
        simp only [Nat.zero_mul, Nat.one_mul, Nat.add_zero, Nat.add_assoc, Nat.reduceAdd] at hx0 hx1 hy0 hy1
        have hbw : b < w.heap.size := World.block_lt_of_cell? _ _ hx0
        have zbw := bsz hbw
        skip
        have HN := Lib.hid (show Tm.nodess t.us = (t.us[0].nodes && t.us[1].nodes) by
          have e0 := Tm.nodess_drop t.us hl0
          have e1 := Tm.nodess_drop t.us hl1
          rw [List.drop_zero] at e0
          rw [e0, e1, List.drop_eq_nil_of_le (by omega), Tm.nodess, Bool.and_true])
        obtain ⟨a0, ha0⟩ : ∃ a, t.us[0] = a := ⟨_, rfl⟩
        obtain ⟨a1, ha1⟩ : ∃ a, t.us[1] = a := ⟨_, rfl⟩
        rw [ha0] at hx
        rw [ha1] at hy
        rw [ha0, ha1] at HN
        clear ha0 ha1
        obtain ⟨p0, c0, rfl, rfl, -, -⟩ := hx.form
        obtain ⟨p1, c1, rfl, rfl, -, -⟩ := hy.form
        have HX := Lib.hid hx
        have HY := Lib.hid hy
        clear hx hy
        cases hn0 : a0.nodes
        all_goals
          have HN0 := Lib.hid hn0
          go_enter Tryz.func204, Tryz.ntmps204
          go_wp2_with fail
          refine (l2Fits_any m t _ _ _ (H'.out.below (by exact bel)) hz).mono ?_
          rintro e w1 ⟨rfl, hb1⟩
          have ⟨cw1, fw1⟩ := bcell hb1
          have qw1 := hb1.size
          (try simp at qw1)
          (try have zw1w := bsz (show w.heap.size < w1.heap.size by omega))
          (try have zw1b := bsz (show b < w1.heap.size by omega))
          rw [HSM.out]
          go_wp2_with fail
          refine (l2Nodes_any m a0 _ _ _ (HX.out.below (by exact bel))).mono ?_
          rintro e w2 ⟨rfl, hb2⟩
          have ⟨cw2, fw2⟩ := bcell hb2
          have qw2 := hb2.size
          (try simp at qw2)
          (try have zw2w := bsz (show w.heap.size < w2.heap.size by omega))
          (try have zw2w1 := bsz (show w1.heap.size < w2.heap.size by omega))
          (try have zw2b := bsz (show b < w2.heap.size by omega))
          rw [HN0.out]
        · go_wp2
          go_ret
          exact ⟨ret_bool (by rw [HA.out, H2.out, HSM.out, HN.out, HN0.out]; rfl), by exact bel⟩
        · go_wp2_with fail
          refine (l2Nodes_any m a1 _ _ _ (HY.out.below (by exact bel))).mono ?_
          rintro e w1 ⟨rfl, hb1⟩
          have ⟨cw1, fw1⟩ := bcell hb1
          have qw1 := hb1.size
          (try simp at qw1)
          (try have zw1w := bsz (show w.heap.size < w1.heap.size by omega))
          (try have zw1b := bsz (show b < w1.heap.size by omega))
          go_wp2
          go_ret
          exact ⟨ret_bool (by rw [HA.out, H2.out, HSM.out, HN.out, HN0.out]; rfl), by exact bel⟩
    · have h2i : ((t.us.length : Int) == 2) = false := by simp; omega
      have H2 := Lib.hid (show decide (t.us.length = 2) = false by simpa using h2)
      go_enter Tryz.func204, Tryz.ntmps204
      go_wp2
      go_ret
      exact ⟨ret_bool (by rw [HA.out, H2.out]; rfl), by exact bel⟩
open Go.RowKit
theorem Fm.szs_drop (us : List Fm) {k : Nat} (h : k < us.length) : Fm.szs (us.drop k) = us[k].sz + Fm.szs (us.drop (k + 1)) := by
  rw [List.drop_eq_getElem_cons h, Fm.szs]
theorem Fm.szIs_drop (us : List Fm) {k : Nat} (h : k < us.length) (n : Nat) : Fm.szIs n (us.drop k) = if 40 < n then n else Fm.szIs (n + us[k].szI) (us.drop (k + 1)) := by
  rw [List.drop_eq_getElem_cons h, Fm.szIs]
theorem Fm.manys_drop (us : List Fm) {k : Nat} (h : k < us.length) (n m : Nat) : Fm.manys n (us.drop k) m = if n ≤ m then Fm.manys (n + us[k].many (m - n)) (us.drop (k + 1)) m else n := by
  rw [List.drop_eq_getElem_cons h, Fm.manys]
theorem Fm.forms_drop (us : List Fm) {k : Nat} (h : k < us.length) : Fm.forms (us.drop k) = (us[k].form && Fm.forms (us.drop (k + 1))) := by
  rw [List.drop_eq_getElem_cons h, Fm.forms]
theorem FmAt.parts {B : Nat → Prop} {w : World} : ∀ {n : Nat} {t : Fm} {v0 v1 v2 v3 v4 : Value}, FmAt B n w t [v0, v1, v2, v3, v4] → ListAt B w 5 (FmAt B n w) v4 t.ps
  | 0, _, _, _, _, _, _, h => h.elim
  | n + 1, .mk op a x ps, v0, v1, v2, v3, v4, h => by
    obtain ⟨vn, va, vp, h1, h2, h3, h4, h5⟩ := h
    simp only [List.cons.injEq, and_true] at h1
    obtain ⟨rfl, rfl, rfl, rfl, rfl⟩ := h1
    exact h5.mono (SameOn.refl _ _) (fun _ h => h) (fun x cs _ hx => FmAt.mono (SameOn.refl _ _) (fun _ h => h) n (n + 1) x cs (by omega) hx)
theorem FmAt.atm {B : Nat → Prop} {w : World} : ∀ {n : Nat} {t : Fm} {v0 v1 v2 v3 v4 : Value}, FmAt B n w t [v0, v1, v2, v3, v4] → TmAt B n w t.a [v1, v2]
  | 0, _, _, _, _, _, _, h => h.elim
  | n + 1, .mk op a x ps, v0, v1, v2, v3, v4, h => by
    obtain ⟨vn, va, vp, h1, h2, h3, h4, h5⟩ := h
    simp only [List.cons.injEq, and_true] at h1
    obtain ⟨rfl, rfl, rfl, rfl, rfl⟩ := h1
    exact TmAt.mono (SameOn.refl _ _) (fun _ h => h) n (n + 1) a _ (by omega) h4
set_option maxRecDepth 100000 in
set_option maxHeartbeats 1600000 in
theorem sizeOf_any {B : Nat → Prop} : ∀ (m : Nat) (t : Fm) (v0 v1 v2 v3 v4 : Value) (w : World), FmAt B m w t [v0, v1, v2, v3, v4] → t.sz ≤ 100000000 →
      Calls Tryz.prog 98 #[.agg #[v0, v1, v2, v3, v4]] w fun e w' => e = .returned (.int .i64 (t.szI : Nat)) ∧ Below w.heap.size w w' := by
  intro m
  induction m with
  | zero => intro t v0 v1 v2 v3 v4 w h; exact h.elim
  | succ m ih =>
    rintro ⟨op, t0, s, us⟩ v0 v1 v2 v3 v4 w ⟨vn, va, vp, hcs, hop, hs, ht, hl⟩ hz
    simp only [List.cons.injEq, and_true] at hcs
    obtain ⟨rfl, rfl, rfl, rfl, rfl⟩ := hcs
    rw [Fm.sz] at hz
    obtain ⟨p, c, rfl, hlen⟩ := hl.form
    obtain ⟨p1, c1, rfl, rfl, -, -⟩ := ht.form
    unfold maxLen at hlen
    have IH := Lib.hid ih
    have HL := Lib.hid hl
    have HSZ := Lib.hid (show (Fm.mk op t0 s us).szI = Fm.szIs 1 us from rfl)
    clear ih hl
    go_enter Tryz.func98, Tryz.ntmps98
    go_wp2
    go_loopw [3, 9] (fun n i wr => ∃ k acc : Nat, k ≤ us.length ∧ i = .int .i64 k ∧ n = .int .i64 acc ∧ Fm.szIs acc (us.drop k) = Fm.szIs 1 us ∧ acc + Fm.szs (us.drop k) ≤ 1 + Fm.szs us ∧ Below w.heap.size w wr) (fun _ i _ => us.length - (intOf i).toNat)
    case atStart => exact ⟨0, 1, Nat.zero_le _, rfl, rfl, rfl, Nat.le_refl _, by exact bel⟩
    case round =>
      obtain ⟨k, acc, hk, rfl, rfl, he, hle, hb⟩ := hrel
      have HE := Lib.hid he
      clear he
      by_cases hlt : k < us.length
      · obtain ⟨b, o, rfl, hB, x0, x1, x2, x3, x4, hx0, hx1, hx2, hx3, hx4, hx⟩ := (HL.out.mono (SameOn.below hb) (fun _ h => h) (fun x cs _ hx => FmAt.below hb hx)).at5 hlt
        have hD := Fm.szIs_drop us hlt acc
        have hZ := Fm.szs_drop us hlt
        obtain ⟨a, ha⟩ : ∃ a, us[k] = a := ⟨_, rfl⟩
        rw [ha] at hx
        rw [ha] at hD
        rw [ha] at hZ
        have HX := Lib.hid hx
        have HD := Lib.hid hD
        have HZ := Lib.hid hZ
        clear hx ha hD hZ
        have zb := bsz (World.block_lt_of_cell? _ _ hx0)
        obtain ⟨pa, ca, qa, da, rfl, rfl, rfl, rfl, rfl, -⟩ := HX.out.form
        have hlaw := a.szI_law
        have hzz := HZ.out
        rw [hzz] at hle
        clear hzz
        by_cases h40 : 40 < (acc : Int)
        · go_wp2
          go_ret
          exact ⟨ret_int (by rw [HSZ.out, ← HE.out, HD.out, if_pos (by omega)]), by exact bel⟩
        · go_wp2_with fail
          refine (IH.out a _ _ _ _ _ _ (HX.out.below (by exact bel)) (by omega)).mono ?_
          rintro e w1 ⟨rfl, hb1⟩
          have ⟨cw1, fw1⟩ := bcell hb1
          have qw1 := hb1.size
          (try simp at qw1)
          (try have zw1w := bsz (show w.heap.size < w1.heap.size by omega))
          go_wp2
          refine ⟨⟨k + 1, acc + a.szI, by omega, by go_num, by go_num, ?_, by omega, by exact bel⟩, by simp [intOf]; omega⟩
          rw [← HE.out, HD.out, if_neg (by omega)]
      · obtain rfl : k = us.length := by omega
        have he := HE.out
        rw [List.drop_length, Fm.szIs] at he
        have HE2 := Lib.hid he
        clear he
        go_wp2
        go_ret
        exact ⟨ret_int (by rw [HSZ.out, ← HE2.out]), by exact bel⟩
theorem isQuantifier_any (op : Int) (w : World) : Calls Tryz.prog 145 #[.int .i64 op] w fun e w' => e = .returned (.bool (op == 8 || op == 9)) ∧ w = w' := by
  by_cases h : op = 8
  · obtain rfl := h
    go_enter Tryz.func145, Tryz.ntmps145
    go_wp2
    go_ret
    exact ⟨rfl, rfl⟩
  · have h1 : (op == 8) = false := by simpa using h
    go_enter Tryz.func145, Tryz.ntmps145
    go_wp2
    go_ret
    exact ⟨ret_bool (by simp [h]), rfl⟩
theorem isBinary_any (op : Int) (w : World) : Calls Tryz.prog 146 #[.int .i64 op] w fun e w' => e = .returned (.bool (op == 5 || op == 6 || op == 7)) ∧ w = w' := by
  by_cases h5 : op = 5
  · obtain rfl := h5
    go_enter Tryz.func146, Tryz.ntmps146
    go_wp2
    go_ret
    exact ⟨rfl, rfl⟩
  · have h1 : (op == 5) = false := by simpa using h5
    by_cases h6 : op = 6
    · obtain rfl := h6
      go_enter Tryz.func146, Tryz.ntmps146
      go_wp2
      go_ret
      exact ⟨rfl, rfl⟩
    · have h2 : (op == 6) = false := by simpa using h6
      go_enter Tryz.func146, Tryz.ntmps146
      go_wp2
      go_ret
      exact ⟨ret_bool (by simp [h5, h6]), rfl⟩
open Go.RowKit
def FirstAt (b : Bool) (w : World) (e : Ending) (w' : World) : Prop := ∃ r : Int, e = .returned (.int .i64 r) ∧ decide (0 ≤ r) = b ∧ Below w.heap.size w w'
theorem any_drop {α : Type} (us : List α) (P : α → Bool) {k : Nat} (h : k < us.length) : (us.drop k).any P = (P us[k] || (us.drop (k + 1)).any P) := by
  rw [List.drop_eq_getElem_cons h, List.any_cons]
theorem all_drop {α : Type} (us : List α) (P : α → Bool) {k : Nat} (h : k < us.length) : (us.drop k).all P = (P us[k] && (us.drop (k + 1)).all P) := by
  rw [List.drop_eq_getElem_cons h, List.all_cons]
theorem empt_iff (s : ByteArray) : s.toList.isEmpty = s.data.toList.isEmpty := by rw [ByteArray.toList_eq]
theorem l8None_any {B : Nat → Prop} (m : Nat) (t : Tm) (v0 v1 : Value) (w : World) (h : TmAt B m w t [v0, v1]) : Calls Tryz.prog 203 #[.agg #[v0, v1]] w fun e w' => e = .returned (.bool t.none) ∧ Below w.heap.size w w' := by
  obtain ⟨p, c, rfl, rfl, -, -⟩ := h.form
  clear h
  have HN := Lib.hid (show t.none = (t.n.toList.isEmpty && ((t.us.length : Int) == 0)) by rw [empt_iff, Tm.none]; cases t.us <;> simp; omega)
  go_enter Tryz.func203, Tryz.ntmps203
  go_wp2
  all_goals
    go_ret
    exact ⟨ret_bool (by rw [HN.out]; simp_all), by exact bel⟩
theorem isZeroTerm_any {B : Nat → Prop} (m : Nat) (t : Tm) (v0 v1 : Value) (w : World) (h : TmAt B m w t [v0, v1]) : Calls Tryz.prog 148 #[.agg #[v0, v1]] w fun e w' => e = .returned (.bool t.none) ∧ Below w.heap.size w w' := by
  obtain ⟨p, c, rfl, rfl, -, -⟩ := h.form
  clear h
  have HN := Lib.hid (show t.none = (t.n.toList.isEmpty && ((t.us.length : Int) == 0)) by rw [empt_iff, Tm.none]; cases t.us <;> simp; omega)
  go_enter Tryz.func148, Tryz.ntmps148
  go_wp2
  all_goals
    go_ret
    exact ⟨ret_bool (by rw [HN.out]; simp_all), by exact bel⟩
theorem len0 {α : Type} {l : List α} : (0 = l.length) = (l = []) := propext ⟨fun h => List.eq_nil_of_length_eq_zero h.symm, fun h => by rw [h]; rfl⟩
theorem len1 {n : Nat} : (1 = n) = ((n : Int) = 1) := propext ⟨fun h => by omega, fun h => by omega⟩
theorem len2 {n : Nat} : (2 = n) = ((n : Int) = 2) := propext ⟨fun h => by omega, fun h => by omega⟩
theorem op_cases (op : Int) : op = 1 ∨ op = 2 ∨ op = 3 ∨ op = 4 ∨ op = 5 ∨ op = 6 ∨ op = 7 ∨ op = 8 ∨ op = 9 ∨ (¬op = 1 ∧ ¬op = 2 ∧ ¬op = 3 ∧ ¬op = 4 ∧ ¬op = 5 ∧ ¬op = 6 ∧ ¬op = 7 ∧ ¬op = 8 ∧ ¬op = 9) := by omega
set_option maxRecDepth 100000 in
set_option maxHeartbeats 1600000 in
theorem l8Form_any {B : Nat → Prop} (m : Nat) (t : Fm) (v0 v1 v2 v3 v4 : Value) (w : World) (h : FmAt B m w t [v0, v1, v2, v3, v4]) (hz : t.a.sz ≤ 100000000) :
    Calls Tryz.prog 154 #[.agg #[v0, v1, v2, v3, v4]] w fun e w' => e = .returned (.bool t.form1) ∧ Below w.heap.size w w' := by
  have HA := Lib.hid h.atm
  obtain ⟨p, c, q, d, rfl, rfl, rfl, rfl, rfl, hop, hn, -, hv, hps⟩ := h.form
  obtain ⟨op, a, x, ps⟩ := t
  simp only [Fm.op, Fm.a, Fm.v, Fm.ps] at *
  have HV := Lib.hid hv
  unfold maxLen at hps
  clear h hn hv
  rcases op_cases op with rfl | rfl | rfl | rfl | rfl | rfl | rfl | rfl | rfl | ⟨h1, h2, h3, h4, h5, h6, h7, h8, h9⟩
  all_goals
    go_enter Tryz.func154, Tryz.ntmps154
    go_wp2_with (first | (go_at_call 203; refine (l8None_any m a _ _ _ (HA.out.below (by (repeat (first | with_reducible (first | exact bR _ _ | assumption | refine bA ?_ _ | refine bS ?_ (by first | exact Nat.le_refl _ | (simp; done) | (simp; omega)) _) | assumption | exact bR _ _ | refine bD ?_ | refine bN ?_ _ | refine bT ?_ (by assumption)))))).mono ?_; rintro e w1 ⟨rfl, hb1⟩; have ⟨cw1, fw1⟩ := bcell hb1; have qw1 := hb1.size; (try simp at qw1); (try have zw1w := bsz (show w.heap.size < w1.heap.size by omega))) | (go_at_call 204; refine (l2Atom_any m a _ _ _ (HA.out.below (by (repeat (first | with_reducible (first | exact bR _ _ | assumption | refine bA ?_ _ | refine bS ?_ (by first | exact Nat.le_refl _ | (simp; done) | (simp; omega)) _) | assumption | exact bR _ _ | refine bD ?_ | refine bN ?_ _ | refine bT ?_ (by assumption))))) hz).mono ?_; rintro e w1 ⟨rfl, hb1⟩; have ⟨cw1, fw1⟩ := bcell hb1; have qw1 := hb1.size; (try simp at qw1); (try have zw1w := bsz (show w.heap.size < w1.heap.size by omega))) | (go_at_call 157; refine (l2Var_any _ _ HV.out).mono ?_; rintro e w' ⟨rfl, rfl⟩))
  all_goals
    go_ret
    exact ⟨ret_bool (by simp_all [Fm.form1, arity, isQ, Fm.op, Fm.a, Fm.v, Fm.ps, empt_iff, len0, len1, len2]), by exact bel⟩
def Fm.notForm (f : Fm) : Bool := !f.form
theorem forms_any : ∀ us : List Fm, us.any Fm.notForm = !Fm.forms us
  | [] => rfl
  | a :: us => by rw [List.any_cons, forms_any us, Fm.forms, Fm.notForm]; cases a.form <;> rfl
mutual
def Fm.asz : Fm → Nat | .mk _ a _ ps => max a.sz (Fm.aszs ps)
def Fm.aszs : List Fm → Nat | [] => 0 | a :: us => max a.asz (Fm.aszs us)
end
theorem Fm.asz_arg (us : List Fm) {k : Nat} (h : k < us.length) : us[k].asz ≤ Fm.aszs us := by
  induction us generalizing k with
  | nil => simp at h
  | cons a us ih =>
    cases k with
    | zero => simp only [List.getElem_cons_zero, Fm.aszs]; omega
    | succ k => have := ih (k := k) (by simpa using h); simp only [List.getElem_cons_succ, Fm.aszs]; omega
set_option maxRecDepth 100000 in
set_option maxHeartbeats 3200000 in
theorem hasForm_of {B : Nat → Prop} (m : Nat) (ih : ∀ (us : List Fm) (va : Value) (w : World), Fm.aszs us ≤ 100000000 → ListAt B w 5 (FmAt B m w) va us →
      Calls Tryz.prog 101 #[va, .func (.func 149) #[] #[]] w fun e w' => e = .returned (.bool (!Fm.forms us)) ∧ Below w.heap.size w w')
    (op : Int) (a : Tm) (x : ByteArray) (ps : List Fm) (v1 v2 v4 : Value) (w : World) (ha : TmAt B m w a [v1, v2]) (hl : ListAt B w 5 (FmAt B m w) v4 ps) (hv : x.size ≤ maxLen) (hz : a.sz ≤ 100000000) (hzs : Fm.aszs ps ≤ 100000000) :
    Calls Tryz.prog 99 #[.agg #[.int .i64 op, v1, v2, .string x, v4]] w fun e w' => e = .returned (.bool ((Fm.mk op a x ps).form1 && Fm.forms ps)) ∧ Below w.heap.size w w' := by
  have HA := Lib.hid ha
  have HL := Lib.hid hl
  have HV := Lib.hid hv
  have IH := Lib.hid ih
  obtain ⟨p, c, rfl, rfl, -, -⟩ := ha.form
  obtain ⟨q, d, rfl, hps⟩ := hl.form
  unfold maxLen at hps
  clear ha hl hv ih
  rcases op_cases op with rfl | rfl | rfl | rfl | rfl | rfl | rfl | rfl | rfl | ⟨h1, h2, h3, h4, h5, h6, h7, h8, h9⟩
  all_goals
    go_enter Tryz.func99, Tryz.ntmps99
    go_wp2_with (first | (go_at_call 148; refine (isZeroTerm_any m a _ _ _ (HA.out.below (by (repeat (first | with_reducible (first | exact bR _ _ | assumption | refine bA ?_ _ | refine bS ?_ (by first | exact Nat.le_refl _ | (simp; done) | (simp; omega)) _) | assumption | exact bR _ _ | refine bD ?_ | refine bN ?_ _ | refine bT ?_ (by assumption)))))).mono ?_; rintro e w1 ⟨rfl, hb1⟩; have ⟨cw1, fw1⟩ := bcell hb1; have qw1 := hb1.size; (try simp at qw1); (try have zw1w := bsz (show w.heap.size < w1.heap.size by omega))) | (go_at_call 147; refine (isValidAtom_any m a _ _ _ (HA.out.below (by (repeat (first | with_reducible (first | exact bR _ _ | assumption | refine bA ?_ _ | refine bS ?_ (by first | exact Nat.le_refl _ | (simp; done) | (simp; omega)) _) | assumption | exact bR _ _ | refine bD ?_ | refine bN ?_ _ | refine bT ?_ (by assumption))))) hz).mono ?_; rintro e w1 ⟨rfl, hb1⟩; have ⟨cw1, fw1⟩ := bcell hb1; have qw1 := hb1.size; (try simp at qw1); (try have zw1w := bsz (show w.heap.size < w1.heap.size by omega))) | (go_at_call 119; refine (isVariable_any _ _ HV.out).mono ?_; rintro e w' ⟨rfl, rfl⟩) | (go_at_call 145; refine (isQuantifier_any _ _).mono ?_; rintro e w' ⟨rfl, rfl⟩) | (go_at_call 146; refine (isBinary_any _ _).mono ?_; rintro e w' ⟨rfl, rfl⟩) | (go_at_call 101; refine (IH.out ps _ _ hzs (HL.out.mono (SameOn.below (by (repeat (first | with_reducible (first | exact bR _ _ | assumption | refine bA ?_ _ | refine bS ?_ (by first | exact Nat.le_refl _ | (simp; done) | (simp; omega)) _) | assumption | exact bR _ _ | refine bD ?_ | refine bN ?_ _ | refine bT ?_ (by assumption))))) (fun _ h => h) (fun x cs _ hx => FmAt.below (by (repeat (first | with_reducible (first | exact bR _ _ | assumption | refine bA ?_ _ | refine bS ?_ (by first | exact Nat.le_refl _ | (simp; done) | (simp; omega)) _) | assumption | exact bR _ _ | refine bD ?_ | refine bN ?_ _ | refine bT ?_ (by assumption)))) hx))).mono ?_; rintro e w2 ⟨rfl, hb2⟩; have ⟨cw2, fw2⟩ := bcell hb2; have qw2 := hb2.size; (try simp at qw2); (try have zw2w := bsz (show w.heap.size < w2.heap.size by omega)); (try have zw2w1 := bsz (show w1.heap.size < w2.heap.size by omega))) | (go_at_call 101; refine (IH.out [] _ _ (Nat.zero_le _) (ListAt.nil _ _ _ _ _ _)).mono ?_; rintro e w2 ⟨rfl, hb2⟩; have ⟨cw2, fw2⟩ := bcell hb2; have qw2 := hb2.size; (try simp at qw2); (try have zw2w := bsz (show w.heap.size < w2.heap.size by omega)); (try have zw2w1 := bsz (show w1.heap.size < w2.heap.size by omega))))
  all_goals
    go_ret
    exact ⟨ret_bool (by simp_all [Fm.form1, arity, isQ, Fm.forms, Fm.op, Fm.a, Fm.v, Fm.ps, empt_iff, len0, len1, len2]), by exact bel⟩
open Go.RowKit
theorem indexForm {B : Nat → Prop} (m : Nat) (us : List Fm) (HC : ∀ (t : Fm) (v0 v1 v2 v3 v4 : Value) (w : World), t ∈ us → FmAt B m w t [v0, v1, v2, v3, v4] → Calls Tryz.prog 149 #[.agg #[v0, v1, v2, v3, v4]] w fun e w' => e = .returned (.bool (Fm.notForm t)) ∧ Below w.heap.size w w')
    (va : Value) (w : World) (h : ListAt B w 5 (FmAt B m w) va us) :
    Calls Tryz.prog 151 #[va, .func (.func 149) #[] #[]] w (FirstAt (us.any Fm.notForm) w) := by
  obtain ⟨p, c, rfl, hlen⟩ := h.form
  unfold maxLen at hlen
  have H := Lib.hid h
  have HN1 := Lib.hid HC
  clear h HC
  go_enter Tryz.func151, Tryz.ntmps151
  go_wp2
  go_loopw [8] (fun i wr => ∃ k : Nat, k ≤ us.length ∧ i = .int .i64 k ∧ us.any Fm.notForm = (us.drop k).any Fm.notForm ∧ Below w.heap.size w wr) (fun i _ => us.length - (intOf i).toNat)
  case atStart => exact ⟨0, Nat.zero_le _, rfl, rfl, by exact bel⟩
  case round =>
    obtain ⟨k, hk, rfl, he, hb⟩ := hrel
    have HE := Lib.hid he
    clear he
    by_cases hlt : k < us.length
    · obtain ⟨b, o, rfl, hB, x0, x1, x2, x3, x4, hx0, hx1, hx2, hx3, hx4, hx⟩ := (H.out.mono (SameOn.below hb) (fun _ h => h) (fun x cs _ hx => FmAt.below hb hx)).at5 hlt
      have hD := any_drop us Fm.notForm hlt
      have hM := List.getElem_mem hlt
      obtain ⟨a, ha⟩ : ∃ a, us[k] = a := ⟨_, rfl⟩
      rw [ha] at hx
      rw [ha] at hD
      rw [ha] at hM
      have HX := Lib.hid hx
      have HD := Lib.hid hD
      have HM := Lib.hid hM
      clear hx ha hD hM
      have zb := bsz (World.block_lt_of_cell? _ _ hx0)
      cases hN : Fm.notForm a
      all_goals
        have HN := Lib.hid hN
        go_wp2_with fail
        refine (HN1.out a x0 x1 x2 x3 x4 _ HM.out HX.out).mono ?_
        rintro e w1 ⟨rfl, hb1⟩
        have ⟨cw1, fw1⟩ := bcell hb1
        have qw1 := hb1.size
        (try simp at qw1)
        (try have zw1w := bsz (show w.heap.size < w1.heap.size by omega))
        rw [HN.out]
        go_wp2
      · refine ⟨⟨k + 1, by omega, by go_num, ?_, by exact bel⟩, by simp [intOf]; omega⟩
        rw [HE.out, HD.out, HN.out]; rfl
      · go_ret
        exact ⟨k, rfl, by rw [HE.out, HD.out, HN.out]; simp, by exact bel⟩
    · obtain rfl : k = us.length := by omega
      have he := HE.out
      rw [List.drop_length, List.any_nil] at he
      have HE2 := Lib.hid he
      clear he
      go_wp2
      go_ret
      exact ⟨-1, rfl, by rw [HE2.out]; rfl, by exact bel⟩
theorem containsForm {B : Nat → Prop} (m : Nat) (us : List Fm) (HC : ∀ (t : Fm) (v0 v1 v2 v3 v4 : Value) (w : World), t ∈ us → FmAt B m w t [v0, v1, v2, v3, v4] → Calls Tryz.prog 149 #[.agg #[v0, v1, v2, v3, v4]] w fun e w' => e = .returned (.bool (Fm.notForm t)) ∧ Below w.heap.size w w')
    (va : Value) (w : World) (h : ListAt B w 5 (FmAt B m w) va us) :
    Calls Tryz.prog 101 #[va, .func (.func 149) #[] #[]] w fun e w' => e = .returned (.bool (us.any Fm.notForm)) ∧ Below w.heap.size w w' := by
  have H := Lib.hid h
  have IH := Lib.hid (indexForm m us HC)
  clear h HC
  go_enter Tryz.func101, Tryz.ntmps101
  go_wp2_with fail
  refine (IH.out va _ H.out).mono ?_
  rintro e w1 ⟨r, rfl, hr, hb1⟩
  have HR := Lib.hid hr
  clear hr
  go_wp2
  go_ret
  exact ⟨ret_bool HR.out, hb1⟩
set_option maxRecDepth 100000 in
set_option maxHeartbeats 1600000 in
theorem hasForm_any {B : Nat → Prop} : ∀ (m : Nat) (t : Fm) (v0 v1 v2 v3 v4 : Value) (w : World), FmAt B m w t [v0, v1, v2, v3, v4] → t.asz ≤ 100000000 →
      Calls Tryz.prog 99 #[.agg #[v0, v1, v2, v3, v4]] w fun e w' => e = .returned (.bool t.form) ∧ Below w.heap.size w w' := by
  intro m
  induction m with
  | zero => intro t v0 v1 v2 v3 v4 w h; exact h.elim
  | succ m ih =>
    rintro ⟨op, a, x, us⟩ v0 v1 v2 v3 v4 w ⟨vn, va, vp, hcs, hop, hs, ht, hl⟩ hz
    simp only [List.cons.injEq, and_true] at hcs
    obtain ⟨rfl, rfl, rfl, rfl, rfl⟩ := hcs
    rw [Fm.asz] at hz
    have hza : a.sz ≤ 100000000 := by omega
    have hzs : Fm.aszs us ≤ 100000000 := by omega
    have HR := hasForm_of m (fun us va w hu h => by
      have := containsForm (B := B) m us (fun t v0 v1 v2 v3 v4 w ht h => by
        obtain ⟨k, hk, e⟩ := List.getElem_of_mem ht
        have hbb : t.asz ≤ 100000000 := by have := Fm.asz_arg us hk; rw [e] at this; omega
        obtain ⟨p1, c1, q1, d1, rfl, rfl, rfl, rfl, rfl, -⟩ := h.form
        have HX := Lib.hid h
        have IH := Lib.hid ih
        clear h ih e
        go_enter Tryz.func149, Tryz.ntmps149
        go_wp2_with fail
        refine (IH.out t _ _ _ _ _ _ (HX.out.below (by exact bel)) hbb).mono ?_
        rintro e w1 ⟨rfl, hb1⟩
        have ⟨cw1, fw1⟩ := bcell hb1
        have qw1 := hb1.size
        (try simp at qw1)
        (try have zw1w := bsz (show w.heap.size < w1.heap.size by omega))
        go_wp2
        go_ret
        exact ⟨rfl, by exact bel⟩) va w h
      rw [forms_any] at this
      exact this) op a x us v1 v2 v4 w ht hl hs hza hzs
    rw [Fm.form]
    exact HR
theorem isValidFormula_any {B : Nat → Prop} (m : Nat) (t : Fm) (v0 v1 v2 v3 v4 : Value) (w : World) (h : FmAt B m w t [v0, v1, v2, v3, v4]) (hz : t.sz ≤ 100000000) (hz2 : t.asz ≤ 100000000) :
      Calls Tryz.prog 41 #[.agg #[v0, v1, v2, v3, v4]] w fun e w' => e = .returned (.bool t.good) ∧ Below w.heap.size w w' := by
  obtain ⟨p, c, q, d, rfl, rfl, rfl, rfl, rfl, -⟩ := h.form
  have H := Lib.hid h
  have HT := Lib.hid (show t.good = (decide ((t.szI : Int) ≤ 40) && t.form) by rw [Fm.good, ← Fm.szI_iff]; congr 1; rw [decide_eq_decide]; omega)
  clear h
  go_enter Tryz.func41, Tryz.ntmps41
  go_wp2_with fail
  refine (sizeOf_any m t _ _ _ _ _ _ (H.out.below (by exact bel)) hz).mono ?_
  rintro e w1 ⟨rfl, hb1⟩
  have ⟨cw1, fw1⟩ := bcell hb1
  have qw1 := hb1.size
  (try simp at qw1)
  (try have zw1w := bsz (show w.heap.size < w1.heap.size by omega))
  go_wp2_with (first | (go_at_call 99; refine (hasForm_any m t _ _ _ _ _ _ (H.out.below (by (repeat (first | with_reducible (first | exact bR _ _ | assumption | refine bA ?_ _ | refine bS ?_ (by first | exact Nat.le_refl _ | (simp; done) | (simp; omega)) _) | assumption | exact bR _ _ | refine bD ?_ | refine bN ?_ _ | refine bT ?_ (by assumption))))) hz2).mono ?_; rintro e w2 ⟨rfl, hb2⟩; have ⟨cw2, fw2⟩ := bcell hb2; have qw2 := hb2.size; (try simp at qw2); (try have zw2w := bsz (show w.heap.size < w2.heap.size by omega)); (try have zw2w1 := bsz (show w1.heap.size < w2.heap.size by omega))))
  all_goals
    go_ret
    exact ⟨ret_bool (by rw [HT.out]; simp_all <;> (intros; omega)), by exact bel⟩
set_option maxRecDepth 100000 in
set_option maxHeartbeats 1600000 in
theorem l8Many_any {B : Nat → Prop} : ∀ (m : Nat) (t : Fm) (v0 v1 v2 v3 v4 : Value) (M : Nat) (z : Int) (w : World), FmAt B m w t [v0, v1, v2, v3, v4] → t.sz ≤ 100000000 → z = (M : Int) → M ≤ 1000 →
      Calls Tryz.prog 112 #[.agg #[v0, v1, v2, v3, v4], .int .i64 z] w fun e w' => e = .returned (.int .i64 (t.many M : Nat)) ∧ Below w.heap.size w w' := by
  intro m
  induction m with
  | zero => intro t v0 v1 v2 v3 v4 M z w h; exact h.elim
  | succ m ih =>
    rintro ⟨op, t0, s, us⟩ v0 v1 v2 v3 v4 M z w ⟨vn, va, vp, hcs, hop, hs, ht, hl⟩ hz rfl hM
    simp only [List.cons.injEq, and_true] at hcs
    obtain ⟨rfl, rfl, rfl, rfl, rfl⟩ := hcs
    rw [Fm.sz] at hz
    obtain ⟨p, c, rfl, hlen⟩ := hl.form
    obtain ⟨p1, c1, rfl, rfl, -, -⟩ := ht.form
    unfold maxLen at hlen
    have IH := Lib.hid ih
    have HL := Lib.hid hl
    have HSZ := Lib.hid (show (Fm.mk op t0 s us).many M = Fm.manys 1 us M from rfl)
    clear ih hl
    go_enter Tryz.func112, Tryz.ntmps112
    go_wp2
    obtain ⟨W, hW⟩ : ∃ W : World, W = w.alloc (.cells #[.int .i64 op, .string t0.n, .slice p1 t0.us.length c1, .string s, .slice p us.length c] 44) := ⟨_, rfl⟩
    have hwb : W.cell? ⟨w.heap.size, 4, none⟩ = some (.slice p us.length c) := by rw [hW]; go_simp
    have hbW : Below w.heap.size w W := by rw [hW]; exact bel
    rw [← hW]
    clear hW
    go_loopw [5, 6] (fun n i wr => ∃ k acc : Nat, k ≤ us.length ∧ i = .int .i64 k ∧ n = .int .i64 acc ∧ Fm.manys acc (us.drop k) M = Fm.manys 1 us M ∧ acc + Fm.szs (us.drop k) ≤ 1 + Fm.szs us ∧ Below W.heap.size W wr) (fun _ i _ => us.length - (intOf i).toNat)
    case atStart => exact ⟨0, 1, Nat.zero_le _, rfl, rfl, rfl, Nat.le_refl _, Below.refl _ _⟩
    case round =>
      obtain ⟨k, acc, hk, rfl, rfl, he, hle, hbr⟩ := hrel
      have HE := Lib.hid he
      clear he
      have hb := Below.step hbW hbr
      have hwr := (hbr.cell (World.block_lt_of_cell? W _ hwb)).trans hwb
      by_cases hlt : k < us.length
      · obtain ⟨b, o, rfl, hB, x0, x1, x2, x3, x4, hx0, hx1, hx2, hx3, hx4, hx⟩ := (HL.out.mono (SameOn.below hb) (fun _ h => h) (fun x cs _ hx => FmAt.below hb hx)).at5 hlt
        have hD := Fm.manys_drop us hlt acc M
        have hZ := Fm.szs_drop us hlt
        obtain ⟨a, ha⟩ : ∃ a, us[k] = a := ⟨_, rfl⟩
        rw [ha] at hx
        rw [ha] at hD
        rw [ha] at hZ
        have HX := Lib.hid hx
        have HD := Lib.hid hD
        have HZ := Lib.hid hZ
        clear hx ha hD hZ
        have zb := bsz (World.block_lt_of_cell? _ _ hx0)
        obtain ⟨pa, ca, qa, da, rfl, rfl, rfl, rfl, rfl, -⟩ := HX.out.form
        have hlaw := a.many_law (M - acc)
        have hzz := HZ.out
        rw [hzz] at hle
        clear hzz
        by_cases hac : acc ≤ M
        · have hac1 : (acc : Int) ≤ (M : Int) := by omega
          go_wp2_with fail
          refine (IH.out a _ _ _ _ _ (M - acc) _ _ HX.out (by omega) (by omega) (by omega)).mono ?_
          rintro e w1 ⟨rfl, hb1⟩
          have ⟨cw1, fw1⟩ := bcell hb1
          have qw1 := hb1.size
          (try simp at qw1)
          (try have zw1w := bsz (show w.heap.size < w1.heap.size by omega))
          have hbb := Below.step hbr hb1
          go_wp2
          refine ⟨⟨k + 1, acc + a.many (M - acc), by omega, by go_num, by go_num, ?_, by omega, hbb⟩, by simp [intOf]; omega⟩
          rw [← HE.out, HD.out, if_pos hac]
        · have hac1 : ¬ (acc : Int) ≤ (M : Int) := by omega
          go_wp2
          go_ret
          exact ⟨ret_int (by rw [HSZ.out, ← HE.out, HD.out, if_neg hac]), hb⟩
      · obtain rfl : k = us.length := by omega
        have he := HE.out
        rw [List.drop_length, Fm.manys] at he
        have HE2 := Lib.hid he
        clear he
        go_wp2
        go_ret
        exact ⟨ret_int (by rw [HSZ.out, ← HE2.out]), hb⟩
set_option maxRecDepth 100000 in
set_option maxHeartbeats 1600000 in
theorem l8Forms_any {B : Nat → Prop} : ∀ (m : Nat) (t : Fm) (v0 v1 v2 v3 v4 : Value) (w : World), FmAt B m w t [v0, v1, v2, v3, v4] → t.asz ≤ 100000000 →
      Calls Tryz.prog 113 #[.agg #[v0, v1, v2, v3, v4]] w fun e w' => e = .returned (.bool t.form) ∧ Below w.heap.size w w' := by
  intro m
  induction m with
  | zero => intro t v0 v1 v2 v3 v4 w h; exact h.elim
  | succ m ih =>
    rintro ⟨op, t0, s, us⟩ v0 v1 v2 v3 v4 w hh hz
    have HH := Lib.hid hh
    obtain ⟨vn, va, vp, hcs, hop, hs, ht, hl⟩ := hh
    simp only [List.cons.injEq, and_true] at hcs
    obtain ⟨rfl, rfl, rfl, rfl, rfl⟩ := hcs
    rw [Fm.asz] at hz
    have hza : t0.sz ≤ 100000000 := by omega
    have hzs : Fm.aszs us ≤ 100000000 := by omega
    obtain ⟨p, c, rfl, hlen⟩ := hl.form
    obtain ⟨p1, c1, rfl, rfl, -, -⟩ := ht.form
    unfold maxLen at hlen
    have IH := Lib.hid ih
    have HL := Lib.hid hl
    have HSZ := Lib.hid (show (Fm.mk op t0 s us).form = ((Fm.mk op t0 s us).form1 && Fm.forms us) from rfl)
    clear ih hl
    cases hf1 : (Fm.mk op t0 s us).form1
    all_goals
      have HF1 := Lib.hid hf1
      go_enter Tryz.func113, Tryz.ntmps113
      go_wp2_with fail
      refine (l8Form_any (m + 1) _ _ _ _ _ _ _ (HH.out.below (by exact bel)) hza).mono ?_
      rintro e w1 ⟨rfl, hb1⟩
      have ⟨cw1, fw1⟩ := bcell hb1
      have qw1 := hb1.size
      (try simp at qw1)
      (try have zw1w := bsz (show w.heap.size < w1.heap.size by omega))
      rw [HF1.out]
      go_wp2
    · go_ret
      exact ⟨ret_bool (by rw [HSZ.out, HF1.out]; rfl), by exact bel⟩
    obtain ⟨W, hW⟩ : ∃ W, W = w1 := ⟨_, rfl⟩
    have hwb : W.cell? ⟨w.heap.size, 4, none⟩ = some (.slice p us.length c) := by rw [hW]; go_simp
    have hbW : Below w.heap.size w W := by rw [hW]; exact bel
    rw [← hW]
    clear hW
    go_loopw [3] (fun i wr => ∃ k : Nat, k ≤ us.length ∧ i = .int .i64 k ∧ Fm.forms us = Fm.forms (us.drop k) ∧ Below W.heap.size W wr) (fun i _ => us.length - (intOf i).toNat)
    case atStart => exact ⟨0, Nat.zero_le _, rfl, rfl, Below.refl _ _⟩
    case round =>
      obtain ⟨k, hk, rfl, he, hbr⟩ := hrel
      have HE := Lib.hid he
      clear he
      have hb := Below.step hbW hbr
      have hwr := (hbr.cell (World.block_lt_of_cell? W _ hwb)).trans hwb
      by_cases hlt : k < us.length
      · obtain ⟨b, o, rfl, hB, x0, x1, x2, x3, x4, hx0, hx1, hx2, hx3, hx4, hx⟩ := (HL.out.mono (SameOn.below hb) (fun _ h => h) (fun x cs _ hx => FmAt.below hb hx)).at5 hlt
        have hD := Fm.forms_drop us hlt
        have hZ := Fm.asz_arg us hlt
        obtain ⟨a, ha⟩ : ∃ a, us[k] = a := ⟨_, rfl⟩
        rw [ha] at hx
        rw [ha] at hD
        rw [ha] at hZ
        have HX := Lib.hid hx
        have HD := Lib.hid hD
        have HZ := Lib.hid hZ
        clear hx ha hD hZ
        have zb := bsz (World.block_lt_of_cell? _ _ hx0)
        obtain ⟨pa, ca, qa, da, rfl, rfl, rfl, rfl, rfl, -⟩ := HX.out.form
        have hzz : a.asz ≤ 100000000 := Nat.le_trans HZ.out hzs
        go_wp2_with fail
        refine (IH.out a _ _ _ _ _ _ HX.out hzz).mono ?_
        rintro e w1 ⟨rfl, hb1⟩
        have ⟨cw1, fw1⟩ := bcell hb1
        have qw1 := hb1.size
        (try simp at qw1)
        (try have zw1w := bsz (show w.heap.size < w1.heap.size by omega))
        have hbb := Below.step hbr hb1
        cases hfa : a.form
        all_goals
          have HFA := Lib.hid hfa
          go_wp2
        · go_ret
          exact ⟨ret_bool (by rw [HSZ.out, HE.out, HD.out, HFA.out]; simp), Below.step hbW hbb⟩
        · refine ⟨⟨k + 1, by omega, by go_num, ?_, hbb⟩, by simp [intOf]; omega⟩
          rw [HE.out, HD.out, HFA.out]; rfl
      · obtain rfl : k = us.length := by omega
        have he := HE.out
        rw [List.drop_length, Fm.forms] at he
        have HE2 := Lib.hid he
        clear he
        go_wp2
        go_ret
        exact ⟨ret_bool (by rw [HSZ.out, HF1.out, HE2.out]; rfl), hb⟩
theorem l8Good_any {B : Nat → Prop} (m : Nat) (t : Fm) (v0 v1 v2 v3 v4 : Value) (w : World) (h : FmAt B m w t [v0, v1, v2, v3, v4]) (hz : t.sz ≤ 100000000) (hz2 : t.asz ≤ 100000000) :
      Calls Tryz.prog 46 #[.agg #[v0, v1, v2, v3, v4]] w fun e w' => e = .returned (.bool t.good) ∧ Below w.heap.size w w' := by
  obtain ⟨p, c, q, d, rfl, rfl, rfl, rfl, rfl, -⟩ := h.form
  have H := Lib.hid h
  have HT := Lib.hid (show t.good = (decide ((t.many 40 : Int) ≤ 40) && t.form) by rw [Fm.good, ← Fm.many_iff]; congr 1; rw [decide_eq_decide]; omega)
  clear h
  go_enter Tryz.func46, Tryz.ntmps46
  go_wp2_with fail
  refine (l8Many_any m t _ _ _ _ _ 40 _ _ (H.out.below (by exact bel)) hz (by rfl) (by decide)).mono ?_
  rintro e w1 ⟨rfl, hb1⟩
  have ⟨cw1, fw1⟩ := bcell hb1
  have qw1 := hb1.size
  (try simp at qw1)
  (try have zw1w := bsz (show w.heap.size < w1.heap.size by omega))
  go_wp2_with (first | (go_at_call 113; refine (l8Forms_any m t _ _ _ _ _ _ (H.out.below (by (repeat (first | with_reducible (first | exact bR _ _ | assumption | refine bA ?_ _ | refine bS ?_ (by first | exact Nat.le_refl _ | (simp; done) | (simp; omega)) _) | assumption | exact bR _ _ | refine bD ?_ | refine bN ?_ _ | refine bT ?_ (by assumption))))) hz2).mono ?_; rintro e w2 ⟨rfl, hb2⟩; have ⟨cw2, fw2⟩ := bcell hb2; have qw2 := hb2.size; (try simp at qw2); (try have zw2w := bsz (show w.heap.size < w2.heap.size by omega)); (try have zw2w1 := bsz (show w1.heap.size < w2.heap.size by omega))))
  all_goals
    go_ret
    exact ⟨ret_bool (by rw [HT.out]; simp_all <;> (intros; omega)), by exact bel⟩
open Go.RowKit
theorem join_eq (sep : List UInt8) : ∀ l : List (List UInt8), Lib.join l sep = joinB sep l
  | [] => rfl
  | [a] => by rw [Lib.join_one]; rfl
  | a :: b :: l => by
    rw [joinB, ← join_eq sep (b :: l), Lib.join_cons, Lib.join_cons, Lib.joinTail]
    simp [Lib.joinTail, List.append_assoc]
theorem strs_map (l : List (List UInt8)) : (l.map (fun x => (⟨x.toArray⟩ : ByteArray))).map (·.data.toList) = l := by
  induction l with
  | nil => rfl
  | cons a l ih => rw [List.map_cons, List.map_cons, ih]
theorem join_own {base : Nat} {v : Value} {l : List (List UInt8)} (sp : List UInt8) (w : World) (h : w.ownsRow base 9 1 v l.length (strV l)) (hl : l.length ≤ 1000000) (hlen : (joinB sp l).length ≤ 140737488355328) :
    Calls Tryz.prog 261 #[v, .string ⟨sp.toArray⟩] w fun e w' => e = .returned (.string ⟨(joinB sp l).toArray⟩) ∧ Below w.heap.size w w' := by
  cases l with
  | nil =>
    rcases h.2 with ⟨rfl, _⟩ | ⟨g, cap, cur, rfl, _⟩
    · exact (Tryz.strings_Join_none _ _ _ _).mono fun e w' ⟨he, hw⟩ => ⟨he, hw ▸ Below.refl _ _⟩
    · exact (Tryz.strings_Join_none _ _ _ _).mono fun e w' ⟨he, hw⟩ => ⟨he, hw ▸ Below.refl _ _⟩
  | cons a l =>
    obtain ⟨g, cap, rfl⟩ := own_form h (by simp)
    have hlt := own_lt h
    have hcap : (a :: l).length ≤ cap := by
      rcases h.2 with ⟨h, _⟩ | ⟨g', cap', cur, hv, _, _, hc, _⟩
      · cases h
      · injection hv with e1 e2 e3; subst e3; exact hc
    have := Tryz.strings_Join g 0 cap ((a :: l).map (fun x => (⟨x.toArray⟩ : ByteArray))) ⟨sp.toArray⟩ w (fun j x hx => by
      rw [Nat.zero_add]
      have hj : j < (a :: l).length := by have := (List.getElem?_eq_some_iff.1 hx).1; simpa using this
      rw [h.cellAt j (by omega), strV, List.getElem?_map]
      rw [List.getElem?_map] at hx
      cases hq : (a :: l)[j]? with
      | none => rw [hq] at hx; cases hx
      | some y => rw [hq] at hx; simp only [Option.map_some, Option.some.injEq] at hx; subst hx; rfl) hlt (by simp at hl ⊢; omega) (by simpa using hcap) (by rw [strs_map, join_eq]; exact hlen)
    rw [strs_map, join_eq, List.length_map] at this
    exact this
theorem fmtL_map : ∀ us : List Tm, Tm.fmtL us = us.map Tm.fmt
  | [] => rfl
  | a :: us => by rw [Tm.fmtL, fmtL_map us]; rfl
theorem fmtL_len (us : List Tm) : (Tm.fmtL us).length = us.length := by rw [fmtL_map, List.length_map]
theorem fmtL_at {us : List Tm} {k : Nat} (h : k < us.length) : (Tm.fmtL us)[k]'(by rw [fmtL_len]; exact h) = us[k].fmt := by simp [fmtL_map]
theorem joinB_mem {sep : List UInt8} : ∀ {l : List (List UInt8)} {a : List UInt8}, a ∈ l → a.length ≤ (joinB sep l).length
  | [b], a, h => by simp at h; subst h; exact Nat.le_refl _
  | b :: c :: l, a, h => by
    rw [joinB]
    simp only [List.length_append]
    rcases List.mem_cons.1 h with rfl | h
    · omega
    · have := joinB_mem (sep := sep) h; omega
theorem fmt_arg {us : List Tm} {k : Nat} (h : k < us.length) (sep : List UInt8) : (us[k]).fmt.length ≤ (joinB sep (Tm.fmtL us)).length := by
  refine joinB_mem ?_
  rw [fmtL_map]
  exact List.mem_map_of_mem (List.getElem_mem h)
theorem nodess_arg {us : List Tm} (hn : Tm.nodess us = true) {k : Nat} (h : k < us.length) : (us[k]).nodes = true := by
  induction us generalizing k with
  | nil => simp at h
  | cons a us ih =>
    rw [Tm.nodess, Bool.and_eq_true] at hn
    cases k with
    | zero => exact hn.1
    | succ k => exact ih hn.2 (by simpa using h)
theorem nodes_len {n : ByteArray} {us : List Tm} (h : (Tm.mk n us).nodes = true) : us.length ≤ 4 := by
  rw [Tm.nodes] at h
  split at h
  · cases us <;> simp at h ⊢
  · simp only [Bool.and_eq_true, decide_eq_true_eq] at h; exact h.1.2
theorem nodes_noEq {t : Tm} (h : t.nodes = true) : isEq t.n = false := by
  obtain ⟨n, us⟩ := t
  have := word_not61 (Tm.nodes_mk h).1
  simpa [isEq, Tm.n] using this
def TextsRel (l : List (List UInt8)) (g : Nat) (u : Value) (w : World) (out i : Value) (wr : World) : Prop :=
  ∃ k : Nat, k ≤ l.length ∧ i = .int .i64 k ∧ wr.ownsRow (g + 1) 9 1 out k (strV (l.take k)) ∧ wr.cell? ⟨g, 0, none⟩ = some u ∧ Below w.heap.size w wr
theorem strV_take {l : List (List UInt8)} {k : Nat} (h : k < l.length) : strV (l.take (k + 1)) = strV (l.take k) ++ [.string ⟨(l[k]).toArray⟩] := by
  rw [List.take_succ_eq_append_getElem h, strV_snoc]
set_option maxRecDepth 100000 in
set_option maxHeartbeats 1600000 in
theorem formatTerm_any {B : Nat → Prop} : ∀ (m : Nat) (t : Tm) (v0 v1 : Value) (w : World), TmAt B m w t [v0, v1] → t.nodes = true → t.fmt.length ≤ 1000000000000 →
      Calls Tryz.prog 230 #[.agg #[v0, v1]] w fun e w' => e = .returned (.string ⟨t.fmt.toArray⟩) ∧ Below w.heap.size w w' := by
  intro m
  induction m with
  | zero => intro t v0 v1 w h; exact h.elim
  | succ m ih =>
    rintro ⟨s, us⟩ v0 v1 w ⟨va, hcs, hs, hl⟩ hn hz
    simp only [List.cons.injEq, and_true] at hcs
    obtain ⟨rfl, rfl⟩ := hcs
    obtain ⟨p, c, rfl, -⟩ := hl.form
    have hlen := nodes_len hn
    have HQ := Lib.hid (nodes_noEq hn)
    have HM := Lib.hid (Tm.fmt_mk (us := us) (word_not61 (Tm.nodes_mk hn).1))
    have HN := Lib.hid (Tm.nodes_mk hn).2
    have IH := Lib.hid ih
    have HL := Lib.hid hl
    clear ih hl hn
    by_cases h0 : us = []
    · subst h0
      go_enter Tryz.func230, Tryz.ntmps230
      go_wp2_with fail
      refine (isEquality_any _ _ _).mono ?_
      rintro e w1 ⟨rfl, hb1⟩
      have ⟨cw1, fw1⟩ := bcell hb1
      have qw1 := hb1.size
      (try simp at qw1)
      (try have zw1w := bsz (show w.heap.size < w1.heap.size by omega))
      rw [show isEq s = false from HQ.out]
      go_wp2
      go_ret
      exact ⟨ret_strs (by rw [HM.out]; rfl), by exact bel⟩
    · have hm := HM.out
      have hie : us.isEmpty = false := by
        cases us with
        | nil => exact absurd rfl h0
        | cons a l => rfl
      rw [hie, if_neg (by decide)] at hm
      have hfm : (Tm.mk s us).fmt.length = s.size + 1 + (joinB [44] (Tm.fmtL us)).length + 1 := by rw [hm]; simp; omega
      have hjl : s.size + 1 + (joinB [44] (Tm.fmtL us)).length + 1 ≤ 1000000000000 := by omega
      have HM2 := Lib.hid hm
      have hl0 : 0 < us.length := List.length_pos_iff.2 h0
      clear hfm hz hm HM hie
      go_enter Tryz.func230, Tryz.ntmps230
      go_wp2_with fail
      refine (isEquality_any _ _ _).mono ?_
      rintro e w1 ⟨rfl, hb1⟩
      have ⟨cw1, fw1⟩ := bcell hb1
      have qw1 := hb1.size
      (try simp at qw1)
      (try have zw1w := bsz (show w.heap.size < w1.heap.size by omega))
      rw [show isEq s = false from HQ.out]
      go_wp2
      go_loopw [3, 30] (TextsRel (Tm.fmtL us) w.heap.size (.string s) w) (fun _ i _ => us.length - (intOf i).toNat)
      case atStart => exact ⟨0, Nat.zero_le _, rfl, row_empty _ _ _ _ (by omega), by go_simp, by exact bel⟩
      case round =>
        obtain ⟨k, hk, rfl, ho, hc, hb⟩ := hrel
        have HO := Lib.hid ho
        rw [fmtL_len] at hk
        have hqr := hb.size
        have hgr : w.heap.size < wr.heap.size := World.block_lt_of_cell? _ _ hc
        clear ho
        by_cases hlt : k < us.length
        · obtain ⟨b, o, rfl, hB, x0, x1, hx0, hx1, hx⟩ := (HL.out.mono (SameOn.below hb) (fun _ h => h) (fun x cs _ hx => TmAt.below hb hx)).at2 hlt
          have hS := fmtL_at hlt
          have hF := fmt_arg hlt [44]
          have hN := nodess_arg HN.out hlt
          obtain ⟨a, ha⟩ : ∃ a, us[k] = a := ⟨_, rfl⟩
          rw [ha] at hx
          rw [ha] at hS
          rw [ha] at hF
          rw [ha] at hN
          have HX := Lib.hid hx
          have HS := Lib.hid hS
          have HF := Lib.hid hF
          have HN := Lib.hid hN
          clear hx ha hS hF hN
          have zb := bsz (World.block_lt_of_cell? _ _ hx0)
          obtain ⟨pa, ca, rfl, rfl, -, -⟩ := HX.out.form
          have hfl : a.fmt.length ≤ 1000000000000 := by have := HF.out; omega
          go_wp2_with fail
          refine (IH.out a _ _ _ (HX.out.below (by exact bel)) HN.out hfl).mono ?_
          rintro e w2 ⟨rfl, hb2⟩
          have ⟨cw2, fw2⟩ := bcell hb2
          have qw2 := hb2.size
          (try simp at qw2)
          (try have zw2w := bsz (show w.heap.size < w2.heap.size by omega))
          (try have zw2w1 := bsz (show w1.heap.size < w2.heap.size by omega))
          have HO1 := Lib.hid (own_below HO.out (show Below wr.heap.size wr w2 by exact bel))
          have HC1 := Lib.hid ((show Below wr.heap.size wr w2 by exact bel).cell hgr |>.trans hc)
          have hb3 : Below w.heap.size w w2 := by exact bel
          clear hc
          go_wp2_with (at_builtin; refine wpList_app1 rfl (.tmp 34) (.tmp 37) _ rfl (w.heap.size + 1) 9 1 16 elemStr _ _ _ rfl w2 #[.string ⟨a.fmt.toArray⟩] rfl _ (by simp) rfl HO1.out rfl (by simp [Value.oneCell']) (by omega) (by unfold maxLen; omega) (by omega) ?_; intro v1 w3 hown1 hg1 hnr1 hlt1)
          refine ⟨⟨v1, _, _, ⟨k + 1, by rw [fmtL_len]; omega, by go_num, ?_, ?_, hb3.grown hg1 (by omega) (fun k hk => by have := own_base HO1.out k hk; omega)⟩, rfl, rfl, rfl⟩, by simp [intOf]; omega⟩
          · rw [strV_take (by rw [fmtL_len]; omega), HS.out]; exact hown1
          · exact grown_cell hg1 HC1.out (fun e => by have := own_base HO1.out _ e.symm; omega)
        · obtain rfl : k = us.length := by omega
          have ho := HO.out
          rw [← fmtL_len, List.take_length] at ho
          have HO2 := Lib.hid ho
          clear ho HO
          go_wp2
          obtain ⟨C, HC0⟩ := class_of (InF wr.heap.size _ [(⟨w.heap.size, 0, none⟩, .string s)] [] [])
          have HC := Lib.hid HC0
          clear HC0
          refine wp_region_flow (C := C) (by kernel_rfl) (by kernel_rfl) (fun L hL => (HC.out _ _).2 (InF.start (by first | (intro _ hs; cases hs; done) | (simp only [List.forall_mem_cons]; go_simp)) (by first | (intro _ hs; cases hs; done) | (simp only [List.forall_mem_cons]; go_simp)) (by first | (intro _ hs; cases hs; done) | (simp only [List.forall_mem_cons]; go_simp)) (by first | (intro _ hs; cases hs; done) | (simp only [List.forall_mem_cons]; go_simp)) L hL)) ?_
          repeat (first | ((first | apply flow_free rfl | (apply flow_yes; (case hw => go_simp))); (intro L w' hun hrd hC; have hC := (HC.out _ _).1 hC; have hb' := hC.below; (try have hw' : Below w.heap.size w w' := by first | exact Below.trans (by (repeat (first | with_reducible (first | exact bR _ _ | assumption | refine bA ?_ _ | refine bS ?_ (by first | exact Nat.le_refl _ | (simp; done) | (simp; omega)) _) | assumption | exact bR _ _ | refine bD ?_ | refine bN ?_ _ | refine bT ?_ (by assumption)))) hb' | ((repeat (first | with_reducible (first | exact bR _ _ | assumption | refine bA ?_ _ | refine bS ?_ (by first | exact Nat.le_refl _ | (simp; done) | (simp; omega)) _) | assumption | exact bR _ _ | refine bD ?_ | refine bN ?_ _ | refine bT ?_ (by assumption))); done)); have hf' := hC.cell; (try simp only [List.forall_mem_cons] at hf'); go_simp; first | exact ⟨(HC.out _ _).2 (hC.skip _ (by rfl)), rfl⟩ | (rw [if_neg]; (exact ⟨(HC.out _ _).2 (hC.skip _ (by rfl)), rfl⟩); omega) | (go_at_call 261; refine (join_own [44] _ (own_below HO2.out hb') (by rw [fmtL_len]; omega) (by omega)).mono ?_; rintro e w1 ⟨rfl, hb1⟩; exact ⟨rfl, (HC.out _ _).2 ((hC.next (by first | (simp; done) | (simp; omega) | omega) hb1).skip _ (by rfl))⟩)); go_simp) | (apply flow_no; (case hw => (go_simp; try (intro hh; cases hh))); (intro L w' _ _ hC; exact (HC.out _ _).2 (((HC.out _ _).1 hC).skip _ (by rfl))); go_simp))
          refine flow_nil ?_
          intro L wz hL hz
          have hz := (HC.out _ _).1 hz
          have hbz := hz.below
          have hcz := hz.cell
          try simp only [List.forall_mem_cons] at hcz
          have hdz := hz.done
          try simp only [List.forall_mem_cons] at hdz
          (try have hwz : Below w.heap.size w wz := by first | exact Below.trans (by (repeat (first | with_reducible (first | exact bR _ _ | assumption | refine bA ?_ _ | refine bS ?_ (by first | exact Nat.le_refl _ | (simp; done) | (simp; omega)) _) | assumption | exact bR _ _ | refine bD ?_ | refine bN ?_ _ | refine bT ?_ (by assumption)))) hbz | ((repeat (first | with_reducible (first | exact bR _ _ | assumption | refine bA ?_ _ | refine bS ?_ (by first | exact Nat.le_refl _ | (simp; done) | (simp; omega)) _) | assumption | exact bR _ _ | refine bD ?_ | refine bN ?_ _ | refine bT ?_ (by assumption))); done))
          go_wp2
          go_ret
          exact ⟨ret_strs (by rw [HM2.out]; simp), by exact bel⟩
theorem joinB_snoc (sep : List UInt8) : ∀ (l : List (List UInt8)) (a : List UInt8), l ≠ [] → joinB sep (l ++ [a]) = joinB sep l ++ sep ++ a
  | [b], a, _ => rfl
  | b :: c :: l, a, _ => by
    have := joinB_snoc sep (c :: l) a (by simp)
    rw [List.cons_append] at this
    rw [List.cons_append, List.cons_append, joinB, this, joinB]
    simp only [List.append_assoc]
def accT (hd sep : List UInt8) (l : List (List UInt8)) (k : Nat) : List UInt8 := if k = 0 then [] else hd ++ joinB sep (l.take k)
theorem accT_zero (hd sep : List UInt8) (l : List (List UInt8)) : accT hd sep l 0 = [] := rfl
theorem accT_one (hd sep : List UInt8) (l : List (List UInt8)) (h : 0 < l.length) : accT hd sep l 1 = hd ++ l[0] := by
  rw [accT, if_neg (by omega)]
  cases l with
  | nil => simp at h
  | cons a l => rfl
theorem accT_succ (hd sep : List UInt8) (l : List (List UInt8)) {k : Nat} (hk : k ≠ 0) (h : k < l.length) : accT hd sep l (k + 1) = accT hd sep l k ++ sep ++ l[k] := by
  rw [accT, if_neg (by omega), accT, if_neg hk, List.take_succ_eq_append_getElem h, joinB_snoc]
  · simp only [List.append_assoc]
  · intro e
    have := congrArg List.length e
    rw [List.length_take, List.length_nil] at this
    omega
theorem accT_all (hd sep : List UInt8) (l : List (List UInt8)) (h : 0 < l.length) : accT hd sep l l.length = hd ++ joinB sep l := by
  rw [accT, if_neg (by omega), List.take_length]
theorem joinB_take (sep : List UInt8) : ∀ (l : List (List UInt8)) (k : Nat), (joinB sep (l.take k)).length ≤ (joinB sep l).length
  | [], k => by simp
  | [a], 0 => by simp [joinB]
  | [a], k + 1 => by simp
  | a :: b :: l, 0 => by simp [joinB]
  | a :: b :: l, 1 => by simp [joinB]
  | a :: b :: l, k + 2 => by
    have := joinB_take sep (b :: l) (k + 1)
    rw [List.take_succ_cons] at this
    rw [List.take_succ_cons, List.take_succ_cons, joinB, joinB]
    simp only [List.length_append]
    omega
theorem accT_len (hd sep : List UInt8) (l : List (List UInt8)) (k : Nat) : (accT hd sep l k).length ≤ hd.length + (joinB sep l).length := by
  unfold accT
  split
  · simp
  · have := joinB_take sep l k
    simp only [List.length_append]; omega
set_option maxRecDepth 100000 in
set_option maxHeartbeats 1600000 in
theorem l3Term_any {B : Nat → Prop} : ∀ (m : Nat) (t : Tm) (v0 v1 : Value) (w : World), TmAt B m w t [v0, v1] → t.nodes = true → t.fmt.length ≤ 1000000000000 →
      Calls Tryz.prog 255 #[.agg #[v0, v1]] w fun e w' => e = .returned (.string ⟨t.fmt.toArray⟩) ∧ Below w.heap.size w w' := by
  intro m
  induction m with
  | zero => intro t v0 v1 w h; exact h.elim
  | succ m ih =>
    rintro ⟨s, us⟩ v0 v1 w ⟨va, hcs, hs, hl⟩ hn hz
    simp only [List.cons.injEq, and_true] at hcs
    obtain ⟨rfl, rfl⟩ := hcs
    obtain ⟨p, c, rfl, -⟩ := hl.form
    have hlen := nodes_len hn
    have hq := isEq_list (nodes_noEq hn)
    simp only [Tm.n] at hq
    have HM := Lib.hid (Tm.fmt_mk (us := us) (word_not61 (Tm.nodes_mk hn).1))
    have HN := Lib.hid (Tm.nodes_mk hn).2
    have hfm : us ≠ [] → (Tm.mk s us).fmt = s.data.toList ++ [40] ++ joinB [44] (Tm.fmtL us) ++ [41] := fun h => by
      rw [HM.out, if_neg (by simpa using h)]
    have HF := Lib.hid hfm
    have hjl : s.size + 1 + (joinB [44] (Tm.fmtL us)).length + 1 ≤ 1000000000002 := by
      by_cases h : us = []
      · subst h; rw [HM.out] at hz; simp [Tm.fmtL, joinB] at hz ⊢; omega
      · rw [hfm h] at hz; simp at hz ⊢; omega
    have IH := Lib.hid ih
    have HL := Lib.hid hl
    clear ih hl hn hz hfm
    go_enter Tryz.func255, Tryz.ntmps255
    go_wp2
    obtain ⟨W, hW⟩ : ∃ W : World, W = w.alloc (.cells #[.string s, .slice p us.length c] 41) := ⟨_, rfl⟩
    have hwb : W.cell? ⟨w.heap.size, 1, none⟩ = some (.slice p us.length c) := by rw [hW]; go_simp
    have hbW : Below w.heap.size w W := by rw [hW]; exact bel
    rw [← hW]
    clear hW
    go_loopw [3, 4] (fun x i wr => ∃ k : Nat, k ≤ us.length ∧ i = .int .i64 k ∧ x = .string ⟨(s.data.toList ++ accT [40] [44] (Tm.fmtL us) k).toArray⟩ ∧ Below W.heap.size W wr) (fun _ i _ => us.length - (intOf i).toNat)
    case atStart => exact ⟨0, Nat.zero_le _, rfl, by rw [accT_zero, List.append_nil], Below.refl _ _⟩
    case round =>
      obtain ⟨k, hk, rfl, rfl, hbr⟩ := hrel
      have hb := Below.step hbW hbr
      have hwr := (hbr.cell (World.block_lt_of_cell? W _ hwb)).trans hwb
      have hal := accT_len [40] [44] (Tm.fmtL us) k
      simp only [List.length_cons, List.length_nil] at hal
      by_cases hlt : k < us.length
      · obtain ⟨b, o, rfl, hB, x0, x1, hx0, hx1, hx⟩ := (HL.out.mono (SameOn.below hb) (fun _ h => h) (fun x cs _ hx => TmAt.below hb hx)).at2 hlt
        have hS := fmtL_at hlt
        have hF := fmt_arg hlt [44]
        have hN := nodess_arg HN.out hlt
        obtain ⟨a, ha⟩ : ∃ a, us[k] = a := ⟨_, rfl⟩
        rw [ha] at hx
        rw [ha] at hS
        rw [ha] at hF
        rw [ha] at hN
        have HX := Lib.hid hx
        have HS := Lib.hid hS
        have HF := Lib.hid hF
        have HN := Lib.hid hN
        clear hx ha hS hF hN
        have zb := bsz (World.block_lt_of_cell? _ _ hx0)
        obtain ⟨pa, ca, rfl, rfl, -, -⟩ := HX.out.form
        have hfl : a.fmt.length ≤ 1000000000000 := by have := HF.out; omega
        by_cases hk0 : k = 0
        · have hk1 : ((k : Int) == 0) = true := by simp; omega
          have HA0 := Lib.hid (show accT [40] [44] (Tm.fmtL us) k = [] by rw [hk0]; rfl)
          have HA := Lib.hid (show accT [40] [44] (Tm.fmtL us) (k + 1) = [40] ++ (Tm.fmtL us)[k]'(by rw [fmtL_len]; exact hlt) by subst hk0; exact accT_one [40] [44] (Tm.fmtL us) (by rw [fmtL_len]; exact hlt))
          generalize accT [40] [44] (Tm.fmtL us) k = x at *
          clear hk0
          go_wp2_with fail
          refine (IH.out a _ _ _ (HX.out.below (by exact bel)) HN.out hfl).mono ?_
          rintro e w1 ⟨rfl, hb1⟩
          have ⟨cw1, fw1⟩ := bcell hb1
          have qw1 := hb1.size
          (try simp at qw1)
          (try have zw1w := bsz (show w.heap.size < w1.heap.size by omega))
          go_wp2
          refine ⟨⟨k + 1, by omega, by go_num, ?_, Below.step hbr hb1⟩, by simp [intOf]; omega⟩
          rw [HA.out, HS.out, HA0.out]
          exact congrArg Value.string (by apply ByteArray.ext; simp)
        · have hk1 : ((k : Int) == 0) = false := by simp; omega
          have HA := Lib.hid (accT_succ [40] [44] (Tm.fmtL us) hk0 (by rw [fmtL_len]; exact hlt))
          generalize accT [40] [44] (Tm.fmtL us) k = x at *
          go_wp2_with fail
          refine (IH.out a _ _ _ (HX.out.below (by exact bel)) HN.out hfl).mono ?_
          rintro e w1 ⟨rfl, hb1⟩
          have ⟨cw1, fw1⟩ := bcell hb1
          have qw1 := hb1.size
          (try simp at qw1)
          (try have zw1w := bsz (show w.heap.size < w1.heap.size by omega))
          go_wp2
          refine ⟨⟨k + 1, by omega, by go_num, ?_, Below.step hbr hb1⟩, by simp [intOf]; omega⟩
          rw [HA.out, HS.out]
          exact congrArg Value.string (by apply ByteArray.ext; simp)
      · obtain rfl : k = us.length := by omega
        by_cases h0 : us = []
        · subst h0
          go_wp2
          go_ret
          exact ⟨ret_str (by rw [HM.out]; simp [accT]), hb⟩
        · have hl0 : 0 < (us.length : Int) := by have := List.length_pos_iff.2 h0; omega
          have HA := Lib.hid (show accT [40] [44] (Tm.fmtL us) us.length = [40] ++ joinB [44] (Tm.fmtL us) by
            have := accT_all [40] [44] (Tm.fmtL us) (by rw [fmtL_len]; omega)
            rw [fmtL_len] at this; exact this)
          have HF0 := Lib.hid (HF.out h0)
          generalize accT [40] [44] (Tm.fmtL us) us.length = x at *
          go_wp2
          go_ret
          exact ⟨ret_strs (by rw [HF0.out, HA.out]; simp), hb⟩
open Go.RowKit
theorem TmAt.pair {B : Nat → Prop} {m : Nat} {w : World} {a b : Tm} {p : Option Addr} {c : Nat} (h : ListAt B w 2 (TmAt B m w) (.slice p 2 c) [a, b]) :
    ∃ g o pa ca pb cb, p = some ⟨g, o, none⟩ ∧ w.cell? ⟨g, o, none⟩ = some (.string a.n) ∧ w.cell? ⟨g, o + 1, none⟩ = some (.slice pa a.us.length ca) ∧ w.cell? ⟨g, o + 2, none⟩ = some (.string b.n) ∧ w.cell? ⟨g, o + 3, none⟩ = some (.slice pb b.us.length cb) ∧
      TmAt B m w a [.string a.n, .slice pa a.us.length ca] ∧ TmAt B m w b [.string b.n, .slice pb b.us.length cb] := by
  obtain ⟨g, o, rfl, _, x0, x1, hx0, hx1, hx⟩ := h.at2 (i := 0) (by simp)
  obtain ⟨g', o', he, _, y0, y1, hy0, hy1, hy⟩ := h.at2 (i := 1) (by simp)
  simp only [Option.some.injEq, Addr.mk.injEq, and_true] at he
  obtain ⟨rfl, rfl⟩ := he
  obtain ⟨pa, ca, rfl, rfl, -, -⟩ := hx.form
  obtain ⟨pb, cb, rfl, rfl, -, -⟩ := hy.form
  exact ⟨g, o, pa, ca, pb, cb, rfl, by simpa using hx0, by simpa using hx1, by simpa using hy0, by simpa using hy1, hx, hy⟩
open Go.RowKit
mutual
theorem Tm.sz_wt : ∀ t : Tm, t.sz ≤ t.wt + 1
  | .mk n us => by have := Tm.szs_wt us; rw [Tm.sz, Tm.wt]; omega
theorem Tm.szs_wt : ∀ us : List Tm, Tm.szs us ≤ us.length + Tm.wts us
  | [] => by simp [Tm.szs]
  | a :: us => by have := Tm.sz_wt a; have := Tm.szs_wt us; rw [Tm.szs, Tm.wts, List.length_cons]; omega
end
mutual
theorem Fm.sz_wt : ∀ t : Fm, t.sz ≤ t.wt + 1
  | .mk op a v us => by have := Fm.szs_wt us; rw [Fm.sz, Fm.wt]; omega
theorem Fm.szs_wt : ∀ us : List Fm, Fm.szs us ≤ us.length + Fm.wts us
  | [] => by simp [Fm.szs]
  | a :: us => by have := Fm.sz_wt a; have := Fm.szs_wt us; rw [Fm.szs, Fm.wts, List.length_cons]; omega
end
mutual
theorem Fm.asz_wt : ∀ t : Fm, t.asz ≤ t.wt + 1
  | .mk op a v us => by have := Fm.aszs_wt us; have := a.sz_wt; rw [Fm.asz, Fm.wt]; omega
theorem Fm.aszs_wt : ∀ us : List Fm, Fm.aszs us ≤ us.length + Fm.wts us
  | [] => by simp [Fm.aszs]
  | a :: us => by have := Fm.asz_wt a; have := Fm.aszs_wt us; rw [Fm.aszs, Fm.wts, List.length_cons]; omega
end
open Go.RowKit
theorem Tm.wts_snoc (us : List Tm) (a : Tm) : Tm.wts (us ++ [a]) = Tm.wts us + a.wt := by
  induction us with
  | nil => simp [Tm.wts]
  | cons b us ih => rw [List.cons_append, Tm.wts, ih, Tm.wts]; omega
theorem rWordL_le (L : List UInt8) (k : Nat) (hk : k ≤ L.length) : k + (rWordL L k).length ≤ L.length := by
  have : (rWordL L k).length ≤ (L.drop k).length := (List.takeWhile_sublist _).length_le
  rw [List.length_drop] at this; omega
theorem size_arr (l : List UInt8) : (⟨l.toArray⟩ : ByteArray).size = l.length := by simp [ByteArray.size]
theorem get_lt {L : List UInt8} {k : Nat} {c : UInt8} (h : L[k]? = some c) : k < L.length := (List.getElem?_eq_some_iff.1 h).1
mutual
theorem rTerm_wt (L : List UInt8) : ∀ (f k : Nat) (t : Tm) (j : Nat), k ≤ L.length → rTerm L f k = some (t, j) → t.wt + k ≤ j ∧ j ≤ L.length ∧ k < j
  | 0, _, _, _, _, h => by rw [rTerm] at h; cases h
  | f + 1, k, t, j, hk, h => by
    have h1 := rWordL_le L k hk
    rw [rTerm] at h
    split at h
    · cases h
    · rename_i h0
      have h2 : 0 < (rWordL L k).length := List.length_pos_iff.2 (by simpa using h0)
      split at h
      · rename_i h3
        have := rArgs_wt L f (rWordL L k) [] _ t j (get_lt h3) h
        simp only [List.length_nil, Tm.wts] at this
        omega
      · injection h with h
        injection h with ht hj
        subst ht hj
        simp only [Tm.wt, Tm.wts, List.length_nil, size_arr]; omega
theorem rArgs_wt (L : List UInt8) : ∀ (f : Nat) (n : List UInt8) (acc : List Tm) (e : Nat) (t : Tm) (j : Nat), e < L.length → rArgs L n f acc e = some (t, j) → t.wt + e ≤ j + n.length + acc.length + Tm.wts acc ∧ j ≤ L.length ∧ e < j
  | 0, _, _, _, _, _, _, h => by rw [rArgs] at h; cases h
  | f + 1, n, acc, e, t, j, he, h => by
    rw [rArgs] at h
    split at h
    · cases h
    · rename_i a i ha
      have h1 := rTerm_wt L f (e + 1) a i he ha
      split at h
      · rename_i h2
        have := rArgs_wt L f n (acc ++ [a]) i t j (get_lt h2) h
        rw [Tm.wts_snoc, List.length_append, List.length_singleton] at this
        omega
      · split at h
        · rename_i h2
          have := get_lt h2
          injection h with h
          injection h with ht hj
          subst ht hj
          simp only [Tm.wt, Tm.wts_snoc, List.length_append, List.length_singleton, size_arr]; omega
        · cases h
end
open Go.RowKit
theorem l3Word_any (c : UInt8) (w : World) : Calls Tryz.prog 272 #[.int .u8 (c.toNat : Int)] w fun e w' => e = .returned (.bool (wordC c)) ∧ w = w' := by
  have h95 : ((c.toNat : Int) == 95) = (c == 95) := by
    rw [Bool.eq_iff_iff, beq_iff_eq, beq_iff_eq]
    exact ⟨fun e => UInt8.toNat_inj.1 (show c.toNat = 95 by omega), fun e => by subst e; rfl⟩
  have e95 : (c = 95) = (c.toNat = 95) := propext ⟨fun e => by rw [e]; rfl, fun e => UInt8.toNat_inj.1 e⟩
  go_enter Tryz.func272, Tryz.ntmps272
  go_wp2_with (first | (go_at_call 137; refine (l2Small_any _ _).mono ?_; rintro e w' ⟨rfl, rfl⟩))
  all_goals go_ret
  all_goals refine ⟨ret_bool ?_, rfl⟩
  all_goals rw [Bool.eq_iff_iff]
  all_goals (simp_all only [wordC, loC, upC, diC, smC, decide_eq_true_eq, Bool.and_eq_true, Bool.or_eq_true, true_iff, not_and, not_or, beq_iff_eq])
  all_goals omega
theorem isPrefixOf_take (t l : List UInt8) : t.isPrefixOf l = decide (l.take t.length = t) := by
  rw [Bool.eq_iff_iff, List.isPrefixOf_iff_prefix, decide_eq_true_eq, List.prefix_iff_eq_take]
  exact ⟨fun h => h.symm, fun h => h.symm⟩
theorem starts_list (s t : ByteArray) (k : Nat) (hk : k ≤ s.size) : t.data.toList.isPrefixOf (s.data.toList.drop k) = (decide (k + t.size ≤ s.size) && decide (s.extract k (k + t.size) = t)) := by
  rw [isPrefixOf_take, Bool.eq_iff_iff, Bool.and_eq_true, decide_eq_true_eq, decide_eq_true_eq, decide_eq_true_eq]
  constructor
  · intro h
    have hl := congrArg List.length h
    rw [List.length_take, List.length_drop, ← size_list, ← size_list] at hl
    refine ⟨by omega, ?_⟩
    apply ByteArray.ext; apply Array.ext'
    rw [extract_list, ← h, List.drop_take, size_list t]
    congr 1; omega
  · rintro ⟨h1, h2⟩
    have h3 := congrArg (fun b : ByteArray => b.data.toList) h2
    simp only [extract_list, List.drop_take] at h3
    rw [← size_list t, ← h3, show k + t.size - k = t.size by omega]
theorem starts_eq (s t : ByteArray) (k m : Nat) : (List.drop k (List.take m s.data.toList) == t.data.toList) = decide (s.extract k m = t) := by
  rw [Bool.eq_iff_iff, beq_iff_eq, decide_eq_true_eq, ← extract_list]
  exact ⟨fun h => ByteArray.ext (Array.ext' h), fun h => by rw [h]⟩
set_option maxRecDepth 100000 in
set_option maxHeartbeats 1600000 in
theorem l8Starts_any (s t : ByteArray) (k : Nat) (w : World) (hk : k ≤ s.size) (hs : s.size ≤ 1000000000000) (ht : t.size ≤ 1000000) :
    Calls Tryz.prog 251 #[.string s, .int .i64 (k : Nat), .string t] w fun e w' => e = .returned (.bool (t.data.toList.isPrefixOf (s.data.toList.drop k))) ∧ w = w' := by
  have HS := Lib.hid (starts_list s t k hk)
  go_enter Tryz.func251, Tryz.ntmps251
  by_cases h1 : ((k : Int) + t.size ≤ s.size)
  · have HD := Lib.hid (show decide (k + t.size ≤ s.size) = true by simp; omega)
    go_wp2
    go_ret
    refine ⟨ret_bool ?_, rfl⟩
    rw [HS.out, HD.out, Bool.true_and]
    rw [ByteArray.toList_eq, ByteArray.toList_eq]
    exact starts_eq s t k _
  · have HD := Lib.hid (show decide (k + t.size ≤ s.size) = false by simp; omega)
    go_wp2
    go_ret
    exact ⟨ret_bool (by rw [HS.out, HD.out, Bool.false_and]), rfl⟩
end Go.Proofs.YtkgfanajgdelcaaGreatDoor
