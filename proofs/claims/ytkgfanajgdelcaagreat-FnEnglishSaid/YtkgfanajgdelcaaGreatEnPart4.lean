import Derived.Test.YtkgfanajgdelcaaGreatEnPart3
namespace Go.Proofs.YtkgfanajgdelcaaGreat
set_option maxRecDepth 100000
open Go.RowKit
theorem isValidTerm_any {B : Nat → Prop} (m : Nat) (t : Tm) (v0 v1 : Value) (w : World) (h : TmAt B m w t [v0, v1]) (hz : t.sz ≤ 100000000) :
      Calls Tryz.prog 103 #[.agg #[v0, v1]] w fun e w' => e = .returned (.bool t.good) ∧ Below w.heap.size w w' := by
  obtain ⟨p, c, rfl, rfl, -, -⟩ := h.form
  have H := Lib.hid h
  have HT := Lib.hid (show t.good = (t.small && t.nodes) from rfl)
  clear h
  cases h1 : t.small
  all_goals
    have H1 := Lib.hid h1
    go_enter Tryz.func103, Tryz.ntmps103
    go_wp2_with (first | (go_at_call 100; refine (isSmall_any m t _ _ _ (H.out.below (by (repeat (first | with_reducible (first | exact bR _ _ | assumption | refine bA ?_ _ | refine bS ?_ (by first | exact Nat.le_refl _ | (simp; done) | (simp; omega)) _) | assumption | exact bR _ _ | refine bD ?_ | refine bN ?_ _ | refine bT ?_ (by assumption))))) hz).mono ?_; rintro e w1 ⟨rfl, hb1⟩; have ⟨cw1, fw1⟩ := bcell hb1; have qw1 := hb1.size; (try simp at qw1); (try have zw1w := bsz (show w.heap.size < w1.heap.size by omega))) | (go_at_call 101; refine (hasNames_any m t _ _ _ (H.out.below (by (repeat (first | with_reducible (first | exact bR _ _ | assumption | refine bA ?_ _ | refine bS ?_ (by first | exact Nat.le_refl _ | (simp; done) | (simp; omega)) _) | assumption | exact bR _ _ | refine bD ?_ | refine bN ?_ _ | refine bT ?_ (by assumption)))))).mono ?_; rintro e w2 ⟨rfl, hb2⟩; have ⟨cw2, fw2⟩ := bcell hb2; have qw2 := hb2.size; (try simp at qw2); (try have zw2w := bsz (show w.heap.size < w2.heap.size by omega)); (try have zw2w1 := bsz (show w1.heap.size < w2.heap.size by omega))))
    go_ret
    exact ⟨ret_bool (by rw [HT.out, H1.out]; rfl), by exact bel⟩
theorem l2Good_any {B : Nat → Prop} (m : Nat) (t : Tm) (v0 v1 : Value) (w : World) (h : TmAt B m w t [v0, v1]) (hz : t.sz ≤ 100000000) :
      Calls Tryz.prog 90 #[.agg #[v0, v1]] w fun e w' => e = .returned (.bool t.good) ∧ Below w.heap.size w w' := by
  obtain ⟨p, c, rfl, rfl, -, -⟩ := h.form
  have H := Lib.hid h
  have HT := Lib.hid (show t.good = (t.small && t.nodes) from rfl)
  clear h
  cases h1 : t.small
  all_goals
    have H1 := Lib.hid h1
    go_enter Tryz.func90, Tryz.ntmps90
    go_wp2_with (first | (go_at_call 87; refine (l2Fits_any m t _ _ _ (H.out.below (by (repeat (first | with_reducible (first | exact bR _ _ | assumption | refine bA ?_ _ | refine bS ?_ (by first | exact Nat.le_refl _ | (simp; done) | (simp; omega)) _) | assumption | exact bR _ _ | refine bD ?_ | refine bN ?_ _ | refine bT ?_ (by assumption))))) hz).mono ?_; rintro e w1 ⟨rfl, hb1⟩; have ⟨cw1, fw1⟩ := bcell hb1; have qw1 := hb1.size; (try simp at qw1); (try have zw1w := bsz (show w.heap.size < w1.heap.size by omega))) | (go_at_call 88; refine (l2Nodes_any m t _ _ _ (H.out.below (by (repeat (first | with_reducible (first | exact bR _ _ | assumption | refine bA ?_ _ | refine bS ?_ (by first | exact Nat.le_refl _ | (simp; done) | (simp; omega)) _) | assumption | exact bR _ _ | refine bD ?_ | refine bN ?_ _ | refine bT ?_ (by assumption)))))).mono ?_; rintro e w2 ⟨rfl, hb2⟩; have ⟨cw2, fw2⟩ := bcell hb2; have qw2 := hb2.size; (try simp at qw2); (try have zw2w := bsz (show w.heap.size < w2.heap.size by omega)); (try have zw2w1 := bsz (show w1.heap.size < w2.heap.size by omega))))
    go_ret
    exact ⟨ret_bool (by rw [HT.out, H1.out]; rfl), by exact bel⟩
theorem Tm.atom_eq {t : Tm} (h : isEq t.n = true) : t.atom = (decide (t.us.length = 2) && t.small && Tm.nodess t.us) := by rw [Tm.atom, if_pos h]
theorem Tm.atom_no {t : Tm} (h : isEq t.n = false) : t.atom = (symB t.n.data.toList && t.good) := by rw [Tm.atom, if_neg (by simp [h])]
theorem isEq_list {s : ByteArray} {b : Bool} (h : isEq s = b) : (s.toList == [61]) = b := by rw [ByteArray.toList_eq]; exact h
theorem isEquality_any (s : ByteArray) (v : Value) (w : World) : Calls Tryz.prog 67 #[.agg #[.string s, v]] w fun e w' => e = .returned (.bool (isEq s)) ∧ Below w.heap.size w w' := by
  cases h : isEq s
  all_goals
    have h2 := isEq_list h
    go_enter Tryz.func67, Tryz.ntmps67
    go_wp2
    go_ret
    exact ⟨rfl, by exact bel⟩
set_option maxHeartbeats 400000 in
theorem isValidAtom_any {B : Nat → Prop} (m : Nat) (t : Tm) (v0 v1 : Value) (w : World) (h : TmAt B m w t [v0, v1]) (hz : t.sz ≤ 100000000) :
      Calls Tryz.prog 63 #[.agg #[v0, v1]] w fun e w' => e = .returned (.bool t.atom) ∧ Below w.heap.size w w' := by
  have H := Lib.hid h
  obtain ⟨p, c, rfl, rfl, hs, hlen⟩ := h.form
  have HL := Lib.hid h.args
  have HS := Lib.hid hs
  unfold maxLen at hlen
  clear h hs
  cases hq : isEq t.n
  · have HQ := Lib.hid hq
    have HA := Lib.hid (Tm.atom_no hq)
    cases hy : symB t.n.data.toList
    all_goals
      have HY := Lib.hid hy
      go_enter Tryz.func63, Tryz.ntmps63
      go_wp2_with fail
      refine (isEquality_any _ _ _).mono ?_
      rintro e w1 ⟨rfl, hb1⟩
      have ⟨cw1, fw1⟩ := bcell hb1
      have qw1 := hb1.size
      (try simp at qw1)
      (try have zw1w := bsz (show w.heap.size < w1.heap.size by omega))
      rw [HQ.out]
      go_wp2_with fail
      refine (isSymbol_any _ _ HS.out).mono ?_
      rintro e w2 ⟨rfl, hb2⟩
      have ⟨cw2, fw2⟩ := bcell hb2
      have qw2 := hb2.size
      (try simp at qw2)
      (try have zw2w := bsz (show w.heap.size < w2.heap.size by omega))
      (try have zw2w1 := bsz (show w1.heap.size < w2.heap.size by omega))
      rw [HY.out]
    · go_wp2
      go_ret
      exact ⟨ret_bool (by rw [HA.out, HY.out]; rfl), by exact bel⟩
    · go_wp2_with fail
      refine (isValidTerm_any m t _ _ _ (H.out.below (by exact bel)) hz).mono ?_
      rintro e w3 ⟨rfl, hb3⟩
      have ⟨cw3, fw3⟩ := bcell hb3
      have qw3 := hb3.size
      (try simp at qw3)
      (try have zw3w := bsz (show w.heap.size < w3.heap.size by omega))
      (try have zw3w1 := bsz (show w1.heap.size < w3.heap.size by omega))
      (try have zw3w2 := bsz (show w2.heap.size < w3.heap.size by omega))
      go_wp2
      go_ret
      exact ⟨ret_bool (by rw [HA.out, HY.out]; rfl), by exact bel⟩
  · have HQ := Lib.hid hq
    have HA := Lib.hid (Tm.atom_eq hq)
    by_cases h2 : t.us.length = 2
    · have h2i : ((t.us.length : Int) == 2) = true := by simp; omega
      have H2 := Lib.hid (show decide (t.us.length = 2) = true by simpa using h2)
      have H' := Lib.hid (show TmAt B m w t [.string t.n, .slice p 2 c] by
        have e := H.out
        rw [h2] at e
        exact e)
      cases hsm : t.small
      · have HSM := Lib.hid hsm
        go_enter Tryz.func63, Tryz.ntmps63
        go_wp2_with fail
        refine (isEquality_any _ _ _).mono ?_
        rintro e w1 ⟨rfl, hb1⟩
        have ⟨cw1, fw1⟩ := bcell hb1
        have qw1 := hb1.size
        (try simp at qw1)
        (try have zw1w := bsz (show w.heap.size < w1.heap.size by omega))
        go_wp2_with fail
        refine (isSmall_any m t _ _ _ (H'.out.below (by exact bel)) hz).mono ?_
        rintro e w2 ⟨rfl, hb2⟩
        have ⟨cw2, fw2⟩ := bcell hb2
        have qw2 := hb2.size
        (try simp at qw2)
        (try have zw2w := bsz (show w.heap.size < w2.heap.size by omega))
        (try have zw2w1 := bsz (show w1.heap.size < w2.heap.size by omega))
        rw [HSM.out]
        go_wp2
        go_ret
        exact ⟨ret_bool (by rw [HA.out, HSM.out]; simp), by exact bel⟩
      · have HSM := Lib.hid hsm
        have hl0 : 0 < t.us.length := by omega
        have hl1 : 1 < t.us.length := by omega
        obtain ⟨b, o, rfl, hB, x0, x1, hx0, hx1, hx⟩ := HL.out.at2 hl0
        obtain ⟨b', o', he, hB', y0, y1, hy0, hy1, hy⟩ := HL.out.at2 hl1
        simp only [Option.some.injEq, Addr.mk.injEq, and_true] at he
        obtain ⟨rfl, rfl⟩ := he
        simp only [Nat.zero_mul, Nat.one_mul, Nat.add_zero, Nat.add_assoc, Nat.reduceAdd] at hx0 hx1 hy0 hy1
        have hbw : b < w.heap.size := World.block_lt_of_cell? _ _ hx0
        have zbw := bsz hbw
        have HN := Lib.hid (show Tm.nodess t.us = (t.us[0].nodes && t.us[1].nodes) by
          have e0 := Tm.nodess_drop t.us hl0
          have e1 := Tm.nodess_drop t.us hl1
          rw [List.drop_zero] at e0
          rw [e0, e1, List.drop_eq_nil_of_le (by omega), Tm.nodess, Bool.and_true])
        obtain ⟨a0, ha0⟩ : ∃ a, t.us[0] = a := ⟨_, rfl⟩
        obtain ⟨a1, ha1⟩ : ∃ a, t.us[1] = a := ⟨_, rfl⟩
        rw [ha0] at hx
        rw [ha1] at hy
        rw [ha0, ha1] at HN
        clear ha0 ha1
        obtain ⟨p0, c0, rfl, rfl, -, -⟩ := hx.form
        obtain ⟨p1, c1, rfl, rfl, -, -⟩ := hy.form
        have HX := Lib.hid hx
        have HY := Lib.hid hy
        clear hx hy
        cases hn0 : a0.nodes
        all_goals
          have HN0 := Lib.hid hn0
          go_enter Tryz.func63, Tryz.ntmps63
          go_wp2_with fail
          refine (isEquality_any _ _ _).mono ?_
          rintro e w1 ⟨rfl, hb1⟩
          have ⟨cw1, fw1⟩ := bcell hb1
          have qw1 := hb1.size
          (try simp at qw1)
          (try have zw1w := bsz (show w.heap.size < w1.heap.size by omega))
          go_wp2_with fail
          refine (isSmall_any m t _ _ _ (H'.out.below (by exact bel)) hz).mono ?_
          rintro e w2 ⟨rfl, hb2⟩
          have ⟨cw2, fw2⟩ := bcell hb2
          have qw2 := hb2.size
          (try simp at qw2)
          (try have zw2w := bsz (show w.heap.size < w2.heap.size by omega))
          (try have zw2w1 := bsz (show w1.heap.size < w2.heap.size by omega))
          rw [HSM.out]
          have zb1 := bsz (show b < w1.heap.size by omega)
          have zb2 := bsz (show b < w2.heap.size by omega)
          go_wp2_with fail
          refine (hasNames_any m a0 _ _ _ (HX.out.below (by exact bel))).mono ?_
          rintro e w3 ⟨rfl, hb3⟩
          have ⟨cw3, fw3⟩ := bcell hb3
          have qw3 := hb3.size
          (try simp at qw3)
          (try have zw3w := bsz (show w.heap.size < w3.heap.size by omega))
          (try have zw3w1 := bsz (show w1.heap.size < w3.heap.size by omega))
          (try have zw3w2 := bsz (show w2.heap.size < w3.heap.size by omega))
          rw [HN0.out]
        · go_wp2
          go_ret
          exact ⟨ret_bool (by rw [HA.out, H2.out, HSM.out, HN.out, HN0.out]; rfl), by exact bel⟩
        · go_wp2_with fail
          refine (hasNames_any m a1 _ _ _ (HY.out.below (by exact bel))).mono ?_
          rintro e w4 ⟨rfl, hb4⟩
          have ⟨cw4, fw4⟩ := bcell hb4
          have qw4 := hb4.size
          (try simp at qw4)
          (try have zw4w := bsz (show w.heap.size < w4.heap.size by omega))
          (try have zw4w1 := bsz (show w1.heap.size < w4.heap.size by omega))
          (try have zw4w2 := bsz (show w2.heap.size < w4.heap.size by omega))
          (try have zw4w3 := bsz (show w3.heap.size < w4.heap.size by omega))
          go_wp2
          go_ret
          exact ⟨ret_bool (by rw [HA.out, H2.out, HSM.out, HN.out, HN0.out]; rfl), by exact bel⟩
    · have h2i : ((t.us.length : Int) == 2) = false := by simp; omega
      have H2 := Lib.hid (show decide (t.us.length = 2) = false by simpa using h2)
      go_enter Tryz.func63, Tryz.ntmps63
      go_wp2_with fail
      refine (isEquality_any _ _ _).mono ?_
      rintro e w1 ⟨rfl, hb1⟩
      have ⟨cw1, fw1⟩ := bcell hb1
      have qw1 := hb1.size
      (try simp at qw1)
      (try have zw1w := bsz (show w.heap.size < w1.heap.size by omega))
      go_wp2
      go_ret
      exact ⟨ret_bool (by rw [HA.out, H2.out]; rfl), by exact bel⟩
set_option maxHeartbeats 400000 in
theorem l2Atom_any {B : Nat → Prop} (m : Nat) (t : Tm) (v0 v1 : Value) (w : World) (h : TmAt B m w t [v0, v1]) (hz : t.sz ≤ 100000000) :
      Calls Tryz.prog 50 #[.agg #[v0, v1]] w fun e w' => e = .returned (.bool t.atom) ∧ Below w.heap.size w w' := by
  have H := Lib.hid h
  obtain ⟨p, c, rfl, rfl, hs, hlen⟩ := h.form
  have HL := Lib.hid h.args
  have HS := Lib.hid hs
  unfold maxLen at hlen
  clear h hs
  cases hq : isEq t.n
  · have HQ := isEq_list hq
    have HA := Lib.hid (Tm.atom_no hq)
    cases hy : symB t.n.data.toList
    all_goals
      have HY := Lib.hid hy
      go_enter Tryz.func50, Tryz.ntmps50
      go_wp2_with fail
      refine (l2Symbol_any _ _ HS.out).mono ?_
      rintro e w' ⟨rfl, rfl⟩
      rw [HY.out]
    · go_wp2
      go_ret
      exact ⟨ret_bool (by rw [HA.out, HY.out]; rfl), by exact bel⟩
    · go_wp2_with fail
      refine (l2Good_any m t _ _ _ (H.out.below (by exact bel)) hz).mono ?_
      rintro e w1 ⟨rfl, hb1⟩
      have ⟨cw1, fw1⟩ := bcell hb1
      have qw1 := hb1.size
      (try simp at qw1)
      (try have zw1w := bsz (show w.heap.size < w1.heap.size by omega))
      go_wp2
      go_ret
      exact ⟨ret_bool (by rw [HA.out, HY.out]; rfl), by exact bel⟩
  · have HQ := isEq_list hq
    have HA := Lib.hid (Tm.atom_eq hq)
    by_cases h2 : t.us.length = 2
    · have h2i : ((t.us.length : Int) == 2) = true := by simp; omega
      have H2 := Lib.hid (show decide (t.us.length = 2) = true by simpa using h2)
      have H' := Lib.hid (show TmAt B m w t [.string t.n, .slice p 2 c] by
        have e := H.out
        rw [h2] at e
        exact e)
      cases hsm : t.small
      · have HSM := Lib.hid hsm
        go_enter Tryz.func50, Tryz.ntmps50
        go_wp2_with fail
        refine (l2Fits_any m t _ _ _ (H'.out.below (by exact bel)) hz).mono ?_
        rintro e w1 ⟨rfl, hb1⟩
        have ⟨cw1, fw1⟩ := bcell hb1
        have qw1 := hb1.size
        (try simp at qw1)
        (try have zw1w := bsz (show w.heap.size < w1.heap.size by omega))
        rw [HSM.out]
        go_wp2
        go_ret
        exact ⟨ret_bool (by rw [HA.out, HSM.out]; simp), by exact bel⟩
      · have HSM := Lib.hid hsm
        have hl0 : 0 < t.us.length := by omega
        have hl1 : 1 < t.us.length := by omega
        obtain ⟨b, o, rfl, hB, x0, x1, hx0, hx1, hx⟩ := HL.out.at2 hl0
        obtain ⟨b', o', he, hB', y0, y1, hy0, hy1, hy⟩ := HL.out.at2 hl1
        simp only [Option.some.injEq, Addr.mk.injEq, and_true] at he
        obtain ⟨rfl, rfl⟩ := he
        simp only [Nat.zero_mul, Nat.one_mul, Nat.add_zero, Nat.add_assoc, Nat.reduceAdd] at hx0 hx1 hy0 hy1
        have hbw : b < w.heap.size := World.block_lt_of_cell? _ _ hx0
        have zbw := bsz hbw
        skip
        have HN := Lib.hid (show Tm.nodess t.us = (t.us[0].nodes && t.us[1].nodes) by
          have e0 := Tm.nodess_drop t.us hl0
          have e1 := Tm.nodess_drop t.us hl1
          rw [List.drop_zero] at e0
          rw [e0, e1, List.drop_eq_nil_of_le (by omega), Tm.nodess, Bool.and_true])
        obtain ⟨a0, ha0⟩ : ∃ a, t.us[0] = a := ⟨_, rfl⟩
        obtain ⟨a1, ha1⟩ : ∃ a, t.us[1] = a := ⟨_, rfl⟩
        rw [ha0] at hx
        rw [ha1] at hy
        rw [ha0, ha1] at HN
        clear ha0 ha1
        obtain ⟨p0, c0, rfl, rfl, -, -⟩ := hx.form
        obtain ⟨p1, c1, rfl, rfl, -, -⟩ := hy.form
        have HX := Lib.hid hx
        have HY := Lib.hid hy
        clear hx hy
        cases hn0 : a0.nodes
        all_goals
          have HN0 := Lib.hid hn0
          go_enter Tryz.func50, Tryz.ntmps50
          go_wp2_with fail
          refine (l2Fits_any m t _ _ _ (H'.out.below (by exact bel)) hz).mono ?_
          rintro e w1 ⟨rfl, hb1⟩
          have ⟨cw1, fw1⟩ := bcell hb1
          have qw1 := hb1.size
          (try simp at qw1)
          (try have zw1w := bsz (show w.heap.size < w1.heap.size by omega))
          (try have zw1b := bsz (show b < w1.heap.size by omega))
          rw [HSM.out]
          go_wp2_with fail
          refine (l2Nodes_any m a0 _ _ _ (HX.out.below (by exact bel))).mono ?_
          rintro e w2 ⟨rfl, hb2⟩
          have ⟨cw2, fw2⟩ := bcell hb2
          have qw2 := hb2.size
          (try simp at qw2)
          (try have zw2w := bsz (show w.heap.size < w2.heap.size by omega))
          (try have zw2w1 := bsz (show w1.heap.size < w2.heap.size by omega))
          (try have zw2b := bsz (show b < w2.heap.size by omega))
          rw [HN0.out]
        · go_wp2
          go_ret
          exact ⟨ret_bool (by rw [HA.out, H2.out, HSM.out, HN.out, HN0.out]; rfl), by exact bel⟩
        · go_wp2_with fail
          refine (l2Nodes_any m a1 _ _ _ (HY.out.below (by exact bel))).mono ?_
          rintro e w1 ⟨rfl, hb1⟩
          have ⟨cw1, fw1⟩ := bcell hb1
          have qw1 := hb1.size
          (try simp at qw1)
          (try have zw1w := bsz (show w.heap.size < w1.heap.size by omega))
          (try have zw1b := bsz (show b < w1.heap.size by omega))
          go_wp2
          go_ret
          exact ⟨ret_bool (by rw [HA.out, H2.out, HSM.out, HN.out, HN0.out]; rfl), by exact bel⟩
    · have h2i : ((t.us.length : Int) == 2) = false := by simp; omega
      have H2 := Lib.hid (show decide (t.us.length = 2) = false by simpa using h2)
      go_enter Tryz.func50, Tryz.ntmps50
      go_wp2
      go_ret
      exact ⟨ret_bool (by rw [HA.out, H2.out]; rfl), by exact bel⟩
theorem Fm.szs_drop (us : List Fm) {k : Nat} (h : k < us.length) : Fm.szs (us.drop k) = us[k].sz + Fm.szs (us.drop (k + 1)) := by
  rw [List.drop_eq_getElem_cons h, Fm.szs]
theorem Fm.szIs_drop (us : List Fm) {k : Nat} (h : k < us.length) (n : Nat) : Fm.szIs n (us.drop k) = if 40 < n then n else Fm.szIs (n + us[k].szI) (us.drop (k + 1)) := by
  rw [List.drop_eq_getElem_cons h, Fm.szIs]
theorem Fm.manys_drop (us : List Fm) {k : Nat} (h : k < us.length) (n m : Nat) : Fm.manys n (us.drop k) m = if n ≤ m then Fm.manys (n + us[k].many (m - n)) (us.drop (k + 1)) m else n := by
  rw [List.drop_eq_getElem_cons h, Fm.manys]
theorem Fm.forms_drop (us : List Fm) {k : Nat} (h : k < us.length) : Fm.forms (us.drop k) = (us[k].form && Fm.forms (us.drop (k + 1))) := by
  rw [List.drop_eq_getElem_cons h, Fm.forms]
theorem FmAt.parts {B : Nat → Prop} {w : World} : ∀ {n : Nat} {t : Fm} {v0 v1 v2 v3 v4 : Value}, FmAt B n w t [v0, v1, v2, v3, v4] → ListAt B w 5 (FmAt B n w) v4 t.ps
  | 0, _, _, _, _, _, _, h => h.elim
  | n + 1, .mk op a x ps, v0, v1, v2, v3, v4, h => by
    obtain ⟨vn, va, vp, h1, h2, h3, h4, h5⟩ := h
    simp only [List.cons.injEq, and_true] at h1
    obtain ⟨rfl, rfl, rfl, rfl, rfl⟩ := h1
    exact h5.mono (SameOn.refl _ _) (fun _ h => h) (fun x cs _ hx => FmAt.mono (SameOn.refl _ _) (fun _ h => h) n (n + 1) x cs (by omega) hx)
theorem FmAt.atm {B : Nat → Prop} {w : World} : ∀ {n : Nat} {t : Fm} {v0 v1 v2 v3 v4 : Value}, FmAt B n w t [v0, v1, v2, v3, v4] → TmAt B n w t.a [v1, v2]
  | 0, _, _, _, _, _, _, h => h.elim
  | n + 1, .mk op a x ps, v0, v1, v2, v3, v4, h => by
    obtain ⟨vn, va, vp, h1, h2, h3, h4, h5⟩ := h
    simp only [List.cons.injEq, and_true] at h1
    obtain ⟨rfl, rfl, rfl, rfl, rfl⟩ := h1
    exact TmAt.mono (SameOn.refl _ _) (fun _ h => h) n (n + 1) a _ (by omega) h4
set_option maxHeartbeats 1600000 in
theorem sizeOf_any {B : Nat → Prop} : ∀ (m : Nat) (t : Fm) (v0 v1 v2 v3 v4 : Value) (w : World), FmAt B m w t [v0, v1, v2, v3, v4] → t.sz ≤ 100000000 →
      Calls Tryz.prog 32 #[.agg #[v0, v1, v2, v3, v4]] w fun e w' => e = .returned (.int .i64 (t.szI : Nat)) ∧ Below w.heap.size w w' := by
  intro m
  induction m with
  | zero => intro t v0 v1 v2 v3 v4 w h; exact h.elim
  | succ m ih =>
    rintro ⟨op, t0, s, us⟩ v0 v1 v2 v3 v4 w ⟨vn, va, vp, hcs, hop, hs, ht, hl⟩ hz
    simp only [List.cons.injEq, and_true] at hcs
    obtain ⟨rfl, rfl, rfl, rfl, rfl⟩ := hcs
    rw [Fm.sz] at hz
    obtain ⟨p, c, rfl, hlen⟩ := hl.form
    obtain ⟨p1, c1, rfl, rfl, -, -⟩ := ht.form
    unfold maxLen at hlen
    have IH := Lib.hid ih
    have HL := Lib.hid hl
    have HSZ := Lib.hid (show (Fm.mk op t0 s us).szI = Fm.szIs 1 us from rfl)
    clear ih hl
    go_enter Tryz.func32, Tryz.ntmps32
    go_wp2
    go_loopw [3, 9] (fun n i wr => ∃ k acc : Nat, k ≤ us.length ∧ i = .int .i64 k ∧ n = .int .i64 acc ∧ Fm.szIs acc (us.drop k) = Fm.szIs 1 us ∧ acc + Fm.szs (us.drop k) ≤ 1 + Fm.szs us ∧ Below w.heap.size w wr) (fun _ i _ => us.length - (intOf i).toNat)
    case atStart => exact ⟨0, 1, Nat.zero_le _, rfl, rfl, rfl, Nat.le_refl _, by exact bel⟩
    case round =>
      obtain ⟨k, acc, hk, rfl, rfl, he, hle, hb⟩ := hrel
      have HE := Lib.hid he
      clear he
      by_cases hlt : k < us.length
      · obtain ⟨b, o, rfl, hB, x0, x1, x2, x3, x4, hx0, hx1, hx2, hx3, hx4, hx⟩ := (HL.out.mono (SameOn.below hb) (fun _ h => h) (fun x cs _ hx => FmAt.below hb hx)).at5 hlt
        have hD := Fm.szIs_drop us hlt acc
        have hZ := Fm.szs_drop us hlt
        obtain ⟨a, ha⟩ : ∃ a, us[k] = a := ⟨_, rfl⟩
        rw [ha] at hx
        rw [ha] at hD
        rw [ha] at hZ
        have HX := Lib.hid hx
        have HD := Lib.hid hD
        have HZ := Lib.hid hZ
        clear hx ha hD hZ
        have zb := bsz (World.block_lt_of_cell? _ _ hx0)
        obtain ⟨pa, ca, qa, da, rfl, rfl, rfl, rfl, rfl, -⟩ := HX.out.form
        have hlaw := a.szI_law
        have hzz := HZ.out
        rw [hzz] at hle
        clear hzz
        by_cases h40 : 40 < (acc : Int)
        · go_wp2
          go_ret
          exact ⟨ret_int (by rw [HSZ.out, ← HE.out, HD.out, if_pos (by omega)]), by exact bel⟩
        · go_wp2_with fail
          refine (IH.out a _ _ _ _ _ _ (HX.out.below (by exact bel)) (by omega)).mono ?_
          rintro e w1 ⟨rfl, hb1⟩
          have ⟨cw1, fw1⟩ := bcell hb1
          have qw1 := hb1.size
          (try simp at qw1)
          (try have zw1w := bsz (show w.heap.size < w1.heap.size by omega))
          go_wp2
          refine ⟨⟨k + 1, acc + a.szI, by omega, by go_num, by go_num, ?_, by omega, by exact bel⟩, by simp [intOf]; omega⟩
          rw [← HE.out, HD.out, if_neg (by omega)]
      · obtain rfl : k = us.length := by omega
        have he := HE.out
        rw [List.drop_length, Fm.szIs] at he
        have HE2 := Lib.hid he
        clear he
        go_wp2
        go_ret
        exact ⟨ret_int (by rw [HSZ.out, ← HE2.out]), by exact bel⟩
theorem isQuantifier_any (op : Int) (w : World) : Calls Tryz.prog 60 #[.int .i64 op] w fun e w' => e = .returned (.bool (op == 8 || op == 9)) ∧ w = w' := by
  by_cases h : op = 8
  · obtain rfl := h
    go_enter Tryz.func60, Tryz.ntmps60
    go_wp2
    go_ret
    exact ⟨rfl, rfl⟩
  · have h1 : (op == 8) = false := by simpa using h
    go_enter Tryz.func60, Tryz.ntmps60
    go_wp2
    go_ret
    exact ⟨ret_bool (by simp [h]), rfl⟩
theorem isBinary_any (op : Int) (w : World) : Calls Tryz.prog 61 #[.int .i64 op] w fun e w' => e = .returned (.bool (op == 5 || op == 6 || op == 7)) ∧ w = w' := by
  by_cases h5 : op = 5
  · obtain rfl := h5
    go_enter Tryz.func61, Tryz.ntmps61
    go_wp2
    go_ret
    exact ⟨rfl, rfl⟩
  · have h1 : (op == 5) = false := by simpa using h5
    by_cases h6 : op = 6
    · obtain rfl := h6
      go_enter Tryz.func61, Tryz.ntmps61
      go_wp2
      go_ret
      exact ⟨rfl, rfl⟩
    · have h2 : (op == 6) = false := by simpa using h6
      go_enter Tryz.func61, Tryz.ntmps61
      go_wp2
      go_ret
      exact ⟨ret_bool (by simp [h5, h6]), rfl⟩
def FirstAt (b : Bool) (w : World) (e : Ending) (w' : World) : Prop := ∃ r : Int, e = .returned (.int .i64 r) ∧ decide (0 ≤ r) = b ∧ Below w.heap.size w w'
theorem any_drop {α : Type} (us : List α) (P : α → Bool) {k : Nat} (h : k < us.length) : (us.drop k).any P = (P us[k] || (us.drop (k + 1)).any P) := by
  rw [List.drop_eq_getElem_cons h, List.any_cons]
theorem empt_iff (s : ByteArray) : s.toList.isEmpty = s.data.toList.isEmpty := by rw [ByteArray.toList_eq]
theorem l8None_any {B : Nat → Prop} (m : Nat) (t : Tm) (v0 v1 : Value) (w : World) (h : TmAt B m w t [v0, v1]) : Calls Tryz.prog 109 #[.agg #[v0, v1]] w fun e w' => e = .returned (.bool t.none) ∧ Below w.heap.size w w' := by
  obtain ⟨p, c, rfl, rfl, -, -⟩ := h.form
  clear h
  have HN := Lib.hid (show t.none = (t.n.toList.isEmpty && ((t.us.length : Int) == 0)) by rw [empt_iff, Tm.none]; cases t.us <;> simp; omega)
  go_enter Tryz.func109, Tryz.ntmps109
  go_wp2
  all_goals
    go_ret
    exact ⟨ret_bool (by rw [HN.out]; simp_all), by exact bel⟩
theorem isZeroTerm_any {B : Nat → Prop} (m : Nat) (t : Tm) (v0 v1 : Value) (w : World) (h : TmAt B m w t [v0, v1]) : Calls Tryz.prog 64 #[.agg #[v0, v1]] w fun e w' => e = .returned (.bool t.none) ∧ Below w.heap.size w w' := by
  obtain ⟨p, c, rfl, rfl, -, -⟩ := h.form
  clear h
  have HN := Lib.hid (show t.none = (t.n.toList.isEmpty && ((t.us.length : Int) == 0)) by rw [empt_iff, Tm.none]; cases t.us <;> simp; omega)
  go_enter Tryz.func64, Tryz.ntmps64
  go_wp2
  all_goals
    go_ret
    exact ⟨ret_bool (by rw [HN.out]; simp_all), by exact bel⟩
theorem len0 {α : Type} {l : List α} : (0 = l.length) = (l = []) := propext ⟨fun h => List.eq_nil_of_length_eq_zero h.symm, fun h => by rw [h]; rfl⟩
theorem len1 {n : Nat} : (1 = n) = ((n : Int) = 1) := propext ⟨fun h => by omega, fun h => by omega⟩
theorem len2 {n : Nat} : (2 = n) = ((n : Int) = 2) := propext ⟨fun h => by omega, fun h => by omega⟩
theorem op_cases (op : Int) : op = 1 ∨ op = 2 ∨ op = 3 ∨ op = 4 ∨ op = 5 ∨ op = 6 ∨ op = 7 ∨ op = 8 ∨ op = 9 ∨ (¬op = 1 ∧ ¬op = 2 ∧ ¬op = 3 ∧ ¬op = 4 ∧ ¬op = 5 ∧ ¬op = 6 ∧ ¬op = 7 ∧ ¬op = 8 ∧ ¬op = 9) := by omega
set_option maxHeartbeats 1600000 in
theorem l8Form_any {B : Nat → Prop} (m : Nat) (t : Fm) (v0 v1 v2 v3 v4 : Value) (w : World) (h : FmAt B m w t [v0, v1, v2, v3, v4]) (hz : t.a.sz ≤ 100000000) :
    Calls Tryz.prog 77 #[.agg #[v0, v1, v2, v3, v4]] w fun e w' => e = .returned (.bool t.form1) ∧ Below w.heap.size w w' := by
  have HA := Lib.hid h.atm
  obtain ⟨p, c, q, d, rfl, rfl, rfl, rfl, rfl, hop, hn, -, hv, hps⟩ := h.form
  obtain ⟨op, a, x, ps⟩ := t
  simp only [Fm.op, Fm.a, Fm.v, Fm.ps] at *
  have HV := Lib.hid hv
  unfold maxLen at hps
  clear h hn hv
  rcases op_cases op with rfl | rfl | rfl | rfl | rfl | rfl | rfl | rfl | rfl | ⟨h1, h2, h3, h4, h5, h6, h7, h8, h9⟩
  all_goals
    go_enter Tryz.func77, Tryz.ntmps77
    go_wp2_with (first | (go_at_call 109; refine (l8None_any m a _ _ _ (HA.out.below (by (repeat (first | with_reducible (first | exact bR _ _ | assumption | refine bA ?_ _ | refine bS ?_ (by first | exact Nat.le_refl _ | (simp; done) | (simp; omega)) _) | assumption | exact bR _ _ | refine bD ?_ | refine bN ?_ _ | refine bT ?_ (by assumption)))))).mono ?_; rintro e w1 ⟨rfl, hb1⟩; have ⟨cw1, fw1⟩ := bcell hb1; have qw1 := hb1.size; (try simp at qw1); (try have zw1w := bsz (show w.heap.size < w1.heap.size by omega))) | (go_at_call 50; refine (l2Atom_any m a _ _ _ (HA.out.below (by (repeat (first | with_reducible (first | exact bR _ _ | assumption | refine bA ?_ _ | refine bS ?_ (by first | exact Nat.le_refl _ | (simp; done) | (simp; omega)) _) | assumption | exact bR _ _ | refine bD ?_ | refine bN ?_ _ | refine bT ?_ (by assumption))))) hz).mono ?_; rintro e w1 ⟨rfl, hb1⟩; have ⟨cw1, fw1⟩ := bcell hb1; have qw1 := hb1.size; (try simp at qw1); (try have zw1w := bsz (show w.heap.size < w1.heap.size by omega))) | (go_at_call 110; refine (l2Var_any _ _ HV.out).mono ?_; rintro e w' ⟨rfl, rfl⟩))
  all_goals
    go_ret
    exact ⟨ret_bool (by simp_all [Fm.form1, arity, isQ, Fm.op, Fm.a, Fm.v, Fm.ps, empt_iff, len0, len1, len2]), by exact bel⟩
def Fm.notForm (f : Fm) : Bool := !f.form
theorem forms_any : ∀ us : List Fm, us.any Fm.notForm = !Fm.forms us
  | [] => rfl
  | a :: us => by rw [List.any_cons, forms_any us, Fm.forms, Fm.notForm]; cases a.form <;> rfl
mutual
def Fm.asz : Fm → Nat | .mk _ a _ ps => max a.sz (Fm.aszs ps)
def Fm.aszs : List Fm → Nat | [] => 0 | a :: us => max a.asz (Fm.aszs us)
end
theorem Fm.asz_arg (us : List Fm) {k : Nat} (h : k < us.length) : us[k].asz ≤ Fm.aszs us := by
  induction us generalizing k with
  | nil => simp at h
  | cons a us ih =>
    cases k with
    | zero => simp only [List.getElem_cons_zero, Fm.aszs]; omega
    | succ k => have := ih (k := k) (by simpa using h); simp only [List.getElem_cons_succ, Fm.aszs]; omega
set_option maxHeartbeats 3200000 in
theorem hasForm_of {B : Nat → Prop} (m : Nat) (ih : ∀ (us : List Fm) (va : Value) (w : World), Fm.aszs us ≤ 100000000 → ListAt B w 5 (FmAt B m w) va us →
      Calls Tryz.prog 65 #[va, .func (.func 66) #[] #[]] w fun e w' => e = .returned (.bool (!Fm.forms us)) ∧ Below w.heap.size w w')
    (op : Int) (a : Tm) (x : ByteArray) (ps : List Fm) (v1 v2 v4 : Value) (w : World) (ha : TmAt B m w a [v1, v2]) (hl : ListAt B w 5 (FmAt B m w) v4 ps) (hv : x.size ≤ maxLen) (hz : a.sz ≤ 100000000) (hzs : Fm.aszs ps ≤ 100000000) :
    Calls Tryz.prog 33 #[.agg #[.int .i64 op, v1, v2, .string x, v4]] w fun e w' => e = .returned (.bool ((Fm.mk op a x ps).form1 && Fm.forms ps)) ∧ Below w.heap.size w w' := by
  have HA := Lib.hid ha
  have HL := Lib.hid hl
  have HV := Lib.hid hv
  have IH := Lib.hid ih
  obtain ⟨p, c, rfl, rfl, -, -⟩ := ha.form
  obtain ⟨q, d, rfl, hps⟩ := hl.form
  unfold maxLen at hps
  clear ha hl hv ih
  rcases op_cases op with rfl | rfl | rfl | rfl | rfl | rfl | rfl | rfl | rfl | ⟨h1, h2, h3, h4, h5, h6, h7, h8, h9⟩
  all_goals
    go_enter Tryz.func33, Tryz.ntmps33
    go_wp2_with (first | (go_at_call 64; refine (isZeroTerm_any m a _ _ _ (HA.out.below (by (repeat (first | with_reducible (first | exact bR _ _ | assumption | refine bA ?_ _ | refine bS ?_ (by first | exact Nat.le_refl _ | (simp; done) | (simp; omega)) _) | assumption | exact bR _ _ | refine bD ?_ | refine bN ?_ _ | refine bT ?_ (by assumption)))))).mono ?_; rintro e w1 ⟨rfl, hb1⟩; have ⟨cw1, fw1⟩ := bcell hb1; have qw1 := hb1.size; (try simp at qw1); (try have zw1w := bsz (show w.heap.size < w1.heap.size by omega))) | (go_at_call 63; refine (isValidAtom_any m a _ _ _ (HA.out.below (by (repeat (first | with_reducible (first | exact bR _ _ | assumption | refine bA ?_ _ | refine bS ?_ (by first | exact Nat.le_refl _ | (simp; done) | (simp; omega)) _) | assumption | exact bR _ _ | refine bD ?_ | refine bN ?_ _ | refine bT ?_ (by assumption))))) hz).mono ?_; rintro e w1 ⟨rfl, hb1⟩; have ⟨cw1, fw1⟩ := bcell hb1; have qw1 := hb1.size; (try simp at qw1); (try have zw1w := bsz (show w.heap.size < w1.heap.size by omega))) | (go_at_call 62; refine (isVariable_any _ _ HV.out).mono ?_; rintro e w' ⟨rfl, rfl⟩) | (go_at_call 60; refine (isQuantifier_any _ _).mono ?_; rintro e w' ⟨rfl, rfl⟩) | (go_at_call 61; refine (isBinary_any _ _).mono ?_; rintro e w' ⟨rfl, rfl⟩) | (go_at_call 65; refine (IH.out ps _ _ hzs (HL.out.mono (SameOn.below (by (repeat (first | with_reducible (first | exact bR _ _ | assumption | refine bA ?_ _ | refine bS ?_ (by first | exact Nat.le_refl _ | (simp; done) | (simp; omega)) _) | assumption | exact bR _ _ | refine bD ?_ | refine bN ?_ _ | refine bT ?_ (by assumption))))) (fun _ h => h) (fun x cs _ hx => FmAt.below (by (repeat (first | with_reducible (first | exact bR _ _ | assumption | refine bA ?_ _ | refine bS ?_ (by first | exact Nat.le_refl _ | (simp; done) | (simp; omega)) _) | assumption | exact bR _ _ | refine bD ?_ | refine bN ?_ _ | refine bT ?_ (by assumption)))) hx))).mono ?_; rintro e w2 ⟨rfl, hb2⟩; have ⟨cw2, fw2⟩ := bcell hb2; have qw2 := hb2.size; (try simp at qw2); (try have zw2w := bsz (show w.heap.size < w2.heap.size by omega)); (try have zw2w1 := bsz (show w1.heap.size < w2.heap.size by omega))) | (go_at_call 65; refine (IH.out [] _ _ (Nat.zero_le _) (ListAt.nil _ _ _ _ _ _)).mono ?_; rintro e w2 ⟨rfl, hb2⟩; have ⟨cw2, fw2⟩ := bcell hb2; have qw2 := hb2.size; (try simp at qw2); (try have zw2w := bsz (show w.heap.size < w2.heap.size by omega)); (try have zw2w1 := bsz (show w1.heap.size < w2.heap.size by omega))))
  all_goals
    go_ret
    exact ⟨ret_bool (by simp_all [Fm.form1, arity, isQ, Fm.forms, Fm.op, Fm.a, Fm.v, Fm.ps, empt_iff, len0, len1, len2]), by exact bel⟩
end Go.Proofs.YtkgfanajgdelcaaGreat
