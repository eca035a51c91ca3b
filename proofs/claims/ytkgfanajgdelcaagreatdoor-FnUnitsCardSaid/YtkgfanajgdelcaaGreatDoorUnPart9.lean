/- Valid libraries: the program's. Conditions: sizes. -/
import Derived.Laws.IdiomStrings
import Derived.Test.YtkgfanajgdelcaaGreatDoorUnPart1
import Derived.Test.YtkgfanajgdelcaaGreatDoorUnPart4
import Derived.Test.YtkgfanajgdelcaaGreatDoorUnPart5
import Derived.Test.YtkgfanajgdelcaaGreatDoorUnPart8
namespace Go.Proofs.YtkgfanajgdelcaaGreatDoor
open Go.RowKit
theorem Un.goal_le (u : Un) : u.goal.size ≤ u.wt := by unfold Un.wt; omega
theorem Un.axs_le (u : Un) : ∀ s ∈ u.axs, s.size ≤ u.wt := fun s hs => by have := wtS_le u.axs s hs; unfold Un.wt; omega
theorem all_not_any (us : List ByteArray) : us.all unitTxt = !(us.any fun s => !unitTxt s) := by
  induction us with
  | nil => rfl
  | cons a us ih => rw [List.all_cons, List.any_cons, ih]; cases unitTxt a <;> rfl
set_option maxRecDepth 100000 in
set_option maxHeartbeats 1600000 in
theorem notUnitText_any (s : ByteArray) (w : World) (hs : s.size ≤ 1000000000000) : Calls Tryz.prog 87 #[.string s] w fun e w' => e = .returned (.bool (!unitTxt s)) ∧ Below w.heap.size w w' := by
  go_enter Tryz.func87, Tryz.ntmps87
  go_wp2_with fail
  refine (isUnitText_any s _ hs).mono ?_
  rintro e w1 ⟨rfl, hb1⟩
  have ⟨cw1, fw1⟩ := bcell hb1
  have qw1 := hb1.size
  (try simp at qw1)
  (try have zw1w := bsz (show w.heap.size < w1.heap.size by omega))
  go_wp2
  go_ret
  exact ⟨rfl, by exact bel⟩
set_option maxRecDepth 100000 in
set_option maxHeartbeats 1600000 in
theorem indexTxt {B : Nat → Prop} (us : List ByteArray) (hz : ∀ s ∈ us, s.size ≤ 1000000000000) (va : Value) (w : World) (h : StrsAt B w va us) :
    Calls Tryz.prog 138 #[va, .func (.func 87) #[] #[]] w (FirstAt (us.any fun s => !unitTxt s) w) := by
  obtain ⟨p, c, rfl, hlen⟩ := h.form
  unfold maxLen at hlen
  have H := Lib.hid h
  have HZ := Lib.hid hz
  clear h hz
  go_enter Tryz.func138, Tryz.ntmps138
  go_wp2
  go_loopw [8] (fun i wr => ∃ k : Nat, k ≤ us.length ∧ i = .int .i64 k ∧ (us.any fun s => !unitTxt s) = ((us.drop k).any fun s => !unitTxt s) ∧ Below w.heap.size w wr) (fun i _ => us.length - (intOf i).toNat)
  case atStart => exact ⟨0, Nat.zero_le _, rfl, rfl, by exact bel⟩
  case round =>
    obtain ⟨k, hk, rfl, he, hb⟩ := hrel
    have HE := Lib.hid he
    clear he
    by_cases hlt : k < us.length
    · obtain ⟨b, o, rfl, hB, hx0, hxs⟩ := (H.out.below hb).at_ hlt
      have HD := Lib.hid (any_drop us (fun s => !unitTxt s) hlt)
      have hza := HZ.out _ (List.getElem_mem hlt)
      obtain ⟨a, ha⟩ : ∃ a, us[k] = a := ⟨_, rfl⟩
      rw [ha] at hx0 hxs HD hza
      clear ha
      have zb := bsz (World.block_lt_of_cell? _ _ hx0)
      cases hN : unitTxt a
      all_goals
        have HN := Lib.hid hN
        go_wp2_with fail
        refine (notUnitText_any a _ hza).mono ?_
        rintro e w1 ⟨rfl, hb1⟩
        have ⟨cw1, fw1⟩ := bcell hb1
        have qw1 := hb1.size
        (try simp at qw1)
        (try have zw1w := bsz (show w.heap.size < w1.heap.size by omega))
        rw [HN.out]
        go_wp2
      · go_ret
        exact ⟨k, rfl, by rw [HE.out, HD.out, HN.out]; simp, by exact bel⟩
      · refine ⟨⟨k + 1, by omega, by go_num, ?_, by exact bel⟩, by simp [intOf]; omega⟩
        rw [HE.out, HD.out, HN.out]; rfl
    · obtain rfl : k = us.length := by omega
      have he := HE.out
      rw [List.drop_length, List.any_nil] at he
      have HE2 := Lib.hid he
      clear he
      go_wp2
      go_ret
      exact ⟨-1, rfl, by rw [HE2.out]; rfl, by exact bel⟩
theorem containsTxt {B : Nat → Prop} (us : List ByteArray) (hz : ∀ s ∈ us, s.size ≤ 1000000000000) (va : Value) (w : World) (h : StrsAt B w va us) :
    Calls Tryz.prog 83 #[va, .func (.func 87) #[] #[]] w fun e w' => e = .returned (.bool (us.any fun s => !unitTxt s)) ∧ Below w.heap.size w w' := by
  have H := Lib.hid h
  have IH := Lib.hid (indexTxt (B := B) us hz)
  clear h
  go_enter Tryz.func83, Tryz.ntmps83
  go_wp2_with fail
  refine (IH.out va _ H.out).mono ?_
  rintro e w1 ⟨r, rfl, hr, hb1⟩
  have HR := Lib.hid hr
  clear hr
  go_wp2
  go_ret
  exact ⟨ret_bool HR.out, hb1⟩
set_option maxRecDepth 100000 in
set_option maxHeartbeats 3200000 in
theorem implUnit_any {B : Nat → Prop} (u : Un) (v0 v1 v2 v3 : Value) (w : World) (h : UnAt B w u [v0, v1, v2, v3]) (hw : u.wt ≤ 1000000000000) :
    Calls Tryz.prog 34 #[.agg #[v0, v1, v2, v3]] w fun e w' => e = .returned (.bool u.good) ∧ Below w.heap.size w w' := by
  obtain ⟨p, c, q, d, rfl, rfl, rfl, rfl, hn, hg, l1, l2, hi, ha⟩ := h.form
  unfold maxLen at l1 l2
  have HI := Lib.hid hi
  have HA := Lib.hid ha
  have HG := Lib.hid (show u.good = (symB u.name.data.toList && decide (u.incs.length ≤ 12) && namesF none u.incs && decide (u.axs.length ≤ 6) && u.axs.all unitTxt && (u.goal.data.toList == [] || unitTxt u.goal)) from rfl)
  have HZ := Lib.hid (fun s hs => Nat.le_trans (u.axs_le s hs) hw)
  have hgz := Nat.le_trans u.goal_le hw
  clear h hi ha
  go_enter Tryz.func34, Tryz.ntmps34
  go_wp2_with fail
  refine (isSymbol_any u.name _ hn).mono ?_
  rintro e w1 ⟨rfl, hb1⟩
  have ⟨cw1, fw1⟩ := bcell hb1
  have qw1 := hb1.size
  (try simp at qw1)
  (try have zw1w := bsz (show w.heap.size < w1.heap.size by omega))
  cases h1 : symB u.name.data.toList
  · have H1 := Lib.hid h1
    go_wp2
    go_ret
    exact ⟨ret_bool (by rw [HG.out, H1.out]; rfl), by exact bel⟩
  have H1 := Lib.hid h1
  clear h1
  by_cases h2 : u.incs.length ≤ 12
  case neg =>
    have h2i : ¬ ((u.incs.length : Int) ≤ 12) := by omega
    have H2 := Lib.hid h2
    go_wp2
    go_ret
    exact ⟨ret_bool (by rw [HG.out, H1.out, decide_eq_false H2.out]; rfl), by exact bel⟩
  have h2i : ((u.incs.length : Int) ≤ 12) := by omega
  have H2 := Lib.hid h2
  clear h2
  go_wp2_with fail
  refine (areNames_any u.incs _ _ (HI.out.below (by exact bel))).mono ?_
  rintro e w2 ⟨rfl, hb2⟩
  have ⟨cw2, fw2⟩ := bcell hb2
  have qw2 := hb2.size
  (try simp at qw2)
  (try have zw2w := bsz (show w.heap.size < w2.heap.size by omega))
  (try have zw2w1 := bsz (show w1.heap.size < w2.heap.size by omega))
  cases h3 : namesF none u.incs
  · have H3 := Lib.hid h3
    go_wp2
    go_ret
    exact ⟨ret_bool (by rw [HG.out, H1.out, decide_eq_true H2.out, H3.out]; rfl), by exact bel⟩
  have H3 := Lib.hid h3
  clear h3
  by_cases h4 : u.axs.length ≤ 6
  case neg =>
    have h4i : ¬ ((u.axs.length : Int) ≤ 6) := by omega
    have H4 := Lib.hid h4
    go_wp2
    go_ret
    exact ⟨ret_bool (by rw [HG.out, H1.out, decide_eq_true H2.out, H3.out, decide_eq_false H4.out]; rfl), by exact bel⟩
  have h4i : ((u.axs.length : Int) ≤ 6) := by omega
  have H4 := Lib.hid h4
  clear h4
  go_wp2_with fail
  refine (containsTxt u.axs HZ.out _ _ (HA.out.below (by exact bel))).mono ?_
  rintro e w3 ⟨rfl, hb3⟩
  have ⟨cw3, fw3⟩ := bcell hb3
  have qw3 := hb3.size
  (try simp at qw3)
  (try have zw3w := bsz (show w.heap.size < w3.heap.size by omega))
  (try have zw3w1 := bsz (show w1.heap.size < w3.heap.size by omega))
  (try have zw3w2 := bsz (show w2.heap.size < w3.heap.size by omega))
  have HNA := Lib.hid (all_not_any u.axs)
  cases h5 : (u.axs.any fun s => !unitTxt s)
  case true =>
    have H5 := Lib.hid h5
    go_wp2
    go_ret
    exact ⟨ret_bool (by rw [HG.out, H1.out, decide_eq_true H2.out, H3.out, decide_eq_true H4.out, HNA.out, H5.out]; rfl), by exact bel⟩
  have H5 := Lib.hid h5
  clear h5
  cases h6 : (u.goal.toList == [])
  case true =>
    have H6 := Lib.hid h6
    go_wp2
    go_ret
    exact ⟨ret_bool (by rw [HG.out, H1.out, decide_eq_true H2.out, H3.out, decide_eq_true H4.out, HNA.out, H5.out, ← ByteArray.toList_eq, H6.out]; rfl), by exact bel⟩
  have H6 := Lib.hid h6
  go_wp2_with fail
  refine (isUnitText_any u.goal _ hgz).mono ?_
  rintro e w4 ⟨rfl, hb4⟩
  have ⟨cw4, fw4⟩ := bcell hb4
  have qw4 := hb4.size
  (try simp at qw4)
  (try have zw4w := bsz (show w.heap.size < w4.heap.size by omega))
  (try have zw4w1 := bsz (show w1.heap.size < w4.heap.size by omega))
  (try have zw4w2 := bsz (show w2.heap.size < w4.heap.size by omega))
  (try have zw4w3 := bsz (show w3.heap.size < w4.heap.size by omega))
  go_wp2
  go_ret
  exact ⟨ret_bool (by rw [HG.out, H1.out, decide_eq_true H2.out, H3.out, decide_eq_true H4.out, HNA.out, H5.out, ← ByteArray.toList_eq, H6.out]; rfl), by exact bel⟩
open Go.RowKit
set_option maxRecDepth 100000 in
set_option maxHeartbeats 1600000 in
theorem l27Text_any (s : ByteArray) (w : World) (hs : s.size ≤ 1000000000000) : Calls Tryz.prog 127 #[.string s] w fun e w' => e = .returned (.bool (unitTxt s)) ∧ Below w.heap.size w w' := by
  have HU := Lib.hid (show unitTxt s = (pfOk s && decide (s.size ≤ 100)) from rfl)
  go_enter Tryz.func127, Tryz.ntmps127
  go_wp2_with fail
  refine (specPF_any s hs _).mono ?_
  rintro e w1 hp
  obtain ⟨op, m, p, k, c, v, q, k2, d, rfl, hb1⟩ := hp.form
  clear hp
  cases hk : pfOk s <;> by_cases h1 : s.size ≤ 100
  all_goals
    have h2 := HU.out
    rw [hk] at h2
    have HU2 := Lib.hid h2
    clear h2
    have h1i : ((s.size : Int) ≤ 100) = (s.size ≤ 100) := by apply propext; omega
    go_wp2
    go_ret
    exact ⟨ret_bool (by rw [HU2.out]; simp [h1]), by exact bel⟩
structure UBox (u : Un) (p q : Option Addr) (c d : Nat) (w wr : World) : Prop where
  bel : Below w.heap.size w wr
  cell : wr.heap[w.heap.size]? = some (.cells #[.string u.name, .slice p u.incs.length c, .slice q u.axs.length d, .string u.goal] 34 (0, 0))
theorem UBox.later {u : Un} {p q : Option Addr} {c d : Nat} {w wr w' : World} (h : UBox u p q c d w wr) (hb : Below wr.heap.size wr w') : UBox u p q c d w w' := ⟨h.bel.trans (hb.mono h.bel.size), (hb.block _ (heap_lt h.cell)).trans h.cell⟩
theorem UBox.cells {u : Un} {p q : Option Addr} {c d : Nat} {w wr : World} (h : UBox u p q c d w wr) : wr.cell? ⟨w.heap.size, 0, none⟩ = some (.string u.name) ∧ wr.cell? ⟨w.heap.size, 1, none⟩ = some (.slice p u.incs.length c) ∧ wr.cell? ⟨w.heap.size, 2, none⟩ = some (.slice q u.axs.length d) ∧ wr.cell? ⟨w.heap.size, 3, none⟩ = some (.string u.goal) := by
  refine ⟨?_, ?_, ?_, ?_⟩
  · rw [cell_of_row _ _ 0 _ _ (0, 0) h.cell]; rfl
  · rw [cell_of_row _ _ 1 _ _ (0, 0) h.cell]; rfl
  · rw [cell_of_row _ _ 2 _ _ (0, 0) h.cell]; rfl
  · rw [cell_of_row _ _ 3 _ _ (0, 0) h.cell]; rfl
set_option maxRecDepth 100000 in
set_option maxHeartbeats 6400000 in
theorem l27Unit_any {B : Nat → Prop} (u : Un) (v0 v1 v2 v3 : Value) (w : World) (h : UnAt B w u [v0, v1, v2, v3]) (hw : u.wt ≤ 1000000000000) :
    Calls Tryz.prog 62 #[.agg #[v0, v1, v2, v3]] w fun e w' => e = .returned (.bool u.good) ∧ Below w.heap.size w w' := by
  obtain ⟨p, c, q, d, rfl, rfl, rfl, rfl, hn, hg, l1, l2, hi, ha⟩ := h.form
  unfold maxLen at l1 l2
  have HI := Lib.hid hi
  have HA := Lib.hid ha
  have HG := Lib.hid (show u.good = (symB u.name.data.toList && decide (u.incs.length ≤ 12) && namesF none u.incs && decide (u.axs.length ≤ 6) && u.axs.all unitTxt && (u.goal.data.toList == [] || unitTxt u.goal)) from rfl)
  have HZ := Lib.hid (fun s hs => Nat.le_trans (u.axs_le s hs) hw)
  have hgz := Nat.le_trans u.goal_le hw
  have HU0 := Lib.hid (show UBox u p q c d w (w.alloc (.cells #[.string u.name, .slice p u.incs.length c, .slice q u.axs.length d, .string u.goal] 34)) from ⟨(Below.refl _ _).alloc (Nat.le_refl _) _, heap_alloc_new w _⟩)
  clear h hi ha
  go_enter Tryz.func62, Tryz.ntmps62
  go_wp2_with fail
  refine (l2Symbol_any u.name _ hn).mono ?_
  rintro e w1 ⟨rfl, rfl⟩
  cases h1 : symB u.name.data.toList
  case false =>
    have HNO := Lib.hid (show u.good = false by rw [HG.out, h1]; rfl)
    go_wp2
    go_ret
    exact ⟨ret_bool HNO.out.symm, by exact bel⟩
  by_cases h2 : u.incs.length ≤ 12
  case neg =>
    have HNO := Lib.hid (show u.good = false by rw [HG.out, h1, decide_eq_false h2]; rfl)
    have h2j : ((12 : Int) < (u.incs.length : Int)) := by omega
    clear h2
    go_wp2
    go_ret
    exact ⟨ret_bool HNO.out.symm, by exact bel⟩
  have h2j : ¬ ((12 : Int) < (u.incs.length : Int)) := by omega
  by_cases h4 : u.axs.length ≤ 6
  case neg =>
    have HNO := Lib.hid (show u.good = false by rw [HG.out, h1, decide_eq_false h4]; simp)
    have h4j : ((6 : Int) < (u.axs.length : Int)) := by omega
    clear h4 h2
    go_wp2
    go_ret
    exact ⟨ret_bool HNO.out.symm, by exact bel⟩
  have h4j : ¬ ((6 : Int) < (u.axs.length : Int)) := by omega
  have HG2 := Lib.hid (show u.good = (namesF none u.incs && u.axs.all unitTxt && (u.goal.data.toList == [] || unitTxt u.goal)) by rw [HG.out, h1, decide_eq_true h2, decide_eq_true h4]; simp)
  clear h2 h4 HG
  go_wp2
  go_loopw [3] (fun i wr => ∃ k : Nat, k ≤ u.incs.length ∧ i = .int .i64 k ∧ namesF none u.incs = namesF (prevS u.incs k) (u.incs.drop k) ∧ UBox u p q c d w wr) (fun i _ => u.incs.length - (intOf i).toNat)
  case atStart => exact ⟨0, Nat.zero_le _, rfl, rfl, HU0.out⟩
  case round =>
    obtain ⟨k, hk, rfl, he, hub⟩ := hrel
    have HE := Lib.hid he
    have HUB := Lib.hid hub
    have hb := hub.bel
    have hqz := hb.size
    obtain ⟨x0, x1, x2, x3⟩ := hub.cells
    have zub := bsz (heap_lt hub.cell)
    clear he hub HU0
    by_cases hlt : k < u.incs.length
    · obtain ⟨b, o, rfl, hB, hx0, hxs⟩ := (HI.out.below hb).at_ hlt
      have HD := Lib.hid (namesF_drop hlt)
      have hki : (k : Int) < u.incs.length := by omega
      have zb := bsz (World.block_lt_of_cell? _ _ hx0)
      by_cases hk0 : k = 0
      · subst hk0
        rw [Nat.add_zero] at hx0
        have HP := Lib.hid (show prevS u.incs 0 = none from rfl)
        obtain ⟨a, hae⟩ : ∃ a, u.incs[0] = a := ⟨_, rfl⟩
        rw [hae] at hx0 hxs HD
        clear hae
        cases hy : symB a.data.toList
        all_goals
          have HSY := Lib.hid (show ∀ w, Calls Tryz.prog 78 #[.string a] w fun e w' => e = .returned (.bool _) ∧ Below w.heap.size w w' from fun w => hy ▸ same_below (l2Symbol_any a w hxs))
          have HY := Lib.hid hy
          clear hy
          go_wp2
          obtain ⟨C, HC0⟩ := class_of (InF wr.heap.size _ [(⟨w.heap.size, 1, none⟩, .slice (some ⟨b, o, none⟩) u.incs.length c), (⟨b, o, none⟩, .string a)] [] [])
          have HC := Lib.hid HC0
          clear HC0
          refine wp_region_flow (C := C) (by kernel_rfl) (by kernel_rfl) (fun L hL => (HC.out _ _).2 (InF.start (by first | (intro _ hs; cases hs; done) | (simp only [List.forall_mem_cons]; go_simp)) (by first | (intro _ hs; cases hs; done) | (simp only [List.forall_mem_cons]; go_simp)) (by first | (intro _ hs; cases hs; done) | (simp only [List.forall_mem_cons]; go_simp)) (by first | (intro _ hs; cases hs; done) | (simp only [List.forall_mem_cons]; go_simp)) L hL)) ?_
          repeat (first | ((first | apply flow_free rfl | (apply flow_yes; (case hw => go_simp))); (intro L w' hun hrd hC; have hC := (HC.out _ _).1 hC; have hb' := hC.below; (try have hw' : Below w.heap.size w w' := by first | exact Below.trans (by (repeat (first | with_reducible (first | exact bR _ _ | assumption | refine bA ?_ _ | refine bS ?_ (by first | exact Nat.le_refl _ | (simp; done) | (simp; omega)) _) | assumption | exact bR _ _ | refine bD ?_ | refine bN ?_ _ | refine bT ?_ (by assumption)))) hb' | ((repeat (first | with_reducible (first | exact bR _ _ | assumption | refine bA ?_ _ | refine bS ?_ (by first | exact Nat.le_refl _ | (simp; done) | (simp; omega)) _) | assumption | exact bR _ _ | refine bD ?_ | refine bN ?_ _ | refine bT ?_ (by assumption))); done)); have hf' := hC.cell; (try simp only [List.forall_mem_cons] at hf'); go_simp; first | exact ⟨(HC.out _ _).2 (hC.skip _ (by rfl)), rfl⟩ | (rw [if_neg]; (exact ⟨(HC.out _ _).2 (hC.skip _ (by rfl)), rfl⟩); omega) | (go_at_call 78; refine (HSY.out _).mono ?_; rintro e w1 ⟨rfl, hb1⟩; exact ⟨rfl, (HC.out _ _).2 ((hC.next (by first | (simp; done) | (simp; omega) | omega) hb1).skip _ (by rfl))⟩)); go_simp) | (apply flow_no; (case hw => (go_simp; try (intro hh; cases hh))); (intro L w' _ _ hC; exact (HC.out _ _).2 (((HC.out _ _).1 hC).skip _ (by rfl))); go_simp))
          refine flow_nil ?_
          intro L wz hL hz
          have hz := (HC.out _ _).1 hz
          have hbz := hz.below
          have hcz := hz.cell
          try simp only [List.forall_mem_cons] at hcz
          have hdz := hz.done
          try simp only [List.forall_mem_cons] at hdz
          (try have hwz : Below w.heap.size w wz := by first | exact Below.trans (by (repeat (first | with_reducible (first | exact bR _ _ | assumption | refine bA ?_ _ | refine bS ?_ (by first | exact Nat.le_refl _ | (simp; done) | (simp; omega)) _) | assumption | exact bR _ _ | refine bD ?_ | refine bN ?_ _ | refine bT ?_ (by assumption)))) hbz | ((repeat (first | with_reducible (first | exact bR _ _ | assumption | refine bA ?_ _ | refine bS ?_ (by first | exact Nat.le_refl _ | (simp; done) | (simp; omega)) _) | assumption | exact bR _ _ | refine bD ?_ | refine bN ?_ _ | refine bT ?_ (by assumption))); done))
          go_wp2
        · go_ret
          exact ⟨ret_bool (by rw [HG2.out, HE.out, HD.out, HY.out]; rfl), by exact bel⟩
        · refine ⟨⟨1, by omega, by go_num, ?_, HUB.out.later hbz⟩, by simp [intOf]; omega⟩
          rw [HE.out, HD.out, HY.out, HP.out]; rfl
      · have hk1 : k - 1 < u.incs.length := by omega
        obtain ⟨b', o', hq, hB', hy0, hys⟩ := (HI.out.below hb).at_ hk1
        simp only [Option.some.injEq, Addr.mk.injEq, and_true] at hq
        obtain ⟨rfl, rfl⟩ := hq
        have HP := Lib.hid (prevS_pos hlt (by omega))
        obtain ⟨a, hae⟩ : ∃ a, u.incs[k] = a := ⟨_, rfl⟩
        obtain ⟨r, hre⟩ : ∃ r, u.incs[k - 1] = r := ⟨_, rfl⟩
        rw [hae] at hx0 hxs HD
        rw [hre] at hy0 HP
        clear hae hre hys
        have hkm : IntKind.i64.wrap ((k : Int) - 1) = ((k - 1 : Nat) : Int) := by rw [IntWalk.i64_in _ (by omega)]; omega
        have hkp : (0 : Int) < (k : Int) := by omega
        have hkj : ((k - 1 : Nat) : Int) < u.incs.length := by omega
        have hkn : 0 < k := by omega
        have HL0 := Lib.hid (show lessB r a = Op.bytesLess r.toList a.toList by rw [lessB, ← ByteArray.toList_eq, ← ByteArray.toList_eq])
        cases hy : symB a.data.toList <;> cases hA : Op.bytesLess r.toList a.toList
        all_goals
          have HSY := Lib.hid (show ∀ w, Calls Tryz.prog 78 #[.string a] w fun e w' => e = .returned (.bool _) ∧ Below w.heap.size w w' from fun w => hy ▸ same_below (l2Symbol_any a w hxs))
          have HY := Lib.hid hy
          have HLS := Lib.hid (HL0.out.trans hA)
          clear hy
          go_wp2
          obtain ⟨C, HC0⟩ := class_of (InF wr.heap.size _ [(⟨w.heap.size, 1, none⟩, .slice (some ⟨b, o, none⟩) u.incs.length c), (⟨b, o + k, none⟩, .string a), (⟨b, o + (k - 1), none⟩, .string r)] [] [])
          have HC := Lib.hid HC0
          clear HC0
          refine wp_region_flow (C := C) (by kernel_rfl) (by kernel_rfl) (fun L hL => (HC.out _ _).2 (InF.start (by first | (intro _ hs; cases hs; done) | (simp only [List.forall_mem_cons]; go_simp)) (by first | (intro _ hs; cases hs; done) | (simp only [List.forall_mem_cons]; go_simp)) (by first | (intro _ hs; cases hs; done) | (simp only [List.forall_mem_cons]; go_simp)) (by first | (intro _ hs; cases hs; done) | (simp only [List.forall_mem_cons]; go_simp)) L hL)) ?_
          repeat (first | ((first | apply flow_free rfl | (apply flow_yes; (case hw => go_simp))); (intro L w' hun hrd hC; have hC := (HC.out _ _).1 hC; have hb' := hC.below; (try have hw' : Below w.heap.size w w' := by first | exact Below.trans (by (repeat (first | with_reducible (first | exact bR _ _ | assumption | refine bA ?_ _ | refine bS ?_ (by first | exact Nat.le_refl _ | (simp; done) | (simp; omega)) _) | assumption | exact bR _ _ | refine bD ?_ | refine bN ?_ _ | refine bT ?_ (by assumption)))) hb' | ((repeat (first | with_reducible (first | exact bR _ _ | assumption | refine bA ?_ _ | refine bS ?_ (by first | exact Nat.le_refl _ | (simp; done) | (simp; omega)) _) | assumption | exact bR _ _ | refine bD ?_ | refine bN ?_ _ | refine bT ?_ (by assumption))); done)); have hf' := hC.cell; (try simp only [List.forall_mem_cons] at hf'); go_simp; first | exact ⟨(HC.out _ _).2 (hC.skip _ (by rfl)), rfl⟩ | (rw [if_neg]; (exact ⟨(HC.out _ _).2 (hC.skip _ (by rfl)), rfl⟩); omega) | (go_at_call 78; refine (HSY.out _).mono ?_; rintro e w1 ⟨rfl, hb1⟩; exact ⟨rfl, (HC.out _ _).2 ((hC.next (by first | (simp; done) | (simp; omega) | omega) hb1).skip _ (by rfl))⟩)); go_simp) | (apply flow_no; (case hw => (go_simp; try (intro hh; cases hh))); (intro L w' _ _ hC; exact (HC.out _ _).2 (((HC.out _ _).1 hC).skip _ (by rfl))); go_simp))
          refine flow_nil ?_
          intro L wz hL hz
          have hz := (HC.out _ _).1 hz
          have hbz := hz.below
          have hcz := hz.cell
          try simp only [List.forall_mem_cons] at hcz
          have hdz := hz.done
          try simp only [List.forall_mem_cons] at hdz
          (try have hwz : Below w.heap.size w wz := by first | exact Below.trans (by (repeat (first | with_reducible (first | exact bR _ _ | assumption | refine bA ?_ _ | refine bS ?_ (by first | exact Nat.le_refl _ | (simp; done) | (simp; omega)) _) | assumption | exact bR _ _ | refine bD ?_ | refine bN ?_ _ | refine bT ?_ (by assumption)))) hbz | ((repeat (first | with_reducible (first | exact bR _ _ | assumption | refine bA ?_ _ | refine bS ?_ (by first | exact Nat.le_refl _ | (simp; done) | (simp; omega)) _) | assumption | exact bR _ _ | refine bD ?_ | refine bN ?_ _ | refine bT ?_ (by assumption))); done))
          go_wp2
        all_goals first
          | (refine ⟨⟨k + 1, by omega, by go_num, ?_, HUB.out.later hbz⟩, by simp [intOf]; omega⟩; rw [HE.out, HD.out, HY.out, HP.out, ascS, HLS.out]; rfl)
          | (go_ret; exact ⟨ret_bool (by rw [HG2.out, HE.out, HD.out, HY.out, HP.out, ascS, HLS.out]; rfl), by exact bel⟩)
    · obtain rfl : k = u.incs.length := by omega
      have he := HE.out
      rw [List.drop_length, namesF] at he
      have HG3 := Lib.hid (show u.good = (u.axs.all unitTxt && (u.goal.data.toList == [] || unitTxt u.goal)) by rw [HG2.out, he, Bool.true_and])
      clear he HE
      go_wp2
      go_loopw [4] (fun i wr => ∃ k : Nat, k ≤ u.axs.length ∧ i = .int .i64 k ∧ u.axs.all unitTxt = (u.axs.drop k).all unitTxt ∧ UBox u p q c d w wr) (fun i _ => u.axs.length - (intOf i).toNat)
      case atStart => exact ⟨0, Nat.zero_le _, rfl, rfl, HUB.out⟩
      case round =>
        clear HUB x0 x1 x2 x3 zub hb
        obtain ⟨k, hk, rfl, he, hub⟩ := hrel
        have HE := Lib.hid he
        have HUB := Lib.hid hub
        have hb := hub.bel
        have hqz := hb.size
        obtain ⟨x0, x1, x2, x3⟩ := hub.cells
        have zub := bsz (heap_lt hub.cell)
        clear he hub
        by_cases hlt : k < u.axs.length
        · obtain ⟨b, o, rfl, hB, hx0, hxs⟩ := (HA.out.below hb).at_ hlt
          have HD := Lib.hid (all_drop u.axs unitTxt hlt)
          have hza := HZ.out _ (List.getElem_mem hlt)
          obtain ⟨a, hae⟩ : ∃ a, u.axs[k] = a := ⟨_, rfl⟩
          rw [hae] at hx0 hxs HD hza
          clear hae
          have zb := bsz (World.block_lt_of_cell? _ _ hx0)
          cases hN : unitTxt a
          all_goals
            have HN := Lib.hid hN
            clear hN
            go_wp2_with fail
            refine (l27Text_any a _ hza).mono ?_
            rintro e w1 ⟨rfl, hb1⟩
            have ⟨cw1, fw1⟩ := bcell hb1
            have qw1 := hb1.size
            (try simp at qw1)
            (try have zw1w := bsz (show w.heap.size < w1.heap.size by omega))
            rw [HN.out]
            go_wp2
          · go_ret
            exact ⟨ret_bool (by rw [HG3.out, HE.out, HD.out, HN.out]; rfl), by exact bel⟩
          · refine ⟨⟨k + 1, by omega, by go_num, ?_, HUB.out.later hb1⟩, by simp [intOf]; omega⟩
            rw [HE.out, HD.out, HN.out]; rfl
        · obtain rfl : k = u.axs.length := by omega
          have he := HE.out
          rw [List.drop_length, List.all_nil] at he
          have HG4 := Lib.hid (show u.good = (u.goal.data.toList == [] || unitTxt u.goal) by rw [HG3.out, he, Bool.true_and])
          clear he HE
          cases h6 : (u.goal.toList == [])
          case true =>
            have H6 := Lib.hid h6
            go_wp2
            go_ret
            exact ⟨ret_bool (by rw [HG4.out, ← ByteArray.toList_eq, H6.out]; rfl), by exact bel⟩
          have H6 := Lib.hid h6
          go_wp2_with fail
          refine (l27Text_any u.goal _ hgz).mono ?_
          rintro e w1 ⟨rfl, hb1⟩
          have ⟨cw1, fw1⟩ := bcell hb1
          have qw1 := hb1.size
          (try simp at qw1)
          (try have zw1w := bsz (show w.heap.size < w1.heap.size by omega))
          go_wp2
          go_ret
          exact ⟨ret_bool (by rw [HG4.out, ← ByteArray.toList_eq, H6.out]; rfl), by exact bel⟩
open Go.RowKit
structure Kept (S : Nat → Prop) (w w' : World) : Prop where
  os : w'.os = w.os
  tape : w'.tape = w.tape
  output : w'.output = w.output
  size : w.heap.size ≤ w'.heap.size
  block : ∀ b, b < w.heap.size → ¬ S b → w'.heap[b]? = w.heap[b]?
theorem Kept.refl (S : Nat → Prop) (w : World) : Kept S w w := ⟨rfl, rfl, rfl, Nat.le_refl _, fun _ _ _ => rfl⟩
theorem Kept.trans {S : Nat → Prop} {w w1 w2 : World} (h : Kept S w w1) (h2 : Kept S w1 w2) : Kept S w w2 :=
  ⟨h2.os.trans h.os, h2.tape.trans h.tape, h2.output.trans h.output, Nat.le_trans h.size h2.size, fun b hb hs => (h2.block b (Nat.lt_of_lt_of_le hb h.size) hs).trans (h.block b hb hs)⟩
theorem Kept.below {S : Nat → Prop} {w w1 w2 : World} (h : Kept S w w1) (h2 : Below w1.heap.size w1 w2) : Kept S w w2 :=
  ⟨h2.os.trans h.os, h2.tape.trans h.tape, h2.output.trans h.output, Nat.le_trans h.size h2.size, fun b hb hs => (h2.block b (Nat.lt_of_lt_of_le hb h.size)).trans (h.block b hb hs)⟩
theorem Kept.set {S : Nat → Prop} {w w1 : World} (h : Kept S w w1) {g : Nat} (hg : S g) (j : Nat) (v : Value) : Kept S w (w1.setCell ⟨g, j, none⟩ v) :=
  ⟨h.os, h.tape, h.output, by simpa using h.size, fun b hb hs => (heap_setCell_other w1 ⟨g, j, none⟩ b v (fun e => hs (by have e' : b = g := e; rw [e']; exact hg))).trans (h.block b hb hs)⟩
theorem blk_lt {w : World} {b : Nat} {o : Obj} (h : w.heap[b]? = some o) : b < w.heap.size := by
  rcases Nat.lt_or_ge b w.heap.size with h' | h'
  · exact h'
  · rw [Array.getElem?_eq_none h'] at h; cases h
def Patch (cur cur' : Array Value) (o : Nat) (cs : List Value) : Prop := cur'.size = cur.size ∧ (∀ j, j < cs.length → cur'[o + j]? = cs[j]?) ∧ ∀ k, (k < o ∨ o + cs.length ≤ k) → cur'[k]? = cur[k]?
theorem Patch.set {cur cur' : Array Value} {o : Nat} {cs : List Value} (h : Patch cur cur' o cs) {j : Nat} (hj : j < cs.length) (hb : o + cs.length ≤ cur.size) (v : Value) : Patch cur (cur'.setIfInBounds (o + j) v) o (cs.set j v) := by
  obtain ⟨h1, h2, h3⟩ := h
  refine ⟨by simpa using h1, fun i hi => ?_, fun k hk => ?_⟩
  · rw [List.length_set] at hi
    by_cases e : j = i
    · subst e
      rw [Array.getElem?_setIfInBounds_self_of_lt (by omega), List.getElem?_set_self hj]
    · rw [Array.getElem?_setIfInBounds_ne (by omega), List.getElem?_set_ne e, h2 i hi]
  · rw [List.length_set] at hk
    rw [Array.getElem?_setIfInBounds_ne (by omega), h3 k hk]
open Go.RowKit
structure FillRow {α : Type} (S : Nat → Prop) (w : World) (e : TypeId) (size : Nat) (R : (Nat → Prop) → World → α → List Value → Prop) (g n k : Nat) (us : List α) : Prop where
  own : S g
  row : ∃ cur : Array Value, w.heap[g]? = some (.cells cur e (0, 0)) ∧ cur.size = n * size ∧ ∃ Ss : Nat → Nat → Prop,
    (∀ j x, j < k → us[j]? = some x → ∃ cs : List Value, cs.length = size ∧ (∀ i, i < size → cur[j * size + i]? = cs[i]?) ∧ R (Ss j) w x cs ∧ ∀ b, Ss j b → S b ∧ b ≠ g ∧ b < w.heap.size) ∧
    ∀ i j b, i < k → j < k → i ≠ j → Ss i b → ¬ Ss j b
theorem FillRow.start {α : Type} {S : Nat → Prop} {w : World} {e : TypeId} {size base g n : Nat} {R : (Nat → Prop) → World → α → List Value → Prop} {xs : List Value} {us : List α} (hS : S g) (h : w.ownsRow base e size (.slice (some ⟨g, 0, none⟩) n n) n xs) : FillRow S w e size R g n 0 us := by
  refine ⟨hS, ?_⟩
  rcases h.2 with ⟨h0, _⟩ | ⟨g', cap, cur, hv, _, hh, _, _, hc, _⟩
  · cases h0
  · simp only [Value.slice.injEq, Option.some.injEq, Addr.mk.injEq, and_true, true_and] at hv
    obtain ⟨rfl, rfl⟩ := hv
    exact ⟨cur, hh, hc, fun _ _ => False, fun j x hj => absurd hj (Nat.not_lt_zero _), fun i j b hi => absurd hi (Nat.not_lt_zero _)⟩
theorem FillRow.later {α : Type} {S : Nat → Prop} {w w1 : World} {e : TypeId} {size g n k : Nat} {R : (Nat → Prop) → World → α → List Value → Prop} {us : List α} (h : FillRow S w e size R g n k us) (hb : Below w.heap.size w w1)
    (hm : ∀ T x cs, (∀ b, T b → b < w.heap.size) → R T w x cs → R T w1 x cs) : FillRow S w1 e size R g n k us := by
  obtain ⟨hS, cur, hh, hc, Ss, h1, h2⟩ := h
  refine ⟨hS, cur, (hb.block g (blk_lt hh)).trans hh, hc, Ss, fun j x hj hx => ?_, h2⟩
  obtain ⟨cs, a1, a2, a3, a4⟩ := h1 j x hj hx
  exact ⟨cs, a1, a2, hm _ _ _ (fun b hb => (a4 b hb).2.2) a3, fun b hb' => ⟨(a4 b hb').1, (a4 b hb').2.1, Nat.lt_of_lt_of_le (a4 b hb').2.2 hb.size⟩⟩
theorem FillRow.wider {α : Type} {S S' : Nat → Prop} {w : World} {e : TypeId} {size g n k : Nat} {R : (Nat → Prop) → World → α → List Value → Prop} {us : List α} (h : FillRow S w e size R g n k us) (hS : ∀ b, S b → S' b) : FillRow S' w e size R g n k us := by
  obtain ⟨h0, cur, hh, hc, Ss, h1, h2⟩ := h
  refine ⟨hS _ h0, cur, hh, hc, Ss, fun j x hj hx => ?_, h2⟩
  obtain ⟨cs, a1, a2, a3, a4⟩ := h1 j x hj hx
  exact ⟨cs, a1, a2, a3, fun b hb => ⟨hS _ (a4 b hb).1, (a4 b hb).2⟩⟩
theorem FillRow.lt {α : Type} {S : Nat → Prop} {w : World} {e : TypeId} {size g n k : Nat} {R : (Nat → Prop) → World → α → List Value → Prop} {us : List α} (h : FillRow S w e size R g n k us) : g < w.heap.size := by
  obtain ⟨_, _, hh, _⟩ := h; exact blk_lt hh
theorem FillRow.cell {α : Type} {S : Nat → Prop} {w : World} {e : TypeId} {size g n k : Nat} {R : (Nat → Prop) → World → α → List Value → Prop} {us : List α} (h : FillRow S w e size R g n k us) (j : Nat) (hj : j < n * size) : (∃ q, w.cell? ⟨g, j, none⟩ = some q) ∧ w.frozen? ⟨g, j, none⟩ = false := by
  obtain ⟨_, cur, hh, hc, _⟩ := h
  exact ⟨⟨cur[j], (cell_of_row w g j cur _ (0, 0) hh).trans (Array.getElem?_eq_getElem (by omega))⟩, frozen_of_row w g j _ _ hh⟩
theorem FillRow.put {α : Type} {S T : Nat → Prop} {w w1 w2 : World} {e : TypeId} {size g n k : Nat} {R : (Nat → Prop) → World → α → List Value → Prop} {us : List α} {x : α} {cs : List Value} (h : FillRow S w e size R g n k us) (hk : k < n) (hx : us[k]? = some x)
    (hb : Below w.heap.size w w1) (hl : cs.length = size) (hR : R T w2 x cs) (hT : ∀ b, T b → S b ∧ b ≠ g ∧ w.heap.size ≤ b ∧ b < w2.heap.size)
    (hp : ∀ cur : Array Value, w1.heap[g]? = some (.cells cur e (0, 0)) → k * size + size ≤ cur.size → ∃ cur', w2.heap[g]? = some (.cells cur' e (0, 0)) ∧ Patch cur cur' (k * size) cs)
    (hsz : w1.heap.size ≤ w2.heap.size) (hm : ∀ T x cs, (∀ b, T b → b < w.heap.size ∧ b ≠ g) → R T w x cs → R T w2 x cs) : FillRow S w2 e size R g n (k + 1) us := by
  obtain ⟨hS, cur, hh, hc, Ss, h1, h2⟩ := h
  have hg := blk_lt hh
  have h5 : (k + 1) * size ≤ n * size := Nat.mul_le_mul_right _ hk
  rw [Nat.succ_mul] at h5
  obtain ⟨cur', hh', hpt⟩ := hp cur ((hb.block g hg).trans hh) (by omega)
  have hws := hb.size
  refine ⟨hS, cur', hh', hpt.1.trans hc, fun j => if j = k then T else Ss j, fun j y hj hy => ?_, fun i j b hi hj hij hbi => ?_⟩
  · by_cases e : j = k
    · subst e
      rw [hx] at hy
      obtain rfl := Option.some.inj hy
      simp only [if_pos]
      exact ⟨cs, hl, fun i hi => hpt.2.1 i (by omega), hR, fun b hb' => ⟨(hT b hb').1, (hT b hb').2.1, (hT b hb').2.2.2⟩⟩
    · obtain ⟨ds, a1, a2, a3, a4⟩ := h1 j y (by omega) hy
      simp only [if_neg e]
      refine ⟨ds, a1, fun i hi => ?_, hm _ _ _ (fun b hb' => ⟨(a4 b hb').2.2, (a4 b hb').2.1⟩) a3, fun b hb' => ⟨(a4 b hb').1, (a4 b hb').2.1, by have := (a4 b hb').2.2; omega⟩⟩
      have h6 : (j + 1) * size ≤ k * size := Nat.mul_le_mul_right _ (by omega)
      rw [Nat.succ_mul] at h6
      rw [hpt.2.2 _ (.inl (by omega))]; exact a2 i hi
  · by_cases e : i = k
    · have ej : ¬ j = k := by omega
      simp only [if_pos e] at hbi
      simp only [if_neg ej]
      intro hbj
      rcases Nat.lt_or_ge j us.length with hlt | hge
      · obtain ⟨ds, _, _, _, a4⟩ := h1 j us[j] (by omega) (List.getElem?_eq_getElem hlt)
        have := (a4 b hbj).2.2
        have := (hT b hbi).2.2.1
        omega
      · have := (List.getElem?_eq_some_iff.1 hx).1; omega
    · simp only [if_neg e] at hbi
      by_cases ej : j = k
      · simp only [if_pos ej]
        intro hbj
        rcases Nat.lt_or_ge i us.length with hlt | hge
        · obtain ⟨ds, _, _, _, a4⟩ := h1 i us[i] (by omega) (List.getElem?_eq_getElem hlt)
          have := (a4 b hbi).2.2
          have := (hT b hbj).2.2.1
          omega
        · have := (List.getElem?_eq_some_iff.1 hx).1; omega
      · simp only [if_neg ej]
        exact h2 i j b (by omega) (by omega) hij hbi
theorem FillRow.done {α : Type} {S : Nat → Prop} {w : World} {e : TypeId} {size g : Nat} {R : (Nat → Prop) → World → α → List Value → Prop} {us : List α} (h : FillRow S w e size R g us.length us.length us) (hm : us.length ≤ maxLen) : OwnRow S w e size (fun T x cs => R T w x cs) (.slice (some ⟨g, 0, none⟩) us.length us.length) us := by
  obtain ⟨hS, cur, hh, hc, Ss, h1, h2⟩ := h
  refine ⟨hm, cur.toList, Ss, ⟨by simpa using hc, .inr ⟨g, us.length, cur, rfl, Nat.zero_le _, hh, Nat.le_refl _, hm, hc, by rw [List.take_of_length_le (by simp [hc])]⟩⟩, fun g' hg' => ?_, fun i x hx => ?_, h2⟩
  · have : g = g' := by simpa [Value.ownBlock] using hg'
    exact this ▸ hS
  · have hi := (List.getElem?_eq_some_iff.1 hx).1
    obtain ⟨cs, a1, a2, a3, a4⟩ := h1 i x hi hx
    have h6 : (i + 1) * size ≤ us.length * size := Nat.mul_le_mul_right _ hi
    rw [Nat.succ_mul] at h6
    have : (cur.toList.drop (i * size)).take size = cs := by
      apply List.ext_getElem?
      intro j
      rw [List.getElem?_take]
      split
      · rename_i hj
        rw [List.getElem?_drop, Array.getElem?_toList]; exact a2 j hj
      · rw [List.getElem?_eq_none (by omega)]
    rw [this]
    exact ⟨a3, fun b hb => ⟨(a4 b hb).1, fun e => (a4 b hb).2.1 (by simpa [Value.ownBlock] using e.symm)⟩⟩
open Go.RowKit
def StrOwn (e : TypeId) (S : Nat → Prop) (w : World) (us : List ByteArray) (v : Value) : Prop := OwnRow S w e 1 (fun _ s cs => StrAt s cs) v us
theorem StrOwn.mono {e : TypeId} {S S' : Nat → Prop} {w w' : World} {us : List ByteArray} {v : Value} (hs : SameOn S w w') (hS : ∀ b, S b → S' b) (h : StrOwn e S w us v) : StrOwn e S' w' us v := OwnRow.mono h hs hS (fun _ _ _ _ _ hx => hx)
theorem StrOwn.at_ {e : TypeId} {S : Nat → Prop} {w : World} {us : List ByteArray} {v : Value} (h : StrOwn e S w us v) : StrsAt S w v us := OwnRow.listAt (by omega) h (fun _ _ _ _ _ hx => hx)
def strW (l : List ByteArray) : List Value := l.map Value.string
theorem strW_snoc (l : List ByteArray) (s : ByteArray) : strW (l ++ [s]) = strW l ++ [Value.string s] := by simp [strW]
theorem rowS_own {S : Nat → Prop} {w : World} {base : Nat} {e : TypeId} {v : Value} {us : List ByteArray} (h : w.ownsRow base e 1 v us.length (strW us)) (hz : ∀ s ∈ us, s.size ≤ maxLen) (hm : us.length ≤ maxLen) (hS : ∀ g, v.ownBlock = some g → S g) : StrOwn e S w us v := by
  refine ⟨hm, strW us, fun _ _ => False, own_lower h (Nat.zero_le _), hS, fun i x hx => ⟨⟨?_, hz x (List.mem_of_getElem? hx)⟩, fun b hb => hb.elim⟩, fun i j b hi hj hij hb => hb.elim⟩
  have hi := (List.getElem?_eq_some_iff.1 hx).1
  have hx' := (List.getElem?_eq_some_iff.1 hx).2
  rw [Nat.mul_one, List.drop_eq_getElem_cons (by simpa [strW] using hi), List.take_succ_cons, List.take_zero]
  simp [strW, hx']
def lenB (w : World) (g : Nat) : Nat := match w.cell? ⟨g, 0, none⟩ with | some (.slice _ n _) => n | _ => 0
theorem lenB_of {w : World} {g n c : Nat} {p : Option Addr} (h : w.cell? ⟨g, 0, none⟩ = some (.slice p n c)) : lenB w g = n := by rw [lenB, h]
theorem new_at {w : World} {o : Obj} {k : Nat} (h : w.heap.size = k) : (w.alloc o).heap[k]? = some o := h ▸ heap_alloc_new w o
open Go.RowKit
def wtU : List Un → Nat | [] => 0 | a :: us => a.wt + wtU us
theorem wtU_le : ∀ (us : List Un), ∀ u ∈ us, u.wt ≤ wtU us
  | [], _, h => by simp at h
  | a :: us, s, h => by
    rw [wtU]
    rcases List.mem_cons.1 h with rfl | h
    · omega
    · have := wtU_le us s h; omega
def UnsAt (B : Nat → Prop) (w : World) (v : Value) (us : List Un) : Prop := ListAt B w 4 (UnAt B w) v us
theorem UnsAt.mono {B B' : Nat → Prop} {w w' : World} {v : Value} {us : List Un} (hs : SameOn B w w') (hB : ∀ b, B b → B' b) (h : UnsAt B w v us) : UnsAt B' w' v us := ListAt.mono h hs hB (fun _ _ _ h => h.mono hs hB)
theorem UnsAt.below {B : Nat → Prop} {w w' : World} {v : Value} {us : List Un} (hb : Below w.heap.size w w') (h : UnsAt B w v us) : UnsAt B w' v us := h.mono (SameOn.below hb) (fun _ h => h)
theorem UnsAt.form {B : Nat → Prop} {w : World} {v : Value} {us : List Un} (h : UnsAt B w v us) : ∃ p c, v = .slice p us.length c ∧ us.length ≤ maxLen := ListAt.form h
theorem UnsAt.at_ {B : Nat → Prop} {w : World} {p : Option Addr} {n c : Nat} {us : List Un} (h : UnsAt B w (.slice p n c) us) {i : Nat} (hi : i < us.length) : ∃ b o, p = some ⟨b, o, none⟩ ∧ B b ∧ ∃ p1 c1 p2 c2, w.cell? ⟨b, o + i * 4, none⟩ = some (.string us[i].name) ∧ w.cell? ⟨b, o + i * 4 + 1, none⟩ = some (.slice p1 us[i].incs.length c1) ∧ w.cell? ⟨b, o + i * 4 + 2, none⟩ = some (.slice p2 us[i].axs.length c2) ∧ w.cell? ⟨b, o + i * 4 + 3, none⟩ = some (.string us[i].goal) ∧ UnAt B w us[i] [.string us[i].name, .slice p1 us[i].incs.length c1, .slice p2 us[i].axs.length c2, .string us[i].goal] := by
  obtain ⟨b, o, h1, h2, x0, x1, x2, x3, c0, c1, c2, c3, hR⟩ := ListAt.at4 h hi
  obtain ⟨p1, k1, p2, k2, rfl, rfl, rfl, rfl, -⟩ := hR.form
  exact ⟨b, o, h1, h2, p1, k1, p2, k2, c0, c1, c2, c3, hR⟩
open Go.RowKit
def UnOwn (e : TypeId) (S : Nat → Prop) (w : World) (u : Un) (cs : List Value) : Prop := ∃ va vb S1 S2, cs = [.string u.name, va, vb, .string u.goal] ∧ u.name.size ≤ maxLen ∧ u.goal.size ≤ maxLen ∧ StrOwn e S1 w u.incs va ∧ StrOwn e S2 w u.axs vb ∧ (∀ b, S1 b → S b) ∧ (∀ b, S2 b → S b) ∧ ∀ b, S1 b → ¬ S2 b
theorem UnOwn.mono {e : TypeId} {S S' : Nat → Prop} {w w' : World} {u : Un} {cs : List Value} (hs : SameOn S w w') (hS : ∀ b, S b → S' b) (h : UnOwn e S w u cs) : UnOwn e S' w' u cs := by
  obtain ⟨va, vb, S1, S2, h1, h2, h3, h4, h5, h6, h7, h8⟩ := h
  exact ⟨va, vb, S1, S2, h1, h2, h3, h4.mono (fun b hb hlt => hs b (h6 b hb) hlt) (fun _ h => h), h5.mono (fun b hb hlt => hs b (h7 b hb) hlt) (fun _ h => h), fun b hb => hS b (h6 b hb), fun b hb => hS b (h7 b hb), h8⟩
theorem UnOwn.at_ {e : TypeId} {S : Nat → Prop} {w : World} {u : Un} {cs : List Value} (h : UnOwn e S w u cs) : UnAt S w u cs := by
  obtain ⟨va, vb, S1, S2, h1, h2, h3, h4, h5, h6, h7, h8⟩ := h
  exact ⟨va, vb, h1, h2, h3, h4.at_.mono (SameOn.refl _ _) h6, h5.at_.mono (SameOn.refl _ _) h7⟩
theorem UnOwn.later {e : TypeId} {S : Nat → Prop} {w w' : World} {u : Un} {cs : List Value} (hb : Below w.heap.size w w') (h : UnOwn e S w u cs) : UnOwn e S w' u cs := h.mono (SameOn.below hb) (fun _ h => h)
def UnsOwn (e eU : TypeId) (S : Nat → Prop) (w : World) (us : List Un) (v : Value) : Prop := OwnRow S w eU 4 (fun T u cs => UnOwn e T w u cs) v us
theorem UnsOwn.at_ {e eU : TypeId} {S : Nat → Prop} {w : World} {us : List Un} {v : Value} (h : UnsOwn e eU S w us v) : UnsAt S w v us := OwnRow.listAt (by omega) h (fun T x cs _ hT hx => hx.at_.mono (SameOn.refl _ _) hT)
/-! ### Marks -/
open Go.RowKit
def Apped (e : TypeId) (size : Nat) (v : Value) (n : Nat) (cs : Array Value) (W : World) (z : Value) (w : World) : Prop :=
  (∀ b xs', W.ownsRow b e size v n xs' → b ≤ W.heap.size → w.ownsRow b e size z (n + 1) (xs' ++ cs.toList)) ∧ W.grownBy w v.ownBlock ∧ NewRow v z W.heap.size ∧ W.heap.size < w.heap.size
def BoxA (e : TypeId) (size : Nat) (p : Addr) (v : Value) (n : Nat) (cs : Array Value) (W : World) (kb ka : Nat) : Nat → (Nat → Value) → World → Prop
  | 0, _, w => w = W
  | 1, u, w => w = W.alloc (.cells cs e) ∧ u kb = .slice (some ⟨W.heap.size, 0, none⟩) 1 1
  | 2, u, w => Apped e size v n cs W (u ka) w
  | _ + 3, u, w => ∃ w2, Apped e size v n cs W (u ka) w2 ∧ w = w2.setCell p (u ka)
section
variable {e : TypeId} {size : Nat} {p : Addr} {v : Value} {n : Nat} {cs : Array Value} {W : World} {kb ka : Nat}
theorem BoxA.keep {j : Nat} {u : Nat → Value} {w : World} (hj : j ≤ 2) (h : BoxA e size p v n cs W kb ka j u w) {b : Nat} (hb : b < W.heap.size) (hv : v.ownBlock ≠ some b) : w.heap[b]? = W.heap[b]? := by
  match j, hj, h with
  | 0, _, h => obtain rfl : w = W := h; rfl
  | 1, _, h => obtain ⟨rfl, _⟩ := h; exact hao W _ b hb
  | 2, _, h => exact h.2.1.block b hb (fun e => hv e.symm)
theorem BoxA.cell {j : Nat} {u : Nat → Value} {w : World} (hj : j ≤ 2) (h : BoxA e size p v n cs W kb ka j u w) {b o : Nat} {x : Value} (hv : v.ownBlock ≠ some b) (hc : W.cell? ⟨b, o, none⟩ = some x) : w.cell? ⟨b, o, none⟩ = some x :=
  (World.cell?_of_block (a := ⟨b, o, none⟩) (h.keep hj (World.block_lt_of_cell? W _ hc) hv)).trans hc
theorem BoxA.frozen {j : Nat} {u : Nat → Value} {w : World} (hj : j ≤ 2) (h : BoxA e size p v n cs W kb ka j u w) {b o : Nat} {t : TypeId} {cur : Array Value} (hv : v.ownBlock ≠ some b) (hc : W.heap[b]? = some (.cells cur t (0, 0))) : w.frozen? ⟨b, o, none⟩ = false :=
  frozen_of_row w b o cur t ((h.keep hj (heap_lt hc) hv).trans hc)
end
theorem Apped.keep {e : TypeId} {size : Nat} {v : Value} {n : Nat} {cs : Array Value} {W w : World} {z : Value} (h : Apped e size v n cs W z w) {b : Nat} (hb : b < W.heap.size) (hv : v.ownBlock ≠ some b) : w.heap[b]? = W.heap[b]? := h.2.1.block b hb (fun e => hv e.symm)
theorem Apped.fresh {e : TypeId} {size : Nat} {v : Value} {n : Nat} {cs : Array Value} {W w : World} {z : Value} (h : Apped e size v n cs W z w) {b : Nat} (hb : b < W.heap.size) (hv : v.ownBlock ≠ some b) : z.ownBlock ≠ some b := fun e => by
  rcases h.2.2.1 with h1 | ⟨g, h1, h2⟩
  · exact hv (h1 ▸ e)
  · rw [h1] at e; injection e with e; omega
open Go.RowKit
def firstI {α : Type} (P : α → Bool) : Nat → List α → Option Nat
  | _, [] => none
  | k, a :: l => if P a then some k else firstI P (k + 1) l
theorem firstI_drop {α : Type} (P : α → Bool) {us : List α} {k : Nat} (h : k < us.length) : firstI P k (us.drop k) = if P us[k] then some k else firstI P (k + 1) (us.drop (k + 1)) := by
  rw [List.drop_eq_getElem_cons h, firstI]
theorem firstI_some {α : Type} (P : α → Bool) : ∀ (us : List α) (k i : Nat), firstI P k us = some i → k ≤ i ∧ ∃ h : i - k < us.length, us.find? P = some us[i - k]
  | [], _, _, h => by cases h
  | a :: us, k, i, h => by
    rw [firstI] at h
    cases hp : P a
    · rw [hp, if_neg (by simp)] at h
      obtain ⟨h1, h2, h3⟩ := firstI_some P us (k + 1) i h
      have e : i - k = (i - (k + 1)) + 1 := by omega
      refine ⟨by omega, by rw [List.length_cons]; omega, ?_⟩
      simp only [e, List.getElem_cons_succ]
      rw [List.find?_cons, hp, h3]
    · rw [hp, if_pos rfl] at h
      injection h with h
      subst h
      refine ⟨Nat.le_refl _, by simp, ?_⟩
      rw [List.find?_cons, hp]; simp
theorem firstI_none {α : Type} (P : α → Bool) : ∀ (us : List α) (k : Nat), firstI P k us = none → us.find? P = none
  | [], _, _ => rfl
  | a :: us, k, h => by
    rw [firstI] at h
    cases hp : P a
    · rw [hp, if_neg (by simp)] at h
      rw [List.find?_cons, hp]; exact firstI_none P us (k + 1) h
    · rw [hp, if_pos rfl] at h; cases h
theorem firstI_any {α : Type} (P : α → Bool) : ∀ (us : List α) (k : Nat), (firstI P k us).isSome = us.any P
  | [], _ => rfl
  | a :: us, k => by
    rw [firstI, List.any_cons]
    cases hp : P a
    · rw [if_neg (by simp), firstI_any P us (k + 1), Bool.false_or]
    · rw [if_pos rfl]; rfl
def atI : Option Nat → Int | none => -1 | some i => i
def FirstI (o : Option Nat) (w : World) (e : Ending) (w' : World) : Prop := ∃ r : Int, e = .returned (.int .i64 r) ∧ r = atI o ∧ Below w.heap.size w w'
theorem atI_neg (o : Option Nat) : decide (0 ≤ atI o) = o.isSome := by cases o <;> simp [atI]
theorem idxFrom_in (x : ByteArray) : ∀ (zs : List ByteArray) (i : Nat), decide (0 ≤ Lib.idxFromS zs x i) = inS zs x
  | [], i => by simp [Lib.idxFromS, inS]
  | a :: zs, i => by
    rw [Lib.idxFromS, inS]
    by_cases h : a = x
    · rw [if_pos h]; simp [h]
    · rw [if_neg h, idxFrom_in x zs (i + 1), inS]
      simp [Ne.symm h]
theorem idxOfS_in (x : ByteArray) (zs : List ByteArray) : decide (0 ≤ Lib.idxOfS zs x) = inS zs x := idxFrom_in x zs 0
theorem containsS_any {B : Nat → Prop} (us : List ByteArray) (v : Value) (x : ByteArray) (w : World) (h : StrsAt B w v us) :
    Calls Tryz.prog 39 #[v, .string x] w fun e w' => e = .returned (.bool (inS us x)) ∧ Below w.heap.size w w' := by
  obtain ⟨p, c, rfl, hlen⟩ := h.form
  unfold maxLen at hlen
  cases us with
  | nil => exact (Tryz.slices_Contains_string_empty p c x w).mono fun e w' ⟨h1, h2⟩ => ⟨h1.trans rfl, h2 ▸ Below.refl _ _⟩
  | cons a us =>
    obtain ⟨b, o, rfl, -⟩ := h.at_ (i := 0) (by simp)
    refine (Tryz.slices_Contains_string b o (a :: us).length c (a :: us) x w (Nat.le_refl _) (by omega) (fun j hj => ?_)).mono fun e w' ⟨h1, h2⟩ => ⟨h1.trans ?_, h2 ▸ Below.refl _ _⟩
    · obtain ⟨b', o', hp, -, hc, -⟩ := h.at_ hj
      simp only [Option.some.injEq, Addr.mk.injEq, and_true] at hp
      obtain ⟨rfl, rfl⟩ := hp
      rw [hc, List.getD_eq_getElem?_getD, List.getElem?_eq_getElem hj]; rfl
    · rw [List.take_length, Lib.containsS, idxOfS_in]
theorem notIn_any {B : Nat → Prop} (out : List ByteArray) (vo : Value) (g : Nat) (x : ByteArray) (w : World) (hg : w.cell? ⟨g, 0, none⟩ = some vo) (h : StrsAt B w vo out) :
    Calls Tryz.prog 84 #[.string x, .pointer (some ⟨g, 0, none⟩)] w fun e w' => e = .returned (.bool (!inS out x)) ∧ Below w.heap.size w w' := by
  have H := Lib.hid h
  obtain ⟨p, c, rfl, hlen⟩ := h.form
  clear h
  go_enter Tryz.func84, Tryz.ntmps84
  go_wp2_with fail
  refine (containsS_any out _ x _ (H.out.below (by exact bel))).mono ?_
  rintro e w1 ⟨rfl, hb1⟩
  have ⟨cw1, fw1⟩ := bcell hb1
  have qw1 := hb1.size
  (try simp at qw1)
  (try have zw1w := bsz (show w.heap.size < w1.heap.size by omega))
  go_wp2
  go_ret
  exact ⟨rfl, by exact bel⟩
set_option maxRecDepth 100000 in
set_option maxHeartbeats 1600000 in
theorem idxNotIn {B : Nat → Prop} (P : ByteArray → Bool) (us : List ByteArray) (g : Addr) (va : Value) (w : World) (HC : ∀ (a : ByteArray) (w' : World), a ∈ us → a.size ≤ maxLen → Below w.heap.size w w' → Calls Tryz.prog 84 #[.string a, .pointer (some g)] w' fun e w'' => e = .returned (.bool (P a)) ∧ Below w'.heap.size w' w'')
    (h : StrsAt B w va us) : Calls Tryz.prog 138 #[va, .func (.func 84) #[] #[.pointer (some g)]] w (FirstI (firstI P 0 us) w) := by
  obtain ⟨p, c, rfl, hlen⟩ := h.form
  unfold maxLen at hlen
  have H := Lib.hid h
  have HN1 := Lib.hid HC
  clear h HC
  go_enter Tryz.func138, Tryz.ntmps138
  go_wp2
  go_loopw [8] (fun i wr => ∃ k : Nat, k ≤ us.length ∧ i = .int .i64 k ∧ firstI P 0 us = firstI P k (us.drop k) ∧ Below w.heap.size w wr) (fun i _ => us.length - (intOf i).toNat)
  case atStart => exact ⟨0, Nat.zero_le _, rfl, rfl, by exact bel⟩
  case round =>
    obtain ⟨k, hk, rfl, he, hb⟩ := hrel
    have HE := Lib.hid he
    clear he
    by_cases hlt : k < us.length
    · obtain ⟨b, o, rfl, hB, hx0, hxs⟩ := (H.out.below hb).at_ hlt
      have HD := Lib.hid (firstI_drop P hlt)
      have hm := List.getElem_mem hlt
      obtain ⟨a, ha⟩ : ∃ a, us[k] = a := ⟨_, rfl⟩
      rw [ha] at hx0 hxs HD hm
      clear ha
      have zb := bsz (World.block_lt_of_cell? _ _ hx0)
      cases hN : P a
      all_goals
        have HN := Lib.hid hN
        go_wp2_with fail
        refine (HN1.out a _ hm hxs (by exact bel)).mono ?_
        rintro e w1 ⟨rfl, hb1⟩
        have ⟨cw1, fw1⟩ := bcell hb1
        have qw1 := hb1.size
        (try simp at qw1)
        (try have zw1w := bsz (show w.heap.size < w1.heap.size by omega))
        rw [HN.out]
        go_wp2
      · refine ⟨⟨k + 1, by omega, by go_num, ?_, by exact bel⟩, by simp [intOf]; omega⟩
        rw [HE.out, HD.out, HN.out]; rfl
      · go_ret
        exact ⟨_, rfl, by rw [HE.out, HD.out, HN.out]; rfl, by exact bel⟩
    · obtain rfl : k = us.length := by omega
      have he := HE.out
      rw [List.drop_length] at he
      have HE2 := Lib.hid he
      clear he
      go_wp2
      go_ret
      exact ⟨-1, rfl, by rw [HE2.out]; rfl, by exact bel⟩
set_option maxRecDepth 100000 in
set_option maxHeartbeats 1600000 in
theorem anyNotIn_any {B B' : Nat → Prop} (us out : List ByteArray) (va vo : Value) (g : Nat) (w : World) (hg : w.cell? ⟨g, 0, none⟩ = some vo) (ho : StrsAt B' w vo out) (h : StrsAt B w va us) :
    Calls Tryz.prog 83 #[va, .func (.func 84) #[] #[.pointer (some ⟨g, 0, none⟩)]] w fun e w' => e = .returned (.bool (us.any fun x => !inS out x)) ∧ Below w.heap.size w w' := by
  have hgz := World.block_lt_of_cell? _ _ hg
  have HX := Lib.hid (fun (w' : World) (hb : Below w.heap.size w w') => idxNotIn (fun x => !inS out x) us ⟨g, 0, none⟩ va w' (fun a w2 _ _ hb2 => notIn_any out vo g a w2 (((Below.step hb hb2).cell hgz).trans hg) (ho.below (Below.step hb hb2))) (h.below hb))
  clear h ho
  go_enter Tryz.func83, Tryz.ntmps83
  go_wp2_with fail
  refine (HX.out _ (by exact bel)).mono ?_
  rintro e w1 ⟨r, rfl, hr, hb1⟩
  have HR := Lib.hid (show decide (0 ≤ r) = (us.any fun x => !inS out x) by rw [hr, atI_neg, firstI_any])
  clear hr
  go_wp2
  go_ret
  exact ⟨ret_bool HR.out, by exact bel⟩
theorem not_any_all (us : List ByteArray) (P : ByteArray → Bool) : (!us.any fun x => !P x) = us.all P := by
  induction us with
  | nil => rfl
  | cons a us ih => rw [List.any_cons, List.all_cons, ← ih]; cases P a <;> simp
set_option maxRecDepth 100000 in
set_option maxHeartbeats 1600000 in
theorem readyU_any {B B' : Nat → Prop} (u : Un) (out : List ByteArray) (vo v0 v1 v2 v3 : Value) (g : Nat) (w : World) (hg : w.cell? ⟨g, 0, none⟩ = some vo) (ho : StrsAt B' w vo out) (h : UnAt B w u [v0, v1, v2, v3]) :
    Calls Tryz.prog 82 #[.agg #[v0, v1, v2, v3], .pointer (some ⟨g, 0, none⟩)] w fun e w' => e = .returned (.bool (u.ready out)) ∧ Below w.heap.size w w' := by
  obtain ⟨p, c, q, d, rfl, rfl, rfl, rfl, -, -, -, -, hi, -⟩ := h.form
  have hgz := bsz (World.block_lt_of_cell? _ _ hg)
  obtain ⟨po, co, rfl, -⟩ := ho.form
  have HI := Lib.hid hi
  have HO := Lib.hid ho
  have HRD := Lib.hid (show u.ready out = (!inS out u.name && !(u.incs.any fun x => !inS out x)) by rw [not_any_all]; rfl)
  clear h hi ho
  go_enter Tryz.func82, Tryz.ntmps82
  go_wp2_with fail
  refine (containsS_any out _ u.name _ (HO.out.below (by exact bel))).mono ?_
  rintro e w1 ⟨rfl, hb1⟩
  have ⟨cw1, fw1⟩ := bcell hb1
  have qw1 := hb1.size
  (try simp at qw1)
  (try have zw1w := bsz (show w.heap.size < w1.heap.size by omega))
  cases h1 : inS out u.name
  · have H1 := Lib.hid h1
    go_wp2_with fail
    refine (anyNotIn_any u.incs out _ _ g _ (by go_simp) (HO.out.below (by exact bel)) (HI.out.below (by exact bel))).mono ?_
    rintro e w2 ⟨rfl, hb2⟩
    have ⟨cw2, fw2⟩ := bcell hb2
    have qw2 := hb2.size
    (try simp at qw2)
    (try have zw2w := bsz (show w.heap.size < w2.heap.size by omega))
    (try have zw2w1 := bsz (show w1.heap.size < w2.heap.size by omega))
    go_wp2
    go_ret
    exact ⟨ret_bool (by rw [HRD.out, H1.out]; rfl), by exact bel⟩
  · have H1 := Lib.hid h1
    go_wp2
    go_ret
    exact ⟨ret_bool (by rw [HRD.out, H1.out]; rfl), by exact bel⟩
set_option maxRecDepth 100000 in
set_option maxHeartbeats 1600000 in
theorem idxReady {B : Nat → Prop} (P : Un → Bool) (us : List Un) (g : Addr) (va : Value) (w : World) (HC : ∀ (a : Un) (v0 v1 v2 v3 : Value) (w' : World), a ∈ us → UnAt B w' a [v0, v1, v2, v3] → Below w.heap.size w w' → Calls Tryz.prog 82 #[.agg #[v0, v1, v2, v3], .pointer (some g)] w' fun e w'' => e = .returned (.bool (P a)) ∧ Below w'.heap.size w' w'')
    (h : UnsAt B w va us) : Calls Tryz.prog 81 #[va, .func (.func 82) #[] #[.pointer (some g)]] w (FirstI (firstI P 0 us) w) := by
  obtain ⟨p, c, rfl, hlen⟩ := h.form
  unfold maxLen at hlen
  have H := Lib.hid h
  have HN1 := Lib.hid HC
  clear h HC
  go_enter Tryz.func81, Tryz.ntmps81
  go_wp2
  go_loopw [8] (fun i wr => ∃ k : Nat, k ≤ us.length ∧ i = .int .i64 k ∧ firstI P 0 us = firstI P k (us.drop k) ∧ Below w.heap.size w wr) (fun i _ => us.length - (intOf i).toNat)
  case atStart => exact ⟨0, Nat.zero_le _, rfl, rfl, by exact bel⟩
  case round =>
    obtain ⟨k, hk, rfl, he, hb⟩ := hrel
    have HE := Lib.hid he
    clear he
    by_cases hlt : k < us.length
    · obtain ⟨b, o, rfl, hB, p1, c1, p2, c2, hx0, hx1, hx2, hx3, hx⟩ := (H.out.below hb).at_ hlt
      have HD := Lib.hid (firstI_drop P hlt)
      have hm := List.getElem_mem hlt
      obtain ⟨a, ha⟩ : ∃ a, us[k] = a := ⟨_, rfl⟩
      rw [ha] at hx hx0 hx1 hx2 hx3 HD hm
      have HX := Lib.hid hx
      clear ha hx
      have zb := bsz (World.block_lt_of_cell? _ _ hx0)
      cases hN : P a
      all_goals
        have HN := Lib.hid hN
        go_wp2_with fail
        refine (HN1.out a _ _ _ _ _ hm HX.out (by exact bel)).mono ?_
        rintro e w1 ⟨rfl, hb1⟩
        have ⟨cw1, fw1⟩ := bcell hb1
        have qw1 := hb1.size
        (try simp at qw1)
        (try have zw1w := bsz (show w.heap.size < w1.heap.size by omega))
        rw [HN.out]
        go_wp2
      · refine ⟨⟨k + 1, by omega, by go_num, ?_, by exact bel⟩, by simp [intOf]; omega⟩
        rw [HE.out, HD.out, HN.out]; rfl
      · go_ret
        exact ⟨_, rfl, by rw [HE.out, HD.out, HN.out]; rfl, by exact bel⟩
    · obtain rfl : k = us.length := by omega
      have he := HE.out
      rw [List.drop_length] at he
      have HE2 := Lib.hid he
      clear he
      go_wp2
      go_ret
      exact ⟨-1, rfl, by rw [HE2.out]; rfl, by exact bel⟩
structure OrdSt (l out : List ByteArray) (v : Value) (w wr : World) : Prop where
  box : wr.heap[w.heap.size + 1]? = some (.cells #[v] 26 (0, 0))
  row : wr.ownsRow w.heap.size 9 1 v out.length (strW out)
  apart : v.ownBlock ≠ some (w.heap.size + 1)
  sizes : ∀ s ∈ out, s.size ≤ maxLen
  bel : Below w.heap.size w wr
def OrdIRel (l : List Un) (w : World) (wr : World) : Prop :=
  ∃ (out : List ByteArray) (v : Value), OrdInv l out ∧ ordF (l.length - out.length) l out = ordL l ∧ OrdSt [] out v w wr
def OrdPost (l : List Un) (w : World) (e : Ending) (w' : World) : Prop :=
  Below w.heap.size w w' ∧ if (ordL l).length = l.length then ∃ v, e = .returned (.tuple #[v, .bool true]) ∧ StrOwn 9 (NewB w w') w' (ordL l) v else e = .returned (.tuple #[.slice none 0 0, .bool false])
set_option maxRecDepth 100000 in
set_option maxHeartbeats 3200000 in
theorem order_any {B : Nat → Prop} (l : List Un) (va : Value) (w : World) (h : UnsAt B w va l) (hl : l.length ≤ 1048576) : Calls Tryz.prog 31 #[va] w (OrdPost l w) := by
  obtain ⟨p, c, rfl, hlen⟩ := h.form
  unfold maxLen at hlen
  have H := Lib.hid h
  clear h
  go_enter Tryz.func31, Tryz.ntmps31
  go_wp2
  go_loopw [] (OrdIRel l w) (fun wr => l.length - lenB wr (w.heap.size + 1))
  case atStart =>
    refine ⟨[], .slice (some ⟨w.heap.size, 0, none⟩) 0 0, OrdInv.nil l, rfl, new_at (by simp), own_below (row_empty w w.heap.size _ 1 (Nat.le_refl _)) (by exact bel), by simp [Value.ownBlock], by simp, by exact bel⟩
  case round =>
    obtain ⟨out, v, hinv, hord, hst⟩ := hrel
    have HO := Lib.hid (rowS_own (S := fun _ => True) hst.row hst.sizes (by have := hinv.len; unfold maxLen; omega) (fun _ _ => trivial))
    obtain ⟨po, co, rfl, -⟩ := OwnRow.form HO.out
    have hlen2 := hinv.len
    have c0 : wr.cell? ⟨w.heap.size + 1, 0, none⟩ = some (.slice po out.length co) := (cell_of_row _ _ 0 _ _ (0, 0) hst.box).trans rfl
    have cf : ∀ i, wr.frozen? ⟨w.heap.size + 1, i, none⟩ = false := fun i => frozen_of_row _ _ i _ _ hst.box
    have zb := bsz (blk_lt hst.box)
    have hb := hst.bel
    have hqb := hb.size
    have hla := Lib.hid (lenB_of c0)
    have HINV := Lib.hid hinv
    have HORD := Lib.hid hord
    have HST := Lib.hid hst
    clear hinv hord hst
    by_cases hlt : out.length < l.length
    · have HX := Lib.hid (idxReady (fun u => u.ready out) l ⟨w.heap.size + 1, 0, none⟩ (.slice p l.length c) wr (fun a v0 v1 v2 v3 w' _ ha hb' => readyU_any a out _ v0 v1 v2 v3 (w.heap.size + 1) w' ((hb'.cell zb.1).trans c0) (HO.out.at_.below hb') ha) (H.out.below hb))
      go_wp2_with fail
      refine (HX.out).mono ?_
      rintro e w1 ⟨r, rfl, hr, hb1⟩
      have ⟨cb1, fb1⟩ := bcell hb1
      have hq1 := hb1.size
      have hbw : Below w.heap.size w w1 := Below.step hb hb1
      cases hf : firstI (fun u => u.ready out) 0 l with
      | none =>
        rw [hf] at hr
        obtain rfl : r = -1 := hr
        have HN := Lib.hid (show ordL l = out from HORD.out.symm.trans (ordF_none _ (firstI_none _ _ _ hf)))
        clear hf
        go_wp2
        refine bodyPost_ret (v := .tuple #[.slice none 0 0, .bool false]) (by simp only [results, Tryz.results31]; go_simp) rfl ⟨hbw, ?_⟩
        rw [HN.out, if_neg (by omega)]
      | some i =>
        rw [hf] at hr
        obtain rfl : r = (i : Int) := hr
        obtain ⟨-, hi, hfd⟩ := firstI_some _ _ _ _ hf
        simp only [Nat.sub_zero] at hi hfd
        obtain ⟨b, o, rfl, hB, p1, c1, p2, c2, hx0, hx1, hx2, hx3, hx⟩ := (H.out.below hbw).at_ hi
        have hnsz : l[i].name.size ≤ maxLen := by obtain ⟨_, _, _, h2, _⟩ := hx; exact h2
        have HFD := Lib.hid hfd
        obtain ⟨u, hu⟩ : ∃ u, l[i] = u := ⟨_, rfl⟩
        rw [hu] at hx0 hx1 hx2 hx3 HFD hnsz
        have zbb := bsz (World.block_lt_of_cell? _ _ hx0)
        have hi0 : ¬ (i : Int) < 0 := by omega
        have HS1 := Lib.hid (own_below HST.out.row hb1)
        have hnsl : l[i].name.size ≤ maxLen := by rw [hu]; exact hnsz
        clear hx hf hfd hu
        go_wp2
        have hvne := HST.out.apart
        have hbold : b < w.heap.size := by
          obtain ⟨b', o', hp, -, -, -, -, -, hc, -⟩ := H.out.at_ hi
          simp only [Option.some.injEq, Addr.mk.injEq, and_true] at hp
          obtain ⟨rfl, rfl⟩ := hp
          exact World.block_lt_of_cell? _ _ hc
        have hbne : (Value.slice po out.length co).ownBlock ≠ some b := fun e => by have := own_base HST.out.row _ e; omega
        have HB1 := Lib.hid ((hb1.block _ zb.1).trans HST.out.box)
        have HCL := Lib.hid (fun (j : Nat) (u' : Nat → Value) (w' : World) (hj : j ≤ 2) (hS : BoxA 9 1 ⟨w.heap.size + 1, 0, none⟩ (.slice po out.length co) out.length #[.string u.name] w1.drew 6 7 j u' w') => And.intro (hS.cell hj hvne (show w1.cell? ⟨w.heap.size + 1, 0, none⟩ = some (.slice po out.length co) from (cb1 _ _ zb.1).trans c0)) (And.intro (hS.cell hj hbne hx0) (hS.frozen hj (o := 0) hvne HB1.out)))
        refine wp_region_stages [some (.slice po out.length co), some (.slice (some ⟨b, o, none⟩) l.length c), some (.int .i64 (i : Nat)), some (.pointer (some ⟨b, o + i * 4, none⟩)), some (.pointer (some ⟨b, o + i * 4, none⟩)), some (.string u.name), none, none, none] [6, 7, 8] (BoxA 9 1 ⟨w.heap.size + 1, 0, none⟩ (.slice po out.length co) (out.length) (#[.string u.name]) (w1.drew) 6 7) (by kernel_rfl) (by kernel_rfl) (by first | kernel_rfl | rfl) (by rfl) rfl ?_
        refine chain_stb (c := 8) 2 rfl rfl (by decide) rfl rfl rfl (by first | kernel_rfl | rfl) ?_ ?_
        · intro j u w' hj hS
          have hc := HCL.out j u w' hj hS
          go_simp
          first | done | exact ⟨hS, rfl⟩ | exact hS | rfl
        go_simp
        refine chain_stb (c := 8) 2 rfl rfl (by decide) rfl rfl rfl (by first | kernel_rfl | rfl) ?_ ?_
        · intro j u w' hj hS
          have hc := HCL.out j u w' hj hS
          go_simp
          first | done | exact ⟨hS, rfl⟩ | exact hS | rfl
        go_simp
        refine chain_stb (c := 8) 2 rfl rfl (by decide) rfl rfl rfl (by first | kernel_rfl | rfl) ?_ ?_
        · intro j u w' hj hS
          have hc := HCL.out j u w' hj hS
          go_simp
          first | done | exact ⟨hS, rfl⟩ | exact hS | rfl
        go_simp
        refine chain_stb (c := 8) 2 rfl rfl (by decide) rfl rfl rfl (by first | kernel_rfl | rfl) ?_ ?_
        · intro j u w' hj hS
          have hc := HCL.out j u w' hj hS
          go_simp
          first | done | exact ⟨hS, rfl⟩ | exact hS | rfl
        go_simp
        refine chain_stb (c := 8) 2 rfl rfl (by decide) rfl rfl rfl (by first | kernel_rfl | rfl) ?_ ?_
        · intro j u w' hj hS
          have hc := HCL.out j u w' hj hS
          go_simp
          first | done | exact ⟨hS, rfl⟩ | exact hS | rfl
        go_simp
        refine chain_stb (c := 8) 2 rfl rfl (by decide) rfl rfl rfl (by first | kernel_rfl | rfl) ?_ ?_
        · intro j u w' hj hS
          have hc := HCL.out j u w' hj hS
          go_simp
          first | done | exact ⟨hS, rfl⟩ | exact hS | rfl
        go_simp
        refine chain_first rfl rfl rfl (by decide) rfl ?_ ?_
        · intro w' hS
          obtain rfl : w' = w1.drew := hS
          go_simp
          exact ⟨rfl, upd_same _ _ _⟩
        intro xb
        go_simp
        refine chain_next 0 rfl rfl rfl rfl (by decide) rfl (by first | kernel_rfl | rfl) ?_ ?_
        · intro w' hS
          obtain ⟨rfl, hy⟩ := hS
          rw [upd_same] at hy
          subst hy
          refine each_app1 (.tmp 17) (.tmp 23) _ rfl (w.heap.size) 9 1 16 elemStr (.slice po out.length co) (out.length) (strW out) rfl (w1.drew) (#[.string u.name]) rfl rfl (HS1.out) rfl (by intro u hu; simp at hu; first | (subst hu; rfl) | (rcases hu with rfl | rfl <;> rfl) | (rcases hu with rfl | rfl | rfl <;> rfl) | (rcases hu with rfl | rfl | rfl | rfl <;> rfl) | (rcases hu with rfl | rfl | rfl | rfl | rfl <;> rfl)) (by omega) (by unfold maxLen; omega) (by first | omega | (simp; omega)) ?_
          intro v' w3 happ hg3 hnr hsz
          exact ⟨by rw [upd_same]; exact happ, hg3, by rw [upd_same]; exact hnr, hsz⟩
        intro xa
        go_simp
        refine chain_next 1 rfl rfl rfl rfl (by decide) rfl (by first | kernel_rfl | rfl) ?_ ?_
        · intro w' hS
          have hc := HCL.out 2 _ _ (Nat.le_refl _) hS
          obtain ⟨happ, hg3, hnr, hsz⟩ := hS
          rw [upd_same] at happ hnr
          obtain ⟨q', c', rfl⟩ := own_form (happ (w.heap.size) (strW out) (HS1.out) (by first | omega | (simp; omega))) (Nat.succ_pos _)
          go_simp
          exact ⟨w', ⟨by rw [upd_other _ _ (by decide), upd_same]; exact happ, hg3, by rw [upd_other _ _ (by decide), upd_same]; exact hnr, hsz⟩, by rw [upd_other _ _ (by decide), upd_same]⟩
        intro xs'
        refine flowU_nil ?_
        intro wz hz
        obtain ⟨w2, hAp, rfl⟩ := hz
        rw [upd_other _ _ (by decide), upd_same] at hAp ⊢
        have HAP := Lib.hid hAp
        clear hAp
        go_simp
        have hrow2 := HAP.out.1 w.heap.size (strW out) HS1.out (by simp; omega)
        have hap := HAP.out.fresh (b := w.heap.size + 1) (by simp; omega) hvne
        have hbox2 := HAP.out.keep (b := w.heap.size + 1) (by simp; omega) hvne
        have hsz2 := HAP.out.2.2.2
        have hb12 : Below w.heap.size w w2 := (show Below w.heap.size w w1.drew from hbw.drew).grown HAP.out.2.1 (by simp; omega) (own_base HS1.out)
        simp at hsz2
        go_wp2
        obtain ⟨q2, k2, rfl⟩ := own_form hrow2 (Nat.succ_pos _)
        have hbox3 : (w2.setCell ⟨w.heap.size + 1, 0, none⟩ (.slice (some ⟨q2, 0, none⟩) (out.length + 1) k2)).heap[w.heap.size + 1]? = some (.cells #[.slice (some ⟨q2, 0, none⟩) (out.length + 1) k2] 26 (0, 0)) := by
          have := heap_setCell_same w2 (w.heap.size + 1) 0 _ 26 (.slice (some ⟨q2, 0, none⟩) (out.length + 1) k2) (hbox2.trans HB1.out)
          simpa using this
        refine ⟨⟨out ++ [u.name], _, HINV.out.snoc (find_mem HFD.out).1 (find_mem HFD.out).2, ?_, ⟨hbox3, ?_, hap, ?_, hb12.setCell (by simp) _⟩⟩, ?_⟩
        · rw [← ordF_step HFD.out HINV.out]; exact HORD.out
        · rw [List.length_append, strW_snoc]
          exact own_same hrow2 (fun g hg _ => heap_setCell_other w2 ⟨w.heap.size + 1, 0, none⟩ g _ (fun e => hap (by rw [hg]; exact congrArg some e)))
        · intro s hs
          rcases List.mem_append.1 hs with hs | hs
          · exact HST.out.sizes s hs
          · rw [List.mem_singleton] at hs; subst hs; exact hnsz
        · rw [hla.out, lenB_of ((cell_of_row _ _ 0 _ _ (0, 0) hbox3).trans rfl)]; omega
    · have hle : out.length = l.length := by omega
      have HN := Lib.hid (show ordL l = out from HORD.out.symm.trans (ordF_full HINV.out hle))
      go_wp2
      refine bodyPost_ret (v := .tuple #[.slice po out.length co, .bool true]) (by simp only [results, Tryz.results31]; go_simp) rfl ⟨hb, ?_⟩
      rw [HN.out, if_pos hle]
      exact ⟨_, rfl, rowS_own HST.out.row HST.out.sizes (by unfold maxLen; omega) (fun g hg => ⟨own_base HST.out.row g hg, own_lt' HST.out.row hg⟩)⟩
open Go.RowKit
theorem inS_drop {us : List ByteArray} {k : Nat} (x : ByteArray) (h : k < us.length) : inS (us.drop k) x = (us[k].toList == x.toList || inS (us.drop (k + 1)) x) := by
  rw [inS, inS, List.drop_eq_getElem_cons h, decide_eq_decide.2 List.mem_cons, Bool.decide_or]
  congr 1
  rw [Bool.eq_iff_iff, decide_eq_true_iff, Lib.bytes_beq_iff]
  exact eq_comm
set_option maxRecDepth 100000 in
set_option maxHeartbeats 1600000 in
theorem l2In_any {B : Nat → Prop} (us : List ByteArray) (v : Value) (x : ByteArray) (w : World) (h : StrsAt B w v us) :
    Calls Tryz.prog 85 #[v, .string x] w fun e w' => e = .returned (.bool (inS us x)) ∧ Below w.heap.size w w' := by
  obtain ⟨p, c, rfl, hlen⟩ := h.form
  unfold maxLen at hlen
  have H := Lib.hid h
  clear h
  go_enter Tryz.func85, Tryz.ntmps85
  go_wp2
  go_loopw [5] (fun i wr => ∃ k : Nat, k ≤ us.length ∧ i = .int .i64 k ∧ inS us x = inS (us.drop k) x ∧ Below w.heap.size w wr) (fun i _ => us.length - (intOf i).toNat)
  case atStart => exact ⟨0, Nat.zero_le _, rfl, rfl, by exact bel⟩
  case round =>
    obtain ⟨k, hk, rfl, he, hb⟩ := hrel
    have HE := Lib.hid he
    clear he
    by_cases hlt : k < us.length
    · obtain ⟨b, o, rfl, hB, hx0, hxs⟩ := (H.out.below hb).at_ hlt
      have HD := Lib.hid (inS_drop x hlt)
      obtain ⟨a, ha⟩ : ∃ a, us[k] = a := ⟨_, rfl⟩
      rw [ha] at hx0 HD
      clear ha
      have zb := bsz (World.block_lt_of_cell? _ _ hx0)
      cases hN : (a.toList == x.toList)
      all_goals
        have HN := Lib.hid hN
        go_wp2
      · refine ⟨⟨k + 1, by omega, by go_num, ?_, by exact bel⟩, by simp [intOf]; omega⟩
        rw [HE.out, HD.out, HN.out]; rfl
      · go_ret
        exact ⟨ret_bool (by rw [HE.out, HD.out, HN.out]; rfl), by exact bel⟩
    · obtain rfl : k = us.length := by omega
      have he := HE.out
      rw [List.drop_length] at he
      have HE2 := Lib.hid he
      clear he
      go_wp2
      go_ret
      exact ⟨ret_bool (by rw [HE2.out]; rfl), by exact bel⟩
def lenV : Value → Nat | .slice _ n _ => n | _ => 0
structure OrdS (out : List ByteArray) (v : Value) (w wr : World) : Prop where
  row : wr.ownsRow w.heap.size 9 1 v out.length (strW out)
  sizes : ∀ s ∈ out, s.size ≤ maxLen
  bel : Below w.heap.size w wr
theorem OrdS.below {out : List ByteArray} {v : Value} {w wr w' : World} (h : OrdS out v w wr) (hb : Below wr.heap.size wr w') : OrdS out v w w' := ⟨own_below h.row hb, h.sizes, h.bel.trans (hb.mono h.bel.size)⟩
def SeekRel (l : List Un) (P : Un → Bool) (W : World) (nx i : Value) (wr : World) : Prop :=
  Below W.heap.size W wr ∧ ((∃ k : Nat, k ≤ l.length ∧ i = .int .i64 k ∧ nx = .string ⟨#[]⟩ ∧ firstI P 0 l = firstI P k (l.drop k)) ∨ (∃ (k j : Nat) (h : j < l.length), k ≤ l.length ∧ i = .int .i64 k ∧ nx = .string l[j].name ∧ firstI P 0 l = some j))
set_option maxRecDepth 100000 in
set_option maxHeartbeats 6400000 in
theorem l27Order_any {B : Nat → Prop} (l : List Un) (va : Value) (w : World) (h : UnsAt B w va l) (hl : l.length ≤ 1048576) (hne : ∀ u ∈ l, (u.name.toList == []) = false) :
    Calls Tryz.prog 33 #[va] w fun e w' => ∃ v, e = .returned v ∧ w'.ownsRow w.heap.size 9 1 v (ordL l).length (strW (ordL l)) ∧ (∀ s ∈ ordL l, s.size ≤ maxLen) ∧ Below w.heap.size w w' := by
  obtain ⟨p, c, rfl, hlen⟩ := h.form
  unfold maxLen at hlen
  have H := Lib.hid h
  have HNE := Lib.hid hne
  clear h hne
  go_enter Tryz.func33, Tryz.ntmps33
  go_wp2
  go_loopw [3] (fun o wr => ∃ out : List ByteArray, OrdInv l out ∧ ordF (l.length - out.length) l out = ordL l ∧ OrdS out o w wr) (fun o _ => l.length - lenV o)
  case atStart =>
    refine ⟨[], OrdInv.nil l, rfl, row_empty w w.heap.size _ 1 (Nat.le_refl _), by simp, by exact bel⟩
  case round =>
    obtain ⟨out, hinv, hord, hst⟩ := hrel
    obtain ⟨wA, hwA⟩ : ∃ x, x = wr := ⟨_, rfl⟩
    subst hwA
    have HO := Lib.hid (rowS_own (S := fun _ => True) hst.row hst.sizes (by have := hinv.len; unfold maxLen; omega) (fun _ _ => trivial))
    obtain ⟨po, co, rfl, -⟩ := OwnRow.form HO.out
    have hlen2 := hinv.len
    have hb := hst.bel
    have HINV := Lib.hid hinv
    have HORD := Lib.hid hord
    have HST := Lib.hid hst
    clear hinv hord hst
    go_wp2
    go_loopw [4, 5] (SeekRel l (Un.ready out) wA) (fun _ i _ => l.length - (intOf i).toNat)
    case atStart => exact ⟨by exact bel, .inl ⟨0, Nat.zero_le _, rfl, rfl, rfl⟩⟩
    case round =>
      obtain ⟨wB, hwB⟩ : ∃ x, x = wr := ⟨_, rfl⟩
      subst hwB
      obtain ⟨hbi, hrel⟩ := hrel
      have hbw := Below.step hb hbi
      have HS1 := Lib.hid (HST.out.below hbi)
      rcases hrel with ⟨k, hk, rfl, rfl, he⟩ | ⟨k, j, hj, hk, rfl, rfl, hfound⟩
      · have HE := Lib.hid he
        clear he
        by_cases hlt : k < l.length
        · obtain ⟨b, o, rfl, hB, p1, c1, p2, c2, hx0, hx1, hx2, hx3, hx⟩ := (H.out.below hbw).at_ hlt
          have HD := Lib.hid (firstI_drop (Un.ready out) hlt)
          obtain ⟨u, hu⟩ : ∃ u, l[k] = u := ⟨_, rfl⟩
          have HK := Lib.hid hu
          rw [hu] at hx hx0 hx1 hx2 hx3 HD
          have HI := Lib.hid hx.form
          clear hu
          have zb := bsz (World.block_lt_of_cell? _ _ hx0)
          go_wp2_with fail
          refine (l2In_any out _ u.name _ (HO.out.at_.below hbi)).mono ?_
          rintro e w1 ⟨rfl, hb1⟩
          have ⟨cb1, fb1⟩ := bcell hb1
          have hq1 := hb1.size
          obtain ⟨_, _, _, _, q0, q1, q2, q3, -, -, hil, -, hia, -⟩ := HI.out
          simp only [Value.slice.injEq, true_and] at q1
          obtain ⟨rfl, rfl⟩ := q1
          clear q0 q2 q3
          have HIA := Lib.hid hia
          unfold maxLen at hil
          clear hia HI
          go_wp2
          go_loopw [6, 7] (fun r i wr' => ∃ j : Nat, j ≤ u.incs.length ∧ i = .int .i64 j ∧ r = .bool (!inS out u.name && (u.incs.take j).all (inS out)) ∧ Below w1.heap.size w1 wr') (fun _ i _ => u.incs.length - (intOf i).toNat)
          case atStart => exact ⟨0, Nat.zero_le _, rfl, by simp, by exact bel⟩
          case round =>
            obtain ⟨j, hj, rfl, rfl, hbj⟩ := hrel
            have hbj1 : Below wB.heap.size wB wr := Below.step hb1 hbj
            have hcell0 := (hbj1.cell zb.1).trans hx0
            have hcell1 := (hbj1.cell (show b < wB.heap.size from zb.1)).trans hx1
            have zbj := bsz (World.block_lt_of_cell? _ _ hcell0)
            have HRY := Lib.hid (show u.ready out = (!inS out u.name && u.incs.all (inS out)) from rfl)
            by_cases hjl : j < u.incs.length
            · obtain ⟨b', o', rfl, hB', hy0, hys⟩ := (HIA.out.below hbj1).at_ hjl
              have HTK := Lib.hid (List.take_succ_eq_append_getElem hjl)
              obtain ⟨a, ha⟩ : ∃ a, u.incs[j] = a := ⟨_, rfl⟩
              rw [ha] at hy0 HTK
              clear ha
              have zb' := bsz (World.block_lt_of_cell? _ _ hy0)
              cases hr : (!inS out u.name && (u.incs.take j).all (inS out))
              · have HR := Lib.hid hr
                go_wp2
                refine ⟨⟨j + 1, by omega, by go_num, ?_, hbj⟩, by simp [intOf]; omega⟩
                rw [HTK.out, List.all_append, ← Bool.and_assoc, HR.out, Bool.false_and]
              · have HR := Lib.hid hr
                go_wp2_with fail
                refine (l2In_any out _ a _ (HO.out.at_.below (Below.step hbi hbj1))).mono ?_
                rintro e w2 ⟨rfl, hb2⟩
                go_wp2
                refine ⟨⟨j + 1, by omega, by go_num, ?_, Below.step hbj hb2⟩, by simp [intOf]; omega⟩
                rw [HTK.out, List.all_append, ← Bool.and_assoc, HR.out, Bool.true_and, List.all_cons, List.all_nil, Bool.and_true]
            · obtain rfl : j = u.incs.length := by omega
              rw [List.take_length, ← HRY.out]
              have hbk := Below.step hbi hbj1
              cases hr : u.ready out
              · have HR := Lib.hid hr
                go_wp2
                refine ⟨⟨hbk, .inl ⟨k + 1, by omega, by go_num, rfl, ?_⟩⟩, by simp [intOf]; omega⟩
                rw [HE.out, HD.out, HR.out]; rfl
              · have HR := Lib.hid hr
                go_wp2
                refine ⟨⟨hbk, .inr ⟨k + 1, k, hlt, by omega, by go_num, by rw [HK.out], ?_⟩⟩, by simp [intOf]; omega⟩
                rw [HE.out, HD.out, HR.out]; rfl
        · obtain rfl : k = l.length := by omega
          rw [List.drop_length] at HE
          have HN := Lib.hid (show ordL l = out from HORD.out.symm.trans (ordF_none _ (firstI_none _ _ _ HE.out)))
          go_wp2
          go_ret
          exact ⟨_, rfl, by rw [HN.out]; exact HS1.out.row, by rw [HN.out]; exact HS1.out.sizes, HS1.out.bel⟩
      · obtain ⟨-, hj2, hfd⟩ := firstI_some _ _ _ _ hfound
        simp only [Nat.sub_zero] at hj2 hfd
        have hnn := HNE.out l[j] (List.getElem_mem hj)
        obtain ⟨b, o, rfl, hB, p1, c1, p2, c2, hx0, hx1, hx2, hx3, hx⟩ := (H.out.below hbw).at_ hj
        have hnsz : l[j].name.size ≤ maxLen := by obtain ⟨_, _, _, h2, _⟩ := hx; exact h2
        have HFD := Lib.hid hfd
        obtain ⟨u, hu⟩ : ∃ u, l[j] = u := ⟨_, rfl⟩
        rw [hu] at hnn hnsz HFD
        have hlo : out.length < l.length := by
          have := (HINV.out.snoc (find_mem HFD.out).1 (find_mem HFD.out).2).len
          simp at this; omega
        clear hx hfound hfd
        rw [hu]
        have hrest : True := trivial
        by_cases hkl : (k : Int) < l.length
        all_goals
          go_wp2_with (at_builtin; refine wpList_app1 rfl (.tmp 59) (.tmp 61) _ rfl w.heap.size 9 1 16 elemStr _ _ _ rfl wB #[.string u.name] rfl _ (by simp) rfl HS1.out.row rfl (by simp [Value.oneCell']) (by omega) (by unfold maxLen; omega) (hbw.size) ?_; intro v1 w2 hown1 hg1 hnr1 hlt1)
          obtain ⟨q2, k2, rfl⟩ := own_form hown1 (Nat.succ_pos _)
          refine ⟨⟨out ++ [u.name], HINV.out.snoc (find_mem HFD.out).1 (find_mem HFD.out).2, ?_, ⟨by rw [List.length_append, strW_snoc]; exact hown1, ?_, hbw.grown hg1 hbw.size (own_base HS1.out.row)⟩⟩, by simp [lenV]; omega⟩
          · rw [← ordF_step HFD.out HINV.out]; exact HORD.out
          · intro s hs
            rcases List.mem_append.1 hs with hs | hs
            · exact HST.out.sizes s hs
            · rw [List.mem_singleton] at hs; subst hs; exact hnsz
open Go.RowKit
def unitsF : Option ByteArray → List Un → Bool
  | _, [] => true
  | p, u :: us => u.good && ascS p u.name && unitsF (some u.name) us
def prevU (l : List Un) : Nat → Option ByteArray | 0 => none | k + 1 => (l[k]?).map Un.name
theorem unitsF_drop {l : List Un} {k : Nat} (h : k < l.length) : unitsF (prevU l k) (l.drop k) = (l[k].good && ascS (prevU l k) l[k].name && unitsF (prevU l (k + 1)) (l.drop (k + 1))) := by
  rw [List.drop_eq_getElem_cons h, unitsF, show prevU l (k + 1) = some l[k].name by rw [prevU, List.getElem?_eq_getElem h]; rfl]
theorem prevU_pos {l : List Un} {k : Nat} (h : k < l.length) (hk : 0 < k) : prevU l k = some (l[k - 1]'(by omega)).name := by
  cases k with
  | zero => omega
  | succ k => rw [prevU, List.getElem?_eq_getElem (by omega)]; rfl
theorem less_trans : ∀ x y z : List UInt8, Op.bytesLess x y = true → Op.bytesLess y z = true → Op.bytesLess x z = true
  | [], [], _, h, _ => by simp [Op.bytesLess] at h
  | [], b :: y, [], _, h2 => by simp [Op.bytesLess] at h2
  | [], b :: y, c :: z, _, _ => by simp [Op.bytesLess]
  | a :: x, [], _, h, _ => by simp [Op.bytesLess] at h
  | a :: x, b :: y, [], _, h2 => by simp [Op.bytesLess] at h2
  | a :: x, b :: y, c :: z, h, h2 => by
    have ih := less_trans x y z
    simp only [Op.bytesLess, Bool.or_eq_true, Bool.and_eq_true, decide_eq_true_eq, beq_iff_eq] at h h2 ⊢
    rcases h with h | ⟨rfl, h⟩ <;> rcases h2 with h2 | ⟨rfl, h2⟩
    · exact .inl (UInt8.lt_trans h h2)
    · exact .inl h
    · exact .inl h2
    · exact .inr ⟨rfl, ih h h2⟩
theorem less_irrefl : ∀ x : List UInt8, Op.bytesLess x x = false
  | [] => rfl
  | a :: x => by simp [Op.bytesLess, UInt8.lt_irrefl, less_irrefl x]
theorem unitsF_asc : ∀ (l : List Un) (p : ByteArray), unitsF (some p) l = true → ∀ u ∈ l, lessB p u.name = true
  | [], _, _, u, hu => by simp at hu
  | v :: l, p, h, u, hu => by
    rw [unitsF, Bool.and_eq_true, Bool.and_eq_true] at h
    rcases List.mem_cons.1 hu with rfl | hu
    · exact h.1.2
    · exact less_trans _ _ _ h.1.2 (unitsF_asc l v.name h.2 u hu)
theorem unitsF_dist : ∀ (l : List Un) (p : Option ByteArray), unitsF p l = true → Dist l
  | [], _, _ => List.nodup_nil
  | v :: l, p, h => by
    rw [unitsF, Bool.and_eq_true, Bool.and_eq_true] at h
    rw [Dist, List.map_cons, List.nodup_cons]
    refine ⟨fun hm => ?_, unitsF_dist l _ h.2⟩
    obtain ⟨u, hu, e⟩ := List.mem_map.1 hm
    have := unitsF_asc l v.name h.2 u hu
    rw [e, lessB, less_irrefl] at this; cases this
theorem unitsF_good : ∀ (l : List Un) (p : Option ByteArray), unitsF p l = true → ∀ u ∈ l, u.good = true
  | [], _, _, u, hu => by simp at hu
  | v :: l, p, h, u, hu => by
    rw [unitsF, Bool.and_eq_true, Bool.and_eq_true] at h
    rcases List.mem_cons.1 hu with rfl | hu
    · exact h.1.1
    · exact unitsF_good l _ h.2 u hu
def libGood (l : List Un) : Bool := unitsF none l && decide (l.length ≤ 12) && decide ((ordL l).length = l.length)
set_option maxRecDepth 100000 in
set_option maxHeartbeats 6400000 in
theorem implLib_any {B : Nat → Prop} (l : List Un) (va : Value) (w : World) (h : UnsAt B w va l) (hw : l.length + wtU l ≤ 1048576) :
    Calls Tryz.prog 10 #[va] w fun e w' => e = .returned (.bool (libGood l)) ∧ Below w.heap.size w w' := by
  obtain ⟨p, c, rfl, hlen⟩ := h.form
  unfold maxLen at hlen
  have H := Lib.hid h
  have HG := Lib.hid (show libGood l = (unitsF none l && decide (l.length ≤ 12) && decide ((ordL l).length = l.length)) from rfl)
  have HZ := Lib.hid (fun u hu => Nat.le_trans (wtU_le l u hu) (show wtU l ≤ 1000000000000 by omega))
  clear h
  go_enter Tryz.func10, Tryz.ntmps10
  go_wp2
  go_loopw [9] (fun i wr => ∃ k : Nat, k ≤ l.length ∧ i = .int .i64 k ∧ unitsF none l = unitsF (prevU l k) (l.drop k) ∧ Below w.heap.size w wr) (fun i _ => l.length - (intOf i).toNat)
  case atStart => exact ⟨0, Nat.zero_le _, rfl, rfl, by exact bel⟩
  case round =>
    obtain ⟨k, hk, rfl, he, hb⟩ := hrel
    have HE := Lib.hid he
    clear he
    by_cases hlt : k < l.length
    · obtain ⟨b, o, rfl, hB, p1, c1, p2, c2, hx0, hx1, hx2, hx3, hx⟩ := (H.out.below hb).at_ hlt
      have HD := Lib.hid (unitsF_drop hlt)
      have hza := HZ.out _ (List.getElem_mem hlt)
      have zb := bsz (World.block_lt_of_cell? _ _ hx0)
      by_cases hk0 : k = 0
      · subst hk0
        have HP := Lib.hid (show prevU l 0 = none from rfl)
        obtain ⟨a, ha⟩ : ∃ a, l[0] = a := ⟨_, rfl⟩
        rw [ha] at hx hx0 hx1 hx2 hx3 HD hza
        have HX := Lib.hid hx
        clear ha hx
        rw [Nat.zero_mul, Nat.add_zero] at hx0 hx1 hx2 hx3
        cases hg : a.good
        all_goals
          have HAG := Lib.hid (show ∀ (w : World), UnAt B w a [.string a.name, .slice p1 a.incs.length c1, .slice p2 a.axs.length c2, .string a.goal] → Calls Tryz.prog 34 #[.agg #[.string a.name, .slice p1 a.incs.length c1, .slice p2 a.axs.length c2, .string a.goal]] w fun e w' => e = .returned (.bool _) ∧ Below w.heap.size w w' from fun w hx => hg ▸ implUnit_any a _ _ _ _ w hx hza)
          have HGG := Lib.hid hg
          clear hg
          go_wp2
          obtain ⟨W, hW⟩ : ∃ W : World, W = wr.alloc (.cells #[.string a.name, .slice p1 a.incs.length c1, .slice p2 a.axs.length c2, .string a.goal] 34) := ⟨_, rfl⟩
          have hbW : Below wr.heap.size wr W := by rw [hW]; exact (Below.refl _ _).alloc (Nat.le_refl _) _
          have hbw := Below.step hb hbW
          have hc0 : W.cell? ⟨wr.heap.size, 0, none⟩ = some (.string a.name) := by rw [hW]; go_simp
          have hc1 : W.cell? ⟨wr.heap.size, 1, none⟩ = some (.slice p1 a.incs.length c1) := by rw [hW]; go_simp
          have hc2 : W.cell? ⟨wr.heap.size, 2, none⟩ = some (.slice p2 a.axs.length c2) := by rw [hW]; go_simp
          have hc3 : W.cell? ⟨wr.heap.size, 3, none⟩ = some (.string a.goal) := by rw [hW]; go_simp
          have hy0 := (hbW.cell zb.1).trans hx0
          rw [← hW]
          clear hW
          obtain ⟨C, HC0⟩ := class_of (InF W.heap.size _ [(⟨wr.heap.size, 0, none⟩, .string a.name), (⟨wr.heap.size, 1, none⟩, .slice p1 a.incs.length c1), (⟨wr.heap.size, 2, none⟩, .slice p2 a.axs.length c2), (⟨wr.heap.size, 3, none⟩, .string a.goal), (⟨b, o, none⟩, .string a.name)] [] [])
          have HC := Lib.hid HC0
          clear HC0
          refine wp_region_flow (C := C) (by kernel_rfl) (by kernel_rfl) (fun L hL => (HC.out _ _).2 (InF.start (by first | (intro _ hs; cases hs; done) | (simp only [List.forall_mem_cons]; go_simp)) (by first | (intro _ hs; cases hs; done) | (simp only [List.forall_mem_cons]; go_simp)) (by first | (intro _ hs; cases hs; done) | (simp only [List.forall_mem_cons]; go_simp)) (by first | (intro _ hs; cases hs; done) | (simp only [List.forall_mem_cons]; go_simp)) L hL)) ?_
          repeat (first | ((first | apply flow_free rfl | (apply flow_yes; (case hw => go_simp))); (intro L w' hun hrd hC; have hC := (HC.out _ _).1 hC; have hb' := hC.below; (try have hw' : Below w.heap.size w w' := by first | exact Below.trans (by (repeat (first | with_reducible (first | exact bR _ _ | assumption | refine bA ?_ _ | refine bS ?_ (by first | exact Nat.le_refl _ | (simp; done) | (simp; omega)) _) | assumption | exact bR _ _ | refine bD ?_ | refine bN ?_ _ | refine bT ?_ (by assumption)))) hb' | ((repeat (first | with_reducible (first | exact bR _ _ | assumption | refine bA ?_ _ | refine bS ?_ (by first | exact Nat.le_refl _ | (simp; done) | (simp; omega)) _) | assumption | exact bR _ _ | refine bD ?_ | refine bN ?_ _ | refine bT ?_ (by assumption))); done)); have hf' := hC.cell; (try simp only [List.forall_mem_cons] at hf'); go_simp; first | exact ⟨(HC.out _ _).2 (hC.skip _ (by rfl)), rfl⟩ | (rw [if_neg]; (exact ⟨(HC.out _ _).2 (hC.skip _ (by rfl)), rfl⟩); omega) | (go_at_call 34; refine (HAG.out _ (HX.out.below (Below.step hbW hb'))).mono ?_; rintro e w1 ⟨rfl, hb1⟩; exact ⟨rfl, (HC.out _ _).2 ((hC.next (by first | (simp; done) | (simp; omega) | omega) hb1).skip _ (by rfl))⟩)); go_simp) | (apply flow_no; (case hw => (go_simp; try (intro hh; cases hh))); (intro L w' _ _ hC; exact (HC.out _ _).2 (((HC.out _ _).1 hC).skip _ (by rfl))); go_simp))
          refine flow_nil ?_
          intro L wz hL hz
          have hz := (HC.out _ _).1 hz
          have hbz := hz.below
          have hcz := hz.cell
          try simp only [List.forall_mem_cons] at hcz
          have hdz := hz.done
          try simp only [List.forall_mem_cons] at hdz
          (try have hwz : Below w.heap.size w wz := by first | exact Below.trans (by (repeat (first | with_reducible (first | exact bR _ _ | assumption | refine bA ?_ _ | refine bS ?_ (by first | exact Nat.le_refl _ | (simp; done) | (simp; omega)) _) | assumption | exact bR _ _ | refine bD ?_ | refine bN ?_ _ | refine bT ?_ (by assumption)))) hbz | ((repeat (first | with_reducible (first | exact bR _ _ | assumption | refine bA ?_ _ | refine bS ?_ (by first | exact Nat.le_refl _ | (simp; done) | (simp; omega)) _) | assumption | exact bR _ _ | refine bD ?_ | refine bN ?_ _ | refine bT ?_ (by assumption))); done))
          go_wp2
        · go_ret
          exact ⟨ret_bool (by rw [HG.out, HE.out, HD.out, HGG.out]; rfl), by exact bel⟩
        · refine ⟨⟨1, by omega, by go_num, ?_, Below.step hbw hbz⟩, by simp [intOf]; omega⟩
          rw [HE.out, HD.out, HGG.out, HP.out]; rfl
      · have hk1 : k - 1 < l.length := by omega
        obtain ⟨b', o', hq, hB', r1, d1, r2, d2, hz0, -, -, -, -⟩ := (H.out.below hb).at_ hk1
        simp only [Option.some.injEq, Addr.mk.injEq, and_true] at hq
        obtain ⟨rfl, rfl⟩ := hq
        have HP := Lib.hid (prevU_pos hlt (by omega))
        obtain ⟨a, ha⟩ : ∃ a, l[k] = a := ⟨_, rfl⟩
        obtain ⟨q, hqe⟩ : ∃ q, l[k - 1] = q := ⟨_, rfl⟩
        rw [ha] at hx hx0 hx1 hx2 hx3 HD hza
        rw [hqe] at hz0 HP
        have HX := Lib.hid hx
        clear ha hqe hx
        have hki : IntKind.i64.wrap ((k : Int) - 1) = ((k - 1 : Nat) : Int) := by rw [IntWalk.i64_in _ (by omega)]; omega
        have hkp : (0 : Int) < (k : Int) := by omega
        have hkn : 0 < k := by omega
        have hkj : ((k - 1 : Nat) : Int) < l.length := by omega
        have HL0 := Lib.hid (show lessB q.name a.name = !(Op.bytesLess a.name.toList q.name.toList || a.name.toList == q.name.toList) by rw [lessB, less_total, ByteArray.toList_eq, ByteArray.toList_eq])
        cases hg : a.good <;> cases hA : Op.bytesLess a.name.toList q.name.toList <;> cases hQ : (a.name.toList == q.name.toList)
        all_goals
          have HAG := Lib.hid (show ∀ (w : World), UnAt B w a [.string a.name, .slice p1 a.incs.length c1, .slice p2 a.axs.length c2, .string a.goal] → Calls Tryz.prog 34 #[.agg #[.string a.name, .slice p1 a.incs.length c1, .slice p2 a.axs.length c2, .string a.goal]] w fun e w' => e = .returned (.bool _) ∧ Below w.heap.size w w' from fun w hx => hg ▸ implUnit_any a _ _ _ _ w hx hza)
          have HGG := Lib.hid hg
          have HLS := Lib.hid (HL0.out.trans (by rw [hA, hQ]))
          clear hg
          go_wp2
          obtain ⟨W, hW⟩ : ∃ W : World, W = wr.alloc (.cells #[.string a.name, .slice p1 a.incs.length c1, .slice p2 a.axs.length c2, .string a.goal] 34) := ⟨_, rfl⟩
          have hbW : Below wr.heap.size wr W := by rw [hW]; exact (Below.refl _ _).alloc (Nat.le_refl _) _
          have hbw := Below.step hb hbW
          have hc0 : W.cell? ⟨wr.heap.size, 0, none⟩ = some (.string a.name) := by rw [hW]; go_simp
          have hc1 : W.cell? ⟨wr.heap.size, 1, none⟩ = some (.slice p1 a.incs.length c1) := by rw [hW]; go_simp
          have hc2 : W.cell? ⟨wr.heap.size, 2, none⟩ = some (.slice p2 a.axs.length c2) := by rw [hW]; go_simp
          have hc3 : W.cell? ⟨wr.heap.size, 3, none⟩ = some (.string a.goal) := by rw [hW]; go_simp
          have hy0 := (hbW.cell zb.1).trans hx0
          have hz1 := (hbW.cell zb.1).trans hz0
          rw [← hW]
          clear hW
          obtain ⟨C, HC0⟩ := class_of (InF W.heap.size _ [(⟨wr.heap.size, 0, none⟩, .string a.name), (⟨wr.heap.size, 1, none⟩, .slice p1 a.incs.length c1), (⟨wr.heap.size, 2, none⟩, .slice p2 a.axs.length c2), (⟨wr.heap.size, 3, none⟩, .string a.goal), (⟨b, o + k * 4, none⟩, .string a.name), (⟨b, o + (k - 1) * 4, none⟩, .string q.name)] [] [])
          have HC := Lib.hid HC0
          clear HC0
          refine wp_region_flow (C := C) (by kernel_rfl) (by kernel_rfl) (fun L hL => (HC.out _ _).2 (InF.start (by first | (intro _ hs; cases hs; done) | (simp only [List.forall_mem_cons]; go_simp)) (by first | (intro _ hs; cases hs; done) | (simp only [List.forall_mem_cons]; go_simp)) (by first | (intro _ hs; cases hs; done) | (simp only [List.forall_mem_cons]; go_simp)) (by first | (intro _ hs; cases hs; done) | (simp only [List.forall_mem_cons]; go_simp)) L hL)) ?_
          repeat (first | ((first | apply flow_free rfl | (apply flow_yes; (case hw => go_simp))); (intro L w' hun hrd hC; have hC := (HC.out _ _).1 hC; have hb' := hC.below; (try have hw' : Below w.heap.size w w' := by first | exact Below.trans (by (repeat (first | with_reducible (first | exact bR _ _ | assumption | refine bA ?_ _ | refine bS ?_ (by first | exact Nat.le_refl _ | (simp; done) | (simp; omega)) _) | assumption | exact bR _ _ | refine bD ?_ | refine bN ?_ _ | refine bT ?_ (by assumption)))) hb' | ((repeat (first | with_reducible (first | exact bR _ _ | assumption | refine bA ?_ _ | refine bS ?_ (by first | exact Nat.le_refl _ | (simp; done) | (simp; omega)) _) | assumption | exact bR _ _ | refine bD ?_ | refine bN ?_ _ | refine bT ?_ (by assumption))); done)); have hf' := hC.cell; (try simp only [List.forall_mem_cons] at hf'); go_simp; first | exact ⟨(HC.out _ _).2 (hC.skip _ (by rfl)), rfl⟩ | (rw [if_neg]; (exact ⟨(HC.out _ _).2 (hC.skip _ (by rfl)), rfl⟩); omega) | (go_at_call 34; refine (HAG.out _ (HX.out.below (Below.step hbW hb'))).mono ?_; rintro e w1 ⟨rfl, hb1⟩; exact ⟨rfl, (HC.out _ _).2 ((hC.next (by first | (simp; done) | (simp; omega) | omega) hb1).skip _ (by rfl))⟩)); go_simp) | (apply flow_no; (case hw => (go_simp; try (intro hh; cases hh))); (intro L w' _ _ hC; exact (HC.out _ _).2 (((HC.out _ _).1 hC).skip _ (by rfl))); go_simp))
          refine flow_nil ?_
          intro L wz hL hz
          have hz := (HC.out _ _).1 hz
          have hbz := hz.below
          have hcz := hz.cell
          try simp only [List.forall_mem_cons] at hcz
          have hdz := hz.done
          try simp only [List.forall_mem_cons] at hdz
          (try have hwz : Below w.heap.size w wz := by first | exact Below.trans (by (repeat (first | with_reducible (first | exact bR _ _ | assumption | refine bA ?_ _ | refine bS ?_ (by first | exact Nat.le_refl _ | (simp; done) | (simp; omega)) _) | assumption | exact bR _ _ | refine bD ?_ | refine bN ?_ _ | refine bT ?_ (by assumption)))) hbz | ((repeat (first | with_reducible (first | exact bR _ _ | assumption | refine bA ?_ _ | refine bS ?_ (by first | exact Nat.le_refl _ | (simp; done) | (simp; omega)) _) | assumption | exact bR _ _ | refine bD ?_ | refine bN ?_ _ | refine bT ?_ (by assumption))); done))
          go_wp2
        all_goals first
          | (refine ⟨⟨k + 1, by omega, by go_num, ?_, Below.step hbw hbz⟩, by simp [intOf]; omega⟩; rw [HE.out, HD.out, HGG.out, HP.out, ascS, HLS.out]; rfl)
          | (go_ret; exact ⟨ret_bool (by rw [HG.out, HE.out, HD.out, HGG.out, HP.out, ascS, HLS.out]; rfl), by exact bel⟩)
    · obtain rfl : k = l.length := by omega
      rw [List.drop_length] at HE
      have HU := Lib.hid (show unitsF none l = true from HE.out)
      have HOA := Lib.hid (fun w' => order_any (B := B) l (.slice p l.length c) w' )
      go_wp2_with fail
      refine (HOA.out _ (H.out.below (by exact bel)) (by omega)).mono ?_
      rintro e w1 ⟨hb1, hp⟩
      by_cases hle : (ordL l).length = l.length
      · rw [if_pos hle] at hp
        obtain ⟨v, rfl, hv⟩ := hp
        obtain ⟨pv, cv, rfl, -⟩ := OwnRow.form hv
        clear hv
        have HG2 := Lib.hid (show libGood l = decide (l.length ≤ 12) by rw [HG.out, HU.out, decide_eq_true hle]; simp)
        have h12 : ((l.length : Int) ≤ 12) = (l.length ≤ 12) := by apply propext; omega
        go_wp2
        go_ret
        exact ⟨ret_bool (by rw [HG2.out]), by exact bel⟩
      · rw [if_neg hle] at hp
        subst hp
        have HG2 := Lib.hid (show libGood l = false by rw [HG.out, HU.out, decide_eq_false hle]; simp)
        go_wp2
        go_ret
        exact ⟨ret_bool (by rw [HG2.out]), by exact bel⟩
end Go.Proofs.YtkgfanajgdelcaaGreatDoor
