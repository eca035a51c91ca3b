import Derived.Laws.IdiomStrings
import Derived.Test.YtkgfanajgdelcaaGreatDoorUnPart20
namespace Go.Proofs.YtkgfanajgdelcaaGreatDoor
set_option maxRecDepth 100000
open Go.RowKit
set_option maxHeartbeats 1600000 in
theorem l27Text_any (s : ByteArray) (w : World) (hs : s.size ≤ 1000000000000) : Calls Tryz.prog 127 #[.string s] w fun e w' => e = .returned (.bool (unitTxt s)) ∧ Below w.heap.size w w' := by
  have HU := Lib.hid (show unitTxt s = (pfOk s && decide (s.size ≤ 100)) from rfl)
  go_enter Tryz.func127, Tryz.ntmps127
  go_wp2_with fail
  refine (specPF_any s hs _).mono ?_
  rintro e w1 hp
  obtain ⟨op, m, p, k, c, v, q, k2, d, rfl, hb1⟩ := hp.form
  clear hp
  cases hk : pfOk s <;> by_cases h1 : s.size ≤ 100
  all_goals
    have h2 := HU.out
    rw [hk] at h2
    have HU2 := Lib.hid h2
    clear h2
    have h1i : ((s.size : Int) ≤ 100) = (s.size ≤ 100) := by apply propext; omega
    go_wp2
    go_ret
    exact ⟨ret_bool (by rw [HU2.out]; simp [h1]), by exact bel⟩
structure UBox (u : Un) (p q : Option Addr) (c d : Nat) (w wr : World) : Prop where
  bel : Below w.heap.size w wr
  cell : wr.heap[w.heap.size]? = some (.cells #[.string u.name, .slice p u.incs.length c, .slice q u.axs.length d, .string u.goal] 34 (0, 0))
theorem UBox.later {u : Un} {p q : Option Addr} {c d : Nat} {w wr w' : World} (h : UBox u p q c d w wr) (hb : Below wr.heap.size wr w') : UBox u p q c d w w' := ⟨h.bel.trans (hb.mono h.bel.size), (hb.block _ (heap_lt h.cell)).trans h.cell⟩
theorem UBox.cells {u : Un} {p q : Option Addr} {c d : Nat} {w wr : World} (h : UBox u p q c d w wr) : wr.cell? ⟨w.heap.size, 0, none⟩ = some (.string u.name) ∧ wr.cell? ⟨w.heap.size, 1, none⟩ = some (.slice p u.incs.length c) ∧ wr.cell? ⟨w.heap.size, 2, none⟩ = some (.slice q u.axs.length d) ∧ wr.cell? ⟨w.heap.size, 3, none⟩ = some (.string u.goal) := by
  refine ⟨?_, ?_, ?_, ?_⟩
  · rw [cell_of_row _ _ 0 _ _ (0, 0) h.cell]; rfl
  · rw [cell_of_row _ _ 1 _ _ (0, 0) h.cell]; rfl
  · rw [cell_of_row _ _ 2 _ _ (0, 0) h.cell]; rfl
  · rw [cell_of_row _ _ 3 _ _ (0, 0) h.cell]; rfl
set_option maxHeartbeats 6400000 in
theorem l27Unit_any {B : Nat → Prop} (u : Un) (v0 v1 v2 v3 : Value) (w : World) (h : UnAt B w u [v0, v1, v2, v3]) (hw : u.wt ≤ 1000000000000) :
    Calls Tryz.prog 62 #[.agg #[v0, v1, v2, v3]] w fun e w' => e = .returned (.bool u.good) ∧ Below w.heap.size w w' := by
  obtain ⟨p, c, q, d, rfl, rfl, rfl, rfl, hn, hg, l1, l2, hi, ha⟩ := h.form
  unfold maxLen at l1 l2
  have HI := Lib.hid hi
  have HA := Lib.hid ha
  have HG := Lib.hid (show u.good = (symB u.name.data.toList && decide (u.incs.length ≤ 12) && namesF none u.incs && decide (u.axs.length ≤ 6) && u.axs.all unitTxt && (u.goal.data.toList == [] || unitTxt u.goal)) from rfl)
  have HZ := Lib.hid (fun s hs => Nat.le_trans (u.axs_le s hs) hw)
  have hgz := Nat.le_trans u.goal_le hw
  have HU0 := Lib.hid (show UBox u p q c d w (w.alloc (.cells #[.string u.name, .slice p u.incs.length c, .slice q u.axs.length d, .string u.goal] 34)) from ⟨(Below.refl _ _).alloc (Nat.le_refl _) _, heap_alloc_new w _⟩)
  clear h hi ha
  go_enter Tryz.func62, Tryz.ntmps62
  go_wp2_with fail
  refine (l2Symbol_any u.name _ hn).mono ?_
  rintro e w1 ⟨rfl, rfl⟩
  cases h1 : symB u.name.data.toList
  case false =>
    have HNO := Lib.hid (show u.good = false by rw [HG.out, h1]; rfl)
    go_wp2
    go_ret
    exact ⟨ret_bool HNO.out.symm, by exact bel⟩
  by_cases h2 : u.incs.length ≤ 12
  case neg =>
    have HNO := Lib.hid (show u.good = false by rw [HG.out, h1, decide_eq_false h2]; rfl)
    have h2j : ((12 : Int) < (u.incs.length : Int)) := by omega
    clear h2
    go_wp2
    go_ret
    exact ⟨ret_bool HNO.out.symm, by exact bel⟩
  have h2j : ¬ ((12 : Int) < (u.incs.length : Int)) := by omega
  by_cases h4 : u.axs.length ≤ 6
  case neg =>
    have HNO := Lib.hid (show u.good = false by rw [HG.out, h1, decide_eq_false h4]; simp)
    have h4j : ((6 : Int) < (u.axs.length : Int)) := by omega
    clear h4 h2
    go_wp2
    go_ret
    exact ⟨ret_bool HNO.out.symm, by exact bel⟩
  have h4j : ¬ ((6 : Int) < (u.axs.length : Int)) := by omega
  have HG2 := Lib.hid (show u.good = (namesF none u.incs && u.axs.all unitTxt && (u.goal.data.toList == [] || unitTxt u.goal)) by rw [HG.out, h1, decide_eq_true h2, decide_eq_true h4]; simp)
  clear h2 h4 HG
  go_wp2
  go_loopw [3] (fun i wr => ∃ k : Nat, k ≤ u.incs.length ∧ i = .int .i64 k ∧ namesF none u.incs = namesF (prevS u.incs k) (u.incs.drop k) ∧ UBox u p q c d w wr) (fun i _ => u.incs.length - (intOf i).toNat)
  case atStart => exact ⟨0, Nat.zero_le _, rfl, rfl, HU0.out⟩
  case round =>
    obtain ⟨k, hk, rfl, he, hub⟩ := hrel
    have HE := Lib.hid he
    have HUB := Lib.hid hub
    have hb := hub.bel
    have hqz := hb.size
    obtain ⟨x0, x1, x2, x3⟩ := hub.cells
    have zub := bsz (heap_lt hub.cell)
    clear he hub HU0
    by_cases hlt : k < u.incs.length
    · obtain ⟨b, o, rfl, hB, hx0, hxs⟩ := (HI.out.below hb).at_ hlt
      have HD := Lib.hid (namesF_drop hlt)
      have hki : (k : Int) < u.incs.length := by omega
      have zb := bsz (World.block_lt_of_cell? _ _ hx0)
      by_cases hk0 : k = 0
      · subst hk0
        rw [Nat.add_zero] at hx0
        have HP := Lib.hid (show prevS u.incs 0 = none from rfl)
        obtain ⟨a, hae⟩ : ∃ a, u.incs[0] = a := ⟨_, rfl⟩
        rw [hae] at hx0 hxs HD
        clear hae
        cases hy : symB a.data.toList
        all_goals
          have HSY := Lib.hid (show ∀ w, Calls Tryz.prog 78 #[.string a] w fun e w' => e = .returned (.bool _) ∧ Below w.heap.size w w' from fun w => hy ▸ same_below (l2Symbol_any a w hxs))
          have HY := Lib.hid hy
          clear hy
          go_wp2
          obtain ⟨C, HC0⟩ := class_of (InF wr.heap.size _ [(⟨w.heap.size, 1, none⟩, .slice (some ⟨b, o, none⟩) u.incs.length c), (⟨b, o, none⟩, .string a)] [] [])
          have HC := Lib.hid HC0
          clear HC0
          refine wp_region_flow (C := C) (by kernel_rfl) (by kernel_rfl) (fun L hL => (HC.out _ _).2 (InF.start (by first | (intro _ hs; cases hs; done) | (simp only [List.forall_mem_cons]; go_simp)) (by first | (intro _ hs; cases hs; done) | (simp only [List.forall_mem_cons]; go_simp)) (by first | (intro _ hs; cases hs; done) | (simp only [List.forall_mem_cons]; go_simp)) (by first | (intro _ hs; cases hs; done) | (simp only [List.forall_mem_cons]; go_simp)) L hL)) ?_
          repeat (first | ((first | apply flow_free rfl | (apply flow_yes; (case hw => go_simp))); (intro L w' hun hrd hC; have hC := (HC.out _ _).1 hC; have hb' := hC.below; (try have hw' : Below w.heap.size w w' := by first | exact Below.trans (by (repeat (first | with_reducible (first | exact bR _ _ | assumption | refine bA ?_ _ | refine bS ?_ (by first | exact Nat.le_refl _ | (simp; done) | (simp; omega)) _) | assumption | exact bR _ _ | refine bD ?_ | refine bN ?_ _ | refine bT ?_ (by assumption)))) hb' | ((repeat (first | with_reducible (first | exact bR _ _ | assumption | refine bA ?_ _ | refine bS ?_ (by first | exact Nat.le_refl _ | (simp; done) | (simp; omega)) _) | assumption | exact bR _ _ | refine bD ?_ | refine bN ?_ _ | refine bT ?_ (by assumption))); done)); have hf' := hC.cell; (try simp only [List.forall_mem_cons] at hf'); go_simp; first | exact ⟨(HC.out _ _).2 (hC.skip _ (by rfl)), rfl⟩ | (rw [if_neg]; (exact ⟨(HC.out _ _).2 (hC.skip _ (by rfl)), rfl⟩); omega) | (go_at_call 78; refine (HSY.out _).mono ?_; rintro e w1 ⟨rfl, hb1⟩; exact ⟨rfl, (HC.out _ _).2 ((hC.next (by first | (simp; done) | (simp; omega) | omega) hb1).skip _ (by rfl))⟩)); go_simp) | (apply flow_no; (case hw => (go_simp; try (intro hh; cases hh))); (intro L w' _ _ hC; exact (HC.out _ _).2 (((HC.out _ _).1 hC).skip _ (by rfl))); go_simp))
          refine flow_nil ?_
          intro L wz hL hz
          have hz := (HC.out _ _).1 hz
          have hbz := hz.below
          have hcz := hz.cell
          try simp only [List.forall_mem_cons] at hcz
          have hdz := hz.done
          try simp only [List.forall_mem_cons] at hdz
          (try have hwz : Below w.heap.size w wz := by first | exact Below.trans (by (repeat (first | with_reducible (first | exact bR _ _ | assumption | refine bA ?_ _ | refine bS ?_ (by first | exact Nat.le_refl _ | (simp; done) | (simp; omega)) _) | assumption | exact bR _ _ | refine bD ?_ | refine bN ?_ _ | refine bT ?_ (by assumption)))) hbz | ((repeat (first | with_reducible (first | exact bR _ _ | assumption | refine bA ?_ _ | refine bS ?_ (by first | exact Nat.le_refl _ | (simp; done) | (simp; omega)) _) | assumption | exact bR _ _ | refine bD ?_ | refine bN ?_ _ | refine bT ?_ (by assumption))); done))
          go_wp2
        · go_ret
          exact ⟨ret_bool (by rw [HG2.out, HE.out, HD.out, HY.out]; rfl), by exact bel⟩
        · refine ⟨⟨1, by omega, by go_num, ?_, HUB.out.later hbz⟩, by simp [intOf]; omega⟩
          rw [HE.out, HD.out, HY.out, HP.out]; rfl
      · have hk1 : k - 1 < u.incs.length := by omega
        obtain ⟨b', o', hq, hB', hy0, hys⟩ := (HI.out.below hb).at_ hk1
        simp only [Option.some.injEq, Addr.mk.injEq, and_true] at hq
        obtain ⟨rfl, rfl⟩ := hq
        have HP := Lib.hid (prevS_pos hlt (by omega))
        obtain ⟨a, hae⟩ : ∃ a, u.incs[k] = a := ⟨_, rfl⟩
        obtain ⟨r, hre⟩ : ∃ r, u.incs[k - 1] = r := ⟨_, rfl⟩
        rw [hae] at hx0 hxs HD
        rw [hre] at hy0 HP
        clear hae hre hys
        have hkm : IntKind.i64.wrap ((k : Int) - 1) = ((k - 1 : Nat) : Int) := by rw [IntWalk.i64_in _ (by omega)]; omega
        have hkp : (0 : Int) < (k : Int) := by omega
        have hkj : ((k - 1 : Nat) : Int) < u.incs.length := by omega
        have hkn : 0 < k := by omega
        have HL0 := Lib.hid (show lessB r a = Op.bytesLess r.toList a.toList by rw [lessB, ← ByteArray.toList_eq, ← ByteArray.toList_eq])
        cases hy : symB a.data.toList <;> cases hA : Op.bytesLess r.toList a.toList
        all_goals
          have HSY := Lib.hid (show ∀ w, Calls Tryz.prog 78 #[.string a] w fun e w' => e = .returned (.bool _) ∧ Below w.heap.size w w' from fun w => hy ▸ same_below (l2Symbol_any a w hxs))
          have HY := Lib.hid hy
          have HLS := Lib.hid (HL0.out.trans hA)
          clear hy
          go_wp2
          obtain ⟨C, HC0⟩ := class_of (InF wr.heap.size _ [(⟨w.heap.size, 1, none⟩, .slice (some ⟨b, o, none⟩) u.incs.length c), (⟨b, o + k, none⟩, .string a), (⟨b, o + (k - 1), none⟩, .string r)] [] [])
          have HC := Lib.hid HC0
          clear HC0
          refine wp_region_flow (C := C) (by kernel_rfl) (by kernel_rfl) (fun L hL => (HC.out _ _).2 (InF.start (by first | (intro _ hs; cases hs; done) | (simp only [List.forall_mem_cons]; go_simp)) (by first | (intro _ hs; cases hs; done) | (simp only [List.forall_mem_cons]; go_simp)) (by first | (intro _ hs; cases hs; done) | (simp only [List.forall_mem_cons]; go_simp)) (by first | (intro _ hs; cases hs; done) | (simp only [List.forall_mem_cons]; go_simp)) L hL)) ?_
          repeat (first | ((first | apply flow_free rfl | (apply flow_yes; (case hw => go_simp))); (intro L w' hun hrd hC; have hC := (HC.out _ _).1 hC; have hb' := hC.below; (try have hw' : Below w.heap.size w w' := by first | exact Below.trans (by (repeat (first | with_reducible (first | exact bR _ _ | assumption | refine bA ?_ _ | refine bS ?_ (by first | exact Nat.le_refl _ | (simp; done) | (simp; omega)) _) | assumption | exact bR _ _ | refine bD ?_ | refine bN ?_ _ | refine bT ?_ (by assumption)))) hb' | ((repeat (first | with_reducible (first | exact bR _ _ | assumption | refine bA ?_ _ | refine bS ?_ (by first | exact Nat.le_refl _ | (simp; done) | (simp; omega)) _) | assumption | exact bR _ _ | refine bD ?_ | refine bN ?_ _ | refine bT ?_ (by assumption))); done)); have hf' := hC.cell; (try simp only [List.forall_mem_cons] at hf'); go_simp; first | exact ⟨(HC.out _ _).2 (hC.skip _ (by rfl)), rfl⟩ | (rw [if_neg]; (exact ⟨(HC.out _ _).2 (hC.skip _ (by rfl)), rfl⟩); omega) | (go_at_call 78; refine (HSY.out _).mono ?_; rintro e w1 ⟨rfl, hb1⟩; exact ⟨rfl, (HC.out _ _).2 ((hC.next (by first | (simp; done) | (simp; omega) | omega) hb1).skip _ (by rfl))⟩)); go_simp) | (apply flow_no; (case hw => (go_simp; try (intro hh; cases hh))); (intro L w' _ _ hC; exact (HC.out _ _).2 (((HC.out _ _).1 hC).skip _ (by rfl))); go_simp))
          refine flow_nil ?_
          intro L wz hL hz
          have hz := (HC.out _ _).1 hz
          have hbz := hz.below
          have hcz := hz.cell
          try simp only [List.forall_mem_cons] at hcz
          have hdz := hz.done
          try simp only [List.forall_mem_cons] at hdz
          (try have hwz : Below w.heap.size w wz := by first | exact Below.trans (by (repeat (first | with_reducible (first | exact bR _ _ | assumption | refine bA ?_ _ | refine bS ?_ (by first | exact Nat.le_refl _ | (simp; done) | (simp; omega)) _) | assumption | exact bR _ _ | refine bD ?_ | refine bN ?_ _ | refine bT ?_ (by assumption)))) hbz | ((repeat (first | with_reducible (first | exact bR _ _ | assumption | refine bA ?_ _ | refine bS ?_ (by first | exact Nat.le_refl _ | (simp; done) | (simp; omega)) _) | assumption | exact bR _ _ | refine bD ?_ | refine bN ?_ _ | refine bT ?_ (by assumption))); done))
          go_wp2
        all_goals first
          | (refine ⟨⟨k + 1, by omega, by go_num, ?_, HUB.out.later hbz⟩, by simp [intOf]; omega⟩; rw [HE.out, HD.out, HY.out, HP.out, ascS, HLS.out]; rfl)
          | (go_ret; exact ⟨ret_bool (by rw [HG2.out, HE.out, HD.out, HY.out, HP.out, ascS, HLS.out]; rfl), by exact bel⟩)
    · obtain rfl : k = u.incs.length := by omega
      have he := HE.out
      rw [List.drop_length, namesF] at he
      have HG3 := Lib.hid (show u.good = (u.axs.all unitTxt && (u.goal.data.toList == [] || unitTxt u.goal)) by rw [HG2.out, he, Bool.true_and])
      clear he HE
      go_wp2
      go_loopw [4] (fun i wr => ∃ k : Nat, k ≤ u.axs.length ∧ i = .int .i64 k ∧ u.axs.all unitTxt = (u.axs.drop k).all unitTxt ∧ UBox u p q c d w wr) (fun i _ => u.axs.length - (intOf i).toNat)
      case atStart => exact ⟨0, Nat.zero_le _, rfl, rfl, HUB.out⟩
      case round =>
        clear HUB x0 x1 x2 x3 zub hb
        obtain ⟨k, hk, rfl, he, hub⟩ := hrel
        have HE := Lib.hid he
        have HUB := Lib.hid hub
        have hb := hub.bel
        have hqz := hb.size
        obtain ⟨x0, x1, x2, x3⟩ := hub.cells
        have zub := bsz (heap_lt hub.cell)
        clear he hub
        by_cases hlt : k < u.axs.length
        · obtain ⟨b, o, rfl, hB, hx0, hxs⟩ := (HA.out.below hb).at_ hlt
          have HD := Lib.hid (all_drop u.axs unitTxt hlt)
          have hza := HZ.out _ (List.getElem_mem hlt)
          obtain ⟨a, hae⟩ : ∃ a, u.axs[k] = a := ⟨_, rfl⟩
          rw [hae] at hx0 hxs HD hza
          clear hae
          have zb := bsz (World.block_lt_of_cell? _ _ hx0)
          cases hN : unitTxt a
          all_goals
            have HN := Lib.hid hN
            clear hN
            go_wp2_with fail
            refine (l27Text_any a _ hza).mono ?_
            rintro e w1 ⟨rfl, hb1⟩
            have ⟨cw1, fw1⟩ := bcell hb1
            have qw1 := hb1.size
            (try simp at qw1)
            (try have zw1w := bsz (show w.heap.size < w1.heap.size by omega))
            rw [HN.out]
            go_wp2
          · go_ret
            exact ⟨ret_bool (by rw [HG3.out, HE.out, HD.out, HN.out]; rfl), by exact bel⟩
          · refine ⟨⟨k + 1, by omega, by go_num, ?_, HUB.out.later hb1⟩, by simp [intOf]; omega⟩
            rw [HE.out, HD.out, HN.out]; rfl
        · obtain rfl : k = u.axs.length := by omega
          have he := HE.out
          rw [List.drop_length, List.all_nil] at he
          have HG4 := Lib.hid (show u.good = (u.goal.data.toList == [] || unitTxt u.goal) by rw [HG3.out, he, Bool.true_and])
          clear he HE
          cases h6 : (u.goal.toList == [])
          case true =>
            have H6 := Lib.hid h6
            go_wp2
            go_ret
            exact ⟨ret_bool (by rw [HG4.out, ← ByteArray.toList_eq, H6.out]; rfl), by exact bel⟩
          have H6 := Lib.hid h6
          go_wp2_with fail
          refine (l27Text_any u.goal _ hgz).mono ?_
          rintro e w1 ⟨rfl, hb1⟩
          have ⟨cw1, fw1⟩ := bcell hb1
          have qw1 := hb1.size
          (try simp at qw1)
          (try have zw1w := bsz (show w.heap.size < w1.heap.size by omega))
          go_wp2
          go_ret
          exact ⟨ret_bool (by rw [HG4.out, ← ByteArray.toList_eq, H6.out]; rfl), by exact bel⟩
structure Kept (S : Nat → Prop) (w w' : World) : Prop where
  os : w'.os = w.os
  tape : w'.tape = w.tape
  output : w'.output = w.output
  size : w.heap.size ≤ w'.heap.size
  block : ∀ b, b < w.heap.size → ¬ S b → w'.heap[b]? = w.heap[b]?
theorem Kept.refl (S : Nat → Prop) (w : World) : Kept S w w := ⟨rfl, rfl, rfl, Nat.le_refl _, fun _ _ _ => rfl⟩
theorem Kept.trans {S : Nat → Prop} {w w1 w2 : World} (h : Kept S w w1) (h2 : Kept S w1 w2) : Kept S w w2 :=
  ⟨h2.os.trans h.os, h2.tape.trans h.tape, h2.output.trans h.output, Nat.le_trans h.size h2.size, fun b hb hs => (h2.block b (Nat.lt_of_lt_of_le hb h.size) hs).trans (h.block b hb hs)⟩
theorem Kept.below {S : Nat → Prop} {w w1 w2 : World} (h : Kept S w w1) (h2 : Below w1.heap.size w1 w2) : Kept S w w2 :=
  ⟨h2.os.trans h.os, h2.tape.trans h.tape, h2.output.trans h.output, Nat.le_trans h.size h2.size, fun b hb hs => (h2.block b (Nat.lt_of_lt_of_le hb h.size)).trans (h.block b hb hs)⟩
theorem Kept.set {S : Nat → Prop} {w w1 : World} (h : Kept S w w1) {g : Nat} (hg : S g) (j : Nat) (v : Value) : Kept S w (w1.setCell ⟨g, j, none⟩ v) :=
  ⟨h.os, h.tape, h.output, by simpa using h.size, fun b hb hs => (heap_setCell_other w1 ⟨g, j, none⟩ b v (fun e => hs (by have e' : b = g := e; rw [e']; exact hg))).trans (h.block b hb hs)⟩
theorem blk_lt {w : World} {b : Nat} {o : Obj} (h : w.heap[b]? = some o) : b < w.heap.size := by
  rcases Nat.lt_or_ge b w.heap.size with h' | h'
  · exact h'
  · rw [Array.getElem?_eq_none h'] at h; cases h
def Patch (cur cur' : Array Value) (o : Nat) (cs : List Value) : Prop := cur'.size = cur.size ∧ (∀ j, j < cs.length → cur'[o + j]? = cs[j]?) ∧ ∀ k, (k < o ∨ o + cs.length ≤ k) → cur'[k]? = cur[k]?
theorem Patch.set {cur cur' : Array Value} {o : Nat} {cs : List Value} (h : Patch cur cur' o cs) {j : Nat} (hj : j < cs.length) (hb : o + cs.length ≤ cur.size) (v : Value) : Patch cur (cur'.setIfInBounds (o + j) v) o (cs.set j v) := by
  obtain ⟨h1, h2, h3⟩ := h
  refine ⟨by simpa using h1, fun i hi => ?_, fun k hk => ?_⟩
  · rw [List.length_set] at hi
    by_cases e : j = i
    · subst e
      rw [Array.getElem?_setIfInBounds_self_of_lt (by omega), List.getElem?_set_self hj]
    · rw [Array.getElem?_setIfInBounds_ne (by omega), List.getElem?_set_ne e, h2 i hi]
  · rw [List.length_set] at hk
    rw [Array.getElem?_setIfInBounds_ne (by omega), h3 k hk]
structure FillRow {α : Type} (S : Nat → Prop) (w : World) (e : TypeId) (size : Nat) (R : (Nat → Prop) → World → α → List Value → Prop) (g n k : Nat) (us : List α) : Prop where
  own : S g
  row : ∃ cur : Array Value, w.heap[g]? = some (.cells cur e (0, 0)) ∧ cur.size = n * size ∧ ∃ Ss : Nat → Nat → Prop,
    (∀ j x, j < k → us[j]? = some x → ∃ cs : List Value, cs.length = size ∧ (∀ i, i < size → cur[j * size + i]? = cs[i]?) ∧ R (Ss j) w x cs ∧ ∀ b, Ss j b → S b ∧ b ≠ g ∧ b < w.heap.size) ∧
    ∀ i j b, i < k → j < k → i ≠ j → Ss i b → ¬ Ss j b
theorem FillRow.start {α : Type} {S : Nat → Prop} {w : World} {e : TypeId} {size base g n : Nat} {R : (Nat → Prop) → World → α → List Value → Prop} {xs : List Value} {us : List α} (hS : S g) (h : w.ownsRow base e size (.slice (some ⟨g, 0, none⟩) n n) n xs) : FillRow S w e size R g n 0 us := by
  refine ⟨hS, ?_⟩
  rcases h.2 with ⟨h0, _⟩ | ⟨g', cap, cur, hv, _, hh, _, _, hc, _⟩
  · cases h0
  · simp only [Value.slice.injEq, Option.some.injEq, Addr.mk.injEq, and_true, true_and] at hv
    obtain ⟨rfl, rfl⟩ := hv
    exact ⟨cur, hh, hc, fun _ _ => False, fun j x hj => absurd hj (Nat.not_lt_zero _), fun i j b hi => absurd hi (Nat.not_lt_zero _)⟩
theorem FillRow.later {α : Type} {S : Nat → Prop} {w w1 : World} {e : TypeId} {size g n k : Nat} {R : (Nat → Prop) → World → α → List Value → Prop} {us : List α} (h : FillRow S w e size R g n k us) (hb : Below w.heap.size w w1)
    (hm : ∀ T x cs, (∀ b, T b → b < w.heap.size) → R T w x cs → R T w1 x cs) : FillRow S w1 e size R g n k us := by
  obtain ⟨hS, cur, hh, hc, Ss, h1, h2⟩ := h
  refine ⟨hS, cur, (hb.block g (blk_lt hh)).trans hh, hc, Ss, fun j x hj hx => ?_, h2⟩
  obtain ⟨cs, a1, a2, a3, a4⟩ := h1 j x hj hx
  exact ⟨cs, a1, a2, hm _ _ _ (fun b hb => (a4 b hb).2.2) a3, fun b hb' => ⟨(a4 b hb').1, (a4 b hb').2.1, Nat.lt_of_lt_of_le (a4 b hb').2.2 hb.size⟩⟩
theorem FillRow.wider {α : Type} {S S' : Nat → Prop} {w : World} {e : TypeId} {size g n k : Nat} {R : (Nat → Prop) → World → α → List Value → Prop} {us : List α} (h : FillRow S w e size R g n k us) (hS : ∀ b, S b → S' b) : FillRow S' w e size R g n k us := by
  obtain ⟨h0, cur, hh, hc, Ss, h1, h2⟩ := h
  refine ⟨hS _ h0, cur, hh, hc, Ss, fun j x hj hx => ?_, h2⟩
  obtain ⟨cs, a1, a2, a3, a4⟩ := h1 j x hj hx
  exact ⟨cs, a1, a2, a3, fun b hb => ⟨hS _ (a4 b hb).1, (a4 b hb).2⟩⟩
theorem FillRow.lt {α : Type} {S : Nat → Prop} {w : World} {e : TypeId} {size g n k : Nat} {R : (Nat → Prop) → World → α → List Value → Prop} {us : List α} (h : FillRow S w e size R g n k us) : g < w.heap.size := by
  obtain ⟨_, _, hh, _⟩ := h; exact blk_lt hh
theorem FillRow.cell {α : Type} {S : Nat → Prop} {w : World} {e : TypeId} {size g n k : Nat} {R : (Nat → Prop) → World → α → List Value → Prop} {us : List α} (h : FillRow S w e size R g n k us) (j : Nat) (hj : j < n * size) : (∃ q, w.cell? ⟨g, j, none⟩ = some q) ∧ w.frozen? ⟨g, j, none⟩ = false := by
  obtain ⟨_, cur, hh, hc, _⟩ := h
  exact ⟨⟨cur[j], (cell_of_row w g j cur _ (0, 0) hh).trans (Array.getElem?_eq_getElem (by omega))⟩, frozen_of_row w g j _ _ hh⟩
theorem FillRow.put {α : Type} {S T : Nat → Prop} {w w1 w2 : World} {e : TypeId} {size g n k : Nat} {R : (Nat → Prop) → World → α → List Value → Prop} {us : List α} {x : α} {cs : List Value} (h : FillRow S w e size R g n k us) (hk : k < n) (hx : us[k]? = some x)
    (hb : Below w.heap.size w w1) (hl : cs.length = size) (hR : R T w2 x cs) (hT : ∀ b, T b → S b ∧ b ≠ g ∧ w.heap.size ≤ b ∧ b < w2.heap.size)
    (hp : ∀ cur : Array Value, w1.heap[g]? = some (.cells cur e (0, 0)) → k * size + size ≤ cur.size → ∃ cur', w2.heap[g]? = some (.cells cur' e (0, 0)) ∧ Patch cur cur' (k * size) cs)
    (hsz : w1.heap.size ≤ w2.heap.size) (hm : ∀ T x cs, (∀ b, T b → b < w.heap.size ∧ b ≠ g) → R T w x cs → R T w2 x cs) : FillRow S w2 e size R g n (k + 1) us := by
  obtain ⟨hS, cur, hh, hc, Ss, h1, h2⟩ := h
  have hg := blk_lt hh
  have h5 : (k + 1) * size ≤ n * size := Nat.mul_le_mul_right _ hk
  rw [Nat.succ_mul] at h5
  obtain ⟨cur', hh', hpt⟩ := hp cur ((hb.block g hg).trans hh) (by omega)
  have hws := hb.size
  refine ⟨hS, cur', hh', hpt.1.trans hc, fun j => if j = k then T else Ss j, fun j y hj hy => ?_, fun i j b hi hj hij hbi => ?_⟩
  · by_cases e : j = k
    · subst e
      rw [hx] at hy
      obtain rfl := Option.some.inj hy
      simp only [if_pos]
      exact ⟨cs, hl, fun i hi => hpt.2.1 i (by omega), hR, fun b hb' => ⟨(hT b hb').1, (hT b hb').2.1, (hT b hb').2.2.2⟩⟩
    · obtain ⟨ds, a1, a2, a3, a4⟩ := h1 j y (by omega) hy
      simp only [if_neg e]
      refine ⟨ds, a1, fun i hi => ?_, hm _ _ _ (fun b hb' => ⟨(a4 b hb').2.2, (a4 b hb').2.1⟩) a3, fun b hb' => ⟨(a4 b hb').1, (a4 b hb').2.1, by have := (a4 b hb').2.2; omega⟩⟩
      have h6 : (j + 1) * size ≤ k * size := Nat.mul_le_mul_right _ (by omega)
      rw [Nat.succ_mul] at h6
      rw [hpt.2.2 _ (.inl (by omega))]; exact a2 i hi
  · by_cases e : i = k
    · have ej : ¬ j = k := by omega
      simp only [if_pos e] at hbi
      simp only [if_neg ej]
      intro hbj
      rcases Nat.lt_or_ge j us.length with hlt | hge
      · obtain ⟨ds, _, _, _, a4⟩ := h1 j us[j] (by omega) (List.getElem?_eq_getElem hlt)
        have := (a4 b hbj).2.2
        have := (hT b hbi).2.2.1
        omega
      · have := (List.getElem?_eq_some_iff.1 hx).1; omega
    · simp only [if_neg e] at hbi
      by_cases ej : j = k
      · simp only [if_pos ej]
        intro hbj
        rcases Nat.lt_or_ge i us.length with hlt | hge
        · obtain ⟨ds, _, _, _, a4⟩ := h1 i us[i] (by omega) (List.getElem?_eq_getElem hlt)
          have := (a4 b hbi).2.2
          have := (hT b hbj).2.2.1
          omega
        · have := (List.getElem?_eq_some_iff.1 hx).1; omega
      · simp only [if_neg ej]
        exact h2 i j b (by omega) (by omega) hij hbi
theorem FillRow.done {α : Type} {S : Nat → Prop} {w : World} {e : TypeId} {size g : Nat} {R : (Nat → Prop) → World → α → List Value → Prop} {us : List α} (h : FillRow S w e size R g us.length us.length us) (hm : us.length ≤ maxLen) : OwnRow S w e size (fun T x cs => R T w x cs) (.slice (some ⟨g, 0, none⟩) us.length us.length) us := by
  obtain ⟨hS, cur, hh, hc, Ss, h1, h2⟩ := h
  refine ⟨hm, cur.toList, Ss, ⟨by simpa using hc, .inr ⟨g, us.length, cur, rfl, Nat.zero_le _, hh, Nat.le_refl _, hm, hc, by rw [List.take_of_length_le (by simp [hc])]⟩⟩, fun g' hg' => ?_, fun i x hx => ?_, h2⟩
  · have : g = g' := by simpa [Value.ownBlock] using hg'
    exact this ▸ hS
  · have hi := (List.getElem?_eq_some_iff.1 hx).1
    obtain ⟨cs, a1, a2, a3, a4⟩ := h1 i x hi hx
    have h6 : (i + 1) * size ≤ us.length * size := Nat.mul_le_mul_right _ hi
    rw [Nat.succ_mul] at h6
    have : (cur.toList.drop (i * size)).take size = cs := by
      apply List.ext_getElem?
      intro j
      rw [List.getElem?_take]
      split
      · rename_i hj
        rw [List.getElem?_drop, Array.getElem?_toList]; exact a2 j hj
      · rw [List.getElem?_eq_none (by omega)]
    rw [this]
    exact ⟨a3, fun b hb => ⟨(a4 b hb).1, fun e => (a4 b hb).2.1 (by simpa [Value.ownBlock] using e.symm)⟩⟩
def StrOwn (e : TypeId) (S : Nat → Prop) (w : World) (us : List ByteArray) (v : Value) : Prop := OwnRow S w e 1 (fun _ s cs => StrAt s cs) v us
theorem StrOwn.mono {e : TypeId} {S S' : Nat → Prop} {w w' : World} {us : List ByteArray} {v : Value} (hs : SameOn S w w') (hS : ∀ b, S b → S' b) (h : StrOwn e S w us v) : StrOwn e S' w' us v := OwnRow.mono h hs hS (fun _ _ _ _ _ hx => hx)
theorem StrOwn.at_ {e : TypeId} {S : Nat → Prop} {w : World} {us : List ByteArray} {v : Value} (h : StrOwn e S w us v) : StrsAt S w v us := OwnRow.listAt (by omega) h (fun _ _ _ _ _ hx => hx)
def strW (l : List ByteArray) : List Value := l.map Value.string
theorem strW_snoc (l : List ByteArray) (s : ByteArray) : strW (l ++ [s]) = strW l ++ [Value.string s] := by simp [strW]
theorem rowS_own {S : Nat → Prop} {w : World} {base : Nat} {e : TypeId} {v : Value} {us : List ByteArray} (h : w.ownsRow base e 1 v us.length (strW us)) (hz : ∀ s ∈ us, s.size ≤ maxLen) (hm : us.length ≤ maxLen) (hS : ∀ g, v.ownBlock = some g → S g) : StrOwn e S w us v := by
  refine ⟨hm, strW us, fun _ _ => False, own_lower h (Nat.zero_le _), hS, fun i x hx => ⟨⟨?_, hz x (List.mem_of_getElem? hx)⟩, fun b hb => hb.elim⟩, fun i j b hi hj hij hb => hb.elim⟩
  have hi := (List.getElem?_eq_some_iff.1 hx).1
  have hx' := (List.getElem?_eq_some_iff.1 hx).2
  rw [Nat.mul_one, List.drop_eq_getElem_cons (by simpa [strW] using hi), List.take_succ_cons, List.take_zero]
  simp [strW, hx']
def lenB (w : World) (g : Nat) : Nat := match w.cell? ⟨g, 0, none⟩ with | some (.slice _ n _) => n | _ => 0
theorem lenB_of {w : World} {g n c : Nat} {p : Option Addr} (h : w.cell? ⟨g, 0, none⟩ = some (.slice p n c)) : lenB w g = n := by rw [lenB, h]
theorem new_at {w : World} {o : Obj} {k : Nat} (h : w.heap.size = k) : (w.alloc o).heap[k]? = some o := h ▸ heap_alloc_new w o
def wtU : List Un → Nat | [] => 0 | a :: us => a.wt + wtU us
theorem wtU_le : ∀ (us : List Un), ∀ u ∈ us, u.wt ≤ wtU us
  | [], _, h => by simp at h
  | a :: us, s, h => by
    rw [wtU]
    rcases List.mem_cons.1 h with rfl | h
    · omega
    · have := wtU_le us s h; omega
def UnsAt (B : Nat → Prop) (w : World) (v : Value) (us : List Un) : Prop := ListAt B w 4 (UnAt B w) v us
theorem UnsAt.mono {B B' : Nat → Prop} {w w' : World} {v : Value} {us : List Un} (hs : SameOn B w w') (hB : ∀ b, B b → B' b) (h : UnsAt B w v us) : UnsAt B' w' v us := ListAt.mono h hs hB (fun _ _ _ h => h.mono hs hB)
theorem UnsAt.below {B : Nat → Prop} {w w' : World} {v : Value} {us : List Un} (hb : Below w.heap.size w w') (h : UnsAt B w v us) : UnsAt B w' v us := h.mono (SameOn.below hb) (fun _ h => h)
theorem UnsAt.form {B : Nat → Prop} {w : World} {v : Value} {us : List Un} (h : UnsAt B w v us) : ∃ p c, v = .slice p us.length c ∧ us.length ≤ maxLen := ListAt.form h
theorem UnsAt.at_ {B : Nat → Prop} {w : World} {p : Option Addr} {n c : Nat} {us : List Un} (h : UnsAt B w (.slice p n c) us) {i : Nat} (hi : i < us.length) : ∃ b o, p = some ⟨b, o, none⟩ ∧ B b ∧ ∃ p1 c1 p2 c2, w.cell? ⟨b, o + i * 4, none⟩ = some (.string us[i].name) ∧ w.cell? ⟨b, o + i * 4 + 1, none⟩ = some (.slice p1 us[i].incs.length c1) ∧ w.cell? ⟨b, o + i * 4 + 2, none⟩ = some (.slice p2 us[i].axs.length c2) ∧ w.cell? ⟨b, o + i * 4 + 3, none⟩ = some (.string us[i].goal) ∧ UnAt B w us[i] [.string us[i].name, .slice p1 us[i].incs.length c1, .slice p2 us[i].axs.length c2, .string us[i].goal] := by
  obtain ⟨b, o, h1, h2, x0, x1, x2, x3, c0, c1, c2, c3, hR⟩ := ListAt.at4 h hi
  obtain ⟨p1, k1, p2, k2, rfl, rfl, rfl, rfl, -⟩ := hR.form
  exact ⟨b, o, h1, h2, p1, k1, p2, k2, c0, c1, c2, c3, hR⟩
def UnOwn (e : TypeId) (S : Nat → Prop) (w : World) (u : Un) (cs : List Value) : Prop := ∃ va vb S1 S2, cs = [.string u.name, va, vb, .string u.goal] ∧ u.name.size ≤ maxLen ∧ u.goal.size ≤ maxLen ∧ StrOwn e S1 w u.incs va ∧ StrOwn e S2 w u.axs vb ∧ (∀ b, S1 b → S b) ∧ (∀ b, S2 b → S b) ∧ ∀ b, S1 b → ¬ S2 b
theorem UnOwn.mono {e : TypeId} {S S' : Nat → Prop} {w w' : World} {u : Un} {cs : List Value} (hs : SameOn S w w') (hS : ∀ b, S b → S' b) (h : UnOwn e S w u cs) : UnOwn e S' w' u cs := by
  obtain ⟨va, vb, S1, S2, h1, h2, h3, h4, h5, h6, h7, h8⟩ := h
  exact ⟨va, vb, S1, S2, h1, h2, h3, h4.mono (fun b hb hlt => hs b (h6 b hb) hlt) (fun _ h => h), h5.mono (fun b hb hlt => hs b (h7 b hb) hlt) (fun _ h => h), fun b hb => hS b (h6 b hb), fun b hb => hS b (h7 b hb), h8⟩
theorem UnOwn.at_ {e : TypeId} {S : Nat → Prop} {w : World} {u : Un} {cs : List Value} (h : UnOwn e S w u cs) : UnAt S w u cs := by
  obtain ⟨va, vb, S1, S2, h1, h2, h3, h4, h5, h6, h7, h8⟩ := h
  exact ⟨va, vb, h1, h2, h3, h4.at_.mono (SameOn.refl _ _) h6, h5.at_.mono (SameOn.refl _ _) h7⟩
theorem UnOwn.later {e : TypeId} {S : Nat → Prop} {w w' : World} {u : Un} {cs : List Value} (hb : Below w.heap.size w w') (h : UnOwn e S w u cs) : UnOwn e S w' u cs := h.mono (SameOn.below hb) (fun _ h => h)
def UnsOwn (e eU : TypeId) (S : Nat → Prop) (w : World) (us : List Un) (v : Value) : Prop := OwnRow S w eU 4 (fun T u cs => UnOwn e T w u cs) v us
theorem UnsOwn.at_ {e eU : TypeId} {S : Nat → Prop} {w : World} {us : List Un} {v : Value} (h : UnsOwn e eU S w us v) : UnsAt S w v us := OwnRow.listAt (by omega) h (fun T x cs _ hT hx => hx.at_.mono (SameOn.refl _ _) hT)
/-! ### Marks -/
def Apped (e : TypeId) (size : Nat) (v : Value) (n : Nat) (cs : Array Value) (W : World) (z : Value) (w : World) : Prop :=
  (∀ b xs', W.ownsRow b e size v n xs' → b ≤ W.heap.size → w.ownsRow b e size z (n + 1) (xs' ++ cs.toList)) ∧ W.grownBy w v.ownBlock ∧ NewRow v z W.heap.size ∧ W.heap.size < w.heap.size
def BoxA (e : TypeId) (size : Nat) (p : Addr) (v : Value) (n : Nat) (cs : Array Value) (W : World) (kb ka : Nat) : Nat → (Nat → Value) → World → Prop
  | 0, _, w => w = W
  | 1, u, w => w = W.alloc (.cells cs e) ∧ u kb = .slice (some ⟨W.heap.size, 0, none⟩) 1 1
  | 2, u, w => Apped e size v n cs W (u ka) w
  | _ + 3, u, w => ∃ w2, Apped e size v n cs W (u ka) w2 ∧ w = w2.setCell p (u ka)
section
variable {e : TypeId} {size : Nat} {p : Addr} {v : Value} {n : Nat} {cs : Array Value} {W : World} {kb ka : Nat}
theorem BoxA.keep {j : Nat} {u : Nat → Value} {w : World} (hj : j ≤ 2) (h : BoxA e size p v n cs W kb ka j u w) {b : Nat} (hb : b < W.heap.size) (hv : v.ownBlock ≠ some b) : w.heap[b]? = W.heap[b]? := by
  match j, hj, h with
  | 0, _, h => obtain rfl : w = W := h; rfl
  | 1, _, h => obtain ⟨rfl, _⟩ := h; exact hao W _ b hb
  | 2, _, h => exact h.2.1.block b hb (fun e => hv e.symm)
theorem BoxA.cell {j : Nat} {u : Nat → Value} {w : World} (hj : j ≤ 2) (h : BoxA e size p v n cs W kb ka j u w) {b o : Nat} {x : Value} (hv : v.ownBlock ≠ some b) (hc : W.cell? ⟨b, o, none⟩ = some x) : w.cell? ⟨b, o, none⟩ = some x :=
  (World.cell?_of_block (a := ⟨b, o, none⟩) (h.keep hj (World.block_lt_of_cell? W _ hc) hv)).trans hc
theorem BoxA.frozen {j : Nat} {u : Nat → Value} {w : World} (hj : j ≤ 2) (h : BoxA e size p v n cs W kb ka j u w) {b o : Nat} {t : TypeId} {cur : Array Value} (hv : v.ownBlock ≠ some b) (hc : W.heap[b]? = some (.cells cur t (0, 0))) : w.frozen? ⟨b, o, none⟩ = false :=
  frozen_of_row w b o cur t ((h.keep hj (heap_lt hc) hv).trans hc)
end
theorem Apped.keep {e : TypeId} {size : Nat} {v : Value} {n : Nat} {cs : Array Value} {W w : World} {z : Value} (h : Apped e size v n cs W z w) {b : Nat} (hb : b < W.heap.size) (hv : v.ownBlock ≠ some b) : w.heap[b]? = W.heap[b]? := h.2.1.block b hb (fun e => hv e.symm)
theorem Apped.fresh {e : TypeId} {size : Nat} {v : Value} {n : Nat} {cs : Array Value} {W w : World} {z : Value} (h : Apped e size v n cs W z w) {b : Nat} (hb : b < W.heap.size) (hv : v.ownBlock ≠ some b) : z.ownBlock ≠ some b := fun e => by
  rcases h.2.2.1 with h1 | ⟨g, h1, h2⟩
  · exact hv (h1 ▸ e)
  · rw [h1] at e; injection e with e; omega
end Go.Proofs.YtkgfanajgdelcaaGreatDoor
