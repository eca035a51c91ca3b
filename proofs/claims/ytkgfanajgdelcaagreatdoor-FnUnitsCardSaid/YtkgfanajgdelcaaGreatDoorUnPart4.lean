import Derived.Test.YtkgfanajgdelcaaGreatDoorUnPart3
namespace Go.Proofs.YtkgfanajgdelcaaGreatDoor
set_option maxRecDepth 100000
open Go.RowKit
def PAt (T : TypeId) (w : World) (g : Nat) (s : ByteArray) (p : PSt) : Prop := w.heap[g]? = some (.cells #[.string s, .int .i64 (p.pos : Nat), .bool p.bad] T (0, 0))
theorem PAt.cells {T : TypeId} {w : World} {g : Nat} {s : ByteArray} {p : PSt} (h : PAt T w g s p) : w.cell? ⟨g, 0, none⟩ = some (.string s) ∧ w.cell? ⟨g, 1, none⟩ = some (.int .i64 (p.pos : Nat)) ∧ w.cell? ⟨g, 2, none⟩ = some (.bool p.bad) ∧ (∀ j, w.frozen? ⟨g, j, none⟩ = false) := by
  refine ⟨?_, ?_, ?_, fun j => frozen_of_row w g j _ _ h⟩
  · rw [cell_of_row w g 0 _ _ (0, 0) h]; rfl
  · rw [cell_of_row w g 1 _ _ (0, 0) h]; rfl
  · rw [cell_of_row w g 2 _ _ (0, 0) h]; rfl
theorem PAt.lt {T : TypeId} {w : World} {g : Nat} {s : ByteArray} {p : PSt} (h : PAt T w g s p) : g < w.heap.size := by
  rcases Nat.lt_or_ge g w.heap.size with h' | h'
  · exact h'
  · unfold PAt at h; rw [Array.getElem?_eq_none h'] at h; cases h
theorem PAt.below {T : TypeId} {w w1 : World} {g : Nat} {s : ByteArray} {p : PSt} (h : PAt T w g s p) (hb : Below w.heap.size w w1) : PAt T w1 g s p := (hb.block g h.lt).trans h
theorem PAt.pos {T : TypeId} {w : World} {g : Nat} {s : ByteArray} {p : PSt} (h : PAt T w g s p) (k : Nat) : PAt T (w.setCell ⟨g, 1, none⟩ (.int .i64 (k : Nat))) g s ⟨k, p.bad⟩ := by
  have := heap_setCell_same w g 1 _ T (.int .i64 (k : Nat)) h
  simpa [PAt] using this
theorem PAt.fail {T : TypeId} {w : World} {g : Nat} {s : ByteArray} {p : PSt} (h : PAt T w g s p) : PAt T (w.setCell ⟨g, 2, none⟩ (.bool true)) g s ⟨p.pos, true⟩ := by
  have := heap_setCell_same w g 2 _ T (.bool true) h
  simpa [PAt] using this
def PStep (T : TypeId) (g : Nat) (s : ByteArray) (p' : PSt) (P : Value → World → Prop) (w : World) (e : Ending) (w' : World) : Prop := ∃ v, e = .returned v ∧ P v w' ∧ PAt T w' g s p' ∧ w.grownBy w' (some g)
theorem hasPrefix_eq (l p : List UInt8) : Lib.hasPrefix l p = p.isPrefixOf l := by
  rfl
theorem pTake_list (s t : ByteArray) (p : PSt) (h : p.bad = false) : pTake s.data.toList t.data.toList p = t.data.toList.isPrefixOf (s.data.toList.drop p.pos) := by rw [pTake, h]; rfl
theorem hasPrefix_any (s p : ByteArray) (w : World) : Calls Tryz.prog 274 #[.string s, .string p] w fun e w' => e = .returned (.bool (Lib.hasPrefix s.data.toList p.data.toList)) ∧ Below w.heap.size w w' :=
  (Tryz.strings_HasPrefix s p w).mono fun _ _ ⟨he, hw⟩ => ⟨he, hw ▸ Below.refl _ _⟩
set_option maxHeartbeats 1600000 in
theorem has_any (g : Nat) (s t : ByteArray) (p : PSt) (w : World) (h : PAt 190 w g s p) (hp : p.pos ≤ s.size) (_hs : s.size ≤ maxLen) :
    Calls Tryz.prog 258 #[.pointer (some ⟨g, 0, none⟩), .string t] w fun e w' => e = .returned (.bool (pTake s.data.toList t.data.toList p)) ∧ Below w.heap.size w w' := by
  obtain ⟨c0, c1, c2, -⟩ := h.cells
  have hg := bsz h.lt
  unfold maxLen at _hs
  obtain ⟨k, bad⟩ := p
  simp only at hp c1 c2
  clear h
  cases bad
  · have HT := Lib.hid (pTake_list s t ⟨k, false⟩ rfl)
    go_enter Tryz.func258, Tryz.ntmps258
    go_wp2
    obtain ⟨C, HC0⟩ := class_of (InF w.heap.size _ [(⟨g, 0, none⟩, .string s), (⟨g, 1, none⟩, .int .i64 (k : Nat)), (⟨g, 2, none⟩, .bool false)] [] [])
    have HC := Lib.hid HC0
    clear HC0
    refine wp_region_flow (C := C) (by kernel_rfl) (by kernel_rfl) (fun L hL => (HC.out _ _).2 (InF.start (by first | (intro _ _hs; cases _hs; done) | (simp only [List.forall_mem_cons]; go_simp)) (by first | (intro _ _hs; cases _hs; done) | (simp only [List.forall_mem_cons]; go_simp)) (by first | (intro _ _hs; cases _hs; done) | (simp only [List.forall_mem_cons]; go_simp)) (by first | (intro _ _hs; cases _hs; done) | (simp only [List.forall_mem_cons]; go_simp)) L hL)) ?_
    repeat (first | ((first | apply flow_free rfl | (apply flow_yes; (case hw => go_simp))); (intro L w' hun hrd hC; have hC := (HC.out _ _).1 hC; have hb' := hC.below; (try have hw' : Below w.heap.size w w' := by first | exact Below.trans (by (repeat (first | with_reducible (first | exact bR _ _ | assumption | refine bA ?_ _ | refine bS ?_ (by first | exact Nat.le_refl _ | (simp; done) | (simp; omega)) _) | assumption | exact bR _ _ | refine bD ?_ | refine bN ?_ _ | refine bT ?_ (by assumption)))) hb' | ((repeat (first | with_reducible (first | exact bR _ _ | assumption | refine bA ?_ _ | refine bS ?_ (by first | exact Nat.le_refl _ | (simp; done) | (simp; omega)) _) | assumption | exact bR _ _ | refine bD ?_ | refine bN ?_ _ | refine bT ?_ (by assumption))); done)); have hf' := hC.cell; (try simp only [List.forall_mem_cons] at hf'); go_simp; first | exact ⟨(HC.out _ _).2 (hC.skip _ (by rfl)), rfl⟩ | (rw [if_neg]; (exact ⟨(HC.out _ _).2 (hC.skip _ (by rfl)), rfl⟩); omega) | (go_at_call 274; refine (hasPrefix_any _ _ _).mono ?_; rintro e w1 ⟨rfl, hb1⟩; exact ⟨rfl, (HC.out _ _).2 ((hC.next (by first | (simp; done) | (simp; omega) | omega) hb1).skip _ (by rfl))⟩)); go_simp) | (apply flow_no; (case hw => (go_simp; try (intro hh; cases hh))); (intro L w' _ _ hC; exact (HC.out _ _).2 (((HC.out _ _).1 hC).skip _ (by rfl))); go_simp))
    refine flow_nil ?_
    intro L wz hL hz
    have hz := (HC.out _ _).1 hz
    have hbz := hz.below
    have hcz := hz.cell
    try simp only [List.forall_mem_cons] at hcz
    have hdz := hz.done
    try simp only [List.forall_mem_cons] at hdz
    (try have hwz : Below w.heap.size w wz := by first | exact Below.trans (by (repeat (first | with_reducible (first | exact bR _ _ | assumption | refine bA ?_ _ | refine bS ?_ (by first | exact Nat.le_refl _ | (simp; done) | (simp; omega)) _) | assumption | exact bR _ _ | refine bD ?_ | refine bN ?_ _ | refine bT ?_ (by assumption)))) hbz | ((repeat (first | with_reducible (first | exact bR _ _ | assumption | refine bA ?_ _ | refine bS ?_ (by first | exact Nat.le_refl _ | (simp; done) | (simp; omega)) _) | assumption | exact bR _ _ | refine bD ?_ | refine bN ?_ _ | refine bT ?_ (by assumption))); done))
    go_wp2
    go_ret
    exact ⟨ret_bool (by rw [HT.out, List.take_of_length_le (by simp), hasPrefix_eq]), by exact bel⟩
  · have HT := Lib.hid (show pTake s.data.toList t.data.toList ⟨k, true⟩ = false from rfl)
    go_enter Tryz.func258, Tryz.ntmps258
    go_wp2
    obtain ⟨C, HC0⟩ := class_of (InF w.heap.size _ [(⟨g, 0, none⟩, .string s), (⟨g, 1, none⟩, .int .i64 (k : Nat)), (⟨g, 2, none⟩, .bool true)] [] [])
    have HC := Lib.hid HC0
    clear HC0
    refine wp_region_flow (C := C) (by kernel_rfl) (by kernel_rfl) (fun L hL => (HC.out _ _).2 (InF.start (by first | (intro _ _hs; cases _hs; done) | (simp only [List.forall_mem_cons]; go_simp)) (by first | (intro _ _hs; cases _hs; done) | (simp only [List.forall_mem_cons]; go_simp)) (by first | (intro _ _hs; cases _hs; done) | (simp only [List.forall_mem_cons]; go_simp)) (by first | (intro _ _hs; cases _hs; done) | (simp only [List.forall_mem_cons]; go_simp)) L hL)) ?_
    repeat (first | ((first | apply flow_free rfl | (apply flow_yes; (case hw => go_simp))); (intro L w' hun hrd hC; have hC := (HC.out _ _).1 hC; have hb' := hC.below; have hf' := hC.cell; (try simp only [List.forall_mem_cons] at hf'); go_simp; first | exact ⟨(HC.out _ _).2 (hC.skip _ (by rfl)), rfl⟩ | (rw [if_neg]; (exact ⟨(HC.out _ _).2 (hC.skip _ (by rfl)), rfl⟩); omega) | fail); go_simp) | (apply flow_no; (case hw => (go_simp; try (intro hh; cases hh))); (intro L w' _ _ hC; exact (HC.out _ _).2 (((HC.out _ _).1 hC).skip _ (by rfl))); go_simp))
    refine flow_nil ?_
    intro L wz hL hz
    have hz := (HC.out _ _).1 hz
    have hbz := hz.below
    have hcz := hz.cell
    try simp only [List.forall_mem_cons] at hcz
    have hdz := hz.done
    try simp only [List.forall_mem_cons] at hdz
    (try have hwz : Below w.heap.size w wz := by first | exact Below.trans (by (repeat (first | with_reducible (first | exact bR _ _ | assumption | refine bA ?_ _ | refine bS ?_ (by first | exact Nat.le_refl _ | (simp; done) | (simp; omega)) _) | assumption | exact bR _ _ | refine bD ?_ | refine bN ?_ _ | refine bT ?_ (by assumption)))) hbz | ((repeat (first | with_reducible (first | exact bR _ _ | assumption | refine bA ?_ _ | refine bS ?_ (by first | exact Nat.le_refl _ | (simp; done) | (simp; omega)) _) | assumption | exact bR _ _ | refine bD ?_ | refine bN ?_ _ | refine bT ?_ (by assumption))); done))
    go_wp2
    go_ret
    exact ⟨ret_bool (by rw [HT.out]), by exact bel⟩
set_option maxHeartbeats 1600000 in
theorem take_any (g : Nat) (s t : ByteArray) (p : PSt) (w : World) (h : PAt 190 w g s p) (hp : p.pos ≤ s.size) (hs : s.size ≤ 1000000000000) (ht : t.size ≤ 1000000) :
    Calls Tryz.prog 223 #[.pointer (some ⟨g, 0, none⟩), .string t] w (PStep 190 g s (if pTake s.data.toList t.data.toList p then pAdv t.data.toList p else p) (fun v _ => v = .bool (pTake s.data.toList t.data.toList p)) w) := by
  have H := Lib.hid h
  have hg := bsz h.lt
  obtain ⟨k, bad⟩ := p
  simp only at hp
  obtain ⟨c0, c1, c2, cf⟩ := h.cells
  simp only at c1 c2
  clear h
  cases hT : pTake s.data.toList t.data.toList ⟨k, bad⟩
  · have HT := Lib.hid hT
    go_enter Tryz.func223, Tryz.ntmps223
    go_wp2_with fail
    refine (has_any g s t ⟨k, bad⟩ _ (H.out.below (by exact bel)) hp (by unfold maxLen; omega)).mono ?_
    rintro e w1 ⟨rfl, hb1⟩
    have ⟨cw1, fw1⟩ := bcell hb1
    have qw1 := hb1.size
    (try simp at qw1)
    (try have zw1w := bsz (show w.heap.size < w1.heap.size by omega))
    rw [HT.out]
    go_wp2
    go_ret
    exact ⟨_, rfl, rfl, H.out.below (by exact bel), gr_below (gr_refl w g) (by exact bel)⟩
  · have HT := Lib.hid hT
    go_enter Tryz.func223, Tryz.ntmps223
    go_wp2_with fail
    refine (has_any g s t ⟨k, bad⟩ _ (H.out.below (by exact bel)) hp (by unfold maxLen; omega)).mono ?_
    rintro e w1 ⟨rfl, hb1⟩
    have ⟨cw1, fw1⟩ := bcell hb1
    have qw1 := hb1.size
    (try simp at qw1)
    (try have zw1w := bsz (show w.heap.size < w1.heap.size by omega))
    rw [HT.out]
    go_wp2
    go_ret
    exact ⟨_, rfl, rfl, (H.out.below hb1).pos (k + t.size), gr_sc (gr_below (gr_refl w g) hb1) (.inl rfl) _⟩
set_option maxHeartbeats 1600000 in
theorem must_any (g : Nat) (s t : ByteArray) (p : PSt) (w : World) (h : PAt 190 w g s p) (hp : p.pos ≤ s.size) (hs : s.size ≤ 1000000000000) (ht : t.size ≤ 1000000) :
    Calls Tryz.prog 225 #[.pointer (some ⟨g, 0, none⟩), .string t] w (PStep 190 g s (pMust s.data.toList t.data.toList p) (fun v _ => v = .tuple #[]) w) := by
  have H := Lib.hid h
  have hg := bsz h.lt
  cases hT : pTake s.data.toList t.data.toList p
  · have HT := Lib.hid hT
    have HM := Lib.hid (show pMust s.data.toList t.data.toList p = ⟨p.pos, true⟩ by rw [pMust, hT]; rfl)
    clear h
    go_enter Tryz.func225, Tryz.ntmps225
    go_wp2_with fail
    refine (take_any g s t p _ H.out hp hs ht).mono ?_
    rw [HT.out]
    rintro e w1 ⟨v, rfl, rfl, h1, hg1⟩
    have H1 := Lib.hid h1
    have ⟨c1, f1⟩ := gcell hg1
    have hz := hg1.size
    obtain ⟨d0, d1, d2, df⟩ := h1.cells
    clear h1
    go_wp2
    go_end0
    exact ⟨_, rfl, rfl, by rw [HM.out]; exact H1.out.fail, gr_sc hg1 (.inl rfl) _⟩
  · have HT := Lib.hid hT
    have HM := Lib.hid (show pMust s.data.toList t.data.toList p = pAdv t.data.toList p by rw [pMust, hT]; rfl)
    clear h
    go_enter Tryz.func225, Tryz.ntmps225
    go_wp2_with fail
    refine (take_any g s t p _ H.out hp hs ht).mono ?_
    rw [HT.out]
    rintro e w1 ⟨v, rfl, rfl, h1, hg1⟩
    have H1 := Lib.hid h1
    clear h1
    go_wp2
    go_end0
    exact ⟨_, rfl, rfl, by rw [HM.out]; exact H1.out, hg1⟩
set_option maxHeartbeats 1600000 in
theorem ended_any (g : Nat) (s : ByteArray) (p : PSt) (w : World) (h : PAt 190 w g s p) :
    Calls Tryz.prog 187 #[.pointer (some ⟨g, 0, none⟩)] w fun e w' => e = .returned (.bool (!p.bad && p.pos == s.size)) ∧ Below w.heap.size w w' := by
  obtain ⟨c0, c1, c2, -⟩ := h.cells
  have hg := bsz h.lt
  obtain ⟨k, bad⟩ := p
  simp only at c1 c2
  clear h
  cases bad
  · go_enter Tryz.func187, Tryz.ntmps187
    go_wp2
    obtain ⟨C, HC0⟩ := class_of (InF w.heap.size _ [(⟨g, 0, none⟩, .string s), (⟨g, 1, none⟩, .int .i64 (k : Nat)), (⟨g, 2, none⟩, .bool false)] [] [])
    have HC := Lib.hid HC0
    clear HC0
    refine wp_region_flow (C := C) (by kernel_rfl) (by kernel_rfl) (fun L hL => (HC.out _ _).2 (InF.start (by first | (intro _ hs; cases hs; done) | (simp only [List.forall_mem_cons]; go_simp)) (by first | (intro _ hs; cases hs; done) | (simp only [List.forall_mem_cons]; go_simp)) (by first | (intro _ hs; cases hs; done) | (simp only [List.forall_mem_cons]; go_simp)) (by first | (intro _ hs; cases hs; done) | (simp only [List.forall_mem_cons]; go_simp)) L hL)) ?_
    repeat (first | ((first | apply flow_free rfl | (apply flow_yes; (case hw => go_simp))); (intro L w' hun hrd hC; have hC := (HC.out _ _).1 hC; have hb' := hC.below; have hf' := hC.cell; (try simp only [List.forall_mem_cons] at hf'); go_simp; first | exact ⟨(HC.out _ _).2 (hC.skip _ (by rfl)), rfl⟩ | (rw [if_neg]; (exact ⟨(HC.out _ _).2 (hC.skip _ (by rfl)), rfl⟩); omega) | fail); go_simp) | (apply flow_no; (case hw => (go_simp; try (intro hh; cases hh))); (intro L w' _ _ hC; exact (HC.out _ _).2 (((HC.out _ _).1 hC).skip _ (by rfl))); go_simp))
    refine flow_nil ?_
    intro L wz hL hz
    have hz := (HC.out _ _).1 hz
    have hbz := hz.below
    have hcz := hz.cell
    try simp only [List.forall_mem_cons] at hcz
    have hdz := hz.done
    try simp only [List.forall_mem_cons] at hdz
    (try have hwz : Below w.heap.size w wz := by first | exact Below.trans (by (repeat (first | with_reducible (first | exact bR _ _ | assumption | refine bA ?_ _ | refine bS ?_ (by first | exact Nat.le_refl _ | (simp; done) | (simp; omega)) _) | assumption | exact bR _ _ | refine bD ?_ | refine bN ?_ _ | refine bT ?_ (by assumption)))) hbz | ((repeat (first | with_reducible (first | exact bR _ _ | assumption | refine bA ?_ _ | refine bS ?_ (by first | exact Nat.le_refl _ | (simp; done) | (simp; omega)) _) | assumption | exact bR _ _ | refine bD ?_ | refine bN ?_ _ | refine bT ?_ (by assumption))); done))
    go_wp2
    go_ret
    exact ⟨ret_bool (by rw [Bool.eq_iff_iff]; simp; omega), by exact bel⟩
  · go_enter Tryz.func187, Tryz.ntmps187
    go_wp2
    obtain ⟨C, HC0⟩ := class_of (InF w.heap.size _ [(⟨g, 0, none⟩, .string s), (⟨g, 1, none⟩, .int .i64 (k : Nat)), (⟨g, 2, none⟩, .bool true)] [] [])
    have HC := Lib.hid HC0
    clear HC0
    refine wp_region_flow (C := C) (by kernel_rfl) (by kernel_rfl) (fun L hL => (HC.out _ _).2 (InF.start (by first | (intro _ hs; cases hs; done) | (simp only [List.forall_mem_cons]; go_simp)) (by first | (intro _ hs; cases hs; done) | (simp only [List.forall_mem_cons]; go_simp)) (by first | (intro _ hs; cases hs; done) | (simp only [List.forall_mem_cons]; go_simp)) (by first | (intro _ hs; cases hs; done) | (simp only [List.forall_mem_cons]; go_simp)) L hL)) ?_
    repeat (first | ((first | apply flow_free rfl | (apply flow_yes; (case hw => go_simp))); (intro L w' hun hrd hC; have hC := (HC.out _ _).1 hC; have hb' := hC.below; have hf' := hC.cell; (try simp only [List.forall_mem_cons] at hf'); go_simp; first | exact ⟨(HC.out _ _).2 (hC.skip _ (by rfl)), rfl⟩ | (rw [if_neg]; (exact ⟨(HC.out _ _).2 (hC.skip _ (by rfl)), rfl⟩); omega) | fail); go_simp) | (apply flow_no; (case hw => (go_simp; try (intro hh; cases hh))); (intro L w' _ _ hC; exact (HC.out _ _).2 (((HC.out _ _).1 hC).skip _ (by rfl))); go_simp))
    refine flow_nil ?_
    intro L wz hL hz
    have hz := (HC.out _ _).1 hz
    have hbz := hz.below
    have hcz := hz.cell
    try simp only [List.forall_mem_cons] at hcz
    have hdz := hz.done
    try simp only [List.forall_mem_cons] at hdz
    (try have hwz : Below w.heap.size w wz := by first | exact Below.trans (by (repeat (first | with_reducible (first | exact bR _ _ | assumption | refine bA ?_ _ | refine bS ?_ (by first | exact Nat.le_refl _ | (simp; done) | (simp; omega)) _) | assumption | exact bR _ _ | refine bD ?_ | refine bN ?_ _ | refine bT ?_ (by assumption)))) hbz | ((repeat (first | with_reducible (first | exact bR _ _ | assumption | refine bA ?_ _ | refine bS ?_ (by first | exact Nat.le_refl _ | (simp; done) | (simp; omega)) _) | assumption | exact bR _ _ | refine bD ?_ | refine bN ?_ _ | refine bT ?_ (by assumption))); done))
    go_wp2
    go_ret
    exact ⟨ret_bool (by simp), by exact bel⟩
theorem wordL_at {s : ByteArray} {k j : Nat} {bad : Bool} (hall : ∀ i, k ≤ i → (h : i < j) → (h2 : i < s.size) → wordC s[i] = true) (h1 : k ≤ j) (h2 : j ≤ s.size) (hst : ∀ h : j < s.size, wordC s[j] = false) : pWordL s.data.toList ⟨k, bad⟩ = (s.data.toList.drop k).take (j - k) := by
  have e : s.data.toList.drop k = (s.data.toList.drop k).take (j - k) ++ s.data.toList.drop j := by
    have := (List.take_append_drop (j - k) (s.data.toList.drop k)).symm
    rw [List.drop_drop, show k + (j - k) = j by omega] at this; exact this
  show (s.data.toList.drop k).takeWhile wordC = _
  rw [e, takeWhile_app]
  · rw [List.take_append_of_le_length (by rw [List.length_take, List.length_drop, ← size_list]; omega), List.take_take, Nat.min_self]
  · rw [List.all_eq_true]
    intro c hc
    obtain ⟨i, hi, rfl⟩ := List.getElem_of_mem hc
    rw [List.length_take, List.length_drop, ← size_list] at hi
    rw [List.getElem_take, List.getElem_drop]
    exact hall (k + i) (by omega) (by omega) (by omega)
  · intro c hc
    rw [List.head?_drop] at hc
    obtain ⟨hlt, rfl⟩ := List.getElem?_eq_some_iff.1 hc
    exact hst (by simpa using hlt)
theorem pWord_empty {L : List UInt8} {k : Nat} {bad : Bool} (h : (pWordL L ⟨k, bad⟩).length = 0) : pWord L ⟨k, bad⟩ = ([], ⟨k + (pWordL L ⟨k, bad⟩).length, true⟩) := by
  rw [pWord, if_pos (by simp [List.length_eq_zero_iff.1 h])]
theorem pWord_bad {L : List UInt8} {k : Nat} : pWord L ⟨k, true⟩ = ([], ⟨k + (pWordL L ⟨k, true⟩).length, true⟩) := by rw [pWord, if_pos (by simp)]
theorem pWord_some {L : List UInt8} {k : Nat} (h : (pWordL L ⟨k, false⟩).length ≠ 0) : pWord L ⟨k, false⟩ = (pWordL L ⟨k, false⟩, ⟨k + (pWordL L ⟨k, false⟩).length, false⟩) := by
  rw [pWord, if_neg]
  cases hq : pWordL L ⟨k, false⟩ with
  | nil => rw [hq] at h; exact absurd rfl h
  | cons a l => simp
def posOf (w : World) (g : Nat) : Nat := (intOf ((w.cell? ⟨g, 1, none⟩).getD undef)).toNat
theorem PAt.posOf {T : TypeId} {w : World} {g : Nat} {s : ByteArray} {p : PSt} (h : PAt T w g s p) : posOf w g = p.pos := by rw [Go.Proofs.YtkgfanajgdelcaaGreatDoor.posOf, h.cells.2.1]; simp [intOf]
def rWordL (L : List UInt8) (k : Nat) : List UInt8 := (L.drop k).takeWhile wordC
mutual
def rTerm (L : List UInt8) : Nat → Nat → Option (Tm × Nat)
  | 0, _ => none
  | f + 1, k =>
    if (rWordL L k).isEmpty then none
    else if L[k + (rWordL L k).length]? = some 40 then rArgs L (rWordL L k) f [] (k + (rWordL L k).length)
    else some (.mk ⟨(rWordL L k).toArray⟩ [], k + (rWordL L k).length)
def rArgs (L n : List UInt8) : Nat → List Tm → Nat → Option (Tm × Nat)
  | 0, _, _ => none
  | f + 1, us, e =>
    match rTerm L f (e + 1) with
    | none => none
    | some (a, j) => if L[j]? = some 44 then rArgs L n f (us ++ [a]) j else if L[j]? = some 41 then some (.mk ⟨n.toArray⟩ (us ++ [a]), j + 1) else none
end
/-! ### What is written is read back -/
theorem drop_get {L R : List UInt8} {k : Nat} (h : L.drop k = R) : L[k]? = R.head? := by rw [← h, List.head?_drop]
mutual
theorem rTerm_ok {L : List UInt8} : ∀ (f : Nat) (t : Tm) (k : Nat) (R : List UInt8), t.nodes = true → L.drop k = t.fmt ++ R → stopC R → t.fmt.length < f → rTerm L f k = some (t, k + t.fmt.length)
  | 0, _, _, _, _, _, _, h => absurd h (by omega)
  | f + 1, .mk n us, k, R, hn, hL, hR, hf => by
    have h1 := Tm.nodes_mk hn
    have hm := Tm.fmt_mk (us := us) (word_not61 h1.1)
    cases us with
    | nil =>
      rw [if_pos (by rfl)] at hm
      rw [hm] at hL ⊢
      have hw : rWordL L k = n.data.toList := by rw [rWordL, hL, takeWhile_app h1.1.1 (fun c hc => (hR c hc).1)]
      have e1 := drop_adv hL
      have hno : L[k + n.data.toList.length]? ≠ some 40 := by rw [drop_get e1]; intro h; exact (hR 40 h).2 rfl
      rw [rTerm, hw, if_neg (by simpa using h1.1.2), if_neg hno, ba_eq]
    | cons a us =>
      rw [if_neg (by simp), joinB_cons] at hm
      have h2 : a.nodes = true ∧ Tm.nodess us = true := by simpa [Tm.nodess] using h1.2
      have hlen : (Tm.mk n (a :: us)).fmt.length = n.data.toList.length + 1 + a.fmt.length + (sepAll [44] us).length + 1 := by rw [hm]; simp; omega
      have e0 : L.drop k = n.data.toList ++ ([40] ++ (a.fmt ++ (sepAll [44] us ++ ([41] ++ R)))) := by rw [hL, hm]; simp [List.append_assoc]
      have hw : rWordL L k = n.data.toList := by rw [rWordL, e0, takeWhile_app h1.1.1 (fun c hc => by simp at hc; subst hc; decide)]
      have e1 := drop_adv e0
      have hp : 0 < n.data.toList.length := List.length_pos_iff.2 h1.1.2
      rw [rTerm, hw, if_neg (by simpa using h1.1.2), if_pos (by rw [drop_get e1]; rfl)]
      rw [rArgs_ok f n.data.toList [] a us (k + n.data.toList.length) 40 R h2.1 h2.2 e1 (by omega), ba_eq, hlen]
      refine congrArg some (Prod.ext rfl ?_)
      show _ = _
      simp only; omega
theorem rArgs_ok {L : List UInt8} : ∀ (f : Nat) (n : List UInt8) (acc : List Tm) (a : Tm) (us : List Tm) (e : Nat) (c : UInt8) (R : List UInt8), a.nodes = true → Tm.nodess us = true → L.drop e = [c] ++ (a.fmt ++ (sepAll [44] us ++ ([41] ++ R))) → a.fmt.length + (sepAll [44] us).length + 1 < f →
    rArgs L n f acc e = some (.mk ⟨n.toArray⟩ (acc ++ a :: us), e + 1 + a.fmt.length + (sepAll [44] us).length + 1)
  | 0, _, _, _, _, _, _, _, _, _, _, h => absurd h (by omega)
  | f + 1, n, acc, a, us, e, c, R, ha, hu, hL, hf => by
    have s41 : stopC ([41] ++ R) := by intro c hc; simp at hc; subst hc; decide
    have s44 : stopC [44] := by intro c hc; simp at hc; subst hc; decide
    have e1 := drop_adv hL
    have e2 := drop_adv e1
    have h1 := rTerm_ok f a (e + 1) _ ha e1 (stop_sep s44 (by simp) s41) (by omega)
    rw [rArgs, h1]
    simp only
    have e2' : L.drop (e + 1 + a.fmt.length) = sepAll [44] us ++ ([41] ++ R) := e2
    cases us with
    | nil =>
      have hg : L[e + 1 + a.fmt.length]? = some 41 := by rw [drop_get e2']; rfl
      rw [hg, if_neg (by decide), if_pos rfl]
      simp [sepAll]
    | cons b us =>
      have h2 : b.nodes = true ∧ Tm.nodess us = true := by simpa [Tm.nodess] using hu
      have hg : L[e + 1 + a.fmt.length]? = some 44 := by rw [drop_get e2']; simp [sepAll]
      rw [hg, if_pos rfl]
      have hlen : (sepAll [44] (b :: us)).length = 1 + b.fmt.length + (sepAll [44] us).length := by rw [sepAll]; simp; omega
      rw [rArgs_ok f n (acc ++ [a]) b us (e + 1 + a.fmt.length) 44 R h2.1 h2.2 (by rw [e2', sepAll]; simp [List.append_assoc]) (by omega), hlen, List.append_assoc]
      refine congrArg some (Prod.ext rfl ?_)
      show _ = _
      simp only; omega
end
theorem pTake_le {L t : List UInt8} {p : PSt} (h : pTake L t p = true) (hp : p.pos ≤ L.length) : p.pos + t.length ≤ L.length := by
  simp only [pTake, Bool.and_eq_true] at h
  have := (List.isPrefixOf_iff_prefix.1 h.2).length_le
  rw [List.length_drop] at this; omega
theorem pWordL_le (L : List UInt8) (p : PSt) (hp : p.pos ≤ L.length) : p.pos + (pWordL L p).length ≤ L.length := by
  have : (pWordL L p).length ≤ (L.drop p.pos).length := (List.takeWhile_sublist _).length_le
  rw [List.length_drop] at this; omega
theorem pWord_len (L : List UInt8) (p : PSt) : (pWord L p).1.length ≤ L.length := by
  have h : (pWordL L p).length ≤ (L.drop p.pos).length := (List.takeWhile_sublist _).length_le
  rw [List.length_drop] at h
  unfold pWord; split <;> simp <;> omega
theorem pWord_pos (L : List UInt8) (p : PSt) (hp : p.pos ≤ L.length) : p.pos ≤ (pWord L p).2.pos ∧ (pWord L p).2.pos ≤ L.length := by
  have := pWordL_le L p hp
  unfold pWord; split <;> (constructor <;> simp <;> omega)
theorem pMust_pos (L t : List UInt8) (p : PSt) (hp : p.pos ≤ L.length) : p.pos ≤ (pMust L t p).pos ∧ (pMust L t p).pos ≤ L.length := by
  unfold pMust
  split
  · rename_i h; have := pTake_le h hp; simp only [pAdv]; omega
  · exact ⟨Nat.le_refl _, hp⟩
mutual
theorem pTerm_pos (L : List UInt8) : ∀ (f : Nat) (p : PSt), p.pos ≤ L.length → p.pos ≤ (pTerm L f p).2.pos ∧ (pTerm L f p).2.pos ≤ L.length
  | 0, p, hp => by rw [pTerm]; exact ⟨Nat.le_refl _, hp⟩
  | f + 1, p, hp => by
    have h1 := pWord_pos L p hp
    rw [pTerm]
    split
    · rename_i ht
      have h2 := pTake_le ht h1.2
      have h3 := pTerm_pos L f (pAdv [40] (pWord L p).2) h2
      have h4 := pArgs_pos L [44] f _ h3.2
      have h5 := pMust_pos L [41] _ h4.2
      simp only [pAdv] at h3 h4 h5 ⊢
      omega
    · exact h1
theorem pArgs_pos (L sep : List UInt8) : ∀ (f : Nat) (p : PSt), p.pos ≤ L.length → p.pos ≤ (pArgs L sep f p).2.pos ∧ (pArgs L sep f p).2.pos ≤ L.length
  | 0, p, hp => by rw [pArgs]; exact ⟨Nat.le_refl _, hp⟩
  | f + 1, p, hp => by
    rw [pArgs]
    split
    · rename_i ht
      have h2 := pTake_le ht hp
      have h3 := pTerm_pos L f (pAdv sep p) h2
      have h4 := pArgs_pos L sep f _ h3.2
      simp only [pAdv] at h3 h4 ⊢
      omega
    · exact ⟨Nat.le_refl _, hp⟩
end
mutual
def Fm.wt : Fm → Nat | .mk _ a v us => a.wt + v.size + us.length + Fm.wts us
def Fm.wts : List Fm → Nat | [] => 0 | a :: us => a.wt + Fm.wts us
end
theorem upC_iff (c : UInt8) : upC c = true ↔ ¬ (c.toNat : Int) < 65 ∧ ¬ 90 < (c.toNat : Int) := by
  simp only [upC, Bool.and_eq_true, decide_eq_true_eq]; omega
theorem loC_iff (c : UInt8) : loC c = true ↔ ¬ (c.toNat : Int) < 97 ∧ ¬ 122 < (c.toNat : Int) := by
  simp only [loC, Bool.and_eq_true, decide_eq_true_eq]; omega
theorem varB_eq (s : ByteArray) : varB s.data.toList = (inB (s.size : Int) 1 4 && headTail upC smC s.data.toList) := by
  unfold varB inB; rw [← size_list]
  congr 1
  rw [Bool.eq_iff_iff]; simp; omega
theorem symB_eq (s : ByteArray) : symB s.data.toList = (inB (s.size : Int) 1 6 && headTail loC unC s.data.toList && !keyW.contains s.data.toList) := by
  unfold symB inB; rw [← size_list]
  congr 2
  rw [Bool.eq_iff_iff]; simp; omega
set_option maxHeartbeats 1600000 in
theorem l2Var_any (s : ByteArray) (w : World) (hs : s.size ≤ maxLen) :
    Calls Tryz.prog 157 #[.string s] w fun e w' => e = .returned (.bool (varB s.data.toList)) ∧ w = w' := by
  unfold maxLen at hs
  have HV := Lib.hid (varB_eq s)
  cases hB : inB (s.size : Int) 1 4
  · have HB := Lib.hid hB
    go_enter Tryz.func157, Tryz.ntmps157
    go_wp2_with (first | (go_at_call 136; refine (l1In_any _ _ _ _).mono ?_; rintro e w' ⟨rfl, rfl⟩))
    go_ret
    exact ⟨ret_bool (by rw [HV.out, HB.out]; rfl), rfl⟩
  · have HB := Lib.hid hB
    have hsz : 0 < s.size := by simp only [inB, Bool.and_eq_true, decide_eq_true_eq] at hB; omega
    have H0 := Lib.hid (headTail_take upC smC s 0 hsz)
    have HN0 := Lib.hid (headTail_no upC smC s 0 hsz)
    cases hU : upC s[0]
    · have HU := Lib.hid hU
      have hor : (s[0].toNat : Int) < 65 ∨ 90 < (s[0].toNat : Int) := by
        have := (not_congr (upC_iff s[0])).1 (by rw [hU]; simp)
        omega
      rcases hor with h1 | h1
      · go_enter Tryz.func157, Tryz.ntmps157
        go_wp2_with (first | (go_at_call 136; refine (l1In_any _ _ _ _).mono ?_; rintro e w' ⟨rfl, rfl⟩))
        go_ret
        exact ⟨ret_bool (by rw [HV.out, HN0.out (by simpa using HU.out)]; simp), rfl⟩
      · have h2 : ¬ (s[0].toNat : Int) < 65 := by omega
        go_enter Tryz.func157, Tryz.ntmps157
        go_wp2_with (first | (go_at_call 136; refine (l1In_any _ _ _ _).mono ?_; rintro e w' ⟨rfl, rfl⟩))
        go_ret
        exact ⟨ret_bool (by rw [HV.out, HN0.out (by simpa using HU.out)]; simp), rfl⟩
    · have HU := Lib.hid hU
      obtain ⟨h1, h2⟩ := (upC_iff s[0]).1 hU
      go_enter Tryz.func157, Tryz.ntmps157
      go_wp2_with (first | (go_at_call 136; refine (l1In_any _ _ _ _).mono ?_; rintro e w' ⟨rfl, rfl⟩))
      go_loop [3] (fun i => ∃ k : Nat, 1 ≤ k ∧ k ≤ s.size ∧ i = .int .i64 k ∧ headTail upC smC (s.data.toList.take k) = true) (fun i => s.size - (intOf i).toNat)
      case atStart => exact ⟨1, by omega, by omega, rfl, by rw [H0.out]; simp [HU.out, headTail]⟩
      case round =>
        obtain ⟨k, hk1, hk, rfl, hp⟩ := hrel
        have HP := Lib.hid hp; clear hp
        by_cases hlt : k < s.size
        · have HT := Lib.hid (headTail_take upC smC s k hlt)
          have HN := Lib.hid (headTail_no upC smC s k hlt)
          have hk0 : ¬ k = 0 := by omega
          cases hL : smC s[k]
          all_goals
            have HL := Lib.hid hL
            go_wp2_with (first | (go_at_call 137; refine (l2Small_any _ _).mono ?_; rintro e w' ⟨rfl, rfl⟩))
          · go_ret
            exact ⟨ret_bool (by rw [HV.out, HN.out (by rw [if_neg hk0, HL.out])]; simp), rfl⟩
          · refine ⟨⟨k + 1, by omega, by omega, by go_num, ?_⟩, by simp [intOf]; omega⟩
            rw [HT.out, HP.out, if_neg hk0, HL.out]; rfl
        · go_wp2
          go_ret
          exact ⟨ret_bool (by have := HP.out; rw [take_all _ _ (by omega)] at this; rw [HV.out, this, HB.out]; rfl), rfl⟩
theorem key_no {s : ByteArray} (h : keyW.contains s.data.toList = false) : ∀ l ∈ keyW, (s.toList == l) = false := by
  intro l hl
  rw [beq_eq_false_iff_ne, ByteArray.toList_eq]
  rintro rfl
  rw [← Bool.not_eq_true, List.contains_iff_mem] at h
  exact h hl
theorem key_yes {s : ByteArray} (h : keyW.contains s.data.toList = true) : s.toList ∈ keyW := by
  rw [ByteArray.toList_eq]; exact List.contains_iff_mem.1 h
set_option maxHeartbeats 1600000 in
theorem l2Symbol_any (s : ByteArray) (w : World) (hs : s.size ≤ maxLen) :
    Calls Tryz.prog 78 #[.string s] w fun e w' => e = .returned (.bool (symB s.data.toList)) ∧ w = w' := by
  unfold maxLen at hs
  have HV := Lib.hid (symB_eq s)
  cases hB : inB (s.size : Int) 1 6
  · have HB := Lib.hid hB
    go_enter Tryz.func78, Tryz.ntmps78
    go_wp2_with (first | (go_at_call 136; refine (l1In_any _ _ _ _).mono ?_; rintro e w' ⟨rfl, rfl⟩))
    go_ret
    exact ⟨ret_bool (by rw [HV.out, HB.out]; rfl), rfl⟩
  · have HB := Lib.hid hB
    have hsz : 0 < s.size := by simp only [inB, Bool.and_eq_true, decide_eq_true_eq] at hB; omega
    have H0 := Lib.hid (headTail_take loC unC s 0 hsz)
    have HN0 := Lib.hid (headTail_no loC unC s 0 hsz)
    cases hU : loC s[0]
    · have HU := Lib.hid hU
      have hor : (s[0].toNat : Int) < 97 ∨ 122 < (s[0].toNat : Int) := by
        have := (not_congr (loC_iff s[0])).1 (by rw [hU]; simp)
        omega
      rcases hor with h1 | h1
      · go_enter Tryz.func78, Tryz.ntmps78
        go_wp2_with (first | (go_at_call 136; refine (l1In_any _ _ _ _).mono ?_; rintro e w' ⟨rfl, rfl⟩))
        go_ret
        exact ⟨ret_bool (by rw [HV.out, HN0.out (by simpa using HU.out)]; simp), rfl⟩
      · have h2 : ¬ (s[0].toNat : Int) < 97 := by omega
        go_enter Tryz.func78, Tryz.ntmps78
        go_wp2_with (first | (go_at_call 136; refine (l1In_any _ _ _ _).mono ?_; rintro e w' ⟨rfl, rfl⟩))
        go_ret
        exact ⟨ret_bool (by rw [HV.out, HN0.out (by simpa using HU.out)]; simp), rfl⟩
    · have HU := Lib.hid hU
      obtain ⟨h1, h2⟩ := (loC_iff s[0]).1 hU
      cases hK : keyW.contains s.data.toList
      · have HK := Lib.hid hK
        have k0 : (s.toList == [116, 114, 117, 101]) = false := key_no HK.out _ (by decide)
        have k1 : (s.toList == [102, 97, 108, 115, 101]) = false := key_no HK.out _ (by decide)
        have k2 : (s.toList == [116, 114, 117, 116, 104]) = false := key_no HK.out _ (by decide)
        have k3 : (s.toList == [98, 111, 116, 104]) = false := key_no HK.out _ (by decide)
        have k4 : (s.toList == [101, 105, 116, 104, 101, 114]) = false := key_no HK.out _ (by decide)
        have k5 : (s.toList == [105, 102]) = false := key_no HK.out _ (by decide)
        have k6 : (s.toList == [97, 108, 108]) = false := key_no HK.out _ (by decide)
        have k7 : (s.toList == [115, 111, 109, 101]) = false := key_no HK.out _ (by decide)
        go_enter Tryz.func78, Tryz.ntmps78
        go_wp2_with (first | (go_at_call 136; refine (l1In_any _ _ _ _).mono ?_; rintro e w' ⟨rfl, rfl⟩))
        go_loop [3] (fun i => ∃ k : Nat, 1 ≤ k ∧ k ≤ s.size ∧ i = .int .i64 k ∧ headTail loC unC (s.data.toList.take k) = true) (fun i => s.size - (intOf i).toNat)
        case atStart => exact ⟨1, by omega, by omega, rfl, by rw [H0.out]; simp [HU.out, headTail]⟩
        case round =>
          obtain ⟨k, hk1, hk, rfl, hp⟩ := hrel
          have HP := Lib.hid hp; clear hp
          by_cases hlt : k < s.size
          · have HT := Lib.hid (headTail_take loC unC s k hlt)
            have HN := Lib.hid (headTail_no loC unC s k hlt)
            have hk0 : ¬ k = 0 := by omega
            have HUN := Lib.hid (show unC s[k] = (smC s[k] || (s[k] == 95)) from rfl)
            cases hL : smC s[k]
            · have HL := Lib.hid hL
              by_cases h9 : s[k] = 95
              · have H9 := Lib.hid h9
                have h91 : ((s[k].toNat : Int) != 95) = false := by rw [h9]; rfl
                clear h9
                go_wp2_with (first | (go_at_call 137; refine (l2Small_any _ _).mono ?_; rintro e w' ⟨rfl, rfl⟩))
                refine ⟨⟨k + 1, by omega, by omega, by go_num, ?_⟩, by simp [intOf]; omega⟩
                rw [HT.out, HP.out, if_neg hk0, HUN.out, H9.out]; rfl
              · have H9 := Lib.hid (show (s[k] == 95) = false by simpa using h9)
                have h91 : ((s[k].toNat : Int) != 95) = true := by
                  have h9n : ¬ (s[k].toNat : Int) = 95 := fun e => h9 (UInt8.toNat_inj.1 (show s[k].toNat = 95 by omega))
                  simpa using h9n
                clear h9
                go_wp2_with (first | (go_at_call 137; refine (l2Small_any _ _).mono ?_; rintro e w' ⟨rfl, rfl⟩))
                go_ret
                exact ⟨ret_bool (by rw [HV.out, HN.out (by rw [if_neg hk0, HUN.out, HL.out, H9.out]; rfl)]; simp), rfl⟩
            · have HL := Lib.hid hL
              go_wp2_with (first | (go_at_call 137; refine (l2Small_any _ _).mono ?_; rintro e w' ⟨rfl, rfl⟩))
              refine ⟨⟨k + 1, by omega, by omega, by go_num, ?_⟩, by simp [intOf]; omega⟩
              rw [HT.out, HP.out, if_neg hk0, HUN.out, HL.out]; rfl
          · go_wp2
            go_ret
            exact ⟨ret_bool (by have := HP.out; rw [take_all _ _ (by omega)] at this; rw [HV.out, this, HB.out, HK.out]; rfl), rfl⟩
      · have HK := Lib.hid hK
        have hmem := key_yes hK
        simp only [keyW, List.mem_cons, List.not_mem_nil, or_false] at hmem
        rcases hmem with h | h | h | h | h | h | h | h
        all_goals
          go_enter Tryz.func78, Tryz.ntmps78
          go_wp2_with (first | (go_at_call 136; refine (l1In_any _ _ _ _).mono ?_; rintro e w' ⟨rfl, rfl⟩))
          go_ret
          exact ⟨ret_bool (by rw [HV.out, HK.out]; simp), rfl⟩
end Go.Proofs.YtkgfanajgdelcaaGreatDoor
