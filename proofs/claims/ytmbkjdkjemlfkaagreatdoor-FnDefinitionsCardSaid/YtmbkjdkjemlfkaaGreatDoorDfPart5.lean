import Derived.Test.YtmbkjdkjemlfkaaGreatDoorDfPart4
namespace Go.Proofs.YtmbkjdkjemlfkaaGreatDoor
set_option maxRecDepth 100000
open Go.RowKit
theorem agg2_cells {w w' : World} {g k : Nat} {x y : Value} {t : TypeId} (hg : (w.alloc (.cells #[x, y] t)).grownBy w' (some g)) (hk : k = w.heap.size) (hne : k ≠ g) : w'.cell? ⟨k, 0, none⟩ = some x ∧ w'.cell? ⟨k, 1, none⟩ = some y ∧ (∀ j, w'.frozen? ⟨k, j, none⟩ = false) := by
  subst hk
  exact row2_at ((hg.block w.heap.size (by simp) (by simpa using hne)).trans (heap_alloc_new w _))
set_option maxHeartbeats 1600000 in
theorem term_any' (g m : Nat) (w : World) (h : Cur w g m) (hm : m + 34 ≤ 1000000000) :
    Calls Tryz.prog 109 #[.pointer (some ⟨g, 0, none⟩)] w (StepO g m 30 (fun w' v => GT 3 13 (NewB w w') w' v) w) := by
  have hlt := h.lt
  have H := Lib.hid h
  have hne : w.heap.size ≠ g := by omega
  clear h
  go_enter Tryz.func109, Tryz.ntmps109
  go_wp2_with fail
  refine (pick_any g m 3 _ (H.out.al _) (by omega) (by omega) (by omega)).mono ?_
  rintro e w1 ⟨_, rfl, ⟨r, rfl, hr0, hr1⟩, hc1, hg1⟩
  have HC1 := Lib.hid hc1
  clear hc1
  have ⟨c1, f1⟩ := gcell hg1
  have hz1 := hg1.size
  (try simp at hz1)
  go_wp2_with fail
  refine (grown_any g 2 (m + 2) (1 + r) _ HC1.out (by omega) (by omega) (by omega) (by omega)).mono ?_
  rintro e w2 ⟨_, rfl, ht, hc2, hg2⟩
  have HC2 := Lib.hid hc2
  clear hc2
  have ⟨c2, f2⟩ := gcell hg2
  have hz2 := hg2.size
  (try simp at hz2)
  obtain ⟨s3, p3, k3, e3, rfl, -⟩ := ht.form
  have ⟨r0, r1, rf⟩ := agg2_cells (gr_trans hg1 hg2) rfl hne
  have HA := Lib.hid (gr_trans (gr_trans (gr_al (gr_refl w g) _) hg1) hg2)
  have HT := Lib.hid ht
  have z01 := bsz (show w.heap.size < w2.heap.size by omega)
  have HZ := Lib.hid (show w.heap.size < w1.heap.size ∧ w1.heap.size ≤ w2.heap.size by omega)
  clear hg1 hg2 c1 f1 c2 f2 ht
  go_wp2_with fail
  refine bodyPost_ret (v := .agg #[.string s3, .slice p3 k3 e3]) (by simp only [results, Tryz.results109]; go_simp) rfl ⟨_, rfl, HT.out.mono (Nat.le_refl _) (by decide) (((SameOn.refl _ _).sc ?_ _).sc ?_ _) ?_, ?_, ?_⟩
  · intro b hb e; have := HZ.out; unfold NewB at hb; simp at e; omega
  · intro b hb e; have := HZ.out; unfold NewB at hb; simp at e; omega
  · intro b hb; have := HZ.out; unfold NewB at hb ⊢; simp; omega
  · exact (((HC2.out.more (by omega) (by omega)).sc hlt _).sc hlt _)
  · exact gr_sc (gr_sc HA.out (.inr (Nat.le_refl _)) _) (.inr (Nat.le_refl _)) _
set_option maxHeartbeats 1600000 in
theorem atom_any (g m : Nat) (w : World) (h : Cur w g m) (hm : m + 70 ≤ 1000000000) :
    Calls Tryz.prog 133 #[.pointer (some ⟨g, 0, none⟩)] w (StepO g m 62 (fun w' v => GT 4 29 (NewB w w') w' v) w) := by
  have hlt := h.lt
  have H := Lib.hid h
  have hne : w.heap.size ≠ g := by omega
  clear h
  go_enter Tryz.func133, Tryz.ntmps133
  go_wp2_with fail
  refine (pick_any g m 8 _ (H.out.al _) (by omega) (by omega) (by omega)).mono ?_
  rintro e w1 ⟨_, rfl, ⟨r, rfl, hr0, hr1⟩, hc1, hg1⟩
  have HC1 := Lib.hid hc1
  clear hc1
  have ⟨c1, f1⟩ := gcell hg1
  have hz1 := hg1.size
  (try simp at hz1)
  rcases (by omega : r = 0 ∨ r = 1 ∨ r = 2 ∨ r = 3 ∨ r = 4 ∨ (4 < r ∧ r ≤ 7)) with rfl | rfl | rfl | rfl | rfl | ⟨hra, hrb⟩
  · go_wp2_with fail
    refine (term_any' g (m + 2) _ HC1.out (by omega)).mono ?_
    rintro e w2 ⟨_, rfl, ht3, hc2, hg2⟩
    have HC2 := Lib.hid hc2
    clear hc2
    have ⟨c2, f2⟩ := gcell hg2
    have hz2 := hg2.size
    (try simp at hz2)
    obtain ⟨s3, p3, k3, e3, rfl, -⟩ := ht3.form
    have HT3 := Lib.hid ht3
    clear ht3
    go_wp2_with fail
    refine (term_any' g (m + 2 + 30) _ HC2.out (by omega)).mono ?_
    rintro e w3 ⟨_, rfl, ht4, hc3, hg3⟩
    have HC3 := Lib.hid hc3
    clear hc3
    have ⟨c3, f3⟩ := gcell hg3
    have hz3 := hg3.size
    (try simp at hz3)
    obtain ⟨s4, p4, k4, e4, rfl, -⟩ := ht4.form
    have HT4 := Lib.hid ht4
    have HT3' := Lib.hid (HT3.out.mono (Nat.le_refl _) (Nat.le_refl _) (sameOn_grown hg3 (fun b hb => by have := hb.1; omega)) (fun _ h => h))
    have ⟨r0, r1, rf⟩ := row2_at (((gr_trans (gr_trans hg1 hg2) hg3).block w.heap.size (by simp) (by simpa using hne)).trans (heap_alloc_new w _))
    have z01 := bsz (show w.heap.size < w3.heap.size by omega)
    have HA := Lib.hid (gr_trans (gr_trans (gr_trans (gr_al (gr_refl w g) _) hg1) hg2) hg3)
    have HZ := Lib.hid (show w.heap.size < w1.heap.size ∧ w1.heap.size ≤ w2.heap.size ∧ w2.heap.size ≤ w3.heap.size by omega)
    clear hg1 hg2 hg3 c1 f1 c2 f2 c3 f3 HT3 ht4
    go_wp2_with fail
    have hN : (⟨#[61]⟩ : ByteArray).size = 1 := rfl
    refine bodyPost_ret (v := .agg #[.string ⟨#[61]⟩, .slice (some ⟨w3.heap.size, 0, none⟩) 2 2]) (by simp only [results, Tryz.results133]; go_simp) rfl ⟨_, rfl, GT.mono (GT.two (W' := 29) (S := NewB w1 w2) (T := NewB w2 w3) (HT3'.out.mono (Nat.le_refl _) (Nat.le_refl _) (((SameOn.refl _ _).sc ?_ _).sc ?_ _) (fun _ h => h)) (HT4.out.mono (Nat.le_refl _) (Nat.le_refl _) (((SameOn.refl _ _).sc ?_ _).sc ?_ _) (fun _ h => h)) (by simp) (by decide) ?_ ?_ ?_ ?_ ?_ ?_ (by omega)) (by omega) (by omega) (SameOn.refl _ _) (fun _ h => h), ?_, ?_⟩
    all_goals first
      | exact ((((HC3.out.more (by omega) (by omega)).sc hlt _).sc hlt _).al _)
      | exact gr_al (gr_sc (gr_sc HA.out (.inr (Nat.le_refl _)) _) (.inr (Nat.le_refl _)) _) _
      | (intro b hb e; have := HZ.out; unfold NewB at hb; simp at e; omega)
      | (intro b hb; have := HZ.out; unfold NewB at hb ⊢; simp; omega)
      | (have := HZ.out; unfold NewB; simp; omega)
      | (intro b hb; exact hb.2)
      | (intro b hb; have := hb.2; have := HZ.out; omega)
      | (intro b hb hb'; have := hb.2; have := hb'.1; omega)
  · go_wp2_with fail
    refine (term_any' g (m + 2) _ HC1.out (by omega)).mono ?_
    rintro e w2 ⟨_, rfl, ht3, hc2, hg2⟩
    have HC2 := Lib.hid hc2
    clear hc2
    have ⟨c2, f2⟩ := gcell hg2
    have hz2 := hg2.size
    (try simp at hz2)
    obtain ⟨s3, p3, k3, e3, rfl, -⟩ := ht3.form
    have HT3 := Lib.hid ht3
    clear ht3
    go_wp2_with fail
    refine (term_any' g (m + 2 + 30) _ HC2.out (by omega)).mono ?_
    rintro e w3 ⟨_, rfl, ht4, hc3, hg3⟩
    have HC3 := Lib.hid hc3
    clear hc3
    have ⟨c3, f3⟩ := gcell hg3
    have hz3 := hg3.size
    (try simp at hz3)
    obtain ⟨s4, p4, k4, e4, rfl, -⟩ := ht4.form
    have HT4 := Lib.hid ht4
    have HT3' := Lib.hid (HT3.out.mono (Nat.le_refl _) (Nat.le_refl _) (sameOn_grown hg3 (fun b hb => by have := hb.1; omega)) (fun _ h => h))
    have ⟨r0, r1, rf⟩ := row2_at (((gr_trans (gr_trans hg1 hg2) hg3).block w.heap.size (by simp) (by simpa using hne)).trans (heap_alloc_new w _))
    have z01 := bsz (show w.heap.size < w3.heap.size by omega)
    have HA := Lib.hid (gr_trans (gr_trans (gr_trans (gr_al (gr_refl w g) _) hg1) hg2) hg3)
    have HZ := Lib.hid (show w.heap.size < w1.heap.size ∧ w1.heap.size ≤ w2.heap.size ∧ w2.heap.size ≤ w3.heap.size by omega)
    clear hg1 hg2 hg3 c1 f1 c2 f2 c3 f3 HT3 ht4
    go_wp2_with fail
    have hN : (⟨#[61]⟩ : ByteArray).size = 1 := rfl
    refine bodyPost_ret (v := .agg #[.string ⟨#[61]⟩, .slice (some ⟨w3.heap.size, 0, none⟩) 2 2]) (by simp only [results, Tryz.results133]; go_simp) rfl ⟨_, rfl, GT.mono (GT.two (W' := 29) (S := NewB w1 w2) (T := NewB w2 w3) (HT3'.out.mono (Nat.le_refl _) (Nat.le_refl _) (((SameOn.refl _ _).sc ?_ _).sc ?_ _) (fun _ h => h)) (HT4.out.mono (Nat.le_refl _) (Nat.le_refl _) (((SameOn.refl _ _).sc ?_ _).sc ?_ _) (fun _ h => h)) (by simp) (by decide) ?_ ?_ ?_ ?_ ?_ ?_ (by omega)) (by omega) (by omega) (SameOn.refl _ _) (fun _ h => h), ?_, ?_⟩
    all_goals first
      | exact ((((HC3.out.more (by omega) (by omega)).sc hlt _).sc hlt _).al _)
      | exact gr_al (gr_sc (gr_sc HA.out (.inr (Nat.le_refl _)) _) (.inr (Nat.le_refl _)) _) _
      | (intro b hb e; have := HZ.out; unfold NewB at hb; simp at e; omega)
      | (intro b hb; have := HZ.out; unfold NewB at hb ⊢; simp; omega)
      | (have := HZ.out; unfold NewB; simp; omega)
      | (intro b hb; exact hb.2)
      | (intro b hb; have := hb.2; have := HZ.out; omega)
      | (intro b hb hb'; have := hb.2; have := hb'.1; omega)
  · have ⟨r0, r1, rf⟩ := agg2_cells hg1 rfl hne
    have z01 := bsz (show w.heap.size < w1.heap.size by omega)
    have HA := Lib.hid (gr_trans (gr_al (gr_refl w g) _) hg1)
    have hN : (⟨#[114]⟩ : ByteArray).size ≤ 1 := Nat.le_refl _
    clear hg1 c1 f1
    go_wp2_with fail
    refine bodyPost_ret (v := .agg #[.string ⟨#[114]⟩, .slice none 0 0]) (by simp only [results, Tryz.results133]; go_simp) rfl ⟨_, rfl, (GT.leaf (W := 1) _ _ _ hN (by decide)).mono (by omega) (by omega) (SameOn.refl _ _) (fun _ h => h), ?_, ?_⟩
    · exact ((HC1.out.more (by omega) (by omega)).sc hlt _).sc hlt _
    · exact gr_sc (gr_sc HA.out (.inr (Nat.le_refl _)) _) (.inr (Nat.le_refl _)) _
  · go_wp2_with fail
    refine (grown_any g 1 (m + 2) 2 _ HC1.out (by omega) (by omega) (by omega) (by omega)).mono ?_
    rintro e w2 ⟨_, rfl, ht3, hc2, hg2⟩
    have HC2 := Lib.hid hc2
    clear hc2
    have ⟨c2, f2⟩ := gcell hg2
    have hz2 := hg2.size
    (try simp at hz2)
    obtain ⟨s3, p3, k3, e3, rfl, -⟩ := ht3.form
    have HT3 := Lib.hid ht3
    clear ht3
    go_wp2_with fail
    refine (grown_any g 1 (m + 2 + (4 * 2 ^ (1 + 1) - 4)) 2 _ HC2.out (by omega) (by omega) (by omega) (by omega)).mono ?_
    rintro e w3 ⟨_, rfl, ht4, hc3, hg3⟩
    have HC3 := Lib.hid hc3
    clear hc3
    have ⟨c3, f3⟩ := gcell hg3
    have hz3 := hg3.size
    (try simp at hz3)
    obtain ⟨s4, p4, k4, e4, rfl, -⟩ := ht4.form
    have HT4 := Lib.hid ht4
    have HT3' := Lib.hid (HT3.out.mono (Nat.le_refl _) (Nat.le_refl _) (sameOn_grown hg3 (fun b hb => by have := hb.1; omega)) (fun _ h => h))
    have ⟨r0, r1, rf⟩ := row2_at (((gr_trans (gr_trans hg1 hg2) hg3).block w.heap.size (by simp) (by simpa using hne)).trans (heap_alloc_new w _))
    have z01 := bsz (show w.heap.size < w3.heap.size by omega)
    have HA := Lib.hid (gr_trans (gr_trans (gr_trans (gr_al (gr_refl w g) _) hg1) hg2) hg3)
    have HZ := Lib.hid (show w.heap.size < w1.heap.size ∧ w1.heap.size ≤ w2.heap.size ∧ w2.heap.size ≤ w3.heap.size by omega)
    clear hg1 hg2 hg3 c1 f1 c2 f2 c3 f3 HT3 ht4
    go_wp2_with fail
    have hN : (⟨#[113]⟩ : ByteArray).size = 1 := rfl
    refine bodyPost_ret (v := .agg #[.string ⟨#[113]⟩, .slice (some ⟨w3.heap.size, 0, none⟩) 2 2]) (by simp only [results, Tryz.results133]; go_simp) rfl ⟨_, rfl, GT.mono (GT.two (W' := 15) (S := NewB w1 w2) (T := NewB w2 w3) (HT3'.out.mono (Nat.le_refl _) (Nat.le_refl _) (((SameOn.refl _ _).sc ?_ _).sc ?_ _) (fun _ h => h)) (HT4.out.mono (Nat.le_refl _) (Nat.le_refl _) (((SameOn.refl _ _).sc ?_ _).sc ?_ _) (fun _ h => h)) (by simp) (by decide) ?_ ?_ ?_ ?_ ?_ ?_ (by omega)) (by omega) (by omega) (SameOn.refl _ _) (fun _ h => h), ?_, ?_⟩
    all_goals first
      | exact ((((HC3.out.more (by omega) (by omega)).sc hlt _).sc hlt _).al _)
      | exact gr_al (gr_sc (gr_sc HA.out (.inr (Nat.le_refl _)) _) (.inr (Nat.le_refl _)) _) _
      | (intro b hb e; have := HZ.out; unfold NewB at hb; simp at e; omega)
      | (intro b hb; have := HZ.out; unfold NewB at hb ⊢; simp; omega)
      | (have := HZ.out; unfold NewB; simp; omega)
      | (intro b hb; exact hb.2)
      | (intro b hb; have := hb.2; have := HZ.out; omega)
      | (intro b hb hb'; have := hb.2; have := hb'.1; omega)
  · go_wp2_with fail
    refine (grown_any g 1 (m + 2) 2 _ HC1.out (by omega) (by omega) (by omega) (by omega)).mono ?_
    rintro e w2 ⟨_, rfl, ht3, hc2, hg2⟩
    have HC2 := Lib.hid hc2
    clear hc2
    have ⟨c2, f2⟩ := gcell hg2
    have hz2 := hg2.size
    (try simp at hz2)
    obtain ⟨s3, p3, k3, e3, rfl, -⟩ := ht3.form
    have HT3 := Lib.hid ht3
    clear ht3
    go_wp2_with fail
    refine (grown_any g 1 (m + 2 + (4 * 2 ^ (1 + 1) - 4)) 2 _ HC2.out (by omega) (by omega) (by omega) (by omega)).mono ?_
    rintro e w3 ⟨_, rfl, ht4, hc3, hg3⟩
    have HC3 := Lib.hid hc3
    clear hc3
    have ⟨c3, f3⟩ := gcell hg3
    have hz3 := hg3.size
    (try simp at hz3)
    obtain ⟨s4, p4, k4, e4, rfl, -⟩ := ht4.form
    have HT4 := Lib.hid ht4
    have HT3' := Lib.hid (HT3.out.mono (Nat.le_refl _) (Nat.le_refl _) (sameOn_grown hg3 (fun b hb => by have := hb.1; omega)) (fun _ h => h))
    have ⟨r0, r1, rf⟩ := row2_at (((gr_trans (gr_trans hg1 hg2) hg3).block w.heap.size (by simp) (by simpa using hne)).trans (heap_alloc_new w _))
    have z01 := bsz (show w.heap.size < w3.heap.size by omega)
    have HA := Lib.hid (gr_trans (gr_trans (gr_trans (gr_al (gr_refl w g) _) hg1) hg2) hg3)
    have HZ := Lib.hid (show w.heap.size < w1.heap.size ∧ w1.heap.size ≤ w2.heap.size ∧ w2.heap.size ≤ w3.heap.size by omega)
    clear hg1 hg2 hg3 c1 f1 c2 f2 c3 f3 HT3 ht4
    go_wp2_with fail
    have hN : (⟨#[113]⟩ : ByteArray).size = 1 := rfl
    refine bodyPost_ret (v := .agg #[.string ⟨#[113]⟩, .slice (some ⟨w3.heap.size, 0, none⟩) 2 2]) (by simp only [results, Tryz.results133]; go_simp) rfl ⟨_, rfl, GT.mono (GT.two (W' := 15) (S := NewB w1 w2) (T := NewB w2 w3) (HT3'.out.mono (Nat.le_refl _) (Nat.le_refl _) (((SameOn.refl _ _).sc ?_ _).sc ?_ _) (fun _ h => h)) (HT4.out.mono (Nat.le_refl _) (Nat.le_refl _) (((SameOn.refl _ _).sc ?_ _).sc ?_ _) (fun _ h => h)) (by simp) (by decide) ?_ ?_ ?_ ?_ ?_ ?_ (by omega)) (by omega) (by omega) (SameOn.refl _ _) (fun _ h => h), ?_, ?_⟩
    all_goals first
      | exact ((((HC3.out.more (by omega) (by omega)).sc hlt _).sc hlt _).al _)
      | exact gr_al (gr_sc (gr_sc HA.out (.inr (Nat.le_refl _)) _) (.inr (Nat.le_refl _)) _) _
      | (intro b hb e; have := HZ.out; unfold NewB at hb; simp at e; omega)
      | (intro b hb; have := HZ.out; unfold NewB at hb ⊢; simp; omega)
      | (have := HZ.out; unfold NewB; simp; omega)
      | (intro b hb; exact hb.2)
      | (intro b hb; have := hb.2; have := HZ.out; omega)
      | (intro b hb hb'; have := hb.2; have := hb'.1; omega)
  · have e0 : (r == 0) = false := by simp; omega
    have e1 : (r == 1) = false := by simp; omega
    have e2 : (r == 2) = false := by simp; omega
    have e3 : (r == 3) = false := by simp; omega
    have e4 : (r == 4) = false := by simp; omega
    go_wp2_with fail
    refine (grown_any g 1 (m + 2) 2 _ HC1.out (by omega) (by omega) (by omega) (by omega)).mono ?_
    rintro e w2 ⟨_, rfl, ht3, hc2, hg2⟩
    have HC2 := Lib.hid hc2
    clear hc2
    have ⟨c2, f2⟩ := gcell hg2
    have hz2 := hg2.size
    (try simp at hz2)
    obtain ⟨s3, p3, k3, c3, rfl, -⟩ := ht3.form
    have ⟨r0, r1, rf⟩ := agg2_cells (gr_trans hg1 hg2) rfl hne
    have HT := Lib.hid ht3
    have z01 := bsz (show w.heap.size < w2.heap.size by omega)
    have HA := Lib.hid (gr_trans (gr_trans (gr_al (gr_refl w g) _) hg1) hg2)
    have HZ := Lib.hid (show w.heap.size < w1.heap.size ∧ w1.heap.size ≤ w2.heap.size by omega)
    clear hg1 hg2 c1 f1 c2 f2 ht3
    go_wp2_with fail
    have hN : (⟨#[112]⟩ : ByteArray).size = 1 := rfl
    refine bodyPost_ret (v := .agg #[.string ⟨#[112]⟩, .slice (some ⟨w2.heap.size, 0, none⟩) 1 1]) (by simp only [results, Tryz.results133]; go_simp) rfl ⟨_, rfl, GT.mono (GT.one (W' := 7) (S := NewB w1 w2) (HT.out.mono (Nat.le_refl _) (Nat.le_refl _) (((SameOn.refl _ _).sc ?_ _).sc ?_ _) (fun _ h => h)) (by simp) (by decide) ?_ ?_ ?_ (by omega)) (by omega) (by omega) (SameOn.refl _ _) (fun _ h => h), ?_, ?_⟩
    all_goals first
      | exact ((((HC2.out.more (by omega) (by omega)).sc hlt _).sc hlt _).al _)
      | exact gr_al (gr_sc (gr_sc HA.out (.inr (Nat.le_refl _)) _) (.inr (Nat.le_refl _)) _) _
      | (intro b hb e; have := HZ.out; unfold NewB at hb; simp at e; omega)
      | (intro b hb; have := HZ.out; unfold NewB at hb ⊢; simp; omega)
      | (have := HZ.out; unfold NewB; simp; omega)
      | (intro b hb; exact hb.2)
theorem block2_all {w : World} {g : Nat} {x y x' y' : Value} {t : TypeId} (h : w.heap[g]? = some (.cells #[x, y] t (0, 0))) :
    ((w.setCell ⟨g, 0, none⟩ x').setCell ⟨g, 1, none⟩ y').heap[g]? = some (.cells #[x', y'] t (0, 0)) := by
  have h1 := heap_setCell_same w g 0 #[x, y] t x' h
  have h2 := heap_setCell_same _ g 1 _ t y' h1
  simpa using h2
theorem block2_other {w : World} {g b : Nat} {x' y' : Value} (hb : b ≠ g) : ((w.setCell ⟨g, 0, none⟩ x').setCell ⟨g, 1, none⟩ y').heap[b]? = w.heap[b]? :=
  (heap_setCell_other _ ⟨g, 1, none⟩ b _ (fun e => hb e)).trans (heap_setCell_other _ ⟨g, 0, none⟩ b _ (fun e => hb e))
def TowRel (g m R B : Nat) (d0 : Int) (w : World) (v : Value) (wr : World) : Prop :=
  ∃ (n : Nat) (s : ByteArray) (p : Option Addr) (k c : Nat), n ≤ 9 ∧ ((n : Int) = 0 ∨ (n : Int) ≤ d0 - 1) ∧ v = .int .i64 (d0 - n) ∧ Cur wr g m ∧ w.grownBy wr (some g) ∧ wr.heap[R]? = some (.cells #[.string ⟨#[]⟩, .slice none 0 0] 26 (0, 0)) ∧
    wr.heap[B]? = some (.cells #[.string s, .slice p k c] 26 (0, 0)) ∧ GT (n + 1) (1 + 2 * n) (fun b => B < b ∧ b < wr.heap.size) wr (.agg #[.string s, .slice p k c])
set_option maxHeartbeats 1600000 in
theorem tower_any (g m : Nat) (d0 : Int) (w : World) (h : Cur w g m) (hm : m + 10 ≤ 1000000000) (hd : -1000 ≤ d0 ∧ d0 ≤ 10) :
    Calls Tryz.prog 110 #[.pointer (some ⟨g, 0, none⟩), .int .i64 d0] w (StepO g m 2 (fun w' v => GT 10 19 (NewB w w') w' v) w) := by
  have hlt := h.lt
  have H := Lib.hid h
  have hne : w.heap.size ≠ g := by omega
  clear h
  go_enter Tryz.func110, Tryz.ntmps110
  go_wp2_with fail
  refine (of_lit g m 1 2 (w.heap.size + 1) _ _ _ (by rfl) (by simp) (H.out.al _) (by omega) (by decide) (by decide) (by intro v hv; simp at hv; rcases hv with rfl | rfl <;> exact ⟨_, rfl, by decide⟩)).mono ?_
  rintro e w1 ⟨_, rfl, ⟨s1, rfl, hs1⟩, hc1, hg1⟩
  have HC1 := Lib.hid hc1
  clear hc1
  have ⟨c1, f1⟩ := gcell hg1
  have hz1 := hg1.size
  (try simp at hz1)
  have hR := (hg1.block w.heap.size (by simp; omega) (by simp; omega)).trans ((hao _ _ _ (by simp)).trans (heap_alloc_new w _))
  have hz01 : w.heap.size < w1.heap.size := by omega
  have HG1 := Lib.hid (gr_trans (gr_al (gr_al (gr_refl w g) _) _) hg1)
  have HS1 := Lib.hid (And.intro hs1 hR)
  clear hg1 c1 f1 hR hs1
  go_wp2_with fail
  go_loopw [1] (TowRel g (m + 2) w.heap.size w1.heap.size d0 w) (fun d _ => (intOf d).toNat)
  case atStart =>
    refine ⟨0, s1, none, 0, 0, by omega, .inl rfl, by simp, HC1.out.al _, gr_al HG1.out _, (hao _ _ _ hz01).trans HS1.out.2, heap_alloc_new _ _, GT.leaf _ _ _ HS1.out.1 (by decide)⟩
  case round =>
    obtain ⟨n, s, p, k, c, hn, hn2, rfl, hc, hgr, hR, hB, ht⟩ := hrel
    have ⟨r0, r1, rf⟩ := row2_at hR
    have ⟨b0, b1, bf⟩ := row2_at hB
    have zB := bsz (lt_of_block hB)
    have zR := bsz (lt_of_block hR)
    have HX := Lib.hid (And.intro hR hB)
    have HC := Lib.hid hc
    have HG := Lib.hid hgr
    have HT := Lib.hid ht
    clear hc hgr hR hB ht
    by_cases hlt1 : 1 < d0 - n
    · go_wp2_with fail
      have hN : (⟨#[102]⟩ : ByteArray).size = 1 := rfl
      have hzR := lt_of_block HX.out.1
      have hzB := lt_of_block HX.out.2
      refine ⟨⟨n + 1, _, _, _, _, by omega, .inr (by omega), by go_num, ((HC.out.sc (by show g < w1.heap.size; omega) _).sc (by show g < w1.heap.size; omega) _).al _, gr_al (gr_sc (gr_sc HG.out (.inr (by show w.heap.size ≤ w1.heap.size; omega)) _) (.inr (by show w.heap.size ≤ w1.heap.size; omega)) _) _,
        (hao _ _ _ (by simpa using hzR)).trans ((block2_other (by omega)).trans HX.out.1), (hao _ _ _ (by simpa using hzB)).trans (block2_all HX.out.2), GT.one (S := fun b => w1.heap.size < b ∧ b < wr.heap.size) (HT.out.mono (Nat.le_refl _) (Nat.le_refl _) (((SameOn.refl _ _).sc ?_ _).sc ?_ _) (fun _ h => h)) (by simp) (by decide) (fun b hb => hb.2) ?_ ?_ (by omega)⟩, by simp [intOf]; omega⟩
      · intro b hb e; simp at e; omega
      · intro b hb e; simp at e; omega
      · intro b hb; simp; omega
      · simp; omega
    · go_wp2_with fail
      refine bodyPost_ret (v := .agg #[.string s, .slice p k c]) (by simp only [results, Tryz.results110]; go_simp) rfl ⟨_, rfl, HT.out.mono (by omega) (by omega) (((SameOn.refl _ _).sc ?_ _).sc ?_ _) ?_, ?_, ?_⟩
      · intro b hb e; simp at e; omega
      · intro b hb e; simp at e; omega
      · intro b hb; unfold NewB; simp; omega
      · exact (HC.out.sc hlt _).sc hlt _
      · exact gr_sc (gr_sc HG.out (.inr (Nat.le_refl _)) _) (.inr (Nat.le_refl _)) _
inductive FormC : Fm → Prop
  | tru : FormC (opF 1 [])
  | fal : FormC (opF 2 [])
  | atm (a : Tm) : a.atom = true → FormC (atomOfF a)
  | neg (g : Fm) : g.form = true → FormC (opF 4 [g])
  | bin (op : Int) (g h : Fm) : (op = 5 ∨ op = 6 ∨ op = 7) → g.form = true → h.form = true → FormC (opF op [g, h])
  | qua (op : Int) (v : List UInt8) (g : Fm) : (op = 8 ∨ op = 9) → varB v = true → g.form = true → FormC (quantF op v g)
theorem ba_nil {v : ByteArray} (h : v.data.toList.isEmpty = true) : v = ⟨#[]⟩ := by
  apply ByteArray.ext; apply Array.ext'; simpa using h
theorem ba_eq (v : ByteArray) : (⟨v.data.toList.toArray⟩ : ByteArray) = v := by apply ByteArray.ext; simp
theorem tm_none {a : Tm} (h : a.none = true) : a = tm0 := by
  obtain ⟨n, us⟩ := a
  simp only [Tm.none, Bool.and_eq_true] at h
  have h1 : n = ⟨#[]⟩ := ba_nil h.1
  have h2 : us = [] := by simpa [Tm.us] using h.2
  rw [h1, h2]; rfl
theorem len_one {α : Type} {l : List α} (h : l.length = 1) : ∃ a, l = [a] := by
  match l, h with
  | [a], _ => exact ⟨a, rfl⟩
theorem len_two {α : Type} {l : List α} (h : l.length = 2) : ∃ a b, l = [a, b] := by
  match l, h with
  | [a, b], _ => exact ⟨a, b, rfl⟩
theorem form_cases {F : Fm} (h : F.form = true) : FormC F := by
  obtain ⟨op, a, v, ps⟩ := F
  rw [Fm.form, Bool.and_eq_true] at h
  obtain ⟨h1, h2⟩ := h
  simp only [Fm.form1, Fm.op, Fm.ps, Fm.v, Fm.a, Bool.and_eq_true, beq_iff_eq] at h1
  obtain ⟨⟨h3, h4⟩, h5⟩ := h1
  unfold arity at h3
  split at h3
  · rename_i ho
    have hp : ps = [] := List.length_eq_zero_iff.1 (Option.some.inj h3).symm
    subst hp
    have h4' : v.data.toList.isEmpty = true := by rcases ho with rfl | rfl | rfl <;> exact h4
    have hv := ba_nil h4'
    subst hv
    rcases ho with rfl | rfl | rfl
    · have h6 : a.none = true := h5
      rw [tm_none h6]; exact .tru
    · have h6 : a.none = true := h5
      rw [tm_none h6]; exact .fal
    · exact .atm a h5
  · split at h3
    · rename_i ho
      obtain ⟨g, rfl⟩ : ∃ g, ps = [g] := len_one (Option.some.inj h3).symm
      have hg : g.form = true := by simpa [Fm.forms] using h2
      have h5' : a.none = true := by rcases ho with rfl | rfl | rfl <;> exact h5
      rw [tm_none h5']
      rcases ho with rfl | ho
      · have h6 : v.data.toList.isEmpty = true := h4
        rw [ba_nil h6]; exact .neg g hg
      · have h4' : varB v.data.toList = true := by rcases ho with rfl | rfl <;> exact h4
        have := FormC.qua op v.data.toList g ho h4' hg
        rw [quantF, ba_eq] at this; exact this
    · split at h3
      · rename_i ho
        obtain ⟨g, g', rfl⟩ : ∃ g g', ps = [g, g'] := len_two (Option.some.inj h3).symm
        have hg : g.form = true ∧ g'.form = true := by simpa [Fm.forms] using h2
        have h5' : a.none = true := by rcases ho with rfl | rfl | rfl <;> exact h5
        have h4' : v.data.toList.isEmpty = true := by rcases ho with rfl | rfl | rfl <;> exact h4
        rw [tm_none h5', ba_nil h4']; exact .bin op g g' ho hg.1 hg.2
      · cases h3
def inB (n a b : Int) : Bool := decide (a ≤ n) && decide (n ≤ b)
theorem within_any (n a b : Int) (w : World) :
    Calls Tryz.prog 80 #[.int .i64 n, .int .i64 a, .int .i64 b] w fun e w' => e = .returned (.bool (inB n a b)) ∧ w = w' := by
  by_cases h1 : a ≤ n <;> by_cases h2 : n ≤ b
  all_goals
    go_enter Tryz.func80, Tryz.ntmps80
    go_wp2
    go_ret
    exact ⟨ret_bool (by simp [inB, h1, h2]), rfl⟩
theorem l1In_any (n a b : Int) (w : World) :
    Calls Tryz.prog 106 #[.int .i64 n, .int .i64 a, .int .i64 b] w fun e w' => e = .returned (.bool (inB n a b)) ∧ w = w' := by
  by_cases h1 : a ≤ n <;> by_cases h2 : n ≤ b
  all_goals
    go_enter Tryz.func106, Tryz.ntmps106
    go_wp2
    go_ret
    exact ⟨ret_bool (by simp [inB, h1, h2]), rfl⟩
def digB (d : Nat) : UInt8 := UInt8.ofNat (48 + d)
theorem itoa_small (n : Int) (h0 : 0 ≤ n) (h : n < 10) : Lib.itoa n = [digB n.toNat] := by
  rw [Lib.itoa, if_neg (by omega), Lib.decDigits, dif_pos (by omega)]; rfl
theorem itoa_step (n : Int) (h : 10 ≤ n) : Lib.itoa n = Lib.itoa (n / 10) ++ [digB (n % 10).toNat] := by
  rw [Lib.itoa, if_neg (by omega), Lib.decDigits, dif_neg (by omega), Lib.itoa, if_neg (by omega)]
  have h1 : n.toNat / 10 = (n / 10).toNat := by omega
  have h2 : n.toNat % 10 = (n % 10).toNat := by omega
  rw [h1, h2]; rfl
theorem decDigits_len (f : Nat) : ∀ n : Nat, n < 10 ^ (f + 1) → (Lib.decDigits n).length ≤ f + 1 := by
  induction f with
  | zero => intro n h; rw [Lib.decDigits, dif_pos (by simpa using h)]; simp
  | succ f ih =>
    intro n h
    rw [Lib.decDigits]
    split
    · simp
    · rw [List.length_append]
      have := ih (n / 10) (Nat.div_lt_of_lt_mul (by rw [Nat.pow_succ] at h; rw [Nat.mul_comm]; exact h))
      simp only [List.length_cons, List.length_nil]; omega
theorem itoa_len (n : Int) (h0 : -9223372036854775808 ≤ n) (h1 : n ≤ 9223372036854775807) : (Lib.itoa n).length ≤ 20 := by
  unfold Lib.itoa
  split
  · have := decDigits_len 18 n.natAbs (by omega)
    rw [List.length_cons]; omega
  · have := decDigits_len 18 n.toNat (by omega)
    omega
theorem digit_slice (d : Nat) (h : d < 10) : (⟨#[48, 49, 50, 51, 52, 53, 54, 55, 56, 57]⟩ : ByteArray).extract d (d + 1) = ⟨#[digB d]⟩ := by
  have : ∀ e : Fin 10, (⟨#[48, 49, 50, 51, 52, 53, 54, 55, 56, 57]⟩ : ByteArray).extract e.val (e.val + 1) = ⟨#[digB e.val]⟩ := by decide +kernel
  exact this ⟨d, h⟩
set_option maxHeartbeats 400000 in
theorem l1Num_nat (f : Nat) : ∀ (n : Int) (w : World), 0 ≤ n → n < 10 ^ (f + 1) → n ≤ 9223372036854775807 →
    Calls Tryz.prog 73 #[.int .i64 n] w fun e w' => e = .returned (.string ⟨(Lib.itoa n).toArray⟩) ∧ Drew w w' := by
  induction f with
  | zero =>
    intro n w h0 hf _
    have hn : n < 10 := by simpa using hf
    have HD := Lib.hid (digit_slice n.toNat (by omega))
    have HI := Lib.hid (itoa_small n h0 hn)
    have HC : n.toNat + 1 = (n + 1).toNat := by omega
    clear hf
    go_enter Tryz.func73, Tryz.ntmps73
    go_wp2
    go_ret
    refine ⟨?_, Drew.refl _⟩
    show Ending.returned (Value.string (ByteArray.extract _ _ _)) = _
    rw [← HC, HD.out, HI.out]
  | succ f ih =>
    intro n w h0 hf h63
    by_cases hn : n < 10
    · have HD := Lib.hid (digit_slice n.toNat (by omega))
      have HI := Lib.hid (itoa_small n h0 hn)
      have HC : n.toNat + 1 = (n + 1).toNat := by omega
      clear hf
      go_enter Tryz.func73, Tryz.ntmps73
      go_wp2
      go_ret
      refine ⟨?_, Drew.refl _⟩
      show Ending.returned (Value.string (ByteArray.extract _ _ _)) = _
      rw [← HC, HD.out, HI.out]
    · have HI := Lib.hid (itoa_step n (by omega))
      have h10 : n / 10 < 10 ^ (f + 1) := Int.ediv_lt_of_lt_mul (by omega) (by rw [Int.pow_succ] at hf; exact hf)
      have IH := Lib.hid fun w => ih (n / 10) w (by omega) h10 (by omega)
      have HD : (⟨#[48, 49, 50, 51, 52, 53, 54, 55, 56, 57]⟩ : ByteArray).extract (n % 10).toNat (n % 10 + 1).toNat = ⟨#[digB (n % 10).toNat]⟩ := by
        rw [show (n % 10 + 1).toNat = (n % 10).toNat + 1 by omega]; exact digit_slice _ (by omega)
      have HL : ¬ 9223372036854775807 < (Lib.itoa (n / 10)).length + 1 := by have := itoa_len (n / 10) (by omega) (by omega); omega
      have hm0 : 0 ≤ n % 10 := by omega
      have hm1 : n % 10 < 10 := by omega
      have q1 : IntKind.i64.wrap (n.tdiv 10) = n / 10 := by rw [Int.tdiv_eq_ediv_of_nonneg h0]; exact IntWalk.i64_in _ (by omega)
      have q2 : n.tmod 10 = n % 10 := Int.tmod_eq_emod_of_nonneg h0
      have q3 : IntKind.i64.wrap (n % 10 + 1) = n % 10 + 1 := IntWalk.i64_in _ (by omega)
      have b0 : 0 ≤ n % 10 + 1 := by omega
      have b1 : n % 10 + 1 ≤ 10 := by omega
      have b2 : n % 10 ≤ n % 10 + 1 := by omega
      clear ih hf h10
      go_enter Tryz.func73, Tryz.ntmps73
      go_wp2_with fail
      go_quiet ((go_at_call 73; exact Drew.quiet (IH.out _)))
      go_wp2
      go_ret
      refine ⟨?_, _, rfl⟩
      show Ending.returned (Value.string (_ ++ _)) = _
      rw [HI.out, bytes_append]
theorem l1Num_any (n : Int) (w : World) (h0 : 0 ≤ n) (h1 : n ≤ 9223372036854775807) :
    Calls Tryz.prog 73 #[.int .i64 n] w fun e w' => e = .returned (.string ⟨(Lib.itoa n).toArray⟩) ∧ Drew w w' :=
  l1Num_nat 18 n w h0 (by omega) h1
theorem isLower_any (c : UInt8) (w : World) : Calls Tryz.prog 78 #[.int .u8 (c.toNat : Int)] w fun e w' => e = .returned (.bool (loC c)) ∧ w = w' := by
  go_enter Tryz.func78, Tryz.ntmps78
  go_wp2
  all_goals go_ret
  all_goals go_light
  all_goals refine ⟨ret_bool ?_, rfl⟩
  all_goals rw [Bool.eq_iff_iff]
  all_goals simp only [loC, decide_eq_true_eq, Bool.and_eq_true, false_iff, Bool.false_eq_true, not_and]
  all_goals omega
theorem isUpper_any (c : UInt8) (w : World) : Calls Tryz.prog 77 #[.int .u8 (c.toNat : Int)] w fun e w' => e = .returned (.bool (upC c)) ∧ w = w' := by
  go_enter Tryz.func77, Tryz.ntmps77
  go_wp2
  all_goals go_ret
  all_goals go_light
  all_goals refine ⟨ret_bool ?_, rfl⟩
  all_goals rw [Bool.eq_iff_iff]
  all_goals simp only [upC, decide_eq_true_eq, Bool.and_eq_true, false_iff, Bool.false_eq_true, not_and]
  all_goals omega
theorem isDigit_any (c : UInt8) (w : World) : Calls Tryz.prog 79 #[.int .u8 (c.toNat : Int)] w fun e w' => e = .returned (.bool (diC c)) ∧ w = w' := by
  go_enter Tryz.func79, Tryz.ntmps79
  go_wp2
  all_goals go_ret
  all_goals go_light
  all_goals refine ⟨ret_bool ?_, rfl⟩
  all_goals rw [Bool.eq_iff_iff]
  all_goals simp only [diC, decide_eq_true_eq, Bool.and_eq_true, false_iff, Bool.false_eq_true, not_and]
  all_goals omega
theorem l2Small_any (c : UInt8) (w : World) : Calls Tryz.prog 107 #[.int .u8 (c.toNat : Int)] w fun e w' => e = .returned (.bool (smC c)) ∧ w = w' := by
  go_enter Tryz.func107, Tryz.ntmps107
  go_wp2
  all_goals go_ret
  all_goals go_light
  all_goals refine ⟨ret_bool ?_, rfl⟩
  all_goals rw [Bool.eq_iff_iff]
  all_goals simp only [loC, diC, smC, decide_eq_true_eq, Bool.and_eq_true, Bool.or_eq_true, true_iff, false_iff, Bool.false_eq_true, not_and, not_or]
  all_goals omega
theorem headTail_take (p q : UInt8 → Bool) (s : ByteArray) (k : Nat) (h : k < s.size) : headTail p q (s.data.toList.take (k + 1)) = (headTail p q (s.data.toList.take k) && (if k = 0 then p s[k] else q s[k])) := by
  rw [take_snoc s k h, headTail_snoc]
  by_cases hk : k = 0
  · subst hk; simp
  · rw [if_neg hk, if_neg]
    have hl : (s.data.toList.take k).length = k := by rw [List.length_take, ← size_list]; omega
    rw [List.isEmpty_iff]
    intro e; rw [e] at hl; simp at hl; omega
theorem headTail_no (p q : UInt8 → Bool) (s : ByteArray) (k : Nat) (h : k < s.size) (h2 : (if k = 0 then p s[k] else q s[k]) = false) : headTail p q s.data.toList = false := by
  have e : s.data.toList = s.data.toList.take (k + 1) ++ s.data.toList.drop (k + 1) := (List.take_append_drop _ _).symm
  have h3 := headTail_take p q s k h
  rw [h2, Bool.and_false] at h3
  rw [e]
  generalize s.data.toList.take (k + 1) = a at *
  cases a with
  | nil => simp [headTail] at h3
  | cons x a =>
    simp only [headTail, List.cons_append, List.all_append] at h3 ⊢
    rw [← Bool.and_assoc, h3, Bool.false_and]
set_option maxHeartbeats 800000 in
theorem isVariable_any (s : ByteArray) (w : World) (hs : s.size ≤ maxLen) :
    Calls Tryz.prog 52 #[.string s] w fun e w' => e = .returned (.bool (varB s.data.toList)) ∧ w = w' := by
  unfold maxLen at hs
  have HV := Lib.hid (show varB s.data.toList = (inB (s.size : Int) 1 4 && headTail upC smC s.data.toList) by
    unfold varB inB; rw [← size_list]
    congr 1
    rw [Bool.eq_iff_iff]; simp; omega)
  go_enter Tryz.func52, Tryz.ntmps52
  go_wp2
  go_loop [6] (fun i => ∃ k : Nat, k ≤ s.size ∧ i = .int .i64 k ∧ headTail upC smC (s.data.toList.take k) = true) (fun i => s.size - (intOf i).toNat)
  case atStart => exact ⟨0, Nat.zero_le _, rfl, rfl⟩
  case round =>
    obtain ⟨k, hk, rfl, hp⟩ := hrel
    have HP := Lib.hid hp; clear hp
    by_cases hlt : k < s.size
    · have HT := Lib.hid (headTail_take upC smC s k hlt)
      have HN := Lib.hid (headTail_no upC smC s k hlt)
      by_cases hk0 : k = 0
      · subst hk0
        cases hU : upC s[0]
        all_goals
          go_wp2_with (first | (go_at_call 77; refine (isUpper_any _ _).mono ?_; rintro e w' ⟨rfl, rfl⟩) | (go_at_call 78; refine (isLower_any _ _).mono ?_; rintro e w' ⟨rfl, rfl⟩) | (go_at_call 79; refine (isDigit_any _ _).mono ?_; rintro e w' ⟨rfl, rfl⟩))
        · go_ret
          exact ⟨ret_bool (by rw [HV.out, HN.out (by simpa using hU)]; simp), rfl⟩
        · refine ⟨⟨1, by omega, by go_num, ?_⟩, by simp [intOf]; omega⟩
          rw [HT.out, HP.out]; simpa using hU
      · have hk1 : 0 < (k : Int) := by omega
        have hk2 : ((k : Int) == 0) = false := by simp; omega
        cases hL : loC s[k] <;> cases hD : diC s[k]
        all_goals
          have HLD := Lib.hid (And.intro hL hD)
          go_wp2_with (first | (go_at_call 77; refine (isUpper_any _ _).mono ?_; rintro e w' ⟨rfl, rfl⟩) | (go_at_call 78; refine (isLower_any _ _).mono ?_; rintro e w' ⟨rfl, rfl⟩) | (go_at_call 79; refine (isDigit_any _ _).mono ?_; rintro e w' ⟨rfl, rfl⟩))
        · go_ret
          exact ⟨ret_bool (by rw [HV.out, HN.out (by rw [if_neg hk0, smC, HLD.out.1, HLD.out.2]; rfl)]; simp), rfl⟩
        all_goals
          refine ⟨⟨k + 1, by omega, by go_num, ?_⟩, by simp [intOf]; omega⟩
          rw [HT.out, HP.out, if_neg hk0, smC, HLD.out.1, HLD.out.2]; rfl
    · go_wp2_with (first | (go_at_call 80; refine (within_any _ _ _ _).mono ?_; rintro e w' ⟨rfl, rfl⟩))
      go_ret
      exact ⟨ret_bool (by have := HP.out; rw [take_all _ _ (by omega)] at this; rw [HV.out, this]; simp), rfl⟩
def keyS : List ByteArray := keyW.map fun l => ⟨l.toArray⟩
theorem key_contains (x : ByteArray) : Lib.containsS (keyS.take 8) x = keyW.contains x.data.toList := by
  rw [Bool.eq_iff_iff, Lib.containsS_iff, List.contains_iff_mem, show keyS.take 8 = keyS from rfl, keyS, List.mem_map]
  constructor
  · rintro ⟨l, h, rfl⟩; exact h
  · intro h; exact ⟨_, h, rfl⟩
theorem key_cells (w : World) (t : TypeId) (j : Nat) (hj : j < keyS.length) :
    (w.alloc (.cells #[.string ⟨#[116, 114, 117, 101]⟩, .string ⟨#[102, 97, 108, 115, 101]⟩, .string ⟨#[116, 114, 117, 116, 104]⟩, .string ⟨#[98, 111, 116, 104]⟩, .string ⟨#[101, 105, 116, 104, 101, 114]⟩, .string ⟨#[105, 102]⟩, .string ⟨#[97, 108, 108]⟩, .string ⟨#[115, 111, 109, 101]⟩] t)).cell? ⟨w.heap.size, 0 + j, none⟩ = some (.string (keyS.getD j ByteArray.empty)) := by
  have hj8 : j < 8 := hj
  rw [Nat.zero_add, World.cell?_alloc_new]
  match j, hj8 with
  | 0, _ => rfl
  | 1, _ => rfl
  | 2, _ => rfl
  | 3, _ => rfl
  | 4, _ => rfl
  | 5, _ => rfl
  | 6, _ => rfl
  | 7, _ => rfl
theorem reserved_any (w : World) : Calls Tryz.prog 81 #[] w fun e w' => e = .returned (.slice (some ⟨w.heap.size, 0, none⟩) 8 8) ∧ w.alloc (.cells #[.string ⟨#[116, 114, 117, 101]⟩, .string ⟨#[102, 97, 108, 115, 101]⟩, .string ⟨#[116, 114, 117, 116, 104]⟩, .string ⟨#[98, 111, 116, 104]⟩, .string ⟨#[101, 105, 116, 104, 101, 114]⟩, .string ⟨#[105, 102]⟩, .string ⟨#[97, 108, 108]⟩, .string ⟨#[115, 111, 109, 101]⟩] 9) = w' := by
  go_enter Tryz.func81, Tryz.ntmps81
  go_wp2
  go_ret
  exact ⟨rfl, rfl⟩
set_option maxHeartbeats 1600000 in
theorem isSymbol_any (s : ByteArray) (w : World) (hs : s.size ≤ maxLen) :
    Calls Tryz.prog 53 #[.string s] w fun e w' => e = .returned (.bool (symB s.data.toList)) ∧ Below w.heap.size w w' := by
  unfold maxLen at hs
  have HV := Lib.hid (show symB s.data.toList = (inB (s.size : Int) 1 6 && headTail loC unC s.data.toList && !keyW.contains s.data.toList) by
    unfold symB inB; rw [← size_list]
    congr 2
    rw [Bool.eq_iff_iff]; simp; omega)
  go_enter Tryz.func53, Tryz.ntmps53
  go_wp2
  go_loop [6] (fun i => ∃ k : Nat, k ≤ s.size ∧ i = .int .i64 k ∧ headTail loC unC (s.data.toList.take k) = true) (fun i => s.size - (intOf i).toNat)
  case atStart => exact ⟨0, Nat.zero_le _, rfl, rfl⟩
  case round =>
    obtain ⟨k, hk, rfl, hp⟩ := hrel
    have HP := Lib.hid hp; clear hp
    by_cases hlt : k < s.size
    · have HT := Lib.hid (headTail_take loC unC s k hlt)
      have HN := Lib.hid (headTail_no loC unC s k hlt)
      by_cases hk0 : k = 0
      · subst hk0
        cases hL : loC s[0]
        all_goals
          have HL := Lib.hid hL
          go_wp2_with (first | (go_at_call 78; refine (isLower_any _ _).mono ?_; rintro e w' ⟨rfl, rfl⟩) | (go_at_call 79; refine (isDigit_any _ _).mono ?_; rintro e w' ⟨rfl, rfl⟩))
        · go_ret
          exact ⟨ret_bool (by rw [HV.out, HN.out (by simpa using HL.out)]; simp), Below.refl _ _⟩
        · refine ⟨⟨1, by omega, by go_num, ?_⟩, by simp [intOf]; omega⟩
          rw [HT.out, HP.out]; simpa using HL.out
      · have hk1 : 0 < (k : Int) := by omega
        have hk2 : ((k : Int) == 0) = false := by simp; omega
        have HU := Lib.hid (show unC s[k] = ((loC s[k] || diC s[k]) || (s[k] == 95)) from rfl)
        by_cases h9 : s[k] = 95
        · have H9 := Lib.hid h9
          have h91 : ((s[k].toNat : Int) != 95) = false := by rw [h9]; rfl
          have h92 : ((s[k].toNat : Int) == 95) = true := by rw [h9]; rfl
          clear h9
          cases hL : loC s[k] <;> cases hD : diC s[k]
          all_goals
            have HLD := Lib.hid (And.intro hL hD)
            go_wp2_with (first | (go_at_call 78; refine (isLower_any _ _).mono ?_; rintro e w' ⟨rfl, rfl⟩) | (go_at_call 79; refine (isDigit_any _ _).mono ?_; rintro e w' ⟨rfl, rfl⟩))
            refine ⟨⟨k + 1, by omega, by go_num, ?_⟩, by simp [intOf]; omega⟩
            rw [HT.out, HP.out, if_neg hk0, HU.out, HLD.out.1, HLD.out.2, H9.out]; rfl
        · have H9 := Lib.hid (show (s[k] == 95) = false by simpa using h9)
          have h9n : ¬ (s[k].toNat : Int) = 95 := fun e => h9 (UInt8.toNat_inj.1 (show s[k].toNat = 95 by omega))
          have h91 : ((s[k].toNat : Int) != 95) = true := by simpa using h9n
          have h92 : ((s[k].toNat : Int) == 95) = false := by simpa using h9n
          clear h9 h9n
          cases hL : loC s[k] <;> cases hD : diC s[k]
          all_goals
            have HLD := Lib.hid (And.intro hL hD)
            go_wp2_with (first | (go_at_call 78; refine (isLower_any _ _).mono ?_; rintro e w' ⟨rfl, rfl⟩) | (go_at_call 79; refine (isDigit_any _ _).mono ?_; rintro e w' ⟨rfl, rfl⟩))
          · go_ret
            exact ⟨ret_bool (by rw [HV.out, HN.out (by rw [if_neg hk0, HU.out, HLD.out.1, HLD.out.2, H9.out]; rfl)]; simp), Below.refl _ _⟩
          all_goals
            refine ⟨⟨k + 1, by omega, by go_num, ?_⟩, by simp [intOf]; omega⟩
            rw [HT.out, HP.out, if_neg hk0, HU.out, HLD.out.1, HLD.out.2]; rfl
    · have HF := Lib.hid (show headTail loC unC s.data.toList = true by have := HP.out; rwa [take_all _ _ (by omega)] at this)
      cases hB : inB (s.size : Int) 1 6
      all_goals
        have HB := Lib.hid hB
        go_wp2_with (first | (go_at_call 80; refine (within_any _ _ _ _).mono ?_; rintro e w' ⟨rfl, rfl⟩) | (go_at_call 81; refine (reserved_any _).mono ?_; rintro e w' ⟨rfl, rfl⟩) | (go_at_call 67; refine (Tryz.slices_Contains_string w.heap.size 0 8 8 keyS s _ (by decide) (by decide) (key_cells w _)).mono ?_; rintro e w' ⟨rfl, rfl⟩))
        go_ret
      · exact ⟨ret_bool (by rw [HV.out, HB.out]; rfl), by exact bel⟩
      · exact ⟨ret_bool (by rw [HV.out, HB.out, HF.out, key_contains]; rfl), by exact bel⟩
end Go.Proofs.YtmbkjdkjemlfkaaGreatDoor
