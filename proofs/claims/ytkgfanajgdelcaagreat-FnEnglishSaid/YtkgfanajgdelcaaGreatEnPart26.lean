import Derived.Test.YtkgfanajgdelcaaGreatEnPart25
namespace Go.Proofs.YtkgfanajgdelcaaGreat
set_option maxRecDepth 100000
open Go.RowKit
def StepO (g m k : Nat) (p : World → Value → Prop) (w : World) (e : Ending) (w' : World) : Prop :=
  ∃ v, e = .returned v ∧ p w' v ∧ Cur w' g (m + k) ∧ w.grownBy w' (some g)
def GT (n W : Nat) (S : Nat → Prop) (w : World) (v : Value) : Prop :=
  ∃ (t : Tm) (va : Value), v = .agg #[.string t.n, va] ∧ TmOwn 26 n S w t [.string t.n, va] ∧ t.wt ≤ W
theorem GT.mono {n n' W W' : Nat} {S S' : Nat → Prop} {w w' : World} {v : Value} (h : GT n W S w v) (hn : n ≤ n') (hW : W ≤ W') (hs : SameOn S w w') (hS : ∀ b, S b → S' b) : GT n' W' S' w' v := by
  obtain ⟨t, va, h1, h2, h3⟩ := h
  exact ⟨t, va, h1, TmOwn.mono n n' t _ hn hs hS h2, Nat.le_trans h3 hW⟩
theorem sameOn_grown {S : Nat → Prop} {w w' : World} {g : Nat} (hg : w.grownBy w' (some g)) (hS : ∀ b, S b → b ≠ g) : SameOn S w w' := fun b hb hlt => hg.block b hlt (by simpa using hS b hb)
theorem GT.leaf {W : Nat} (S : Nat → Prop) (w : World) (s : ByteArray) (h : s.size ≤ W) (hm : W ≤ maxLen) : GT 1 W S w (.agg #[.string s, .slice none 0 0]) :=
  ⟨.mk s [], .slice none 0 0, rfl, ⟨_, rfl, Nat.le_trans h hm, OwnRow.nil _ _ _ _ _⟩, by simpa [Tm.wt, Tm.wts] using h⟩
theorem GT.one {n W W' : Nat} {S S' : Nat → Prop} {w : World} {v0 v1 : Value} {s : ByteArray} {k : Nat} (h : GT n W S w (.agg #[v0, v1])) (hk : w.heap.size = k) (hs : s.size ≤ maxLen) (hS : ∀ b, S b → b < k) (h1 : ∀ b, S b → S' b) (h2 : S' k) (hW : s.size + 1 + W ≤ W') :
    GT (n + 1) W' S' (w.alloc (.cells #[v0, v1] 26)) (.agg #[.string s, .slice (some ⟨k, 0, none⟩) 1 1]) := by
  obtain ⟨t, va, h3, h4, h5⟩ := h
  obtain ⟨rfl, rfl⟩ : v0 = .string t.n ∧ v1 = va := by simpa using h3
  refine ⟨.mk s [t], _, rfl, ⟨_, rfl, hs, OwnRow.one' hk _ rfl (TmOwn.mono n n t _ (Nat.le_refl _) (SameOn.below ((Below.refl _ _).alloc (Nat.le_refl _) _)) (fun _ h => h) h4) hS h1 h2⟩, ?_⟩
  simp only [Tm.wt, Tm.wts, List.length_cons, List.length_nil]; omega
theorem GT.two {n W W' : Nat} {S T S' : Nat → Prop} {w : World} {v0 v1 u0 u1 : Value} {s : ByteArray} {k : Nat} (h : GT n W S w (.agg #[v0, v1])) (hu : GT n W T w (.agg #[u0, u1])) (hk : w.heap.size = k) (hs : s.size ≤ maxLen) (hS : ∀ b, S b → b < k) (hT : ∀ b, T b → b < k) (hST : ∀ b, S b → ¬ T b)
    (h1 : ∀ b, S b → S' b) (h3 : ∀ b, T b → S' b) (h2 : S' k) (hW : s.size + 2 + W + W ≤ W') :
    GT (n + 1) W' S' (w.alloc (.cells #[v0, v1, u0, u1] 26)) (.agg #[.string s, .slice (some ⟨k, 0, none⟩) 2 2]) := by
  obtain ⟨t, va, e3, h4, h5⟩ := h
  obtain ⟨rfl, rfl⟩ : v0 = .string t.n ∧ v1 = va := by simpa using e3
  obtain ⟨t2, vb, e3, g4, g5⟩ := hu
  obtain ⟨rfl, rfl⟩ : u0 = .string t2.n ∧ u1 = vb := by simpa using e3
  have hb := SameOn.below (B := S) ((Below.refl w.heap.size w).alloc (Nat.le_refl _) (.cells #[.string t.n, v1, .string t2.n, u1] 26))
  have hb2 := SameOn.below (B := T) ((Below.refl w.heap.size w).alloc (Nat.le_refl _) (.cells #[.string t.n, v1, .string t2.n, u1] 26))
  refine ⟨.mk s [t, t2], _, rfl, ⟨_, rfl, hs, OwnRow.two' hk [.string t.n, v1] [.string t2.n, u1] _ rfl rfl rfl (TmOwn.mono n n t _ (Nat.le_refl _) hb (fun _ h => h) h4) (TmOwn.mono n n t2 _ (Nat.le_refl _) hb2 (fun _ h => h) g4) hS hT hST h1 h3 h2⟩, ?_⟩
  simp only [Tm.wt, Tm.wts, List.length_cons, List.length_nil]; omega
theorem GT.form {n W : Nat} {S : Nat → Prop} {w : World} {v : Value} (h : GT n W S w v) : ∃ (s : ByteArray) (p : Option Addr) (k c : Nat), v = .agg #[.string s, .slice p k c] ∧ s.size ≤ W ∧ k ≤ W ∧ W = W := by
  obtain ⟨t, va, rfl, h2, h3⟩ := h
  obtain ⟨p, c, h4, rfl, -⟩ := h2.form
  refine ⟨_, _, _, _, rfl, ?_, ?_, rfl⟩
  · cases t; simp only [Tm.wt, Tm.n] at *; omega
  · cases t; simp only [Tm.wt, Tm.us] at *; omega
set_option maxHeartbeats 1600000 in
theorem grown_any (g : Nat) : ∀ (f m : Nat) (d : Int) (w : World), Cur w g m → m + 4 * 2 ^ (f + 1) ≤ 1000000000 → -1000 ≤ d → d ≤ f + 1 → f ≤ 20 →
    Calls Tryz.prog 125 #[.pointer (some ⟨g, 0, none⟩), .int .i64 d] w (StepO g m (4 * 2 ^ (f + 1) - 4) (fun w' v => GT (f + 1) (4 * 2 ^ f - 3) (NewB w w') w' v) w) := by
  intro f
  induction f with
  | zero =>
    intro m d w h hm hd0 hd1 hf
    have hlt := h.lt
    have H := Lib.hid h
    clear h
    simp only [Nat.zero_add, Nat.pow_one] at hm
    have hd : d ≤ 1 := by omega
    go_enter Tryz.func125, Tryz.ntmps125
    go_wp2_with fail
    refine (of_lit g m 1 7 (w.heap.size + 1) _ _ _ (by rfl) (by simp) (H.out.al _) (by omega) (by decide) (by decide) (by intro v hv; simp at hv; rcases hv with rfl | rfl | rfl | rfl | rfl | rfl | rfl <;> exact ⟨_, rfl, by decide⟩)).mono ?_
    rintro e w1 ⟨_, rfl, ⟨s1, rfl, hs1⟩, hc1, hg1⟩
    have HC1 := Lib.hid hc1
    clear hc1
    have ⟨c1, f1⟩ := gcell hg1
    have hz1 := hg1.size
    (try simp at hz1)
    have hA := gr_trans (gr_al (gr_al (gr_refl w g) _) _) hg1
    have ⟨r0, r1, rf⟩ := row2_at ((hg1.block w.heap.size (by simp; omega) (by simp; omega)).trans ((hao _ _ _ (by simp)).trans (heap_alloc_new w _)))
    have z01 := bsz (show w.heap.size < w1.heap.size by omega)
    have HA := Lib.hid hA
    clear c1 f1 hg1 hA
    go_wp2_with fail
    refine bodyPost_ret (v := .agg #[.string s1, .slice none 0 0]) (by simp only [results, Tryz.results125]; go_simp) rfl ⟨_, rfl, GT.leaf _ _ _ hs1 (by decide), ?_, ?_⟩
    · exact ((HC1.out.more (by omega) (by omega)).sc hlt _).sc hlt _
    · exact gr_sc (gr_sc HA.out (.inr (Nat.le_refl _)) _) (.inr (Nat.le_refl _)) _
  | succ f ih =>
    intro m d w h hm hd0 hd1 hf
    have hlt := h.lt
    have H := Lib.hid h
    have IH := Lib.hid ih
    have hne : w.heap.size ≠ g := by omega
    have hp1 : 4 * 2 ^ (f + 1 + 1) = 8 * 2 ^ (f + 1) := by rw [Nat.pow_succ]; omega
    have hp2 : 4 * 2 ^ (f + 1) = 8 * 2 ^ f := by rw [Nat.pow_succ]; omega
    have hp3 : 1 ≤ 2 ^ f := Nat.one_le_two_pow
    have hp4 : 2 ^ f ≤ 2 ^ 20 := Nat.pow_le_pow_right (by omega) (by omega)
    have hp5 : 2 ^ (f + 1) = 2 * 2 ^ f := by rw [Nat.pow_succ]; omega
    rw [hp1] at hm ⊢
    rw [hp2]
    clear h ih
    generalize 2 ^ (f + 1) = Q at *
    generalize 2 ^ f = P at *
    by_cases hd : d ≤ 1
    · go_enter Tryz.func125, Tryz.ntmps125
      go_wp2_with fail
      refine (of_lit g m 1 7 (w.heap.size + 1) _ _ _ (by rfl) (by simp) (H.out.al _) (by omega) (by decide) (by decide) (by intro v hv; simp at hv; rcases hv with rfl | rfl | rfl | rfl | rfl | rfl | rfl <;> exact ⟨_, rfl, by decide⟩)).mono ?_
      rintro e w1 ⟨_, rfl, ⟨s1, rfl, hs1⟩, hc1, hg1⟩
      have HC1 := Lib.hid hc1
      clear hc1
      have ⟨c1, f1⟩ := gcell hg1
      have hz1 := hg1.size
      (try simp at hz1)
      have hA := gr_trans (gr_al (gr_al (gr_refl w g) _) _) hg1
      have ⟨r0, r1, rf⟩ := row2_at ((hg1.block w.heap.size (by simp; omega) (by simp; omega)).trans ((hao _ _ _ (by simp)).trans (heap_alloc_new w _)))
      have z01 := bsz (show w.heap.size < w1.heap.size by omega)
      have HA := Lib.hid hA
      clear c1 f1 hg1 hA
      go_wp2_with fail
      refine bodyPost_ret (v := .agg #[.string s1, .slice none 0 0]) (by simp only [results, Tryz.results125]; go_simp) rfl ⟨_, rfl, (GT.leaf (W := 1) _ _ _ hs1 (by decide)).mono (by omega) (by omega) (SameOn.refl _ _) (fun _ h => h), ?_, ?_⟩
      · exact ((HC1.out.more (by omega) (by omega)).sc hlt _).sc hlt _
      · exact gr_sc (gr_sc HA.out (.inr (Nat.le_refl _)) _) (.inr (Nat.le_refl _)) _
    · go_enter Tryz.func125, Tryz.ntmps125
      go_wp2_with fail
      refine (one_any g m 3 _ (H.out.al _) (by omega) (by omega) (by omega)).mono ?_
      rintro e w1 ⟨_, rfl, ⟨b1, rfl⟩, hc1, hg1⟩
      have HC1 := Lib.hid hc1
      clear hc1
      have ⟨c1, f1⟩ := gcell hg1
      have hz1 := hg1.size
      (try simp at hz1)
      have hA1 := gr_trans (gr_al (gr_refl w g) _) hg1
      cases b1
      · go_wp2_with fail
        refine (one_any g (m + 2) 2 _ HC1.out (by omega) (by omega) (by omega)).mono ?_
        rintro e w2 ⟨_, rfl, ⟨b2, rfl⟩, hc2, hg2⟩
        have HC2 := Lib.hid hc2
        clear hc2
        have ⟨c2, f2⟩ := gcell hg2
        have hz2 := hg2.size
        (try simp at hz2)
        have hA2 := gr_trans hA1 hg2
        cases b2
        · go_wp2_with fail
          refine (IH.out (m + 4) (d - 1) _ HC2.out (by omega) (by omega) (by omega) (by omega)).mono ?_
          rintro e w3 ⟨_, rfl, ht3, hc3, hg3⟩
          have HC3 := Lib.hid hc3
          clear hc3
          have ⟨c3, f3⟩ := gcell hg3
          have hz3 := hg3.size
          (try simp at hz3)
          obtain ⟨s3, p3, k3, e3, rfl, -⟩ := ht3.form
          have HT3 := Lib.hid ht3
          have hA3 := gr_trans hA2 hg3
          clear ht3
          go_wp2_with fail
          refine (IH.out (m + 4 + (4 * Q - 4)) (d - 1) _ HC3.out (by omega) (by omega) (by omega) (by omega)).mono ?_
          rintro e w4 ⟨_, rfl, ht4, hc4, hg4⟩
          have HC4 := Lib.hid hc4
          clear hc4
          have ⟨c4, f4⟩ := gcell hg4
          have hz4 := hg4.size
          (try simp at hz4)
          obtain ⟨s4, p4, k4, e4, rfl, -⟩ := ht4.form
          have hA4 := gr_trans hA3 hg4
          have ⟨r0, r1, rf⟩ := row2_at (((gr_trans (gr_trans (gr_trans hg1 hg2) hg3) hg4).block w.heap.size (by simp) (by simpa using hne)).trans (heap_alloc_new w _))
          have HT3' := Lib.hid (HT3.out.mono (Nat.le_refl _) (Nat.le_refl _) (sameOn_grown hg4 (fun b hb => by have := hb.1; omega)) (fun _ h => h))
          have HT4 := Lib.hid ht4
          have z01 := bsz (show w.heap.size < w4.heap.size by omega)
          have HA := Lib.hid hA4
          have HZ := Lib.hid (show w.heap.size < w2.heap.size ∧ w2.heap.size ≤ w3.heap.size ∧ w3.heap.size ≤ w4.heap.size by omega)
          clear hA1 hA2 hA3 hA4 hg1 hg2 hg3 hg4 c1 f1 c2 f2 c3 f3 c4 f4 HT3 ht4
          go_wp2_with fail
          have hN : (⟨#[103]⟩ : ByteArray).size = 1 := rfl
          refine bodyPost_ret (v := .agg #[.string ⟨#[103]⟩, .slice (some ⟨w4.heap.size, 0, none⟩) 2 2]) (by simp only [results, Tryz.results125]; go_simp) rfl ⟨_, rfl, GT.two (S := NewB w2 w3) (T := NewB w3 w4) (HT3'.out.mono (Nat.le_refl _) (Nat.le_refl _) (((SameOn.refl _ _).sc ?_ _).sc ?_ _) (fun _ h => h)) (HT4.out.mono (Nat.le_refl _) (Nat.le_refl _) (((SameOn.refl _ _).sc ?_ _).sc ?_ _) (fun _ h => h)) (by simp) (by decide) ?_ ?_ ?_ ?_ ?_ ?_ (by omega), ?_, ?_⟩
          all_goals first
            | exact ((((HC4.out.more (by omega) (by omega)).sc hlt _).sc hlt _).al _)
            | exact gr_al (gr_sc (gr_sc HA.out (.inr (Nat.le_refl _)) _) (.inr (Nat.le_refl _)) _) _
            | (intro b hb e; have := HZ.out; unfold NewB at hb; simp at e; omega)
            | (intro b hb; have := HZ.out; unfold NewB at hb ⊢; simp; omega)
            | (have := HZ.out; unfold NewB; simp; omega)
            | (intro b hb; exact hb.2)
            | (intro b hb; have := hb.2; have := HZ.out; omega)
            | (intro b hb hb'; have := hb.2; have := hb'.1; omega)
        · go_wp2_with fail
          refine (IH.out (m + 4) (d - 1) _ HC2.out (by omega) (by omega) (by omega) (by omega)).mono ?_
          rintro e w3 ⟨_, rfl, ht3, hc3, hg3⟩
          have HC3 := Lib.hid hc3
          clear hc3
          have ⟨c3, f3⟩ := gcell hg3
          have hz3 := hg3.size
          (try simp at hz3)
          obtain ⟨s3, p3, k3, e3, rfl, -⟩ := ht3.form
          have hA3 := gr_trans hA2 hg3
          have ⟨r0, r1, rf⟩ := row2_at (((gr_trans (gr_trans hg1 hg2) hg3).block w.heap.size (by simp) (by simpa using hne)).trans (heap_alloc_new w _))
          have HT4 := Lib.hid ht3
          have z01 := bsz (show w.heap.size < w3.heap.size by omega)
          have HA := Lib.hid hA3
          have HZ := Lib.hid (show w.heap.size < w2.heap.size ∧ w2.heap.size ≤ w3.heap.size by omega)
          clear hA1 hA2 hA3 hg1 hg2 hg3 c1 f1 c2 f2 c3 f3 ht3
          go_wp2_with fail
          have hN : (⟨#[102]⟩ : ByteArray).size = 1 := rfl
          refine bodyPost_ret (v := .agg #[.string ⟨#[102]⟩, .slice (some ⟨w3.heap.size, 0, none⟩) 1 1]) (by simp only [results, Tryz.results125]; go_simp) rfl ⟨_, rfl, GT.one (S := NewB w2 w3) (HT4.out.mono (Nat.le_refl _) (Nat.le_refl _) (((SameOn.refl _ _).sc ?_ _).sc ?_ _) (fun _ h => h)) (by simp) (by decide) ?_ ?_ ?_ (by omega), ?_, ?_⟩
          all_goals first
            | exact ((((HC3.out.more (by omega) (by omega)).sc hlt _).sc hlt _).al _)
            | exact gr_al (gr_sc (gr_sc HA.out (.inr (Nat.le_refl _)) _) (.inr (Nat.le_refl _)) _) _
            | (intro b hb e; have := HZ.out; unfold NewB at hb; simp at e; omega)
            | (intro b hb; have := HZ.out; unfold NewB at hb ⊢; simp; omega)
            | (have := HZ.out; unfold NewB; simp; omega)
            | (intro b hb; exact hb.2)
      · go_wp2_with fail
        refine (of_lit g (m + 2) 1 7 w1.heap.size _ _ _ (by rfl) (by simp) HC1.out (by omega) (by decide) (by decide) (by intro v hv; simp at hv; rcases hv with rfl | rfl | rfl | rfl | rfl | rfl | rfl <;> exact ⟨_, rfl, by decide⟩)).mono ?_
        rintro e w2 ⟨_, rfl, ⟨s1, rfl, hs1⟩, hc2, hg2⟩
        have HC2 := Lib.hid hc2
        clear hc2
        have ⟨c2, f2⟩ := gcell hg2
        have hz2 := hg2.size
        (try simp at hz2)
        have hA2 := gr_trans (gr_al hA1 _) hg2
        have ⟨r0, r1, rf⟩ := row2_at (((gr_trans (gr_al hg1 _) hg2).block w.heap.size (by simp) (by simpa using hne)).trans (heap_alloc_new w _))
        have z01 := bsz (show w.heap.size < w2.heap.size by omega)
        have HA := Lib.hid hA2
        clear c1 f1 c2 f2 hg1 hg2 hA1 hA2
        go_wp2_with fail
        refine bodyPost_ret (v := .agg #[.string s1, .slice none 0 0]) (by simp only [results, Tryz.results125]; go_simp) rfl ⟨_, rfl, (GT.leaf (W := 1) _ _ _ hs1 (by decide)).mono (by omega) (by omega) (SameOn.refl _ _) (fun _ h => h), ?_, ?_⟩
        · exact ((HC2.out.more (by omega) (by omega)).sc hlt _).sc hlt _
        · exact gr_sc (gr_sc HA.out (.inr (Nat.le_refl _)) _) (.inr (Nat.le_refl _)) _
theorem agg2_cells {w w' : World} {g k : Nat} {x y : Value} {t : TypeId} (hg : (w.alloc (.cells #[x, y] t)).grownBy w' (some g)) (hk : k = w.heap.size) (hne : k ≠ g) : w'.cell? ⟨k, 0, none⟩ = some x ∧ w'.cell? ⟨k, 1, none⟩ = some y ∧ (∀ j, w'.frozen? ⟨k, j, none⟩ = false) := by
  subst hk
  exact row2_at ((hg.block w.heap.size (by simp) (by simpa using hne)).trans (heap_alloc_new w _))
set_option maxHeartbeats 1600000 in
theorem term_any' (g m : Nat) (w : World) (h : Cur w g m) (hm : m + 34 ≤ 1000000000) :
    Calls Tryz.prog 96 #[.pointer (some ⟨g, 0, none⟩)] w (StepO g m 30 (fun w' v => GT 3 13 (NewB w w') w' v) w) := by
  have hlt := h.lt
  have H := Lib.hid h
  have hne : w.heap.size ≠ g := by omega
  clear h
  go_enter Tryz.func96, Tryz.ntmps96
  go_wp2_with fail
  refine (pick_any g m 3 _ (H.out.al _) (by omega) (by omega) (by omega)).mono ?_
  rintro e w1 ⟨_, rfl, ⟨r, rfl, hr0, hr1⟩, hc1, hg1⟩
  have HC1 := Lib.hid hc1
  clear hc1
  have ⟨c1, f1⟩ := gcell hg1
  have hz1 := hg1.size
  (try simp at hz1)
  go_wp2_with fail
  refine (grown_any g 2 (m + 2) (1 + r) _ HC1.out (by omega) (by omega) (by omega) (by omega)).mono ?_
  rintro e w2 ⟨_, rfl, ht, hc2, hg2⟩
  have HC2 := Lib.hid hc2
  clear hc2
  have ⟨c2, f2⟩ := gcell hg2
  have hz2 := hg2.size
  (try simp at hz2)
  obtain ⟨s3, p3, k3, e3, rfl, -⟩ := ht.form
  have ⟨r0, r1, rf⟩ := agg2_cells (gr_trans hg1 hg2) rfl hne
  have HA := Lib.hid (gr_trans (gr_trans (gr_al (gr_refl w g) _) hg1) hg2)
  have HT := Lib.hid ht
  have z01 := bsz (show w.heap.size < w2.heap.size by omega)
  have HZ := Lib.hid (show w.heap.size < w1.heap.size ∧ w1.heap.size ≤ w2.heap.size by omega)
  clear hg1 hg2 c1 f1 c2 f2 ht
  go_wp2_with fail
  refine bodyPost_ret (v := .agg #[.string s3, .slice p3 k3 e3]) (by simp only [results, Tryz.results96]; go_simp) rfl ⟨_, rfl, HT.out.mono (Nat.le_refl _) (by decide) (((SameOn.refl _ _).sc ?_ _).sc ?_ _) ?_, ?_, ?_⟩
  · intro b hb e; have := HZ.out; unfold NewB at hb; simp at e; omega
  · intro b hb e; have := HZ.out; unfold NewB at hb; simp at e; omega
  · intro b hb; have := HZ.out; unfold NewB at hb ⊢; simp; omega
  · exact (((HC2.out.more (by omega) (by omega)).sc hlt _).sc hlt _)
  · exact gr_sc (gr_sc HA.out (.inr (Nat.le_refl _)) _) (.inr (Nat.le_refl _)) _
set_option maxHeartbeats 1600000 in
theorem atom_any (g m : Nat) (w : World) (h : Cur w g m) (hm : m + 70 ≤ 1000000000) :
    Calls Tryz.prog 93 #[.pointer (some ⟨g, 0, none⟩)] w (StepO g m 62 (fun w' v => GT 4 29 (NewB w w') w' v) w) := by
  have hlt := h.lt
  have H := Lib.hid h
  have hne : w.heap.size ≠ g := by omega
  clear h
  go_enter Tryz.func93, Tryz.ntmps93
  go_wp2_with fail
  refine (pick_any g m 8 _ (H.out.al _) (by omega) (by omega) (by omega)).mono ?_
  rintro e w1 ⟨_, rfl, ⟨r, rfl, hr0, hr1⟩, hc1, hg1⟩
  have HC1 := Lib.hid hc1
  clear hc1
  have ⟨c1, f1⟩ := gcell hg1
  have hz1 := hg1.size
  (try simp at hz1)
  rcases (by omega : r = 0 ∨ r = 1 ∨ r = 2 ∨ r = 3 ∨ r = 4 ∨ (4 < r ∧ r ≤ 7)) with rfl | rfl | rfl | rfl | rfl | ⟨hra, hrb⟩
  · go_wp2_with fail
    refine (term_any' g (m + 2) _ HC1.out (by omega)).mono ?_
    rintro e w2 ⟨_, rfl, ht3, hc2, hg2⟩
    have HC2 := Lib.hid hc2
    clear hc2
    have ⟨c2, f2⟩ := gcell hg2
    have hz2 := hg2.size
    (try simp at hz2)
    obtain ⟨s3, p3, k3, e3, rfl, -⟩ := ht3.form
    have HT3 := Lib.hid ht3
    clear ht3
    go_wp2_with fail
    refine (term_any' g (m + 2 + 30) _ HC2.out (by omega)).mono ?_
    rintro e w3 ⟨_, rfl, ht4, hc3, hg3⟩
    have HC3 := Lib.hid hc3
    clear hc3
    have ⟨c3, f3⟩ := gcell hg3
    have hz3 := hg3.size
    (try simp at hz3)
    obtain ⟨s4, p4, k4, e4, rfl, -⟩ := ht4.form
    have HT4 := Lib.hid ht4
    have HT3' := Lib.hid (HT3.out.mono (Nat.le_refl _) (Nat.le_refl _) (sameOn_grown hg3 (fun b hb => by have := hb.1; omega)) (fun _ h => h))
    have ⟨r0, r1, rf⟩ := row2_at (((gr_trans (gr_trans hg1 hg2) hg3).block w.heap.size (by simp) (by simpa using hne)).trans (heap_alloc_new w _))
    have z01 := bsz (show w.heap.size < w3.heap.size by omega)
    have HA := Lib.hid (gr_trans (gr_trans (gr_trans (gr_al (gr_refl w g) _) hg1) hg2) hg3)
    have HZ := Lib.hid (show w.heap.size < w1.heap.size ∧ w1.heap.size ≤ w2.heap.size ∧ w2.heap.size ≤ w3.heap.size by omega)
    clear hg1 hg2 hg3 c1 f1 c2 f2 c3 f3 HT3 ht4
    go_wp2_with fail
    have hN : (⟨#[61]⟩ : ByteArray).size = 1 := rfl
    refine bodyPost_ret (v := .agg #[.string ⟨#[61]⟩, .slice (some ⟨w3.heap.size, 0, none⟩) 2 2]) (by simp only [results, Tryz.results93]; go_simp) rfl ⟨_, rfl, GT.mono (GT.two (W' := 29) (S := NewB w1 w2) (T := NewB w2 w3) (HT3'.out.mono (Nat.le_refl _) (Nat.le_refl _) (((SameOn.refl _ _).sc ?_ _).sc ?_ _) (fun _ h => h)) (HT4.out.mono (Nat.le_refl _) (Nat.le_refl _) (((SameOn.refl _ _).sc ?_ _).sc ?_ _) (fun _ h => h)) (by simp) (by decide) ?_ ?_ ?_ ?_ ?_ ?_ (by omega)) (by omega) (by omega) (SameOn.refl _ _) (fun _ h => h), ?_, ?_⟩
    all_goals first
      | exact ((((HC3.out.more (by omega) (by omega)).sc hlt _).sc hlt _).al _)
      | exact gr_al (gr_sc (gr_sc HA.out (.inr (Nat.le_refl _)) _) (.inr (Nat.le_refl _)) _) _
      | (intro b hb e; have := HZ.out; unfold NewB at hb; simp at e; omega)
      | (intro b hb; have := HZ.out; unfold NewB at hb ⊢; simp; omega)
      | (have := HZ.out; unfold NewB; simp; omega)
      | (intro b hb; exact hb.2)
      | (intro b hb; have := hb.2; have := HZ.out; omega)
      | (intro b hb hb'; have := hb.2; have := hb'.1; omega)
  · go_wp2_with fail
    refine (term_any' g (m + 2) _ HC1.out (by omega)).mono ?_
    rintro e w2 ⟨_, rfl, ht3, hc2, hg2⟩
    have HC2 := Lib.hid hc2
    clear hc2
    have ⟨c2, f2⟩ := gcell hg2
    have hz2 := hg2.size
    (try simp at hz2)
    obtain ⟨s3, p3, k3, e3, rfl, -⟩ := ht3.form
    have HT3 := Lib.hid ht3
    clear ht3
    go_wp2_with fail
    refine (term_any' g (m + 2 + 30) _ HC2.out (by omega)).mono ?_
    rintro e w3 ⟨_, rfl, ht4, hc3, hg3⟩
    have HC3 := Lib.hid hc3
    clear hc3
    have ⟨c3, f3⟩ := gcell hg3
    have hz3 := hg3.size
    (try simp at hz3)
    obtain ⟨s4, p4, k4, e4, rfl, -⟩ := ht4.form
    have HT4 := Lib.hid ht4
    have HT3' := Lib.hid (HT3.out.mono (Nat.le_refl _) (Nat.le_refl _) (sameOn_grown hg3 (fun b hb => by have := hb.1; omega)) (fun _ h => h))
    have ⟨r0, r1, rf⟩ := row2_at (((gr_trans (gr_trans hg1 hg2) hg3).block w.heap.size (by simp) (by simpa using hne)).trans (heap_alloc_new w _))
    have z01 := bsz (show w.heap.size < w3.heap.size by omega)
    have HA := Lib.hid (gr_trans (gr_trans (gr_trans (gr_al (gr_refl w g) _) hg1) hg2) hg3)
    have HZ := Lib.hid (show w.heap.size < w1.heap.size ∧ w1.heap.size ≤ w2.heap.size ∧ w2.heap.size ≤ w3.heap.size by omega)
    clear hg1 hg2 hg3 c1 f1 c2 f2 c3 f3 HT3 ht4
    go_wp2_with fail
    have hN : (⟨#[61]⟩ : ByteArray).size = 1 := rfl
    refine bodyPost_ret (v := .agg #[.string ⟨#[61]⟩, .slice (some ⟨w3.heap.size, 0, none⟩) 2 2]) (by simp only [results, Tryz.results93]; go_simp) rfl ⟨_, rfl, GT.mono (GT.two (W' := 29) (S := NewB w1 w2) (T := NewB w2 w3) (HT3'.out.mono (Nat.le_refl _) (Nat.le_refl _) (((SameOn.refl _ _).sc ?_ _).sc ?_ _) (fun _ h => h)) (HT4.out.mono (Nat.le_refl _) (Nat.le_refl _) (((SameOn.refl _ _).sc ?_ _).sc ?_ _) (fun _ h => h)) (by simp) (by decide) ?_ ?_ ?_ ?_ ?_ ?_ (by omega)) (by omega) (by omega) (SameOn.refl _ _) (fun _ h => h), ?_, ?_⟩
    all_goals first
      | exact ((((HC3.out.more (by omega) (by omega)).sc hlt _).sc hlt _).al _)
      | exact gr_al (gr_sc (gr_sc HA.out (.inr (Nat.le_refl _)) _) (.inr (Nat.le_refl _)) _) _
      | (intro b hb e; have := HZ.out; unfold NewB at hb; simp at e; omega)
      | (intro b hb; have := HZ.out; unfold NewB at hb ⊢; simp; omega)
      | (have := HZ.out; unfold NewB; simp; omega)
      | (intro b hb; exact hb.2)
      | (intro b hb; have := hb.2; have := HZ.out; omega)
      | (intro b hb hb'; have := hb.2; have := hb'.1; omega)
  · have ⟨r0, r1, rf⟩ := agg2_cells hg1 rfl hne
    have z01 := bsz (show w.heap.size < w1.heap.size by omega)
    have HA := Lib.hid (gr_trans (gr_al (gr_refl w g) _) hg1)
    have hN : (⟨#[114]⟩ : ByteArray).size ≤ 1 := Nat.le_refl _
    clear hg1 c1 f1
    go_wp2_with fail
    refine bodyPost_ret (v := .agg #[.string ⟨#[114]⟩, .slice none 0 0]) (by simp only [results, Tryz.results93]; go_simp) rfl ⟨_, rfl, (GT.leaf (W := 1) _ _ _ hN (by decide)).mono (by omega) (by omega) (SameOn.refl _ _) (fun _ h => h), ?_, ?_⟩
    · exact ((HC1.out.more (by omega) (by omega)).sc hlt _).sc hlt _
    · exact gr_sc (gr_sc HA.out (.inr (Nat.le_refl _)) _) (.inr (Nat.le_refl _)) _
  · go_wp2_with fail
    refine (grown_any g 1 (m + 2) 2 _ HC1.out (by omega) (by omega) (by omega) (by omega)).mono ?_
    rintro e w2 ⟨_, rfl, ht3, hc2, hg2⟩
    have HC2 := Lib.hid hc2
    clear hc2
    have ⟨c2, f2⟩ := gcell hg2
    have hz2 := hg2.size
    (try simp at hz2)
    obtain ⟨s3, p3, k3, e3, rfl, -⟩ := ht3.form
    have HT3 := Lib.hid ht3
    clear ht3
    go_wp2_with fail
    refine (grown_any g 1 (m + 2 + (4 * 2 ^ (1 + 1) - 4)) 2 _ HC2.out (by omega) (by omega) (by omega) (by omega)).mono ?_
    rintro e w3 ⟨_, rfl, ht4, hc3, hg3⟩
    have HC3 := Lib.hid hc3
    clear hc3
    have ⟨c3, f3⟩ := gcell hg3
    have hz3 := hg3.size
    (try simp at hz3)
    obtain ⟨s4, p4, k4, e4, rfl, -⟩ := ht4.form
    have HT4 := Lib.hid ht4
    have HT3' := Lib.hid (HT3.out.mono (Nat.le_refl _) (Nat.le_refl _) (sameOn_grown hg3 (fun b hb => by have := hb.1; omega)) (fun _ h => h))
    have ⟨r0, r1, rf⟩ := row2_at (((gr_trans (gr_trans hg1 hg2) hg3).block w.heap.size (by simp) (by simpa using hne)).trans (heap_alloc_new w _))
    have z01 := bsz (show w.heap.size < w3.heap.size by omega)
    have HA := Lib.hid (gr_trans (gr_trans (gr_trans (gr_al (gr_refl w g) _) hg1) hg2) hg3)
    have HZ := Lib.hid (show w.heap.size < w1.heap.size ∧ w1.heap.size ≤ w2.heap.size ∧ w2.heap.size ≤ w3.heap.size by omega)
    clear hg1 hg2 hg3 c1 f1 c2 f2 c3 f3 HT3 ht4
    go_wp2_with fail
    have hN : (⟨#[113]⟩ : ByteArray).size = 1 := rfl
    refine bodyPost_ret (v := .agg #[.string ⟨#[113]⟩, .slice (some ⟨w3.heap.size, 0, none⟩) 2 2]) (by simp only [results, Tryz.results93]; go_simp) rfl ⟨_, rfl, GT.mono (GT.two (W' := 15) (S := NewB w1 w2) (T := NewB w2 w3) (HT3'.out.mono (Nat.le_refl _) (Nat.le_refl _) (((SameOn.refl _ _).sc ?_ _).sc ?_ _) (fun _ h => h)) (HT4.out.mono (Nat.le_refl _) (Nat.le_refl _) (((SameOn.refl _ _).sc ?_ _).sc ?_ _) (fun _ h => h)) (by simp) (by decide) ?_ ?_ ?_ ?_ ?_ ?_ (by omega)) (by omega) (by omega) (SameOn.refl _ _) (fun _ h => h), ?_, ?_⟩
    all_goals first
      | exact ((((HC3.out.more (by omega) (by omega)).sc hlt _).sc hlt _).al _)
      | exact gr_al (gr_sc (gr_sc HA.out (.inr (Nat.le_refl _)) _) (.inr (Nat.le_refl _)) _) _
      | (intro b hb e; have := HZ.out; unfold NewB at hb; simp at e; omega)
      | (intro b hb; have := HZ.out; unfold NewB at hb ⊢; simp; omega)
      | (have := HZ.out; unfold NewB; simp; omega)
      | (intro b hb; exact hb.2)
      | (intro b hb; have := hb.2; have := HZ.out; omega)
      | (intro b hb hb'; have := hb.2; have := hb'.1; omega)
  · go_wp2_with fail
    refine (grown_any g 1 (m + 2) 2 _ HC1.out (by omega) (by omega) (by omega) (by omega)).mono ?_
    rintro e w2 ⟨_, rfl, ht3, hc2, hg2⟩
    have HC2 := Lib.hid hc2
    clear hc2
    have ⟨c2, f2⟩ := gcell hg2
    have hz2 := hg2.size
    (try simp at hz2)
    obtain ⟨s3, p3, k3, e3, rfl, -⟩ := ht3.form
    have HT3 := Lib.hid ht3
    clear ht3
    go_wp2_with fail
    refine (grown_any g 1 (m + 2 + (4 * 2 ^ (1 + 1) - 4)) 2 _ HC2.out (by omega) (by omega) (by omega) (by omega)).mono ?_
    rintro e w3 ⟨_, rfl, ht4, hc3, hg3⟩
    have HC3 := Lib.hid hc3
    clear hc3
    have ⟨c3, f3⟩ := gcell hg3
    have hz3 := hg3.size
    (try simp at hz3)
    obtain ⟨s4, p4, k4, e4, rfl, -⟩ := ht4.form
    have HT4 := Lib.hid ht4
    have HT3' := Lib.hid (HT3.out.mono (Nat.le_refl _) (Nat.le_refl _) (sameOn_grown hg3 (fun b hb => by have := hb.1; omega)) (fun _ h => h))
    have ⟨r0, r1, rf⟩ := row2_at (((gr_trans (gr_trans hg1 hg2) hg3).block w.heap.size (by simp) (by simpa using hne)).trans (heap_alloc_new w _))
    have z01 := bsz (show w.heap.size < w3.heap.size by omega)
    have HA := Lib.hid (gr_trans (gr_trans (gr_trans (gr_al (gr_refl w g) _) hg1) hg2) hg3)
    have HZ := Lib.hid (show w.heap.size < w1.heap.size ∧ w1.heap.size ≤ w2.heap.size ∧ w2.heap.size ≤ w3.heap.size by omega)
    clear hg1 hg2 hg3 c1 f1 c2 f2 c3 f3 HT3 ht4
    go_wp2_with fail
    have hN : (⟨#[113]⟩ : ByteArray).size = 1 := rfl
    refine bodyPost_ret (v := .agg #[.string ⟨#[113]⟩, .slice (some ⟨w3.heap.size, 0, none⟩) 2 2]) (by simp only [results, Tryz.results93]; go_simp) rfl ⟨_, rfl, GT.mono (GT.two (W' := 15) (S := NewB w1 w2) (T := NewB w2 w3) (HT3'.out.mono (Nat.le_refl _) (Nat.le_refl _) (((SameOn.refl _ _).sc ?_ _).sc ?_ _) (fun _ h => h)) (HT4.out.mono (Nat.le_refl _) (Nat.le_refl _) (((SameOn.refl _ _).sc ?_ _).sc ?_ _) (fun _ h => h)) (by simp) (by decide) ?_ ?_ ?_ ?_ ?_ ?_ (by omega)) (by omega) (by omega) (SameOn.refl _ _) (fun _ h => h), ?_, ?_⟩
    all_goals first
      | exact ((((HC3.out.more (by omega) (by omega)).sc hlt _).sc hlt _).al _)
      | exact gr_al (gr_sc (gr_sc HA.out (.inr (Nat.le_refl _)) _) (.inr (Nat.le_refl _)) _) _
      | (intro b hb e; have := HZ.out; unfold NewB at hb; simp at e; omega)
      | (intro b hb; have := HZ.out; unfold NewB at hb ⊢; simp; omega)
      | (have := HZ.out; unfold NewB; simp; omega)
      | (intro b hb; exact hb.2)
      | (intro b hb; have := hb.2; have := HZ.out; omega)
      | (intro b hb hb'; have := hb.2; have := hb'.1; omega)
  · have e0 : (r == 0) = false := by simp; omega
    have e1 : (r == 1) = false := by simp; omega
    have e2 : (r == 2) = false := by simp; omega
    have e3 : (r == 3) = false := by simp; omega
    have e4 : (r == 4) = false := by simp; omega
    go_wp2_with fail
    refine (grown_any g 1 (m + 2) 2 _ HC1.out (by omega) (by omega) (by omega) (by omega)).mono ?_
    rintro e w2 ⟨_, rfl, ht3, hc2, hg2⟩
    have HC2 := Lib.hid hc2
    clear hc2
    have ⟨c2, f2⟩ := gcell hg2
    have hz2 := hg2.size
    (try simp at hz2)
    obtain ⟨s3, p3, k3, c3, rfl, -⟩ := ht3.form
    have ⟨r0, r1, rf⟩ := agg2_cells (gr_trans hg1 hg2) rfl hne
    have HT := Lib.hid ht3
    have z01 := bsz (show w.heap.size < w2.heap.size by omega)
    have HA := Lib.hid (gr_trans (gr_trans (gr_al (gr_refl w g) _) hg1) hg2)
    have HZ := Lib.hid (show w.heap.size < w1.heap.size ∧ w1.heap.size ≤ w2.heap.size by omega)
    clear hg1 hg2 c1 f1 c2 f2 ht3
    go_wp2_with fail
    have hN : (⟨#[112]⟩ : ByteArray).size = 1 := rfl
    refine bodyPost_ret (v := .agg #[.string ⟨#[112]⟩, .slice (some ⟨w2.heap.size, 0, none⟩) 1 1]) (by simp only [results, Tryz.results93]; go_simp) rfl ⟨_, rfl, GT.mono (GT.one (W' := 7) (S := NewB w1 w2) (HT.out.mono (Nat.le_refl _) (Nat.le_refl _) (((SameOn.refl _ _).sc ?_ _).sc ?_ _) (fun _ h => h)) (by simp) (by decide) ?_ ?_ ?_ (by omega)) (by omega) (by omega) (SameOn.refl _ _) (fun _ h => h), ?_, ?_⟩
    all_goals first
      | exact ((((HC2.out.more (by omega) (by omega)).sc hlt _).sc hlt _).al _)
      | exact gr_al (gr_sc (gr_sc HA.out (.inr (Nat.le_refl _)) _) (.inr (Nat.le_refl _)) _) _
      | (intro b hb e; have := HZ.out; unfold NewB at hb; simp at e; omega)
      | (intro b hb; have := HZ.out; unfold NewB at hb ⊢; simp; omega)
      | (have := HZ.out; unfold NewB; simp; omega)
      | (intro b hb; exact hb.2)
theorem block2_all {w : World} {g : Nat} {x y x' y' : Value} {t : TypeId} (h : w.heap[g]? = some (.cells #[x, y] t (0, 0))) :
    ((w.setCell ⟨g, 0, none⟩ x').setCell ⟨g, 1, none⟩ y').heap[g]? = some (.cells #[x', y'] t (0, 0)) := by
  have h1 := heap_setCell_same w g 0 #[x, y] t x' h
  have h2 := heap_setCell_same _ g 1 _ t y' h1
  simpa using h2
theorem block2_other {w : World} {g b : Nat} {x' y' : Value} (hb : b ≠ g) : ((w.setCell ⟨g, 0, none⟩ x').setCell ⟨g, 1, none⟩ y').heap[b]? = w.heap[b]? :=
  (heap_setCell_other _ ⟨g, 1, none⟩ b _ (fun e => hb e)).trans (heap_setCell_other _ ⟨g, 0, none⟩ b _ (fun e => hb e))
def TowRel (g m R B : Nat) (d0 : Int) (w : World) (v : Value) (wr : World) : Prop :=
  ∃ (n : Nat) (s : ByteArray) (p : Option Addr) (k c : Nat), n ≤ 9 ∧ ((n : Int) = 0 ∨ (n : Int) ≤ d0 - 1) ∧ v = .int .i64 (d0 - n) ∧ Cur wr g m ∧ w.grownBy wr (some g) ∧ wr.heap[R]? = some (.cells #[.string ⟨#[]⟩, .slice none 0 0] 26 (0, 0)) ∧
    wr.heap[B]? = some (.cells #[.string s, .slice p k c] 26 (0, 0)) ∧ GT (n + 1) (1 + 2 * n) (fun b => B < b ∧ b < wr.heap.size) wr (.agg #[.string s, .slice p k c])
set_option maxHeartbeats 1600000 in
theorem tower_any (g m : Nat) (d0 : Int) (w : World) (h : Cur w g m) (hm : m + 10 ≤ 1000000000) (hd : -1000 ≤ d0 ∧ d0 ≤ 10) :
    Calls Tryz.prog 97 #[.pointer (some ⟨g, 0, none⟩), .int .i64 d0] w (StepO g m 2 (fun w' v => GT 10 19 (NewB w w') w' v) w) := by
  have hlt := h.lt
  have H := Lib.hid h
  have hne : w.heap.size ≠ g := by omega
  clear h
  go_enter Tryz.func97, Tryz.ntmps97
  go_wp2_with fail
  refine (of_lit g m 1 2 (w.heap.size + 1) _ _ _ (by rfl) (by simp) (H.out.al _) (by omega) (by decide) (by decide) (by intro v hv; simp at hv; rcases hv with rfl | rfl <;> exact ⟨_, rfl, by decide⟩)).mono ?_
  rintro e w1 ⟨_, rfl, ⟨s1, rfl, hs1⟩, hc1, hg1⟩
  have HC1 := Lib.hid hc1
  clear hc1
  have ⟨c1, f1⟩ := gcell hg1
  have hz1 := hg1.size
  (try simp at hz1)
  have hR := (hg1.block w.heap.size (by simp; omega) (by simp; omega)).trans ((hao _ _ _ (by simp)).trans (heap_alloc_new w _))
  have hz01 : w.heap.size < w1.heap.size := by omega
  have HG1 := Lib.hid (gr_trans (gr_al (gr_al (gr_refl w g) _) _) hg1)
  have HS1 := Lib.hid (And.intro hs1 hR)
  clear hg1 c1 f1 hR hs1
  go_wp2_with fail
  go_loopw [1] (TowRel g (m + 2) w.heap.size w1.heap.size d0 w) (fun d _ => (intOf d).toNat)
  case atStart =>
    refine ⟨0, s1, none, 0, 0, by omega, .inl rfl, by simp, HC1.out.al _, gr_al HG1.out _, (hao _ _ _ hz01).trans HS1.out.2, heap_alloc_new _ _, GT.leaf _ _ _ HS1.out.1 (by decide)⟩
  case round =>
    obtain ⟨n, s, p, k, c, hn, hn2, rfl, hc, hgr, hR, hB, ht⟩ := hrel
    have ⟨r0, r1, rf⟩ := row2_at hR
    have ⟨b0, b1, bf⟩ := row2_at hB
    have zB := bsz (lt_of_block hB)
    have zR := bsz (lt_of_block hR)
    have HX := Lib.hid (And.intro hR hB)
    have HC := Lib.hid hc
    have HG := Lib.hid hgr
    have HT := Lib.hid ht
    clear hc hgr hR hB ht
    by_cases hlt1 : 1 < d0 - n
    · go_wp2_with fail
      have hN : (⟨#[102]⟩ : ByteArray).size = 1 := rfl
      have hzR := lt_of_block HX.out.1
      have hzB := lt_of_block HX.out.2
      refine ⟨⟨n + 1, _, _, _, _, by omega, .inr (by omega), by go_num, ((HC.out.sc (by show g < w1.heap.size; omega) _).sc (by show g < w1.heap.size; omega) _).al _, gr_al (gr_sc (gr_sc HG.out (.inr (by show w.heap.size ≤ w1.heap.size; omega)) _) (.inr (by show w.heap.size ≤ w1.heap.size; omega)) _) _,
        (hao _ _ _ (by simpa using hzR)).trans ((block2_other (by omega)).trans HX.out.1), (hao _ _ _ (by simpa using hzB)).trans (block2_all HX.out.2), GT.one (S := fun b => w1.heap.size < b ∧ b < wr.heap.size) (HT.out.mono (Nat.le_refl _) (Nat.le_refl _) (((SameOn.refl _ _).sc ?_ _).sc ?_ _) (fun _ h => h)) (by simp) (by decide) (fun b hb => hb.2) ?_ ?_ (by omega)⟩, by simp [intOf]; omega⟩
      · intro b hb e; simp at e; omega
      · intro b hb e; simp at e; omega
      · intro b hb; simp; omega
      · simp; omega
    · go_wp2_with fail
      refine bodyPost_ret (v := .agg #[.string s, .slice p k c]) (by simp only [results, Tryz.results97]; go_simp) rfl ⟨_, rfl, HT.out.mono (by omega) (by omega) (((SameOn.refl _ _).sc ?_ _).sc ?_ _) ?_, ?_, ?_⟩
      · intro b hb e; simp at e; omega
      · intro b hb e; simp at e; omega
      · intro b hb; unfold NewB; simp; omega
      · exact (HC.out.sc hlt _).sc hlt _
      · exact gr_sc (gr_sc HG.out (.inr (Nat.le_refl _)) _) (.inr (Nat.le_refl _)) _
section
variable {α : Type} (R : (Nat → Prop) → World → α → List Value → Prop)
def KeepR : Prop := ∀ (S S' : Nat → Prop) (w w' : World) (x : α) (cs : List Value), SameOn S w w' → (∀ b, S b → S' b) → R S w x cs → R S' w' x cs
end
def AppG (eT : TypeId) (sz bt ci : Nat) (CP : Value → World → Prop) (v : Value) (n : Nat) (W : World) (i j k : Nat) : Nat → (Nat → Value) → World → Prop
  | 0, _, w => w = W.drew
  | 1, u, w => CP (u i) w
  | 2, u, w => ∃ w1 cs, CP (.agg cs) w1 ∧ u j = .slice (some ⟨w1.heap.size, 0, none⟩) 1 1 ∧ w = w1.alloc (.cells cs eT)
  | 3, u, w => ∃ w1 cs, CP (.agg cs) w1 ∧ (∀ b xs, w1.ownsRow b eT sz v n xs → b ≤ w1.heap.size → w.ownsRow b eT sz (u k) (n + 1) (xs ++ cs.toList)) ∧ w1.grownBy w v.ownBlock ∧ NewRow v (u k) w1.heap.size ∧ w1.heap.size < w.heap.size
  | 4, u, w => ∃ w1 w3 cs, CP (.agg cs) w1 ∧ (∀ b xs, w1.ownsRow b eT sz v n xs → b ≤ w1.heap.size → w3.ownsRow b eT sz (u k) (n + 1) (xs ++ cs.toList)) ∧ w1.grownBy w3 v.ownBlock ∧ NewRow v (u k) w1.heap.size ∧ w1.heap.size < w3.heap.size ∧ w = w3.setCell ⟨bt, ci, none⟩ (u k)
  | _, _, _ => False
theorem AppG.cell {eT : TypeId} {sz g bt ci n i j k : Nat} {CP : Value → World → Prop} {v v' : Value} {W : World} (hG : ∀ x w', CP x w' → W.grownBy w' (some g)) {c o : Nat} (hc : W.cell? ⟨c, o, none⟩ = some v') (hne : c ≠ g) {m : Nat} (hm : m ≤ 2) {u : Nat → Value} {w : World} (h : AppG eT sz bt ci CP v n W i j k m u w) : w.cell? ⟨c, o, none⟩ = some v' := by
  match m, hm, h with
  | 0, _, h => obtain rfl : w = W.drew := h; exact hc
  | 1, _, h => exact grown_cell (hG _ _ h) hc (by simpa using hne)
  | 2, _, h =>
    obtain ⟨w1, cs, h1, _, rfl⟩ := h
    have h2 := grown_cell (hG _ _ h1) hc (by simpa using hne)
    exact (((Below.refl w1.heap.size w1).alloc (Nat.le_refl _) _).cell (World.block_lt_of_cell? w1 _ h2)).trans h2
def SetsTo (mk : Value → Obj) (ci : Nat) : Prop := ∀ (w : World) (bt : Nat) (v v' : Value), w.heap[bt]? = some (mk v) → (w.setCell ⟨bt, ci, none⟩ v').heap[bt]? = some (mk v')
end Go.Proofs.YtkgfanajgdelcaaGreat
