import Derived.Test.YtkgfanajgdelcaaGreatDoorUnPart11
namespace Go.Proofs.YtkgfanajgdelcaaGreatDoor
set_option maxRecDepth 100000
open Go.RowKit
def FmV (m : Nat) (S : Nat → Prop) (w : World) (t : Fm) (x : Value) : Prop := ∃ v0 v1 v2 v3 v4, x = .agg #[v0, v1, v2, v3, v4] ∧ FmOwn 41 44 m S w t [v0, v1, v2, v3, v4]
def NewB (w w' : World) (b : Nat) : Prop := w.heap.size ≤ b ∧ b < w'.heap.size
theorem opF_own {m : Nat} {S : Nat → Prop} {w : World} {op : Int} {ps : List Fm} {vp : Value} (ho : -9223372036854775808 ≤ op ∧ op ≤ 9223372036854775807) (h : OwnRow S w 44 5 (fun T f c => FmOwn 41 44 (m + 1) T w f c) vp ps) :
    FmOwn 41 44 (m + 2) S w (opF op ps) [.int .i64 op, .string ⟨#[]⟩, .slice none 0 0, .string ⟨#[]⟩, vp] :=
  ⟨_, _, _, fun _ => False, S, rfl, ho, Nat.zero_le _, ⟨_, rfl, Nat.zero_le _, OwnRow.nil _ _ _ _ _⟩, h, fun _ h => h.elim, fun _ h => h⟩
set_option maxHeartbeats 800000 in
theorem not_any (m : Nat) (S : Nat → Prop) (t : Fm) (x : Value) (w : World) (h : FmV (m + 1) S w t x) (hS : ∀ b, S b → b < w.heap.size) :
    Calls Tryz.prog 227 #[x] w fun e w' => ∃ y, e = .returned y ∧ FmV (m + 2) (fun b => S b ∨ NewB w w' b) w' (opF 4 [t]) y ∧ Below w.heap.size w w' := by
  obtain ⟨v0, v1, v2, v3, v4, rfl, hf⟩ := h
  obtain ⟨p, c, q, d, rfl, rfl, rfl, rfl, rfl, -⟩ := hf.form
  have HF := Lib.hid (And.intro hf hS)
  clear hf hS
  go_enter Tryz.func227, Tryz.ntmps227
  go_wp2
  refine bodyPost_ret (v := .agg #[.int .i64 4, .string ⟨#[]⟩, .slice none 0 0, .string ⟨#[]⟩, .slice (some ⟨w.heap.size + 1 + 1, 0, none⟩) 1 1]) (by simp only [results, Tryz.results227]; go_simp) rfl ⟨_, rfl, ⟨_, _, _, _, _, rfl, opF_own (by omega) ?_⟩, by exact bel⟩
  exact OwnRow.one' (S := S) (by simp) _ rfl (HF.out.1.later (by exact bel)) (fun b hb => by have := HF.out.2 b hb; omega) (fun b hb => .inl hb) (.inr ⟨by omega, by simp⟩)
set_option maxHeartbeats 800000 in
theorem binary_any (m : Nat) (op : Int) (ho : -9223372036854775808 ≤ op ∧ op ≤ 9223372036854775807) (S T : Nat → Prop) (t r : Fm) (x y : Value) (w : World) (h : FmV (m + 1) S w t x) (h' : FmV (m + 1) T w r y) (hS : ∀ b, S b → b < w.heap.size) (hT : ∀ b, T b → b < w.heap.size) (hST : ∀ b, S b → ¬ T b) :
    Calls Tryz.prog 259 #[.int .i64 op, x, y] w fun e w' => ∃ z, e = .returned z ∧ FmV (m + 2) (fun b => S b ∨ T b ∨ NewB w w' b) w' (opF op [t, r]) z ∧ Below w.heap.size w w' := by
  obtain ⟨v0, v1, v2, v3, v4, rfl, hf⟩ := h
  obtain ⟨p, c, q, d, rfl, rfl, rfl, rfl, rfl, -⟩ := hf.form
  obtain ⟨u0, u1, u2, u3, u4, rfl, hf'⟩ := h'
  obtain ⟨p', c', q', d', rfl, rfl, rfl, rfl, rfl, -⟩ := hf'.form
  have HF := Lib.hid (And.intro hf (And.intro hf' (And.intro hS (And.intro hT hST))))
  clear hf hS hf' hT hST
  go_enter Tryz.func259, Tryz.ntmps259
  go_wp2
  refine bodyPost_ret (v := .agg #[.int .i64 op, .string ⟨#[]⟩, .slice none 0 0, .string ⟨#[]⟩, .slice (some ⟨w.heap.size + 1 + 1 + 1, 0, none⟩) 2 2]) (by simp only [results, Tryz.results259]; go_simp) rfl ⟨_, rfl, ⟨_, _, _, _, _, rfl, opF_own ho ?_⟩, by exact bel⟩
  obtain ⟨h1, h2, h3, h4, h5⟩ := HF.out
  exact OwnRow.two' (S := S) (T := T) (by simp) _ _ _ rfl rfl rfl (h1.later (by exact bel)) (h2.later (by exact bel)) (fun b hb => by have := h3 b hb; omega) (fun b hb => by have := h4 b hb; omega) h5 (fun b hb => .inl hb) (fun b hb => .inr (.inl hb)) (.inr (.inr ⟨by omega, by simp⟩))
set_option maxHeartbeats 800000 in
theorem quantified_any (m : Nat) (op : Int) (ho : -9223372036854775808 ≤ op ∧ op ≤ 9223372036854775807) (v : List UInt8) (hv : v.length ≤ 1000000) (S : Nat → Prop) (t : Fm) (x : Value) (w : World) (h : FmV (m + 1) S w t x) (hS : ∀ b, S b → b < w.heap.size) :
    Calls Tryz.prog 226 #[.int .i64 op, .string ⟨v.toArray⟩, x] w fun e w' => ∃ y, e = .returned y ∧ FmV (m + 2) (fun b => S b ∨ NewB w w' b) w' (quantF op v t) y ∧ Below w.heap.size w w' := by
  obtain ⟨v0, v1, v2, v3, v4, rfl, hf⟩ := h
  obtain ⟨p, c, q, d, rfl, rfl, rfl, rfl, rfl, -⟩ := hf.form
  have HF := Lib.hid (And.intro hf hS)
  clear hf hS
  go_enter Tryz.func226, Tryz.ntmps226
  go_wp2
  refine bodyPost_ret (v := .agg #[.int .i64 op, .string ⟨#[]⟩, .slice none 0 0, .string ⟨v.toArray⟩, .slice (some ⟨w.heap.size + 1 + 1, 0, none⟩) 1 1]) (by simp only [results, Tryz.results226]; go_simp) rfl ⟨_, rfl, ⟨_, _, _, _, _, rfl, ⟨_, _, _, fun _ => False, _, rfl, ho, by show v.toArray.size ≤ _; unfold maxLen; simp; omega, ⟨_, rfl, Nat.zero_le _, OwnRow.nil _ _ _ _ _⟩, ?_, fun _ h => h.elim, fun _ h => h⟩⟩, by exact bel⟩
  exact OwnRow.one' (S := S) (by simp) _ rfl (HF.out.1.later (by exact bel)) (fun b hb => by have := HF.out.2 b hb; omega) (fun b hb => .inl hb) (.inr ⟨by omega, by simp⟩)
set_option maxHeartbeats 800000 in
theorem atomOf_any (m : Nat) (S : Nat → Prop) (t : Tm) (v0 v1 : Value) (w : World) (h : TmOwn 41 m S w t [v0, v1]) :
    Calls Tryz.prog 110 #[.agg #[v0, v1]] w fun e w' => ∃ y, e = .returned y ∧ FmV (m + 1) S w' (atomOfF t) y ∧ Below w.heap.size w w' := by
  obtain ⟨p, c, rfl, rfl, -⟩ := h.form
  have HF := Lib.hid h
  clear h
  go_enter Tryz.func110, Tryz.ntmps110
  go_wp2
  refine bodyPost_ret (v := .agg #[.int .i64 3, .string t.n, .slice p t.us.length c, .string ⟨#[]⟩, .slice none 0 0]) (by simp only [results, Tryz.results110]; go_simp) rfl ⟨_, rfl, ⟨_, _, _, _, _, rfl, ⟨_, _, _, S, fun _ => False, rfl, by omega, Nat.zero_le _, HF.out.below (by exact bel), OwnRow.nil _ _ _ _ _, fun b hb => ⟨hb, fun h => h⟩, fun _ h => h.elim⟩⟩, by exact bel⟩
def WordRel (T : TypeId) (g : Nat) (s : ByteArray) (k : Nat) (bad : Bool) (w : World) (wr : World) : Prop := ∃ j, k ≤ j ∧ j ≤ s.size ∧ (∀ i, k ≤ i → (h : i < j) → (h2 : i < s.size) → wordC s[i] = true) ∧ PAt T wr g s ⟨j, bad⟩ ∧ w.grownBy wr (some g)
set_option maxHeartbeats 3200000 in
theorem word_any (g : Nat) (s : ByteArray) (p : PSt) (w : World) (h : PAt 190 w g s p) (hp : p.pos ≤ s.size) (hs : s.size ≤ 1000000000000) :
    Calls Tryz.prog 224 #[.pointer (some ⟨g, 0, none⟩)] w (PStep 190 g s (pWord s.data.toList p).2 (fun v _ => v = .string ⟨(pWord s.data.toList p).1.toArray⟩) w) := by
  have H := Lib.hid h
  have hg := bsz h.lt
  obtain ⟨k, bad⟩ := p
  simp only at hp
  obtain ⟨c0, c1, c2, cf⟩ := h.cells
  simp only at c1 c2
  clear h
  go_enter Tryz.func224, Tryz.ntmps224
  go_wp2
  go_loopw [] (WordRel 190 g s k bad w) (fun wr => s.size - posOf wr g)
  case atStart => exact ⟨k, Nat.le_refl _, hp, fun i h1 h2 => absurd h2 (by omega), H.out, gr_refl w g⟩
  case round =>
    obtain ⟨j, hj1, hj2, hall, hP, hgr⟩ := hrel
    have HP := Lib.hid hP
    have HALL := Lib.hid hall
    have hPO := hP.posOf
    obtain ⟨d0, d1, d2, df⟩ := hP.cells
    simp only at d1 d2
    have hgw := bsz hP.lt
    clear hP hall c0 c1 c2 cf
    by_cases hlt : j < s.size
    · have hj3 : (j : Int) < s.size := by omega
      by_cases hw : wordC s[j] = true
      · have HW := Lib.hid hw
        rw [wordC, Bool.or_eq_true, Bool.or_eq_true, Bool.or_eq_true] at hw
        cases hlo : loC s[j]
        · cases hup : upC s[j]
          · cases hdi : diC s[j]
            · have h95 : ((s[j].toNat : Int) == 95) = true := by
                have : s[j] = 95 := by simpa [hlo, hup, hdi] using hw
                rw [this]; rfl
              clear hw
              go_wp2
              obtain ⟨C, HC0⟩ := class_of (InF wr.heap.size _ [(⟨g, 0, none⟩, .string s), (⟨g, 1, none⟩, .int .i64 (j : Nat)), (⟨g, 2, none⟩, .bool bad)] [] [])
              have HC := Lib.hid HC0
              clear HC0
              refine wp_region_flow (C := C) (by kernel_rfl) (by kernel_rfl) (fun L hL => (HC.out _ _).2 (InF.start (by first | (intro _ hs; cases hs; done) | (simp only [List.forall_mem_cons]; go_simp)) (by first | (intro _ hs; cases hs; done) | (simp only [List.forall_mem_cons]; go_simp)) (by first | (intro _ hs; cases hs; done) | (simp only [List.forall_mem_cons]; go_simp)) (by first | (intro _ hs; cases hs; done) | (simp only [List.forall_mem_cons]; go_simp)) L hL)) ?_
              repeat (first | ((first | apply flow_free rfl | (apply flow_yes; (case hw => go_simp))); (intro L w' hun hrd hC; have hC := (HC.out _ _).1 hC; have hb' := hC.below; (try have hw' : Below w.heap.size w w' := by first | exact Below.trans (by (repeat (first | with_reducible (first | exact bR _ _ | assumption | refine bA ?_ _ | refine bS ?_ (by first | exact Nat.le_refl _ | (simp; done) | (simp; omega)) _) | assumption | exact bR _ _ | refine bD ?_ | refine bN ?_ _ | refine bT ?_ (by assumption)))) hb' | ((repeat (first | with_reducible (first | exact bR _ _ | assumption | refine bA ?_ _ | refine bS ?_ (by first | exact Nat.le_refl _ | (simp; done) | (simp; omega)) _) | assumption | exact bR _ _ | refine bD ?_ | refine bN ?_ _ | refine bT ?_ (by assumption))); done)); have hf' := hC.cell; (try simp only [List.forall_mem_cons] at hf'); go_simp; first | exact ⟨(HC.out _ _).2 (hC.skip _ (by rfl)), rfl⟩ | (rw [if_neg]; (exact ⟨(HC.out _ _).2 (hC.skip _ (by rfl)), rfl⟩); omega) | (go_at_call 128; refine ((same_below (isLower_any _ _))).mono ?_; rintro e w1 ⟨rfl, hb1⟩; exact ⟨rfl, (HC.out _ _).2 ((hC.next (by first | (simp; done) | (simp; omega) | omega) hb1).skip _ (by rfl))⟩) | (go_at_call 158; refine ((same_below (isUpper_any _ _))).mono ?_; rintro e w1 ⟨rfl, hb1⟩; exact ⟨rfl, (HC.out _ _).2 ((hC.next (by first | (simp; done) | (simp; omega) | omega) hb1).skip _ (by rfl))⟩) | (go_at_call 129; refine ((same_below (isDigit_any _ _))).mono ?_; rintro e w1 ⟨rfl, hb1⟩; exact ⟨rfl, (HC.out _ _).2 ((hC.next (by first | (simp; done) | (simp; omega) | omega) hb1).skip _ (by rfl))⟩)); go_simp) | (apply flow_no; (case hw => (go_simp; try (intro hh; cases hh))); (intro L w' _ _ hC; exact (HC.out _ _).2 (((HC.out _ _).1 hC).skip _ (by rfl))); go_simp))
              refine flow_nil ?_
              intro L wz hL hz
              have hz := (HC.out _ _).1 hz
              have hbz := hz.below
              have hcz := hz.cell
              try simp only [List.forall_mem_cons] at hcz
              have hdz := hz.done
              try simp only [List.forall_mem_cons] at hdz
              (try have hwz : Below w.heap.size w wz := by first | exact Below.trans (by (repeat (first | with_reducible (first | exact bR _ _ | assumption | refine bA ?_ _ | refine bS ?_ (by first | exact Nat.le_refl _ | (simp; done) | (simp; omega)) _) | assumption | exact bR _ _ | refine bD ?_ | refine bN ?_ _ | refine bT ?_ (by assumption)))) hbz | ((repeat (first | with_reducible (first | exact bR _ _ | assumption | refine bA ?_ _ | refine bS ?_ (by first | exact Nat.le_refl _ | (simp; done) | (simp; omega)) _) | assumption | exact bR _ _ | refine bD ?_ | refine bN ?_ _ | refine bT ?_ (by assumption))); done))
              have hPz := HP.out.below hbz
              have HPZ := Lib.hid hPz
              obtain ⟨z0, z1, z2, zf⟩ := hPz.cells
              simp only at z1 z2
              have hgz := bsz hPz.lt
              clear hPz
              go_wp2
              rw [show ((j : Int) + 1) = ((j + 1 : Nat) : Int) by omega]
              have hP2 := HPZ.out.pos (j + 1)
              refine ⟨⟨j + 1, by omega, by omega, fun i h1 h2 h3 => ?_, hP2, gr_sc (gr_below hgr hbz) (.inl rfl) _⟩, by rw [hP2.posOf, hPO]; show s.size - (j + 1) < s.size - j; omega⟩
              by_cases e : i = j
              · subst e; exact HW.out
              · exact HALL.out i h1 (by omega) h3
            · clear hw
              go_wp2
              obtain ⟨C, HC0⟩ := class_of (InF wr.heap.size _ [(⟨g, 0, none⟩, .string s), (⟨g, 1, none⟩, .int .i64 (j : Nat)), (⟨g, 2, none⟩, .bool bad)] [] [])
              have HC := Lib.hid HC0
              clear HC0
              refine wp_region_flow (C := C) (by kernel_rfl) (by kernel_rfl) (fun L hL => (HC.out _ _).2 (InF.start (by first | (intro _ hs; cases hs; done) | (simp only [List.forall_mem_cons]; go_simp)) (by first | (intro _ hs; cases hs; done) | (simp only [List.forall_mem_cons]; go_simp)) (by first | (intro _ hs; cases hs; done) | (simp only [List.forall_mem_cons]; go_simp)) (by first | (intro _ hs; cases hs; done) | (simp only [List.forall_mem_cons]; go_simp)) L hL)) ?_
              repeat (first | ((first | apply flow_free rfl | (apply flow_yes; (case hw => go_simp))); (intro L w' hun hrd hC; have hC := (HC.out _ _).1 hC; have hb' := hC.below; (try have hw' : Below w.heap.size w w' := by first | exact Below.trans (by (repeat (first | with_reducible (first | exact bR _ _ | assumption | refine bA ?_ _ | refine bS ?_ (by first | exact Nat.le_refl _ | (simp; done) | (simp; omega)) _) | assumption | exact bR _ _ | refine bD ?_ | refine bN ?_ _ | refine bT ?_ (by assumption)))) hb' | ((repeat (first | with_reducible (first | exact bR _ _ | assumption | refine bA ?_ _ | refine bS ?_ (by first | exact Nat.le_refl _ | (simp; done) | (simp; omega)) _) | assumption | exact bR _ _ | refine bD ?_ | refine bN ?_ _ | refine bT ?_ (by assumption))); done)); have hf' := hC.cell; (try simp only [List.forall_mem_cons] at hf'); go_simp; first | exact ⟨(HC.out _ _).2 (hC.skip _ (by rfl)), rfl⟩ | (rw [if_neg]; (exact ⟨(HC.out _ _).2 (hC.skip _ (by rfl)), rfl⟩); omega) | (go_at_call 128; refine ((same_below (isLower_any _ _))).mono ?_; rintro e w1 ⟨rfl, hb1⟩; exact ⟨rfl, (HC.out _ _).2 ((hC.next (by first | (simp; done) | (simp; omega) | omega) hb1).skip _ (by rfl))⟩) | (go_at_call 158; refine ((same_below (isUpper_any _ _))).mono ?_; rintro e w1 ⟨rfl, hb1⟩; exact ⟨rfl, (HC.out _ _).2 ((hC.next (by first | (simp; done) | (simp; omega) | omega) hb1).skip _ (by rfl))⟩) | (go_at_call 129; refine ((same_below (isDigit_any _ _))).mono ?_; rintro e w1 ⟨rfl, hb1⟩; exact ⟨rfl, (HC.out _ _).2 ((hC.next (by first | (simp; done) | (simp; omega) | omega) hb1).skip _ (by rfl))⟩)); go_simp) | (apply flow_no; (case hw => (go_simp; try (intro hh; cases hh))); (intro L w' _ _ hC; exact (HC.out _ _).2 (((HC.out _ _).1 hC).skip _ (by rfl))); go_simp))
              refine flow_nil ?_
              intro L wz hL hz
              have hz := (HC.out _ _).1 hz
              have hbz := hz.below
              have hcz := hz.cell
              try simp only [List.forall_mem_cons] at hcz
              have hdz := hz.done
              try simp only [List.forall_mem_cons] at hdz
              (try have hwz : Below w.heap.size w wz := by first | exact Below.trans (by (repeat (first | with_reducible (first | exact bR _ _ | assumption | refine bA ?_ _ | refine bS ?_ (by first | exact Nat.le_refl _ | (simp; done) | (simp; omega)) _) | assumption | exact bR _ _ | refine bD ?_ | refine bN ?_ _ | refine bT ?_ (by assumption)))) hbz | ((repeat (first | with_reducible (first | exact bR _ _ | assumption | refine bA ?_ _ | refine bS ?_ (by first | exact Nat.le_refl _ | (simp; done) | (simp; omega)) _) | assumption | exact bR _ _ | refine bD ?_ | refine bN ?_ _ | refine bT ?_ (by assumption))); done))
              have hPz := HP.out.below hbz
              have HPZ := Lib.hid hPz
              obtain ⟨z0, z1, z2, zf⟩ := hPz.cells
              simp only at z1 z2
              have hgz := bsz hPz.lt
              clear hPz
              go_wp2
              rw [show ((j : Int) + 1) = ((j + 1 : Nat) : Int) by omega]
              have hP2 := HPZ.out.pos (j + 1)
              refine ⟨⟨j + 1, by omega, by omega, fun i h1 h2 h3 => ?_, hP2, gr_sc (gr_below hgr hbz) (.inl rfl) _⟩, by rw [hP2.posOf, hPO]; show s.size - (j + 1) < s.size - j; omega⟩
              by_cases e : i = j
              · subst e; exact HW.out
              · exact HALL.out i h1 (by omega) h3
          · clear hw
            go_wp2
            obtain ⟨C, HC0⟩ := class_of (InF wr.heap.size _ [(⟨g, 0, none⟩, .string s), (⟨g, 1, none⟩, .int .i64 (j : Nat)), (⟨g, 2, none⟩, .bool bad)] [] [])
            have HC := Lib.hid HC0
            clear HC0
            refine wp_region_flow (C := C) (by kernel_rfl) (by kernel_rfl) (fun L hL => (HC.out _ _).2 (InF.start (by first | (intro _ hs; cases hs; done) | (simp only [List.forall_mem_cons]; go_simp)) (by first | (intro _ hs; cases hs; done) | (simp only [List.forall_mem_cons]; go_simp)) (by first | (intro _ hs; cases hs; done) | (simp only [List.forall_mem_cons]; go_simp)) (by first | (intro _ hs; cases hs; done) | (simp only [List.forall_mem_cons]; go_simp)) L hL)) ?_
            repeat (first | ((first | apply flow_free rfl | (apply flow_yes; (case hw => go_simp))); (intro L w' hun hrd hC; have hC := (HC.out _ _).1 hC; have hb' := hC.below; (try have hw' : Below w.heap.size w w' := by first | exact Below.trans (by (repeat (first | with_reducible (first | exact bR _ _ | assumption | refine bA ?_ _ | refine bS ?_ (by first | exact Nat.le_refl _ | (simp; done) | (simp; omega)) _) | assumption | exact bR _ _ | refine bD ?_ | refine bN ?_ _ | refine bT ?_ (by assumption)))) hb' | ((repeat (first | with_reducible (first | exact bR _ _ | assumption | refine bA ?_ _ | refine bS ?_ (by first | exact Nat.le_refl _ | (simp; done) | (simp; omega)) _) | assumption | exact bR _ _ | refine bD ?_ | refine bN ?_ _ | refine bT ?_ (by assumption))); done)); have hf' := hC.cell; (try simp only [List.forall_mem_cons] at hf'); go_simp; first | exact ⟨(HC.out _ _).2 (hC.skip _ (by rfl)), rfl⟩ | (rw [if_neg]; (exact ⟨(HC.out _ _).2 (hC.skip _ (by rfl)), rfl⟩); omega) | (go_at_call 128; refine ((same_below (isLower_any _ _))).mono ?_; rintro e w1 ⟨rfl, hb1⟩; exact ⟨rfl, (HC.out _ _).2 ((hC.next (by first | (simp; done) | (simp; omega) | omega) hb1).skip _ (by rfl))⟩) | (go_at_call 158; refine ((same_below (isUpper_any _ _))).mono ?_; rintro e w1 ⟨rfl, hb1⟩; exact ⟨rfl, (HC.out _ _).2 ((hC.next (by first | (simp; done) | (simp; omega) | omega) hb1).skip _ (by rfl))⟩) | (go_at_call 129; refine ((same_below (isDigit_any _ _))).mono ?_; rintro e w1 ⟨rfl, hb1⟩; exact ⟨rfl, (HC.out _ _).2 ((hC.next (by first | (simp; done) | (simp; omega) | omega) hb1).skip _ (by rfl))⟩)); go_simp) | (apply flow_no; (case hw => (go_simp; try (intro hh; cases hh))); (intro L w' _ _ hC; exact (HC.out _ _).2 (((HC.out _ _).1 hC).skip _ (by rfl))); go_simp))
            refine flow_nil ?_
            intro L wz hL hz
            have hz := (HC.out _ _).1 hz
            have hbz := hz.below
            have hcz := hz.cell
            try simp only [List.forall_mem_cons] at hcz
            have hdz := hz.done
            try simp only [List.forall_mem_cons] at hdz
            (try have hwz : Below w.heap.size w wz := by first | exact Below.trans (by (repeat (first | with_reducible (first | exact bR _ _ | assumption | refine bA ?_ _ | refine bS ?_ (by first | exact Nat.le_refl _ | (simp; done) | (simp; omega)) _) | assumption | exact bR _ _ | refine bD ?_ | refine bN ?_ _ | refine bT ?_ (by assumption)))) hbz | ((repeat (first | with_reducible (first | exact bR _ _ | assumption | refine bA ?_ _ | refine bS ?_ (by first | exact Nat.le_refl _ | (simp; done) | (simp; omega)) _) | assumption | exact bR _ _ | refine bD ?_ | refine bN ?_ _ | refine bT ?_ (by assumption))); done))
            have hPz := HP.out.below hbz
            have HPZ := Lib.hid hPz
            obtain ⟨z0, z1, z2, zf⟩ := hPz.cells
            simp only at z1 z2
            have hgz := bsz hPz.lt
            clear hPz
            go_wp2
            rw [show ((j : Int) + 1) = ((j + 1 : Nat) : Int) by omega]
            have hP2 := HPZ.out.pos (j + 1)
            refine ⟨⟨j + 1, by omega, by omega, fun i h1 h2 h3 => ?_, hP2, gr_sc (gr_below hgr hbz) (.inl rfl) _⟩, by rw [hP2.posOf, hPO]; show s.size - (j + 1) < s.size - j; omega⟩
            by_cases e : i = j
            · subst e; exact HW.out
            · exact HALL.out i h1 (by omega) h3
        · clear hw
          go_wp2
          obtain ⟨C, HC0⟩ := class_of (InF wr.heap.size _ [(⟨g, 0, none⟩, .string s), (⟨g, 1, none⟩, .int .i64 (j : Nat)), (⟨g, 2, none⟩, .bool bad)] [] [])
          have HC := Lib.hid HC0
          clear HC0
          refine wp_region_flow (C := C) (by kernel_rfl) (by kernel_rfl) (fun L hL => (HC.out _ _).2 (InF.start (by first | (intro _ hs; cases hs; done) | (simp only [List.forall_mem_cons]; go_simp)) (by first | (intro _ hs; cases hs; done) | (simp only [List.forall_mem_cons]; go_simp)) (by first | (intro _ hs; cases hs; done) | (simp only [List.forall_mem_cons]; go_simp)) (by first | (intro _ hs; cases hs; done) | (simp only [List.forall_mem_cons]; go_simp)) L hL)) ?_
          repeat (first | ((first | apply flow_free rfl | (apply flow_yes; (case hw => go_simp))); (intro L w' hun hrd hC; have hC := (HC.out _ _).1 hC; have hb' := hC.below; (try have hw' : Below w.heap.size w w' := by first | exact Below.trans (by (repeat (first | with_reducible (first | exact bR _ _ | assumption | refine bA ?_ _ | refine bS ?_ (by first | exact Nat.le_refl _ | (simp; done) | (simp; omega)) _) | assumption | exact bR _ _ | refine bD ?_ | refine bN ?_ _ | refine bT ?_ (by assumption)))) hb' | ((repeat (first | with_reducible (first | exact bR _ _ | assumption | refine bA ?_ _ | refine bS ?_ (by first | exact Nat.le_refl _ | (simp; done) | (simp; omega)) _) | assumption | exact bR _ _ | refine bD ?_ | refine bN ?_ _ | refine bT ?_ (by assumption))); done)); have hf' := hC.cell; (try simp only [List.forall_mem_cons] at hf'); go_simp; first | exact ⟨(HC.out _ _).2 (hC.skip _ (by rfl)), rfl⟩ | (rw [if_neg]; (exact ⟨(HC.out _ _).2 (hC.skip _ (by rfl)), rfl⟩); omega) | (go_at_call 128; refine ((same_below (isLower_any _ _))).mono ?_; rintro e w1 ⟨rfl, hb1⟩; exact ⟨rfl, (HC.out _ _).2 ((hC.next (by first | (simp; done) | (simp; omega) | omega) hb1).skip _ (by rfl))⟩) | (go_at_call 158; refine ((same_below (isUpper_any _ _))).mono ?_; rintro e w1 ⟨rfl, hb1⟩; exact ⟨rfl, (HC.out _ _).2 ((hC.next (by first | (simp; done) | (simp; omega) | omega) hb1).skip _ (by rfl))⟩) | (go_at_call 129; refine ((same_below (isDigit_any _ _))).mono ?_; rintro e w1 ⟨rfl, hb1⟩; exact ⟨rfl, (HC.out _ _).2 ((hC.next (by first | (simp; done) | (simp; omega) | omega) hb1).skip _ (by rfl))⟩)); go_simp) | (apply flow_no; (case hw => (go_simp; try (intro hh; cases hh))); (intro L w' _ _ hC; exact (HC.out _ _).2 (((HC.out _ _).1 hC).skip _ (by rfl))); go_simp))
          refine flow_nil ?_
          intro L wz hL hz
          have hz := (HC.out _ _).1 hz
          have hbz := hz.below
          have hcz := hz.cell
          try simp only [List.forall_mem_cons] at hcz
          have hdz := hz.done
          try simp only [List.forall_mem_cons] at hdz
          (try have hwz : Below w.heap.size w wz := by first | exact Below.trans (by (repeat (first | with_reducible (first | exact bR _ _ | assumption | refine bA ?_ _ | refine bS ?_ (by first | exact Nat.le_refl _ | (simp; done) | (simp; omega)) _) | assumption | exact bR _ _ | refine bD ?_ | refine bN ?_ _ | refine bT ?_ (by assumption)))) hbz | ((repeat (first | with_reducible (first | exact bR _ _ | assumption | refine bA ?_ _ | refine bS ?_ (by first | exact Nat.le_refl _ | (simp; done) | (simp; omega)) _) | assumption | exact bR _ _ | refine bD ?_ | refine bN ?_ _ | refine bT ?_ (by assumption))); done))
          have hPz := HP.out.below hbz
          have HPZ := Lib.hid hPz
          obtain ⟨z0, z1, z2, zf⟩ := hPz.cells
          simp only at z1 z2
          have hgz := bsz hPz.lt
          clear hPz
          go_wp2
          rw [show ((j : Int) + 1) = ((j + 1 : Nat) : Int) by omega]
          have hP2 := HPZ.out.pos (j + 1)
          refine ⟨⟨j + 1, by omega, by omega, fun i h1 h2 h3 => ?_, hP2, gr_sc (gr_below hgr hbz) (.inl rfl) _⟩, by rw [hP2.posOf, hPO]; show s.size - (j + 1) < s.size - j; omega⟩
          by_cases e : i = j
          · subst e; exact HW.out
          · exact HALL.out i h1 (by omega) h3
      · have HSTOP := Lib.hid (show ∀ h : j < s.size, wordC s[j] = false from fun _ => by simpa using hw)
        rw [wordC, Bool.or_eq_true, Bool.or_eq_true, Bool.or_eq_true, not_or, not_or, not_or] at hw
        have hlo : loC s[j] = false := by simpa using hw.1.1.1
        have hup : upC s[j] = false := by simpa using hw.1.1.2
        have hdi : diC s[j] = false := by simpa using hw.1.2
        have h95 : ((s[j].toNat : Int) == 95) = false := by
          have : ¬ s[j] = 95 := by simpa using hw.2
          simp only [beq_eq_false_iff_ne, ne_eq]
          exact fun e => this (UInt8.toNat_inj.1 (show s[j].toNat = 95 by omega))
        clear hw
        have HWD := Lib.hid (show pWordL s.data.toList ⟨k, bad⟩ = (s.data.toList.drop k).take (j - k) from wordL_at HALL.out hj1 hj2 HSTOP.out)
        have hll : (pWordL s.data.toList ⟨k, bad⟩).length = j - k := by rw [HWD.out, List.length_take, List.length_drop, ← size_list]; omega
        have HLL := Lib.hid hll
        clear hll
        go_wp2
        obtain ⟨C, HC0⟩ := class_of (InF wr.heap.size _ [(⟨g, 0, none⟩, .string s), (⟨g, 1, none⟩, .int .i64 (j : Nat)), (⟨g, 2, none⟩, .bool bad)] [] [])
        have HC := Lib.hid HC0
        clear HC0
        refine wp_region_flow (C := C) (by kernel_rfl) (by kernel_rfl) (fun L hL => (HC.out _ _).2 (InF.start (by first | (intro _ hs; cases hs; done) | (simp only [List.forall_mem_cons]; go_simp)) (by first | (intro _ hs; cases hs; done) | (simp only [List.forall_mem_cons]; go_simp)) (by first | (intro _ hs; cases hs; done) | (simp only [List.forall_mem_cons]; go_simp)) (by first | (intro _ hs; cases hs; done) | (simp only [List.forall_mem_cons]; go_simp)) L hL)) ?_
        repeat (first | ((first | apply flow_free rfl | (apply flow_yes; (case hw => go_simp))); (intro L w' hun hrd hC; have hC := (HC.out _ _).1 hC; have hb' := hC.below; (try have hw' : Below w.heap.size w w' := by first | exact Below.trans (by (repeat (first | with_reducible (first | exact bR _ _ | assumption | refine bA ?_ _ | refine bS ?_ (by first | exact Nat.le_refl _ | (simp; done) | (simp; omega)) _) | assumption | exact bR _ _ | refine bD ?_ | refine bN ?_ _ | refine bT ?_ (by assumption)))) hb' | ((repeat (first | with_reducible (first | exact bR _ _ | assumption | refine bA ?_ _ | refine bS ?_ (by first | exact Nat.le_refl _ | (simp; done) | (simp; omega)) _) | assumption | exact bR _ _ | refine bD ?_ | refine bN ?_ _ | refine bT ?_ (by assumption))); done)); have hf' := hC.cell; (try simp only [List.forall_mem_cons] at hf'); go_simp; first | exact ⟨(HC.out _ _).2 (hC.skip _ (by rfl)), rfl⟩ | (rw [if_neg]; (exact ⟨(HC.out _ _).2 (hC.skip _ (by rfl)), rfl⟩); omega) | (go_at_call 128; refine ((same_below (isLower_any _ _))).mono ?_; rintro e w1 ⟨rfl, hb1⟩; exact ⟨rfl, (HC.out _ _).2 ((hC.next (by first | (simp; done) | (simp; omega) | omega) hb1).skip _ (by rfl))⟩) | (go_at_call 158; refine ((same_below (isUpper_any _ _))).mono ?_; rintro e w1 ⟨rfl, hb1⟩; exact ⟨rfl, (HC.out _ _).2 ((hC.next (by first | (simp; done) | (simp; omega) | omega) hb1).skip _ (by rfl))⟩) | (go_at_call 129; refine ((same_below (isDigit_any _ _))).mono ?_; rintro e w1 ⟨rfl, hb1⟩; exact ⟨rfl, (HC.out _ _).2 ((hC.next (by first | (simp; done) | (simp; omega) | omega) hb1).skip _ (by rfl))⟩)); go_simp) | (apply flow_no; (case hw => (go_simp; try (intro hh; cases hh))); (intro L w' _ _ hC; exact (HC.out _ _).2 (((HC.out _ _).1 hC).skip _ (by rfl))); go_simp))
        refine flow_nil ?_
        intro L wz hL hz
        have hz := (HC.out _ _).1 hz
        have hbz := hz.below
        have hcz := hz.cell
        try simp only [List.forall_mem_cons] at hcz
        have hdz := hz.done
        try simp only [List.forall_mem_cons] at hdz
        (try have hwz : Below w.heap.size w wz := by first | exact Below.trans (by (repeat (first | with_reducible (first | exact bR _ _ | assumption | refine bA ?_ _ | refine bS ?_ (by first | exact Nat.le_refl _ | (simp; done) | (simp; omega)) _) | assumption | exact bR _ _ | refine bD ?_ | refine bN ?_ _ | refine bT ?_ (by assumption)))) hbz | ((repeat (first | with_reducible (first | exact bR _ _ | assumption | refine bA ?_ _ | refine bS ?_ (by first | exact Nat.le_refl _ | (simp; done) | (simp; omega)) _) | assumption | exact bR _ _ | refine bD ?_ | refine bN ?_ _ | refine bT ?_ (by assumption))); done))
        have hPz := HP.out.below hbz
        have HPZ := Lib.hid hPz
        have hbz0 := hbz
        have hgr1 := gr_below hgr hbz
        obtain ⟨z0, z1, z2, zf⟩ := hPz.cells
        simp only at z1 z2
        have hgz := bsz hPz.lt
        clear hPz
        cases bad
        · by_cases hkj : k = j
          · have hk1 : ((k : Int) == (j : Int)) = true := by simp; omega
            go_wp2
            go_ret
            exact ⟨_, rfl, by rw [pWord_empty (by rw [HLL.out]; omega)]; rfl, by rw [pWord_empty (by rw [HLL.out]; omega), HLL.out]; have := HPZ.out.fail; simpa [show k + (j - k) = j by omega] using this, gr_sc hgr1 (.inl rfl) _⟩
          · have hk1 : ((k : Int) == (j : Int)) = false := by simp; omega
            go_wp2
            obtain ⟨C, HC0⟩ := class_of (InF wz.heap.size _ [(⟨g, 0, none⟩, .string s), (⟨g, 1, none⟩, .int .i64 (j : Nat)), (⟨g, 2, none⟩, .bool false)] [] [])
            have HC := Lib.hid HC0
            clear HC0
            refine wp_region_flow (C := C) (by kernel_rfl) (by kernel_rfl) (fun L hL => (HC.out _ _).2 (InF.start (by first | (intro _ hs; cases hs; done) | (simp only [List.forall_mem_cons]; go_simp)) (by first | (intro _ hs; cases hs; done) | (simp only [List.forall_mem_cons]; go_simp)) (by first | (intro _ hs; cases hs; done) | (simp only [List.forall_mem_cons]; go_simp)) (by first | (intro _ hs; cases hs; done) | (simp only [List.forall_mem_cons]; go_simp)) L hL)) ?_
            repeat (first | ((first | apply flow_free rfl | (apply flow_yes; (case hw => go_simp))); (intro L w' hun hrd hC; have hC := (HC.out _ _).1 hC; have hb' := hC.below; have hf' := hC.cell; (try simp only [List.forall_mem_cons] at hf'); go_simp; first | exact ⟨(HC.out _ _).2 (hC.skip _ (by rfl)), rfl⟩ | (rw [if_neg]; (exact ⟨(HC.out _ _).2 (hC.skip _ (by rfl)), rfl⟩); omega) | fail); go_simp) | (apply flow_no; (case hw => (go_simp; try (intro hh; cases hh))); (intro L w' _ _ hC; exact (HC.out _ _).2 (((HC.out _ _).1 hC).skip _ (by rfl))); go_simp))
            refine flow_nil ?_
            intro L wz hL hz
            have hz := (HC.out _ _).1 hz
            have hbz := hz.below
            have hcz := hz.cell
            try simp only [List.forall_mem_cons] at hcz
            have hdz := hz.done
            try simp only [List.forall_mem_cons] at hdz
            (try have hwz : Below w.heap.size w wz := by first | exact Below.trans (by (repeat (first | with_reducible (first | exact bR _ _ | assumption | refine bA ?_ _ | refine bS ?_ (by first | exact Nat.le_refl _ | (simp; done) | (simp; omega)) _) | assumption | exact bR _ _ | refine bD ?_ | refine bN ?_ _ | refine bT ?_ (by assumption)))) hbz | ((repeat (first | with_reducible (first | exact bR _ _ | assumption | refine bA ?_ _ | refine bS ?_ (by first | exact Nat.le_refl _ | (simp; done) | (simp; omega)) _) | assumption | exact bR _ _ | refine bD ?_ | refine bN ?_ _ | refine bT ?_ (by assumption))); done))
            go_wp2
            go_ret
            exact ⟨_, rfl, by rw [pWord_some (by rw [HLL.out]; omega), HWD.out]; exact congrArg Value.string (str_eq (by rw [extract_list, List.drop_take])), by rw [pWord_some (by rw [HLL.out]; omega), HLL.out, show k + (j - k) = j by omega]; exact HPZ.out.below hbz, gr_below hgr1 hbz⟩
        · go_wp2
          go_ret
          exact ⟨_, rfl, by rw [pWord_bad]; rfl, by rw [pWord_bad, HLL.out]; have := HPZ.out.fail; simpa [show k + (j - k) = j by omega] using this, gr_sc hgr1 (.inl rfl) _⟩
    · have HSTOP := Lib.hid (show ∀ h : j < s.size, wordC s[j] = false from fun h => absurd h hlt)
      have hj3 : ¬ (j : Int) < s.size := by omega
      have HWD := Lib.hid (show pWordL s.data.toList ⟨k, bad⟩ = (s.data.toList.drop k).take (j - k) from wordL_at HALL.out hj1 hj2 HSTOP.out)
      have hll : (pWordL s.data.toList ⟨k, bad⟩).length = j - k := by rw [HWD.out, List.length_take, List.length_drop, ← size_list]; omega
      have HLL := Lib.hid hll
      clear hll
      go_wp2
      obtain ⟨C, HC0⟩ := class_of (InF wr.heap.size _ [(⟨g, 0, none⟩, .string s), (⟨g, 1, none⟩, .int .i64 (j : Nat)), (⟨g, 2, none⟩, .bool bad)] [] [])
      have HC := Lib.hid HC0
      clear HC0
      refine wp_region_flow (C := C) (by kernel_rfl) (by kernel_rfl) (fun L hL => (HC.out _ _).2 (InF.start (by first | (intro _ hs; cases hs; done) | (simp only [List.forall_mem_cons]; go_simp)) (by first | (intro _ hs; cases hs; done) | (simp only [List.forall_mem_cons]; go_simp)) (by first | (intro _ hs; cases hs; done) | (simp only [List.forall_mem_cons]; go_simp)) (by first | (intro _ hs; cases hs; done) | (simp only [List.forall_mem_cons]; go_simp)) L hL)) ?_
      repeat (first | ((first | apply flow_free rfl | (apply flow_yes; (case hw => go_simp))); (intro L w' hun hrd hC; have hC := (HC.out _ _).1 hC; have hb' := hC.below; (try have hw' : Below w.heap.size w w' := by first | exact Below.trans (by (repeat (first | with_reducible (first | exact bR _ _ | assumption | refine bA ?_ _ | refine bS ?_ (by first | exact Nat.le_refl _ | (simp; done) | (simp; omega)) _) | assumption | exact bR _ _ | refine bD ?_ | refine bN ?_ _ | refine bT ?_ (by assumption)))) hb' | ((repeat (first | with_reducible (first | exact bR _ _ | assumption | refine bA ?_ _ | refine bS ?_ (by first | exact Nat.le_refl _ | (simp; done) | (simp; omega)) _) | assumption | exact bR _ _ | refine bD ?_ | refine bN ?_ _ | refine bT ?_ (by assumption))); done)); have hf' := hC.cell; (try simp only [List.forall_mem_cons] at hf'); go_simp; first | exact ⟨(HC.out _ _).2 (hC.skip _ (by rfl)), rfl⟩ | (rw [if_neg]; (exact ⟨(HC.out _ _).2 (hC.skip _ (by rfl)), rfl⟩); omega) | (go_at_call 128; refine ((same_below (isLower_any _ _))).mono ?_; rintro e w1 ⟨rfl, hb1⟩; exact ⟨rfl, (HC.out _ _).2 ((hC.next (by first | (simp; done) | (simp; omega) | omega) hb1).skip _ (by rfl))⟩) | (go_at_call 158; refine ((same_below (isUpper_any _ _))).mono ?_; rintro e w1 ⟨rfl, hb1⟩; exact ⟨rfl, (HC.out _ _).2 ((hC.next (by first | (simp; done) | (simp; omega) | omega) hb1).skip _ (by rfl))⟩) | (go_at_call 129; refine ((same_below (isDigit_any _ _))).mono ?_; rintro e w1 ⟨rfl, hb1⟩; exact ⟨rfl, (HC.out _ _).2 ((hC.next (by first | (simp; done) | (simp; omega) | omega) hb1).skip _ (by rfl))⟩)); go_simp) | (apply flow_no; (case hw => (go_simp; try (intro hh; cases hh))); (intro L w' _ _ hC; exact (HC.out _ _).2 (((HC.out _ _).1 hC).skip _ (by rfl))); go_simp))
      refine flow_nil ?_
      intro L wz hL hz
      have hz := (HC.out _ _).1 hz
      have hbz := hz.below
      have hcz := hz.cell
      try simp only [List.forall_mem_cons] at hcz
      have hdz := hz.done
      try simp only [List.forall_mem_cons] at hdz
      (try have hwz : Below w.heap.size w wz := by first | exact Below.trans (by (repeat (first | with_reducible (first | exact bR _ _ | assumption | refine bA ?_ _ | refine bS ?_ (by first | exact Nat.le_refl _ | (simp; done) | (simp; omega)) _) | assumption | exact bR _ _ | refine bD ?_ | refine bN ?_ _ | refine bT ?_ (by assumption)))) hbz | ((repeat (first | with_reducible (first | exact bR _ _ | assumption | refine bA ?_ _ | refine bS ?_ (by first | exact Nat.le_refl _ | (simp; done) | (simp; omega)) _) | assumption | exact bR _ _ | refine bD ?_ | refine bN ?_ _ | refine bT ?_ (by assumption))); done))
      have hPz := HP.out.below hbz
      have HPZ := Lib.hid hPz
      have hbz0 := hbz
      have hgr1 := gr_below hgr hbz
      obtain ⟨z0, z1, z2, zf⟩ := hPz.cells
      simp only at z1 z2
      have hgz := bsz hPz.lt
      clear hPz
      cases bad
      · by_cases hkj : k = j
        · have hk1 : ((k : Int) == (j : Int)) = true := by simp; omega
          go_wp2
          go_ret
          exact ⟨_, rfl, by rw [pWord_empty (by rw [HLL.out]; omega)]; rfl, by rw [pWord_empty (by rw [HLL.out]; omega), HLL.out]; have := HPZ.out.fail; simpa [show k + (j - k) = j by omega] using this, gr_sc hgr1 (.inl rfl) _⟩
        · have hk1 : ((k : Int) == (j : Int)) = false := by simp; omega
          go_wp2
          obtain ⟨C, HC0⟩ := class_of (InF wz.heap.size _ [(⟨g, 0, none⟩, .string s), (⟨g, 1, none⟩, .int .i64 (j : Nat)), (⟨g, 2, none⟩, .bool false)] [] [])
          have HC := Lib.hid HC0
          clear HC0
          refine wp_region_flow (C := C) (by kernel_rfl) (by kernel_rfl) (fun L hL => (HC.out _ _).2 (InF.start (by first | (intro _ hs; cases hs; done) | (simp only [List.forall_mem_cons]; go_simp)) (by first | (intro _ hs; cases hs; done) | (simp only [List.forall_mem_cons]; go_simp)) (by first | (intro _ hs; cases hs; done) | (simp only [List.forall_mem_cons]; go_simp)) (by first | (intro _ hs; cases hs; done) | (simp only [List.forall_mem_cons]; go_simp)) L hL)) ?_
          repeat (first | ((first | apply flow_free rfl | (apply flow_yes; (case hw => go_simp))); (intro L w' hun hrd hC; have hC := (HC.out _ _).1 hC; have hb' := hC.below; have hf' := hC.cell; (try simp only [List.forall_mem_cons] at hf'); go_simp; first | exact ⟨(HC.out _ _).2 (hC.skip _ (by rfl)), rfl⟩ | (rw [if_neg]; (exact ⟨(HC.out _ _).2 (hC.skip _ (by rfl)), rfl⟩); omega) | fail); go_simp) | (apply flow_no; (case hw => (go_simp; try (intro hh; cases hh))); (intro L w' _ _ hC; exact (HC.out _ _).2 (((HC.out _ _).1 hC).skip _ (by rfl))); go_simp))
          refine flow_nil ?_
          intro L wz hL hz
          have hz := (HC.out _ _).1 hz
          have hbz := hz.below
          have hcz := hz.cell
          try simp only [List.forall_mem_cons] at hcz
          have hdz := hz.done
          try simp only [List.forall_mem_cons] at hdz
          (try have hwz : Below w.heap.size w wz := by first | exact Below.trans (by (repeat (first | with_reducible (first | exact bR _ _ | assumption | refine bA ?_ _ | refine bS ?_ (by first | exact Nat.le_refl _ | (simp; done) | (simp; omega)) _) | assumption | exact bR _ _ | refine bD ?_ | refine bN ?_ _ | refine bT ?_ (by assumption)))) hbz | ((repeat (first | with_reducible (first | exact bR _ _ | assumption | refine bA ?_ _ | refine bS ?_ (by first | exact Nat.le_refl _ | (simp; done) | (simp; omega)) _) | assumption | exact bR _ _ | refine bD ?_ | refine bN ?_ _ | refine bT ?_ (by assumption))); done))
          go_wp2
          go_ret
          exact ⟨_, rfl, by rw [pWord_some (by rw [HLL.out]; omega), HWD.out]; exact congrArg Value.string (str_eq (by rw [extract_list, List.drop_take])), by rw [pWord_some (by rw [HLL.out]; omega), HLL.out, show k + (j - k) = j by omega]; exact HPZ.out.below hbz, gr_below hgr1 hbz⟩
      · go_wp2
        go_ret
        exact ⟨_, rfl, by rw [pWord_bad]; rfl, by rw [pWord_bad, HLL.out]; have := HPZ.out.fail; simpa [show k + (j - k) = j by omega] using this, gr_sc hgr1 (.inl rfl) _⟩
end Go.Proofs.YtkgfanajgdelcaaGreatDoor
