import Derived.Test.YtabkdonplmlbcaaGreatDoorStPart6
namespace Go.Proofs.YtabkdonplmlbcaaGreatDoor
set_option maxRecDepth 100000
open Go.RowKit
def WordRel (T : TypeId) (g : Nat) (s : ByteArray) (k : Nat) (bad : Bool) (w : World) (wr : World) : Prop := ∃ j, k ≤ j ∧ j ≤ s.size ∧ (∀ i, k ≤ i → (h : i < j) → (h2 : i < s.size) → wordC s[i] = true) ∧ PAt T wr g s ⟨j, bad⟩ ∧ w.grownBy wr (some g)
set_option maxHeartbeats 3200000 in
theorem word_any (g : Nat) (s : ByteArray) (p : PSt) (w : World) (h : PAt 35 w g s p) (hp : p.pos ≤ s.size) (hs : s.size ≤ 1000000000000) :
  Calls Tryz.prog 103 #[.pointer (some ⟨g, 0, none⟩)] w (PStep 35 g s (pWord s.data.toList p).2 (fun v _ => v = .string ⟨(pWord s.data.toList p).1.toArray⟩) w) := by
 have H := Lib.hid h
 have hg := bsz h.lt
 obtain ⟨k, bad⟩ := p
 simp only at hp
 obtain ⟨c0, c1, c2, cf⟩ := h.cells
 simp only at c1 c2
 clear h
 go_enter Tryz.func103, Tryz.ntmps103
 go_wp2
 go_loopw [] (WordRel 35 g s k bad w) (fun wr => s.size - posOf wr g)
 case atStart => exact ⟨k, Nat.le_refl _, hp, fun i h1 h2 => absurd h2 (by omega), H.out, gr_refl w g⟩
 case round =>
  obtain ⟨j, hj1, hj2, hall, hP, hgr⟩ := hrel
  have HP := Lib.hid hP
  have HALL := Lib.hid hall
  have hPO := hP.posOf
  obtain ⟨d0, d1, d2, df⟩ := hP.cells
  simp only at d1 d2
  have hgw := bsz hP.lt
  clear hP hall c0 c1 c2 cf
  by_cases hlt : j < s.size
  ·have hj3 : (j : Int) < s.size := by omega
   by_cases hw : wordC s[j] = true
   ·have HW := Lib.hid hw
    rw [wordC, Bool.or_eq_true, Bool.or_eq_true, Bool.or_eq_true] at hw
    cases hlo : loC s[j]
    ·cases hup : upC s[j]
     ·cases hdi : diC s[j]
      ·have h95 : ((s[j].toNat : Int) == 95) = true := by
        have : s[j] = 95 := by simpa [hlo, hup, hdi] using hw
        rw [this]; rfl
       clear hw
       go_wp2
       refine wp_region_flowC wr.heap.size [(⟨g, 0, none⟩, .string s), (⟨g, 1, none⟩, .int .i64 (j : Nat)), (⟨g, 2, none⟩, .bool bad)] (by kernel_rfl) (by kernel_rfl) (by first | (intro _ hs; cases hs; done) | (simp only [List.forall_mem_cons]; go_simp)) fun C HC => ?_
       repeat (first | ((first | apply flow_free rfl | (apply flow_yes; (case hw => go_simp))); (intro L w' hun hrd hC; have ⟨hC, hb', hf'⟩ := flO HC hC; (try simp only [List.forall_mem_cons] at hf'); go_simp; first | exact ⟨flS HC hC, rfl⟩ | (rw [if_neg]; (exact ⟨flS HC hC, rfl⟩); omega) | (go_at_call 139; refine ((same_below (isLower_any _ _))).mono ?_; rintro e w1 ⟨rfl, hb1⟩; exact ⟨rfl, flN HC hC (by first | (simp; done) | (simp; omega) | omega) hb1⟩) | (go_at_call 140; refine ((same_below (isUpper_any _ _))).mono ?_; rintro e w1 ⟨rfl, hb1⟩; exact ⟨rfl, flN HC hC (by first | (simp; done) | (simp; omega) | omega) hb1⟩) | (go_at_call 32; refine ((same_below (isDigit_any _ _))).mono ?_; rintro e w1 ⟨rfl, hb1⟩; exact ⟨rfl, flN HC hC (by first | (simp; done) | (simp; omega) | omega) hb1⟩)); go_simp) | (apply flow_noC HC; (case hw => (go_simp; try (intro hh; cases hh))); go_simp))
       refine flow_nil ?_
       intro L wz hL hz
       have ⟨_, hbz, hcz⟩ := flO HC hz
       try simp only [List.forall_mem_cons] at hcz
       have hPz := HP.out.below hbz
       have HPZ := Lib.hid hPz
       obtain ⟨z0, z1, z2, zf⟩ := hPz.cells
       simp only at z1 z2
       have hgz := bsz hPz.lt
       clear hPz
       go_wp2
       rw [show ((j : Int) + 1) = ((j + 1 : Nat) : Int) by omega]
       have hP2 := HPZ.out.pos (j + 1)
       refine ⟨⟨j + 1, by omega, by omega, fun i h1 h2 h3 => ?_, hP2, gr_sc (gr_below hgr hbz) (.inl rfl) _⟩, by rw [hP2.posOf, hPO]; show s.size - (j + 1) < s.size - j; omega⟩
       by_cases e : i = j
       ·subst e; exact HW.out
       ·exact HALL.out i h1 (by omega) h3
      ·clear hw
       go_wp2
       refine wp_region_flowC wr.heap.size [(⟨g, 0, none⟩, .string s), (⟨g, 1, none⟩, .int .i64 (j : Nat)), (⟨g, 2, none⟩, .bool bad)] (by kernel_rfl) (by kernel_rfl) (by first | (intro _ hs; cases hs; done) | (simp only [List.forall_mem_cons]; go_simp)) fun C HC => ?_
       repeat (first | ((first | apply flow_free rfl | (apply flow_yes; (case hw => go_simp))); (intro L w' hun hrd hC; have ⟨hC, hb', hf'⟩ := flO HC hC; (try simp only [List.forall_mem_cons] at hf'); go_simp; first | exact ⟨flS HC hC, rfl⟩ | (rw [if_neg]; (exact ⟨flS HC hC, rfl⟩); omega) | (go_at_call 139; refine ((same_below (isLower_any _ _))).mono ?_; rintro e w1 ⟨rfl, hb1⟩; exact ⟨rfl, flN HC hC (by first | (simp; done) | (simp; omega) | omega) hb1⟩) | (go_at_call 140; refine ((same_below (isUpper_any _ _))).mono ?_; rintro e w1 ⟨rfl, hb1⟩; exact ⟨rfl, flN HC hC (by first | (simp; done) | (simp; omega) | omega) hb1⟩) | (go_at_call 32; refine ((same_below (isDigit_any _ _))).mono ?_; rintro e w1 ⟨rfl, hb1⟩; exact ⟨rfl, flN HC hC (by first | (simp; done) | (simp; omega) | omega) hb1⟩)); go_simp) | (apply flow_noC HC; (case hw => (go_simp; try (intro hh; cases hh))); go_simp))
       refine flow_nil ?_
       intro L wz hL hz
       have ⟨_, hbz, hcz⟩ := flO HC hz
       try simp only [List.forall_mem_cons] at hcz
       have hPz := HP.out.below hbz
       have HPZ := Lib.hid hPz
       obtain ⟨z0, z1, z2, zf⟩ := hPz.cells
       simp only at z1 z2
       have hgz := bsz hPz.lt
       clear hPz
       go_wp2
       rw [show ((j : Int) + 1) = ((j + 1 : Nat) : Int) by omega]
       have hP2 := HPZ.out.pos (j + 1)
       refine ⟨⟨j + 1, by omega, by omega, fun i h1 h2 h3 => ?_, hP2, gr_sc (gr_below hgr hbz) (.inl rfl) _⟩, by rw [hP2.posOf, hPO]; show s.size - (j + 1) < s.size - j; omega⟩
       by_cases e : i = j
       ·subst e; exact HW.out
       ·exact HALL.out i h1 (by omega) h3
     ·clear hw
      go_wp2
      refine wp_region_flowC wr.heap.size [(⟨g, 0, none⟩, .string s), (⟨g, 1, none⟩, .int .i64 (j : Nat)), (⟨g, 2, none⟩, .bool bad)] (by kernel_rfl) (by kernel_rfl) (by first | (intro _ hs; cases hs; done) | (simp only [List.forall_mem_cons]; go_simp)) fun C HC => ?_
      repeat (first | ((first | apply flow_free rfl | (apply flow_yes; (case hw => go_simp))); (intro L w' hun hrd hC; have ⟨hC, hb', hf'⟩ := flO HC hC; (try simp only [List.forall_mem_cons] at hf'); go_simp; first | exact ⟨flS HC hC, rfl⟩ | (rw [if_neg]; (exact ⟨flS HC hC, rfl⟩); omega) | (go_at_call 139; refine ((same_below (isLower_any _ _))).mono ?_; rintro e w1 ⟨rfl, hb1⟩; exact ⟨rfl, flN HC hC (by first | (simp; done) | (simp; omega) | omega) hb1⟩) | (go_at_call 140; refine ((same_below (isUpper_any _ _))).mono ?_; rintro e w1 ⟨rfl, hb1⟩; exact ⟨rfl, flN HC hC (by first | (simp; done) | (simp; omega) | omega) hb1⟩) | (go_at_call 32; refine ((same_below (isDigit_any _ _))).mono ?_; rintro e w1 ⟨rfl, hb1⟩; exact ⟨rfl, flN HC hC (by first | (simp; done) | (simp; omega) | omega) hb1⟩)); go_simp) | (apply flow_noC HC; (case hw => (go_simp; try (intro hh; cases hh))); go_simp))
      refine flow_nil ?_
      intro L wz hL hz
      have ⟨_, hbz, hcz⟩ := flO HC hz
      try simp only [List.forall_mem_cons] at hcz
      have hPz := HP.out.below hbz
      have HPZ := Lib.hid hPz
      obtain ⟨z0, z1, z2, zf⟩ := hPz.cells
      simp only at z1 z2
      have hgz := bsz hPz.lt
      clear hPz
      go_wp2
      rw [show ((j : Int) + 1) = ((j + 1 : Nat) : Int) by omega]
      have hP2 := HPZ.out.pos (j + 1)
      refine ⟨⟨j + 1, by omega, by omega, fun i h1 h2 h3 => ?_, hP2, gr_sc (gr_below hgr hbz) (.inl rfl) _⟩, by rw [hP2.posOf, hPO]; show s.size - (j + 1) < s.size - j; omega⟩
      by_cases e : i = j
      ·subst e; exact HW.out
      ·exact HALL.out i h1 (by omega) h3
    ·clear hw
     go_wp2
     refine wp_region_flowC wr.heap.size [(⟨g, 0, none⟩, .string s), (⟨g, 1, none⟩, .int .i64 (j : Nat)), (⟨g, 2, none⟩, .bool bad)] (by kernel_rfl) (by kernel_rfl) (by first | (intro _ hs; cases hs; done) | (simp only [List.forall_mem_cons]; go_simp)) fun C HC => ?_
     repeat (first | ((first | apply flow_free rfl | (apply flow_yes; (case hw => go_simp))); (intro L w' hun hrd hC; have ⟨hC, hb', hf'⟩ := flO HC hC; (try simp only [List.forall_mem_cons] at hf'); go_simp; first | exact ⟨flS HC hC, rfl⟩ | (rw [if_neg]; (exact ⟨flS HC hC, rfl⟩); omega) | (go_at_call 139; refine ((same_below (isLower_any _ _))).mono ?_; rintro e w1 ⟨rfl, hb1⟩; exact ⟨rfl, flN HC hC (by first | (simp; done) | (simp; omega) | omega) hb1⟩) | (go_at_call 140; refine ((same_below (isUpper_any _ _))).mono ?_; rintro e w1 ⟨rfl, hb1⟩; exact ⟨rfl, flN HC hC (by first | (simp; done) | (simp; omega) | omega) hb1⟩) | (go_at_call 32; refine ((same_below (isDigit_any _ _))).mono ?_; rintro e w1 ⟨rfl, hb1⟩; exact ⟨rfl, flN HC hC (by first | (simp; done) | (simp; omega) | omega) hb1⟩)); go_simp) | (apply flow_noC HC; (case hw => (go_simp; try (intro hh; cases hh))); go_simp))
     refine flow_nil ?_
     intro L wz hL hz
     have ⟨_, hbz, hcz⟩ := flO HC hz
     try simp only [List.forall_mem_cons] at hcz
     have hPz := HP.out.below hbz
     have HPZ := Lib.hid hPz
     obtain ⟨z0, z1, z2, zf⟩ := hPz.cells
     simp only at z1 z2
     have hgz := bsz hPz.lt
     clear hPz
     go_wp2
     rw [show ((j : Int) + 1) = ((j + 1 : Nat) : Int) by omega]
     have hP2 := HPZ.out.pos (j + 1)
     refine ⟨⟨j + 1, by omega, by omega, fun i h1 h2 h3 => ?_, hP2, gr_sc (gr_below hgr hbz) (.inl rfl) _⟩, by rw [hP2.posOf, hPO]; show s.size - (j + 1) < s.size - j; omega⟩
     by_cases e : i = j
     ·subst e; exact HW.out
     ·exact HALL.out i h1 (by omega) h3
   ·have HSTOP := Lib.hid (show ∀ h : j < s.size, wordC s[j] = false from fun _ => by simpa using hw)
    rw [wordC, Bool.or_eq_true, Bool.or_eq_true, Bool.or_eq_true, not_or, not_or, not_or] at hw
    have hlo : loC s[j] = false := by simpa using hw.1.1.1
    have hup : upC s[j] = false := by simpa using hw.1.1.2
    have hdi : diC s[j] = false := by simpa using hw.1.2
    have h95 : ((s[j].toNat : Int) == 95) = false := by
     have : ¬ s[j] = 95 := by simpa using hw.2
     simp only [beq_eq_false_iff_ne, ne_eq]
     exact fun e => this (UInt8.toNat_inj.1 (show s[j].toNat = 95 by omega))
    clear hw
    have HWD := Lib.hid (show pWordL s.data.toList ⟨k, bad⟩ = (s.data.toList.drop k).take (j - k) from wordL_at HALL.out hj1 hj2 HSTOP.out)
    have hll : (pWordL s.data.toList ⟨k, bad⟩).length = j - k := by rw [HWD.out, List.length_take, List.length_drop, ← size_list]; omega
    have HLL := Lib.hid hll
    clear hll
    go_wp2
    refine wp_region_flowC wr.heap.size [(⟨g, 0, none⟩, .string s), (⟨g, 1, none⟩, .int .i64 (j : Nat)), (⟨g, 2, none⟩, .bool bad)] (by kernel_rfl) (by kernel_rfl) (by first | (intro _ hs; cases hs; done) | (simp only [List.forall_mem_cons]; go_simp)) fun C HC => ?_
    repeat (first | ((first | apply flow_free rfl | (apply flow_yes; (case hw => go_simp))); (intro L w' hun hrd hC; have ⟨hC, hb', hf'⟩ := flO HC hC; (try simp only [List.forall_mem_cons] at hf'); go_simp; first | exact ⟨flS HC hC, rfl⟩ | (rw [if_neg]; (exact ⟨flS HC hC, rfl⟩); omega) | (go_at_call 139; refine ((same_below (isLower_any _ _))).mono ?_; rintro e w1 ⟨rfl, hb1⟩; exact ⟨rfl, flN HC hC (by first | (simp; done) | (simp; omega) | omega) hb1⟩) | (go_at_call 140; refine ((same_below (isUpper_any _ _))).mono ?_; rintro e w1 ⟨rfl, hb1⟩; exact ⟨rfl, flN HC hC (by first | (simp; done) | (simp; omega) | omega) hb1⟩) | (go_at_call 32; refine ((same_below (isDigit_any _ _))).mono ?_; rintro e w1 ⟨rfl, hb1⟩; exact ⟨rfl, flN HC hC (by first | (simp; done) | (simp; omega) | omega) hb1⟩)); go_simp) | (apply flow_noC HC; (case hw => (go_simp; try (intro hh; cases hh))); go_simp))
    refine flow_nil ?_
    intro L wz hL hz
    have ⟨_, hbz, hcz⟩ := flO HC hz
    try simp only [List.forall_mem_cons] at hcz
    have hPz := HP.out.below hbz
    have HPZ := Lib.hid hPz
    have hbz0 := hbz
    have hgr1 := gr_below hgr hbz
    obtain ⟨z0, z1, z2, zf⟩ := hPz.cells
    simp only at z1 z2
    have hgz := bsz hPz.lt
    clear hPz
    cases bad
    ·by_cases hkj : k = j
     ·have hk1 : ((k : Int) == (j : Int)) = true := by simp; omega
      go_wp2
      go_ret
      exact ⟨_, rfl, by rw [pWord_empty (by rw [HLL.out]; omega)]; rfl, by rw [pWord_empty (by rw [HLL.out]; omega), HLL.out]; have := HPZ.out.fail; simpa [show k + (j - k) = j by omega] using this, gr_sc hgr1 (.inl rfl) _⟩
     ·have hk1 : ((k : Int) == (j : Int)) = false := by simp; omega
      go_wp2
      refine wp_region_flowC wz.heap.size [(⟨g, 0, none⟩, .string s), (⟨g, 1, none⟩, .int .i64 (j : Nat)), (⟨g, 2, none⟩, .bool false)] (by kernel_rfl) (by kernel_rfl) (by first | (intro _ hs; cases hs; done) | (simp only [List.forall_mem_cons]; go_simp)) fun C HC => ?_
      repeat (first | ((first | apply flow_free rfl | (apply flow_yes; (case hw => go_simp))); (intro L w' hun hrd hC; have ⟨hC, hb', hf'⟩ := flO HC hC; (try simp only [List.forall_mem_cons] at hf'); go_simp; first | exact ⟨flS HC hC, rfl⟩ | (rw [if_neg]; (exact ⟨flS HC hC, rfl⟩); omega) | fail); go_simp) | (apply flow_noC HC; (case hw => (go_simp; try (intro hh; cases hh))); go_simp))
      refine flow_nil ?_
      intro L wz hL hz
      have ⟨_, hbz, hcz⟩ := flO HC hz
      try simp only [List.forall_mem_cons] at hcz
      go_wp2
      go_ret
      exact ⟨_, rfl, by rw [pWord_some (by rw [HLL.out]; omega), HWD.out]; exact congrArg Value.string (str_eq (by rw [extract_list, List.drop_take])), by rw [pWord_some (by rw [HLL.out]; omega), HLL.out, show k + (j - k) = j by omega]; exact HPZ.out.below hbz, gr_below hgr1 hbz⟩
    ·go_wp2
     go_ret
     exact ⟨_, rfl, by rw [pWord_bad]; rfl, by rw [pWord_bad, HLL.out]; have := HPZ.out.fail; simpa [show k + (j - k) = j by omega] using this, gr_sc hgr1 (.inl rfl) _⟩
  ·have HSTOP := Lib.hid (show ∀ h : j < s.size, wordC s[j] = false from fun h => absurd h hlt)
   have hj3 : ¬ (j : Int) < s.size := by omega
   have HWD := Lib.hid (show pWordL s.data.toList ⟨k, bad⟩ = (s.data.toList.drop k).take (j - k) from wordL_at HALL.out hj1 hj2 HSTOP.out)
   have hll : (pWordL s.data.toList ⟨k, bad⟩).length = j - k := by rw [HWD.out, List.length_take, List.length_drop, ← size_list]; omega
   have HLL := Lib.hid hll
   clear hll
   go_wp2
   refine wp_region_flowC wr.heap.size [(⟨g, 0, none⟩, .string s), (⟨g, 1, none⟩, .int .i64 (j : Nat)), (⟨g, 2, none⟩, .bool bad)] (by kernel_rfl) (by kernel_rfl) (by first | (intro _ hs; cases hs; done) | (simp only [List.forall_mem_cons]; go_simp)) fun C HC => ?_
   repeat (first | ((first | apply flow_free rfl | (apply flow_yes; (case hw => go_simp))); (intro L w' hun hrd hC; have ⟨hC, hb', hf'⟩ := flO HC hC; (try simp only [List.forall_mem_cons] at hf'); go_simp; first | exact ⟨flS HC hC, rfl⟩ | (rw [if_neg]; (exact ⟨flS HC hC, rfl⟩); omega) | (go_at_call 139; refine ((same_below (isLower_any _ _))).mono ?_; rintro e w1 ⟨rfl, hb1⟩; exact ⟨rfl, flN HC hC (by first | (simp; done) | (simp; omega) | omega) hb1⟩) | (go_at_call 140; refine ((same_below (isUpper_any _ _))).mono ?_; rintro e w1 ⟨rfl, hb1⟩; exact ⟨rfl, flN HC hC (by first | (simp; done) | (simp; omega) | omega) hb1⟩) | (go_at_call 32; refine ((same_below (isDigit_any _ _))).mono ?_; rintro e w1 ⟨rfl, hb1⟩; exact ⟨rfl, flN HC hC (by first | (simp; done) | (simp; omega) | omega) hb1⟩)); go_simp) | (apply flow_noC HC; (case hw => (go_simp; try (intro hh; cases hh))); go_simp))
   refine flow_nil ?_
   intro L wz hL hz
   have ⟨_, hbz, hcz⟩ := flO HC hz
   try simp only [List.forall_mem_cons] at hcz
   have hPz := HP.out.below hbz
   have HPZ := Lib.hid hPz
   have hbz0 := hbz
   have hgr1 := gr_below hgr hbz
   obtain ⟨z0, z1, z2, zf⟩ := hPz.cells
   simp only at z1 z2
   have hgz := bsz hPz.lt
   clear hPz
   cases bad
   ·by_cases hkj : k = j
    ·have hk1 : ((k : Int) == (j : Int)) = true := by simp; omega
     go_wp2
     go_ret
     exact ⟨_, rfl, by rw [pWord_empty (by rw [HLL.out]; omega)]; rfl, by rw [pWord_empty (by rw [HLL.out]; omega), HLL.out]; have := HPZ.out.fail; simpa [show k + (j - k) = j by omega] using this, gr_sc hgr1 (.inl rfl) _⟩
    ·have hk1 : ((k : Int) == (j : Int)) = false := by simp; omega
     go_wp2
     refine wp_region_flowC wz.heap.size [(⟨g, 0, none⟩, .string s), (⟨g, 1, none⟩, .int .i64 (j : Nat)), (⟨g, 2, none⟩, .bool false)] (by kernel_rfl) (by kernel_rfl) (by first | (intro _ hs; cases hs; done) | (simp only [List.forall_mem_cons]; go_simp)) fun C HC => ?_
     repeat (first | ((first | apply flow_free rfl | (apply flow_yes; (case hw => go_simp))); (intro L w' hun hrd hC; have ⟨hC, hb', hf'⟩ := flO HC hC; (try simp only [List.forall_mem_cons] at hf'); go_simp; first | exact ⟨flS HC hC, rfl⟩ | (rw [if_neg]; (exact ⟨flS HC hC, rfl⟩); omega) | fail); go_simp) | (apply flow_noC HC; (case hw => (go_simp; try (intro hh; cases hh))); go_simp))
     refine flow_nil ?_
     intro L wz hL hz
     have ⟨_, hbz, hcz⟩ := flO HC hz
     try simp only [List.forall_mem_cons] at hcz
     go_wp2
     go_ret
     exact ⟨_, rfl, by rw [pWord_some (by rw [HLL.out]; omega), HWD.out]; exact congrArg Value.string (str_eq (by rw [extract_list, List.drop_take])), by rw [pWord_some (by rw [HLL.out]; omega), HLL.out, show k + (j - k) = j by omega]; exact HPZ.out.below hbz, gr_below hgr1 hbz⟩
   ·go_wp2
    go_ret
    exact ⟨_, rfl, by rw [pWord_bad]; rfl, by rw [pWord_bad, HLL.out]; have := HPZ.out.fail; simpa [show k + (j - k) = j by omega] using this, gr_sc hgr1 (.inl rfl) _⟩
def TermC (f : Nat) : Prop := ∀ (g : Nat) (s : ByteArray) (p : PSt) (w : World), PAt 35 w g s p → p.pos ≤ s.size → s.size ≤ 1000000 → s.size - p.pos < f →
  Calls Tryz.prog 141 #[.pointer (some ⟨g, 0, none⟩)] w fun e w' => ∃ x, e = .returned x ∧ TermP 64 g w.heap.size s f (pTerm s.data.toList f p).1 (pTerm s.data.toList f p).2 35 w x w'
def ArgRel (ro : Obj) (w : World) (g rb bt : Nat) (s : ByteArray) (n : List UInt8) (sep : List UInt8) (f : Nat) (all : List Tm) (pe : PSt) (wr : World) : Prop :=
 ∃ (f' : Nat) (p' : PSt) (v : Value) (xs : List Tm), TSt 64 35 ro w g rb bt s n p' v xs f wr ∧ f' ≤ f ∧ xs ++ (pArgs s.data.toList sep f' p').1 = all ∧ (pArgs s.data.toList sep f' p').2 = pe ∧ s.size - p'.pos < f' ∧ p'.pos ≤ s.size ∧ xs.length ≤ p'.pos
set_option maxHeartbeats 3200000 in
theorem term_any : ∀ f : Nat, TermC f := by
 intro f
 induction f using Nat.strongRecOn with
 | _ f0 ih =>
  intro g s p w h hp hs hf
  obtain ⟨f, rfl⟩ : ∃ f, f0 = f + 1 := ⟨f0 - 1, by omega⟩
  have IH := Lib.hid ih
  have H := Lib.hid h
  have hg := bsz h.lt
  clear h ih
  go_enter Tryz.func141, Tryz.ntmps141
  go_wp2_with fail
  refine (word_any g s p _ (H.out.below (by exact bel)) hp (by omega)).mono ?_
  rintro e w1 ⟨v, rfl, rfl, h1, hg1⟩
  have ⟨c1, f1⟩ := gcell hg1
  have hz1 := hg1.size
  (try simp at hz1)
  have hw1 := pWord_pos s.data.toList p hp
  have HD := Lib.hid (show pTerm s.data.toList (f + 1) p = _ from rfl)
  rw [← size_list] at hw1
  have hwn := pWord_len s.data.toList p
  rw [← size_list] at hwn
  generalize hpw : pWord s.data.toList p = q at *
  obtain ⟨n, p1⟩ := q
  have HPW := Lib.hid hpw
  have H1 := Lib.hid h1
  clear hpw h1
  simp only at hw1 H1 hwn
  cases hT : pTake s.data.toList [40] p1
  ·have HT := Lib.hid hT
   have HFIN := Lib.hid (show pTerm s.data.toList (f + 1) p = (.mk ⟨n.toArray⟩ [], p1) by rw [pTerm, HPW.out, hT]; rfl)
   go_wp2_with fail
   refine (take_any g s ⟨#[40]⟩ p1 _ (H1.out.below (by exact bel)) hw1.2 (by omega) (by decide)).mono ?_
   rw [show (⟨#[40]⟩ : ByteArray).data.toList = [40] from rfl, HT.out]
   rintro e w2 ⟨v, rfl, rfl, h2, hg2⟩
   have HTS : Hid (TSt 64 35 (.cells #[.string ⟨#[]⟩, .slice none 0 0] 64 (0, 0)) w g w.heap.size w1.heap.size s n p1 (.slice none 0 0) [] f w2) := Lib.hid (TSt.init (by omega) hg1 hg2 h2)
   clear h2 hg2
   obtain ⟨b0, b1, -⟩ := cells2_cell HTS.out.cell
   obtain ⟨r0, r1, rf⟩ := cells2_cell HTS.out.res
   go_wp2
   refine bodyPost_ret (v := .agg #[.string ⟨n.toArray⟩, .slice none 0 0]) (by simp only [results, Tryz.results141]; go_simp) rfl ⟨_, rfl, ?_⟩
   rw [HFIN.out]
   exact HTS.out.done (by omega) _ _
  ·have HT := Lib.hid hT
   have hle := pTake_le hT (by rw [← size_list]; exact hw1.2)
   go_wp2_with fail
   refine (take_any g s ⟨#[40]⟩ p1 _ (H1.out.below (by exact bel)) hw1.2 (by omega) (by decide)).mono ?_
   rw [show (⟨#[40]⟩ : ByteArray).data.toList = [40] from rfl, HT.out]
   rintro e w2 ⟨v, rfl, rfl, h2, hg2⟩
   have ⟨c2, f2⟩ := gcell hg2
   have hz2 := hg2.size
   (try simp at hz2)
   have HTS : Hid (TSt 64 35 (.cells #[.string ⟨#[]⟩, .slice none 0 0] 64 (0, 0)) w g w.heap.size w1.heap.size s n (pAdv [40] p1) (.slice none 0 0) [] f w2) := Lib.hid (TSt.init (by omega) hg1 hg2 h2)
   have HBT := Lib.hid (show w2.cell? ⟨w1.heap.size, 1, none⟩ = some (.slice none 0 0) by rw [cell_of_row w2 _ 1 _ _ (0, 0) HTS.out.cell]; rfl)
   have HNE := Lib.hid (show w1.heap.size ≠ g by have := HTS.out.lt; omega)
   go_wp2
   obtain ⟨tq, htq⟩ : ∃ tq, (pTerm s.data.toList f (pAdv [40] p1)).1 = tq := ⟨_, rfl⟩
   obtain ⟨pq, hpq⟩ : ∃ pq, (pTerm s.data.toList f (pAdv [40] p1)).2 = pq := ⟨_, rfl⟩
   have HTQ := Lib.hid htq
   have HPQ := Lib.hid hpq
   have HRD := Lib.hid (show (pAdv [40] p1).pos ≤ s.size ∧ s.size - (pAdv [40] p1).pos < f by simp only [pAdv, List.length_cons, List.length_nil]; rw [← size_list] at hle; simp only [List.length_cons, List.length_nil] at hle; omega)
   have HLEN := Lib.hid (show ([] : List Tm).length + 1 ≤ 1000000 by decide)
   have HFIN := Lib.hid (show pTerm s.data.toList (f + 1) p = (.mk ⟨n.toArray⟩ (tq :: (pArgs s.data.toList [44] f pq).1), pMust s.data.toList [41] (pArgs s.data.toList [44] f pq).2) by rw [pTerm, HPW.out, if_pos HT.out, htq, hpq])
   clear htq hpq
   obtain ⟨CP, hCP0⟩ : ∃ CP : Value → World → Prop, CP = TermP 64 g w2.heap.size s f tq pq 35 w2.drew := ⟨_, rfl⟩
   have HCP := Lib.hid hCP0
   have HGR := Lib.hid (show ∀ x w', CP x w' → w2.grownBy w' (some g) from by
    rw [hCP0]; rintro x w' ⟨_, _, _, _, _, hG⟩; exact ⟨hG.os, hG.tape, hG.output, hG.size, hG.block⟩)
   have HAGG := Lib.hid (show ∀ x w', CP x w' → ∃ v0 v1, x = .agg #[v0, v1] ∧ v0.oneCell' = true ∧ v1.oneCell' = true from by
    rw [hCP0]; rintro x w' ⟨v0, v1, hx, hO, _, _⟩
    obtain ⟨pp, cc, rfl, rfl, -⟩ := hO.form
    exact ⟨_, _, hx, rfl, rfl⟩)
   clear hCP0
   refine wp_region_stages [some (.pointer (some ⟨w1.heap.size, 1, none⟩)), some (.slice none 0 0), some (.pointer (some ⟨g, 0, none⟩)), none, none, none, some (.pointer (some ⟨w1.heap.size, 1, none⟩)), none] [3, 4, 5, 7] (AppSt 64 g w1.heap.size CP (.slice none 0 0) 0 w2 3 4 5) (by kernel_rfl) (by kernel_rfl) (by first | kernel_rfl | rfl) (by rfl) rfl ?_
   refine chain_st rfl rfl (by decide) rfl (by intro j u w' hS; go_simp; first | done | exact ⟨hS, rfl⟩ | exact hS | rfl) ?_
   go_simp
   refine chain_stb (c := 5) 2 rfl rfl (by decide) rfl rfl rfl (by first | kernel_rfl | rfl) ?_ ?_
   ·intro j u w' hj hS
    have hc := AppSt.cell HGR.out HBT.out HNE.out hj hS
    go_simp
    first | done | exact ⟨hS, rfl⟩ | exact hS | rfl
   go_simp
   refine chain_st rfl rfl (by decide) rfl (by intro j u w' hS; go_simp; first | done | exact ⟨hS, rfl⟩ | exact hS | rfl) ?_
   go_simp
   refine chain_first rfl rfl rfl (by decide) rfl ?_ ?_
   ·intro w' hS
    obtain rfl : w' = w2.drew := hS
    go_simp
    refine (IH.out f (by omega) g s _ _ (PAt.below HTS.out.at_ (by exact bel)) HRD.out.1 hs HRD.out.2).mono ?_
    rintro e w'' ⟨x, he, hx⟩
    rw [HTQ.out, HPQ.out] at hx
    exact ⟨x, he, by show CP (upd _ 3 x 3) w''; rw [upd_same, HCP.out]; exact hx.mono (by omega)⟩
   intro x
   go_simp
   refine chain_next 0 rfl rfl rfl rfl (by decide) rfl (by first | kernel_rfl | rfl) ?_ ?_
   ·intro w' hS
    have hS : CP (upd _ 3 x 3) w' := hS
    rw [upd_same] at hS
    obtain ⟨v0, v1, rfl, o0, o1⟩ := HAGG.out _ _ hS
    go_simp
    exact ⟨w', v0, v1, hS, by rw [upd_same], rfl⟩
   intro y
   go_simp
   refine chain_next 1 rfl rfl rfl rfl (by decide) rfl (by first | kernel_rfl | rfl) ?_ ?_
   ·intro w' hS
    obtain ⟨w1', v0, v1, hcp, hy, rfl⟩ := hS
    rw [upd_same] at hy
    subst hy
    obtain ⟨v0', v1', he, o0, o1⟩ := HAGG.out _ _ hcp
    simp only [Value.agg.injEq, Array.mk.injEq, List.cons.injEq, and_true] at he
    obtain ⟨rfl, rfl⟩ := he
    have hG1 := HGR.out _ _ hcp
    obtain ⟨hm, vals, Ss, r1, r2, r3, r4⟩ := HTS.out.row
    have hlt := HTS.out.lt
    have hlen := HLEN.out
    refine each_app1 (.tmp 10) (.tmp 13) _ rfl 0 64 2 40 elemTmI (.slice none 0 0) _ vals rfl w1' #[v0, v1] rfl rfl (own_same r1 fun b hb hl => hG1.block b hl (by have := r2 b hb; simp; omega)) rfl (by intro u hu; simp at hu; rcases hu with rfl | rfl <;> assumption) (by omega) (by unfold maxLen; omega) (Nat.zero_le _) ?_
    intro v' w3 happ hg3 hnr hsz
    exact ⟨w1', v0, v1, hcp, by rw [upd_same]; exact happ, hg3, by rw [upd_same]; exact hnr, hsz⟩
   intro z
   go_simp
   refine chain_st rfl rfl (by decide) rfl (by intro j u w' hS; go_simp; first | done | exact ⟨hS, rfl⟩ | exact hS | rfl) ?_
   go_simp
   refine chain_next 2 rfl rfl rfl rfl (by decide) rfl (by first | kernel_rfl | rfl) ?_ ?_
   ·intro w' hS
    obtain ⟨w1', v0, v1, hcp, happ, hg3, hnr, hsz⟩ := hS
    rw [upd_same] at happ hnr
    obtain ⟨⟨q', c', rfl⟩, hbt⟩ := HTS.out.three HGR.out hcp happ hg3
    have hcell : w'.cell? ⟨w1.heap.size, 1, none⟩ = some (.slice none 0 0) := by rw [cell_of_row w' _ 1 _ _ (0, 0) hbt]; rfl
    have hfro : w'.frozen? ⟨w1.heap.size, 1, none⟩ = false := frozen_of_row w' _ 1 _ _ hbt
    clear hbt
    go_simp
    refine ⟨w1', w', v0, v1, hcp, ?_, hg3, ?_, hsz, ?_⟩
    ·rw [upd_other _ _ (by decide), upd_same]; exact happ
    ·rw [upd_other _ _ (by decide), upd_same]; exact hnr
    ·rw [upd_other _ _ (by decide), upd_same]
   intro x'
   refine flowU_nil ?_
   intro wz hz
   have HZ := Lib.hid (HTS.out.app (by have := hz; rw [HCP.out] at this; exact this) HLEN.out)
   rw [upd_other _ _ (by decide), upd_same] at HZ
   clear hz
   go_simp
   have hpp := pTerm_pos s.data.toList f (pAdv [40] p1) (by rw [← size_list]; exact HRD.out.1)
   rw [HPQ.out, ← size_list] at hpp
   simp only [pAdv, List.length_cons, List.length_nil] at hpp
   have HPP := Lib.hid hpp
   have HRD' := HRD.out
   simp only [pAdv, List.length_cons, List.length_nil] at HRD'
   have HRDX := Lib.hid HRD'
   clear hpp HRD'
   go_wp2
   go_loopw [] (ArgRel (.cells #[.string ⟨#[]⟩, .slice none 0 0] 64 (0, 0)) w g w.heap.size w1.heap.size s n [44] f (tq :: (pArgs s.data.toList [44] f pq).1) (pArgs s.data.toList [44] f pq).2) (fun wr => s.size - posOf wr g)
   case atStart => exact ⟨f, pq, z, [tq], by simpa using HZ.out, Nat.le_refl _, rfl, rfl, by have := HPP.out; have := HRDX.out; omega, HPP.out.2, by have := HPP.out; simp; omega⟩
   case round =>
    obtain ⟨f', p', v, xs, hts, hff, hal, hpe, hfu, hpl, hxl⟩ := hrel
    have HTS0 := Lib.hid hts
    have HAL := Lib.hid (And.intro hal hpe)
    have HPO := hts.at_.posOf
    clear hts hal hpe HTS HBT HNE HTQ HPQ HRD HLEN HZ
    obtain ⟨f'', rfl⟩ : ∃ q, f' = q + 1 := ⟨f' - 1, by omega⟩
    have hg' := bsz HTS0.out.at_.lt
    cases hT2 : pTake s.data.toList [44] p'
    ·have HEND := Lib.hid (show pArgs s.data.toList [44] (f'' + 1) p' = ([], p') by rw [pArgs, hT2]; rfl)
     have HT2 := Lib.hid hT2
     go_wp2_with fail
     refine (take_any g s ⟨#[44]⟩ p' _ (PAt.below HTS0.out.at_ (by exact bel)) hpl (by omega) (by decide)).mono ?_
     rw [show (⟨#[44]⟩ : ByteArray).data.toList = [44] from rfl, HT2.out]
     rintro e w3 ⟨_, rfl, rfl, h3, hg3⟩
     have HTS1 := Lib.hid (HTS0.out.reader (p' := p') h3 hg3)
     clear h3 hg3
     go_wp2_with fail
     refine (must_any g s ⟨#[41]⟩ p' _ (PAt.below HTS1.out.at_ (by exact bel)) hpl (by omega) (by decide)).mono ?_
     rw [show (⟨#[41]⟩ : ByteArray).data.toList = [41] from rfl]
     rintro e w4 ⟨_, rfl, rfl, h4, hg4⟩
     have HTS2 := Lib.hid (HTS1.out.reader h4 hg4)
     clear h4 hg4
     obtain ⟨pv, cv, hvv, -⟩ := HTS2.out.row.form
     subst hvv
     obtain ⟨b0, b1, -⟩ := cells2_cell HTS2.out.cell
     obtain ⟨r0, r1, rf⟩ := cells2_cell HTS2.out.res
     go_wp2
     have hal := HAL.out
     rw [HEND.out, List.append_nil] at hal
     refine bodyPost_ret (v := .agg #[.string ⟨n.toArray⟩, .slice pv xs.length cv]) (by simp only [results, Tryz.results141]; go_simp) rfl ⟨_, rfl, ?_⟩
     rw [HFIN.out, ← hal.1, ← hal.2]
     exact HTS2.out.done (by omega) _ _
    ·have HT2 := Lib.hid hT2
     have hle2 := pTake_le hT2 (by rw [← size_list]; exact hpl)
     rw [← size_list] at hle2
     simp only [List.length_cons, List.length_nil] at hle2
     go_wp2_with fail
     refine (take_any g s ⟨#[44]⟩ p' _ (PAt.below HTS0.out.at_ (by exact bel)) hpl (by omega) (by decide)).mono ?_
     rw [show (⟨#[44]⟩ : ByteArray).data.toList = [44] from rfl, HT2.out]
     rintro e w3 ⟨_, rfl, rfl, h3, hg3⟩
     have HTS := Lib.hid (HTS0.out.reader (p' := pAdv [44] p') h3 hg3)
     clear h3 hg3
     have HBT := Lib.hid (show w3.cell? ⟨w1.heap.size, 1, none⟩ = some v from (cells2_cell HTS.out.cell).2.1)
     have HNE := Lib.hid (show w1.heap.size ≠ g by have := HTS.out.lt; omega)
     go_wp2
     obtain ⟨tq, htq⟩ : ∃ tq, (pTerm s.data.toList f'' (pAdv [44] p')).1 = tq := ⟨_, rfl⟩
     obtain ⟨pq, hpq⟩ : ∃ pq, (pTerm s.data.toList f'' (pAdv [44] p')).2 = pq := ⟨_, rfl⟩
     have HTQ := Lib.hid htq
     have HPQ := Lib.hid hpq
     have HRD := Lib.hid (show (pAdv [44] p').pos ≤ s.size ∧ s.size - (pAdv [44] p').pos < f'' by simp only [pAdv, List.length_cons, List.length_nil]; omega)
     have HLEN := Lib.hid (show xs.length + 1 ≤ 1000000 by omega)
     have HSTEP := Lib.hid (show pArgs s.data.toList [44] (f'' + 1) p' = (tq :: (pArgs s.data.toList [44] f'' pq).1, (pArgs s.data.toList [44] f'' pq).2) by rw [pArgs, if_pos HT2.out, htq, hpq])
     clear htq hpq
     obtain ⟨CP, hCP0⟩ : ∃ CP : Value → World → Prop, CP = TermP 64 g w3.heap.size s f tq pq 35 w3.drew := ⟨_, rfl⟩
     have HCP := Lib.hid hCP0
     have HGR := Lib.hid (show ∀ x w', CP x w' → w3.grownBy w' (some g) from by
      rw [hCP0]; rintro x w' ⟨_, _, _, _, _, hG⟩; exact ⟨hG.os, hG.tape, hG.output, hG.size, hG.block⟩)
     have HAGG := Lib.hid (show ∀ x w', CP x w' → ∃ v0 v1, x = .agg #[v0, v1] ∧ v0.oneCell' = true ∧ v1.oneCell' = true from by
      rw [hCP0]; rintro x w' ⟨v0, v1, hx, hO, _, _⟩
      obtain ⟨pp, cc, rfl, rfl, -⟩ := hO.form
      exact ⟨_, _, hx, rfl, rfl⟩)
     clear hCP0
     refine wp_region_stages [some (.pointer (some ⟨w1.heap.size, 1, none⟩)), some v, some (.pointer (some ⟨g, 0, none⟩)), none, none, none, some (.pointer (some ⟨w1.heap.size, 1, none⟩)), none] [3, 4, 5, 7] (AppSt 64 g w1.heap.size CP v xs.length w3 3 4 5) (by kernel_rfl) (by kernel_rfl) (by first | kernel_rfl | rfl) (by rfl) rfl ?_
     refine chain_st rfl rfl (by decide) rfl (by intro j u w' hS; go_simp; first | done | exact ⟨hS, rfl⟩ | exact hS | rfl) ?_
     go_simp
     refine chain_stb (c := 5) 2 rfl rfl (by decide) rfl rfl rfl (by first | kernel_rfl | rfl) ?_ ?_
     ·intro j u w' hj hS
      have hc := AppSt.cell HGR.out HBT.out HNE.out hj hS
      go_simp
      first | done | exact ⟨hS, rfl⟩ | exact hS | rfl
     go_simp
     refine chain_st rfl rfl (by decide) rfl (by intro j u w' hS; go_simp; first | done | exact ⟨hS, rfl⟩ | exact hS | rfl) ?_
     go_simp
     refine chain_first rfl rfl rfl (by decide) rfl ?_ ?_
     ·intro w' hS
      obtain rfl : w' = w3.drew := hS
      go_simp
      refine (IH.out f'' (by omega) g s _ _ (PAt.below HTS.out.at_ (by exact bel)) HRD.out.1 hs HRD.out.2).mono ?_
      rintro e w'' ⟨x, he, hx⟩
      rw [HTQ.out, HPQ.out] at hx
      exact ⟨x, he, by show CP (upd _ 3 x 3) w''; rw [upd_same, HCP.out]; exact hx.mono (by omega)⟩
     intro x
     go_simp
     refine chain_next 0 rfl rfl rfl rfl (by decide) rfl (by first | kernel_rfl | rfl) ?_ ?_
     ·intro w' hS
      have hS : CP (upd _ 3 x 3) w' := hS
      rw [upd_same] at hS
      obtain ⟨v0, v1, rfl, o0, o1⟩ := HAGG.out _ _ hS
      go_simp
      exact ⟨w', v0, v1, hS, by rw [upd_same], rfl⟩
     intro y
     go_simp
     refine chain_next 1 rfl rfl rfl rfl (by decide) rfl (by first | kernel_rfl | rfl) ?_ ?_
     ·intro w' hS
      obtain ⟨w1', v0, v1, hcp, hy, rfl⟩ := hS
      rw [upd_same] at hy
      subst hy
      obtain ⟨v0', v1', he, o0, o1⟩ := HAGG.out _ _ hcp
      simp only [Value.agg.injEq, Array.mk.injEq, List.cons.injEq, and_true] at he
      obtain ⟨rfl, rfl⟩ := he
      have hG1 := HGR.out _ _ hcp
      obtain ⟨hm, vals, Ss, r1, r2, r3, r4⟩ := HTS.out.row
      have hlt := HTS.out.lt
      have hlen := HLEN.out
      refine each_app1 (.tmp 19) (.tmp 22) _ rfl 0 64 2 40 elemTmI v _ vals rfl w1' #[v0, v1] rfl rfl (own_same r1 fun b hb hl => hG1.block b hl (by have := r2 b hb; simp; omega)) rfl (by intro u hu; simp at hu; rcases hu with rfl | rfl <;> assumption) (by omega) (by unfold maxLen; omega) (Nat.zero_le _) ?_
      intro v' w3 happ hg3 hnr hsz
      exact ⟨w1', v0, v1, hcp, by rw [upd_same]; exact happ, hg3, by rw [upd_same]; exact hnr, hsz⟩
     intro z
     go_simp
     refine chain_st rfl rfl (by decide) rfl (by intro j u w' hS; go_simp; first | done | exact ⟨hS, rfl⟩ | exact hS | rfl) ?_
     go_simp
     refine chain_next 2 rfl rfl rfl rfl (by decide) rfl (by first | kernel_rfl | rfl) ?_ ?_
     ·intro w' hS
      obtain ⟨w1', v0, v1, hcp, happ, hg3, hnr, hsz⟩ := hS
      rw [upd_same] at happ hnr
      obtain ⟨⟨q', c', rfl⟩, hbt⟩ := HTS.out.three HGR.out hcp happ hg3
      have hcell : w'.cell? ⟨w1.heap.size, 1, none⟩ = some v := by rw [cell_of_row w' _ 1 _ _ (0, 0) hbt]; rfl
      have hfro : w'.frozen? ⟨w1.heap.size, 1, none⟩ = false := frozen_of_row w' _ 1 _ _ hbt
      clear hbt
      go_simp
      refine ⟨w1', w', v0, v1, hcp, ?_, hg3, ?_, hsz, ?_⟩
      ·rw [upd_other _ _ (by decide), upd_same]; exact happ
      ·rw [upd_other _ _ (by decide), upd_same]; exact hnr
      ·rw [upd_other _ _ (by decide), upd_same]
     intro x'
     refine flowU_nil ?_
     intro wz hz
     have HZ := Lib.hid (HTS.out.app (by have := hz; rw [HCP.out] at this; exact this) HLEN.out)
     rw [upd_other _ _ (by decide), upd_same] at HZ
     clear hz
     go_simp
     go_wp2
     have hpp := pTerm_pos s.data.toList f'' (pAdv [44] p') (by rw [← size_list]; exact HRD.out.1)
     rw [HPQ.out, ← size_list] at hpp
     simp only [pAdv, List.length_cons, List.length_nil] at hpp
     have hal := HAL.out
     rw [HSTEP.out] at hal
     refine ⟨⟨f'', pq, z, xs ++ [tq], HZ.out, by omega, by rw [← hal.1]; simp, hal.2, by omega, hpp.2, by simp; omega⟩, ?_⟩
     rw [HZ.out.at_.posOf, HPO]
     omega
end Go.Proofs.YtabkdonplmlbcaaGreatDoor
