/- The encoding of a record, both sides. Conditions: sizes; the record is valid; the package tables lie as they were laid. -/
import Derived.Test.YtofamefmodmekaaDoorRec2
import Derived.Test.YtofamefmodmekaaDoorFlow
namespace Go.Proofs.YtofamefmodmekaaDoor
open Go.RowKit
def bodyF (k : Int) (c r : List UInt8) : List UInt8 := Lib.itoa k ++ 32 :: (c ++ 64 :: r)
def encF (k : Int) (c r : List UInt8) : List UInt8 := sealF (bodyF k c r) ++ [10]
theorem hasB_append (a b : List UInt8) (x : UInt8) : hasB (a ++ b) x = (hasB a x || hasB b x) := by simp [hasB]
theorem hasB_cons (a : UInt8) (b : List UInt8) (x : UInt8) : hasB (a :: b) x = ((a == x) || hasB b x) := by simp [hasB]
theorem plainB_no (l : List UInt8) (h : plainB l = true) : hasB l 35 = false := by
  unfold hasB plainB at *
  rw [List.any_eq_false]
  rw [List.all_eq_true] at h
  intro x hx
  have := h x hx
  simp only [plainC, Bool.and_eq_true, Bool.not_eq_true', decide_eq_false_iff_not] at this
  simp only [Bool.not_eq_true, beq_eq_false_iff_ne]
  rintro rfl
  exact this.2 rfl
theorem digB_ge (d : Nat) (h : d < 10) : 48 ≤ (digB d).toNat ∧ (digB d).toNat ≤ 57 := by
  unfold digB
  rw [UInt8.toNat_ofNat']; omega
theorem decDigits_digits (u : Nat) : ∀ x ∈ Lib.decDigits u, 48 ≤ x.toNat ∧ x.toNat ≤ 57 := by
  induction u using Nat.strongRecOn with
  | _ u ih =>
    intro x hx
    rw [Lib.decDigits] at hx
    split at hx
    · rename_i h
      rw [List.mem_singleton] at hx; subst hx; exact digB_ge u h
    · rw [List.mem_append, List.mem_singleton] at hx
      rcases hx with hx | hx
      · exact ih (u / 10) (by omega) x hx
      · subst hx; exact digB_ge _ (by omega)
theorem itoa_digits (n : Int) (h : 0 ≤ n) : ∀ x ∈ Lib.itoa n, 48 ≤ x.toNat ∧ x.toNat ≤ 57 := by
  rw [Lib.itoa, if_neg (by omega)]; exact decDigits_digits _
theorem itoa_no (n : Int) (h : 0 ≤ n) (b : UInt8) (hb : b.toNat < 48 ∨ 57 < b.toNat) : hasB (Lib.itoa n) b = false := by
  unfold hasB
  rw [List.any_eq_false]
  intro x hx
  have := itoa_digits n h x hx
  simp only [Bool.not_eq_true, beq_eq_false_iff_ne]
  rintro rfl; omega
theorem good_parts {c r : List UInt8} (h : goodB c r = true) : 1 ≤ c.length ∧ c.length ≤ 160 ∧ plainB c = true ∧ hasB c 64 = false ∧ r.length ≤ 200 ∧ plainB r = true := by
  simp only [goodB, cmdB, inB, Bool.and_eq_true, decide_eq_true_eq, Bool.not_eq_true'] at h
  obtain ⟨⟨⟨⟨⟨h1, h2⟩, h3⟩, h4⟩, h5⟩, h6⟩ := h
  exact ⟨by omega, by omega, h3, h4, h5, h6⟩
theorem body_no (k : Int) (hk : 0 ≤ k) {c r : List UInt8} (h : goodB c r = true) : hasB (bodyF k c r) 35 = false := by
  obtain ⟨_, _, h3, _, _, h6⟩ := good_parts h
  rw [bodyF, hasB_append, hasB_cons, hasB_append, hasB_cons, itoa_no k hk 35 (by decide), plainB_no c h3, plainB_no r h6]; rfl
theorem body_len (k : Int) (hk : 0 ≤ k) (hk2 : k ≤ 9223372036854775807) {c r : List UInt8} (h : goodB c r = true) : (bodyF k c r).length ≤ 382 := by
  obtain ⟨_, h2, _, _, h5, _⟩ := good_parts h
  have := itoa_len k (by omega) hk2
  simp only [bodyF, List.length_append, List.length_cons]; omega
theorem seal_len (k : Int) (hk : 0 ≤ k) (hk2 : k ≤ 9223372036854775807) {c r : List UInt8} (h : goodB c r = true) : (sealF (bodyF k c r)).length ≤ 403 :=
  Nat.le_trans (sealF_len _) (by have := body_len k hk hk2 h; omega)
theorem body_bytes (k : Int) (c r : ByteArray) : ((⟨(Lib.itoa k).toArray⟩ : ByteArray) ++ ⟨#[32]⟩ ++ c ++ ⟨#[64]⟩ ++ r).data.toList = bodyF k c.data.toList r.data.toList := by simp [bodyF]
set_option maxHeartbeats 800000 in
theorem encodeRecord_ok (k : Int) (c r : ByteArray) (w : World) (hE : Env w) (hk : 0 ≤ k) (hk2 : k ≤ 9223372036854775807) (hg : goodB c.data.toList r.data.toList = true) :
    Calls Tryd.prog 46 #[.int .i64 k, .agg #[.string c, .string r]] w fun e w' => e = .returned (.string ⟨(encF k c.data.toList r.data.toList).toArray⟩) ∧ Below w.heap.size w w' := by
  have HE := Lib.hid hE
  have HN := Lib.hid (body_no k hk hg)
  have HL := Lib.hid (seal_len k hk hk2 hg)
  have HL2 : (sealF (Lib.itoa k ++ 32 :: (c.data.toList ++ 64 :: r.data.toList))).length ≤ 403 := HL.out
  have hlen : c.size + r.size ≤ 1000 := by have := good_parts hg; simp only [size_list]; omega
  have hil : (Lib.itoa k).length ≤ 20 := itoa_len k (by omega) hk2
  clear hg hE
  go_enter Tryd.func46, Tryd.ntmps46
  go_wp2_with fail
  obtain ⟨C, HC0⟩ := class_of (InF w.heap.size _ [(⟨w.heap.size, 0, none⟩, .string c), (⟨w.heap.size, 1, none⟩, .string r)] [] [])
  have HC := Lib.hid HC0
  clear HC0
  refine wp_region_flow (C := C) (by kernel_rfl) (by kernel_rfl) (fun L hL => (HC.out _ _).2 (InF.start (by first | (intro _ hs; cases hs; done) | (simp only [List.forall_mem_cons]; go_simp)) (by first | (intro _ hs; cases hs; done) | (simp only [List.forall_mem_cons]; go_simp)) (by first | (intro _ hs; cases hs; done) | (simp only [List.forall_mem_cons]; go_simp)) (by first | (intro _ hs; cases hs; done) | (simp only [List.forall_mem_cons]; go_simp)) L hL)) ?_
  repeat (first | (apply flow_free rfl; (intro L w' hun hrd hC; have hC := (HC.out _ _).1 hC; have hb' := hC.below; (try have hw' : Below w.heap.size w w' := by first | exact Below.trans (by (repeat (first | exact Below.refl _ _ | assumption | refine Below.al ?_ _ | refine Below.sc ?_ (by first | exact Nat.le_refl _ | (simp; done) | (simp; omega)) _ | refine Below.dr ?_ | refine Below.drN ?_ _ | refine Below.step ?_ (by assumption)))) hb' | ((repeat (first | exact Below.refl _ _ | assumption | refine Below.al ?_ _ | refine Below.sc ?_ (by first | exact Nat.le_refl _ | (simp; done) | (simp; omega)) _ | refine Below.dr ?_ | refine Below.drN ?_ _ | refine Below.step ?_ (by assumption))); done)); have hf' := hC.cell; (try simp only [List.forall_mem_cons] at hf'); go_simp; first | exact ⟨(HC.out _ _).2 (hC.skip _ (by rfl)), rfl⟩ | (rw [if_neg]; (exact ⟨(HC.out _ _).2 (hC.skip _ (by rfl)), rfl⟩); omega) | (go_at_call 67; refine (itoa_any _ (by omega) (by omega) _ (HE.out.below hw')).mono ?_; rintro e w1 ⟨rfl, hb1⟩; exact ⟨rfl, (HC.out _ _).2 ((hC.next (by first | (simp; done) | (simp; omega) | omega) hb1).skip _ (by rfl))⟩) | (go_at_call 66; refine (appendChecksum_ok _ _ (HE.out.below hw') (by rw [body_bytes]; exact HN.out) (by rw [body_bytes]; exact Nat.le_trans HL.out (by omega))).mono ?_; rintro e w1 ⟨rfl, hb1⟩; exact ⟨rfl, (HC.out _ _).2 ((hC.next (by first | (simp; done) | (simp; omega) | omega) hb1).skip _ (by rfl))⟩)); go_simp) | (apply flow_yes; (case hw => go_simp); (intro L w' hun hrd hC; have hC := (HC.out _ _).1 hC; have hb' := hC.below; (try have hw' : Below w.heap.size w w' := by first | exact Below.trans (by (repeat (first | exact Below.refl _ _ | assumption | refine Below.al ?_ _ | refine Below.sc ?_ (by first | exact Nat.le_refl _ | (simp; done) | (simp; omega)) _ | refine Below.dr ?_ | refine Below.drN ?_ _ | refine Below.step ?_ (by assumption)))) hb' | ((repeat (first | exact Below.refl _ _ | assumption | refine Below.al ?_ _ | refine Below.sc ?_ (by first | exact Nat.le_refl _ | (simp; done) | (simp; omega)) _ | refine Below.dr ?_ | refine Below.drN ?_ _ | refine Below.step ?_ (by assumption))); done)); have hf' := hC.cell; (try simp only [List.forall_mem_cons] at hf'); go_simp; first | exact ⟨(HC.out _ _).2 (hC.skip _ (by rfl)), rfl⟩ | (rw [if_neg]; (exact ⟨(HC.out _ _).2 (hC.skip _ (by rfl)), rfl⟩); omega) | (go_at_call 67; refine (itoa_any _ (by omega) (by omega) _ (HE.out.below hw')).mono ?_; rintro e w1 ⟨rfl, hb1⟩; exact ⟨rfl, (HC.out _ _).2 ((hC.next (by first | (simp; done) | (simp; omega) | omega) hb1).skip _ (by rfl))⟩) | (go_at_call 66; refine (appendChecksum_ok _ _ (HE.out.below hw') (by rw [body_bytes]; exact HN.out) (by rw [body_bytes]; exact Nat.le_trans HL.out (by omega))).mono ?_; rintro e w1 ⟨rfl, hb1⟩; exact ⟨rfl, (HC.out _ _).2 ((hC.next (by first | (simp; done) | (simp; omega) | omega) hb1).skip _ (by rfl))⟩)); go_simp) | (apply flow_no; (case hw => go_simp); (intro L w' _ _ hC; exact (HC.out _ _).2 (((HC.out _ _).1 hC).skip _ (by rfl))); go_simp))
  refine flow_nil ?_
  intro L wz hL hz
  have hz := (HC.out _ _).1 hz
  have hbz := hz.below
  have hcz := hz.cell
  try simp only [List.forall_mem_cons] at hcz
  have hdz := hz.done
  try simp only [List.forall_mem_cons] at hdz
  (try have hwz : Below w.heap.size w wz := by first | exact Below.trans (by (repeat (first | exact Below.refl _ _ | assumption | refine Below.al ?_ _ | refine Below.sc ?_ (by first | exact Nat.le_refl _ | (simp; done) | (simp; omega)) _ | refine Below.dr ?_ | refine Below.drN ?_ _ | refine Below.step ?_ (by assumption)))) hbz | ((repeat (first | exact Below.refl _ _ | assumption | refine Below.al ?_ _ | refine Below.sc ?_ (by first | exact Nat.le_refl _ | (simp; done) | (simp; omega)) _ | refine Below.dr ?_ | refine Below.drN ?_ _ | refine Below.step ?_ (by assumption))); done))
  go_wp2
  go_ret
  exact ⟨ret_strs (by simp [encF, bodyF]), (Below.refl _ _).alloc (Nat.le_refl _) _ |>.trans hbz⟩
set_option maxHeartbeats 800000 in
theorem l28Line_any (k : Int) (c r : ByteArray) (w : World) (hk : 0 ≤ k) (hk2 : k ≤ 9223372036854775807) (hlen : c.size + r.size ≤ 1000000000) :
    Calls Tryd.prog 44 #[.int .i64 k, .agg #[.string c, .string r]] w fun e w' => e = .returned (.string ⟨(encF k c.data.toList r.data.toList).toArray⟩) ∧ Below w.heap.size w w' := by
  have hil : (Lib.itoa k).length ≤ 20 := itoa_len k (by omega) hk2
  have hsl : (sealF (Lib.itoa k ++ 32 :: (c.data.toList ++ 64 :: r.data.toList))).length ≤ 2000000000 := by
    refine Nat.le_trans (sealF_len _) ?_
    simp only [size_list] at hlen
    simp only [List.length_append, List.length_cons]; omega
  go_enter Tryd.func44, Tryd.ntmps44
  go_wp2_with fail
  obtain ⟨C, HC0⟩ := class_of (InF w.heap.size _ [(⟨w.heap.size, 0, none⟩, .string c), (⟨w.heap.size, 1, none⟩, .string r)] [] [])
  have HC := Lib.hid HC0
  clear HC0
  refine wp_region_flow (C := C) (by kernel_rfl) (by kernel_rfl) (fun L hL => (HC.out _ _).2 (InF.start (by first | (intro _ hs; cases hs; done) | (simp only [List.forall_mem_cons]; go_simp)) (by first | (intro _ hs; cases hs; done) | (simp only [List.forall_mem_cons]; go_simp)) (by first | (intro _ hs; cases hs; done) | (simp only [List.forall_mem_cons]; go_simp)) (by first | (intro _ hs; cases hs; done) | (simp only [List.forall_mem_cons]; go_simp)) L hL)) ?_
  repeat (first | (apply flow_free rfl; (intro L w' hun hrd hC; have hC := (HC.out _ _).1 hC; have hb' := hC.below; (try have hw' : Below w.heap.size w w' := by first | exact Below.trans (by (repeat (first | exact Below.refl _ _ | assumption | refine Below.al ?_ _ | refine Below.sc ?_ (by first | exact Nat.le_refl _ | (simp; done) | (simp; omega)) _ | refine Below.dr ?_ | refine Below.drN ?_ _ | refine Below.step ?_ (by assumption)))) hb' | ((repeat (first | exact Below.refl _ _ | assumption | refine Below.al ?_ _ | refine Below.sc ?_ (by first | exact Nat.le_refl _ | (simp; done) | (simp; omega)) _ | refine Below.dr ?_ | refine Below.drN ?_ _ | refine Below.step ?_ (by assumption))); done)); have hf' := hC.cell; (try simp only [List.forall_mem_cons] at hf'); go_simp; first | exact ⟨(HC.out _ _).2 (hC.skip _ (by rfl)), rfl⟩ | (rw [if_neg]; (exact ⟨(HC.out _ _).2 (hC.skip _ (by rfl)), rfl⟩); omega) | (go_at_call 65; refine (drew_below (l1Num_any _ _ hk hk2)).mono ?_; rintro e w1 ⟨rfl, hb1⟩; exact ⟨rfl, (HC.out _ _).2 ((hC.next (by first | (simp; done) | (simp; omega) | omega) hb1).skip _ (by rfl))⟩) | (go_at_call 64; refine (drew_below (l1Seal_any _ _ (by rw [size_list, body_bytes]; simp only [bodyF, List.length_append, List.length_cons, ← size_list]; omega))).mono ?_; rintro e w1 ⟨rfl, hb1⟩; exact ⟨rfl, (HC.out _ _).2 ((hC.next (by first | (simp; done) | (simp; omega) | omega) hb1).skip _ (by rfl))⟩)); go_simp) | (apply flow_yes; (case hw => go_simp); (intro L w' hun hrd hC; have hC := (HC.out _ _).1 hC; have hb' := hC.below; (try have hw' : Below w.heap.size w w' := by first | exact Below.trans (by (repeat (first | exact Below.refl _ _ | assumption | refine Below.al ?_ _ | refine Below.sc ?_ (by first | exact Nat.le_refl _ | (simp; done) | (simp; omega)) _ | refine Below.dr ?_ | refine Below.drN ?_ _ | refine Below.step ?_ (by assumption)))) hb' | ((repeat (first | exact Below.refl _ _ | assumption | refine Below.al ?_ _ | refine Below.sc ?_ (by first | exact Nat.le_refl _ | (simp; done) | (simp; omega)) _ | refine Below.dr ?_ | refine Below.drN ?_ _ | refine Below.step ?_ (by assumption))); done)); have hf' := hC.cell; (try simp only [List.forall_mem_cons] at hf'); go_simp; first | exact ⟨(HC.out _ _).2 (hC.skip _ (by rfl)), rfl⟩ | (rw [if_neg]; (exact ⟨(HC.out _ _).2 (hC.skip _ (by rfl)), rfl⟩); omega) | (go_at_call 65; refine (drew_below (l1Num_any _ _ hk hk2)).mono ?_; rintro e w1 ⟨rfl, hb1⟩; exact ⟨rfl, (HC.out _ _).2 ((hC.next (by first | (simp; done) | (simp; omega) | omega) hb1).skip _ (by rfl))⟩) | (go_at_call 64; refine (drew_below (l1Seal_any _ _ (by rw [size_list, body_bytes]; simp only [bodyF, List.length_append, List.length_cons, ← size_list]; omega))).mono ?_; rintro e w1 ⟨rfl, hb1⟩; exact ⟨rfl, (HC.out _ _).2 ((hC.next (by first | (simp; done) | (simp; omega) | omega) hb1).skip _ (by rfl))⟩)); go_simp) | (apply flow_no; (case hw => go_simp); (intro L w' _ _ hC; exact (HC.out _ _).2 (((HC.out _ _).1 hC).skip _ (by rfl))); go_simp))
  refine flow_nil ?_
  intro L wz hL hz
  have hz := (HC.out _ _).1 hz
  have hbz := hz.below
  have hcz := hz.cell
  try simp only [List.forall_mem_cons] at hcz
  have hdz := hz.done
  try simp only [List.forall_mem_cons] at hdz
  (try have hwz : Below w.heap.size w wz := by first | exact Below.trans (by (repeat (first | exact Below.refl _ _ | assumption | refine Below.al ?_ _ | refine Below.sc ?_ (by first | exact Nat.le_refl _ | (simp; done) | (simp; omega)) _ | refine Below.dr ?_ | refine Below.drN ?_ _ | refine Below.step ?_ (by assumption)))) hbz | ((repeat (first | exact Below.refl _ _ | assumption | refine Below.al ?_ _ | refine Below.sc ?_ (by first | exact Nat.le_refl _ | (simp; done) | (simp; omega)) _ | refine Below.dr ?_ | refine Below.drN ?_ _ | refine Below.step ?_ (by assumption))); done))
  go_wp2
  go_ret
  exact ⟨ret_strs (by simp [encF, bodyF]), (Below.refl _ _).alloc (Nat.le_refl _) _ |>.trans hbz⟩
end Go.Proofs.YtofamefmodmekaaDoor
