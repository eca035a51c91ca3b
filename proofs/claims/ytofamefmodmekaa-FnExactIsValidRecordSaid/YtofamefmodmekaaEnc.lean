/- The encoding of a record, both sides. Conditions: sizes; the record is valid; the package tables lie as they were laid. -/
import Derived.Test.YtofamefmodmekaaRec2
namespace Go.Proofs.Ytofamefmodmekaa
open Go.RowKit
def bodyF (k : Int) (c r : List UInt8) : List UInt8 := Lib.itoa k ++ 32 :: (c ++ 64 :: r)
def encF (k : Int) (c r : List UInt8) : List UInt8 := sealF (bodyF k c r) ++ [10]
theorem hasB_append (a b : List UInt8) (x : UInt8) : hasB (a ++ b) x = (hasB a x || hasB b x) := by simp [hasB]
theorem hasB_cons (a : UInt8) (b : List UInt8) (x : UInt8) : hasB (a :: b) x = ((a == x) || hasB b x) := by simp [hasB]
theorem plainB_no (l : List UInt8) (h : plainB l = true) : hasB l 35 = false := by
  unfold hasB plainB at *
  rw [List.any_eq_false]
  rw [List.all_eq_true] at h
  intro x hx
  have := h x hx
  simp only [plainC, Bool.and_eq_true, Bool.not_eq_true', decide_eq_false_iff_not] at this
  simp only [Bool.not_eq_true, beq_eq_false_iff_ne]
  rintro rfl
  exact this.2 rfl
theorem digB_ge (d : Nat) (h : d < 10) : 48 ≤ (digB d).toNat ∧ (digB d).toNat ≤ 57 := by
  unfold digB
  rw [UInt8.toNat_ofNat']; omega
theorem decDigits_digits (u : Nat) : ∀ x ∈ Lib.decDigits u, 48 ≤ x.toNat ∧ x.toNat ≤ 57 := by
  induction u using Nat.strongRecOn with
  | _ u ih =>
    intro x hx
    rw [Lib.decDigits] at hx
    split at hx
    · rename_i h
      rw [List.mem_singleton] at hx; subst hx; exact digB_ge u h
    · rw [List.mem_append, List.mem_singleton] at hx
      rcases hx with hx | hx
      · exact ih (u / 10) (by omega) x hx
      · subst hx; exact digB_ge _ (by omega)
theorem itoa_digits (n : Int) (h : 0 ≤ n) : ∀ x ∈ Lib.itoa n, 48 ≤ x.toNat ∧ x.toNat ≤ 57 := by
  rw [Lib.itoa, if_neg (by omega)]; exact decDigits_digits _
theorem itoa_no (n : Int) (h : 0 ≤ n) (b : UInt8) (hb : b.toNat < 48 ∨ 57 < b.toNat) : hasB (Lib.itoa n) b = false := by
  unfold hasB
  rw [List.any_eq_false]
  intro x hx
  have := itoa_digits n h x hx
  simp only [Bool.not_eq_true, beq_eq_false_iff_ne]
  rintro rfl; omega
theorem good_parts {c r : List UInt8} (h : goodB c r = true) : 1 ≤ c.length ∧ c.length ≤ 160 ∧ plainB c = true ∧ hasB c 64 = false ∧ r.length ≤ 200 ∧ plainB r = true := by
  simp only [goodB, cmdB, inB, Bool.and_eq_true, decide_eq_true_eq, Bool.not_eq_true'] at h
  obtain ⟨⟨⟨⟨⟨h1, h2⟩, h3⟩, h4⟩, h5⟩, h6⟩ := h
  exact ⟨by omega, by omega, h3, h4, h5, h6⟩
theorem body_no (k : Int) (hk : 0 ≤ k) {c r : List UInt8} (h : goodB c r = true) : hasB (bodyF k c r) 35 = false := by
  obtain ⟨_, _, h3, _, _, h6⟩ := good_parts h
  rw [bodyF, hasB_append, hasB_cons, hasB_append, hasB_cons, itoa_no k hk 35 (by decide), plainB_no c h3, plainB_no r h6]; rfl
theorem body_len (k : Int) (hk : 0 ≤ k) (hk2 : k ≤ 9223372036854775807) {c r : List UInt8} (h : goodB c r = true) : (bodyF k c r).length ≤ 382 := by
  obtain ⟨_, h2, _, _, h5, _⟩ := good_parts h
  have := itoa_len k (by omega) hk2
  simp only [bodyF, List.length_append, List.length_cons]; omega
theorem seal_len (k : Int) (hk : 0 ≤ k) (hk2 : k ≤ 9223372036854775807) {c r : List UInt8} (h : goodB c r = true) : (sealF (bodyF k c r)).length ≤ 403 :=
  Nat.le_trans (sealF_len _) (by have := body_len k hk hk2 h; omega)
theorem body_bytes (k : Int) (c r : ByteArray) : ((⟨(Lib.itoa k).toArray⟩ : ByteArray) ++ ⟨#[32]⟩ ++ c ++ ⟨#[64]⟩ ++ r).data.toList = bodyF k c.data.toList r.data.toList := by simp [bodyF]
end Go.Proofs.Ytofamefmodmekaa
