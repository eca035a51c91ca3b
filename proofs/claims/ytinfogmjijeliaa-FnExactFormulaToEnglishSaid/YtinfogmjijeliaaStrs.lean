/- What the functions of l1_strings of the program and of the reference return, each once. Conditions: the strings are as long as a string can be; the package tables lie as they were laid. -/
import Derived.Test.YtinfogmjijeliaaLib
namespace Go.Proofs.Ytinfogmjijeliaa
open Go.RowKit
def inB (n a b : Int) : Bool := decide (a ≤ n) && decide (n ≤ b)
theorem within_any (n a b : Int) (w : World) :
    Calls Try.prog 75 #[.int .i64 n, .int .i64 a, .int .i64 b] w fun e w' => e = .returned (.bool (inB n a b)) ∧ w = w' := by
  by_cases h1 : a ≤ n <;> by_cases h2 : n ≤ b
  all_goals
    go_enter Try.func75, Try.ntmps75
    go_wp2
    go_ret
    exact ⟨ret_bool (by simp [inB, h1, h2]), rfl⟩
theorem l1In_any (n a b : Int) (w : World) :
    Calls Try.prog 104 #[.int .i64 n, .int .i64 a, .int .i64 b] w fun e w' => e = .returned (.bool (inB n a b)) ∧ w = w' := by
  by_cases h1 : a ≤ n <;> by_cases h2 : n ≤ b
  all_goals
    go_enter Try.func104, Try.ntmps104
    go_wp2
    go_ret
    exact ⟨ret_bool (by simp [inB, h1, h2]), rfl⟩
/-- The checksum. -/
def sumStep (n : Int) (c : UInt8) : Int := (41 * n + (c.toNat : Int) + 1) % 999979
def sumF (l : List UInt8) : Int := l.foldl sumStep 7
theorem sumF_snoc (l : List UInt8) (c : UInt8) : sumF (l ++ [c]) = (41 * sumF l + (c.toNat : Int) + 1) % 999979 := by simp [sumF, sumStep]
theorem foldl_bd (l : List UInt8) : ∀ a : Int, 0 ≤ a → a < 999979 → 0 ≤ l.foldl sumStep a ∧ l.foldl sumStep a < 999979 := by
  induction l with
  | nil => intro a h0 h1; exact ⟨h0, h1⟩
  | cons c l ih => intro a h0 h1; exact ih _ (by unfold sumStep; omega) (by unfold sumStep; omega)
theorem sumF_bd (l : List UInt8) : 0 ≤ sumF l ∧ sumF l < 999979 := foldl_bd l 7 (by omega) (by omega)
theorem sum_wrap (x : Int) (c : UInt8) (h0 : 0 ≤ x) (h1 : x < 999979) : (wrap64 (wrap64 (41 * x + (c.toNat : Int)) + 1)).tmod 999979 = (41 * x + (c.toNat : Int) + 1) % 999979 := by
  have := c.toNat_lt
  rw [IntWalk.wrap64_in (41 * x + (c.toNat : Int)) (by omega), IntWalk.wrap64_in _ (by omega), Int.tmod_eq_emod_of_nonneg (by omega)]
/-- How a text is sealed. -/
def sealF (l : List UInt8) : List UInt8 := l ++ 35 :: Lib.itoa (sumF l)
/-- A digit's sign. -/
def digB (d : Nat) : UInt8 := UInt8.ofNat (48 + d)
theorem itoa_small (n : Int) (h0 : 0 ≤ n) (h : n < 10) : Lib.itoa n = [digB n.toNat] := by
  rw [Lib.itoa, if_neg (by omega), Lib.decDigits, dif_pos (by omega)]; rfl
theorem itoa_step (n : Int) (h : 10 ≤ n) : Lib.itoa n = Lib.itoa (n / 10) ++ [digB (n % 10).toNat] := by
  rw [Lib.itoa, if_neg (by omega), Lib.decDigits, dif_neg (by omega), Lib.itoa, if_neg (by omega)]
  have h1 : n.toNat / 10 = (n / 10).toNat := by omega
  have h2 : n.toNat % 10 = (n % 10).toNat := by omega
  rw [h1, h2]; rfl
theorem itoa_neg (n : Int) (h : n < 0) : Lib.itoa n = 45 :: Lib.itoa (-n) := by
  rw [Lib.itoa, if_pos h, Lib.itoa, if_neg (by omega)]; congr 2; omega
theorem decDigits_len (f : Nat) : ∀ n : Nat, n < 10 ^ (f + 1) → (Lib.decDigits n).length ≤ f + 1 := by
  induction f with
  | zero => intro n h; rw [Lib.decDigits, dif_pos (by simpa using h)]; simp
  | succ f ih =>
    intro n h
    rw [Lib.decDigits]
    split
    · simp
    · rw [List.length_append]
      have := ih (n / 10) (Nat.div_lt_of_lt_mul (by rw [Nat.pow_succ] at h; rw [Nat.mul_comm]; exact h))
      simp only [List.length_cons, List.length_nil]; omega
theorem itoa_len (n : Int) (h0 : -9223372036854775808 ≤ n) (h1 : n ≤ 9223372036854775807) : (Lib.itoa n).length ≤ 20 := by
  unfold Lib.itoa
  split
  · have := decDigits_len 18 n.natAbs (by omega)
    rw [List.length_cons]; omega
  · have := decDigits_len 18 n.toNat (by omega)
    omega
theorem digit_slice (d : Nat) (h : d < 10) : (⟨#[48, 49, 50, 51, 52, 53, 54, 55, 56, 57]⟩ : ByteArray).extract d (d + 1) = ⟨#[digB d]⟩ := by
  have : ∀ e : Fin 10, (⟨#[48, 49, 50, 51, 52, 53, 54, 55, 56, 57]⟩ : ByteArray).extract e.val (e.val + 1) = ⟨#[digB e.val]⟩ := by decide +kernel
  exact this ⟨d, h⟩
theorem sealF_len (l : List UInt8) : (sealF l).length ≤ l.length + 21 := by
  have := sumF_bd l
  have := itoa_len (sumF l) (by omega) (by omega)
  simp only [sealF, List.length_append, List.length_cons]; omega
end Go.Proofs.Ytinfogmjijeliaa
