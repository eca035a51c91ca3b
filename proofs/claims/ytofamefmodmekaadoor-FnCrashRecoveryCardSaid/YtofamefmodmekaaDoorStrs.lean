/- What the functions of l1_strings of the program and of the reference return, each once. Conditions: the strings are as long as a string can be; the package tables lie as they were laid. -/
import Derived.Test.YtofamefmodmekaaDoorLib
namespace Go.Proofs.YtofamefmodmekaaDoor
open Go.RowKit
def inB (n a b : Int) : Bool := decide (a ≤ n) && decide (n ≤ b)
theorem within_any (n a b : Int) (w : World) :
    Calls Tryd.prog 45 #[.int .i64 n, .int .i64 a, .int .i64 b] w fun e w' => e = .returned (.bool (inB n a b)) ∧ w = w' := by
  by_cases h1 : a ≤ n <;> by_cases h2 : n ≤ b
  all_goals
    go_enter Tryd.func45, Tryd.ntmps45
    go_wp2
    go_ret
    exact ⟨ret_bool (by simp [inB, h1, h2]), rfl⟩
theorem l1In_any (n a b : Int) (w : World) :
    Calls Tryd.prog 42 #[.int .i64 n, .int .i64 a, .int .i64 b] w fun e w' => e = .returned (.bool (inB n a b)) ∧ w = w' := by
  by_cases h1 : a ≤ n <;> by_cases h2 : n ≤ b
  all_goals
    go_enter Tryd.func42, Tryd.ntmps42
    go_wp2
    go_ret
    exact ⟨ret_bool (by simp [inB, h1, h2]), rfl⟩
set_option maxHeartbeats 400000 in
theorem l1Stands_any (s : ByteArray) (b : UInt8) (w : World) (hs : s.size ≤ maxLen) :
    Calls Tryd.prog 63 #[.string s, .int .u8 b.toNat] w fun e w' => e = .returned (.bool (hasB s.data.toList b)) ∧ w = w' := by
  unfold maxLen at hs
  go_enter Tryd.func63, Tryd.ntmps63
  go_wp2
  go_loop [5] (fun i => ∃ k : Nat, k ≤ s.size ∧ i = .int .i64 k ∧ hasB (s.data.toList.take k) b = false) (fun i => s.size - (intOf i).toNat)
  case atStart => exact ⟨0, Nat.zero_le _, rfl, rfl⟩
  case round =>
    obtain ⟨k, hk, rfl, hp⟩ := hrel
    have HP := Lib.hid hp; clear hp
    by_cases hlt : k < s.size
    · go_wp2
      case roundEnd =>
        go_light
        refine ⟨⟨k + 1, by omega, by go_num, any_snoc _ s k hlt HP.out ?_⟩, by simp [intOf]; omega⟩
        exact byte_eq_f ‹_›
      all_goals
        go_ret
        exact ⟨ret_bool (any_yes (fun c => c == b) s k hlt (byte_eq_t ‹_›)).symm, rfl⟩
    · go_wp2
      go_ret
      exact ⟨ret_bool (by have := HP.out; rw [take_all _ _ (by omega)] at this; exact this.symm), rfl⟩
/-- The checksum. -/
def sumStep (n : Int) (c : UInt8) : Int := (41 * n + (c.toNat : Int) + 1) % 999979
def sumF (l : List UInt8) : Int := l.foldl sumStep 7
theorem sumF_snoc (l : List UInt8) (c : UInt8) : sumF (l ++ [c]) = (41 * sumF l + (c.toNat : Int) + 1) % 999979 := by simp [sumF, sumStep]
theorem foldl_bd (l : List UInt8) : ∀ a : Int, 0 ≤ a → a < 999979 → 0 ≤ l.foldl sumStep a ∧ l.foldl sumStep a < 999979 := by
  induction l with
  | nil => intro a h0 h1; exact ⟨h0, h1⟩
  | cons c l ih => intro a h0 h1; exact ih _ (by unfold sumStep; omega) (by unfold sumStep; omega)
theorem sumF_bd (l : List UInt8) : 0 ≤ sumF l ∧ sumF l < 999979 := foldl_bd l 7 (by omega) (by omega)
theorem sum_wrap (x : Int) (c : UInt8) (h0 : 0 ≤ x) (h1 : x < 999979) : (wrap64 (wrap64 (41 * x + (c.toNat : Int)) + 1)).tmod 999979 = (41 * x + (c.toNat : Int) + 1) % 999979 := by
  have := c.toNat_lt
  rw [IntWalk.wrap64_in (41 * x + (c.toNat : Int)) (by omega), IntWalk.wrap64_in _ (by omega), Int.tmod_eq_emod_of_nonneg (by omega)]
set_option maxHeartbeats 400000 in
theorem checksum_any (s : ByteArray) (w : World) (hs : s.size ≤ maxLen) :
    Calls Tryd.prog 75 #[.string s] w fun e w' => e = .returned (.int .i64 (sumF s.data.toList)) ∧ w = w' := by
  unfold maxLen at hs
  go_enter Tryd.func75, Tryd.ntmps75
  go_wp2
  go_loop [3, 7] (fun h i => ∃ k : Nat, k ≤ s.size ∧ i = .int .i64 k ∧ h = .int .i64 (sumF (s.data.toList.take k))) (fun _ i => s.size - (intOf i).toNat)
  case atStart => exact ⟨0, Nat.zero_le _, rfl, rfl⟩
  case round =>
    obtain ⟨k, hk, rfl, rfl⟩ := hrel
    have hb := sumF_bd (s.data.toList.take k)
    by_cases hlt : k < s.size
    · have HS := Lib.hid (sumF_snoc (s.data.toList.take k) s[k])
      have HT := Lib.hid (take_snoc s k hlt)
      have HC := Lib.hid (wrap64_byte s[k])
      have HB := Lib.hid (s[k].toNat_lt)
      generalize sumF (s.data.toList.take k) = x at *
      obtain ⟨hb0, hb1⟩ := hb
      go_wp2
      case roundEnd =>
        go_light
        refine ⟨⟨k + 1, by omega, by go_num, ?_⟩, by simp [intOf]; omega⟩
        rw [HT.out, HS.out, HC.out]
        exact congrArg (Value.int .i64) (sum_wrap _ _ hb0 hb1)
    · go_wp2
      go_ret
      exact ⟨ret_int (by rw [take_all _ _ (by omega)]), rfl⟩
set_option maxHeartbeats 400000 in
theorem l1Sum_any (s : ByteArray) (w : World) (hs : s.size ≤ maxLen) :
    Calls Tryd.prog 74 #[.string s] w fun e w' => e = .returned (.int .i64 (sumF s.data.toList)) ∧ w = w' := by
  unfold maxLen at hs
  go_enter Tryd.func74, Tryd.ntmps74
  go_wp2
  go_loop [3, 4] (fun h i => ∃ k : Nat, k ≤ s.size ∧ i = .int .i64 k ∧ h = .int .i64 (sumF (s.data.toList.take k))) (fun _ i => s.size - (intOf i).toNat)
  case atStart => exact ⟨0, Nat.zero_le _, rfl, rfl⟩
  case round =>
    obtain ⟨k, hk, rfl, rfl⟩ := hrel
    have hb := sumF_bd (s.data.toList.take k)
    by_cases hlt : k < s.size
    · have HS := Lib.hid (sumF_snoc (s.data.toList.take k) s[k])
      have HT := Lib.hid (take_snoc s k hlt)
      have HC := Lib.hid (wrap64_byte s[k])
      have HB := Lib.hid (s[k].toNat_lt)
      generalize sumF (s.data.toList.take k) = x at *
      obtain ⟨hb0, hb1⟩ := hb
      go_wp2
      case roundEnd =>
        go_light
        refine ⟨⟨k + 1, by omega, by go_num, ?_⟩, by simp [intOf]; omega⟩
        rw [HT.out, HS.out, HC.out]
        exact congrArg (Value.int .i64) (sum_wrap _ _ hb0 hb1)
    · go_wp2
      go_ret
      exact ⟨ret_int (by rw [take_all _ _ (by omega)]), rfl⟩
/-- How a text is sealed. -/
def sealF (l : List UInt8) : List UInt8 := l ++ 35 :: Lib.itoa (sumF l)
/-- A digit's sign. -/
def digB (d : Nat) : UInt8 := UInt8.ofNat (48 + d)
theorem itoa_small (n : Int) (h0 : 0 ≤ n) (h : n < 10) : Lib.itoa n = [digB n.toNat] := by
  rw [Lib.itoa, if_neg (by omega), Lib.decDigits, dif_pos (by omega)]; rfl
theorem itoa_step (n : Int) (h : 10 ≤ n) : Lib.itoa n = Lib.itoa (n / 10) ++ [digB (n % 10).toNat] := by
  rw [Lib.itoa, if_neg (by omega), Lib.decDigits, dif_neg (by omega), Lib.itoa, if_neg (by omega)]
  have h1 : n.toNat / 10 = (n / 10).toNat := by omega
  have h2 : n.toNat % 10 = (n % 10).toNat := by omega
  rw [h1, h2]; rfl
theorem itoa_neg (n : Int) (h : n < 0) : Lib.itoa n = 45 :: Lib.itoa (-n) := by
  rw [Lib.itoa, if_pos h, Lib.itoa, if_neg (by omega)]; congr 2; omega
theorem decDigits_len (f : Nat) : ∀ n : Nat, n < 10 ^ (f + 1) → (Lib.decDigits n).length ≤ f + 1 := by
  induction f with
  | zero => intro n h; rw [Lib.decDigits, dif_pos (by simpa using h)]; simp
  | succ f ih =>
    intro n h
    rw [Lib.decDigits]
    split
    · simp
    · rw [List.length_append]
      have := ih (n / 10) (Nat.div_lt_of_lt_mul (by rw [Nat.pow_succ] at h; rw [Nat.mul_comm]; exact h))
      simp only [List.length_cons, List.length_nil]; omega
theorem itoa_len (n : Int) (h0 : -9223372036854775808 ≤ n) (h1 : n ≤ 9223372036854775807) : (Lib.itoa n).length ≤ 20 := by
  unfold Lib.itoa
  split
  · have := decDigits_len 18 n.natAbs (by omega)
    rw [List.length_cons]; omega
  · have := decDigits_len 18 n.toNat (by omega)
    omega
theorem digit_slice (d : Nat) (h : d < 10) : (⟨#[48, 49, 50, 51, 52, 53, 54, 55, 56, 57]⟩ : ByteArray).extract d (d + 1) = ⟨#[digB d]⟩ := by
  have : ∀ e : Fin 10, (⟨#[48, 49, 50, 51, 52, 53, 54, 55, 56, 57]⟩ : ByteArray).extract e.val (e.val + 1) = ⟨#[digB e.val]⟩ := by decide +kernel
  exact this ⟨d, h⟩
set_option maxHeartbeats 400000 in
theorem l1Num_nat (f : Nat) : ∀ (n : Int) (w : World), 0 ≤ n → n < 10 ^ (f + 1) → n ≤ 9223372036854775807 →
    Calls Tryd.prog 65 #[.int .i64 n] w fun e w' => e = .returned (.string ⟨(Lib.itoa n).toArray⟩) ∧ Drew w w' := by
  induction f with
  | zero =>
    intro n w h0 hf _
    have hn : n < 10 := by simpa using hf
    have HD := Lib.hid (digit_slice n.toNat (by omega))
    have HI := Lib.hid (itoa_small n h0 hn)
    have HC : n.toNat + 1 = (n + 1).toNat := by omega
    clear hf
    go_enter Tryd.func65, Tryd.ntmps65
    go_wp2
    go_ret
    refine ⟨?_, Drew.refl _⟩
    show Ending.returned (Value.string (ByteArray.extract _ _ _)) = _
    rw [← HC, HD.out, HI.out]
  | succ f ih =>
    intro n w h0 hf h63
    by_cases hn : n < 10
    · have HD := Lib.hid (digit_slice n.toNat (by omega))
      have HI := Lib.hid (itoa_small n h0 hn)
      have HC : n.toNat + 1 = (n + 1).toNat := by omega
      clear hf
      go_enter Tryd.func65, Tryd.ntmps65
      go_wp2
      go_ret
      refine ⟨?_, Drew.refl _⟩
      show Ending.returned (Value.string (ByteArray.extract _ _ _)) = _
      rw [← HC, HD.out, HI.out]
    · have HI := Lib.hid (itoa_step n (by omega))
      have h10 : n / 10 < 10 ^ (f + 1) := Int.ediv_lt_of_lt_mul (by omega) (by rw [Int.pow_succ] at hf; exact hf)
      have IH := Lib.hid fun w => ih (n / 10) w (by omega) h10 (by omega)
      have HD : (⟨#[48, 49, 50, 51, 52, 53, 54, 55, 56, 57]⟩ : ByteArray).extract (n % 10).toNat (n % 10 + 1).toNat = ⟨#[digB (n % 10).toNat]⟩ := by
        rw [show (n % 10 + 1).toNat = (n % 10).toNat + 1 by omega]; exact digit_slice _ (by omega)
      have HL : ¬ 9223372036854775807 < (Lib.itoa (n / 10)).length + 1 := by have := itoa_len (n / 10) (by omega) (by omega); omega
      have hm0 : 0 ≤ n % 10 := by omega
      have hm1 : n % 10 < 10 := by omega
      have q1 : IntKind.i64.wrap (n.tdiv 10) = n / 10 := by rw [Int.tdiv_eq_ediv_of_nonneg h0]; exact IntWalk.i64_in _ (by omega)
      have q2 : n.tmod 10 = n % 10 := Int.tmod_eq_emod_of_nonneg h0
      have q3 : IntKind.i64.wrap (n % 10 + 1) = n % 10 + 1 := IntWalk.i64_in _ (by omega)
      have b0 : 0 ≤ n % 10 + 1 := by omega
      have b1 : n % 10 + 1 ≤ 10 := by omega
      have b2 : n % 10 ≤ n % 10 + 1 := by omega
      clear ih hf h10
      go_enter Tryd.func65, Tryd.ntmps65
      go_wp2_with fail
      go_quiet ((go_at_call 65; exact Drew.quiet (IH.out _)))
      go_wp2
      go_ret
      refine ⟨?_, _, rfl⟩
      show Ending.returned (Value.string (_ ++ _)) = _
      rw [HI.out, bytes_append]
theorem l1Num_any (n : Int) (w : World) (h0 : 0 ≤ n) (h1 : n ≤ 9223372036854775807) :
    Calls Tryd.prog 65 #[.int .i64 n] w fun e w' => e = .returned (.string ⟨(Lib.itoa n).toArray⟩) ∧ Drew w w' :=
  l1Num_nat 18 n w h0 (by omega) h1
theorem sealF_len (l : List UInt8) : (sealF l).length ≤ l.length + 21 := by
  have := sumF_bd l
  have := itoa_len (sumF l) (by omega) (by omega)
  simp only [sealF, List.length_append, List.length_cons]; omega
set_option maxHeartbeats 400000 in
theorem l1Seal_any (s : ByteArray) (w : World) (hs : s.size ≤ 1000000000000) :
    Calls Tryd.prog 64 #[.string s] w fun e w' => e = .returned (.string ⟨(sealF s.data.toList).toArray⟩) ∧ Drew w w' := by
  have hb := sumF_bd s.data.toList
  have HX := Lib.hid (show sealF s.data.toList = s.data.toList ++ 35 :: Lib.itoa (sumF s.data.toList) from rfl)
  have hl : (Lib.itoa (sumF s.data.toList)).length ≤ 20 := itoa_len _ (by omega) (by omega)
  go_enter Tryd.func64, Tryd.ntmps64
  go_wp2_with (first | (go_at_call 74; refine (l1Sum_any _ _ (by unfold maxLen; omega)).mono ?_; rintro e w' ⟨rfl, rfl⟩) | (go_at_call 65; refine (l1Num_any _ _ hb.1 (by omega)).mono ?_; rintro e w' ⟨rfl, k, rfl⟩))
  go_ret
  refine ⟨?_, _, rfl⟩
  exact ret_strs (by rw [HX.out]; simp)
set_option maxHeartbeats 400000 in
/-- The sealed text, where the text has no '#' and is not too long. -/
theorem appendChecksum_ok (s : ByteArray) (w : World) (hE : Env w) (hh : hasB s.data.toList 35 = false) (hl : (sealF s.data.toList).length ≤ 4000) :
    Calls Tryd.prog 66 #[.string s] w fun e w' => e = .returned (.tuple #[.string ⟨(sealF s.data.toList).toArray⟩, .bool true]) ∧ Below w.heap.size w w' := by
  have hb := sumF_bd s.data.toList
  have HX := Lib.hid (show sealF s.data.toList = s.data.toList ++ 35 :: Lib.itoa (sumF s.data.toList) from rfl)
  have hs : s.size + 1 + (Lib.itoa (sumF s.data.toList)).length ≤ 4000 := by
    rw [HX.out] at hl; rw [size_list]; simp only [List.length_append, List.length_cons] at hl; omega
  have HE := Lib.hid hE
  clear hE hl
  go_enter Tryd.func66, Tryd.ntmps66
  go_wp2_with (first | (go_at_call 75; refine (checksum_any _ _ (by unfold maxLen; omega)).mono ?_; rintro e w' ⟨rfl, rfl⟩) | (go_at_call 67; refine (itoa_any _ (by omega) (by omega) _ HE.out).mono ?_; rintro e w1 ⟨rfl, hb1⟩; have ⟨cw1, fw1⟩ := bcell hb1; have qw1 := hb1.size; (try simp at qw1); (try have zw1w := bsz (show w.heap.size < w1.heap.size by omega))) | (go_at_call 73; refine (contains_one_any _ _ _).mono ?_; rintro e w' ⟨rfl, rfl⟩))
  go_ret2
  refine ⟨ret_strb (by rw [HX.out]; simp) rfl, ?_⟩
  assumption
end Go.Proofs.YtofamefmodmekaaDoor
