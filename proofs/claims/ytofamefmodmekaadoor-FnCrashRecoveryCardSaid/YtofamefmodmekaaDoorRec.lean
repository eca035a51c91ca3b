/- The records of a log: valid ones, their encoding; both sides. Conditions: sizes; the package tables lie as they were laid. -/
import Derived.Test.YtofamefmodmekaaDoorStrs
namespace Go.Proofs.YtofamefmodmekaaDoor
open Go.RowKit
def plainC (c : UInt8) : Bool := decide (32 ≤ c.toNat) && decide (c.toNat ≤ 126) && !(decide (c.toNat = 35))
def plainB (l : List UInt8) : Bool := l.all plainC
def cmdB (c : List UInt8) : Bool := inB (c.length : Int) 1 160 && plainB c && !hasB c 64
def goodB (c r : List UInt8) : Bool := cmdB c && decide (r.length ≤ 200) && plainB r
set_option maxHeartbeats 400000 in
theorem isPlain_any (s : ByteArray) (w : World) (hs : s.size ≤ maxLen) :
    Calls Tryd.prog 58 #[.string s] w fun e w' => e = .returned (.bool (plainB s.data.toList)) ∧ w = w' := by
  unfold maxLen at hs
  go_enter Tryd.func58, Tryd.ntmps58
  go_wp2
  go_loop [6] (fun i => ∃ k : Nat, k ≤ s.size ∧ i = .int .i64 k ∧ plainB (s.data.toList.take k) = true) (fun i => s.size - (intOf i).toNat)
  case atStart => exact ⟨0, Nat.zero_le _, rfl, rfl⟩
  case round =>
    obtain ⟨k, hk, rfl, hp⟩ := hrel
    have HP := Lib.hid hp; clear hp
    by_cases hlt : k < s.size
    · go_wp2
      case roundEnd =>
        go_light
        refine ⟨⟨k + 1, by omega, by go_num, all_snoc _ s k hlt HP.out ?_⟩, by simp [intOf]; omega⟩
        simp_all [plainC]; omega
      all_goals
        go_ret
        refine ⟨ret_bool (all_no _ s k hlt ?_).symm, rfl⟩
        go_light; simp_all [plainC]; try omega
    · go_wp2
      go_ret
      exact ⟨ret_bool (by have := HP.out; rw [take_all _ _ (by omega)] at this; exact this.symm), rfl⟩
set_option maxHeartbeats 400000 in
theorem l28Plain_any (s : ByteArray) (m : Int) (w : World) (hs : s.size ≤ maxLen) :
    Calls Tryd.prog 62 #[.string s, .int .i64 m] w fun e w' => e = .returned (.bool (plainB s.data.toList && decide ((s.size : Int) ≤ m))) ∧ w = w' := by
  unfold maxLen at hs
  go_enter Tryd.func62, Tryd.ntmps62
  go_wp2
  go_loop [5] (fun i => ∃ k : Nat, k ≤ s.size ∧ i = .int .i64 k ∧ plainB (s.data.toList.take k) = true) (fun i => s.size - (intOf i).toNat)
  case atStart => exact ⟨0, Nat.zero_le _, rfl, rfl⟩
  case round =>
    obtain ⟨k, hk, rfl, hp⟩ := hrel
    have HP := Lib.hid hp; clear hp
    by_cases hlt : k < s.size
    · go_wp2_with (go_at_call 42; simp only [wrap64_byte]; refine (l1In_any _ _ _ _).mono ?_; rintro e w' ⟨rfl, rfl⟩)
      case roundEnd =>
        go_light
        refine ⟨⟨k + 1, by omega, by go_num, all_snoc _ s k hlt HP.out ?_⟩, by simp [intOf]; omega⟩
        simp_all [plainC, inB]; omega
      all_goals
        go_ret
        refine ⟨ret_bool ?_, rfl⟩
        rw [show plainB s.data.toList = false from all_no _ s k hlt (by go_light; simp_all [plainC, inB]; try omega)]
        rfl
    · go_wp2
      go_ret
      refine ⟨ret_bool ?_, rfl⟩
      have := HP.out; rw [take_all _ _ (by omega)] at this; rw [this]; simp
set_option maxHeartbeats 400000 in
theorem isCommand_any (s : ByteArray) (w : World) (hs : s.size ≤ maxLen) :
    Calls Tryd.prog 57 #[.string s] w fun e w' => e = .returned (.bool (cmdB s.data.toList)) ∧ w = w' := by
  have HS := Lib.hid hs
  have HC := Lib.hid (show cmdB s.data.toList = (inB (s.size : Int) 1 160 && plainB s.data.toList && !hasB s.data.toList 64) from rfl)
  cases h1 : inB (s.size : Int) 1 160 <;> cases h2 : plainB s.data.toList
  all_goals
    go_enter Tryd.func57, Tryd.ntmps57
    go_wp2_with (first | (go_at_call 45; refine (within_any _ _ _ _).mono ?_; rintro e w' ⟨rfl, rfl⟩) | (go_at_call 58; refine (isPlain_any _ _ HS.out).mono ?_; rintro e w' ⟨rfl, rfl⟩) | (go_at_call 73; refine (contains_one_any _ _ _).mono ?_; rintro e w' ⟨rfl, rfl⟩))
    go_ret
    exact ⟨ret_bool (by rw [HC.out, h1, h2]; simp), rfl⟩
set_option maxHeartbeats 400000 in
theorem isValidRecord_any (c r : ByteArray) (w : World) (hc : c.size ≤ maxLen) (hr : r.size ≤ maxLen) :
    Calls Tryd.prog 37 #[.agg #[.string c, .string r]] w fun e w' => e = .returned (.bool (goodB c.data.toList r.data.toList)) ∧ Below w.heap.size w w' := by
  have HS := Lib.hid hc
  have HR := Lib.hid hr
  have HG := Lib.hid (show goodB c.data.toList r.data.toList = (cmdB c.data.toList && decide (r.size ≤ 200) && plainB r.data.toList) from rfl)
  cases h1 : cmdB c.data.toList <;> by_cases h2 : (r.size : Int) ≤ 200
  all_goals
    go_enter Tryd.func37, Tryd.ntmps37
    go_wp2_with (first | (go_at_call 57; refine (isCommand_any _ _ HS.out).mono ?_; rintro e w' ⟨rfl, rfl⟩) | (go_at_call 58; refine (isPlain_any _ _ HR.out).mono ?_; rintro e w' ⟨rfl, rfl⟩))
    go_ret
    exact ⟨ret_bool (by have h2' := h2; rw [HG.out, h1]; simp; try omega), (Below.refl _ _).alloc (Nat.le_refl _) _⟩
end Go.Proofs.YtofamefmodmekaaDoor
