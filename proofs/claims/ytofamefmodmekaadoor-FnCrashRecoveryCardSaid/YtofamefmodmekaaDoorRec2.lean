/- The encoding of a record, both sides; the two copies of a record that the laws make. Conditions: sizes; the package tables lie as they were laid. -/
import Derived.Test.YtofamefmodmekaaDoorRec
namespace Go.Proofs.YtofamefmodmekaaDoor
open Go.RowKit
theorem goodB_spec (c r : List UInt8) : goodB c r = (!c.isEmpty && (plainB c && decide ((c.length : Int) ≤ 160)) && !hasB c 64 && (plainB r && decide ((r.length : Int) ≤ 200))) := by
  unfold goodB cmdB inB
  cases c with
  | nil => simp
  | cons x c =>
    simp only [List.isEmpty_cons, Bool.not_false, Bool.true_and]
    have h1 : decide (1 ≤ ((x :: c).length : Int)) = true := by simp; omega
    have h2 : decide (r.length ≤ 200) = decide ((r.length : Int) ≤ 200) := by rw [decide_eq_decide]; omega
    rw [h1, h2, Bool.true_and]
    cases plainB (x :: c) <;> cases hasB (x :: c) 64 <;> cases plainB r <;> cases decide (((x :: c).length : Int) ≤ 160) <;> cases decide ((r.length : Int) ≤ 200) <;> rfl
set_option maxHeartbeats 400000 in
theorem l28Good_any (c r : ByteArray) (w : World) (hc : c.size ≤ maxLen) (hr : r.size ≤ maxLen) :
    Calls Tryd.prog 43 #[.agg #[.string c, .string r]] w fun e w' => e = .returned (.bool (goodB c.data.toList r.data.toList)) ∧ Below w.heap.size w w' := by
  have HS := Lib.hid hc
  have HR := Lib.hid hr
  have HG := Lib.hid (goodB_spec c.data.toList r.data.toList)
  cases h1 : c.data.toList.isEmpty <;> cases h2 : (plainB c.data.toList && decide ((c.size : Int) ≤ 160)) <;> cases h3 : hasB c.data.toList 64
  all_goals
    have H1 := Lib.hid h1
    first | have ⟨g1, g2⟩ := empt_t h1 | have ⟨g1, g2⟩ := empt_f h1
    have H2 := Lib.hid h2
    go_enter Tryd.func43, Tryd.ntmps43
    go_wp2_with (first | (go_at_call 62; refine (l28Plain_any _ _ _ (by first | exact HS.out | exact HR.out)).mono ?_; rintro e w' ⟨rfl, rfl⟩) | (go_at_call 63; refine (l1Stands_any c 64 _ HS.out).mono ?_; rintro e w' ⟨rfl, rfl⟩))
    go_ret
    exact ⟨ret_bool (by have e1 := H1.out; have e2 := H2.out; rw [HG.out, e1, ← size_list, e2, h3]; rfl), (Below.refl _ _).alloc (Nat.le_refl _) _⟩
theorem specIsValidRecord_any (c r : ByteArray) (w : World) (hc : c.size ≤ maxLen) (hr : r.size ≤ maxLen) :
    Calls Tryd.prog 38 #[.agg #[.string c, .string r]] w fun e w' => e = .returned (.bool (goodB c.data.toList r.data.toList)) ∧ Below w.heap.size w w' := by
  go_enter Tryd.func38, Tryd.ntmps38
  go_wp2_with (go_at_call 43; refine (l28Good_any c r _ hc hr).mono ?_; rintro e w1 ⟨rfl, hb1⟩; have ⟨cw1, fw1⟩ := bcell hb1; have qw1 := hb1.size; (try simp at qw1); (try have zw1w := bsz (show w.heap.size < w1.heap.size by omega)))
  go_ret
  exact ⟨rfl, Below.then ((Below.refl _ _).alloc (Nat.le_refl _) _) (by simp) hb1⟩
def szRec (left : Int) (c r : ByteArray) : Int := if left - c.size < 0 then -1 else if left - c.size - r.size < 0 then -1 else left - c.size - r.size
set_option maxHeartbeats 400000 in
theorem szLogRecord_any (c r : ByteArray) (left : Int) (w : World) (hc : c.size ≤ maxLen) (hr : r.size ≤ maxLen) (h0 : 0 ≤ left) (h1 : left ≤ 1048576) :
    Calls Tryd.prog 13 #[.agg #[.string c, .string r], .int .i64 left] w fun e w' => e = .returned (.int .i64 (szRec left c r)) ∧ Below w.heap.size w w' := by
  unfold maxLen at hc hr
  go_enter Tryd.func13, Tryd.ntmps13
  go_wp2
  all_goals go_ret
  all_goals go_light
  all_goals refine ⟨ret_int ?_, (Below.refl _ _).alloc (Nat.le_refl _) _⟩
  all_goals unfold szRec
  · rw [if_pos (by omega)]
  · rw [if_neg (by omega), if_pos (by omega)]
  · rw [if_neg (by omega), if_neg (by omega)]
set_option maxHeartbeats 400000 in
theorem toLogRecord_any (c r : ByteArray) (w : World) :
    Calls Tryd.prog 15 #[.agg #[.string c, .string r]] w fun e w' => e = .returned (.agg #[.string c, .string r]) ∧ Below w.heap.size w w' := by
  go_enter Tryd.func15, Tryd.ntmps15
  go_wp2
  refine bodyPost_ret (v := .agg #[.string c, .string r]) (by simp [results, Tryd.results15, go_sem]) rfl ⟨rfl, ?_⟩
  exact (((Below.refl _ _).alloc (Nat.le_refl _) _).alloc (by simp) _).alloc (by simp; omega) _
end Go.Proofs.YtofamefmodmekaaDoor
