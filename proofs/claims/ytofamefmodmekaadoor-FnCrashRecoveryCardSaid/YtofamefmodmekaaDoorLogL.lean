/- The laws on logs: their helpers; validity of logs, both sides. Conditions: sizes; the package tables lie as they were laid. -/
import Derived.Test.YtofamefmodmekaaDoorLogV
namespace Go.Proofs.YtofamefmodmekaaDoor
open Go.RowKit
theorem eqLog_same (d p : ByteArray) (n : Int) (w : World) :
    Calls Tryd.prog 19 #[.agg #[.string d, .string p, .int .i64 n], .agg #[.string d, .string p, .int .i64 n]] w fun e w' => e = .returned (.bool true) ∧ Below w.heap.size w w' := by
  go_enter Tryd.func19, Tryd.ntmps19
  go_wp2
  go_ret
  exact ⟨rfl, by (repeat (first | exact Below.refl _ _ | assumption | refine Below.al ?_ _ | refine Below.sc ?_ (by first | exact Nat.le_refl _ | (simp; done) | (simp; omega)) _ | refine Below.dr ?_ | refine Below.drN ?_ _ | refine Below.step ?_ (by assumption)))⟩
def szLogF (left : Int) (d p : ByteArray) : Int := if left - d.size < 0 then -1 else if left - d.size - p.size < 0 then -1 else left - d.size - p.size
set_option maxHeartbeats 400000 in
theorem szLog_any (d p : ByteArray) (n left : Int) (w : World) (hc : d.size ≤ maxLen) (hr : p.size ≤ maxLen) (h0 : 0 ≤ left) (h1 : left ≤ 1048576) :
    Calls Tryd.prog 20 #[.agg #[.string d, .string p, .int .i64 n], .int .i64 left] w fun e w' => e = .returned (.int .i64 (szLogF left d p)) ∧ Below w.heap.size w w' := by
  unfold maxLen at hc hr
  go_enter Tryd.func20, Tryd.ntmps20
  go_wp2
  all_goals go_ret
  all_goals go_light
  all_goals refine ⟨ret_int ?_, (Below.refl _ _).alloc (Nat.le_refl _) _⟩
  all_goals unfold szLogF
  · rw [if_pos (by omega)]
  · rw [if_neg (by omega), if_pos (by omega)]
  · rw [if_neg (by omega), if_neg (by omega)]
theorem szLogF_le {left : Int} {d p : ByteArray} (h : ¬ szLogF left d p < 0) : (d.size : Int) + p.size ≤ left ∧ szLogF left d p = left - d.size - p.size := by
  unfold szLogF at *
  split at h
  · omega
  · split at h
    · omega
    · rw [if_neg (by assumption), if_neg (by assumption)]; omega
set_option maxHeartbeats 400000 in
theorem toLog_any (d p : ByteArray) (n : Int) (w : World) :
    Calls Tryd.prog 22 #[.agg #[.string d, .string p, .int .i64 n]] w fun e w' => e = .returned (.agg #[.string d, .string p, .int .i64 n]) ∧ Below w.heap.size w w' := by
  go_enter Tryd.func22, Tryd.ntmps22
  go_wp2
  refine bodyPost_ret (v := .agg #[.string d, .string p, .int .i64 n]) (by simp only [results, Tryd.results22]; go_simp) rfl ⟨rfl, ?_⟩
  (repeat (first | exact Below.refl _ _ | assumption | refine Below.al ?_ _ | refine Below.sc ?_ (by first | exact Nat.le_refl _ | (simp; done) | (simp; omega)) _ | refine Below.dr ?_ | refine Below.drN ?_ _ | refine Below.step ?_ (by assumption)))
theorem beq_nat (a b : Nat) : decide (a = b) = ((a : Int) == (b : Int)) := by
  rw [Bool.eq_iff_iff]; simp; omega
theorem beq_nat2 (a b c : Nat) : decide (a = b + c) = ((a : Int) == (b : Int) + (c : Int)) := by
  rw [Bool.eq_iff_iff]; simp; omega
theorem beq_int (a b : Int) : decide (a = b) = (a == b) := by
  rw [Bool.eq_iff_iff]; simp
theorem validS_eq (d p : ByteArray) (n : Int) : validS d.data.toList p.data.toList n = (decide (d.size + p.size ≤ 30000) && ((lenR 0 (allF (d.data.toList ++ p.data.toList)) : Int) == (d.size : Int) + (p.size : Int)) && ((lenR 0 (allF d.data.toList) : Int) == (d.size : Int)) && (((allF (d.data.toList ++ p.data.toList)).length : Int) == n)) := by
  rw [← beq_nat2, ← beq_nat, ← beq_int, validS]; rfl
set_option maxRecDepth 100000 in
set_option maxHeartbeats 1600000 in
theorem l28Log_any (d p : ByteArray) (n : Int) (w : World) (hd : d.size ≤ maxLen) (hp : p.size ≤ maxLen) (hs : d.size + p.size ≤ 1000000000) :
    Calls Tryd.prog 49 #[.agg #[.string d, .string p, .int .i64 n]] w fun e w' => e = .returned (.bool (validS d.data.toList p.data.toList n)) ∧ Below w.heap.size w w' := by
  have HV := Lib.hid (validS_eq d p n)
  by_cases h3 : 30000 < d.size + p.size
  · have h31 : 30000 < (d.size : Int) + p.size := by omega
    go_enter Tryd.func49, Tryd.ntmps49
    go_wp2
    go_ret
    exact ⟨ret_bool (by rw [HV.out, decide_eq_false (by omega)]; rfl), by (repeat (first | exact Below.refl _ _ | assumption | refine Below.al ?_ _ | refine Below.sc ?_ (by first | exact Nat.le_refl _ | (simp; done) | (simp; omega)) _ | refine Below.dr ?_ | refine Below.drN ?_ _ | refine Below.step ?_ (by assumption)))⟩
  · have h31 : ¬ 30000 < (d.size : Int) + p.size := by omega
    have HZ := Lib.hid (show (d ++ p).size ≤ 1000000 by rw [bytes_append']; show (_ ++ _ : List UInt8).length ≤ _; rw [List.length_append, ← size_list, ← size_list]; omega)
    have HZ1 := Lib.hid (show d.size ≤ 1000000 by omega)
    have h32 : ¬ 9223372036854775807 < d.size + p.size := by omega
    have HD3 := Lib.hid (show d.size + p.size ≤ 30000 by omega)
    clear h3 hd hp hs
    cases hA : ((lenR 0 (allF (d.data.toList ++ p.data.toList)) : Int) == (d.size : Int) + p.size) <;> cases hB : ((lenR 0 (allF d.data.toList) : Int) == (d.size : Int)) <;> cases hC : (((allF (d.data.toList ++ p.data.toList)).length : Int) == n)
    all_goals
      have HA := Lib.hid hA
      have HB := Lib.hid hB
      have HC := Lib.hid hC
      go_enter Tryd.func49, Tryd.ntmps49
      go_wp2_with (go_at_call 47; refine (l28Open_any _ _ (by first | exact HZ.out | exact HZ1.out)).mono ?_; rintro e w1 ⟨g, c, rfl, ho1, hb1⟩; have ⟨cw1, fw1⟩ := bcell hb1; have qw1 := hb1.size; (try simp at qw1); have zw1w := bsz (show w.heap.size < w1.heap.size by omega); clear ho1)
      go_ret
      exact ⟨ret_bool (by rw [HV.out, HA.out, HB.out, HC.out, decide_eq_true HD3.out]; rfl), by (repeat (first | exact Below.refl _ _ | assumption | refine Below.al ?_ _ | refine Below.sc ?_ (by first | exact Nat.le_refl _ | (simp; done) | (simp; omega)) _ | refine Below.dr ?_ | refine Below.drN ?_ _ | refine Below.step ?_ (by assumption)))⟩
end Go.Proofs.YtofamefmodmekaaDoor
