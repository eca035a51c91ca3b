/- EncodeRecord, both sides. Conditions: sizes; the package tables lie as they were laid. -/
import Derived.Test.YtofamefmodmekaaEnc
namespace Go.Proofs.Ytofamefmodmekaa
open Go.RowKit
set_option maxHeartbeats 1600000 in
theorem exactIsValidRecord (c r : ByteArray) (w : World) (hc : c.size ≤ maxLen) (hr : r.size ≤ maxLen) :
    Calls Try.prog 3 #[.agg #[.string c, .string r]] w fun e w' => e = .returned (.bool true) ∧ Below w.heap.size w w' := by
  have HS := Lib.hid (And.intro hc hr)
  go_enter Try.func3, Try.ntmps3
  go_wp2_with (first | (go_at_call 4; refine (szLogRecord_any _ _ _ _ HS.out.1 HS.out.2 (by omega) (by omega)).mono ?_; rintro e w1 ⟨rfl, hb1⟩; have ⟨cw1, fw1⟩ := bcell hb1; have qw1 := hb1.size; (try simp at qw1); (try have zw1w := bsz (show w.heap.size < w1.heap.size by omega))) | (go_at_call 6; refine (toLogRecord_any _ _ _).mono ?_; rintro e w2 ⟨rfl, hb2⟩; have ⟨cw2, fw2⟩ := bcell hb2; have qw2 := hb2.size; (try simp at qw2); (try have zw2w := bsz (show w.heap.size < w2.heap.size by omega))) | (go_at_call 5; refine (specIsValidRecord_any _ _ _ HS.out.1 HS.out.2).mono ?_; rintro e w3 ⟨rfl, hb3⟩; have ⟨cw3, fw3⟩ := bcell hb3; have qw3 := hb3.size; (try simp at qw3); (try have zw3w := bsz (show w.heap.size < w3.heap.size by omega))) | (go_at_call 7; refine (isValidRecord_any _ _ _ HS.out.1 HS.out.2).mono ?_; rintro e w4 ⟨rfl, hb4⟩; have ⟨cw4, fw4⟩ := bcell hb4; have qw4 := hb4.size; (try simp at qw4); (try have zw4w := bsz (show w.heap.size < w4.heap.size by omega))))
  all_goals go_ret
  all_goals exact ⟨rfl, by (repeat (first | exact Below.refl _ _ | assumption | refine Below.al ?_ _ | refine Below.dr ?_ | refine Below.drN ?_ _ | refine Below.step ?_ (by assumption)))⟩
end Go.Proofs.Ytofamefmodmekaa
