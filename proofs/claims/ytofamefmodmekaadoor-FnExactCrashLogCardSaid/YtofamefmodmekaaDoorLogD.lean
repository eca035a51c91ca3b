/- The law that CrashLog answers alike on both sides. Conditions: sizes; the package tables lie as they were laid. -/
import Derived.Test.YtofamefmodmekaaDoorLogC
namespace Go.Proofs.YtofamefmodmekaaDoor
open Go.RowKit
/-- What both sides answer, whatever it is. -/
theorem crash_same (d p : ByteArray) (n k : Int) (t : Bool) (hd : d.size ≤ maxLen) (hp : p.size ≤ maxLen) (hs : d.size + p.size ≤ 1000000000) :
    ∃ (s : ByteArray) (b : Bool), (∀ w, Calls Tryd.prog 24 #[.agg #[.string d, .string p, .int .i64 n], .int .i64 k, .bool t] w fun e w' => e = .returned (.tuple #[.string s, .bool b]) ∧ Below w.heap.size w w') ∧
      (∀ w, Env w → Calls Tryd.prog 25 #[.agg #[.string d, .string p, .int .i64 n], .int .i64 k, .bool t] w fun e w' => e = .returned (.tuple #[.string s, .bool b]) ∧ Below w.heap.size w w') := by
  cases hv : validS d.data.toList p.data.toList n && inB k 0 p.size
  · exact ⟨_, _, fun w => specCrash_no d p n k t w hd hp hs hv, fun w hE => implCrash_no d p n k t w hE hp hs hv⟩
  · have hv2 : validS d.data.toList p.data.toList n = true ∧ inB k 0 p.size = true := by simpa using hv
    have hk : 0 ≤ k ∧ k ≤ p.size := by simpa [inB] using hv2.2
    obtain ⟨j, rfl⟩ : ∃ j : Nat, k = j := ⟨k.toNat, by omega⟩
    have hj : j ≤ p.size := by omega
    cases ht : (t && decide (0 < j))
    · exact ⟨_, _, fun w => specCrash_keep d p n j w hd hp hs hv2.1 hj t ht, fun w hE => implCrash_keep d p n j w hE hs hv2.1 hj t ht⟩
    · have ht2 : t = true ∧ 0 < j := by simpa using ht
      obtain ⟨m, rfl⟩ : ∃ m, j = m + 1 := ⟨j - 1, by omega⟩
      obtain ⟨rfl, -⟩ := ht2
      exact ⟨_, _, fun w => specCrash_turn d p n m w hd hp hs hv2.1 hj, fun w hE => implCrash_turn d p n m w hE hs hv2.1 hj⟩
set_option maxRecDepth 100000 in
set_option maxHeartbeats 1600000 in
theorem exactCrashLog (d p : ByteArray) (n k : Int) (t : Bool) (w : World) (hE : Env w) (hd : d.size ≤ maxLen) (hp : p.size ≤ maxLen) (_h0 : -9223372036854775808 ≤ k) (_h1 : k ≤ 9223372036854775807) :
    Calls Tryd.prog 6 #[.agg #[.string d, .string p, .int .i64 n], .int .i64 k, .bool t] w fun e w' => e = .returned (.bool true) ∧ Below w.heap.size w w' := by
  have HE := Lib.hid hE
  have HS := Lib.hid (And.intro hd hp)
  by_cases h1 : szLogF 1048576 d p < 0
  · go_enter Tryd.func6, Tryd.ntmps6
    go_wp2_with (first | (go_at_call 20; refine (szLog_any _ _ _ _ _ HS.out.1 HS.out.2 (by omega) (by omega)).mono ?_; rintro e w1 ⟨rfl, hb1⟩; have ⟨cw1, fw1⟩ := bcell hb1; have qw1 := hb1.size; (try simp at qw1); (try have zw1w := bsz (show w.heap.size < w1.heap.size by omega))))
    go_ret
    exact ⟨rfl, by (repeat (first | exact Below.refl _ _ | assumption | refine Below.al ?_ _ | refine Below.sc ?_ (by first | exact Nat.le_refl _ | (simp; done) | (simp; omega)) _ | refine Below.dr ?_ | refine Below.drN ?_ _ | refine Below.step ?_ (by assumption)))⟩
  · obtain ⟨s, b, hf, hg⟩ := crash_same d p n k t hd hp (show d.size + p.size ≤ 1000000000 by have := szLogF_le h1; omega)
    have HF := Lib.hid hf
    have HG := Lib.hid hg
    clear hf hg hE hd hp
    go_enter Tryd.func6, Tryd.ntmps6
    go_wp2_with (first | (go_at_call 20; refine (szLog_any _ _ _ _ _ HS.out.1 HS.out.2 (by omega) (by omega)).mono ?_; rintro e w1 ⟨rfl, hb1⟩; have ⟨cw1, fw1⟩ := bcell hb1; have qw1 := hb1.size; (try simp at qw1); (try have zw1w := bsz (show w.heap.size < w1.heap.size by omega))) | (go_at_call 22; refine (toLog_any _ _ _ _).mono ?_; rintro e w2 ⟨rfl, hb2⟩; have ⟨cw2, fw2⟩ := bcell hb2; have qw2 := hb2.size; (try simp at qw2); (try have zw2w := bsz (show w.heap.size < w2.heap.size by omega)); (try have zw2w1 := bsz (show w1.heap.size < w2.heap.size by omega)); (try have zw2w3 := bsz (show w3.heap.size < w2.heap.size by omega))) | (go_at_call 24; refine (HF.out _).mono ?_; rintro e w3 ⟨rfl, hb3⟩; have ⟨cw3, fw3⟩ := bcell hb3; have qw3 := hb3.size; (try simp at qw3); (try have zw3w := bsz (show w.heap.size < w3.heap.size by omega)); (try have zw3w1 := bsz (show w1.heap.size < w3.heap.size by omega)); (try have zw3w2 := bsz (show w2.heap.size < w3.heap.size by omega))) | (go_at_call 25; refine (HG.out _ (HE.out.below (by (repeat (first | exact Below.refl _ _ | assumption | refine Below.al ?_ _ | refine Below.sc ?_ (by first | exact Nat.le_refl _ | (simp; done) | (simp; omega)) _ | refine Below.dr ?_ | refine Below.drN ?_ _ | refine Below.step ?_ (by assumption)))))).mono ?_; rintro e w4 ⟨rfl, hb4⟩; have ⟨cw4, fw4⟩ := bcell hb4; have qw4 := hb4.size; (try simp at qw4); (try have zw4w := bsz (show w.heap.size < w4.heap.size by omega)); (try have zw4w1 := bsz (show w1.heap.size < w4.heap.size by omega)); (try have zw4w2 := bsz (show w2.heap.size < w4.heap.size by omega)); (try have zw4w3 := bsz (show w3.heap.size < w4.heap.size by omega))))
    go_ret
    exact ⟨rfl, by (repeat (first | exact Below.refl _ _ | assumption | refine Below.al ?_ _ | refine Below.sc ?_ (by first | exact Nat.le_refl _ | (simp; done) | (simp; omega)) _ | refine Below.dr ?_ | refine Below.drN ?_ _ | refine Below.step ?_ (by assumption)))⟩
end Go.Proofs.YtofamefmodmekaaDoor
