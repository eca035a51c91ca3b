/- The laws that RecoverLog, IsValidLog, SyncLog answer alike on both sides. Conditions: sizes; the package tables lie as they were laid. -/
import Derived.Test.YtofamefmodmekaaDoorLogR
namespace Go.Proofs.YtofamefmodmekaaDoor
open Go.RowKit
set_option maxHeartbeats 400000 in
theorem specIsValidLog_any (d p : ByteArray) (n : Int) (w : World) (hd : d.size ≤ maxLen) (hp : p.size ≤ maxLen) (hs : d.size + p.size ≤ 1000000000) :
    Calls Tryd.prog 21 #[.agg #[.string d, .string p, .int .i64 n]] w fun e w' => e = .returned (.bool (validS d.data.toList p.data.toList n)) ∧ Below w.heap.size w w' := by
  go_enter Tryd.func21, Tryd.ntmps21
  go_wp2_with ((go_at_call 49; refine (l28Log_any _ _ _ _ hd hp hs).mono ?_; rintro e w1 ⟨rfl, hb1⟩; have ⟨cw1, fw1⟩ := bcell hb1; have qw1 := hb1.size; (try simp at qw1); (try have zw1w := bsz (show w.heap.size < w1.heap.size by omega))))
  go_ret
  exact ⟨rfl, by (repeat (first | exact Below.refl _ _ | assumption | refine Below.al ?_ _ | refine Below.sc ?_ (by first | exact Nat.le_refl _ | (simp; done) | (simp; omega)) _ | refine Below.dr ?_ | refine Below.drN ?_ _ | refine Below.step ?_ (by assumption)))⟩
set_option maxHeartbeats 400000 in
theorem implIsValidLog_any (d p : ByteArray) (n : Int) (w : World) (hE : Env w) (hs : d.size + p.size ≤ 1000000000) :
    Calls Tryd.prog 23 #[.agg #[.string d, .string p, .int .i64 n]] w fun e w' => e = .returned (.bool (validS d.data.toList p.data.toList n)) ∧ Below w.heap.size w w' := by
  have HE := Lib.hid hE
  have HV := Lib.hid (valid_same d.data.toList p.data.toList n)
  clear hE
  go_enter Tryd.func23, Tryd.ntmps23
  go_wp2_with (go_at_call 50; refine (records_any _ _ _ _ (HE.out.below (by (repeat (first | exact Below.refl _ _ | assumption | refine Below.al ?_ _ | refine Below.sc ?_ (by first | exact Nat.le_refl _ | (simp; done) | (simp; omega)) _ | refine Below.dr ?_ | refine Below.drN ?_ _ | refine Below.step ?_ (by assumption))))) hs).mono ?_; unfold RecordsPost; rintro e w1 ⟨g, c, rfl, ho1, hb1⟩; have ⟨cw1, fw1⟩ := bcell hb1; have qw1 := hb1.size; (try simp at qw1); have zw1w := bsz (show w.heap.size < w1.heap.size by omega); clear ho1)
  go_ret
  exact ⟨ret_bool HV.out, by (repeat (first | exact Below.refl _ _ | assumption | refine Below.al ?_ _ | refine Below.sc ?_ (by first | exact Nat.le_refl _ | (simp; done) | (simp; omega)) _ | refine Below.dr ?_ | refine Below.drN ?_ _ | refine Below.step ?_ (by assumption)))⟩
set_option maxHeartbeats 1600000 in
theorem exactIsValidLog (d p : ByteArray) (n : Int) (w : World) (hE : Env w) (hd : d.size ≤ maxLen) (hp : p.size ≤ maxLen) :
    Calls Tryd.prog 5 #[.agg #[.string d, .string p, .int .i64 n]] w fun e w' => e = .returned (.bool true) ∧ Below w.heap.size w w' := by
  have HE := Lib.hid hE
  have HS := Lib.hid (And.intro hd hp)
  clear hE hd hp
  by_cases h1 : szLogF 1048576 d p < 0
  · go_enter Tryd.func5, Tryd.ntmps5
    go_wp2_with (first | (go_at_call 20; refine (szLog_any _ _ _ _ _ HS.out.1 HS.out.2 (by omega) (by omega)).mono ?_; rintro e w1 ⟨rfl, hb1⟩; have ⟨cw1, fw1⟩ := bcell hb1; have qw1 := hb1.size; (try simp at qw1); (try have zw1w := bsz (show w.heap.size < w1.heap.size by omega))))
    go_ret
    exact ⟨rfl, by (repeat (first | exact Below.refl _ _ | assumption | refine Below.al ?_ _ | refine Below.sc ?_ (by first | exact Nat.le_refl _ | (simp; done) | (simp; omega)) _ | refine Below.dr ?_ | refine Below.drN ?_ _ | refine Below.step ?_ (by assumption)))⟩
  · have HZ := Lib.hid (show d.size + p.size ≤ 1000000000 by have := szLogF_le h1; omega)
    go_enter Tryd.func5, Tryd.ntmps5
    go_wp2_with (first | (go_at_call 20; refine (szLog_any _ _ _ _ _ HS.out.1 HS.out.2 (by omega) (by omega)).mono ?_; rintro e w1 ⟨rfl, hb1⟩; have ⟨cw1, fw1⟩ := bcell hb1; have qw1 := hb1.size; (try simp at qw1); (try have zw1w := bsz (show w.heap.size < w1.heap.size by omega))) | (go_at_call 22; refine (toLog_any _ _ _ _).mono ?_; rintro e w2 ⟨rfl, hb2⟩; have ⟨cw2, fw2⟩ := bcell hb2; have qw2 := hb2.size; (try simp at qw2); (try have zw2w := bsz (show w.heap.size < w2.heap.size by omega))) | (go_at_call 21; refine (specIsValidLog_any _ _ _ _ HS.out.1 HS.out.2 HZ.out).mono ?_; rintro e w3 ⟨rfl, hb3⟩; have ⟨cw3, fw3⟩ := bcell hb3; have qw3 := hb3.size; (try simp at qw3); (try have zw3w := bsz (show w.heap.size < w3.heap.size by omega))) | (go_at_call 23; refine (implIsValidLog_any _ _ _ _ (HE.out.below (by (repeat (first | exact Below.refl _ _ | assumption | refine Below.al ?_ _ | refine Below.sc ?_ (by first | exact Nat.le_refl _ | (simp; done) | (simp; omega)) _ | refine Below.dr ?_ | refine Below.drN ?_ _ | refine Below.step ?_ (by assumption))))) HZ.out).mono ?_; rintro e w4 ⟨rfl, hb4⟩; have ⟨cw4, fw4⟩ := bcell hb4; have qw4 := hb4.size; (try simp at qw4); (try have zw4w := bsz (show w.heap.size < w4.heap.size by omega))))
    go_ret
    exact ⟨rfl, by (repeat (first | exact Below.refl _ _ | assumption | refine Below.al ?_ _ | refine Below.sc ?_ (by first | exact Nat.le_refl _ | (simp; done) | (simp; omega)) _ | refine Below.dr ?_ | refine Below.drN ?_ _ | refine Below.step ?_ (by assumption)))⟩
set_option maxHeartbeats 1600000 in
theorem exactRecoverLog (s : ByteArray) (w : World) (hE : Env w) (hs : s.size ≤ maxLen) :
    Calls Tryd.prog 4 #[.string s] w fun e w' => e = .returned (.bool true) ∧ Below w.heap.size w w' := by
  have HE := Lib.hid hE
  have HS := Lib.hid hs
  unfold maxLen at hs
  by_cases h0 : 1048576 < (s.size : Int)
  · go_enter Tryd.func4, Tryd.ntmps4
    go_wp2
    go_ret
    exact ⟨rfl, by (repeat (first | exact Below.refl _ _ | assumption | refine Below.al ?_ _ | refine Below.sc ?_ (by first | exact Nat.le_refl _ | (simp; done) | (simp; omega)) _ | refine Below.dr ?_ | refine Below.drN ?_ _ | refine Below.step ?_ (by assumption)))⟩
  · by_cases h1 : 30000 < s.size
    · go_enter Tryd.func4, Tryd.ntmps4
      go_wp2_with (first | (go_at_call 17; refine (specRecover_big _ _ HS.out h1).mono ?_; rintro e w1 ⟨rfl, hb1⟩; have ⟨cw1, fw1⟩ := bcell hb1; have qw1 := hb1.size; (try simp at qw1); (try have zw1w := bsz (show w.heap.size < w1.heap.size by omega))) | (go_at_call 18; refine (implRecover_big _ _ HS.out h1).mono ?_; rintro e w2 ⟨rfl, hb2⟩; have ⟨cw2, fw2⟩ := bcell hb2; have qw2 := hb2.size; (try simp at qw2); (try have zw2w := bsz (show w.heap.size < w2.heap.size by omega)); (try have zw2w1 := bsz (show w1.heap.size < w2.heap.size by omega))) | (go_at_call 19; refine (eqLog_same _ _ _ _).mono ?_; rintro e w3 ⟨rfl, hb3⟩; have ⟨cw3, fw3⟩ := bcell hb3; have qw3 := hb3.size; (try simp at qw3); (try have zw3w := bsz (show w.heap.size < w3.heap.size by omega))))
      go_ret
      exact ⟨rfl, by (repeat (first | exact Below.refl _ _ | assumption | refine Below.al ?_ _ | refine Below.sc ?_ (by first | exact Nat.le_refl _ | (simp; done) | (simp; omega)) _ | refine Below.dr ?_ | refine Below.drN ?_ _ | refine Below.step ?_ (by assumption)))⟩
    · have h2 : s.size ≤ 30000 := by omega
      go_enter Tryd.func4, Tryd.ntmps4
      go_wp2_with (first | (go_at_call 17; refine (specRecover_any _ _ h2).mono ?_; rintro e w1 ⟨rfl, hb1⟩; have ⟨cw1, fw1⟩ := bcell hb1; have qw1 := hb1.size; (try simp at qw1); (try have zw1w := bsz (show w.heap.size < w1.heap.size by omega))) | (go_at_call 18; refine (implRecover_any _ _ (HE.out.below (by (repeat (first | exact Below.refl _ _ | assumption | refine Below.al ?_ _ | refine Below.sc ?_ (by first | exact Nat.le_refl _ | (simp; done) | (simp; omega)) _ | refine Below.dr ?_ | refine Below.drN ?_ _ | refine Below.step ?_ (by assumption))))) h2).mono ?_; rintro e w2 ⟨rfl, hb2⟩; have ⟨cw2, fw2⟩ := bcell hb2; have qw2 := hb2.size; (try simp at qw2); (try have zw2w := bsz (show w.heap.size < w2.heap.size by omega)); (try have zw2w1 := bsz (show w1.heap.size < w2.heap.size by omega))) | (go_at_call 19; refine (eqLog_same _ _ _ _).mono ?_; rintro e w3 ⟨rfl, hb3⟩; have ⟨cw3, fw3⟩ := bcell hb3; have qw3 := hb3.size; (try simp at qw3); (try have zw3w := bsz (show w.heap.size < w3.heap.size by omega))))

      go_ret
      exact ⟨rfl, by (repeat (first | exact Below.refl _ _ | assumption | refine Below.al ?_ _ | refine Below.sc ?_ (by first | exact Nat.le_refl _ | (simp; done) | (simp; omega)) _ | refine Below.dr ?_ | refine Below.drN ?_ _ | refine Below.step ?_ (by assumption)))⟩
set_option maxHeartbeats 800000 in
theorem specSyncLog_any (d p : ByteArray) (n : Int) (w : World) (hd : d.size ≤ maxLen) (hp : p.size ≤ maxLen) (hs : d.size + p.size ≤ 1000000000) :
    Calls Tryd.prog 26 #[.agg #[.string d, .string p, .int .i64 n]] w fun e w' => e = .returned (if validS d.data.toList p.data.toList n = true then .tuple #[.agg #[.string (d ++ p), .string ⟨#[]⟩, .int .i64 n], .bool true] else .tuple #[.agg #[.string ⟨#[]⟩, .string ⟨#[]⟩, .int .i64 0], .bool false]) ∧ Below w.heap.size w w' := by
  have h32 : ¬ 9223372036854775807 < d.size + p.size := by omega
  have HZ := Lib.hid (And.intro hd (And.intro hp hs))
  cases hv : validS d.data.toList p.data.toList n
  all_goals
    go_enter Tryd.func26, Tryd.ntmps26
    go_wp2_with ((go_at_call 49; refine (l28Log_any _ _ _ _ HZ.out.1 HZ.out.2.1 HZ.out.2.2).mono ?_; rintro e w1 ⟨rfl, hb1⟩; have ⟨cw1, fw1⟩ := bcell hb1; have qw1 := hb1.size; (try simp at qw1); (try have zw1w := bsz (show w.heap.size < w1.heap.size by omega))))
  · refine bodyPost_ret (v := .tuple #[.agg #[.string ⟨#[]⟩, .string ⟨#[]⟩, .int .i64 0], .bool false]) (by simp only [results, Tryd.results26]; go_simp) rfl ⟨rfl, by (repeat (first | exact Below.refl _ _ | assumption | refine Below.al ?_ _ | refine Below.sc ?_ (by first | exact Nat.le_refl _ | (simp; done) | (simp; omega)) _ | refine Below.dr ?_ | refine Below.drN ?_ _ | refine Below.step ?_ (by assumption)))⟩
  · refine bodyPost_ret (v := .tuple #[.agg #[.string (d ++ p), .string ⟨#[]⟩, .int .i64 n], .bool true]) (by simp only [results, Tryd.results26]; go_simp) rfl ⟨rfl, by (repeat (first | exact Below.refl _ _ | assumption | refine Below.al ?_ _ | refine Below.sc ?_ (by first | exact Nat.le_refl _ | (simp; done) | (simp; omega)) _ | refine Below.dr ?_ | refine Below.drN ?_ _ | refine Below.step ?_ (by assumption)))⟩
set_option maxHeartbeats 800000 in
theorem implSyncLog_any (d p : ByteArray) (n : Int) (w : World) (hE : Env w) (hs : d.size + p.size ≤ 1000000000) :
    Calls Tryd.prog 27 #[.agg #[.string d, .string p, .int .i64 n]] w fun e w' => e = .returned (if validS d.data.toList p.data.toList n = true then .tuple #[.agg #[.string (d ++ p), .string ⟨#[]⟩, .int .i64 n], .bool true] else .tuple #[.agg #[.string ⟨#[]⟩, .string ⟨#[]⟩, .int .i64 0], .bool false]) ∧ Below w.heap.size w w' := by
  have h32 : ¬ 9223372036854775807 < d.size + p.size := by omega
  have HE := Lib.hid hE
  have HZ := Lib.hid hs
  cases hv : validS d.data.toList p.data.toList n
  all_goals
    go_enter Tryd.func27, Tryd.ntmps27
    go_wp2_with ((go_at_call 23; refine (implIsValidLog_any _ _ _ _ (HE.out.below (by (repeat (first | exact Below.refl _ _ | assumption | refine Below.al ?_ _ | refine Below.sc ?_ (by first | exact Nat.le_refl _ | (simp; done) | (simp; omega)) _ | refine Below.dr ?_ | refine Below.drN ?_ _ | refine Below.step ?_ (by assumption))))) HZ.out).mono ?_; rintro e w1 ⟨rfl, hb1⟩; have ⟨cw1, fw1⟩ := bcell hb1; have qw1 := hb1.size; (try simp at qw1); (try have zw1w := bsz (show w.heap.size < w1.heap.size by omega))))
  · refine bodyPost_ret (v := .tuple #[.agg #[.string ⟨#[]⟩, .string ⟨#[]⟩, .int .i64 0], .bool false]) (by simp only [results, Tryd.results27]; go_simp) rfl ⟨rfl, by (repeat (first | exact Below.refl _ _ | assumption | refine Below.al ?_ _ | refine Below.sc ?_ (by first | exact Nat.le_refl _ | (simp; done) | (simp; omega)) _ | refine Below.dr ?_ | refine Below.drN ?_ _ | refine Below.step ?_ (by assumption)))⟩
  · refine bodyPost_ret (v := .tuple #[.agg #[.string (d ++ p), .string ⟨#[]⟩, .int .i64 n], .bool true]) (by simp only [results, Tryd.results27]; go_simp) rfl ⟨rfl, by (repeat (first | exact Below.refl _ _ | assumption | refine Below.al ?_ _ | refine Below.sc ?_ (by first | exact Nat.le_refl _ | (simp; done) | (simp; omega)) _ | refine Below.dr ?_ | refine Below.drN ?_ _ | refine Below.step ?_ (by assumption)))⟩
set_option maxHeartbeats 1600000 in
theorem exactSyncLog (d p : ByteArray) (n : Int) (w : World) (hE : Env w) (hd : d.size ≤ maxLen) (hp : p.size ≤ maxLen) :
    Calls Tryd.prog 7 #[.agg #[.string d, .string p, .int .i64 n]] w fun e w' => e = .returned (.bool true) ∧ Below w.heap.size w w' := by
  have HE := Lib.hid hE
  have HS := Lib.hid (And.intro hd hp)
  clear hE hd hp
  by_cases h1 : szLogF 1048576 d p < 0
  · go_enter Tryd.func7, Tryd.ntmps7
    go_wp2_with (first | (go_at_call 20; refine (szLog_any _ _ _ _ _ HS.out.1 HS.out.2 (by omega) (by omega)).mono ?_; rintro e w1 ⟨rfl, hb1⟩; have ⟨cw1, fw1⟩ := bcell hb1; have qw1 := hb1.size; (try simp at qw1); (try have zw1w := bsz (show w.heap.size < w1.heap.size by omega))))
    go_ret
    exact ⟨rfl, by (repeat (first | exact Below.refl _ _ | assumption | refine Below.al ?_ _ | refine Below.sc ?_ (by first | exact Nat.le_refl _ | (simp; done) | (simp; omega)) _ | refine Below.dr ?_ | refine Below.drN ?_ _ | refine Below.step ?_ (by assumption)))⟩
  · have HZ := Lib.hid (show d.size + p.size ≤ 1000000000 by have := szLogF_le h1; omega)
    cases hv : validS d.data.toList p.data.toList n
    · have HF := Lib.hid (fun (w : World) => by simpa [hv] using specSyncLog_any d p n w HS.out.1 HS.out.2 HZ.out)
      have HG := Lib.hid (fun (w : World) (hE : Env w) => by simpa [hv] using implSyncLog_any d p n w hE HZ.out)
      go_enter Tryd.func7, Tryd.ntmps7
      go_wp2_with (first | (go_at_call 20; refine (szLog_any _ _ _ _ _ HS.out.1 HS.out.2 (by omega) (by omega)).mono ?_; rintro e w1 ⟨rfl, hb1⟩; have ⟨cw1, fw1⟩ := bcell hb1; have qw1 := hb1.size; (try simp at qw1); (try have zw1w := bsz (show w.heap.size < w1.heap.size by omega))) | (go_at_call 22; refine (toLog_any _ _ _ _).mono ?_; rintro e w2 ⟨rfl, hb2⟩; have ⟨cw2, fw2⟩ := bcell hb2; have qw2 := hb2.size; (try simp at qw2); (try have zw2w := bsz (show w.heap.size < w2.heap.size by omega)); (try have zw2w1 := bsz (show w1.heap.size < w2.heap.size by omega)); (try have zw2w3 := bsz (show w3.heap.size < w2.heap.size by omega))) | (go_at_call 26; refine (HF.out _).mono ?_; rintro e w3 ⟨rfl, hb3⟩; have ⟨cw3, fw3⟩ := bcell hb3; have qw3 := hb3.size; (try simp at qw3); (try have zw3w := bsz (show w.heap.size < w3.heap.size by omega)); (try have zw3w1 := bsz (show w1.heap.size < w3.heap.size by omega)); (try have zw3w2 := bsz (show w2.heap.size < w3.heap.size by omega))) | (go_at_call 27; refine (HG.out _ (HE.out.below (by (repeat (first | exact Below.refl _ _ | assumption | refine Below.al ?_ _ | refine Below.sc ?_ (by first | exact Nat.le_refl _ | (simp; done) | (simp; omega)) _ | refine Below.dr ?_ | refine Below.drN ?_ _ | refine Below.step ?_ (by assumption)))))).mono ?_; rintro e w4 ⟨rfl, hb4⟩; have ⟨cw4, fw4⟩ := bcell hb4; have qw4 := hb4.size; (try simp at qw4); (try have zw4w := bsz (show w.heap.size < w4.heap.size by omega)); (try have zw4w1 := bsz (show w1.heap.size < w4.heap.size by omega)); (try have zw4w2 := bsz (show w2.heap.size < w4.heap.size by omega)); (try have zw4w3 := bsz (show w3.heap.size < w4.heap.size by omega))) | (go_at_call 19; refine (eqLog_same _ _ _ _).mono ?_; rintro e w5 ⟨rfl, hb5⟩; have ⟨cw5, fw5⟩ := bcell hb5; have qw5 := hb5.size; (try simp at qw5); (try have zw5w := bsz (show w.heap.size < w5.heap.size by omega))))
      go_ret
      exact ⟨rfl, by (repeat (first | exact Below.refl _ _ | assumption | refine Below.al ?_ _ | refine Below.sc ?_ (by first | exact Nat.le_refl _ | (simp; done) | (simp; omega)) _ | refine Below.dr ?_ | refine Below.drN ?_ _ | refine Below.step ?_ (by assumption)))⟩
    · have HF := Lib.hid (fun (w : World) => by simpa [hv] using specSyncLog_any d p n w HS.out.1 HS.out.2 HZ.out)
      have HG := Lib.hid (fun (w : World) (hE : Env w) => by simpa [hv] using implSyncLog_any d p n w hE HZ.out)
      go_enter Tryd.func7, Tryd.ntmps7
      go_wp2_with (first | (go_at_call 20; refine (szLog_any _ _ _ _ _ HS.out.1 HS.out.2 (by omega) (by omega)).mono ?_; rintro e w1 ⟨rfl, hb1⟩; have ⟨cw1, fw1⟩ := bcell hb1; have qw1 := hb1.size; (try simp at qw1); (try have zw1w := bsz (show w.heap.size < w1.heap.size by omega))) | (go_at_call 22; refine (toLog_any _ _ _ _).mono ?_; rintro e w2 ⟨rfl, hb2⟩; have ⟨cw2, fw2⟩ := bcell hb2; have qw2 := hb2.size; (try simp at qw2); (try have zw2w := bsz (show w.heap.size < w2.heap.size by omega)); (try have zw2w1 := bsz (show w1.heap.size < w2.heap.size by omega)); (try have zw2w3 := bsz (show w3.heap.size < w2.heap.size by omega))) | (go_at_call 26; refine (HF.out _).mono ?_; rintro e w3 ⟨rfl, hb3⟩; have ⟨cw3, fw3⟩ := bcell hb3; have qw3 := hb3.size; (try simp at qw3); (try have zw3w := bsz (show w.heap.size < w3.heap.size by omega)); (try have zw3w1 := bsz (show w1.heap.size < w3.heap.size by omega)); (try have zw3w2 := bsz (show w2.heap.size < w3.heap.size by omega))) | (go_at_call 27; refine (HG.out _ (HE.out.below (by (repeat (first | exact Below.refl _ _ | assumption | refine Below.al ?_ _ | refine Below.sc ?_ (by first | exact Nat.le_refl _ | (simp; done) | (simp; omega)) _ | refine Below.dr ?_ | refine Below.drN ?_ _ | refine Below.step ?_ (by assumption)))))).mono ?_; rintro e w4 ⟨rfl, hb4⟩; have ⟨cw4, fw4⟩ := bcell hb4; have qw4 := hb4.size; (try simp at qw4); (try have zw4w := bsz (show w.heap.size < w4.heap.size by omega)); (try have zw4w1 := bsz (show w1.heap.size < w4.heap.size by omega)); (try have zw4w2 := bsz (show w2.heap.size < w4.heap.size by omega)); (try have zw4w3 := bsz (show w3.heap.size < w4.heap.size by omega))) | (go_at_call 19; refine (eqLog_same _ _ _ _).mono ?_; rintro e w5 ⟨rfl, hb5⟩; have ⟨cw5, fw5⟩ := bcell hb5; have qw5 := hb5.size; (try simp at qw5); (try have zw5w := bsz (show w.heap.size < w5.heap.size by omega))))
      go_ret
      exact ⟨rfl, by (repeat (first | exact Below.refl _ _ | assumption | refine Below.al ?_ _ | refine Below.sc ?_ (by first | exact Nat.le_refl _ | (simp; done) | (simp; omega)) _ | refine Below.dr ?_ | refine Below.drN ?_ _ | refine Below.step ?_ (by assumption)))⟩
end Go.Proofs.YtofamefmodmekaaDoor
