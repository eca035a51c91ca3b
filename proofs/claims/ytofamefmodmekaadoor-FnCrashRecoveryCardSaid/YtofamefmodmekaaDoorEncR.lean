/- EncodeRecord, both sides. Conditions: sizes; the package tables lie as they were laid. -/
import Derived.Test.YtofamefmodmekaaDoorEnc
namespace Go.Proofs.YtofamefmodmekaaDoor
open Go.RowKit
set_option maxHeartbeats 800000 in
theorem implEncodeRecord_yes (k : Int) (c r : ByteArray) (w : World) (hE : Env w) (hk : inB k 0 59 = true) (hg : goodB c.data.toList r.data.toList = true) (hc : c.size ≤ maxLen) (hr : r.size ≤ maxLen) :
    Calls Tryd.prog 16 #[.int .i64 k, .agg #[.string c, .string r]] w fun e w' => e = .returned (.tuple #[.string ⟨(encF k c.data.toList r.data.toList).toArray⟩, .bool true]) ∧ Below w.heap.size w w' := by
  have HE := Lib.hid hE
  have HG := Lib.hid hg
  have HS := Lib.hid (And.intro hc hr)
  have hk0 : 0 ≤ k ∧ k ≤ 59 := by simpa [inB] using hk
  go_enter Tryd.func16, Tryd.ntmps16
  go_wp2_with (first | (go_at_call 45; refine (within_any _ _ _ _).mono ?_; rintro e w' ⟨rfl, rfl⟩) | (go_at_call 37; refine (isValidRecord_any _ _ _ HS.out.1 HS.out.2).mono ?_; rintro e w1 ⟨rfl, hb1⟩; have ⟨cw1, fw1⟩ := bcell hb1; have qw1 := hb1.size; (try simp at qw1); (try have zw1w := bsz (show w.heap.size < w1.heap.size by omega))) | (go_at_call 46; refine (encodeRecord_ok _ _ _ _ (HE.out.below (by (repeat (first | exact Below.refl _ _ | assumption | refine Below.al ?_ _ | refine Below.sc ?_ (by first | exact Nat.le_refl _ | (simp; done) | (simp; omega)) _ | refine Below.dr ?_ | refine Below.drN ?_ _ | refine Below.step ?_ (by assumption))))) hk0.1 (by omega) HG.out).mono ?_; rintro e w2 ⟨rfl, hb2⟩; have ⟨cw2, fw2⟩ := bcell hb2; have qw2 := hb2.size; (try simp at qw2); (try have zw2w := bsz (show w.heap.size < w2.heap.size by omega))))
  go_ret2
  exact ⟨rfl, by (repeat (first | exact Below.refl _ _ | assumption | refine Below.al ?_ _ | refine Below.sc ?_ (by first | exact Nat.le_refl _ | (simp; done) | (simp; omega)) _ | refine Below.dr ?_ | refine Below.drN ?_ _ | refine Below.step ?_ (by assumption)))⟩
set_option maxHeartbeats 800000 in
theorem implEncodeRecord_no (k : Int) (c r : ByteArray) (w : World) (hb : (inB k 0 59 && goodB c.data.toList r.data.toList) = false) (hc : c.size ≤ maxLen) (hr : r.size ≤ maxLen) :
    Calls Tryd.prog 16 #[.int .i64 k, .agg #[.string c, .string r]] w fun e w' => e = .returned (.tuple #[.string ⟨#[]⟩, .bool false]) ∧ Below w.heap.size w w' := by
  have HS := Lib.hid (And.intro hc hr)
  cases h1 : inB k 0 59
  · go_enter Tryd.func16, Tryd.ntmps16
    go_wp2_with (first | (go_at_call 45; refine (within_any _ _ _ _).mono ?_; rintro e w' ⟨rfl, rfl⟩))
    go_ret2
    exact ⟨rfl, by (repeat (first | exact Below.refl _ _ | assumption | refine Below.al ?_ _ | refine Below.sc ?_ (by first | exact Nat.le_refl _ | (simp; done) | (simp; omega)) _ | refine Below.dr ?_ | refine Below.drN ?_ _ | refine Below.step ?_ (by assumption)))⟩
  · have h2 : goodB c.data.toList r.data.toList = false := by rw [h1] at hb; simpa using hb
    clear hb
    go_enter Tryd.func16, Tryd.ntmps16
    go_wp2_with (first | (go_at_call 45; refine (within_any _ _ _ _).mono ?_; rintro e w' ⟨rfl, rfl⟩) | (go_at_call 37; refine (isValidRecord_any _ _ _ HS.out.1 HS.out.2).mono ?_; rintro e w1 ⟨rfl, hb1⟩; have ⟨cw1, fw1⟩ := bcell hb1; have qw1 := hb1.size; (try simp at qw1); (try have zw1w := bsz (show w.heap.size < w1.heap.size by omega))))
    go_ret2
    exact ⟨rfl, by (repeat (first | exact Below.refl _ _ | assumption | refine Below.al ?_ _ | refine Below.sc ?_ (by first | exact Nat.le_refl _ | (simp; done) | (simp; omega)) _ | refine Below.dr ?_ | refine Below.drN ?_ _ | refine Below.step ?_ (by assumption)))⟩
set_option maxHeartbeats 800000 in
theorem specEncodeRecord_yes (k : Int) (c r : ByteArray) (w : World) (hk : inB k 0 59 = true) (hg : goodB c.data.toList r.data.toList = true) (hc : c.size ≤ maxLen) (hr : r.size ≤ maxLen) :
    Calls Tryd.prog 14 #[.int .i64 k, .agg #[.string c, .string r]] w fun e w' => e = .returned (.tuple #[.string ⟨(encF k c.data.toList r.data.toList).toArray⟩, .bool true]) ∧ Below w.heap.size w w' := by
  have hlen : c.size + r.size ≤ 1000000000 := by have := good_parts hg; simp only [size_list]; omega
  have HS := Lib.hid (And.intro hc hr)
  have hk0 : 0 ≤ k ∧ k ≤ 59 := by simpa [inB] using hk
  go_enter Tryd.func14, Tryd.ntmps14
  go_wp2_with (first | (go_at_call 42; refine (l1In_any _ _ _ _).mono ?_; rintro e w' ⟨rfl, rfl⟩) | (go_at_call 43; refine (l28Good_any _ _ _ HS.out.1 HS.out.2).mono ?_; rintro e w1 ⟨rfl, hb1⟩; have ⟨cw1, fw1⟩ := bcell hb1; have qw1 := hb1.size; (try simp at qw1); (try have zw1w := bsz (show w.heap.size < w1.heap.size by omega))) | (go_at_call 44; refine (l28Line_any _ _ _ _ hk0.1 (by omega) hlen).mono ?_; rintro e w2 ⟨rfl, hb2⟩; have ⟨cw2, fw2⟩ := bcell hb2; have qw2 := hb2.size; (try simp at qw2); (try have zw2w := bsz (show w.heap.size < w2.heap.size by omega))))
  go_ret2
  exact ⟨rfl, by (repeat (first | exact Below.refl _ _ | assumption | refine Below.al ?_ _ | refine Below.sc ?_ (by first | exact Nat.le_refl _ | (simp; done) | (simp; omega)) _ | refine Below.dr ?_ | refine Below.drN ?_ _ | refine Below.step ?_ (by assumption)))⟩
set_option maxHeartbeats 800000 in
theorem specEncodeRecord_no (k : Int) (c r : ByteArray) (w : World) (hb : (inB k 0 59 && goodB c.data.toList r.data.toList) = false) (hc : c.size ≤ maxLen) (hr : r.size ≤ maxLen) :
    Calls Tryd.prog 14 #[.int .i64 k, .agg #[.string c, .string r]] w fun e w' => e = .returned (.tuple #[.string ⟨#[]⟩, .bool false]) ∧ Below w.heap.size w w' := by
  have HS := Lib.hid (And.intro hc hr)
  cases h1 : inB k 0 59
  · go_enter Tryd.func14, Tryd.ntmps14
    go_wp2_with (first | (go_at_call 42; refine (l1In_any _ _ _ _).mono ?_; rintro e w' ⟨rfl, rfl⟩))
    go_ret2
    exact ⟨rfl, by (repeat (first | exact Below.refl _ _ | assumption | refine Below.al ?_ _ | refine Below.sc ?_ (by first | exact Nat.le_refl _ | (simp; done) | (simp; omega)) _ | refine Below.dr ?_ | refine Below.drN ?_ _ | refine Below.step ?_ (by assumption)))⟩
  · have h2 : goodB c.data.toList r.data.toList = false := by rw [h1] at hb; simpa using hb
    clear hb
    go_enter Tryd.func14, Tryd.ntmps14
    go_wp2_with (first | (go_at_call 42; refine (l1In_any _ _ _ _).mono ?_; rintro e w' ⟨rfl, rfl⟩) | (go_at_call 43; refine (l28Good_any _ _ _ HS.out.1 HS.out.2).mono ?_; rintro e w1 ⟨rfl, hb1⟩; have ⟨cw1, fw1⟩ := bcell hb1; have qw1 := hb1.size; (try simp at qw1); (try have zw1w := bsz (show w.heap.size < w1.heap.size by omega))))
    go_ret2
    exact ⟨rfl, by (repeat (first | exact Below.refl _ _ | assumption | refine Below.al ?_ _ | refine Below.sc ?_ (by first | exact Nat.le_refl _ | (simp; done) | (simp; omega)) _ | refine Below.dr ?_ | refine Below.drN ?_ _ | refine Below.step ?_ (by assumption)))⟩
set_option maxHeartbeats 1600000 in
theorem exactEncodeRecord (k : Int) (c r : ByteArray) (w : World) (hE : Env w) (hc : c.size ≤ maxLen) (hr : r.size ≤ maxLen) :
    Calls Tryd.prog 3 #[.int .i64 k, .agg #[.string c, .string r]] w fun e w' => e = .returned (.bool true) ∧ Below w.heap.size w w' := by
  have HE := Lib.hid hE
  have HS := Lib.hid (And.intro hc hr)
  cases h1 : inB k 0 59 && goodB c.data.toList r.data.toList
  · have H1 := Lib.hid h1
    clear h1
    go_enter Tryd.func3, Tryd.ntmps3
    go_wp2_with (first | (go_at_call 13; refine (szLogRecord_any _ _ _ _ HS.out.1 HS.out.2 (by omega) (by omega)).mono ?_; rintro e w1 ⟨rfl, hb1⟩; have ⟨cw1, fw1⟩ := bcell hb1; have qw1 := hb1.size; (try simp at qw1); (try have zw1w := bsz (show w.heap.size < w1.heap.size by omega))) | (go_at_call 15; refine (toLogRecord_any _ _ _).mono ?_; rintro e w2 ⟨rfl, hb2⟩; have ⟨cw2, fw2⟩ := bcell hb2; have qw2 := hb2.size; (try simp at qw2); (try have zw2w := bsz (show w.heap.size < w2.heap.size by omega))) | (go_at_call 14; refine (specEncodeRecord_no _ _ _ _ H1.out HS.out.1 HS.out.2).mono ?_; rintro e w3 ⟨rfl, hb3⟩; have ⟨cw3, fw3⟩ := bcell hb3; have qw3 := hb3.size; (try simp at qw3); (try have zw3w := bsz (show w.heap.size < w3.heap.size by omega))) | (go_at_call 16; refine (implEncodeRecord_no _ _ _ _ H1.out HS.out.1 HS.out.2).mono ?_; rintro e w4 ⟨rfl, hb4⟩; have ⟨cw4, fw4⟩ := bcell hb4; have qw4 := hb4.size; (try simp at qw4); (try have zw4w := bsz (show w.heap.size < w4.heap.size by omega))))
    all_goals go_ret
    all_goals exact ⟨rfl, by (repeat (first | exact Below.refl _ _ | assumption | refine Below.al ?_ _ | refine Below.sc ?_ (by first | exact Nat.le_refl _ | (simp; done) | (simp; omega)) _ | refine Below.dr ?_ | refine Below.drN ?_ _ | refine Below.step ?_ (by assumption)))⟩
  · have H1 := Lib.hid (show inB k 0 59 = true ∧ goodB c.data.toList r.data.toList = true by simpa using h1)
    clear h1
    go_enter Tryd.func3, Tryd.ntmps3
    go_wp2_with (first | (go_at_call 13; refine (szLogRecord_any _ _ _ _ HS.out.1 HS.out.2 (by omega) (by omega)).mono ?_; rintro e w1 ⟨rfl, hb1⟩; have ⟨cw1, fw1⟩ := bcell hb1; have qw1 := hb1.size; (try simp at qw1); (try have zw1w := bsz (show w.heap.size < w1.heap.size by omega))) | (go_at_call 15; refine (toLogRecord_any _ _ _).mono ?_; rintro e w2 ⟨rfl, hb2⟩; have ⟨cw2, fw2⟩ := bcell hb2; have qw2 := hb2.size; (try simp at qw2); (try have zw2w := bsz (show w.heap.size < w2.heap.size by omega))) | (go_at_call 14; refine (specEncodeRecord_yes _ _ _ _ H1.out.1 H1.out.2 HS.out.1 HS.out.2).mono ?_; rintro e w3 ⟨rfl, hb3⟩; have ⟨cw3, fw3⟩ := bcell hb3; have qw3 := hb3.size; (try simp at qw3); (try have zw3w := bsz (show w.heap.size < w3.heap.size by omega))) | (go_at_call 16; refine (implEncodeRecord_yes _ _ _ _ (HE.out.below (by (repeat (first | exact Below.refl _ _ | assumption | refine Below.al ?_ _ | refine Below.sc ?_ (by first | exact Nat.le_refl _ | (simp; done) | (simp; omega)) _ | refine Below.dr ?_ | refine Below.drN ?_ _ | refine Below.step ?_ (by assumption))))) H1.out.1 H1.out.2 HS.out.1 HS.out.2).mono ?_; rintro e w4 ⟨rfl, hb4⟩; have ⟨cw4, fw4⟩ := bcell hb4; have qw4 := hb4.size; (try simp at qw4); (try have zw4w := bsz (show w.heap.size < w4.heap.size by omega))))
    all_goals go_ret
    all_goals exact ⟨rfl, by (repeat (first | exact Below.refl _ _ | assumption | refine Below.al ?_ _ | refine Below.sc ?_ (by first | exact Nat.le_refl _ | (simp; done) | (simp; omega)) _ | refine Below.dr ?_ | refine Below.drN ?_ _ | refine Below.step ?_ (by assumption)))⟩
end Go.Proofs.YtofamefmodmekaaDoor
