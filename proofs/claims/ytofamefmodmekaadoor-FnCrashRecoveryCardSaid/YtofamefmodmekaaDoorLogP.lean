/- LogRecords, both sides, and the law that they answer alike. Conditions: sizes; the package tables lie as they were laid. -/
import Derived.Test.YtofamefmodmekaaDoorLogN
namespace Go.Proofs.YtofamefmodmekaaDoor
open Go.RowKit
def RecsPost (ps : List Rec) (w : World) (e : Ending) (w' : World) : Prop :=
  ∃ (g c : Nat), e = .returned (.tuple #[.slice (some ⟨g, 0, none⟩) ps.length c, .bool true]) ∧ w'.ownsRow w.heap.size 27 2 (.slice (some ⟨g, 0, none⟩) ps.length c) ps.length (recV ps) ∧ Below w.heap.size w w'
theorem valid_size {d p : List UInt8} {n : Int} (h : validS d p n = true) : d.length + p.length ≤ 30000 := by
  unfold validS at h
  simp only [Bool.and_eq_true, decide_eq_true_eq] at h
  exact h.1.1.1
set_option maxHeartbeats 800000 in
theorem specRecs_no (d p : ByteArray) (n : Int) (w : World) (hd : d.size ≤ maxLen) (hp : p.size ≤ maxLen) (hs : d.size + p.size ≤ 1000000000) (hv : validS d.data.toList p.data.toList n = false) :
    Calls Tryd.prog 30 #[.agg #[.string d, .string p, .int .i64 n]] w fun e w' => (∃ g, e = .returned (.tuple #[.slice (some ⟨g, 0, none⟩) 0 0, .bool false])) ∧ Below w.heap.size w w' := by
  go_enter Tryd.func30, Tryd.ntmps30
  go_wp2_with ((go_at_call 49; refine (l28Log_any _ _ _ _ hd hp hs).mono ?_; rintro e w1 ⟨rfl, hb1⟩; have ⟨cw1, fw1⟩ := bcell hb1; have qw1 := hb1.size; (try simp at qw1); (try have zw1w := bsz (show w.heap.size < w1.heap.size by omega))))
  go_ret2
  exact ⟨⟨_, rfl⟩, by (repeat (first | exact Below.refl _ _ | assumption | refine Below.al ?_ _ | refine Below.sc ?_ (by first | exact Nat.le_refl _ | (simp; done) | (simp; omega)) _ | refine Below.dr ?_ | refine Below.drN ?_ _ | refine Below.step ?_ (by assumption)))⟩
set_option maxHeartbeats 800000 in
theorem specRecs_yes (d p : ByteArray) (n : Int) (w : World) (hd : d.size ≤ maxLen) (hp : p.size ≤ maxLen) (hv : validS d.data.toList p.data.toList n = true) :
    Calls Tryd.prog 30 #[.agg #[.string d, .string p, .int .i64 n]] w (RecsPost (allF (d.data.toList ++ p.data.toList)) w) := by
  have hs : d.size + p.size ≤ 30000 := valid_size hv
  have h32 : ¬ 9223372036854775807 < d.size + p.size := by omega
  have HDP := Lib.hid (show (d ++ p).data.toList = d.data.toList ++ p.data.toList by simp)
  have HZ := Lib.hid (show (d ++ p).size ≤ 1000000 by rw [bytes_append']; show (_ ++ _ : List UInt8).length ≤ _; rw [List.length_append, ← size_list, ← size_list]; omega)
  have HS := Lib.hid hs
  clear hs
  go_enter Tryd.func30, Tryd.ntmps30
  go_wp2_with (first | (go_at_call 49; refine (l28Log_any _ _ _ _ hd hp (by have := HS.out; omega)).mono ?_; rintro e w1 ⟨rfl, hb1⟩; have ⟨cw1, fw1⟩ := bcell hb1; have qw1 := hb1.size; (try simp at qw1); (try have zw1w := bsz (show w.heap.size < w1.heap.size by omega))) | (go_at_call 47; refine (l28Open_any _ _ HZ.out).mono ?_; unfold OpenPost; rw [HDP.out]; rintro e w2 ⟨g, c, rfl, ho2, hb2⟩; have ⟨cw2, fw2⟩ := bcell hb2; have HO2 := Lib.hid ho2; clear ho2))
  go_ret2
  unfold RecsPost
  exact ⟨g, c, rfl, own_lower HO2.out (by have := hb1.size; simp at this; omega), by (repeat (first | exact Below.refl _ _ | assumption | refine Below.al ?_ _ | refine Below.sc ?_ (by first | exact Nat.le_refl _ | (simp; done) | (simp; omega)) _ | refine Below.dr ?_ | refine Below.drN ?_ _ | refine Below.step ?_ (by assumption)))⟩
set_option maxHeartbeats 800000 in
theorem implRecs_no (d p : ByteArray) (n : Int) (w : World) (hE : Env w) (hs : d.size + p.size ≤ 1000000000) (hv : validS d.data.toList p.data.toList n = false) :
    Calls Tryd.prog 31 #[.agg #[.string d, .string p, .int .i64 n]] w fun e w' => e = .returned (.tuple #[.slice none 0 0, .bool false]) ∧ Below w.heap.size w w' := by
  have HE := Lib.hid hE
  have HV := (valid_same d.data.toList p.data.toList n).trans hv
  clear hE
  go_enter Tryd.func31, Tryd.ntmps31
  go_wp2_with (go_at_call 50; refine (records_any _ _ _ _ (HE.out.below (by (repeat (first | exact Below.refl _ _ | assumption | refine Below.al ?_ _ | refine Below.sc ?_ (by first | exact Nat.le_refl _ | (simp; done) | (simp; omega)) _ | refine Below.dr ?_ | refine Below.drN ?_ _ | refine Below.step ?_ (by assumption))))) hs).mono ?_; unfold RecordsPost; rintro e w1 ⟨g, c, rfl, ho1, hb1⟩; have ⟨cw1, fw1⟩ := bcell hb1; have HO1 := Lib.hid ho1; clear ho1)
  go_ret2
  exact ⟨rfl, by (repeat (first | exact Below.refl _ _ | assumption | refine Below.al ?_ _ | refine Below.sc ?_ (by first | exact Nat.le_refl _ | (simp; done) | (simp; omega)) _ | refine Below.dr ?_ | refine Below.drN ?_ _ | refine Below.step ?_ (by assumption)))⟩
set_option maxHeartbeats 800000 in
theorem implRecs_yes (d p : ByteArray) (n : Int) (w : World) (hE : Env w) (hv : validS d.data.toList p.data.toList n = true) :
    Calls Tryd.prog 31 #[.agg #[.string d, .string p, .int .i64 n]] w (RecsPost (allF (d.data.toList ++ p.data.toList)) w) := by
  have hs : d.size + p.size ≤ 30000 := valid_size hv
  have HS := Lib.hid hs
  have HE := Lib.hid hE
  have HV := (valid_same d.data.toList p.data.toList n).trans hv
  clear hE hs
  go_enter Tryd.func31, Tryd.ntmps31
  go_wp2_with (go_at_call 50; refine (records_any _ _ _ _ (HE.out.below (by (repeat (first | exact Below.refl _ _ | assumption | refine Below.al ?_ _ | refine Below.sc ?_ (by first | exact Nat.le_refl _ | (simp; done) | (simp; omega)) _ | refine Below.dr ?_ | refine Below.drN ?_ _ | refine Below.step ?_ (by assumption))))) (by have := HS.out; omega)).mono ?_; unfold RecordsPost; rintro e w1 ⟨g, c, rfl, ho1, hb1⟩; have ⟨cw1, fw1⟩ := bcell hb1; have HO1 := Lib.hid ho1; clear ho1)
  go_ret2
  unfold RecsPost
  exact ⟨g, c, rfl, own_lower HO1.out (by simp), by (repeat (first | exact Below.refl _ _ | assumption | refine Below.al ?_ _ | refine Below.sc ?_ (by first | exact Nat.le_refl _ | (simp; done) | (simp; omega)) _ | refine Below.dr ?_ | refine Below.drN ?_ _ | refine Below.step ?_ (by assumption)))⟩
theorem own_lower2 {b : Nat} {a w : World} (h : Below b a w) (hle : a.heap.size ≤ b) : Below a.heap.size a w := h.mono hle
theorem bcell2 {b : Nat} {W w2 : World} (hb : Below b W w2) : (∀ k o, k < b → w2.cell? ⟨k, o, none⟩ = W.cell? ⟨k, o, none⟩) ∧ (∀ k o, k < b → w2.frozen? ⟨k, o, none⟩ = W.frozen? ⟨k, o, none⟩) :=
  ⟨fun k o h => hb.cell (p := ⟨k, o, none⟩) h, fun k o h => hb.frozen (p := ⟨k, o, none⟩) h⟩
set_option maxRecDepth 100000 in
set_option maxHeartbeats 1600000 in
theorem exactLogRecords_no (d p : ByteArray) (n : Int) (w : World) (hE : Env w) (hd : d.size ≤ maxLen) (hp : p.size ≤ maxLen) (h1 : ¬ szLogF 1048576 d p < 0) (hv : validS d.data.toList p.data.toList n = false) :
    Calls Tryd.prog 9 #[.agg #[.string d, .string p, .int .i64 n]] w fun e w' => e = .returned (.bool true) ∧ Below w.heap.size w w' := by
  have HE := Lib.hid hE
  have HZ := Lib.hid (show d.size + p.size ≤ 1000000000 by have := szLogF_le h1; omega)
  have HV := Lib.hid hv
  clear hE hv
  go_enter Tryd.func9, Tryd.ntmps9
  go_wp2_with fail
  refine (szLog_any _ _ _ _ _ hd hp (by omega) (by omega)).mono ?_
  rintro e w1 ⟨rfl, hb1⟩
  have ⟨cw1, fw1⟩ := bcell hb1
  have qw1 := hb1.size
  (try simp at qw1)
  (try have zw1w := bsz (show w.heap.size < w1.heap.size by omega))
  go_wp2_with fail
  refine (toLog_any _ _ _ _).mono ?_
  rintro e w2 ⟨rfl, hb2⟩
  have ⟨cw2, fw2⟩ := bcell hb2
  have qw2 := hb2.size
  (try simp at qw2)
  (try have zw2w := bsz (show w.heap.size < w2.heap.size by omega))
  (try have zw2w1 := bsz (show w1.heap.size < w2.heap.size by omega))
  go_wp2_with fail
  refine (specRecs_no _ _ _ _ hd hp HZ.out HV.out).mono ?_
  rintro e w3 ⟨⟨g3, rfl⟩, hb3⟩
  have ⟨cw3, fw3⟩ := bcell hb3
  have qw3 := hb3.size
  (try simp at qw3)
  (try have zw3w := bsz (show w.heap.size < w3.heap.size by omega))
  (try have zw3w1 := bsz (show w1.heap.size < w3.heap.size by omega))
  (try have zw3w2 := bsz (show w2.heap.size < w3.heap.size by omega))
  go_wp2_with fail
  refine (toLog_any _ _ _ _).mono ?_
  rintro e w4 ⟨rfl, hb4⟩
  have ⟨cw4, fw4⟩ := bcell hb4
  have qw4 := hb4.size
  (try simp at qw4)
  (try have zw4w := bsz (show w.heap.size < w4.heap.size by omega))
  (try have zw4w1 := bsz (show w1.heap.size < w4.heap.size by omega))
  (try have zw4w2 := bsz (show w2.heap.size < w4.heap.size by omega))
  (try have zw4w3 := bsz (show w3.heap.size < w4.heap.size by omega))
  go_wp2_with fail
  refine (implRecs_no _ _ _ _ (HE.out.below (by (repeat (first | exact Below.refl _ _ | assumption | refine Below.al ?_ _ | refine Below.sc ?_ (by first | exact Nat.le_refl _ | (simp; done) | (simp; omega)) _ | refine Below.dr ?_ | refine Below.drN ?_ _ | refine Below.step ?_ (by assumption))))) HZ.out HV.out).mono ?_
  rintro e w5 ⟨rfl, hb5⟩
  have ⟨cw5, fw5⟩ := bcell hb5
  have qw5 := hb5.size
  (try simp at qw5)
  (try have zw5w := bsz (show w.heap.size < w5.heap.size by omega))
  (try have zw5w1 := bsz (show w1.heap.size < w5.heap.size by omega))
  (try have zw5w2 := bsz (show w2.heap.size < w5.heap.size by omega))
  (try have zw5w3 := bsz (show w3.heap.size < w5.heap.size by omega))
  (try have zw5w4 := bsz (show w4.heap.size < w5.heap.size by omega))
  go_wp2_with fail
  refine (eqRecS_nil _ _ _).mono ?_
  rintro e w6 ⟨rfl, hb6⟩
  have ⟨cw6, fw6⟩ := bcell hb6
  have qw6 := hb6.size
  (try simp at qw6)
  (try have zw6w := bsz (show w.heap.size < w6.heap.size by omega))
  (try have zw6w1 := bsz (show w1.heap.size < w6.heap.size by omega))
  (try have zw6w2 := bsz (show w2.heap.size < w6.heap.size by omega))
  (try have zw6w3 := bsz (show w3.heap.size < w6.heap.size by omega))
  (try have zw6w4 := bsz (show w4.heap.size < w6.heap.size by omega))
  (try have zw6w5 := bsz (show w5.heap.size < w6.heap.size by omega))
  go_wp2_with fail
  refine (markS_nil _ _).mono ?_
  rintro e w' ⟨rfl, rfl⟩
  go_wp2_with fail
  refine (heldS_nil _ _).mono ?_
  rintro e w' ⟨rfl, rfl⟩
  go_wp2_with fail
  refine (toLog_any _ _ _ _).mono ?_
  rintro e w7 ⟨rfl, hb7⟩
  have ⟨cw7, fw7⟩ := bcell hb7
  have qw7 := hb7.size
  (try simp at qw7)
  (try have zw7w := bsz (show w.heap.size < w7.heap.size by omega))
  (try have zw7w1 := bsz (show w1.heap.size < w7.heap.size by omega))
  (try have zw7w2 := bsz (show w2.heap.size < w7.heap.size by omega))
  (try have zw7w3 := bsz (show w3.heap.size < w7.heap.size by omega))
  (try have zw7w4 := bsz (show w4.heap.size < w7.heap.size by omega))
  (try have zw7w5 := bsz (show w5.heap.size < w7.heap.size by omega))
  (try have zw7w6 := bsz (show w6.heap.size < w7.heap.size by omega))
  go_wp2_with fail
  refine (implRecs_no _ _ _ _ (HE.out.below (by (repeat (first | exact Below.refl _ _ | assumption | refine Below.al ?_ _ | refine Below.sc ?_ (by first | exact Nat.le_refl _ | (simp; done) | (simp; omega)) _ | refine Below.dr ?_ | refine Below.drN ?_ _ | refine Below.step ?_ (by assumption))))) HZ.out HV.out).mono ?_
  rintro e w8 ⟨rfl, hb8⟩
  have ⟨cw8, fw8⟩ := bcell hb8
  have qw8 := hb8.size
  (try simp at qw8)
  (try have zw8w := bsz (show w.heap.size < w8.heap.size by omega))
  (try have zw8w1 := bsz (show w1.heap.size < w8.heap.size by omega))
  (try have zw8w2 := bsz (show w2.heap.size < w8.heap.size by omega))
  (try have zw8w3 := bsz (show w3.heap.size < w8.heap.size by omega))
  (try have zw8w4 := bsz (show w4.heap.size < w8.heap.size by omega))
  (try have zw8w5 := bsz (show w5.heap.size < w8.heap.size by omega))
  (try have zw8w6 := bsz (show w6.heap.size < w8.heap.size by omega))
  (try have zw8w7 := bsz (show w7.heap.size < w8.heap.size by omega))
  go_wp2_with fail
  refine (eqRecS_nil _ _ _).mono ?_
  rintro e w9 ⟨rfl, hb9⟩
  have ⟨cw9, fw9⟩ := bcell hb9
  have qw9 := hb9.size
  (try simp at qw9)
  (try have zw9w := bsz (show w.heap.size < w9.heap.size by omega))
  (try have zw9w1 := bsz (show w1.heap.size < w9.heap.size by omega))
  (try have zw9w2 := bsz (show w2.heap.size < w9.heap.size by omega))
  (try have zw9w3 := bsz (show w3.heap.size < w9.heap.size by omega))
  (try have zw9w4 := bsz (show w4.heap.size < w9.heap.size by omega))
  (try have zw9w5 := bsz (show w5.heap.size < w9.heap.size by omega))
  (try have zw9w6 := bsz (show w6.heap.size < w9.heap.size by omega))
  (try have zw9w7 := bsz (show w7.heap.size < w9.heap.size by omega))
  (try have zw9w8 := bsz (show w8.heap.size < w9.heap.size by omega))
  go_wp2_with fail
  refine (heldS_nil _ _).mono ?_
  rintro e w' ⟨rfl, rfl⟩
  go_wp2_with fail
  go_ret
  exact ⟨rfl, by (repeat (first | exact Below.refl _ _ | assumption | refine Below.al ?_ _ | refine Below.sc ?_ (by first | exact Nat.le_refl _ | (simp; done) | (simp; omega)) _ | refine Below.dr ?_ | refine Below.drN ?_ _ | refine Below.step ?_ (by assumption)))⟩
set_option maxRecDepth 100000 in
set_option maxHeartbeats 1600000 in
theorem exactLogRecords_yes (d p : ByteArray) (n : Int) (w : World) (hE : Env w) (hd : d.size ≤ maxLen) (hp : p.size ≤ maxLen) (h1 : ¬ szLogF 1048576 d p < 0) (hv : validS d.data.toList p.data.toList n = true) :
    Calls Tryd.prog 9 #[.agg #[.string d, .string p, .int .i64 n]] w fun e w' => e = .returned (.bool true) ∧ Below w.heap.size w w' := by
  have HE := Lib.hid hE
  have HV := Lib.hid hv
  have h60 := all_60 (d.data.toList ++ p.data.toList)
  clear hE hv
  go_enter Tryd.func9, Tryd.ntmps9
  go_wp2_with fail
  refine (szLog_any _ _ _ _ _ hd hp (by omega) (by omega)).mono ?_
  rintro e w1 ⟨rfl, hb1⟩
  have ⟨cw1, fw1⟩ := bcell hb1
  have qw1 := hb1.size
  (try simp at qw1)
  (try have zw1w := bsz (show w.heap.size < w1.heap.size by omega))
  go_wp2_with fail
  refine (toLog_any _ _ _ _).mono ?_
  rintro e w2 ⟨rfl, hb2⟩
  have ⟨cw2, fw2⟩ := bcell hb2
  have qw2 := hb2.size
  (try simp at qw2)
  (try have zw2w := bsz (show w.heap.size < w2.heap.size by omega))
  (try have zw2w1 := bsz (show w1.heap.size < w2.heap.size by omega))
  go_wp2_with fail
  refine (specRecs_yes _ _ _ _ hd hp HV.out).mono ?_
  rintro e w3 ⟨g3, c3, rfl, ho3, hb3⟩
  have ⟨cw3, fw3⟩ := bcell hb3
  have qw3 := hb3.size
  (try simp at qw3)
  (try have zw3w := bsz (show w.heap.size < w3.heap.size by omega))
  (try have zw3w1 := bsz (show w1.heap.size < w3.heap.size by omega))
  (try have zw3w2 := bsz (show w2.heap.size < w3.heap.size by omega))
  have HO3 := Lib.hid ho3
  clear ho3
  go_wp2_with fail
  refine (toLog_any _ _ _ _).mono ?_
  rintro e w4 ⟨rfl, hb4⟩
  have ⟨cw4, fw4⟩ := bcell hb4
  have qw4 := hb4.size
  (try simp at qw4)
  (try have zw4w := bsz (show w.heap.size < w4.heap.size by omega))
  (try have zw4w1 := bsz (show w1.heap.size < w4.heap.size by omega))
  (try have zw4w2 := bsz (show w2.heap.size < w4.heap.size by omega))
  (try have zw4w3 := bsz (show w3.heap.size < w4.heap.size by omega))
  go_wp2_with fail
  refine (implRecs_yes _ _ _ _ (HE.out.below (by (repeat (first | exact Below.refl _ _ | assumption | refine Below.al ?_ _ | refine Below.sc ?_ (by first | exact Nat.le_refl _ | (simp; done) | (simp; omega)) _ | refine Below.dr ?_ | refine Below.drN ?_ _ | refine Below.step ?_ (by assumption))))) HV.out).mono ?_
  rintro e w5 ⟨g5, c5, rfl, ho5, hb5⟩
  have ⟨cw5, fw5⟩ := bcell hb5
  have qw5 := hb5.size
  (try simp at qw5)
  (try have zw5w := bsz (show w.heap.size < w5.heap.size by omega))
  (try have zw5w1 := bsz (show w1.heap.size < w5.heap.size by omega))
  (try have zw5w2 := bsz (show w2.heap.size < w5.heap.size by omega))
  (try have zw5w3 := bsz (show w3.heap.size < w5.heap.size by omega))
  (try have zw5w4 := bsz (show w4.heap.size < w5.heap.size by omega))
  have HO5 := Lib.hid ho5
  clear ho5
  have hg3 : g3 < w3.heap.size := own_lt HO3.out
  have hg5 : w4.heap.size ≤ g5 := own_base HO5.out g5 rfl
  go_wp2_with fail
  refine (eqRecS_same _ _ _ _ _ _ _ _ (by omega) HO5.out (own_below HO3.out (by (repeat (first | exact Below.refl _ _ | assumption | refine Below.al ?_ _ | refine Below.sc ?_ (by first | exact Nat.le_refl _ | (simp; done) | (simp; omega)) _ | refine Below.dr ?_ | refine Below.drN ?_ _ | refine Below.step ?_ (by assumption)))))).mono ?_
  rintro e w6 ⟨rfl, hb6⟩
  have ⟨cw6, fw6⟩ := bcell hb6
  have qw6 := hb6.size
  (try simp at qw6)
  (try have zw6w := bsz (show w.heap.size < w6.heap.size by omega))
  (try have zw6w1 := bsz (show w1.heap.size < w6.heap.size by omega))
  (try have zw6w2 := bsz (show w2.heap.size < w6.heap.size by omega))
  (try have zw6w3 := bsz (show w3.heap.size < w6.heap.size by omega))
  (try have zw6w4 := bsz (show w4.heap.size < w6.heap.size by omega))
  (try have zw6w5 := bsz (show w5.heap.size < w6.heap.size by omega))
  have HO6 := Lib.hid (own_below HO5.out hb6)
  go_wp2_with fail
  refine (markS_any _ _ _ _ 1 _ _ (by omega) (by omega) (by omega) HO6.out).mono ?_
  rintro e w7 ⟨rfl, ho7, hb7⟩
  have ⟨cw7, fw7⟩ := bcell2 hb7
  have HO7 := Lib.hid ho7
  clear ho7
  have hz7 := hb7.size
  have zw7w := bsz (show w.heap.size < w7.heap.size by omega)
  have hbw7 : Below w.heap.size w w7 := (show Below w.heap.size w w6 by (repeat (first | exact Below.refl _ _ | assumption | refine Below.al ?_ _ | refine Below.sc ?_ (by first | exact Nat.le_refl _ | (simp; done) | (simp; omega)) _ | refine Below.dr ?_ | refine Below.drN ?_ _ | refine Below.step ?_ (by assumption)))).trans (hb7.mono (by omega))
  have hb37 : Below w3.heap.size w3 w7 := (show Below w3.heap.size w3 w6 by (repeat (first | exact Below.refl _ _ | assumption | refine Below.al ?_ _ | refine Below.sc ?_ (by first | exact Nat.le_refl _ | (simp; done) | (simp; omega)) _ | refine Below.dr ?_ | refine Below.drN ?_ _ | refine Below.step ?_ (by assumption)))).trans (hb7.mono (by omega))
  have HO37 := Lib.hid (own_below HO3.out hb37)
  clear hb7
  go_wp2_with fail
  refine (heldS_any _ _ _ _ 1 _ (by omega) (by omega) (by omega) HO7.out).mono ?_
  rintro e w8 ⟨rfl, hb8⟩
  have ⟨cw8, fw8⟩ := bcell hb8
  have qw8 := hb8.size
  (try simp at qw8)
  (try have zw8w := bsz (show w.heap.size < w8.heap.size by omega))
  (try have zw8w7 := bsz (show w7.heap.size < w8.heap.size by omega))
  go_wp2_with fail
  refine (toLog_any _ _ _ _).mono ?_
  rintro e w9 ⟨rfl, hb9⟩
  have ⟨cw9, fw9⟩ := bcell hb9
  have qw9 := hb9.size
  (try simp at qw9)
  (try have zw9w := bsz (show w.heap.size < w9.heap.size by omega))
  (try have zw9w7 := bsz (show w7.heap.size < w9.heap.size by omega))
  (try have zw9w8 := bsz (show w8.heap.size < w9.heap.size by omega))
  go_wp2_with fail
  refine (implRecs_yes _ _ _ _ (HE.out.below (by (repeat (first | exact Below.refl _ _ | assumption | refine Below.al ?_ _ | refine Below.sc ?_ (by first | exact Nat.le_refl _ | (simp; done) | (simp; omega)) _ | refine Below.dr ?_ | refine Below.drN ?_ _ | refine Below.step ?_ (by assumption))))) HV.out).mono ?_
  rintro e w10 ⟨g10, c10, rfl, ho10, hb10⟩
  have ⟨cw10, fw10⟩ := bcell hb10
  have qw10 := hb10.size
  (try simp at qw10)
  (try have zw10w := bsz (show w.heap.size < w10.heap.size by omega))
  (try have zw10w7 := bsz (show w7.heap.size < w10.heap.size by omega))
  (try have zw10w8 := bsz (show w8.heap.size < w10.heap.size by omega))
  (try have zw10w9 := bsz (show w9.heap.size < w10.heap.size by omega))
  have HO10 := Lib.hid ho10
  clear ho10
  go_wp2_with fail
  refine (eqRecS_same _ _ _ _ _ _ _ _ (by omega) HO10.out (own_below HO37.out (by (repeat (first | exact Below.refl _ _ | assumption | refine Below.al ?_ _ | refine Below.sc ?_ (by first | exact Nat.le_refl _ | (simp; done) | (simp; omega)) _ | refine Below.dr ?_ | refine Below.drN ?_ _ | refine Below.step ?_ (by assumption)))))).mono ?_
  rintro e w11 ⟨rfl, hb11⟩
  have ⟨cw11, fw11⟩ := bcell hb11
  have qw11 := hb11.size
  (try simp at qw11)
  (try have zw11w := bsz (show w.heap.size < w11.heap.size by omega))
  (try have zw11w7 := bsz (show w7.heap.size < w11.heap.size by omega))
  (try have zw11w8 := bsz (show w8.heap.size < w11.heap.size by omega))
  (try have zw11w9 := bsz (show w9.heap.size < w11.heap.size by omega))
  (try have zw11w10 := bsz (show w10.heap.size < w11.heap.size by omega))
  go_wp2_with fail
  refine (heldS_any _ _ _ _ 1 _ (by omega) (by omega) (by omega) (own_below HO7.out (by (repeat (first | exact Below.refl _ _ | assumption | refine Below.al ?_ _ | refine Below.sc ?_ (by first | exact Nat.le_refl _ | (simp; done) | (simp; omega)) _ | refine Below.dr ?_ | refine Below.drN ?_ _ | refine Below.step ?_ (by assumption)))))).mono ?_
  rintro e w12 ⟨rfl, hb12⟩
  have ⟨cw12, fw12⟩ := bcell hb12
  have qw12 := hb12.size
  (try simp at qw12)
  (try have zw12w := bsz (show w.heap.size < w12.heap.size by omega))
  (try have zw12w7 := bsz (show w7.heap.size < w12.heap.size by omega))
  (try have zw12w8 := bsz (show w8.heap.size < w12.heap.size by omega))
  (try have zw12w9 := bsz (show w9.heap.size < w12.heap.size by omega))
  (try have zw12w10 := bsz (show w10.heap.size < w12.heap.size by omega))
  (try have zw12w11 := bsz (show w11.heap.size < w12.heap.size by omega))
  go_wp2_with fail
  go_ret
  exact ⟨rfl, by (repeat (first | exact Below.refl _ _ | assumption | refine Below.al ?_ _ | refine Below.sc ?_ (by first | exact Nat.le_refl _ | (simp; done) | (simp; omega)) _ | refine Below.dr ?_ | refine Below.drN ?_ _ | refine Below.step ?_ (by assumption)))⟩
set_option maxHeartbeats 800000 in
theorem exactLogRecords (d p : ByteArray) (n : Int) (w : World) (hE : Env w) (hd : d.size ≤ maxLen) (hp : p.size ≤ maxLen) :
    Calls Tryd.prog 9 #[.agg #[.string d, .string p, .int .i64 n]] w fun e w' => e = .returned (.bool true) ∧ Below w.heap.size w w' := by
  by_cases h1 : szLogF 1048576 d p < 0
  · go_enter Tryd.func9, Tryd.ntmps9
    go_wp2_with (first | (go_at_call 20; refine (szLog_any _ _ _ _ _ hd hp (by omega) (by omega)).mono ?_; rintro e w1 ⟨rfl, hb1⟩; have ⟨cw1, fw1⟩ := bcell hb1; have qw1 := hb1.size; (try simp at qw1); (try have zw1w := bsz (show w.heap.size < w1.heap.size by omega))))
    go_ret
    exact ⟨rfl, by (repeat (first | exact Below.refl _ _ | assumption | refine Below.al ?_ _ | refine Below.sc ?_ (by first | exact Nat.le_refl _ | (simp; done) | (simp; omega)) _ | refine Below.dr ?_ | refine Below.drN ?_ _ | refine Below.step ?_ (by assumption)))⟩
  · cases hv : validS d.data.toList p.data.toList n
    · exact exactLogRecords_no d p n w hE hd hp h1 hv
    · exact exactLogRecords_yes d p n w hE hd hp h1 hv
end Go.Proofs.YtofamefmodmekaaDoor
