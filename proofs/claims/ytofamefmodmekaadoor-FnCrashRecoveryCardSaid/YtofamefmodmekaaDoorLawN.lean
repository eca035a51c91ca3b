/- The law 'FnLogLines': an encoded record is accepted at its place alone, and a recovered log is a fixed point of SyncLog. Conditions: the package tables lie as they were laid. -/
import Derived.Test.YtofamefmodmekaaDoorCur7
import Derived.Test.YtofamefmodmekaaDoorEncR
import Derived.Test.YtofamefmodmekaaDoorLawL
namespace Go.Proofs.YtofamefmodmekaaDoor
open Go.RowKit
theorem code_below {w w1 : World} {v : Value} (h : CodeIn w v) (hb : Below w.heap.size w w1) : CodeIn w1 v := by
  obtain ⟨code, h1, h2⟩ := h
  have hz := hb.size
  exact ⟨code, h1, h2.mono (SameOn.below hb) (fun b hb' => by omega) (fun _ _ _ h => h)⟩
theorem rec_zero : validS ([] : List UInt8) [] 0 = true := by
  have h : allF ([] : List UInt8) = [] := parse_nil 60 0
  simp [validS, h, lenR]
/-- What both recoveries answer: a valid log of one part. -/
theorem recover_some (t : ByteArray) (ht : t.size ≤ maxLen) : ∃ (T : ByteArray) (cnt len : Int) (told : Bool), validS T.data.toList [] cnt = true ∧ T.size ≤ 30000 ∧
    (∀ w, Env w → Calls Tryd.prog 18 #[.string t] w fun e w' => e = .returned (.tuple #[.agg #[.string T, .string ⟨#[]⟩, .int .i64 cnt], .int .i64 len, .bool told]) ∧ Below w.heap.size w w') ∧
    (∀ w, Calls Tryd.prog 17 #[.string t] w fun e w' => e = .returned (.tuple #[.agg #[.string T, .string ⟨#[]⟩, .int .i64 cnt], .int .i64 len, .bool told]) ∧ Below w.heap.size w w') := by
  by_cases h : t.size ≤ 30000
  · have hr := recovered t.data.toList
    have he : (t.extract 0 (lenR 0 (allF t.data.toList))).data.toList = t.data.toList.take (lenR 0 (allF t.data.toList)) := by rw [extract_list, List.drop_zero]
    refine ⟨_, _, _, _, ?_, ?_, fun w hE => implRecover_any t w hE h, fun w => specRecover_any t w h⟩
    · rw [he]; exact hr.1
    · rw [size_list, he, List.length_take, ← size_list]; omega
  · exact ⟨_, _, _, _, rec_zero, by decide, fun w _ => implRecover_big t w ht (by omega), fun w => specRecover_big t w ht (by omega)⟩
/-- What both encodings answer, and what the recovery of that is. -/
theorem encode_some (k : Int) (c r : ByteArray) (hk : -1 ≤ k ∧ k ≤ 60) (hc : c.size ≤ 20) (hr : r.size ≤ 20) : ∃ (s xs : ByteArray) (ok : Bool) (cnt first : Int),
    ((ok = false ∧ s = ⟨#[]⟩) ∨ (ok = true ∧ k = 0 ∧ 0 < first ∧ cnt = 1) ∨ (ok = true ∧ k ≠ 0 ∧ ¬ 0 < first)) ∧ s.size ≤ 30000 ∧
    (∀ w, Env w → Calls Tryd.prog 16 #[.int .i64 k, .agg #[.string c, .string r]] w fun e w' => e = .returned (.tuple #[.string s, .bool ok]) ∧ Below w.heap.size w w') ∧
    (∀ w, Calls Tryd.prog 14 #[.int .i64 k, .agg #[.string c, .string r]] w fun e w' => e = .returned (.tuple #[.string s, .bool ok]) ∧ Below w.heap.size w w') ∧
    (∀ w, Env w → Calls Tryd.prog 18 #[.string s] w fun e w' => e = .returned (.tuple #[.agg #[.string xs, .string ⟨#[]⟩, .int .i64 cnt], .int .i64 first, .bool true]) ∧ Below w.heap.size w w') := by
  have hm : ∀ a : ByteArray, a.size ≤ 100000000 → a.size ≤ maxLen := by intro a ha; unfold maxLen; omega
  cases hb : inB k 0 59 && goodB c.data.toList r.data.toList
  · exact ⟨_, _, _, _, _, .inl ⟨rfl, rfl⟩, by decide, fun w _ => implEncodeRecord_no k c r w hb (hm _ (by omega)) (hm _ (by omega)), fun w => specEncodeRecord_no k c r w hb (hm _ (by omega)) (hm _ (by omega)), fun w hE => implRecover_any _ w hE (by decide)⟩
  · have hb2 : inB k 0 59 = true ∧ goodB c.data.toList r.data.toList = true := by simpa using hb
    have hk2 : 0 ≤ k ∧ k ≤ 59 := by simpa [inB] using hb2.1
    obtain ⟨j, rfl⟩ := Int.eq_ofNat_of_zero_le hk2.1
    have hl := encF_len (j : Int) (by omega) (by omega) hb2.2
    refine ⟨_, _, _, _, _, .inr ?_, ?_, fun w hE => implEncodeRecord_yes (j : Int) c r w hE hb2.1 hb2.2 (hm _ (by omega)) (hm _ (by omega)), fun w => specEncodeRecord_yes (j : Int) c r w hb2.1 hb2.2 (hm _ (by omega)) (hm _ (by omega)), fun w hE => implRecover_any _ w hE ?_⟩
    · by_cases h0 : j = 0
      · subst h0
        left
        refine ⟨rfl, rfl, ?_, ?_⟩
        · show (0 : Int) < (lenR 0 (allF (encF ((0 : Nat) : Int) c.data.toList r.data.toList)) : Nat)
          rw [show ((0 : Nat) : Int) = 0 from rfl, enc_zero hb2.2]
          have := encR_pos 0 (c.data.toList, r.data.toList)
          simp only [lenR]; omega
        · show (((allF (encF ((0 : Nat) : Int) c.data.toList r.data.toList)).length : Nat) : Int) = 1
          rw [show ((0 : Nat) : Int) = 0 from rfl, enc_zero hb2.2]; rfl
      · right
        refine ⟨rfl, by omega, ?_⟩
        show ¬ (0 : Int) < (lenR 0 (allF (encF (j : Int) c.data.toList r.data.toList)) : Nat)
        rw [enc_first hb2.2 h0]; simp [lenR]
    · show (encF (j : Int) c.data.toList r.data.toList).length ≤ 30000; omega
    · show (encF (j : Int) c.data.toList r.data.toList).length ≤ 30000; omega
set_option maxRecDepth 100000 in
set_option maxHeartbeats 3200000 in
theorem fnLogLines_small (pp : Option Addr) (nn cc : Nat) (w : World) (hE : Env w) (h : CodeIn w (.slice pp nn cc)) (hn : nn ≤ 65536) :
    Calls Tryd.prog 11 #[.slice pp nn cc] w fun e w' => e = .returned (.bool true) ∧ Below w.heap.size w w' := by
  have HE := Lib.hid hE
  have H := Lib.hid h
  have hnn : ¬ (65536 : Int) < (nn : Int) := by omega
  have HC := Lib.hid (fun (w1 : World) (hb : Below w.heap.size w w1) => code_below h hb)
  clear hE h
  go_enter Tryd.func11, Tryd.ntmps11
  go_wp2_with fail
  refine (vBig_any _ _ _ _).mono ?_
  rintro e w' ⟨rfl, rfl⟩
  go_wp2_with fail
  refine (drawEncode_any pp nn cc _ H.out).mono ?_
  rintro e w1 ⟨k, c, r, rfl, hk, hc, hr, hb1⟩
  have ⟨cw1, fw1⟩ := bcell hb1
  have qw1 := hb1.size
  (try simp at qw1)
  (try have zw1w := bsz (show w.heap.size < w1.heap.size by omega))
  obtain ⟨s, xs, ok, cnt, first, hcase, hss, hEI, hES, hER⟩ := encode_some k c r hk hc hr
  have HEI := Lib.hid hEI
  have HES := Lib.hid hES
  have HER := Lib.hid hER
  have HCASE := Lib.hid hcase
  clear hEI hES hER hcase
  go_wp2_with fail
  refine (HEI.out _ (HE.out.below (by (repeat (first | exact Below.refl _ _ | assumption | refine Below.al ?_ _ | refine Below.sc ?_ (by first | exact Nat.le_refl _ | (simp; done) | (simp; omega)) _ | refine Below.dr ?_ | refine Below.drN ?_ _ | refine Below.step ?_ (by assumption)))))).mono ?_
  rintro e w2 ⟨rfl, hb2⟩
  have ⟨cw2, fw2⟩ := bcell hb2
  have qw2 := hb2.size
  (try simp at qw2)
  (try have zw2w := bsz (show w.heap.size < w2.heap.size by omega))
  (try have zw2w1 := bsz (show w1.heap.size < w2.heap.size by omega))
  go_wp2_with fail
  refine (HES.out _).mono ?_
  rintro e w3 ⟨rfl, hb3⟩
  have ⟨cw3, fw3⟩ := bcell hb3
  have qw3 := hb3.size
  (try simp at qw3)
  (try have zw3w := bsz (show w.heap.size < w3.heap.size by omega))
  (try have zw3w1 := bsz (show w1.heap.size < w3.heap.size by omega))
  (try have zw3w2 := bsz (show w2.heap.size < w3.heap.size by omega))
  go_wp2_with fail
  refine (drawRecover_any pp nn cc _ (HC.out _ (by (repeat (first | exact Below.refl _ _ | assumption | refine Below.al ?_ _ | refine Below.sc ?_ (by first | exact Nat.le_refl _ | (simp; done) | (simp; omega)) _ | refine Below.dr ?_ | refine Below.drN ?_ _ | refine Below.step ?_ (by assumption)))))).mono ?_
  rintro e w4 ⟨t, rfl, ht, hb4⟩
  have ⟨cw4, fw4⟩ := bcell hb4
  have qw4 := hb4.size
  (try simp at qw4)
  (try have zw4w := bsz (show w.heap.size < w4.heap.size by omega))
  (try have zw4w1 := bsz (show w1.heap.size < w4.heap.size by omega))
  (try have zw4w2 := bsz (show w2.heap.size < w4.heap.size by omega))
  (try have zw4w3 := bsz (show w3.heap.size < w4.heap.size by omega))
  obtain ⟨T, tcnt, len, told, hv, hT, hRI, hRS⟩ := recover_some t (by unfold maxLen; omega)
  have HRI := Lib.hid hRI
  have HRS := Lib.hid hRS
  have HV := Lib.hid hv
  clear hRI hRS hv
  go_wp2_with fail
  refine (HRI.out _ (HE.out.below (by (repeat (first | exact Below.refl _ _ | assumption | refine Below.al ?_ _ | refine Below.sc ?_ (by first | exact Nat.le_refl _ | (simp; done) | (simp; omega)) _ | refine Below.dr ?_ | refine Below.drN ?_ _ | refine Below.step ?_ (by assumption)))))).mono ?_
  rintro e w5 ⟨rfl, hb5⟩
  have ⟨cw5, fw5⟩ := bcell hb5
  have qw5 := hb5.size
  (try simp at qw5)
  (try have zw5w := bsz (show w.heap.size < w5.heap.size by omega))
  (try have zw5w1 := bsz (show w1.heap.size < w5.heap.size by omega))
  (try have zw5w2 := bsz (show w2.heap.size < w5.heap.size by omega))
  (try have zw5w3 := bsz (show w3.heap.size < w5.heap.size by omega))
  (try have zw5w4 := bsz (show w4.heap.size < w5.heap.size by omega))
  go_wp2_with fail
  refine (HRS.out _).mono ?_
  rintro e w6 ⟨rfl, hb6⟩
  have ⟨cw6, fw6⟩ := bcell hb6
  have qw6 := hb6.size
  (try simp at qw6)
  (try have zw6w := bsz (show w.heap.size < w6.heap.size by omega))
  (try have zw6w1 := bsz (show w1.heap.size < w6.heap.size by omega))
  (try have zw6w2 := bsz (show w2.heap.size < w6.heap.size by omega))
  (try have zw6w3 := bsz (show w3.heap.size < w6.heap.size by omega))
  (try have zw6w4 := bsz (show w4.heap.size < w6.heap.size by omega))
  (try have zw6w5 := bsz (show w5.heap.size < w6.heap.size by omega))
  have HSY := Lib.hid (fun (w : World) (hE : Env w) => (by
    have h := implSyncLog_any T ⟨#[]⟩ tcnt w hE (show T.size + 0 ≤ 1000000000 by omega)
    rw [if_pos (show validS T.data.toList (⟨#[]⟩ : ByteArray).data.toList tcnt = true from HV.out), show T ++ (⟨#[]⟩ : ByteArray) = T from ByteArray.append_empty] at h
    exact h : Calls Tryd.prog 27 #[.agg #[.string T, .string ⟨#[]⟩, .int .i64 tcnt]] w fun e w' => e = .returned (.tuple #[.agg #[.string T, .string ⟨#[]⟩, .int .i64 tcnt], .bool true]) ∧ Below w.heap.size w w'))
  have HVL := Lib.hid (fun (w : World) (hE : Env w) => (by
    have h := implIsValidLog_any T ⟨#[]⟩ tcnt w hE (show T.size + 0 ≤ 1000000000 by omega)
    rw [show validS T.data.toList (⟨#[]⟩ : ByteArray).data.toList tcnt = true from HV.out] at h
    exact h : Calls Tryd.prog 23 #[.agg #[.string T, .string ⟨#[]⟩, .int .i64 tcnt]] w fun e w' => e = .returned (.bool true) ∧ Below w.heap.size w w'))
  have y6 := bsz (show w5.heap.size < w6.heap.size by omega)
  clear hT HV HRI HRS HEI HES
  rcases HCASE.out with ⟨rfl, rfl⟩ | ⟨rfl, hk0, hf, hcn⟩ | ⟨rfl, hk0, hf⟩
  · go_wp2_with fail
    refine (HER.out _ (HE.out.below (by (repeat (first | exact Below.refl _ _ | assumption | refine Below.al ?_ _ | refine Below.sc ?_ (by first | exact Nat.le_refl _ | (simp; done) | (simp; omega)) _ | refine Below.dr ?_ | refine Below.drN ?_ _ | refine Below.step ?_ (by assumption)))))).mono ?_
    rintro e w7 ⟨rfl, hb7⟩
    have ⟨cw7, fw7⟩ := bcell hb7
    have qw7 := hb7.size
    (try simp at qw7)
    (try have zw7w := bsz (show w.heap.size < w7.heap.size by omega))
    (try have zw7w1 := bsz (show w1.heap.size < w7.heap.size by omega))
    (try have zw7w2 := bsz (show w2.heap.size < w7.heap.size by omega))
    (try have zw7w3 := bsz (show w3.heap.size < w7.heap.size by omega))
    (try have zw7w4 := bsz (show w4.heap.size < w7.heap.size by omega))
    (try have zw7w5 := bsz (show w5.heap.size < w7.heap.size by omega))
    (try have zw7w6 := bsz (show w6.heap.size < w7.heap.size by omega))
    have y7 := bsz (show w5.heap.size < w7.heap.size by omega)
    go_wp2_with fail
    refine (HSY.out _ (HE.out.below (by (repeat (first | exact Below.refl _ _ | assumption | refine Below.al ?_ _ | refine Below.sc ?_ (by first | exact Nat.le_refl _ | (simp; done) | (simp; omega)) _ | refine Below.dr ?_ | refine Below.drN ?_ _ | refine Below.step ?_ (by assumption)))))).mono ?_
    rintro e w8 ⟨rfl, hb8⟩
    have ⟨cw8, fw8⟩ := bcell hb8
    have qw8 := hb8.size
    (try simp at qw8)
    (try have zw8w := bsz (show w.heap.size < w8.heap.size by omega))
    (try have zw8w1 := bsz (show w1.heap.size < w8.heap.size by omega))
    (try have zw8w2 := bsz (show w2.heap.size < w8.heap.size by omega))
    (try have zw8w3 := bsz (show w3.heap.size < w8.heap.size by omega))
    (try have zw8w4 := bsz (show w4.heap.size < w8.heap.size by omega))
    (try have zw8w5 := bsz (show w5.heap.size < w8.heap.size by omega))
    (try have zw8w6 := bsz (show w6.heap.size < w8.heap.size by omega))
    (try have zw8w7 := bsz (show w7.heap.size < w8.heap.size by omega))
    have y8 := bsz (show w5.heap.size < w8.heap.size by omega)
    cases told
    · go_wp2_with fail
      go_ret
      exact ⟨rfl, by (repeat (first | exact Below.refl _ _ | assumption | refine Below.al ?_ _ | refine Below.sc ?_ (by first | exact Nat.le_refl _ | (simp; done) | (simp; omega)) _ | refine Below.dr ?_ | refine Below.drN ?_ _ | refine Below.step ?_ (by assumption)))⟩
    · go_wp2_with fail
      refine (HVL.out _ (HE.out.below (by (repeat (first | exact Below.refl _ _ | assumption | refine Below.al ?_ _ | refine Below.sc ?_ (by first | exact Nat.le_refl _ | (simp; done) | (simp; omega)) _ | refine Below.dr ?_ | refine Below.drN ?_ _ | refine Below.step ?_ (by assumption)))))).mono ?_
      rintro e w9 ⟨rfl, hb9⟩
      have ⟨cw9, fw9⟩ := bcell hb9
      have qw9 := hb9.size
      (try simp at qw9)
      (try have zw9w := bsz (show w.heap.size < w9.heap.size by omega))
      (try have zw9w1 := bsz (show w1.heap.size < w9.heap.size by omega))
      go_wp2_with fail
      go_ret
      exact ⟨rfl, by (repeat (first | exact Below.refl _ _ | assumption | refine Below.al ?_ _ | refine Below.sc ?_ (by first | exact Nat.le_refl _ | (simp; done) | (simp; omega)) _ | refine Below.dr ?_ | refine Below.drN ?_ _ | refine Below.step ?_ (by assumption)))⟩
  · go_wp2_with fail
    refine (HER.out _ (HE.out.below (by (repeat (first | exact Below.refl _ _ | assumption | refine Below.al ?_ _ | refine Below.sc ?_ (by first | exact Nat.le_refl _ | (simp; done) | (simp; omega)) _ | refine Below.dr ?_ | refine Below.drN ?_ _ | refine Below.step ?_ (by assumption)))))).mono ?_
    rintro e w7 ⟨rfl, hb7⟩
    have ⟨cw7, fw7⟩ := bcell hb7
    have qw7 := hb7.size
    (try simp at qw7)
    (try have zw7w := bsz (show w.heap.size < w7.heap.size by omega))
    (try have zw7w1 := bsz (show w1.heap.size < w7.heap.size by omega))
    (try have zw7w2 := bsz (show w2.heap.size < w7.heap.size by omega))
    (try have zw7w3 := bsz (show w3.heap.size < w7.heap.size by omega))
    (try have zw7w4 := bsz (show w4.heap.size < w7.heap.size by omega))
    (try have zw7w5 := bsz (show w5.heap.size < w7.heap.size by omega))
    (try have zw7w6 := bsz (show w6.heap.size < w7.heap.size by omega))
    have y7 := bsz (show w5.heap.size < w7.heap.size by omega)
    subst hk0 hcn
    go_wp2_with fail
    refine (HSY.out _ (HE.out.below (by (repeat (first | exact Below.refl _ _ | assumption | refine Below.al ?_ _ | refine Below.sc ?_ (by first | exact Nat.le_refl _ | (simp; done) | (simp; omega)) _ | refine Below.dr ?_ | refine Below.drN ?_ _ | refine Below.step ?_ (by assumption)))))).mono ?_
    rintro e w8 ⟨rfl, hb8⟩
    have ⟨cw8, fw8⟩ := bcell hb8
    have qw8 := hb8.size
    (try simp at qw8)
    (try have zw8w := bsz (show w.heap.size < w8.heap.size by omega))
    (try have zw8w1 := bsz (show w1.heap.size < w8.heap.size by omega))
    (try have zw8w2 := bsz (show w2.heap.size < w8.heap.size by omega))
    (try have zw8w3 := bsz (show w3.heap.size < w8.heap.size by omega))
    (try have zw8w4 := bsz (show w4.heap.size < w8.heap.size by omega))
    (try have zw8w5 := bsz (show w5.heap.size < w8.heap.size by omega))
    (try have zw8w6 := bsz (show w6.heap.size < w8.heap.size by omega))
    (try have zw8w7 := bsz (show w7.heap.size < w8.heap.size by omega))
    have y8 := bsz (show w5.heap.size < w8.heap.size by omega)
    cases told
    · go_wp2_with fail
      go_ret
      exact ⟨rfl, by (repeat (first | exact Below.refl _ _ | assumption | refine Below.al ?_ _ | refine Below.sc ?_ (by first | exact Nat.le_refl _ | (simp; done) | (simp; omega)) _ | refine Below.dr ?_ | refine Below.drN ?_ _ | refine Below.step ?_ (by assumption)))⟩
    · go_wp2_with fail
      refine (HVL.out _ (HE.out.below (by (repeat (first | exact Below.refl _ _ | assumption | refine Below.al ?_ _ | refine Below.sc ?_ (by first | exact Nat.le_refl _ | (simp; done) | (simp; omega)) _ | refine Below.dr ?_ | refine Below.drN ?_ _ | refine Below.step ?_ (by assumption)))))).mono ?_
      rintro e w9 ⟨rfl, hb9⟩
      have ⟨cw9, fw9⟩ := bcell hb9
      have qw9 := hb9.size
      (try simp at qw9)
      (try have zw9w := bsz (show w.heap.size < w9.heap.size by omega))
      (try have zw9w1 := bsz (show w1.heap.size < w9.heap.size by omega))
      go_wp2_with fail
      go_ret
      exact ⟨rfl, by (repeat (first | exact Below.refl _ _ | assumption | refine Below.al ?_ _ | refine Below.sc ?_ (by first | exact Nat.le_refl _ | (simp; done) | (simp; omega)) _ | refine Below.dr ?_ | refine Below.drN ?_ _ | refine Below.step ?_ (by assumption)))⟩
  · go_wp2_with fail
    refine (HER.out _ (HE.out.below (by (repeat (first | exact Below.refl _ _ | assumption | refine Below.al ?_ _ | refine Below.sc ?_ (by first | exact Nat.le_refl _ | (simp; done) | (simp; omega)) _ | refine Below.dr ?_ | refine Below.drN ?_ _ | refine Below.step ?_ (by assumption)))))).mono ?_
    rintro e w7 ⟨rfl, hb7⟩
    have ⟨cw7, fw7⟩ := bcell hb7
    have qw7 := hb7.size
    (try simp at qw7)
    (try have zw7w := bsz (show w.heap.size < w7.heap.size by omega))
    (try have zw7w1 := bsz (show w1.heap.size < w7.heap.size by omega))
    (try have zw7w2 := bsz (show w2.heap.size < w7.heap.size by omega))
    (try have zw7w3 := bsz (show w3.heap.size < w7.heap.size by omega))
    (try have zw7w4 := bsz (show w4.heap.size < w7.heap.size by omega))
    (try have zw7w5 := bsz (show w5.heap.size < w7.heap.size by omega))
    (try have zw7w6 := bsz (show w6.heap.size < w7.heap.size by omega))
    have y7 := bsz (show w5.heap.size < w7.heap.size by omega)
    have hk1 : (k == 0) = false := by simpa using hk0
    go_wp2_with fail
    refine (HSY.out _ (HE.out.below (by (repeat (first | exact Below.refl _ _ | assumption | refine Below.al ?_ _ | refine Below.sc ?_ (by first | exact Nat.le_refl _ | (simp; done) | (simp; omega)) _ | refine Below.dr ?_ | refine Below.drN ?_ _ | refine Below.step ?_ (by assumption)))))).mono ?_
    rintro e w8 ⟨rfl, hb8⟩
    have ⟨cw8, fw8⟩ := bcell hb8
    have qw8 := hb8.size
    (try simp at qw8)
    (try have zw8w := bsz (show w.heap.size < w8.heap.size by omega))
    (try have zw8w1 := bsz (show w1.heap.size < w8.heap.size by omega))
    (try have zw8w2 := bsz (show w2.heap.size < w8.heap.size by omega))
    (try have zw8w3 := bsz (show w3.heap.size < w8.heap.size by omega))
    (try have zw8w4 := bsz (show w4.heap.size < w8.heap.size by omega))
    (try have zw8w5 := bsz (show w5.heap.size < w8.heap.size by omega))
    (try have zw8w6 := bsz (show w6.heap.size < w8.heap.size by omega))
    (try have zw8w7 := bsz (show w7.heap.size < w8.heap.size by omega))
    have y8 := bsz (show w5.heap.size < w8.heap.size by omega)
    cases told
    · go_wp2_with fail
      go_ret
      exact ⟨rfl, by (repeat (first | exact Below.refl _ _ | assumption | refine Below.al ?_ _ | refine Below.sc ?_ (by first | exact Nat.le_refl _ | (simp; done) | (simp; omega)) _ | refine Below.dr ?_ | refine Below.drN ?_ _ | refine Below.step ?_ (by assumption)))⟩
    · go_wp2_with fail
      refine (HVL.out _ (HE.out.below (by (repeat (first | exact Below.refl _ _ | assumption | refine Below.al ?_ _ | refine Below.sc ?_ (by first | exact Nat.le_refl _ | (simp; done) | (simp; omega)) _ | refine Below.dr ?_ | refine Below.drN ?_ _ | refine Below.step ?_ (by assumption)))))).mono ?_
      rintro e w9 ⟨rfl, hb9⟩
      have ⟨cw9, fw9⟩ := bcell hb9
      have qw9 := hb9.size
      (try simp at qw9)
      (try have zw9w := bsz (show w.heap.size < w9.heap.size by omega))
      (try have zw9w1 := bsz (show w1.heap.size < w9.heap.size by omega))
      go_wp2_with fail
      go_ret
      exact ⟨rfl, by (repeat (first | exact Below.refl _ _ | assumption | refine Below.al ?_ _ | refine Below.sc ?_ (by first | exact Nat.le_refl _ | (simp; done) | (simp; omega)) _ | refine Below.dr ?_ | refine Below.drN ?_ _ | refine Below.step ?_ (by assumption)))⟩
theorem fnLogLines (pp : Option Addr) (nn cc : Nat) (w : World) (hE : Env w) (h : nn ≤ 1000000 → CodeIn w (.slice pp nn cc)) :
    Calls Tryd.prog 11 #[.slice pp nn cc] w fun e w' => e = .returned (.bool true) ∧ Below w.heap.size w w' := by
  by_cases hn : nn ≤ 65536
  · exact fnLogLines_small pp nn cc w hE (h (by omega)) hn
  · have hnn : (65536 : Int) < (nn : Int) := by omega
    go_enter Tryd.func11, Tryd.ntmps11
    go_wp2_with fail
    refine (vBig_any _ _ _ _).mono ?_
    rintro e w' ⟨rfl, rfl⟩
    go_wp2
    go_ret
    exact ⟨rfl, Below.refl _ _⟩
end Go.Proofs.YtofamefmodmekaaDoor
