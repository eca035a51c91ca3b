/- Names of variables and symbols, both sides. Conditions: sizes. -/
import Derived.Test.YtinfogmjijeliaaTmF
import Derived.Test.YtinfogmjijeliaaStrs
namespace Go.Proofs.Ytinfogmjijeliaa
open Go.RowKit
theorem isLower_any (c : UInt8) (w : World) : Calls Try.prog 73 #[.int .u8 (c.toNat : Int)] w fun e w' => e = .returned (.bool (loC c)) ∧ w = w' := by
  go_enter Try.func73, Try.ntmps73
  go_wp2
  all_goals go_ret
  all_goals go_light
  all_goals refine ⟨ret_bool ?_, rfl⟩
  all_goals rw [Bool.eq_iff_iff]
  all_goals simp only [loC, upC, diC, smC, decide_eq_true_eq, Bool.and_eq_true, Bool.or_eq_true, true_iff, false_iff, Bool.false_eq_true, not_and, not_or]
  all_goals omega
theorem isUpper_any (c : UInt8) (w : World) : Calls Try.prog 113 #[.int .u8 (c.toNat : Int)] w fun e w' => e = .returned (.bool (upC c)) ∧ w = w' := by
  go_enter Try.func113, Try.ntmps113
  go_wp2
  all_goals go_ret
  all_goals go_light
  all_goals refine ⟨ret_bool ?_, rfl⟩
  all_goals rw [Bool.eq_iff_iff]
  all_goals simp only [loC, upC, diC, smC, decide_eq_true_eq, Bool.and_eq_true, Bool.or_eq_true, true_iff, false_iff, Bool.false_eq_true, not_and, not_or]
  all_goals omega
theorem isDigit_any (c : UInt8) (w : World) : Calls Try.prog 74 #[.int .u8 (c.toNat : Int)] w fun e w' => e = .returned (.bool (diC c)) ∧ w = w' := by
  go_enter Try.func74, Try.ntmps74
  go_wp2
  all_goals go_ret
  all_goals go_light
  all_goals refine ⟨ret_bool ?_, rfl⟩
  all_goals rw [Bool.eq_iff_iff]
  all_goals simp only [loC, upC, diC, smC, decide_eq_true_eq, Bool.and_eq_true, Bool.or_eq_true, true_iff, false_iff, Bool.false_eq_true, not_and, not_or]
  all_goals omega
theorem l2Small_any (c : UInt8) (w : World) : Calls Try.prog 105 #[.int .u8 (c.toNat : Int)] w fun e w' => e = .returned (.bool (smC c)) ∧ w = w' := by
  go_enter Try.func105, Try.ntmps105
  go_wp2
  all_goals go_ret
  all_goals go_light
  all_goals refine ⟨ret_bool ?_, rfl⟩
  all_goals rw [Bool.eq_iff_iff]
  all_goals simp only [loC, upC, diC, smC, decide_eq_true_eq, Bool.and_eq_true, Bool.or_eq_true, true_iff, false_iff, Bool.false_eq_true, not_and, not_or]
  all_goals omega
theorem headTail_take (p q : UInt8 → Bool) (s : ByteArray) (k : Nat) (h : k < s.size) : headTail p q (s.data.toList.take (k + 1)) = (headTail p q (s.data.toList.take k) && (if k = 0 then p s[k] else q s[k])) := by
  rw [take_snoc s k h, headTail_snoc]
  by_cases hk : k = 0
  · subst hk; simp
  · rw [if_neg hk, if_neg]
    have hl : (s.data.toList.take k).length = k := by rw [List.length_take, ← size_list]; omega
    rw [List.isEmpty_iff]
    intro e; rw [e] at hl; simp at hl; omega
theorem headTail_no (p q : UInt8 → Bool) (s : ByteArray) (k : Nat) (h : k < s.size) (h2 : (if k = 0 then p s[k] else q s[k]) = false) : headTail p q s.data.toList = false := by
  have e : s.data.toList = s.data.toList.take (k + 1) ++ s.data.toList.drop (k + 1) := (List.take_append_drop _ _).symm
  have h3 := headTail_take p q s k h
  rw [h2, Bool.and_false] at h3
  rw [e]
  generalize s.data.toList.take (k + 1) = a at *
  cases a with
  | nil => simp [headTail] at h3
  | cons x a =>
    simp only [headTail, List.cons_append, List.all_append] at h3 ⊢
    rw [← Bool.and_assoc, h3, Bool.false_and]
set_option maxHeartbeats 800000 in
theorem isVariable_any (s : ByteArray) (w : World) (hs : s.size ≤ maxLen) :
    Calls Try.prog 84 #[.string s] w fun e w' => e = .returned (.bool (varB s.data.toList)) ∧ w = w' := by
  unfold maxLen at hs
  have HV := Lib.hid (show varB s.data.toList = (inB (s.size : Int) 1 4 && headTail upC smC s.data.toList) by
    unfold varB inB; rw [← size_list]
    congr 1
    rw [Bool.eq_iff_iff]; simp; omega)
  go_enter Try.func84, Try.ntmps84
  go_wp2
  go_loop [6] (fun i => ∃ k : Nat, k ≤ s.size ∧ i = .int .i64 k ∧ headTail upC smC (s.data.toList.take k) = true) (fun i => s.size - (intOf i).toNat)
  case atStart => exact ⟨0, Nat.zero_le _, rfl, rfl⟩
  case round =>
    obtain ⟨k, hk, rfl, hp⟩ := hrel
    have HP := Lib.hid hp; clear hp
    by_cases hlt : k < s.size
    · have HT := Lib.hid (headTail_take upC smC s k hlt)
      have HN := Lib.hid (headTail_no upC smC s k hlt)
      by_cases hk0 : k = 0
      · subst hk0
        cases hU : upC s[0]
        all_goals
          go_wp2_with (first | (go_at_call 113; refine (isUpper_any _ _).mono ?_; rintro e w' ⟨rfl, rfl⟩) | (go_at_call 73; refine (isLower_any _ _).mono ?_; rintro e w' ⟨rfl, rfl⟩) | (go_at_call 74; refine (isDigit_any _ _).mono ?_; rintro e w' ⟨rfl, rfl⟩))
        · go_ret
          exact ⟨ret_bool (by rw [HV.out, HN.out (by simpa using hU)]; simp), rfl⟩
        · refine ⟨⟨1, by omega, by go_num, ?_⟩, by simp [intOf]; omega⟩
          rw [HT.out, HP.out]; simpa using hU
      · have hk1 : 0 < (k : Int) := by omega
        have hk2 : ((k : Int) == 0) = false := by simp; omega
        cases hL : loC s[k] <;> cases hD : diC s[k]
        all_goals
          have HLD := Lib.hid (And.intro hL hD)
          go_wp2_with (first | (go_at_call 113; refine (isUpper_any _ _).mono ?_; rintro e w' ⟨rfl, rfl⟩) | (go_at_call 73; refine (isLower_any _ _).mono ?_; rintro e w' ⟨rfl, rfl⟩) | (go_at_call 74; refine (isDigit_any _ _).mono ?_; rintro e w' ⟨rfl, rfl⟩))
        · go_ret
          exact ⟨ret_bool (by rw [HV.out, HN.out (by rw [if_neg hk0, smC, HLD.out.1, HLD.out.2]; rfl)]; simp), rfl⟩
        all_goals
          refine ⟨⟨k + 1, by omega, by go_num, ?_⟩, by simp [intOf]; omega⟩
          rw [HT.out, HP.out, if_neg hk0, smC, HLD.out.1, HLD.out.2]; rfl
    · go_wp2_with (first | (go_at_call 75; refine (within_any _ _ _ _).mono ?_; rintro e w' ⟨rfl, rfl⟩))
      go_ret
      exact ⟨ret_bool (by have := HP.out; rw [take_all _ _ (by omega)] at this; rw [HV.out, this]; simp), rfl⟩
def keyS : List ByteArray := keyW.map fun l => ⟨l.toArray⟩
theorem key_contains (x : ByteArray) : Lib.containsS (keyS.take 8) x = keyW.contains x.data.toList := by
  rw [Bool.eq_iff_iff, Lib.containsS_iff, List.contains_iff_mem, show keyS.take 8 = keyS from rfl, keyS, List.mem_map]
  constructor
  · rintro ⟨l, h, rfl⟩; exact h
  · intro h; exact ⟨_, h, rfl⟩
theorem key_cells (w : World) (t : TypeId) (j : Nat) (hj : j < keyS.length) :
    (w.alloc (.cells #[.string ⟨#[116, 114, 117, 101]⟩, .string ⟨#[102, 97, 108, 115, 101]⟩, .string ⟨#[116, 114, 117, 116, 104]⟩, .string ⟨#[98, 111, 116, 104]⟩, .string ⟨#[101, 105, 116, 104, 101, 114]⟩, .string ⟨#[105, 102]⟩, .string ⟨#[97, 108, 108]⟩, .string ⟨#[115, 111, 109, 101]⟩] t)).cell? ⟨w.heap.size, 0 + j, none⟩ = some (.string (keyS.getD j ByteArray.empty)) := by
  have hj8 : j < 8 := hj
  rw [Nat.zero_add, World.cell?_alloc_new]
  match j, hj8 with
  | 0, _ => rfl
  | 1, _ => rfl
  | 2, _ => rfl
  | 3, _ => rfl
  | 4, _ => rfl
  | 5, _ => rfl
  | 6, _ => rfl
  | 7, _ => rfl
theorem reserved_any (w : World) : Calls Try.prog 77 #[] w fun e w' => e = .returned (.slice (some ⟨w.heap.size, 0, none⟩) 8 8) ∧ w.alloc (.cells #[.string ⟨#[116, 114, 117, 101]⟩, .string ⟨#[102, 97, 108, 115, 101]⟩, .string ⟨#[116, 114, 117, 116, 104]⟩, .string ⟨#[98, 111, 116, 104]⟩, .string ⟨#[101, 105, 116, 104, 101, 114]⟩, .string ⟨#[105, 102]⟩, .string ⟨#[97, 108, 108]⟩, .string ⟨#[115, 111, 109, 101]⟩] 9) = w' := by
  go_enter Try.func77, Try.ntmps77
  go_wp2
  go_ret
  exact ⟨rfl, rfl⟩
set_option maxHeartbeats 1600000 in
theorem isSymbol_any (s : ByteArray) (w : World) (hs : s.size ≤ maxLen) :
    Calls Try.prog 44 #[.string s] w fun e w' => e = .returned (.bool (symB s.data.toList)) ∧ Below w.heap.size w w' := by
  unfold maxLen at hs
  have HV := Lib.hid (show symB s.data.toList = (inB (s.size : Int) 1 6 && headTail loC unC s.data.toList && !keyW.contains s.data.toList) by
    unfold symB inB; rw [← size_list]
    congr 2
    rw [Bool.eq_iff_iff]; simp; omega)
  go_enter Try.func44, Try.ntmps44
  go_wp2
  go_loop [6] (fun i => ∃ k : Nat, k ≤ s.size ∧ i = .int .i64 k ∧ headTail loC unC (s.data.toList.take k) = true) (fun i => s.size - (intOf i).toNat)
  case atStart => exact ⟨0, Nat.zero_le _, rfl, rfl⟩
  case round =>
    obtain ⟨k, hk, rfl, hp⟩ := hrel
    have HP := Lib.hid hp; clear hp
    by_cases hlt : k < s.size
    · have HT := Lib.hid (headTail_take loC unC s k hlt)
      have HN := Lib.hid (headTail_no loC unC s k hlt)
      by_cases hk0 : k = 0
      · subst hk0
        cases hL : loC s[0]
        all_goals
          have HL := Lib.hid hL
          go_wp2_with (first | (go_at_call 73; refine (isLower_any _ _).mono ?_; rintro e w' ⟨rfl, rfl⟩) | (go_at_call 74; refine (isDigit_any _ _).mono ?_; rintro e w' ⟨rfl, rfl⟩))
        · go_ret
          exact ⟨ret_bool (by rw [HV.out, HN.out (by simpa using HL.out)]; simp), Below.refl _ _⟩
        · refine ⟨⟨1, by omega, by go_num, ?_⟩, by simp [intOf]; omega⟩
          rw [HT.out, HP.out]; simpa using HL.out
      · have hk1 : 0 < (k : Int) := by omega
        have hk2 : ((k : Int) == 0) = false := by simp; omega
        have HU := Lib.hid (show unC s[k] = ((loC s[k] || diC s[k]) || (s[k] == 95)) from rfl)
        by_cases h9 : s[k] = 95
        · have H9 := Lib.hid h9
          have h91 : ((s[k].toNat : Int) != 95) = false := by rw [h9]; rfl
          have h92 : ((s[k].toNat : Int) == 95) = true := by rw [h9]; rfl
          clear h9
          cases hL : loC s[k] <;> cases hD : diC s[k]
          all_goals
            have HLD := Lib.hid (And.intro hL hD)
            go_wp2_with (first | (go_at_call 73; refine (isLower_any _ _).mono ?_; rintro e w' ⟨rfl, rfl⟩) | (go_at_call 74; refine (isDigit_any _ _).mono ?_; rintro e w' ⟨rfl, rfl⟩))
            refine ⟨⟨k + 1, by omega, by go_num, ?_⟩, by simp [intOf]; omega⟩
            rw [HT.out, HP.out, if_neg hk0, HU.out, HLD.out.1, HLD.out.2, H9.out]; rfl
        · have H9 := Lib.hid (show (s[k] == 95) = false by simpa using h9)
          have h9n : ¬ (s[k].toNat : Int) = 95 := fun e => h9 (UInt8.toNat_inj.1 (show s[k].toNat = 95 by omega))
          have h91 : ((s[k].toNat : Int) != 95) = true := by simpa using h9n
          have h92 : ((s[k].toNat : Int) == 95) = false := by simpa using h9n
          clear h9 h9n
          cases hL : loC s[k] <;> cases hD : diC s[k]
          all_goals
            have HLD := Lib.hid (And.intro hL hD)
            go_wp2_with (first | (go_at_call 73; refine (isLower_any _ _).mono ?_; rintro e w' ⟨rfl, rfl⟩) | (go_at_call 74; refine (isDigit_any _ _).mono ?_; rintro e w' ⟨rfl, rfl⟩))
          · go_ret
            exact ⟨ret_bool (by rw [HV.out, HN.out (by rw [if_neg hk0, HU.out, HLD.out.1, HLD.out.2, H9.out]; rfl)]; simp), Below.refl _ _⟩
          all_goals
            refine ⟨⟨k + 1, by omega, by go_num, ?_⟩, by simp [intOf]; omega⟩
            rw [HT.out, HP.out, if_neg hk0, HU.out, HLD.out.1, HLD.out.2]; rfl
    · have HF := Lib.hid (show headTail loC unC s.data.toList = true by have := HP.out; rwa [take_all _ _ (by omega)] at this)
      cases hB : inB (s.size : Int) 1 6
      all_goals
        have HB := Lib.hid hB
        go_wp2_with (first | (go_at_call 75; refine (within_any _ _ _ _).mono ?_; rintro e w' ⟨rfl, rfl⟩) | (go_at_call 77; refine (reserved_any _).mono ?_; rintro e w' ⟨rfl, rfl⟩) | (go_at_call 76; refine (Try.slices_Contains_string w.heap.size 0 8 8 keyS s _ (by decide) (by decide) (key_cells w _)).mono ?_; rintro e w' ⟨rfl, rfl⟩))
        go_ret
      · exact ⟨ret_bool (by rw [HV.out, HB.out]; rfl), by (repeat (first | with_reducible exact Below.refl _ _ | with_reducible assumption | with_reducible refine Below.al ?_ _ | with_reducible refine Below.sc ?_ (by first | exact Nat.le_refl _ | (simp; done) | (simp; omega)) _ | assumption | exact Below.refl _ _ | refine Below.dr ?_ | refine Below.drN ?_ _ | refine Below.step ?_ (by assumption)))⟩
      · exact ⟨ret_bool (by rw [HV.out, HB.out, HF.out, key_contains]; rfl), by (repeat (first | with_reducible exact Below.refl _ _ | with_reducible assumption | with_reducible refine Below.al ?_ _ | with_reducible refine Below.sc ?_ (by first | exact Nat.le_refl _ | (simp; done) | (simp; omega)) _ | assumption | exact Below.refl _ _ | refine Below.dr ?_ | refine Below.drN ?_ _ | refine Below.step ?_ (by assumption)))⟩
end Go.Proofs.Ytinfogmjijeliaa
