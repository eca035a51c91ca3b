import Derived.Test.YtkgfanajgdelcaaGreatEnPart1
namespace Go.Proofs.YtkgfanajgdelcaaGreat
open Go.RowKit
def upC (c : UInt8) : Bool := decide (65 ≤ c.toNat) && decide (c.toNat ≤ 90)
def loC (c : UInt8) : Bool := decide (97 ≤ c.toNat) && decide (c.toNat ≤ 122)
def diC (c : UInt8) : Bool := decide (48 ≤ c.toNat) && decide (c.toNat ≤ 57)
def smC (c : UInt8) : Bool := loC c || diC c
def unC (c : UInt8) : Bool := smC c || c == 95
def headTail (p q : UInt8 → Bool) : List UInt8 → Bool
  | [] => true
  | c :: l => p c && l.all q
theorem headTail_snoc (p q : UInt8 → Bool) (l : List UInt8) (c : UInt8) : headTail p q (l ++ [c]) = (headTail p q l && (if l.isEmpty then p c else q c)) := by
  cases l with
  | nil => simp [headTail]
  | cons x l => simp [headTail, Bool.and_assoc]
def varB (l : List UInt8) : Bool := decide (1 ≤ l.length) && decide (l.length ≤ 4) && headTail upC smC l
def keyW : List (List UInt8) := [[116, 114, 117, 101], [102, 97, 108, 115, 101], [116, 114, 117, 116, 104], [98, 111, 116, 104], [101, 105, 116, 104, 101, 114], [105, 102], [97, 108, 108], [115, 111, 109, 101]]
def symB (l : List UInt8) : Bool := decide (1 ≤ l.length) && decide (l.length ≤ 6) && headTail loC unC l && !keyW.contains l
mutual
def Tm.sz : Tm → Nat | .mk _ us => 1 + Tm.szs us
def Tm.szs : List Tm → Nat | [] => 0 | a :: us => a.sz + Tm.szs us
end
mutual
def Tm.dp : Tm → Nat | .mk _ us => Tm.dps us + 1
def Tm.dps : List Tm → Nat | [] => 0 | a :: us => max a.dp (Tm.dps us)
end
mutual
def Tm.nodes : Tm → Bool | .mk n us => if varB n.data.toList then us.isEmpty else symB n.data.toList && decide (us.length ≤ 4) && Tm.nodess us
def Tm.nodess : List Tm → Bool | [] => true | a :: us => a.nodes && Tm.nodess us
end
mutual
def Tm.szI : Tm → Nat | .mk _ us => Tm.szIs 1 us
def Tm.szIs : Nat → List Tm → Nat | n, [] => n | n, a :: us => if 30 < n then n else Tm.szIs (n + a.szI) us
end
mutual
def Tm.many : Tm → Nat → Nat | .mk _ us, m => Tm.manys 1 us m
def Tm.manys : Nat → List Tm → Nat → Nat | n, [], _ => n | n, a :: us, m => if n ≤ m then Tm.manys (n + a.many (m - n)) us m else n
end
mutual
theorem Tm.szI_law : ∀ t : Tm, t.szI ≤ t.sz ∧ (t.szI ≤ 30 → t.szI = t.sz) ∧ 1 ≤ t.szI
  | .mk _ us => by have := Tm.szIs_law 1 us; rw [Tm.szI, Tm.sz]; omega
theorem Tm.szIs_law : ∀ (n : Nat) (us : List Tm), Tm.szIs n us ≤ n + Tm.szs us ∧ (Tm.szIs n us ≤ 30 → Tm.szIs n us = n + Tm.szs us) ∧ n ≤ Tm.szIs n us
  | n, [] => by simp [Tm.szIs, Tm.szs]
  | n, a :: us => by
    have h1 := Tm.szI_law a
    have h2 := Tm.szIs_law (n + a.szI) us
    rw [Tm.szIs, Tm.szs]
    split <;> omega
end
mutual
theorem Tm.many_law : ∀ (t : Tm) (m : Nat), t.many m ≤ t.sz ∧ (t.many m ≤ m → t.many m = t.sz) ∧ 1 ≤ t.many m
  | .mk _ us, m => by have := Tm.manys_law 1 us m; rw [Tm.many, Tm.sz]; omega
theorem Tm.manys_law : ∀ (n : Nat) (us : List Tm) (m : Nat), Tm.manys n us m ≤ n + Tm.szs us ∧ (Tm.manys n us m ≤ m → Tm.manys n us m = n + Tm.szs us) ∧ n ≤ Tm.manys n us m
  | n, [], m => by simp [Tm.manys, Tm.szs]
  | n, a :: us, m => by
    have h1 := Tm.many_law a (m - n)
    have h2 := Tm.manys_law (n + a.many (m - n)) us m
    rw [Tm.manys, Tm.szs]
    split <;> omega
end
mutual
theorem Tm.dp_le : ∀ t : Tm, t.dp ≤ t.sz
  | .mk _ us => by have := Tm.dps_le us; rw [Tm.dp, Tm.sz]; omega
theorem Tm.dps_le : ∀ us : List Tm, Tm.dps us ≤ Tm.szs us
  | [] => by simp [Tm.dps, Tm.szs]
  | a :: us => by have := Tm.dp_le a; have := Tm.dps_le us; rw [Tm.dps, Tm.szs]; omega
end
theorem Tm.szI_iff (t : Tm) : decide (t.szI ≤ 30) = decide (t.sz ≤ 30) := by rw [decide_eq_decide]; have := t.szI_law; omega
theorem Tm.many_iff (t : Tm) : decide (t.many 30 ≤ 30) = decide (t.sz ≤ 30) := by rw [decide_eq_decide]; have := t.many_law 30; omega
def Tm.small (t : Tm) : Bool := decide (t.sz ≤ 30) && decide (t.dp ≤ 8)
def Tm.good (t : Tm) : Bool := t.small && t.nodes
def isEq (n : ByteArray) : Bool := n.data.toList == [61]
def Tm.atom (t : Tm) : Bool :=
  if isEq t.n then decide (t.us.length = 2) && t.small && Tm.nodess t.us else symB t.n.data.toList && t.good
mutual
def Fm.sz : Fm → Nat | .mk _ _ _ ps => 1 + Fm.szs ps
def Fm.szs : List Fm → Nat | [] => 0 | a :: us => a.sz + Fm.szs us
end
mutual
def Fm.szI : Fm → Nat | .mk _ _ _ ps => Fm.szIs 1 ps
def Fm.szIs : Nat → List Fm → Nat | n, [] => n | n, a :: us => if 40 < n then n else Fm.szIs (n + a.szI) us
end
mutual
def Fm.many : Fm → Nat → Nat | .mk _ _ _ ps, m => Fm.manys 1 ps m
def Fm.manys : Nat → List Fm → Nat → Nat | n, [], _ => n | n, a :: us, m => if n ≤ m then Fm.manys (n + a.many (m - n)) us m else n
end
mutual
theorem Fm.szI_law : ∀ t : Fm, t.szI ≤ t.sz ∧ (t.szI ≤ 40 → t.szI = t.sz) ∧ 1 ≤ t.szI
  | .mk _ _ _ us => by have := Fm.szIs_law 1 us; rw [Fm.szI, Fm.sz]; omega
theorem Fm.szIs_law : ∀ (n : Nat) (us : List Fm), Fm.szIs n us ≤ n + Fm.szs us ∧ (Fm.szIs n us ≤ 40 → Fm.szIs n us = n + Fm.szs us) ∧ n ≤ Fm.szIs n us
  | n, [] => by simp [Fm.szIs, Fm.szs]
  | n, a :: us => by
    have h1 := Fm.szI_law a
    have h2 := Fm.szIs_law (n + a.szI) us
    rw [Fm.szIs, Fm.szs]
    split <;> omega
end
mutual
theorem Fm.many_law : ∀ (t : Fm) (m : Nat), t.many m ≤ t.sz ∧ (t.many m ≤ m → t.many m = t.sz) ∧ 1 ≤ t.many m
  | .mk _ _ _ us, m => by have := Fm.manys_law 1 us m; rw [Fm.many, Fm.sz]; omega
theorem Fm.manys_law : ∀ (n : Nat) (us : List Fm) (m : Nat), Fm.manys n us m ≤ n + Fm.szs us ∧ (Fm.manys n us m ≤ m → Fm.manys n us m = n + Fm.szs us) ∧ n ≤ Fm.manys n us m
  | n, [], m => by simp [Fm.manys, Fm.szs]
  | n, a :: us, m => by
    have h1 := Fm.many_law a (m - n)
    have h2 := Fm.manys_law (n + a.many (m - n)) us m
    rw [Fm.manys, Fm.szs]
    split <;> omega
end
theorem Fm.szI_iff (t : Fm) : decide (t.szI ≤ 40) = decide (t.sz ≤ 40) := by rw [decide_eq_decide]; have := t.szI_law; omega
theorem Fm.many_iff (t : Fm) : decide (t.many 40 ≤ 40) = decide (t.sz ≤ 40) := by rw [decide_eq_decide]; have := t.many_law 40; omega
def Tm.none (t : Tm) : Bool := t.n.data.toList.isEmpty && t.us.isEmpty
def arity (op : Int) : Option Nat := if op = 1 ∨ op = 2 ∨ op = 3 then some 0 else if op = 4 ∨ op = 8 ∨ op = 9 then some 1 else if op = 5 ∨ op = 6 ∨ op = 7 then some 2 else none
def isQ (op : Int) : Bool := op == 8 || op == 9
def Fm.form1 (f : Fm) : Bool :=
  (arity f.op == some f.ps.length) && (if isQ f.op then varB f.v.data.toList else f.v.data.toList.isEmpty) && (if f.op = 3 then f.a.atom else f.a.none)
mutual
def Fm.form : Fm → Bool | .mk op a v ps => Fm.form1 (.mk op a v ps) && Fm.forms ps
def Fm.forms : List Fm → Bool | [] => true | f :: fs => f.form && Fm.forms fs
end
def Fm.good (f : Fm) : Bool := decide (f.sz ≤ 40) && f.form
/-! ### Texts -/
def joinB (sep : List UInt8) : List (List UInt8) → List UInt8
  | [] => []
  | [a] => a
  | a :: b :: l => a ++ sep ++ joinB sep (b :: l)
mutual
def Tm.fmt : Tm → List UInt8
  | .mk n us => if n.data.toList = [61] then (match Tm.fmtL us with | a :: b :: _ => a ++ [32, 61, 32] ++ b | _ => []) else match us with | [] => n.data.toList | _ :: _ => n.data.toList ++ [40] ++ joinB [44] (Tm.fmtL us) ++ [41]
def Tm.fmtL : List Tm → List (List UInt8)
  | [] => []
  | a :: us => a.fmt :: Tm.fmtL us
end
def inB (n a b : Int) : Bool := decide (a ≤ n) && decide (n ≤ b)
theorem within_any (n a b : Int) (w : World) :
    Calls Tryz.prog 99 #[.int .i64 n, .int .i64 a, .int .i64 b] w fun e w' => e = .returned (.bool (inB n a b)) ∧ w = w' := by
  by_cases h1 : a ≤ n <;> by_cases h2 : n ≤ b
  all_goals
    go_enter Tryz.func99, Tryz.ntmps99
    go_wp2
    go_ret
    exact ⟨ret_bool (by simp [inB, h1, h2]), rfl⟩
theorem l1In_any (n a b : Int) (w : World) :
    Calls Tryz.prog 122 #[.int .i64 n, .int .i64 a, .int .i64 b] w fun e w' => e = .returned (.bool (inB n a b)) ∧ w = w' := by
  by_cases h1 : a ≤ n <;> by_cases h2 : n ≤ b
  all_goals
    go_enter Tryz.func122, Tryz.ntmps122
    go_wp2
    go_ret
    exact ⟨ret_bool (by simp [inB, h1, h2]), rfl⟩
def digB (d : Nat) : UInt8 := UInt8.ofNat (48 + d)
theorem itoa_small (n : Int) (h0 : 0 ≤ n) (h : n < 10) : Lib.itoa n = [digB n.toNat] := by
  rw [Lib.itoa, if_neg (by omega), Lib.decDigits, dif_pos (by omega)]; rfl
theorem itoa_step (n : Int) (h : 10 ≤ n) : Lib.itoa n = Lib.itoa (n / 10) ++ [digB (n % 10).toNat] := by
  rw [Lib.itoa, if_neg (by omega), Lib.decDigits, dif_neg (by omega), Lib.itoa, if_neg (by omega)]
  have h1 : n.toNat / 10 = (n / 10).toNat := by omega
  have h2 : n.toNat % 10 = (n % 10).toNat := by omega
  rw [h1, h2]; rfl
theorem decDigits_len (f : Nat) : ∀ n : Nat, n < 10 ^ (f + 1) → (Lib.decDigits n).length ≤ f + 1 := by
  induction f with
  | zero => intro n h; rw [Lib.decDigits, dif_pos (by simpa using h)]; simp
  | succ f ih =>
    intro n h
    rw [Lib.decDigits]
    split
    · simp
    · rw [List.length_append]
      have := ih (n / 10) (Nat.div_lt_of_lt_mul (by rw [Nat.pow_succ] at h; rw [Nat.mul_comm]; exact h))
      simp only [List.length_cons, List.length_nil]; omega
theorem itoa_len (n : Int) (h0 : -9223372036854775808 ≤ n) (h1 : n ≤ 9223372036854775807) : (Lib.itoa n).length ≤ 20 := by
  unfold Lib.itoa
  split
  · have := decDigits_len 18 n.natAbs (by omega)
    rw [List.length_cons]; omega
  · have := decDigits_len 18 n.toNat (by omega)
    omega
theorem digit_slice (d : Nat) (h : d < 10) : (⟨#[48, 49, 50, 51, 52, 53, 54, 55, 56, 57]⟩ : ByteArray).extract d (d + 1) = ⟨#[digB d]⟩ := by
  have : ∀ e : Fin 10, (⟨#[48, 49, 50, 51, 52, 53, 54, 55, 56, 57]⟩ : ByteArray).extract e.val (e.val + 1) = ⟨#[digB e.val]⟩ := by decide +kernel
  exact this ⟨d, h⟩
set_option maxHeartbeats 400000 in
theorem l1Num_nat (f : Nat) : ∀ (n : Int) (w : World), 0 ≤ n → n < 10 ^ (f + 1) → n ≤ 9223372036854775807 →
    Calls Tryz.prog 80 #[.int .i64 n] w fun e w' => e = .returned (.string ⟨(Lib.itoa n).toArray⟩) ∧ Drew w w' := by
  induction f with
  | zero =>
    intro n w h0 hf _
    have hn : n < 10 := by simpa using hf
    have HD := Lib.hid (digit_slice n.toNat (by omega))
    have HI := Lib.hid (itoa_small n h0 hn)
    have HC : n.toNat + 1 = (n + 1).toNat := by omega
    clear hf
    go_enter Tryz.func80, Tryz.ntmps80
    go_wp2
    go_ret
    refine ⟨?_, Drew.refl _⟩
    show Ending.returned (Value.string (ByteArray.extract _ _ _)) = _
    rw [← HC, HD.out, HI.out]
  | succ f ih =>
    intro n w h0 hf h63
    by_cases hn : n < 10
    · have HD := Lib.hid (digit_slice n.toNat (by omega))
      have HI := Lib.hid (itoa_small n h0 hn)
      have HC : n.toNat + 1 = (n + 1).toNat := by omega
      clear hf
      go_enter Tryz.func80, Tryz.ntmps80
      go_wp2
      go_ret
      refine ⟨?_, Drew.refl _⟩
      show Ending.returned (Value.string (ByteArray.extract _ _ _)) = _
      rw [← HC, HD.out, HI.out]
    · have HI := Lib.hid (itoa_step n (by omega))
      have h10 : n / 10 < 10 ^ (f + 1) := Int.ediv_lt_of_lt_mul (by omega) (by rw [Int.pow_succ] at hf; exact hf)
      have IH := Lib.hid fun w => ih (n / 10) w (by omega) h10 (by omega)
      have HD : (⟨#[48, 49, 50, 51, 52, 53, 54, 55, 56, 57]⟩ : ByteArray).extract (n % 10).toNat (n % 10 + 1).toNat = ⟨#[digB (n % 10).toNat]⟩ := by
        rw [show (n % 10 + 1).toNat = (n % 10).toNat + 1 by omega]; exact digit_slice _ (by omega)
      have HL : ¬ 9223372036854775807 < (Lib.itoa (n / 10)).length + 1 := by have := itoa_len (n / 10) (by omega) (by omega); omega
      have hm0 : 0 ≤ n % 10 := by omega
      have hm1 : n % 10 < 10 := by omega
      have q1 : IntKind.i64.wrap (n.tdiv 10) = n / 10 := by rw [Int.tdiv_eq_ediv_of_nonneg h0]; exact IntWalk.i64_in _ (by omega)
      have q2 : n.tmod 10 = n % 10 := Int.tmod_eq_emod_of_nonneg h0
      have q3 : IntKind.i64.wrap (n % 10 + 1) = n % 10 + 1 := IntWalk.i64_in _ (by omega)
      have b0 : 0 ≤ n % 10 + 1 := by omega
      have b1 : n % 10 + 1 ≤ 10 := by omega
      have b2 : n % 10 ≤ n % 10 + 1 := by omega
      clear ih hf h10
      go_enter Tryz.func80, Tryz.ntmps80
      go_wp2_with fail
      go_quiet ((go_at_call 80; exact Drew.quiet (IH.out _)))
      go_wp2
      go_ret
      refine ⟨?_, _, rfl⟩
      show Ending.returned (Value.string (_ ++ _)) = _
      rw [HI.out, bytes_append]
theorem l1Num_any (n : Int) (w : World) (h0 : 0 ≤ n) (h1 : n ≤ 9223372036854775807) :
    Calls Tryz.prog 80 #[.int .i64 n] w fun e w' => e = .returned (.string ⟨(Lib.itoa n).toArray⟩) ∧ Drew w w' :=
  l1Num_nat 18 n w h0 (by omega) h1
theorem isLower_any (c : UInt8) (w : World) : Calls Tryz.prog 72 #[.int .u8 (c.toNat : Int)] w fun e w' => e = .returned (.bool (loC c)) ∧ w = w' := by
  go_enter Tryz.func72, Tryz.ntmps72
  go_wp2
  all_goals go_ret
  all_goals go_light
  all_goals refine ⟨ret_bool ?_, rfl⟩
  all_goals rw [Bool.eq_iff_iff]
  all_goals simp only [loC, decide_eq_true_eq, Bool.and_eq_true, false_iff, Bool.false_eq_true, not_and]
  all_goals omega
theorem isUpper_any (c : UInt8) (w : World) : Calls Tryz.prog 73 #[.int .u8 (c.toNat : Int)] w fun e w' => e = .returned (.bool (upC c)) ∧ w = w' := by
  go_enter Tryz.func73, Tryz.ntmps73
  go_wp2
  all_goals go_ret
  all_goals go_light
  all_goals refine ⟨ret_bool ?_, rfl⟩
  all_goals rw [Bool.eq_iff_iff]
  all_goals simp only [upC, decide_eq_true_eq, Bool.and_eq_true, false_iff, Bool.false_eq_true, not_and]
  all_goals omega
theorem isDigit_any (c : UInt8) (w : World) : Calls Tryz.prog 74 #[.int .u8 (c.toNat : Int)] w fun e w' => e = .returned (.bool (diC c)) ∧ w = w' := by
  go_enter Tryz.func74, Tryz.ntmps74
  go_wp2
  all_goals go_ret
  all_goals go_light
  all_goals refine ⟨ret_bool ?_, rfl⟩
  all_goals rw [Bool.eq_iff_iff]
  all_goals simp only [diC, decide_eq_true_eq, Bool.and_eq_true, false_iff, Bool.false_eq_true, not_and]
  all_goals omega
theorem l2Small_any (c : UInt8) (w : World) : Calls Tryz.prog 123 #[.int .u8 (c.toNat : Int)] w fun e w' => e = .returned (.bool (smC c)) ∧ w = w' := by
  go_enter Tryz.func123, Tryz.ntmps123
  go_wp2
  all_goals go_ret
  all_goals go_light
  all_goals refine ⟨ret_bool ?_, rfl⟩
  all_goals rw [Bool.eq_iff_iff]
  all_goals simp only [loC, diC, smC, decide_eq_true_eq, Bool.and_eq_true, Bool.or_eq_true, true_iff, false_iff, Bool.false_eq_true, not_and, not_or]
  all_goals omega
theorem headTail_take (p q : UInt8 → Bool) (s : ByteArray) (k : Nat) (h : k < s.size) : headTail p q (s.data.toList.take (k + 1)) = (headTail p q (s.data.toList.take k) && (if k = 0 then p s[k] else q s[k])) := by
  rw [take_snoc s k h, headTail_snoc]
  by_cases hk : k = 0
  · subst hk; simp
  · rw [if_neg hk, if_neg]
    have hl : (s.data.toList.take k).length = k := by rw [List.length_take, ← size_list]; omega
    rw [List.isEmpty_iff]
    intro e; rw [e] at hl; simp at hl; omega
theorem headTail_no (p q : UInt8 → Bool) (s : ByteArray) (k : Nat) (h : k < s.size) (h2 : (if k = 0 then p s[k] else q s[k]) = false) : headTail p q s.data.toList = false := by
  have e : s.data.toList = s.data.toList.take (k + 1) ++ s.data.toList.drop (k + 1) := (List.take_append_drop _ _).symm
  have h3 := headTail_take p q s k h
  rw [h2, Bool.and_false] at h3
  rw [e]
  generalize s.data.toList.take (k + 1) = a at *
  cases a with
  | nil => simp [headTail] at h3
  | cons x a =>
    simp only [headTail, List.cons_append, List.all_append] at h3 ⊢
    rw [← Bool.and_assoc, h3, Bool.false_and]
set_option maxHeartbeats 800000 in
theorem isVariable_any (s : ByteArray) (w : World) (hs : s.size ≤ maxLen) :
    Calls Tryz.prog 62 #[.string s] w fun e w' => e = .returned (.bool (varB s.data.toList)) ∧ w = w' := by
  unfold maxLen at hs
  have HV := Lib.hid (show varB s.data.toList = (inB (s.size : Int) 1 4 && headTail upC smC s.data.toList) by
    unfold varB inB; rw [← size_list]
    congr 1
    rw [Bool.eq_iff_iff]; simp; omega)
  go_enter Tryz.func62, Tryz.ntmps62
  go_wp2
  go_loop [6] (fun i => ∃ k : Nat, k ≤ s.size ∧ i = .int .i64 k ∧ headTail upC smC (s.data.toList.take k) = true) (fun i => s.size - (intOf i).toNat)
  case atStart => exact ⟨0, Nat.zero_le _, rfl, rfl⟩
  case round =>
    obtain ⟨k, hk, rfl, hp⟩ := hrel
    have HP := Lib.hid hp; clear hp
    by_cases hlt : k < s.size
    · have HT := Lib.hid (headTail_take upC smC s k hlt)
      have HN := Lib.hid (headTail_no upC smC s k hlt)
      by_cases hk0 : k = 0
      · subst hk0
        cases hU : upC s[0]
        all_goals
          go_wp2_with (first | (go_at_call 73; refine (isUpper_any _ _).mono ?_; rintro e w' ⟨rfl, rfl⟩) | (go_at_call 72; refine (isLower_any _ _).mono ?_; rintro e w' ⟨rfl, rfl⟩) | (go_at_call 74; refine (isDigit_any _ _).mono ?_; rintro e w' ⟨rfl, rfl⟩))
        · go_ret
          exact ⟨ret_bool (by rw [HV.out, HN.out (by simpa using hU)]; simp), rfl⟩
        · refine ⟨⟨1, by omega, by go_num, ?_⟩, by simp [intOf]; omega⟩
          rw [HT.out, HP.out]; simpa using hU
      · have hk1 : 0 < (k : Int) := by omega
        have hk2 : ((k : Int) == 0) = false := by simp; omega
        cases hL : loC s[k] <;> cases hD : diC s[k]
        all_goals
          have HLD := Lib.hid (And.intro hL hD)
          go_wp2_with (first | (go_at_call 73; refine (isUpper_any _ _).mono ?_; rintro e w' ⟨rfl, rfl⟩) | (go_at_call 72; refine (isLower_any _ _).mono ?_; rintro e w' ⟨rfl, rfl⟩) | (go_at_call 74; refine (isDigit_any _ _).mono ?_; rintro e w' ⟨rfl, rfl⟩))
        · go_ret
          exact ⟨ret_bool (by rw [HV.out, HN.out (by rw [if_neg hk0, smC, HLD.out.1, HLD.out.2]; rfl)]; simp), rfl⟩
        all_goals
          refine ⟨⟨k + 1, by omega, by go_num, ?_⟩, by simp [intOf]; omega⟩
          rw [HT.out, HP.out, if_neg hk0, smC, HLD.out.1, HLD.out.2]; rfl
    · go_wp2_with (first | (go_at_call 99; refine (within_any _ _ _ _).mono ?_; rintro e w' ⟨rfl, rfl⟩))
      go_ret
      exact ⟨ret_bool (by have := HP.out; rw [take_all _ _ (by omega)] at this; rw [HV.out, this]; simp), rfl⟩
def keyS : List ByteArray := keyW.map fun l => ⟨l.toArray⟩
theorem key_contains (x : ByteArray) : Lib.containsS (keyS.take 8) x = keyW.contains x.data.toList := by
  rw [Bool.eq_iff_iff, Lib.containsS_iff, List.contains_iff_mem, show keyS.take 8 = keyS from rfl, keyS, List.mem_map]
  constructor
  · rintro ⟨l, h, rfl⟩; exact h
  · intro h; exact ⟨_, h, rfl⟩
theorem key_cells (w : World) (t : TypeId) (j : Nat) (hj : j < keyS.length) :
    (w.alloc (.cells #[.string ⟨#[116, 114, 117, 101]⟩, .string ⟨#[102, 97, 108, 115, 101]⟩, .string ⟨#[116, 114, 117, 116, 104]⟩, .string ⟨#[98, 111, 116, 104]⟩, .string ⟨#[101, 105, 116, 104, 101, 114]⟩, .string ⟨#[105, 102]⟩, .string ⟨#[97, 108, 108]⟩, .string ⟨#[115, 111, 109, 101]⟩] t)).cell? ⟨w.heap.size, 0 + j, none⟩ = some (.string (keyS.getD j ByteArray.empty)) := by
  have hj8 : j < 8 := hj
  rw [Nat.zero_add, World.cell?_alloc_new]
  match j, hj8 with
  | 0, _ => rfl
  | 1, _ => rfl
  | 2, _ => rfl
  | 3, _ => rfl
  | 4, _ => rfl
  | 5, _ => rfl
  | 6, _ => rfl
  | 7, _ => rfl
theorem reserved_any (w : World) : Calls Tryz.prog 131 #[] w fun e w' => e = .returned (.slice (some ⟨w.heap.size, 0, none⟩) 8 8) ∧ w.alloc (.cells #[.string ⟨#[116, 114, 117, 101]⟩, .string ⟨#[102, 97, 108, 115, 101]⟩, .string ⟨#[116, 114, 117, 116, 104]⟩, .string ⟨#[98, 111, 116, 104]⟩, .string ⟨#[101, 105, 116, 104, 101, 114]⟩, .string ⟨#[105, 102]⟩, .string ⟨#[97, 108, 108]⟩, .string ⟨#[115, 111, 109, 101]⟩] 9) = w' := by
  go_enter Tryz.func131, Tryz.ntmps131
  go_wp2
  go_ret
  exact ⟨rfl, rfl⟩
set_option maxHeartbeats 1600000 in
theorem isSymbol_any (s : ByteArray) (w : World) (hs : s.size ≤ maxLen) :
    Calls Tryz.prog 102 #[.string s] w fun e w' => e = .returned (.bool (symB s.data.toList)) ∧ Below w.heap.size w w' := by
  unfold maxLen at hs
  have HV := Lib.hid (show symB s.data.toList = (inB (s.size : Int) 1 6 && headTail loC unC s.data.toList && !keyW.contains s.data.toList) by
    unfold symB inB; rw [← size_list]
    congr 2
    rw [Bool.eq_iff_iff]; simp; omega)
  go_enter Tryz.func102, Tryz.ntmps102
  go_wp2
  go_loop [6] (fun i => ∃ k : Nat, k ≤ s.size ∧ i = .int .i64 k ∧ headTail loC unC (s.data.toList.take k) = true) (fun i => s.size - (intOf i).toNat)
  case atStart => exact ⟨0, Nat.zero_le _, rfl, rfl⟩
  case round =>
    obtain ⟨k, hk, rfl, hp⟩ := hrel
    have HP := Lib.hid hp; clear hp
    by_cases hlt : k < s.size
    · have HT := Lib.hid (headTail_take loC unC s k hlt)
      have HN := Lib.hid (headTail_no loC unC s k hlt)
      by_cases hk0 : k = 0
      · subst hk0
        cases hL : loC s[0]
        all_goals
          have HL := Lib.hid hL
          go_wp2_with (first | (go_at_call 72; refine (isLower_any _ _).mono ?_; rintro e w' ⟨rfl, rfl⟩) | (go_at_call 74; refine (isDigit_any _ _).mono ?_; rintro e w' ⟨rfl, rfl⟩))
        · go_ret
          exact ⟨ret_bool (by rw [HV.out, HN.out (by simpa using HL.out)]; simp), Below.refl _ _⟩
        · refine ⟨⟨1, by omega, by go_num, ?_⟩, by simp [intOf]; omega⟩
          rw [HT.out, HP.out]; simpa using HL.out
      · have hk1 : 0 < (k : Int) := by omega
        have hk2 : ((k : Int) == 0) = false := by simp; omega
        have HU := Lib.hid (show unC s[k] = ((loC s[k] || diC s[k]) || (s[k] == 95)) from rfl)
        by_cases h9 : s[k] = 95
        · have H9 := Lib.hid h9
          have h91 : ((s[k].toNat : Int) != 95) = false := by rw [h9]; rfl
          have h92 : ((s[k].toNat : Int) == 95) = true := by rw [h9]; rfl
          clear h9
          cases hL : loC s[k] <;> cases hD : diC s[k]
          all_goals
            have HLD := Lib.hid (And.intro hL hD)
            go_wp2_with (first | (go_at_call 72; refine (isLower_any _ _).mono ?_; rintro e w' ⟨rfl, rfl⟩) | (go_at_call 74; refine (isDigit_any _ _).mono ?_; rintro e w' ⟨rfl, rfl⟩))
            refine ⟨⟨k + 1, by omega, by go_num, ?_⟩, by simp [intOf]; omega⟩
            rw [HT.out, HP.out, if_neg hk0, HU.out, HLD.out.1, HLD.out.2, H9.out]; rfl
        · have H9 := Lib.hid (show (s[k] == 95) = false by simpa using h9)
          have h9n : ¬ (s[k].toNat : Int) = 95 := fun e => h9 (UInt8.toNat_inj.1 (show s[k].toNat = 95 by omega))
          have h91 : ((s[k].toNat : Int) != 95) = true := by simpa using h9n
          have h92 : ((s[k].toNat : Int) == 95) = false := by simpa using h9n
          clear h9 h9n
          cases hL : loC s[k] <;> cases hD : diC s[k]
          all_goals
            have HLD := Lib.hid (And.intro hL hD)
            go_wp2_with (first | (go_at_call 72; refine (isLower_any _ _).mono ?_; rintro e w' ⟨rfl, rfl⟩) | (go_at_call 74; refine (isDigit_any _ _).mono ?_; rintro e w' ⟨rfl, rfl⟩))
          · go_ret
            exact ⟨ret_bool (by rw [HV.out, HN.out (by rw [if_neg hk0, HU.out, HLD.out.1, HLD.out.2, H9.out]; rfl)]; simp), Below.refl _ _⟩
          all_goals
            refine ⟨⟨k + 1, by omega, by go_num, ?_⟩, by simp [intOf]; omega⟩
            rw [HT.out, HP.out, if_neg hk0, HU.out, HLD.out.1, HLD.out.2]; rfl
    · have HF := Lib.hid (show headTail loC unC s.data.toList = true by have := HP.out; rwa [take_all _ _ (by omega)] at this)
      cases hB : inB (s.size : Int) 1 6
      all_goals
        have HB := Lib.hid hB
        go_wp2_with (first | (go_at_call 99; refine (within_any _ _ _ _).mono ?_; rintro e w' ⟨rfl, rfl⟩) | (go_at_call 131; refine (reserved_any _).mono ?_; rintro e w' ⟨rfl, rfl⟩) | (go_at_call 130; refine (Tryz.slices_Contains_string w.heap.size 0 8 8 keyS s _ (by decide) (by decide) (key_cells w _)).mono ?_; rintro e w' ⟨rfl, rfl⟩))
        go_ret
      · exact ⟨ret_bool (by rw [HV.out, HB.out]; rfl), by exact bel⟩
      · exact ⟨ret_bool (by rw [HV.out, HB.out, HF.out, key_contains]; rfl), by exact bel⟩
theorem upC_iff (c : UInt8) : upC c = true ↔ ¬ (c.toNat : Int) < 65 ∧ ¬ 90 < (c.toNat : Int) := by
  simp only [upC, Bool.and_eq_true, decide_eq_true_eq]; omega
theorem loC_iff (c : UInt8) : loC c = true ↔ ¬ (c.toNat : Int) < 97 ∧ ¬ 122 < (c.toNat : Int) := by
  simp only [loC, Bool.and_eq_true, decide_eq_true_eq]; omega
theorem varB_eq (s : ByteArray) : varB s.data.toList = (inB (s.size : Int) 1 4 && headTail upC smC s.data.toList) := by
  unfold varB inB; rw [← size_list]
  congr 1
  rw [Bool.eq_iff_iff]; simp; omega
theorem symB_eq (s : ByteArray) : symB s.data.toList = (inB (s.size : Int) 1 6 && headTail loC unC s.data.toList && !keyW.contains s.data.toList) := by
  unfold symB inB; rw [← size_list]
  congr 2
  rw [Bool.eq_iff_iff]; simp; omega
set_option maxHeartbeats 1600000 in
theorem l2Var_any (s : ByteArray) (w : World) (hs : s.size ≤ maxLen) :
    Calls Tryz.prog 110 #[.string s] w fun e w' => e = .returned (.bool (varB s.data.toList)) ∧ w = w' := by
  unfold maxLen at hs
  have HV := Lib.hid (varB_eq s)
  cases hB : inB (s.size : Int) 1 4
  · have HB := Lib.hid hB
    go_enter Tryz.func110, Tryz.ntmps110
    go_wp2_with (first | (go_at_call 122; refine (l1In_any _ _ _ _).mono ?_; rintro e w' ⟨rfl, rfl⟩))
    go_ret
    exact ⟨ret_bool (by rw [HV.out, HB.out]; rfl), rfl⟩
  · have HB := Lib.hid hB
    have hsz : 0 < s.size := by simp only [inB, Bool.and_eq_true, decide_eq_true_eq] at hB; omega
    have H0 := Lib.hid (headTail_take upC smC s 0 hsz)
    have HN0 := Lib.hid (headTail_no upC smC s 0 hsz)
    cases hU : upC s[0]
    · have HU := Lib.hid hU
      have hor : (s[0].toNat : Int) < 65 ∨ 90 < (s[0].toNat : Int) := by
        have := (not_congr (upC_iff s[0])).1 (by rw [hU]; simp)
        omega
      rcases hor with h1 | h1
      · go_enter Tryz.func110, Tryz.ntmps110
        go_wp2_with (first | (go_at_call 122; refine (l1In_any _ _ _ _).mono ?_; rintro e w' ⟨rfl, rfl⟩))
        go_ret
        exact ⟨ret_bool (by rw [HV.out, HN0.out (by simpa using HU.out)]; simp), rfl⟩
      · have h2 : ¬ (s[0].toNat : Int) < 65 := by omega
        go_enter Tryz.func110, Tryz.ntmps110
        go_wp2_with (first | (go_at_call 122; refine (l1In_any _ _ _ _).mono ?_; rintro e w' ⟨rfl, rfl⟩))
        go_ret
        exact ⟨ret_bool (by rw [HV.out, HN0.out (by simpa using HU.out)]; simp), rfl⟩
    · have HU := Lib.hid hU
      obtain ⟨h1, h2⟩ := (upC_iff s[0]).1 hU
      go_enter Tryz.func110, Tryz.ntmps110
      go_wp2_with (first | (go_at_call 122; refine (l1In_any _ _ _ _).mono ?_; rintro e w' ⟨rfl, rfl⟩))
      go_loop [3] (fun i => ∃ k : Nat, 1 ≤ k ∧ k ≤ s.size ∧ i = .int .i64 k ∧ headTail upC smC (s.data.toList.take k) = true) (fun i => s.size - (intOf i).toNat)
      case atStart => exact ⟨1, by omega, by omega, rfl, by rw [H0.out]; simp [HU.out, headTail]⟩
      case round =>
        obtain ⟨k, hk1, hk, rfl, hp⟩ := hrel
        have HP := Lib.hid hp; clear hp
        by_cases hlt : k < s.size
        · have HT := Lib.hid (headTail_take upC smC s k hlt)
          have HN := Lib.hid (headTail_no upC smC s k hlt)
          have hk0 : ¬ k = 0 := by omega
          cases hL : smC s[k]
          all_goals
            have HL := Lib.hid hL
            go_wp2_with (first | (go_at_call 123; refine (l2Small_any _ _).mono ?_; rintro e w' ⟨rfl, rfl⟩))
          · go_ret
            exact ⟨ret_bool (by rw [HV.out, HN.out (by rw [if_neg hk0, HL.out])]; simp), rfl⟩
          · refine ⟨⟨k + 1, by omega, by omega, by go_num, ?_⟩, by simp [intOf]; omega⟩
            rw [HT.out, HP.out, if_neg hk0, HL.out]; rfl
        · go_wp2
          go_ret
          exact ⟨ret_bool (by have := HP.out; rw [take_all _ _ (by omega)] at this; rw [HV.out, this, HB.out]; rfl), rfl⟩
theorem key_no {s : ByteArray} (h : keyW.contains s.data.toList = false) : ∀ l ∈ keyW, (s.toList == l) = false := by
  intro l hl
  rw [beq_eq_false_iff_ne, ByteArray.toList_eq]
  rintro rfl
  rw [← Bool.not_eq_true, List.contains_iff_mem] at h
  exact h hl
theorem key_yes {s : ByteArray} (h : keyW.contains s.data.toList = true) : s.toList ∈ keyW := by
  rw [ByteArray.toList_eq]; exact List.contains_iff_mem.1 h
set_option maxHeartbeats 1600000 in
theorem l2Symbol_any (s : ByteArray) (w : World) (hs : s.size ≤ maxLen) :
    Calls Tryz.prog 89 #[.string s] w fun e w' => e = .returned (.bool (symB s.data.toList)) ∧ w = w' := by
  unfold maxLen at hs
  have HV := Lib.hid (symB_eq s)
  cases hB : inB (s.size : Int) 1 6
  · have HB := Lib.hid hB
    go_enter Tryz.func89, Tryz.ntmps89
    go_wp2_with (first | (go_at_call 122; refine (l1In_any _ _ _ _).mono ?_; rintro e w' ⟨rfl, rfl⟩))
    go_ret
    exact ⟨ret_bool (by rw [HV.out, HB.out]; rfl), rfl⟩
  · have HB := Lib.hid hB
    have hsz : 0 < s.size := by simp only [inB, Bool.and_eq_true, decide_eq_true_eq] at hB; omega
    have H0 := Lib.hid (headTail_take loC unC s 0 hsz)
    have HN0 := Lib.hid (headTail_no loC unC s 0 hsz)
    cases hU : loC s[0]
    · have HU := Lib.hid hU
      have hor : (s[0].toNat : Int) < 97 ∨ 122 < (s[0].toNat : Int) := by
        have := (not_congr (loC_iff s[0])).1 (by rw [hU]; simp)
        omega
      rcases hor with h1 | h1
      · go_enter Tryz.func89, Tryz.ntmps89
        go_wp2_with (first | (go_at_call 122; refine (l1In_any _ _ _ _).mono ?_; rintro e w' ⟨rfl, rfl⟩))
        go_ret
        exact ⟨ret_bool (by rw [HV.out, HN0.out (by simpa using HU.out)]; simp), rfl⟩
      · have h2 : ¬ (s[0].toNat : Int) < 97 := by omega
        go_enter Tryz.func89, Tryz.ntmps89
        go_wp2_with (first | (go_at_call 122; refine (l1In_any _ _ _ _).mono ?_; rintro e w' ⟨rfl, rfl⟩))
        go_ret
        exact ⟨ret_bool (by rw [HV.out, HN0.out (by simpa using HU.out)]; simp), rfl⟩
    · have HU := Lib.hid hU
      obtain ⟨h1, h2⟩ := (loC_iff s[0]).1 hU
      cases hK : keyW.contains s.data.toList
      · have HK := Lib.hid hK
        have k0 : (s.toList == [116, 114, 117, 101]) = false := key_no HK.out _ (by decide)
        have k1 : (s.toList == [102, 97, 108, 115, 101]) = false := key_no HK.out _ (by decide)
        have k2 : (s.toList == [116, 114, 117, 116, 104]) = false := key_no HK.out _ (by decide)
        have k3 : (s.toList == [98, 111, 116, 104]) = false := key_no HK.out _ (by decide)
        have k4 : (s.toList == [101, 105, 116, 104, 101, 114]) = false := key_no HK.out _ (by decide)
        have k5 : (s.toList == [105, 102]) = false := key_no HK.out _ (by decide)
        have k6 : (s.toList == [97, 108, 108]) = false := key_no HK.out _ (by decide)
        have k7 : (s.toList == [115, 111, 109, 101]) = false := key_no HK.out _ (by decide)
        go_enter Tryz.func89, Tryz.ntmps89
        go_wp2_with (first | (go_at_call 122; refine (l1In_any _ _ _ _).mono ?_; rintro e w' ⟨rfl, rfl⟩))
        go_loop [3] (fun i => ∃ k : Nat, 1 ≤ k ∧ k ≤ s.size ∧ i = .int .i64 k ∧ headTail loC unC (s.data.toList.take k) = true) (fun i => s.size - (intOf i).toNat)
        case atStart => exact ⟨1, by omega, by omega, rfl, by rw [H0.out]; simp [HU.out, headTail]⟩
        case round =>
          obtain ⟨k, hk1, hk, rfl, hp⟩ := hrel
          have HP := Lib.hid hp; clear hp
          by_cases hlt : k < s.size
          · have HT := Lib.hid (headTail_take loC unC s k hlt)
            have HN := Lib.hid (headTail_no loC unC s k hlt)
            have hk0 : ¬ k = 0 := by omega
            have HUN := Lib.hid (show unC s[k] = (smC s[k] || (s[k] == 95)) from rfl)
            cases hL : smC s[k]
            · have HL := Lib.hid hL
              by_cases h9 : s[k] = 95
              · have H9 := Lib.hid h9
                have h91 : ((s[k].toNat : Int) != 95) = false := by rw [h9]; rfl
                clear h9
                go_wp2_with (first | (go_at_call 123; refine (l2Small_any _ _).mono ?_; rintro e w' ⟨rfl, rfl⟩))
                refine ⟨⟨k + 1, by omega, by omega, by go_num, ?_⟩, by simp [intOf]; omega⟩
                rw [HT.out, HP.out, if_neg hk0, HUN.out, H9.out]; rfl
              · have H9 := Lib.hid (show (s[k] == 95) = false by simpa using h9)
                have h91 : ((s[k].toNat : Int) != 95) = true := by
                  have h9n : ¬ (s[k].toNat : Int) = 95 := fun e => h9 (UInt8.toNat_inj.1 (show s[k].toNat = 95 by omega))
                  simpa using h9n
                clear h9
                go_wp2_with (first | (go_at_call 123; refine (l2Small_any _ _).mono ?_; rintro e w' ⟨rfl, rfl⟩))
                go_ret
                exact ⟨ret_bool (by rw [HV.out, HN.out (by rw [if_neg hk0, HUN.out, HL.out, H9.out]; rfl)]; simp), rfl⟩
            · have HL := Lib.hid hL
              go_wp2_with (first | (go_at_call 123; refine (l2Small_any _ _).mono ?_; rintro e w' ⟨rfl, rfl⟩))
              refine ⟨⟨k + 1, by omega, by omega, by go_num, ?_⟩, by simp [intOf]; omega⟩
              rw [HT.out, HP.out, if_neg hk0, HUN.out, HL.out]; rfl
          · go_wp2
            go_ret
            exact ⟨ret_bool (by have := HP.out; rw [take_all _ _ (by omega)] at this; rw [HV.out, this, HB.out, HK.out]; rfl), rfl⟩
      · have HK := Lib.hid hK
        have hmem := key_yes hK
        simp only [keyW, List.mem_cons, List.not_mem_nil, or_false] at hmem
        rcases hmem with h | h | h | h | h | h | h | h
        all_goals
          go_enter Tryz.func89, Tryz.ntmps89
          go_wp2_with (first | (go_at_call 122; refine (l1In_any _ _ _ _).mono ?_; rintro e w' ⟨rfl, rfl⟩))
          go_ret
          exact ⟨ret_bool (by rw [HV.out, HK.out]; simp), rfl⟩
end Go.Proofs.YtkgfanajgdelcaaGreat
