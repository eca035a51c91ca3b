/- Names of variables and symbols, the reference's side. Conditions: sizes. -/
import Derived.Laws.OwnMore
import Derived.Laws.Bits64b
import Derived.OwnWalk
import Derived.Deep.RegionHeld3
import Derived.Test.YtcegllnljaapiaaGreatDoorAste1
namespace Go.Proofs.YtcegllnljaapiaaGreatDoor
open Go.RowKit
/-! ### Texts -/
def sEquals : List UInt8 := [32, 101, 113, 117, 97, 108, 115, 32]
def sHolds : List UInt8 := [32, 104, 111, 108, 100, 115]
def sHoldsOf : List UInt8 := [32, 104, 111, 108, 100, 115, 32, 111, 102, 32]
def sComma : List UInt8 := [44, 32]
def sTruth : List UInt8 := [116, 114, 117, 116, 104, 32, 104, 111, 108, 100, 115]
def sFalsity : List UInt8 := [102, 97, 108, 115, 105, 116, 121, 32, 104, 111, 108, 100, 115]
def sNot : List UInt8 := [105, 116, 32, 105, 115, 32, 110, 111, 116, 32, 116, 104, 101, 32, 99, 97, 115, 101, 32, 116, 104, 97, 116, 32]
def sBoth : List UInt8 := [98, 111, 116, 104, 32]
def sAnd : List UInt8 := [32, 97, 110, 100, 32]
def sEither : List UInt8 := [101, 105, 116, 104, 101, 114, 32]
def sOr : List UInt8 := [32, 111, 114, 32]
def sIf : List UInt8 := [105, 102, 32]
def sThen : List UInt8 := [32, 116, 104, 101, 110, 32]
def sEvery : List UInt8 := [102, 111, 114, 32, 101, 118, 101, 114, 121, 32]
def sThere : List UInt8 := [116, 104, 101, 114, 101, 32, 105, 115, 32]
def sSuch : List UInt8 := [32, 115, 117, 99, 104, 32, 116, 104, 97, 116, 32]
def Tm.eng (t : Tm) : List UInt8 :=
  if t.n.data.toList = [61] then (match Tm.fmtL t.us with | a :: b :: _ => a ++ sEquals ++ b | _ => [])
  else if t.us.isEmpty then t.n.data.toList ++ sHolds
  else t.n.data.toList ++ sHoldsOf ++ joinB sComma (Tm.fmtL t.us)
mutual
def Fm.eng : Fm → List UInt8
  | .mk op a v ps =>
    if op = 1 then sTruth else if op = 2 then sFalsity else if op = 3 then a.eng
    else if op = 4 then sNot ++ Fm.engN 0 ps
    else if op = 5 then sBoth ++ Fm.engN 0 ps ++ sAnd ++ Fm.engN 1 ps
    else if op = 6 then sEither ++ Fm.engN 0 ps ++ sOr ++ Fm.engN 1 ps
    else if op = 7 then sIf ++ Fm.engN 0 ps ++ sThen ++ Fm.engN 1 ps
    else if op = 8 then sEvery ++ v.data.toList ++ sComma ++ Fm.engN 0 ps
    else sThere ++ v.data.toList ++ sSuch ++ Fm.engN 0 ps
/-- The English of the n-th part. -/
def Fm.engN : Nat → List Fm → List UInt8
  | _, [] => []
  | 0, f :: _ => f.eng
  | n + 1, _ :: fs => Fm.engN n fs
end
end Go.Proofs.YtcegllnljaapiaaGreatDoor
namespace Go.Proofs.YtcegllnljaapiaaGreatDoor
open Go.RowKit
def wordC (c : UInt8) : Bool := loC c || upC c || diC c || c == 95
def eqTm (a b : Tm) : Tm := .mk ⟨#[61]⟩ [a, b]
def tm0 : Tm := .mk ⟨#[]⟩ []
def atomOfF (t : Tm) : Fm := .mk 3 t ⟨#[]⟩ []
def opF (op : Int) (ps : List Fm) : Fm := .mk op tm0 ⟨#[]⟩ ps
def quantF (op : Int) (v : List UInt8) (f : Fm) : Fm := .mk op tm0 ⟨v.toArray⟩ [f]
/-! ### What is written is read back -/
theorem headTail_all {p q r : UInt8 → Bool} {l : List UInt8} (h : headTail p q l = true) (hp : ∀ c, p c = true → r c = true) (hq : ∀ c, q c = true → r c = true) : l.all r = true := by
  cases l with
  | nil => rfl
  | cons c l =>
    simp only [headTail, Bool.and_eq_true, List.all_cons, List.all_eq_true] at h ⊢
    exact ⟨hp c h.1, fun x hx => hq x (h.2 x hx)⟩
theorem varB_word {l : List UInt8} (h : varB l = true) : l.all wordC = true ∧ l ≠ [] := by
  simp only [varB, Bool.and_eq_true, decide_eq_true_eq] at h
  refine ⟨headTail_all h.2 (fun c hc => by simp [wordC, hc]) (fun c hc => ?_), fun e => by rw [e] at h; simp at h⟩
  simp only [smC, Bool.or_eq_true] at hc
  rcases hc with hc | hc <;> simp [wordC, hc]
theorem symB_word {l : List UInt8} (h : symB l = true) : l.all wordC = true ∧ l ≠ [] := by
  simp only [symB, Bool.and_eq_true, decide_eq_true_eq] at h
  refine ⟨headTail_all h.1.2 (fun c hc => by simp [wordC, hc]) (fun c hc => ?_), fun e => by rw [e] at h; simp at h⟩
  simp only [unC, smC, Bool.or_eq_true] at hc
  rcases hc with (hc | hc) | hc
  · simp [wordC, hc]
  · simp [wordC, hc]
  · simp only [wordC, hc, Bool.or_true]
theorem Tm.nodes_mk {n : ByteArray} {us : List Tm} (h : (Tm.mk n us).nodes = true) : (n.data.toList.all wordC = true ∧ n.data.toList ≠ []) ∧ Tm.nodess us = true := by
  rw [Tm.nodes] at h
  split at h
  · rename_i hv
    cases us with
    | nil => exact ⟨varB_word hv, rfl⟩
    | cons a us => simp at h
  · simp only [Bool.and_eq_true] at h
    exact ⟨symB_word h.1.1, h.2⟩
theorem word_not61 {l : List UInt8} (h : l.all wordC = true ∧ l ≠ []) : l ≠ [61] := by
  rintro rfl; exact absurd h.1 (by decide)
theorem Tm.fmt_mk {n : ByteArray} {us : List Tm} (h : n.data.toList ≠ [61]) : (Tm.mk n us).fmt = if us.isEmpty then n.data.toList else n.data.toList ++ [40] ++ joinB [44] (Tm.fmtL us) ++ [41] := by
  cases us <;> simp only [Tm.fmt, if_neg h] <;> rfl
end Go.Proofs.YtcegllnljaapiaaGreatDoor
namespace Go.Proofs.YtcegllnljaapiaaGreatDoor
open Go.RowKit
def NewB (w w' : World) (b : Nat) : Prop := w.heap.size ≤ b ∧ b < w'.heap.size
end Go.Proofs.YtcegllnljaapiaaGreatDoor
namespace Go.Proofs.YtcegllnljaapiaaGreatDoor
open Go.RowKit
/-- The forms of a formula all of whose parts have a form. -/
inductive FormC : Fm → Prop
  | tru : FormC (opF 1 [])
  | fal : FormC (opF 2 [])
  | atm (a : Tm) : a.atom = true → FormC (atomOfF a)
  | neg (g : Fm) : g.form = true → FormC (opF 4 [g])
  | bin (op : Int) (g h : Fm) : (op = 5 ∨ op = 6 ∨ op = 7) → g.form = true → h.form = true → FormC (opF op [g, h])
  | qua (op : Int) (v : List UInt8) (g : Fm) : (op = 8 ∨ op = 9) → varB v = true → g.form = true → FormC (quantF op v g)
theorem ba_nil {v : ByteArray} (h : v.data.toList.isEmpty = true) : v = ⟨#[]⟩ := by
  apply ByteArray.ext; apply Array.ext'; simpa using h
theorem ba_eq (v : ByteArray) : (⟨v.data.toList.toArray⟩ : ByteArray) = v := by apply ByteArray.ext; simp
theorem tm_none {a : Tm} (h : a.none = true) : a = tm0 := by
  obtain ⟨n, us⟩ := a
  simp only [Tm.none, Bool.and_eq_true] at h
  have h1 : n = ⟨#[]⟩ := ba_nil h.1
  have h2 : us = [] := by simpa [Tm.us] using h.2
  rw [h1, h2]; rfl
theorem len_one {α : Type} {l : List α} (h : l.length = 1) : ∃ a, l = [a] := by
  match l, h with
  | [a], _ => exact ⟨a, rfl⟩
theorem len_two {α : Type} {l : List α} (h : l.length = 2) : ∃ a b, l = [a, b] := by
  match l, h with
  | [a, b], _ => exact ⟨a, b, rfl⟩
theorem form_cases {F : Fm} (h : F.form = true) : FormC F := by
  obtain ⟨op, a, v, ps⟩ := F
  rw [Fm.form, Bool.and_eq_true] at h
  obtain ⟨h1, h2⟩ := h
  simp only [Fm.form1, Fm.op, Fm.ps, Fm.v, Fm.a, Bool.and_eq_true, beq_iff_eq] at h1
  obtain ⟨⟨h3, h4⟩, h5⟩ := h1
  unfold arity at h3
  split at h3
  · rename_i ho
    have hp : ps = [] := List.length_eq_zero_iff.1 (Option.some.inj h3).symm
    subst hp
    have h4' : v.data.toList.isEmpty = true := by rcases ho with rfl | rfl | rfl <;> exact h4
    have hv := ba_nil h4'
    subst hv
    rcases ho with rfl | rfl | rfl
    · have h6 : a.none = true := h5
      rw [tm_none h6]; exact .tru
    · have h6 : a.none = true := h5
      rw [tm_none h6]; exact .fal
    · exact .atm a h5
  · split at h3
    · rename_i ho
      obtain ⟨g, rfl⟩ : ∃ g, ps = [g] := len_one (Option.some.inj h3).symm
      have hg : g.form = true := by simpa [Fm.forms] using h2
      have h5' : a.none = true := by rcases ho with rfl | rfl | rfl <;> exact h5
      rw [tm_none h5']
      rcases ho with rfl | ho
      · have h6 : v.data.toList.isEmpty = true := h4
        rw [ba_nil h6]; exact .neg g hg
      · have h4' : varB v.data.toList = true := by rcases ho with rfl | rfl <;> exact h4
        have := FormC.qua op v.data.toList g ho h4' hg
        rw [quantF, ba_eq] at this; exact this
    · split at h3
      · rename_i ho
        obtain ⟨g, g', rfl⟩ : ∃ g g', ps = [g, g'] := len_two (Option.some.inj h3).symm
        have hg : g.form = true ∧ g'.form = true := by simpa [Fm.forms] using h2
        have h5' : a.none = true := by rcases ho with rfl | rfl | rfl <;> exact h5
        have h4' : v.data.toList.isEmpty = true := by rcases ho with rfl | rfl | rfl <;> exact h4
        rw [tm_none h5', ba_nil h4']; exact .bin op g g' ho hg.1 hg.2
      · cases h3
/-- The forms of an atom. -/
inductive AtomC : Tm → Prop
  | eq (a b : Tm) : a.nodes = true → b.nodes = true → AtomC (eqTm a b)
  | pred (n : ByteArray) (us : List Tm) : symB n.data.toList = true → Tm.nodess us = true → (Tm.mk n us).nodes = true → AtomC (.mk n us)
theorem atom_cases {t : Tm} (h : t.atom = true) : AtomC t := by
  obtain ⟨n, us⟩ := t
  rw [Tm.atom] at h
  split at h
  · rename_i hq
    simp only [Bool.and_eq_true, decide_eq_true_eq] at h
    have hus : us.length = 2 := h.1.1
    obtain ⟨a, b, rfl⟩ := len_two hus
    have hn : n = ⟨#[61]⟩ := by
      apply ByteArray.ext; apply Array.ext'
      simpa [isEq, Tm.n] using hq
    subst hn
    have this : Tm.nodess [a, b] = true := h.2
    simp only [Tm.nodess, Bool.and_eq_true, Bool.and_true] at this
    exact .eq a b this.1 this.2
  · simp only [Bool.and_eq_true, Tm.good, Tm.n] at h
    have hs := h.1
    have hd := h.2.2
    refine .pred n us hs ?_ hd
    exact (Tm.nodes_mk hd).2
theorem eng_eq (a b : Tm) : (eqTm a b).eng = a.fmt ++ sEquals ++ b.fmt := by
  rw [eqTm, Tm.eng, if_pos (by rfl)]; rfl
theorem eng_pred {n : ByteArray} {us : List Tm} (h : symB n.data.toList = true) : (Tm.mk n us).eng = if us.isEmpty then n.data.toList ++ sHolds else n.data.toList ++ sHoldsOf ++ joinB sComma (Tm.fmtL us) := by
  rw [Tm.eng, if_neg (show ¬ (Tm.mk n us).n.data.toList = [61] from word_not61 (symB_word h))]; rfl
end Go.Proofs.YtcegllnljaapiaaGreatDoor
namespace Go.Proofs.YtcegllnljaapiaaGreatDoor
open Go.RowKit
def inB (n a b : Int) : Bool := decide (a ≤ n) && decide (n ≤ b)
theorem within_any (n a b : Int) (w : World) :
    Calls Tryz.prog 54 #[.int .i64 n, .int .i64 a, .int .i64 b] w fun e w' => e = .returned (.bool (inB n a b)) ∧ w = w' := by
  by_cases h1 : a ≤ n <;> by_cases h2 : n ≤ b
  all_goals
    go_enter Tryz.func54, Tryz.ntmps54
    go_wp2
    go_ret
    exact ⟨ret_bool (by simp [inB, h1, h2]), rfl⟩
theorem l1In_any (n a b : Int) (w : World) :
    Calls Tryz.prog 48 #[.int .i64 n, .int .i64 a, .int .i64 b] w fun e w' => e = .returned (.bool (inB n a b)) ∧ w = w' := by
  by_cases h1 : a ≤ n <;> by_cases h2 : n ≤ b
  all_goals
    go_enter Tryz.func48, Tryz.ntmps48
    go_wp2
    go_ret
    exact ⟨ret_bool (by simp [inB, h1, h2]), rfl⟩
/-- A digit's sign. -/
def digB (d : Nat) : UInt8 := UInt8.ofNat (48 + d)
theorem itoa_small (n : Int) (h0 : 0 ≤ n) (h : n < 10) : Lib.itoa n = [digB n.toNat] := by
  rw [Lib.itoa, if_neg (by omega), Lib.decDigits, dif_pos (by omega)]; rfl
theorem itoa_step (n : Int) (h : 10 ≤ n) : Lib.itoa n = Lib.itoa (n / 10) ++ [digB (n % 10).toNat] := by
  rw [Lib.itoa, if_neg (by omega), Lib.decDigits, dif_neg (by omega), Lib.itoa, if_neg (by omega)]
  have h1 : n.toNat / 10 = (n / 10).toNat := by omega
  have h2 : n.toNat % 10 = (n % 10).toNat := by omega
  rw [h1, h2]; rfl
theorem decDigits_len (f : Nat) : ∀ n : Nat, n < 10 ^ (f + 1) → (Lib.decDigits n).length ≤ f + 1 := by
  induction f with
  | zero => intro n h; rw [Lib.decDigits, dif_pos (by simpa using h)]; simp
  | succ f ih =>
    intro n h
    rw [Lib.decDigits]
    split
    · simp
    · rw [List.length_append]
      have := ih (n / 10) (Nat.div_lt_of_lt_mul (by rw [Nat.pow_succ] at h; rw [Nat.mul_comm]; exact h))
      simp only [List.length_cons, List.length_nil]; omega
theorem itoa_len (n : Int) (h0 : -9223372036854775808 ≤ n) (h1 : n ≤ 9223372036854775807) : (Lib.itoa n).length ≤ 20 := by
  unfold Lib.itoa
  split
  · have := decDigits_len 18 n.natAbs (by omega)
    rw [List.length_cons]; omega
  · have := decDigits_len 18 n.toNat (by omega)
    omega
theorem digit_slice (d : Nat) (h : d < 10) : (⟨#[48, 49, 50, 51, 52, 53, 54, 55, 56, 57]⟩ : ByteArray).extract d (d + 1) = ⟨#[digB d]⟩ := by
  have : ∀ e : Fin 10, (⟨#[48, 49, 50, 51, 52, 53, 54, 55, 56, 57]⟩ : ByteArray).extract e.val (e.val + 1) = ⟨#[digB e.val]⟩ := by decide +kernel
  exact this ⟨d, h⟩
set_option maxHeartbeats 400000 in
theorem l1Num_nat (f : Nat) : ∀ (n : Int) (w : World), 0 ≤ n → n < 10 ^ (f + 1) → n ≤ 9223372036854775807 →
    Calls Tryz.prog 126 #[.int .i64 n] w fun e w' => e = .returned (.string ⟨(Lib.itoa n).toArray⟩) ∧ Drew w w' := by
  induction f with
  | zero =>
    intro n w h0 hf _
    have hn : n < 10 := by simpa using hf
    have HD := Lib.hid (digit_slice n.toNat (by omega))
    have HI := Lib.hid (itoa_small n h0 hn)
    have HC : n.toNat + 1 = (n + 1).toNat := by omega
    clear hf
    go_enter Tryz.func126, Tryz.ntmps126
    go_wp2
    go_ret
    refine ⟨?_, Drew.refl _⟩
    show Ending.returned (Value.string (ByteArray.extract _ _ _)) = _
    rw [← HC, HD.out, HI.out]
  | succ f ih =>
    intro n w h0 hf h63
    by_cases hn : n < 10
    · have HD := Lib.hid (digit_slice n.toNat (by omega))
      have HI := Lib.hid (itoa_small n h0 hn)
      have HC : n.toNat + 1 = (n + 1).toNat := by omega
      clear hf
      go_enter Tryz.func126, Tryz.ntmps126
      go_wp2
      go_ret
      refine ⟨?_, Drew.refl _⟩
      show Ending.returned (Value.string (ByteArray.extract _ _ _)) = _
      rw [← HC, HD.out, HI.out]
    · have HI := Lib.hid (itoa_step n (by omega))
      have h10 : n / 10 < 10 ^ (f + 1) := Int.ediv_lt_of_lt_mul (by omega) (by rw [Int.pow_succ] at hf; exact hf)
      have IH := Lib.hid fun w => ih (n / 10) w (by omega) h10 (by omega)
      have HD : (⟨#[48, 49, 50, 51, 52, 53, 54, 55, 56, 57]⟩ : ByteArray).extract (n % 10).toNat (n % 10 + 1).toNat = ⟨#[digB (n % 10).toNat]⟩ := by
        rw [show (n % 10 + 1).toNat = (n % 10).toNat + 1 by omega]; exact digit_slice _ (by omega)
      have HL : ¬ 9223372036854775807 < (Lib.itoa (n / 10)).length + 1 := by have := itoa_len (n / 10) (by omega) (by omega); omega
      have hm0 : 0 ≤ n % 10 := by omega
      have hm1 : n % 10 < 10 := by omega
      have q1 : IntKind.i64.wrap (n.tdiv 10) = n / 10 := by rw [Int.tdiv_eq_ediv_of_nonneg h0]; exact IntWalk.i64_in _ (by omega)
      have q2 : n.tmod 10 = n % 10 := Int.tmod_eq_emod_of_nonneg h0
      have q3 : IntKind.i64.wrap (n % 10 + 1) = n % 10 + 1 := IntWalk.i64_in _ (by omega)
      have b0 : 0 ≤ n % 10 + 1 := by omega
      have b1 : n % 10 + 1 ≤ 10 := by omega
      have b2 : n % 10 ≤ n % 10 + 1 := by omega
      clear ih hf h10
      go_enter Tryz.func126, Tryz.ntmps126
      go_wp2_with fail
      go_quiet ((go_at_call 126; exact Drew.quiet (IH.out _)))
      go_wp2
      go_ret
      refine ⟨?_, _, rfl⟩
      show Ending.returned (Value.string (_ ++ _)) = _
      rw [HI.out, bytes_append]
theorem l1Num_any (n : Int) (w : World) (h0 : 0 ≤ n) (h1 : n ≤ 9223372036854775807) :
    Calls Tryz.prog 126 #[.int .i64 n] w fun e w' => e = .returned (.string ⟨(Lib.itoa n).toArray⟩) ∧ Drew w w' :=
  l1Num_nat 18 n w h0 (by omega) h1
end Go.Proofs.YtcegllnljaapiaaGreatDoor
namespace Go.Proofs.YtcegllnljaapiaaGreatDoor
open Go.RowKit
theorem isLower_any (c : UInt8) (w : World) : Calls Tryz.prog 173 #[.int .u8 (c.toNat : Int)] w fun e w' => e = .returned (.bool (loC c)) ∧ w = w' := by
  go_enter Tryz.func173, Tryz.ntmps173
  go_wp2
  all_goals go_ret
  all_goals go_light
  all_goals refine ⟨ret_bool ?_, rfl⟩
  all_goals rw [Bool.eq_iff_iff]
  all_goals simp only [loC, decide_eq_true_eq, Bool.and_eq_true, false_iff, Bool.false_eq_true, not_and]
  all_goals omega
theorem isUpper_any (c : UInt8) (w : World) : Calls Tryz.prog 221 #[.int .u8 (c.toNat : Int)] w fun e w' => e = .returned (.bool (upC c)) ∧ w = w' := by
  go_enter Tryz.func221, Tryz.ntmps221
  go_wp2
  all_goals go_ret
  all_goals go_light
  all_goals refine ⟨ret_bool ?_, rfl⟩
  all_goals rw [Bool.eq_iff_iff]
  all_goals simp only [upC, decide_eq_true_eq, Bool.and_eq_true, false_iff, Bool.false_eq_true, not_and]
  all_goals omega
theorem isDigit_any (c : UInt8) (w : World) : Calls Tryz.prog 174 #[.int .u8 (c.toNat : Int)] w fun e w' => e = .returned (.bool (diC c)) ∧ w = w' := by
  go_enter Tryz.func174, Tryz.ntmps174
  go_wp2
  all_goals go_ret
  all_goals go_light
  all_goals refine ⟨ret_bool ?_, rfl⟩
  all_goals rw [Bool.eq_iff_iff]
  all_goals simp only [diC, decide_eq_true_eq, Bool.and_eq_true, false_iff, Bool.false_eq_true, not_and]
  all_goals omega
theorem l2Small_any (c : UInt8) (w : World) : Calls Tryz.prog 180 #[.int .u8 (c.toNat : Int)] w fun e w' => e = .returned (.bool (smC c)) ∧ w = w' := by
  go_enter Tryz.func180, Tryz.ntmps180
  go_wp2
  all_goals go_ret
  all_goals go_light
  all_goals refine ⟨ret_bool ?_, rfl⟩
  all_goals rw [Bool.eq_iff_iff]
  all_goals simp only [loC, diC, smC, decide_eq_true_eq, Bool.and_eq_true, Bool.or_eq_true, true_iff, false_iff, Bool.false_eq_true, not_and, not_or]
  all_goals omega
theorem headTail_take (p q : UInt8 → Bool) (s : ByteArray) (k : Nat) (h : k < s.size) : headTail p q (s.data.toList.take (k + 1)) = (headTail p q (s.data.toList.take k) && (if k = 0 then p s[k] else q s[k])) := by
  rw [take_snoc s k h, headTail_snoc]
  by_cases hk : k = 0
  · subst hk; simp
  · rw [if_neg hk, if_neg]
    have hl : (s.data.toList.take k).length = k := by rw [List.length_take, ← size_list]; omega
    rw [List.isEmpty_iff]
    intro e; rw [e] at hl; simp at hl; omega
theorem headTail_no (p q : UInt8 → Bool) (s : ByteArray) (k : Nat) (h : k < s.size) (h2 : (if k = 0 then p s[k] else q s[k]) = false) : headTail p q s.data.toList = false := by
  have e : s.data.toList = s.data.toList.take (k + 1) ++ s.data.toList.drop (k + 1) := (List.take_append_drop _ _).symm
  have h3 := headTail_take p q s k h
  rw [h2, Bool.and_false] at h3
  rw [e]
  generalize s.data.toList.take (k + 1) = a at *
  cases a with
  | nil => simp [headTail] at h3
  | cons x a =>
    simp only [headTail, List.cons_append, List.all_append] at h3 ⊢
    rw [← Bool.and_assoc, h3, Bool.false_and]
set_option maxHeartbeats 800000 in
theorem isVariable_any (s : ByteArray) (w : World) (hs : s.size ≤ maxLen) :
    Calls Tryz.prog 164 #[.string s] w fun e w' => e = .returned (.bool (varB s.data.toList)) ∧ w = w' := by
  unfold maxLen at hs
  have HV := Lib.hid (show varB s.data.toList = (inB (s.size : Int) 1 4 && headTail upC smC s.data.toList) by
    unfold varB inB; rw [← size_list]
    congr 1
    rw [Bool.eq_iff_iff]; simp; omega)
  go_enter Tryz.func164, Tryz.ntmps164
  go_wp2
  go_loop [6] (fun i => ∃ k : Nat, k ≤ s.size ∧ i = .int .i64 k ∧ headTail upC smC (s.data.toList.take k) = true) (fun i => s.size - (intOf i).toNat)
  case atStart => exact ⟨0, Nat.zero_le _, rfl, rfl⟩
  case round =>
    obtain ⟨k, hk, rfl, hp⟩ := hrel
    have HP := Lib.hid hp; clear hp
    by_cases hlt : k < s.size
    · have HT := Lib.hid (headTail_take upC smC s k hlt)
      have HN := Lib.hid (headTail_no upC smC s k hlt)
      by_cases hk0 : k = 0
      · subst hk0
        cases hU : upC s[0]
        all_goals
          go_wp2_with (first | (go_at_call 221; refine (isUpper_any _ _).mono ?_; rintro e w' ⟨rfl, rfl⟩) | (go_at_call 173; refine (isLower_any _ _).mono ?_; rintro e w' ⟨rfl, rfl⟩) | (go_at_call 174; refine (isDigit_any _ _).mono ?_; rintro e w' ⟨rfl, rfl⟩))
        · go_ret
          exact ⟨ret_bool (by rw [HV.out, HN.out (by simpa using hU)]; simp), rfl⟩
        · refine ⟨⟨1, by omega, by go_num, ?_⟩, by simp [intOf]; omega⟩
          rw [HT.out, HP.out]; simpa using hU
      · have hk1 : 0 < (k : Int) := by omega
        have hk2 : ((k : Int) == 0) = false := by simp; omega
        cases hL : loC s[k] <;> cases hD : diC s[k]
        all_goals
          have HLD := Lib.hid (And.intro hL hD)
          go_wp2_with (first | (go_at_call 221; refine (isUpper_any _ _).mono ?_; rintro e w' ⟨rfl, rfl⟩) | (go_at_call 173; refine (isLower_any _ _).mono ?_; rintro e w' ⟨rfl, rfl⟩) | (go_at_call 174; refine (isDigit_any _ _).mono ?_; rintro e w' ⟨rfl, rfl⟩))
        · go_ret
          exact ⟨ret_bool (by rw [HV.out, HN.out (by rw [if_neg hk0, smC, HLD.out.1, HLD.out.2]; rfl)]; simp), rfl⟩
        all_goals
          refine ⟨⟨k + 1, by omega, by go_num, ?_⟩, by simp [intOf]; omega⟩
          rw [HT.out, HP.out, if_neg hk0, smC, HLD.out.1, HLD.out.2]; rfl
    · go_wp2_with (first | (go_at_call 54; refine (within_any _ _ _ _).mono ?_; rintro e w' ⟨rfl, rfl⟩))
      go_ret
      exact ⟨ret_bool (by have := HP.out; rw [take_all _ _ (by omega)] at this; rw [HV.out, this]; simp), rfl⟩
def keyS : List ByteArray := keyW.map fun l => ⟨l.toArray⟩
theorem key_contains (x : ByteArray) : Lib.containsS (keyS.take 8) x = keyW.contains x.data.toList := by
  rw [Bool.eq_iff_iff, Lib.containsS_iff, List.contains_iff_mem, show keyS.take 8 = keyS from rfl, keyS, List.mem_map]
  constructor
  · rintro ⟨l, h, rfl⟩; exact h
  · intro h; exact ⟨_, h, rfl⟩
theorem key_cells (w : World) (t : TypeId) (j : Nat) (hj : j < keyS.length) :
    (w.alloc (.cells #[.string ⟨#[116, 114, 117, 101]⟩, .string ⟨#[102, 97, 108, 115, 101]⟩, .string ⟨#[116, 114, 117, 116, 104]⟩, .string ⟨#[98, 111, 116, 104]⟩, .string ⟨#[101, 105, 116, 104, 101, 114]⟩, .string ⟨#[105, 102]⟩, .string ⟨#[97, 108, 108]⟩, .string ⟨#[115, 111, 109, 101]⟩] t)).cell? ⟨w.heap.size, 0 + j, none⟩ = some (.string (keyS.getD j ByteArray.empty)) := by
  have hj8 : j < 8 := hj
  rw [Nat.zero_add, World.cell?_alloc_new]
  match j, hj8 with
  | 0, _ => rfl
  | 1, _ => rfl
  | 2, _ => rfl
  | 3, _ => rfl
  | 4, _ => rfl
  | 5, _ => rfl
  | 6, _ => rfl
  | 7, _ => rfl
theorem reserved_any (w : World) : Calls Tryz.prog 175 #[] w fun e w' => e = .returned (.slice (some ⟨w.heap.size, 0, none⟩) 8 8) ∧ w.alloc (.cells #[.string ⟨#[116, 114, 117, 101]⟩, .string ⟨#[102, 97, 108, 115, 101]⟩, .string ⟨#[116, 114, 117, 116, 104]⟩, .string ⟨#[98, 111, 116, 104]⟩, .string ⟨#[101, 105, 116, 104, 101, 114]⟩, .string ⟨#[105, 102]⟩, .string ⟨#[97, 108, 108]⟩, .string ⟨#[115, 111, 109, 101]⟩] 9) = w' := by
  go_enter Tryz.func175, Tryz.ntmps175
  go_wp2
  go_ret
  exact ⟨rfl, rfl⟩
set_option maxHeartbeats 1600000 in
theorem isSymbol_any (s : ByteArray) (w : World) (hs : s.size ≤ maxLen) :
    Calls Tryz.prog 96 #[.string s] w fun e w' => e = .returned (.bool (symB s.data.toList)) ∧ Below w.heap.size w w' := by
  unfold maxLen at hs
  have HV := Lib.hid (show symB s.data.toList = (inB (s.size : Int) 1 6 && headTail loC unC s.data.toList && !keyW.contains s.data.toList) by
    unfold symB inB; rw [← size_list]
    congr 2
    rw [Bool.eq_iff_iff]; simp; omega)
  go_enter Tryz.func96, Tryz.ntmps96
  go_wp2
  go_loop [6] (fun i => ∃ k : Nat, k ≤ s.size ∧ i = .int .i64 k ∧ headTail loC unC (s.data.toList.take k) = true) (fun i => s.size - (intOf i).toNat)
  case atStart => exact ⟨0, Nat.zero_le _, rfl, rfl⟩
  case round =>
    obtain ⟨k, hk, rfl, hp⟩ := hrel
    have HP := Lib.hid hp; clear hp
    by_cases hlt : k < s.size
    · have HT := Lib.hid (headTail_take loC unC s k hlt)
      have HN := Lib.hid (headTail_no loC unC s k hlt)
      by_cases hk0 : k = 0
      · subst hk0
        cases hL : loC s[0]
        all_goals
          have HL := Lib.hid hL
          go_wp2_with (first | (go_at_call 173; refine (isLower_any _ _).mono ?_; rintro e w' ⟨rfl, rfl⟩) | (go_at_call 174; refine (isDigit_any _ _).mono ?_; rintro e w' ⟨rfl, rfl⟩))
        · go_ret
          exact ⟨ret_bool (by rw [HV.out, HN.out (by simpa using HL.out)]; simp), Below.refl _ _⟩
        · refine ⟨⟨1, by omega, by go_num, ?_⟩, by simp [intOf]; omega⟩
          rw [HT.out, HP.out]; simpa using HL.out
      · have hk1 : 0 < (k : Int) := by omega
        have hk2 : ((k : Int) == 0) = false := by simp; omega
        have HU := Lib.hid (show unC s[k] = ((loC s[k] || diC s[k]) || (s[k] == 95)) from rfl)
        by_cases h9 : s[k] = 95
        · have H9 := Lib.hid h9
          have h91 : ((s[k].toNat : Int) != 95) = false := by rw [h9]; rfl
          have h92 : ((s[k].toNat : Int) == 95) = true := by rw [h9]; rfl
          clear h9
          cases hL : loC s[k] <;> cases hD : diC s[k]
          all_goals
            have HLD := Lib.hid (And.intro hL hD)
            go_wp2_with (first | (go_at_call 173; refine (isLower_any _ _).mono ?_; rintro e w' ⟨rfl, rfl⟩) | (go_at_call 174; refine (isDigit_any _ _).mono ?_; rintro e w' ⟨rfl, rfl⟩))
            refine ⟨⟨k + 1, by omega, by go_num, ?_⟩, by simp [intOf]; omega⟩
            rw [HT.out, HP.out, if_neg hk0, HU.out, HLD.out.1, HLD.out.2, H9.out]; rfl
        · have H9 := Lib.hid (show (s[k] == 95) = false by simpa using h9)
          have h9n : ¬ (s[k].toNat : Int) = 95 := fun e => h9 (UInt8.toNat_inj.1 (show s[k].toNat = 95 by omega))
          have h91 : ((s[k].toNat : Int) != 95) = true := by simpa using h9n
          have h92 : ((s[k].toNat : Int) == 95) = false := by simpa using h9n
          clear h9 h9n
          cases hL : loC s[k] <;> cases hD : diC s[k]
          all_goals
            have HLD := Lib.hid (And.intro hL hD)
            go_wp2_with (first | (go_at_call 173; refine (isLower_any _ _).mono ?_; rintro e w' ⟨rfl, rfl⟩) | (go_at_call 174; refine (isDigit_any _ _).mono ?_; rintro e w' ⟨rfl, rfl⟩))
          · go_ret
            exact ⟨ret_bool (by rw [HV.out, HN.out (by rw [if_neg hk0, HU.out, HLD.out.1, HLD.out.2, H9.out]; rfl)]; simp), Below.refl _ _⟩
          all_goals
            refine ⟨⟨k + 1, by omega, by go_num, ?_⟩, by simp [intOf]; omega⟩
            rw [HT.out, HP.out, if_neg hk0, HU.out, HLD.out.1, HLD.out.2]; rfl
    · have HF := Lib.hid (show headTail loC unC s.data.toList = true by have := HP.out; rwa [take_all _ _ (by omega)] at this)
      cases hB : inB (s.size : Int) 1 6
      all_goals
        have HB := Lib.hid hB
        go_wp2_with (first | (go_at_call 54; refine (within_any _ _ _ _).mono ?_; rintro e w' ⟨rfl, rfl⟩) | (go_at_call 175; refine (reserved_any _).mono ?_; rintro e w' ⟨rfl, rfl⟩) | (go_at_call 45; refine (Tryz.slices_Contains_string w.heap.size 0 8 8 keyS s _ (by decide) (by decide) (key_cells w _)).mono ?_; rintro e w' ⟨rfl, rfl⟩))
        go_ret
      · exact ⟨ret_bool (by rw [HV.out, HB.out]; rfl), by (repeat (first | with_reducible exact Below.refl _ _ | with_reducible assumption | with_reducible refine Below.al ?_ _ | with_reducible refine Below.sc ?_ (by first | exact Nat.le_refl _ | (simp; done) | (simp; omega)) _ | assumption | exact Below.refl _ _ | refine Below.dr ?_ | refine Below.drN ?_ _ | refine Below.step ?_ (by assumption)))⟩
      · exact ⟨ret_bool (by rw [HV.out, HB.out, HF.out, key_contains]; rfl), by (repeat (first | with_reducible exact Below.refl _ _ | with_reducible assumption | with_reducible refine Below.al ?_ _ | with_reducible refine Below.sc ?_ (by first | exact Nat.le_refl _ | (simp; done) | (simp; omega)) _ | assumption | exact Below.refl _ _ | refine Below.dr ?_ | refine Below.drN ?_ _ | refine Below.step ?_ (by assumption)))⟩
end Go.Proofs.YtcegllnljaapiaaGreatDoor
namespace Go.Proofs.YtcegllnljaapiaaGreatDoor
open Go.RowKit
/-- The stages of 't.Args = append(t.Args, p.term())': i, j, k, l are the numbers of the call, the slice built, the append, the store. -/
def AppSt (T : TypeId) (_g bt : Nat) (CP : Value → World → Prop) (v : Value) (n : Nat) (W : World) (i j k : Nat) : Nat → (Nat → Value) → World → Prop
  | 0, _, w => w = W.drew
  | 1, u, w => CP (u i) w
  | 2, u, w => ∃ w1 v0 v1, CP (.agg #[v0, v1]) w1 ∧ u j = .slice (some ⟨w1.heap.size, 0, none⟩) 1 1 ∧ w = w1.alloc (.cells #[v0, v1] T)
  | 3, u, w => ∃ w1 v0 v1, CP (.agg #[v0, v1]) w1 ∧ (∀ b xs, w1.ownsRow b T 2 v n xs → b ≤ w1.heap.size → w.ownsRow b T 2 (u k) (n + 1) (xs ++ [v0, v1])) ∧ w1.grownBy w v.ownBlock ∧ NewRow v (u k) w1.heap.size ∧ w1.heap.size < w.heap.size
  | 4, u, w => ∃ w1 w3 v0 v1, CP (.agg #[v0, v1]) w1 ∧ (∀ b xs, w1.ownsRow b T 2 v n xs → b ≤ w1.heap.size → w3.ownsRow b T 2 (u k) (n + 1) (xs ++ [v0, v1])) ∧ w1.grownBy w3 v.ownBlock ∧ NewRow v (u k) w1.heap.size ∧ w1.heap.size < w3.heap.size ∧ w = w3.setCell ⟨bt, 1, none⟩ (u k)
  | _, _, _ => False
theorem AppSt.cell {T : TypeId} {g bt n i j k : Nat} {CP : Value → World → Prop} {v v' : Value} {W : World} (hG : ∀ x w', CP x w' → W.grownBy w' (some g)) (hc : W.cell? ⟨bt, 1, none⟩ = some v') (hne : bt ≠ g) {m : Nat} (hm : m ≤ 2) {u : Nat → Value} {w : World} (h : AppSt T g bt CP v n W i j k m u w) : w.cell? ⟨bt, 1, none⟩ = some v' := by
  match m, hm, h with
  | 0, _, h => obtain rfl : w = W.drew := h; exact hc
  | 1, _, h => exact grown_cell (hG _ _ h) hc (by simpa using hne)
  | 2, _, h =>
    obtain ⟨w1, v0, v1, h1, _, rfl⟩ := h
    have h2 := grown_cell (hG _ _ h1) hc (by simpa using hne)
    exact (((Below.refl w1.heap.size w1).alloc (Nat.le_refl _) _).cell (World.block_lt_of_cell? w1 _ h2)).trans h2
theorem heap_lt {w : World} {b : Nat} {o : Obj} (h : w.heap[b]? = some o) : b < w.heap.size := by
  rcases Nat.lt_or_ge b w.heap.size with h' | h'
  · exact h'
  · rw [Array.getElem?_eq_none h'] at h; cases h
theorem own_lt' {w : World} {base : Nat} {e : TypeId} {size : Nat} {v : Value} {n : Nat} {xs : List Value} (h : w.ownsRow base e size v n xs) {g : Nat} (hg : v.ownBlock = some g) : g < w.heap.size := by
  rcases h.2 with ⟨rfl, _⟩ | ⟨g', cap, cur, rfl, _, hh, _⟩
  · simp [Value.ownBlock] at hg
  · have : g' = g := by simpa [Value.ownBlock] using hg
    subst this; exact heap_lt hh
theorem elemTmI : Elem Tryz.prog 55 57 2 40 := elem_of Tryz.underlying55 (z := .agg #[.string ⟨#[]⟩, .slice none 0 0]) (by kernel_rfl) rfl (by omega)
theorem cells2_cell {w : World} {g : Nat} {x y : Value} {t : TypeId} (h : w.heap[g]? = some (.cells #[x, y] t (0, 0))) : w.cell? ⟨g, 0, none⟩ = some x ∧ w.cell? ⟨g, 1, none⟩ = some y ∧ (∀ j, w.frozen? ⟨g, j, none⟩ = false) := by
  refine ⟨?_, ?_, fun j => frozen_of_row w g j _ _ h⟩
  · rw [cell_of_row w g 0 _ _ (0, 0) h]; rfl
  · rw [cell_of_row w g 1 _ _ (0, 0) h]; rfl
end Go.Proofs.YtcegllnljaapiaaGreatDoor
namespace Go.Proofs.YtcegllnljaapiaaGreatDoor
open Go.RowKit
/-- What is left of an allowance. -/
def szR (left : Int) (k : Nat) : Int := if (k : Int) ≤ left then left - k else -1
mutual
def Tm.wt : Tm → Nat | .mk n us => n.size + us.length + Tm.wts us
def Tm.wts : List Tm → Nat | [] => 0 | a :: us => a.wt + Tm.wts us
end
theorem Tm.wts_drop (us : List Tm) {k : Nat} (h : k < us.length) : Tm.wts (us.drop k) = us[k].wt + Tm.wts (us.drop (k + 1)) := by
  rw [List.drop_eq_getElem_cons h, Tm.wts]
theorem Tm.wts_le (us : List Tm) {k : Nat} (h : k < us.length) : us[k].wt ≤ Tm.wts us := by
  induction us generalizing k with
  | nil => simp at h
  | cons a us ih =>
    cases k with
    | zero => simp [Tm.wts]
    | succ k => have := ih (k := k) (by simpa using h); simp only [List.getElem_cons_succ, Tm.wts]; omega
set_option maxRecDepth 100000 in
set_option maxHeartbeats 800000 in
theorem szTermS_of {B : Nat → Prop} (n : Nat) (ih : ∀ (t : Tm) (v0 v1 : Value) (left : Int) (w : World), TmAt B n w t [v0, v1] → 0 ≤ left → left ≤ 1048576 →
      Calls Tryz.prog 254 #[.agg #[v0, v1], .int .i64 left] w fun e w' => e = .returned (.int .i64 (szR left t.wt)) ∧ Below w.heap.size w w')
    (us : List Tm) (va : Value) (left : Int) (w : World) (h : ListAt B w 2 (TmAt B n w) va us) (h0 : 0 ≤ left) (h1 : left ≤ 1048576) :
    Calls Tryz.prog 309 #[va, .int .i64 left] w fun e w' => e = .returned (.int .i64 (szR left (us.length + Tm.wts us))) ∧ Below w.heap.size w w' := by
  obtain ⟨p, c, rfl, hlen⟩ := h.form
  unfold maxLen at hlen
  have H := Lib.hid h
  have IH := Lib.hid ih
  clear h ih
  by_cases hl : (us.length : Int) ≤ left
  · go_enter Tryz.func309, Tryz.ntmps309
    go_wp2
    go_loopw [1, 5] (fun l i wr => ∃ k done : Nat, k ≤ us.length ∧ i = .int .i64 k ∧ done + Tm.wts (us.drop k) = Tm.wts us ∧ l = .int .i64 (left - us.length - done) ∧ (done : Int) ≤ left - us.length ∧ Below w.heap.size w wr) (fun _ i _ => us.length - (intOf i).toNat)
    case atStart => exact ⟨0, 0, Nat.zero_le _, rfl, by simp, by simp, by omega, by (repeat (first | with_reducible exact Below.refl _ _ | with_reducible assumption | with_reducible refine Below.al ?_ _ | with_reducible refine Below.sc ?_ (by first | exact Nat.le_refl _ | (simp; done) | (simp; omega)) _ | assumption | exact Below.refl _ _ | refine Below.dr ?_ | refine Below.drN ?_ _ | refine Below.step ?_ (by assumption)))⟩
    case round =>
      obtain ⟨k, done, hk, rfl, hd, rfl, hdl, hb⟩ := hrel
      have HD := Lib.hid hd
      clear hd
      by_cases hlt : k < us.length
      · obtain ⟨b, o, rfl, hB, x0, x1, hx0, hx1, hx⟩ := (H.out.mono (SameOn.below hb) (fun _ h => h) (fun x cs _ hx => TmAt.below hb hx)).at2 hlt
        have HW := Lib.hid (Tm.wts_drop us hlt)
        obtain ⟨a, ha⟩ : ∃ a, us[k] = a := ⟨_, rfl⟩
        rw [ha] at hx HW
        have HX := Lib.hid hx
        clear hx ha
        by_cases hw : (a.wt : Int) ≤ left - us.length - done
        · have hs : szR (left - us.length - done) a.wt = left - us.length - done - a.wt := if_pos hw
          have HS := Lib.hid hs
          clear hs
          go_wp2_with fail
          refine (IH.out a x0 x1 _ _ HX.out (by omega) (by omega)).mono ?_
          rintro e w1 ⟨rfl, hb1⟩
          have ⟨cw1, fw1⟩ := bcell hb1
          have qw1 := hb1.size
          (try simp at qw1)
          (try have zw1w := bsz (show w.heap.size < w1.heap.size by omega))
          rw [HS.out]
          go_wp2
          have h1 := HD.out
          have h2 := HW.out
          refine ⟨⟨k + 1, done + a.wt, by omega, by go_num, by omega, ?_, by omega, by (repeat (first | with_reducible exact Below.refl _ _ | with_reducible assumption | with_reducible refine Below.al ?_ _ | with_reducible refine Below.sc ?_ (by first | exact Nat.le_refl _ | (simp; done) | (simp; omega)) _ | assumption | exact Below.refl _ _ | refine Below.dr ?_ | refine Below.drN ?_ _ | refine Below.step ?_ (by assumption)))⟩, by simp [intOf]; omega⟩
          exact congrArg (Value.int .i64) (by omega)
        · have HS := Lib.hid (show szR (left - us.length - done) a.wt = -1 from if_neg hw)
          go_wp2_with fail
          refine (IH.out a x0 x1 _ _ HX.out (by omega) (by omega)).mono ?_
          rintro e w1 ⟨rfl, hb1⟩
          have ⟨cw1, fw1⟩ := bcell hb1
          have qw1 := hb1.size
          (try simp at qw1)
          (try have zw1w := bsz (show w.heap.size < w1.heap.size by omega))
          rw [HS.out]
          go_wp2
          go_ret
          have h1 := HD.out
          have h2 := HW.out
          exact ⟨ret_int (by rw [szR, if_neg (by omega)]), by (repeat (first | with_reducible exact Below.refl _ _ | with_reducible assumption | with_reducible refine Below.al ?_ _ | with_reducible refine Below.sc ?_ (by first | exact Nat.le_refl _ | (simp; done) | (simp; omega)) _ | assumption | exact Below.refl _ _ | refine Below.dr ?_ | refine Below.drN ?_ _ | refine Below.step ?_ (by assumption)))⟩
      · obtain rfl : k = us.length := by omega
        have hd := HD.out
        rw [List.drop_length, Tm.wts] at hd
        have HD2 := Lib.hid hd
        clear hd
        go_wp2
        go_ret
        have h1 := HD2.out
        exact ⟨ret_int (by rw [szR, if_pos (by omega)]; omega), by (repeat (first | with_reducible exact Below.refl _ _ | with_reducible assumption | with_reducible refine Below.al ?_ _ | with_reducible refine Below.sc ?_ (by first | exact Nat.le_refl _ | (simp; done) | (simp; omega)) _ | assumption | exact Below.refl _ _ | refine Below.dr ?_ | refine Below.drN ?_ _ | refine Below.step ?_ (by assumption)))⟩
  · go_enter Tryz.func309, Tryz.ntmps309
    go_wp2
    go_ret
    exact ⟨ret_int (by rw [szR, if_neg (by omega)]), by (repeat (first | with_reducible exact Below.refl _ _ | with_reducible assumption | with_reducible refine Below.al ?_ _ | with_reducible refine Below.sc ?_ (by first | exact Nat.le_refl _ | (simp; done) | (simp; omega)) _ | assumption | exact Below.refl _ _ | refine Below.dr ?_ | refine Below.drN ?_ _ | refine Below.step ?_ (by assumption)))⟩
set_option maxRecDepth 100000 in
set_option maxHeartbeats 800000 in
theorem szTerm_any {B : Nat → Prop} : ∀ (n : Nat) (t : Tm) (v0 v1 : Value) (left : Int) (w : World), TmAt B n w t [v0, v1] → 0 ≤ left → left ≤ 1048576 →
      Calls Tryz.prog 254 #[.agg #[v0, v1], .int .i64 left] w fun e w' => e = .returned (.int .i64 (szR left t.wt)) ∧ Below w.heap.size w w' := by
  intro n
  induction n with
  | zero => intro t v0 v1 left w h; exact h.elim
  | succ n ih =>
    rintro ⟨s, us⟩ v0 v1 left w ⟨va, hcs, hs, hl⟩ h0 h1
    simp only [List.cons.injEq, and_true] at hcs
    obtain ⟨rfl, rfl⟩ := hcs
    have HS := Lib.hid (szTermS_of n ih)
    have HL := Lib.hid hl
    have HW := Lib.hid (show (Tm.mk s us).wt = s.size + (us.length + Tm.wts us) by rw [Tm.wt]; omega)
    clear ih hl
    unfold maxLen at hs
    by_cases ha : (s.size : Int) ≤ left
    · by_cases hb : ((us.length + Tm.wts us : Nat) : Int) ≤ left - s.size
      · have HR := Lib.hid (show szR (left - s.size) (us.length + Tm.wts us) = left - s.size - (us.length + Tm.wts us : Nat) from if_pos hb)
        go_enter Tryz.func254, Tryz.ntmps254
        go_wp2_with fail
        refine (HS.out us v1 _ _ (HL.out.mono (SameOn.below (by (repeat (first | with_reducible exact Below.refl _ _ | with_reducible assumption | with_reducible refine Below.al ?_ _ | with_reducible refine Below.sc ?_ (by first | exact Nat.le_refl _ | (simp; done) | (simp; omega)) _ | assumption | exact Below.refl _ _ | refine Below.dr ?_ | refine Below.drN ?_ _ | refine Below.step ?_ (by assumption))))) (fun _ h => h) (fun x cs _ hx => TmAt.below (by (repeat (first | with_reducible exact Below.refl _ _ | with_reducible assumption | with_reducible refine Below.al ?_ _ | with_reducible refine Below.sc ?_ (by first | exact Nat.le_refl _ | (simp; done) | (simp; omega)) _ | assumption | exact Below.refl _ _ | refine Below.dr ?_ | refine Below.drN ?_ _ | refine Below.step ?_ (by assumption)))) hx)) (by omega) (by omega)).mono ?_
        rintro e w1 ⟨rfl, hb1⟩
        have ⟨cw1, fw1⟩ := bcell hb1
        have qw1 := hb1.size
        (try simp at qw1)
        (try have zw1w := bsz (show w.heap.size < w1.heap.size by omega))
        rw [HR.out]
        have hbb : (us.length : Int) + (Tm.wts us : Nat) ≤ left - s.size := by omega
        go_wp2
        go_ret
        exact ⟨ret_int (by rw [HW.out, szR, if_pos (by omega)]; omega), by (repeat (first | with_reducible exact Below.refl _ _ | with_reducible assumption | with_reducible refine Below.al ?_ _ | with_reducible refine Below.sc ?_ (by first | exact Nat.le_refl _ | (simp; done) | (simp; omega)) _ | assumption | exact Below.refl _ _ | refine Below.dr ?_ | refine Below.drN ?_ _ | refine Below.step ?_ (by assumption)))⟩
      · have HR := Lib.hid (show szR (left - s.size) (us.length + Tm.wts us) = -1 from if_neg hb)
        go_enter Tryz.func254, Tryz.ntmps254
        go_wp2_with fail
        refine (HS.out us v1 _ _ (HL.out.mono (SameOn.below (by (repeat (first | with_reducible exact Below.refl _ _ | with_reducible assumption | with_reducible refine Below.al ?_ _ | with_reducible refine Below.sc ?_ (by first | exact Nat.le_refl _ | (simp; done) | (simp; omega)) _ | assumption | exact Below.refl _ _ | refine Below.dr ?_ | refine Below.drN ?_ _ | refine Below.step ?_ (by assumption))))) (fun _ h => h) (fun x cs _ hx => TmAt.below (by (repeat (first | with_reducible exact Below.refl _ _ | with_reducible assumption | with_reducible refine Below.al ?_ _ | with_reducible refine Below.sc ?_ (by first | exact Nat.le_refl _ | (simp; done) | (simp; omega)) _ | assumption | exact Below.refl _ _ | refine Below.dr ?_ | refine Below.drN ?_ _ | refine Below.step ?_ (by assumption)))) hx)) (by omega) (by omega)).mono ?_
        rintro e w1 ⟨rfl, hb1⟩
        have ⟨cw1, fw1⟩ := bcell hb1
        have qw1 := hb1.size
        (try simp at qw1)
        (try have zw1w := bsz (show w.heap.size < w1.heap.size by omega))
        rw [HR.out]
        go_wp2
        go_ret
        exact ⟨ret_int (by rw [HW.out, szR, if_neg (by omega)]), by (repeat (first | with_reducible exact Below.refl _ _ | with_reducible assumption | with_reducible refine Below.al ?_ _ | with_reducible refine Below.sc ?_ (by first | exact Nat.le_refl _ | (simp; done) | (simp; omega)) _ | assumption | exact Below.refl _ _ | refine Below.dr ?_ | refine Below.drN ?_ _ | refine Below.step ?_ (by assumption)))⟩
    · go_enter Tryz.func254, Tryz.ntmps254
      go_wp2
      go_ret
      exact ⟨ret_int (by rw [HW.out, szR, if_neg (by omega)]), by (repeat (first | with_reducible exact Below.refl _ _ | with_reducible assumption | with_reducible refine Below.al ?_ _ | with_reducible refine Below.sc ?_ (by first | exact Nat.le_refl _ | (simp; done) | (simp; omega)) _ | assumption | exact Below.refl _ _ | refine Below.dr ?_ | refine Below.drN ?_ _ | refine Below.step ?_ (by assumption)))⟩
theorem elemTm : Elem Tryz.prog 55 57 2 40 := elem_of Tryz.underlying55 (z := .agg #[.string ⟨#[]⟩, .slice none 0 0]) (by kernel_rfl) rfl (by omega)
def ToTmRel (g n m : Nat) (us : List Tm) (w : World) (i : Value) (wr : World) : Prop :=
  ∃ (k : Nat) (xs : List Value), k ≤ n ∧ i = .int .i64 k ∧ wr.ownsRow g 57 2 (.slice (some ⟨g, 0, none⟩) n n) n xs ∧ Below w.heap.size w wr ∧
    ∀ j t, j < k → us[j]? = some t → ∃ y0 y1, xs[j * 2]? = some y0 ∧ xs[j * 2 + 1]? = some y1 ∧ TmAt (fun b => g < b) m wr t [y0, y1]
theorem listAt_row2 {α : Type} {B : Nat → Prop} {w : World} {R : α → List Value → Prop} {base g n c : Nat} {e : TypeId} {xs : List Value} {us : List α} (h : w.ownsRow base e 2 (.slice (some ⟨g, 0, none⟩) n c) n xs) (hn : n = us.length) (hm : n ≤ maxLen) (hB : B g)
    (hR : ∀ j t, us[j]? = some t → ∃ y0 y1, xs[j * 2]? = some y0 ∧ xs[j * 2 + 1]? = some y1 ∧ R t [y0, y1]) : ListAt B w 2 R (.slice (some ⟨g, 0, none⟩) n c) us := by
  subst hn
  refine ⟨_, _, rfl, hm, fun i t ht => ⟨g, 0, rfl, hB, ?_⟩⟩
  obtain ⟨y0, y1, h0, h1, hr⟩ := hR i t ht
  have hi : i < us.length := (List.getElem?_eq_some_iff.1 ht).1
  refine ⟨[y0, y1], rfl, fun j hj => ?_, hr⟩
  rw [Nat.zero_add, h.cellAt (i * 2 + j) (by omega)]
  match j, hj with
  | 0, _ => simpa using h0
  | 1, _ => simpa using h1
set_option maxRecDepth 100000 in
set_option maxHeartbeats 1600000 in
theorem toTermS_of {B : Nat → Prop} (m : Nat) (ih : ∀ (t : Tm) (v0 v1 : Value) (w : World), TmAt B m w t [v0, v1] → t.wt ≤ 1048576 →
      Calls Tryz.prog 259 #[.agg #[v0, v1]] w fun e w' => ∃ u0 u1, e = .returned (.agg #[u0, u1]) ∧ TmAt (fun b => w.heap.size ≤ b) m w' t [u0, u1] ∧ Below w.heap.size w w')
    (us : List Tm) (va : Value) (w : World) (h : ListAt B w 2 (TmAt B m w) va us) (hw : us.length + Tm.wts us ≤ 1048576) :
    Calls Tryz.prog 312 #[va] w fun e w' => ∃ u, e = .returned u ∧ ListAt (fun b => w.heap.size ≤ b) w' 2 (TmAt (fun b => w.heap.size ≤ b) m w') u us ∧ Below w.heap.size w w' := by
  obtain ⟨p, c, rfl, -⟩ := h.form
  have H := Lib.hid h
  have IH := Lib.hid ih
  have HW := Lib.hid hw
  have hlen : us.length ≤ 1048576 := by omega
  obtain ⟨-, i, z, hi, hz, hsz, hby, hzs, -⟩ := elemTm
  clear h ih hw
  go_enter Tryz.func312, Tryz.ntmps312
  go_wp2_with (at_make; refine wpList_make_full _ rfl _ _ _ rfl w.heap.size 57 i z 2 Tryz.underlying55 hi hz hsz _ _ _ _ us.length rfl rfl rfl rfl (by rw [hby]; omega) (by unfold maxLen; omega) (Nat.le_refl _) ?_; intro w1 ho1 hg1)
  have hb1 : Below w.heap.size w w1 := ⟨hg1.os, hg1.tape, hg1.output, hg1.size, fun k hk => hg1.block k hk (by simp)⟩
  have HO1 := Lib.hid ho1
  clear ho1 hg1
  go_loopw [4] (ToTmRel w.heap.size us.length m us w) (fun i _ => us.length - (intOf i).toNat)
  case atStart => exact ⟨0, _, Nat.zero_le _, rfl, HO1.out, hb1, fun j t hj => absurd hj (Nat.not_lt_zero _)⟩
  case round =>
    obtain ⟨k, xs, hk, rfl, ho, hb, hall⟩ := hrel
    have HO := Lib.hid ho
    have HALL := Lib.hid hall
    have hxl : xs.length = us.length * 2 := ho.1
    clear ho hall HO1 hb1
    by_cases hlt : k < us.length
    · obtain ⟨b, o, rfl, hB, x0, x1, hx0, hx1, hx⟩ := (H.out.mono (SameOn.below hb) (fun _ h => h) (fun x cs _ hx => TmAt.below hb hx)).at2 hlt
      have hwt := Tm.wts_le us hlt
      obtain ⟨a, ha⟩ : ∃ a, us[k] = a := ⟨_, rfl⟩
      have HK : Hid (us[k]? = some a) := Lib.hid (by rw [List.getElem?_eq_getElem hlt, ha])
      rw [ha] at hx hwt
      have HX := Lib.hid hx
      clear hx ha
      have hgw := own_lt HO.out
      go_wp2_with fail
      refine (IH.out a x0 x1 _ HX.out (by have := HW.out; omega)).mono ?_
      rintro e w2 ⟨u0, u1, rfl, hu, hb2⟩
      have ⟨cw2, fw2⟩ := bcell hb2
      have qw2 := hb2.size
      (try simp at qw2)
      (try have zw2w := bsz (show w.heap.size < w2.heap.size by omega))
      obtain ⟨pu, cu, rfl, rfl, -, -⟩ := hu.form
      have HU := Lib.hid hu
      have HO2 := Lib.hid (own_below HO.out hb2)
      clear hu
      obtain ⟨q0, hq0⟩ : ∃ q, w2.cell? ⟨w.heap.size, k * 2, none⟩ = some q := ⟨_, (HO2.out.cellAt (k * 2) (by omega)).trans (List.getElem?_eq_getElem (by omega))⟩
      obtain ⟨q1, hq1⟩ : ∃ q, w2.cell? ⟨w.heap.size, k * 2 + 1, none⟩ = some q := ⟨_, (HO2.out.cellAt (k * 2 + 1) (by omega)).trans (List.getElem?_eq_getElem (by omega))⟩
      have hf2 := fun j => HO2.out.frozenAt j
      clear cw2 fw2
      go_wp2
      generalize Value.string a.n = u0 at *
      generalize Value.slice pu a.us.length cu = u1 at *
      have ho3 := (HO2.out.stored (k * 2) u0).1
      have ho4 := (ho3.stored (k * 2 + 1) u1).1
      have hS : SameOn (fun b => w.heap.size < b) w2 ((w2.setCell ⟨w.heap.size, k * 2, none⟩ u0).setCell ⟨w.heap.size, k * 2 + 1, none⟩ u1) := by
        intro b hbb hlb
        exact (SameOn.store _ (p := ⟨w.heap.size, k * 2 + 1, none⟩) (B := fun b => w.heap.size < b) (fun b hb e => by simp at e; omega) u1 b hbb (by simpa using hlb)).trans (SameOn.store _ (p := ⟨w.heap.size, k * 2, none⟩) (B := fun b => w.heap.size < b) (fun b hb e => by simp at e; omega) u0 b hbb hlb)
      refine ⟨⟨k + 1, _, by omega, by go_num, ho4, ?_, ?_⟩, by simp [intOf]; omega⟩
      · exact ((show Below w.heap.size w w2 by (repeat (first | with_reducible exact Below.refl _ _ | with_reducible assumption | with_reducible refine Below.al ?_ _ | with_reducible refine Below.sc ?_ (by first | exact Nat.le_refl _ | (simp; done) | (simp; omega)) _ | assumption | exact Below.refl _ _ | refine Below.dr ?_ | refine Below.drN ?_ _ | refine Below.step ?_ (by assumption)))).setCell (Nat.le_refl _) _).setCell (Nat.le_refl _) _
      · intro j t hj ht
        by_cases hjk : j = k
        · subst hjk
          rw [HK.out] at ht
          obtain rfl := Option.some.inj ht
          refine ⟨u0, u1, ?_, ?_, (HU.out.mono (B' := fun b => w.heap.size < b) (SameOn.refl _ _) (fun b hb => by omega) m m _ _ (Nat.le_refl _)).mono hS (fun b hb => hb) m m _ _ (Nat.le_refl _)⟩
          · rw [List.getElem?_set_ne (by omega), List.getElem?_set_self (by omega)]
          · rw [List.getElem?_set_self (by simp; omega)]
        · obtain ⟨y0, y1, e0, e1, hy⟩ := HALL.out j t (by omega) ht
          refine ⟨y0, y1, ?_, ?_, (hy.below hb2).mono hS (fun b hb => hb) m m _ _ (Nat.le_refl _)⟩
          · rw [List.getElem?_set_ne (by omega), List.getElem?_set_ne (by omega)]; exact e0
          · rw [List.getElem?_set_ne (by omega), List.getElem?_set_ne (by omega)]; exact e1
    · obtain rfl : k = us.length := by omega
      go_wp2
      go_ret
      refine ⟨_, rfl, listAt_row2 HO.out rfl (by unfold maxLen; omega) (Nat.le_refl _) (fun j t ht => ?_), hb⟩
      obtain ⟨y0, y1, e0, e1, hy⟩ := HALL.out j t ((List.getElem?_eq_some_iff.1 ht).1) ht
      exact ⟨y0, y1, e0, e1, hy.mono (SameOn.refl _ _) (fun b hb => Nat.le_of_lt hb) m m _ _ (Nat.le_refl _)⟩
set_option maxRecDepth 100000 in
set_option maxHeartbeats 1600000 in
theorem toTerm_any {B : Nat → Prop} : ∀ (m : Nat) (t : Tm) (v0 v1 : Value) (w : World), TmAt B m w t [v0, v1] → t.wt ≤ 1048576 →
      Calls Tryz.prog 259 #[.agg #[v0, v1]] w fun e w' => ∃ u0 u1, e = .returned (.agg #[u0, u1]) ∧ TmAt (fun b => w.heap.size ≤ b) m w' t [u0, u1] ∧ Below w.heap.size w w' := by
  intro m
  induction m with
  | zero => intro t v0 v1 w h; exact h.elim
  | succ m ih =>
    rintro ⟨s, us⟩ v0 v1 w ⟨va, hcs, hs, hl⟩ hw
    simp only [List.cons.injEq, and_true] at hcs
    obtain ⟨rfl, rfl⟩ := hcs
    rw [Tm.wt] at hw
    have HS := Lib.hid (toTermS_of m ih)
    have HL := Lib.hid hl
    have HM := Lib.hid (And.intro hs hw)
    obtain ⟨p, c, rfl, -⟩ := hl.form
    clear ih hl hs hw
    go_enter Tryz.func259, Tryz.ntmps259
    go_wp2_with fail
    refine (HS.out us _ _ (HL.out.mono (SameOn.below (by (repeat (first | with_reducible exact Below.refl _ _ | with_reducible assumption | with_reducible refine Below.al ?_ _ | with_reducible refine Below.sc ?_ (by first | exact Nat.le_refl _ | (simp; done) | (simp; omega)) _ | assumption | exact Below.refl _ _ | refine Below.dr ?_ | refine Below.drN ?_ _ | refine Below.step ?_ (by assumption))))) (fun _ h => h) (fun x cs _ hx => TmAt.below (by (repeat (first | with_reducible exact Below.refl _ _ | with_reducible assumption | with_reducible refine Below.al ?_ _ | with_reducible refine Below.sc ?_ (by first | exact Nat.le_refl _ | (simp; done) | (simp; omega)) _ | assumption | exact Below.refl _ _ | refine Below.dr ?_ | refine Below.drN ?_ _ | refine Below.step ?_ (by assumption)))) hx)) (by have := HM.out.2; omega)).mono ?_
    rintro e w1 ⟨u, rfl, hu, hb1⟩
    have ⟨cw1, fw1⟩ := bcell hb1
    have qw1 := hb1.size
    (try simp at qw1)
    (try have zw1w := bsz (show w.heap.size < w1.heap.size by omega))
    obtain ⟨pu, cu, rfl, -⟩ := hu.form
    have HU := Lib.hid hu
    clear hu
    have y1 := bsz (show w.heap.size + 1 < w1.heap.size by omega)
    have y2 := bsz (show w.heap.size + 2 < w1.heap.size by omega)
    go_wp2
    have hz : w.heap.size + 2 < w1.heap.size := by omega
    refine bodyPost_ret (v := .agg #[.string s, .slice pu us.length cu]) (by simp only [results, Tryz.results259]; go_simp) rfl ⟨_, _, rfl, ⟨_, rfl, HM.out.1, ?_⟩, by (repeat (first | with_reducible exact Below.refl _ _ | with_reducible assumption | with_reducible refine Below.al ?_ _ | with_reducible refine Below.sc ?_ (by first | exact Nat.le_refl _ | (simp; done) | (simp; omega)) _ | assumption | exact Below.refl _ _ | refine Below.dr ?_ | refine Below.drN ?_ _ | refine Below.step ?_ (by assumption)))⟩
    refine HU.out.mono ((((SameOn.refl _ _).sc ?_ _).sc ?_ _).sc ?_ _) (fun b hb => by simp at hb; omega) (fun x cs _ hx => TmAt.mono ((((SameOn.refl _ _).sc ?_ _).sc ?_ _).sc ?_ _) (fun b hb => by simp at hb; omega) m m x cs (Nat.le_refl _) hx)
    all_goals (intro b hb; simp at hb ⊢; omega)
set_option maxRecDepth 100000 in
set_option maxHeartbeats 1600000 in
theorem eqTermS_of {B B' : Nat → Prop} (m : Nat) (ih : ∀ (t : Tm) (v0 v1 u0 u1 : Value) (w : World), TmAt B m w t [v0, v1] → TmAt B' m w t [u0, u1] →
      Calls Tryz.prog 271 #[.agg #[v0, v1], .agg #[u0, u1]] w fun e w' => e = .returned (.bool true) ∧ Below w.heap.size w w')
    (us : List Tm) (va ua : Value) (w : World) (h : ListAt B w 2 (TmAt B m w) va us) (h' : ListAt B' w 2 (TmAt B' m w) ua us) :
    Calls Tryz.prog 318 #[va, ua] w fun e w' => e = .returned (.bool true) ∧ Below w.heap.size w w' := by
  obtain ⟨p, c, rfl, hlen⟩ := h.form
  obtain ⟨p', c', rfl, -⟩ := h'.form
  unfold maxLen at hlen
  have H := Lib.hid h
  have H' := Lib.hid h'
  have IH := Lib.hid ih
  clear h h' ih
  go_enter Tryz.func318, Tryz.ntmps318
  go_wp2
  go_loopw [5] (fun i wr => ∃ k : Nat, k ≤ us.length ∧ i = .int .i64 k ∧ Below w.heap.size w wr) (fun i _ => us.length - (intOf i).toNat)
  case atStart => exact ⟨0, Nat.zero_le _, rfl, by (repeat (first | with_reducible exact Below.refl _ _ | with_reducible assumption | with_reducible refine Below.al ?_ _ | with_reducible refine Below.sc ?_ (by first | exact Nat.le_refl _ | (simp; done) | (simp; omega)) _ | assumption | exact Below.refl _ _ | refine Below.dr ?_ | refine Below.drN ?_ _ | refine Below.step ?_ (by assumption)))⟩
  case round =>
    obtain ⟨k, hk, rfl, hb⟩ := hrel
    by_cases hlt : k < us.length
    · obtain ⟨b, o, rfl, hB, x0, x1, hx0, hx1, hx⟩ := (H.out.mono (SameOn.below hb) (fun _ h => h) (fun x cs _ hx => TmAt.below hb hx)).at2 hlt
      obtain ⟨b', o', rfl, hB', y0, y1, hy0, hy1, hy⟩ := (H'.out.mono (SameOn.below hb) (fun _ h => h) (fun x cs _ hx => TmAt.below hb hx)).at2 hlt
      obtain ⟨a, ha⟩ : ∃ a, us[k] = a := ⟨_, rfl⟩
      rw [ha] at hx hy
      have HX := Lib.hid hx
      have HY := Lib.hid hy
      clear hx hy ha
      go_wp2
      obtain ⟨C, HC0⟩ := class_of (InF wr.heap.size _ [(⟨b, o + k * 2, none⟩, x0), (⟨b, o + k * 2 + 1, none⟩, x1), (⟨b', o' + k * 2, none⟩, y0), (⟨b', o' + k * 2 + 1, none⟩, y1)] [] [])
      have HC := Lib.hid HC0
      clear HC0
      refine wp_region_flow (C := C) (by kernel_rfl) (by kernel_rfl) (fun L hL => (HC.out _ _).2 (InF.start (by first | (intro _ hs; cases hs; done) | (simp only [List.forall_mem_cons]; go_simp)) (by first | (intro _ hs; cases hs; done) | (simp only [List.forall_mem_cons]; go_simp)) (by first | (intro _ hs; cases hs; done) | (simp only [List.forall_mem_cons]; go_simp)) (by first | (intro _ hs; cases hs; done) | (simp only [List.forall_mem_cons]; go_simp)) L hL)) ?_
      repeat (first | (apply flow_free rfl; (intro L w' hun hrd hC; have hC := (HC.out _ _).1 hC; have hb' := hC.below; (try have hw' : Below w.heap.size w w' := by first | exact Below.trans (by (repeat (first | with_reducible exact Below.refl _ _ | with_reducible assumption | with_reducible refine Below.al ?_ _ | with_reducible refine Below.sc ?_ (by first | exact Nat.le_refl _ | (simp; done) | (simp; omega)) _ | assumption | exact Below.refl _ _ | refine Below.dr ?_ | refine Below.drN ?_ _ | refine Below.step ?_ (by assumption)))) hb' | ((repeat (first | with_reducible exact Below.refl _ _ | with_reducible assumption | with_reducible refine Below.al ?_ _ | with_reducible refine Below.sc ?_ (by first | exact Nat.le_refl _ | (simp; done) | (simp; omega)) _ | assumption | exact Below.refl _ _ | refine Below.dr ?_ | refine Below.drN ?_ _ | refine Below.step ?_ (by assumption))); done)); have hf' := hC.cell; (try simp only [List.forall_mem_cons] at hf'); go_simp; first | exact ⟨(HC.out _ _).2 (hC.skip _ (by rfl)), rfl⟩ | (rw [if_neg]; (exact ⟨(HC.out _ _).2 (hC.skip _ (by rfl)), rfl⟩); omega) | (go_at_call 271; refine (IH.out a x0 x1 y0 y1 _ (HX.out.below hb') (HY.out.below hb')).mono ?_; rintro e w1 ⟨rfl, hb1⟩; exact ⟨rfl, (HC.out _ _).2 ((hC.next (by first | (simp; done) | (simp; omega) | omega) hb1).skip _ (by rfl))⟩)); go_simp) | (apply flow_yes; (case hw => go_simp); (intro L w' hun hrd hC; have hC := (HC.out _ _).1 hC; have hb' := hC.below; (try have hw' : Below w.heap.size w w' := by first | exact Below.trans (by (repeat (first | with_reducible exact Below.refl _ _ | with_reducible assumption | with_reducible refine Below.al ?_ _ | with_reducible refine Below.sc ?_ (by first | exact Nat.le_refl _ | (simp; done) | (simp; omega)) _ | assumption | exact Below.refl _ _ | refine Below.dr ?_ | refine Below.drN ?_ _ | refine Below.step ?_ (by assumption)))) hb' | ((repeat (first | with_reducible exact Below.refl _ _ | with_reducible assumption | with_reducible refine Below.al ?_ _ | with_reducible refine Below.sc ?_ (by first | exact Nat.le_refl _ | (simp; done) | (simp; omega)) _ | assumption | exact Below.refl _ _ | refine Below.dr ?_ | refine Below.drN ?_ _ | refine Below.step ?_ (by assumption))); done)); have hf' := hC.cell; (try simp only [List.forall_mem_cons] at hf'); go_simp; first | exact ⟨(HC.out _ _).2 (hC.skip _ (by rfl)), rfl⟩ | (rw [if_neg]; (exact ⟨(HC.out _ _).2 (hC.skip _ (by rfl)), rfl⟩); omega) | (go_at_call 271; refine (IH.out a x0 x1 y0 y1 _ (HX.out.below hb') (HY.out.below hb')).mono ?_; rintro e w1 ⟨rfl, hb1⟩; exact ⟨rfl, (HC.out _ _).2 ((hC.next (by first | (simp; done) | (simp; omega) | omega) hb1).skip _ (by rfl))⟩)); go_simp) | (apply flow_no; (case hw => (go_simp; try (intro hh; cases hh))); (intro L w' _ _ hC; exact (HC.out _ _).2 (((HC.out _ _).1 hC).skip _ (by rfl))); go_simp))
      refine flow_nil ?_
      intro L wz hL hz
      have hz := (HC.out _ _).1 hz
      have hbz := hz.below
      have hcz := hz.cell
      try simp only [List.forall_mem_cons] at hcz
      have hdz := hz.done
      try simp only [List.forall_mem_cons] at hdz
      (try have hwz : Below w.heap.size w wz := by first | exact Below.trans (by (repeat (first | with_reducible exact Below.refl _ _ | with_reducible assumption | with_reducible refine Below.al ?_ _ | with_reducible refine Below.sc ?_ (by first | exact Nat.le_refl _ | (simp; done) | (simp; omega)) _ | assumption | exact Below.refl _ _ | refine Below.dr ?_ | refine Below.drN ?_ _ | refine Below.step ?_ (by assumption)))) hbz | ((repeat (first | with_reducible exact Below.refl _ _ | with_reducible assumption | with_reducible refine Below.al ?_ _ | with_reducible refine Below.sc ?_ (by first | exact Nat.le_refl _ | (simp; done) | (simp; omega)) _ | assumption | exact Below.refl _ _ | refine Below.dr ?_ | refine Below.drN ?_ _ | refine Below.step ?_ (by assumption))); done))
      go_wp2
      refine ⟨⟨k + 1, by omega, by go_num, Below.step hb hbz⟩, by simp [intOf]; omega⟩
    · go_wp2
      go_ret
      exact ⟨rfl, hb⟩
set_option maxRecDepth 100000 in
set_option maxHeartbeats 1600000 in
theorem eqTerm_same {B B' : Nat → Prop} : ∀ (m : Nat) (t : Tm) (v0 v1 u0 u1 : Value) (w : World), TmAt B m w t [v0, v1] → TmAt B' m w t [u0, u1] →
      Calls Tryz.prog 271 #[.agg #[v0, v1], .agg #[u0, u1]] w fun e w' => e = .returned (.bool true) ∧ Below w.heap.size w w' := by
  intro m
  induction m with
  | zero => intro t v0 v1 u0 u1 w h; exact h.elim
  | succ m ih =>
    rintro ⟨s, us⟩ v0 v1 u0 u1 w ⟨va, hcs, hs, hl⟩ ⟨va', hcs', hs', hl'⟩
    simp only [List.cons.injEq, and_true] at hcs hcs'
    obtain ⟨rfl, rfl⟩ := hcs
    obtain ⟨rfl, rfl⟩ := hcs'
    have HS := Lib.hid (eqTermS_of m ih)
    have HL := Lib.hid hl
    have HL' := Lib.hid hl'
    obtain ⟨p, c, rfl, -⟩ := hl.form
    obtain ⟨p', c', rfl, -⟩ := hl'.form
    clear ih hl hl' hs hs'
    go_enter Tryz.func271, Tryz.ntmps271
    go_wp2_with fail
    refine (HS.out us _ _ _ (HL.out.mono (SameOn.below (by (repeat (first | with_reducible exact Below.refl _ _ | with_reducible assumption | with_reducible refine Below.al ?_ _ | with_reducible refine Below.sc ?_ (by first | exact Nat.le_refl _ | (simp; done) | (simp; omega)) _ | assumption | exact Below.refl _ _ | refine Below.dr ?_ | refine Below.drN ?_ _ | refine Below.step ?_ (by assumption))))) (fun _ h => h) (fun x cs _ hx => TmAt.below (by (repeat (first | with_reducible exact Below.refl _ _ | with_reducible assumption | with_reducible refine Below.al ?_ _ | with_reducible refine Below.sc ?_ (by first | exact Nat.le_refl _ | (simp; done) | (simp; omega)) _ | assumption | exact Below.refl _ _ | refine Below.dr ?_ | refine Below.drN ?_ _ | refine Below.step ?_ (by assumption)))) hx)) (HL'.out.mono (SameOn.below (by (repeat (first | with_reducible exact Below.refl _ _ | with_reducible assumption | with_reducible refine Below.al ?_ _ | with_reducible refine Below.sc ?_ (by first | exact Nat.le_refl _ | (simp; done) | (simp; omega)) _ | assumption | exact Below.refl _ _ | refine Below.dr ?_ | refine Below.drN ?_ _ | refine Below.step ?_ (by assumption))))) (fun _ h => h) (fun x cs _ hx => TmAt.below (by (repeat (first | with_reducible exact Below.refl _ _ | with_reducible assumption | with_reducible refine Below.al ?_ _ | with_reducible refine Below.sc ?_ (by first | exact Nat.le_refl _ | (simp; done) | (simp; omega)) _ | assumption | exact Below.refl _ _ | refine Below.dr ?_ | refine Below.drN ?_ _ | refine Below.step ?_ (by assumption)))) hx))).mono ?_
    rintro e w1 ⟨rfl, hb1⟩
    have ⟨cw1, fw1⟩ := bcell hb1
    have qw1 := hb1.size
    (try simp at qw1)
    (try have zw1w := bsz (show w.heap.size < w1.heap.size by omega))
    go_wp2
    go_ret
    exact ⟨rfl, by (repeat (first | with_reducible exact Below.refl _ _ | with_reducible assumption | with_reducible refine Below.al ?_ _ | with_reducible refine Below.sc ?_ (by first | exact Nat.le_refl _ | (simp; done) | (simp; omega)) _ | assumption | exact Below.refl _ _ | refine Below.dr ?_ | refine Below.drN ?_ _ | refine Below.step ?_ (by assumption)))⟩
end Go.Proofs.YtcegllnljaapiaaGreatDoor
namespace Go.Proofs.YtcegllnljaapiaaGreatDoor
open Go.RowKit
def CpRel (g n m : Nat) (us : List Tm) (w : World) (i : Value) (wr : World) : Prop :=
  ∃ (k : Nat) (xs : List Value), k ≤ n ∧ i = .int .i64 k ∧ wr.ownsRow g 57 2 (.slice (some ⟨g, 0, none⟩) n n) n xs ∧ Below w.heap.size w wr ∧
    ∀ j t, j < k → us[j]? = some t → ∃ y0 y1, xs[j * 2]? = some y0 ∧ xs[j * 2 + 1]? = some y1 ∧ TmAt (fun b => g < b) m wr t [y0, y1]
theorem listAt_row2c {α : Type} {B : Nat → Prop} {w : World} {R : α → List Value → Prop} {base g n c : Nat} {e : TypeId} {xs : List Value} {us : List α} (h : w.ownsRow base e 2 (.slice (some ⟨g, 0, none⟩) n c) n xs) (hn : n = us.length) (hm : n ≤ maxLen) (hB : B g)
    (hR : ∀ j t, us[j]? = some t → ∃ y0 y1, xs[j * 2]? = some y0 ∧ xs[j * 2 + 1]? = some y1 ∧ R t [y0, y1]) : ListAt B w 2 R (.slice (some ⟨g, 0, none⟩) n c) us := by
  subst hn
  refine ⟨_, _, rfl, hm, fun i t ht => ⟨g, 0, rfl, hB, ?_⟩⟩
  obtain ⟨y0, y1, h0, h1, hr⟩ := hR i t ht
  have hi : i < us.length := (List.getElem?_eq_some_iff.1 ht).1
  refine ⟨[y0, y1], rfl, fun j hj => ?_, hr⟩
  rw [Nat.zero_add, h.cellAt (i * 2 + j) (by omega)]
  match j, hj with
  | 0, _ => simpa using h0
  | 1, _ => simpa using h1
set_option maxRecDepth 100000 in
set_option maxHeartbeats 1600000 in
theorem copyTerms_of {B : Nat → Prop} (m : Nat) (ih : ∀ (t : Tm) (v0 v1 : Value) (w : World), TmAt B m w t [v0, v1] → t.wt ≤ 1048576 →
      Calls Tryz.prog 216 #[.agg #[v0, v1]] w fun e w' => ∃ u0 u1, e = .returned (.agg #[u0, u1]) ∧ TmAt (fun b => w.heap.size ≤ b) m w' t [u0, u1] ∧ Below w.heap.size w w')
    (us : List Tm) (va : Value) (w : World) (h : ListAt B w 2 (TmAt B m w) va us) (hw : us.length + Tm.wts us ≤ 1048576) :
    Calls Tryz.prog 278 #[va] w fun e w' => ∃ u, e = .returned u ∧ ListAt (fun b => w.heap.size ≤ b) w' 2 (TmAt (fun b => w.heap.size ≤ b) m w') u us ∧ Below w.heap.size w w' := by
  obtain ⟨p, c, rfl, -⟩ := h.form
  have H := Lib.hid h
  have IH := Lib.hid ih
  have HW := Lib.hid hw
  have hlen : us.length ≤ 1048576 := by omega
  by_cases hu0 : us.length = 0
  · obtain rfl : us = [] := List.eq_nil_of_length_eq_zero hu0
    clear h ih hw
    go_enter Tryz.func278, Tryz.ntmps278
    go_wp2
    go_ret
    exact ⟨_, rfl, ListAt.nil _ _ _ _ _ _, by (repeat (first | with_reducible exact Below.refl _ _ | with_reducible assumption | with_reducible refine Below.al ?_ _ | with_reducible refine Below.sc ?_ (by first | exact Nat.le_refl _ | (simp; done) | (simp; omega)) _ | assumption | exact Below.refl _ _ | refine Below.dr ?_ | refine Below.drN ?_ _ | refine Below.step ?_ (by assumption)))⟩
  have hu1 : ((us.length : Int) == 0) = false := by rw [beq_eq_false_iff_ne]; omega
  obtain ⟨-, i, z, hi, hz, hsz, hby, hzs, -⟩ := elemTmI
  clear h ih hw
  go_enter Tryz.func278, Tryz.ntmps278
  go_wp2_with (at_make; refine wpList_make_full _ rfl _ _ _ rfl w.heap.size 57 i z 2 Tryz.underlying55 hi hz hsz _ _ _ _ us.length rfl rfl rfl rfl (by rw [hby]; omega) (by unfold maxLen; omega) (Nat.le_refl _) ?_; intro w1 ho1 hg1)
  have hb1 : Below w.heap.size w w1 := ⟨hg1.os, hg1.tape, hg1.output, hg1.size, fun k hk => hg1.block k hk (by simp)⟩
  have HO1 := Lib.hid ho1
  clear ho1 hg1
  go_loopw [14] (CpRel w.heap.size us.length m us w) (fun i _ => us.length - (intOf i).toNat)
  case atStart => exact ⟨0, _, Nat.zero_le _, rfl, HO1.out, hb1, fun j t hj => absurd hj (Nat.not_lt_zero _)⟩
  case round =>
    obtain ⟨k, xs, hk, rfl, ho, hb, hall⟩ := hrel
    have HO := Lib.hid ho
    have HALL := Lib.hid hall
    have hxl : xs.length = us.length * 2 := ho.1
    clear ho hall HO1 hb1
    by_cases hlt : k < us.length
    · obtain ⟨b, o, rfl, hB, x0, x1, hx0, hx1, hx⟩ := (H.out.mono (SameOn.below hb) (fun _ h => h) (fun x cs _ hx => TmAt.below hb hx)).at2 hlt
      have hwt := Tm.wts_le us hlt
      obtain ⟨a, ha⟩ : ∃ a, us[k] = a := ⟨_, rfl⟩
      have HK : Hid (us[k]? = some a) := Lib.hid (by rw [List.getElem?_eq_getElem hlt, ha])
      rw [ha] at hx hwt
      have HX := Lib.hid hx
      clear hx ha
      have hgw := own_lt HO.out
      obtain ⟨pxx, cxx, rfl, rfl, -⟩ := HX.out.form
      go_wp2_with fail
      refine (IH.out a _ _ _ (HX.out.below (by (repeat (first | with_reducible exact Below.refl _ _ | with_reducible assumption | with_reducible refine Below.al ?_ _ | with_reducible refine Below.sc ?_ (by first | exact Nat.le_refl _ | (simp; done) | (simp; omega)) _ | assumption | exact Below.refl _ _ | refine Below.dr ?_ | refine Below.drN ?_ _ | refine Below.step ?_ (by assumption))))) (by have := HW.out; omega)).mono ?_
      rintro e w2 ⟨u0, u1, rfl, hu, hb2⟩
      have ⟨cw2, fw2⟩ := bcell hb2
      have qw2 := hb2.size
      (try simp at qw2)
      (try have zw2w := bsz (show w.heap.size < w2.heap.size by omega))
      have hb2w : Below wr.heap.size wr w2 := by (repeat (first | with_reducible exact Below.refl _ _ | with_reducible assumption | with_reducible refine Below.al ?_ _ | with_reducible refine Below.sc ?_ (by first | exact Nat.le_refl _ | (simp; done) | (simp; omega)) _ | assumption | exact Below.refl _ _ | refine Below.dr ?_ | refine Below.drN ?_ _ | refine Below.step ?_ (by assumption)))
      obtain ⟨pu, cu, rfl, rfl, -, -⟩ := hu.form
      have HU := Lib.hid hu
      have HO2 := Lib.hid (own_below HO.out hb2w)
      clear hu
      obtain ⟨q0, hq0⟩ : ∃ q, w2.cell? ⟨w.heap.size, k * 2, none⟩ = some q := ⟨_, (HO2.out.cellAt (k * 2) (by omega)).trans (List.getElem?_eq_getElem (by omega))⟩
      obtain ⟨q1, hq1⟩ : ∃ q, w2.cell? ⟨w.heap.size, k * 2 + 1, none⟩ = some q := ⟨_, (HO2.out.cellAt (k * 2 + 1) (by omega)).trans (List.getElem?_eq_getElem (by omega))⟩
      have hf2 := fun j => HO2.out.frozenAt j
      clear cw2 fw2
      go_wp2
      generalize Value.string a.n = u0 at *
      generalize Value.slice pu a.us.length cu = u1 at *
      have ho3 := (HO2.out.stored (k * 2) u0).1
      have ho4 := (ho3.stored (k * 2 + 1) u1).1
      have hS : SameOn (fun b => w.heap.size < b) w2 ((w2.setCell ⟨w.heap.size, k * 2, none⟩ u0).setCell ⟨w.heap.size, k * 2 + 1, none⟩ u1) := by
        intro b hbb hlb
        exact (SameOn.store _ (p := ⟨w.heap.size, k * 2 + 1, none⟩) (B := fun b => w.heap.size < b) (fun b hb e => by simp at e; omega) u1 b hbb (by simpa using hlb)).trans (SameOn.store _ (p := ⟨w.heap.size, k * 2, none⟩) (B := fun b => w.heap.size < b) (fun b hb e => by simp at e; omega) u0 b hbb hlb)
      refine ⟨⟨k + 1, _, by omega, by go_num, ho4, ?_, ?_⟩, by simp [intOf]; omega⟩
      · exact ((show Below w.heap.size w w2 by (repeat (first | with_reducible exact Below.refl _ _ | with_reducible assumption | with_reducible refine Below.al ?_ _ | with_reducible refine Below.sc ?_ (by first | exact Nat.le_refl _ | (simp; done) | (simp; omega)) _ | assumption | exact Below.refl _ _ | refine Below.dr ?_ | refine Below.drN ?_ _ | refine Below.step ?_ (by assumption)))).setCell (Nat.le_refl _) _).setCell (Nat.le_refl _) _
      · intro j t hj ht
        by_cases hjk : j = k
        · subst hjk
          rw [HK.out] at ht
          obtain rfl := Option.some.inj ht
          refine ⟨u0, u1, ?_, ?_, (HU.out.mono (B' := fun b => w.heap.size < b) (SameOn.refl _ _) (fun b hb => by simp at hb; omega) m m _ _ (Nat.le_refl _)).mono hS (fun b hb => hb) m m _ _ (Nat.le_refl _)⟩
          · rw [List.getElem?_set_ne (by omega), List.getElem?_set_self (by omega)]
          · rw [List.getElem?_set_self (by simp; omega)]
        · obtain ⟨y0, y1, e0, e1, hy⟩ := HALL.out j t (by omega) ht
          refine ⟨y0, y1, ?_, ?_, (hy.below hb2w).mono hS (fun b hb => hb) m m _ _ (Nat.le_refl _)⟩
          · rw [List.getElem?_set_ne (by omega), List.getElem?_set_ne (by omega)]; exact e0
          · rw [List.getElem?_set_ne (by omega), List.getElem?_set_ne (by omega)]; exact e1
    · obtain rfl : k = us.length := by omega
      go_wp2
      go_ret
      refine ⟨_, rfl, listAt_row2c HO.out rfl (by unfold maxLen; omega) (Nat.le_refl _) (fun j t ht => ?_), hb⟩
      obtain ⟨y0, y1, e0, e1, hy⟩ := HALL.out j t ((List.getElem?_eq_some_iff.1 ht).1) ht
      exact ⟨y0, y1, e0, e1, hy.mono (SameOn.refl _ _) (fun b hb => Nat.le_of_lt hb) m m _ _ (Nat.le_refl _)⟩
set_option maxRecDepth 100000 in
set_option maxHeartbeats 1600000 in
theorem copyTerm_any {B : Nat → Prop} : ∀ (m : Nat) (t : Tm) (v0 v1 : Value) (w : World), TmAt B m w t [v0, v1] → t.wt ≤ 1048576 →
      Calls Tryz.prog 216 #[.agg #[v0, v1]] w fun e w' => ∃ u0 u1, e = .returned (.agg #[u0, u1]) ∧ TmAt (fun b => w.heap.size ≤ b) m w' t [u0, u1] ∧ Below w.heap.size w w' := by
  intro m
  induction m with
  | zero => intro t v0 v1 w h; exact h.elim
  | succ m ih =>
    rintro ⟨s, us⟩ v0 v1 w ⟨va, hcs, hs, hl⟩ hw
    simp only [List.cons.injEq, and_true] at hcs
    obtain ⟨rfl, rfl⟩ := hcs
    rw [Tm.wt] at hw
    have HS := Lib.hid (copyTerms_of m ih)
    have HL := Lib.hid hl
    have HM := Lib.hid (And.intro hs hw)
    obtain ⟨p, c, rfl, -⟩ := hl.form
    clear ih hl hs hw
    go_enter Tryz.func216, Tryz.ntmps216
    go_wp2
    have c0 : (w.alloc (.cells #[.string s, .slice p us.length c] 57)).cell? ⟨w.heap.size, 0, none⟩ = some (.string s) := by go_simp
    obtain ⟨W, hW⟩ : ∃ W : World, W = (w.alloc (.cells #[.string s, .slice p us.length c] 57)).alloc (.cells #[.string ⟨#[]⟩, .slice none 0 0] 57) := ⟨_, rfl⟩
    have hsW : W.heap.size = w.heap.size + 2 := by rw [hW]; simp
    have hbW : Below w.heap.size w W := by rw [hW]; (repeat (first | with_reducible exact Below.refl _ _ | with_reducible assumption | with_reducible refine Below.al ?_ _ | with_reducible refine Below.sc ?_ (by first | exact Nat.le_refl _ | (simp; done) | (simp; omega)) _ | assumption | exact Below.refl _ _ | refine Below.dr ?_ | refine Below.drN ?_ _ | refine Below.step ?_ (by assumption)))
    have a0 : W.cell? ⟨w.heap.size, 0, none⟩ = some (.string s) := by rw [hW]; go_simp
    have a1 : W.cell? ⟨w.heap.size, 1, none⟩ = some (.slice p us.length c) := by rw [hW]; go_simp
    have r0 : W.cell? ⟨w.heap.size + 1, 0, none⟩ = some (.string ⟨#[]⟩) := by rw [hW]; go_simp
    have r1 : W.cell? ⟨w.heap.size + 1, 1, none⟩ = some (.slice none 0 0) := by rw [hW]; go_simp
    have rf : ∀ j, W.frozen? ⟨w.heap.size + 1, j, none⟩ = false := fun j => by rw [hW]; go_simp
    rw [← hW]
    clear hW c0
    have zW := bsz (show w.heap.size < W.heap.size by omega)
    have zW1 := bsz (show w.heap.size + 1 < W.heap.size by omega)
    go_region_held3 (fun w' => w'.cell? ⟨w.heap.size, 0, none⟩ = some (.string s) ∧ w'.cell? ⟨w.heap.size, 1, none⟩ = some (.slice p us.length c)) (first | go_keep | (refine ⟨?_, ?_⟩ <;> first | assumption | (go_simp; done) | (exact (World.cell?_of_block (hb6.block _ (by simp; omega))).trans (by first | assumption | (go_simp; done))))) (first | (go_at_call 278; refine (HS.out us _ _ (HL.out.mono (SameOn.below (by (repeat (first | with_reducible exact Below.refl _ _ | with_reducible assumption | with_reducible refine Below.al ?_ _ | with_reducible refine Below.sc ?_ (by first | exact Nat.le_refl _ | (simp; done) | (simp; omega)) _ | assumption | exact Below.refl _ _ | refine Below.dr ?_ | refine Below.drN ?_ _ | refine Below.step ?_ (by assumption))))) (fun _ h => h) (fun x cs _ hx => TmAt.below (by (repeat (first | with_reducible exact Below.refl _ _ | with_reducible assumption | with_reducible refine Below.al ?_ _ | with_reducible refine Below.sc ?_ (by first | exact Nat.le_refl _ | (simp; done) | (simp; omega)) _ | assumption | exact Below.refl _ _ | refine Below.dr ?_ | refine Below.drN ?_ _ | refine Below.step ?_ (by assumption)))) hx)) (by have := HM.out.2; omega)).mono ?_; rintro e w6 ⟨u, rfl, hu, hb6⟩; obtain ⟨pu, cu, rfl, -⟩ := hu.form; have HU := Lib.hid hu; clear hu; have hq6 := hb6.size; (try simp at hq6); have ⟨cb6, fb6⟩ := bcell hb6; have zr := bsz (show w.heap.size + 1 < w6.heap.size by omega)))
    all_goals
      go_wp2
      refine bodyPost_ret (v := .agg #[.string s, .slice pu us.length cu]) (by simp only [results, Tryz.results216]; go_simp) rfl ⟨_, _, rfl, ⟨_, rfl, HM.out.1, ?_⟩, by (repeat (first | with_reducible exact Below.refl _ _ | with_reducible assumption | with_reducible refine Below.al ?_ _ | with_reducible refine Below.sc ?_ (by first | exact Nat.le_refl _ | (simp; done) | (simp; omega)) _ | assumption | exact Below.refl _ _ | refine Below.dr ?_ | refine Below.drN ?_ _ | refine Below.step ?_ (by assumption)))⟩
      refine HU.out.mono (((SameOn.refl _ _).sc ?_ _).sc ?_ _) (fun b hb => by simp at hb; omega) (fun x cs _ hx => TmAt.mono (((SameOn.refl _ _).sc ?_ _).sc ?_ _) (fun b hb => by simp at hb; omega) m m x cs (Nat.le_refl _) hx)
      all_goals (intro b hb; simp at hb ⊢; omega)
end Go.Proofs.YtcegllnljaapiaaGreatDoor
namespace Go.Proofs.YtcegllnljaapiaaGreatDoor
open Go.RowKit
def Lit3.fm (l : Lit3) : Fm := if l.pos then atomOfF l.a else opF 4 [atomOfF l.a]
theorem alloc_new_at {W : World} {o : Obj} {k : Nat} (h : W.heap.size = k) : (W.alloc o).heap[k]? = some o := h ▸ heap_alloc_new W o
theorem opF_at {B : Nat → Prop} {m : Nat} {w : World} {op : Int} {ps : List Fm} {vp : Value} (ho : -9223372036854775808 ≤ op ∧ op ≤ 9223372036854775807) (h : ListAt B w 5 (FmAt B (m + 1) w) vp ps) :
    FmAt B (m + 2) w (opF op ps) [.int .i64 op, .string ⟨#[]⟩, .slice none 0 0, .string ⟨#[]⟩, vp] :=
  ⟨_, _, _, rfl, ho, Nat.zero_le _, ⟨_, rfl, Nat.zero_le _, ListAt.nil _ _ _ _ _ _⟩, h⟩
theorem list_one {α : Type} {B : Nat → Prop} {w : World} {R : α → List Value → Prop} {g : Nat} {x : α} {cs : Array Value} {e : TypeId} (hg : w.heap[g]? = some (.cells cs e (0, 0))) (hB : B g) (hc : cs.size = 5) (hR : R x cs.toList) : ListAt B w 5 R (.slice (some ⟨g, 0, none⟩) 1 1) [x] := by
  refine ⟨_, _, rfl, by simp [maxLen], fun i y hy => ⟨g, 0, rfl, hB, cs.toList, by simpa using hc, fun j hj => ?_, ?_⟩⟩
  · have hi : i < 1 := by have := (List.getElem?_eq_some_iff.1 hy).1; simpa using this
    obtain rfl : i = 0 := by omega
    rw [cell_of_row w g _ cs e (0, 0) hg]; simp
  · have hi : i < 1 := by have := (List.getElem?_eq_some_iff.1 hy).1; simpa using this
    obtain rfl : i = 0 := by omega
    obtain rfl : x = y := by simpa using hy
    exact hR
theorem list_two {α : Type} {B : Nat → Prop} {w : World} {R : α → List Value → Prop} {g : Nat} {x y : α} {cs ds : List Value} {all : Array Value} {e : TypeId} (hall : all = (cs ++ ds).toArray) (hg : w.heap[g]? = some (.cells all e (0, 0))) (hB : B g) (hc : cs.length = 5) (hd : ds.length = 5) (hR : R x cs) (hR2 : R y ds) : ListAt B w 5 R (.slice (some ⟨g, 0, none⟩) 2 2) [x, y] := by
  subst hall
  refine ⟨_, _, rfl, by simp [maxLen], fun i z hz => ?_⟩
  have hi : i < 2 := by have := (List.getElem?_eq_some_iff.1 hz).1; simpa using this
  match i, hi with
  | 0, _ =>
    obtain rfl : x = z := by simpa using hz
    refine ⟨g, 0, rfl, hB, cs, hc, fun j hj => ?_, hR⟩
    rw [cell_of_row w g _ _ e (0, 0) hg]
    simp [List.getElem?_append_left (show j < cs.length by omega)]
  | 1, _ =>
    obtain rfl : y = z := by simpa using hz
    refine ⟨g, 0, rfl, hB, ds, hd, fun j hj => ?_, hR2⟩
    rw [cell_of_row w g _ _ e (0, 0) hg]
    simp only [List.getElem?_toArray]
    rw [List.getElem?_append_right (by omega)]
    congr 1; omega
set_option maxRecDepth 100000 in
set_option maxHeartbeats 800000 in
theorem atomOf_at {B : Nat → Prop} (m : Nat) (t : Tm) (v0 v1 : Value) (w : World) (h : TmAt B m w t [v0, v1]) :
    Calls Tryz.prog 155 #[.agg #[v0, v1]] w fun e w' => e = .returned (.agg #[.int .i64 3, v0, v1, .string ⟨#[]⟩, .slice none 0 0]) ∧ FmAt B (m + 1) w' (atomOfF t) [.int .i64 3, v0, v1, .string ⟨#[]⟩, .slice none 0 0] ∧ Below w.heap.size w w' := by
  obtain ⟨p, c, rfl, rfl, -⟩ := h.form
  have HF := Lib.hid h
  clear h
  go_enter Tryz.func155, Tryz.ntmps155
  go_wp2
  refine bodyPost_ret (v := .agg #[.int .i64 3, .string t.n, .slice p t.us.length c, .string ⟨#[]⟩, .slice none 0 0]) (by simp only [results, Tryz.results155]; go_simp) rfl ⟨rfl, ⟨_, _, _, rfl, by omega, Nat.zero_le _, HF.out.below (by (repeat (first | with_reducible exact Below.refl _ _ | with_reducible assumption | with_reducible refine Below.al ?_ _ | with_reducible refine Below.sc ?_ (by first | exact Nat.le_refl _ | (simp; done) | (simp; omega)) _ | assumption | exact Below.refl _ _ | refine Below.dr ?_ | refine Below.drN ?_ _ | refine Below.step ?_ (by assumption)))), ListAt.nil _ _ _ _ _ _⟩, by (repeat (first | with_reducible exact Below.refl _ _ | with_reducible assumption | with_reducible refine Below.al ?_ _ | with_reducible refine Below.sc ?_ (by first | exact Nat.le_refl _ | (simp; done) | (simp; omega)) _ | assumption | exact Below.refl _ _ | refine Below.dr ?_ | refine Below.drN ?_ _ | refine Below.step ?_ (by assumption)))⟩
set_option maxRecDepth 100000 in
set_option maxHeartbeats 800000 in
theorem not_at {B : Nat → Prop} (m : Nat) (t : Fm) (v0 v1 v2 v3 v4 : Value) (w : World) (h : FmAt B (m + 1) w t [v0, v1, v2, v3, v4]) :
    Calls Tryz.prog 269 #[.agg #[v0, v1, v2, v3, v4]] w fun e w' => ∃ u0 u1 u2 u3 u4, e = .returned (.agg #[u0, u1, u2, u3, u4]) ∧ FmAt (fun b => B b ∨ w.heap.size ≤ b) (m + 2) w' (opF 4 [t]) [u0, u1, u2, u3, u4] ∧ Below w.heap.size w w' := by
  obtain ⟨p, c, q, d, rfl, rfl, rfl, rfl, rfl, -⟩ := h.form
  have HF := Lib.hid h
  clear h
  go_enter Tryz.func269, Tryz.ntmps269
  go_wp2
  refine bodyPost_ret (v := .agg #[.int .i64 4, .string ⟨#[]⟩, .slice none 0 0, .string ⟨#[]⟩, .slice (some ⟨w.heap.size + 1 + 1, 0, none⟩) 1 1]) (by simp only [results, Tryz.results269]; go_simp) rfl ⟨_, _, _, _, _, rfl, opF_at (by omega) ?_, by (repeat (first | with_reducible exact Below.refl _ _ | with_reducible assumption | with_reducible refine Below.al ?_ _ | with_reducible refine Below.sc ?_ (by first | exact Nat.le_refl _ | (simp; done) | (simp; omega)) _ | assumption | exact Below.refl _ _ | refine Below.dr ?_ | refine Below.drN ?_ _ | refine Below.step ?_ (by assumption)))⟩
  refine list_one (e := 60) (cs := #[.int .i64 t.op, .string t.a.n, .slice p t.a.us.length c, .string t.v, .slice q t.ps.length d]) ?_ (.inr (by omega)) rfl (FmAt.mono (SameOn.below (by (repeat (first | with_reducible exact Below.refl _ _ | with_reducible assumption | with_reducible refine Below.al ?_ _ | with_reducible refine Below.sc ?_ (by first | exact Nat.le_refl _ | (simp; done) | (simp; omega)) _ | assumption | exact Below.refl _ _ | refine Below.dr ?_ | refine Below.drN ?_ _ | refine Below.step ?_ (by assumption))))) (fun b hb => .inl hb) _ _ _ _ (Nat.le_refl _) HF.out)
  exact alloc_new_at (by simp)
set_option maxRecDepth 100000 in
set_option maxHeartbeats 800000 in
theorem binary_at {B : Nat → Prop} (m : Nat) (op : Int) (ho : -9223372036854775808 ≤ op ∧ op ≤ 9223372036854775807) (t r : Fm) (v0 v1 v2 v3 v4 u0 u1 u2 u3 u4 : Value) (w : World) (h : FmAt B (m + 1) w t [v0, v1, v2, v3, v4]) (h' : FmAt B (m + 1) w r [u0, u1, u2, u3, u4]) :
    Calls Tryz.prog 206 #[.int .i64 op, .agg #[v0, v1, v2, v3, v4], .agg #[u0, u1, u2, u3, u4]] w fun e w' => ∃ z0 z1 z2 z3 z4, e = .returned (.agg #[z0, z1, z2, z3, z4]) ∧ FmAt (fun b => B b ∨ w.heap.size ≤ b) (m + 2) w' (opF op [t, r]) [z0, z1, z2, z3, z4] ∧ Below w.heap.size w w' := by
  obtain ⟨p, c, q, d, rfl, rfl, rfl, rfl, rfl, -⟩ := h.form
  obtain ⟨p', c', q', d', rfl, rfl, rfl, rfl, rfl, -⟩ := h'.form
  have HF := Lib.hid h
  have HF' := Lib.hid h'
  clear h h'
  go_enter Tryz.func206, Tryz.ntmps206
  go_wp2
  refine bodyPost_ret (v := .agg #[.int .i64 op, .string ⟨#[]⟩, .slice none 0 0, .string ⟨#[]⟩, .slice (some ⟨w.heap.size + 1 + 1 + 1, 0, none⟩) 2 2]) (by simp only [results, Tryz.results206]; go_simp) rfl ⟨_, _, _, _, _, rfl, opF_at ho ?_, by (repeat (first | with_reducible exact Below.refl _ _ | with_reducible assumption | with_reducible refine Below.al ?_ _ | with_reducible refine Below.sc ?_ (by first | exact Nat.le_refl _ | (simp; done) | (simp; omega)) _ | assumption | exact Below.refl _ _ | refine Below.dr ?_ | refine Below.drN ?_ _ | refine Below.step ?_ (by assumption)))⟩
  refine list_two (e := 60) (cs := [.int .i64 t.op, .string t.a.n, .slice p t.a.us.length c, .string t.v, .slice q t.ps.length d]) (ds := [.int .i64 r.op, .string r.a.n, .slice p' r.a.us.length c', .string r.v, .slice q' r.ps.length d']) rfl ?_ (.inr (by omega)) rfl rfl (FmAt.mono (SameOn.below (by (repeat (first | with_reducible exact Below.refl _ _ | with_reducible assumption | with_reducible refine Below.al ?_ _ | with_reducible refine Below.sc ?_ (by first | exact Nat.le_refl _ | (simp; done) | (simp; omega)) _ | assumption | exact Below.refl _ _ | refine Below.dr ?_ | refine Below.drN ?_ _ | refine Below.step ?_ (by assumption))))) (fun b hb => .inl hb) _ _ _ _ (Nat.le_refl _) HF.out) (FmAt.mono (SameOn.below (by (repeat (first | with_reducible exact Below.refl _ _ | with_reducible assumption | with_reducible refine Below.al ?_ _ | with_reducible refine Below.sc ?_ (by first | exact Nat.le_refl _ | (simp; done) | (simp; omega)) _ | assumption | exact Below.refl _ _ | refine Below.dr ?_ | refine Below.drN ?_ _ | refine Below.step ?_ (by assumption))))) (fun b hb => .inl hb) _ _ _ _ (Nat.le_refl _) HF'.out)
  exact alloc_new_at (by simp)
end Go.Proofs.YtcegllnljaapiaaGreatDoor
namespace Go.Proofs.YtcegllnljaapiaaGreatDoor
open Go.RowKit
theorem upC_iff (c : UInt8) : upC c = true ↔ ¬ (c.toNat : Int) < 65 ∧ ¬ 90 < (c.toNat : Int) := by
  simp only [upC, Bool.and_eq_true, decide_eq_true_eq]; omega
theorem loC_iff (c : UInt8) : loC c = true ↔ ¬ (c.toNat : Int) < 97 ∧ ¬ 122 < (c.toNat : Int) := by
  simp only [loC, Bool.and_eq_true, decide_eq_true_eq]; omega
theorem varB_eq (s : ByteArray) : varB s.data.toList = (inB (s.size : Int) 1 4 && headTail upC smC s.data.toList) := by
  unfold varB inB; rw [← size_list]
  congr 1
  rw [Bool.eq_iff_iff]; simp; omega
theorem symB_eq (s : ByteArray) : symB s.data.toList = (inB (s.size : Int) 1 6 && headTail loC unC s.data.toList && !keyW.contains s.data.toList) := by
  unfold symB inB; rw [← size_list]
  congr 2
  rw [Bool.eq_iff_iff]; simp; omega
set_option maxHeartbeats 1600000 in
theorem l2Var_any (s : ByteArray) (w : World) (hs : s.size ≤ maxLen) :
    Calls Tryz.prog 220 #[.string s] w fun e w' => e = .returned (.bool (varB s.data.toList)) ∧ w = w' := by
  unfold maxLen at hs
  have HV := Lib.hid (varB_eq s)
  cases hB : inB (s.size : Int) 1 4
  · have HB := Lib.hid hB
    go_enter Tryz.func220, Tryz.ntmps220
    go_wp2_with (first | (go_at_call 48; refine (l1In_any _ _ _ _).mono ?_; rintro e w' ⟨rfl, rfl⟩))
    go_ret
    exact ⟨ret_bool (by rw [HV.out, HB.out]; rfl), rfl⟩
  · have HB := Lib.hid hB
    have hsz : 0 < s.size := by simp only [inB, Bool.and_eq_true, decide_eq_true_eq] at hB; omega
    have H0 := Lib.hid (headTail_take upC smC s 0 hsz)
    have HN0 := Lib.hid (headTail_no upC smC s 0 hsz)
    cases hU : upC s[0]
    · have HU := Lib.hid hU
      have hor : (s[0].toNat : Int) < 65 ∨ 90 < (s[0].toNat : Int) := by
        have := (not_congr (upC_iff s[0])).1 (by rw [hU]; simp)
        omega
      rcases hor with h1 | h1
      · go_enter Tryz.func220, Tryz.ntmps220
        go_wp2_with (first | (go_at_call 48; refine (l1In_any _ _ _ _).mono ?_; rintro e w' ⟨rfl, rfl⟩))
        go_ret
        exact ⟨ret_bool (by rw [HV.out, HN0.out (by simpa using HU.out)]; simp), rfl⟩
      · have h2 : ¬ (s[0].toNat : Int) < 65 := by omega
        go_enter Tryz.func220, Tryz.ntmps220
        go_wp2_with (first | (go_at_call 48; refine (l1In_any _ _ _ _).mono ?_; rintro e w' ⟨rfl, rfl⟩))
        go_ret
        exact ⟨ret_bool (by rw [HV.out, HN0.out (by simpa using HU.out)]; simp), rfl⟩
    · have HU := Lib.hid hU
      obtain ⟨h1, h2⟩ := (upC_iff s[0]).1 hU
      go_enter Tryz.func220, Tryz.ntmps220
      go_wp2_with (first | (go_at_call 48; refine (l1In_any _ _ _ _).mono ?_; rintro e w' ⟨rfl, rfl⟩))
      go_loop [3] (fun i => ∃ k : Nat, 1 ≤ k ∧ k ≤ s.size ∧ i = .int .i64 k ∧ headTail upC smC (s.data.toList.take k) = true) (fun i => s.size - (intOf i).toNat)
      case atStart => exact ⟨1, by omega, by omega, rfl, by rw [H0.out]; simp [HU.out, headTail]⟩
      case round =>
        obtain ⟨k, hk1, hk, rfl, hp⟩ := hrel
        have HP := Lib.hid hp; clear hp
        by_cases hlt : k < s.size
        · have HT := Lib.hid (headTail_take upC smC s k hlt)
          have HN := Lib.hid (headTail_no upC smC s k hlt)
          have hk0 : ¬ k = 0 := by omega
          cases hL : smC s[k]
          all_goals
            have HL := Lib.hid hL
            go_wp2_with (first | (go_at_call 180; refine (l2Small_any _ _).mono ?_; rintro e w' ⟨rfl, rfl⟩))
          · go_ret
            exact ⟨ret_bool (by rw [HV.out, HN.out (by rw [if_neg hk0, HL.out])]; simp), rfl⟩
          · refine ⟨⟨k + 1, by omega, by omega, by go_num, ?_⟩, by simp [intOf]; omega⟩
            rw [HT.out, HP.out, if_neg hk0, HL.out]; rfl
        · go_wp2
          go_ret
          exact ⟨ret_bool (by have := HP.out; rw [take_all _ _ (by omega)] at this; rw [HV.out, this, HB.out]; rfl), rfl⟩
/-- The switch over the keywords, as the walk spells its tests. -/
theorem key_no {s : ByteArray} (h : keyW.contains s.data.toList = false) : ∀ l ∈ keyW, (s.toList == l) = false := by
  intro l hl
  rw [beq_eq_false_iff_ne, ByteArray.toList_eq]
  rintro rfl
  rw [← Bool.not_eq_true, List.contains_iff_mem] at h
  exact h hl
theorem key_yes {s : ByteArray} (h : keyW.contains s.data.toList = true) : s.toList ∈ keyW := by
  rw [ByteArray.toList_eq]; exact List.contains_iff_mem.1 h
set_option maxHeartbeats 1600000 in
theorem l2Symbol_any (s : ByteArray) (w : World) (hs : s.size ≤ maxLen) :
    Calls Tryz.prog 103 #[.string s] w fun e w' => e = .returned (.bool (symB s.data.toList)) ∧ w = w' := by
  unfold maxLen at hs
  have HV := Lib.hid (symB_eq s)
  cases hB : inB (s.size : Int) 1 6
  · have HB := Lib.hid hB
    go_enter Tryz.func103, Tryz.ntmps103
    go_wp2_with (first | (go_at_call 48; refine (l1In_any _ _ _ _).mono ?_; rintro e w' ⟨rfl, rfl⟩))
    go_ret
    exact ⟨ret_bool (by rw [HV.out, HB.out]; rfl), rfl⟩
  · have HB := Lib.hid hB
    have hsz : 0 < s.size := by simp only [inB, Bool.and_eq_true, decide_eq_true_eq] at hB; omega
    have H0 := Lib.hid (headTail_take loC unC s 0 hsz)
    have HN0 := Lib.hid (headTail_no loC unC s 0 hsz)
    cases hU : loC s[0]
    · have HU := Lib.hid hU
      have hor : (s[0].toNat : Int) < 97 ∨ 122 < (s[0].toNat : Int) := by
        have := (not_congr (loC_iff s[0])).1 (by rw [hU]; simp)
        omega
      rcases hor with h1 | h1
      · go_enter Tryz.func103, Tryz.ntmps103
        go_wp2_with (first | (go_at_call 48; refine (l1In_any _ _ _ _).mono ?_; rintro e w' ⟨rfl, rfl⟩))
        go_ret
        exact ⟨ret_bool (by rw [HV.out, HN0.out (by simpa using HU.out)]; simp), rfl⟩
      · have h2 : ¬ (s[0].toNat : Int) < 97 := by omega
        go_enter Tryz.func103, Tryz.ntmps103
        go_wp2_with (first | (go_at_call 48; refine (l1In_any _ _ _ _).mono ?_; rintro e w' ⟨rfl, rfl⟩))
        go_ret
        exact ⟨ret_bool (by rw [HV.out, HN0.out (by simpa using HU.out)]; simp), rfl⟩
    · have HU := Lib.hid hU
      obtain ⟨h1, h2⟩ := (loC_iff s[0]).1 hU
      cases hK : keyW.contains s.data.toList
      · have HK := Lib.hid hK
        have k0 : (s.toList == [116, 114, 117, 101]) = false := key_no HK.out _ (by decide)
        have k1 : (s.toList == [102, 97, 108, 115, 101]) = false := key_no HK.out _ (by decide)
        have k2 : (s.toList == [116, 114, 117, 116, 104]) = false := key_no HK.out _ (by decide)
        have k3 : (s.toList == [98, 111, 116, 104]) = false := key_no HK.out _ (by decide)
        have k4 : (s.toList == [101, 105, 116, 104, 101, 114]) = false := key_no HK.out _ (by decide)
        have k5 : (s.toList == [105, 102]) = false := key_no HK.out _ (by decide)
        have k6 : (s.toList == [97, 108, 108]) = false := key_no HK.out _ (by decide)
        have k7 : (s.toList == [115, 111, 109, 101]) = false := key_no HK.out _ (by decide)
        go_enter Tryz.func103, Tryz.ntmps103
        go_wp2_with (first | (go_at_call 48; refine (l1In_any _ _ _ _).mono ?_; rintro e w' ⟨rfl, rfl⟩))
        go_loop [3] (fun i => ∃ k : Nat, 1 ≤ k ∧ k ≤ s.size ∧ i = .int .i64 k ∧ headTail loC unC (s.data.toList.take k) = true) (fun i => s.size - (intOf i).toNat)
        case atStart => exact ⟨1, by omega, by omega, rfl, by rw [H0.out]; simp [HU.out, headTail]⟩
        case round =>
          obtain ⟨k, hk1, hk, rfl, hp⟩ := hrel
          have HP := Lib.hid hp; clear hp
          by_cases hlt : k < s.size
          · have HT := Lib.hid (headTail_take loC unC s k hlt)
            have HN := Lib.hid (headTail_no loC unC s k hlt)
            have hk0 : ¬ k = 0 := by omega
            have HUN := Lib.hid (show unC s[k] = (smC s[k] || (s[k] == 95)) from rfl)
            cases hL : smC s[k]
            · have HL := Lib.hid hL
              by_cases h9 : s[k] = 95
              · have H9 := Lib.hid h9
                have h91 : ((s[k].toNat : Int) != 95) = false := by rw [h9]; rfl
                clear h9
                go_wp2_with (first | (go_at_call 180; refine (l2Small_any _ _).mono ?_; rintro e w' ⟨rfl, rfl⟩))
                refine ⟨⟨k + 1, by omega, by omega, by go_num, ?_⟩, by simp [intOf]; omega⟩
                rw [HT.out, HP.out, if_neg hk0, HUN.out, H9.out]; rfl
              · have H9 := Lib.hid (show (s[k] == 95) = false by simpa using h9)
                have h91 : ((s[k].toNat : Int) != 95) = true := by
                  have h9n : ¬ (s[k].toNat : Int) = 95 := fun e => h9 (UInt8.toNat_inj.1 (show s[k].toNat = 95 by omega))
                  simpa using h9n
                clear h9
                go_wp2_with (first | (go_at_call 180; refine (l2Small_any _ _).mono ?_; rintro e w' ⟨rfl, rfl⟩))
                go_ret
                exact ⟨ret_bool (by rw [HV.out, HN.out (by rw [if_neg hk0, HUN.out, HL.out, H9.out]; rfl)]; simp), rfl⟩
            · have HL := Lib.hid hL
              go_wp2_with (first | (go_at_call 180; refine (l2Small_any _ _).mono ?_; rintro e w' ⟨rfl, rfl⟩))
              refine ⟨⟨k + 1, by omega, by omega, by go_num, ?_⟩, by simp [intOf]; omega⟩
              rw [HT.out, HP.out, if_neg hk0, HUN.out, HL.out]; rfl
          · go_wp2
            go_ret
            exact ⟨ret_bool (by have := HP.out; rw [take_all _ _ (by omega)] at this; rw [HV.out, this, HB.out, HK.out]; rfl), rfl⟩
      · have HK := Lib.hid hK
        have hmem := key_yes hK
        simp only [keyW, List.mem_cons, List.not_mem_nil, or_false] at hmem
        rcases hmem with h | h | h | h | h | h | h | h
        all_goals
          go_enter Tryz.func103, Tryz.ntmps103
          go_wp2_with (first | (go_at_call 48; refine (l1In_any _ _ _ _).mono ?_; rintro e w' ⟨rfl, rfl⟩))
          go_ret
          exact ⟨ret_bool (by rw [HV.out, HK.out]; simp), rfl⟩
end Go.Proofs.YtcegllnljaapiaaGreatDoor
