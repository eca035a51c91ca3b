/- Valid formulas, both sides: one level. Conditions: sizes. -/
import Derived.Test.YtinfogmjijeliaaForms
namespace Go.Proofs.Ytinfogmjijeliaa
open Go.RowKit
def FirstAt (b : Bool) (w : World) (e : Ending) (w' : World) : Prop := ∃ r : Int, e = .returned (.int .i64 r) ∧ decide (0 ≤ r) = b ∧ Below w.heap.size w w'
theorem any_drop {α : Type} (us : List α) (P : α → Bool) {k : Nat} (h : k < us.length) : (us.drop k).any P = (P us[k] || (us.drop (k + 1)).any P) := by
  rw [List.drop_eq_getElem_cons h, List.any_cons]
theorem all_drop {α : Type} (us : List α) (P : α → Bool) {k : Nat} (h : k < us.length) : (us.drop k).all P = (P us[k] && (us.drop (k + 1)).all P) := by
  rw [List.drop_eq_getElem_cons h, List.all_cons]
theorem empt_iff (s : ByteArray) : s.toList.isEmpty = s.data.toList.isEmpty := by rw [ByteArray.toList_eq]
theorem l8None_any {B : Nat → Prop} (m : Nat) (t : Tm) (v0 v1 : Value) (w : World) (h : TmAt B m w t [v0, v1]) : Calls Try.prog 111 #[.agg #[v0, v1]] w fun e w' => e = .returned (.bool t.none) ∧ Below w.heap.size w w' := by
  obtain ⟨p, c, rfl, rfl, -, -⟩ := h.form
  clear h
  have HN := Lib.hid (show t.none = (t.n.toList.isEmpty && ((t.us.length : Int) == 0)) by rw [empt_iff, Tm.none]; cases t.us <;> simp; omega)
  go_enter Try.func111, Try.ntmps111
  go_wp2
  all_goals
    go_ret
    exact ⟨ret_bool (by rw [HN.out]; simp_all), by (repeat (first | with_reducible exact Below.refl _ _ | with_reducible assumption | with_reducible refine Below.al ?_ _ | with_reducible refine Below.sc ?_ (by first | exact Nat.le_refl _ | (simp; done) | (simp; omega)) _ | assumption | exact Below.refl _ _ | refine Below.dr ?_ | refine Below.drN ?_ _ | refine Below.step ?_ (by assumption)))⟩
theorem isZeroTerm_any {B : Nat → Prop} (m : Nat) (t : Tm) (v0 v1 : Value) (w : World) (h : TmAt B m w t [v0, v1]) : Calls Try.prog 86 #[.agg #[v0, v1]] w fun e w' => e = .returned (.bool t.none) ∧ Below w.heap.size w w' := by
  obtain ⟨p, c, rfl, rfl, -, -⟩ := h.form
  clear h
  have HN := Lib.hid (show t.none = (t.n.toList.isEmpty && ((t.us.length : Int) == 0)) by rw [empt_iff, Tm.none]; cases t.us <;> simp; omega)
  go_enter Try.func86, Try.ntmps86
  go_wp2
  all_goals
    go_ret
    exact ⟨ret_bool (by rw [HN.out]; simp_all), by (repeat (first | with_reducible exact Below.refl _ _ | with_reducible assumption | with_reducible refine Below.al ?_ _ | with_reducible refine Below.sc ?_ (by first | exact Nat.le_refl _ | (simp; done) | (simp; omega)) _ | assumption | exact Below.refl _ _ | refine Below.dr ?_ | refine Below.drN ?_ _ | refine Below.step ?_ (by assumption)))⟩
theorem len0 {α : Type} {l : List α} : (0 = l.length) = (l = []) := propext ⟨fun h => List.eq_nil_of_length_eq_zero h.symm, fun h => by rw [h]; rfl⟩
theorem len1 {n : Nat} : (1 = n) = ((n : Int) = 1) := propext ⟨fun h => by omega, fun h => by omega⟩
theorem len2 {n : Nat} : (2 = n) = ((n : Int) = 2) := propext ⟨fun h => by omega, fun h => by omega⟩
theorem op_cases (op : Int) : op = 1 ∨ op = 2 ∨ op = 3 ∨ op = 4 ∨ op = 5 ∨ op = 6 ∨ op = 7 ∨ op = 8 ∨ op = 9 ∨ (¬op = 1 ∧ ¬op = 2 ∧ ¬op = 3 ∧ ¬op = 4 ∧ ¬op = 5 ∧ ¬op = 6 ∧ ¬op = 7 ∧ ¬op = 8 ∧ ¬op = 9) := by omega
set_option maxRecDepth 100000 in
set_option maxHeartbeats 1600000 in
theorem l8Form_any {B : Nat → Prop} (m : Nat) (t : Fm) (v0 v1 v2 v3 v4 : Value) (w : World) (h : FmAt B m w t [v0, v1, v2, v3, v4]) (hz : t.a.sz ≤ 100000000) :
    Calls Try.prog 80 #[.agg #[v0, v1, v2, v3, v4]] w fun e w' => e = .returned (.bool t.form1) ∧ Below w.heap.size w w' := by
  have HA := Lib.hid h.atm
  obtain ⟨p, c, q, d, rfl, rfl, rfl, rfl, rfl, hop, hn, -, hv, hps⟩ := h.form
  obtain ⟨op, a, x, ps⟩ := t
  simp only [Fm.op, Fm.a, Fm.v, Fm.ps] at *
  have HV := Lib.hid hv
  unfold maxLen at hps
  clear h hn hv
  rcases op_cases op with rfl | rfl | rfl | rfl | rfl | rfl | rfl | rfl | rfl | ⟨h1, h2, h3, h4, h5, h6, h7, h8, h9⟩
  all_goals
    go_enter Try.func80, Try.ntmps80
    go_wp2_with (first | (go_at_call 111; refine (l8None_any m a _ _ _ (HA.out.below (by (repeat (first | with_reducible exact Below.refl _ _ | with_reducible assumption | with_reducible refine Below.al ?_ _ | with_reducible refine Below.sc ?_ (by first | exact Nat.le_refl _ | (simp; done) | (simp; omega)) _ | assumption | exact Below.refl _ _ | refine Below.dr ?_ | refine Below.drN ?_ _ | refine Below.step ?_ (by assumption)))))).mono ?_; rintro e w1 ⟨rfl, hb1⟩; have ⟨cw1, fw1⟩ := bcell hb1; have qw1 := hb1.size; (try simp at qw1); (try have zw1w := bsz (show w.heap.size < w1.heap.size by omega))) | (go_at_call 63; refine (l2Atom_any m a _ _ _ (HA.out.below (by (repeat (first | with_reducible exact Below.refl _ _ | with_reducible assumption | with_reducible refine Below.al ?_ _ | with_reducible refine Below.sc ?_ (by first | exact Nat.le_refl _ | (simp; done) | (simp; omega)) _ | assumption | exact Below.refl _ _ | refine Below.dr ?_ | refine Below.drN ?_ _ | refine Below.step ?_ (by assumption))))) hz).mono ?_; rintro e w1 ⟨rfl, hb1⟩; have ⟨cw1, fw1⟩ := bcell hb1; have qw1 := hb1.size; (try simp at qw1); (try have zw1w := bsz (show w.heap.size < w1.heap.size by omega))) | (go_at_call 112; refine (l2Var_any _ _ HV.out).mono ?_; rintro e w' ⟨rfl, rfl⟩))
  all_goals
    go_ret
    exact ⟨ret_bool (by simp_all [Fm.form1, arity, isQ, Fm.op, Fm.a, Fm.v, Fm.ps, empt_iff, len0, len1, len2]), by (repeat (first | with_reducible exact Below.refl _ _ | with_reducible assumption | with_reducible refine Below.al ?_ _ | with_reducible refine Below.sc ?_ (by first | exact Nat.le_refl _ | (simp; done) | (simp; omega)) _ | assumption | exact Below.refl _ _ | refine Below.dr ?_ | refine Below.drN ?_ _ | refine Below.step ?_ (by assumption)))⟩
def Fm.notForm (f : Fm) : Bool := !f.form
theorem forms_any : ∀ us : List Fm, us.any Fm.notForm = !Fm.forms us
  | [] => rfl
  | a :: us => by rw [List.any_cons, forms_any us, Fm.forms, Fm.notForm]; cases a.form <;> rfl
mutual
/-- The largest atom's size. -/
def Fm.asz : Fm → Nat | .mk _ a _ ps => max a.sz (Fm.aszs ps)
def Fm.aszs : List Fm → Nat | [] => 0 | a :: us => max a.asz (Fm.aszs us)
end
theorem Fm.asz_arg (us : List Fm) {k : Nat} (h : k < us.length) : us[k].asz ≤ Fm.aszs us := by
  induction us generalizing k with
  | nil => simp at h
  | cons a us ih =>
    cases k with
    | zero => simp only [List.getElem_cons_zero, Fm.aszs]; omega
    | succ k => have := ih (k := k) (by simpa using h); simp only [List.getElem_cons_succ, Fm.aszs]; omega
set_option maxRecDepth 100000 in
set_option maxHeartbeats 3200000 in
theorem hasForm_of {B : Nat → Prop} (m : Nat) (ih : ∀ (us : List Fm) (va : Value) (w : World), Fm.aszs us ≤ 100000000 → ListAt B w 5 (FmAt B m w) va us →
      Calls Try.prog 87 #[va, .func (.func 88) #[] #[]] w fun e w' => e = .returned (.bool (!Fm.forms us)) ∧ Below w.heap.size w w')
    (op : Int) (a : Tm) (x : ByteArray) (ps : List Fm) (v1 v2 v4 : Value) (w : World) (ha : TmAt B m w a [v1, v2]) (hl : ListAt B w 5 (FmAt B m w) v4 ps) (hv : x.size ≤ maxLen) (hz : a.sz ≤ 100000000) (hzs : Fm.aszs ps ≤ 100000000) :
    Calls Try.prog 58 #[.agg #[.int .i64 op, v1, v2, .string x, v4]] w fun e w' => e = .returned (.bool ((Fm.mk op a x ps).form1 && Fm.forms ps)) ∧ Below w.heap.size w w' := by
  have HA := Lib.hid ha
  have HL := Lib.hid hl
  have HV := Lib.hid hv
  have IH := Lib.hid ih
  obtain ⟨p, c, rfl, rfl, -, -⟩ := ha.form
  obtain ⟨q, d, rfl, hps⟩ := hl.form
  unfold maxLen at hps
  clear ha hl hv ih
  rcases op_cases op with rfl | rfl | rfl | rfl | rfl | rfl | rfl | rfl | rfl | ⟨h1, h2, h3, h4, h5, h6, h7, h8, h9⟩
  all_goals
    go_enter Try.func58, Try.ntmps58
    go_wp2_with (first | (go_at_call 86; refine (isZeroTerm_any m a _ _ _ (HA.out.below (by (repeat (first | with_reducible exact Below.refl _ _ | with_reducible assumption | with_reducible refine Below.al ?_ _ | with_reducible refine Below.sc ?_ (by first | exact Nat.le_refl _ | (simp; done) | (simp; omega)) _ | assumption | exact Below.refl _ _ | refine Below.dr ?_ | refine Below.drN ?_ _ | refine Below.step ?_ (by assumption)))))).mono ?_; rintro e w1 ⟨rfl, hb1⟩; have ⟨cw1, fw1⟩ := bcell hb1; have qw1 := hb1.size; (try simp at qw1); (try have zw1w := bsz (show w.heap.size < w1.heap.size by omega))) | (go_at_call 85; refine (isValidAtom_any m a _ _ _ (HA.out.below (by (repeat (first | with_reducible exact Below.refl _ _ | with_reducible assumption | with_reducible refine Below.al ?_ _ | with_reducible refine Below.sc ?_ (by first | exact Nat.le_refl _ | (simp; done) | (simp; omega)) _ | assumption | exact Below.refl _ _ | refine Below.dr ?_ | refine Below.drN ?_ _ | refine Below.step ?_ (by assumption))))) hz).mono ?_; rintro e w1 ⟨rfl, hb1⟩; have ⟨cw1, fw1⟩ := bcell hb1; have qw1 := hb1.size; (try simp at qw1); (try have zw1w := bsz (show w.heap.size < w1.heap.size by omega))) | (go_at_call 84; refine (isVariable_any _ _ HV.out).mono ?_; rintro e w' ⟨rfl, rfl⟩) | (go_at_call 82; refine (isQuantifier_any _ _).mono ?_; rintro e w' ⟨rfl, rfl⟩) | (go_at_call 83; refine (isBinary_any _ _).mono ?_; rintro e w' ⟨rfl, rfl⟩) | (go_at_call 87; refine (IH.out ps _ _ hzs (HL.out.mono (SameOn.below (by (repeat (first | with_reducible exact Below.refl _ _ | with_reducible assumption | with_reducible refine Below.al ?_ _ | with_reducible refine Below.sc ?_ (by first | exact Nat.le_refl _ | (simp; done) | (simp; omega)) _ | assumption | exact Below.refl _ _ | refine Below.dr ?_ | refine Below.drN ?_ _ | refine Below.step ?_ (by assumption))))) (fun _ h => h) (fun x cs _ hx => FmAt.below (by (repeat (first | with_reducible exact Below.refl _ _ | with_reducible assumption | with_reducible refine Below.al ?_ _ | with_reducible refine Below.sc ?_ (by first | exact Nat.le_refl _ | (simp; done) | (simp; omega)) _ | assumption | exact Below.refl _ _ | refine Below.dr ?_ | refine Below.drN ?_ _ | refine Below.step ?_ (by assumption)))) hx))).mono ?_; rintro e w2 ⟨rfl, hb2⟩; have ⟨cw2, fw2⟩ := bcell hb2; have qw2 := hb2.size; (try simp at qw2); (try have zw2w := bsz (show w.heap.size < w2.heap.size by omega)); (try have zw2w1 := bsz (show w1.heap.size < w2.heap.size by omega))) | (go_at_call 87; refine (IH.out [] _ _ (Nat.zero_le _) (ListAt.nil _ _ _ _ _ _)).mono ?_; rintro e w2 ⟨rfl, hb2⟩; have ⟨cw2, fw2⟩ := bcell hb2; have qw2 := hb2.size; (try simp at qw2); (try have zw2w := bsz (show w.heap.size < w2.heap.size by omega)); (try have zw2w1 := bsz (show w1.heap.size < w2.heap.size by omega))))
  all_goals
    go_ret
    exact ⟨ret_bool (by simp_all [Fm.form1, arity, isQ, Fm.forms, Fm.op, Fm.a, Fm.v, Fm.ps, empt_iff, len0, len1, len2]), by (repeat (first | with_reducible exact Below.refl _ _ | with_reducible assumption | with_reducible refine Below.al ?_ _ | with_reducible refine Below.sc ?_ (by first | exact Nat.le_refl _ | (simp; done) | (simp; omega)) _ | assumption | exact Below.refl _ _ | refine Below.dr ?_ | refine Below.drN ?_ _ | refine Below.step ?_ (by assumption)))⟩
end Go.Proofs.Ytinfogmjijeliaa
