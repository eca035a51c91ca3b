/- Have all nodes of a term valid names and numbers of arguments: both sides. Conditions: sizes. -/
import Derived.Test.YtinfogmjijeliaaNames2
import Derived.Test.YtinfogmjijeliaaSizes
namespace Go.Proofs.Ytinfogmjijeliaa
open Go.RowKit
theorem Tm.nodess_drop (us : List Tm) {k : Nat} (h : k < us.length) : Tm.nodess (us.drop k) = (us[k].nodes && Tm.nodess (us.drop (k + 1))) := by
  rw [List.drop_eq_getElem_cons h, Tm.nodess]
theorem hasNames1_of {B : Nat → Prop} (m : Nat) (ih : ∀ (t : Tm) (v0 v1 : Value) (w : World), TmAt B m w t [v0, v1] →
      Calls Try.prog 115 #[.agg #[v0, v1]] w fun e w' => e = .returned (.bool t.nodes) ∧ Below w.heap.size w w')
    (t : Tm) (v0 v1 : Value) (w : World) (h : TmAt B m w t [v0, v1]) :
    Calls Try.prog 144 #[.agg #[v0, v1]] w fun e w' => e = .returned (.bool (!t.nodes)) ∧ Below w.heap.size w w' := by
  obtain ⟨p, c, rfl, rfl, -, -⟩ := h.form
  have H := Lib.hid h
  have IH := Lib.hid ih
  clear h ih
  go_enter Try.func144, Try.ntmps144
  go_wp2_with fail
  refine (IH.out t _ _ _ (H.out.below (by (repeat (first | with_reducible exact Below.refl _ _ | with_reducible assumption | with_reducible refine Below.al ?_ _ | with_reducible refine Below.sc ?_ (by first | exact Nat.le_refl _ | (simp; done) | (simp; omega)) _ | assumption | exact Below.refl _ _ | refine Below.dr ?_ | refine Below.drN ?_ _ | refine Below.step ?_ (by assumption)))))).mono ?_
  rintro e w1 ⟨rfl, hb1⟩
  have ⟨cw1, fw1⟩ := bcell hb1
  have qw1 := hb1.size
  (try simp at qw1)
  (try have zw1w := bsz (show w.heap.size < w1.heap.size by omega))
  go_wp2
  go_ret
  exact ⟨rfl, by (repeat (first | with_reducible exact Below.refl _ _ | with_reducible assumption | with_reducible refine Below.al ?_ _ | with_reducible refine Below.sc ?_ (by first | exact Nat.le_refl _ | (simp; done) | (simp; omega)) _ | assumption | exact Below.refl _ _ | refine Below.dr ?_ | refine Below.drN ?_ _ | refine Below.step ?_ (by assumption)))⟩
def FirstBad (us : List Tm) (w : World) (e : Ending) (w' : World) : Prop := ∃ r : Int, e = .returned (.int .i64 r) ∧ decide (0 ≤ r) = !Tm.nodess us ∧ Below w.heap.size w w'
set_option maxRecDepth 100000 in
set_option maxHeartbeats 1600000 in
theorem indexNames_of {B : Nat → Prop} (m : Nat) (ih : ∀ (t : Tm) (v0 v1 : Value) (w : World), TmAt B m w t [v0, v1] →
      Calls Try.prog 115 #[.agg #[v0, v1]] w fun e w' => e = .returned (.bool t.nodes) ∧ Below w.heap.size w w')
    (us : List Tm) (va : Value) (w : World) (h : ListAt B w 2 (TmAt B m w) va us) :
    Calls Try.prog 156 #[va, .func (.func 144) #[] #[]] w (FirstBad us w) := by
  obtain ⟨p, c, rfl, hlen⟩ := h.form
  unfold maxLen at hlen
  have H := Lib.hid h
  have HN1 := Lib.hid (hasNames1_of m ih)
  clear h ih
  go_enter Try.func156, Try.ntmps156
  go_wp2
  go_loopw [8] (fun i wr => ∃ k : Nat, k ≤ us.length ∧ i = .int .i64 k ∧ Tm.nodess us = Tm.nodess (us.drop k) ∧ Below w.heap.size w wr) (fun i _ => us.length - (intOf i).toNat)
  case atStart => exact ⟨0, Nat.zero_le _, rfl, rfl, by (repeat (first | with_reducible exact Below.refl _ _ | with_reducible assumption | with_reducible refine Below.al ?_ _ | with_reducible refine Below.sc ?_ (by first | exact Nat.le_refl _ | (simp; done) | (simp; omega)) _ | assumption | exact Below.refl _ _ | refine Below.dr ?_ | refine Below.drN ?_ _ | refine Below.step ?_ (by assumption)))⟩
  case round =>
    obtain ⟨k, hk, rfl, he, hb⟩ := hrel
    have HE := Lib.hid he
    clear he
    by_cases hlt : k < us.length
    · obtain ⟨b, o, rfl, hB, x0, x1, hx0, hx1, hx⟩ := (H.out.mono (SameOn.below hb) (fun _ h => h) (fun x cs _ hx => TmAt.below hb hx)).at2 hlt
      obtain ⟨pa, ca, rfl, rfl, -, -⟩ := hx.form
      have HD := Lib.hid (Tm.nodess_drop us hlt)
      obtain ⟨a, ha⟩ : ∃ a, us[k] = a := ⟨_, rfl⟩
      rw [ha] at hx HD hx0 hx1
      have HX := Lib.hid hx
      clear hx ha
      cases hN : a.nodes
      all_goals
        have HN := Lib.hid hN
        go_wp2_with fail
        refine (HN1.out a _ _ _ HX.out).mono ?_
        rintro e w1 ⟨rfl, hb1⟩
        have ⟨cw1, fw1⟩ := bcell hb1
        have qw1 := hb1.size
        (try simp at qw1)
        (try have zw1w := bsz (show w.heap.size < w1.heap.size by omega))
        rw [HN.out]
        go_wp2
      · go_ret
        exact ⟨k, rfl, by rw [HE.out, HD.out, HN.out]; simp, by (repeat (first | with_reducible exact Below.refl _ _ | with_reducible assumption | with_reducible refine Below.al ?_ _ | with_reducible refine Below.sc ?_ (by first | exact Nat.le_refl _ | (simp; done) | (simp; omega)) _ | assumption | exact Below.refl _ _ | refine Below.dr ?_ | refine Below.drN ?_ _ | refine Below.step ?_ (by assumption)))⟩
      · refine ⟨⟨k + 1, by omega, by go_num, ?_, by (repeat (first | with_reducible exact Below.refl _ _ | with_reducible assumption | with_reducible refine Below.al ?_ _ | with_reducible refine Below.sc ?_ (by first | exact Nat.le_refl _ | (simp; done) | (simp; omega)) _ | assumption | exact Below.refl _ _ | refine Below.dr ?_ | refine Below.drN ?_ _ | refine Below.step ?_ (by assumption)))⟩, by simp [intOf]; omega⟩
        rw [HE.out, HD.out, HN.out]; rfl
    · obtain rfl : k = us.length := by omega
      have he := HE.out
      rw [List.drop_length, Tm.nodess] at he
      have HE2 := Lib.hid he
      clear he
      go_wp2
      go_ret
      exact ⟨-1, rfl, by rw [HE2.out]; rfl, by (repeat (first | with_reducible exact Below.refl _ _ | with_reducible assumption | with_reducible refine Below.al ?_ _ | with_reducible refine Below.sc ?_ (by first | exact Nat.le_refl _ | (simp; done) | (simp; omega)) _ | assumption | exact Below.refl _ _ | refine Below.dr ?_ | refine Below.drN ?_ _ | refine Below.step ?_ (by assumption)))⟩
set_option maxRecDepth 100000 in
set_option maxHeartbeats 1600000 in
theorem containsNames_of {B : Nat → Prop} (m : Nat) (ih : ∀ (t : Tm) (v0 v1 : Value) (w : World), TmAt B m w t [v0, v1] →
      Calls Try.prog 115 #[.agg #[v0, v1]] w fun e w' => e = .returned (.bool t.nodes) ∧ Below w.heap.size w w')
    (us : List Tm) (va : Value) (w : World) (h : ListAt B w 2 (TmAt B m w) va us) :
    Calls Try.prog 143 #[va, .func (.func 144) #[] #[]] w fun e w' => e = .returned (.bool (!Tm.nodess us)) ∧ Below w.heap.size w w' := by
  have H := Lib.hid h
  have IH := Lib.hid (indexNames_of m ih)
  clear h ih
  go_enter Try.func143, Try.ntmps143
  go_wp2_with fail
  refine (IH.out us va _ H.out).mono ?_
  rintro e w1 ⟨r, rfl, hr, hb1⟩
  have HR := Lib.hid hr
  clear hr
  go_wp2
  go_ret
  exact ⟨ret_bool HR.out, hb1⟩
set_option maxRecDepth 100000 in
set_option maxHeartbeats 1600000 in
theorem hasNames_any {B : Nat → Prop} : ∀ (m : Nat) (t : Tm) (v0 v1 : Value) (w : World), TmAt B m w t [v0, v1] →
      Calls Try.prog 115 #[.agg #[v0, v1]] w fun e w' => e = .returned (.bool t.nodes) ∧ Below w.heap.size w w' := by
  intro m
  induction m with
  | zero => intro t v0 v1 w h; exact h.elim
  | succ m ih =>
    rintro ⟨s, us⟩ v0 v1 w ⟨va, hcs, hs, hl⟩
    simp only [List.cons.injEq, and_true] at hcs
    obtain ⟨rfl, rfl⟩ := hcs
    obtain ⟨p, c, rfl, hlen⟩ := hl.form
    unfold maxLen at hlen
    have IH := Lib.hid (containsNames_of m ih)
    have HL := Lib.hid hl
    have HS := Lib.hid hs
    have HN := Lib.hid (show (Tm.mk s us).nodes = if varB s.data.toList then us.isEmpty else symB s.data.toList && decide (us.length ≤ 4) && Tm.nodess us from rfl)
    clear ih hl hs
    cases hv : varB s.data.toList
    · have HV := Lib.hid hv
      cases hy : symB s.data.toList
      · have HY := Lib.hid hy
        go_enter Try.func115, Try.ntmps115
        go_wp2_with (first | (go_at_call 84; refine (isVariable_any _ _ HS.out).mono ?_; rintro e w' ⟨rfl, rfl⟩) | (go_at_call 44; refine (isSymbol_any _ _ HS.out).mono ?_; rintro e w1 ⟨rfl, hb1⟩; have ⟨cw1, fw1⟩ := bcell hb1; have qw1 := hb1.size; (try simp at qw1); (try have zw1w := bsz (show w.heap.size < w1.heap.size by omega))))
        go_ret
        exact ⟨ret_bool (by rw [HN.out, HV.out, HY.out]; rfl), by (repeat (first | with_reducible exact Below.refl _ _ | with_reducible assumption | with_reducible refine Below.al ?_ _ | with_reducible refine Below.sc ?_ (by first | exact Nat.le_refl _ | (simp; done) | (simp; omega)) _ | assumption | exact Below.refl _ _ | refine Below.dr ?_ | refine Below.drN ?_ _ | refine Below.step ?_ (by assumption)))⟩
      · have HY := Lib.hid hy
        by_cases h4 : (us.length : Int) ≤ 4
        · have H4 := Lib.hid (show decide (us.length ≤ 4) = true by simp; omega)
          go_enter Try.func115, Try.ntmps115
          go_wp2_with (first | (go_at_call 84; refine (isVariable_any _ _ HS.out).mono ?_; rintro e w' ⟨rfl, rfl⟩) | (go_at_call 44; refine (isSymbol_any _ _ HS.out).mono ?_; rintro e w1 ⟨rfl, hb1⟩; have ⟨cw1, fw1⟩ := bcell hb1; have qw1 := hb1.size; (try simp at qw1); (try have zw1w := bsz (show w.heap.size < w1.heap.size by omega))) | (go_at_call 143; refine (IH.out us _ _ (HL.out.mono (SameOn.below (by (repeat (first | with_reducible exact Below.refl _ _ | with_reducible assumption | with_reducible refine Below.al ?_ _ | with_reducible refine Below.sc ?_ (by first | exact Nat.le_refl _ | (simp; done) | (simp; omega)) _ | assumption | exact Below.refl _ _ | refine Below.dr ?_ | refine Below.drN ?_ _ | refine Below.step ?_ (by assumption))))) (fun _ h => h) (fun x cs _ hx => TmAt.below (by (repeat (first | with_reducible exact Below.refl _ _ | with_reducible assumption | with_reducible refine Below.al ?_ _ | with_reducible refine Below.sc ?_ (by first | exact Nat.le_refl _ | (simp; done) | (simp; omega)) _ | assumption | exact Below.refl _ _ | refine Below.dr ?_ | refine Below.drN ?_ _ | refine Below.step ?_ (by assumption)))) hx))).mono ?_; rintro e w2 ⟨rfl, hb2⟩; have ⟨cw2, fw2⟩ := bcell hb2; have qw2 := hb2.size; (try simp at qw2); (try have zw2w := bsz (show w.heap.size < w2.heap.size by omega)); (try have zw2w1 := bsz (show w1.heap.size < w2.heap.size by omega))))
          go_ret
          exact ⟨ret_bool (by rw [HN.out, HV.out, HY.out, H4.out]; simp), by (repeat (first | with_reducible exact Below.refl _ _ | with_reducible assumption | with_reducible refine Below.al ?_ _ | with_reducible refine Below.sc ?_ (by first | exact Nat.le_refl _ | (simp; done) | (simp; omega)) _ | assumption | exact Below.refl _ _ | refine Below.dr ?_ | refine Below.drN ?_ _ | refine Below.step ?_ (by assumption)))⟩
        · have H4 := Lib.hid (show decide (us.length ≤ 4) = false by simp; omega)
          go_enter Try.func115, Try.ntmps115
          go_wp2_with (first | (go_at_call 84; refine (isVariable_any _ _ HS.out).mono ?_; rintro e w' ⟨rfl, rfl⟩) | (go_at_call 44; refine (isSymbol_any _ _ HS.out).mono ?_; rintro e w1 ⟨rfl, hb1⟩; have ⟨cw1, fw1⟩ := bcell hb1; have qw1 := hb1.size; (try simp at qw1); (try have zw1w := bsz (show w.heap.size < w1.heap.size by omega))))
          go_ret
          exact ⟨ret_bool (by rw [HN.out, HV.out, HY.out, H4.out]; rfl), by (repeat (first | with_reducible exact Below.refl _ _ | with_reducible assumption | with_reducible refine Below.al ?_ _ | with_reducible refine Below.sc ?_ (by first | exact Nat.le_refl _ | (simp; done) | (simp; omega)) _ | assumption | exact Below.refl _ _ | refine Below.dr ?_ | refine Below.drN ?_ _ | refine Below.step ?_ (by assumption)))⟩
    · have HV := Lib.hid hv
      have HE := Lib.hid (show us.isEmpty = ((us.length : Int) == 0) by cases us <;> simp; omega)
      go_enter Try.func115, Try.ntmps115
      go_wp2_with (first | (go_at_call 84; refine (isVariable_any _ _ HS.out).mono ?_; rintro e w' ⟨rfl, rfl⟩))
      go_ret
      exact ⟨ret_bool (by rw [HN.out, HV.out, if_pos rfl, HE.out]), by (repeat (first | with_reducible exact Below.refl _ _ | with_reducible assumption | with_reducible refine Below.al ?_ _ | with_reducible refine Below.sc ?_ (by first | exact Nat.le_refl _ | (simp; done) | (simp; omega)) _ | assumption | exact Below.refl _ _ | refine Below.dr ?_ | refine Below.drN ?_ _ | refine Below.step ?_ (by assumption)))⟩
end Go.Proofs.Ytinfogmjijeliaa
