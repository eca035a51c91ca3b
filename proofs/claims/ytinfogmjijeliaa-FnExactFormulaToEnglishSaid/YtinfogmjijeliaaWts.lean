/- Sizes, depths and texts against the allowance that the laws count. No conditions; no program is walked. -/
import Derived.Test.YtinfogmjijeliaaFamF
import Derived.Test.YtinfogmjijeliaaEngX
namespace Go.Proofs.Ytinfogmjijeliaa
open Go.RowKit
mutual
theorem Tm.sz_wt : ∀ t : Tm, t.sz ≤ t.wt + 1
  | .mk n us => by have := Tm.szs_wt us; rw [Tm.sz, Tm.wt]; omega
theorem Tm.szs_wt : ∀ us : List Tm, Tm.szs us ≤ us.length + Tm.wts us
  | [] => by simp [Tm.szs]
  | a :: us => by have := Tm.sz_wt a; have := Tm.szs_wt us; rw [Tm.szs, Tm.wts, List.length_cons]; omega
end
mutual
theorem Fm.sz_wt : ∀ t : Fm, t.sz ≤ t.wt + 1
  | .mk op a v us => by have := Fm.szs_wt us; rw [Fm.sz, Fm.wt]; omega
theorem Fm.szs_wt : ∀ us : List Fm, Fm.szs us ≤ us.length + Fm.wts us
  | [] => by simp [Fm.szs]
  | a :: us => by have := Fm.sz_wt a; have := Fm.szs_wt us; rw [Fm.szs, Fm.wts, List.length_cons]; omega
end
mutual
theorem Fm.asz_wt : ∀ t : Fm, t.asz ≤ t.wt + 1
  | .mk op a v us => by have := Fm.aszs_wt us; have := a.sz_wt; rw [Fm.asz, Fm.wt]; omega
theorem Fm.aszs_wt : ∀ us : List Fm, Fm.aszs us ≤ us.length + Fm.wts us
  | [] => by simp [Fm.aszs]
  | a :: us => by have := Fm.asz_wt a; have := Fm.aszs_wt us; rw [Fm.aszs, Fm.wts, List.length_cons]; omega
end
theorem joinB_len (sep : List UInt8) : ∀ l : List (List UInt8), (joinB sep l).length ≤ (l.map (fun a => a.length + sep.length)).sum
  | [] => by simp [joinB]
  | [a] => by simp [joinB]
  | a :: b :: l => by
    have := joinB_len sep (b :: l)
    rw [joinB]
    simp only [List.length_append, List.map_cons, List.sum_cons] at this ⊢
    omega
mutual
theorem Tm.fmt_wt : ∀ t : Tm, t.nodes = true → t.fmt.length ≤ 3 * t.wt + 2
  | .mk n us, h => by
    have h1 := Tm.nodes_mk h
    have h2 := Tm.fmts_wt us h1.2
    have h3 := joinB_len [44] (Tm.fmtL us)
    rw [Tm.fmt_mk (word_not61 h1.1), Tm.wt]
    simp only [List.length_cons, List.length_nil] at h3
    have hn : n.data.toList.length = n.size := rfl
    split
    · omega
    · simp only [List.length_append, List.length_cons, List.length_nil, hn]; omega
theorem Tm.fmts_wt : ∀ us : List Tm, Tm.nodess us = true → ((Tm.fmtL us).map (fun a => a.length + (0 + 1))).sum ≤ 3 * us.length + 3 * Tm.wts us
  | [], _ => by simp [Tm.fmtL]
  | a :: us, h => by
    rw [Tm.nodess, Bool.and_eq_true] at h
    have h1 := Tm.fmt_wt a h.1
    have h2 := Tm.fmts_wt us h.2
    rw [Tm.fmtL, List.map_cons, List.sum_cons, Tm.wts, List.length_cons]; omega
end
theorem fmts_wt2 : ∀ us : List Tm, Tm.nodess us = true → ((Tm.fmtL us).map (fun a => a.length + sComma.length)).sum ≤ 4 * us.length + 3 * Tm.wts us
  | [], _ => by simp [Tm.fmtL]
  | a :: us, h => by
    rw [Tm.nodess, Bool.and_eq_true] at h
    have h1 := Tm.fmt_wt a h.1
    have h2 := fmts_wt2 us h.2
    have h3 : sComma.length = 2 := rfl
    rw [Tm.fmtL, List.map_cons, List.sum_cons, Tm.wts, List.length_cons]; omega
theorem Tm.eng_wt {t : Tm} (h : t.atom = true) : t.eng.length ≤ 4 * t.wt + 20 := by
  cases atom_cases h with
  | eq a b ha hb =>
    have h1 := Tm.fmt_wt a ha
    have h2 := Tm.fmt_wt b hb
    have h3 : sEquals.length = 8 := rfl
    rw [eng_eq, eqTm, Tm.wt, Tm.wts, Tm.wts, Tm.wts]
    simp only [List.length_append]; omega
  | pred n us hs hu hd =>
    rw [eng_pred hs, Tm.wt]
    have h3 : sHolds.length = 6 := rfl
    have h4 : sHoldsOf.length = 10 := rfl
    have hn : n.data.toList.length = n.size := rfl
    have h5 := joinB_len sComma (Tm.fmtL us)
    have h6 := fmts_wt2 us hu
    split <;> simp only [List.length_append, hn] <;> omega
theorem Fm.eng_wt : ∀ (k : Nat) (t : Fm), t.sz ≤ k → t.form = true → t.eng.length ≤ 30 * t.wt + 30
  | 0, .mk _ _ _ _, hk, _ => by rw [Fm.sz] at hk; omega
  | k + 1, t, hk, hf => by
    cases form_cases hf with
    | tru => rw [opF, Fm.eng]; simp [sTruth]
    | fal => rw [opF, Fm.eng]; simp [sFalsity]
    | atm a ha =>
      have := Tm.eng_wt ha
      rw [eng_atm, atomOfF, Fm.wt]; omega
    | neg g hg =>
      rw [opF, Fm.sz, Fm.szs, Fm.szs] at hk
      have h1 := Fm.eng_wt k g (by omega) hg
      have h2 : sNot.length = 24 := rfl
      rw [eng_neg, opF, Fm.wt, Fm.wts, Fm.wts, List.length_append, List.length_cons, List.length_nil]; omega
    | bin op g h ho hg hh =>
      rw [opF, Fm.sz, Fm.szs, Fm.szs, Fm.szs] at hk
      have h1 := Fm.eng_wt k g (by omega) hg
      have h2 := Fm.eng_wt k h (by omega) hh
      have h3 : sBoth.length = 5 ∧ sAnd.length = 5 ∧ sEither.length = 7 ∧ sOr.length = 4 ∧ sIf.length = 3 ∧ sThen.length = 6 := ⟨rfl, rfl, rfl, rfl, rfl, rfl⟩
      have hw : (opF op [g, h]).wt = tm0.wt + 0 + 2 + (g.wt + (h.wt + 0)) := by rw [opF, Fm.wt, Fm.wts, Fm.wts, Fm.wts]; rfl
      rcases ho with rfl | rfl | rfl
      · rw [eng_and, hw]; simp only [List.length_append]; omega
      · rw [eng_or, hw]; simp only [List.length_append]; omega
      · rw [eng_imp, hw]; simp only [List.length_append]; omega
    | qua op v g ho hv hg =>
      rw [quantF, Fm.sz, Fm.szs, Fm.szs] at hk
      have h1 := Fm.eng_wt k g (by omega) hg
      have h3 : sEvery.length = 10 ∧ sComma.length = 2 ∧ sThere.length = 9 ∧ sSuch.length = 11 := ⟨rfl, rfl, rfl, rfl⟩
      have hw : (quantF op v g).wt = tm0.wt + v.length + 1 + (g.wt + 0) := by rw [quantF, Fm.wt, Fm.wts, Fm.wts]; rfl
      rcases ho with rfl | rfl
      · rw [eng_all, hw]; simp only [List.length_append]; omega
      · rw [eng_ex, hw]; simp only [List.length_append]; omega
end Go.Proofs.Ytinfogmjijeliaa
