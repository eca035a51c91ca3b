import Derived.Test.YtkgfanajgdelcaaGreatDoorUnPart10
namespace Go.Proofs.YtkgfanajgdelcaaGreatDoor
open Go.RowKit
def at8 (L t : List UInt8) (k : Nat) : Bool := t.isPrefixOf (L.drop k)
def rSimp (L : List UInt8) (k : Nat) : Option (Fm × Nat) :=
  match rTerm L (L.length + 2) k with
  | none => none
  | some (a, j) =>
    if at8 L sEq8 j then (match rTerm L (L.length + 2) (j + 3) with | none => none | some (b, e) => some (atomOfF (eqTm a b), e))
    else some (atomF a, j)
def rSign (L : List UInt8) (k : Nat) : Int := if at8 L sAnd8 k then 5 else if at8 L sOr8 k then 6 else if at8 L sImp8 k then 7 else 0
def rEqP (L : List UInt8) : Option (Fm × Nat) → Bool
  | none => false
  | some (p, j) => p.op == 3 && p.a.n.data.toList == [61] && at8 L [41] j
mutual
def rFrm (L : List UInt8) : Nat → Nat → Option (Fm × Nat)
  | 0, _ => none
  | f + 1, k =>
    if at8 L sAll8 k then rQua L f 8 (k + 4)
    else if at8 L sSome8 k then rQua L f 9 (k + 5)
    else if at8 L [126, 40] k then
      (if rEqP L (rSimp L (k + 2)) then (rSimp L (k + 2)).map (fun r => (opF 4 [r.1], r.2 + 1)) else (rPair L f (k + 1)).map (fun r => (opF 4 [r.1], r.2)))
    else if at8 L [126] k then (rFrm L f (k + 1)).map (fun r => (opF 4 [r.1], r.2))
    else if at8 L [40] k then rPair L f k
    else rSimp L k
def rQua (L : List UInt8) : Nat → Int → Nat → Option (Fm × Nat)
  | 0, _, _ => none
  | f + 1, op, k => if L[k + (rWordL L k).length]? = some 46 then (rFrm L f (k + (rWordL L k).length + 1)).map (fun r => (quantF op (rWordL L k) r.1, r.2)) else none
def rPair (L : List UInt8) : Nat → Nat → Option (Fm × Nat)
  | 0, _ => none
  | f + 1, k =>
    match rFrm L f (k + 1) with
    | none => none
    | some (a, j) =>
      if rSign L j = 0 then none
      else match rFrm L f (j + (sign8 (rSign L j)).length) with
        | none => none
        | some (b, e) => if L[e]? = some 41 then some (opF (rSign L j) [a, b], e + 1) else none
end
theorem at8_yes {L t R : List UInt8} {k : Nat} (h : L.drop k = t ++ R) : at8 L t k = true := by rw [at8, h]; exact isPrefixOf_app t R
theorem at8_no {L t T : List UInt8} {k : Nat} (h : L.drop k = T) (hp : t.isPrefixOf T = false) : at8 L t k = false := by rw [at8, h]; exact hp
theorem rSimp_atom {L : List UInt8} {t : Tm} {k : Nat} {R : List UInt8} (ht : t.atom = true) (hL : L.drop k = t.fmt ++ R) (hR : GoodF R) : rSimp L k = some (atomOfF t, k + t.fmt.length) := by
  have hl := drop_le hL
  rw [List.length_append] at hl
  cases atom_cases ht with
  | eq a b ha hb =>
    rw [fmt_eq] at hL hl ⊢
    have e0 : L.drop k = a.fmt ++ (sEq8 ++ (b.fmt ++ R)) := by rw [hL]; simp [List.append_assoc]
    have e1 := drop_adv e0
    have e2 := drop_adv e1
    simp only [List.length_append] at hl
    have h1 := rTerm_ok (L.length + 2) a _ _ ha e0 (by intro c hc; simp [sEq8] at hc; subst hc; decide) (by omega)
    have h2 := rTerm_ok (L.length + 2) b _ _ hb e2 hR.stop (by omega)
    rw [rSimp, h1]
    simp only
    rw [if_pos (at8_yes e1)]
    have h2' : rTerm L (L.length + 2) (k + a.fmt.length + 3) = _ := h2
    rw [h2']
    simp only [List.length_append]
    congr 2
    show k + a.fmt.length + sEq8.length + b.fmt.length = _
    omega
  | pred n us hs hu hd =>
    have h1 := rTerm_ok (L.length + 2) _ _ _ hd hL hR.stop (by omega)
    rw [rSimp, h1]
    simp only
    rw [if_neg (by rw [at8_no (drop_adv hL) hR.noEq]; simp), atomF_of ht]
theorem rSimp_word {L w R : List UInt8} {k : Nat} (hL : L.drop k = w ++ R) (hw : w.all wordC = true) (h0 : w ≠ []) (hR : stopC R) (he : sEq8.isPrefixOf R = false) : rSimp L k = some (atomF (.mk ⟨w.toArray⟩ []), k + w.length) := by
  have e1 := drop_adv hL
  have hw1 : rWordL L k = w := by rw [rWordL, hL, takeWhile_app hw (fun c hc => (hR c hc).1)]
  have hno : L[k + w.length]? ≠ some 40 := by rw [drop_get e1]; intro h; exact (hR 40 h).2 rfl
  rw [rSimp, rTerm, hw1, if_neg (by simpa using h0), if_neg hno]
  simp only
  rw [if_neg (by rw [at8_no e1 he]; simp)]
theorem rSimp_none {L : List UInt8} {c : UInt8} {R : List UInt8} {k : Nat} (hL : L.drop k = c :: R) (hc : wordC c = false) : rSimp L k = none := by
  have hw1 : rWordL L k = [] := by rw [rWordL, hL, List.takeWhile_cons_of_neg]; simp [hc]
  rw [rSimp, rTerm, hw1, if_pos (by rfl)]
theorem atomF_eq {a : Tm} (h : a.n.data.toList ≠ [61]) : ¬ ((atomF a).op = 3 ∧ (atomF a).a.n.data.toList = [61]) := by
  rw [atomF]
  split
  · rintro ⟨h1, _⟩; exact absurd h1 (by decide)
  · split
    · rintro ⟨h1, _⟩; exact absurd h1 (by decide)
    · exact fun h' => h h'.2
theorem rEqP_no {L : List UInt8} {F : Fm} {k : Nat} {op : Int} {R : List UInt8} (hF : F.form = true) (ho : op = 5 ∨ op = 6 ∨ op = 7) (hL : L.drop k = F.txt ++ (sign8 op ++ R)) : rEqP L (rSimp L k) = false := by
  have hg := good_sign ho R
  have word : ∀ (w T : List UInt8), L.drop k = w ++ T → w.all wordC = true → w ≠ [] → w ≠ [61] → stopC T → sEq8.isPrefixOf T = false → rEqP L (rSimp L k) = false := by
    intro w T hL hw h0 h61 hT he
    rw [rSimp_word hL hw h0 hT he, rEqP]
    have := atomF_eq (a := .mk ⟨w.toArray⟩ []) h61
    cases h1 : ((atomF (.mk ⟨w.toArray⟩ [])).op == 3)
    · rfl
    · cases h2 : ((atomF (.mk ⟨w.toArray⟩ [])).a.n.data.toList == [61])
      · rfl
      · exact absurd ⟨by simpa using h1, by simpa using h2⟩ this
  cases form_cases hF with
  | tru => exact word sTrue8 _ (by rw [hL]; rfl) (by decide) (by decide) (by decide) hg.stop hg.noEq
  | fal => exact word sFalse8 _ (by rw [hL]; rfl) (by decide) (by decide) (by decide) hg.stop hg.noEq
  | atm a ha =>
    rw [txt_atm] at hL
    rw [rSimp_atom ha hL hg, rEqP]
    have : at8 L [41] (k + a.fmt.length) = false := at8_no (drop_adv hL) (by rcases ho with rfl | rfl | rfl <;> rfl)
    rw [this, Bool.and_false]
  | neg g hg' =>
    rw [txt_neg] at hL
    have : ∃ T, L.drop k = 126 :: T := by
      split at hL
      · exact ⟨_, by rw [hL]; rfl⟩
      · exact ⟨_, by rw [hL]; rfl⟩
    obtain ⟨T, hT⟩ := this
    rw [rSimp_none hT (by decide)]; rfl
  | bin op' g h ho' hg' hh =>
    rw [txt_bin ho'] at hL
    rw [rSimp_none (c := 40) (R := g.txt ++ (sign8 op' ++ (h.txt ++ ([41] ++ (sign8 op ++ R))))) (by rw [hL]; simp [List.append_assoc]) (by decide)]; rfl
  | qua op' v g ho' hv hg' =>
    rw [txt_qua ho'] at hL
    have hw := varB_word hv
    obtain ⟨c, v', rfl⟩ : ∃ c r, v = c :: r := by cases v with
      | nil => exact absurd rfl hw.2
      | cons c r => exact ⟨c, r, rfl⟩
    have hc : wordC c = true := by have := hw.1; simp only [List.all_cons, Bool.and_eq_true] at this; exact this.1
    have hne : c ≠ 61 := by rintro rfl; exact absurd hc (by decide)
    have hst : ∀ X, stopC (32 :: X) := by intro X c hc; simp at hc; subst hc; decide
    have hno : ∀ X, sEq8.isPrefixOf (32 :: c :: X) = false := fun X => by simp [sEq8, List.isPrefixOf, hne.symm]
    rcases ho' with rfl | rfl
    · exact word [97, 108, 108] (32 :: c :: (v' ++ ([46] ++ (g.txt ++ (sign8 op ++ R))))) (by rw [hL, if_pos rfl]; simp [sAll8, List.append_assoc]) (by decide) (by decide) (by decide) (hst _) (hno _)
    · exact word [115, 111, 109, 101] (32 :: c :: (v' ++ ([46] ++ (g.txt ++ (sign8 op ++ R))))) (by rw [hL, if_neg (by decide)]; simp [sSome8, List.append_assoc]) (by decide) (by decide) (by decide) (hst _) (hno _)
theorem txt_head {g : Fm} (hg : g.form = true) (hq : g.a.n.data.toList ≠ [61]) (R : List UInt8) : ([40] : List UInt8).isPrefixOf (g.txt ++ R) = false ∨ ∃ op a b, g = opF op [a, b] ∧ (op = 5 ∨ op = 6 ∨ op = 7) ∧ a.form = true ∧ b.form = true := by
  cases form_cases hg with
  | tru => exact .inl rfl
  | fal => exact .inl rfl
  | atm a ha =>
    left
    rw [txt_atm]
    cases atom_cases ha with
    | eq x y hx hy => exact absurd rfl hq
    | pred n us hs hu hd =>
      obtain ⟨m, X, hm, he, hX⟩ := fmt_split hd R
      rw [he]
      have hw : m.all wordC = true ∧ m ≠ [] := by rcases hm with h | h; exact varB_word h; exact symB_word h
      cases m with
      | nil => exact absurd rfl hw.2
      | cons c r =>
        have hc : wordC c = true := by have := hw.1; simp only [List.all_cons, Bool.and_eq_true] at this; exact this.1
        simp only [List.cons_append, List.isPrefixOf, Bool.and_eq_false_iff, beq_eq_false_iff_ne]
        left; rintro rfl; exact absurd hc (by decide)
  | neg g' hg' =>
    left; rw [txt_neg]; split <;> rfl
  | bin op a b ho ha hb => exact .inr ⟨op, a, b, rfl, ho, ha, hb⟩
  | qua op v g' ho hv hg' =>
    left; rw [txt_qua ho]; rcases ho with rfl | rfl <;> rfl
theorem rSign_op {L : List UInt8} {op : Int} {k : Nat} {R : List UInt8} (ho : op = 5 ∨ op = 6 ∨ op = 7) (h : L.drop k = sign8 op ++ R) : rSign L k = op := by
  rcases ho with rfl | rfl | rfl
  · have h : L.drop k = sAnd8 ++ R := h
    rw [rSign, if_pos (at8_yes h)]
  · have h : L.drop k = sOr8 ++ R := h
    rw [rSign, if_neg (by rw [at8_no h (by rfl)]; simp), if_pos (at8_yes h)]
  · have h : L.drop k = sImp8 ++ R := h
    rw [rSign, if_neg (by rw [at8_no h (by rfl)]; simp), if_neg (by rw [at8_no h (by rfl)]; simp), if_pos (at8_yes h)]
theorem some_pr {F : Fm} {m n : Nat} (h : m = n) : some (F, m) = some (F, n) := by rw [h]
mutual
theorem rFrm_ok {L : List UInt8} : ∀ (f : Nat) (F : Fm) (k : Nat) (R : List UInt8), F.form = true → L.drop k = F.txt ++ R → GoodF R → F.txt.length + 2 < f → rFrm L f k = some (F, k + F.txt.length)
  | 0, _, _, _, _, _, _, h => absurd h (by omega)
  | f + 1, F, k, R, hF, hL, hR, hf => by
    cases form_cases hF with
    | tru =>
      have hL' : L.drop k = sTrue8 ++ R := hL
      rw [rFrm, if_neg (by rw [at8_no hL' rfl]; simp), if_neg (by rw [at8_no hL' rfl]; simp), if_neg (by rw [at8_no hL' rfl]; simp), if_neg (by rw [at8_no hL' rfl]; simp), if_neg (by rw [at8_no hL' rfl]; simp), rSimp_word hL' (by decide) (by decide) hR.stop hR.noEq]
      rfl
    | fal =>
      have hL' : L.drop k = sFalse8 ++ R := hL
      rw [rFrm, if_neg (by rw [at8_no hL' rfl]; simp), if_neg (by rw [at8_no hL' rfl]; simp), if_neg (by rw [at8_no hL' rfl]; simp), if_neg (by rw [at8_no hL' rfl]; simp), if_neg (by rw [at8_no hL' rfl]; simp), rSimp_word hL' (by decide) (by decide) hR.stop hR.noEq]
      rfl
    | atm a ha =>
      rw [txt_atm] at hL hf ⊢
      obtain ⟨h1, h2, h3, h4⟩ := atom_noKw8 ha hR
      have h5 : at8 L [126, 40] k = false := by
        rw [Bool.eq_false_iff]; intro h
        have := at8_no hL h3
        rw [at8, List.isPrefixOf_iff_prefix] at h
        rw [at8, Bool.eq_false_iff] at this
        exact this (List.isPrefixOf_iff_prefix.2 (List.IsPrefix.trans ⟨[40], rfl⟩ h))
      rw [rFrm, if_neg (by rw [at8_no hL h1]; simp), if_neg (by rw [at8_no hL h2]; simp), if_neg (by rw [h5]; simp), if_neg (by rw [at8_no hL h3]; simp), if_neg (by rw [at8_no hL h4]; simp), rSimp_atom ha hL hR]
    | neg g hg =>
      rw [txt_neg] at hL hf ⊢
      by_cases hq : g.a.n.data.toList = [61]
      · rw [if_pos hq] at hL hf ⊢
        obtain ⟨a, b, rfl, ha⟩ := eq_form hg hq
        rw [txt_atm] at hL ⊢
        have e0 : L.drop k = [126, 40] ++ ((eqTm a b).fmt ++ ([41] ++ R)) := by rw [hL]; simp [List.append_assoc]
        have e1 := drop_adv e0
        have e2 := drop_adv e1
        have hs := rSimp_atom ha e1 (.close R)
        have hs' : rSimp L (k + 2) = some (atomOfF (eqTm a b), k + 2 + (eqTm a b).fmt.length) := hs
        have hp : rEqP L (rSimp L (k + 2)) = true := by
          rw [hs', rEqP]
          have : at8 L [41] (k + 2 + (eqTm a b).fmt.length) = true := at8_yes e2
          rw [this]; rfl
        rw [rFrm, if_neg (by rw [at8_no e0 rfl]; simp), if_neg (by rw [at8_no e0 rfl]; simp), if_pos (at8_yes e0), if_pos hp, hs']
        exact some_pr (by simp only [List.length_append, List.length_cons, List.length_nil]; omega)
      · rw [if_neg hq] at hL hf ⊢
        have e0 : L.drop k = [126] ++ (g.txt ++ R) := by rw [hL]; simp []
        have e1 := drop_adv e0
        simp only [List.length_append, List.length_cons, List.length_nil] at hf
        have n1 : at8 L sAll8 k = false := at8_no e0 rfl
        have n2 : at8 L sSome8 k = false := at8_no e0 rfl
        rcases txt_head hg hq R with h40 | ⟨op, a, b, rfl, ho, ha, hb⟩
        · have n3 : at8 L [126, 40] k = false := at8_no e0 (by simpa [List.isPrefixOf] using h40)
          have h1 := rFrm_ok f g _ _ hg e1 hR (by omega)
          have h1' : rFrm L f (k + 1) = some (g, k + 1 + g.txt.length) := h1
          rw [rFrm, if_neg (by rw [n1]; simp), if_neg (by rw [n2]; simp), if_neg (by rw [n3]; simp), if_pos (at8_yes e0), h1']
          exact some_pr (by simp only [List.length_append, List.length_cons, List.length_nil]; omega)
        · have e2 := e1
          rw [txt_bin ho] at e2
          have e3 : L.drop k = [126, 40] ++ (a.txt ++ (sign8 op ++ (b.txt ++ ([41] ++ R)))) := by rw [e0, txt_bin ho]; simp [List.append_assoc]
          have e4 := drop_adv e3
          have hp : rEqP L (rSimp L (k + 2)) = false := rEqP_no ha ho e4
          have h1 := rPair_ok f op a b (k + 1) R ho ha hb e1 hR (by omega)
          rw [rFrm, if_neg (by rw [n1]; simp), if_neg (by rw [n2]; simp), if_pos (at8_yes e3), if_neg (by rw [hp]; simp), h1]
          exact some_pr (by simp only [List.length_append, List.length_cons, List.length_nil]; omega)
    | bin op g h ho hg hh =>
      have e0 := hL
      rw [txt_bin ho] at e0
      have e0 : L.drop k = [40] ++ (g.txt ++ (sign8 op ++ (h.txt ++ ([41] ++ R)))) := by rw [e0]; simp [List.append_assoc]
      have h1 := rPair_ok f op g h k R ho hg hh hL hR (by omega)
      rw [rFrm, if_neg (by rw [at8_no e0 rfl]; simp), if_neg (by rw [at8_no e0 rfl]; simp), if_neg (by rw [at8_no e0 rfl]; simp), if_neg (by rw [at8_no e0 rfl]; simp), if_pos (at8_yes e0), h1]
    | qua op v g ho hv hg =>
      rw [txt_qua ho] at hL hf ⊢
      have hw := varB_word hv
      obtain ⟨kw, hkw, hkn⟩ : ∃ kw, (if op = 8 then sAll8 else sSome8) = kw ∧ 0 < kw.length := ⟨_, rfl, by split <;> decide⟩
      rw [hkw] at hL hf ⊢
      have e0 : L.drop k = kw ++ (v ++ ([46] ++ (g.txt ++ R))) := by rw [hL]; simp [List.append_assoc]
      have e1 := drop_adv e0
      have e2 := drop_adv e1
      have e3 := drop_adv e2
      simp only [List.length_append, List.length_cons, List.length_nil] at hf e3
      have hwl : rWordL L (k + kw.length) = v := by rw [rWordL, e1, takeWhile_app hw.1 (by intro c hc; simp at hc; subst hc; decide)]
      have h46 : L[k + kw.length + v.length]? = some 46 := by rw [drop_get e2]; rfl
      obtain ⟨f1, rfl⟩ : ∃ q, f = q + 1 := ⟨f - 1, by omega⟩
      have h3 := rFrm_ok f1 g _ _ hg e3 hR (by omega)
      have hi : rQua L (f1 + 1) op (k + kw.length) = some (quantF op v g, k + kw.length + v.length + 1 + g.txt.length) := by
        rw [rQua, hwl, if_pos h46]
        have h3' : rFrm L f1 (k + kw.length + v.length + 1) = some (g, k + kw.length + v.length + 1 + g.txt.length) := h3
        rw [h3']; rfl
      rcases ho with rfl | rfl
      · obtain rfl : sAll8 = kw := hkw
        have hi' : rQua L (f1 + 1) 8 (k + 4) = _ := hi
        rw [rFrm, if_pos (at8_yes e0), hi']
        exact some_pr (by simp only [List.length_append, List.length_cons, List.length_nil]; omega)
      · obtain rfl : sSome8 = kw := hkw
        have hi' : rQua L (f1 + 1) 9 (k + 5) = _ := hi
        rw [rFrm, if_neg (by rw [at8_no e0 rfl]; simp), if_pos (at8_yes e0), hi']
        exact some_pr (by simp only [List.length_append, List.length_cons, List.length_nil]; omega)
theorem rPair_ok {L : List UInt8} : ∀ (f : Nat) (op : Int) (g h : Fm) (k : Nat) (R : List UInt8), (op = 5 ∨ op = 6 ∨ op = 7) → g.form = true → h.form = true → L.drop k = (opF op [g, h]).txt ++ R → GoodF R → (opF op [g, h]).txt.length + 1 < f → rPair L f k = some (opF op [g, h], k + (opF op [g, h]).txt.length)
  | 0, _, _, _, _, _, _, _, _, _, _, h => absurd h (by omega)
  | f + 1, op, g, h, k, R, ho, hg, hh, hL, hR, hf => by
    rw [txt_bin ho] at hL hf ⊢
    have e0 : L.drop k = [40] ++ (g.txt ++ (sign8 op ++ (h.txt ++ ([41] ++ R)))) := by rw [hL]; simp [List.append_assoc]
    have e1 := drop_adv e0
    have e2 := drop_adv e1
    have e3 := drop_adv e2
    have e4 := drop_adv e3
    simp only [List.length_append, List.length_cons, List.length_nil] at hf
    have h1 := rFrm_ok f g _ _ hg e1 (good_sign ho _) (by omega)
    have h2 := rFrm_ok f h _ _ hh e3 (.close R) (by omega)
    have hs := rSign_op ho e2
    have h41 := drop_get e4
    have h0 : op ≠ 0 := by omega
    have h1' : rFrm L f (k + 1) = some (g, k + 1 + g.txt.length) := h1
    have hs' : rSign L (k + 1 + g.txt.length) = op := hs
    have h2' : rFrm L f (k + 1 + g.txt.length + (sign8 op).length) = some (h, k + 1 + g.txt.length + (sign8 op).length + h.txt.length) := h2
    have h41' : L[k + 1 + g.txt.length + (sign8 op).length + h.txt.length]? = some 41 := h41
    rw [rPair, h1']
    simp only [hs']
    rw [if_neg h0, h2']
    simp only
    rw [if_pos h41']
    exact some_pr (by simp only [List.length_append, List.length_cons, List.length_nil]; omega)
end
theorem pTerm_name (L : List UInt8) : ∀ (f : Nat) (p : PSt), (pTerm L f p).1.n.data.toList.length ≤ L.length
  | 0, p => by rw [pTerm]; simp [Tm.n]
  | f + 1, p => by
    have := pWord_len L p
    rw [pTerm]
    split <;> simpa [Tm.n] using this
theorem pWord_wt (L : List UInt8) (p : PSt) : (pWord L p).1.length + p.pos ≤ (pWord L p).2.pos := by
  unfold pWord; split <;> simp <;> omega
theorem pMust_up (L t : List UInt8) (p : PSt) : p.pos ≤ (pMust L t p).pos := by
  unfold pMust; split <;> simp [pAdv]
theorem size_toBytes (l : List UInt8) : (⟨l.toArray⟩ : ByteArray).size = l.length := by simp [ByteArray.size]
mutual
theorem pTerm_wt (L : List UInt8) : ∀ (f : Nat) (p : PSt), (pTerm L f p).1.wt + p.pos ≤ (pTerm L f p).2.pos
  | 0, p => by rw [pTerm]; simp [Tm.wt, Tm.wts, ByteArray.size]
  | f + 1, p => by
    have h1 := pWord_wt L p
    have h2 := pTerm_wt L f (pAdv [40] (pWord L p).2)
    have h3 := pArgs_wt L [44] (by decide) f (pTerm L f (pAdv [40] (pWord L p).2)).2
    have h4 := pMust_up L [41] (pArgs L [44] f (pTerm L f (pAdv [40] (pWord L p).2)).2).2
    have h5 : (pAdv [40] (pWord L p).2).pos = (pWord L p).2.pos + 1 := rfl
    rw [pTerm]
    split
    · simp only [Tm.wt, Tm.wts, List.length_cons, size_toBytes]; omega
    · simp only [Tm.wt, Tm.wts, List.length_nil, size_toBytes]; omega
theorem pArgs_wt (L sep : List UInt8) (hs : 0 < sep.length) : ∀ (f : Nat) (p : PSt), (pArgs L sep f p).1.length + Tm.wts (pArgs L sep f p).1 + p.pos ≤ (pArgs L sep f p).2.pos
  | 0, p => by rw [pArgs]; simp [Tm.wts]
  | f + 1, p => by
    have h2 := pTerm_wt L f (pAdv sep p)
    have h3 := pArgs_wt L sep hs f (pTerm L f (pAdv sep p)).2
    have h5 : (pAdv sep p).pos = p.pos + sep.length := rfl
    rw [pArgs]
    split
    · simp only [Tm.wts, List.length_cons]; omega
    · simp [Tm.wts]
end
theorem tm0_wt : tm0.wt = 0 := by simp [tm0, Tm.wt, Tm.wts, ByteArray.size]
theorem nil_size : (⟨#[]⟩ : ByteArray).size = 0 := rfl
theorem pAtomT_wt (L : List UInt8) (f : Nat) (p : PSt) : (pAtomT L f p).1.wt + p.pos ≤ (pAtomT L f p).2.pos := by
  have h1 := pTerm_wt L f p
  have h2 := pTerm_wt L f (pAdv sEq8 (pTerm L f p).2)
  have e1 : (pAdv sEq8 (pTerm L f p).2).pos = (pTerm L f p).2.pos + 3 := rfl
  have hq : (⟨#[61]⟩ : ByteArray).size = 1 := rfl
  unfold pAtomT
  split
  · simp only [eqTm, Tm.wt, Tm.wts, List.length_cons, List.length_nil, hq]; omega
  · omega
theorem pAtomT_pos (L : List UInt8) (f : Nat) (p : PSt) (hp : p.pos ≤ L.length) : p.pos ≤ (pAtomT L f p).2.pos ∧ (pAtomT L f p).2.pos ≤ L.length := by
  have h1 := pTerm_pos L f p hp
  rw [pAtomT]
  split
  · rename_i h
    have h2 := pTake_le h h1.2
    have h3 := pTerm_pos L f (pAdv sEq8 (pTerm L f p).2) h2
    simp only [pAdv] at h3 ⊢; omega
  · exact h1
theorem atomF_wt (t : Tm) : (atomF t).wt ≤ t.wt := by
  unfold atomF
  split
  · simp [opF, Fm.wt, Fm.wts, tm0_wt, nil_size]
  · split
    · simp [opF, Fm.wt, Fm.wts, tm0_wt, nil_size]
    · simp [atomOfF, Fm.wt, Fm.wts, nil_size]
theorem pSign_take {L : List UInt8} {p : PSt} (h : pSign L p ≠ 0) : pTake L (sign8 (pSign L p)) p = true ∧ (pSign L p = 5 ∨ pSign L p = 6 ∨ pSign L p = 7) := by
  unfold pSign at h ⊢
  split
  · rename_i h1; exact ⟨h1, .inl rfl⟩
  · split
    · rename_i h1 h2; exact ⟨h2, .inr (.inl rfl)⟩
    · split
      · rename_i h1 h2 h3; exact ⟨h3, .inr (.inr rfl)⟩
      · rename_i h1 h2 h3; rw [if_neg h1, if_neg h2, if_neg h3] at h; exact absurd rfl h
mutual
theorem pFrm_wt (L : List UInt8) : ∀ (f : Nat) (p : PSt), p.pos ≤ L.length → (pFrm L f p).1.wt + p.pos ≤ (pFrm L f p).2.pos ∧ (pFrm L f p).2.pos ≤ L.length
  | 0, p, hp => by rw [pFrm]; simp [opF, Fm.wt, Fm.wts, tm0_wt, nil_size, hp]
  | f + 1, p, hp => by
    have bound : ∀ (op : Int) (kw : List UInt8), 1 ≤ kw.length → pTake L kw p = true → (quantF op (pWord L (pAdv kw p)).1 (pFrm L f (pMust L [46] (pWord L (pAdv kw p)).2)).1).wt + p.pos ≤ (pFrm L f (pMust L [46] (pWord L (pAdv kw p)).2)).2.pos ∧ (pFrm L f (pMust L [46] (pWord L (pAdv kw p)).2)).2.pos ≤ L.length := fun op kw hk ht => by
      have h0 := pTake_le ht hp
      have h1 := pWord_wt L (pAdv kw p)
      have h2 := pWord_pos L (pAdv kw p) h0
      have h3 := pMust_pos L [46] (pWord L (pAdv kw p)).2 h2.2
      have h4 := pFrm_wt L f (pMust L [46] (pWord L (pAdv kw p)).2) h3.2
      have e1 : (pAdv kw p).pos = p.pos + kw.length := rfl
      simp only [quantF, Fm.wt, Fm.wts, tm0_wt, size_toBytes, List.length_cons, List.length_nil]; omega
    rw [pFrm]
    split
    · rename_i h; exact bound _ _ (by decide) h
    · split
      · rename_i h; exact bound _ _ (by decide) h
      · split
        · rename_i h
          have h0 := pTake_le h hp
          have h4 := pFrm_wt L f (pAdv [126] p) h0
          have e1 : (pAdv [126] p).pos = p.pos + 1 := rfl
          simp only [opF, Fm.wt, Fm.wts, tm0_wt, nil_size, List.length_cons, List.length_nil]; omega
        · split
          · rename_i h
            have h0 := pTake_le h hp
            have h4 := pInn_wt L f (pAdv [40] p) h0
            have e1 : (pAdv [40] p).pos = p.pos + 1 := rfl
            omega
          · have h1 := pAtomT_wt L (L.length + 2) p
            have h2 := pAtomT_pos L (L.length + 2) p hp
            have h3 := atomF_wt (pAtomT L (L.length + 2) p).1
            simp only; omega
theorem pInn_wt (L : List UInt8) : ∀ (f : Nat) (p : PSt), p.pos ≤ L.length → (pInn L f p).1.wt + p.pos ≤ (pInn L f p).2.pos ∧ (pInn L f p).2.pos ≤ L.length
  | 0, p, hp => by rw [pInn]; simp [opF, Fm.wt, Fm.wts, tm0_wt, nil_size, hp]
  | f + 1, p, hp => by
    have h1 := pFrm_wt L f p hp
    rw [pInn]
    split
    · have h2 := pMust_pos L [41] (pFrm L f p).2 h1.2
      simp only; omega
    · rename_i h
      have h2 := pTake_le (pSign_take h).1 h1.2
      have h3 := pFrm_wt L f (pAdv (sign8 (pSign L (pFrm L f p).2)) (pFrm L f p).2) h2
      have h4 := pMust_pos L [41] (pFrm L f (pAdv (sign8 (pSign L (pFrm L f p).2)) (pFrm L f p).2)).2 h3.2
      have h5 := sign8_len (pSign L (pFrm L f p).2)
      have e1 : (pAdv (sign8 (pSign L (pFrm L f p).2)) (pFrm L f p).2).pos = (pFrm L f p).2.pos + (sign8 (pSign L (pFrm L f p).2)).length := rfl
      simp only [opF, Fm.wt, Fm.wts, tm0_wt, nil_size, List.length_cons, List.length_nil]; omega
end
theorem at8_le {L t : List UInt8} {k : Nat} (h : at8 L t k = true) (hk : k ≤ L.length) : k + t.length ≤ L.length := by
  have := (List.isPrefixOf_iff_prefix.1 h).length_le
  rw [List.length_drop] at this; omega
theorem rSimp_wt (L : List UInt8) (k : Nat) (F : Fm) (j : Nat) (hk : k ≤ L.length) (h : rSimp L k = some (F, j)) : F.wt + k ≤ j ∧ j ≤ L.length ∧ k < j := by
  rw [rSimp] at h
  cases h1 : rTerm L (L.length + 2) k with
  | none => rw [h1] at h; cases h
  | some r =>
    obtain ⟨a, i⟩ := r
    have w1 := rTerm_wt L _ k a i hk h1
    rw [h1] at h
    simp only at h
    split at h
    · rename_i h2
      have h3 := at8_le h2 w1.2.1
      have h3 : i + 3 ≤ L.length := h3
      cases h4 : rTerm L (L.length + 2) (i + 3) with
      | none => rw [h4] at h; cases h
      | some r =>
        obtain ⟨b, e⟩ := r
        have w2 := rTerm_wt L _ _ b e h3 h4
        rw [h4] at h
        simp only [Option.some.injEq, Prod.mk.injEq] at h
        obtain ⟨rfl, rfl⟩ := h
        have hq : (⟨#[61]⟩ : ByteArray).size = 1 := rfl
        simp only [atomOfF, eqTm, Fm.wt, Fm.wts, Tm.wt, Tm.wts, List.length_cons, List.length_nil, nil_size, hq]; omega
    · simp only [Option.some.injEq, Prod.mk.injEq] at h
      obtain ⟨rfl, rfl⟩ := h
      have := atomF_wt a
      omega
theorem rSign_at {L : List UInt8} {k : Nat} (h : rSign L k ≠ 0) : at8 L (sign8 (rSign L k)) k = true ∧ (rSign L k = 5 ∨ rSign L k = 6 ∨ rSign L k = 7) := by
  unfold rSign at h ⊢
  split
  · rename_i h1; exact ⟨h1, .inl rfl⟩
  · split
    · rename_i h1 h2; exact ⟨h2, .inr (.inl rfl)⟩
    · split
      · rename_i h1 h2 h3; exact ⟨h3, .inr (.inr rfl)⟩
      · rename_i h1 h2 h3; rw [if_neg h1, if_neg h2, if_neg h3] at h; exact absurd rfl h
mutual
theorem rFrm_wt (L : List UInt8) : ∀ (f k : Nat) (F : Fm) (j : Nat), k ≤ L.length → rFrm L f k = some (F, j) → F.wt + k ≤ j ∧ j ≤ L.length
  | 0, _, _, _, _, h => by rw [rFrm] at h; cases h
  | f + 1, k, F, j, hk, h => by
    rw [rFrm] at h
    have neg1 : ∀ g : Fm, (opF 4 [g]).wt = 1 + g.wt := fun g => by simp only [opF, Fm.wt, Fm.wts, tm0_wt, nil_size, List.length_cons, List.length_nil]; omega
    split at h
    · rename_i h1; have h2 : k + 4 ≤ L.length := at8_le h1 hk
      have := rQua_wt L f 8 (k + 4) F j h2 h; omega
    · split at h
      · rename_i h1; have h2 : k + 5 ≤ L.length := at8_le h1 hk
        have := rQua_wt L f 9 (k + 5) F j h2 h; omega
      · split at h
        · rename_i h1; have h2 : k + 2 ≤ L.length := at8_le h1 hk
          split at h
          · rename_i h3
            cases h4 : rSimp L (k + 2) with
            | none => rw [h4] at h; cases h
            | some r =>
              obtain ⟨g, i⟩ := r
              have := rSimp_wt L _ g i h2 h4
              rw [h4] at h h3
              simp only [Option.map_some, Option.some.injEq, Prod.mk.injEq] at h
              obtain ⟨rfl, rfl⟩ := h
              simp only [rEqP, Bool.and_eq_true] at h3
              have h5 : i + 1 ≤ L.length := at8_le h3.2 this.2.1
              rw [neg1]; omega
          · cases h4 : rPair L f (k + 1) with
            | none => rw [h4] at h; cases h
            | some r =>
              obtain ⟨g, i⟩ := r
              have := rPair_wt L f (k + 1) g i (by omega) h4
              rw [h4] at h
              simp only [Option.map_some, Option.some.injEq, Prod.mk.injEq] at h
              obtain ⟨rfl, rfl⟩ := h
              rw [neg1]; omega
        · split at h
          · rename_i h1; have h2 : k + 1 ≤ L.length := at8_le h1 hk
            cases h4 : rFrm L f (k + 1) with
            | none => rw [h4] at h; cases h
            | some r =>
              obtain ⟨g, i⟩ := r
              have := rFrm_wt L f (k + 1) g i h2 h4
              rw [h4] at h
              simp only [Option.map_some, Option.some.injEq, Prod.mk.injEq] at h
              obtain ⟨rfl, rfl⟩ := h
              rw [neg1]; omega
          · split at h
            · rename_i h1
              have h2 : k + 1 ≤ L.length := at8_le h1 hk
              exact rPair_wt L f k F j (by omega) h
            · have := rSimp_wt L k F j hk h; omega
theorem rQua_wt (L : List UInt8) : ∀ (f : Nat) (op : Int) (k : Nat) (F : Fm) (j : Nat), k ≤ L.length → rQua L f op k = some (F, j) → F.wt + k ≤ j + 1 ∧ j ≤ L.length
  | 0, _, _, _, _, _, h => by rw [rQua] at h; cases h
  | f + 1, op, k, F, j, hk, h => by
    rw [rQua] at h
    split at h
    · rename_i h1
      have h2 := get_lt h1
      cases h4 : rFrm L f (k + (rWordL L k).length + 1) with
      | none => rw [h4] at h; cases h
      | some r =>
        obtain ⟨g, i⟩ := r
        have := rFrm_wt L f _ g i (by omega) h4
        rw [h4] at h
        simp only [Option.map_some, Option.some.injEq, Prod.mk.injEq] at h
        obtain ⟨rfl, rfl⟩ := h
        simp only [quantF, Fm.wt, Fm.wts, tm0_wt, size_toBytes, List.length_cons, List.length_nil]; omega
    · cases h
theorem rPair_wt (L : List UInt8) : ∀ (f k : Nat) (F : Fm) (j : Nat), k + 1 ≤ L.length → rPair L f k = some (F, j) → F.wt + k ≤ j ∧ j ≤ L.length
  | 0, _, _, _, _, h => by rw [rPair] at h; cases h
  | f + 1, k, F, j, hk, h => by
    rw [rPair] at h
    cases h1 : rFrm L f (k + 1) with
    | none => rw [h1] at h; cases h
    | some r =>
      obtain ⟨a, i⟩ := r
      have w1 := rFrm_wt L f (k + 1) a i hk h1
      rw [h1] at h
      simp only at h
      split at h
      · cases h
      · rename_i h0
        have h2 := at8_le (rSign_at h0).1 w1.2
        have h5 := sign8_len (rSign L i)
        cases h3 : rFrm L f (i + (sign8 (rSign L i)).length) with
        | none => rw [h3] at h; cases h
        | some r =>
          obtain ⟨b, e⟩ := r
          have w2 := rFrm_wt L f _ b e h2 h3
          rw [h3] at h
          simp only at h
          split at h
          · rename_i h6
            have := get_lt h6
            simp only [Option.some.injEq, Prod.mk.injEq] at h
            obtain ⟨rfl, rfl⟩ := h
            simp only [opF, Fm.wt, Fm.wts, tm0_wt, nil_size, List.length_cons, List.length_nil]; omega
          · cases h
end
/-! ### What both sides answer -/
def fRead (L : List UInt8) : Fm × PSt := pFrm L (2 * L.length + 5) ⟨0, false⟩
def fOkL (L : List UInt8) : Bool := !(fRead L).2.bad && (fRead L).2.pos == L.length && (fRead L).1.good && (fRead L).1.txt == L
def gRead (L : List UInt8) : Option (Fm × Nat) := rFrm L (2 * L.length + 5) 0
def gOkL (L : List UInt8) : Bool := match gRead L with | none => false | some (F, j) => j == L.length && F.good && F.txt == L
theorem fRead_txt {F : Fm} (hg : F.good = true) : fRead F.txt = (F, ⟨F.txt.length, false⟩) := by
  have hf : F.form = true := by rw [Fm.good, Bool.and_eq_true] at hg; exact hg.2
  have h := pFrm_ok (L := F.txt) (2 * F.txt.length + 5) F 0 [] hf (by simp) .nil (by omega)
  simpa [fRead] using h
theorem gRead_txt {F : Fm} (hg : F.good = true) : gRead F.txt = some (F, F.txt.length) := by
  have hf : F.form = true := by rw [Fm.good, Bool.and_eq_true] at hg; exact hg.2
  have h := rFrm_ok (L := F.txt) (2 * F.txt.length + 5) F 0 [] hf (by simp) .nil (by omega)
  simpa [gRead] using h
theorem fOkL_iff {L : List UInt8} : fOkL L = true ↔ ∃ F : Fm, F.good = true ∧ F.txt = L := by
  constructor
  · intro h
    simp only [fOkL, Bool.and_eq_true, beq_iff_eq] at h
    exact ⟨_, h.1.2, h.2⟩
  · rintro ⟨F, hg, rfl⟩
    simp [fOkL, fRead_txt hg, hg]
theorem gOkL_iff {L : List UInt8} : gOkL L = true ↔ ∃ F : Fm, F.good = true ∧ F.txt = L := by
  constructor
  · intro h
    unfold gOkL at h
    cases hr : gRead L with
    | none => rw [hr] at h; cases h
    | some r =>
      obtain ⟨F, j⟩ := r
      rw [hr] at h
      simp only [Bool.and_eq_true, beq_iff_eq] at h
      exact ⟨F, h.1.2, h.2⟩
  · rintro ⟨F, hg, rfl⟩
    simp [gOkL, gRead_txt hg, hg]
theorem gOkL_eq (L : List UInt8) : gOkL L = fOkL L := by rw [Bool.eq_iff_iff, gOkL_iff, fOkL_iff]
theorem gRead_eq {L : List UInt8} (h : fOkL L = true) : gRead L = some ((fRead L).1, L.length) := by
  obtain ⟨F, hg, rfl⟩ := fOkL_iff.1 h
  rw [gRead_txt hg, fRead_txt hg]
def pfOk (s : ByteArray) : Bool := decide (s.size ≤ 4000) && fOkL s.data.toList
def FmOwn (eT eF : TypeId) : Nat → (Nat → Prop) → World → Fm → List Value → Prop
  | 0, _, _, _, _ => False
  | n + 1, S, w, .mk op a x ps, cs => ∃ (vn va vp : Value) (Sa Sp : Nat → Prop), cs = [.int .i64 op, vn, va, .string x, vp] ∧ (-9223372036854775808 ≤ op ∧ op ≤ 9223372036854775807) ∧ x.size ≤ maxLen ∧ TmOwn eT n Sa w a [vn, va] ∧
      OwnRow Sp w eF 5 (fun T f c => FmOwn eT eF n T w f c) vp ps ∧ (∀ b, Sa b → S b ∧ ¬ Sp b) ∧ ∀ b, Sp b → S b
theorem FmOwn.mono {eT eF : TypeId} : ∀ (n m : Nat) {S S' : Nat → Prop} {w w' : World} (t : Fm) (cs : List Value), n ≤ m → SameOn S w w' → (∀ b, S b → S' b) → FmOwn eT eF n S w t cs → FmOwn eT eF m S' w' t cs
  | 0, _, _, _, _, _, _, _, _, _, _, h => h.elim
  | n + 1, 0, _, _, _, _, _, _, hm, _, _, _ => by omega
  | n + 1, m + 1, S, S', w, w', .mk op a x ps, cs, hm, hs, hS, h => by
    obtain ⟨vn, va, vp, Sa, Sp, h1, h2, h3, h4, h5, h6, h7⟩ := h
    exact ⟨vn, va, vp, Sa, Sp, h1, h2, h3, TmOwn.mono n m a _ (by omega) (fun b hb hlt => hs b (h6 b hb).1 hlt) (fun _ h => h) h4,
      h5.mono (fun b hb hlt => hs b (h7 b hb) hlt) (fun _ h => h) (fun T y c _ hT hy => FmOwn.mono n m y c (by omega) (fun b hb hlt => hs b (h7 b (hT b hb)) hlt) (fun _ h => h) hy), fun b hb => ⟨hS b (h6 b hb).1, (h6 b hb).2⟩, fun b hb => hS b (h7 b hb)⟩
theorem FmOwn.at_ {eT eF : TypeId} : ∀ (n : Nat) {S : Nat → Prop} {w : World} (t : Fm) (cs : List Value), FmOwn eT eF n S w t cs → FmAt S n w t cs
  | 0, _, _, _, _, h => h.elim
  | n + 1, S, w, .mk op a x ps, cs, h => by
    obtain ⟨vn, va, vp, Sa, Sp, h1, h2, h3, h4, h5, h6, h7⟩ := h
    exact ⟨vn, va, vp, h1, h2, h3, TmAt.mono (SameOn.refl _ _) (fun b hb => (h6 b hb).1) n n a _ (Nat.le_refl _) (TmOwn.at_ n a _ h4),
      ListAt.mono (h5.listAt (R' := FmAt S n w) (by omega) fun T y c _ hT hy => FmAt.mono (SameOn.refl _ _) (fun b hb => h7 b (hT b hb)) n n y c (Nat.le_refl _) (FmOwn.at_ n y c hy)) (SameOn.refl _ _) h7 (fun _ _ _ h => h)⟩
theorem FmOwn.form {eT eF : TypeId} {n : Nat} {S : Nat → Prop} {w : World} {t : Fm} {v0 v1 v2 v3 v4 : Value} (h : FmOwn eT eF n S w t [v0, v1, v2, v3, v4]) : ∃ p c q d, v0 = .int .i64 t.op ∧ v1 = .string t.a.n ∧ v2 = .slice p t.a.us.length c ∧ v3 = .string t.v ∧ v4 = .slice q t.ps.length d ∧ (-9223372036854775808 ≤ t.op ∧ t.op ≤ 9223372036854775807) ∧ t.a.n.size ≤ maxLen ∧ t.a.us.length ≤ maxLen ∧ t.v.size ≤ maxLen ∧ t.ps.length ≤ maxLen := (FmOwn.at_ n t _ h).form
theorem row_new (w : World) (e : TypeId) (size n : Nat) (cur : Array Value) (hc : cur.size = n * size) (hn : n ≤ maxLen) : (w.alloc (.cells cur e)).ownsRow 0 e size (.slice (some ⟨w.heap.size, 0, none⟩) n n) n cur.toList :=
  ⟨by simpa using hc, .inr ⟨w.heap.size, n, cur, rfl, Nat.zero_le _, heap_alloc_new w _, Nat.le_refl _, hn, hc, by rw [List.take_of_length_le]; simp; omega⟩⟩
theorem OwnRow.one {α : Type} {S S' : Nat → Prop} {w : World} {e : TypeId} {size : Nat} {R : (Nat → Prop) → α → List Value → Prop} {x : α} (cs : Array Value) (hc : cs.size = size) (hR : R S x cs.toList) (hS : ∀ b, S b → b < w.heap.size) (h1 : ∀ b, S b → S' b) (h2 : S' w.heap.size) :
    OwnRow S' (w.alloc (.cells cs e)) e size R (.slice (some ⟨w.heap.size, 0, none⟩) 1 1) [x] := by
  refine ⟨by simp [maxLen], cs.toList, fun _ => S, row_new w e size 1 cs (by omega) (by simp [maxLen]), fun g hg => ?_, fun i y hy => ?_, fun i j b hi hj hij => ?_⟩
  · have : w.heap.size = g := by simpa [Value.ownBlock] using hg
    rw [← this]; exact h2
  · have hi : i < 1 := by have := (List.getElem?_eq_some_iff.1 hy).1; simpa using this
    obtain rfl : i = 0 := by omega
    obtain rfl : x = y := by simpa using hy
    rw [Nat.zero_mul, List.drop_zero, List.take_of_length_le (by simp; omega)]
    exact ⟨hR, fun b hb => ⟨h1 b hb, fun hv => by have : w.heap.size = b := by simpa [Value.ownBlock] using hv
                                                  have := hS b hb; omega⟩⟩
  · simp at hi hj; omega
theorem OwnRow.two {α : Type} {S T S' : Nat → Prop} {w : World} {e : TypeId} {size : Nat} {R : (Nat → Prop) → α → List Value → Prop} {x y : α} (cs ds : List Value) (hc : cs.length = size) (hd : ds.length = size) (hR : R S x cs) (hR2 : R T y ds) (hS : ∀ b, S b → b < w.heap.size) (hT : ∀ b, T b → b < w.heap.size) (hST : ∀ b, S b → ¬ T b)
    (h1 : ∀ b, S b → S' b) (h3 : ∀ b, T b → S' b) (h2 : S' w.heap.size) : OwnRow S' (w.alloc (.cells (cs ++ ds).toArray e)) e size R (.slice (some ⟨w.heap.size, 0, none⟩) 2 2) [x, y] := by
  refine ⟨by simp [maxLen], cs ++ ds, fun i => if i = 0 then S else T, by simpa using row_new w e size 2 (cs ++ ds).toArray (by simp; omega) (by simp [maxLen]), fun g hg => ?_, fun i z hz => ?_, fun i j b hi hj hij hb => ?_⟩
  · have : w.heap.size = g := by simpa [Value.ownBlock] using hg
    rw [← this]; exact h2
  · have hi : i < 2 := by have := (List.getElem?_eq_some_iff.1 hz).1; simpa using this
    match i, hi with
    | 0, _ =>
      obtain rfl : x = z := by simpa using hz
      rw [Nat.zero_mul, List.drop_zero, List.take_append_of_le_length (by omega), List.take_of_length_le (by omega)]
      exact ⟨hR, fun b hb => ⟨h1 b hb, fun hv => by
        have e1 : w.heap.size = b := by simpa [Value.ownBlock] using hv
        have := hS b hb; omega⟩⟩
    | 1, _ =>
      obtain rfl : y = z := by simpa using hz
      rw [Nat.one_mul, List.drop_left' hc, List.take_of_length_le (by omega)]
      exact ⟨hR2, fun b hb => ⟨h3 b hb, fun hv => by
        have e1 : w.heap.size = b := by simpa [Value.ownBlock] using hv
        have := hT b hb; omega⟩⟩
  · simp only [List.length_cons, List.length_nil] at hi hj
    change (if i = 0 then S else T) b at hb
    show ¬ (if j = 0 then S else T) b
    match i, j, hij with
    | 0, 1, _ => exact hST b hb
    | 1, 0, _ => exact fun h => hST b h hb
    | 0, 0, h => exact absurd rfl h
    | 1, 1, h => exact absurd rfl h
    | i + 2, _, _ => omega
    | _, j + 2, _ => omega
theorem OwnRow.one' {α : Type} {S S' : Nat → Prop} {w : World} {e : TypeId} {size k : Nat} {R : (Nat → Prop) → α → List Value → Prop} {x : α} (hk : w.heap.size = k) (cs : Array Value) (hc : cs.size = size) (hR : R S x cs.toList) (hS : ∀ b, S b → b < k) (h1 : ∀ b, S b → S' b) (h2 : S' k) :
    OwnRow S' (w.alloc (.cells cs e)) e size R (.slice (some ⟨k, 0, none⟩) 1 1) [x] := by subst hk; exact OwnRow.one cs hc hR hS h1 h2
theorem OwnRow.two' {α : Type} {S T S' : Nat → Prop} {w : World} {e : TypeId} {size k : Nat} {R : (Nat → Prop) → α → List Value → Prop} {x y : α} (hk : w.heap.size = k) (cs ds : List Value) (all : Array Value) (hall : all = (cs ++ ds).toArray) (hc : cs.length = size) (hd : ds.length = size) (hR : R S x cs) (hR2 : R T y ds) (hS : ∀ b, S b → b < k) (hT : ∀ b, T b → b < k) (hST : ∀ b, S b → ¬ T b)
    (h1 : ∀ b, S b → S' b) (h3 : ∀ b, T b → S' b) (h2 : S' k) : OwnRow S' (w.alloc (.cells all e)) e size R (.slice (some ⟨k, 0, none⟩) 2 2) [x, y] := by subst hk hall; exact OwnRow.two cs ds hc hd hR hR2 hS hT hST h1 h3 h2
theorem FmOwn.later {eT eF : TypeId} {n : Nat} {S : Nat → Prop} {w w' : World} {t : Fm} {cs : List Value} (hb : Below w.heap.size w w') (h : FmOwn eT eF n S w t cs) : FmOwn eT eF n S w' t cs := FmOwn.mono n n t cs (Nat.le_refl _) (SameOn.below hb) (fun _ h => h) h
end Go.Proofs.YtkgfanajgdelcaaGreatDoor
