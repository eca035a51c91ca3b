/- The program's parser of terms and of English as data, and that it reads back what is written. No conditions; no program is walked. -/
import Derived.Test.YtinfogmjijeliaaEngF
namespace Go.Proofs.Ytinfogmjijeliaa
open Go.RowKit
def wordC (c : UInt8) : Bool := loC c || upC c || diC c || c == 95
/-- Where the parser stands, and whether it has failed. -/
structure PSt where
  pos : Nat
  bad : Bool
def pTake (L t : List UInt8) (p : PSt) : Bool := !p.bad && t.isPrefixOf (L.drop p.pos)
def pAdv (t : List UInt8) (p : PSt) : PSt := ⟨p.pos + t.length, p.bad⟩
def pMust (L t : List UInt8) (p : PSt) : PSt := if pTake L t p then pAdv t p else ⟨p.pos, true⟩
def pWordL (L : List UInt8) (p : PSt) : List UInt8 := (L.drop p.pos).takeWhile wordC
def pWord (L : List UInt8) (p : PSt) : List UInt8 × PSt :=
  if p.bad || (pWordL L p).isEmpty then ([], ⟨p.pos + (pWordL L p).length, true⟩) else (pWordL L p, ⟨p.pos + (pWordL L p).length, p.bad⟩)
mutual
def pTerm (L : List UInt8) : Nat → PSt → Tm × PSt
  | 0, p => (.mk ⟨#[]⟩ [], p)
  | f + 1, p =>
    if pTake L [40] (pWord L p).2 then
      (.mk ⟨(pWord L p).1.toArray⟩ ((pTerm L f (pAdv [40] (pWord L p).2)).1 :: (pArgs L [44] f (pTerm L f (pAdv [40] (pWord L p).2)).2).1), pMust L [41] (pArgs L [44] f (pTerm L f (pAdv [40] (pWord L p).2)).2).2)
    else (.mk ⟨(pWord L p).1.toArray⟩ [], (pWord L p).2)
def pArgs (L sep : List UInt8) : Nat → PSt → List Tm × PSt
  | 0, p => ([], p)
  | f + 1, p =>
    if pTake L sep p then ((pTerm L f (pAdv sep p)).1 :: (pArgs L sep f (pTerm L f (pAdv sep p)).2).1, (pArgs L sep f (pTerm L f (pAdv sep p)).2).2)
    else ([], p)
end
def eqTm (a b : Tm) : Tm := .mk ⟨#[61]⟩ [a, b]
def tm0 : Tm := .mk ⟨#[]⟩ []
def atomOfF (t : Tm) : Fm := .mk 3 t ⟨#[]⟩ []
def opF (op : Int) (ps : List Fm) : Fm := .mk op tm0 ⟨#[]⟩ ps
def quantF (op : Int) (v : List UInt8) (f : Fm) : Fm := .mk op tm0 ⟨v.toArray⟩ [f]
def pAtom (L : List UInt8) (f : Nat) (p : PSt) : Fm × PSt :=
  if pTake L sEquals (pTerm L f p).2 then
    (atomOfF (eqTm (pTerm L f p).1 (pTerm L f (pAdv sEquals (pTerm L f p).2)).1), (pTerm L f (pAdv sEquals (pTerm L f p).2)).2)
  else if pTake L sHoldsOf (pTerm L f p).2 then
    (atomOfF (.mk (pTerm L f p).1.n ((pTerm L f (pAdv sHoldsOf (pTerm L f p).2)).1 :: (pArgs L sComma f (pTerm L f (pAdv sHoldsOf (pTerm L f p).2)).2).1)), (pArgs L sComma f (pTerm L f (pAdv sHoldsOf (pTerm L f p).2)).2).2)
  else (atomOfF (pTerm L f p).1, pMust L sHolds (pTerm L f p).2)
def pEng (L : List UInt8) : Nat → PSt → Fm × PSt
  | 0, p => (opF 0 [], p)
  | f + 1, p =>
    let pair := fun (op : Int) (word : List UInt8) (q : PSt) => (opF op [(pEng L f q).1, (pEng L f (pMust L word (pEng L f q).2)).1], (pEng L f (pMust L word (pEng L f q).2)).2)
    let bound := fun (op : Int) (word : List UInt8) (q : PSt) => (quantF op (pWord L q).1 (pEng L f (pMust L word (pWord L q).2)).1, (pEng L f (pMust L word (pWord L q).2)).2)
    if pTake L sTruth p then (opF 1 [], pAdv sTruth p)
    else if pTake L sFalsity p then (opF 2 [], pAdv sFalsity p)
    else if pTake L sNot p then (opF 4 [(pEng L f (pAdv sNot p)).1], (pEng L f (pAdv sNot p)).2)
    else if pTake L sBoth p then pair 5 sAnd (pAdv sBoth p)
    else if pTake L sEither p then pair 6 sOr (pAdv sEither p)
    else if pTake L sIf p then pair 7 sThen (pAdv sIf p)
    else if pTake L sEvery p then bound 8 sComma (pAdv sEvery p)
    else if pTake L sThere p then bound 9 sSuch (pAdv sThere p)
    else pAtom L f p
/-! ### What is written is read back -/
theorem isPrefixOf_app (t R : List UInt8) : t.isPrefixOf (t ++ R) = true := by
  induction t with
  | nil => simp
  | cons c t ih => simp [List.isPrefixOf, ih]
theorem pTake_yes {L t R : List UInt8} {k : Nat} (h : L.drop k = t ++ R) : pTake L t ⟨k, false⟩ = true := by simp [pTake, h, isPrefixOf_app]
theorem drop_adv {L t R : List UInt8} {k : Nat} (h : L.drop k = t ++ R) : L.drop (k + t.length) = R := by
  rw [← List.drop_drop, h, List.drop_left]
theorem pMust_yes {L t R : List UInt8} {k : Nat} (h : L.drop k = t ++ R) : pMust L t ⟨k, false⟩ = ⟨k + t.length, false⟩ := by rw [pMust, if_pos (pTake_yes h)]; rfl
/-- A text begins with no letter, digit or underscore, and with no bracket. -/
def stopC (R : List UInt8) : Prop := ∀ c, R.head? = some c → wordC c = false ∧ c ≠ 40
theorem takeWhile_app {p : UInt8 → Bool} {n R : List UInt8} (h : n.all p = true) (hR : ∀ c, R.head? = some c → p c = false) : (n ++ R).takeWhile p = n := by
  induction n with
  | nil =>
    cases R with
    | nil => rfl
    | cons c R => rw [List.nil_append, List.takeWhile_cons_of_neg]; simp [hR c rfl]
  | cons x n ih =>
    simp only [List.all_cons, Bool.and_eq_true] at h
    rw [List.cons_append, List.takeWhile_cons_of_pos h.1, ih h.2]
theorem pWord_ok {L n R : List UInt8} {k : Nat} (h : L.drop k = n ++ R) (hn : n.all wordC = true) (h0 : n ≠ []) (hR : ∀ c, R.head? = some c → wordC c = false) : pWord L ⟨k, false⟩ = (n, ⟨k + n.length, false⟩) := by
  have e : pWordL L ⟨k, false⟩ = n := by rw [pWordL]; show (L.drop k).takeWhile wordC = n; rw [h, takeWhile_app hn hR]
  rw [pWord, e, if_neg (by simpa using h0)]
theorem headTail_all {p q r : UInt8 → Bool} {l : List UInt8} (h : headTail p q l = true) (hp : ∀ c, p c = true → r c = true) (hq : ∀ c, q c = true → r c = true) : l.all r = true := by
  cases l with
  | nil => rfl
  | cons c l =>
    simp only [headTail, Bool.and_eq_true, List.all_cons, List.all_eq_true] at h ⊢
    exact ⟨hp c h.1, fun x hx => hq x (h.2 x hx)⟩
theorem varB_word {l : List UInt8} (h : varB l = true) : l.all wordC = true ∧ l ≠ [] := by
  simp only [varB, Bool.and_eq_true, decide_eq_true_eq] at h
  refine ⟨headTail_all h.2 (fun c hc => by simp [wordC, hc]) (fun c hc => ?_), fun e => by rw [e] at h; simp at h⟩
  simp only [smC, Bool.or_eq_true] at hc
  rcases hc with hc | hc <;> simp [wordC, hc]
theorem symB_word {l : List UInt8} (h : symB l = true) : l.all wordC = true ∧ l ≠ [] := by
  simp only [symB, Bool.and_eq_true, decide_eq_true_eq] at h
  refine ⟨headTail_all h.1.2 (fun c hc => by simp [wordC, hc]) (fun c hc => ?_), fun e => by rw [e] at h; simp at h⟩
  simp only [unC, smC, Bool.or_eq_true] at hc
  rcases hc with (hc | hc) | hc
  · simp [wordC, hc]
  · simp [wordC, hc]
  · simp only [wordC, hc, Bool.or_true]
theorem Tm.nodes_mk {n : ByteArray} {us : List Tm} (h : (Tm.mk n us).nodes = true) : (n.data.toList.all wordC = true ∧ n.data.toList ≠ []) ∧ Tm.nodess us = true := by
  rw [Tm.nodes] at h
  split at h
  · rename_i hv
    cases us with
    | nil => exact ⟨varB_word hv, rfl⟩
    | cons a us => simp at h
  · simp only [Bool.and_eq_true] at h
    exact ⟨symB_word h.1.1, h.2⟩
theorem word_not61 {l : List UInt8} (h : l.all wordC = true ∧ l ≠ []) : l ≠ [61] := by
  rintro rfl; exact absurd h.1 (by decide)
theorem Tm.fmt_mk {n : ByteArray} {us : List Tm} (h : n.data.toList ≠ [61]) : (Tm.mk n us).fmt = if us.isEmpty then n.data.toList else n.data.toList ++ [40] ++ joinB [44] (Tm.fmtL us) ++ [41] := by
  cases us <;> simp only [Tm.fmt, if_neg h] <;> rfl
/-- The texts of a list, each behind a separator. -/
def sepAll (sep : List UInt8) : List Tm → List UInt8
  | [] => []
  | t :: us => sep ++ t.fmt ++ sepAll sep us
theorem joinB_cons (sep : List UInt8) (a : Tm) (us : List Tm) : joinB sep (Tm.fmtL (a :: us)) = a.fmt ++ sepAll sep us := by
  induction us generalizing a with
  | nil => simp [Tm.fmtL, joinB, sepAll]
  | cons b us ih =>
    have := ih b
    rw [Tm.fmtL] at this
    rw [Tm.fmtL, Tm.fmtL, joinB, this, sepAll]
    simp [List.append_assoc]
theorem stop_sep {sep R : List UInt8} {us : List Tm} (hs : stopC sep) (h0 : sep ≠ []) (hR : stopC R) : stopC (sepAll sep us ++ R) := by
  cases us with
  | nil => exact hR
  | cons a us =>
    intro c hc
    apply hs
    cases sep with
    | nil => exact absurd rfl h0
    | cons x s => simpa [sepAll] using hc
theorem Tm.ne_fmt {n : ByteArray} {us : List Tm} (h : (Tm.mk n us).nodes = true) : (Tm.mk n us).fmt ≠ [] := by
  have h1 := Tm.nodes_mk h
  rw [Tm.fmt_mk (word_not61 h1.1)]
  split
  · exact h1.1.2
  · simp
mutual
theorem pTerm_ok {L : List UInt8} : ∀ (f : Nat) (t : Tm) (k : Nat) (R : List UInt8), t.nodes = true → L.drop k = t.fmt ++ R → stopC R → t.fmt.length < f → pTerm L f ⟨k, false⟩ = (t, ⟨k + t.fmt.length, false⟩)
  | 0, _, _, _, _, _, _, h => absurd h (by omega)
  | f + 1, .mk n us, k, R, hn, hL, hR, hf => by
    have h1 := Tm.nodes_mk hn
    have hm := Tm.fmt_mk (us := us) (word_not61 h1.1)
    cases us with
    | nil =>
      rw [if_pos (by rfl)] at hm
      rw [hm] at hL ⊢
      have hw := pWord_ok hL h1.1.1 h1.1.2 (fun c hc => (hR c hc).1)
      rw [pTerm, hw]
      have hno : pTake L [40] ⟨k + n.data.toList.length, false⟩ = false := by
        have := drop_adv hL
        simp only [pTake, this]
        cases R with
        | nil => rfl
        | cons c R => simp [List.isPrefixOf, (hR c rfl).2.symm]
      rw [hno]; rfl
    | cons a us =>
      rw [if_neg (by simp), joinB_cons] at hm
      have h2 : a.nodes = true ∧ Tm.nodess us = true := by simpa [Tm.nodess] using h1.2
      have hlen : (Tm.mk n (a :: us)).fmt.length = n.data.toList.length + 1 + a.fmt.length + (sepAll [44] us).length + 1 := by rw [hm]; simp; omega
      have e0 : L.drop k = n.data.toList ++ ([40] ++ (a.fmt ++ (sepAll [44] us ++ ([41] ++ R)))) := by rw [hL, hm]; simp [List.append_assoc]
      have hw := pWord_ok e0 h1.1.1 h1.1.2 (fun c hc => by simp at hc; subst hc; decide)
      have e1 := drop_adv e0
      have e2 := drop_adv e1
      have e3 := drop_adv e2
      have e4 := drop_adv e3
      have s41 : stopC ([41] ++ R) := by intro c hc; simp at hc; subst hc; decide
      have s44 : stopC [44] := by intro c hc; simp at hc; subst hc; decide
      have ha := pTerm_ok f a _ _ h2.1 e2 (stop_sep s44 (by simp) s41) (by omega)
      have hb := pArgs_ok f [44] us _ ([41] ++ R) h2.2 e3 s44 (by simp) s41 (by simp [List.isPrefixOf]) (by omega)
      rw [pTerm, hw, if_pos (pTake_yes e1)]
      simp only [pAdv] at ha hb ⊢
      rw [ha, hb, pMust_yes e4, hlen]
      simp only [List.length_cons, List.length_nil]
      refine Prod.ext rfl ?_
      show PSt.mk _ _ = PSt.mk _ _
      congr 1
      omega
theorem pArgs_ok {L : List UInt8} : ∀ (f : Nat) (sep : List UInt8) (us : List Tm) (k : Nat) (R : List UInt8), Tm.nodess us = true → L.drop k = sepAll sep us ++ R → stopC sep → sep ≠ [] → stopC R → sep.isPrefixOf R = false → (sepAll sep us).length < f →
    pArgs L sep f ⟨k, false⟩ = (us, ⟨k + (sepAll sep us).length, false⟩)
  | 0, _, _, _, _, _, _, _, _, _, _, h => absurd h (by omega)
  | f + 1, sep, [], k, R, hn, hL, hs, h0, hR, hp, hf => by
    rw [pArgs]
    have : pTake L sep ⟨k, false⟩ = false := by simp only [pTake, hL]; simpa [sepAll] using hp
    rw [this]; rfl
  | f + 1, sep, a :: us, k, R, hn, hL, hs, h0, hR, hp, hf => by
    have h2 : a.nodes = true ∧ Tm.nodess us = true := by simpa [Tm.nodess] using hn
    have e0 : L.drop k = sep ++ (a.fmt ++ (sepAll sep us ++ R)) := by rw [hL, sepAll]; simp [List.append_assoc]
    have e1 := drop_adv e0
    have e2 := drop_adv e1
    have hl : 0 < sep.length := List.length_pos_iff.2 h0
    rw [sepAll] at hf ⊢
    simp only [List.length_append] at hf ⊢
    have ha := pTerm_ok f a _ _ h2.1 e1 (stop_sep hs h0 hR) (by omega)
    have hb := pArgs_ok f sep us _ R h2.2 e2 hs h0 hR hp (by omega)
    rw [pArgs, if_pos (pTake_yes e0)]
    simp only [pAdv] at ha hb ⊢
    rw [ha, hb]
    refine Prod.ext rfl ?_
    show PSt.mk _ _ = PSt.mk _ _
    congr 1
    omega
end
end Go.Proofs.Ytinfogmjijeliaa
