import Derived.Test.YtabkdonplmlbcaaGreatDoorStPart14
namespace Go.Proofs.YtabkdonplmlbcaaGreatDoor
open Go.RowKit
def rWordL (L : List UInt8) (k : Nat) : List UInt8 := (L.drop k).takeWhile wordC
mutual
def rTerm (L : List UInt8) : Nat → Nat → Option (Tm × Nat)
 | 0, _ => none
 | f + 1, k =>
  if (rWordL L k).isEmpty then none
  else if L[k + (rWordL L k).length]? = some 40 then rArgs L (rWordL L k) f [] (k + (rWordL L k).length)
  else some (.mk ⟨(rWordL L k).toArray⟩ [], k + (rWordL L k).length)
def rArgs (L n : List UInt8) : Nat → List Tm → Nat → Option (Tm × Nat)
 | 0, _, _ => none
 | f + 1, us, e =>
  match rTerm L f (e + 1) with
  | none => none
  | some (a, j) => if L[j]? = some 44 then rArgs L n f (us ++ [a]) j else if L[j]? = some 41 then some (.mk ⟨n.toArray⟩ (us ++ [a]), j + 1) else none
end
def sOf : List UInt8 := [32, 111, 102, 32]
def qGot (p : PSt) : Option (Tm × Nat) → Tm × PSt
 | none => (tm0, ⟨p.pos, true⟩)
 | some (t, k) => (t, ⟨k, false⟩)
def qTerm (L : List UInt8) (p : PSt) : Tm × PSt := if p.bad then (tm0, p) else qGot p (rTerm L (L.length + 2) p.pos)
def qArgs (L : List UInt8) : Nat → PSt → List Tm × PSt
 | 0, p => ([], p)
 | f + 1, p => if pTake L sComma p then ((qTerm L (pAdv sComma p)).1 :: (qArgs L f (qTerm L (pAdv sComma p)).2).1, (qArgs L f (qTerm L (pAdv sComma p)).2).2) else ([], p)
def qHold (L : List UInt8) (a : Tm × PSt) : PSt := if a.1.us.isEmpty then pMust L sHolds a.2 else ⟨(pMust L sHolds a.2).pos, true⟩
def qAtom (L : List UInt8) (p : PSt) : Fm × PSt :=
 if pTake L sEquals (qTerm L p).2 then (atomOfF (eqTm (qTerm L p).1 (qTerm L (pAdv sEquals (qTerm L p).2)).1), (qTerm L (pAdv sEquals (qTerm L p).2)).2)
 else if pTake L sOf (qHold L (qTerm L p)) then
  (atomOfF (.mk (qTerm L p).1.n ((qTerm L p).1.us ++ (qTerm L (pAdv sOf (qHold L (qTerm L p)))).1 :: (qArgs L (L.length + 2) (qTerm L (pAdv sOf (qHold L (qTerm L p)))).2).1)), (qArgs L (L.length + 2) (qTerm L (pAdv sOf (qHold L (qTerm L p)))).2).2)
 else (atomOfF (qTerm L p).1, qHold L (qTerm L p))
theorem drop_get {L R : List UInt8} {k : Nat} (h : L.drop k = R) : L[k]? = R.head? := by rw [← h, List.head?_drop]
mutual
theorem rTerm_ok {L : List UInt8} : ∀ (f : Nat) (t : Tm) (k : Nat) (R : List UInt8), t.nodes = true → L.drop k = t.fmt ++ R → stopC R → t.fmt.length < f → rTerm L f k = some (t, k + t.fmt.length)
 | 0, _, _, _, _, _, _, h => absurd h (by omega)
 | f + 1, .mk n us, k, R, hn, hL, hR, hf => by
  have h1 := Tm.nodes_mk hn
  have hm := Tm.fmt_mk (us := us) (word_not61 h1.1)
  cases us with
  | nil =>
   rw [if_pos (by rfl)] at hm
   rw [hm] at hL ⊢
   have hw : rWordL L k = n.data.toList := by rw [rWordL, hL, takeWhile_app h1.1.1 (fun c hc => (hR c hc).1)]
   have e1 := drop_adv hL
   have hno : L[k + n.data.toList.length]? ≠ some 40 := by rw [drop_get e1]; intro h; exact (hR 40 h).2 rfl
   rw [rTerm, hw, if_neg (by simpa using h1.1.2), if_neg hno, ba_eq]
  | cons a us =>
   rw [if_neg (by simp), joinB_cons] at hm
   have h2 : a.nodes = true ∧ Tm.nodess us = true := by simpa [Tm.nodess] using h1.2
   have hlen : (Tm.mk n (a :: us)).fmt.length = n.data.toList.length + 1 + a.fmt.length + (sepAll [44] us).length + 1 := by rw [hm]; simp; omega
   have e0 : L.drop k = n.data.toList ++ ([40] ++ (a.fmt ++ (sepAll [44] us ++ ([41] ++ R)))) := by rw [hL, hm]; simp [List.append_assoc]
   have hw : rWordL L k = n.data.toList := by rw [rWordL, e0, takeWhile_app h1.1.1 (fun c hc => by simp at hc; subst hc; decide)]
   have e1 := drop_adv e0
   have hp : 0 < n.data.toList.length := List.length_pos_iff.2 h1.1.2
   rw [rTerm, hw, if_neg (by simpa using h1.1.2), if_pos (by rw [drop_get e1]; rfl)]
   rw [rArgs_ok f n.data.toList [] a us (k + n.data.toList.length) 40 R h2.1 h2.2 e1 (by omega), ba_eq, hlen]
   refine congrArg some (Prod.ext rfl ?_)
   show _ = _
   simp only; omega
theorem rArgs_ok {L : List UInt8} : ∀ (f : Nat) (n : List UInt8) (acc : List Tm) (a : Tm) (us : List Tm) (e : Nat) (c : UInt8) (R : List UInt8), a.nodes = true → Tm.nodess us = true → L.drop e = [c] ++ (a.fmt ++ (sepAll [44] us ++ ([41] ++ R))) → a.fmt.length + (sepAll [44] us).length + 1 < f →
  rArgs L n f acc e = some (.mk ⟨n.toArray⟩ (acc ++ a :: us), e + 1 + a.fmt.length + (sepAll [44] us).length + 1)
 | 0, _, _, _, _, _, _, _, _, _, _, h => absurd h (by omega)
 | f + 1, n, acc, a, us, e, c, R, ha, hu, hL, hf => by
  have s41 : stopC ([41] ++ R) := by intro c hc; simp at hc; subst hc; decide
  have s44 : stopC [44] := by intro c hc; simp at hc; subst hc; decide
  have e1 := drop_adv hL
  have e2 := drop_adv e1
  have h1 := rTerm_ok f a (e + 1) _ ha e1 (stop_sep s44 (by simp) s41) (by omega)
  rw [rArgs, h1]
  simp only
  have e2' : L.drop (e + 1 + a.fmt.length) = sepAll [44] us ++ ([41] ++ R) := e2
  cases us with
  | nil =>
   have hg : L[e + 1 + a.fmt.length]? = some 41 := by rw [drop_get e2']; rfl
   rw [hg, if_neg (by decide), if_pos rfl]
   simp [sepAll]
  | cons b us =>
   have h2 : b.nodes = true ∧ Tm.nodess us = true := by simpa [Tm.nodess] using hu
   have hg : L[e + 1 + a.fmt.length]? = some 44 := by rw [drop_get e2']; simp [sepAll]
   rw [hg, if_pos rfl]
   have hlen : (sepAll [44] (b :: us)).length = 1 + b.fmt.length + (sepAll [44] us).length := by rw [sepAll]; simp; omega
   rw [rArgs_ok f n (acc ++ [a]) b us (e + 1 + a.fmt.length) 44 R h2.1 h2.2 (by rw [e2', sepAll]; simp [List.append_assoc]) (by omega), hlen, List.append_assoc]
   refine congrArg some (Prod.ext rfl ?_)
   show _ = _
   simp only; omega
end
theorem fmt_lt {L R : List UInt8} {k : Nat} {t : List UInt8} (h : L.drop k = t ++ R) : t.length < L.length + 2 := by
 have := congrArg List.length h
 rw [List.length_drop, List.length_append] at this; omega
theorem qTerm_ok {L : List UInt8} {t : Tm} {k : Nat} {R : List UInt8} (hn : t.nodes = true) (hL : L.drop k = t.fmt ++ R) (hR : stopC R) : qTerm L ⟨k, false⟩ = (t, ⟨k + t.fmt.length, false⟩) := by
 rw [qTerm]
 show qGot _ _ = _
 rw [rTerm_ok _ t k R hn hL hR (fmt_lt hL)]
 rfl
theorem qArgs_ok {L : List UInt8} : ∀ (f : Nat) (us : List Tm) (k : Nat) (R : List UInt8), Tm.nodess us = true → L.drop k = sepAll sComma us ++ R → stopC R → sComma.isPrefixOf R = false → (sepAll sComma us).length < f →
  qArgs L f ⟨k, false⟩ = (us, ⟨k + (sepAll sComma us).length, false⟩)
 | 0, _, _, _, _, _, _, _, h => absurd h (by omega)
 | f + 1, [], k, R, hn, hL, hR, hp, hf => by
  rw [qArgs]
  have : pTake L sComma ⟨k, false⟩ = false := by simp only [pTake, hL]; simpa [sepAll] using hp
  rw [this]; rfl
 | f + 1, a :: us, k, R, hn, hL, hR, hp, hf => by
  have hs : stopC sComma := by intro c hc; simp [sComma] at hc; subst hc; decide
  have h2 : a.nodes = true ∧ Tm.nodess us = true := by simpa [Tm.nodess] using hn
  have e0 : L.drop k = sComma ++ (a.fmt ++ (sepAll sComma us ++ R)) := by rw [hL, sepAll]; simp [List.append_assoc]
  have e1 := drop_adv e0
  have e2 := drop_adv e1
  have hl : 0 < sComma.length := by decide
  rw [sepAll] at hf ⊢
  simp only [List.length_append] at hf ⊢
  have ha := qTerm_ok h2.1 e1 (stop_sep hs (by decide) hR)
  have hb := qArgs_ok f us _ R h2.2 e2 hR hp (by omega)
  rw [qArgs, if_pos (pTake_yes e0)]
  simp only [pAdv] at ha hb ⊢
  rw [ha, hb]
  refine Prod.ext rfl ?_
  show PSt.mk _ _ = PSt.mk _ _
  congr 1
  omega
theorem qHold_ok {L R : List UInt8} {k : Nat} {t : Tm} (ht : t.us = []) (h : L.drop k = sHolds ++ R) : qHold L (t, ⟨k, false⟩) = ⟨k + sHolds.length, false⟩ := by
 rw [qHold, ht]; exact pMust_yes h
theorem qAtom_ok {L : List UInt8} {t : Tm} {k : Nat} {R : List UInt8} (ht : t.atom = true) (hL : L.drop k = t.eng ++ R) (hR : GoodR R) : qAtom L ⟨k, false⟩ = (atomOfF t, ⟨k + t.eng.length, false⟩) := by
 cases atom_cases ht with
 | eq a b ha hb =>
  rw [eng_eq] at hL ⊢
  have e0 : L.drop k = a.fmt ++ (sEquals ++ (b.fmt ++ R)) := by rw [hL]; simp [List.append_assoc]
  have e1 := drop_adv e0
  have e2 := drop_adv e1
  have h1 := qTerm_ok ha e0 (by intro c hc; simp [sEquals] at hc; subst hc; decide)
  have h2 := qTerm_ok hb e2 hR.stop
  rw [qAtom, h1, if_pos (pTake_yes e1)]
  simp only [pAdv] at h2 ⊢
  rw [h2]
  refine Prod.ext rfl ?_
  show PSt.mk _ _ = PSt.mk _ _
  congr 1
  simp only [List.length_append]; omega
 | pred n us hs hu hd =>
  have h0 := symB_nodes0 hs
  have hm := symB_fmt0 hs
  rw [eng_pred hs] at hL ⊢
  cases us with
  | nil =>
   rw [if_pos (show ([] : List Tm).isEmpty = true from rfl)] at hL ⊢
   have e0 : L.drop k = (Tm.mk n []).fmt ++ (sHolds ++ R) := by rw [hL, hm]; simp [List.append_assoc]
   have e1 := drop_adv e0
   have e2 := drop_adv e1
   have h1 := qTerm_ok h0 e0 (by intro c hc; simp [sHolds] at hc; subst hc; decide)
   have h2 := qHold_ok (t := .mk n []) rfl e1
   rw [qAtom, h1, if_neg (by rw [pTake_no e1 rfl]; simp), h2, if_neg (by
    rw [pTake_no e2 ?_]; simp
    exact hR.no.2), hm]
   refine Prod.ext rfl ?_
   show PSt.mk _ _ = PSt.mk _ _
   congr 1
   simp only [List.length_append]; omega
  | cons a us =>
   rw [if_neg (by simp), joinB_cons] at hL ⊢
   have hau : a.nodes = true ∧ Tm.nodess us = true := by simpa [Tm.nodess] using hu
   have e0 : L.drop k = (Tm.mk n []).fmt ++ (sHolds ++ (sOf ++ (a.fmt ++ (sepAll sComma us ++ R)))) := by rw [hL, hm]; simp [List.append_assoc, sHoldsOf, sHolds, sOf]
   have e1 := drop_adv e0
   have e2 := drop_adv e1
   have e3 := drop_adv e2
   have e4 := drop_adv e3
   have sc : stopC sComma := by intro c hc; simp [sComma] at hc; subst hc; decide
   have h1 := qTerm_ok h0 e0 (by intro c hc; simp [sHolds] at hc; subst hc; decide)
   have h2 := qHold_ok (t := .mk n []) rfl e1
   have h3 := qTerm_ok hau.1 e3 (stop_sep sc (by decide) hR.stop)
   have h4 := qArgs_ok (L.length + 2) us _ R hau.2 e4 hR.stop hR.no.1 (fmt_lt e4)
   rw [qAtom, h1, if_neg (by rw [pTake_no e1 rfl]; simp), h2, if_pos (pTake_yes e2)]
   simp only [pAdv] at h3 h4 ⊢
   rw [h3, h4]
   refine Prod.ext rfl ?_
   show PSt.mk _ _ = PSt.mk _ _
   congr 1
   rw [hm]
   have hl : sHoldsOf.length = sHolds.length + sOf.length := rfl
   simp only [List.length_append]; omega
def EtfPost (n : Nat) (ok : Bool) (F : Fm) (w : World) (e : Ending) (w' : World) : Prop :=
 Below w.heap.size w w' ∧ if ok = true then ∃ x, e = .returned (.tuple #[x, .bool true]) ∧ FmV n (NewB w w') w' F x
  else e = .returned (.tuple #[.agg #[.int .i64 0, .string ⟨#[]⟩, .slice none 0 0, .string ⟨#[]⟩, .slice none 0 0], .bool false])
theorem EtfPost.no {n : Nat} {ok : Bool} {F : Fm} {w w' : World} (h : ok = false) (hb : Below w.heap.size w w') : EtfPost n ok F w (.returned (.tuple #[.agg #[.int .i64 0, .string ⟨#[]⟩, .slice none 0 0, .string ⟨#[]⟩, .slice none 0 0], .bool false])) w' := by
 subst h; exact ⟨hb, rfl⟩
theorem pTerm_name (L : List UInt8) : ∀ (f : Nat) (p : PSt), (pTerm L f p).1.n.data.toList.length ≤ L.length
 | 0, p => by rw [pTerm]; simp [Tm.n]
 | f + 1, p => by
  have := pWord_len L p
  rw [pTerm]
  split <;> simpa [Tm.n] using this
theorem pAtom_pos (L : List UInt8) (f : Nat) (p : PSt) (hp : p.pos ≤ L.length) : p.pos ≤ (pAtom L f p).2.pos ∧ (pAtom L f p).2.pos ≤ L.length := by
 have h1 := pTerm_pos L f p hp
 rw [pAtom]
 split
 ·rename_i h
  have h2 := pTake_le h h1.2
  have h3 := pTerm_pos L f (pAdv sEquals (pTerm L f p).2) h2
  simp only [pAdv] at h3 ⊢; omega
 ·split
  ·rename_i h
   have h2 := pTake_le h h1.2
   have h3 := pTerm_pos L f (pAdv sHoldsOf (pTerm L f p).2) h2
   have h4 := pArgs_pos L sComma f _ h3.2
   simp only [pAdv] at h3 h4 ⊢; omega
  ·have h5 := pMust_pos L sHolds _ h1.2
   show p.pos ≤ (pMust L sHolds (pTerm L f p).2).pos ∧ (pMust L sHolds (pTerm L f p).2).pos ≤ L.length
   omega
theorem pEng_pos (L : List UInt8) : ∀ (f : Nat) (p : PSt), p.pos ≤ L.length → p.pos ≤ (pEng L f p).2.pos ∧ (pEng L f p).2.pos ≤ L.length
 | 0, p, hp => by rw [pEng]; exact ⟨Nat.le_refl _, hp⟩
 | f + 1, p, hp => by
  have pair : ∀ (word kw : List UInt8), pTake L kw p = true → p.pos ≤ (pEng L f (pMust L word (pEng L f (pAdv kw p)).2)).2.pos ∧ (pEng L f (pMust L word (pEng L f (pAdv kw p)).2)).2.pos ≤ L.length := fun word kw h => by
   have h2 := pTake_le h hp
   have h3 := pEng_pos L f (pAdv kw p) h2
   have h4 := pMust_pos L word _ h3.2
   have h5 := pEng_pos L f _ h4.2
   simp only [pAdv] at h3 h4 h5 ⊢; omega
  have bound : ∀ (word kw : List UInt8), pTake L kw p = true → p.pos ≤ (pEng L f (pMust L word (pWord L (pAdv kw p)).2)).2.pos ∧ (pEng L f (pMust L word (pWord L (pAdv kw p)).2)).2.pos ≤ L.length := fun word kw h => by
   have h2 := pTake_le h hp
   have h3 := pWord_pos L (pAdv kw p) h2
   have h4 := pMust_pos L word _ h3.2
   have h5 := pEng_pos L f _ h4.2
   simp only [pAdv] at h3 h4 h5 ⊢; omega
  have adv : ∀ kw : List UInt8, pTake L kw p = true → p.pos ≤ (pAdv kw p).pos ∧ (pAdv kw p).pos ≤ L.length := fun kw h => ⟨by simp only [pAdv]; omega, pTake_le h hp⟩
  have neg : pTake L sNot p = true → p.pos ≤ (pEng L f (pAdv sNot p)).2.pos ∧ (pEng L f (pAdv sNot p)).2.pos ≤ L.length := fun h => by
   have h1 := adv _ h
   have h2 := pEng_pos L f _ h1.2
   omega
  rw [pEng]
  split
  ·exact adv _ ‹_›
  ·split
   ·exact adv _ ‹_›
   ·split
    ·exact neg ‹_›
    ·split
     ·exact pair _ _ ‹_›
     ·split
      ·exact pair _ _ ‹_›
      ·split
       ·exact pair _ _ ‹_›
       ·split
        ·exact bound _ _ ‹_›
        ·split
         ·exact bound _ _ ‹_›
         ·exact pAtom_pos L f p hp
theorem pWord_wt (L : List UInt8) (p : PSt) : (pWord L p).1.length + p.pos ≤ (pWord L p).2.pos := by
 unfold pWord; split <;> simp <;> omega
theorem pMust_up (L t : List UInt8) (p : PSt) : p.pos ≤ (pMust L t p).pos := by
 unfold pMust; split <;> simp [pAdv]
theorem size_toBytes (l : List UInt8) : (⟨l.toArray⟩ : ByteArray).size = l.length := by simp [ByteArray.size]
mutual
theorem pTerm_wt (L : List UInt8) : ∀ (f : Nat) (p : PSt), (pTerm L f p).1.wt + p.pos ≤ (pTerm L f p).2.pos
 | 0, p => by rw [pTerm]; simp [Tm.wt, Tm.wts, ByteArray.size]
 | f + 1, p => by
  have h1 := pWord_wt L p
  have h2 := pTerm_wt L f (pAdv [40] (pWord L p).2)
  have h3 := pArgs_wt L [44] (by decide) f (pTerm L f (pAdv [40] (pWord L p).2)).2
  have h4 := pMust_up L [41] (pArgs L [44] f (pTerm L f (pAdv [40] (pWord L p).2)).2).2
  have h5 : (pAdv [40] (pWord L p).2).pos = (pWord L p).2.pos + 1 := rfl
  rw [pTerm]
  split
  ·simp only [Tm.wt, Tm.wts, List.length_cons, size_toBytes]; omega
  ·simp only [Tm.wt, Tm.wts, List.length_nil, size_toBytes]; omega
theorem pArgs_wt (L sep : List UInt8) (hs : 0 < sep.length) : ∀ (f : Nat) (p : PSt), (pArgs L sep f p).1.length + Tm.wts (pArgs L sep f p).1 + p.pos ≤ (pArgs L sep f p).2.pos
 | 0, p => by rw [pArgs]; simp [Tm.wts]
 | f + 1, p => by
  have h2 := pTerm_wt L f (pAdv sep p)
  have h3 := pArgs_wt L sep hs f (pTerm L f (pAdv sep p)).2
  have h5 : (pAdv sep p).pos = p.pos + sep.length := rfl
  rw [pArgs]
  split
  ·simp only [Tm.wts, List.length_cons]; omega
  ·simp [Tm.wts]
end
theorem tm0_wt : tm0.wt = 0 := by simp [tm0, Tm.wt, Tm.wts, ByteArray.size]
theorem nil_size : (⟨#[]⟩ : ByteArray).size = 0 := rfl
theorem pAtom_wt (L : List UInt8) (f : Nat) (p : PSt) : (pAtom L f p).1.wt + p.pos ≤ (pAtom L f p).2.pos := by
 have h1 := pTerm_wt L f p
 have h2 := pTerm_wt L f (pAdv sEquals (pTerm L f p).2)
 have h3 := pTerm_wt L f (pAdv sHoldsOf (pTerm L f p).2)
 have h4 := pArgs_wt L sComma (by decide) f (pTerm L f (pAdv sHoldsOf (pTerm L f p).2)).2
 have h5 := pMust_up L sHolds (pTerm L f p).2
 have e1 : (pAdv sEquals (pTerm L f p).2).pos = (pTerm L f p).2.pos + sEquals.length := rfl
 have e2 : (pAdv sHoldsOf (pTerm L f p).2).pos = (pTerm L f p).2.pos + sHoldsOf.length := rfl
 have l1 : 3 ≤ sEquals.length := by decide
 have l2 : 3 ≤ sHoldsOf.length := by decide
 have hn : (pTerm L f p).1.n.size ≤ (pTerm L f p).1.wt := by
  cases (pTerm L f p).1; simp only [Tm.wt, Tm.n]; omega
 have hq : (⟨#[61]⟩ : ByteArray).size = 1 := rfl
 unfold pAtom
 split
 ·simp only [atomOfF, eqTm, Fm.wt, Fm.wts, Tm.wt, Tm.wts, List.length_cons, List.length_nil, nil_size, hq]; omega
 ·split
  ·simp only [atomOfF, Fm.wt, Fm.wts, Tm.wt, Tm.wts, List.length_cons, List.length_nil, nil_size]; omega
  ·simp only [atomOfF, Fm.wt, Fm.wts, List.length_nil, nil_size]; omega
theorem pEng_wt (L : List UInt8) : ∀ (f : Nat) (p : PSt), (pEng L f p).1.wt + p.pos ≤ (pEng L f p).2.pos
 | 0, p => by rw [pEng]; simp [opF, Fm.wt, Fm.wts, tm0_wt, nil_size]
 | f + 1, p => by
  have pair : ∀ (op : Int) (word kw : List UInt8), 2 ≤ kw.length → (opF op [(pEng L f (pAdv kw p)).1, (pEng L f (pMust L word (pEng L f (pAdv kw p)).2)).1]).wt + p.pos ≤ (pEng L f (pMust L word (pEng L f (pAdv kw p)).2)).2.pos := fun op word kw hk => by
   have h1 := pEng_wt L f (pAdv kw p)
   have h2 := pMust_up L word (pEng L f (pAdv kw p)).2
   have h3 := pEng_wt L f (pMust L word (pEng L f (pAdv kw p)).2)
   have e1 : (pAdv kw p).pos = p.pos + kw.length := rfl
   simp only [opF, Fm.wt, Fm.wts, tm0_wt, nil_size, List.length_cons, List.length_nil]; omega
  have bound : ∀ (op : Int) (word kw : List UInt8), 1 ≤ kw.length → (quantF op (pWord L (pAdv kw p)).1 (pEng L f (pMust L word (pWord L (pAdv kw p)).2)).1).wt + p.pos ≤ (pEng L f (pMust L word (pWord L (pAdv kw p)).2)).2.pos := fun op word kw hk => by
   have h1 := pWord_wt L (pAdv kw p)
   have h2 := pMust_up L word (pWord L (pAdv kw p)).2
   have h3 := pEng_wt L f (pMust L word (pWord L (pAdv kw p)).2)
   have e1 : (pAdv kw p).pos = p.pos + kw.length := rfl
   simp only [quantF, Fm.wt, Fm.wts, tm0_wt, size_toBytes, List.length_cons, List.length_nil]; omega
  have hnot := pEng_wt L f (pAdv sNot p)
  have hat := pAtom_wt L f p
  have e1 : (pAdv sNot p).pos = p.pos + sNot.length := rfl
  have l1 : 2 ≤ sNot.length := by decide
  rw [pEng]
  simp only
  repeat' split
  ·simp [opF, Fm.wt, Fm.wts, tm0_wt, nil_size, pAdv]
  ·simp [opF, Fm.wt, Fm.wts, tm0_wt, nil_size, pAdv]
  ·simp only [opF, Fm.wt, Fm.wts, tm0_wt, nil_size, List.length_cons, List.length_nil]; omega
  ·exact pair _ _ _ (by decide)
  ·exact pair _ _ _ (by decide)
  ·exact pair _ _ _ (by decide)
  ·exact bound _ _ _ (by decide)
  ·exact bound _ _ _ (by decide)
  ·exact hat
def pRead (L : List UInt8) : Fm × PSt := pEng L (L.length + 2) ⟨0, false⟩
def pOk (L : List UInt8) : Bool := !(pRead L).2.bad && (pRead L).2.pos == L.length && (pRead L).1.good && (pRead L).1.eng == L
theorem pRead_eng {F : Fm} (hg : F.good = true) : pRead F.eng = (F, ⟨F.eng.length, false⟩) := by
 have hf : F.form = true := by rw [Fm.good, Bool.and_eq_true] at hg; exact hg.2
 have h := pEng_ok (L := F.eng) (F.eng.length + 2) F 0 [] hf (by simp) (by first | exact goodR_nil | exact GoodR.nil | exact Or.inl rfl | (unfold GoodR; simp [stopC]) | (constructor <;> simp [stopC])) (by omega)
 simpa [pRead] using h
theorem pOk_iff {L : List UInt8} : pOk L = true ↔ ∃ F : Fm, F.good = true ∧ F.eng = L := by
 constructor
 ·intro h
  simp only [pOk, Bool.and_eq_true, beq_iff_eq] at h
  exact ⟨_, h.1.2, h.2⟩
 ·rintro ⟨F, hg, rfl⟩
  simp [pOk, pRead_eng hg, hg]
theorem pOk_read {F : Fm} {L : List UInt8} (hg : F.good = true) (he : F.eng = L) : (pRead L).1 = F := by subst he; rw [pRead_eng hg]
theorem Tm.wts_snoc (us : List Tm) (a : Tm) : Tm.wts (us ++ [a]) = Tm.wts us + a.wt := by
 induction us with
 | nil => simp [Tm.wts]
 | cons b us ih => rw [List.cons_append, Tm.wts, ih, Tm.wts]; omega
theorem Tm.wts_app (us vs : List Tm) : Tm.wts (us ++ vs) = Tm.wts us + Tm.wts vs := by
 induction us with
 | nil => simp [Tm.wts]
 | cons b us ih => rw [List.cons_append, Tm.wts, ih, Tm.wts]; omega
theorem rWordL_le (L : List UInt8) (k : Nat) (hk : k ≤ L.length) : k + (rWordL L k).length ≤ L.length := by
 have : (rWordL L k).length ≤ (L.drop k).length := (List.takeWhile_sublist _).length_le
 rw [List.length_drop] at this; omega
theorem size_arr (l : List UInt8) : (⟨l.toArray⟩ : ByteArray).size = l.length := by simp [ByteArray.size]
theorem get_lt {L : List UInt8} {k : Nat} {c : UInt8} (h : L[k]? = some c) : k < L.length := (List.getElem?_eq_some_iff.1 h).1
mutual
theorem rTerm_wt (L : List UInt8) : ∀ (f k : Nat) (t : Tm) (j : Nat), k ≤ L.length → rTerm L f k = some (t, j) → t.wt + k ≤ j ∧ j ≤ L.length ∧ k < j
 | 0, _, _, _, _, h => by rw [rTerm] at h; cases h
 | f + 1, k, t, j, hk, h => by
  have h1 := rWordL_le L k hk
  rw [rTerm] at h
  split at h
  ·cases h
  ·rename_i h0
   have h2 : 0 < (rWordL L k).length := List.length_pos_iff.2 (by simpa using h0)
   split at h
   ·rename_i h3
    have := rArgs_wt L f (rWordL L k) [] _ t j (get_lt h3) h
    simp only [List.length_nil, Tm.wts] at this
    omega
   ·injection h with h
    injection h with ht hj
    subst ht hj
    simp only [Tm.wt, Tm.wts, List.length_nil, size_arr]; omega
theorem rArgs_wt (L : List UInt8) : ∀ (f : Nat) (n : List UInt8) (acc : List Tm) (e : Nat) (t : Tm) (j : Nat), e < L.length → rArgs L n f acc e = some (t, j) → t.wt + e ≤ j + n.length + acc.length + Tm.wts acc ∧ j ≤ L.length ∧ e < j
 | 0, _, _, _, _, _, _, h => by rw [rArgs] at h; cases h
 | f + 1, n, acc, e, t, j, he, h => by
  rw [rArgs] at h
  split at h
  ·cases h
  ·rename_i a i ha
   have h1 := rTerm_wt L f (e + 1) a i he ha
   split at h
   ·rename_i h2
    have := rArgs_wt L f n (acc ++ [a]) i t j (get_lt h2) h
    rw [Tm.wts_snoc, List.length_append, List.length_singleton] at this
    omega
   ·split at h
    ·rename_i h2
     have := get_lt h2
     injection h with h
     injection h with ht hj
     subst ht hj
     simp only [Tm.wt, Tm.wts_snoc, List.length_append, List.length_singleton, size_arr]; omega
    ·cases h
end
theorem qTm0_wt : tm0.wt = 0 := by simp [tm0, Tm.wt, Tm.wts, ByteArray.size]
theorem qNil_size : (⟨#[]⟩ : ByteArray).size = 0 := rfl
theorem qTerm_wt (L : List UInt8) (p : PSt) (hp : p.pos ≤ L.length) : (qTerm L p).1.wt + p.pos ≤ (qTerm L p).2.pos ∧ (qTerm L p).2.pos ≤ L.length := by
 rw [qTerm]
 split
 ·simp only [qTm0_wt]; omega
 ·cases h : rTerm L (L.length + 2) p.pos with
  | none => simp only [qGot, qTm0_wt]; omega
  | some a => have := rTerm_wt L _ _ a.1 a.2 hp h; simp only [qGot]; omega
theorem qArgs_wt (L : List UInt8) : ∀ (f : Nat) (p : PSt), p.pos ≤ L.length → (qArgs L f p).1.length + Tm.wts (qArgs L f p).1 + p.pos ≤ (qArgs L f p).2.pos ∧ (qArgs L f p).2.pos ≤ L.length
 | 0, p, hp => by rw [qArgs]; simp only [List.length_nil, Tm.wts]; omega
 | f + 1, p, hp => by
  rw [qArgs]
  split
  ·rename_i h
   have h1 := pTake_le h hp
   have h2 := qTerm_wt L (pAdv sComma p) h1
   have h3 := qArgs_wt L f _ h2.2
   have e : (pAdv sComma p).pos = p.pos + 2 := rfl
   simp only [List.length_cons, Tm.wts]; omega
  ·simp only [List.length_nil, Tm.wts]; omega
theorem qHold_pos (L : List UInt8) (a : Tm × PSt) (hp : a.2.pos ≤ L.length) : a.2.pos ≤ (qHold L a).pos ∧ (qHold L a).pos ≤ L.length := by
 have := pMust_pos L sHolds a.2 hp
 unfold qHold; split <;> exact this
theorem qAtom_wt (L : List UInt8) (p : PSt) (hp : p.pos ≤ L.length) : (qAtom L p).1.wt + p.pos ≤ (qAtom L p).2.pos ∧ (qAtom L p).2.pos ≤ L.length := by
 have h1 := qTerm_wt L p hp
 have h2 := qHold_pos L _ h1.2
 have hq : (⟨#[61]⟩ : ByteArray).size = 1 := rfl
 unfold qAtom
 split
 ·rename_i h
  have h3 := pTake_le h h1.2
  have h4 := qTerm_wt L (pAdv sEquals (qTerm L p).2) h3
  have e : (pAdv sEquals (qTerm L p).2).pos = (qTerm L p).2.pos + 8 := rfl
  simp only [atomOfF, eqTm, Fm.wt, Fm.wts, Tm.wt, Tm.wts, List.length_cons, List.length_nil, qNil_size, hq]; omega
 ·split
  ·rename_i h
   have h3 := pTake_le h h2.2
   have h4 := qTerm_wt L (pAdv sOf (qHold L (qTerm L p))) h3
   have h5 := qArgs_wt L (L.length + 2) _ h4.2
   have e : (pAdv sOf (qHold L (qTerm L p))).pos = (qHold L (qTerm L p)).pos + 4 := rfl
   have hw : (qTerm L p).1.wt = (qTerm L p).1.n.size + (qTerm L p).1.us.length + Tm.wts (qTerm L p).1.us := by cases (qTerm L p).1; rfl
   simp only [atomOfF, Fm.wt, Fm.wts, Tm.wt, Tm.wts, Tm.wts_app, List.length_append, List.length_cons, List.length_nil, qNil_size]; omega
  ·simp only [atomOfF, Fm.wt, Fm.wts, List.length_nil, qNil_size]; omega
def etfOk (s : ByteArray) : Bool := decide (s.size ≤ 12000) && pOk s.data.toList
def etfF (s : ByteArray) : Fm := if etfOk s then (pRead s.data.toList).1 else opF 0 []
def EtfV (n : Nat) (ok : Bool) (F : Fm) (w : World) (e : Ending) (w' : World) : Prop :=
 Below w.heap.size w w' ∧ ∃ v0 v1 v2 v3 v4, e = .returned (.tuple #[.agg #[v0, v1, v2, v3, v4], .bool ok]) ∧ FmOwn 64 67 n (NewB w w') w' F [v0, v1, v2, v3, v4]
theorem EtfPost.v {n m : Nat} {ok : Bool} {F : Fm} {w w' : World} {e : Ending} (h : EtfPost n ok F w e w') (hn : n ≤ m) (hm : 2 ≤ m) : EtfV m ok (if ok then F else opF 0 []) w e w' := by
 obtain ⟨hb, h⟩ := h
 refine ⟨hb, ?_⟩
 cases ok with
 | true =>
  obtain ⟨x, rfl, v0, v1, v2, v3, v4, rfl, hO⟩ := (show ∃ x, _ ∧ _ from h)
  exact ⟨_, _, _, _, _, rfl, FmOwn.mono _ _ _ _ hn (SameOn.refl _ _) (fun _ h => h) hO⟩
 | false =>
  have he : e = _ := h
  obtain ⟨m', rfl⟩ : ∃ q, m = q + 2 := ⟨m - 2, by omega⟩
  exact ⟨_, _, _, _, _, he, opF_own (by omega) (OwnRow.nil _ _ _ _ _)⟩
theorem EtfV.zero {m : Nat} {w w' : World} {e : Ending} (h : e = .returned (.tuple #[.agg #[.int .i64 0, .string ⟨#[]⟩, .slice none 0 0, .string ⟨#[]⟩, .slice none 0 0], .bool false]) ∧ Below w.heap.size w w') (hm : 2 ≤ m) : EtfV m false (opF 0 []) w e w' := by
 obtain ⟨m', rfl⟩ : ∃ q, m = q + 2 := ⟨m - 2, by omega⟩
 exact ⟨h.2, _, _, _, _, _, h.1, opF_own (by omega) (OwnRow.nil _ _ _ _ _)⟩
mutual
theorem Tm.ct_wt : ∀ t : Tm, t.ct ≤ t.wt + 1
 | .mk n us => by have := Tm.cts_wt us; rw [Tm.ct, Tm.wt]; omega
theorem Tm.cts_wt : ∀ us : List Tm, Tm.cts us ≤ us.length + Tm.wts us
 | [] => by simp [Tm.cts]
 | a :: us => by have := Tm.ct_wt a; have := Tm.cts_wt us; rw [Tm.cts, Tm.wts, List.length_cons]; omega
end
theorem Tm.cts_us (t : Tm) : Tm.cts t.us ≤ t.wt := by
 obtain ⟨n, us⟩ := t
 have := Tm.cts_wt us
 rw [Tm.wt]; simp only [Tm.us]; omega
def litOf (f : Fm) : Lit3 × Bool := if f.op = 4 then (⟨false, (f.ps.headD (opF 0 [])).a⟩, (f.ps.headD (opF 0 [])).op == 3) else (⟨true, f.a⟩, f.op == 3)
def clsOf : Nat → Fm → Option (List Lit3)
 | 0, _ => none
 | n + 1, f =>
  if f.op = 6 then (if (litOf (f.ps.headD (opF 0 []))).2 then (clsOf n (f.ps.getD 1 (opF 0 []))).map ((litOf (f.ps.headD (opF 0 []))).1 :: ·) else none)
  else if (litOf f).2 then some [(litOf f).1] else none
theorem litOf_fm (l : Lit3) : litOf l.fm = (l, true) := by
 obtain ⟨pos, a⟩ := l
 cases pos
 ·show litOf (opF 4 [atomOfF a]) = _
  simp [litOf, opF, atomOfF, Fm.op, Fm.a, Fm.ps]
 ·show litOf (atomOfF a) = _
  simp [litOf, atomOfF, Fm.op, Fm.a]
theorem fm_op (l : Lit3) : l.fm.op ≠ 6 := by
 obtain ⟨pos, a⟩ := l
 cases pos
 ·show (opF 4 [atomOfF a]).op ≠ 6; simp [opF, Fm.op]
 ·show (atomOfF a).op ≠ 6; simp [atomOfF, Fm.op]
theorem clsOf_disj : ∀ (c : List Lit3) (n : Nat), 0 < c.length → c.length ≤ n → clsOf n (disj c) = some c
 | [], _, h, _ => absurd h (by simp)
 | [l], 0, _, h => by simp at h
 | [l], n + 1, _, _ => by rw [disj_one, clsOf, if_neg (fm_op l), litOf_fm]; rfl
 | l :: a :: c, 0, _, h => by simp at h
 | l :: a :: c, n + 1, _, h => by
  have ih := clsOf_disj (a :: c) n (by simp) (by simp at h ⊢; omega)
  rw [disj_cons, clsOf, if_pos (by rfl)]
  show (if (litOf l.fm).2 then (clsOf n (disj (a :: c))).map ((litOf l.fm).1 :: ·) else none) = _
  rw [litOf_fm, ih]; rfl
theorem disj_sz : ∀ (c : List Lit3), 0 < c.length → (disj c).sz ≤ 3 * c.length ∧ c.length ≤ (disj c).sz
 | [], h => absurd h (by simp)
 | [l], _ => by
  obtain ⟨pos, a⟩ := l
  cases pos
  ·show (opF 4 [atomOfF a]).sz ≤ _ ∧ _ ≤ (opF 4 [atomOfF a]).sz; simp [opF, atomOfF, Fm.sz, Fm.szs]
  ·show (atomOfF a).sz ≤ _ ∧ _ ≤ (atomOfF a).sz; simp [atomOfF, Fm.sz, Fm.szs]
 | l :: a :: c, _ => by
  have ih := disj_sz (a :: c) (by simp)
  have h1 : l.fm.sz ≤ 2 ∧ 1 ≤ l.fm.sz := by
   obtain ⟨pos, a⟩ := l
   cases pos
   ·show (opF 4 [atomOfF a]).sz ≤ _ ∧ _ ≤ (opF 4 [atomOfF a]).sz; simp [opF, atomOfF, Fm.sz, Fm.szs]
   ·show (atomOfF a).sz ≤ _ ∧ _ ≤ (atomOfF a).sz; simp [atomOfF, Fm.sz, Fm.szs]
  have e : (opF 6 [l.fm, disj (a :: c)]).sz = 1 + (l.fm.sz + ((disj (a :: c)).sz + 0)) := by rw [opF, Fm.sz, Fm.szs, Fm.szs, Fm.szs]
  rw [disj_cons, e]
  simp only [List.length_cons] at ih ⊢
  omega
theorem disj_good {c : List Lit3} (h0 : 0 < c.length) (hg : Cls.good c = true) : (disj c).good = true := by
 have h := good_atoms hg
 have h1 := disj_sz c h0
 rw [Fm.good, disj_form c h0 h.2, Bool.and_true, decide_eq_true_eq]; omega
theorem contr_word {n X : List UInt8} (h : varB n = true ∨ symB n = true) (hX : BehindW X) : sContr.isPrefixOf (n ++ X) = false := by
 have hn : n.all wordC = true := by rcases h with h | h; exact (varB_word h).1; exact (symB_word h).1
 exact kw_no (w := [97]) hn hX (by decide) (.inr (by cases hX <;> rfl))
theorem contr_atom {t : Tm} (h : t.atom = true) (R : List UInt8) : sContr.isPrefixOf (t.eng ++ R) = false := by
 cases atom_cases h with
 | eq a b ha hb =>
  rw [eng_eq, List.append_assoc, List.append_assoc]
  obtain ⟨n, X, hn, he, hX⟩ := fmt_split ha (sEquals ++ (b.fmt ++ R))
  rw [he]
  refine contr_word hn ?_
  rcases hX with ⟨Y, rfl⟩ | rfl
  ·exact .open_ _
  ·exact .equals _
 | pred n us hs hu hd =>
  rw [eng_pred hs]
  split
  ·rw [List.append_assoc]; exact contr_word (.inr hs) (.holds _)
  ·rw [List.append_assoc, List.append_assoc]; exact contr_word (.inr hs) (.holds ([32, 111, 102, 32] ++ (joinB sComma (Tm.fmtL us) ++ R)))
theorem fm_eng (l : Lit3) : l.fm.eng = if l.pos then l.a.eng else sNot ++ l.a.eng := by
 obtain ⟨pos, a⟩ := l
 cases pos
 ·show (opF 4 [atomOfF a]).eng = _; rw [eng_neg, eng_atm]; rfl
 ·show (atomOfF a).eng = _; rw [eng_atm]; rfl
theorem contr_fm {l : Lit3} (h : l.a.atom = true) (R : List UInt8) : sContr.isPrefixOf (l.fm.eng ++ R) = false := by
 rw [fm_eng]; split
 ·exact contr_atom h R
 ·rfl
theorem contr_disj : ∀ (c : List Lit3), 0 < c.length → (∀ l ∈ c, l.a.atom = true) → ∀ R, sContr.isPrefixOf ((disj c).eng ++ R) = false
 | [], h, _, _ => absurd h (by simp)
 | [l], _, h, R => by rw [disj_one]; exact contr_fm (h l (by simp)) R
 | l :: a :: c, _, _, R => by rw [disj_cons, eng_or]; rfl
theorem disj_contr {c : List Lit3} (h0 : 0 < c.length) (ha : ∀ l ∈ c, l.a.atom = true) : (disj c).eng ≠ sContr := fun e => by
 have h := contr_disj c h0 ha []
 rw [e] at h
 exact absurd h (by decide)
def iFm (s : ByteArray) : Option (List Lit3) := if etfOk s then clsOf ((etfF s).sz + 1) (etfF s) else none
def iOk (s : ByteArray) : Bool := (s.data.toList == sContr) || match iFm s with | some c => Cls.good c && (Cls.eng c == s.data.toList) | none => false
def iC (s : ByteArray) : List Lit3 := if s.data.toList = sContr then [] else if iOk s then (iFm s).getD [] else []
def EngOf (s : ByteArray) (c : List Lit3) : Prop := s.size ≤ 12000 ∧ Cls.good c = true ∧ Cls.eng c = s.data.toList
theorem iOk_of {s : ByteArray} (h : iOk s = true) : EngOf s (iC s) := by
 rw [iC]
 by_cases hc : s.data.toList = sContr
 ·rw [if_pos hc]
  exact ⟨by rw [size_list, hc]; decide, rfl, hc.symm⟩
 ·rw [if_neg hc, if_pos h]
  have hb : (s.data.toList == sContr) = false := by simpa using hc
  rw [iOk, hb, Bool.false_or] at h
  have hf : iFm s = if etfOk s then clsOf ((etfF s).sz + 1) (etfF s) else none := rfl
  revert h
  cases hi : iFm s with
  | none => simp
  | some c =>
   intro h
   simp only [Bool.and_eq_true, beq_iff_eq] at h
   rw [hi] at hf
   have hok : etfOk s = true := by
    cases hk : etfOk s
    ·rw [hk] at hf; simp at hf
    ·rfl
   simp only [etfOk, Bool.and_eq_true, decide_eq_true_eq] at hok
   exact ⟨hok.1, h.1, h.2⟩
theorem iOk_yes {s : ByteArray} {c : List Lit3} (h : EngOf s c) : iOk s = true ∧ iC s = c := by
 obtain ⟨hs, hg, he⟩ := h
 by_cases h0 : c.length = 0
 ·obtain rfl : c = [] := List.eq_nil_of_length_eq_zero h0
  have hc : s.data.toList = sContr := he.symm
  rw [iOk, iC, if_pos hc, hc]; exact ⟨rfl, rfl⟩
 ·have h0' : 0 < c.length := by omega
  have hE : (disj c).eng = s.data.toList := by rw [← he, Cls.eng, if_neg h0]
  have hne : s.data.toList ≠ sContr := by rw [← hE]; exact disj_contr h0' (good_atoms hg).2
  have hb : (s.data.toList == sContr) = false := by simpa using hne
  have hok : etfOk s = true := by rw [etfOk, decide_eq_true hs, Bool.true_and]; exact pOk_iff.2 ⟨_, disj_good h0' hg, hE⟩
  have hF : etfF s = disj c := by rw [etfF, if_pos hok]; exact pOk_read (disj_good h0' hg) hE
  have hi : iFm s = some c := by rw [iFm, if_pos hok, hF]; exact clsOf_disj c _ h0' (by have := (disj_sz c h0').2; omega)
  have hk : iOk s = true := by rw [iOk, hb, hi]; simp [hg, he]
  exact ⟨hk, by rw [iC, if_neg hne, if_pos hk, hi]; rfl⟩
def rLit (L : List UInt8) (p : PSt) : Lit3 × PSt := if pTake L sNot p then (⟨false, (qAtom L (pAdv sNot p)).1.a⟩, (qAtom L (pAdv sNot p)).2) else (⟨true, (qAtom L p).1.a⟩, (qAtom L p).2)
def rLits (L : List UInt8) : Nat → PSt → List Lit3 × PSt
 | 0, p => ([], p)
 | f + 1, p => if pTake L sEither p then ((rLit L (pAdv sEither p)).1 :: (rLits L f (pMust L sOr (rLit L (pAdv sEither p)).2)).1, (rLits L f (pMust L sOr (rLit L (pAdv sEither p)).2)).2) else ([(rLit L p).1], (rLit L p).2)
def rCls (L : List UInt8) (p : PSt) : List Lit3 × PSt := if pTake L sContr p then ([], pAdv sContr p) else rLits L (L.length + 2) p
theorem rLit_ok {L : List UInt8} {l : Lit3} {k : Nat} {R : List UInt8} (h : l.a.atom = true) (hL : L.drop k = l.fm.eng ++ R) (hR : GoodR R) : rLit L ⟨k, false⟩ = (l, ⟨k + l.fm.eng.length, false⟩) := by
 obtain ⟨pos, a⟩ := l
 rw [fm_eng] at hL ⊢
 cases pos
 ·have e0 : L.drop k = sNot ++ (a.eng ++ R) := by rw [hL]; simp [List.append_assoc]
  have e1 := drop_adv e0
  have h1 := qAtom_ok h e1 hR
  rw [rLit, if_pos (pTake_yes e0)]
  simp only [pAdv] at h1 ⊢
  rw [h1]
  refine Prod.ext rfl ?_
  show PSt.mk _ _ = PSt.mk _ _
  congr 1
  rw [if_neg (by simp), List.length_append]; omega
 ·have e0 : L.drop k = a.eng ++ R := hL
  have hn : pTake L sNot ⟨k, false⟩ = false := pTake_no e0 (atom_noKw h R _ (by simp))
  rw [rLit, if_neg (by rw [hn]; simp), qAtom_ok h e0 hR]
  rfl
theorem rLit_either {L : List UInt8} {l : Lit3} {k : Nat} {R : List UInt8} (h : l.a.atom = true) (hL : L.drop k = l.fm.eng ++ R) : pTake L sEither ⟨k, false⟩ = false := by
 refine pTake_no hL ?_
 rw [fm_eng]; split
 ·exact atom_noKw h R _ (by simp)
 ·rfl
theorem rLits_ok' {L : List UInt8} {R : List UInt8} (hR : GoodR R) : ∀ (c : List Lit3) (f k : Nat), 0 < c.length → (∀ l ∈ c, l.a.atom = true) → L.drop k = (disj c).eng ++ R → (disj c).eng.length < f → rLits L f ⟨k, false⟩ = (c, ⟨k + (disj c).eng.length, false⟩)
 | [], _, _, h, _, _, _ => absurd h (by simp)
 | _, 0, _, _, _, _, h => absurd h (by omega)
 | [l], f + 1, k, _, ha, hL, _ => by
  rw [disj_one] at hL ⊢
  rw [rLits, if_neg (by rw [rLit_either (ha l (by simp)) hL]; simp), rLit_ok (ha l (by simp)) hL hR]
 | l :: a :: c, f + 1, k, _, ha, hL, hf => by
  rw [disj_cons, eng_or] at hL hf ⊢
  have e0 : L.drop k = sEither ++ (l.fm.eng ++ (sOr ++ ((disj (a :: c)).eng ++ R))) := by rw [hL]; simp [List.append_assoc]
  have e1 := drop_adv e0
  have e2 := drop_adv e1
  have e3 := drop_adv e2
  have h1 := rLit_ok (ha l (by simp)) e1 (.or _)
  have h2 := pMust_yes e2
  have hl : sEither.length = 7 ∧ sOr.length = 4 := ⟨rfl, rfl⟩
  simp only [List.length_append] at hf ⊢
  have h3 := rLits_ok' hR (a :: c) f _ (by simp) (fun x hx => ha x (List.mem_cons_of_mem _ hx)) e3 (by omega)
  rw [rLits, if_pos (pTake_yes e0)]
  simp only [pAdv] at h1 h2 h3 ⊢
  rw [h1]
  simp only
  rw [h2, h3]
  refine Prod.ext rfl ?_
  show PSt.mk _ _ = PSt.mk _ _
  congr 1
  omega
theorem rCls_ok {L R : List UInt8} {c : List Lit3} {k : Nat} (hg : Cls.good c = true) (hL : L.drop k = Cls.eng c ++ R) (hR : GoodR R) : rCls L ⟨k, false⟩ = (c, ⟨k + (Cls.eng c).length, false⟩) := by
 by_cases h0 : c.length = 0
 ·obtain rfl : c = [] := List.eq_nil_of_length_eq_zero h0
  have hc : Cls.eng [] = sContr := rfl
  rw [hc] at hL ⊢
  rw [rCls, if_pos (pTake_yes hL)]; rfl
 ·have h0' : 0 < c.length := by omega
  have hE : Cls.eng c = (disj c).eng := by rw [Cls.eng, if_neg h0]
  have ha := (good_atoms hg).2
  rw [hE] at hL ⊢
  have hn : pTake L sContr ⟨k, false⟩ = false := pTake_no hL (contr_disj c h0' ha R)
  have hl := congrArg List.length hL
  rw [List.length_drop, List.length_append] at hl
  rw [rCls, if_neg (by rw [hn]; simp), rLits_ok' hR c _ k h0' ha hL (by omega)]
theorem iC_le (s : ByteArray) : (iC s).length ≤ 8 := by
 cases hi : iOk s
 ·rw [iC]; split <;> simp [hi]
 ·exact (good_atoms (iOk_of hi).2.1).1
end Go.Proofs.YtabkdonplmlbcaaGreatDoor
