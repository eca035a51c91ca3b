/- Values of a chain's operations number 9 to 15. No program is named. -/
import Derived.Test.YtkgfanajgdelcaaGreatDoorUnPart1
import Derived.Test.YtkgfanajgdelcaaGreatDoorUnPart2
import Derived.Test.YtkgfanajgdelcaaGreatDoorUnPart3
import Derived.Test.YtkgfanajgdelcaaGreatDoorUnPart4
namespace Go.Proofs.YtkgfanajgdelcaaGreatDoor
open Go.RowKit
theorem pWord_wt (L : List UInt8) (p : PSt) : (pWord L p).1.length + p.pos ≤ (pWord L p).2.pos := by
  unfold pWord; split <;> simp <;> omega
theorem pMust_up (L t : List UInt8) (p : PSt) : p.pos ≤ (pMust L t p).pos := by
  unfold pMust; split <;> simp [pAdv]
theorem size_toBytes (l : List UInt8) : (⟨l.toArray⟩ : ByteArray).size = l.length := by simp [ByteArray.size]
mutual
theorem pTerm_wt (L : List UInt8) : ∀ (f : Nat) (p : PSt), (pTerm L f p).1.wt + p.pos ≤ (pTerm L f p).2.pos
  | 0, p => by rw [pTerm]; simp [Tm.wt, Tm.wts, ByteArray.size]
  | f + 1, p => by
    have h1 := pWord_wt L p
    have h2 := pTerm_wt L f (pAdv [40] (pWord L p).2)
    have h3 := pArgs_wt L [44] (by decide) f (pTerm L f (pAdv [40] (pWord L p).2)).2
    have h4 := pMust_up L [41] (pArgs L [44] f (pTerm L f (pAdv [40] (pWord L p).2)).2).2
    have h5 : (pAdv [40] (pWord L p).2).pos = (pWord L p).2.pos + 1 := rfl
    rw [pTerm]
    split
    · simp only [Tm.wt, Tm.wts, List.length_cons, size_toBytes]; omega
    · simp only [Tm.wt, Tm.wts, List.length_nil, size_toBytes]; omega
theorem pArgs_wt (L sep : List UInt8) (hs : 0 < sep.length) : ∀ (f : Nat) (p : PSt), (pArgs L sep f p).1.length + Tm.wts (pArgs L sep f p).1 + p.pos ≤ (pArgs L sep f p).2.pos
  | 0, p => by rw [pArgs]; simp [Tm.wts]
  | f + 1, p => by
    have h2 := pTerm_wt L f (pAdv sep p)
    have h3 := pArgs_wt L sep hs f (pTerm L f (pAdv sep p)).2
    have h5 : (pAdv sep p).pos = p.pos + sep.length := rfl
    rw [pArgs]
    split
    · simp only [Tm.wts, List.length_cons]; omega
    · simp [Tm.wts]
end
theorem tm0_wt : tm0.wt = 0 := by simp [tm0, Tm.wt, Tm.wts, ByteArray.size]
theorem nil_size : (⟨#[]⟩ : ByteArray).size = 0 := rfl
end Go.Proofs.YtkgfanajgdelcaaGreatDoor
namespace Go.Proofs.YtkgfanajgdelcaaGreatDoor
open Go.RowKit
theorem pAtomT_wt (L : List UInt8) (f : Nat) (p : PSt) : (pAtomT L f p).1.wt + p.pos ≤ (pAtomT L f p).2.pos := by
  have h1 := pTerm_wt L f p
  have h2 := pTerm_wt L f (pAdv sEq8 (pTerm L f p).2)
  have e1 : (pAdv sEq8 (pTerm L f p).2).pos = (pTerm L f p).2.pos + 3 := rfl
  have hq : (⟨#[61]⟩ : ByteArray).size = 1 := rfl
  unfold pAtomT
  split
  · simp only [eqTm, Tm.wt, Tm.wts, List.length_cons, List.length_nil, hq]; omega
  · omega
theorem pAtomT_pos (L : List UInt8) (f : Nat) (p : PSt) (hp : p.pos ≤ L.length) : p.pos ≤ (pAtomT L f p).2.pos ∧ (pAtomT L f p).2.pos ≤ L.length := by
  have h1 := pTerm_pos L f p hp
  rw [pAtomT]
  split
  · rename_i h
    have h2 := pTake_le h h1.2
    have h3 := pTerm_pos L f (pAdv sEq8 (pTerm L f p).2) h2
    simp only [pAdv] at h3 ⊢; omega
  · exact h1
theorem atomF_wt (t : Tm) : (atomF t).wt ≤ t.wt := by
  unfold atomF
  split
  · simp [opF, Fm.wt, Fm.wts, tm0_wt, nil_size]
  · split
    · simp [opF, Fm.wt, Fm.wts, tm0_wt, nil_size]
    · simp [atomOfF, Fm.wt, Fm.wts, nil_size]
theorem pSign_take {L : List UInt8} {p : PSt} (h : pSign L p ≠ 0) : pTake L (sign8 (pSign L p)) p = true ∧ (pSign L p = 5 ∨ pSign L p = 6 ∨ pSign L p = 7) := by
  unfold pSign at h ⊢
  split
  · rename_i h1; exact ⟨h1, .inl rfl⟩
  · split
    · rename_i h1 h2; exact ⟨h2, .inr (.inl rfl)⟩
    · split
      · rename_i h1 h2 h3; exact ⟨h3, .inr (.inr rfl)⟩
      · rename_i h1 h2 h3; rw [if_neg h1, if_neg h2, if_neg h3] at h; exact absurd rfl h
mutual
theorem pFrm_wt (L : List UInt8) : ∀ (f : Nat) (p : PSt), p.pos ≤ L.length → (pFrm L f p).1.wt + p.pos ≤ (pFrm L f p).2.pos ∧ (pFrm L f p).2.pos ≤ L.length
  | 0, p, hp => by rw [pFrm]; simp [opF, Fm.wt, Fm.wts, tm0_wt, nil_size, hp]
  | f + 1, p, hp => by
    have bound : ∀ (op : Int) (kw : List UInt8), 1 ≤ kw.length → pTake L kw p = true → (quantF op (pWord L (pAdv kw p)).1 (pFrm L f (pMust L [46] (pWord L (pAdv kw p)).2)).1).wt + p.pos ≤ (pFrm L f (pMust L [46] (pWord L (pAdv kw p)).2)).2.pos ∧ (pFrm L f (pMust L [46] (pWord L (pAdv kw p)).2)).2.pos ≤ L.length := fun op kw hk ht => by
      have h0 := pTake_le ht hp
      have h1 := pWord_wt L (pAdv kw p)
      have h2 := pWord_pos L (pAdv kw p) h0
      have h3 := pMust_pos L [46] (pWord L (pAdv kw p)).2 h2.2
      have h4 := pFrm_wt L f (pMust L [46] (pWord L (pAdv kw p)).2) h3.2
      have e1 : (pAdv kw p).pos = p.pos + kw.length := rfl
      simp only [quantF, Fm.wt, Fm.wts, tm0_wt, size_toBytes, List.length_cons, List.length_nil]; omega
    rw [pFrm]
    split
    · rename_i h; exact bound _ _ (by decide) h
    · split
      · rename_i h; exact bound _ _ (by decide) h
      · split
        · rename_i h
          have h0 := pTake_le h hp
          have h4 := pFrm_wt L f (pAdv [126] p) h0
          have e1 : (pAdv [126] p).pos = p.pos + 1 := rfl
          simp only [opF, Fm.wt, Fm.wts, tm0_wt, nil_size, List.length_cons, List.length_nil]; omega
        · split
          · rename_i h
            have h0 := pTake_le h hp
            have h4 := pInn_wt L f (pAdv [40] p) h0
            have e1 : (pAdv [40] p).pos = p.pos + 1 := rfl
            omega
          · have h1 := pAtomT_wt L (L.length + 2) p
            have h2 := pAtomT_pos L (L.length + 2) p hp
            have h3 := atomF_wt (pAtomT L (L.length + 2) p).1
            simp only; omega
theorem pInn_wt (L : List UInt8) : ∀ (f : Nat) (p : PSt), p.pos ≤ L.length → (pInn L f p).1.wt + p.pos ≤ (pInn L f p).2.pos ∧ (pInn L f p).2.pos ≤ L.length
  | 0, p, hp => by rw [pInn]; simp [opF, Fm.wt, Fm.wts, tm0_wt, nil_size, hp]
  | f + 1, p, hp => by
    have h1 := pFrm_wt L f p hp
    rw [pInn]
    split
    · have h2 := pMust_pos L [41] (pFrm L f p).2 h1.2
      simp only; omega
    · rename_i h
      have h2 := pTake_le (pSign_take h).1 h1.2
      have h3 := pFrm_wt L f (pAdv (sign8 (pSign L (pFrm L f p).2)) (pFrm L f p).2) h2
      have h4 := pMust_pos L [41] (pFrm L f (pAdv (sign8 (pSign L (pFrm L f p).2)) (pFrm L f p).2)).2 h3.2
      have h5 := sign8_len (pSign L (pFrm L f p).2)
      have e1 : (pAdv (sign8 (pSign L (pFrm L f p).2)) (pFrm L f p).2).pos = (pFrm L f p).2.pos + (sign8 (pSign L (pFrm L f p).2)).length := rfl
      simp only [opF, Fm.wt, Fm.wts, tm0_wt, nil_size, List.length_cons, List.length_nil]; omega
end
theorem at8_le {L t : List UInt8} {k : Nat} (h : at8 L t k = true) (hk : k ≤ L.length) : k + t.length ≤ L.length := by
  have := (List.isPrefixOf_iff_prefix.1 h).length_le
  rw [List.length_drop] at this; omega
theorem rSimp_wt (L : List UInt8) (k : Nat) (F : Fm) (j : Nat) (hk : k ≤ L.length) (h : rSimp L k = some (F, j)) : F.wt + k ≤ j ∧ j ≤ L.length ∧ k < j := by
  rw [rSimp] at h
  cases h1 : rTerm L (L.length + 2) k with
  | none => rw [h1] at h; cases h
  | some r =>
    obtain ⟨a, i⟩ := r
    have w1 := rTerm_wt L _ k a i hk h1
    rw [h1] at h
    simp only at h
    split at h
    · rename_i h2
      have h3 := at8_le h2 w1.2.1
      have h3 : i + 3 ≤ L.length := h3
      cases h4 : rTerm L (L.length + 2) (i + 3) with
      | none => rw [h4] at h; cases h
      | some r =>
        obtain ⟨b, e⟩ := r
        have w2 := rTerm_wt L _ _ b e h3 h4
        rw [h4] at h
        simp only [Option.some.injEq, Prod.mk.injEq] at h
        obtain ⟨rfl, rfl⟩ := h
        have hq : (⟨#[61]⟩ : ByteArray).size = 1 := rfl
        simp only [atomOfF, eqTm, Fm.wt, Fm.wts, Tm.wt, Tm.wts, List.length_cons, List.length_nil, nil_size, hq]; omega
    · simp only [Option.some.injEq, Prod.mk.injEq] at h
      obtain ⟨rfl, rfl⟩ := h
      have := atomF_wt a
      omega
theorem rSign_at {L : List UInt8} {k : Nat} (h : rSign L k ≠ 0) : at8 L (sign8 (rSign L k)) k = true ∧ (rSign L k = 5 ∨ rSign L k = 6 ∨ rSign L k = 7) := by
  unfold rSign at h ⊢
  split
  · rename_i h1; exact ⟨h1, .inl rfl⟩
  · split
    · rename_i h1 h2; exact ⟨h2, .inr (.inl rfl)⟩
    · split
      · rename_i h1 h2 h3; exact ⟨h3, .inr (.inr rfl)⟩
      · rename_i h1 h2 h3; rw [if_neg h1, if_neg h2, if_neg h3] at h; exact absurd rfl h
mutual
theorem rFrm_wt (L : List UInt8) : ∀ (f k : Nat) (F : Fm) (j : Nat), k ≤ L.length → rFrm L f k = some (F, j) → F.wt + k ≤ j ∧ j ≤ L.length
  | 0, _, _, _, _, h => by rw [rFrm] at h; cases h
  | f + 1, k, F, j, hk, h => by
    rw [rFrm] at h
    have neg1 : ∀ g : Fm, (opF 4 [g]).wt = 1 + g.wt := fun g => by simp only [opF, Fm.wt, Fm.wts, tm0_wt, nil_size, List.length_cons, List.length_nil]; omega
    split at h
    · rename_i h1; have h2 : k + 4 ≤ L.length := at8_le h1 hk
      have := rQua_wt L f 8 (k + 4) F j h2 h; omega
    · split at h
      · rename_i h1; have h2 : k + 5 ≤ L.length := at8_le h1 hk
        have := rQua_wt L f 9 (k + 5) F j h2 h; omega
      · split at h
        · rename_i h1; have h2 : k + 2 ≤ L.length := at8_le h1 hk
          split at h
          · rename_i h3
            cases h4 : rSimp L (k + 2) with
            | none => rw [h4] at h; cases h
            | some r =>
              obtain ⟨g, i⟩ := r
              have := rSimp_wt L _ g i h2 h4
              rw [h4] at h h3
              simp only [Option.map_some, Option.some.injEq, Prod.mk.injEq] at h
              obtain ⟨rfl, rfl⟩ := h
              simp only [rEqP, Bool.and_eq_true] at h3
              have h5 : i + 1 ≤ L.length := at8_le h3.2 this.2.1
              rw [neg1]; omega
          · cases h4 : rPair L f (k + 1) with
            | none => rw [h4] at h; cases h
            | some r =>
              obtain ⟨g, i⟩ := r
              have := rPair_wt L f (k + 1) g i (by omega) h4
              rw [h4] at h
              simp only [Option.map_some, Option.some.injEq, Prod.mk.injEq] at h
              obtain ⟨rfl, rfl⟩ := h
              rw [neg1]; omega
        · split at h
          · rename_i h1; have h2 : k + 1 ≤ L.length := at8_le h1 hk
            cases h4 : rFrm L f (k + 1) with
            | none => rw [h4] at h; cases h
            | some r =>
              obtain ⟨g, i⟩ := r
              have := rFrm_wt L f (k + 1) g i h2 h4
              rw [h4] at h
              simp only [Option.map_some, Option.some.injEq, Prod.mk.injEq] at h
              obtain ⟨rfl, rfl⟩ := h
              rw [neg1]; omega
          · split at h
            · rename_i h1
              have h2 : k + 1 ≤ L.length := at8_le h1 hk
              exact rPair_wt L f k F j (by omega) h
            · have := rSimp_wt L k F j hk h; omega
theorem rQua_wt (L : List UInt8) : ∀ (f : Nat) (op : Int) (k : Nat) (F : Fm) (j : Nat), k ≤ L.length → rQua L f op k = some (F, j) → F.wt + k ≤ j + 1 ∧ j ≤ L.length
  | 0, _, _, _, _, _, h => by rw [rQua] at h; cases h
  | f + 1, op, k, F, j, hk, h => by
    rw [rQua] at h
    split at h
    · rename_i h1
      have h2 := get_lt h1
      cases h4 : rFrm L f (k + (rWordL L k).length + 1) with
      | none => rw [h4] at h; cases h
      | some r =>
        obtain ⟨g, i⟩ := r
        have := rFrm_wt L f _ g i (by omega) h4
        rw [h4] at h
        simp only [Option.map_some, Option.some.injEq, Prod.mk.injEq] at h
        obtain ⟨rfl, rfl⟩ := h
        simp only [quantF, Fm.wt, Fm.wts, tm0_wt, size_toBytes, List.length_cons, List.length_nil]; omega
    · cases h
theorem rPair_wt (L : List UInt8) : ∀ (f k : Nat) (F : Fm) (j : Nat), k + 1 ≤ L.length → rPair L f k = some (F, j) → F.wt + k ≤ j ∧ j ≤ L.length
  | 0, _, _, _, _, h => by rw [rPair] at h; cases h
  | f + 1, k, F, j, hk, h => by
    rw [rPair] at h
    cases h1 : rFrm L f (k + 1) with
    | none => rw [h1] at h; cases h
    | some r =>
      obtain ⟨a, i⟩ := r
      have w1 := rFrm_wt L f (k + 1) a i hk h1
      rw [h1] at h
      simp only at h
      split at h
      · cases h
      · rename_i h0
        have h2 := at8_le (rSign_at h0).1 w1.2
        have h5 := sign8_len (rSign L i)
        cases h3 : rFrm L f (i + (sign8 (rSign L i)).length) with
        | none => rw [h3] at h; cases h
        | some r =>
          obtain ⟨b, e⟩ := r
          have w2 := rFrm_wt L f _ b e h2 h3
          rw [h3] at h
          simp only at h
          split at h
          · rename_i h6
            have := get_lt h6
            simp only [Option.some.injEq, Prod.mk.injEq] at h
            obtain ⟨rfl, rfl⟩ := h
            simp only [opF, Fm.wt, Fm.wts, tm0_wt, nil_size, List.length_cons, List.length_nil]; omega
          · cases h
end
/-! ### What both sides answer -/
def fRead (L : List UInt8) : Fm × PSt := pFrm L (2 * L.length + 5) ⟨0, false⟩
/-- The text is that of a valid formula. -/
def fOkL (L : List UInt8) : Bool := !(fRead L).2.bad && (fRead L).2.pos == L.length && (fRead L).1.good && (fRead L).1.txt == L
def gRead (L : List UInt8) : Option (Fm × Nat) := rFrm L (2 * L.length + 5) 0
def gOkL (L : List UInt8) : Bool := match gRead L with | none => false | some (F, j) => j == L.length && F.good && F.txt == L
theorem fRead_txt {F : Fm} (hg : F.good = true) : fRead F.txt = (F, ⟨F.txt.length, false⟩) := by
  have hf : F.form = true := by rw [Fm.good, Bool.and_eq_true] at hg; exact hg.2
  have h := pFrm_ok (L := F.txt) (2 * F.txt.length + 5) F 0 [] hf (by simp) .nil (by omega)
  simpa [fRead] using h
theorem gRead_txt {F : Fm} (hg : F.good = true) : gRead F.txt = some (F, F.txt.length) := by
  have hf : F.form = true := by rw [Fm.good, Bool.and_eq_true] at hg; exact hg.2
  have h := rFrm_ok (L := F.txt) (2 * F.txt.length + 5) F 0 [] hf (by simp) .nil (by omega)
  simpa [gRead] using h
theorem fOkL_iff {L : List UInt8} : fOkL L = true ↔ ∃ F : Fm, F.good = true ∧ F.txt = L := by
  constructor
  · intro h
    simp only [fOkL, Bool.and_eq_true, beq_iff_eq] at h
    exact ⟨_, h.1.2, h.2⟩
  · rintro ⟨F, hg, rfl⟩
    simp [fOkL, fRead_txt hg, hg]
theorem gOkL_iff {L : List UInt8} : gOkL L = true ↔ ∃ F : Fm, F.good = true ∧ F.txt = L := by
  constructor
  · intro h
    unfold gOkL at h
    cases hr : gRead L with
    | none => rw [hr] at h; cases h
    | some r =>
      obtain ⟨F, j⟩ := r
      rw [hr] at h
      simp only [Bool.and_eq_true, beq_iff_eq] at h
      exact ⟨F, h.1.2, h.2⟩
  · rintro ⟨F, hg, rfl⟩
    simp [gOkL, gRead_txt hg, hg]
theorem gOkL_eq (L : List UInt8) : gOkL L = fOkL L := by rw [Bool.eq_iff_iff, gOkL_iff, fOkL_iff]
theorem gRead_eq {L : List UInt8} (h : fOkL L = true) : gRead L = some ((fRead L).1, L.length) := by
  obtain ⟨F, hg, rfl⟩ := fOkL_iff.1 h
  rw [gRead_txt hg, fRead_txt hg]
/-- ParseFormula's answer: whether there is a formula, and which. -/
def pfOk (s : ByteArray) : Bool := decide (s.size ≤ 4000) && fOkL s.data.toList
end Go.Proofs.YtkgfanajgdelcaaGreatDoor
namespace Go.Proofs.YtkgfanajgdelcaaGreatDoor
open Go.RowKit
def FmOwn (eT eF : TypeId) : Nat → (Nat → Prop) → World → Fm → List Value → Prop
  | 0, _, _, _, _ => False
  | n + 1, S, w, .mk op a x ps, cs => ∃ (vn va vp : Value) (Sa Sp : Nat → Prop), cs = [.int .i64 op, vn, va, .string x, vp] ∧ (-9223372036854775808 ≤ op ∧ op ≤ 9223372036854775807) ∧ x.size ≤ maxLen ∧ TmOwn eT n Sa w a [vn, va] ∧
      OwnRow Sp w eF 5 (fun T f c => FmOwn eT eF n T w f c) vp ps ∧ (∀ b, Sa b → S b ∧ ¬ Sp b) ∧ ∀ b, Sp b → S b
theorem FmOwn.mono {eT eF : TypeId} : ∀ (n m : Nat) {S S' : Nat → Prop} {w w' : World} (t : Fm) (cs : List Value), n ≤ m → SameOn S w w' → (∀ b, S b → S' b) → FmOwn eT eF n S w t cs → FmOwn eT eF m S' w' t cs
  | 0, _, _, _, _, _, _, _, _, _, _, h => h.elim
  | n + 1, 0, _, _, _, _, _, _, hm, _, _, _ => by omega
  | n + 1, m + 1, S, S', w, w', .mk op a x ps, cs, hm, hs, hS, h => by
    obtain ⟨vn, va, vp, Sa, Sp, h1, h2, h3, h4, h5, h6, h7⟩ := h
    exact ⟨vn, va, vp, Sa, Sp, h1, h2, h3, TmOwn.mono n m a _ (by omega) (fun b hb hlt => hs b (h6 b hb).1 hlt) (fun _ h => h) h4,
      h5.mono (fun b hb hlt => hs b (h7 b hb) hlt) (fun _ h => h) (fun T y c _ hT hy => FmOwn.mono n m y c (by omega) (fun b hb hlt => hs b (h7 b (hT b hb)) hlt) (fun _ h => h) hy), fun b hb => ⟨hS b (h6 b hb).1, (h6 b hb).2⟩, fun b hb => hS b (h7 b hb)⟩
theorem FmOwn.at_ {eT eF : TypeId} : ∀ (n : Nat) {S : Nat → Prop} {w : World} (t : Fm) (cs : List Value), FmOwn eT eF n S w t cs → FmAt S n w t cs
  | 0, _, _, _, _, h => h.elim
  | n + 1, S, w, .mk op a x ps, cs, h => by
    obtain ⟨vn, va, vp, Sa, Sp, h1, h2, h3, h4, h5, h6, h7⟩ := h
    exact ⟨vn, va, vp, h1, h2, h3, TmAt.mono (SameOn.refl _ _) (fun b hb => (h6 b hb).1) n n a _ (Nat.le_refl _) (TmOwn.at_ n a _ h4),
      ListAt.mono (h5.listAt (R' := FmAt S n w) (by omega) fun T y c _ hT hy => FmAt.mono (SameOn.refl _ _) (fun b hb => h7 b (hT b hb)) n n y c (Nat.le_refl _) (FmOwn.at_ n y c hy)) (SameOn.refl _ _) h7 (fun _ _ _ h => h)⟩
theorem FmOwn.form {eT eF : TypeId} {n : Nat} {S : Nat → Prop} {w : World} {t : Fm} {v0 v1 v2 v3 v4 : Value} (h : FmOwn eT eF n S w t [v0, v1, v2, v3, v4]) : ∃ p c q d, v0 = .int .i64 t.op ∧ v1 = .string t.a.n ∧ v2 = .slice p t.a.us.length c ∧ v3 = .string t.v ∧ v4 = .slice q t.ps.length d ∧ (-9223372036854775808 ≤ t.op ∧ t.op ≤ 9223372036854775807) ∧ t.a.n.size ≤ maxLen ∧ t.a.us.length ≤ maxLen ∧ t.v.size ≤ maxLen ∧ t.ps.length ≤ maxLen := (FmOwn.at_ n t _ h).form
theorem row_new (w : World) (e : TypeId) (size n : Nat) (cur : Array Value) (hc : cur.size = n * size) (hn : n ≤ maxLen) : (w.alloc (.cells cur e)).ownsRow 0 e size (.slice (some ⟨w.heap.size, 0, none⟩) n n) n cur.toList :=
  ⟨by simpa using hc, .inr ⟨w.heap.size, n, cur, rfl, Nat.zero_le _, heap_alloc_new w _, Nat.le_refl _, hn, hc, by rw [List.take_of_length_le]; simp; omega⟩⟩
theorem OwnRow.one {α : Type} {S S' : Nat → Prop} {w : World} {e : TypeId} {size : Nat} {R : (Nat → Prop) → α → List Value → Prop} {x : α} (cs : Array Value) (hc : cs.size = size) (hR : R S x cs.toList) (hS : ∀ b, S b → b < w.heap.size) (h1 : ∀ b, S b → S' b) (h2 : S' w.heap.size) :
    OwnRow S' (w.alloc (.cells cs e)) e size R (.slice (some ⟨w.heap.size, 0, none⟩) 1 1) [x] := by
  refine ⟨by simp [maxLen], cs.toList, fun _ => S, row_new w e size 1 cs (by omega) (by simp [maxLen]), fun g hg => ?_, fun i y hy => ?_, fun i j b hi hj hij => ?_⟩
  · have : w.heap.size = g := by simpa [Value.ownBlock] using hg
    rw [← this]; exact h2
  · have hi : i < 1 := by have := (List.getElem?_eq_some_iff.1 hy).1; simpa using this
    obtain rfl : i = 0 := by omega
    obtain rfl : x = y := by simpa using hy
    rw [Nat.zero_mul, List.drop_zero, List.take_of_length_le (by simp; omega)]
    exact ⟨hR, fun b hb => ⟨h1 b hb, fun hv => by have : w.heap.size = b := by simpa [Value.ownBlock] using hv
                                                  have := hS b hb; omega⟩⟩
  · simp at hi hj; omega
theorem OwnRow.two {α : Type} {S T S' : Nat → Prop} {w : World} {e : TypeId} {size : Nat} {R : (Nat → Prop) → α → List Value → Prop} {x y : α} (cs ds : List Value) (hc : cs.length = size) (hd : ds.length = size) (hR : R S x cs) (hR2 : R T y ds) (hS : ∀ b, S b → b < w.heap.size) (hT : ∀ b, T b → b < w.heap.size) (hST : ∀ b, S b → ¬ T b)
    (h1 : ∀ b, S b → S' b) (h3 : ∀ b, T b → S' b) (h2 : S' w.heap.size) : OwnRow S' (w.alloc (.cells (cs ++ ds).toArray e)) e size R (.slice (some ⟨w.heap.size, 0, none⟩) 2 2) [x, y] := by
  refine ⟨by simp [maxLen], cs ++ ds, fun i => if i = 0 then S else T, by simpa using row_new w e size 2 (cs ++ ds).toArray (by simp; omega) (by simp [maxLen]), fun g hg => ?_, fun i z hz => ?_, fun i j b hi hj hij hb => ?_⟩
  · have : w.heap.size = g := by simpa [Value.ownBlock] using hg
    rw [← this]; exact h2
  · have hi : i < 2 := by have := (List.getElem?_eq_some_iff.1 hz).1; simpa using this
    match i, hi with
    | 0, _ =>
      obtain rfl : x = z := by simpa using hz
      rw [Nat.zero_mul, List.drop_zero, List.take_append_of_le_length (by omega), List.take_of_length_le (by omega)]
      exact ⟨hR, fun b hb => ⟨h1 b hb, fun hv => by
        have e1 : w.heap.size = b := by simpa [Value.ownBlock] using hv
        have := hS b hb; omega⟩⟩
    | 1, _ =>
      obtain rfl : y = z := by simpa using hz
      rw [Nat.one_mul, List.drop_left' hc, List.take_of_length_le (by omega)]
      exact ⟨hR2, fun b hb => ⟨h3 b hb, fun hv => by
        have e1 : w.heap.size = b := by simpa [Value.ownBlock] using hv
        have := hT b hb; omega⟩⟩
  · simp only [List.length_cons, List.length_nil] at hi hj
    change (if i = 0 then S else T) b at hb
    show ¬ (if j = 0 then S else T) b
    match i, j, hij with
    | 0, 1, _ => exact hST b hb
    | 1, 0, _ => exact fun h => hST b h hb
    | 0, 0, h => exact absurd rfl h
    | 1, 1, h => exact absurd rfl h
    | i + 2, _, _ => omega
    | _, j + 2, _ => omega
theorem OwnRow.one' {α : Type} {S S' : Nat → Prop} {w : World} {e : TypeId} {size k : Nat} {R : (Nat → Prop) → α → List Value → Prop} {x : α} (hk : w.heap.size = k) (cs : Array Value) (hc : cs.size = size) (hR : R S x cs.toList) (hS : ∀ b, S b → b < k) (h1 : ∀ b, S b → S' b) (h2 : S' k) :
    OwnRow S' (w.alloc (.cells cs e)) e size R (.slice (some ⟨k, 0, none⟩) 1 1) [x] := by subst hk; exact OwnRow.one cs hc hR hS h1 h2
theorem OwnRow.two' {α : Type} {S T S' : Nat → Prop} {w : World} {e : TypeId} {size k : Nat} {R : (Nat → Prop) → α → List Value → Prop} {x y : α} (hk : w.heap.size = k) (cs ds : List Value) (all : Array Value) (hall : all = (cs ++ ds).toArray) (hc : cs.length = size) (hd : ds.length = size) (hR : R S x cs) (hR2 : R T y ds) (hS : ∀ b, S b → b < k) (hT : ∀ b, T b → b < k) (hST : ∀ b, S b → ¬ T b)
    (h1 : ∀ b, S b → S' b) (h3 : ∀ b, T b → S' b) (h2 : S' k) : OwnRow S' (w.alloc (.cells all e)) e size R (.slice (some ⟨k, 0, none⟩) 2 2) [x, y] := by subst hk hall; exact OwnRow.two cs ds hc hd hR hR2 hS hT hST h1 h3 h2
theorem FmOwn.later {eT eF : TypeId} {n : Nat} {S : Nat → Prop} {w w' : World} {t : Fm} {cs : List Value} (hb : Below w.heap.size w w') (h : FmOwn eT eF n S w t cs) : FmOwn eT eF n S w' t cs := FmOwn.mono n n t cs (Nat.le_refl _) (SameOn.below hb) (fun _ h => h) h
end Go.Proofs.YtkgfanajgdelcaaGreatDoor
namespace Go.Proofs.YtkgfanajgdelcaaGreatDoor
open Go.RowKit
/-- A formula that owns its memory, as one value. -/
def FmV (m : Nat) (S : Nat → Prop) (w : World) (t : Fm) (x : Value) : Prop := ∃ v0 v1 v2 v3 v4, x = .agg #[v0, v1, v2, v3, v4] ∧ FmOwn 41 44 m S w t [v0, v1, v2, v3, v4]
def NewB (w w' : World) (b : Nat) : Prop := w.heap.size ≤ b ∧ b < w'.heap.size
theorem opF_own {m : Nat} {S : Nat → Prop} {w : World} {op : Int} {ps : List Fm} {vp : Value} (ho : -9223372036854775808 ≤ op ∧ op ≤ 9223372036854775807) (h : OwnRow S w 44 5 (fun T f c => FmOwn 41 44 (m + 1) T w f c) vp ps) :
    FmOwn 41 44 (m + 2) S w (opF op ps) [.int .i64 op, .string ⟨#[]⟩, .slice none 0 0, .string ⟨#[]⟩, vp] :=
  ⟨_, _, _, fun _ => False, S, rfl, ho, Nat.zero_le _, ⟨_, rfl, Nat.zero_le _, OwnRow.nil _ _ _ _ _⟩, h, fun _ h => h.elim, fun _ h => h⟩
set_option maxRecDepth 100000 in
set_option maxHeartbeats 800000 in
theorem not_any (m : Nat) (S : Nat → Prop) (t : Fm) (x : Value) (w : World) (h : FmV (m + 1) S w t x) (hS : ∀ b, S b → b < w.heap.size) :
    Calls Tryz.prog 227 #[x] w fun e w' => ∃ y, e = .returned y ∧ FmV (m + 2) (fun b => S b ∨ NewB w w' b) w' (opF 4 [t]) y ∧ Below w.heap.size w w' := by
  obtain ⟨v0, v1, v2, v3, v4, rfl, hf⟩ := h
  obtain ⟨p, c, q, d, rfl, rfl, rfl, rfl, rfl, -⟩ := hf.form
  have HF := Lib.hid (And.intro hf hS)
  clear hf hS
  go_enter Tryz.func227, Tryz.ntmps227
  go_wp2
  refine bodyPost_ret (v := .agg #[.int .i64 4, .string ⟨#[]⟩, .slice none 0 0, .string ⟨#[]⟩, .slice (some ⟨w.heap.size + 1 + 1, 0, none⟩) 1 1]) (by simp only [results, Tryz.results227]; go_simp) rfl ⟨_, rfl, ⟨_, _, _, _, _, rfl, opF_own (by omega) ?_⟩, by exact bel⟩
  exact OwnRow.one' (S := S) (by simp) _ rfl (HF.out.1.later (by exact bel)) (fun b hb => by have := HF.out.2 b hb; omega) (fun b hb => .inl hb) (.inr ⟨by omega, by simp⟩)
set_option maxRecDepth 100000 in
set_option maxHeartbeats 800000 in
theorem binary_any (m : Nat) (op : Int) (ho : -9223372036854775808 ≤ op ∧ op ≤ 9223372036854775807) (S T : Nat → Prop) (t r : Fm) (x y : Value) (w : World) (h : FmV (m + 1) S w t x) (h' : FmV (m + 1) T w r y) (hS : ∀ b, S b → b < w.heap.size) (hT : ∀ b, T b → b < w.heap.size) (hST : ∀ b, S b → ¬ T b) :
    Calls Tryz.prog 259 #[.int .i64 op, x, y] w fun e w' => ∃ z, e = .returned z ∧ FmV (m + 2) (fun b => S b ∨ T b ∨ NewB w w' b) w' (opF op [t, r]) z ∧ Below w.heap.size w w' := by
  obtain ⟨v0, v1, v2, v3, v4, rfl, hf⟩ := h
  obtain ⟨p, c, q, d, rfl, rfl, rfl, rfl, rfl, -⟩ := hf.form
  obtain ⟨u0, u1, u2, u3, u4, rfl, hf'⟩ := h'
  obtain ⟨p', c', q', d', rfl, rfl, rfl, rfl, rfl, -⟩ := hf'.form
  have HF := Lib.hid (And.intro hf (And.intro hf' (And.intro hS (And.intro hT hST))))
  clear hf hS hf' hT hST
  go_enter Tryz.func259, Tryz.ntmps259
  go_wp2
  refine bodyPost_ret (v := .agg #[.int .i64 op, .string ⟨#[]⟩, .slice none 0 0, .string ⟨#[]⟩, .slice (some ⟨w.heap.size + 1 + 1 + 1, 0, none⟩) 2 2]) (by simp only [results, Tryz.results259]; go_simp) rfl ⟨_, rfl, ⟨_, _, _, _, _, rfl, opF_own ho ?_⟩, by exact bel⟩
  obtain ⟨h1, h2, h3, h4, h5⟩ := HF.out
  exact OwnRow.two' (S := S) (T := T) (by simp) _ _ _ rfl rfl rfl (h1.later (by exact bel)) (h2.later (by exact bel)) (fun b hb => by have := h3 b hb; omega) (fun b hb => by have := h4 b hb; omega) h5 (fun b hb => .inl hb) (fun b hb => .inr (.inl hb)) (.inr (.inr ⟨by omega, by simp⟩))
set_option maxRecDepth 100000 in
set_option maxHeartbeats 800000 in
theorem quantified_any (m : Nat) (op : Int) (ho : -9223372036854775808 ≤ op ∧ op ≤ 9223372036854775807) (v : List UInt8) (hv : v.length ≤ 1000000) (S : Nat → Prop) (t : Fm) (x : Value) (w : World) (h : FmV (m + 1) S w t x) (hS : ∀ b, S b → b < w.heap.size) :
    Calls Tryz.prog 226 #[.int .i64 op, .string ⟨v.toArray⟩, x] w fun e w' => ∃ y, e = .returned y ∧ FmV (m + 2) (fun b => S b ∨ NewB w w' b) w' (quantF op v t) y ∧ Below w.heap.size w w' := by
  obtain ⟨v0, v1, v2, v3, v4, rfl, hf⟩ := h
  obtain ⟨p, c, q, d, rfl, rfl, rfl, rfl, rfl, -⟩ := hf.form
  have HF := Lib.hid (And.intro hf hS)
  clear hf hS
  go_enter Tryz.func226, Tryz.ntmps226
  go_wp2
  refine bodyPost_ret (v := .agg #[.int .i64 op, .string ⟨#[]⟩, .slice none 0 0, .string ⟨v.toArray⟩, .slice (some ⟨w.heap.size + 1 + 1, 0, none⟩) 1 1]) (by simp only [results, Tryz.results226]; go_simp) rfl ⟨_, rfl, ⟨_, _, _, _, _, rfl, ⟨_, _, _, fun _ => False, _, rfl, ho, by show v.toArray.size ≤ _; unfold maxLen; simp; omega, ⟨_, rfl, Nat.zero_le _, OwnRow.nil _ _ _ _ _⟩, ?_, fun _ h => h.elim, fun _ h => h⟩⟩, by exact bel⟩
  exact OwnRow.one' (S := S) (by simp) _ rfl (HF.out.1.later (by exact bel)) (fun b hb => by have := HF.out.2 b hb; omega) (fun b hb => .inl hb) (.inr ⟨by omega, by simp⟩)
set_option maxRecDepth 100000 in
set_option maxHeartbeats 800000 in
theorem atomOf_any (m : Nat) (S : Nat → Prop) (t : Tm) (v0 v1 : Value) (w : World) (h : TmOwn 41 m S w t [v0, v1]) :
    Calls Tryz.prog 110 #[.agg #[v0, v1]] w fun e w' => ∃ y, e = .returned y ∧ FmV (m + 1) S w' (atomOfF t) y ∧ Below w.heap.size w w' := by
  obtain ⟨p, c, rfl, rfl, -⟩ := h.form
  have HF := Lib.hid h
  clear h
  go_enter Tryz.func110, Tryz.ntmps110
  go_wp2
  refine bodyPost_ret (v := .agg #[.int .i64 3, .string t.n, .slice p t.us.length c, .string ⟨#[]⟩, .slice none 0 0]) (by simp only [results, Tryz.results110]; go_simp) rfl ⟨_, rfl, ⟨_, _, _, _, _, rfl, ⟨_, _, _, S, fun _ => False, rfl, by omega, Nat.zero_le _, HF.out.below (by exact bel), OwnRow.nil _ _ _ _ _, fun b hb => ⟨hb, fun h => h⟩, fun _ h => h.elim⟩⟩, by exact bel⟩
end Go.Proofs.YtkgfanajgdelcaaGreatDoor
namespace Go.Proofs.YtkgfanajgdelcaaGreatDoor
open Go.RowKit
def WordRel (T : TypeId) (g : Nat) (s : ByteArray) (k : Nat) (bad : Bool) (w : World) (wr : World) : Prop := ∃ j, k ≤ j ∧ j ≤ s.size ∧ (∀ i, k ≤ i → (h : i < j) → (h2 : i < s.size) → wordC s[i] = true) ∧ PAt T wr g s ⟨j, bad⟩ ∧ w.grownBy wr (some g)
set_option maxRecDepth 100000 in
set_option maxHeartbeats 3200000 in
theorem word_any (g : Nat) (s : ByteArray) (p : PSt) (w : World) (h : PAt 190 w g s p) (hp : p.pos ≤ s.size) (hs : s.size ≤ 1000000000000) :
    Calls Tryz.prog 224 #[.pointer (some ⟨g, 0, none⟩)] w (PStep 190 g s (pWord s.data.toList p).2 (fun v _ => v = .string ⟨(pWord s.data.toList p).1.toArray⟩) w) := by
  have H := Lib.hid h
  have hg := bsz h.lt
  obtain ⟨k, bad⟩ := p
  simp only at hp
  obtain ⟨c0, c1, c2, cf⟩ := h.cells
  simp only at c1 c2
  clear h
  go_enter Tryz.func224, Tryz.ntmps224
  go_wp2
  go_loopw [] (WordRel 190 g s k bad w) (fun wr => s.size - posOf wr g)
  case atStart => exact ⟨k, Nat.le_refl _, hp, fun i h1 h2 => absurd h2 (by omega), H.out, gr_refl w g⟩
  case round =>
    obtain ⟨j, hj1, hj2, hall, hP, hgr⟩ := hrel
    have HP := Lib.hid hP
    have HALL := Lib.hid hall
    have hPO := hP.posOf
    obtain ⟨d0, d1, d2, df⟩ := hP.cells
    simp only at d1 d2
    have hgw := bsz hP.lt
    clear hP hall c0 c1 c2 cf
    by_cases hlt : j < s.size
    · have hj3 : (j : Int) < s.size := by omega
      by_cases hw : wordC s[j] = true
      · have HW := Lib.hid hw
        rw [wordC, Bool.or_eq_true, Bool.or_eq_true, Bool.or_eq_true] at hw
        cases hlo : loC s[j]
        · cases hup : upC s[j]
          · cases hdi : diC s[j]
            · have h95 : ((s[j].toNat : Int) == 95) = true := by
                have : s[j] = 95 := by simpa [hlo, hup, hdi] using hw
                rw [this]; rfl
              clear hw
              go_wp2
              obtain ⟨C, HC0⟩ := class_of (InF wr.heap.size _ [(⟨g, 0, none⟩, .string s), (⟨g, 1, none⟩, .int .i64 (j : Nat)), (⟨g, 2, none⟩, .bool bad)] [] [])
              have HC := Lib.hid HC0
              clear HC0
              refine wp_region_flow (C := C) (by kernel_rfl) (by kernel_rfl) (fun L hL => (HC.out _ _).2 (InF.start (by first | (intro _ hs; cases hs; done) | (simp only [List.forall_mem_cons]; go_simp)) (by first | (intro _ hs; cases hs; done) | (simp only [List.forall_mem_cons]; go_simp)) (by first | (intro _ hs; cases hs; done) | (simp only [List.forall_mem_cons]; go_simp)) (by first | (intro _ hs; cases hs; done) | (simp only [List.forall_mem_cons]; go_simp)) L hL)) ?_
              repeat (first | ((first | apply flow_free rfl | (apply flow_yes; (case hw => go_simp))); (intro L w' hun hrd hC; have hC := (HC.out _ _).1 hC; have hb' := hC.below; (try have hw' : Below w.heap.size w w' := by first | exact Below.trans (by exact bel) hb' | (exact bel; done)); have hf' := hC.cell; (try simp only [List.forall_mem_cons] at hf'); go_simp; first | exact ⟨(HC.out _ _).2 (hC.skip _ (by rfl)), rfl⟩ | (rw [if_neg]; (exact ⟨(HC.out _ _).2 (hC.skip _ (by rfl)), rfl⟩); omega) | (go_at_call 128; refine ((same_below (isLower_any _ _))).mono ?_; rintro e w1 ⟨rfl, hb1⟩; exact ⟨rfl, (HC.out _ _).2 ((hC.next (by first | (simp; done) | (simp; omega) | omega) hb1).skip _ (by rfl))⟩) | (go_at_call 158; refine ((same_below (isUpper_any _ _))).mono ?_; rintro e w1 ⟨rfl, hb1⟩; exact ⟨rfl, (HC.out _ _).2 ((hC.next (by first | (simp; done) | (simp; omega) | omega) hb1).skip _ (by rfl))⟩) | (go_at_call 129; refine ((same_below (isDigit_any _ _))).mono ?_; rintro e w1 ⟨rfl, hb1⟩; exact ⟨rfl, (HC.out _ _).2 ((hC.next (by first | (simp; done) | (simp; omega) | omega) hb1).skip _ (by rfl))⟩)); go_simp) | (apply flow_no; (case hw => (go_simp; try (intro hh; cases hh))); (intro L w' _ _ hC; exact (HC.out _ _).2 (((HC.out _ _).1 hC).skip _ (by rfl))); go_simp))
              refine flow_nil ?_
              intro L wz hL hz
              have hz := (HC.out _ _).1 hz
              have hbz := hz.below
              have hcz := hz.cell
              try simp only [List.forall_mem_cons] at hcz
              have hdz := hz.done
              try simp only [List.forall_mem_cons] at hdz
              (try have hwz : Below w.heap.size w wz := by first | exact Below.trans (by exact bel) hbz | (exact bel; done))
              have hPz := HP.out.below hbz
              have HPZ := Lib.hid hPz
              obtain ⟨z0, z1, z2, zf⟩ := hPz.cells
              simp only at z1 z2
              have hgz := bsz hPz.lt
              clear hPz
              go_wp2
              rw [show ((j : Int) + 1) = ((j + 1 : Nat) : Int) by omega]
              have hP2 := HPZ.out.pos (j + 1)
              refine ⟨⟨j + 1, by omega, by omega, fun i h1 h2 h3 => ?_, hP2, gr_sc (gr_below hgr hbz) (.inl rfl) _⟩, by rw [hP2.posOf, hPO]; show s.size - (j + 1) < s.size - j; omega⟩
              by_cases e : i = j
              · subst e; exact HW.out
              · exact HALL.out i h1 (by omega) h3
            · clear hw
              go_wp2
              obtain ⟨C, HC0⟩ := class_of (InF wr.heap.size _ [(⟨g, 0, none⟩, .string s), (⟨g, 1, none⟩, .int .i64 (j : Nat)), (⟨g, 2, none⟩, .bool bad)] [] [])
              have HC := Lib.hid HC0
              clear HC0
              refine wp_region_flow (C := C) (by kernel_rfl) (by kernel_rfl) (fun L hL => (HC.out _ _).2 (InF.start (by first | (intro _ hs; cases hs; done) | (simp only [List.forall_mem_cons]; go_simp)) (by first | (intro _ hs; cases hs; done) | (simp only [List.forall_mem_cons]; go_simp)) (by first | (intro _ hs; cases hs; done) | (simp only [List.forall_mem_cons]; go_simp)) (by first | (intro _ hs; cases hs; done) | (simp only [List.forall_mem_cons]; go_simp)) L hL)) ?_
              repeat (first | ((first | apply flow_free rfl | (apply flow_yes; (case hw => go_simp))); (intro L w' hun hrd hC; have hC := (HC.out _ _).1 hC; have hb' := hC.below; (try have hw' : Below w.heap.size w w' := by first | exact Below.trans (by exact bel) hb' | (exact bel; done)); have hf' := hC.cell; (try simp only [List.forall_mem_cons] at hf'); go_simp; first | exact ⟨(HC.out _ _).2 (hC.skip _ (by rfl)), rfl⟩ | (rw [if_neg]; (exact ⟨(HC.out _ _).2 (hC.skip _ (by rfl)), rfl⟩); omega) | (go_at_call 128; refine ((same_below (isLower_any _ _))).mono ?_; rintro e w1 ⟨rfl, hb1⟩; exact ⟨rfl, (HC.out _ _).2 ((hC.next (by first | (simp; done) | (simp; omega) | omega) hb1).skip _ (by rfl))⟩) | (go_at_call 158; refine ((same_below (isUpper_any _ _))).mono ?_; rintro e w1 ⟨rfl, hb1⟩; exact ⟨rfl, (HC.out _ _).2 ((hC.next (by first | (simp; done) | (simp; omega) | omega) hb1).skip _ (by rfl))⟩) | (go_at_call 129; refine ((same_below (isDigit_any _ _))).mono ?_; rintro e w1 ⟨rfl, hb1⟩; exact ⟨rfl, (HC.out _ _).2 ((hC.next (by first | (simp; done) | (simp; omega) | omega) hb1).skip _ (by rfl))⟩)); go_simp) | (apply flow_no; (case hw => (go_simp; try (intro hh; cases hh))); (intro L w' _ _ hC; exact (HC.out _ _).2 (((HC.out _ _).1 hC).skip _ (by rfl))); go_simp))
              refine flow_nil ?_
              intro L wz hL hz
              have hz := (HC.out _ _).1 hz
              have hbz := hz.below
              have hcz := hz.cell
              try simp only [List.forall_mem_cons] at hcz
              have hdz := hz.done
              try simp only [List.forall_mem_cons] at hdz
              (try have hwz : Below w.heap.size w wz := by first | exact Below.trans (by exact bel) hbz | (exact bel; done))
              have hPz := HP.out.below hbz
              have HPZ := Lib.hid hPz
              obtain ⟨z0, z1, z2, zf⟩ := hPz.cells
              simp only at z1 z2
              have hgz := bsz hPz.lt
              clear hPz
              go_wp2
              rw [show ((j : Int) + 1) = ((j + 1 : Nat) : Int) by omega]
              have hP2 := HPZ.out.pos (j + 1)
              refine ⟨⟨j + 1, by omega, by omega, fun i h1 h2 h3 => ?_, hP2, gr_sc (gr_below hgr hbz) (.inl rfl) _⟩, by rw [hP2.posOf, hPO]; show s.size - (j + 1) < s.size - j; omega⟩
              by_cases e : i = j
              · subst e; exact HW.out
              · exact HALL.out i h1 (by omega) h3
          · clear hw
            go_wp2
            obtain ⟨C, HC0⟩ := class_of (InF wr.heap.size _ [(⟨g, 0, none⟩, .string s), (⟨g, 1, none⟩, .int .i64 (j : Nat)), (⟨g, 2, none⟩, .bool bad)] [] [])
            have HC := Lib.hid HC0
            clear HC0
            refine wp_region_flow (C := C) (by kernel_rfl) (by kernel_rfl) (fun L hL => (HC.out _ _).2 (InF.start (by first | (intro _ hs; cases hs; done) | (simp only [List.forall_mem_cons]; go_simp)) (by first | (intro _ hs; cases hs; done) | (simp only [List.forall_mem_cons]; go_simp)) (by first | (intro _ hs; cases hs; done) | (simp only [List.forall_mem_cons]; go_simp)) (by first | (intro _ hs; cases hs; done) | (simp only [List.forall_mem_cons]; go_simp)) L hL)) ?_
            repeat (first | ((first | apply flow_free rfl | (apply flow_yes; (case hw => go_simp))); (intro L w' hun hrd hC; have hC := (HC.out _ _).1 hC; have hb' := hC.below; (try have hw' : Below w.heap.size w w' := by first | exact Below.trans (by exact bel) hb' | (exact bel; done)); have hf' := hC.cell; (try simp only [List.forall_mem_cons] at hf'); go_simp; first | exact ⟨(HC.out _ _).2 (hC.skip _ (by rfl)), rfl⟩ | (rw [if_neg]; (exact ⟨(HC.out _ _).2 (hC.skip _ (by rfl)), rfl⟩); omega) | (go_at_call 128; refine ((same_below (isLower_any _ _))).mono ?_; rintro e w1 ⟨rfl, hb1⟩; exact ⟨rfl, (HC.out _ _).2 ((hC.next (by first | (simp; done) | (simp; omega) | omega) hb1).skip _ (by rfl))⟩) | (go_at_call 158; refine ((same_below (isUpper_any _ _))).mono ?_; rintro e w1 ⟨rfl, hb1⟩; exact ⟨rfl, (HC.out _ _).2 ((hC.next (by first | (simp; done) | (simp; omega) | omega) hb1).skip _ (by rfl))⟩) | (go_at_call 129; refine ((same_below (isDigit_any _ _))).mono ?_; rintro e w1 ⟨rfl, hb1⟩; exact ⟨rfl, (HC.out _ _).2 ((hC.next (by first | (simp; done) | (simp; omega) | omega) hb1).skip _ (by rfl))⟩)); go_simp) | (apply flow_no; (case hw => (go_simp; try (intro hh; cases hh))); (intro L w' _ _ hC; exact (HC.out _ _).2 (((HC.out _ _).1 hC).skip _ (by rfl))); go_simp))
            refine flow_nil ?_
            intro L wz hL hz
            have hz := (HC.out _ _).1 hz
            have hbz := hz.below
            have hcz := hz.cell
            try simp only [List.forall_mem_cons] at hcz
            have hdz := hz.done
            try simp only [List.forall_mem_cons] at hdz
            (try have hwz : Below w.heap.size w wz := by first | exact Below.trans (by exact bel) hbz | (exact bel; done))
            have hPz := HP.out.below hbz
            have HPZ := Lib.hid hPz
            obtain ⟨z0, z1, z2, zf⟩ := hPz.cells
            simp only at z1 z2
            have hgz := bsz hPz.lt
            clear hPz
            go_wp2
            rw [show ((j : Int) + 1) = ((j + 1 : Nat) : Int) by omega]
            have hP2 := HPZ.out.pos (j + 1)
            refine ⟨⟨j + 1, by omega, by omega, fun i h1 h2 h3 => ?_, hP2, gr_sc (gr_below hgr hbz) (.inl rfl) _⟩, by rw [hP2.posOf, hPO]; show s.size - (j + 1) < s.size - j; omega⟩
            by_cases e : i = j
            · subst e; exact HW.out
            · exact HALL.out i h1 (by omega) h3
        · clear hw
          go_wp2
          obtain ⟨C, HC0⟩ := class_of (InF wr.heap.size _ [(⟨g, 0, none⟩, .string s), (⟨g, 1, none⟩, .int .i64 (j : Nat)), (⟨g, 2, none⟩, .bool bad)] [] [])
          have HC := Lib.hid HC0
          clear HC0
          refine wp_region_flow (C := C) (by kernel_rfl) (by kernel_rfl) (fun L hL => (HC.out _ _).2 (InF.start (by first | (intro _ hs; cases hs; done) | (simp only [List.forall_mem_cons]; go_simp)) (by first | (intro _ hs; cases hs; done) | (simp only [List.forall_mem_cons]; go_simp)) (by first | (intro _ hs; cases hs; done) | (simp only [List.forall_mem_cons]; go_simp)) (by first | (intro _ hs; cases hs; done) | (simp only [List.forall_mem_cons]; go_simp)) L hL)) ?_
          repeat (first | ((first | apply flow_free rfl | (apply flow_yes; (case hw => go_simp))); (intro L w' hun hrd hC; have hC := (HC.out _ _).1 hC; have hb' := hC.below; (try have hw' : Below w.heap.size w w' := by first | exact Below.trans (by exact bel) hb' | (exact bel; done)); have hf' := hC.cell; (try simp only [List.forall_mem_cons] at hf'); go_simp; first | exact ⟨(HC.out _ _).2 (hC.skip _ (by rfl)), rfl⟩ | (rw [if_neg]; (exact ⟨(HC.out _ _).2 (hC.skip _ (by rfl)), rfl⟩); omega) | (go_at_call 128; refine ((same_below (isLower_any _ _))).mono ?_; rintro e w1 ⟨rfl, hb1⟩; exact ⟨rfl, (HC.out _ _).2 ((hC.next (by first | (simp; done) | (simp; omega) | omega) hb1).skip _ (by rfl))⟩) | (go_at_call 158; refine ((same_below (isUpper_any _ _))).mono ?_; rintro e w1 ⟨rfl, hb1⟩; exact ⟨rfl, (HC.out _ _).2 ((hC.next (by first | (simp; done) | (simp; omega) | omega) hb1).skip _ (by rfl))⟩) | (go_at_call 129; refine ((same_below (isDigit_any _ _))).mono ?_; rintro e w1 ⟨rfl, hb1⟩; exact ⟨rfl, (HC.out _ _).2 ((hC.next (by first | (simp; done) | (simp; omega) | omega) hb1).skip _ (by rfl))⟩)); go_simp) | (apply flow_no; (case hw => (go_simp; try (intro hh; cases hh))); (intro L w' _ _ hC; exact (HC.out _ _).2 (((HC.out _ _).1 hC).skip _ (by rfl))); go_simp))
          refine flow_nil ?_
          intro L wz hL hz
          have hz := (HC.out _ _).1 hz
          have hbz := hz.below
          have hcz := hz.cell
          try simp only [List.forall_mem_cons] at hcz
          have hdz := hz.done
          try simp only [List.forall_mem_cons] at hdz
          (try have hwz : Below w.heap.size w wz := by first | exact Below.trans (by exact bel) hbz | (exact bel; done))
          have hPz := HP.out.below hbz
          have HPZ := Lib.hid hPz
          obtain ⟨z0, z1, z2, zf⟩ := hPz.cells
          simp only at z1 z2
          have hgz := bsz hPz.lt
          clear hPz
          go_wp2
          rw [show ((j : Int) + 1) = ((j + 1 : Nat) : Int) by omega]
          have hP2 := HPZ.out.pos (j + 1)
          refine ⟨⟨j + 1, by omega, by omega, fun i h1 h2 h3 => ?_, hP2, gr_sc (gr_below hgr hbz) (.inl rfl) _⟩, by rw [hP2.posOf, hPO]; show s.size - (j + 1) < s.size - j; omega⟩
          by_cases e : i = j
          · subst e; exact HW.out
          · exact HALL.out i h1 (by omega) h3
      · have HSTOP := Lib.hid (show ∀ h : j < s.size, wordC s[j] = false from fun _ => by simpa using hw)
        rw [wordC, Bool.or_eq_true, Bool.or_eq_true, Bool.or_eq_true, not_or, not_or, not_or] at hw
        have hlo : loC s[j] = false := by simpa using hw.1.1.1
        have hup : upC s[j] = false := by simpa using hw.1.1.2
        have hdi : diC s[j] = false := by simpa using hw.1.2
        have h95 : ((s[j].toNat : Int) == 95) = false := by
          have : ¬ s[j] = 95 := by simpa using hw.2
          simp only [beq_eq_false_iff_ne, ne_eq]
          exact fun e => this (UInt8.toNat_inj.1 (show s[j].toNat = 95 by omega))
        clear hw
        have HWD := Lib.hid (show pWordL s.data.toList ⟨k, bad⟩ = (s.data.toList.drop k).take (j - k) from wordL_at HALL.out hj1 hj2 HSTOP.out)
        have hll : (pWordL s.data.toList ⟨k, bad⟩).length = j - k := by rw [HWD.out, List.length_take, List.length_drop, ← size_list]; omega
        have HLL := Lib.hid hll
        clear hll
        go_wp2
        obtain ⟨C, HC0⟩ := class_of (InF wr.heap.size _ [(⟨g, 0, none⟩, .string s), (⟨g, 1, none⟩, .int .i64 (j : Nat)), (⟨g, 2, none⟩, .bool bad)] [] [])
        have HC := Lib.hid HC0
        clear HC0
        refine wp_region_flow (C := C) (by kernel_rfl) (by kernel_rfl) (fun L hL => (HC.out _ _).2 (InF.start (by first | (intro _ hs; cases hs; done) | (simp only [List.forall_mem_cons]; go_simp)) (by first | (intro _ hs; cases hs; done) | (simp only [List.forall_mem_cons]; go_simp)) (by first | (intro _ hs; cases hs; done) | (simp only [List.forall_mem_cons]; go_simp)) (by first | (intro _ hs; cases hs; done) | (simp only [List.forall_mem_cons]; go_simp)) L hL)) ?_
        repeat (first | ((first | apply flow_free rfl | (apply flow_yes; (case hw => go_simp))); (intro L w' hun hrd hC; have hC := (HC.out _ _).1 hC; have hb' := hC.below; (try have hw' : Below w.heap.size w w' := by first | exact Below.trans (by exact bel) hb' | (exact bel; done)); have hf' := hC.cell; (try simp only [List.forall_mem_cons] at hf'); go_simp; first | exact ⟨(HC.out _ _).2 (hC.skip _ (by rfl)), rfl⟩ | (rw [if_neg]; (exact ⟨(HC.out _ _).2 (hC.skip _ (by rfl)), rfl⟩); omega) | (go_at_call 128; refine ((same_below (isLower_any _ _))).mono ?_; rintro e w1 ⟨rfl, hb1⟩; exact ⟨rfl, (HC.out _ _).2 ((hC.next (by first | (simp; done) | (simp; omega) | omega) hb1).skip _ (by rfl))⟩) | (go_at_call 158; refine ((same_below (isUpper_any _ _))).mono ?_; rintro e w1 ⟨rfl, hb1⟩; exact ⟨rfl, (HC.out _ _).2 ((hC.next (by first | (simp; done) | (simp; omega) | omega) hb1).skip _ (by rfl))⟩) | (go_at_call 129; refine ((same_below (isDigit_any _ _))).mono ?_; rintro e w1 ⟨rfl, hb1⟩; exact ⟨rfl, (HC.out _ _).2 ((hC.next (by first | (simp; done) | (simp; omega) | omega) hb1).skip _ (by rfl))⟩)); go_simp) | (apply flow_no; (case hw => (go_simp; try (intro hh; cases hh))); (intro L w' _ _ hC; exact (HC.out _ _).2 (((HC.out _ _).1 hC).skip _ (by rfl))); go_simp))
        refine flow_nil ?_
        intro L wz hL hz
        have hz := (HC.out _ _).1 hz
        have hbz := hz.below
        have hcz := hz.cell
        try simp only [List.forall_mem_cons] at hcz
        have hdz := hz.done
        try simp only [List.forall_mem_cons] at hdz
        (try have hwz : Below w.heap.size w wz := by first | exact Below.trans (by exact bel) hbz | (exact bel; done))
        have hPz := HP.out.below hbz
        have HPZ := Lib.hid hPz
        have hbz0 := hbz
        have hgr1 := gr_below hgr hbz
        obtain ⟨z0, z1, z2, zf⟩ := hPz.cells
        simp only at z1 z2
        have hgz := bsz hPz.lt
        clear hPz
        cases bad
        · by_cases hkj : k = j
          · have hk1 : ((k : Int) == (j : Int)) = true := by simp; omega
            go_wp2
            go_ret
            exact ⟨_, rfl, by rw [pWord_empty (by rw [HLL.out]; omega)]; rfl, by rw [pWord_empty (by rw [HLL.out]; omega), HLL.out]; have := HPZ.out.fail; simpa [show k + (j - k) = j by omega] using this, gr_sc hgr1 (.inl rfl) _⟩
          · have hk1 : ((k : Int) == (j : Int)) = false := by simp; omega
            go_wp2
            obtain ⟨C, HC0⟩ := class_of (InF wz.heap.size _ [(⟨g, 0, none⟩, .string s), (⟨g, 1, none⟩, .int .i64 (j : Nat)), (⟨g, 2, none⟩, .bool false)] [] [])
            have HC := Lib.hid HC0
            clear HC0
            refine wp_region_flow (C := C) (by kernel_rfl) (by kernel_rfl) (fun L hL => (HC.out _ _).2 (InF.start (by first | (intro _ hs; cases hs; done) | (simp only [List.forall_mem_cons]; go_simp)) (by first | (intro _ hs; cases hs; done) | (simp only [List.forall_mem_cons]; go_simp)) (by first | (intro _ hs; cases hs; done) | (simp only [List.forall_mem_cons]; go_simp)) (by first | (intro _ hs; cases hs; done) | (simp only [List.forall_mem_cons]; go_simp)) L hL)) ?_
            repeat (first | ((first | apply flow_free rfl | (apply flow_yes; (case hw => go_simp))); (intro L w' hun hrd hC; have hC := (HC.out _ _).1 hC; have hb' := hC.below; (try have hw' : Below w.heap.size w w' := by first | exact Below.trans (by exact bel) hb' | (exact bel; done)); have hf' := hC.cell; (try simp only [List.forall_mem_cons] at hf'); go_simp; first | exact ⟨(HC.out _ _).2 (hC.skip _ (by rfl)), rfl⟩ | (rw [if_neg]; (exact ⟨(HC.out _ _).2 (hC.skip _ (by rfl)), rfl⟩); omega) | fail); go_simp) | (apply flow_no; (case hw => (go_simp; try (intro hh; cases hh))); (intro L w' _ _ hC; exact (HC.out _ _).2 (((HC.out _ _).1 hC).skip _ (by rfl))); go_simp))
            refine flow_nil ?_
            intro L wz hL hz
            have hz := (HC.out _ _).1 hz
            have hbz := hz.below
            have hcz := hz.cell
            try simp only [List.forall_mem_cons] at hcz
            have hdz := hz.done
            try simp only [List.forall_mem_cons] at hdz
            (try have hwz : Below w.heap.size w wz := by first | exact Below.trans (by exact bel) hbz | (exact bel; done))
            go_wp2
            go_ret
            exact ⟨_, rfl, by rw [pWord_some (by rw [HLL.out]; omega), HWD.out]; exact congrArg Value.string (str_eq (by rw [extract_list, List.drop_take])), by rw [pWord_some (by rw [HLL.out]; omega), HLL.out, show k + (j - k) = j by omega]; exact HPZ.out.below hbz, gr_below hgr1 hbz⟩
        · go_wp2
          go_ret
          exact ⟨_, rfl, by rw [pWord_bad]; rfl, by rw [pWord_bad, HLL.out]; have := HPZ.out.fail; simpa [show k + (j - k) = j by omega] using this, gr_sc hgr1 (.inl rfl) _⟩
    · have HSTOP := Lib.hid (show ∀ h : j < s.size, wordC s[j] = false from fun h => absurd h hlt)
      have hj3 : ¬ (j : Int) < s.size := by omega
      have HWD := Lib.hid (show pWordL s.data.toList ⟨k, bad⟩ = (s.data.toList.drop k).take (j - k) from wordL_at HALL.out hj1 hj2 HSTOP.out)
      have hll : (pWordL s.data.toList ⟨k, bad⟩).length = j - k := by rw [HWD.out, List.length_take, List.length_drop, ← size_list]; omega
      have HLL := Lib.hid hll
      clear hll
      go_wp2
      obtain ⟨C, HC0⟩ := class_of (InF wr.heap.size _ [(⟨g, 0, none⟩, .string s), (⟨g, 1, none⟩, .int .i64 (j : Nat)), (⟨g, 2, none⟩, .bool bad)] [] [])
      have HC := Lib.hid HC0
      clear HC0
      refine wp_region_flow (C := C) (by kernel_rfl) (by kernel_rfl) (fun L hL => (HC.out _ _).2 (InF.start (by first | (intro _ hs; cases hs; done) | (simp only [List.forall_mem_cons]; go_simp)) (by first | (intro _ hs; cases hs; done) | (simp only [List.forall_mem_cons]; go_simp)) (by first | (intro _ hs; cases hs; done) | (simp only [List.forall_mem_cons]; go_simp)) (by first | (intro _ hs; cases hs; done) | (simp only [List.forall_mem_cons]; go_simp)) L hL)) ?_
      repeat (first | ((first | apply flow_free rfl | (apply flow_yes; (case hw => go_simp))); (intro L w' hun hrd hC; have hC := (HC.out _ _).1 hC; have hb' := hC.below; (try have hw' : Below w.heap.size w w' := by first | exact Below.trans (by exact bel) hb' | (exact bel; done)); have hf' := hC.cell; (try simp only [List.forall_mem_cons] at hf'); go_simp; first | exact ⟨(HC.out _ _).2 (hC.skip _ (by rfl)), rfl⟩ | (rw [if_neg]; (exact ⟨(HC.out _ _).2 (hC.skip _ (by rfl)), rfl⟩); omega) | (go_at_call 128; refine ((same_below (isLower_any _ _))).mono ?_; rintro e w1 ⟨rfl, hb1⟩; exact ⟨rfl, (HC.out _ _).2 ((hC.next (by first | (simp; done) | (simp; omega) | omega) hb1).skip _ (by rfl))⟩) | (go_at_call 158; refine ((same_below (isUpper_any _ _))).mono ?_; rintro e w1 ⟨rfl, hb1⟩; exact ⟨rfl, (HC.out _ _).2 ((hC.next (by first | (simp; done) | (simp; omega) | omega) hb1).skip _ (by rfl))⟩) | (go_at_call 129; refine ((same_below (isDigit_any _ _))).mono ?_; rintro e w1 ⟨rfl, hb1⟩; exact ⟨rfl, (HC.out _ _).2 ((hC.next (by first | (simp; done) | (simp; omega) | omega) hb1).skip _ (by rfl))⟩)); go_simp) | (apply flow_no; (case hw => (go_simp; try (intro hh; cases hh))); (intro L w' _ _ hC; exact (HC.out _ _).2 (((HC.out _ _).1 hC).skip _ (by rfl))); go_simp))
      refine flow_nil ?_
      intro L wz hL hz
      have hz := (HC.out _ _).1 hz
      have hbz := hz.below
      have hcz := hz.cell
      try simp only [List.forall_mem_cons] at hcz
      have hdz := hz.done
      try simp only [List.forall_mem_cons] at hdz
      (try have hwz : Below w.heap.size w wz := by first | exact Below.trans (by exact bel) hbz | (exact bel; done))
      have hPz := HP.out.below hbz
      have HPZ := Lib.hid hPz
      have hbz0 := hbz
      have hgr1 := gr_below hgr hbz
      obtain ⟨z0, z1, z2, zf⟩ := hPz.cells
      simp only at z1 z2
      have hgz := bsz hPz.lt
      clear hPz
      cases bad
      · by_cases hkj : k = j
        · have hk1 : ((k : Int) == (j : Int)) = true := by simp; omega
          go_wp2
          go_ret
          exact ⟨_, rfl, by rw [pWord_empty (by rw [HLL.out]; omega)]; rfl, by rw [pWord_empty (by rw [HLL.out]; omega), HLL.out]; have := HPZ.out.fail; simpa [show k + (j - k) = j by omega] using this, gr_sc hgr1 (.inl rfl) _⟩
        · have hk1 : ((k : Int) == (j : Int)) = false := by simp; omega
          go_wp2
          obtain ⟨C, HC0⟩ := class_of (InF wz.heap.size _ [(⟨g, 0, none⟩, .string s), (⟨g, 1, none⟩, .int .i64 (j : Nat)), (⟨g, 2, none⟩, .bool false)] [] [])
          have HC := Lib.hid HC0
          clear HC0
          refine wp_region_flow (C := C) (by kernel_rfl) (by kernel_rfl) (fun L hL => (HC.out _ _).2 (InF.start (by first | (intro _ hs; cases hs; done) | (simp only [List.forall_mem_cons]; go_simp)) (by first | (intro _ hs; cases hs; done) | (simp only [List.forall_mem_cons]; go_simp)) (by first | (intro _ hs; cases hs; done) | (simp only [List.forall_mem_cons]; go_simp)) (by first | (intro _ hs; cases hs; done) | (simp only [List.forall_mem_cons]; go_simp)) L hL)) ?_
          repeat (first | ((first | apply flow_free rfl | (apply flow_yes; (case hw => go_simp))); (intro L w' hun hrd hC; have hC := (HC.out _ _).1 hC; have hb' := hC.below; (try have hw' : Below w.heap.size w w' := by first | exact Below.trans (by exact bel) hb' | (exact bel; done)); have hf' := hC.cell; (try simp only [List.forall_mem_cons] at hf'); go_simp; first | exact ⟨(HC.out _ _).2 (hC.skip _ (by rfl)), rfl⟩ | (rw [if_neg]; (exact ⟨(HC.out _ _).2 (hC.skip _ (by rfl)), rfl⟩); omega) | fail); go_simp) | (apply flow_no; (case hw => (go_simp; try (intro hh; cases hh))); (intro L w' _ _ hC; exact (HC.out _ _).2 (((HC.out _ _).1 hC).skip _ (by rfl))); go_simp))
          refine flow_nil ?_
          intro L wz hL hz
          have hz := (HC.out _ _).1 hz
          have hbz := hz.below
          have hcz := hz.cell
          try simp only [List.forall_mem_cons] at hcz
          have hdz := hz.done
          try simp only [List.forall_mem_cons] at hdz
          (try have hwz : Below w.heap.size w wz := by first | exact Below.trans (by exact bel) hbz | (exact bel; done))
          go_wp2
          go_ret
          exact ⟨_, rfl, by rw [pWord_some (by rw [HLL.out]; omega), HWD.out]; exact congrArg Value.string (str_eq (by rw [extract_list, List.drop_take])), by rw [pWord_some (by rw [HLL.out]; omega), HLL.out, show k + (j - k) = j by omega]; exact HPZ.out.below hbz, gr_below hgr1 hbz⟩
      · go_wp2
        go_ret
        exact ⟨_, rfl, by rw [pWord_bad]; rfl, by rw [pWord_bad, HLL.out]; have := HPZ.out.fail; simpa [show k + (j - k) = j by omega] using this, gr_sc hgr1 (.inl rfl) _⟩
end Go.Proofs.YtkgfanajgdelcaaGreatDoor
namespace Go.Proofs.YtkgfanajgdelcaaGreatDoor
open Go.RowKit
def TermC (f : Nat) : Prop := ∀ (g : Nat) (s : ByteArray) (p : PSt) (w : World), PAt 190 w g s p → p.pos ≤ s.size → s.size ≤ 1000000 → s.size - p.pos < f →
    Calls Tryz.prog 260 #[.pointer (some ⟨g, 0, none⟩)] w fun e w' => ∃ x, e = .returned x ∧ TermP 41 g w.heap.size s f (pTerm s.data.toList f p).1 (pTerm s.data.toList f p).2 190 w x w'
/-- Between two arguments: what is still to come, added to what is there, makes the whole. -/
def ArgRel (ro : Obj) (w : World) (g rb bt : Nat) (s : ByteArray) (n : List UInt8) (sep : List UInt8) (f : Nat) (all : List Tm) (pe : PSt) (wr : World) : Prop :=
  ∃ (f' : Nat) (p' : PSt) (v : Value) (xs : List Tm), TSt 41 190 ro w g rb bt s n p' v xs f wr ∧ f' ≤ f ∧ xs ++ (pArgs s.data.toList sep f' p').1 = all ∧ (pArgs s.data.toList sep f' p').2 = pe ∧ s.size - p'.pos < f' ∧ p'.pos ≤ s.size ∧ xs.length ≤ p'.pos
set_option maxRecDepth 100000 in
set_option maxHeartbeats 3200000 in
theorem term_any : ∀ f : Nat, TermC f := by
  intro f
  induction f using Nat.strongRecOn with
  | _ f0 ih =>
    intro g s p w h hp hs hf
    obtain ⟨f, rfl⟩ : ∃ f, f0 = f + 1 := ⟨f0 - 1, by omega⟩
    have IH := Lib.hid ih
    have H := Lib.hid h
    have hg := bsz h.lt
    clear h ih
    go_enter Tryz.func260, Tryz.ntmps260
    go_wp2_with fail
    refine (word_any g s p _ (H.out.below (by exact bel)) hp (by omega)).mono ?_
    rintro e w1 ⟨v, rfl, rfl, h1, hg1⟩
    have ⟨c1, f1⟩ := gcell hg1
    have hz1 := hg1.size
    (try simp at hz1)
    have hw1 := pWord_pos s.data.toList p hp
    have HD := Lib.hid (show pTerm s.data.toList (f + 1) p = _ from rfl)
    rw [← size_list] at hw1
    have hwn := pWord_len s.data.toList p
    rw [← size_list] at hwn
    generalize hpw : pWord s.data.toList p = q at *
    obtain ⟨n, p1⟩ := q
    have HPW := Lib.hid hpw
    have H1 := Lib.hid h1
    clear hpw h1
    simp only at hw1 H1 hwn
    cases hT : pTake s.data.toList [40] p1
    · have HT := Lib.hid hT
      have HFIN := Lib.hid (show pTerm s.data.toList (f + 1) p = (.mk ⟨n.toArray⟩ [], p1) by rw [pTerm, HPW.out, hT]; rfl)
      go_wp2_with fail
      refine (take_any g s ⟨#[40]⟩ p1 _ (H1.out.below (by exact bel)) hw1.2 (by omega) (by decide)).mono ?_
      rw [show (⟨#[40]⟩ : ByteArray).data.toList = [40] from rfl, HT.out]
      rintro e w2 ⟨v, rfl, rfl, h2, hg2⟩
      have HTS : Hid (TSt 41 190 (.cells #[.string ⟨#[]⟩, .slice none 0 0] 41 (0, 0)) w g w.heap.size w1.heap.size s n p1 (.slice none 0 0) [] f w2) := Lib.hid (TSt.init (by omega) hg1 hg2 h2)
      clear h2 hg2
      obtain ⟨b0, b1, -⟩ := cells2_cell HTS.out.cell
      obtain ⟨r0, r1, rf⟩ := cells2_cell HTS.out.res
      go_wp2
      refine bodyPost_ret (v := .agg #[.string ⟨n.toArray⟩, .slice none 0 0]) (by simp only [results, Tryz.results260]; go_simp) rfl ⟨_, rfl, ?_⟩
      rw [HFIN.out]
      exact HTS.out.done (by omega) _ _
    · have HT := Lib.hid hT
      have hle := pTake_le hT (by rw [← size_list]; exact hw1.2)
      go_wp2_with fail
      refine (take_any g s ⟨#[40]⟩ p1 _ (H1.out.below (by exact bel)) hw1.2 (by omega) (by decide)).mono ?_
      rw [show (⟨#[40]⟩ : ByteArray).data.toList = [40] from rfl, HT.out]
      rintro e w2 ⟨v, rfl, rfl, h2, hg2⟩
      have ⟨c2, f2⟩ := gcell hg2
      have hz2 := hg2.size
      (try simp at hz2)
      have HTS : Hid (TSt 41 190 (.cells #[.string ⟨#[]⟩, .slice none 0 0] 41 (0, 0)) w g w.heap.size w1.heap.size s n (pAdv [40] p1) (.slice none 0 0) [] f w2) := Lib.hid (TSt.init (by omega) hg1 hg2 h2)
      have HBT := Lib.hid (show w2.cell? ⟨w1.heap.size, 1, none⟩ = some (.slice none 0 0) by rw [cell_of_row w2 _ 1 _ _ (0, 0) HTS.out.cell]; rfl)
      have HNE := Lib.hid (show w1.heap.size ≠ g by have := HTS.out.lt; omega)
      go_wp2
      obtain ⟨tq, htq⟩ : ∃ tq, (pTerm s.data.toList f (pAdv [40] p1)).1 = tq := ⟨_, rfl⟩
      obtain ⟨pq, hpq⟩ : ∃ pq, (pTerm s.data.toList f (pAdv [40] p1)).2 = pq := ⟨_, rfl⟩
      have HTQ := Lib.hid htq
      have HPQ := Lib.hid hpq
      have HRD := Lib.hid (show (pAdv [40] p1).pos ≤ s.size ∧ s.size - (pAdv [40] p1).pos < f by simp only [pAdv, List.length_cons, List.length_nil]; rw [← size_list] at hle; simp only [List.length_cons, List.length_nil] at hle; omega)
      have HLEN := Lib.hid (show ([] : List Tm).length + 1 ≤ 1000000 by decide)
      have HFIN := Lib.hid (show pTerm s.data.toList (f + 1) p = (.mk ⟨n.toArray⟩ (tq :: (pArgs s.data.toList [44] f pq).1), pMust s.data.toList [41] (pArgs s.data.toList [44] f pq).2) by rw [pTerm, HPW.out, if_pos HT.out, htq, hpq])
      clear htq hpq
      obtain ⟨CP, hCP0⟩ : ∃ CP : Value → World → Prop, CP = TermP 41 g w2.heap.size s f tq pq 190 w2.drew := ⟨_, rfl⟩
      have HCP := Lib.hid hCP0
      have HGR := Lib.hid (show ∀ x w', CP x w' → w2.grownBy w' (some g) from by
        rw [hCP0]; rintro x w' ⟨_, _, _, _, _, hG⟩; exact ⟨hG.os, hG.tape, hG.output, hG.size, hG.block⟩)
      have HAGG := Lib.hid (show ∀ x w', CP x w' → ∃ v0 v1, x = .agg #[v0, v1] ∧ v0.oneCell' = true ∧ v1.oneCell' = true from by
        rw [hCP0]; rintro x w' ⟨v0, v1, hx, hO, _, _⟩
        obtain ⟨pp, cc, rfl, rfl, -⟩ := hO.form
        exact ⟨_, _, hx, rfl, rfl⟩)
      clear hCP0
      refine wp_region_stages [some (.pointer (some ⟨w1.heap.size, 1, none⟩)), some (.slice none 0 0), some (.pointer (some ⟨g, 0, none⟩)), none, none, none, some (.pointer (some ⟨w1.heap.size, 1, none⟩)), none] [3, 4, 5, 7] (AppSt 41 g w1.heap.size CP (.slice none 0 0) 0 w2 3 4 5) (by kernel_rfl) (by kernel_rfl) (by first | kernel_rfl | rfl) (by rfl) rfl ?_
      refine chain_st rfl rfl (by decide) rfl (by intro j u w' hS; go_simp; first | done | exact ⟨hS, rfl⟩ | exact hS | rfl) ?_
      go_simp
      refine chain_stb (c := 5) 2 rfl rfl (by decide) rfl rfl rfl (by first | kernel_rfl | rfl) ?_ ?_
      · intro j u w' hj hS
        have hc := AppSt.cell HGR.out HBT.out HNE.out hj hS
        go_simp
        first | done | exact ⟨hS, rfl⟩ | exact hS | rfl
      go_simp
      refine chain_st rfl rfl (by decide) rfl (by intro j u w' hS; go_simp; first | done | exact ⟨hS, rfl⟩ | exact hS | rfl) ?_
      go_simp
      refine chain_first rfl rfl rfl (by decide) rfl ?_ ?_
      · intro w' hS
        obtain rfl : w' = w2.drew := hS
        go_simp
        refine (IH.out f (by omega) g s _ _ (PAt.below HTS.out.at_ (by exact bel)) HRD.out.1 hs HRD.out.2).mono ?_
        rintro e w'' ⟨x, he, hx⟩
        rw [HTQ.out, HPQ.out] at hx
        exact ⟨x, he, by show CP (upd _ 3 x 3) w''; rw [upd_same, HCP.out]; exact hx.mono (by omega)⟩
      intro x
      go_simp
      refine chain_next 0 rfl rfl rfl rfl (by decide) rfl (by first | kernel_rfl | rfl) ?_ ?_
      · intro w' hS
        have hS : CP (upd _ 3 x 3) w' := hS
        rw [upd_same] at hS
        obtain ⟨v0, v1, rfl, o0, o1⟩ := HAGG.out _ _ hS
        go_simp
        exact ⟨w', v0, v1, hS, by rw [upd_same], rfl⟩
      intro y
      go_simp
      refine chain_next 1 rfl rfl rfl rfl (by decide) rfl (by first | kernel_rfl | rfl) ?_ ?_
      · intro w' hS
        obtain ⟨w1', v0, v1, hcp, hy, rfl⟩ := hS
        rw [upd_same] at hy
        subst hy
        obtain ⟨v0', v1', he, o0, o1⟩ := HAGG.out _ _ hcp
        simp only [Value.agg.injEq, Array.mk.injEq, List.cons.injEq, and_true] at he
        obtain ⟨rfl, rfl⟩ := he
        have hG1 := HGR.out _ _ hcp
        obtain ⟨hm, vals, Ss, r1, r2, r3, r4⟩ := HTS.out.row
        have hlt := HTS.out.lt
        have hlen := HLEN.out
        refine each_app1 (.tmp 10) (.tmp 13) _ rfl 0 41 2 40 elemTmI (.slice none 0 0) _ vals rfl w1' #[v0, v1] rfl rfl (own_same r1 fun b hb hl => hG1.block b hl (by have := r2 b hb; simp; omega)) rfl (by intro u hu; simp at hu; rcases hu with rfl | rfl <;> assumption) (by omega) (by unfold maxLen; omega) (Nat.zero_le _) ?_
        intro v' w3 happ hg3 hnr hsz
        exact ⟨w1', v0, v1, hcp, by rw [upd_same]; exact happ, hg3, by rw [upd_same]; exact hnr, hsz⟩
      intro z
      go_simp
      refine chain_st rfl rfl (by decide) rfl (by intro j u w' hS; go_simp; first | done | exact ⟨hS, rfl⟩ | exact hS | rfl) ?_
      go_simp
      refine chain_next 2 rfl rfl rfl rfl (by decide) rfl (by first | kernel_rfl | rfl) ?_ ?_
      · intro w' hS
        obtain ⟨w1', v0, v1, hcp, happ, hg3, hnr, hsz⟩ := hS
        rw [upd_same] at happ hnr
        obtain ⟨⟨q', c', rfl⟩, hbt⟩ := HTS.out.three HGR.out hcp happ hg3
        have hcell : w'.cell? ⟨w1.heap.size, 1, none⟩ = some (.slice none 0 0) := by rw [cell_of_row w' _ 1 _ _ (0, 0) hbt]; rfl
        have hfro : w'.frozen? ⟨w1.heap.size, 1, none⟩ = false := frozen_of_row w' _ 1 _ _ hbt
        clear hbt
        go_simp
        refine ⟨w1', w', v0, v1, hcp, ?_, hg3, ?_, hsz, ?_⟩
        · rw [upd_other _ _ (by decide), upd_same]; exact happ
        · rw [upd_other _ _ (by decide), upd_same]; exact hnr
        · rw [upd_other _ _ (by decide), upd_same]
      intro x'
      refine flowU_nil ?_
      intro wz hz
      have HZ := Lib.hid (HTS.out.app (by have := hz; rw [HCP.out] at this; exact this) HLEN.out)
      rw [upd_other _ _ (by decide), upd_same] at HZ
      clear hz
      go_simp
      have hpp := pTerm_pos s.data.toList f (pAdv [40] p1) (by rw [← size_list]; exact HRD.out.1)
      rw [HPQ.out, ← size_list] at hpp
      simp only [pAdv, List.length_cons, List.length_nil] at hpp
      have HPP := Lib.hid hpp
      have HRD' := HRD.out
      simp only [pAdv, List.length_cons, List.length_nil] at HRD'
      have HRDX := Lib.hid HRD'
      clear hpp HRD'
      go_wp2
      go_loopw [] (ArgRel (.cells #[.string ⟨#[]⟩, .slice none 0 0] 41 (0, 0)) w g w.heap.size w1.heap.size s n [44] f (tq :: (pArgs s.data.toList [44] f pq).1) (pArgs s.data.toList [44] f pq).2) (fun wr => s.size - posOf wr g)
      case atStart => exact ⟨f, pq, z, [tq], by simpa using HZ.out, Nat.le_refl _, rfl, rfl, by have := HPP.out; have := HRDX.out; omega, HPP.out.2, by have := HPP.out; simp; omega⟩
      case round =>
        obtain ⟨f', p', v, xs, hts, hff, hal, hpe, hfu, hpl, hxl⟩ := hrel
        have HTS0 := Lib.hid hts
        have HAL := Lib.hid (And.intro hal hpe)
        have HPO := hts.at_.posOf
        clear hts hal hpe HTS HBT HNE HTQ HPQ HRD HLEN HZ
        obtain ⟨f'', rfl⟩ : ∃ q, f' = q + 1 := ⟨f' - 1, by omega⟩
        have hg' := bsz HTS0.out.at_.lt
        cases hT2 : pTake s.data.toList [44] p'
        · have HEND := Lib.hid (show pArgs s.data.toList [44] (f'' + 1) p' = ([], p') by rw [pArgs, hT2]; rfl)
          have HT2 := Lib.hid hT2
          go_wp2_with fail
          refine (take_any g s ⟨#[44]⟩ p' _ (PAt.below HTS0.out.at_ (by exact bel)) hpl (by omega) (by decide)).mono ?_
          rw [show (⟨#[44]⟩ : ByteArray).data.toList = [44] from rfl, HT2.out]
          rintro e w3 ⟨_, rfl, rfl, h3, hg3⟩
          have HTS1 := Lib.hid (HTS0.out.reader (p' := p') h3 hg3)
          clear h3 hg3
          go_wp2_with fail
          refine (must_any g s ⟨#[41]⟩ p' _ (PAt.below HTS1.out.at_ (by exact bel)) hpl (by omega) (by decide)).mono ?_
          rw [show (⟨#[41]⟩ : ByteArray).data.toList = [41] from rfl]
          rintro e w4 ⟨_, rfl, rfl, h4, hg4⟩
          have HTS2 := Lib.hid (HTS1.out.reader h4 hg4)
          clear h4 hg4
          obtain ⟨pv, cv, hvv, -⟩ := HTS2.out.row.form
          subst hvv
          obtain ⟨b0, b1, -⟩ := cells2_cell HTS2.out.cell
          obtain ⟨r0, r1, rf⟩ := cells2_cell HTS2.out.res
          go_wp2
          have hal := HAL.out
          rw [HEND.out, List.append_nil] at hal
          refine bodyPost_ret (v := .agg #[.string ⟨n.toArray⟩, .slice pv xs.length cv]) (by simp only [results, Tryz.results260]; go_simp) rfl ⟨_, rfl, ?_⟩
          rw [HFIN.out, ← hal.1, ← hal.2]
          exact HTS2.out.done (by omega) _ _
        · have HT2 := Lib.hid hT2
          have hle2 := pTake_le hT2 (by rw [← size_list]; exact hpl)
          rw [← size_list] at hle2
          simp only [List.length_cons, List.length_nil] at hle2
          go_wp2_with fail
          refine (take_any g s ⟨#[44]⟩ p' _ (PAt.below HTS0.out.at_ (by exact bel)) hpl (by omega) (by decide)).mono ?_
          rw [show (⟨#[44]⟩ : ByteArray).data.toList = [44] from rfl, HT2.out]
          rintro e w3 ⟨_, rfl, rfl, h3, hg3⟩
          have HTS := Lib.hid (HTS0.out.reader (p' := pAdv [44] p') h3 hg3)
          clear h3 hg3
          have HBT := Lib.hid (show w3.cell? ⟨w1.heap.size, 1, none⟩ = some v from (cells2_cell HTS.out.cell).2.1)
          have HNE := Lib.hid (show w1.heap.size ≠ g by have := HTS.out.lt; omega)
          go_wp2
          obtain ⟨tq, htq⟩ : ∃ tq, (pTerm s.data.toList f'' (pAdv [44] p')).1 = tq := ⟨_, rfl⟩
          obtain ⟨pq, hpq⟩ : ∃ pq, (pTerm s.data.toList f'' (pAdv [44] p')).2 = pq := ⟨_, rfl⟩
          have HTQ := Lib.hid htq
          have HPQ := Lib.hid hpq
          have HRD := Lib.hid (show (pAdv [44] p').pos ≤ s.size ∧ s.size - (pAdv [44] p').pos < f'' by simp only [pAdv, List.length_cons, List.length_nil]; omega)
          have HLEN := Lib.hid (show xs.length + 1 ≤ 1000000 by omega)
          have HSTEP := Lib.hid (show pArgs s.data.toList [44] (f'' + 1) p' = (tq :: (pArgs s.data.toList [44] f'' pq).1, (pArgs s.data.toList [44] f'' pq).2) by rw [pArgs, if_pos HT2.out, htq, hpq])
          clear htq hpq
          obtain ⟨CP, hCP0⟩ : ∃ CP : Value → World → Prop, CP = TermP 41 g w3.heap.size s f tq pq 190 w3.drew := ⟨_, rfl⟩
          have HCP := Lib.hid hCP0
          have HGR := Lib.hid (show ∀ x w', CP x w' → w3.grownBy w' (some g) from by
            rw [hCP0]; rintro x w' ⟨_, _, _, _, _, hG⟩; exact ⟨hG.os, hG.tape, hG.output, hG.size, hG.block⟩)
          have HAGG := Lib.hid (show ∀ x w', CP x w' → ∃ v0 v1, x = .agg #[v0, v1] ∧ v0.oneCell' = true ∧ v1.oneCell' = true from by
            rw [hCP0]; rintro x w' ⟨v0, v1, hx, hO, _, _⟩
            obtain ⟨pp, cc, rfl, rfl, -⟩ := hO.form
            exact ⟨_, _, hx, rfl, rfl⟩)
          clear hCP0
          refine wp_region_stages [some (.pointer (some ⟨w1.heap.size, 1, none⟩)), some v, some (.pointer (some ⟨g, 0, none⟩)), none, none, none, some (.pointer (some ⟨w1.heap.size, 1, none⟩)), none] [3, 4, 5, 7] (AppSt 41 g w1.heap.size CP v xs.length w3 3 4 5) (by kernel_rfl) (by kernel_rfl) (by first | kernel_rfl | rfl) (by rfl) rfl ?_
          refine chain_st rfl rfl (by decide) rfl (by intro j u w' hS; go_simp; first | done | exact ⟨hS, rfl⟩ | exact hS | rfl) ?_
          go_simp
          refine chain_stb (c := 5) 2 rfl rfl (by decide) rfl rfl rfl (by first | kernel_rfl | rfl) ?_ ?_
          · intro j u w' hj hS
            have hc := AppSt.cell HGR.out HBT.out HNE.out hj hS
            go_simp
            first | done | exact ⟨hS, rfl⟩ | exact hS | rfl
          go_simp
          refine chain_st rfl rfl (by decide) rfl (by intro j u w' hS; go_simp; first | done | exact ⟨hS, rfl⟩ | exact hS | rfl) ?_
          go_simp
          refine chain_first rfl rfl rfl (by decide) rfl ?_ ?_
          · intro w' hS
            obtain rfl : w' = w3.drew := hS
            go_simp
            refine (IH.out f'' (by omega) g s _ _ (PAt.below HTS.out.at_ (by exact bel)) HRD.out.1 hs HRD.out.2).mono ?_
            rintro e w'' ⟨x, he, hx⟩
            rw [HTQ.out, HPQ.out] at hx
            exact ⟨x, he, by show CP (upd _ 3 x 3) w''; rw [upd_same, HCP.out]; exact hx.mono (by omega)⟩
          intro x
          go_simp
          refine chain_next 0 rfl rfl rfl rfl (by decide) rfl (by first | kernel_rfl | rfl) ?_ ?_
          · intro w' hS
            have hS : CP (upd _ 3 x 3) w' := hS
            rw [upd_same] at hS
            obtain ⟨v0, v1, rfl, o0, o1⟩ := HAGG.out _ _ hS
            go_simp
            exact ⟨w', v0, v1, hS, by rw [upd_same], rfl⟩
          intro y
          go_simp
          refine chain_next 1 rfl rfl rfl rfl (by decide) rfl (by first | kernel_rfl | rfl) ?_ ?_
          · intro w' hS
            obtain ⟨w1', v0, v1, hcp, hy, rfl⟩ := hS
            rw [upd_same] at hy
            subst hy
            obtain ⟨v0', v1', he, o0, o1⟩ := HAGG.out _ _ hcp
            simp only [Value.agg.injEq, Array.mk.injEq, List.cons.injEq, and_true] at he
            obtain ⟨rfl, rfl⟩ := he
            have hG1 := HGR.out _ _ hcp
            obtain ⟨hm, vals, Ss, r1, r2, r3, r4⟩ := HTS.out.row
            have hlt := HTS.out.lt
            have hlen := HLEN.out
            refine each_app1 (.tmp 19) (.tmp 22) _ rfl 0 41 2 40 elemTmI v _ vals rfl w1' #[v0, v1] rfl rfl (own_same r1 fun b hb hl => hG1.block b hl (by have := r2 b hb; simp; omega)) rfl (by intro u hu; simp at hu; rcases hu with rfl | rfl <;> assumption) (by omega) (by unfold maxLen; omega) (Nat.zero_le _) ?_
            intro v' w3 happ hg3 hnr hsz
            exact ⟨w1', v0, v1, hcp, by rw [upd_same]; exact happ, hg3, by rw [upd_same]; exact hnr, hsz⟩
          intro z
          go_simp
          refine chain_st rfl rfl (by decide) rfl (by intro j u w' hS; go_simp; first | done | exact ⟨hS, rfl⟩ | exact hS | rfl) ?_
          go_simp
          refine chain_next 2 rfl rfl rfl rfl (by decide) rfl (by first | kernel_rfl | rfl) ?_ ?_
          · intro w' hS
            obtain ⟨w1', v0, v1, hcp, happ, hg3, hnr, hsz⟩ := hS
            rw [upd_same] at happ hnr
            obtain ⟨⟨q', c', rfl⟩, hbt⟩ := HTS.out.three HGR.out hcp happ hg3
            have hcell : w'.cell? ⟨w1.heap.size, 1, none⟩ = some v := by rw [cell_of_row w' _ 1 _ _ (0, 0) hbt]; rfl
            have hfro : w'.frozen? ⟨w1.heap.size, 1, none⟩ = false := frozen_of_row w' _ 1 _ _ hbt
            clear hbt
            go_simp
            refine ⟨w1', w', v0, v1, hcp, ?_, hg3, ?_, hsz, ?_⟩
            · rw [upd_other _ _ (by decide), upd_same]; exact happ
            · rw [upd_other _ _ (by decide), upd_same]; exact hnr
            · rw [upd_other _ _ (by decide), upd_same]
          intro x'
          refine flowU_nil ?_
          intro wz hz
          have HZ := Lib.hid (HTS.out.app (by have := hz; rw [HCP.out] at this; exact this) HLEN.out)
          rw [upd_other _ _ (by decide), upd_same] at HZ
          clear hz
          go_simp
          go_wp2
          have hpp := pTerm_pos s.data.toList f'' (pAdv [44] p') (by rw [← size_list]; exact HRD.out.1)
          rw [HPQ.out, ← size_list] at hpp
          simp only [pAdv, List.length_cons, List.length_nil] at hpp
          have hal := HAL.out
          rw [HSTEP.out] at hal
          refine ⟨⟨f'', pq, z, xs ++ [tq], HZ.out, by omega, by rw [← hal.1]; simp, hal.2, by omega, hpp.2, by simp; omega⟩, ?_⟩
          rw [HZ.out.at_.posOf, HPO]
          omega
end Go.Proofs.YtkgfanajgdelcaaGreatDoor
namespace Go.Proofs.YtkgfanajgdelcaaGreatDoor
open Go.RowKit
/-- What a call of the reader leaves: a formula in new memory, its value x. -/
def FmP (m g : Nat) (s : ByteArray) (F : Fm) (p' : PSt) (w : World) (x : Value) (w' : World) : Prop := FmV m (NewB w w') w' F x ∧ PAt 190 w' g s p' ∧ w.grownBy w' (some g)
theorem TSt.initT {T TP : TypeId} {ro : Obj} {w w1 w2 : World} {g : Nat} {s : ByteArray} {p : PSt} {f : Nat} {t : Tm} {pp : Option Addr} {cc : Nat} (hg : g < w.heap.size) (hO : TmOwn T f (fun b => w.heap.size + 1 ≤ b ∧ b < w1.heap.size) w1 t [.string t.n, .slice pp t.us.length cc])
    (hg1 : (w.alloc ro).grownBy w1 (some g)) (hg2 : (w1.alloc (.cells #[.string t.n, .slice pp t.us.length cc] T)).grownBy w2 (some g)) (hP : PAt TP w2 g s p) :
    TSt T TP ro w g w.heap.size w1.heap.size s t.n.data.toList p (.slice pp t.us.length cc) t.us f w2 := by
  have h1 := hg1.size
  have h2 := hg2.size
  simp at h1 h2
  have ha := gr_trans (gr_al (gr_refl w g) _) hg1
  have hk : ∀ b, b < w1.heap.size → b ≠ g → w2.heap[b]? = w1.heap[b]? := fun b hb hne => (hg2.block b (by simp; omega) (by simp; omega)).trans (hao w1 _ _ hb)
  obtain ⟨f', rfl⟩ : ∃ f', f = f' + 1 := by
    cases f with
    | zero => exact hO.elim
    | succ f' => exact ⟨f', rfl⟩
  obtain ⟨n, us⟩ := t
  obtain ⟨va, he, hn, hrow⟩ := hO
  simp only [List.cons.injEq, and_true] at he
  obtain ⟨-, rfl⟩ := he
  refine ⟨hP, ?_, ?_, ?_, gr_trans (gr_al ha _) hg2, hg, Nat.le_refl _, by omega, by omega⟩
  · rw [ba_eq]
    exact (hg2.block w1.heap.size (by simp) (by simp; omega)).trans (heap_alloc_new w1 _)
  · exact (hk w.heap.size (by omega) (by omega)).trans ((hg1.block w.heap.size (by simp) (by simp; omega)).trans (heap_alloc_new w _))
  · exact hrow.mono (fun b hb _ => hk b hb.2 (by omega)) (fun b hb => by omega) (fun S x c _ hS hx => TmOwn.mono f' (f' + 1) x c (by omega) (fun b hb _ => hk b (hS b hb).2 (by have := hS b hb; omega)) (fun _ h => h) hx)
theorem TSt.term {T TP : TypeId} {ro : Obj} {w W : World} {g rb bt : Nat} {s : ByteArray} {n : List UInt8} {p : PSt} {v : Value} {xs : List Tm} {f : Nat} (h : TSt T TP ro w g rb bt s n p v xs f W) (hn : n.length ≤ 1000000) :
    TmOwn T (f + 1) (fun b => rb < b ∧ b ≠ bt ∧ b < W.heap.size) W (.mk ⟨n.toArray⟩ xs) [.string ⟨n.toArray⟩, v] := ⟨_, rfl, by show n.toArray.size ≤ _; unfold maxLen; simp; omega, h.row⟩
theorem cells5_cell {w : World} {g : Nat} {x0 x1 x2 x3 x4 : Value} {t : TypeId} (h : w.heap[g]? = some (.cells #[x0, x1, x2, x3, x4] t (0, 0))) : w.cell? ⟨g, 0, none⟩ = some x0 ∧ w.cell? ⟨g, 1, none⟩ = some x1 ∧ w.cell? ⟨g, 2, none⟩ = some x2 ∧ w.cell? ⟨g, 3, none⟩ = some x3 ∧ w.cell? ⟨g, 4, none⟩ = some x4 ∧ (∀ j, w.frozen? ⟨g, j, none⟩ = false) := by
  refine ⟨?_, ?_, ?_, ?_, ?_, fun j => frozen_of_row w g j _ _ h⟩
  · rw [cell_of_row w g 0 _ _ (0, 0) h]; rfl
  · rw [cell_of_row w g 1 _ _ (0, 0) h]; rfl
  · rw [cell_of_row w g 2 _ _ (0, 0) h]; rfl
  · rw [cell_of_row w g 3 _ _ (0, 0) h]; rfl
  · rw [cell_of_row w g 4 _ _ (0, 0) h]; rfl
theorem FmP.of {m g rb : Nat} {s : ByteArray} {F : Fm} {p' : PSt} {w w4 w5 : World} {S : Nat → Prop} {x : Value} (hP : PAt 190 w4 g s p') (hG : w.grownBy w4 (some g)) (hb : Below w4.heap.size w4 w5) (hV : FmV m S w5 F x) (hS : ∀ b, S b → rb < b ∧ b < w5.heap.size) (hrb : w.heap.size ≤ rb) (hg : g < rb) (a0 a1 a2 a3 a4 : Value) :
    FmP m g s F p' w x (((((w5.setCell ⟨rb, 0, none⟩ a0).setCell ⟨rb, 1, none⟩ a1).setCell ⟨rb, 2, none⟩ a2).setCell ⟨rb, 3, none⟩ a3).setCell ⟨rb, 4, none⟩ a4) := by
  have hk : ∀ b, b ≠ rb → (((((w5.setCell ⟨rb, 0, none⟩ a0).setCell ⟨rb, 1, none⟩ a1).setCell ⟨rb, 2, none⟩ a2).setCell ⟨rb, 3, none⟩ a3).setCell ⟨rb, 4, none⟩ a4).heap[b]? = w5.heap[b]? := fun b hb => by
    repeat rw [heap_setCell_other _ _ _ _ (fun e => hb e)]
  obtain ⟨v0, v1, v2, v3, v4, rfl, hO⟩ := hV
  refine ⟨⟨_, _, _, _, _, rfl, FmOwn.mono _ _ _ _ (Nat.le_refl _) (fun b hb' _ => hk b (by have := hS b hb'; omega)) (fun b hb' => ?_) hO⟩, (hk g (by omega)).trans (hP.below hb), ?_⟩
  · have := hS b hb'
    exact ⟨by omega, by simpa using this.2⟩
  · exact gr_sc (gr_sc (gr_sc (gr_sc (gr_sc (gr_below hG hb) (.inr hrb) _) (.inr hrb) _) (.inr hrb) _) (.inr hrb) _) (.inr hrb) _
end Go.Proofs.YtkgfanajgdelcaaGreatDoor
namespace Go.Proofs.YtkgfanajgdelcaaGreatDoor
open Go.RowKit
/-- The result's block waits; nothing older has been touched. -/
structure BSt (w W : World) : Prop where
  bel : Below w.heap.size w W
  res : W.heap[w.heap.size]? = some (.cells #[.int .i64 0, .string ⟨#[]⟩, .slice none 0 0, .string ⟨#[]⟩, .slice none 0 0] 44 (0, 0))
theorem BSt.start (w : World) : BSt w (w.alloc (.cells #[.int .i64 0, .string ⟨#[]⟩, .slice none 0 0, .string ⟨#[]⟩, .slice none 0 0] 44)) := ⟨(Below.refl _ _).alloc (Nat.le_refl _) _, heap_alloc_new w _⟩
theorem BSt.later {w W W' : World} (h : BSt w W) (hb : Below W.heap.size W W') : BSt w W' := ⟨h.bel.trans (hb.mono h.bel.size), (hb.block _ (heap_lt h.res)).trans h.res⟩
/-- What the reference's parser of formulas answers. -/
def GotFm (f : Nat) (r : Option (Fm × Nat)) (w : World) (x : Value) (w' : World) : Prop :=
  Below w.heap.size w w' ∧ ∃ (op : Int) (n v : ByteArray) (p q : Option Addr) (k c k2 d : Nat) (z : Int), x = .tuple #[.agg #[.int .i64 op, .string n, .slice p k c, .string v, .slice q k2 d], .int .i64 z] ∧ match r with
    | none => z = -1
    | some (F, j) => z = (j : Nat) ∧ FmOwn 41 44 f (NewB w w') w' F [.int .i64 op, .string n, .slice p k c, .string v, .slice q k2 d]
theorem set5_heap (W : World) (rb b : Nat) (a0 a1 a2 a3 a4 : Value) (h : b ≠ rb) : (((((W.setCell ⟨rb, 0, none⟩ a0).setCell ⟨rb, 1, none⟩ a1).setCell ⟨rb, 2, none⟩ a2).setCell ⟨rb, 3, none⟩ a3).setCell ⟨rb, 4, none⟩ a4).heap[b]? = W.heap[b]? := by
  repeat rw [heap_setCell_other _ _ _ _ (fun e => h e)]
theorem BSt.set {w W : World} (h : BSt w W) (a0 a1 a2 a3 a4 : Value) : Below w.heap.size w (((((W.setCell ⟨w.heap.size, 0, none⟩ a0).setCell ⟨w.heap.size, 1, none⟩ a1).setCell ⟨w.heap.size, 2, none⟩ a2).setCell ⟨w.heap.size, 3, none⟩ a3).setCell ⟨w.heap.size, 4, none⟩ a4) :=
  Below.sc (Below.sc (Below.sc (Below.sc (Below.sc h.bel (Nat.le_refl _) a0) (Nat.le_refl _) a1) (Nat.le_refl _) a2) (Nat.le_refl _) a3) (Nat.le_refl _) a4
theorem GotFm.no {f : Nat} {w W : World} (h : BSt w W) (a0 a1 a2 a3 a4 : Value) (op : Int) (n v : ByteArray) (p q : Option Addr) (k c k2 d : Nat) :
    GotFm f none w (.tuple #[.agg #[.int .i64 op, .string n, .slice p k c, .string v, .slice q k2 d], .int .i64 (-1)]) (((((W.setCell ⟨w.heap.size, 0, none⟩ a0).setCell ⟨w.heap.size, 1, none⟩ a1).setCell ⟨w.heap.size, 2, none⟩ a2).setCell ⟨w.heap.size, 3, none⟩ a3).setCell ⟨w.heap.size, 4, none⟩ a4) :=
  ⟨h.set _ _ _ _ _, op, n, v, p, q, k, c, k2, d, -1, rfl, rfl⟩
theorem GotFm.yes {f : Nat} {w W : World} {S : Nat → Prop} {F : Fm} {y0 y1 y2 y3 y4 : Value} (h : BSt w W) (hO : FmOwn 41 44 f S W F [y0, y1, y2, y3, y4]) (hS : ∀ b, S b → w.heap.size < b ∧ b < W.heap.size) (j : Nat) (a0 a1 a2 a3 a4 : Value) :
    GotFm f (some (F, j)) w (.tuple #[.agg #[y0, y1, y2, y3, y4], .int .i64 (j : Nat)]) (((((W.setCell ⟨w.heap.size, 0, none⟩ a0).setCell ⟨w.heap.size, 1, none⟩ a1).setCell ⟨w.heap.size, 2, none⟩ a2).setCell ⟨w.heap.size, 3, none⟩ a3).setCell ⟨w.heap.size, 4, none⟩ a4) := by
  obtain ⟨p, c, q, d, rfl, rfl, rfl, rfl, rfl, -⟩ := hO.form
  refine ⟨h.set _ _ _ _ _, _, _, _, _, _, _, _, _, _, _, rfl, rfl, FmOwn.mono _ _ _ _ (Nat.le_refl _) (fun b hb _ => set5_heap W _ b _ _ _ _ _ (by have := hS b hb; omega)) (fun b hb => ?_) hO⟩
  have := hS b hb
  exact ⟨by omega, by simpa using this.2⟩
theorem GotFm.made {f : Nat} {w W : World} {S : Nat → Prop} {F : Fm} {y0 y1 y2 y3 y4 : Value} (hb : Below w.heap.size w W) (hO : FmOwn 41 44 f S W F [y0, y1, y2, y3, y4]) (hS : ∀ b, S b → w.heap.size ≤ b ∧ b < W.heap.size) (j : Nat) :
    GotFm f (some (F, j)) w (.tuple #[.agg #[y0, y1, y2, y3, y4], .int .i64 (j : Nat)]) W := by
  obtain ⟨p, c, q, d, rfl, rfl, rfl, rfl, rfl, -⟩ := hO.form
  exact ⟨hb, _, _, _, _, _, _, _, _, _, _, rfl, rfl, FmOwn.mono _ _ _ _ (Nat.le_refl _) (SameOn.refl _ _) hS hO⟩
theorem GotFm.mono {f f' : Nat} {r : Option (Fm × Nat)} {w w' : World} {x : Value} (hf : f ≤ f') (h : GotFm f r w x w') : GotFm f' r w x w' := by
  obtain ⟨hb, op, n, v, p, q, k, c, k2, d, z, rfl, h⟩ := h
  refine ⟨hb, op, n, v, p, q, k, c, k2, d, z, rfl, ?_⟩
  match r, h with
  | none, h => exact h
  | some (F, j), ⟨h1, h2⟩ => exact ⟨h1, FmOwn.mono _ _ _ _ hf (SameOn.refl _ _) (fun _ h => h) h2⟩
theorem GotFm.later {f : Nat} {r : Option (Fm × Nat)} {w w' w5 : World} {x : Value} (h : GotFm f r w x w') (hb5 : Below w'.heap.size w' w5) : GotFm f r w x w5 := by
  obtain ⟨hb, op, n, v, p, q, k, c, k2, d, z, rfl, h⟩ := h
  refine ⟨hb.trans (hb5.mono hb.size), op, n, v, p, q, k, c, k2, d, z, rfl, ?_⟩
  match r, h with
  | none, h => exact h
  | some (F, j), ⟨h1, h2⟩ => exact ⟨h1, FmOwn.mono _ _ _ _ (Nat.le_refl _) (SameOn.below hb5) (fun b h => ⟨h.1, Nat.lt_of_lt_of_le h.2 hb5.size⟩) h2⟩
theorem atomF_own8 {eT eF : TypeId} {m : Nat} {S : Nat → Prop} {w : World} {t : Tm} {v0 v1 : Value} (h : TmOwn eT m S w t [v0, v1]) : FmOwn eT eF (m + 1) S w (atomOfF t) [.int .i64 3, v0, v1, .string ⟨#[]⟩, .slice none 0 0] :=
  ⟨_, _, _, S, fun _ => False, rfl, by omega, Nat.zero_le _, h, OwnRow.nil _ _ _ _ _, fun _ hb => ⟨hb, fun h => h⟩, fun _ h => h.elim⟩
set_option maxRecDepth 100000 in
set_option maxHeartbeats 3200000 in
theorem l8Simple_any (s : ByteArray) (k : Nat) (w : World) (hk : k ≤ s.size) (hs : s.size ≤ 1000000) :
    Calls Tryz.prog 253 #[.string s, .int .i64 (k : Nat)] w fun e w' => ∃ x, e = .returned x ∧ GotFm (s.size + 6) (rSimp s.data.toList k) w x w' := by
  have HSI := Lib.hid (show rSimp s.data.toList k = match rTerm s.data.toList (s.size + 2) k with
    | none => none
    | some (a, j) => if at8 s.data.toList sEq8 j then (match rTerm s.data.toList (s.size + 2) (j + 3) with | none => none | some (b, e) => some (atomOfF (eqTm a b), e)) else some (atomF a, j) from rfl)
  have HB0 := Lib.hid (BSt.start w)
  go_enter Tryz.func253, Tryz.ntmps253
  go_wp2_with fail
  refine (l3Read_any (s.size + 2) s k _ hk hs (by omega)).mono ?_
  rintro e w1 ⟨x, rfl, hb1, s0, p0, k0, c0, z0, rfl, hgot⟩
  have HB1 := Lib.hid (HB0.out.later hb1)
  have hq1 := hb1.size
  (try simp at hq1)
  clear HB0 hb1
  obtain ⟨r0, r1, r2, r3, r4, rf⟩ := cells5_cell HB1.out.res
  have hrb := bsz (heap_lt HB1.out.res)
  cases hr : rTerm s.data.toList (s.size + 2) k with
  | none =>
    rw [hr] at hgot HSI
    simp only at hgot HSI
    subst hgot
    go_wp2
    refine bodyPost_ret (v := .tuple #[.agg #[.int .i64 0, .string ⟨#[]⟩, .slice none 0 0, .string ⟨#[]⟩, .slice none 0 0], .int .i64 (-1)]) (by simp only [results, Tryz.results253]; go_simp) rfl ⟨_, rfl, ?_⟩
    rw [HSI.out]
    exact (GotFm.no HB1.out _ _ _ _ _ _ _ _ _ _ _ _ _ _).later ((Below.refl _ _).alloc (Nat.le_refl _) _)
  | some aj =>
    obtain ⟨a, j⟩ := aj
    rw [hr] at hgot HSI
    simp only at hgot HSI
    obtain ⟨rfl, hO⟩ := hgot
    obtain ⟨p', c', h1, h2, -⟩ := hO.form
    simp only [Value.string.injEq, Value.slice.injEq] at h1 h2
    obtain rfl := h1
    obtain ⟨rfl, rfl, rfl⟩ := h2
    have hwt := rTerm_wt s.data.toList (s.size + 2) k a j (by rw [← size_list]; exact hk) hr
    rw [← size_list] at hwt
    clear r0 r1 r2 r3 r4 rf hrb hr
    have hjn : ¬ ((j : Nat) : Int) < 0 := by omega
    go_wp2_with fail
    obtain ⟨W, hW⟩ : ∃ W : World, W = w1.alloc (.cells #[.string a.n, .slice p0 a.us.length c0] 41) := ⟨_, rfl⟩
    have HBW := Lib.hid (HB1.out.later (show Below w1.heap.size w1 W by rw [hW]; exact (Below.refl _ _).alloc (Nat.le_refl _) _))
    have HT := Lib.hid (show W.heap[w1.heap.size]? = some (.cells #[.string a.n, .slice p0 a.us.length c0] 41 (0, 0)) by rw [hW]; exact heap_alloc_new w1 _)
    have hzW : W.heap.size = w1.heap.size + 1 := by rw [hW]; simp
    have HO := Lib.hid (show TmOwn 41 (s.size + 2) (fun b => w.heap.size + 1 ≤ b ∧ b < w1.heap.size) W a [.string a.n, .slice p0 a.us.length c0] from TmOwn.mono _ _ _ _ (Nat.le_refl _) (fun b hb hlt => by rw [hW]; exact hao w1 _ b hlt) (fun b hb => by simpa using hb) hO)
    rw [← hW]
    clear hW hO HB1
    refine (l8Starts_any s _ j _ hwt.2.1 (by omega) (by decide)).mono ?_
    rw [show (⟨#[32, 61, 32]⟩ : ByteArray).data.toList.isPrefixOf (s.data.toList.drop j) = at8 s.data.toList sEq8 j from rfl]
    rintro e w2 ⟨rfl, rfl⟩
    obtain ⟨r0, r1, r2, r3, r4, rf⟩ := cells5_cell HBW.out.res
    have hrb := bsz (heap_lt HBW.out.res)
    obtain ⟨b0, b1, bf⟩ := cells2_cell HT.out
    have hbb := bsz (heap_lt HT.out)
    cases h8 : at8 s.data.toList sEq8 j
    · rw [h8] at HSI
      simp only [Bool.false_eq_true, if_false] at HSI
      by_cases hu : a.us = []
      · have hlen : ((a.us.length : Int) == 0) = true := by rw [hu]; rfl
        by_cases hn : a.n.data.toList = sTrue8
        · have HF2 := Lib.hid (show atomF a = opF 1 [] by rw [atomF, if_pos ⟨hn, hu⟩])
          have hn2 : (a.n.toList == [116, 114, 117, 101]) = true := by rw [ByteArray.toList_eq, hn]; rfl
          clear hn hu
          go_wp2
          refine bodyPost_ret (v := .tuple #[.agg #[.int .i64 1, .string ⟨#[]⟩, .slice none 0 0, .string ⟨#[]⟩, .slice none 0 0], .int .i64 (j : Nat)]) (by simp only [results, Tryz.results253]; go_simp) rfl ⟨_, rfl, ?_⟩
          rw [HSI.out, HF2.out]
          exact GotFm.yes (S := fun _ => False) HBW.out (opF_own (m := s.size + 4) (by omega) (OwnRow.nil _ _ _ _ _)) (fun _ h => h.elim) j _ _ _ _ _
        · have hn2 : (a.n.toList == [116, 114, 117, 101]) = false := by rw [ByteArray.toList_eq]; simpa [sTrue8] using hn
          by_cases hm : a.n.data.toList = sFalse8
          · have HF2 := Lib.hid (show atomF a = opF 2 [] by rw [atomF, if_neg (fun h => hn h.1), if_pos ⟨hm, hu⟩])
            have hm2 : (a.n.toList == [102, 97, 108, 115, 101]) = true := by rw [ByteArray.toList_eq, hm]; rfl
            clear hn hu hm
            go_wp2
            refine bodyPost_ret (v := .tuple #[.agg #[.int .i64 2, .string ⟨#[]⟩, .slice none 0 0, .string ⟨#[]⟩, .slice none 0 0], .int .i64 (j : Nat)]) (by simp only [results, Tryz.results253]; go_simp) rfl ⟨_, rfl, ?_⟩
            rw [HSI.out, HF2.out]
            exact GotFm.yes (S := fun _ => False) HBW.out (opF_own (m := s.size + 4) (by omega) (OwnRow.nil _ _ _ _ _)) (fun _ h => h.elim) j _ _ _ _ _
          · have HF2 := Lib.hid (show atomF a = atomOfF a by rw [atomF, if_neg (fun h => hn h.1), if_neg (fun h => hm h.1)])
            have hm2 : (a.n.toList == [102, 97, 108, 115, 101]) = false := by rw [ByteArray.toList_eq]; simpa [sFalse8] using hm
            clear hn hu hm
            go_wp2
            refine bodyPost_ret (v := .tuple #[.agg #[.int .i64 3, .string a.n, .slice p0 a.us.length c0, .string ⟨#[]⟩, .slice none 0 0], .int .i64 (j : Nat)]) (by simp only [results, Tryz.results253]; go_simp) rfl ⟨_, rfl, ?_⟩
            rw [HSI.out, HF2.out]
            exact GotFm.yes HBW.out (FmOwn.mono (s.size + 3) (s.size + 6) _ _ (by omega) (SameOn.refl _ _) (fun _ h => h) (atomF_own8 HO.out)) (fun b hb => by have h1 := hb.1; have h2 := hb.2; exact ⟨by omega, by omega⟩) j _ _ _ _ _
      · have hlen : ((a.us.length : Int) == 0) = false := by rw [beq_eq_false_iff_ne]; intro e; exact hu (List.eq_nil_of_length_eq_zero (by omega))
        have HF2 := Lib.hid (show atomF a = atomOfF a by rw [atomF, if_neg (fun h => hu h.2), if_neg (fun h => hu h.2)])
        clear hu
        go_wp2
        refine bodyPost_ret (v := .tuple #[.agg #[.int .i64 3, .string a.n, .slice p0 a.us.length c0, .string ⟨#[]⟩, .slice none 0 0], .int .i64 (j : Nat)]) (by simp only [results, Tryz.results253]; go_simp) rfl ⟨_, rfl, ?_⟩
        rw [HSI.out, HF2.out]
        exact GotFm.yes HBW.out (FmOwn.mono (s.size + 3) (s.size + 6) _ _ (by omega) (SameOn.refl _ _) (fun _ h => h) (atomF_own8 HO.out)) (fun b hb => by have h1 := hb.1; have h2 := hb.2; exact ⟨by omega, by omega⟩) j _ _ _ _ _
    · rw [h8] at HSI
      simp only [if_true] at HSI
      have h3 : j + 3 ≤ s.size := by have := at8_le h8 (by rw [← size_list]; exact hwt.2.1); rw [← size_list] at this; exact this
      clear h8
      go_wp2_with fail
      rw [show ((j : Int) + 3) = ((j + 3 : Nat) : Int) by omega]
      refine (l3Read_any (s.size + 2) s (j + 3) _ h3 hs (by omega)).mono ?_
      rintro e w2 ⟨x, rfl, hb2, s1, p1, k1, c1, z1, rfl, hgot⟩
      have HB2 := Lib.hid (HBW.out.later hb2)
      have HT2 := Lib.hid ((hb2.block _ (by omega)).trans HT.out)
      have HO2 := Lib.hid (TmOwn.below hb2 HO.out)
      have hq2 := hb2.size
      clear HBW HT HO hb2 r0 r1 r2 r3 r4 rf hrb b0 b1 bf hbb
      obtain ⟨r0, r1, r2, r3, r4, rf⟩ := cells5_cell HB2.out.res
      have hrb := bsz (heap_lt HB2.out.res)
      obtain ⟨b0, b1, bf⟩ := cells2_cell HT2.out
      have hbb := bsz (heap_lt HT2.out)
      cases hr : rTerm s.data.toList (s.size + 2) (j + 3) with
      | none =>
        rw [hr] at hgot HSI
        simp only at hgot HSI
        subst hgot
        go_wp2
        refine bodyPost_ret (v := .tuple #[.agg #[.int .i64 3, .string ⟨#[61]⟩, .slice (some ⟨w2.heap.size + 1, 0, none⟩) 2 2, .string ⟨#[]⟩, .slice none 0 0], .int .i64 (-1)]) (by simp only [results, Tryz.results253]; go_simp) rfl ⟨_, rfl, ?_⟩
        rw [HSI.out]
        exact ((GotFm.no HB2.out _ _ _ _ _ _ _ _ _ _ _ _ _ _).later ((Below.refl _ _).alloc (Nat.le_refl _) _)).later ((Below.refl _ _).alloc (Nat.le_refl _) _)
      | some bj =>
        obtain ⟨b, e⟩ := bj
        rw [hr] at hgot HSI
        simp only at hgot HSI
        obtain ⟨rfl, hOb⟩ := hgot
        obtain ⟨p', c', h1, h2, -⟩ := hOb.form
        simp only [Value.string.injEq, Value.slice.injEq] at h1 h2
        obtain rfl := h1
        obtain ⟨rfl, rfl, rfl⟩ := h2
        have hwt2 := rTerm_wt s.data.toList (s.size + 2) (j + 3) b e (by rw [← size_list]; exact h3) hr
        rw [← size_list] at hwt2
        have HOB := Lib.hid hOb
        clear hOb hr
        go_wp2
        refine bodyPost_ret (v := .tuple #[.agg #[.int .i64 3, .string ⟨#[61]⟩, .slice (some ⟨w2.heap.size + 1, 0, none⟩) 2 2, .string ⟨#[]⟩, .slice none 0 0], .int .i64 (e : Nat)]) (by simp only [results, Tryz.results253]; go_simp) rfl ⟨_, rfl, ?_⟩
        rw [HSI.out]
        have hk : ∀ (W3 : World), W3.heap.size = w2.heap.size → (∀ c, c ≠ w.heap.size → W3.heap[c]? = w2.heap[c]?) → ∀ (o o2 : Obj) c, c ≠ w.heap.size → c < w2.heap.size → ((W3.alloc o).alloc o2).heap[c]? = w2.heap[c]? := fun W3 hz hs o o2 c hc hlt => (hao _ _ c (by simp; omega)).trans ((hao _ _ c (by omega)).trans (hs c hc))
        refine GotFm.made (S := fun c => w.heap.size + 1 ≤ c ∧ c < w2.heap.size + 2 ∧ c ≠ w1.heap.size ∧ c ≠ w2.heap.size) (Below.al (Below.al (HB2.out.set _ _ _ _ _) _) _) ?_ (fun c hc => ⟨by omega, by simp; omega⟩) e
        refine FmOwn.mono (s.size + 4) (s.size + 6) _ _ (by omega) (SameOn.refl _ _) (fun _ h => h) (atomF_own8 ⟨_, rfl, by decide, ?_⟩)
        exact OwnRow.two' (by simp) [.string a.n, .slice p0 a.us.length c0] [.string b.n, .slice p1 b.us.length c1] _ rfl rfl rfl
          (TmOwn.mono _ _ _ _ (Nat.le_refl _) (fun c hc hlt => hk _ (by simp) (fun c hc => set5_heap w2 _ c _ _ _ _ _ hc) _ _ c (by omega) (by omega)) (fun _ h => h) HO2.out)
          (TmOwn.mono _ _ _ _ (Nat.le_refl _) (fun c hc hlt => hk _ (by simp) (fun c hc => set5_heap w2 _ c _ _ _ _ _ hc) _ _ c (by have := hc.1; omega) hlt) (fun _ h => h) HOB.out)
          (fun c hc => by omega) (fun c hc => by have := hc.2; omega) (fun c hc hc' => by have := hc'.1; omega) (fun c hc => by omega) (fun c hc => by have h1 := hc.1; have h2 := hc.2; omega) (by omega)
end Go.Proofs.YtkgfanajgdelcaaGreatDoor
namespace Go.Proofs.YtkgfanajgdelcaaGreatDoor
open Go.RowKit
theorem baseV9 (x0 x1 x2 x3 x4 x5 x6 x7 x8 : Option Value) (v : Value) (l : List (Option Value)) : baseV (x0 :: x1 :: x2 :: x3 :: x4 :: x5 :: x6 :: x7 :: x8 :: some v :: l) 9 = v := rfl
theorem baseV10 (x0 x1 x2 x3 x4 x5 x6 x7 x8 x9 : Option Value) (v : Value) (l : List (Option Value)) : baseV (x0 :: x1 :: x2 :: x3 :: x4 :: x5 :: x6 :: x7 :: x8 :: x9 :: some v :: l) 10 = v := rfl
theorem baseV11 (x0 x1 x2 x3 x4 x5 x6 x7 x8 x9 x10 : Option Value) (v : Value) (l : List (Option Value)) : baseV (x0 :: x1 :: x2 :: x3 :: x4 :: x5 :: x6 :: x7 :: x8 :: x9 :: x10 :: some v :: l) 11 = v := rfl
theorem baseV12 (x0 x1 x2 x3 x4 x5 x6 x7 x8 x9 x10 x11 : Option Value) (v : Value) (l : List (Option Value)) : baseV (x0 :: x1 :: x2 :: x3 :: x4 :: x5 :: x6 :: x7 :: x8 :: x9 :: x10 :: x11 :: some v :: l) 12 = v := rfl
theorem baseV13 (x0 x1 x2 x3 x4 x5 x6 x7 x8 x9 x10 x11 x12 : Option Value) (v : Value) (l : List (Option Value)) : baseV (x0 :: x1 :: x2 :: x3 :: x4 :: x5 :: x6 :: x7 :: x8 :: x9 :: x10 :: x11 :: x12 :: some v :: l) 13 = v := rfl
theorem baseV14 (x0 x1 x2 x3 x4 x5 x6 x7 x8 x9 x10 x11 x12 x13 : Option Value) (v : Value) (l : List (Option Value)) : baseV (x0 :: x1 :: x2 :: x3 :: x4 :: x5 :: x6 :: x7 :: x8 :: x9 :: x10 :: x11 :: x12 :: x13 :: some v :: l) 14 = v := rfl
theorem baseV15 (x0 x1 x2 x3 x4 x5 x6 x7 x8 x9 x10 x11 x12 x13 x14 : Option Value) (v : Value) (l : List (Option Value)) : baseV (x0 :: x1 :: x2 :: x3 :: x4 :: x5 :: x6 :: x7 :: x8 :: x9 :: x10 :: x11 :: x12 :: x13 :: x14 :: some v :: l) 15 = v := rfl
attribute [go_sem] baseV9 baseV10 baseV11 baseV12 baseV13 baseV14 baseV15
end Go.Proofs.YtkgfanajgdelcaaGreatDoor
