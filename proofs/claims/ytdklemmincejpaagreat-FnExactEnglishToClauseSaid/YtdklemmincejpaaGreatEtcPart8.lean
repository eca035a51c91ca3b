/- The clause of a formula that owns its memory: the program's. Conditions: the formula is valid; sizes. -/
import Derived.Laws.IdiomStrings
import Derived.Test.YtdklemmincejpaaGreatEtcPart1
import Derived.Test.YtdklemmincejpaaGreatEtcPart2
import Derived.Test.YtdklemmincejpaaGreatEtcPart3
import Derived.Test.YtdklemmincejpaaGreatEtcPart5
import Derived.Test.YtdklemmincejpaaGreatEtcPart7
namespace Go.Proofs.YtdklemmincejpaaGreat
open Go.RowKit
theorem pTerm_name (L : List UInt8) : ∀ (f : Nat) (p : PSt), (pTerm L f p).1.n.data.toList.length ≤ L.length
  | 0, p => by rw [pTerm]; simp [Tm.n]
  | f + 1, p => by
    have := pWord_len L p
    rw [pTerm]
    split <;> simpa [Tm.n] using this
theorem pAtom_pos (L : List UInt8) (f : Nat) (p : PSt) (hp : p.pos ≤ L.length) : p.pos ≤ (pAtom L f p).2.pos ∧ (pAtom L f p).2.pos ≤ L.length := by
  have h1 := pTerm_pos L f p hp
  rw [pAtom]
  split
  · rename_i h
    have h2 := pTake_le h h1.2
    have h3 := pTerm_pos L f (pAdv sEquals (pTerm L f p).2) h2
    simp only [pAdv] at h3 ⊢; omega
  · split
    · rename_i h
      have h2 := pTake_le h h1.2
      have h3 := pTerm_pos L f (pAdv sHoldsOf (pTerm L f p).2) h2
      have h4 := pArgs_pos L sComma f _ h3.2
      simp only [pAdv] at h3 h4 ⊢; omega
    · have h5 := pMust_pos L sHolds _ h1.2
      show p.pos ≤ (pMust L sHolds (pTerm L f p).2).pos ∧ (pMust L sHolds (pTerm L f p).2).pos ≤ L.length
      omega
theorem pEng_pos (L : List UInt8) : ∀ (f : Nat) (p : PSt), p.pos ≤ L.length → p.pos ≤ (pEng L f p).2.pos ∧ (pEng L f p).2.pos ≤ L.length
  | 0, p, hp => by rw [pEng]; exact ⟨Nat.le_refl _, hp⟩
  | f + 1, p, hp => by
    have pair : ∀ (word kw : List UInt8), pTake L kw p = true → p.pos ≤ (pEng L f (pMust L word (pEng L f (pAdv kw p)).2)).2.pos ∧ (pEng L f (pMust L word (pEng L f (pAdv kw p)).2)).2.pos ≤ L.length := fun word kw h => by
      have h2 := pTake_le h hp
      have h3 := pEng_pos L f (pAdv kw p) h2
      have h4 := pMust_pos L word _ h3.2
      have h5 := pEng_pos L f _ h4.2
      simp only [pAdv] at h3 h4 h5 ⊢; omega
    have bound : ∀ (word kw : List UInt8), pTake L kw p = true → p.pos ≤ (pEng L f (pMust L word (pWord L (pAdv kw p)).2)).2.pos ∧ (pEng L f (pMust L word (pWord L (pAdv kw p)).2)).2.pos ≤ L.length := fun word kw h => by
      have h2 := pTake_le h hp
      have h3 := pWord_pos L (pAdv kw p) h2
      have h4 := pMust_pos L word _ h3.2
      have h5 := pEng_pos L f _ h4.2
      simp only [pAdv] at h3 h4 h5 ⊢; omega
    have adv : ∀ kw : List UInt8, pTake L kw p = true → p.pos ≤ (pAdv kw p).pos ∧ (pAdv kw p).pos ≤ L.length := fun kw h => ⟨by simp only [pAdv]; omega, pTake_le h hp⟩
    have neg : pTake L sNot p = true → p.pos ≤ (pEng L f (pAdv sNot p)).2.pos ∧ (pEng L f (pAdv sNot p)).2.pos ≤ L.length := fun h => by
      have h1 := adv _ h
      have h2 := pEng_pos L f _ h1.2
      omega
    rw [pEng]
    split
    · exact adv _ ‹_›
    · split
      · exact adv _ ‹_›
      · split
        · exact neg ‹_›
        · split
          · exact pair _ _ ‹_›
          · split
            · exact pair _ _ ‹_›
            · split
              · exact pair _ _ ‹_›
              · split
                · exact bound _ _ ‹_›
                · split
                  · exact bound _ _ ‹_›
                  · exact pAtom_pos L f p hp
end Go.Proofs.YtdklemmincejpaaGreat
namespace Go.Proofs.YtdklemmincejpaaGreat
open Go.RowKit
theorem pWord_wt (L : List UInt8) (p : PSt) : (pWord L p).1.length + p.pos ≤ (pWord L p).2.pos := by
  unfold pWord; split <;> simp <;> omega
theorem pMust_up (L t : List UInt8) (p : PSt) : p.pos ≤ (pMust L t p).pos := by
  unfold pMust; split <;> simp [pAdv]
theorem size_toBytes (l : List UInt8) : (⟨l.toArray⟩ : ByteArray).size = l.length := by simp [ByteArray.size]
mutual
theorem pTerm_wt (L : List UInt8) : ∀ (f : Nat) (p : PSt), (pTerm L f p).1.wt + p.pos ≤ (pTerm L f p).2.pos
  | 0, p => by rw [pTerm]; simp [Tm.wt, Tm.wts, ByteArray.size]
  | f + 1, p => by
    have h1 := pWord_wt L p
    have h2 := pTerm_wt L f (pAdv [40] (pWord L p).2)
    have h3 := pArgs_wt L [44] (by decide) f (pTerm L f (pAdv [40] (pWord L p).2)).2
    have h4 := pMust_up L [41] (pArgs L [44] f (pTerm L f (pAdv [40] (pWord L p).2)).2).2
    have h5 : (pAdv [40] (pWord L p).2).pos = (pWord L p).2.pos + 1 := rfl
    rw [pTerm]
    split
    · simp only [Tm.wt, Tm.wts, List.length_cons, size_toBytes]; omega
    · simp only [Tm.wt, Tm.wts, List.length_nil, size_toBytes]; omega
theorem pArgs_wt (L sep : List UInt8) (hs : 0 < sep.length) : ∀ (f : Nat) (p : PSt), (pArgs L sep f p).1.length + Tm.wts (pArgs L sep f p).1 + p.pos ≤ (pArgs L sep f p).2.pos
  | 0, p => by rw [pArgs]; simp [Tm.wts]
  | f + 1, p => by
    have h2 := pTerm_wt L f (pAdv sep p)
    have h3 := pArgs_wt L sep hs f (pTerm L f (pAdv sep p)).2
    have h5 : (pAdv sep p).pos = p.pos + sep.length := rfl
    rw [pArgs]
    split
    · simp only [Tm.wts, List.length_cons]; omega
    · simp [Tm.wts]
end
theorem tm0_wt : tm0.wt = 0 := by simp [tm0, Tm.wt, Tm.wts, ByteArray.size]
theorem nil_size : (⟨#[]⟩ : ByteArray).size = 0 := rfl
theorem pAtom_wt (L : List UInt8) (f : Nat) (p : PSt) : (pAtom L f p).1.wt + p.pos ≤ (pAtom L f p).2.pos := by
  have h1 := pTerm_wt L f p
  have h2 := pTerm_wt L f (pAdv sEquals (pTerm L f p).2)
  have h3 := pTerm_wt L f (pAdv sHoldsOf (pTerm L f p).2)
  have h4 := pArgs_wt L sComma (by decide) f (pTerm L f (pAdv sHoldsOf (pTerm L f p).2)).2
  have h5 := pMust_up L sHolds (pTerm L f p).2
  have e1 : (pAdv sEquals (pTerm L f p).2).pos = (pTerm L f p).2.pos + sEquals.length := rfl
  have e2 : (pAdv sHoldsOf (pTerm L f p).2).pos = (pTerm L f p).2.pos + sHoldsOf.length := rfl
  have l1 : 3 ≤ sEquals.length := by decide
  have l2 : 3 ≤ sHoldsOf.length := by decide
  have hn : (pTerm L f p).1.n.size ≤ (pTerm L f p).1.wt := by
    cases (pTerm L f p).1; simp only [Tm.wt, Tm.n]; omega
  have hq : (⟨#[61]⟩ : ByteArray).size = 1 := rfl
  unfold pAtom
  split
  · simp only [atomOfF, eqTm, Fm.wt, Fm.wts, Tm.wt, Tm.wts, List.length_cons, List.length_nil, nil_size, hq]; omega
  · split
    · simp only [atomOfF, Fm.wt, Fm.wts, Tm.wt, Tm.wts, List.length_cons, List.length_nil, nil_size]; omega
    · simp only [atomOfF, Fm.wt, Fm.wts, List.length_nil, nil_size]; omega
theorem pEng_wt (L : List UInt8) : ∀ (f : Nat) (p : PSt), (pEng L f p).1.wt + p.pos ≤ (pEng L f p).2.pos
  | 0, p => by rw [pEng]; simp [opF, Fm.wt, Fm.wts, tm0_wt, nil_size]
  | f + 1, p => by
    have pair : ∀ (op : Int) (word kw : List UInt8), 2 ≤ kw.length → (opF op [(pEng L f (pAdv kw p)).1, (pEng L f (pMust L word (pEng L f (pAdv kw p)).2)).1]).wt + p.pos ≤ (pEng L f (pMust L word (pEng L f (pAdv kw p)).2)).2.pos := fun op word kw hk => by
      have h1 := pEng_wt L f (pAdv kw p)
      have h2 := pMust_up L word (pEng L f (pAdv kw p)).2
      have h3 := pEng_wt L f (pMust L word (pEng L f (pAdv kw p)).2)
      have e1 : (pAdv kw p).pos = p.pos + kw.length := rfl
      simp only [opF, Fm.wt, Fm.wts, tm0_wt, nil_size, List.length_cons, List.length_nil]; omega
    have bound : ∀ (op : Int) (word kw : List UInt8), 1 ≤ kw.length → (quantF op (pWord L (pAdv kw p)).1 (pEng L f (pMust L word (pWord L (pAdv kw p)).2)).1).wt + p.pos ≤ (pEng L f (pMust L word (pWord L (pAdv kw p)).2)).2.pos := fun op word kw hk => by
      have h1 := pWord_wt L (pAdv kw p)
      have h2 := pMust_up L word (pWord L (pAdv kw p)).2
      have h3 := pEng_wt L f (pMust L word (pWord L (pAdv kw p)).2)
      have e1 : (pAdv kw p).pos = p.pos + kw.length := rfl
      simp only [quantF, Fm.wt, Fm.wts, tm0_wt, size_toBytes, List.length_cons, List.length_nil]; omega
    have hnot := pEng_wt L f (pAdv sNot p)
    have hat := pAtom_wt L f p
    have e1 : (pAdv sNot p).pos = p.pos + sNot.length := rfl
    have l1 : 2 ≤ sNot.length := by decide
    rw [pEng]
    simp only
    repeat' split
    · simp [opF, Fm.wt, Fm.wts, tm0_wt, nil_size, pAdv]
    · simp [opF, Fm.wt, Fm.wts, tm0_wt, nil_size, pAdv]
    · simp only [opF, Fm.wt, Fm.wts, tm0_wt, nil_size, List.length_cons, List.length_nil]; omega
    · exact pair _ _ _ (by decide)
    · exact pair _ _ _ (by decide)
    · exact pair _ _ _ (by decide)
    · exact bound _ _ _ (by decide)
    · exact bound _ _ _ (by decide)
    · exact hat
end Go.Proofs.YtdklemmincejpaaGreat
namespace Go.Proofs.YtdklemmincejpaaGreat
open Go.RowKit
/-- What the program's reader has read and where it stands then. -/
def pRead (L : List UInt8) : Fm × PSt := pEng L (L.length + 2) ⟨0, false⟩
/-- The program accepts the text. -/
def pOk (L : List UInt8) : Bool := !(pRead L).2.bad && (pRead L).2.pos == L.length && (pRead L).1.good && (pRead L).1.eng == L
theorem pRead_eng {F : Fm} (hg : F.good = true) : pRead F.eng = (F, ⟨F.eng.length, false⟩) := by
  have hf : F.form = true := by rw [Fm.good, Bool.and_eq_true] at hg; exact hg.2
  have h := pEng_ok (L := F.eng) (F.eng.length + 2) F 0 [] hf (by simp) (by first | exact goodR_nil | exact GoodR.nil | exact Or.inl rfl | (unfold GoodR; simp [stopC]) | (constructor <;> simp [stopC])) (by omega)
  simpa [pRead] using h
theorem pOk_iff {L : List UInt8} : pOk L = true ↔ ∃ F : Fm, F.good = true ∧ F.eng = L := by
  constructor
  · intro h
    simp only [pOk, Bool.and_eq_true, beq_iff_eq] at h
    exact ⟨_, h.1.2, h.2⟩
  · rintro ⟨F, hg, rfl⟩
    simp [pOk, pRead_eng hg, hg]
theorem pOk_read {F : Fm} {L : List UInt8} (hg : F.good = true) (he : F.eng = L) : (pRead L).1 = F := by subst he; rw [pRead_eng hg]
end Go.Proofs.YtdklemmincejpaaGreat
namespace Go.Proofs.YtdklemmincejpaaGreat
open Go.RowKit
theorem Tm.wts_snoc (us : List Tm) (a : Tm) : Tm.wts (us ++ [a]) = Tm.wts us + a.wt := by
  induction us with
  | nil => simp [Tm.wts]
  | cons b us ih => rw [List.cons_append, Tm.wts, ih, Tm.wts]; omega
theorem Tm.wts_app (us vs : List Tm) : Tm.wts (us ++ vs) = Tm.wts us + Tm.wts vs := by
  induction us with
  | nil => simp [Tm.wts]
  | cons b us ih => rw [List.cons_append, Tm.wts, ih, Tm.wts]; omega
theorem rWordL_le (L : List UInt8) (k : Nat) (hk : k ≤ L.length) : k + (rWordL L k).length ≤ L.length := by
  have : (rWordL L k).length ≤ (L.drop k).length := (List.takeWhile_sublist _).length_le
  rw [List.length_drop] at this; omega
theorem size_arr (l : List UInt8) : (⟨l.toArray⟩ : ByteArray).size = l.length := by simp [ByteArray.size]
theorem get_lt {L : List UInt8} {k : Nat} {c : UInt8} (h : L[k]? = some c) : k < L.length := (List.getElem?_eq_some_iff.1 h).1
mutual
theorem rTerm_wt (L : List UInt8) : ∀ (f k : Nat) (t : Tm) (j : Nat), k ≤ L.length → rTerm L f k = some (t, j) → t.wt + k ≤ j ∧ j ≤ L.length ∧ k < j
  | 0, _, _, _, _, h => by rw [rTerm] at h; cases h
  | f + 1, k, t, j, hk, h => by
    have h1 := rWordL_le L k hk
    rw [rTerm] at h
    split at h
    · cases h
    · rename_i h0
      have h2 : 0 < (rWordL L k).length := List.length_pos_iff.2 (by simpa using h0)
      split at h
      · rename_i h3
        have := rArgs_wt L f (rWordL L k) [] _ t j (get_lt h3) h
        simp only [List.length_nil, Tm.wts] at this
        omega
      · injection h with h
        injection h with ht hj
        subst ht hj
        simp only [Tm.wt, Tm.wts, List.length_nil, size_arr]; omega
theorem rArgs_wt (L : List UInt8) : ∀ (f : Nat) (n : List UInt8) (acc : List Tm) (e : Nat) (t : Tm) (j : Nat), e < L.length → rArgs L n f acc e = some (t, j) → t.wt + e ≤ j + n.length + acc.length + Tm.wts acc ∧ j ≤ L.length ∧ e < j
  | 0, _, _, _, _, _, _, h => by rw [rArgs] at h; cases h
  | f + 1, n, acc, e, t, j, he, h => by
    rw [rArgs] at h
    split at h
    · cases h
    · rename_i a i ha
      have h1 := rTerm_wt L f (e + 1) a i he ha
      split at h
      · rename_i h2
        have := rArgs_wt L f n (acc ++ [a]) i t j (get_lt h2) h
        rw [Tm.wts_snoc, List.length_append, List.length_singleton] at this
        omega
      · split at h
        · rename_i h2
          have := get_lt h2
          injection h with h
          injection h with ht hj
          subst ht hj
          simp only [Tm.wt, Tm.wts_snoc, List.length_append, List.length_singleton, size_arr]; omega
        · cases h
end
theorem qTm0_wt : tm0.wt = 0 := by simp [tm0, Tm.wt, Tm.wts, ByteArray.size]
theorem qNil_size : (⟨#[]⟩ : ByteArray).size = 0 := rfl
theorem qTerm_wt (L : List UInt8) (p : PSt) (hp : p.pos ≤ L.length) : (qTerm L p).1.wt + p.pos ≤ (qTerm L p).2.pos ∧ (qTerm L p).2.pos ≤ L.length := by
  rw [qTerm]
  split
  · simp only [qTm0_wt]; omega
  · cases h : rTerm L (L.length + 2) p.pos with
    | none => simp only [qGot, qTm0_wt]; omega
    | some a => have := rTerm_wt L _ _ a.1 a.2 hp h; simp only [qGot]; omega
theorem qArgs_wt (L : List UInt8) : ∀ (f : Nat) (p : PSt), p.pos ≤ L.length → (qArgs L f p).1.length + Tm.wts (qArgs L f p).1 + p.pos ≤ (qArgs L f p).2.pos ∧ (qArgs L f p).2.pos ≤ L.length
  | 0, p, hp => by rw [qArgs]; simp only [List.length_nil, Tm.wts]; omega
  | f + 1, p, hp => by
    rw [qArgs]
    split
    · rename_i h
      have h1 := pTake_le h hp
      have h2 := qTerm_wt L (pAdv sComma p) h1
      have h3 := qArgs_wt L f _ h2.2
      have e : (pAdv sComma p).pos = p.pos + 2 := rfl
      simp only [List.length_cons, Tm.wts]; omega
    · simp only [List.length_nil, Tm.wts]; omega
theorem qHold_pos (L : List UInt8) (a : Tm × PSt) (hp : a.2.pos ≤ L.length) : a.2.pos ≤ (qHold L a).pos ∧ (qHold L a).pos ≤ L.length := by
  have := pMust_pos L sHolds a.2 hp
  unfold qHold; split <;> exact this
theorem qAtom_wt (L : List UInt8) (p : PSt) (hp : p.pos ≤ L.length) : (qAtom L p).1.wt + p.pos ≤ (qAtom L p).2.pos ∧ (qAtom L p).2.pos ≤ L.length := by
  have h1 := qTerm_wt L p hp
  have h2 := qHold_pos L _ h1.2
  have hq : (⟨#[61]⟩ : ByteArray).size = 1 := rfl
  unfold qAtom
  split
  · rename_i h
    have h3 := pTake_le h h1.2
    have h4 := qTerm_wt L (pAdv sEquals (qTerm L p).2) h3
    have e : (pAdv sEquals (qTerm L p).2).pos = (qTerm L p).2.pos + 8 := rfl
    simp only [atomOfF, eqTm, Fm.wt, Fm.wts, Tm.wt, Tm.wts, List.length_cons, List.length_nil, qNil_size, hq]; omega
  · split
    · rename_i h
      have h3 := pTake_le h h2.2
      have h4 := qTerm_wt L (pAdv sOf (qHold L (qTerm L p))) h3
      have h5 := qArgs_wt L (L.length + 2) _ h4.2
      have e : (pAdv sOf (qHold L (qTerm L p))).pos = (qHold L (qTerm L p)).pos + 4 := rfl
      have hw : (qTerm L p).1.wt = (qTerm L p).1.n.size + (qTerm L p).1.us.length + Tm.wts (qTerm L p).1.us := by cases (qTerm L p).1; rfl
      simp only [atomOfF, Fm.wt, Fm.wts, Tm.wt, Tm.wts, Tm.wts_app, List.length_append, List.length_cons, List.length_nil, qNil_size]; omega
    · simp only [atomOfF, Fm.wt, Fm.wts, List.length_nil, qNil_size]; omega
end Go.Proofs.YtdklemmincejpaaGreat
namespace Go.Proofs.YtdklemmincejpaaGreat
open Go.RowKit
/-- A number's digits, as 'markText' writes them. -/
def markL (n : Nat) : List UInt8 := if h : n = 0 then [] else markL (n / 10) ++ [UInt8.ofNat (48 + n % 10)]
termination_by n
theorem markL_zero : markL 0 = [] := by rw [markL]; rfl
theorem markL_pos {n : Nat} (h : n ≠ 0) : markL n = markL (n / 10) ++ [UInt8.ofNat (48 + n % 10)] := by rw [markL, dif_neg h]
theorem markL_len (n : Nat) : (markL n).length ≤ n := by
  induction n using Nat.strongRecOn with
  | _ n ih =>
    by_cases h : n = 0
    · subst h; rw [markL_zero]; exact Nat.le_refl _
    · rw [markL_pos h, List.length_append]
      have := ih (n / 10) (by omega)
      simp; omega
def markB (n : Nat) : ByteArray := ⟨(109 :: markL n).toArray⟩
theorem digit_conv (w : World) (v : Int) (x : UInt8) (hv : v = x.toNat) :
    (convert 40 9 (.slice (some ⟨w.heap.size, 0, none⟩) 1 1)).run Tryz.prog (w.alloc (.cells #[.int .u8 v] 5)) = .ok (.string ⟨#[x]⟩) (w.alloc (.cells #[.int .u8 v] 5)) := by
  subst hv
  have h := run_convert_bytes_back (P := Tryz.prog) (w.alloc (.cells #[.int .u8 x.toNat] 5)) 40 9 5 ⟨w.heap.size, 0, none⟩ 1 [x] Tryz.underlying40 Tryz.underlying5 Tryz.underlying9 ?_
  · exact h
  · intro j hj
    have hj0 : j = 0 := by simpa using hj
    subst hj0
    have e : (⟨w.heap.size, 0, none⟩ : Addr).add 0 = ⟨w.heap.size, 0, none⟩ := by unfold Addr.add; simp
    rw [e, World.cell?_alloc_new]; rfl
theorem digit_val (k : Nat) : 48 + (k : Int) % 10 = ((UInt8.ofNat (48 + k % 10)).toNat : Int) := by
  rw [UInt8.toNat_ofNat']; omega
def MarkRel (n : Nat) (w : World) (d i : Value) (wr : World) : Prop :=
  ∃ (k : Nat) (l : List UInt8), k ≤ n ∧ i = .int .i64 k ∧ d = .string ⟨l.toArray⟩ ∧ markL k ++ l = markL n ∧ Below w.heap.size w wr
set_option maxRecDepth 100000 in
set_option maxHeartbeats 800000 in
theorem markText_any (n : Nat) (w : World) (h0 : 0 < n) (h1 : n ≤ 1000000) :
    Calls Tryz.prog 74 #[.int .i64 n] w fun e w' => e = .returned (.string (markB n)) ∧ Below w.heap.size w w' := by
  have hn : ¬ (n : Int) ≤ 0 := by omega
  go_enter Tryz.func74, Tryz.ntmps74
  go_wp2
  go_loopw [3, 0] (MarkRel n w) (fun _ i _ => (intOf i).toNat)
  case atStart => exact ⟨n, [], Nat.le_refl _, rfl, rfl, by simp, Below.refl _ _⟩
  case round =>
    obtain ⟨k, l, hk, rfl, rfl, hl, hb⟩ := hrel
    have HL := Lib.hid hl
    clear hl
    by_cases hk0 : 0 < (k : Int)
    · have kd := fun (w : World) => digit_conv w (48 + (k : Int) % 10) _ (digit_val k)
      have hll : ¬ 9223372036854775807 < 1 + l.length := by
        have h2 := congrArg List.length HL.out
        have h3 := markL_len n
        simp only [List.length_append] at h2; omega
      go_wp2
      refine ⟨⟨k / 10, (48 + UInt8.ofNat (k % 10)) :: l, by omega, by simp, ?_, ?_, ?_⟩, by simp [intOf]; omega⟩
      · exact congrArg Value.string (by apply ByteArray.ext; simp)
      · rw [← HL.out, markL_pos (n := k) (by omega), List.append_assoc]
        exact congrArg _ (congrArg (· :: l) (by rw [UInt8.ofNat_add]; rfl))
      · exact hb.alloc hb.size _
    · have hk1 : k = 0 := by omega
      subst hk1
      have hll : ¬ 9223372036854775807 < 1 + l.length := by
        have h2 := congrArg List.length HL.out
        have h3 := markL_len n
        simp only [List.length_append] at h2; omega
      go_wp2
      go_ret
      refine ⟨congrArg Ending.returned (congrArg Value.string ?_), hb⟩
      have h2 := HL.out
      rw [markL_zero, List.nil_append] at h2
      rw [markB, ← h2]; apply ByteArray.ext; simp
end Go.Proofs.YtdklemmincejpaaGreat
namespace Go.Proofs.YtdklemmincejpaaGreat
open Go.RowKit
mutual
/-- A tree's names are the marks from k on; the next mark is k'. -/
def Tm.Mkd : Tm → Nat → Nat → Prop
  | .mk n vs, k, k' => n = markB k ∧ Tm.Mkds vs (k + 1) k'
def Tm.Mkds : List Tm → Nat → Nat → Prop
  | [], k, k' => k = k'
  | a :: us, k, k' => ∃ j, a.Mkd k j ∧ Tm.Mkds us j k'
end
mutual
/-- How many marks a tree takes. -/
def Tm.ct : Tm → Nat | .mk _ vs => 1 + Tm.cts vs
def Tm.cts : List Tm → Nat | [] => 0 | a :: us => a.ct + Tm.cts us
end
mutual
theorem Tm.Mkd.le : ∀ (a : Tm) (k k' : Nat), a.Mkd k k' → k < k'
  | .mk n vs, k, k', h => by rw [Tm.Mkd] at h; have := Tm.Mkds.le vs (k + 1) k' h.2; omega
theorem Tm.Mkds.le : ∀ (us : List Tm) (k k' : Nat), Tm.Mkds us k k' → k ≤ k'
  | [], k, k', h => by rw [Tm.Mkds] at h; omega
  | a :: us, k, k', h => by
    rw [Tm.Mkds] at h
    obtain ⟨j, h1, h2⟩ := h
    have := Tm.Mkd.le a k j h1
    have := Tm.Mkds.le us j k' h2
    omega
end
theorem Tm.Mkds.snoc : ∀ (us : List Tm) (a : Tm) (k j k' : Nat), Tm.Mkds us k j → a.Mkd j k' → Tm.Mkds (us ++ [a]) k k'
  | [], a, k, j, k', h, ha => by rw [Tm.Mkds] at h; subst h; exact ⟨k', ha, rfl⟩
  | b :: us, a, k, j, k', h, ha => by
    rw [Tm.Mkds] at h
    obtain ⟨i, h1, h2⟩ := h
    exact ⟨i, h1, Tm.Mkds.snoc us a i j k' h2 ha⟩
theorem Tm.Mkds.drop {us : List Tm} {i k k' : Nat} (h : Tm.Mkds (us.drop i) k k') (hi : i < us.length) : ∃ j, us[i].Mkd k j ∧ Tm.Mkds (us.drop (i + 1)) j k' := by
  rw [List.drop_eq_getElem_cons hi, Tm.Mkds] at h; exact h
theorem Tm.cts_drop {us : List Tm} {i : Nat} (hi : i < us.length) : Tm.cts (us.drop i) = us[i].ct + Tm.cts (us.drop (i + 1)) := by rw [List.drop_eq_getElem_cons hi, Tm.cts]
theorem Tm.Mkd.of {n : ByteArray} {vs : List Tm} {k k' : Nat} (h : n = markB k) (h2 : Tm.Mkds vs (k + 1) k') : (Tm.mk n vs).Mkd k k' := by rw [Tm.Mkd]; exact ⟨h, h2⟩
/-- All blocks outside S are as they were. -/
structure Kept (S : Nat → Prop) (w w' : World) : Prop where
  os : w'.os = w.os
  tape : w'.tape = w.tape
  output : w'.output = w.output
  size : w.heap.size ≤ w'.heap.size
  block : ∀ b, b < w.heap.size → ¬ S b → w'.heap[b]? = w.heap[b]?
theorem Kept.refl (S : Nat → Prop) (w : World) : Kept S w w := ⟨rfl, rfl, rfl, Nat.le_refl _, fun _ _ _ => rfl⟩
theorem Kept.trans {S : Nat → Prop} {w w1 w2 : World} (h : Kept S w w1) (h2 : Kept S w1 w2) : Kept S w w2 :=
  ⟨h2.os.trans h.os, h2.tape.trans h.tape, h2.output.trans h.output, Nat.le_trans h.size h2.size, fun b hb hs => (h2.block b (Nat.lt_of_lt_of_le hb h.size) hs).trans (h.block b hb hs)⟩
theorem Kept.below {S : Nat → Prop} {w w1 w2 : World} (h : Kept S w w1) (h2 : Below w1.heap.size w1 w2) : Kept S w w2 :=
  ⟨h2.os.trans h.os, h2.tape.trans h.tape, h2.output.trans h.output, Nat.le_trans h.size h2.size, fun b hb hs => (h2.block b (Nat.lt_of_lt_of_le hb h.size)).trans (h.block b hb hs)⟩
theorem Kept.set {S : Nat → Prop} {w w1 : World} (h : Kept S w w1) {g : Nat} (hg : S g) (j : Nat) (v : Value) : Kept S w (w1.setCell ⟨g, j, none⟩ v) :=
  ⟨h.os, h.tape, h.output, by simpa using h.size, fun b hb hs => (heap_setCell_other w1 ⟨g, j, none⟩ b v (fun e => hs (by have e' : b = g := e; rw [e']; exact hg))).trans (h.block b hb hs)⟩
theorem Kept.mono {S S' : Nat → Prop} {w w1 : World} (h : Kept S w w1) (hS : ∀ b, S b → S' b) : Kept S' w w1 := ⟨h.os, h.tape, h.output, h.size, fun b hb hs => h.block b hb (fun e => hs (hS b e))⟩
theorem blk_lt {w : World} {b : Nat} {o : Obj} (h : w.heap[b]? = some o) : b < w.heap.size := by
  rcases Nat.lt_or_ge b w.heap.size with h' | h'
  · exact h'
  · rw [Array.getElem?_eq_none h'] at h; cases h
theorem markB_size (q : Nat) (h : q ≤ 1000000) : (markB q).size ≤ maxLen := by
  have := markL_len q
  simp only [markB, ByteArray.size, List.size_toArray, List.length_cons]
  unfold maxLen; omega
/-- Block g's cells from a place on are cs, all others as in cur. -/
def Patch (cur cur' : Array Value) (o : Nat) (cs : List Value) : Prop := cur'.size = cur.size ∧ (∀ j, j < cs.length → cur'[o + j]? = cs[j]?) ∧ ∀ k, (k < o ∨ o + cs.length ≤ k) → cur'[k]? = cur[k]?
theorem Patch.refl {cur : Array Value} {o : Nat} {cs : List Value} (h : ∀ j, j < cs.length → cur[o + j]? = cs[j]?) : Patch cur cur o cs := ⟨rfl, h, fun _ _ => rfl⟩
theorem Patch.set {cur cur' : Array Value} {o : Nat} {cs : List Value} (h : Patch cur cur' o cs) {j : Nat} (hj : j < cs.length) (hb : o + cs.length ≤ cur.size) (v : Value) : Patch cur (cur'.setIfInBounds (o + j) v) o (cs.set j v) := by
  obtain ⟨h1, h2, h3⟩ := h
  refine ⟨by simpa using h1, fun i hi => ?_, fun k hk => ?_⟩
  · rw [List.length_set] at hi
    by_cases e : j = i
    · subst e
      rw [Array.getElem?_setIfInBounds_self_of_lt (by omega), List.getElem?_set_self hj]
    · rw [Array.getElem?_setIfInBounds_ne (by omega), List.getElem?_set_ne e, h2 i hi]
  · rw [List.length_set] at hk
    rw [Array.getElem?_setIfInBounds_ne (by omega), h3 k hk]
theorem OwnRow.elem {α : Type} {S : Nat → Prop} {w : World} {e : TypeId} {size : Nat} {R : (Nat → Prop) → α → List Value → Prop} {v : Value} {xs : List α} {i : Nat} {x : α} (h : OwnRow S w e size R v xs) (hi : xs[i]? = some x) :
    ∃ (g cap : Nat) (cs : List Value) (Si : Nat → Prop) (cur : Array Value), v = .slice (some ⟨g, 0, none⟩) xs.length cap ∧ S g ∧ w.heap[g]? = some (.cells cur e (0, 0)) ∧ cs.length = size ∧ i * size + size ≤ cur.size ∧ (∀ j, j < size → cur[i * size + j]? = cs[j]?) ∧ R Si x cs ∧ (∀ b, Si b → S b ∧ b ≠ g) ∧
      ∀ (w' : World) (x' : α) (cs' : List Value) (cur' : Array Value) (R' : (Nat → Prop) → α → List Value → Prop), cs'.length = size → w'.heap[g]? = some (.cells cur' e (0, 0)) → Patch cur cur' (i * size) cs' → R' Si x' cs' → (∀ T y c, (∀ b, T b → S b ∧ b ≠ g ∧ ¬ Si b) → R T y c → R' T y c) → OwnRow S w' e size R' v (xs.set i x') := by
  obtain ⟨hm, vals, Ss, h1, h2, h3, h4⟩ := h
  have hlt : i < xs.length := (List.getElem?_eq_some_iff.1 hi).1
  rcases h1.2 with ⟨rfl, h0⟩ | ⟨g, cap, cur, rfl, _, hh, hc1, hc2, hc3, hc4⟩
  · omega
  have h5 : (i + 1) * size ≤ xs.length * size := Nat.mul_le_mul_right _ hlt
  rw [Nat.succ_mul] at h5
  have h6 : xs.length * size ≤ cap * size := Nat.mul_le_mul_right _ hc1
  have hvl : vals.length = xs.length * size := h1.1
  have hcv : ∀ k, k < xs.length * size → cur[k]? = vals[k]? := fun k hk => by
    rw [← hc4, List.getElem?_take, if_pos hk]; simp
  refine ⟨g, cap, (vals.drop (i * size)).take size, Ss i, cur, rfl, h2 g rfl, hh, by rw [List.length_take, List.length_drop]; omega, by omega, fun j hj => ?_, (h3 i x hi).1, fun b hb => ⟨((h3 i x hi).2 b hb).1, fun e => ((h3 i x hi).2 b hb).2 (by rw [e]; rfl)⟩, ?_⟩
  · rw [hcv _ (by omega), List.getElem?_take, if_pos hj, List.getElem?_drop]
  · intro w' x' cs' cur' R' hl hh' hp hx' hR
    have hcur' : ∀ k, k < xs.length * size → (cur'.toList.take (xs.length * size))[k]? = cur'[k]? := fun k hk => by rw [List.getElem?_take, if_pos hk]; simp
    have e1 : cur'.toList.length = cap * size := (Array.length_toList (xs := cur')).trans (hp.1.trans hc3)
    have hlen' : (cur'.toList.take (xs.length * size)).length = (xs.set i x').length * size := by rw [List.length_take, e1, List.length_set]; omega
    refine ⟨by simpa using hm, cur'.toList.take (xs.length * size), Ss, ⟨hlen', .inr ⟨g, cap, cur', by rw [List.length_set], Nat.zero_le _, hh', by rw [List.length_set]; exact hc1, hc2, by rw [hp.1]; exact hc3, by rw [List.length_set]⟩⟩, h2, fun j y hy => ?_, fun j j' b hj hj' hne => h4 j j' b (by simpa using hj) (by simpa using hj') hne⟩
    have hj : j < xs.length := by have := (List.getElem?_eq_some_iff.1 hy).1; simpa using this
    have h7 : (j + 1) * size ≤ xs.length * size := Nat.mul_le_mul_right _ hj
    rw [Nat.succ_mul] at h7
    by_cases ej : i = j
    · subst ej
      rw [List.getElem?_set_self hlt] at hy
      obtain rfl : x' = y := Option.some.inj hy
      refine ⟨?_, (h3 i x hi).2⟩
      have : ((cur'.toList.take (xs.length * size)).drop (i * size)).take size = cs' := by
        apply List.ext_getElem?
        intro k
        rw [List.getElem?_take]
        split
        · rename_i hk
          rw [List.getElem?_drop, hcur' _ (by omega), hp.2.1 k (by omega)]
        · rw [List.getElem?_eq_none (by omega)]
      rw [this]; exact hx'
    · rw [List.getElem?_set_ne ej] at hy
      obtain ⟨k1, k2⟩ := h3 j y hy
      refine ⟨?_, k2⟩
      have : ((cur'.toList.take (xs.length * size)).drop (j * size)).take size = (vals.drop (j * size)).take size := by
        apply List.ext_getElem?
        intro k
        rw [List.getElem?_take, List.getElem?_take]
        split
        · rename_i hk
          have hside : j * size + k < i * size ∨ i * size + size ≤ j * size + k := by
            rcases Nat.lt_or_ge j i with hlt2 | hge
            · have h8 : (j + 1) * size ≤ i * size := Nat.mul_le_mul_right _ hlt2
              rw [Nat.succ_mul] at h8; omega
            · have h8 : (i + 1) * size ≤ j * size := Nat.mul_le_mul_right _ (by omega)
              rw [Nat.succ_mul] at h8; omega
          rw [List.getElem?_drop, List.getElem?_drop, hcur' _ (by omega), hp.2.2 _ (by omega), hcv _ (by omega)]
        · rfl
      rw [this]
      exact hR _ _ _ (fun b hb => ⟨(k2 b hb).1, fun e => (k2 b hb).2 (by rw [e]; rfl), fun e => h4 i j b hlt hj ej e hb⟩) k1
end Go.Proofs.YtdklemmincejpaaGreat
namespace Go.Proofs.YtdklemmincejpaaGreat
open Go.RowKit
/-- A text is accepted exactly if it is the English of a valid formula and no longer than the limit. -/
def etfOk (s : ByteArray) : Bool := decide (s.size ≤ 12000) && pOk s.data.toList
def etfF (s : ByteArray) : Fm := if etfOk s then (pRead s.data.toList).1 else opF 0 []
/-- The answer's value: a formula that owns new memory, and whether the text is accepted. -/
def EtfV (n : Nat) (ok : Bool) (F : Fm) (w : World) (e : Ending) (w' : World) : Prop :=
  Below w.heap.size w w' ∧ ∃ v0 v1 v2 v3 v4, e = .returned (.tuple #[.agg #[v0, v1, v2, v3, v4], .bool ok]) ∧ FmOwn 24 27 n (NewB w w') w' F [v0, v1, v2, v3, v4]
theorem EtfPost.v {n m : Nat} {ok : Bool} {F : Fm} {w w' : World} {e : Ending} (h : EtfPost n ok F w e w') (hn : n ≤ m) (hm : 2 ≤ m) : EtfV m ok (if ok then F else opF 0 []) w e w' := by
  obtain ⟨hb, h⟩ := h
  refine ⟨hb, ?_⟩
  cases ok with
  | true =>
    obtain ⟨x, rfl, v0, v1, v2, v3, v4, rfl, hO⟩ := (show ∃ x, _ ∧ _ from h)
    exact ⟨_, _, _, _, _, rfl, FmOwn.mono _ _ _ _ hn (SameOn.refl _ _) (fun _ h => h) hO⟩
  | false =>
    have he : e = _ := h
    obtain ⟨m', rfl⟩ : ∃ q, m = q + 2 := ⟨m - 2, by omega⟩
    exact ⟨_, _, _, _, _, he, opF_own (by omega) (OwnRow.nil _ _ _ _ _)⟩
theorem EtfV.zero {m : Nat} {w w' : World} {e : Ending} (h : e = .returned (.tuple #[.agg #[.int .i64 0, .string ⟨#[]⟩, .slice none 0 0, .string ⟨#[]⟩, .slice none 0 0], .bool false]) ∧ Below w.heap.size w w') (hm : 2 ≤ m) : EtfV m false (opF 0 []) w e w' := by
  obtain ⟨m', rfl⟩ : ∃ q, m = q + 2 := ⟨m - 2, by omega⟩
  exact ⟨h.2, _, _, _, _, _, h.1, opF_own (by omega) (OwnRow.nil _ _ _ _ _)⟩
mutual
theorem Tm.ct_wt : ∀ t : Tm, t.ct ≤ t.wt + 1
  | .mk n us => by have := Tm.cts_wt us; rw [Tm.ct, Tm.wt]; omega
theorem Tm.cts_wt : ∀ us : List Tm, Tm.cts us ≤ us.length + Tm.wts us
  | [] => by simp [Tm.cts]
  | a :: us => by have := Tm.ct_wt a; have := Tm.cts_wt us; rw [Tm.cts, Tm.wts, List.length_cons]; omega
end
theorem Tm.cts_us (t : Tm) : Tm.cts t.us ≤ t.wt := by
  obtain ⟨n, us⟩ := t
  have := Tm.cts_wt us
  rw [Tm.wt]; simp only [Tm.us]; omega
end Go.Proofs.YtdklemmincejpaaGreat
namespace Go.Proofs.YtdklemmincejpaaGreat
open Go.RowKit
/-- The literal of a formula, and whether it is one. -/
def litOf (f : Fm) : Lit3 × Bool := if f.op = 4 then (⟨false, (f.ps.headD (opF 0 [])).a⟩, (f.ps.headD (opF 0 [])).op == 3) else (⟨true, f.a⟩, f.op == 3)
/-- The literals of a disjunction. -/
def clsOf : Nat → Fm → Option (List Lit3)
  | 0, _ => none
  | n + 1, f =>
    if f.op = 6 then (if (litOf (f.ps.headD (opF 0 []))).2 then (clsOf n (f.ps.getD 1 (opF 0 []))).map ((litOf (f.ps.headD (opF 0 []))).1 :: ·) else none)
    else if (litOf f).2 then some [(litOf f).1] else none
theorem litOf_fm (l : Lit3) : litOf l.fm = (l, true) := by
  obtain ⟨pos, a⟩ := l
  cases pos
  · show litOf (opF 4 [atomOfF a]) = _
    simp [litOf, opF, atomOfF, Fm.op, Fm.a, Fm.ps]
  · show litOf (atomOfF a) = _
    simp [litOf, atomOfF, Fm.op, Fm.a]
theorem fm_op (l : Lit3) : l.fm.op ≠ 6 := by
  obtain ⟨pos, a⟩ := l
  cases pos
  · show (opF 4 [atomOfF a]).op ≠ 6; simp [opF, Fm.op]
  · show (atomOfF a).op ≠ 6; simp [atomOfF, Fm.op]
theorem clsOf_disj : ∀ (c : List Lit3) (n : Nat), 0 < c.length → c.length ≤ n → clsOf n (disj c) = some c
  | [], _, h, _ => absurd h (by simp)
  | [l], 0, _, h => by simp at h
  | [l], n + 1, _, _ => by rw [disj_one, clsOf, if_neg (fm_op l), litOf_fm]; rfl
  | l :: a :: c, 0, _, h => by simp at h
  | l :: a :: c, n + 1, _, h => by
    have ih := clsOf_disj (a :: c) n (by simp) (by simp at h ⊢; omega)
    rw [disj_cons, clsOf, if_pos (by rfl)]
    show (if (litOf l.fm).2 then (clsOf n (disj (a :: c))).map ((litOf l.fm).1 :: ·) else none) = _
    rw [litOf_fm, ih]; rfl
theorem disj_sz : ∀ (c : List Lit3), 0 < c.length → (disj c).sz ≤ 3 * c.length ∧ c.length ≤ (disj c).sz
  | [], h => absurd h (by simp)
  | [l], _ => by
    obtain ⟨pos, a⟩ := l
    cases pos
    · show (opF 4 [atomOfF a]).sz ≤ _ ∧ _ ≤ (opF 4 [atomOfF a]).sz; simp [opF, atomOfF, Fm.sz, Fm.szs]
    · show (atomOfF a).sz ≤ _ ∧ _ ≤ (atomOfF a).sz; simp [atomOfF, Fm.sz, Fm.szs]
  | l :: a :: c, _ => by
    have ih := disj_sz (a :: c) (by simp)
    have h1 : l.fm.sz ≤ 2 ∧ 1 ≤ l.fm.sz := by
      obtain ⟨pos, a⟩ := l
      cases pos
      · show (opF 4 [atomOfF a]).sz ≤ _ ∧ _ ≤ (opF 4 [atomOfF a]).sz; simp [opF, atomOfF, Fm.sz, Fm.szs]
      · show (atomOfF a).sz ≤ _ ∧ _ ≤ (atomOfF a).sz; simp [atomOfF, Fm.sz, Fm.szs]
    have e : (opF 6 [l.fm, disj (a :: c)]).sz = 1 + (l.fm.sz + ((disj (a :: c)).sz + 0)) := by rw [opF, Fm.sz, Fm.szs, Fm.szs, Fm.szs]
    rw [disj_cons, e]
    simp only [List.length_cons] at ih ⊢
    omega
theorem disj_good {c : List Lit3} (h0 : 0 < c.length) (hg : Cls.good c = true) : (disj c).good = true := by
  have h := good_atoms hg
  have h1 := disj_sz c h0
  rw [Fm.good, disj_form c h0 h.2, Bool.and_true, decide_eq_true_eq]; omega
/-! ### No clause but the empty one begins as the contradiction -/
theorem contr_word {n X : List UInt8} (h : varB n = true ∨ symB n = true) (hX : BehindW X) : sContr.isPrefixOf (n ++ X) = false := by
  have hn : n.all wordC = true := by rcases h with h | h; exact (varB_word h).1; exact (symB_word h).1
  exact kw_no (w := [97]) hn hX (by decide) (.inr (by cases hX <;> rfl))
theorem contr_atom {t : Tm} (h : t.atom = true) (R : List UInt8) : sContr.isPrefixOf (t.eng ++ R) = false := by
  cases atom_cases h with
  | eq a b ha hb =>
    rw [eng_eq, List.append_assoc, List.append_assoc]
    obtain ⟨n, X, hn, he, hX⟩ := fmt_split ha (sEquals ++ (b.fmt ++ R))
    rw [he]
    refine contr_word hn ?_
    rcases hX with ⟨Y, rfl⟩ | rfl
    · exact .open_ _
    · exact .equals _
  | pred n us hs hu hd =>
    rw [eng_pred hs]
    split
    · rw [List.append_assoc]; exact contr_word (.inr hs) (.holds _)
    · rw [List.append_assoc, List.append_assoc]; exact contr_word (.inr hs) (.holds ([32, 111, 102, 32] ++ (joinB sComma (Tm.fmtL us) ++ R)))
theorem fm_eng (l : Lit3) : l.fm.eng = if l.pos then l.a.eng else sNot ++ l.a.eng := by
  obtain ⟨pos, a⟩ := l
  cases pos
  · show (opF 4 [atomOfF a]).eng = _; rw [eng_neg, eng_atm]; rfl
  · show (atomOfF a).eng = _; rw [eng_atm]; rfl
theorem contr_fm {l : Lit3} (h : l.a.atom = true) (R : List UInt8) : sContr.isPrefixOf (l.fm.eng ++ R) = false := by
  rw [fm_eng]; split
  · exact contr_atom h R
  · rfl
theorem contr_disj : ∀ (c : List Lit3), 0 < c.length → (∀ l ∈ c, l.a.atom = true) → ∀ R, sContr.isPrefixOf ((disj c).eng ++ R) = false
  | [], h, _, _ => absurd h (by simp)
  | [l], _, h, R => by rw [disj_one]; exact contr_fm (h l (by simp)) R
  | l :: a :: c, _, _, R => by rw [disj_cons, eng_or]; rfl
theorem disj_contr {c : List Lit3} (h0 : 0 < c.length) (ha : ∀ l ∈ c, l.a.atom = true) : (disj c).eng ≠ sContr := fun e => by
  have h := contr_disj c h0 ha []
  rw [e] at h
  exact absurd h (by decide)
/-! ### The program's side -/
def iFm (s : ByteArray) : Option (List Lit3) := if etfOk s then clsOf ((etfF s).sz + 1) (etfF s) else none
def iOk (s : ByteArray) : Bool := (s.data.toList == sContr) || match iFm s with | some c => Cls.good c && (Cls.eng c == s.data.toList) | none => false
def iC (s : ByteArray) : List Lit3 := if s.data.toList = sContr then [] else if iOk s then (iFm s).getD [] else []
/-- A valid clause whose English is the text, which is no longer than the limit. -/
def EngOf (s : ByteArray) (c : List Lit3) : Prop := s.size ≤ 12000 ∧ Cls.good c = true ∧ Cls.eng c = s.data.toList
theorem iOk_of {s : ByteArray} (h : iOk s = true) : EngOf s (iC s) := by
  rw [iC]
  by_cases hc : s.data.toList = sContr
  · rw [if_pos hc]
    exact ⟨by rw [size_list, hc]; decide, rfl, hc.symm⟩
  · rw [if_neg hc, if_pos h]
    have hb : (s.data.toList == sContr) = false := by simpa using hc
    rw [iOk, hb, Bool.false_or] at h
    have hf : iFm s = if etfOk s then clsOf ((etfF s).sz + 1) (etfF s) else none := rfl
    revert h
    cases hi : iFm s with
    | none => simp
    | some c =>
      intro h
      simp only [Bool.and_eq_true, beq_iff_eq] at h
      rw [hi] at hf
      have hok : etfOk s = true := by
        cases hk : etfOk s
        · rw [hk] at hf; simp at hf
        · rfl
      simp only [etfOk, Bool.and_eq_true, decide_eq_true_eq] at hok
      exact ⟨hok.1, h.1, h.2⟩
theorem iOk_yes {s : ByteArray} {c : List Lit3} (h : EngOf s c) : iOk s = true ∧ iC s = c := by
  obtain ⟨hs, hg, he⟩ := h
  by_cases h0 : c.length = 0
  · obtain rfl : c = [] := List.eq_nil_of_length_eq_zero h0
    have hc : s.data.toList = sContr := he.symm
    rw [iOk, iC, if_pos hc, hc]; exact ⟨rfl, rfl⟩
  · have h0' : 0 < c.length := by omega
    have hE : (disj c).eng = s.data.toList := by rw [← he, Cls.eng, if_neg h0]
    have hne : s.data.toList ≠ sContr := by rw [← hE]; exact disj_contr h0' (good_atoms hg).2
    have hb : (s.data.toList == sContr) = false := by simpa using hne
    have hok : etfOk s = true := by rw [etfOk, decide_eq_true hs, Bool.true_and]; exact pOk_iff.2 ⟨_, disj_good h0' hg, hE⟩
    have hF : etfF s = disj c := by rw [etfF, if_pos hok]; exact pOk_read (disj_good h0' hg) hE
    have hi : iFm s = some c := by rw [iFm, if_pos hok, hF]; exact clsOf_disj c _ h0' (by have := (disj_sz c h0').2; omega)
    have hk : iOk s = true := by rw [iOk, hb, hi]; simp [hg, he]
    exact ⟨hk, by rw [iC, if_neg hne, if_pos hk, hi]; rfl⟩
/-! ### The reference's side -/
def rLit (L : List UInt8) (p : PSt) : Lit3 × PSt := if pTake L sNot p then (⟨false, (qAtom L (pAdv sNot p)).1.a⟩, (qAtom L (pAdv sNot p)).2) else (⟨true, (qAtom L p).1.a⟩, (qAtom L p).2)
def rLits (L : List UInt8) : Nat → PSt → List Lit3 × PSt
  | 0, p => ([], p)
  | f + 1, p => if pTake L sEither p then ((rLit L (pAdv sEither p)).1 :: (rLits L f (pMust L sOr (rLit L (pAdv sEither p)).2)).1, (rLits L f (pMust L sOr (rLit L (pAdv sEither p)).2)).2) else ([(rLit L p).1], (rLit L p).2)
def rCls (L : List UInt8) (p : PSt) : List Lit3 × PSt := if pTake L sContr p then ([], pAdv sContr p) else rLits L (L.length + 2) p
theorem rLit_ok {L : List UInt8} {l : Lit3} {k : Nat} {R : List UInt8} (h : l.a.atom = true) (hL : L.drop k = l.fm.eng ++ R) (hR : GoodR R) : rLit L ⟨k, false⟩ = (l, ⟨k + l.fm.eng.length, false⟩) := by
  obtain ⟨pos, a⟩ := l
  rw [fm_eng] at hL ⊢
  cases pos
  · have e0 : L.drop k = sNot ++ (a.eng ++ R) := by rw [hL]; simp [List.append_assoc]
    have e1 := drop_adv e0
    have h1 := qAtom_ok h e1 hR
    rw [rLit, if_pos (pTake_yes e0)]
    simp only [pAdv] at h1 ⊢
    rw [h1]
    refine Prod.ext rfl ?_
    show PSt.mk _ _ = PSt.mk _ _
    congr 1
    rw [if_neg (by simp), List.length_append]; omega
  · have e0 : L.drop k = a.eng ++ R := hL
    have hn : pTake L sNot ⟨k, false⟩ = false := pTake_no e0 (atom_noKw h R _ (by simp))
    rw [rLit, if_neg (by rw [hn]; simp), qAtom_ok h e0 hR]
    rfl
theorem rLit_either {L : List UInt8} {l : Lit3} {k : Nat} {R : List UInt8} (h : l.a.atom = true) (hL : L.drop k = l.fm.eng ++ R) : pTake L sEither ⟨k, false⟩ = false := by
  refine pTake_no hL ?_
  rw [fm_eng]; split
  · exact atom_noKw h R _ (by simp)
  · rfl
theorem rLits_ok {L : List UInt8} : ∀ (c : List Lit3) (f k : Nat), 0 < c.length → (∀ l ∈ c, l.a.atom = true) → L.drop k = (disj c).eng → (disj c).eng.length < f → rLits L f ⟨k, false⟩ = (c, ⟨k + (disj c).eng.length, false⟩)
  | [], _, _, h, _, _, _ => absurd h (by simp)
  | _, 0, _, _, _, _, h => absurd h (by omega)
  | [l], f + 1, k, _, ha, hL, _ => by
    rw [disj_one] at hL ⊢
    have e0 : L.drop k = l.fm.eng ++ [] := by rw [hL, List.append_nil]
    rw [rLits, if_neg (by rw [rLit_either (ha l (by simp)) e0]; simp), rLit_ok (ha l (by simp)) e0 .nil]
  | l :: a :: c, f + 1, k, _, ha, hL, hf => by
    rw [disj_cons, eng_or] at hL hf ⊢
    have e0 : L.drop k = sEither ++ (l.fm.eng ++ (sOr ++ (disj (a :: c)).eng)) := by rw [hL]; simp [List.append_assoc]
    have e1 := drop_adv e0
    have e2 := drop_adv e1
    have e3 := drop_adv e2
    have h1 := rLit_ok (ha l (by simp)) e1 (.or _)
    have h2 := pMust_yes e2
    have hl : sEither.length = 7 ∧ sOr.length = 4 := ⟨rfl, rfl⟩
    simp only [List.length_append] at hf ⊢
    have h3 := rLits_ok (a :: c) f _ (by simp) (fun x hx => ha x (List.mem_cons_of_mem _ hx)) e3 (by omega)
    rw [rLits, if_pos (pTake_yes e0)]
    simp only [pAdv] at h1 h2 h3 ⊢
    rw [h1]
    simp only
    rw [h2, h3]
    refine Prod.ext rfl ?_
    show PSt.mk _ _ = PSt.mk _ _
    congr 1
    omega
def rOk (s : ByteArray) : Bool := decide (s.size ≤ 12000) && (!(rCls s.data.toList ⟨0, false⟩).2.bad && (rCls s.data.toList ⟨0, false⟩).2.pos == s.size && Cls.good (rCls s.data.toList ⟨0, false⟩).1 && (Cls.eng (rCls s.data.toList ⟨0, false⟩).1 == s.data.toList))
def rC (s : ByteArray) : List Lit3 := if rOk s then (rCls s.data.toList ⟨0, false⟩).1 else []
theorem rOk_of {s : ByteArray} (h : rOk s = true) : EngOf s (rC s) := by
  rw [rC, if_pos h]
  simp only [rOk, Bool.and_eq_true, decide_eq_true_eq, beq_iff_eq] at h
  exact ⟨h.1, h.2.1.2, h.2.2⟩
theorem rOk_yes {s : ByteArray} {c : List Lit3} (h : EngOf s c) : rOk s = true ∧ rC s = c := by
  obtain ⟨hs, hg, he⟩ := h
  have key : rCls s.data.toList ⟨0, false⟩ = (c, ⟨s.size, false⟩) := by
    by_cases h0 : c.length = 0
    · obtain rfl : c = [] := List.eq_nil_of_length_eq_zero h0
      have hc : s.data.toList = sContr := he.symm
      rw [size_list, hc]; rfl
    · have h0' : 0 < c.length := by omega
      have hE : (disj c).eng = s.data.toList := by rw [← he, Cls.eng, if_neg h0]
      have ha := (good_atoms hg).2
      have hn : pTake s.data.toList sContr ⟨0, false⟩ = false := pTake_no (T := (disj c).eng ++ []) (by rw [hE, List.append_nil]; rfl) (contr_disj c h0' ha [])
      rw [rCls, if_neg (by rw [hn]; simp), rLits_ok c _ 0 h0' ha (by rw [hE]; rfl) (by rw [hE]; omega), hE, size_list, Nat.zero_add]
  have hk : rOk s = true := by rw [rOk, key]; simp [hs, hg, he]
  exact ⟨hk, by rw [rC, if_pos hk, key]⟩
/-- Both sides answer the same. -/
theorem sides_eq (s : ByteArray) : iOk s = rOk s ∧ iC s = rC s := by
  cases hi : iOk s
  · cases hr : rOk s
    · refine ⟨rfl, ?_⟩
      have hc : s.data.toList ≠ sContr := fun e => by rw [iOk, e] at hi; simp at hi
      rw [iC, rC, if_neg hc, if_neg (by rw [hi]; simp), if_neg (by rw [hr]; simp)]
    · have := (iOk_yes (rOk_of hr)).1
      rw [hi] at this; cases this
  · have h := rOk_yes (iOk_of hi)
    exact ⟨h.1.symm, h.2.symm⟩
theorem iC_le (s : ByteArray) : (iC s).length ≤ 8 := by
  cases hi : iOk s
  · rw [iC]; split <;> simp [hi]
  · exact (good_atoms (iOk_of hi).2.1).1
end Go.Proofs.YtdklemmincejpaaGreat
namespace Go.Proofs.YtdklemmincejpaaGreat
open Go.RowKit
def LitOwn (eT : TypeId) (n : Nat) (S : Nat → Prop) (w : World) (l : Lit3) (cs : List Value) : Prop := ∃ vn va, cs = [.bool l.pos, vn, va] ∧ TmOwn eT n S w l.a [vn, va]
theorem LitOwn.mono {eT : TypeId} {n m : Nat} {S S' : Nat → Prop} {w w' : World} {l : Lit3} {cs : List Value} (hm : n ≤ m) (hs : SameOn S w w') (hS : ∀ b, S b → S' b) (h : LitOwn eT n S w l cs) : LitOwn eT m S' w' l cs := by
  obtain ⟨vn, va, h1, h2⟩ := h
  exact ⟨vn, va, h1, TmOwn.mono n m l.a _ hm hs hS h2⟩
theorem LitOwn.at_ {eT : TypeId} {n : Nat} {S : Nat → Prop} {w : World} {l : Lit3} {cs : List Value} (h : LitOwn eT n S w l cs) : LitAt S n w l cs := by
  obtain ⟨vn, va, h1, h2⟩ := h
  exact ⟨vn, va, h1, TmOwn.at_ n l.a _ h2⟩
/-- A clause's row, its atoms' memory apart from it and from one another. -/
def ClsOwn (eT eL : TypeId) (n : Nat) (S : Nat → Prop) (w : World) (c : List Lit3) (v : Value) : Prop := OwnRow S w eL 3 (fun T l cs => LitOwn eT n T w l cs) v c
theorem ClsOwn.mono {eT eL : TypeId} {n m : Nat} {S S' : Nat → Prop} {w w' : World} {c : List Lit3} {v : Value} (hm : n ≤ m) (hs : SameOn S w w') (hS : ∀ b, S b → S' b) (h : ClsOwn eT eL n S w c v) : ClsOwn eT eL m S' w' c v :=
  OwnRow.mono h hs hS (fun T x cs _ hT hx => LitOwn.mono hm (fun b hb hlt => hs b (hT b hb) hlt) (fun _ h => h) hx)
theorem ClsOwn.at_ {eT eL : TypeId} {n : Nat} {S : Nat → Prop} {w : World} {c : List Lit3} {v : Value} (h : ClsOwn eT eL n S w c v) : ClsAt S n w c v :=
  OwnRow.listAt (by omega) h (fun T x cs _ hT hx => LitAt.mono (SameOn.refl _ _) hT (Nat.le_refl _) (LitOwn.at_ hx))
theorem ClsOwn.later {eT eL : TypeId} {n : Nat} {S : Nat → Prop} {w w' : World} {c : List Lit3} {v : Value} (hb : Below w.heap.size w w') (h : ClsOwn eT eL n S w c v) : ClsOwn eT eL n S w' c v := ClsOwn.mono (Nat.le_refl _) (SameOn.below hb) (fun _ h => h) h
theorem ClsOwn.nil (eT eL : TypeId) (n : Nat) (S : Nat → Prop) (w : World) : ClsOwn eT eL n S w [] (.slice none 0 0) := OwnRow.nil _ _ _ _ _
/-! ### Marks -/
def markP (k : Nat) : Bool := (k : Int) % 3 == 0
def Lit3.Mkd (l : Lit3) (k k' : Nat) : Prop := l.pos = markP k ∧ l.a.n = markB (k + 1) ∧ Tm.Mkds l.a.us (k + 2) k'
def Cls.Mkds : List Lit3 → Nat → Nat → Prop
  | [], k, k' => k = k'
  | a :: us, k, k' => ∃ j, a.Mkd k j ∧ Cls.Mkds us j k'
def Lit3.ct (l : Lit3) : Nat := 2 + Tm.cts l.a.us
def Cls.cts : List Lit3 → Nat | [] => 0 | a :: us => a.ct + Cls.cts us
theorem Lit3.Mkd.le {a : Lit3} {k k' : Nat} (h : a.Mkd k k') : k < k' := by have := Tm.Mkds.le _ _ _ h.2.2; omega
theorem Cls.Mkds.le : ∀ (us : List Lit3) (k k' : Nat), Cls.Mkds us k k' → k ≤ k'
  | [], k, k', h => by rw [Cls.Mkds] at h; omega
  | a :: us, k, k', h => by
    rw [Cls.Mkds] at h
    obtain ⟨j, h1, h2⟩ := h
    have := h1.le
    have := Cls.Mkds.le us j k' h2
    omega
theorem Cls.Mkds.snoc : ∀ (us : List Lit3) (a : Lit3) (k j k' : Nat), Cls.Mkds us k j → a.Mkd j k' → Cls.Mkds (us ++ [a]) k k'
  | [], a, k, j, k', h, ha => by rw [Cls.Mkds] at h; subst h; exact ⟨k', ha, rfl⟩
  | b :: us, a, k, j, k', h, ha => by
    rw [Cls.Mkds] at h
    obtain ⟨i, h1, h2⟩ := h
    exact ⟨i, h1, Cls.Mkds.snoc us a i j k' h2 ha⟩
theorem Cls.Mkds.drop {us : List Lit3} {i k k' : Nat} (h : Cls.Mkds (us.drop i) k k') (hi : i < us.length) : ∃ j, us[i].Mkd k j ∧ Cls.Mkds (us.drop (i + 1)) j k' := by
  rw [List.drop_eq_getElem_cons hi, Cls.Mkds] at h; exact h
theorem Cls.cts_drop {us : List Lit3} {i : Nat} (hi : i < us.length) : Cls.cts (us.drop i) = us[i].ct + Cls.cts (us.drop (i + 1)) := by rw [List.drop_eq_getElem_cons hi, Cls.cts]
end Go.Proofs.YtdklemmincejpaaGreat
namespace Go.Proofs.YtdklemmincejpaaGreat
open Go.RowKit
theorem form_neg {f : Fm} (h : f.form = true) (ho : f.op = 4) : ∃ g, f = opF 4 [g] ∧ g.form = true := by
  cases form_cases h with
  | neg g hg => exact ⟨g, rfl, hg⟩
  | tru => exact absurd ho (by simp [opF, Fm.op])
  | fal => exact absurd ho (by simp [opF, Fm.op])
  | atm a ha => exact absurd ho (by simp [atomOfF, Fm.op])
  | bin op g h hop hg hh => exact absurd ho (by show ¬ op = 4; omega)
  | qua op v g hop hv hg => exact absurd ho (by show ¬ op = 4; omega)
theorem form_or {f : Fm} (h : f.form = true) (ho : f.op = 6) : ∃ g g', f = opF 6 [g, g'] ∧ g.form = true ∧ g'.form = true := by
  cases form_cases h with
  | neg g hg => exact absurd ho (by show ¬ (4 : Int) = 6; omega)
  | tru => exact absurd ho (by simp [opF, Fm.op])
  | fal => exact absurd ho (by simp [opF, Fm.op])
  | atm a ha => exact absurd ho (by simp [atomOfF, Fm.op])
  | bin op g g' hop hg hh =>
    obtain rfl : op = 6 := ho
    exact ⟨g, g', rfl, hg, hh⟩
  | qua op v g hop hv hg => exact absurd ho (by show ¬ op = 6; omega)
theorem FmOwn.split {eT eF : TypeId} {n : Nat} {S : Nat → Prop} {w : World} {t : Fm} {v0 v1 v2 v3 v4 : Value} (h : FmOwn eT eF (n + 1) S w t [v0, v1, v2, v3, v4]) :
    ∃ Sa Sp : Nat → Prop, TmOwn eT n Sa w t.a [v1, v2] ∧ OwnRow Sp w eF 5 (fun T f c => FmOwn eT eF n T w f c) v4 t.ps ∧ (∀ b, Sa b → S b ∧ ¬ Sp b) ∧ ∀ b, Sp b → S b := by
  obtain ⟨op, a, x, ps⟩ := t
  obtain ⟨vn, va, vp, Sa, Sp, h1, h2, h3, h4, h5, h6, h7⟩ := h
  simp only [List.cons.injEq, and_true] at h1
  obtain ⟨-, rfl, rfl, -, rfl⟩ := h1
  exact ⟨Sa, Sp, h4, h5, h6, h7⟩
set_option maxRecDepth 100000 in
set_option maxHeartbeats 1600000 in
theorem literalOf_any {m : Nat} {S : Nat → Prop} (f : Fm) (v0 v1 v2 v3 v4 : Value) (w : World) (h : FmOwn 24 27 (m + 2) S w f [v0, v1, v2, v3, v4]) (hf : f.form = true) :
    Calls Tryz.prog 81 #[.agg #[v0, v1, v2, v3, v4]] w fun e w' => ∃ u0 u1 S', e = .returned (.tuple #[.agg #[.bool (litOf f).1.pos, u0, u1], .bool (litOf f).2]) ∧ TmOwn 24 (m + 1) S' w' (litOf f).1.a [u0, u1] ∧ (∀ b, S' b → S b) ∧ Below w.heap.size w w' := by
  by_cases h4 : f.op = 4
  · obtain ⟨g, rfl, hg⟩ := form_neg hf h4
    obtain ⟨p, c, q, d, rfl, rfl, rfl, rfl, rfl, -⟩ := h.form
    obtain ⟨Sa, Sp, -, hrow, -, hSp⟩ := h.split
    obtain ⟨b, cap, cs, Si, cur, hv, -, hh, hcl, -, hcs, hR, hSi, -⟩ := OwnRow.elem hrow (i := 0) (x := g) rfl
    simp only [Value.slice.injEq] at hv
    obtain ⟨rfl, -, rfl⟩ := hv
    have hlen : ∃ x0 x1 x2 x3 x4, cs = [x0, x1, x2, x3, x4] := by
      match cs, hcl with
      | [x0, x1, x2, x3, x4], _ => exact ⟨x0, x1, x2, x3, x4, rfl⟩
    obtain ⟨x0, x1, x2, x3, x4, rfl⟩ := hlen
    obtain ⟨pg, cg, qg, dg, rfl, rfl, rfl, rfl, rfl, -⟩ := FmOwn.form hR
    obtain ⟨Sb, Sq, hT, -, hSb, -⟩ := FmOwn.split hR
    have HT := Lib.hid hT
    have HL := Lib.hid (show litOf (opF 4 [g]) = (⟨false, g.a⟩, g.op == 3) by simp [litOf, opF, Fm.op, Fm.ps])
    have hsub : ∀ b', Sb b' → S b' := fun b' hb => hSp b' (hSi b' (hSb b' hb).1).1
    have cell : ∀ j, w.cell? ⟨b, j, none⟩ = cur[j]? := fun j => cell_of_row w b j cur _ (0, 0) hh
    have y0 : w.cell? ⟨b, 0, none⟩ = some (.int .i64 g.op) := (cell 0).trans (hcs 0 (by omega))
    have y1 : w.cell? ⟨b, 1, none⟩ = some (.string g.a.n) := (cell 1).trans (hcs 1 (by omega))
    have y2 : w.cell? ⟨b, 2, none⟩ = some (.slice pg g.a.us.length cg) := (cell 2).trans (hcs 2 (by omega))
    have y3 : w.cell? ⟨b, 3, none⟩ = some (.string g.v) := (cell 3).trans (hcs 3 (by omega))
    have y4 : w.cell? ⟨b, 4, none⟩ = some (.slice qg g.ps.length dg) := (cell 4).trans (hcs 4 (by omega))
    have zb := bsz (blk_lt hh)
    have hop : (opF 4 [g]).op = 4 := rfl
    clear h hrow hh hcs hR hT cell hf hg h4
    show Calls Tryz.prog 81 #[.agg #[.int .i64 4, .string ⟨#[]⟩, .slice p 0 c, .string ⟨#[]⟩, .slice (some ⟨b, 0, none⟩) 1 d]] w _
    go_enter Tryz.func81, Tryz.ntmps81
    go_wp2
    go_region
    go_wp2
    rw [HL.out]
    refine bodyPost_ret (v := .tuple #[.agg #[.bool false, .string g.a.n, .slice pg g.a.us.length cg], .bool (g.op == 3)]) (by simp only [results, Tryz.results81]; go_simp) rfl ⟨_, _, Sb, rfl, ?_, hsub, by (repeat (first | with_reducible exact Below.refl _ _ | with_reducible assumption | with_reducible refine Below.al ?_ _ | with_reducible refine Below.sc ?_ (by first | exact Nat.le_refl _ | (simp; done) | (simp; omega)) _ | assumption | exact Below.refl _ _ | refine Below.dr ?_ | refine Below.drN ?_ _ | refine Below.step ?_ (by assumption)))⟩
    exact TmOwn.mono m (m + 1) g.a _ (by omega) (SameOn.below (by (repeat (first | with_reducible exact Below.refl _ _ | with_reducible assumption | with_reducible refine Below.al ?_ _ | with_reducible refine Below.sc ?_ (by first | exact Nat.le_refl _ | (simp; done) | (simp; omega)) _ | assumption | exact Below.refl _ _ | refine Below.dr ?_ | refine Below.drN ?_ _ | refine Below.step ?_ (by assumption))))) (fun _ h => h) HT.out
  · obtain ⟨p, c, q, d, rfl, rfl, rfl, rfl, rfl, -⟩ := h.form
    obtain ⟨Sa, Sp, hT, -, hSa, -⟩ := h.split
    have HT := Lib.hid hT
    have HL := Lib.hid (show litOf f = (⟨true, f.a⟩, f.op == 3) by rw [litOf, if_neg h4])
    have hop : (f.op == 4) = false := by simpa using h4
    clear h hT hf
    go_enter Tryz.func81, Tryz.ntmps81
    go_wp2
    go_region
    go_wp2
    rw [HL.out]
    refine bodyPost_ret (v := .tuple #[.agg #[.bool true, .string f.a.n, .slice p f.a.us.length c], .bool (f.op == 3)]) (by simp only [results, Tryz.results81]; go_simp) rfl ⟨_, _, Sa, rfl, ?_, fun b hb => (hSa b hb).1, by (repeat (first | with_reducible exact Below.refl _ _ | with_reducible assumption | with_reducible refine Below.al ?_ _ | with_reducible refine Below.sc ?_ (by first | exact Nat.le_refl _ | (simp; done) | (simp; omega)) _ | assumption | exact Below.refl _ _ | refine Below.dr ?_ | refine Below.drN ?_ _ | refine Below.step ?_ (by assumption)))⟩
    exact TmOwn.below (by (repeat (first | with_reducible exact Below.refl _ _ | with_reducible assumption | with_reducible refine Below.al ?_ _ | with_reducible refine Below.sc ?_ (by first | exact Nat.le_refl _ | (simp; done) | (simp; omega)) _ | assumption | exact Below.refl _ _ | refine Below.dr ?_ | refine Below.drN ?_ _ | refine Below.step ?_ (by assumption)))) HT.out
end Go.Proofs.YtdklemmincejpaaGreat
namespace Go.Proofs.YtdklemmincejpaaGreat
open Go.RowKit
theorem own_unique {w : World} {base : Nat} {e : TypeId} {size : Nat} {v : Value} {n : Nat} {xs ys : List Value} (h : w.ownsRow base e size v n xs) (h' : w.ownsRow base e size v n ys) : xs = ys := by
  obtain ⟨l1, h1⟩ := h
  obtain ⟨l2, h2⟩ := h'
  rcases h1 with ⟨rfl, h0⟩ | ⟨g, cap, cur, rfl, hb, hh, h3, h4, h5, h6⟩
  · subst h0
    rw [Nat.zero_mul] at l1 l2
    rw [List.eq_nil_of_length_eq_zero l1, List.eq_nil_of_length_eq_zero l2]
  · rcases h2 with ⟨hv, _⟩ | ⟨g', cap', cur', hv, _, hh', _, _, _, h6'⟩
    · cases hv
    · simp only [Value.slice.injEq, Option.some.injEq, Addr.mk.injEq] at hv
      obtain ⟨⟨rfl, -⟩, -, rfl⟩ := hv
      rw [hh] at hh'
      simp only [Option.some.injEq, Obj.cells.injEq] at hh'
      rw [← h6, ← h6', hh'.1]
/-- The middle of a parsing: block rb waits for the result, block bt is the struct in the making (a name, the arguments us so far). -/
structure LSt (T : TypeId) (rb bt : Nat) (n : ByteArray) (w : World) (f : Nat) (v : Value) (us : List Tm) (W : World) : Prop where
  res : W.heap[rb]? = some (.cells #[.string ⟨#[]⟩, .slice none 0 0] T (0, 0))
  cell : W.heap[bt]? = some (.cells #[.string n, v] T (0, 0))
  row : OwnRow (fun b => bt < b ∧ b < W.heap.size) W T 2 (fun S x c => TmOwn T f S W x c) v us
  bel : Below w.heap.size w W
  lt : w.heap.size ≤ rb ∧ rb < bt ∧ bt < W.heap.size
theorem LSt.later {T : TypeId} {rb bt : Nat} {n : ByteArray} {w W W' : World} {f : Nat} {v : Value} {us : List Tm} (h : LSt T rb bt n w f v us W) (hb : Below W.heap.size W W') : LSt T rb bt n w f v us W' := by
  have hz := hb.size
  obtain ⟨l1, l2, l3⟩ := h.lt
  exact ⟨(hb.block _ (by omega)).trans h.res, (hb.block _ l3).trans h.cell, h.row.mono (SameOn.below hb) (fun b h => ⟨h.1, by omega⟩) (fun S x c _ _ hx => TmOwn.below hb hx), ⟨hb.os.trans h.bel.os, hb.tape.trans h.bel.tape, hb.output.trans h.bel.output, Nat.le_trans h.bel.size hb.size, fun b hlt => (hb.block b (Nat.lt_of_lt_of_le hlt h.bel.size)).trans (h.bel.block b hlt)⟩, l1, l2, by omega⟩
theorem LSt.app {T : TypeId} {rb bt : Nat} {n : ByteArray} {w W W2 w3 : World} {f : Nat} {v v' v0 v1 : Value} {us : List Tm} {a : Tm} (h : LSt T rb bt n w f v us W) (hb : Below W.heap.size W W2) (hO : TmOwn T f (fun b => W.heap.size ≤ b ∧ b < W2.heap.size) W2 a [v0, v1])
    {vals : List Value} (hv : W2.ownsRow 0 T 2 v us.length vals) (happ : w3.ownsRow 0 T 2 v' (us.length + 1) (vals ++ [v0, v1])) (hg : W2.grownBy w3 v.ownBlock) (hnr : NewRow v v' W2.heap.size) (hlen : us.length + 1 ≤ 1048576) :
    LSt T rb bt n w f v' (us ++ [a]) (w3.setCell ⟨bt, 1, none⟩ v') := by
  have H2 := h.later hb
  obtain ⟨l1, l2, l3⟩ := h.lt
  obtain ⟨-, -, l4⟩ := H2.lt
  have hz := hb.size
  have hz3 := hg.size
  obtain ⟨hm, vals0, Ss, r1, r2, r3, r4⟩ := h.row
  have hvb : ∀ b, v.ownBlock = some b → bt < b ∧ b < W.heap.size := fun b hb => r2 b hb
  have nob : ∀ b, b ≤ bt → v.ownBlock ≠ some b := fun b hb e => by have := hvb b e; omega
  have hnew : ∀ b, v'.ownBlock = some b → bt < b ∧ b < w3.heap.size := fun b hb => ⟨by
    rcases hnr with e | ⟨b', e, hge⟩
    · rw [e] at hb; exact (hvb b hb).1
    · rw [e] at hb; injection hb with hb; omega, own_lt' happ hb⟩
  have hrow := OwnRow.snoc (S' := fun b => bt < b ∧ b < w3.heap.size) (R' := fun S x c => TmOwn T f S w3 x c)
    (h.row.mono (S' := fun b => bt < b ∧ b < W.heap.size) (w' := W2) (R' := fun S x c => TmOwn T f S W2 x c) (SameOn.below hb) (fun _ h => h) (fun S x c _ _ hx => TmOwn.below hb hx)) hO rfl
    (fun vs hvs => by rw [own_unique hvs hv]; exact happ) hg hnr (by unfold maxLen; omega) (fun b hb hS => by omega) (fun b hb => by omega) (fun b hb => hb.2) (fun b hb => by omega) (fun b hb => by omega) hnew
    (fun S x c hS hx => TmOwn.mono f f x c (Nat.le_refl _) (fun b hb hlt => hg.block b hlt (fun e => (hS b hb).2 e.symm)) (fun _ h => h) hx)
  have hbt3 : w3.heap[bt]? = some (.cells #[.string n, v] T (0, 0)) := (hg.block bt l4 (fun e => nob bt (Nat.le_refl _) e.symm)).trans H2.cell
  refine ⟨?_, ?_, ?_, ?_, l1, l2, by simp; omega⟩
  · exact (heap_setCell_other w3 ⟨bt, 1, none⟩ rb v' (by simp; omega)).trans ((hg.block rb (by omega) (fun e => nob rb (by omega) e.symm)).trans H2.res)
  · have := heap_setCell_same w3 bt 1 _ T v' hbt3
    simpa using this
  · exact hrow.mono (fun b hb hlt => heap_setCell_other w3 ⟨bt, 1, none⟩ b v' (by simp; omega)) (fun b hb => by simpa using hb)
      (fun S x c _ hS hx => TmOwn.mono f f x c (Nat.le_refl _) (fun b hb hlt => heap_setCell_other w3 ⟨bt, 1, none⟩ b v' (by have := hS b hb; simp; omega)) (fun _ h => h) hx)
  · have hb2 := H2.bel
    exact ⟨hg.os.trans hb2.os, hg.tape.trans hb2.tape, hg.output.trans hb2.output, by have := hb2.size; simp; omega, fun b hlt => (heap_setCell_other w3 ⟨bt, 1, none⟩ b v' (by simp; omega)).trans ((hg.block b (by have := hb2.size; omega) (fun e => nob b (by omega) e.symm)).trans (hb2.block b hlt))⟩
/-- What the parsing of a term answers. -/
def GotTm (T : TypeId) (f : Nat) (r : Option (Tm × Nat)) (w : World) (x : Value) (w' : World) : Prop :=
  Below w.heap.size w w' ∧ ∃ (s : ByteArray) (p : Option Addr) (k c : Nat) (z : Int), x = .tuple #[.agg #[.string s, .slice p k c], .int .i64 z] ∧ match r with
    | none => z = -1
    | some (t, j) => z = (j : Nat) ∧ TmOwn T f (fun b => w.heap.size ≤ b ∧ b < w'.heap.size) w' t [.string s, .slice p k c]
/-- The struct is handed over. -/
theorem LSt.done {T : TypeId} {rb bt : Nat} {n : ByteArray} {w W : World} {f : Nat} {p : Option Addr} {k c : Nat} {us : List Tm} (h : LSt T rb bt n w f (.slice p k c) us W) (hn : n.size ≤ maxLen) (a b : Value) (j : Nat) :
    GotTm T (f + 1) (some (.mk n us, j)) w (.tuple #[.agg #[.string n, .slice p k c], .int .i64 (j : Nat)]) ((W.setCell ⟨rb, 0, none⟩ a).setCell ⟨rb, 1, none⟩ b) := by
  obtain ⟨l1, l2, l3⟩ := h.lt
  have hk : ∀ c, c ≠ rb → ((W.setCell ⟨rb, 0, none⟩ a).setCell ⟨rb, 1, none⟩ b).heap[c]? = W.heap[c]? := fun c hc => (heap_setCell_other _ ⟨rb, 1, none⟩ c b (fun e => hc e)).trans (heap_setCell_other W ⟨rb, 0, none⟩ c a (fun e => hc e))
  have hb := h.bel
  refine ⟨⟨hb.os, hb.tape, hb.output, by simpa using hb.size, fun c hc => (hk c (by omega)).trans (hb.block c hc)⟩, _, _, _, _, _, rfl, rfl, _, rfl, hn, ?_⟩
  exact h.row.mono (fun c hc _ => hk c (by omega)) (fun c hc => by simp; omega)
      (fun S x c _ hS hx => TmOwn.mono f f x c (Nat.le_refl _) (fun d hd _ => hk d (by have := (hS d hd).1; omega)) (fun _ h => h) hx)
theorem LSt.none {T : TypeId} {rb bt : Nat} {n : ByteArray} {w W : World} {f f' : Nat} {p : Option Addr} {k c : Nat} {us : List Tm} (h : LSt T rb bt n w f (.slice p k c) us W) (a b : Value) :
    GotTm T f' none w (.tuple #[.agg #[.string n, .slice p k c], .int .i64 (-1)]) ((W.setCell ⟨rb, 0, none⟩ a).setCell ⟨rb, 1, none⟩ b) := by
  obtain ⟨l1, l2, l3⟩ := h.lt
  have hb := h.bel
  exact ⟨⟨hb.os, hb.tape, hb.output, by simpa using hb.size, fun c hc => ((heap_setCell_other _ ⟨rb, 1, Option.none⟩ c b (by simp; omega)).trans (heap_setCell_other W ⟨rb, 0, Option.none⟩ c a (by simp; omega))).trans (hb.block c hc)⟩, _, _, _, _, _, rfl, rfl⟩
theorem LSt.init {T : TypeId} {n : ByteArray} {w wr : World} {f : Nat} (hbr : Below (w.alloc (.cells #[.string ⟨#[]⟩, .slice Option.none 0 0] T)).heap.size (w.alloc (.cells #[.string ⟨#[]⟩, .slice Option.none 0 0] T)) wr) :
    LSt T w.heap.size wr.heap.size n w f (.slice Option.none 0 0) [] (wr.alloc (.cells #[.string n, .slice Option.none 0 0] T)) := by
  have hz := hbr.size
  simp at hz
  refine ⟨(hao wr _ _ (by omega)).trans ((hbr.block _ (by simp)).trans (heap_alloc_new w _)), heap_alloc_new wr _, OwnRow.nil _ _ _ _ _, ⟨hbr.os, hbr.tape, hbr.output, by simp; omega, fun b hlt => (hao wr _ _ (by omega)).trans ((hbr.block b (by simp; omega)).trans (hao w _ _ hlt))⟩, Nat.le_refl _, by omega, by simp⟩
theorem LSt.three {T : TypeId} {rb bt : Nat} {n : ByteArray} {w W w3 : World} {f : Nat} {v v' : Value} {us : List Tm} {ys : List Value} (h : LSt T rb bt n w f v us W) (happ : w3.ownsRow 0 T 2 v' (us.length + 1) ys) (hg : W.grownBy w3 v.ownBlock) :
    (∃ q c, v' = .slice (some ⟨q, 0, Option.none⟩) (us.length + 1) c) ∧ w3.heap[bt]? = some (.cells #[.string n, v] T (0, 0)) ∧ w3.heap[rb]? = some (.cells #[.string ⟨#[]⟩, .slice Option.none 0 0] T (0, 0)) := by
  obtain ⟨l1, l2, l3⟩ := h.lt
  obtain ⟨hm, vals, Ss, r1, r2, r3, r4⟩ := h.row
  exact ⟨own_form happ (by omega), (hg.block bt l3 (fun e => by have := (r2 bt e.symm).1; omega)).trans h.cell, (hg.block rb (by omega) (fun e => by have := (r2 rb e.symm).1; omega)).trans h.res⟩
theorem byte_40 (c : UInt8) : ((c.toNat : Int) == 40) = (c == 40) := by
  rw [Bool.eq_iff_iff, beq_iff_eq, beq_iff_eq]
  exact ⟨fun e => UInt8.toNat_inj.1 (show c.toNat = 40 by omega), fun e => by subst e; rfl⟩
theorem byte_41 (c : UInt8) : ((c.toNat : Int) == 41) = (c == 41) := by
  rw [Bool.eq_iff_iff, beq_iff_eq, beq_iff_eq]
  exact ⟨fun e => UInt8.toNat_inj.1 (show c.toNat = 41 by omega), fun e => by subst e; rfl⟩
theorem byte_44 (c : UInt8) : ((c.toNat : Int) == 44) = (c == 44) := by
  rw [Bool.eq_iff_iff, beq_iff_eq, beq_iff_eq]
  exact ⟨fun e => UInt8.toNat_inj.1 (show c.toNat = 44 by omega), fun e => by subst e; rfl⟩
theorem extract_le (s : ByteArray) (k j : Nat) (h : s.size ≤ 1000000) : (s.extract k j).size ≤ maxLen := by
  rw [size_list, extract_list, List.length_drop, List.length_take, ← size_list]; unfold maxLen; omega
theorem list_at (s : ByteArray) (j : Nat) (h : j < s.size) : s.data.toList[j]? = some s[j] := by
  rw [List.getElem?_eq_getElem (by rw [← size_list]; exact h)]; rfl
theorem AppSt.keep {T : TypeId} {g bt n i j k : Nat} {CP : Value → World → Prop} {v : Value} {W : World} (hG : ∀ x w', CP x w' → W.grownBy w' (some g)) {c : Nat} (hc : c < W.heap.size) (hne : c ≠ g) (hv : v.ownBlock ≠ some c) (hbt : c ≠ bt) {m : Nat} {u : Nat → Value} {w : World} (h : AppSt T g bt CP v n W i j k m u w) : w.heap[c]? = W.heap[c]? := by
  have h1 : ∀ x w1, CP x w1 → w1.heap[c]? = W.heap[c]? ∧ c < w1.heap.size := fun x w1 h => ⟨(hG _ _ h).block c hc (by simpa using hne), Nat.lt_of_lt_of_le hc (hG _ _ h).size⟩
  match m, h with
  | 0, h => obtain rfl : w = W.drew := h; rfl
  | 1, h => exact (h1 _ _ h).1
  | 2, h =>
    obtain ⟨w1, v0, v1, h2, _, rfl⟩ := h
    exact (hao w1 _ _ (h1 _ _ h2).2).trans (h1 _ _ h2).1
  | 3, h =>
    obtain ⟨w1, v0, v1, h2, -, hg, -⟩ := h
    exact (hg.block c (h1 _ _ h2).2 (fun e => hv e.symm)).trans (h1 _ _ h2).1
  | 4, h =>
    obtain ⟨w1, w3, v0, v1, h2, -, hg, -, -, rfl⟩ := h
    exact (heap_setCell_other w3 ⟨bt, 1, Option.none⟩ c _ (fun e => hbt e)).trans ((hg.block c (h1 _ _ h2).2 (fun e => hv e.symm)).trans (h1 _ _ h2).1)
theorem LSt.out {T : TypeId} {rb bt : Nat} {n : ByteArray} {w W : World} {f : Nat} {p : Option Addr} {k c : Nat} {us : List Tm} (h : LSt T rb bt n w f (.slice p k c) us W) (hn : n.size ≤ maxLen) (a b : Value) :
    Below w.heap.size w ((W.setCell ⟨rb, 0, Option.none⟩ a).setCell ⟨rb, 1, Option.none⟩ b) ∧ TmOwn T (f + 1) (fun q => w.heap.size ≤ q ∧ q < ((W.setCell ⟨rb, 0, Option.none⟩ a).setCell ⟨rb, 1, Option.none⟩ b).heap.size) ((W.setCell ⟨rb, 0, Option.none⟩ a).setCell ⟨rb, 1, Option.none⟩ b) (.mk n us) [.string n, .slice p k c] := by
  obtain ⟨hb, s, p', k', c', z, he, hz, hO⟩ := LSt.done h hn a b 0
  simp only [Value.tuple.injEq, Array.mk.injEq, List.cons.injEq, Value.agg.injEq, Value.string.injEq, Value.slice.injEq, and_true] at he
  obtain ⟨⟨rfl, rfl, rfl, rfl⟩, -⟩ := he
  exact ⟨hb, hO⟩
end Go.Proofs.YtdklemmincejpaaGreat
namespace Go.Proofs.YtdklemmincejpaaGreat
open Go.RowKit
theorem OwnRow.pair {α : Type} {S : Nat → Prop} {w : World} {e : TypeId} {size : Nat} {R : (Nat → Prop) → α → List Value → Prop} {v : Value} {x y : α} (hz : 0 < size) (h : OwnRow S w e size R v [x, y]) :
    ∃ (g cap : Nat) (cs ds : List Value) (Sx Sy : Nat → Prop), v = .slice (some ⟨g, 0, none⟩) 2 cap ∧ g < w.heap.size ∧ S g ∧ cs.length = size ∧ ds.length = size ∧ (∀ j, j < size → w.cell? ⟨g, j, none⟩ = cs[j]?) ∧ (∀ j, j < size → w.cell? ⟨g, size + j, none⟩ = ds[j]?) ∧ R Sx x cs ∧ R Sy y ds ∧ (∀ b, Sx b → S b ∧ ¬ Sy b) ∧ ∀ b, Sy b → S b := by
  obtain ⟨_, vals, Ss, h1, h2, h3, h4⟩ := h
  rcases h1.2 with ⟨_, h0⟩ | ⟨g, cap, cur, rfl, _, hh, _⟩
  · simp at h0
  · have hl : vals.length = 2 * size := h1.1
    have g0 := h3 0 x rfl
    have g1 := h3 1 y rfl
    refine ⟨g, cap, (vals.drop (0 * size)).take size, (vals.drop (1 * size)).take size, Ss 0, Ss 1, rfl, blk_lt hh, h2 g rfl, by simp; omega, by simp; omega, fun j hj => ?_, fun j hj => ?_, g0.1, g1.1, fun b hb => ⟨(g0.2 b hb).1, h4 0 1 b (by simp) (by simp) (by omega) hb⟩, fun b hb => (g1.2 b hb).1⟩
    · rw [h1.cellAt j (by simp; omega), List.getElem?_take, if_pos hj, List.getElem?_drop]; simp
    · rw [h1.cellAt (size + j) (by simp; omega), List.getElem?_take, if_pos hj, List.getElem?_drop]; simp
theorem own_in {α : Type} {S : Nat → Prop} {w : World} {e : TypeId} {size : Nat} {R : (Nat → Prop) → α → List Value → Prop} {v : Value} {xs : List α} (h : OwnRow S w e size R v xs) : ∀ g, v.ownBlock = some g → S g ∧ g < w.heap.size := by
  obtain ⟨_, vals, Ss, h1, h2, _⟩ := h
  exact fun g hg => ⟨h2 g hg, own_lt' h1 hg⟩
theorem frozen_blk {w w' : World} {p : Addr} (h : w'.heap[p.block]? = w.heap[p.block]?) : w'.frozen? p = w.frozen? p := by unfold World.frozen?; rw [h]
def lenAt (w : World) (g : Nat) : Nat := match w.cell? ⟨g, 0, none⟩ with | some (.slice _ n _) => n | _ => 0
/-- Whether a clause was found and is valid. -/
def okC : Option (List Lit3) → Bool | some c => Cls.good c | none => false
theorem litOf_wt {f : Fm} (h : f.form = true) : (litOf f).1.a.wt ≤ f.wt := by
  by_cases h4 : f.op = 4
  · obtain ⟨g, rfl, -⟩ := form_neg h h4
    obtain ⟨op, a, v, ps⟩ := g
    show a.wt ≤ _
    simp [opF, Fm.wt, Fm.wts]; omega
  · rw [litOf, if_neg h4]
    obtain ⟨op, a, v, ps⟩ := f
    show a.wt ≤ _
    simp [Fm.wt]; omega
theorem Cls.wts_snoc (c : List Lit3) (l : Lit3) : Cls.wts (c ++ [l]) = Cls.wts c + l.a.wt := by
  induction c with
  | nil => simp [Cls.wts]
  | cons a c ih => rw [List.cons_append, Cls.wts, Cls.wts, ih]; omega
theorem elemLitI : Elem Tryz.prog 33 69 3 48 := elem_of Tryz.underlying33 (z := .agg #[.bool false, .string ⟨#[]⟩, .slice none 0 0]) (by kernel_rfl) rfl (by omega)
/-- The walk's state between two rounds. -/
structure ClSt (m : Nat) (SF : Nat → Prop) (w : World) (F : Fm) (n : Nat) (f : Fm) (done : List Lit3) (u0 u1 u2 u3 u4 v : Value) (C T : Nat → Prop) (wr : World) : Prop where
  fbox : wr.heap[w.heap.size]? = some (.cells #[u0, u1, u2, u3, u4] 27 (0, 0))
  rbox : wr.heap[w.heap.size + 1]? = some (.cells #[.slice none 0 0] 35 (0, 0))
  cbox : wr.heap[w.heap.size + 2]? = some (.cells #[v] 35 (0, 0))
  fm : FmOwn 24 27 (m + 2) T wr f [u0, u1, u2, u3, u4]
  form : f.form = true
  row : ClsOwn 24 69 (m + 2) (fun b => C b ∨ (w.heap.size + 2 < b ∧ b < wr.heap.size)) wr done v
  cs : ∀ b, C b → SF b ∧ ¬ T b
  ts : ∀ b, T b → SF b
  found : clsOf (F.sz + 1) F = (clsOf n f).map (done ++ ·)
  fuel : f.sz < n
  len : 2 * done.length + f.wt ≤ F.wt
  wts : Cls.wts done + f.wt ≤ F.wt
  vnew : ∀ b, v.ownBlock = some b → w.heap.size + 2 < b
  bel : Below w.heap.size w wr
def ClRelI (m : Nat) (SF : Nat → Prop) (w : World) (F : Fm) (wr : World) : Prop := ∃ n f done u0 u1 u2 u3 u4 v C T, ClSt m SF w F n f done u0 u1 u2 u3 u4 v C T wr
/-- A literal more: what lies behind the append and the store of the row. -/
structure ClAp (m : Nat) (w wr : World) (done : List Lit3) (u0 u1 u2 u3 u4 v' : Value) (C' : Nat → Prop) (W5 : World) : Prop where
  fbox : W5.heap[w.heap.size]? = some (.cells #[u0, u1, u2, u3, u4] 27 (0, 0))
  rbox : W5.heap[w.heap.size + 1]? = some (.cells #[.slice none 0 0] 35 (0, 0))
  cbox : W5.heap[w.heap.size + 2]? = some (.cells #[v'] 35 (0, 0))
  row : ClsOwn 24 69 (m + 2) (fun b => C' b ∨ (w.heap.size + 2 < b ∧ b < W5.heap.size)) W5 done v'
  vnew : ∀ b, v'.ownBlock = some b → w.heap.size + 2 < b
  old : ∀ b, b < w.heap.size → W5.heap[b]? = wr.heap[b]?
  size : wr.heap.size ≤ W5.heap.size
  bel : Below w.heap.size w W5
theorem ClSt.app {m n : Nat} {SF C T Sx : Nat → Prop} {w wr w2 w4 : World} {F f : Fm} {done : List Lit3} {u0 u1 u2 u3 u4 v v' t0 t1 : Value} {l : Lit3} {o : Obj} {vals : List Value} (h : ClSt m SF w F n f done u0 u1 u2 u3 u4 v C T wr) (hSF : ∀ b, SF b → b < w.heap.size)
    (hb : Below wr.heap.size wr w2) (hT : TmOwn 24 (m + 1) Sx w2 l.a [t0, t1]) (hSx : ∀ b, Sx b → T b) (hlen : done.length + 1 ≤ 1048576)
    (hv : (w2.alloc o).ownsRow 0 69 3 v done.length vals) (happ : w4.ownsRow 0 69 3 v' (done.length + 1) (vals ++ [.bool l.pos, t0, t1])) (hg : (w2.alloc o).grownBy w4 v.ownBlock) (hnr : NewRow v v' (w2.alloc o).heap.size) :
    ClAp m w wr (done ++ [l]) u0 u1 u2 u3 u4 v' (fun b => C b ∨ Sx b) (w4.setCell ⟨w.heap.size + 2, 0, none⟩ v') := by
  have hz := hb.size
  have hz4 := hg.size
  simp at hz4
  have hbel := h.bel.size
  have hfl := blk_lt h.fbox
  have hrl := blk_lt h.rbox
  have hcl := blk_lt h.cbox
  have hvl := own_in h.row
  have nob : ∀ b, b ≤ w.heap.size + 2 → v.ownBlock ≠ some b := fun b hb e => by have := h.vnew b e; omega
  have hnew : ∀ b, v'.ownBlock = some b → w.heap.size + 2 < b := fun b hb => by
    rcases hnr with e | ⟨b', e, hge⟩
    · rw [e] at hb; exact h.vnew b hb
    · rw [e] at hb; injection hb with hb; subst hb; simp at hge; omega
  have st : ∀ b, b < wr.heap.size → v.ownBlock ≠ some b → b ≠ w.heap.size + 2 → (w4.setCell ⟨w.heap.size + 2, 0, none⟩ v').heap[b]? = wr.heap[b]? := fun b hlt hne hc =>
    (heap_setCell_other w4 ⟨w.heap.size + 2, 0, none⟩ b v' hc).trans ((hg.block b (by simp; omega) (fun e => hne e.symm)).trans ((hao w2 _ _ (by omega)).trans (hb.block b hlt)))
  have hc4 : w4.heap[w.heap.size + 2]? = some (.cells #[v] 35 (0, 0)) := (hg.block _ (by simp; omega) (fun e => nob _ (Nat.le_refl _) e.symm)).trans ((hao w2 _ _ (by omega)).trans ((hb.block _ hcl).trans h.cbox))
  have hold : ∀ b, b < w.heap.size → (w4.setCell ⟨w.heap.size + 2, 0, none⟩ v').heap[b]? = wr.heap[b]? := fun b hlt => st b (by omega) (nob b (by omega)) (by omega)
  refine ⟨(st _ hfl (nob _ (by omega)) (by omega)).trans h.fbox, (st _ hrl (nob _ (by omega)) (by omega)).trans h.rbox, ?_, ?_, hnew, hold, by simp; omega, ⟨hg.os.trans (hb.os.trans h.bel.os), hg.tape.trans (hb.tape.trans h.bel.tape), hg.output.trans (hb.output.trans h.bel.output), by simp; omega, fun b hlt => (hold b hlt).trans (h.bel.block b hlt)⟩⟩
  · have := heap_setCell_same w4 (w.heap.size + 2) 0 _ 35 v' hc4
    simpa using this
  · have hrow0 : ClsOwn 24 69 (m + 2) (fun b => C b ∨ (w.heap.size + 2 < b ∧ b < wr.heap.size)) (w2.alloc o) done v := ClsOwn.mono (Nat.le_refl _) (fun b _ hlt => (hao w2 _ _ (by omega)).trans (hb.block b hlt)) (fun _ h => h) h.row
    have hx0 : LitOwn 24 (m + 2) Sx (w2.alloc o) l [.bool l.pos, t0, t1] := ⟨_, _, rfl, TmOwn.mono (m + 1) (m + 2) l.a _ (by omega) (fun b _ hlt => hao w2 _ _ hlt) (fun _ h => h) hT⟩
    have h1 := OwnRow.snoc (S' := fun b => (C b ∨ Sx b) ∨ (w.heap.size + 2 < b ∧ b < w4.heap.size)) (w' := w4) (v' := v') (R' := fun S x c => LitOwn 24 (m + 2) S w4 x c) hrow0 hx0 rfl (fun vs hvs => by rw [own_unique hvs hv]; exact happ) hg hnr (by unfold maxLen; omega)
      (fun b hb' => by
        have h2 := hSx b hb'
        have h3 := hSF b (h.ts b h2)
        rintro (h4 | h4)
        · exact (h.cs b h4).2 h2
        · omega) (fun b hb' => by
        rcases hb' with h4 | h4
        · have := hSF b (h.cs b h4).1; simp; omega
        · simp; omega) (fun b hb' => by have := hSF b (h.ts b (hSx b hb')); simp; omega) (fun b hb' => by
        rcases hb' with h4 | h4
        · exact .inl (.inl h4)
        · exact .inr ⟨h4.1, by omega⟩) (fun b hb' => .inl (.inr hb')) (fun b hb' => .inr ⟨hnew b hb', own_lt' happ hb'⟩)
      (fun S x c hS hx => LitOwn.mono (Nat.le_refl _) (fun b hb' hlt => hg.block b hlt (fun e => (hS b hb').2 e.symm)) (fun _ h => h) hx)
    refine ClsOwn.mono (Nat.le_refl _) (fun b hb' _ => heap_setCell_other w4 ⟨w.heap.size + 2, 0, none⟩ b v' ?_) (fun b hb' => by simpa using hb') h1
    rcases hb' with (h4 | h4) | h4
    · have := hSF b (h.cs b h4).1; simp; omega
    · have := hSF b (h.ts b (hSx b h4)); simp; omega
    · simp; omega
/-- What clauseOfFormula answers. -/
def ClfV (m : Nat) (SF : Nat → Prop) (o : Option (List Lit3)) (w : World) (e : Ending) (w' : World) : Prop :=
  Below w.heap.size w w' ∧ ∃ p n d, e = .returned (.tuple #[.agg #[.slice p n d], .bool (okC o)]) ∧ (okC o = true → ∃ c, o = some c ∧ ClsOwn 24 69 (m + 2) (fun b => SF b ∨ (w.heap.size ≤ b ∧ b < w'.heap.size)) w' c (.slice p n d))
set_option maxRecDepth 100000 in
set_option maxHeartbeats 3200000 in
theorem clauseOfFormula_any {m : Nat} {SF : Nat → Prop} (F : Fm) (v0 v1 v2 v3 v4 : Value) (w : World) (h : FmOwn 24 27 (m + 2) SF w F [v0, v1, v2, v3, v4]) (hSF : ∀ b, SF b → b < w.heap.size) (hf : F.form = true) (hw : F.wt ≤ 100000) :
    Calls Tryz.prog 42 #[.agg #[v0, v1, v2, v3, v4]] w (ClfV m SF (clsOf (F.sz + 1) F) w) := by
  obtain ⟨p, c, q, d, rfl, rfl, rfl, rfl, rfl, -⟩ := h.form
  have H := Lib.hid h
  have HF := Lib.hid hf
  clear h hf
  go_enter Tryz.func42, Tryz.ntmps42
  go_wp2
  obtain ⟨W, hW⟩ : ∃ W : World, W = ((w.alloc (.cells #[.int .i64 F.op, .string F.a.n, .slice p F.a.us.length c, .string F.v, .slice q F.ps.length d] 27)).alloc (.cells #[.slice none 0 0] 35)).alloc (.cells #[.slice none 0 0] 35) := ⟨_, rfl⟩
  have h0 : ClRelI m SF w F W := by
    refine ⟨F.sz + 1, F, [], .int .i64 F.op, .string F.a.n, .slice p F.a.us.length c, .string F.v, .slice q F.ps.length d, .slice none 0 0, fun _ => False, SF, ⟨?_, ?_, ?_, ?_, HF.out, ClsOwn.nil _ _ _ _ _, fun _ h => h.elim, fun _ h => h, by cases clsOf (F.sz + 1) F <;> rfl, by omega, by simp, by simp [Cls.wts], fun b h => by simp [Value.ownBlock] at h, by rw [hW]; (repeat (first | with_reducible exact Below.refl _ _ | with_reducible assumption | with_reducible refine Below.al ?_ _ | with_reducible refine Below.sc ?_ (by first | exact Nat.le_refl _ | (simp; done) | (simp; omega)) _ | assumption | exact Below.refl _ _ | refine Below.dr ?_ | refine Below.drN ?_ _ | refine Below.step ?_ (by assumption)))⟩⟩
    · rw [hW]; exact (hao ((w.alloc _).alloc _) _ _ (by simp; omega)).trans ((hao (w.alloc _) _ _ (by simp)).trans (heap_alloc_new w _))
    · rw [hW]; exact (hao ((w.alloc _).alloc _) _ _ (by simp)).trans (alloc_new_at (by simp))
    · rw [hW]; exact alloc_new_at (by simp)
    · rw [hW]; exact FmOwn.later (by (repeat (first | with_reducible exact Below.refl _ _ | with_reducible assumption | with_reducible refine Below.al ?_ _ | with_reducible refine Below.sc ?_ (by first | exact Nat.le_refl _ | (simp; done) | (simp; omega)) _ | assumption | exact Below.refl _ _ | refine Below.dr ?_ | refine Below.drN ?_ _ | refine Below.step ?_ (by assumption)))) H.out
  rw [← hW]
  clear hW
  go_loopw [] (ClRelI m SF w F) (fun wr => F.wt + 1 - lenAt wr (w.heap.size + 2))
  case atStart => exact h0
  case round =>
    obtain ⟨n, f, done, u0, u1, u2, u3, u4, v, C, T, hst⟩ := hrel
    obtain ⟨pf, cf, qf, df, rfl, rfl, rfl, rfl, rfl, -⟩ := hst.fm.form
    obtain ⟨pv, dv, rfl, -⟩ := OwnRow.form hst.row
    have bF : BoxN wr w.heap.size 27 _ := hst.fbox
    have f0 := bF.cell 0
    have f1 := bF.cell 1
    have f2 := bF.cell 2
    have f3 := bF.cell 3
    have f4 := bF.cell 4
    have ff := fun i => bF.frozen i
    simp only [List.size_toArray, List.length_cons, List.length_nil, List.getElem?_toArray, List.getElem?_cons_zero, List.getElem?_cons_succ] at f0 f1 f2 f3 f4
    clear bF
    have k0 : wr.cell? ⟨w.heap.size + 1 + 1, 0, none⟩ = some (.slice pv done.length dv) := (cell_of_row _ _ 0 _ _ (0, 0) hst.cbox).trans rfl
    have kf : ∀ i, wr.frozen? ⟨w.heap.size + 1 + 1, i, none⟩ = false := fun i => frozen_of_row _ _ i _ _ hst.cbox
    have r0 : wr.cell? ⟨w.heap.size + 1, 0, none⟩ = some (.slice none 0 0) := by rw [cell_of_row _ _ 0 _ _ (0, 0) hst.rbox]; rfl
    have rf : ∀ i, wr.frozen? ⟨w.heap.size + 1, i, none⟩ = false := fun i => frozen_of_row _ _ i _ _ hst.rbox
    have zf := bsz (blk_lt hst.fbox)
    have zr := bsz (blk_lt hst.rbox)
    have zc := bsz (show w.heap.size + 1 + 1 < wr.heap.size from blk_lt hst.cbox)
    have hlen := hst.len
    have hfuel := hst.fuel
    have HST := Lib.hid hst
    clear hst
    by_cases h6 : f.op = 6
    · obtain ⟨g, g', rfl, hg, hg'⟩ := form_or HST.out.form h6
      obtain ⟨Sa, Sp, -, hrow, -, hSp⟩ := HST.out.fm.split
      obtain ⟨b, cap, cs, ds, Sx, Sy, hv, hbl, hSb, hcl, hdl, hcs, hds, hX, hY, hSx, hSy⟩ := OwnRow.pair (by omega) hrow
      simp only [Value.slice.injEq] at hv
      obtain ⟨rfl, -, rfl⟩ := hv
      obtain ⟨x0, x1, x2, x3, x4, rfl⟩ : ∃ x0 x1 x2 x3 x4, cs = [x0, x1, x2, x3, x4] := by
        match cs, hcl with
        | [x0, x1, x2, x3, x4], _ => exact ⟨x0, x1, x2, x3, x4, rfl⟩
      obtain ⟨z0, z1, z2, z3, z4, rfl⟩ : ∃ x0 x1 x2 x3 x4, ds = [x0, x1, x2, x3, x4] := by
        match ds, hdl with
        | [x0, x1, x2, x3, x4], _ => exact ⟨x0, x1, x2, x3, x4, rfl⟩
      obtain ⟨pg, cg, qg, dg, rfl, rfl, rfl, rfl, rfl, -⟩ := FmOwn.form hX
      obtain ⟨ph, ch, qh, dh, rfl, rfl, rfl, rfl, rfl, -⟩ := FmOwn.form hY
      have HX := Lib.hid hX
      have HY := Lib.hid hY
      replace f0 : wr.cell? ⟨w.heap.size, 0, none⟩ = some (.int .i64 6) := f0
      replace f4 : wr.cell? ⟨w.heap.size, 4, none⟩ = some (.slice (some ⟨b, 0, none⟩) 2 df) := f4
      have y0 := hcs 0 (by omega)
      have y1 := hcs 1 (by omega)
      have y2 := hcs 2 (by omega)
      have y3 := hcs 3 (by omega)
      have y4 := hcs 4 (by omega)
      have q0 := hds 0 (by omega)
      have q1 := hds 1 (by omega)
      have q2 := hds 2 (by omega)
      have q3 := hds 3 (by omega)
      have q4 := hds 4 (by omega)
      simp only [List.getElem?_cons_zero, List.getElem?_cons_succ, Nat.add_zero, Nat.reduceAdd] at y0 y1 y2 y3 y4 q0 q1 q2 q3 q4
      have hbw : b < w.heap.size := hSF b (HST.out.ts b (hSp b hSb))
      have zb := bsz hbl
      have HSUB := Lib.hid (And.intro hSp (And.intro hSx hSy))
      have HG := Lib.hid (And.intro hg hg')
      clear hrow hX hY hcs hds hSx hSy hg hg' h6
      obtain ⟨n', rfl⟩ : ∃ n', n = n' + 1 := ⟨n - 1, by omega⟩
      have hsz : (opF 6 [g, g']).sz = 1 + (g.sz + (g'.sz + 0)) := by rw [opF, Fm.sz, Fm.szs, Fm.szs, Fm.szs]
      have hwt := or_wt g g'
      have HFD := Lib.hid (show clsOf (n' + 1) (opF 6 [g, g']) = if (litOf g).2 then (clsOf n' g').map ((litOf g).1 :: ·) else none by rw [clsOf, if_pos (by rfl)]; rfl)
      go_wp2_with fail
      refine (literalOf_any (m := m) g _ _ _ _ _ _ (FmOwn.mono (m + 1) (m + 2) g _ (by omega) (SameOn.refl _ _) (fun _ h => h) HX.out) HG.out.1).mono ?_
      rintro e w2 ⟨t0, t1, Sl, rfl, hT, hsub, hb2⟩
      obtain ⟨pt, ct, rfl, rfl, -⟩ := hT.form
      have HT := Lib.hid (And.intro hT hsub)
      have ⟨cw2, fw2⟩ := bcell hb2
      have hq2 := hb2.size
      have zf2 := bsz (show w.heap.size < w2.heap.size by omega)
      have zr2 := bsz (show w.heap.size + 1 < w2.heap.size by omega)
      have zc2 := bsz (show w.heap.size + 1 + 1 < w2.heap.size by omega)
      have zb2 := bsz (show b < w2.heap.size by omega)
      clear hT hsub
      cases hok : (litOf g).2
      · have HNO := Lib.hid (show clsOf (F.sz + 1) F = none by rw [HST.out.found, HFD.out, hok]; rfl)
        have hbw2 : Below w.heap.size w w2 := HST.out.bel.trans (hb2.mono (by omega))
        go_wp2
        refine bodyPost_ret (v := .tuple #[.agg #[.slice none 0 0], .bool false]) (by simp only [results, Tryz.results42]; go_simp) rfl ?_
        refine ⟨by clear hb2; (repeat (first | with_reducible exact Below.refl _ _ | with_reducible assumption | with_reducible refine Below.al ?_ _ | with_reducible refine Below.sc ?_ (by first | exact Nat.le_refl _ | (simp; done) | (simp; omega)) _ | assumption | exact Below.refl _ _ | refine Below.dr ?_ | refine Below.drN ?_ _ | refine Below.step ?_ (by assumption))), none, 0, 0, ?_, ?_⟩
        · rw [HNO.out]; rfl
        · rw [HNO.out]; intro h; cases h
      · obtain ⟨-, vals, -, hvr, -⟩ := HST.out.row
        have HV := Lib.hid hvr
        have NB := Lib.hid (show ∀ k, k ≤ w.heap.size + 2 → (Value.slice pv done.length dv).ownBlock ≠ some k from fun k hk e => by have := HST.out.vnew k e; omega)
        have HK := Lib.hid (show ∀ w4 : World, (w2.alloc (.cells #[.bool (litOf g).1.pos, .string (litOf g).1.a.n, .slice pt (litOf g).1.a.us.length ct] 69)).grownBy w4 (Value.slice pv done.length dv).ownBlock → ∀ k, k < wr.heap.size → (Value.slice pv done.length dv).ownBlock ≠ some k → w4.heap[k]? = wr.heap[k]? from fun w4 hg k hlt hne => (hg.block k (by simp; omega) (fun e => hne e.symm)).trans ((hao w2 _ _ (by omega)).trans (hb2.block k hlt)))
        have HC4 := Lib.hid (show ∀ w4 : World, (w2.alloc (.cells #[.bool (litOf g).1.pos, .string (litOf g).1.a.n, .slice pt (litOf g).1.a.us.length ct] 69)).grownBy w4 (Value.slice pv done.length dv).ownBlock →
            w4.cell? ⟨w.heap.size + 1 + 1, 0, none⟩ = some (.slice pv done.length dv) ∧ (∀ i, w4.frozen? ⟨w.heap.size + 1 + 1, i, none⟩ = false) ∧
            w4.cell? ⟨w.heap.size, 0, none⟩ = some (.int .i64 6) ∧ w4.cell? ⟨w.heap.size, 1, none⟩ = some (.string (opF 6 [g, g']).a.n) ∧ w4.cell? ⟨w.heap.size, 2, none⟩ = some (.slice pf (opF 6 [g, g']).a.us.length cf) ∧ w4.cell? ⟨w.heap.size, 3, none⟩ = some (.string (opF 6 [g, g']).v) ∧ w4.cell? ⟨w.heap.size, 4, none⟩ = some (.slice (some ⟨b, 0, none⟩) 2 df) ∧ (∀ i, w4.frozen? ⟨w.heap.size, i, none⟩ = false) ∧
            w4.cell? ⟨b, 5, none⟩ = some (.int .i64 g'.op) ∧ w4.cell? ⟨b, 6, none⟩ = some (.string g'.a.n) ∧ w4.cell? ⟨b, 7, none⟩ = some (.slice ph g'.a.us.length ch) ∧ w4.cell? ⟨b, 8, none⟩ = some (.string g'.v) ∧ w4.cell? ⟨b, 9, none⟩ = some (.slice qh g'.ps.length dh) from by
          intro w4 hg
          have hC := HK.out w4 hg _ (show w.heap.size + 1 + 1 < wr.heap.size by omega) (NB.out _ (by omega))
          have hFb := HK.out w4 hg _ (show w.heap.size < wr.heap.size by omega) (NB.out _ (by omega))
          have hBb := HK.out w4 hg _ (show b < wr.heap.size by omega) (NB.out _ (by omega))
          exact ⟨(World.cell?_of_block hC).trans k0, fun i => (frozen_blk hC).trans (kf i), (World.cell?_of_block hFb).trans f0, (World.cell?_of_block hFb).trans f1, (World.cell?_of_block hFb).trans f2, (World.cell?_of_block hFb).trans f3, (World.cell?_of_block hFb).trans f4, fun i => (frozen_blk hFb).trans (ff i),
            (World.cell?_of_block hBb).trans q0, (World.cell?_of_block hBb).trans q1, (World.cell?_of_block hBb).trans q2, (World.cell?_of_block hBb).trans q3, (World.cell?_of_block hBb).trans q4⟩)
        clear hvr
        go_wp2_with (at_builtin; refine wpList_app1 rfl (.tmp 25) (.tmp 27) _ rfl 0 69 3 48 elemLitI _ _ vals rfl (w2.alloc (.cells #[.bool (litOf g).1.pos, .string (litOf g).1.a.n, .slice pt (litOf g).1.a.us.length ct] 69)) #[.bool (litOf g).1.pos, .string (litOf g).1.a.n, .slice pt (litOf g).1.a.us.length ct] rfl _ (by simp) rfl ((own_below HV.out hb2).alloc _) rfl (by simp [Value.oneCell']) (by omega) (by unfold maxLen; omega) (Nat.zero_le _) ?_; intro v' w4 happ hg4 hnr hlt4; obtain ⟨gv, cv, rfl⟩ := own_form happ (Nat.succ_pos _); have HAPP := Lib.hid (And.intro happ hnr); clear happ hnr; obtain ⟨k04, kf4, f04, f14, f24, f34, f44, ff4, q04, q14, q24, q34, q44⟩ := HC4.out w4 hg4)
        have A := HST.out.app hSF hb2 HT.out.1 (fun b hb => HSUB.out.1 b (HSUB.out.2.1 b (HT.out.2 b hb)).1) (by omega) ((own_below HV.out hb2).alloc _) HAPP.out.1 hg4 HAPP.out.2
        have hA5 := A.size
        have hcl := (set5_other (w4.setCell ⟨w.heap.size + 2, 0, none⟩ (.slice (some ⟨gv, 0, none⟩) (done.length + 1) cv)) (.int .i64 g'.op) (.string g'.a.n) (.slice ph g'.a.us.length ch) (.string g'.v) (.slice qh g'.ps.length dh) (show w.heap.size + 2 ≠ w.heap.size by omega)).trans A.cbox
        refine ⟨⟨n', g', done ++ [(litOf g).1], _, _, _, _, _, _, fun b => C b ∨ Sl b, Sy, ⟨BoxN.set5 A.fbox _ _ _ _ _, (set5_other _ _ _ _ _ _ (by omega)).trans A.rbox, hcl, ?_, HG.out.2, ?_, ?_, fun b hb => HST.out.ts b (HSUB.out.1 b (HSUB.out.2.2 b hb)), ?_, by omega, by simp; omega, ?_, A.vnew, A.bel.trans (set5_below _ _ _ _ _ _ (Nat.le_refl _))⟩⟩, ?_⟩
        · exact FmOwn.mono (m + 1) (m + 2) g' _ (by omega) (fun b hb _ => by
            have h1 := hSF b (HST.out.ts b (HSUB.out.1 b (HSUB.out.2.2 b hb)))
            exact (set5_other _ _ _ _ _ _ (by omega)).trans (A.old b h1)) (fun _ h => h) HY.out
        · refine ClsOwn.mono (Nat.le_refl _) (fun b hb _ => set5_other _ _ _ _ _ _ ?_) (fun b hb => by simpa using hb) A.row
          rcases hb with (h4 | h4) | h4
          · have := hSF b (HST.out.cs b h4).1; omega
          · have := hSF b (HST.out.ts b (HSUB.out.1 b (HSUB.out.2.1 b (HT.out.2 b h4)).1)); omega
          · omega
        · intro b hb
          rcases hb with h4 | h4
          · exact ⟨(HST.out.cs b h4).1, fun h => (HST.out.cs b h4).2 (HSUB.out.1 b (HSUB.out.2.2 b h))⟩
          · have h5 := HSUB.out.2.1 b (HT.out.2 b h4)
            exact ⟨HST.out.ts b (HSUB.out.1 b h5.1), h5.2⟩
        · rw [HST.out.found, HFD.out, hok, if_pos rfl]
          cases clsOf n' g' <;> simp
        · have h1 := litOf_wt HG.out.1
          have h2 := HST.out.wts
          rw [Cls.wts_snoc]; omega
        · have e1 : lenAt wr (w.heap.size + 2) = done.length := by
            have : wr.cell? ⟨w.heap.size + 2, 0, none⟩ = some (.slice pv done.length dv) := k0
            rw [lenAt, this]
          have e2 : ∀ W' : World, W'.heap[w.heap.size + 2]? = some (.cells #[.slice (some ⟨gv, 0, none⟩) (done.length + 1) cv] 35 (0, 0)) → lenAt W' (w.heap.size + 2) = done.length + 1 := fun W' h => by
            have : W'.cell? ⟨w.heap.size + 2, 0, none⟩ = some (.slice (some ⟨gv, 0, none⟩) (done.length + 1) cv) := (cell_of_row _ _ 0 _ _ (0, 0) h).trans rfl
            rw [lenAt, this]
          rw [e1, e2 _ hcl]; omega
    · have hop : (f.op == 6) = false := by simpa using h6
      obtain ⟨n', rfl⟩ : ∃ n', n = n' + 1 := ⟨n - 1, by omega⟩
      have HFD := Lib.hid (show clsOf (n' + 1) f = if (litOf f).2 then some [(litOf f).1] else none by rw [clsOf, if_neg h6])
      go_wp2_with fail
      refine (literalOf_any (m := m) f _ _ _ _ _ _ HST.out.fm HST.out.form).mono ?_
      rintro e w2 ⟨t0, t1, Sl, rfl, hT, hsub, hb2⟩
      obtain ⟨pt, ct, rfl, rfl, -⟩ := hT.form
      have HT := Lib.hid (And.intro hT hsub)
      have ⟨cw2, fw2⟩ := bcell hb2
      have hq2 := hb2.size
      have zf2 := bsz (show w.heap.size < w2.heap.size by omega)
      have zr2 := bsz (show w.heap.size + 1 < w2.heap.size by omega)
      have zc2 := bsz (show w.heap.size + 1 + 1 < w2.heap.size by omega)
      clear hT hsub
      obtain ⟨-, vals, -, hvr, -⟩ := HST.out.row
      have HV := Lib.hid hvr
      have NB := Lib.hid (show ∀ k, k ≤ w.heap.size + 2 → (Value.slice pv done.length dv).ownBlock ≠ some k from fun k hk e => by have := HST.out.vnew k e; omega)
      have HK := Lib.hid (show ∀ w4 : World, (w2.alloc (.cells #[.bool (litOf f).1.pos, .string (litOf f).1.a.n, .slice pt (litOf f).1.a.us.length ct] 69)).grownBy w4 (Value.slice pv done.length dv).ownBlock → ∀ k, k < wr.heap.size → (Value.slice pv done.length dv).ownBlock ≠ some k → w4.heap[k]? = wr.heap[k]? from fun w4 hg k hlt hne => (hg.block k (by simp; omega) (fun e => hne e.symm)).trans ((hao w2 _ _ (by omega)).trans (hb2.block k hlt)))
      clear hvr
      have HC4 := Lib.hid (show ∀ w4 : World, (w2.alloc (.cells #[.bool (litOf f).1.pos, .string (litOf f).1.a.n, .slice pt (litOf f).1.a.us.length ct] 69)).grownBy w4 (Value.slice pv done.length dv).ownBlock →
          w4.cell? ⟨w.heap.size + 1 + 1, 0, none⟩ = some (.slice pv done.length dv) ∧ (∀ i, w4.frozen? ⟨w.heap.size + 1 + 1, i, none⟩ = false) ∧
          w4.cell? ⟨w.heap.size + 1, 0, none⟩ = some (.slice none 0 0) ∧ (∀ i, w4.frozen? ⟨w.heap.size + 1, i, none⟩ = false) from by
        intro w4 hg
        have hC := HK.out w4 hg _ (show w.heap.size + 1 + 1 < wr.heap.size by omega) (NB.out _ (by omega))
        have hRb := HK.out w4 hg _ (show w.heap.size + 1 < wr.heap.size by omega) (NB.out _ (by omega))
        exact ⟨(World.cell?_of_block hC).trans k0, fun i => (frozen_blk hC).trans (kf i), (World.cell?_of_block hRb).trans r0, fun i => (frozen_blk hRb).trans (rf i)⟩)
      go_wp2_with (at_builtin; refine wpList_app1 rfl (.tmp 40) (.tmp 42) _ rfl 0 69 3 48 elemLitI _ _ vals rfl (w2.alloc (.cells #[.bool (litOf f).1.pos, .string (litOf f).1.a.n, .slice pt (litOf f).1.a.us.length ct] 69)) #[.bool (litOf f).1.pos, .string (litOf f).1.a.n, .slice pt (litOf f).1.a.us.length ct] rfl _ (by simp) rfl ((own_below HV.out hb2).alloc _) rfl (by simp [Value.oneCell']) (by omega) (by unfold maxLen; omega) (Nat.zero_le _) ?_; intro v' w4 happ hg4 hnr hlt4; obtain ⟨gv, cv, rfl⟩ := own_form happ (Nat.succ_pos _); have HAPP := Lib.hid (And.intro happ hnr); clear happ hnr; obtain ⟨k04, kf4, r04, rf4⟩ := HC4.out w4 hg4)
      have A := HST.out.app hSF hb2 HT.out.1 (fun b hb => HT.out.2 b hb) (by omega) ((own_below HV.out hb2).alloc _) HAPP.out.1 hg4 HAPP.out.2
      have hA5 := A.size
      have HA := Lib.hid A
      have d0 : (w4.setCell ⟨w.heap.size + 1 + 1, 0, none⟩ (.slice (some ⟨gv, 0, none⟩) (done.length + 1) cv)).cell? ⟨w.heap.size + 1 + 1, 0, none⟩ = some (.slice (some ⟨gv, 0, none⟩) (done.length + 1) cv) := (cell_of_row _ _ 0 _ _ (0, 0) A.cbox).trans rfl
      have e0 : (w4.setCell ⟨w.heap.size + 1 + 1, 0, none⟩ (.slice (some ⟨gv, 0, none⟩) (done.length + 1) cv)).cell? ⟨w.heap.size + 1, 0, none⟩ = some (.slice none 0 0) := (cell_of_row _ _ 0 _ _ (0, 0) A.rbox).trans rfl
      have ef : ∀ i, (w4.setCell ⟨w.heap.size + 1 + 1, 0, none⟩ (.slice (some ⟨gv, 0, none⟩) (done.length + 1) cv)).frozen? ⟨w.heap.size + 1, i, none⟩ = false := fun i => frozen_of_row _ _ i _ _ A.rbox
      have hlA := blk_lt A.rbox
      have hcA := blk_lt A.cbox
      clear A
      obtain ⟨W5, hW5⟩ : ∃ W5 : World, W5 = w4.setCell ⟨w.heap.size + 1 + 1, 0, none⟩ (.slice (some ⟨gv, 0, none⟩) (done.length + 1) cv) := ⟨_, rfl⟩
      have hW5' : w4.setCell ⟨w.heap.size + 2, 0, none⟩ (.slice (some ⟨gv, 0, none⟩) (done.length + 1) cv) = W5 := hW5.symm
      rw [hW5'] at HA hA5 hlA hcA
      rw [← hW5] at d0 e0 ef ⊢
      clear hW5 hW5' k04 kf4 r04 rf4 hg4
      have z5r := bsz hlA
      have z5c := bsz (show w.heap.size + 1 + 1 < W5.heap.size from hcA)
      have hin : ∀ (W' : World), (∀ b, b ≠ w.heap.size + 1 → b < W5.heap.size → W'.heap[b]? = W5.heap[b]?) → W5.heap.size ≤ W'.heap.size → ClsOwn 24 69 (m + 2) (fun b => SF b ∨ (w.heap.size ≤ b ∧ b < W'.heap.size)) W' (done ++ [(litOf f).1]) (.slice (some ⟨gv, 0, none⟩) (done.length + 1) cv) := fun W' hs hz => ClsOwn.mono (Nat.le_refl _) (fun b hb hlt => hs b (by
          rcases hb with (h4 | h4) | h4
          · have := hSF b (HST.out.cs b h4).1; omega
          · have := hSF b (HST.out.ts b (HT.out.2 b h4)); omega
          · omega) hlt) (fun b hb => by
          rcases hb with (h4 | h4) | h4
          · exact .inl (HST.out.cs b h4).1
          · exact .inl (HST.out.ts b (HT.out.2 b h4))
          · exact .inr ⟨by omega, by omega⟩) HA.out.row
      have HIN := Lib.hid hin
      have hbel := HA.out.bel
      clear hin
      cases hok : (litOf f).2
      · have HNO := Lib.hid (show clsOf (F.sz + 1) F = none by rw [HST.out.found, HFD.out, hok]; rfl)
        clear hb2
        go_region
        go_wp2
        refine bodyPost_ret (v := .tuple #[.agg #[.slice (some ⟨gv, 0, none⟩) (done.length + 1) cv], .bool false]) (by simp only [results, Tryz.results42]; go_simp) rfl ?_
        refine ⟨by (repeat (first | with_reducible exact Below.refl _ _ | with_reducible assumption | with_reducible refine Below.al ?_ _ | with_reducible refine Below.sc ?_ (by first | exact Nat.le_refl _ | (simp; done) | (simp; omega)) _ | assumption | exact Below.refl _ _ | refine Below.dr ?_ | refine Below.drN ?_ _ | refine Below.step ?_ (by assumption))), some ⟨gv, 0, none⟩, done.length + 1, cv, ?_, ?_⟩
        · rw [HNO.out]; rfl
        · rw [HNO.out]; intro h; cases h
      · have HYES := Lib.hid (show clsOf (F.sz + 1) F = some (done ++ [(litOf f).1]) by rw [HST.out.found, HFD.out, hok]; rfl)
        have HZ := Lib.hid (show ∀ l ∈ done ++ [(litOf f).1], l.a.sz ≤ 100000000 from fun l hl => by
          have h1 := Cls.wts_le _ l hl
          have h2 := l.a.sz_wt
          have h3 := litOf_wt HST.out.form
          have h4 := HST.out.wts
          rw [Cls.wts_snoc] at h1; omega)
        have HAT := Lib.hid (ClsOwn.at_ HA.out.row)
        clear hb2
        go_region_with (go_at_call 50; refine (isValidClause_any (m + 2) (done ++ [(litOf f).1]) _ _ (ClsAt.below (by (repeat (first | with_reducible exact Below.refl _ _ | with_reducible assumption | with_reducible refine Below.al ?_ _ | with_reducible refine Below.sc ?_ (by first | exact Nat.le_refl _ | (simp; done) | (simp; omega)) _ | assumption | exact Below.refl _ _ | refine Below.dr ?_ | refine Below.drN ?_ _ | refine Below.step ?_ (by assumption)))) HAT.out) HZ.out).mono ?_; rintro e w6 ⟨rfl, hb6⟩; have e06 : w6.cell? ⟨w.heap.size + 1, 0, none⟩ = some (.slice none 0 0) := (World.cell?_of_block (hb6.block _ hlA)).trans e0; have ef6 : ∀ i, w6.frozen? ⟨w.heap.size + 1, i, none⟩ = false := fun i => (frozen_blk (p := ⟨w.heap.size + 1, i, none⟩) (hb6.block _ hlA)).trans (ef i); have d06 : w6.cell? ⟨w.heap.size + 1 + 1, 0, none⟩ = some (.slice (some ⟨gv, 0, none⟩) (done.length + 1) cv) := (World.cell?_of_block (hb6.block _ hcA)).trans d0; have hq6 : W5.heap.size ≤ w6.heap.size := hb6.size; have z6r := bsz (show w.heap.size + 1 < w6.heap.size by omega); have z6c := bsz (show w.heap.size + 1 + 1 < w6.heap.size by omega))
        all_goals go_wp2
        all_goals
          refine bodyPost_ret (v := .tuple #[.agg #[.slice (some ⟨gv, 0, none⟩) (done.length + 1) cv], .bool (Cls.good (done ++ [(litOf f).1]))]) (by simp only [results, Tryz.results42]; go_simp) rfl ?_
          refine ⟨by (repeat (first | with_reducible exact Below.refl _ _ | with_reducible assumption | with_reducible refine Below.al ?_ _ | with_reducible refine Below.sc ?_ (by first | exact Nat.le_refl _ | (simp; done) | (simp; omega)) _ | assumption | exact Below.refl _ _ | refine Below.dr ?_ | refine Below.drN ?_ _ | refine Below.step ?_ (by assumption))), some ⟨gv, 0, none⟩, done.length + 1, cv, ?_, fun _ => ⟨_, HYES.out, HIN.out _ (fun b' hne hlt => (heap_setCell_other w6 ⟨w.heap.size + 1, 0, none⟩ b' _ hne).trans (hb6.block b' hlt)) (by simp; omega)⟩⟩
          rw [HYES.out]; rfl
end Go.Proofs.YtdklemmincejpaaGreat
