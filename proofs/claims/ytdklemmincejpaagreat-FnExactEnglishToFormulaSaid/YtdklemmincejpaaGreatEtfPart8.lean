/- The reference parses a term. Conditions: it stands inside its text.
What the program's parser reads weighs no more than the text it has passed. No conditions; no program is walked.
What EnglishToFormula answers, as data: the one valid formula whose English the text is. No conditions; no program is walked.
What EnglishToFormula answers, as a predicate. No conditions; no program is walked.
EnglishToFormula, the program's. Conditions: the text is no longer than the limit, or it is refused.
The reference's reader of English as data, and that it reads back what is written. No conditions; no program is walked.
Where the reference's reader stands behind its steps, and what it has read weighs no more than the text passed. No conditions; no program is walked.
The reference's reader: what its smallest steps answer. Conditions: it stands inside its text. -/
import Derived.Test.YtdklemmincejpaaGreatEtfPart7
namespace Go.Proofs.YtdklemmincejpaaGreat
open Go.RowKit
theorem pWord_wt (L : List UInt8) (p : PSt) : (pWord L p).1.length + p.pos ≤ (pWord L p).2.pos := by
  unfold pWord; split <;> simp <;> omega
theorem pMust_up (L t : List UInt8) (p : PSt) : p.pos ≤ (pMust L t p).pos := by
  unfold pMust; split <;> simp [pAdv]
theorem size_toBytes (l : List UInt8) : (⟨l.toArray⟩ : ByteArray).size = l.length := by simp [ByteArray.size]
mutual
theorem pTerm_wt (L : List UInt8) : ∀ (f : Nat) (p : PSt), (pTerm L f p).1.wt + p.pos ≤ (pTerm L f p).2.pos
  | 0, p => by rw [pTerm]; simp [Tm.wt, Tm.wts, ByteArray.size]
  | f + 1, p => by
    have h1 := pWord_wt L p
    have h2 := pTerm_wt L f (pAdv [40] (pWord L p).2)
    have h3 := pArgs_wt L [44] (by decide) f (pTerm L f (pAdv [40] (pWord L p).2)).2
    have h4 := pMust_up L [41] (pArgs L [44] f (pTerm L f (pAdv [40] (pWord L p).2)).2).2
    have h5 : (pAdv [40] (pWord L p).2).pos = (pWord L p).2.pos + 1 := rfl
    rw [pTerm]
    split
    · simp only [Tm.wt, Tm.wts, List.length_cons, size_toBytes]; omega
    · simp only [Tm.wt, Tm.wts, List.length_nil, size_toBytes]; omega
theorem pArgs_wt (L sep : List UInt8) (hs : 0 < sep.length) : ∀ (f : Nat) (p : PSt), (pArgs L sep f p).1.length + Tm.wts (pArgs L sep f p).1 + p.pos ≤ (pArgs L sep f p).2.pos
  | 0, p => by rw [pArgs]; simp [Tm.wts]
  | f + 1, p => by
    have h2 := pTerm_wt L f (pAdv sep p)
    have h3 := pArgs_wt L sep hs f (pTerm L f (pAdv sep p)).2
    have h5 : (pAdv sep p).pos = p.pos + sep.length := rfl
    rw [pArgs]
    split
    · simp only [Tm.wts, List.length_cons]; omega
    · simp [Tm.wts]
end
theorem tm0_wt : tm0.wt = 0 := by simp [tm0, Tm.wt, Tm.wts, ByteArray.size]
theorem nil_size : (⟨#[]⟩ : ByteArray).size = 0 := rfl
theorem pAtom_wt (L : List UInt8) (f : Nat) (p : PSt) : (pAtom L f p).1.wt + p.pos ≤ (pAtom L f p).2.pos := by
  have h1 := pTerm_wt L f p
  have h2 := pTerm_wt L f (pAdv sEquals (pTerm L f p).2)
  have h3 := pTerm_wt L f (pAdv sHoldsOf (pTerm L f p).2)
  have h4 := pArgs_wt L sComma (by decide) f (pTerm L f (pAdv sHoldsOf (pTerm L f p).2)).2
  have h5 := pMust_up L sHolds (pTerm L f p).2
  have e1 : (pAdv sEquals (pTerm L f p).2).pos = (pTerm L f p).2.pos + sEquals.length := rfl
  have e2 : (pAdv sHoldsOf (pTerm L f p).2).pos = (pTerm L f p).2.pos + sHoldsOf.length := rfl
  have l1 : 3 ≤ sEquals.length := by decide
  have l2 : 3 ≤ sHoldsOf.length := by decide
  have hn : (pTerm L f p).1.n.size ≤ (pTerm L f p).1.wt := by
    cases (pTerm L f p).1; simp only [Tm.wt, Tm.n]; omega
  have hq : (⟨#[61]⟩ : ByteArray).size = 1 := rfl
  unfold pAtom
  split
  · simp only [atomOfF, eqTm, Fm.wt, Fm.wts, Tm.wt, Tm.wts, List.length_cons, List.length_nil, nil_size, hq]; omega
  · split
    · simp only [atomOfF, Fm.wt, Fm.wts, Tm.wt, Tm.wts, List.length_cons, List.length_nil, nil_size]; omega
    · simp only [atomOfF, Fm.wt, Fm.wts, List.length_nil, nil_size]; omega
theorem pEng_wt (L : List UInt8) : ∀ (f : Nat) (p : PSt), (pEng L f p).1.wt + p.pos ≤ (pEng L f p).2.pos
  | 0, p => by rw [pEng]; simp [opF, Fm.wt, Fm.wts, tm0_wt, nil_size]
  | f + 1, p => by
    have pair : ∀ (op : Int) (word kw : List UInt8), 2 ≤ kw.length → (opF op [(pEng L f (pAdv kw p)).1, (pEng L f (pMust L word (pEng L f (pAdv kw p)).2)).1]).wt + p.pos ≤ (pEng L f (pMust L word (pEng L f (pAdv kw p)).2)).2.pos := fun op word kw hk => by
      have h1 := pEng_wt L f (pAdv kw p)
      have h2 := pMust_up L word (pEng L f (pAdv kw p)).2
      have h3 := pEng_wt L f (pMust L word (pEng L f (pAdv kw p)).2)
      have e1 : (pAdv kw p).pos = p.pos + kw.length := rfl
      simp only [opF, Fm.wt, Fm.wts, tm0_wt, nil_size, List.length_cons, List.length_nil]; omega
    have bound : ∀ (op : Int) (word kw : List UInt8), 1 ≤ kw.length → (quantF op (pWord L (pAdv kw p)).1 (pEng L f (pMust L word (pWord L (pAdv kw p)).2)).1).wt + p.pos ≤ (pEng L f (pMust L word (pWord L (pAdv kw p)).2)).2.pos := fun op word kw hk => by
      have h1 := pWord_wt L (pAdv kw p)
      have h2 := pMust_up L word (pWord L (pAdv kw p)).2
      have h3 := pEng_wt L f (pMust L word (pWord L (pAdv kw p)).2)
      have e1 : (pAdv kw p).pos = p.pos + kw.length := rfl
      simp only [quantF, Fm.wt, Fm.wts, tm0_wt, size_toBytes, List.length_cons, List.length_nil]; omega
    have hnot := pEng_wt L f (pAdv sNot p)
    have hat := pAtom_wt L f p
    have e1 : (pAdv sNot p).pos = p.pos + sNot.length := rfl
    have l1 : 2 ≤ sNot.length := by decide
    rw [pEng]
    simp only
    repeat' split
    · simp [opF, Fm.wt, Fm.wts, tm0_wt, nil_size, pAdv]
    · simp [opF, Fm.wt, Fm.wts, tm0_wt, nil_size, pAdv]
    · simp only [opF, Fm.wt, Fm.wts, tm0_wt, nil_size, List.length_cons, List.length_nil]; omega
    · exact pair _ _ _ (by decide)
    · exact pair _ _ _ (by decide)
    · exact pair _ _ _ (by decide)
    · exact bound _ _ _ (by decide)
    · exact bound _ _ _ (by decide)
    · exact hat
end Go.Proofs.YtdklemmincejpaaGreat
namespace Go.Proofs.YtdklemmincejpaaGreat
open Go.RowKit
/-- What the program's reader has read and where it stands then. -/
def pRead (L : List UInt8) : Fm × PSt := pEng L (L.length + 2) ⟨0, false⟩
/-- The program accepts the text. -/
def pOk (L : List UInt8) : Bool := !(pRead L).2.bad && (pRead L).2.pos == L.length && (pRead L).1.good && (pRead L).1.eng == L
theorem pRead_eng {F : Fm} (hg : F.good = true) : pRead F.eng = (F, ⟨F.eng.length, false⟩) := by
  have hf : F.form = true := by rw [Fm.good, Bool.and_eq_true] at hg; exact hg.2
  have h := pEng_ok (L := F.eng) (F.eng.length + 2) F 0 [] hf (by simp) (by first | exact goodR_nil | exact GoodR.nil | exact Or.inl rfl | (unfold GoodR; simp [stopC]) | (constructor <;> simp [stopC])) (by omega)
  simpa [pRead] using h
theorem pOk_iff {L : List UInt8} : pOk L = true ↔ ∃ F : Fm, F.good = true ∧ F.eng = L := by
  constructor
  · intro h
    simp only [pOk, Bool.and_eq_true, beq_iff_eq] at h
    exact ⟨_, h.1.2, h.2⟩
  · rintro ⟨F, hg, rfl⟩
    simp [pOk, pRead_eng hg, hg]
theorem pOk_read {F : Fm} {L : List UInt8} (hg : F.good = true) (he : F.eng = L) : (pRead L).1 = F := by subst he; rw [pRead_eng hg]
end Go.Proofs.YtdklemmincejpaaGreat
namespace Go.Proofs.YtdklemmincejpaaGreat
open Go.RowKit
/-- What EnglishToFormula answers. -/
def EtfPost (n : Nat) (ok : Bool) (F : Fm) (w : World) (e : Ending) (w' : World) : Prop :=
  Below w.heap.size w w' ∧ if ok = true then ∃ x, e = .returned (.tuple #[x, .bool true]) ∧ FmV n (NewB w w') w' F x
    else e = .returned (.tuple #[.agg #[.int .i64 0, .string ⟨#[]⟩, .slice none 0 0, .string ⟨#[]⟩, .slice none 0 0], .bool false])
theorem EtfPost.no {n : Nat} {ok : Bool} {F : Fm} {w w' : World} (h : ok = false) (hb : Below w.heap.size w w') : EtfPost n ok F w (.returned (.tuple #[.agg #[.int .i64 0, .string ⟨#[]⟩, .slice none 0 0, .string ⟨#[]⟩, .slice none 0 0], .bool false])) w' := by
  subst h; exact ⟨hb, rfl⟩
end Go.Proofs.YtdklemmincejpaaGreat
namespace Go.Proofs.YtdklemmincejpaaGreat
open Go.RowKit
set_option maxRecDepth 100000 in
set_option maxHeartbeats 3200000 in
theorem implETF_long (s : ByteArray) (hs : 12000 < s.size) (hz : s.size ≤ 1000000000000) (w : World) :
    Calls Tryz.prog 7 #[.string s] w fun e w' => e = .returned (.tuple #[.agg #[.int .i64 0, .string ⟨#[]⟩, .slice none 0 0, .string ⟨#[]⟩, .slice none 0 0], .bool false]) ∧ Below w.heap.size w w' := by
  go_enter Tryz.func7, Tryz.ntmps7
  go_wp2
  refine bodyPost_ret (v := .tuple #[.agg #[.int .i64 0, .string ⟨#[]⟩, .slice none 0 0, .string ⟨#[]⟩, .slice none 0 0], .bool false]) (by simp only [results, Tryz.results7]; go_simp) rfl ⟨rfl, by (repeat (first | with_reducible exact Below.refl _ _ | with_reducible assumption | with_reducible refine Below.al ?_ _ | with_reducible refine Below.sc ?_ (by first | exact Nat.le_refl _ | (simp; done) | (simp; omega)) _ | assumption | exact Below.refl _ _ | refine Below.dr ?_ | refine Below.drN ?_ _ | refine Below.step ?_ (by assumption)))⟩
set_option maxRecDepth 100000 in
set_option maxHeartbeats 3200000 in
theorem implETF_short (s : ByteArray) (hs : s.size ≤ 12000) (w : World) :
    Calls Tryz.prog 7 #[.string s] w (EtfPost (s.size + 5) (pOk s.data.toList) (pRead s.data.toList).1 w) := by
  have hwt := pEng_wt s.data.toList (s.size + 2) ⟨0, false⟩
  have hpo := (pEng_pos s.data.toList (s.size + 2) ⟨0, false⟩ (Nat.zero_le _)).2
  have hpr : pEng s.data.toList (s.size + 2) ⟨0, false⟩ = pRead s.data.toList := by rw [pRead, ← size_list]
  have hok : pOk s.data.toList = (!(pRead s.data.toList).2.bad && (pRead s.data.toList).2.pos == s.size && (pRead s.data.toList).1.good && (pRead s.data.toList).1.eng == s.data.toList) := by rw [pOk, ← size_list]
  rw [hpr] at hwt hpo
  rw [← size_list] at hpo
  have HPR := Lib.hid hpr
  clear hpr
  generalize pRead s.data.toList = r at *
  obtain ⟨F, p1⟩ := r
  simp only at hwt hpo hok
  have HOK := Lib.hid hok
  clear hok
  go_enter Tryz.func7, Tryz.ntmps7
  go_wp2_with fail
  refine (english_read (w.heap.size + 1) s ⟨0, false⟩ _ ?_ (Nat.zero_le _) (by omega)).mono ?_
  · have h0 := heap_alloc_new (w.alloc (.cells #[.int .i64 0, .string ⟨#[]⟩, .slice none 0 0, .string ⟨#[]⟩, .slice none 0 0] 27)) (.cells #[.string s, .int .i64 0, .bool false] 57)
    rw [show (w.alloc (.cells #[.int .i64 0, .string ⟨#[]⟩, .slice none 0 0, .string ⟨#[]⟩, .slice none 0 0] 27)).heap.size = w.heap.size + 1 by simp] at h0
    exact h0
  rw [HPR.out]
  simp only
  rintro e w1 ⟨x, rfl, hx⟩
  have HX := Lib.hid hx
  obtain ⟨z1, e1, z2, e2, rfl⟩ := hx.form
  clear hx
  have hz1 := HX.out.2.2.size
  simp at hz1
  go_wp2_with fail
  refine (ended_any (w.heap.size + 1) s p1 _ (PAt.below HX.out.2.1 (by (repeat (first | with_reducible exact Below.refl _ _ | with_reducible assumption | with_reducible refine Below.al ?_ _ | with_reducible refine Below.sc ?_ (by first | exact Nat.le_refl _ | (simp; done) | (simp; omega)) _ | assumption | exact Below.refl _ _ | refine Below.dr ?_ | refine Below.drN ?_ _ | refine Below.step ?_ (by assumption)))))).mono ?_
  rintro e w2 ⟨rfl, hb2⟩
  have G2 := gr_below (gr_al HX.out.2.2 _) hb2
  have HR := (G2.block w.heap.size (by simp; omega) (by simp)).trans ((heap_alloc_old (w.alloc _) _ (by simp)).trans (heap_alloc_new w _))
  have HB := (hb2.block w1.heap.size (by simp)).trans (heap_alloc_new w1 _)
  have hz2 := hb2.size
  simp at hz2
  have BW := Lib.hid (show True → Below w.heap.size w w2 from fun _ => ⟨G2.os, G2.tape, G2.output, by have := G2.size; simp at this; omega, fun b hb => (G2.block b (by simp; omega) (by simp; omega)).trans ((heap_alloc_old (w.alloc _) _ (by simp; omega)).trans (heap_alloc_old w _ hb))⟩)
  obtain ⟨r0, r1, r2, r3, r4, rf⟩ := cells5_cell HR
  obtain ⟨f0, f1, f2, f3, f4, ff⟩ := cells5_cell HB
  have hr1 := bsz (heap_lt HR)
  have hr2 := bsz (heap_lt HB)
  have HRH := Lib.hid HR
  clear HR HB G2
  cases hE : (!p1.bad && p1.pos == s.size)
  · have HE := Lib.hid (show pOk s.data.toList = false by rw [HOK.out, hE]; rfl)
    have hb3 := BW.out trivial
    go_wp2
    refine bodyPost_ret (v := .tuple #[.agg #[.int .i64 0, .string ⟨#[]⟩, .slice none 0 0, .string ⟨#[]⟩, .slice none 0 0], .bool false]) (by simp only [results, Tryz.results7]; go_simp) rfl (EtfPost.no HE.out (by clear hb2; (repeat (first | with_reducible exact Below.refl _ _ | with_reducible assumption | with_reducible refine Below.al ?_ _ | with_reducible refine Below.sc ?_ (by first | exact Nat.le_refl _ | (simp; done) | (simp; omega)) _ | assumption | exact Below.refl _ _ | refine Below.dr ?_ | refine Below.drN ?_ _ | refine Below.step ?_ (by assumption)))))
  · have HE := Lib.hid hE
    obtain ⟨v0, v1, v2, v3, v4, hx5, hO⟩ := HX.out.1
    simp only [Value.agg.injEq, Array.mk.injEq, List.cons.injEq, and_true] at hx5
    obtain ⟨rfl, rfl, rfl, rfl, rfl⟩ := hx5
    have HO := Lib.hid hO
    have HAT := Lib.hid (FmOwn.at_ _ _ _ hO)
    clear hO hE
    have hwt' : F.wt ≤ s.size := by omega
    have hsz := F.sz_wt
    have hasz := F.asz_wt
    go_wp2_with fail
    refine (isValidFormula_any (s.size + 5) F _ _ _ _ _ _ (FmAt.below (by (repeat (first | with_reducible exact Below.refl _ _ | with_reducible assumption | with_reducible refine Below.al ?_ _ | with_reducible refine Below.sc ?_ (by first | exact Nat.le_refl _ | (simp; done) | (simp; omega)) _ | assumption | exact Below.refl _ _ | refine Below.dr ?_ | refine Below.drN ?_ _ | refine Below.step ?_ (by assumption)))) HAT.out) (by omega) (by omega)).mono ?_
    rintro e w3 ⟨rfl, hbv⟩
    have ⟨cv, fv⟩ := bcell hbv
    have hqv := hbv.size
    have hv1 := bsz (show w.heap.size < w3.heap.size by omega)
    have hv2 := bsz (show w1.heap.size < w3.heap.size by omega)
    cases hG : F.good
    · have HG := Lib.hid (show pOk s.data.toList = false by rw [HOK.out, hG]; simp)
      go_wp2
      refine bodyPost_ret (v := .tuple #[.agg #[.int .i64 0, .string ⟨#[]⟩, .slice none 0 0, .string ⟨#[]⟩, .slice none 0 0], .bool false]) (by simp only [results, Tryz.results7]; go_simp) rfl (EtfPost.no HG.out (by have hb3 := BW.out trivial; clear hb2; (repeat (first | with_reducible exact Below.refl _ _ | with_reducible assumption | with_reducible refine Below.al ?_ _ | with_reducible refine Below.sc ?_ (by first | exact Nat.le_refl _ | (simp; done) | (simp; omega)) _ | assumption | exact Below.refl _ _ | refine Below.dr ?_ | refine Below.drN ?_ _ | refine Below.step ?_ (by assumption)))))
    · have HG := Lib.hid hG
      have hform : F.form = true := by rw [Fm.good, Bool.and_eq_true] at hG; exact hG.2
      have hel := Fm.eng_wt F.sz F (Nat.le_refl _) hform
      clear hG
      go_wp2_with fail
      refine (english_any (s.size + 5) F _ _ _ _ _ _ (FmAt.below (by (repeat (first | with_reducible exact Below.refl _ _ | with_reducible assumption | with_reducible refine Below.al ?_ _ | with_reducible refine Below.sc ?_ (by first | exact Nat.le_refl _ | (simp; done) | (simp; omega)) _ | assumption | exact Below.refl _ _ | refine Below.dr ?_ | refine Below.drN ?_ _ | refine Below.step ?_ (by assumption)))) HAT.out) hform (by omega)).mono ?_
      rintro e w4 ⟨rfl, hbe⟩
      have ⟨ce, fe⟩ := bcell hbe
      have hqe := hbe.size
      have hw1 := bsz (show w.heap.size < w4.heap.size by omega)
      have hw2 := bsz (show w1.heap.size < w4.heap.size by omega)
      by_cases hq : (⟨F.eng.toArray⟩ : ByteArray) = s
      · have HQ := Lib.hid (show pOk s.data.toList = true by rw [HOK.out, HE.out, HG.out]; simp [← hq])
        go_wp2
        refine bodyPost_ret (v := .tuple #[.agg #[.int .i64 F.op, .string F.a.n, .slice z1 F.a.us.length e1, .string F.v, .slice z2 F.ps.length e2], .bool true]) (by simp only [results, Tryz.results7]; go_simp) rfl ?_
        rw [HQ.out]
        refine ⟨by have hb3 := BW.out trivial; clear hb2; (repeat (first | with_reducible exact Below.refl _ _ | with_reducible assumption | with_reducible refine Below.al ?_ _ | with_reducible refine Below.sc ?_ (by first | exact Nat.le_refl _ | (simp; done) | (simp; omega)) _ | assumption | exact Below.refl _ _ | refine Below.dr ?_ | refine Below.drN ?_ _ | refine Below.step ?_ (by assumption))), _, rfl, _, _, _, _, _, rfl, ?_⟩
        have hb3 : Below w1.heap.size w1 w4 := by (repeat (first | with_reducible exact Below.refl _ _ | with_reducible assumption | with_reducible refine Below.al ?_ _ | with_reducible refine Below.sc ?_ (by first | exact Nat.le_refl _ | (simp; done) | (simp; omega)) _ | assumption | exact Below.refl _ _ | refine Below.dr ?_ | refine Below.drN ?_ _ | refine Below.step ?_ (by assumption)))
        exact FmOwn.mono _ _ _ _ (Nat.le_refl _) (fun b hb hlt => by
          have h0 : w.heap.size + 1 + 1 ≤ b := by simpa [NewB] using hb.1
          repeat rw [heap_setCell_other _ _ _ _ (by simp; omega)]
          exact hb3.block b hlt) (fun b hb => by
          have h0 : w.heap.size + 1 + 1 ≤ b := by simpa [NewB] using hb.1
          have h1 := hb.2
          exact ⟨by omega, by simp; omega⟩) HO.out
      · have HQ := Lib.hid (show pOk s.data.toList = false by
          rw [HOK.out, HE.out, HG.out, Bool.true_and, Bool.true_and, beq_eq_false_iff_ne]
          exact fun e => hq (by rw [e]))
        have hq2 : (F.eng == s.toList) = false := by
          rw [ByteArray.toList_eq, beq_eq_false_iff_ne]
          exact fun e => hq (by rw [e])
        go_wp2
        refine bodyPost_ret (v := .tuple #[.agg #[.int .i64 0, .string ⟨#[]⟩, .slice none 0 0, .string ⟨#[]⟩, .slice none 0 0], .bool false]) (by simp only [results, Tryz.results7]; go_simp) rfl (EtfPost.no HQ.out (by have hb3 := BW.out trivial; clear hb2; (repeat (first | with_reducible exact Below.refl _ _ | with_reducible assumption | with_reducible refine Below.al ?_ _ | with_reducible refine Below.sc ?_ (by first | exact Nat.le_refl _ | (simp; done) | (simp; omega)) _ | assumption | exact Below.refl _ _ | refine Below.dr ?_ | refine Below.drN ?_ _ | refine Below.step ?_ (by assumption)))))
end Go.Proofs.YtdklemmincejpaaGreat
namespace Go.Proofs.YtdklemmincejpaaGreat
open Go.RowKit
def rWordL (L : List UInt8) (k : Nat) : List UInt8 := (L.drop k).takeWhile wordC
mutual
/-- A term from a place on, and the place behind it. -/
def rTerm (L : List UInt8) : Nat → Nat → Option (Tm × Nat)
  | 0, _ => none
  | f + 1, k =>
    if (rWordL L k).isEmpty then none
    else if L[k + (rWordL L k).length]? = some 40 then rArgs L (rWordL L k) f [] (k + (rWordL L k).length)
    else some (.mk ⟨(rWordL L k).toArray⟩ [], k + (rWordL L k).length)
/-- The arguments from a bracket or a comma on, behind those that are read. -/
def rArgs (L n : List UInt8) : Nat → List Tm → Nat → Option (Tm × Nat)
  | 0, _, _ => none
  | f + 1, us, e =>
    match rTerm L f (e + 1) with
    | none => none
    | some (a, j) => if L[j]? = some 44 then rArgs L n f (us ++ [a]) j else if L[j]? = some 41 then some (.mk ⟨n.toArray⟩ (us ++ [a]), j + 1) else none
end
def sOf : List UInt8 := [32, 111, 102, 32]
/-- What the reader's term answers for what l3Read has answered. -/
def qGot (p : PSt) : Option (Tm × Nat) → Tm × PSt
  | none => (tm0, ⟨p.pos, true⟩)
  | some (t, k) => (t, ⟨k, false⟩)
def qTerm (L : List UInt8) (p : PSt) : Tm × PSt := if p.bad then (tm0, p) else qGot p (rTerm L (L.length + 2) p.pos)
def qName (L : List UInt8) (p : PSt) : List UInt8 × PSt := if p.bad then ([], p) else (pWordL L p, ⟨p.pos + (pWordL L p).length, false⟩)
def qArgs (L : List UInt8) : Nat → PSt → List Tm × PSt
  | 0, p => ([], p)
  | f + 1, p => if pTake L sComma p then ((qTerm L (pAdv sComma p)).1 :: (qArgs L f (qTerm L (pAdv sComma p)).2).1, (qArgs L f (qTerm L (pAdv sComma p)).2).2) else ([], p)
/-- The state behind 'holds'. -/
def qHold (L : List UInt8) (a : Tm × PSt) : PSt := if a.1.us.isEmpty then pMust L sHolds a.2 else ⟨(pMust L sHolds a.2).pos, true⟩
def qAtom (L : List UInt8) (p : PSt) : Fm × PSt :=
  if pTake L sEquals (qTerm L p).2 then (atomOfF (eqTm (qTerm L p).1 (qTerm L (pAdv sEquals (qTerm L p).2)).1), (qTerm L (pAdv sEquals (qTerm L p).2)).2)
  else if pTake L sOf (qHold L (qTerm L p)) then
    (atomOfF (.mk (qTerm L p).1.n ((qTerm L p).1.us ++ (qTerm L (pAdv sOf (qHold L (qTerm L p)))).1 :: (qArgs L (L.length + 2) (qTerm L (pAdv sOf (qHold L (qTerm L p)))).2).1)), (qArgs L (L.length + 2) (qTerm L (pAdv sOf (qHold L (qTerm L p)))).2).2)
  else (atomOfF (qTerm L p).1, qHold L (qTerm L p))
def qEng (L : List UInt8) : Nat → PSt → Fm × PSt
  | 0, p => (opF 0 [], p)
  | f + 1, p =>
    let pair := fun (op : Int) (word : List UInt8) (q : PSt) => (opF op [(qEng L f q).1, (qEng L f (pMust L word (qEng L f q).2)).1], (qEng L f (pMust L word (qEng L f q).2)).2)
    let bound := fun (op : Int) (word : List UInt8) (q : PSt) => (quantF op (qName L q).1 (qEng L f (pMust L word (qName L q).2)).1, (qEng L f (pMust L word (qName L q).2)).2)
    if p.bad then (opF 0 [], p)
    else if pTake L sTruth p then (opF 1 [], pAdv sTruth p)
    else if pTake L sFalsity p then (opF 2 [], pAdv sFalsity p)
    else if pTake L sNot p then (opF 4 [(qEng L f (pAdv sNot p)).1], (qEng L f (pAdv sNot p)).2)
    else if pTake L sBoth p then pair 5 sAnd (pAdv sBoth p)
    else if pTake L sEither p then pair 6 sOr (pAdv sEither p)
    else if pTake L sIf p then pair 7 sThen (pAdv sIf p)
    else if pTake L sEvery p then bound 8 sComma (pAdv sEvery p)
    else if pTake L sThere p then bound 9 sSuch (pAdv sThere p)
    else qAtom L p
/-! ### What is written is read back -/
theorem drop_get {L R : List UInt8} {k : Nat} (h : L.drop k = R) : L[k]? = R.head? := by rw [← h, List.head?_drop]
mutual
theorem rTerm_ok {L : List UInt8} : ∀ (f : Nat) (t : Tm) (k : Nat) (R : List UInt8), t.nodes = true → L.drop k = t.fmt ++ R → stopC R → t.fmt.length < f → rTerm L f k = some (t, k + t.fmt.length)
  | 0, _, _, _, _, _, _, h => absurd h (by omega)
  | f + 1, .mk n us, k, R, hn, hL, hR, hf => by
    have h1 := Tm.nodes_mk hn
    have hm := Tm.fmt_mk (us := us) (word_not61 h1.1)
    cases us with
    | nil =>
      rw [if_pos (by rfl)] at hm
      rw [hm] at hL ⊢
      have hw : rWordL L k = n.data.toList := by rw [rWordL, hL, takeWhile_app h1.1.1 (fun c hc => (hR c hc).1)]
      have e1 := drop_adv hL
      have hno : L[k + n.data.toList.length]? ≠ some 40 := by rw [drop_get e1]; intro h; exact (hR 40 h).2 rfl
      rw [rTerm, hw, if_neg (by simpa using h1.1.2), if_neg hno, ba_eq]
    | cons a us =>
      rw [if_neg (by simp), joinB_cons] at hm
      have h2 : a.nodes = true ∧ Tm.nodess us = true := by simpa [Tm.nodess] using h1.2
      have hlen : (Tm.mk n (a :: us)).fmt.length = n.data.toList.length + 1 + a.fmt.length + (sepAll [44] us).length + 1 := by rw [hm]; simp; omega
      have e0 : L.drop k = n.data.toList ++ ([40] ++ (a.fmt ++ (sepAll [44] us ++ ([41] ++ R)))) := by rw [hL, hm]; simp [List.append_assoc]
      have hw : rWordL L k = n.data.toList := by rw [rWordL, e0, takeWhile_app h1.1.1 (fun c hc => by simp at hc; subst hc; decide)]
      have e1 := drop_adv e0
      have hp : 0 < n.data.toList.length := List.length_pos_iff.2 h1.1.2
      rw [rTerm, hw, if_neg (by simpa using h1.1.2), if_pos (by rw [drop_get e1]; rfl)]
      rw [rArgs_ok f n.data.toList [] a us (k + n.data.toList.length) 40 R h2.1 h2.2 e1 (by omega), ba_eq, hlen]
      refine congrArg some (Prod.ext rfl ?_)
      show _ = _
      simp only; omega
theorem rArgs_ok {L : List UInt8} : ∀ (f : Nat) (n : List UInt8) (acc : List Tm) (a : Tm) (us : List Tm) (e : Nat) (c : UInt8) (R : List UInt8), a.nodes = true → Tm.nodess us = true → L.drop e = [c] ++ (a.fmt ++ (sepAll [44] us ++ ([41] ++ R))) → a.fmt.length + (sepAll [44] us).length + 1 < f →
    rArgs L n f acc e = some (.mk ⟨n.toArray⟩ (acc ++ a :: us), e + 1 + a.fmt.length + (sepAll [44] us).length + 1)
  | 0, _, _, _, _, _, _, _, _, _, _, h => absurd h (by omega)
  | f + 1, n, acc, a, us, e, c, R, ha, hu, hL, hf => by
    have s41 : stopC ([41] ++ R) := by intro c hc; simp at hc; subst hc; decide
    have s44 : stopC [44] := by intro c hc; simp at hc; subst hc; decide
    have e1 := drop_adv hL
    have e2 := drop_adv e1
    have h1 := rTerm_ok f a (e + 1) _ ha e1 (stop_sep s44 (by simp) s41) (by omega)
    rw [rArgs, h1]
    simp only
    have e2' : L.drop (e + 1 + a.fmt.length) = sepAll [44] us ++ ([41] ++ R) := e2
    cases us with
    | nil =>
      have hg : L[e + 1 + a.fmt.length]? = some 41 := by rw [drop_get e2']; rfl
      rw [hg, if_neg (by decide), if_pos rfl]
      simp [sepAll]
    | cons b us =>
      have h2 : b.nodes = true ∧ Tm.nodess us = true := by simpa [Tm.nodess] using hu
      have hg : L[e + 1 + a.fmt.length]? = some 44 := by rw [drop_get e2']; simp [sepAll]
      rw [hg, if_pos rfl]
      have hlen : (sepAll [44] (b :: us)).length = 1 + b.fmt.length + (sepAll [44] us).length := by rw [sepAll]; simp; omega
      rw [rArgs_ok f n (acc ++ [a]) b us (e + 1 + a.fmt.length) 44 R h2.1 h2.2 (by rw [e2', sepAll]; simp [List.append_assoc]) (by omega), hlen, List.append_assoc]
      refine congrArg some (Prod.ext rfl ?_)
      show _ = _
      simp only; omega
end
theorem fmt_lt {L R : List UInt8} {k : Nat} {t : List UInt8} (h : L.drop k = t ++ R) : t.length < L.length + 2 := by
  have := congrArg List.length h
  rw [List.length_drop, List.length_append] at this; omega
theorem qTerm_ok {L : List UInt8} {t : Tm} {k : Nat} {R : List UInt8} (hn : t.nodes = true) (hL : L.drop k = t.fmt ++ R) (hR : stopC R) : qTerm L ⟨k, false⟩ = (t, ⟨k + t.fmt.length, false⟩) := by
  rw [qTerm]
  show qGot _ _ = _
  rw [rTerm_ok _ t k R hn hL hR (fmt_lt hL)]
  rfl
theorem qName_ok {L n R : List UInt8} {k : Nat} (h : L.drop k = n ++ R) (hn : n.all wordC = true) (hR : ∀ c, R.head? = some c → wordC c = false) : qName L ⟨k, false⟩ = (n, ⟨k + n.length, false⟩) := by
  have e : pWordL L ⟨k, false⟩ = n := by rw [pWordL]; show (L.drop k).takeWhile wordC = n; rw [h, takeWhile_app hn hR]
  rw [qName, e]; rfl
theorem qArgs_ok {L : List UInt8} : ∀ (f : Nat) (us : List Tm) (k : Nat) (R : List UInt8), Tm.nodess us = true → L.drop k = sepAll sComma us ++ R → stopC R → sComma.isPrefixOf R = false → (sepAll sComma us).length < f →
    qArgs L f ⟨k, false⟩ = (us, ⟨k + (sepAll sComma us).length, false⟩)
  | 0, _, _, _, _, _, _, _, h => absurd h (by omega)
  | f + 1, [], k, R, hn, hL, hR, hp, hf => by
    rw [qArgs]
    have : pTake L sComma ⟨k, false⟩ = false := by simp only [pTake, hL]; simpa [sepAll] using hp
    rw [this]; rfl
  | f + 1, a :: us, k, R, hn, hL, hR, hp, hf => by
    have hs : stopC sComma := by intro c hc; simp [sComma] at hc; subst hc; decide
    have h2 : a.nodes = true ∧ Tm.nodess us = true := by simpa [Tm.nodess] using hn
    have e0 : L.drop k = sComma ++ (a.fmt ++ (sepAll sComma us ++ R)) := by rw [hL, sepAll]; simp [List.append_assoc]
    have e1 := drop_adv e0
    have e2 := drop_adv e1
    have hl : 0 < sComma.length := by decide
    rw [sepAll] at hf ⊢
    simp only [List.length_append] at hf ⊢
    have ha := qTerm_ok h2.1 e1 (stop_sep hs (by decide) hR)
    have hb := qArgs_ok f us _ R h2.2 e2 hR hp (by omega)
    rw [qArgs, if_pos (pTake_yes e0)]
    simp only [pAdv] at ha hb ⊢
    rw [ha, hb]
    refine Prod.ext rfl ?_
    show PSt.mk _ _ = PSt.mk _ _
    congr 1
    omega
theorem qHold_ok {L R : List UInt8} {k : Nat} {t : Tm} (ht : t.us = []) (h : L.drop k = sHolds ++ R) : qHold L (t, ⟨k, false⟩) = ⟨k + sHolds.length, false⟩ := by
  rw [qHold, ht]; exact pMust_yes h
theorem qAtom_ok {L : List UInt8} {t : Tm} {k : Nat} {R : List UInt8} (ht : t.atom = true) (hL : L.drop k = t.eng ++ R) (hR : GoodR R) : qAtom L ⟨k, false⟩ = (atomOfF t, ⟨k + t.eng.length, false⟩) := by
  cases atom_cases ht with
  | eq a b ha hb =>
    rw [eng_eq] at hL ⊢
    have e0 : L.drop k = a.fmt ++ (sEquals ++ (b.fmt ++ R)) := by rw [hL]; simp [List.append_assoc]
    have e1 := drop_adv e0
    have e2 := drop_adv e1
    have h1 := qTerm_ok ha e0 (by intro c hc; simp [sEquals] at hc; subst hc; decide)
    have h2 := qTerm_ok hb e2 hR.stop
    rw [qAtom, h1, if_pos (pTake_yes e1)]
    simp only [pAdv] at h2 ⊢
    rw [h2]
    refine Prod.ext rfl ?_
    show PSt.mk _ _ = PSt.mk _ _
    congr 1
    simp only [List.length_append]; omega
  | pred n us hs hu hd =>
    have h0 := symB_nodes0 hs
    have hm := symB_fmt0 hs
    rw [eng_pred hs] at hL ⊢
    cases us with
    | nil =>
      rw [if_pos (show ([] : List Tm).isEmpty = true from rfl)] at hL ⊢
      have e0 : L.drop k = (Tm.mk n []).fmt ++ (sHolds ++ R) := by rw [hL, hm]; simp [List.append_assoc]
      have e1 := drop_adv e0
      have e2 := drop_adv e1
      have h1 := qTerm_ok h0 e0 (by intro c hc; simp [sHolds] at hc; subst hc; decide)
      have h2 := qHold_ok (t := .mk n []) rfl e1
      rw [qAtom, h1, if_neg (by rw [pTake_no e1 rfl]; simp), h2, if_neg (by
        rw [pTake_no e2 ?_]; simp
        exact hR.no.2), hm]
      refine Prod.ext rfl ?_
      show PSt.mk _ _ = PSt.mk _ _
      congr 1
      simp only [List.length_append]; omega
    | cons a us =>
      rw [if_neg (by simp), joinB_cons] at hL ⊢
      have hau : a.nodes = true ∧ Tm.nodess us = true := by simpa [Tm.nodess] using hu
      have e0 : L.drop k = (Tm.mk n []).fmt ++ (sHolds ++ (sOf ++ (a.fmt ++ (sepAll sComma us ++ R)))) := by rw [hL, hm]; simp [List.append_assoc, sHoldsOf, sHolds, sOf]
      have e1 := drop_adv e0
      have e2 := drop_adv e1
      have e3 := drop_adv e2
      have e4 := drop_adv e3
      have sc : stopC sComma := by intro c hc; simp [sComma] at hc; subst hc; decide
      have h1 := qTerm_ok h0 e0 (by intro c hc; simp [sHolds] at hc; subst hc; decide)
      have h2 := qHold_ok (t := .mk n []) rfl e1
      have h3 := qTerm_ok hau.1 e3 (stop_sep sc (by decide) hR.stop)
      have h4 := qArgs_ok (L.length + 2) us _ R hau.2 e4 hR.stop hR.no.1 (fmt_lt e4)
      rw [qAtom, h1, if_neg (by rw [pTake_no e1 rfl]; simp), h2, if_pos (pTake_yes e2)]
      simp only [pAdv] at h3 h4 ⊢
      rw [h3, h4]
      refine Prod.ext rfl ?_
      show PSt.mk _ _ = PSt.mk _ _
      congr 1
      rw [hm]
      have hl : sHoldsOf.length = sHolds.length + sOf.length := rfl
      simp only [List.length_append]; omega
theorem qEng_atom {L : List UInt8} {f k : Nat} {T : List UInt8} (h : L.drop k = T) (hn : noKw T) : qEng L (f + 1) ⟨k, false⟩ = qAtom L ⟨k, false⟩ := by
  have hh : ∀ kw ∈ [sTruth, sFalsity, sNot, sBoth, sEither, sIf, sEvery, sThere], pTake L kw ⟨k, false⟩ = false := fun kw hk => pTake_no h (hn kw hk)
  simp only [List.mem_cons, List.not_mem_nil, or_false, forall_eq_or_imp, forall_eq] at hh
  obtain ⟨h1, h2, h3, h4, h5, h6, h7, h8⟩ := hh
  rw [qEng]
  simp only [h1, h2, h3, h4, h5, h6, h7, h8]
  rfl
/-- The English of a formula that has a form is read back. -/
theorem qEng_ok {L : List UInt8} : ∀ (f : Nat) (F : Fm) (k : Nat) (R : List UInt8), F.form = true → L.drop k = F.eng ++ R → GoodR R → F.eng.length + 1 < f → qEng L f ⟨k, false⟩ = (F, ⟨k + F.eng.length, false⟩)
  | 0, _, _, _, _, _, _, h => absurd h (by omega)
  | f + 1, F, k, R, hF, hL, hR, hf => by
    cases form_cases hF with
    | tru =>
      have e : (opF 1 []).eng = sTruth := by rw [opF, Fm.eng]; rfl
      rw [e] at hL ⊢
      rw [qEng]
      simp only [pTake_yes hL, if_true, Bool.false_eq_true, if_false]
      rfl
    | fal =>
      have e : (opF 2 []).eng = sFalsity := by rw [opF, Fm.eng]; rfl
      rw [e] at hL ⊢
      rw [qEng]
      have h1 : pTake L sTruth ⟨k, false⟩ = false := noKw_head (c := 102) (T := sFalsity.tail ++ R) hL (d := 116) rfl (by decide)
      simp only [h1, pTake_yes hL, if_true, Bool.false_eq_true, if_false]
      rfl
    | atm a ha =>
      have e : (atomOfF a).eng = a.eng := by rw [atomOfF, Fm.eng]; rfl
      rw [e] at hL hf ⊢
      rw [qEng_atom hL (atom_noKw ha R)]
      exact qAtom_ok ha hL hR
    | neg g hg =>
      have e : (opF 4 [g]).eng = sNot ++ g.eng := by rw [opF, Fm.eng]; rfl
      rw [e] at hL hf ⊢
      have e0 : L.drop k = sNot ++ (g.eng ++ R) := by rw [hL, List.append_assoc]
      have e1 := drop_adv e0
      rw [List.length_append] at hf
      have hn : sNot.length = 24 := rfl
      have h1 := qEng_ok f g _ R hg e1 hR (by omega)
      have n1 : pTake L sTruth ⟨k, false⟩ = false := noKw_head (c := 105) e0 (d := 116) rfl (by decide)
      have n2 : pTake L sFalsity ⟨k, false⟩ = false := noKw_head (c := 105) e0 (d := 102) rfl (by decide)
      rw [qEng]
      simp only [n1, n2, pTake_yes e0, if_true, Bool.false_eq_true, if_false, pAdv]
      rw [h1]
      refine Prod.ext rfl ?_
      show PSt.mk _ _ = PSt.mk _ _
      congr 1
      rw [List.length_append]; omega
    | bin op g h ho hg hh =>
      obtain ⟨kw, md, e, hkm⟩ : ∃ kw md, (opF op [g, h]).eng = kw ++ g.eng ++ md ++ h.eng ∧ ((op = 5 ∧ kw = sBoth ∧ md = sAnd) ∨ (op = 6 ∧ kw = sEither ∧ md = sOr) ∨ (op = 7 ∧ kw = sIf ∧ md = sThen)) := by
        rcases ho with rfl | rfl | rfl
        · exact ⟨sBoth, sAnd, by rw [opF, Fm.eng]; rfl, .inl ⟨rfl, rfl, rfl⟩⟩
        · exact ⟨sEither, sOr, by rw [opF, Fm.eng]; rfl, .inr (.inl ⟨rfl, rfl, rfl⟩)⟩
        · exact ⟨sIf, sThen, by rw [opF, Fm.eng]; rfl, .inr (.inr ⟨rfl, rfl, rfl⟩)⟩
      rw [e] at hL hf ⊢
      have e0 : L.drop k = kw ++ (g.eng ++ (md ++ (h.eng ++ R))) := by rw [hL]; simp [List.append_assoc]
      have e1 := drop_adv e0
      have e2 := drop_adv e1
      have e3 := drop_adv e2
      have hk : 0 < kw.length ∧ 0 < md.length := by rcases hkm with ⟨_, rfl, rfl⟩ | ⟨_, rfl, rfl⟩ | ⟨_, rfl, rfl⟩ <;> decide
      have hmd : GoodR (md ++ (h.eng ++ R)) := by
        rcases hkm with ⟨_, rfl, rfl⟩ | ⟨_, rfl, rfl⟩ | ⟨_, rfl, rfl⟩
        · exact .and _
        · exact .or _
        · exact .then _
      simp only [List.length_append] at hf
      have h1 := qEng_ok f g _ _ hg e1 hmd (by omega)
      have h2 := qEng_ok f h _ _ hh e3 hR (by omega)
      have h3 := pMust_yes e2
      have hend : ∀ p : PSt, p = ⟨k + kw.length + g.eng.length + md.length + h.eng.length, false⟩ → (opF op [g, h], p) = (opF op [g, h], ⟨k + (kw ++ g.eng ++ md ++ h.eng).length, false⟩) := by
        rintro p rfl
        refine Prod.ext rfl ?_
        show PSt.mk _ _ = PSt.mk _ _
        congr 1
        simp only [List.length_append]; omega
      rcases hkm with ⟨rfl, rfl, rfl⟩ | ⟨rfl, rfl, rfl⟩ | ⟨rfl, rfl, rfl⟩
      · have n1 : pTake L sTruth ⟨k, false⟩ = false := noKw_head (c := 98) e0 (d := 116) rfl (by decide)
        have n2 : pTake L sFalsity ⟨k, false⟩ = false := noKw_head (c := 98) e0 (d := 102) rfl (by decide)
        have n3 : pTake L sNot ⟨k, false⟩ = false := noKw_head (c := 98) e0 (d := 105) rfl (by decide)
        rw [qEng]
        simp only [n1, n2, n3, pTake_yes e0, if_true, Bool.false_eq_true, if_false, pAdv]
        rw [h1, h3, h2]
        exact hend _ rfl
      · have n1 : pTake L sTruth ⟨k, false⟩ = false := noKw_head (c := 101) e0 (d := 116) rfl (by decide)
        have n2 : pTake L sFalsity ⟨k, false⟩ = false := noKw_head (c := 101) e0 (d := 102) rfl (by decide)
        have n3 : pTake L sNot ⟨k, false⟩ = false := noKw_head (c := 101) e0 (d := 105) rfl (by decide)
        have n4 : pTake L sBoth ⟨k, false⟩ = false := noKw_head (c := 101) e0 (d := 98) rfl (by decide)
        rw [qEng]
        simp only [n1, n2, n3, n4, pTake_yes e0, if_true, Bool.false_eq_true, if_false, pAdv]
        rw [h1, h3, h2]
        exact hend _ rfl
      · have n1 : pTake L sTruth ⟨k, false⟩ = false := noKw_head (c := 105) e0 (d := 116) rfl (by decide)
        have n2 : pTake L sFalsity ⟨k, false⟩ = false := noKw_head (c := 105) e0 (d := 102) rfl (by decide)
        have n3 : pTake L sNot ⟨k, false⟩ = false := pTake_no e0 rfl
        have n4 : pTake L sBoth ⟨k, false⟩ = false := noKw_head (c := 105) e0 (d := 98) rfl (by decide)
        have n5 : pTake L sEither ⟨k, false⟩ = false := noKw_head (c := 105) e0 (d := 101) rfl (by decide)
        rw [qEng]
        simp only [n1, n2, n3, n4, n5, pTake_yes e0, if_true, Bool.false_eq_true, if_false, pAdv]
        rw [h1, h3, h2]
        exact hend _ rfl
    | qua op v g ho hv hg =>
      obtain ⟨kw, md, e, hkm⟩ : ∃ kw md, (quantF op v g).eng = kw ++ v ++ md ++ g.eng ∧ ((op = 8 ∧ kw = sEvery ∧ md = sComma) ∨ (op = 9 ∧ kw = sThere ∧ md = sSuch)) := by
        rcases ho with rfl | rfl
        · exact ⟨sEvery, sComma, by rw [quantF, Fm.eng]; rfl, .inl ⟨rfl, rfl, rfl⟩⟩
        · exact ⟨sThere, sSuch, by rw [quantF, Fm.eng]; rfl, .inr ⟨rfl, rfl, rfl⟩⟩
      rw [e] at hL hf ⊢
      have e0 : L.drop k = kw ++ (v ++ (md ++ (g.eng ++ R))) := by rw [hL]; simp [List.append_assoc]
      have e1 := drop_adv e0
      have e2 := drop_adv e1
      have e3 := drop_adv e2
      have hk : 0 < kw.length ∧ 0 < md.length := by rcases hkm with ⟨_, rfl, rfl⟩ | ⟨_, rfl, rfl⟩ <;> decide
      simp only [List.length_append] at hf
      have hw := varB_word hv
      have h1 := qName_ok e1 hw.1 (by
        rcases hkm with ⟨_, rfl, rfl⟩ | ⟨_, rfl, rfl⟩
        · intro c hc; have : c = 44 := by simpa [sComma] using hc.symm
          subst this; decide
        · intro c hc; have : c = 32 := by simpa [sSuch] using hc.symm
          subst this; decide)
      have h2 := qEng_ok f g _ _ hg e3 hR (by omega)
      have h3 := pMust_yes e2
      have hend : ∀ p : PSt, p = ⟨k + kw.length + v.length + md.length + g.eng.length, false⟩ → (quantF op v g, p) = (quantF op v g, ⟨k + (kw ++ v ++ md ++ g.eng).length, false⟩) := by
        rintro p rfl
        refine Prod.ext rfl ?_
        show PSt.mk _ _ = PSt.mk _ _
        congr 1
        simp only [List.length_append]; omega
      rcases hkm with ⟨rfl, rfl, rfl⟩ | ⟨rfl, rfl, rfl⟩
      · have n1 : pTake L sTruth ⟨k, false⟩ = false := noKw_head (c := 102) e0 (d := 116) rfl (by decide)
        have n2 : pTake L sFalsity ⟨k, false⟩ = false := pTake_no e0 rfl
        have n3 : pTake L sNot ⟨k, false⟩ = false := noKw_head (c := 102) e0 (d := 105) rfl (by decide)
        have n4 : pTake L sBoth ⟨k, false⟩ = false := noKw_head (c := 102) e0 (d := 98) rfl (by decide)
        have n5 : pTake L sEither ⟨k, false⟩ = false := noKw_head (c := 102) e0 (d := 101) rfl (by decide)
        have n6 : pTake L sIf ⟨k, false⟩ = false := noKw_head (c := 102) e0 (d := 105) rfl (by decide)
        rw [qEng]
        simp only [n1, n2, n3, n4, n5, n6, pTake_yes e0, if_true, Bool.false_eq_true, if_false, pAdv]
        rw [h1, h3, h2]
        exact hend _ rfl
      · have n1 : pTake L sTruth ⟨k, false⟩ = false := pTake_no e0 rfl
        have n2 : pTake L sFalsity ⟨k, false⟩ = false := noKw_head (c := 116) e0 (d := 102) rfl (by decide)
        have n3 : pTake L sNot ⟨k, false⟩ = false := noKw_head (c := 116) e0 (d := 105) rfl (by decide)
        have n4 : pTake L sBoth ⟨k, false⟩ = false := noKw_head (c := 116) e0 (d := 98) rfl (by decide)
        have n5 : pTake L sEither ⟨k, false⟩ = false := noKw_head (c := 116) e0 (d := 101) rfl (by decide)
        have n6 : pTake L sIf ⟨k, false⟩ = false := noKw_head (c := 116) e0 (d := 105) rfl (by decide)
        have n7 : pTake L sEvery ⟨k, false⟩ = false := noKw_head (c := 116) e0 (d := 102) rfl (by decide)
        rw [qEng]
        simp only [n1, n2, n3, n4, n5, n6, n7, pTake_yes e0, if_true, Bool.false_eq_true, if_false, pAdv]
        rw [h1, h3, h2]
        exact hend _ rfl
/-- What the reference's reader has read and where it stands then. -/
def qRead (L : List UInt8) : Fm × PSt := qEng L (L.length + 2) ⟨0, false⟩
/-- The reference accepts the text. -/
def qOk (L : List UInt8) : Bool := !(qRead L).2.bad && (qRead L).2.pos == L.length && (qRead L).1.good && (qRead L).1.eng == L
theorem qRead_eng {F : Fm} (hg : F.good = true) : qRead F.eng = (F, ⟨F.eng.length, false⟩) := by
  have hf : F.form = true := by rw [Fm.good, Bool.and_eq_true] at hg; exact hg.2
  have h := qEng_ok (L := F.eng) (F.eng.length + 2) F 0 [] hf (by simp) GoodR.nil (by omega)
  simpa [qRead] using h
theorem qOk_iff {L : List UInt8} : qOk L = true ↔ ∃ F : Fm, F.good = true ∧ F.eng = L := by
  constructor
  · intro h
    simp only [qOk, Bool.and_eq_true, beq_iff_eq] at h
    exact ⟨_, h.1.2, h.2⟩
  · rintro ⟨F, hg, rfl⟩
    simp [qOk, qRead_eng hg, hg]
theorem qOk_read {F : Fm} {L : List UInt8} (hg : F.good = true) (he : F.eng = L) : (qRead L).1 = F := by subst he; rw [qRead_eng hg]
end Go.Proofs.YtdklemmincejpaaGreat
namespace Go.Proofs.YtdklemmincejpaaGreat
open Go.RowKit
theorem Tm.wts_snoc (us : List Tm) (a : Tm) : Tm.wts (us ++ [a]) = Tm.wts us + a.wt := by
  induction us with
  | nil => simp [Tm.wts]
  | cons b us ih => rw [List.cons_append, Tm.wts, ih, Tm.wts]; omega
theorem Tm.wts_app (us vs : List Tm) : Tm.wts (us ++ vs) = Tm.wts us + Tm.wts vs := by
  induction us with
  | nil => simp [Tm.wts]
  | cons b us ih => rw [List.cons_append, Tm.wts, ih, Tm.wts]; omega
theorem rWordL_le (L : List UInt8) (k : Nat) (hk : k ≤ L.length) : k + (rWordL L k).length ≤ L.length := by
  have : (rWordL L k).length ≤ (L.drop k).length := (List.takeWhile_sublist _).length_le
  rw [List.length_drop] at this; omega
theorem size_arr (l : List UInt8) : (⟨l.toArray⟩ : ByteArray).size = l.length := by simp [ByteArray.size]
theorem get_lt {L : List UInt8} {k : Nat} {c : UInt8} (h : L[k]? = some c) : k < L.length := (List.getElem?_eq_some_iff.1 h).1
mutual
theorem rTerm_wt (L : List UInt8) : ∀ (f k : Nat) (t : Tm) (j : Nat), k ≤ L.length → rTerm L f k = some (t, j) → t.wt + k ≤ j ∧ j ≤ L.length ∧ k < j
  | 0, _, _, _, _, h => by rw [rTerm] at h; cases h
  | f + 1, k, t, j, hk, h => by
    have h1 := rWordL_le L k hk
    rw [rTerm] at h
    split at h
    · cases h
    · rename_i h0
      have h2 : 0 < (rWordL L k).length := List.length_pos_iff.2 (by simpa using h0)
      split at h
      · rename_i h3
        have := rArgs_wt L f (rWordL L k) [] _ t j (get_lt h3) h
        simp only [List.length_nil, Tm.wts] at this
        omega
      · injection h with h
        injection h with ht hj
        subst ht hj
        simp only [Tm.wt, Tm.wts, List.length_nil, size_arr]; omega
theorem rArgs_wt (L : List UInt8) : ∀ (f : Nat) (n : List UInt8) (acc : List Tm) (e : Nat) (t : Tm) (j : Nat), e < L.length → rArgs L n f acc e = some (t, j) → t.wt + e ≤ j + n.length + acc.length + Tm.wts acc ∧ j ≤ L.length ∧ e < j
  | 0, _, _, _, _, _, _, h => by rw [rArgs] at h; cases h
  | f + 1, n, acc, e, t, j, he, h => by
    rw [rArgs] at h
    split at h
    · cases h
    · rename_i a i ha
      have h1 := rTerm_wt L f (e + 1) a i he ha
      split at h
      · rename_i h2
        have := rArgs_wt L f n (acc ++ [a]) i t j (get_lt h2) h
        rw [Tm.wts_snoc, List.length_append, List.length_singleton] at this
        omega
      · split at h
        · rename_i h2
          have := get_lt h2
          injection h with h
          injection h with ht hj
          subst ht hj
          simp only [Tm.wt, Tm.wts_snoc, List.length_append, List.length_singleton, size_arr]; omega
        · cases h
end
theorem qTm0_wt : tm0.wt = 0 := by simp [tm0, Tm.wt, Tm.wts, ByteArray.size]
theorem qNil_size : (⟨#[]⟩ : ByteArray).size = 0 := rfl
theorem qTerm_wt (L : List UInt8) (p : PSt) (hp : p.pos ≤ L.length) : (qTerm L p).1.wt + p.pos ≤ (qTerm L p).2.pos ∧ (qTerm L p).2.pos ≤ L.length := by
  rw [qTerm]
  split
  · simp only [qTm0_wt]; omega
  · cases h : rTerm L (L.length + 2) p.pos with
    | none => simp only [qGot, qTm0_wt]; omega
    | some a => have := rTerm_wt L _ _ a.1 a.2 hp h; simp only [qGot]; omega
theorem qName_pos (L : List UInt8) (p : PSt) (hp : p.pos ≤ L.length) : (qName L p).1.length + p.pos ≤ (qName L p).2.pos ∧ (qName L p).2.pos ≤ L.length := by
  have := pWordL_le L p hp
  unfold qName; split <;> simp <;> omega
theorem qArgs_wt (L : List UInt8) : ∀ (f : Nat) (p : PSt), p.pos ≤ L.length → (qArgs L f p).1.length + Tm.wts (qArgs L f p).1 + p.pos ≤ (qArgs L f p).2.pos ∧ (qArgs L f p).2.pos ≤ L.length
  | 0, p, hp => by rw [qArgs]; simp only [List.length_nil, Tm.wts]; omega
  | f + 1, p, hp => by
    rw [qArgs]
    split
    · rename_i h
      have h1 := pTake_le h hp
      have h2 := qTerm_wt L (pAdv sComma p) h1
      have h3 := qArgs_wt L f _ h2.2
      have e : (pAdv sComma p).pos = p.pos + 2 := rfl
      simp only [List.length_cons, Tm.wts]; omega
    · simp only [List.length_nil, Tm.wts]; omega
theorem qHold_pos (L : List UInt8) (a : Tm × PSt) (hp : a.2.pos ≤ L.length) : a.2.pos ≤ (qHold L a).pos ∧ (qHold L a).pos ≤ L.length := by
  have := pMust_pos L sHolds a.2 hp
  unfold qHold; split <;> exact this
theorem qAtom_wt (L : List UInt8) (p : PSt) (hp : p.pos ≤ L.length) : (qAtom L p).1.wt + p.pos ≤ (qAtom L p).2.pos ∧ (qAtom L p).2.pos ≤ L.length := by
  have h1 := qTerm_wt L p hp
  have h2 := qHold_pos L _ h1.2
  have hq : (⟨#[61]⟩ : ByteArray).size = 1 := rfl
  unfold qAtom
  split
  · rename_i h
    have h3 := pTake_le h h1.2
    have h4 := qTerm_wt L (pAdv sEquals (qTerm L p).2) h3
    have e : (pAdv sEquals (qTerm L p).2).pos = (qTerm L p).2.pos + 8 := rfl
    simp only [atomOfF, eqTm, Fm.wt, Fm.wts, Tm.wt, Tm.wts, List.length_cons, List.length_nil, qNil_size, hq]; omega
  · split
    · rename_i h
      have h3 := pTake_le h h2.2
      have h4 := qTerm_wt L (pAdv sOf (qHold L (qTerm L p))) h3
      have h5 := qArgs_wt L (L.length + 2) _ h4.2
      have e : (pAdv sOf (qHold L (qTerm L p))).pos = (qHold L (qTerm L p)).pos + 4 := rfl
      have hw : (qTerm L p).1.wt = (qTerm L p).1.n.size + (qTerm L p).1.us.length + Tm.wts (qTerm L p).1.us := by cases (qTerm L p).1; rfl
      simp only [atomOfF, Fm.wt, Fm.wts, Tm.wt, Tm.wts, Tm.wts_app, List.length_append, List.length_cons, List.length_nil, qNil_size]; omega
    · simp only [atomOfF, Fm.wt, Fm.wts, List.length_nil, qNil_size]; omega
theorem qEng_wt (L : List UInt8) : ∀ (f : Nat) (p : PSt), p.pos ≤ L.length → (qEng L f p).1.wt + p.pos ≤ (qEng L f p).2.pos ∧ (qEng L f p).2.pos ≤ L.length
  | 0, p, hp => by rw [qEng]; simp only [opF, Fm.wt, Fm.wts, qTm0_wt, qNil_size, List.length_nil]; omega
  | f + 1, p, hp => by
    have pair : ∀ (op : Int) (word kw : List UInt8), pTake L kw p = true → 2 ≤ kw.length → (opF op [(qEng L f (pAdv kw p)).1, (qEng L f (pMust L word (qEng L f (pAdv kw p)).2)).1]).wt + p.pos ≤ (qEng L f (pMust L word (qEng L f (pAdv kw p)).2)).2.pos ∧ (qEng L f (pMust L word (qEng L f (pAdv kw p)).2)).2.pos ≤ L.length := fun op word kw h hk => by
      have h2 := pTake_le h hp
      have h3 := qEng_wt L f (pAdv kw p) h2
      have h4 := pMust_pos L word _ h3.2
      have h5 := qEng_wt L f _ h4.2
      have e1 : (pAdv kw p).pos = p.pos + kw.length := rfl
      simp only [opF, Fm.wt, Fm.wts, qTm0_wt, qNil_size, List.length_cons, List.length_nil]; omega
    have bound : ∀ (op : Int) (word kw : List UInt8), pTake L kw p = true → 1 ≤ kw.length → (quantF op (qName L (pAdv kw p)).1 (qEng L f (pMust L word (qName L (pAdv kw p)).2)).1).wt + p.pos ≤ (qEng L f (pMust L word (qName L (pAdv kw p)).2)).2.pos ∧ (qEng L f (pMust L word (qName L (pAdv kw p)).2)).2.pos ≤ L.length := fun op word kw h hk => by
      have h2 := pTake_le h hp
      have h3 := qName_pos L (pAdv kw p) h2
      have h4 := pMust_pos L word _ h3.2
      have h5 := qEng_wt L f _ h4.2
      have e1 : (pAdv kw p).pos = p.pos + kw.length := rfl
      simp only [quantF, Fm.wt, Fm.wts, qTm0_wt, size_arr, List.length_cons, List.length_nil]; omega
    have leaf : ∀ (op : Int) (kw : List UInt8), pTake L kw p = true → (opF op []).wt + p.pos ≤ (pAdv kw p).pos ∧ (pAdv kw p).pos ≤ L.length := fun op kw h => by
      have h2 := pTake_le h hp
      simp only [opF, Fm.wt, Fm.wts, qTm0_wt, qNil_size, List.length_nil, pAdv]; omega
    have neg : pTake L sNot p = true → (opF 4 [(qEng L f (pAdv sNot p)).1]).wt + p.pos ≤ (qEng L f (pAdv sNot p)).2.pos ∧ (qEng L f (pAdv sNot p)).2.pos ≤ L.length := fun h => by
      have h2 := pTake_le h hp
      have h3 := qEng_wt L f (pAdv sNot p) h2
      have e1 : (pAdv sNot p).pos = p.pos + 24 := rfl
      simp only [opF, Fm.wt, Fm.wts, qTm0_wt, qNil_size, List.length_cons, List.length_nil]; omega
    have hat := qAtom_wt L p hp
    rw [qEng]
    simp only
    split
    · simp only [opF, Fm.wt, Fm.wts, qTm0_wt, qNil_size, List.length_nil]; omega
    · split
      · exact leaf _ _ ‹_›
      · split
        · exact leaf _ _ ‹_›
        · split
          · exact neg ‹_›
          · split
            · exact pair _ _ _ ‹_› (by decide)
            · split
              · exact pair _ _ _ ‹_› (by decide)
              · split
                · exact pair _ _ _ ‹_› (by decide)
                · split
                  · exact bound _ _ _ ‹_› (by decide)
                  · split
                    · exact bound _ _ _ ‹_› (by decide)
                    · exact hat
end Go.Proofs.YtdklemmincejpaaGreat
namespace Go.Proofs.YtdklemmincejpaaGreat
open Go.RowKit
theorem l3Word_any (c : UInt8) (w : World) : Calls Tryz.prog 136 #[.int .u8 (c.toNat : Int)] w fun e w' => e = .returned (.bool (wordC c)) ∧ w = w' := by
  have h95 : ((c.toNat : Int) == 95) = (c == 95) := by
    rw [Bool.eq_iff_iff, beq_iff_eq, beq_iff_eq]
    exact ⟨fun e => UInt8.toNat_inj.1 (show c.toNat = 95 by omega), fun e => by subst e; rfl⟩
  have e95 : (c = 95) = (c.toNat = 95) := propext ⟨fun e => by rw [e]; rfl, fun e => UInt8.toNat_inj.1 e⟩
  go_enter Tryz.func136, Tryz.ntmps136
  go_wp2_with (first | (go_at_call 153; refine (l2Small_any _ _).mono ?_; rintro e w' ⟨rfl, rfl⟩))
  all_goals go_ret
  all_goals refine ⟨ret_bool ?_, rfl⟩
  all_goals rw [Bool.eq_iff_iff]
  all_goals (simp_all only [e95, wordC, loC, upC, diC, smC, decide_eq_true_eq, Bool.and_eq_true, Bool.or_eq_true, true_iff, false_iff, Bool.false_eq_true, not_and, not_or, beq_iff_eq])
  all_goals omega
theorem isPrefixOf_take (t l : List UInt8) : t.isPrefixOf l = decide (l.take t.length = t) := by
  rw [Bool.eq_iff_iff, List.isPrefixOf_iff_prefix, decide_eq_true_eq, List.prefix_iff_eq_take]
  exact ⟨fun h => h.symm, fun h => h.symm⟩
theorem starts_list (s t : ByteArray) (k : Nat) (hk : k ≤ s.size) : t.data.toList.isPrefixOf (s.data.toList.drop k) = (decide (k + t.size ≤ s.size) && decide (s.extract k (k + t.size) = t)) := by
  rw [isPrefixOf_take, Bool.eq_iff_iff, Bool.and_eq_true, decide_eq_true_eq, decide_eq_true_eq, decide_eq_true_eq]
  constructor
  · intro h
    have hl := congrArg List.length h
    rw [List.length_take, List.length_drop, ← size_list, ← size_list] at hl
    refine ⟨by omega, ?_⟩
    apply ByteArray.ext; apply Array.ext'
    rw [extract_list, ← h, List.drop_take, size_list t]
    congr 1; omega
  · rintro ⟨h1, h2⟩
    have h3 := congrArg (fun b : ByteArray => b.data.toList) h2
    simp only [extract_list, List.drop_take] at h3
    rw [← size_list t, ← h3, show k + t.size - k = t.size by omega]
theorem starts_eq (s t : ByteArray) (k m : Nat) : (List.drop k (List.take m s.data.toList) == t.data.toList) = decide (s.extract k m = t) := by
  rw [Bool.eq_iff_iff, beq_iff_eq, decide_eq_true_eq, ← extract_list]
  exact ⟨fun h => ByteArray.ext (Array.ext' h), fun h => by rw [h]⟩
set_option maxRecDepth 100000 in
set_option maxHeartbeats 1600000 in
theorem l8Starts_any (s t : ByteArray) (k : Nat) (w : World) (hk : k ≤ s.size) (hs : s.size ≤ 1000000000000) (ht : t.size ≤ 1000000) :
    Calls Tryz.prog 92 #[.string s, .int .i64 (k : Nat), .string t] w fun e w' => e = .returned (.bool (t.data.toList.isPrefixOf (s.data.toList.drop k))) ∧ w = w' := by
  have HS := Lib.hid (starts_list s t k hk)
  go_enter Tryz.func92, Tryz.ntmps92
  by_cases h1 : ((k : Int) + t.size ≤ s.size)
  · have HD := Lib.hid (show decide (k + t.size ≤ s.size) = true by simp; omega)
    go_wp2
    go_ret
    refine ⟨ret_bool ?_, rfl⟩
    rw [HS.out, HD.out, Bool.true_and]
    rw [ByteArray.toList_eq, ByteArray.toList_eq]
    exact starts_eq s t k _
  · have HD := Lib.hid (show decide (k + t.size ≤ s.size) = false by simp; omega)
    go_wp2
    go_ret
    exact ⟨ret_bool (by rw [HS.out, HD.out, Bool.false_and]), rfl⟩
set_option maxRecDepth 100000 in
set_option maxHeartbeats 1600000 in
theorem refTake_any (g : Nat) (s t : ByteArray) (p : PSt) (w : World) (h : PAt 52 w g s p) (hp : p.pos ≤ s.size) (hs : s.size ≤ 1000000000000) (ht : t.size ≤ 1000000) :
    Calls Tryz.prog 53 #[.pointer (some ⟨g, 0, none⟩), .string t] w (PStep 52 g s (if pTake s.data.toList t.data.toList p then pAdv t.data.toList p else p) (fun v _ => v = .bool (pTake s.data.toList t.data.toList p)) w) := by
  have H := Lib.hid h
  have hg := bsz h.lt
  obtain ⟨k, bad⟩ := p
  simp only at hp
  obtain ⟨c0, c1, c2, cf⟩ := h.cells
  simp only at c1 c2
  clear h
  cases bad
  · have HT0 := Lib.hid (pTake_list s t ⟨k, false⟩ rfl)
    cases hT : pTake s.data.toList t.data.toList ⟨k, false⟩
    · have HT1 := Lib.hid (show t.data.toList.isPrefixOf (s.data.toList.drop k) = false from HT0.out.symm.trans hT)
      clear hT
      go_enter Tryz.func53, Tryz.ntmps53
      go_wp2
      obtain ⟨C, HC0⟩ := class_of (InF w.heap.size _ [(⟨g, 0, none⟩, .string s), (⟨g, 1, none⟩, .int .i64 (k : Nat)), (⟨g, 2, none⟩, .bool false)] [] [])
      have HC := Lib.hid HC0
      clear HC0
      refine wp_region_flow (C := C) (by kernel_rfl) (by kernel_rfl) (fun L hL => (HC.out _ _).2 (InF.start (by first | (intro _ hs; cases hs; done) | (simp only [List.forall_mem_cons]; go_simp)) (by first | (intro _ hs; cases hs; done) | (simp only [List.forall_mem_cons]; go_simp)) (by first | (intro _ hs; cases hs; done) | (simp only [List.forall_mem_cons]; go_simp)) (by first | (intro _ hs; cases hs; done) | (simp only [List.forall_mem_cons]; go_simp)) L hL)) ?_
      repeat (first | (apply flow_free rfl; (intro L w' hun hrd hC; have hC := (HC.out _ _).1 hC; have hb' := hC.below; (try have hw' : Below w.heap.size w w' := by first | exact Below.trans (by (repeat (first | with_reducible exact Below.refl _ _ | with_reducible assumption | with_reducible refine Below.al ?_ _ | with_reducible refine Below.sc ?_ (by first | exact Nat.le_refl _ | (simp; done) | (simp; omega)) _ | assumption | exact Below.refl _ _ | refine Below.dr ?_ | refine Below.drN ?_ _ | refine Below.step ?_ (by assumption)))) hb' | ((repeat (first | with_reducible exact Below.refl _ _ | with_reducible assumption | with_reducible refine Below.al ?_ _ | with_reducible refine Below.sc ?_ (by first | exact Nat.le_refl _ | (simp; done) | (simp; omega)) _ | assumption | exact Below.refl _ _ | refine Below.dr ?_ | refine Below.drN ?_ _ | refine Below.step ?_ (by assumption))); done)); have hf' := hC.cell; (try simp only [List.forall_mem_cons] at hf'); go_simp; first | exact ⟨(HC.out _ _).2 (hC.skip _ (by rfl)), rfl⟩ | (rw [if_neg]; (exact ⟨(HC.out _ _).2 (hC.skip _ (by rfl)), rfl⟩); omega) | (go_at_call 92; refine ((same_below (l8Starts_any s t k _ hp hs ht))).mono ?_; rintro e w1 ⟨rfl, hb1⟩; exact ⟨rfl, (HC.out _ _).2 ((hC.next (by first | (simp; done) | (simp; omega) | omega) hb1).skip _ (by rfl))⟩)); go_simp) | (apply flow_yes; (case hw => go_simp); (intro L w' hun hrd hC; have hC := (HC.out _ _).1 hC; have hb' := hC.below; (try have hw' : Below w.heap.size w w' := by first | exact Below.trans (by (repeat (first | with_reducible exact Below.refl _ _ | with_reducible assumption | with_reducible refine Below.al ?_ _ | with_reducible refine Below.sc ?_ (by first | exact Nat.le_refl _ | (simp; done) | (simp; omega)) _ | assumption | exact Below.refl _ _ | refine Below.dr ?_ | refine Below.drN ?_ _ | refine Below.step ?_ (by assumption)))) hb' | ((repeat (first | with_reducible exact Below.refl _ _ | with_reducible assumption | with_reducible refine Below.al ?_ _ | with_reducible refine Below.sc ?_ (by first | exact Nat.le_refl _ | (simp; done) | (simp; omega)) _ | assumption | exact Below.refl _ _ | refine Below.dr ?_ | refine Below.drN ?_ _ | refine Below.step ?_ (by assumption))); done)); have hf' := hC.cell; (try simp only [List.forall_mem_cons] at hf'); go_simp; first | exact ⟨(HC.out _ _).2 (hC.skip _ (by rfl)), rfl⟩ | (rw [if_neg]; (exact ⟨(HC.out _ _).2 (hC.skip _ (by rfl)), rfl⟩); omega) | (go_at_call 92; refine ((same_below (l8Starts_any s t k _ hp hs ht))).mono ?_; rintro e w1 ⟨rfl, hb1⟩; exact ⟨rfl, (HC.out _ _).2 ((hC.next (by first | (simp; done) | (simp; omega) | omega) hb1).skip _ (by rfl))⟩)); go_simp) | (apply flow_no; (case hw => (go_simp; try (intro hh; cases hh))); (intro L w' _ _ hC; exact (HC.out _ _).2 (((HC.out _ _).1 hC).skip _ (by rfl))); go_simp))
      refine flow_nil ?_
      intro L wz hL hz
      have hz := (HC.out _ _).1 hz
      have hbz := hz.below
      have hcz := hz.cell
      try simp only [List.forall_mem_cons] at hcz
      have hdz := hz.done
      try simp only [List.forall_mem_cons] at hdz
      (try have hwz : Below w.heap.size w wz := by first | exact Below.trans (by (repeat (first | with_reducible exact Below.refl _ _ | with_reducible assumption | with_reducible refine Below.al ?_ _ | with_reducible refine Below.sc ?_ (by first | exact Nat.le_refl _ | (simp; done) | (simp; omega)) _ | assumption | exact Below.refl _ _ | refine Below.dr ?_ | refine Below.drN ?_ _ | refine Below.step ?_ (by assumption)))) hbz | ((repeat (first | with_reducible exact Below.refl _ _ | with_reducible assumption | with_reducible refine Below.al ?_ _ | with_reducible refine Below.sc ?_ (by first | exact Nat.le_refl _ | (simp; done) | (simp; omega)) _ | assumption | exact Below.refl _ _ | refine Below.dr ?_ | refine Below.drN ?_ _ | refine Below.step ?_ (by assumption))); done))
      rw [HT1.out]
      go_wp2
      go_ret
      exact ⟨_, rfl, rfl, H.out.below (by (repeat (first | with_reducible exact Below.refl _ _ | with_reducible assumption | with_reducible refine Below.al ?_ _ | with_reducible refine Below.sc ?_ (by first | exact Nat.le_refl _ | (simp; done) | (simp; omega)) _ | assumption | exact Below.refl _ _ | refine Below.dr ?_ | refine Below.drN ?_ _ | refine Below.step ?_ (by assumption)))), gr_below (gr_refl w g) (by (repeat (first | with_reducible exact Below.refl _ _ | with_reducible assumption | with_reducible refine Below.al ?_ _ | with_reducible refine Below.sc ?_ (by first | exact Nat.le_refl _ | (simp; done) | (simp; omega)) _ | assumption | exact Below.refl _ _ | refine Below.dr ?_ | refine Below.drN ?_ _ | refine Below.step ?_ (by assumption))))⟩
    · have HT1 := Lib.hid (show t.data.toList.isPrefixOf (s.data.toList.drop k) = true from HT0.out.symm.trans hT)
      have hle := pTake_le hT (by rw [← size_list]; exact hp)
      rw [← size_list, ← size_list] at hle
      simp only at hle
      clear hT
      go_enter Tryz.func53, Tryz.ntmps53
      go_wp2
      obtain ⟨C, HC0⟩ := class_of (InF w.heap.size _ [(⟨g, 0, none⟩, .string s), (⟨g, 1, none⟩, .int .i64 (k : Nat)), (⟨g, 2, none⟩, .bool false)] [] [])
      have HC := Lib.hid HC0
      clear HC0
      refine wp_region_flow (C := C) (by kernel_rfl) (by kernel_rfl) (fun L hL => (HC.out _ _).2 (InF.start (by first | (intro _ hs; cases hs; done) | (simp only [List.forall_mem_cons]; go_simp)) (by first | (intro _ hs; cases hs; done) | (simp only [List.forall_mem_cons]; go_simp)) (by first | (intro _ hs; cases hs; done) | (simp only [List.forall_mem_cons]; go_simp)) (by first | (intro _ hs; cases hs; done) | (simp only [List.forall_mem_cons]; go_simp)) L hL)) ?_
      repeat (first | (apply flow_free rfl; (intro L w' hun hrd hC; have hC := (HC.out _ _).1 hC; have hb' := hC.below; (try have hw' : Below w.heap.size w w' := by first | exact Below.trans (by (repeat (first | with_reducible exact Below.refl _ _ | with_reducible assumption | with_reducible refine Below.al ?_ _ | with_reducible refine Below.sc ?_ (by first | exact Nat.le_refl _ | (simp; done) | (simp; omega)) _ | assumption | exact Below.refl _ _ | refine Below.dr ?_ | refine Below.drN ?_ _ | refine Below.step ?_ (by assumption)))) hb' | ((repeat (first | with_reducible exact Below.refl _ _ | with_reducible assumption | with_reducible refine Below.al ?_ _ | with_reducible refine Below.sc ?_ (by first | exact Nat.le_refl _ | (simp; done) | (simp; omega)) _ | assumption | exact Below.refl _ _ | refine Below.dr ?_ | refine Below.drN ?_ _ | refine Below.step ?_ (by assumption))); done)); have hf' := hC.cell; (try simp only [List.forall_mem_cons] at hf'); go_simp; first | exact ⟨(HC.out _ _).2 (hC.skip _ (by rfl)), rfl⟩ | (rw [if_neg]; (exact ⟨(HC.out _ _).2 (hC.skip _ (by rfl)), rfl⟩); omega) | (go_at_call 92; refine ((same_below (l8Starts_any s t k _ hp hs ht))).mono ?_; rintro e w1 ⟨rfl, hb1⟩; exact ⟨rfl, (HC.out _ _).2 ((hC.next (by first | (simp; done) | (simp; omega) | omega) hb1).skip _ (by rfl))⟩)); go_simp) | (apply flow_yes; (case hw => go_simp); (intro L w' hun hrd hC; have hC := (HC.out _ _).1 hC; have hb' := hC.below; (try have hw' : Below w.heap.size w w' := by first | exact Below.trans (by (repeat (first | with_reducible exact Below.refl _ _ | with_reducible assumption | with_reducible refine Below.al ?_ _ | with_reducible refine Below.sc ?_ (by first | exact Nat.le_refl _ | (simp; done) | (simp; omega)) _ | assumption | exact Below.refl _ _ | refine Below.dr ?_ | refine Below.drN ?_ _ | refine Below.step ?_ (by assumption)))) hb' | ((repeat (first | with_reducible exact Below.refl _ _ | with_reducible assumption | with_reducible refine Below.al ?_ _ | with_reducible refine Below.sc ?_ (by first | exact Nat.le_refl _ | (simp; done) | (simp; omega)) _ | assumption | exact Below.refl _ _ | refine Below.dr ?_ | refine Below.drN ?_ _ | refine Below.step ?_ (by assumption))); done)); have hf' := hC.cell; (try simp only [List.forall_mem_cons] at hf'); go_simp; first | exact ⟨(HC.out _ _).2 (hC.skip _ (by rfl)), rfl⟩ | (rw [if_neg]; (exact ⟨(HC.out _ _).2 (hC.skip _ (by rfl)), rfl⟩); omega) | (go_at_call 92; refine ((same_below (l8Starts_any s t k _ hp hs ht))).mono ?_; rintro e w1 ⟨rfl, hb1⟩; exact ⟨rfl, (HC.out _ _).2 ((hC.next (by first | (simp; done) | (simp; omega) | omega) hb1).skip _ (by rfl))⟩)); go_simp) | (apply flow_no; (case hw => (go_simp; try (intro hh; cases hh))); (intro L w' _ _ hC; exact (HC.out _ _).2 (((HC.out _ _).1 hC).skip _ (by rfl))); go_simp))
      refine flow_nil ?_
      intro L wz hL hz
      have hz := (HC.out _ _).1 hz
      have hbz := hz.below
      have hcz := hz.cell
      try simp only [List.forall_mem_cons] at hcz
      have hdz := hz.done
      try simp only [List.forall_mem_cons] at hdz
      (try have hwz : Below w.heap.size w wz := by first | exact Below.trans (by (repeat (first | with_reducible exact Below.refl _ _ | with_reducible assumption | with_reducible refine Below.al ?_ _ | with_reducible refine Below.sc ?_ (by first | exact Nat.le_refl _ | (simp; done) | (simp; omega)) _ | assumption | exact Below.refl _ _ | refine Below.dr ?_ | refine Below.drN ?_ _ | refine Below.step ?_ (by assumption)))) hbz | ((repeat (first | with_reducible exact Below.refl _ _ | with_reducible assumption | with_reducible refine Below.al ?_ _ | with_reducible refine Below.sc ?_ (by first | exact Nat.le_refl _ | (simp; done) | (simp; omega)) _ | assumption | exact Below.refl _ _ | refine Below.dr ?_ | refine Below.drN ?_ _ | refine Below.step ?_ (by assumption))); done))
      rw [HT1.out]
      have hPz := H.out.below hbz
      obtain ⟨z0, z1, z2, zf⟩ := hPz.cells
      simp only at z1 z2
      have hgz := bsz hPz.lt
      clear hPz
      go_wp2
      go_ret
      exact ⟨_, rfl, rfl, (H.out.below (by (repeat (first | with_reducible exact Below.refl _ _ | with_reducible assumption | with_reducible refine Below.al ?_ _ | with_reducible refine Below.sc ?_ (by first | exact Nat.le_refl _ | (simp; done) | (simp; omega)) _ | assumption | exact Below.refl _ _ | refine Below.dr ?_ | refine Below.drN ?_ _ | refine Below.step ?_ (by assumption))))).pos (k + t.size), gr_sc (gr_below (gr_refl w g) (by (repeat (first | with_reducible exact Below.refl _ _ | with_reducible assumption | with_reducible refine Below.al ?_ _ | with_reducible refine Below.sc ?_ (by first | exact Nat.le_refl _ | (simp; done) | (simp; omega)) _ | assumption | exact Below.refl _ _ | refine Below.dr ?_ | refine Below.drN ?_ _ | refine Below.step ?_ (by assumption))))) (.inl rfl) _⟩
  · rw [show pTake s.data.toList t.data.toList ⟨k, true⟩ = false from rfl, if_neg Bool.false_ne_true]
    go_enter Tryz.func53, Tryz.ntmps53
    go_wp2
    obtain ⟨C, HC0⟩ := class_of (InF w.heap.size _ [(⟨g, 0, none⟩, .string s), (⟨g, 1, none⟩, .int .i64 (k : Nat)), (⟨g, 2, none⟩, .bool true)] [] [])
    have HC := Lib.hid HC0
    clear HC0
    refine wp_region_flow (C := C) (by kernel_rfl) (by kernel_rfl) (fun L hL => (HC.out _ _).2 (InF.start (by first | (intro _ hs; cases hs; done) | (simp only [List.forall_mem_cons]; go_simp)) (by first | (intro _ hs; cases hs; done) | (simp only [List.forall_mem_cons]; go_simp)) (by first | (intro _ hs; cases hs; done) | (simp only [List.forall_mem_cons]; go_simp)) (by first | (intro _ hs; cases hs; done) | (simp only [List.forall_mem_cons]; go_simp)) L hL)) ?_
    repeat (first | (apply flow_free rfl; (intro L w' hun hrd hC; have hC := (HC.out _ _).1 hC; have hb' := hC.below; (try have hw' : Below w.heap.size w w' := by first | exact Below.trans (by (repeat (first | with_reducible exact Below.refl _ _ | with_reducible assumption | with_reducible refine Below.al ?_ _ | with_reducible refine Below.sc ?_ (by first | exact Nat.le_refl _ | (simp; done) | (simp; omega)) _ | assumption | exact Below.refl _ _ | refine Below.dr ?_ | refine Below.drN ?_ _ | refine Below.step ?_ (by assumption)))) hb' | ((repeat (first | with_reducible exact Below.refl _ _ | with_reducible assumption | with_reducible refine Below.al ?_ _ | with_reducible refine Below.sc ?_ (by first | exact Nat.le_refl _ | (simp; done) | (simp; omega)) _ | assumption | exact Below.refl _ _ | refine Below.dr ?_ | refine Below.drN ?_ _ | refine Below.step ?_ (by assumption))); done)); have hf' := hC.cell; (try simp only [List.forall_mem_cons] at hf'); go_simp; first | exact ⟨(HC.out _ _).2 (hC.skip _ (by rfl)), rfl⟩ | (rw [if_neg]; (exact ⟨(HC.out _ _).2 (hC.skip _ (by rfl)), rfl⟩); omega) | fail); go_simp) | (apply flow_yes; (case hw => go_simp); (intro L w' hun hrd hC; have hC := (HC.out _ _).1 hC; have hb' := hC.below; (try have hw' : Below w.heap.size w w' := by first | exact Below.trans (by (repeat (first | with_reducible exact Below.refl _ _ | with_reducible assumption | with_reducible refine Below.al ?_ _ | with_reducible refine Below.sc ?_ (by first | exact Nat.le_refl _ | (simp; done) | (simp; omega)) _ | assumption | exact Below.refl _ _ | refine Below.dr ?_ | refine Below.drN ?_ _ | refine Below.step ?_ (by assumption)))) hb' | ((repeat (first | with_reducible exact Below.refl _ _ | with_reducible assumption | with_reducible refine Below.al ?_ _ | with_reducible refine Below.sc ?_ (by first | exact Nat.le_refl _ | (simp; done) | (simp; omega)) _ | assumption | exact Below.refl _ _ | refine Below.dr ?_ | refine Below.drN ?_ _ | refine Below.step ?_ (by assumption))); done)); have hf' := hC.cell; (try simp only [List.forall_mem_cons] at hf'); go_simp; first | exact ⟨(HC.out _ _).2 (hC.skip _ (by rfl)), rfl⟩ | (rw [if_neg]; (exact ⟨(HC.out _ _).2 (hC.skip _ (by rfl)), rfl⟩); omega) | fail); go_simp) | (apply flow_no; (case hw => (go_simp; try (intro hh; cases hh))); (intro L w' _ _ hC; exact (HC.out _ _).2 (((HC.out _ _).1 hC).skip _ (by rfl))); go_simp))
    refine flow_nil ?_
    intro L wz hL hz
    have hz := (HC.out _ _).1 hz
    have hbz := hz.below
    have hcz := hz.cell
    try simp only [List.forall_mem_cons] at hcz
    have hdz := hz.done
    try simp only [List.forall_mem_cons] at hdz
    (try have hwz : Below w.heap.size w wz := by first | exact Below.trans (by (repeat (first | with_reducible exact Below.refl _ _ | with_reducible assumption | with_reducible refine Below.al ?_ _ | with_reducible refine Below.sc ?_ (by first | exact Nat.le_refl _ | (simp; done) | (simp; omega)) _ | assumption | exact Below.refl _ _ | refine Below.dr ?_ | refine Below.drN ?_ _ | refine Below.step ?_ (by assumption)))) hbz | ((repeat (first | with_reducible exact Below.refl _ _ | with_reducible assumption | with_reducible refine Below.al ?_ _ | with_reducible refine Below.sc ?_ (by first | exact Nat.le_refl _ | (simp; done) | (simp; omega)) _ | assumption | exact Below.refl _ _ | refine Below.dr ?_ | refine Below.drN ?_ _ | refine Below.step ?_ (by assumption))); done))
    go_wp2
    go_ret
    exact ⟨_, rfl, rfl, H.out.below (by (repeat (first | with_reducible exact Below.refl _ _ | with_reducible assumption | with_reducible refine Below.al ?_ _ | with_reducible refine Below.sc ?_ (by first | exact Nat.le_refl _ | (simp; done) | (simp; omega)) _ | assumption | exact Below.refl _ _ | refine Below.dr ?_ | refine Below.drN ?_ _ | refine Below.step ?_ (by assumption)))), gr_below (gr_refl w g) (by (repeat (first | with_reducible exact Below.refl _ _ | with_reducible assumption | with_reducible refine Below.al ?_ _ | with_reducible refine Below.sc ?_ (by first | exact Nat.le_refl _ | (simp; done) | (simp; omega)) _ | assumption | exact Below.refl _ _ | refine Below.dr ?_ | refine Below.drN ?_ _ | refine Below.step ?_ (by assumption))))⟩
set_option maxRecDepth 100000 in
set_option maxHeartbeats 1600000 in
theorem refWant_any (g : Nat) (s t : ByteArray) (p : PSt) (w : World) (h : PAt 52 w g s p) (hp : p.pos ≤ s.size) (hs : s.size ≤ 1000000000000) (ht : t.size ≤ 1000000) :
    Calls Tryz.prog 77 #[.pointer (some ⟨g, 0, none⟩), .string t] w (PStep 52 g s (pMust s.data.toList t.data.toList p) (fun v _ => v = .tuple #[]) w) := by
  have H := Lib.hid h
  have hg := bsz h.lt
  cases hT : pTake s.data.toList t.data.toList p
  · have HT := Lib.hid hT
    have HM := Lib.hid (show pMust s.data.toList t.data.toList p = ⟨p.pos, true⟩ by rw [pMust, hT]; rfl)
    clear h
    go_enter Tryz.func77, Tryz.ntmps77
    go_wp2_with fail
    refine (refTake_any g s t p _ H.out hp hs ht).mono ?_
    rw [HT.out]
    rintro e w1 ⟨v, rfl, rfl, h1, hg1⟩
    have H1 := Lib.hid h1
    have ⟨c1, f1⟩ := gcell hg1
    have hz := hg1.size
    obtain ⟨d0, d1, d2, df⟩ := h1.cells
    clear h1
    go_wp2
    go_end0
    exact ⟨_, rfl, rfl, by rw [HM.out]; exact H1.out.fail, gr_sc hg1 (.inl rfl) _⟩
  · have HT := Lib.hid hT
    have HM := Lib.hid (show pMust s.data.toList t.data.toList p = pAdv t.data.toList p by rw [pMust, hT]; rfl)
    clear h
    go_enter Tryz.func77, Tryz.ntmps77
    go_wp2_with fail
    refine (refTake_any g s t p _ H.out hp hs ht).mono ?_
    rw [HT.out]
    rintro e w1 ⟨v, rfl, rfl, h1, hg1⟩
    have H1 := Lib.hid h1
    clear h1
    go_wp2
    go_end0
    exact ⟨_, rfl, rfl, by rw [HM.out]; exact H1.out, hg1⟩
end Go.Proofs.YtdklemmincejpaaGreat
namespace Go.Proofs.YtdklemmincejpaaGreat
open Go.RowKit
theorem own_unique {w : World} {base : Nat} {e : TypeId} {size : Nat} {v : Value} {n : Nat} {xs ys : List Value} (h : w.ownsRow base e size v n xs) (h' : w.ownsRow base e size v n ys) : xs = ys := by
  obtain ⟨l1, h1⟩ := h
  obtain ⟨l2, h2⟩ := h'
  rcases h1 with ⟨rfl, h0⟩ | ⟨g, cap, cur, rfl, hb, hh, h3, h4, h5, h6⟩
  · subst h0
    rw [Nat.zero_mul] at l1 l2
    rw [List.eq_nil_of_length_eq_zero l1, List.eq_nil_of_length_eq_zero l2]
  · rcases h2 with ⟨hv, _⟩ | ⟨g', cap', cur', hv, _, hh', _, _, _, h6'⟩
    · cases hv
    · simp only [Value.slice.injEq, Option.some.injEq, Addr.mk.injEq] at hv
      obtain ⟨⟨rfl, -⟩, -, rfl⟩ := hv
      rw [hh] at hh'
      simp only [Option.some.injEq, Obj.cells.injEq] at hh'
      rw [← h6, ← h6', hh'.1]
/-- The middle of a parsing: block rb waits for the result, block bt is the struct in the making (a name, the arguments us so far). -/
structure LSt (T : TypeId) (rb bt : Nat) (n : ByteArray) (w : World) (f : Nat) (v : Value) (us : List Tm) (W : World) : Prop where
  res : W.heap[rb]? = some (.cells #[.string ⟨#[]⟩, .slice none 0 0] T (0, 0))
  cell : W.heap[bt]? = some (.cells #[.string n, v] T (0, 0))
  row : OwnRow (fun b => bt < b ∧ b < W.heap.size) W T 2 (fun S x c => TmOwn T f S W x c) v us
  bel : Below w.heap.size w W
  lt : w.heap.size ≤ rb ∧ rb < bt ∧ bt < W.heap.size
theorem LSt.later {T : TypeId} {rb bt : Nat} {n : ByteArray} {w W W' : World} {f : Nat} {v : Value} {us : List Tm} (h : LSt T rb bt n w f v us W) (hb : Below W.heap.size W W') : LSt T rb bt n w f v us W' := by
  have hz := hb.size
  obtain ⟨l1, l2, l3⟩ := h.lt
  exact ⟨(hb.block _ (by omega)).trans h.res, (hb.block _ l3).trans h.cell, h.row.mono (SameOn.below hb) (fun b h => ⟨h.1, by omega⟩) (fun S x c _ _ hx => TmOwn.below hb hx), ⟨hb.os.trans h.bel.os, hb.tape.trans h.bel.tape, hb.output.trans h.bel.output, Nat.le_trans h.bel.size hb.size, fun b hlt => (hb.block b (Nat.lt_of_lt_of_le hlt h.bel.size)).trans (h.bel.block b hlt)⟩, l1, l2, by omega⟩
theorem LSt.app {T : TypeId} {rb bt : Nat} {n : ByteArray} {w W W2 w3 : World} {f : Nat} {v v' v0 v1 : Value} {us : List Tm} {a : Tm} (h : LSt T rb bt n w f v us W) (hb : Below W.heap.size W W2) (hO : TmOwn T f (fun b => W.heap.size ≤ b ∧ b < W2.heap.size) W2 a [v0, v1])
    {vals : List Value} (hv : W2.ownsRow 0 T 2 v us.length vals) (happ : w3.ownsRow 0 T 2 v' (us.length + 1) (vals ++ [v0, v1])) (hg : W2.grownBy w3 v.ownBlock) (hnr : NewRow v v' W2.heap.size) (hlen : us.length + 1 ≤ 1000000) :
    LSt T rb bt n w f v' (us ++ [a]) (w3.setCell ⟨bt, 1, none⟩ v') := by
  have H2 := h.later hb
  obtain ⟨l1, l2, l3⟩ := h.lt
  obtain ⟨-, -, l4⟩ := H2.lt
  have hz := hb.size
  have hz3 := hg.size
  obtain ⟨hm, vals0, Ss, r1, r2, r3, r4⟩ := h.row
  have hvb : ∀ b, v.ownBlock = some b → bt < b ∧ b < W.heap.size := fun b hb => r2 b hb
  have nob : ∀ b, b ≤ bt → v.ownBlock ≠ some b := fun b hb e => by have := hvb b e; omega
  have hnew : ∀ b, v'.ownBlock = some b → bt < b ∧ b < w3.heap.size := fun b hb => ⟨by
    rcases hnr with e | ⟨b', e, hge⟩
    · rw [e] at hb; exact (hvb b hb).1
    · rw [e] at hb; injection hb with hb; omega, own_lt' happ hb⟩
  have hrow := OwnRow.snoc (S' := fun b => bt < b ∧ b < w3.heap.size) (R' := fun S x c => TmOwn T f S w3 x c)
    (h.row.mono (S' := fun b => bt < b ∧ b < W.heap.size) (w' := W2) (R' := fun S x c => TmOwn T f S W2 x c) (SameOn.below hb) (fun _ h => h) (fun S x c _ _ hx => TmOwn.below hb hx)) hO rfl
    (fun vs hvs => by rw [own_unique hvs hv]; exact happ) hg hnr (by unfold maxLen; omega) (fun b hb hS => by omega) (fun b hb => by omega) (fun b hb => hb.2) (fun b hb => by omega) (fun b hb => by omega) hnew
    (fun S x c hS hx => TmOwn.mono f f x c (Nat.le_refl _) (fun b hb hlt => hg.block b hlt (fun e => (hS b hb).2 e.symm)) (fun _ h => h) hx)
  have hbt3 : w3.heap[bt]? = some (.cells #[.string n, v] T (0, 0)) := (hg.block bt l4 (fun e => nob bt (Nat.le_refl _) e.symm)).trans H2.cell
  refine ⟨?_, ?_, ?_, ?_, l1, l2, by simp; omega⟩
  · exact (heap_setCell_other w3 ⟨bt, 1, none⟩ rb v' (by simp; omega)).trans ((hg.block rb (by omega) (fun e => nob rb (by omega) e.symm)).trans H2.res)
  · have := heap_setCell_same w3 bt 1 _ T v' hbt3
    simpa using this
  · exact hrow.mono (fun b hb hlt => heap_setCell_other w3 ⟨bt, 1, none⟩ b v' (by simp; omega)) (fun b hb => by simpa using hb)
      (fun S x c _ hS hx => TmOwn.mono f f x c (Nat.le_refl _) (fun b hb hlt => heap_setCell_other w3 ⟨bt, 1, none⟩ b v' (by have := hS b hb; simp; omega)) (fun _ h => h) hx)
  · have hb2 := H2.bel
    exact ⟨hg.os.trans hb2.os, hg.tape.trans hb2.tape, hg.output.trans hb2.output, by have := hb2.size; simp; omega, fun b hlt => (heap_setCell_other w3 ⟨bt, 1, none⟩ b v' (by simp; omega)).trans ((hg.block b (by have := hb2.size; omega) (fun e => nob b (by omega) e.symm)).trans (hb2.block b hlt))⟩
/-- What the parsing of a term answers. -/
def GotTm (T : TypeId) (f : Nat) (r : Option (Tm × Nat)) (w : World) (x : Value) (w' : World) : Prop :=
  Below w.heap.size w w' ∧ ∃ (s : ByteArray) (p : Option Addr) (k c : Nat) (z : Int), x = .tuple #[.agg #[.string s, .slice p k c], .int .i64 z] ∧ match r with
    | none => z = -1
    | some (t, j) => z = (j : Nat) ∧ TmOwn T f (fun b => w.heap.size ≤ b ∧ b < w'.heap.size) w' t [.string s, .slice p k c]
/-- The struct is handed over. -/
theorem LSt.done {T : TypeId} {rb bt : Nat} {n : ByteArray} {w W : World} {f : Nat} {p : Option Addr} {k c : Nat} {us : List Tm} (h : LSt T rb bt n w f (.slice p k c) us W) (hn : n.size ≤ maxLen) (a b : Value) (j : Nat) :
    GotTm T (f + 1) (some (.mk n us, j)) w (.tuple #[.agg #[.string n, .slice p k c], .int .i64 (j : Nat)]) ((W.setCell ⟨rb, 0, none⟩ a).setCell ⟨rb, 1, none⟩ b) := by
  obtain ⟨l1, l2, l3⟩ := h.lt
  have hk : ∀ c, c ≠ rb → ((W.setCell ⟨rb, 0, none⟩ a).setCell ⟨rb, 1, none⟩ b).heap[c]? = W.heap[c]? := fun c hc => (heap_setCell_other _ ⟨rb, 1, none⟩ c b (fun e => hc e)).trans (heap_setCell_other W ⟨rb, 0, none⟩ c a (fun e => hc e))
  have hb := h.bel
  refine ⟨⟨hb.os, hb.tape, hb.output, by simpa using hb.size, fun c hc => (hk c (by omega)).trans (hb.block c hc)⟩, _, _, _, _, _, rfl, rfl, _, rfl, hn, ?_⟩
  exact h.row.mono (fun c hc _ => hk c (by omega)) (fun c hc => by simp; omega)
      (fun S x c _ hS hx => TmOwn.mono f f x c (Nat.le_refl _) (fun d hd _ => hk d (by have := (hS d hd).1; omega)) (fun _ h => h) hx)
theorem LSt.none {T : TypeId} {rb bt : Nat} {n : ByteArray} {w W : World} {f f' : Nat} {p : Option Addr} {k c : Nat} {us : List Tm} (h : LSt T rb bt n w f (.slice p k c) us W) (a b : Value) :
    GotTm T f' none w (.tuple #[.agg #[.string n, .slice p k c], .int .i64 (-1)]) ((W.setCell ⟨rb, 0, none⟩ a).setCell ⟨rb, 1, none⟩ b) := by
  obtain ⟨l1, l2, l3⟩ := h.lt
  have hb := h.bel
  exact ⟨⟨hb.os, hb.tape, hb.output, by simpa using hb.size, fun c hc => ((heap_setCell_other _ ⟨rb, 1, Option.none⟩ c b (by simp; omega)).trans (heap_setCell_other W ⟨rb, 0, Option.none⟩ c a (by simp; omega))).trans (hb.block c hc)⟩, _, _, _, _, _, rfl, rfl⟩
theorem LSt.init {T : TypeId} {n : ByteArray} {w wr : World} {f : Nat} (hbr : Below (w.alloc (.cells #[.string ⟨#[]⟩, .slice Option.none 0 0] T)).heap.size (w.alloc (.cells #[.string ⟨#[]⟩, .slice Option.none 0 0] T)) wr) :
    LSt T w.heap.size wr.heap.size n w f (.slice Option.none 0 0) [] (wr.alloc (.cells #[.string n, .slice Option.none 0 0] T)) := by
  have hz := hbr.size
  simp at hz
  refine ⟨(heap_alloc_old wr _ (by omega)).trans ((hbr.block _ (by simp)).trans (heap_alloc_new w _)), heap_alloc_new wr _, OwnRow.nil _ _ _ _ _, ⟨hbr.os, hbr.tape, hbr.output, by simp; omega, fun b hlt => (heap_alloc_old wr _ (by omega)).trans ((hbr.block b (by simp; omega)).trans (heap_alloc_old w _ hlt))⟩, Nat.le_refl _, by omega, by simp⟩
theorem LSt.three {T : TypeId} {rb bt : Nat} {n : ByteArray} {w W w3 : World} {f : Nat} {v v' : Value} {us : List Tm} {ys : List Value} (h : LSt T rb bt n w f v us W) (happ : w3.ownsRow 0 T 2 v' (us.length + 1) ys) (hg : W.grownBy w3 v.ownBlock) :
    (∃ q c, v' = .slice (some ⟨q, 0, Option.none⟩) (us.length + 1) c) ∧ w3.heap[bt]? = some (.cells #[.string n, v] T (0, 0)) ∧ w3.heap[rb]? = some (.cells #[.string ⟨#[]⟩, .slice Option.none 0 0] T (0, 0)) := by
  obtain ⟨l1, l2, l3⟩ := h.lt
  obtain ⟨hm, vals, Ss, r1, r2, r3, r4⟩ := h.row
  exact ⟨own_form happ (by omega), (hg.block bt l3 (fun e => by have := (r2 bt e.symm).1; omega)).trans h.cell, (hg.block rb (by omega) (fun e => by have := (r2 rb e.symm).1; omega)).trans h.res⟩
theorem byte_40 (c : UInt8) : ((c.toNat : Int) == 40) = (c == 40) := by
  rw [Bool.eq_iff_iff, beq_iff_eq, beq_iff_eq]
  exact ⟨fun e => UInt8.toNat_inj.1 (show c.toNat = 40 by omega), fun e => by subst e; rfl⟩
theorem byte_41 (c : UInt8) : ((c.toNat : Int) == 41) = (c == 41) := by
  rw [Bool.eq_iff_iff, beq_iff_eq, beq_iff_eq]
  exact ⟨fun e => UInt8.toNat_inj.1 (show c.toNat = 41 by omega), fun e => by subst e; rfl⟩
theorem byte_44 (c : UInt8) : ((c.toNat : Int) == 44) = (c == 44) := by
  rw [Bool.eq_iff_iff, beq_iff_eq, beq_iff_eq]
  exact ⟨fun e => UInt8.toNat_inj.1 (show c.toNat = 44 by omega), fun e => by subst e; rfl⟩
theorem extract_le (s : ByteArray) (k j : Nat) (h : s.size ≤ 1000000) : (s.extract k j).size ≤ maxLen := by
  rw [size_list, extract_list, List.length_drop, List.length_take, ← size_list]; unfold maxLen; omega
theorem list_at (s : ByteArray) (j : Nat) (h : j < s.size) : s.data.toList[j]? = some s[j] := by
  rw [List.getElem?_eq_getElem (by rw [← size_list]; exact h)]; rfl
def L3C (f : Nat) : Prop := ∀ (s : ByteArray) (k : Nat) (w : World), k ≤ s.size → s.size ≤ 1000000 → s.size - k < f →
    Calls Tryz.prog 137 #[.string s, .int .i64 (k : Nat)] w fun e w' => ∃ x, e = .returned x ∧ GotTm 24 f (rTerm s.data.toList f k) w x w'
def ScanRel (s : ByteArray) (k : Nat) (W : World) (i : Value) (wr : World) : Prop := ∃ j, i = .int .i64 (j : Nat) ∧ k ≤ j ∧ j ≤ s.size ∧ (∀ i, k ≤ i → (h : i < j) → (h2 : i < s.size) → wordC s[i] = true) ∧ Below W.heap.size W wr
def LArgRel (s : ByteArray) (n : ByteArray) (f rb bt : Nat) (w : World) (res : Option (Tm × Nat)) (i : Value) (wr : World) : Prop :=
  ∃ (f' e : Nat) (v : Value) (us : List Tm), i = .int .i64 (e : Nat) ∧ LSt 24 rb bt n w f v us wr ∧ f' ≤ f ∧ rArgs s.data.toList n.data.toList f' us e = res ∧ e < s.size ∧ s.size - e < f' ∧ us.length ≤ e
set_option maxRecDepth 100000 in
set_option maxHeartbeats 3200000 in
theorem l3Read_any : ∀ f : Nat, L3C f := by
  intro f
  induction f using Nat.strongRecOn with
  | _ f0 ih =>
    intro s k w hk hs hf
    obtain ⟨f, rfl⟩ : ∃ f, f0 = f + 1 := ⟨f0 - 1, by omega⟩
    have IH := Lib.hid ih
    clear ih
    go_enter Tryz.func137, Tryz.ntmps137
    go_wp2
    go_loopw [6] (ScanRel s k (w.alloc (.cells #[.string ⟨#[]⟩, .slice none 0 0] 24))) (fun i _ => s.size - (intOf i).toNat)
    case atStart => exact ⟨k, rfl, Nat.le_refl _, hk, fun i h1 h2 => absurd h2 (by omega), Below.refl _ _⟩
    case round =>
      obtain ⟨j, rfl, hj1, hj2, hall, hbr⟩ := hrel
      obtain ⟨wa, rfl⟩ : ∃ wa, wa = wr := ⟨_, rfl⟩
      have HALL := Lib.hid hall
      have hqr := hbr.size
      simp at hqr
      have HBR := Lib.hid (show True → _ from fun _ => hbr)
      have HR := (hbr.block w.heap.size (by simp)).trans (heap_alloc_new w _)
      obtain ⟨r0, r1, rf⟩ := cells2_cell HR
      have hr1 := bsz (heap_lt HR)
      clear hall HR hbr
      by_cases hlt : j < s.size
      · have hj3 : (j : Int) < s.size := by omega
        cases hw : wordC s[j]
        · have HSTOP := Lib.hid (show ∀ h : j < s.size, wordC s[j] = false from fun _ => hw)
          have HWD := Lib.hid (show rWordL s.data.toList k = (s.data.toList.drop k).take (j - k) from wordL_at (bad := false) HALL.out hj1 hj2 HSTOP.out)
          have HLL := Lib.hid (show (rWordL s.data.toList k).length = j - k by rw [HWD.out, List.length_take, List.length_drop, ← size_list]; omega)
          by_cases hjk : j = k
          · subst hjk
            have HFIN := Lib.hid (show rTerm s.data.toList (f + 1) j = none by rw [rTerm, HWD.out]; simp)
            go_wp2_with (first | (go_at_call 136; refine (l3Word_any _ _).mono ?_; rintro e w' ⟨rfl, rfl⟩))
            refine bodyPost_ret (v := .tuple #[.agg #[.string ByteArray.empty, .slice none 0 0], .int .i64 (-1)]) (by simp only [results, Tryz.results137]; go_simp) rfl ⟨_, rfl, ?_⟩
            rw [HFIN.out]
            have := LSt.none (f' := f + 1) (LSt.init (n := ByteArray.empty) (f := 0) (HBR.out trivial)) (.string ByteArray.empty) (.slice none 0 0)
            rw [World.setCell_alloc_past _ _ _ _ (show w.heap.size < wa.heap.size by omega), World.setCell_alloc_past _ _ _ _ (by simp; omega)] at this
            exact this
          · have hk1 : ((j : Int) == (k : Int)) = false := by simp; omega
            have HNE := Lib.hid (show (rWordL s.data.toList k).isEmpty = false by
              rw [Bool.eq_false_iff]; intro e; rw [List.isEmpty_iff] at e; have := HLL.out; rw [e] at this; simp at this; omega)
            have HNM := Lib.hid (show (⟨(rWordL s.data.toList k).toArray⟩ : ByteArray) = s.extract k j by
              exact (str_eq (by rw [extract_list, HWD.out, List.drop_take])).symm)
            have HJ := Lib.hid (show k + (rWordL s.data.toList k).length = j by rw [HLL.out]; omega)
            cases h40 : ((s[j].toNat : Int) == 40)
            · have HFIN := Lib.hid (show rTerm s.data.toList (f + 1) k = some (.mk (s.extract k j) [], j) by
                rw [rTerm, HNE.out, HJ.out, HNM.out, list_at s j hlt, if_neg (by simp), if_neg (by
                  intro e; injection e with e; rw [byte_40] at h40; rw [e] at h40; simp at h40)])
              have h40' : ((s[j].toNat : Int) != 40) = true := by rw [bne, h40]; rfl
              go_wp2_with (first | (go_at_call 136; refine (l3Word_any _ _).mono ?_; rintro e w' ⟨rfl, rfl⟩))
              refine bodyPost_ret (v := .tuple #[.agg #[.string (s.extract k j), .slice none 0 0], .int .i64 (j : Nat)]) (by simp only [results, Tryz.results137]; go_simp) rfl ⟨_, rfl, ?_⟩
              rw [HFIN.out]
              have := LSt.done (f := f) (us := []) (LSt.init (HBR.out trivial)) (extract_le s k j hs) (.string (s.extract k j)) (.slice none 0 0) j
              rw [World.setCell_alloc_past _ _ _ _ (show w.heap.size < wa.heap.size by omega), World.setCell_alloc_past _ _ _ _ (by simp; omega)] at this
              exact this
            · have HFIN := Lib.hid (show rTerm s.data.toList (f + 1) k = rArgs s.data.toList (s.extract k j).data.toList f [] j by
                rw [rTerm, HNE.out, HJ.out, list_at s j hlt, if_neg (by simp), if_pos (by
                  rw [byte_40, beq_iff_eq] at h40; rw [h40]), ← HNM.out])
              have h40' : ((s[j].toNat : Int) != 40) = false := by rw [bne, h40]; rfl
              have hq40 : ((j : Int) == (s.size : Int)) = false := by simp; omega
              have HL0 := Lib.hid (LSt.init (n := s.extract k j) (f := f) (HBR.out trivial))
              clear r0 r1 rf
              go_wp2_with (first | (go_at_call 136; refine (l3Word_any _ _).mono ?_; rintro e w' ⟨rfl, rfl⟩))
              go_loopw [6] (LArgRel s (s.extract k j) f w.heap.size wa.heap.size w (rTerm s.data.toList (f + 1) k)) (fun i _ => s.size - (intOf i).toNat)
              case atStart => exact ⟨f, j, _, [], rfl, HL0.out, Nat.le_refl _, HFIN.out.symm, hlt, by omega, Nat.zero_le _⟩
              case round =>
                obtain ⟨f', e, v, us, rfl, hL, hff, hres, he, hfe, hul⟩ := hrel
                have HL := Lib.hid hL
                clear hL HFIN HL0
                obtain ⟨f'', rfl⟩ : ∃ q, f' = q + 1 := ⟨f' - 1, by omega⟩
                rw [rArgs] at hres
                go_wp2_with fail
                rw [show ((e : Int) + 1) = ((e + 1 : Nat) : Int) by omega]
                refine (IH.out f'' (by omega) s (e + 1) _ (by omega) hs (by omega)).mono ?_
                rintro e0 w1 ⟨x, rfl, hb1, s0, p0, k0, c0, z0, rfl, hgot⟩
                have hq1 := hb1.size
                have hlL := HL.out.lt
                have HL1 := Lib.hid (HL.out.later hb1)
                have HL2 := Lib.hid (HL1.out.later ((Below.refl w1.heap.size w1).alloc (Nat.le_refl _) (.cells #[.string s0, .slice p0 k0 c0] 24)))
                obtain ⟨pv, cv, hvv, -⟩ := HL.out.row.form
                subst hvv
                obtain ⟨b0, b1, bf⟩ := cells2_cell HL1.out.cell
                obtain ⟨r0, r1, rf⟩ := cells2_cell HL1.out.res
                have hz1 := bsz (show w.heap.size < w1.heap.size by omega)
                have hz2 := bsz (show wa.heap.size < w1.heap.size by omega)
                cases hr : rTerm s.data.toList f'' (e + 1) with
                | none =>
                  rw [hr] at hgot hres
                  simp only at hgot hres
                  subst hgot
                  have HRES := Lib.hid hres
                  clear hres
                  go_wp2
                  refine bodyPost_ret (v := .tuple #[.agg #[.string (s.extract k j), .slice pv us.length cv], .int .i64 (-1)]) (by simp only [results, Tryz.results137]; go_simp) rfl ⟨_, rfl, ?_⟩
                  rw [← HRES.out]
                  have := LSt.none (f' := f + 1) HL2.out (.string (s.extract k j)) (.slice pv us.length cv)
                  rw [World.setCell_alloc_past _ _ _ _ (show w.heap.size < w1.heap.size by omega), World.setCell_alloc_past _ _ _ _ (by simp; omega)] at this
                  exact this
                | some am =>
                  obtain ⟨a, m⟩ := am
                  rw [hr] at hgot hres
                  simp only at hgot hres
                  obtain ⟨rfl, hO⟩ := hgot
                  have hwt := rTerm_wt s.data.toList f'' (e + 1) a m (by rw [← size_list]; omega) hr
                  rw [← size_list] at hwt
                  have hbW : Below wr.heap.size wr (w1.alloc (.cells #[.string s0, .slice p0 k0 c0] 24)) := by (repeat (first | with_reducible exact Below.refl _ _ | with_reducible assumption | with_reducible refine Below.al ?_ _ | with_reducible refine Below.sc ?_ (by first | exact Nat.le_refl _ | (simp; done) | (simp; omega)) _ | assumption | exact Below.refl _ _ | refine Below.dr ?_ | refine Below.drN ?_ _ | refine Below.step ?_ (by assumption)))
                  have HA := Lib.hid (show TmOwn 24 f (fun b => wr.heap.size ≤ b ∧ b < (w1.alloc (.cells #[.string s0, .slice p0 k0 c0] 24)).heap.size) (w1.alloc (.cells #[.string s0, .slice p0 k0 c0] 24)) a [.string s0, .slice p0 k0 c0] from
                    TmOwn.mono f'' f a _ (by omega) (SameOn.below ((Below.refl w1.heap.size w1).alloc (Nat.le_refl _) _)) (fun b hb => ⟨hb.1, by simp; omega⟩) hO)
                  clear hO
                  obtain ⟨hm, vals, Ss, hv1, -⟩ := HL2.out.row
                  have HV := Lib.hid hv1
                  clear hv1 hm
                  have hm0 : ¬ (m : Int) < 0 := by omega
                  by_cases hms : m = s.size
                  · have hms1 : ((m : Int) == (s.size : Int)) = true := by simp; omega
                    have HRES := Lib.hid (show none = rTerm s.data.toList (f + 1) k by rw [← hres, List.getElem?_eq_none (by rw [← size_list]; omega), if_neg (by simp), if_neg (by simp)])
                    clear hres
                    go_wp2
                    refine bodyPost_ret (v := .tuple #[.agg #[.string (s.extract k j), .slice pv us.length cv], .int .i64 (-1)]) (by simp only [results, Tryz.results137]; go_simp) rfl ⟨_, rfl, ?_⟩
                    rw [← HRES.out]
                    have := LSt.none (f' := f + 1) HL2.out (.string (s.extract k j)) (.slice pv us.length cv)
                    rw [World.setCell_alloc_past _ _ _ _ (show w.heap.size < w1.heap.size by omega), World.setCell_alloc_past _ _ _ _ (by simp; omega)] at this
                    exact this
                  have hms1 : ((m : Int) == (s.size : Int)) = false := by simp; omega
                  have hml : m < s.size := by omega
                  have hml1 : (m : Int) < s.size := by omega
                  rw [list_at s m hml] at hres
                  cases h44 : ((s[m].toNat : Int) == 44)
                  · have h44' : ((s[m].toNat : Int) != 44) = true := by rw [bne, h44]; rfl
                    rw [if_neg (by intro e; injection e with e; rw [byte_44, e] at h44; simp at h44)] at hres
                    cases h41 : ((s[m].toNat : Int) == 41)
                    · have h41' : ((s[m].toNat : Int) != 41) = true := by rw [bne, h41]; rfl
                      rw [if_neg (by intro e; injection e with e; rw [byte_41, e] at h41; simp at h41)] at hres
                      have HRES := Lib.hid hres
                      clear hres
                      go_wp2
                      refine bodyPost_ret (v := .tuple #[.agg #[.string (s.extract k j), .slice pv us.length cv], .int .i64 (-1)]) (by simp only [results, Tryz.results137]; go_simp) rfl ⟨_, rfl, ?_⟩
                      rw [← HRES.out]
                      have := LSt.none (f' := f + 1) HL2.out (.string (s.extract k j)) (.slice pv us.length cv)
                      rw [World.setCell_alloc_past _ _ _ _ (show w.heap.size < w1.heap.size by omega), World.setCell_alloc_past _ _ _ _ (by simp; omega)] at this
                      exact this
                    · have h41' : ((s[m].toNat : Int) != 41) = false := by rw [bne, h41]; rfl
                      rw [if_pos (by rw [byte_41, beq_iff_eq] at h41; rw [h41]), ba_eq] at hres
                      have HRES := Lib.hid hres
                      clear hres
                      go_wp2_with (at_builtin; refine wpList_app1 rfl (.tmp 73) (.tmp 75) _ rfl 0 24 2 40 elemTmI _ _ vals rfl (w1.alloc (.cells #[.string s0, .slice p0 k0 c0] 24)) #[.string s0, .slice p0 k0 c0] rfl _ (by simp) rfl HV.out rfl (by simp [Value.oneCell']) (by omega) (by unfold maxLen; omega) (Nat.zero_le _) ?_; intro v3 w3 hown3 hg3 hnr3 hlt3; obtain ⟨⟨q3, c3, rfl⟩, hbt3, hrb3⟩ := HL2.out.three hown3 hg3; obtain ⟨y0, y1, yf⟩ := cells2_cell hbt3; obtain ⟨t0, t1, tf⟩ := cells2_cell hrb3; simp only [World.size_alloc] at hlt3; have hz3 := bsz (show w.heap.size < w3.heap.size by omega); have hz4 := bsz (show wa.heap.size < w3.heap.size by omega); have HL3 := Lib.hid (HL.out.app hbW HA.out HV.out hown3 hg3 hnr3 (by omega)); clear hown3 hg3 hnr3 hbt3 hrb3)
                      refine bodyPost_ret (v := .tuple #[.agg #[.string (s.extract k j), .slice (some ⟨q3, 0, none⟩) (us.length + 1) c3], .int .i64 ((m : Int) + 1)]) (by simp only [results, Tryz.results137]; go_simp) rfl ⟨_, rfl, ?_⟩
                      rw [← HRES.out, show ((m : Int) + 1) = ((m + 1 : Nat) : Int) by omega]
                      exact LSt.done HL3.out (extract_le s k j hs) _ _ (m + 1)
                  · have h44' : ((s[m].toNat : Int) != 44) = false := by rw [bne, h44]; rfl
                    have h41 : ((s[m].toNat : Int) == 41) = false := by
                      rw [byte_44, beq_iff_eq] at h44
                      rw [byte_41, h44]; rfl
                    rw [if_pos (by rw [byte_44, beq_iff_eq] at h44; rw [h44])] at hres
                    have HRES := Lib.hid hres
                    clear hres
                    go_wp2_with (at_builtin; refine wpList_app1 rfl (.tmp 73) (.tmp 75) _ rfl 0 24 2 40 elemTmI _ _ vals rfl (w1.alloc (.cells #[.string s0, .slice p0 k0 c0] 24)) #[.string s0, .slice p0 k0 c0] rfl _ (by simp) rfl HV.out rfl (by simp [Value.oneCell']) (by omega) (by unfold maxLen; omega) (Nat.zero_le _) ?_; intro v3 w3 hown3 hg3 hnr3 hlt3; obtain ⟨⟨q3, c3, rfl⟩, hbt3, hrb3⟩ := HL2.out.three hown3 hg3; obtain ⟨y0, y1, yf⟩ := cells2_cell hbt3; obtain ⟨t0, t1, tf⟩ := cells2_cell hrb3; simp only [World.size_alloc] at hlt3; have hz3 := bsz (show w.heap.size < w3.heap.size by omega); have hz4 := bsz (show wa.heap.size < w3.heap.size by omega); have HL3 := Lib.hid (HL.out.app hbW HA.out HV.out hown3 hg3 hnr3 (by omega)); clear hown3 hg3 hnr3 hbt3 hrb3)
                    refine ⟨⟨f'', m, _, us ++ [a], rfl, HL3.out, by omega, HRES.out, hml, by omega, by simp; omega⟩, by simp [intOf]; omega⟩
        · have HW := Lib.hid hw
          go_wp2_with (first | (go_at_call 136; refine (l3Word_any _ _).mono ?_; rintro e w' ⟨rfl, rfl⟩))
          refine ⟨⟨j + 1, by go_num, by omega, by omega, fun i h1 h2 h3 => ?_, HBR.out trivial⟩, by simp [intOf]; omega⟩
          by_cases e : i = j
          · subst e; exact HW.out
          · exact HALL.out i h1 (by omega) h3
      · have HSTOP := Lib.hid (show ∀ h : j < s.size, wordC s[j] = false from fun h => absurd h hlt)
        have hj3 : ¬ (j : Int) < s.size := by omega
        have HWD := Lib.hid (show rWordL s.data.toList k = (s.data.toList.drop k).take (j - k) from wordL_at (bad := false) HALL.out hj1 hj2 HSTOP.out)
        have HLL := Lib.hid (show (rWordL s.data.toList k).length = j - k by rw [HWD.out, List.length_take, List.length_drop, ← size_list]; omega)
        by_cases hjk : j = k
        · subst hjk
          have HFIN := Lib.hid (show rTerm s.data.toList (f + 1) j = none by rw [rTerm, HWD.out]; simp)
          go_wp2
          refine bodyPost_ret (v := .tuple #[.agg #[.string ByteArray.empty, .slice none 0 0], .int .i64 (-1)]) (by simp only [results, Tryz.results137]; go_simp) rfl ⟨_, rfl, ?_⟩
          rw [HFIN.out]
          have := LSt.none (f' := f + 1) (LSt.init (n := ByteArray.empty) (f := 0) (HBR.out trivial)) (.string ByteArray.empty) (.slice none 0 0)
          rw [World.setCell_alloc_past _ _ _ _ (show w.heap.size < wa.heap.size by omega), World.setCell_alloc_past _ _ _ _ (by simp; omega)] at this
          exact this
        · have hk1 : ((j : Int) == (k : Int)) = false := by simp; omega
          have hk2 : ((j : Int) == (s.size : Int)) = true := by simp; omega
          have HFIN := Lib.hid (show rTerm s.data.toList (f + 1) k = some (.mk (s.extract k j) [], j) by
            have h1 : (rWordL s.data.toList k).isEmpty = false := by
              rw [Bool.eq_false_iff]; intro e; rw [List.isEmpty_iff] at e; have := HLL.out; rw [e] at this; simp at this; omega
            have h2 : (⟨(rWordL s.data.toList k).toArray⟩ : ByteArray) = s.extract k j := by
              exact (str_eq (by rw [extract_list, HWD.out, List.drop_take])).symm
            have h3 : k + (rWordL s.data.toList k).length = j := by rw [HLL.out]; omega
            rw [rTerm, h1, h3, h2, List.getElem?_eq_none (by rw [← size_list]; omega), if_neg (by simp), if_neg (by simp)])
          go_wp2
          refine bodyPost_ret (v := .tuple #[.agg #[.string (s.extract k j), .slice none 0 0], .int .i64 (j : Nat)]) (by simp only [results, Tryz.results137]; go_simp) rfl ⟨_, rfl, ?_⟩
          rw [HFIN.out]
          have := LSt.done (f := f) (us := []) (LSt.init (HBR.out trivial)) (extract_le s k j hs) (.string (s.extract k j)) (.slice none 0 0) j
          rw [World.setCell_alloc_past _ _ _ _ (show w.heap.size < wa.heap.size by omega), World.setCell_alloc_past _ _ _ _ (by simp; omega)] at this
          exact this
end Go.Proofs.YtdklemmincejpaaGreat
