/- 'FnExactEnglishToClause': the law is true for all arguments. -/
import Derived.OpenShut
import Derived.JoinedCond
import Derived.Deep.DeepHandedRow
import Derived.Lib.SmallJoins
import Derived.Stop.LaidErr
import Derived.Test.YtdklemmincejpaaGreatEtcPart1
import Derived.Test.YtdklemmincejpaaGreatEtcPart5
import Derived.Test.YtdklemmincejpaaGreatEtcPart7
import Derived.Test.YtdklemmincejpaaGreatEtcPart8
import Derived.Test.YtdklemmincejpaaGreatEtcPart13
namespace Go.Proofs.YtdklemmincejpaaGreat
open Go.RowKit
theorem Fm.awt : ∀ f : Fm, f.a.wt ≤ f.wt
  | .mk op a v ps => by show a.wt ≤ _; rw [Fm.wt]; omega
theorem rLit_wt (L : List UInt8) (p : PSt) (hp : p.pos ≤ L.length) : (rLit L p).1.a.wt + p.pos ≤ (rLit L p).2.pos ∧ (rLit L p).2.pos ≤ L.length := by
  rw [rLit]
  split
  · rename_i h
    have h1 := pTake_le h hp
    have h2 := qAtom_wt L (pAdv sNot p) (by simpa [pAdv] using h1)
    have h3 := (qAtom L (pAdv sNot p)).1.awt
    simp only [pAdv] at h2 h3 ⊢; omega
  · have h2 := qAtom_wt L p hp
    have h3 := (qAtom L p).1.awt
    simp only; omega
theorem rLits_wt (L : List UInt8) : ∀ (f : Nat) (p : PSt), p.pos ≤ L.length → Cls.wts (rLits L f p).1 + p.pos ≤ (rLits L f p).2.pos ∧ (rLits L f p).2.pos ≤ L.length
  | 0, p, hp => by simp [rLits, Cls.wts, hp]
  | f + 1, p, hp => by
    rw [rLits]
    split
    · rename_i h
      have h1 := pTake_le h hp
      have h2 := rLit_wt L (pAdv sEither p) (by simpa [pAdv] using h1)
      have h3 := pMust_pos L sOr (rLit L (pAdv sEither p)).2 h2.2
      have h4 := rLits_wt L f (pMust L sOr (rLit L (pAdv sEither p)).2) h3.2
      simp only [Cls.wts, pAdv] at h2 h3 h4 ⊢
      omega
    · have h2 := rLit_wt L p hp
      simp only [Cls.wts]; omega
theorem rCls_wt (L : List UInt8) (p : PSt) (hp : p.pos ≤ L.length) : Cls.wts (rCls L p).1 + p.pos ≤ (rCls L p).2.pos ∧ (rCls L p).2.pos ≤ L.length := by
  rw [rCls]
  split
  · rename_i h
    have h1 := pTake_le h hp
    simp only [Cls.wts, pAdv]; omega
  · exact rLits_wt L _ p hp
set_option maxRecDepth 100000 in
set_option maxHeartbeats 3200000 in
theorem specETC_any (s : ByteArray) (hz : s.size ≤ 1000000000000) (w : World) : Calls Tryz.prog 11 #[.string s] w (EtcV (2 * s.size + 7) (rOk s) (rC s) w) := by
  by_cases hs : 12000 < s.size
  · have hk : rOk s = false := by rw [rOk, decide_eq_false (by omega), Bool.false_and]
    have HNO := Lib.hid (show rOk s = false ∧ rC s = [] from ⟨hk, by rw [rC, hk]; rfl⟩)
    clear hk
    go_enter Tryz.func11, Tryz.ntmps11
    go_wp2
    refine bodyPost_ret (v := .tuple #[.agg #[.slice none 0 0], .bool false]) (by simp only [results, Tryz.results11]; go_simp) rfl (EtcV.no HNO.out (by (repeat (first | with_reducible exact Below.refl _ _ | with_reducible assumption | with_reducible refine Below.al ?_ _ | with_reducible refine Below.sc ?_ (by first | exact Nat.le_refl _ | (simp; done) | (simp; omega)) _ | assumption | exact Below.refl _ _ | refine Below.dr ?_ | refine Below.drN ?_ _ | refine Below.step ?_ (by assumption)))))
  · have hwt := rCls_wt s.data.toList ⟨0, false⟩ (Nat.zero_le _)
    have hok : rOk s = (!(rCls s.data.toList ⟨0, false⟩).2.bad && (rCls s.data.toList ⟨0, false⟩).2.pos == s.size && Cls.good (rCls s.data.toList ⟨0, false⟩).1 && (Cls.eng (rCls s.data.toList ⟨0, false⟩).1 == s.data.toList)) := by
      rw [rOk, decide_eq_true (by omega), Bool.true_and]
    have hrc : rC s = if rOk s then (rCls s.data.toList ⟨0, false⟩).1 else [] := rfl
    have HCL := Lib.hid (refClause_any (w.heap.size + 1) s ⟨0, false⟩)
    rw [← size_list] at hwt
    generalize rCls s.data.toList ⟨0, false⟩ = r at *
    obtain ⟨cl, p1⟩ := r
    simp only at hwt hok hrc HCL
    have HNO := Lib.hid (show rOk s = false → rOk s = false ∧ rC s = [] from fun h => ⟨h, by rw [hrc, h]; rfl⟩)
    have HYES := Lib.hid (show rOk s = true → rOk s = true ∧ rC s = cl from fun h => ⟨h, by rw [hrc, h]; rfl⟩)
    have HOK := Lib.hid hok
    clear hok hrc
    go_enter Tryz.func11, Tryz.ntmps11
    go_wp2_with fail
    refine (HCL.out _ ?_ (Nat.zero_le _) (by omega)).mono ?_
    · have h0 := heap_alloc_new (w.alloc (.cells #[.slice none 0 0] 35)) (.cells #[.string s, .int .i64 0, .bool false] 52)
      rw [show (w.alloc (.cells #[.slice none 0 0] 35)).heap.size = w.heap.size + 1 by simp] at h0
      exact h0
    rintro e w1 ⟨q, k, d, rfl, hO, hP1, hg1⟩
    obtain ⟨p', d', hv, -⟩ := OwnRow.form hO
    simp only [Value.slice.injEq] at hv
    obtain ⟨rfl, rfl, rfl⟩ := hv
    have hz1 := hg1.size
    simp at hz1
    have HR := (hg1.block w.heap.size (by simp; omega) (by simp)).trans ((hao (w.alloc _) _ _ (by simp)).trans (heap_alloc_new w _))
    have BW := Lib.hid (show True → Below w.heap.size w w1 from fun _ => ⟨hg1.os, hg1.tape, hg1.output, by have := hg1.size; simp at this; omega, fun b hb => (hg1.block b (by simp; omega) (by simp; omega)).trans ((hao (w.alloc _) _ _ (by simp; omega)).trans (hao w _ _ hb))⟩)
    have r0 : w1.cell? ⟨w.heap.size, 0, none⟩ = some (.slice none 0 0) := by rw [cell_of_row _ _ 0 _ _ (0, 0) HR]; rfl
    have rf : ∀ i, w1.frozen? ⟨w.heap.size, i, none⟩ = false := fun i => frozen_of_row _ _ i _ _ HR
    obtain ⟨d0, d1, d2, df⟩ := hP1.cells
    have hr1 := bsz (heap_lt HR)
    have hr2 := bsz (show w.heap.size + 1 < w1.heap.size by omega)
    have HO := Lib.hid hO
    have HAT := Lib.hid (ClsOwn.at_ hO)
    clear HR hg1 hP1 hO
    cases hB : p1.bad
    case true =>
      rw [hB] at d2
      have HE := Lib.hid (HNO.out (by rw [HOK.out, hB]; rfl))
      have hb3 := BW.out trivial
      go_wp2
      refine bodyPost_ret (v := .tuple #[.agg #[.slice none 0 0], .bool false]) (by simp only [results, Tryz.results11]; go_simp) rfl (EtcV.no HE.out (by (repeat (first | with_reducible exact Below.refl _ _ | with_reducible assumption | with_reducible refine Below.al ?_ _ | with_reducible refine Below.sc ?_ (by first | exact Nat.le_refl _ | (simp; done) | (simp; omega)) _ | assumption | exact Below.refl _ _ | refine Below.dr ?_ | refine Below.drN ?_ _ | refine Below.step ?_ (by assumption)))))
    rw [hB] at d2
    cases hE : (p1.pos == s.size)
    · have HE := Lib.hid (HNO.out (by rw [HOK.out, hE, Bool.and_false]; rfl))
      have hne : ((p1.pos : Int) == (s.size : Int)) = false := by
        rw [beq_eq_false_iff_ne] at hE ⊢; omega
      have hne' : ((p1.pos : Int) != (s.size : Int)) = true := by rw [bne, hne]; rfl
      have hb3 := BW.out trivial
      go_wp2
      refine bodyPost_ret (v := .tuple #[.agg #[.slice none 0 0], .bool false]) (by simp only [results, Tryz.results11]; go_simp) rfl (EtcV.no HE.out (by (repeat (first | with_reducible exact Below.refl _ _ | with_reducible assumption | with_reducible refine Below.al ?_ _ | with_reducible refine Below.sc ?_ (by first | exact Nat.le_refl _ | (simp; done) | (simp; omega)) _ | assumption | exact Below.refl _ _ | refine Below.dr ?_ | refine Below.drN ?_ _ | refine Below.step ?_ (by assumption)))))
    · have HE := Lib.hid (show (!p1.bad && p1.pos == s.size) = true by rw [hB, hE]; rfl)
      have hne : ((p1.pos : Int) == (s.size : Int)) = true := by
        rw [beq_iff_eq] at hE ⊢; omega
      have hne' : ((p1.pos : Int) != (s.size : Int)) = false := by rw [bne, hne]; rfl
      clear hE
      go_wp2_with fail
      refine (l7Good_any (s.size + 5) cl _ _ (ClsAt.below (by (repeat (first | with_reducible exact Below.refl _ _ | with_reducible assumption | with_reducible refine Below.al ?_ _ | with_reducible refine Below.sc ?_ (by first | exact Nat.le_refl _ | (simp; done) | (simp; omega)) _ | assumption | exact Below.refl _ _ | refine Below.dr ?_ | refine Below.drN ?_ _ | refine Below.step ?_ (by assumption)))) HAT.out) (fun l hl => by have h1 := Cls.wts_le cl l hl; have h2 := l.a.sz_wt; omega)).mono ?_
      rintro e w3 ⟨rfl, hbv⟩
      have ⟨cv, fv⟩ := bcell hbv
      have hqv := hbv.size
      simp at hqv
      have hv1 := bsz (show w.heap.size < w3.heap.size by omega)
      have hv2 := bsz (show w1.heap.size < w3.heap.size by omega)
      cases hG : Cls.good cl
      · have HG := Lib.hid (HNO.out (by rw [HOK.out, hG]; simp))
        go_wp2
        refine bodyPost_ret (v := .tuple #[.agg #[.slice none 0 0], .bool false]) (by simp only [results, Tryz.results11]; go_simp) rfl (EtcV.no HG.out (by have hb3 := BW.out trivial; (repeat (first | with_reducible exact Below.refl _ _ | with_reducible assumption | with_reducible refine Below.al ?_ _ | with_reducible refine Below.sc ?_ (by first | exact Nat.le_refl _ | (simp; done) | (simp; omega)) _ | assumption | exact Below.refl _ _ | refine Below.dr ?_ | refine Below.drN ?_ _ | refine Below.step ?_ (by assumption)))))
      · have HG := Lib.hid hG
        have HA := Lib.hid (good_atoms hG)
        clear hG
        go_wp2_with fail
        refine (l26Clause_any (s.size + 5) cl _ _ (ClsAt.below (by (repeat (first | with_reducible exact Below.refl _ _ | with_reducible assumption | with_reducible refine Below.al ?_ _ | with_reducible refine Below.sc ?_ (by first | exact Nat.le_refl _ | (simp; done) | (simp; omega)) _ | assumption | exact Below.refl _ _ | refine Below.dr ?_ | refine Below.drN ?_ _ | refine Below.step ?_ (by assumption)))) HAT.out) HA.out.1 HA.out.2 (by omega)).mono ?_
        rintro e w4 ⟨rfl, hbe⟩
        have ⟨ce, fe⟩ := bcell hbe
        have hqe := hbe.size
        have hw1 := bsz (show w.heap.size < w4.heap.size by omega)
        have hw2 := bsz (show w1.heap.size < w4.heap.size by omega)
        by_cases hq : (⟨(Cls.eng cl).toArray⟩ : ByteArray) = s
        · have HQ := Lib.hid (HYES.out (by rw [HOK.out, HE.out, HG.out]; simp [← hq]))
          have hq2 : (Cls.eng cl == s.toList) = true := by rw [ByteArray.toList_eq, ← hq]; simp
          go_wp2
          refine bodyPost_ret (v := .tuple #[.agg #[.slice q cl.length d], .bool true]) (by simp only [results, Tryz.results11]; go_simp) rfl ?_
          rw [HQ.out.1, HQ.out.2]
          refine ⟨by have hb3 := BW.out trivial; (repeat (first | with_reducible exact Below.refl _ _ | with_reducible assumption | with_reducible refine Below.al ?_ _ | with_reducible refine Below.sc ?_ (by first | exact Nat.le_refl _ | (simp; done) | (simp; omega)) _ | assumption | exact Below.refl _ _ | refine Below.dr ?_ | refine Below.drN ?_ _ | refine Below.step ?_ (by assumption))), _, _, _, rfl, ?_⟩
          have hb3 : Below w1.heap.size w1 w4 := by (repeat (first | with_reducible exact Below.refl _ _ | with_reducible assumption | with_reducible refine Below.al ?_ _ | with_reducible refine Below.sc ?_ (by first | exact Nat.le_refl _ | (simp; done) | (simp; omega)) _ | assumption | exact Below.refl _ _ | refine Below.dr ?_ | refine Below.drN ?_ _ | refine Below.step ?_ (by assumption)))
          exact ClsOwn.mono (by omega) (fun b hb hlt => by
            have h0 : w.heap.size + 1 + 1 ≤ b := by simpa [NewB] using hb.1
            repeat rw [heap_setCell_other _ _ _ _ (by simp; omega)]
            exact hb3.block b hlt) (fun b hb => by
            have h0 : w.heap.size + 1 + 1 ≤ b := by simpa [NewB] using hb.1
            have h1 := hb.2
            exact ⟨by omega, by simp; omega⟩) HO.out
        · have HQ := Lib.hid (HNO.out (by
            rw [HOK.out, HE.out, HG.out, Bool.true_and, Bool.true_and, beq_eq_false_iff_ne]
            exact fun e => hq (by rw [e])))
          have hq2 : (Cls.eng cl == s.toList) = false := by
            rw [ByteArray.toList_eq, beq_eq_false_iff_ne]
            exact fun e => hq (by rw [e])
          go_wp2
          refine bodyPost_ret (v := .tuple #[.agg #[.slice none 0 0], .bool false]) (by simp only [results, Tryz.results11]; go_simp) rfl (EtcV.no HQ.out (by have hb3 := BW.out trivial; (repeat (first | with_reducible exact Below.refl _ _ | with_reducible assumption | with_reducible refine Below.al ?_ _ | with_reducible refine Below.sc ?_ (by first | exact Nat.le_refl _ | (simp; done) | (simp; omega)) _ | assumption | exact Below.refl _ _ | refine Below.dr ?_ | refine Below.drN ?_ _ | refine Below.step ?_ (by assumption)))))
end Go.Proofs.YtdklemmincejpaaGreat
namespace Go.Proofs.YtdklemmincejpaaGreat
open Go.RowKit
def MarkLRel (S : Nat → Prop) (m : Nat) (us : List Lit3) (v : Value) (k0 : Nat) (w : World) (kv i : Value) (wr : World) : Prop :=
  ∃ (j q : Nat) (done : List Lit3), i = .int .i64 (j : Nat) ∧ kv = .int .i64 (q : Nat) ∧ done.length = j ∧ j ≤ us.length ∧ Cls.Mkds done k0 q ∧ q + Cls.cts (us.drop j) ≤ k0 + Cls.cts us ∧ ClsOwn 24 69 m S wr (done ++ us.drop j) v ∧ Kept S w wr
set_option maxRecDepth 100000 in
set_option maxHeartbeats 1600000 in
theorem markLiteralS_any (m : Nat) (S : Nat → Prop) (us : List Lit3) (v : Value) (k : Nat) (w : World) (h : ClsOwn 24 69 (m + 1) S w us v) (hk : 0 < k) (hb : k + Cls.cts us ≤ 1000000) :
  Calls Tryz.prog 45 #[v, .int .i64 (k : Nat)] w fun e w' => ∃ (L : List Lit3) (k' : Nat), e = .returned (.int .i64 (k' : Nat)) ∧ Cls.Mkds L k k' ∧ L.length = us.length ∧ k' ≤ k + Cls.cts us ∧ ClsOwn 24 69 (m + 1) S w' L v ∧ Kept S w w' := by
  obtain ⟨p, c, rfl, hlen⟩ := OwnRow.form h
  unfold maxLen at hlen
  have H := Lib.hid h
  clear h
  go_enter Tryz.func45, Tryz.ntmps45
  go_wp2
  go_loopw [1, 5] (MarkLRel S (m + 1) us (.slice p us.length c) k w) (fun _ i _ => us.length - (intOf i).toNat)
  case atStart => exact ⟨0, k, [], rfl, rfl, rfl, Nat.zero_le _, rfl, Nat.le_refl _, H.out, Kept.refl _ _⟩
  case round =>
    obtain ⟨j, q, done, rfl, rfl, hdl, hju, hmk, hct, hrow, hkp⟩ := hrel
    have hqk := Cls.Mkds.le _ _ _ hmk
    have HMK := Lib.hid hmk
    have HKP := Lib.hid hkp
    clear hmk hkp
    by_cases hlt : j < us.length
    · have hcd := Cls.cts_drop hlt
      have hx : (done ++ us.drop j)[j]? = some us[j] := by rw [List.getElem?_append_right (by omega), hdl, Nat.sub_self, List.getElem?_drop, Nat.add_zero, List.getElem?_eq_getElem hlt]
      have HRW := Lib.hid hrow
      obtain ⟨g, cap, cs, Si, cur, hv, hSg, hh, hcl, hsz, hcs, hR, hSi, hclose⟩ := OwnRow.elem hrow hx
      have HCL := Lib.hid hclose
      clear hrow hclose hx
      have hset : ∀ y, (done ++ us.drop j).set j y = (done ++ [y]) ++ us.drop (j + 1) := fun y => by
        rw [List.set_append_right _ _ (by omega), hdl, Nat.sub_self, List.append_assoc, List.singleton_append]
        have e := List.drop_eq_getElem_cons hlt
        rw [e]; rfl
      have HSET := Lib.hid hset
      clear hset
      generalize us[j] = a at *
      obtain ⟨pos, n, vs⟩ := a
      obtain ⟨vn, va, rfl, ha⟩ := hR
      obtain ⟨va', hcs2, hn, hsub⟩ := ha
      simp only [List.cons.injEq, and_true] at hcs2
      obtain ⟨rfl, rfl⟩ := hcs2
      simp only [Value.slice.injEq] at hv
      obtain ⟨rfl, -, rfl⟩ := hv
      have HSUB := Lib.hid hsub
      have HHH := Lib.hid hh
      have hcd2 : Cls.cts (us.drop j) = 2 + Tm.cts vs + Cls.cts (us.drop (j + 1)) := hcd
      have c0 : wr.cell? ⟨g, j * 3, none⟩ = some (.bool pos) := (cell_of_row wr g _ cur _ (0, 0) hh).trans (hcs 0 (by omega))
      have c1 : wr.cell? ⟨g, j * 3 + 1, none⟩ = some (.string n) := (cell_of_row wr g _ cur _ (0, 0) hh).trans (hcs 1 (by omega))
      have c2 : wr.cell? ⟨g, j * 3 + 2, none⟩ = some va := (cell_of_row wr g _ cur _ (0, 0) hh).trans (hcs 2 (by omega))
      have cf : ∀ i, wr.frozen? ⟨g, i, none⟩ = false := fun i => frozen_of_row wr g i _ _ hh
      have hgl := bsz (blk_lt hh)
      clear hsub hh hcd
      go_wp2_with fail
      rw [show ((q : Int) + 1) = ((q + 1 : Nat) : Int) by omega]
      refine (markText_any (q + 1) _ (by omega) (by omega)).mono ?_
      rintro e w1 ⟨rfl, hb1⟩
      have ⟨cb, fb⟩ := bcell hb1
      have hq1 := hb1.size
      simp at hq1
      have hg1 := bsz (show g < w1.heap.size by omega)
      have hmp : ((q : Int) % 3 == 0) = markP q := rfl
      rw [hmp] at hb1 cb fb
      clear hmp
      go_wp2_with fail
      rw [show ((q : Int) + 1 + 1) = ((q + 2 : Nat) : Int) by omega]
      have hW2 : SameOn (fun b => b ≠ g) wr (w1.setCell ⟨g, j * 3 + 1, none⟩ (.string (markB (q + 1)))) := fun b hb hlt => (heap_setCell_other w1 ⟨g, j * 3 + 1, none⟩ b _ (fun e => hb e)).trans ((hb1.block b (by simpa using hlt)).trans (heap_setCell_other wr ⟨g, j * 3, none⟩ b _ (fun e => hb e)))
      have HW2 := Lib.hid hW2
      have HSUB2 := HSUB.out.mono (S' := Si) (w' := w1.setCell ⟨g, j * 3 + 1, none⟩ (.string (markB (q + 1)))) (R' := fun S x c => TmOwn 24 m S (w1.setCell ⟨g, j * 3 + 1, none⟩ (.string (markB (q + 1)))) x c) (fun b hb hlt => hW2 b (hSi b hb).2 hlt) (fun _ h => h)
        (fun T x c _ hT hx => TmOwn.mono m m x c (Nat.le_refl _) (fun b hb hlt => hW2 b (hSi b (hT b hb)).2 hlt) (fun _ h => h) hx)
      refine (markTermS_any m Si vs va (q + 2) _ HSUB2 (by omega) (by omega)).mono ?_
      rintro e w3 ⟨L, k', rfl, hmk3, hll, hk3, hrow3, hkp3⟩
      have HR3 := Lib.hid (And.intro hmk3 (And.intro hrow3 hkp3))
      clear hmk3 hrow3 hkp3 HSUB2 hW2
      go_wp2
      obtain ⟨hmk3, hrow3, hkp3⟩ := HR3.out
      refine ⟨⟨j + 1, k', done ++ [⟨markP q, .mk (markB (q + 1)) L⟩], by go_num, rfl, by simp; omega, by omega, Cls.Mkds.snoc _ _ _ _ _ HMK.out (show Lit3.Mkd ⟨markP q, .mk (markB (q + 1)) L⟩ q k' from ⟨rfl, rfl, hmk3⟩), by omega, ?_, ?_⟩, by simp [intOf]; omega⟩
      · rw [← HSET.out]
        have hpt : Patch cur ((cur.setIfInBounds (j * 3 + 0) (.bool (markP q))).setIfInBounds (j * 3 + 1) (.string (markB (q + 1)))) (j * 3) [.bool (markP q), .string (markB (q + 1)), va] := Patch.set (cs := [.bool (markP q), .string n, va]) (Patch.set (cs := [.bool pos, .string n, va]) (Patch.refl hcs) (j := 0) (by simp) hsz _) (j := 1) (by simp) hsz _
        refine HCL.out w3 ⟨markP q, .mk (markB (q + 1)) L⟩ [.bool (markP q), .string (markB (q + 1)), va] ((cur.setIfInBounds (j * 3 + 0) (.bool (markP q))).setIfInBounds (j * 3 + 1) (.string (markB (q + 1)))) _ rfl ?_ hpt ⟨_, _, rfl, va, rfl, markB_size (q + 1) (by omega), hrow3⟩ (fun T y c hT hy => LitOwn.mono (Nat.le_refl _) (fun b hb hlt => ?_) (fun _ h => h) hy)
        · refine (hkp3.block g (by simp; omega) (fun e => (hSi g e).2 rfl)).trans ?_
          have h1 := heap_setCell_same wr g (j * 3) cur _ (.bool (markP q)) HHH.out
          exact heap_setCell_same w1 g (j * 3 + 1) _ _ _ ((hb1.block g (by simp; omega)).trans h1)
        · exact (hkp3.block b (by simp; omega) (hT b hb).2.2).trans (HW2.out b (hT b hb).2.1 hlt)
      · exact HKP.out.trans ((((Kept.refl S wr).set hSg _ _).below hb1 |>.set hSg _ _).trans (hkp3.mono (fun b hb => (hSi b hb).1)))
    · obtain rfl : j = us.length := by omega
      rw [List.drop_length, List.append_nil] at hrow
      have HRW := Lib.hid hrow
      clear hrow
      go_wp2
      go_ret
      exact ⟨done, q, rfl, HMK.out, hdl, by simpa [Cls.cts] using hct, HRW.out, HKP.out⟩
set_option maxRecDepth 100000 in
set_option maxHeartbeats 1600000 in
theorem markClause_any (m : Nat) (S : Nat → Prop) (us : List Lit3) (v : Value) (k : Nat) (w : World) (h : ClsOwn 24 69 (m + 1) S w us v) (hk : 0 < k) (hb : k + Cls.cts us ≤ 1000000) :
  Calls Tryz.prog 14 #[.agg #[v], .int .i64 (k : Nat)] w fun e w' => ∃ (L : List Lit3) (k' : Nat), e = .returned (.int .i64 (k' : Nat)) ∧ Cls.Mkds L k k' ∧ L.length = us.length ∧ k' ≤ k + Cls.cts us ∧ ClsOwn 24 69 (m + 1) S w' L v ∧ Kept S w w' := by
  obtain ⟨p, c, rfl, hlen⟩ := OwnRow.form h
  have H := Lib.hid h
  clear h
  go_enter Tryz.func14, Tryz.ntmps14
  go_wp2_with fail
  refine (markLiteralS_any m S us _ k _ (H.out.later (by (repeat (first | with_reducible exact Below.refl _ _ | with_reducible assumption | with_reducible refine Below.al ?_ _ | with_reducible refine Below.sc ?_ (by first | exact Nat.le_refl _ | (simp; done) | (simp; omega)) _ | assumption | exact Below.refl _ _ | refine Below.dr ?_ | refine Below.drN ?_ _ | refine Below.step ?_ (by assumption))))) hk hb).mono ?_
  rintro e w1 ⟨L, k', rfl, h1, h2, h3, h4, h5⟩
  have H1 := Lib.hid (And.intro h1 (And.intro h4 h5))
  clear h1 h4 h5
  go_wp2
  go_ret
  exact ⟨L, k', rfl, H1.out.1, h2, h3, H1.out.2.1, ((Kept.refl S w).below (by (repeat (first | with_reducible exact Below.refl _ _ | with_reducible assumption | with_reducible refine Below.al ?_ _ | with_reducible refine Below.sc ?_ (by first | exact Nat.le_refl _ | (simp; done) | (simp; omega)) _ | assumption | exact Below.refl _ _ | refine Below.dr ?_ | refine Below.drN ?_ _ | refine Below.step ?_ (by assumption))))).trans H1.out.2.2⟩
def HeldLRel (us : List Lit3) (k' : Nat) (w : World) (kv i : Value) (wr : World) : Prop :=
  ∃ j q : Nat, i = .int .i64 (j : Nat) ∧ kv = .int .i64 (q : Nat) ∧ j ≤ us.length ∧ Cls.Mkds (us.drop j) q k' ∧ 0 < q ∧ Below w.heap.size w wr
set_option maxRecDepth 100000 in
set_option maxHeartbeats 1600000 in
theorem heldLiteralS_any {B : Nat → Prop} (m : Nat) (us : List Lit3) (v : Value) (k k' : Nat) (w : World) (h : ListAt B w 3 (LitAt B (m + 1) w) v us) (hmk : Cls.Mkds us k k') (hk : 0 < k) (hb0 : k' ≤ 1000000) :
  Calls Tryz.prog 46 #[v, .int .i64 (k : Nat)] w fun e w' => e = .returned (.int .i64 (k' : Nat)) ∧ Below w.heap.size w w' := by
  obtain ⟨p, c, rfl, hlen⟩ := h.form
  unfold maxLen at hlen
  have HL := Lib.hid h
  have HMK := Lib.hid hmk
  clear h hmk
  go_enter Tryz.func46, Tryz.ntmps46
  go_wp2
  go_loopw [1, 5] (HeldLRel us k' w) (fun _ i _ => us.length - (intOf i).toNat)
  case atStart => exact ⟨0, k, rfl, rfl, Nat.zero_le _, HMK.out, hk, by (repeat (first | with_reducible exact Below.refl _ _ | with_reducible assumption | with_reducible refine Below.al ?_ _ | with_reducible refine Below.sc ?_ (by first | exact Nat.le_refl _ | (simp; done) | (simp; omega)) _ | assumption | exact Below.refl _ _ | refine Below.dr ?_ | refine Below.drN ?_ _ | refine Below.step ?_ (by assumption)))⟩
  case round =>
    obtain ⟨j, q, rfl, rfl, hju, hmk, hq, hb⟩ := hrel
    have hqk := Cls.Mkds.le _ _ _ hmk
    by_cases hlt : j < us.length
    · obtain ⟨j', hm1, hm2⟩ := Cls.Mkds.drop hmk hlt
      have hle1 := hm1.le
      have hle2 := Cls.Mkds.le _ _ _ hm2
      have HM2 := Lib.hid hm2
      clear hmk hm2
      obtain ⟨b, o, rfl, hB, x0, x1, x2, hx0, hx1, hx2, hx⟩ := (HL.out.mono (SameOn.below hb) (fun _ h => h) (fun x cs _ hx => LitAt.below hb hx)).at3 hlt
      have hM := hm1
      obtain ⟨a, ha⟩ : ∃ a, us[j] = a := ⟨_, rfl⟩
      rw [ha] at hx
      rw [ha] at hM
      have HX := Lib.hid hx
      have HM := Lib.hid hM
      clear hx ha hM
      have zb := bsz (World.block_lt_of_cell? _ _ hx0)
      obtain ⟨pa, ca, rfl, rfl, rfl, ht⟩ := HX.out.form
      have HT := Lib.hid ht
      have ha := HM.out
      have HA2 := Lib.hid ha.2.2
      have hle3 := Tm.Mkds.le _ _ _ ha.2.2
      have hn : a.a.n = markB (q + 1) := ha.2.1
      have hmp : ((q : Int) % 3 == 0) = markP q := rfl
      rw [ha.1] at hx0
      clear ha ht
      go_wp2
      rw [show ((q : Int) + 1) = ((q + 1 : Nat) : Int) by omega]
      obtain ⟨C, HC0⟩ := class_of (InF wr.heap.size _ [(⟨b, o + j * 3, none⟩, .bool (markP q)), (⟨b, o + j * 3 + 1, none⟩, .string a.a.n), (⟨b, o + j * 3 + 2, none⟩, .slice pa a.a.us.length ca)] [] [])
      have HC := Lib.hid HC0
      clear HC0
      refine wp_region_flow (C := C) (by kernel_rfl) (by kernel_rfl) (fun L hL => (HC.out _ _).2 (InF.start (by first | (intro _ hs; cases hs; done) | (simp only [List.forall_mem_cons]; go_simp)) (by first | (intro _ hs; cases hs; done) | (simp only [List.forall_mem_cons]; go_simp)) (by first | (intro _ hs; cases hs; done) | (simp only [List.forall_mem_cons]; go_simp)) (by first | (intro _ hs; cases hs; done) | (simp only [List.forall_mem_cons]; go_simp)) L hL)) ?_
      repeat (first | (apply flow_free rfl; (intro L w' hun hrd hC; have hC := (HC.out _ _).1 hC; have hb' := hC.below; (try have hw' : Below w.heap.size w w' := by first | exact Below.trans (by (repeat (first | with_reducible exact Below.refl _ _ | with_reducible assumption | with_reducible refine Below.al ?_ _ | with_reducible refine Below.sc ?_ (by first | exact Nat.le_refl _ | (simp; done) | (simp; omega)) _ | assumption | exact Below.refl _ _ | refine Below.dr ?_ | refine Below.drN ?_ _ | refine Below.step ?_ (by assumption)))) hb' | ((repeat (first | with_reducible exact Below.refl _ _ | with_reducible assumption | with_reducible refine Below.al ?_ _ | with_reducible refine Below.sc ?_ (by first | exact Nat.le_refl _ | (simp; done) | (simp; omega)) _ | assumption | exact Below.refl _ _ | refine Below.dr ?_ | refine Below.drN ?_ _ | refine Below.step ?_ (by assumption))); done)); have hf' := hC.cell; (try simp only [List.forall_mem_cons] at hf'); go_simp; first | exact ⟨(HC.out _ _).2 (hC.skip _ (by rfl)), rfl⟩ | (rw [if_neg]; (exact ⟨(HC.out _ _).2 (hC.skip _ (by rfl)), rfl⟩); omega) | (go_at_call 74; refine (markText_any (q + 1) _ (by omega) (by omega)).mono ?_; rintro e w1 ⟨rfl, hb1⟩; exact ⟨rfl, (HC.out _ _).2 ((hC.next (by first | (simp; done) | (simp; omega) | omega) hb1).skip _ (by rfl))⟩)); go_simp) | (apply flow_yes; (case hw => go_simp); (intro L w' hun hrd hC; have hC := (HC.out _ _).1 hC; have hb' := hC.below; (try have hw' : Below w.heap.size w w' := by first | exact Below.trans (by (repeat (first | with_reducible exact Below.refl _ _ | with_reducible assumption | with_reducible refine Below.al ?_ _ | with_reducible refine Below.sc ?_ (by first | exact Nat.le_refl _ | (simp; done) | (simp; omega)) _ | assumption | exact Below.refl _ _ | refine Below.dr ?_ | refine Below.drN ?_ _ | refine Below.step ?_ (by assumption)))) hb' | ((repeat (first | with_reducible exact Below.refl _ _ | with_reducible assumption | with_reducible refine Below.al ?_ _ | with_reducible refine Below.sc ?_ (by first | exact Nat.le_refl _ | (simp; done) | (simp; omega)) _ | assumption | exact Below.refl _ _ | refine Below.dr ?_ | refine Below.drN ?_ _ | refine Below.step ?_ (by assumption))); done)); have hf' := hC.cell; (try simp only [List.forall_mem_cons] at hf'); go_simp; first | exact ⟨(HC.out _ _).2 (hC.skip _ (by rfl)), rfl⟩ | (rw [if_neg]; (exact ⟨(HC.out _ _).2 (hC.skip _ (by rfl)), rfl⟩); omega) | (go_at_call 74; refine (markText_any (q + 1) _ (by omega) (by omega)).mono ?_; rintro e w1 ⟨rfl, hb1⟩; exact ⟨rfl, (HC.out _ _).2 ((hC.next (by first | (simp; done) | (simp; omega) | omega) hb1).skip _ (by rfl))⟩)); go_simp) | (apply flow_no; (case hw => (go_simp; try (intro hh; cases hh))); (intro L w' _ _ hC; exact (HC.out _ _).2 (((HC.out _ _).1 hC).skip _ (by rfl))); go_simp))
      refine flow_nil ?_
      intro L wz hL hz
      have hz := (HC.out _ _).1 hz
      have hbz := hz.below
      have hcz := hz.cell
      try simp only [List.forall_mem_cons] at hcz
      have hdz := hz.done
      try simp only [List.forall_mem_cons] at hdz
      (try have hwz : Below w.heap.size w wz := by first | exact Below.trans (by (repeat (first | with_reducible exact Below.refl _ _ | with_reducible assumption | with_reducible refine Below.al ?_ _ | with_reducible refine Below.sc ?_ (by first | exact Nat.le_refl _ | (simp; done) | (simp; omega)) _ | assumption | exact Below.refl _ _ | refine Below.dr ?_ | refine Below.drN ?_ _ | refine Below.step ?_ (by assumption)))) hbz | ((repeat (first | with_reducible exact Below.refl _ _ | with_reducible assumption | with_reducible refine Below.al ?_ _ | with_reducible refine Below.sc ?_ (by first | exact Nat.le_refl _ | (simp; done) | (simp; omega)) _ | assumption | exact Below.refl _ _ | refine Below.dr ?_ | refine Below.drN ?_ _ | refine Below.step ?_ (by assumption))); done))
      have hz1 := bsz (show b < wz.heap.size by have := hbz.size; omega)
      go_wp2_with fail
      rw [show ((q : Int) + 1 + 1) = ((q + 2 : Nat) : Int) by omega]
      refine (heldTermS_any m a.a.us _ (q + 2) j' _ (TmAt.sub (TmAt.below (by (repeat (first | with_reducible exact Below.refl _ _ | with_reducible assumption | with_reducible refine Below.al ?_ _ | with_reducible refine Below.sc ?_ (by first | exact Nat.le_refl _ | (simp; done) | (simp; omega)) _ | assumption | exact Below.refl _ _ | refine Below.dr ?_ | refine Below.drN ?_ _ | refine Below.step ?_ (by assumption)))) HT.out)) HA2.out (by omega) (by omega)).mono ?_
      rintro e w2 ⟨rfl, hb2⟩
      have hj0 : ¬ (j' : Int) < 0 := by omega
      go_wp2
      exact ⟨⟨j + 1, j', by go_num, rfl, by omega, HM2.out, by omega, by (repeat (first | with_reducible exact Below.refl _ _ | with_reducible assumption | with_reducible refine Below.al ?_ _ | with_reducible refine Below.sc ?_ (by first | exact Nat.le_refl _ | (simp; done) | (simp; omega)) _ | assumption | exact Below.refl _ _ | refine Below.dr ?_ | refine Below.drN ?_ _ | refine Below.step ?_ (by assumption)))⟩, by simp [intOf]; omega⟩
    · obtain rfl : j = us.length := by omega
      rw [List.drop_length] at hmk
      have hkk : q = k' := hmk
      subst hkk
      clear hmk
      go_wp2
      go_ret
      exact ⟨rfl, by (repeat (first | with_reducible exact Below.refl _ _ | with_reducible assumption | with_reducible refine Below.al ?_ _ | with_reducible refine Below.sc ?_ (by first | exact Nat.le_refl _ | (simp; done) | (simp; omega)) _ | assumption | exact Below.refl _ _ | refine Below.dr ?_ | refine Below.drN ?_ _ | refine Below.step ?_ (by assumption)))⟩
set_option maxRecDepth 100000 in
set_option maxHeartbeats 1600000 in
theorem heldClause_any {B : Nat → Prop} (m : Nat) (us : List Lit3) (v : Value) (k k' : Nat) (w : World) (h : ClsAt B (m + 1) w us v) (hmk : Cls.Mkds us k k') (hk : 0 < k) (hb0 : k' ≤ 1000000) :
  Calls Tryz.prog 15 #[.agg #[v], .int .i64 (k : Nat)] w fun e w' => e = .returned (.int .i64 (k' : Nat)) ∧ Below w.heap.size w w' := by
  obtain ⟨p, c, rfl, -⟩ := (show ListAt B w 3 (LitAt B (m + 1) w) v us from h).form
  have H := Lib.hid h
  have HM := Lib.hid hmk
  clear h hmk
  go_enter Tryz.func15, Tryz.ntmps15
  go_wp2_with fail
  refine (heldLiteralS_any m us _ k k' _ (ClsAt.below (by (repeat (first | with_reducible exact Below.refl _ _ | with_reducible assumption | with_reducible refine Below.al ?_ _ | with_reducible refine Below.sc ?_ (by first | exact Nat.le_refl _ | (simp; done) | (simp; omega)) _ | assumption | exact Below.refl _ _ | refine Below.dr ?_ | refine Below.drN ?_ _ | refine Below.step ?_ (by assumption)))) H.out) HM.out hk hb0).mono ?_
  rintro e w1 ⟨rfl, hb1⟩
  have ⟨cw1, fw1⟩ := bcell hb1
  have qw1 := hb1.size
  (try simp at qw1)
  (try have zw1w := bsz (show w.heap.size < w1.heap.size by omega))
  have hj0 : ¬ (k' : Int) < 0 := by omega
  go_wp2
  go_ret
  exact ⟨rfl, by (repeat (first | with_reducible exact Below.refl _ _ | with_reducible assumption | with_reducible refine Below.al ?_ _ | with_reducible refine Below.sc ?_ (by first | exact Nat.le_refl _ | (simp; done) | (simp; omega)) _ | assumption | exact Below.refl _ _ | refine Below.dr ?_ | refine Below.drN ?_ _ | refine Below.step ?_ (by assumption)))⟩
end Go.Proofs.YtdklemmincejpaaGreat
namespace Go.Proofs.YtdklemmincejpaaGreat
open Go.RowKit
set_option maxRecDepth 100000 in
set_option maxHeartbeats 1600000 in
theorem eqLiteral_same {B B' : Nat → Prop} (m : Nat) (l : Lit3) (v0 v1 v2 u0 u1 u2 : Value) (w : World) (h : LitAt B m w l [v0, v1, v2]) (h' : LitAt B' m w l [u0, u1, u2]) :
    Calls Tryz.prog 83 #[.agg #[v0, v1, v2], .agg #[u0, u1, u2]] w fun e w' => e = .returned (.bool true) ∧ Below w.heap.size w w' := by
  obtain ⟨p, c, rfl, rfl, rfl, ht⟩ := h.form
  obtain ⟨p', c', rfl, rfl, rfl, ht'⟩ := h'.form
  have HT := Lib.hid ht
  have HT' := Lib.hid ht'
  clear h ht h' ht'
  have hpp : (l.pos != l.pos) = false := by simp
  go_enter Tryz.func83, Tryz.ntmps83
  go_wp2_with fail
  refine (eqTerm_same m l.a _ _ _ _ _ (HT.out.below (by (repeat (first | with_reducible exact Below.refl _ _ | with_reducible assumption | with_reducible refine Below.al ?_ _ | with_reducible refine Below.sc ?_ (by first | exact Nat.le_refl _ | (simp; done) | (simp; omega)) _ | assumption | exact Below.refl _ _ | refine Below.dr ?_ | refine Below.drN ?_ _ | refine Below.step ?_ (by assumption))))) (HT'.out.below (by (repeat (first | with_reducible exact Below.refl _ _ | with_reducible assumption | with_reducible refine Below.al ?_ _ | with_reducible refine Below.sc ?_ (by first | exact Nat.le_refl _ | (simp; done) | (simp; omega)) _ | assumption | exact Below.refl _ _ | refine Below.dr ?_ | refine Below.drN ?_ _ | refine Below.step ?_ (by assumption)))))).mono ?_
  rintro e w1 ⟨rfl, hb1⟩
  have ⟨cw1, fw1⟩ := bcell hb1
  have qw1 := hb1.size
  (try simp at qw1)
  (try have zw1w := bsz (show w.heap.size < w1.heap.size by omega))
  go_wp2
  go_ret
  exact ⟨rfl, by (repeat (first | with_reducible exact Below.refl _ _ | with_reducible assumption | with_reducible refine Below.al ?_ _ | with_reducible refine Below.sc ?_ (by first | exact Nat.le_refl _ | (simp; done) | (simp; omega)) _ | assumption | exact Below.refl _ _ | refine Below.dr ?_ | refine Below.drN ?_ _ | refine Below.step ?_ (by assumption)))⟩
set_option maxRecDepth 100000 in
set_option maxHeartbeats 1600000 in
theorem eqLiteralS_same {B B' : Nat → Prop} (m : Nat) (us : List Lit3) (va ua : Value) (w : World) (h : ListAt B w 3 (LitAt B m w) va us) (h' : ListAt B' w 3 (LitAt B' m w) ua us) :
    Calls Tryz.prog 44 #[va, ua] w fun e w' => e = .returned (.bool true) ∧ Below w.heap.size w w' := by
  obtain ⟨p, c, rfl, hlen⟩ := h.form
  obtain ⟨p', c', rfl, -⟩ := h'.form
  unfold maxLen at hlen
  have H := Lib.hid h
  have H' := Lib.hid h'
  clear h h'
  go_enter Tryz.func44, Tryz.ntmps44
  go_wp2
  go_loopw [5] (fun i wr => ∃ k : Nat, k ≤ us.length ∧ i = .int .i64 k ∧ Below w.heap.size w wr) (fun i _ => us.length - (intOf i).toNat)
  case atStart => exact ⟨0, Nat.zero_le _, rfl, by (repeat (first | with_reducible exact Below.refl _ _ | with_reducible assumption | with_reducible refine Below.al ?_ _ | with_reducible refine Below.sc ?_ (by first | exact Nat.le_refl _ | (simp; done) | (simp; omega)) _ | assumption | exact Below.refl _ _ | refine Below.dr ?_ | refine Below.drN ?_ _ | refine Below.step ?_ (by assumption)))⟩
  case round =>
    obtain ⟨k, hk, rfl, hb⟩ := hrel
    by_cases hlt : k < us.length
    · obtain ⟨b, o, rfl, hB, x0, x1, x2, hx0, hx1, hx2, hx⟩ := (H.out.mono (SameOn.below hb) (fun _ h => h) (fun x cs _ hx => LitAt.below hb hx)).at3 hlt
      obtain ⟨b', o', rfl, hB', y0, y1, y2, hy0, hy1, hy2, hy⟩ := (H'.out.mono (SameOn.below hb) (fun _ h => h) (fun x cs _ hx => LitAt.below hb hx)).at3 hlt
      obtain ⟨a, ha⟩ : ∃ a, us[k] = a := ⟨_, rfl⟩
      rw [ha] at hx hy
      have HX := Lib.hid hx
      have HY := Lib.hid hy
      clear hx hy ha
      go_wp2
      obtain ⟨C, HC0⟩ := class_of (InF wr.heap.size _ [(⟨b, o + k * 3, none⟩, x0), (⟨b, o + k * 3 + 1, none⟩, x1), (⟨b, o + k * 3 + 2, none⟩, x2), (⟨b', o' + k * 3, none⟩, y0), (⟨b', o' + k * 3 + 1, none⟩, y1), (⟨b', o' + k * 3 + 2, none⟩, y2)] [] [])
      have HC := Lib.hid HC0
      clear HC0
      refine wp_region_flow (C := C) (by kernel_rfl) (by kernel_rfl) (fun L hL => (HC.out _ _).2 (InF.start (by first | (intro _ hs; cases hs; done) | (simp only [List.forall_mem_cons]; go_simp)) (by first | (intro _ hs; cases hs; done) | (simp only [List.forall_mem_cons]; go_simp)) (by first | (intro _ hs; cases hs; done) | (simp only [List.forall_mem_cons]; go_simp)) (by first | (intro _ hs; cases hs; done) | (simp only [List.forall_mem_cons]; go_simp)) L hL)) ?_
      repeat (first | (apply flow_free rfl; (intro L w' hun hrd hC; have hC := (HC.out _ _).1 hC; have hb' := hC.below; (try have hw' : Below w.heap.size w w' := by first | exact Below.trans (by (repeat (first | with_reducible exact Below.refl _ _ | with_reducible assumption | with_reducible refine Below.al ?_ _ | with_reducible refine Below.sc ?_ (by first | exact Nat.le_refl _ | (simp; done) | (simp; omega)) _ | assumption | exact Below.refl _ _ | refine Below.dr ?_ | refine Below.drN ?_ _ | refine Below.step ?_ (by assumption)))) hb' | ((repeat (first | with_reducible exact Below.refl _ _ | with_reducible assumption | with_reducible refine Below.al ?_ _ | with_reducible refine Below.sc ?_ (by first | exact Nat.le_refl _ | (simp; done) | (simp; omega)) _ | assumption | exact Below.refl _ _ | refine Below.dr ?_ | refine Below.drN ?_ _ | refine Below.step ?_ (by assumption))); done)); have hf' := hC.cell; (try simp only [List.forall_mem_cons] at hf'); go_simp; first | exact ⟨(HC.out _ _).2 (hC.skip _ (by rfl)), rfl⟩ | (rw [if_neg]; (exact ⟨(HC.out _ _).2 (hC.skip _ (by rfl)), rfl⟩); omega) | (go_at_call 83; refine (eqLiteral_same m a x0 x1 x2 y0 y1 y2 _ (LitAt.below hb' HX.out) (LitAt.below hb' HY.out)).mono ?_; rintro e w1 ⟨rfl, hb1⟩; exact ⟨rfl, (HC.out _ _).2 ((hC.next (by first | (simp; done) | (simp; omega) | omega) hb1).skip _ (by rfl))⟩)); go_simp) | (apply flow_yes; (case hw => go_simp); (intro L w' hun hrd hC; have hC := (HC.out _ _).1 hC; have hb' := hC.below; (try have hw' : Below w.heap.size w w' := by first | exact Below.trans (by (repeat (first | with_reducible exact Below.refl _ _ | with_reducible assumption | with_reducible refine Below.al ?_ _ | with_reducible refine Below.sc ?_ (by first | exact Nat.le_refl _ | (simp; done) | (simp; omega)) _ | assumption | exact Below.refl _ _ | refine Below.dr ?_ | refine Below.drN ?_ _ | refine Below.step ?_ (by assumption)))) hb' | ((repeat (first | with_reducible exact Below.refl _ _ | with_reducible assumption | with_reducible refine Below.al ?_ _ | with_reducible refine Below.sc ?_ (by first | exact Nat.le_refl _ | (simp; done) | (simp; omega)) _ | assumption | exact Below.refl _ _ | refine Below.dr ?_ | refine Below.drN ?_ _ | refine Below.step ?_ (by assumption))); done)); have hf' := hC.cell; (try simp only [List.forall_mem_cons] at hf'); go_simp; first | exact ⟨(HC.out _ _).2 (hC.skip _ (by rfl)), rfl⟩ | (rw [if_neg]; (exact ⟨(HC.out _ _).2 (hC.skip _ (by rfl)), rfl⟩); omega) | (go_at_call 83; refine (eqLiteral_same m a x0 x1 x2 y0 y1 y2 _ (LitAt.below hb' HX.out) (LitAt.below hb' HY.out)).mono ?_; rintro e w1 ⟨rfl, hb1⟩; exact ⟨rfl, (HC.out _ _).2 ((hC.next (by first | (simp; done) | (simp; omega) | omega) hb1).skip _ (by rfl))⟩)); go_simp) | (apply flow_no; (case hw => (go_simp; try (intro hh; cases hh))); (intro L w' _ _ hC; exact (HC.out _ _).2 (((HC.out _ _).1 hC).skip _ (by rfl))); go_simp))
      refine flow_nil ?_
      intro L wz hL hz
      have hz := (HC.out _ _).1 hz
      have hbz := hz.below
      have hcz := hz.cell
      try simp only [List.forall_mem_cons] at hcz
      have hdz := hz.done
      try simp only [List.forall_mem_cons] at hdz
      (try have hwz : Below w.heap.size w wz := by first | exact Below.trans (by (repeat (first | with_reducible exact Below.refl _ _ | with_reducible assumption | with_reducible refine Below.al ?_ _ | with_reducible refine Below.sc ?_ (by first | exact Nat.le_refl _ | (simp; done) | (simp; omega)) _ | assumption | exact Below.refl _ _ | refine Below.dr ?_ | refine Below.drN ?_ _ | refine Below.step ?_ (by assumption)))) hbz | ((repeat (first | with_reducible exact Below.refl _ _ | with_reducible assumption | with_reducible refine Below.al ?_ _ | with_reducible refine Below.sc ?_ (by first | exact Nat.le_refl _ | (simp; done) | (simp; omega)) _ | assumption | exact Below.refl _ _ | refine Below.dr ?_ | refine Below.drN ?_ _ | refine Below.step ?_ (by assumption))); done))
      go_wp2
      refine ⟨⟨k + 1, by omega, by go_num, Below.step hb hbz⟩, by simp [intOf]; omega⟩
    · go_wp2
      go_ret
      exact ⟨rfl, hb⟩
set_option maxRecDepth 100000 in
set_option maxHeartbeats 1600000 in
theorem eqClause_same {B B' : Nat → Prop} (m : Nat) (us : List Lit3) (v u : Value) (w : World) (h : ClsAt B m w us v) (h' : ClsAt B' m w us u) :
    Calls Tryz.prog 13 #[.agg #[v], .agg #[u]] w fun e w' => e = .returned (.bool true) ∧ Below w.heap.size w w' := by
  obtain ⟨p, c, rfl, -⟩ := (show ListAt B w 3 (LitAt B m w) v us from h).form
  obtain ⟨p', c', rfl, -⟩ := (show ListAt B' w 3 (LitAt B' m w) u us from h').form
  have H := Lib.hid h
  have H' := Lib.hid h'
  clear h h'
  go_enter Tryz.func13, Tryz.ntmps13
  go_wp2_with fail
  refine (eqLiteralS_same m us _ _ _ (ClsAt.below (by (repeat (first | with_reducible exact Below.refl _ _ | with_reducible assumption | with_reducible refine Below.al ?_ _ | with_reducible refine Below.sc ?_ (by first | exact Nat.le_refl _ | (simp; done) | (simp; omega)) _ | assumption | exact Below.refl _ _ | refine Below.dr ?_ | refine Below.drN ?_ _ | refine Below.step ?_ (by assumption)))) H.out) (ClsAt.below (by (repeat (first | with_reducible exact Below.refl _ _ | with_reducible assumption | with_reducible refine Below.al ?_ _ | with_reducible refine Below.sc ?_ (by first | exact Nat.le_refl _ | (simp; done) | (simp; omega)) _ | assumption | exact Below.refl _ _ | refine Below.dr ?_ | refine Below.drN ?_ _ | refine Below.step ?_ (by assumption)))) H'.out)).mono ?_
  rintro e w1 ⟨rfl, hb1⟩
  have ⟨cw1, fw1⟩ := bcell hb1
  have qw1 := hb1.size
  (try simp at qw1)
  (try have zw1w := bsz (show w.heap.size < w1.heap.size by omega))
  go_wp2
  go_ret
  exact ⟨rfl, by (repeat (first | with_reducible exact Below.refl _ _ | with_reducible assumption | with_reducible refine Below.al ?_ _ | with_reducible refine Below.sc ?_ (by first | exact Nat.le_refl _ | (simp; done) | (simp; omega)) _ | assumption | exact Below.refl _ _ | refine Below.dr ?_ | refine Below.drN ?_ _ | refine Below.step ?_ (by assumption)))⟩
end Go.Proofs.YtdklemmincejpaaGreat
namespace Go.Proofs.YtdklemmincejpaaGreat
open Go.RowKit
theorem Cls.cts_wts : ∀ c : List Lit3, Cls.cts c ≤ 2 * c.length + Cls.wts c
  | [] => by simp [Cls.cts]
  | l :: c => by
    have h1 := Cls.cts_wts c
    have h2 := l.a.cts_us
    rw [Cls.cts, Cls.wts, Lit3.ct, List.length_cons]; omega
theorem iC_ct (s : ByteArray) : Cls.cts (iC s) ≤ 40000 := by
  have h1 := Cls.cts_wts (iC s)
  have h2 := iC_le s
  have h3 : Cls.wts (iC s) ≤ 12000 := by
    rw [iC]
    split
    · simp [Cls.wts]
    · split
      · cases hi : iFm s with
        | none => simp [Cls.wts]
        | some c =>
          have hf : iFm s = if etfOk s then clsOf ((etfF s).sz + 1) (etfF s) else none := rfl
          rw [hi] at hf
          cases hk : etfOk s
          · rw [hk] at hf; cases hf
          · rw [hk, if_pos rfl] at hf
            have hg := etfF_good hk
            have := clsOf_wts _ _ _ hg.1 hf.symm
            simp only [Option.getD_some]; omega
      · simp [Cls.wts]
  omega
set_option maxRecDepth 100000 in
set_option maxHeartbeats 3200000 in
theorem exactETC (s : ByteArray) (w : World) (hs : s.size ≤ maxLen) :
    Calls Tryz.prog 4 #[.string s] w fun e w' => e = .returned (.bool true) ∧ Below w.heap.size w w' := by
  unfold maxLen at hs
  by_cases h20 : (1048576 : Int) < s.size
  · go_enter Tryz.func4, Tryz.ntmps4
    go_wp2
    go_ret
    exact ⟨rfl, by (repeat (first | with_reducible exact Below.refl _ _ | with_reducible assumption | with_reducible refine Below.al ?_ _ | with_reducible refine Below.sc ?_ (by first | exact Nat.le_refl _ | (simp; done) | (simp; omega)) _ | assumption | exact Below.refl _ _ | refine Below.dr ?_ | refine Below.drN ?_ _ | refine Below.step ?_ (by assumption)))⟩
  · have hct := iC_ct s
    have HI := Lib.hid (implETC_any s (by omega))
    have HS := Lib.hid (specETC_any s (by omega))
    rw [← (sides_eq s).1, ← (sides_eq s).2] at HS
    obtain ⟨m, hm⟩ : ∃ m, 2 * s.size + 6 = m := ⟨_, rfl⟩
    rw [show 2 * s.size + 7 = m + 1 by omega] at HI HS
    clear hm
    generalize iC s = F at *
    generalize iOk s = ok at *
    go_enter Tryz.func4, Tryz.ntmps4
    go_wp2_with fail
    refine (HS.out _).mono ?_
    rintro e w1 ⟨hb1, p, k, d, rfl, hO1⟩
    obtain ⟨p', d', hv, -⟩ := OwnRow.form hO1
    simp only [Value.slice.injEq] at hv
    obtain ⟨rfl, rfl, rfl⟩ := hv
    have HW0 := Lib.hid (ClsOwn.at_ hO1)
    clear hO1
    have hq1 := hb1.size
    go_wp2_with fail
    refine (HI.out _).mono ?_
    rintro e w2 ⟨hb2, p2, k2, d2, rfl, hO2⟩
    obtain ⟨p', d', hv, -⟩ := OwnRow.form hO2
    simp only [Value.slice.injEq] at hv
    obtain ⟨rfl, rfl, rfl⟩ := hv
    have HG0 := Lib.hid hO2
    clear hO2
    have hq2 := hb2.size
    simp at hq2
    have ⟨cb2, fb2⟩ := bcell hb2
    have hz12 := bsz (show w1.heap.size < w2.heap.size by omega)
    go_wp2_with fail
    refine (eqClause_same (m + 1) F _ _ _ (ClsAt.below (by (repeat (first | with_reducible exact Below.refl _ _ | with_reducible assumption | with_reducible refine Below.al ?_ _ | with_reducible refine Below.sc ?_ (by first | exact Nat.le_refl _ | (simp; done) | (simp; omega)) _ | assumption | exact Below.refl _ _ | refine Below.dr ?_ | refine Below.drN ?_ _ | refine Below.step ?_ (by assumption)))) (ClsOwn.at_ HG0.out)) (ClsAt.below (by (repeat (first | with_reducible exact Below.refl _ _ | with_reducible assumption | with_reducible refine Below.al ?_ _ | with_reducible refine Below.sc ?_ (by first | exact Nat.le_refl _ | (simp; done) | (simp; omega)) _ | assumption | exact Below.refl _ _ | refine Below.dr ?_ | refine Below.drN ?_ _ | refine Below.step ?_ (by assumption)))) HW0.out)).mono ?_
    rintro e w3 ⟨rfl, hb3⟩
    have hq3 := hb3.size
    simp at hq3
    have ⟨cb3, fb3⟩ := bcell hb3
    have hz13 := bsz (show w1.heap.size < w3.heap.size by omega)
    have hz23 := bsz (show w2.heap.size < w3.heap.size by omega)
    go_wp2_with fail
    refine (markClause_any m _ F _ 1 _ (HG0.out.later (by (repeat (first | with_reducible exact Below.refl _ _ | with_reducible assumption | with_reducible refine Below.al ?_ _ | with_reducible refine Below.sc ?_ (by first | exact Nat.le_refl _ | (simp; done) | (simp; omega)) _ | assumption | exact Below.refl _ _ | refine Below.dr ?_ | refine Below.drN ?_ _ | refine Below.step ?_ (by assumption))))) (by decide) (by omega)).mono ?_
    rintro e w4 ⟨F', k', rfl, hmk, hlen, hk1, hO4, hkp4⟩
    have hq4 := hkp4.size
    have hk2 : k' ≤ 1000000 := by omega
    have hv4 : ClsOwn 24 69 (m + 1) (NewB (w1.alloc (.cells #[.slice p F.length d] 35)) w2) w4 F' (.slice p2 F.length d2) := hO4
    have nW : ∀ b, b ≤ w1.heap.size → ¬ NewB (w1.alloc (.cells #[.slice p F.length d] 35)) w2 b := fun b hb h => by have := h.1; simp at this; omega
    have B3 : ∀ b, b < w1.heap.size → w4.heap[b]? = w1.heap[b]? := fun b hb => (hkp4.block b (by omega) (nW b (by omega))).trans ((hb3.block b (by simp; omega)).trans ((hao w2 _ _ (by omega)).trans ((hb2.block b (by simp; omega)).trans (hao w1 _ _ hb))))
    have B0 : w4.heap[w1.heap.size]? = some (.cells #[.slice p F.length d] 35 (0, 0)) := (hkp4.block _ (by omega) (nW _ (by omega))).trans ((hb3.block _ (by simp; omega)).trans ((hao w2 _ _ (by omega)).trans ((hb2.block _ (by simp)).trans (heap_alloc_new w1 _))))
    have B1 : w4.heap[w2.heap.size]? = some (.cells #[.slice p2 F.length d2] 35 (0, 0)) := (hkp4.block _ (by omega) (fun h => by have := h.2; omega)).trans ((hb3.block _ (by simp)).trans (heap_alloc_new w2 _))
    have HW4 := Lib.hid (ClsAt.mono (B := NewB w w1) (B' := NewB w w1) (w' := w4) (fun b hb _ => B3 b hb.2) (fun _ h => h) (Nat.le_refl _) HW0.out)
    have HG4 := Lib.hid (ClsOwn.at_ hO4)
    have HT := Lib.hid hmk
    have hb04 : Below w.heap.size w w4 := ⟨hkp4.os.trans (hb3.os.trans (hb2.os.trans hb1.os)), hkp4.tape.trans (hb3.tape.trans (hb2.tape.trans hb1.tape)), hkp4.output.trans (hb3.output.trans (hb2.output.trans hb1.output)), by omega, fun b hb => (B3 b (by omega)).trans (hb1.block b hb)⟩
    have r0 : w4.cell? ⟨w1.heap.size, 0, none⟩ = some (.slice p F.length d) := (cell_of_row _ _ 0 _ _ (0, 0) B0).trans rfl
    have rf : ∀ i, w4.frozen? ⟨w1.heap.size, i, none⟩ = false := fun i => frozen_of_row _ _ i _ _ B0
    have s0 : w4.cell? ⟨w2.heap.size, 0, none⟩ = some (.slice p2 F.length d2) := (cell_of_row _ _ 0 _ _ (0, 0) B1).trans rfl
    have sf : ∀ i, w4.frozen? ⟨w2.heap.size, i, none⟩ = false := fun i => frozen_of_row _ _ i _ _ B1
    have hz14 := bsz (show w1.heap.size < w4.heap.size by omega)
    have hz24 := bsz (show w2.heap.size < w4.heap.size by omega)
    clear hkp4 nW B3 B0 B1 hO4 hv4 hmk hb1 hb2 hb3 cb2 fb2 cb3 fb3 HW0 HG0 hz12 hz13 hz23
    go_wp2_with fail
    refine (heldClause_any m F' _ 1 k' _ (ClsAt.below (by (repeat (first | with_reducible exact Below.refl _ _ | with_reducible assumption | with_reducible refine Below.al ?_ _ | with_reducible refine Below.sc ?_ (by first | exact Nat.le_refl _ | (simp; done) | (simp; omega)) _ | assumption | exact Below.refl _ _ | refine Below.dr ?_ | refine Below.drN ?_ _ | refine Below.step ?_ (by assumption)))) HG4.out) HT.out (by decide) hk2).mono ?_
    rintro e w5 ⟨rfl, hb5⟩
    have ⟨cb5, fb5⟩ := bcell hb5
    have hq5 := hb5.size
    have hz15 := bsz (show w1.heap.size < w5.heap.size by omega)
    have hz25 := bsz (show w2.heap.size < w5.heap.size by omega)
    have hk0 : ¬ (k' : Int) < 0 := by omega
    go_wp2_with fail
    refine (HI.out _).mono ?_
    rintro e w6 ⟨hb6, p3, k3, d3, rfl, hO6⟩
    obtain ⟨p', d', hv, -⟩ := OwnRow.form hO6
    simp only [Value.slice.injEq] at hv
    obtain ⟨rfl, rfl, rfl⟩ := hv
    have HH0 := Lib.hid (ClsOwn.at_ hO6)
    clear hO6
    have hq6 := hb6.size
    have ⟨cb6, fb6⟩ := bcell hb6
    have hz16 := bsz (show w1.heap.size < w6.heap.size by omega)
    have hz26 := bsz (show w2.heap.size < w6.heap.size by omega)
    go_wp2_with fail
    refine (eqClause_same (m + 1) F _ _ _ (ClsAt.below (by (repeat (first | with_reducible exact Below.refl _ _ | with_reducible assumption | with_reducible refine Below.al ?_ _ | with_reducible refine Below.sc ?_ (by first | exact Nat.le_refl _ | (simp; done) | (simp; omega)) _ | assumption | exact Below.refl _ _ | refine Below.dr ?_ | refine Below.drN ?_ _ | refine Below.step ?_ (by assumption)))) HH0.out) (ClsAt.below (by (repeat (first | with_reducible exact Below.refl _ _ | with_reducible assumption | with_reducible refine Below.al ?_ _ | with_reducible refine Below.sc ?_ (by first | exact Nat.le_refl _ | (simp; done) | (simp; omega)) _ | assumption | exact Below.refl _ _ | refine Below.dr ?_ | refine Below.drN ?_ _ | refine Below.step ?_ (by assumption)))) HW4.out)).mono ?_
    rintro e w7 ⟨rfl, hb7⟩
    have ⟨cb7, fb7⟩ := bcell hb7
    have hq7 := hb7.size
    simp at hq7
    have hz17 := bsz (show w1.heap.size < w7.heap.size by omega)
    have hz27 := bsz (show w2.heap.size < w7.heap.size by omega)
    go_wp2_with fail
    refine (heldClause_any m F' _ 1 k' _ (ClsAt.below (by (repeat (first | with_reducible exact Below.refl _ _ | with_reducible assumption | with_reducible refine Below.al ?_ _ | with_reducible refine Below.sc ?_ (by first | exact Nat.le_refl _ | (simp; done) | (simp; omega)) _ | assumption | exact Below.refl _ _ | refine Below.dr ?_ | refine Below.drN ?_ _ | refine Below.step ?_ (by assumption)))) HG4.out) HT.out (by decide) hk2).mono ?_
    rintro e w8 ⟨rfl, hb8⟩
    go_wp2
    go_ret
    exact ⟨rfl, by (repeat (first | with_reducible exact Below.refl _ _ | with_reducible assumption | with_reducible refine Below.al ?_ _ | with_reducible refine Below.sc ?_ (by first | exact Nat.le_refl _ | (simp; done) | (simp; omega)) _ | assumption | exact Below.refl _ _ | refine Below.dr ?_ | refine Below.drN ?_ _ | refine Below.step ?_ (by assumption)))⟩
end Go.Proofs.YtdklemmincejpaaGreat
namespace Go.Proofs.YtdklemmincejpaaGreat
open Go.ChangeShapes Go.WideShapes Go.ChangeAt Go.RowKit Go.Joins
theorem own : ownKnob Tryz.prog.godebug = none := by kernel_rfl
theorem laidOut : laidOutB Tryz.prog = true := by kernel_rfl
theorem trodAll_stays {H : Type} {enc : TypeId × Value → H} {P : Program} (hl : laidOutB P = true) {W W' : World} {sp : Nat → Bool} : ∀ (ts : List TypeId) (vs : List Value) (ds : List (DataW H)) (ps : List MemPlace),
    (∀ t ∈ ts, P.readableRec t = true ∧ t < P.types.size) → DataW.TrodAll enc P W 0 (fun _ => true) true ts vs ds ps → (∀ x ∈ ps, W.sameAt W' x) → (∀ x ∈ ps, sp x.block = true) → DataW.TrodAll enc P W' 0 sp true ts vs ds ps
  | [], vs, ds, ps, _, h, _, _ => by
    cases vs <;> cases ds <;> simp_all [DataW.TrodAll]
  | t :: ts, [], ds, ps, _, h, _, _ => by simp [DataW.TrodAll] at h
  | t :: ts, v :: vs, [], ps, _, h, _, _ => by simp [DataW.TrodAll] at h
  | t :: ts, v :: vs, d :: ds, ps, ht, h, hs, hp => by
    obtain ⟨p, q, h1, h2, rfl⟩ := h
    exact ⟨p, q, WideElems.Trod_stays hl (ht t (by simp)).1 (ht t (by simp)).2 h1 (fun x hx => hs x (by simp [hx])) (fun x hx => hp x (by simp [hx])),
      trodAll_stays hl ts vs ds q (fun t h => ht t (by simp [h])) h2 (fun x hx => hs x (by simp [hx])) (fun x hx => hp x (by simp [hx])), rfl⟩
/-- The row's last step, the same for every law: it answers true, nothing that was there has turned. -/
theorem close_true {H : Type} {enc : TypeId × Value → H} {f : Func} {s : ChangeSpec} {W W' : World} {args : Array Value} {ds gs : List (DataW H)} {before : List MemPlace}
    (hW : DataW.Whole enc Tryz.prog f.params.toList s.vars false W args.toList ds gs before) (hv : s.vars = []) (hr : f.resultTypes = #[4])
    (hp : f.params.toList.all (fun t => Tryz.prog.readableRec t && decide (t < Tryz.prog.types.size)) = true) (hfn : s.fn H ds = { results := [.lit (.bool true)], args := ds }) (hb : Below W.heap.size W W') :
    s.post enc Tryz.prog f false true false false W args (.bool true) W' := by
  have hW2 := hW
  have hlt : ∀ p ∈ before, p.block < W.heap.size := fun p hp => hW.lt p hp
  obtain ⟨p, q, hA, hV, rfl, _, _⟩ := hW2
  rw [hv] at hV
  obtain ⟨rfl, rfl⟩ := trodVars_none hV
  rw [List.append_nil] at hlt
  refine ⟨ds, [], p ++ [], [], p, [], hW, ?_, ?_, ?_, hb.frame _, fun h => by cases h⟩
  · rw [List.append_nil, hfn, hr]; exact trodAll_mk1 (shut_bool Tryz.underlying4 true)
  · rw [List.append_nil, hfn]
    refine trodAll_stays laidOut _ _ _ _ (fun t ht => ?_) hA (fun x hx => hb.same (hlt x hx)) (fun x hx => by simpa using hlt x hx)
    have := List.all_eq_true.1 hp t ht
    simpa using this
  · rw [List.append_nil, hfn, hv]; rfl
end Go.Proofs.YtdklemmincejpaaGreat
namespace Go.Proofs.YtdklemmincejpaaGreat.fnExactEnglishToClauseLaw
open Go.ChangeShapes Go.WideShapes Go.ChangeAt Go.RowKit Go.Joins Go.ChangeMaps
set_option maxRecDepth 100000 in
theorem contract (H : Type) (enc : TypeId × Value → H) (W : World) (base : Nat) (args : Array Value) (ds gs : List (DataW H)) (before : List MemPlace)
    (hval : ∀ (j : Nat) t v, Tryz.f4.params[j]? = some t → args[j]? = some v → Value.okWide Tryz.prog W .any base t v)
    (hW : DataW.Whole enc Tryz.prog Tryz.f4.params.toList Rows.fnExactEnglishToClauseSpec.vars false W args.toList ds gs before) :
    Calls Tryz.prog 4 args W fun e W' => ∃ v, e = .returned v ∧ Rows.fnExactEnglishToClauseSpec.post enc Tryz.prog Tryz.f4 false true false false W args v W' := by
  have hW' := hW
  obtain ⟨p, q, hA0, hV, rfl, hfz, hnd⟩ := hW
  have hA : DataW.TrodAll enc Tryz.prog W 0 (fun _ => true) true Tryz.f4.params.toList args.toList ds p := hA0
  rw [Tryz.params4] at hA hval
  obtain ⟨v0, vs0, d0, ds0, p0, q0, hargs, rfl, rfl, h0, r0⟩ := trodAll_cons hA
  obtain ⟨rfl, rfl, rfl⟩ := trodAll_nil r0
  obtain rfl : args = #[v0] := Array.ext' hargs
  obtain ⟨s0, rfl, rfl, rfl, hs0⟩ := open_string Tryz.underlying9 (hval 0 9 v0 rfl rfl) h0
  clear hA0
  refine (exactETC s0 W hs0).mono fun e W' ⟨he, hb⟩ => ?_
  subst he
  exact ⟨_, rfl, close_true hW' rfl (by kernel_rfl) (by kernel_rfl) rfl hb⟩
set_option maxRecDepth 100000 in
theorem lifted (os : Os) (started : os.Started) (H : Type) (enc : TypeId × Value → H) :
    ReturnsInHanded {} Tryz.checked os 4 .any (Rows.fnExactEnglishToClauseSpec.pre6 enc Tryz.prog Tryz.f4 Rows.fnExactEnglishToClauseRow.domain false) (Rows.fnExactEnglishToClauseSpec.post enc Tryz.prog Tryz.f4 false true false false) := by
  refine returnsInHanded_of_change (C := Tryz.checked) own started (by kernel_rfl) Tryz.func4
    (ChangeSpec.witness6 (enc := enc) (C := Tryz.checked) false ⟨#[], #[.string ⟨#[]⟩], []⟩ 8 (by kernel_rfl) (by kernel_rfl) (by kernel_rfl) (by kernel_rfl)) ?_
  intro W base args ds gs before hval hW _ _
  exact contract H enc W base args ds gs before hval hW
theorem said : Rows.FnExactEnglishToClauseSaid :=
  OpenClaim.holds_of_wide 4 Tryz.f4 rfl rfl rfl rfl rfl rfl rfl ⟨rfl, rfl, rfl, rfl, rfl⟩ rfl rfl rfl rfl rfl (by kernel_rfl) Tryz.func4 (by kernel_rfl)
    (of_decide_eq_true (by kernel_rfl)) (by unfold Func.isWrapper; first | (rw [if_pos (by decide +kernel)]; kernel_rfl) | (rw [if_neg (by decide +kernel)]; exact ⟨rfl, rfl⟩))
    (fun os started H enc _ => lifted os started H enc)
end Go.Proofs.YtdklemmincejpaaGreat.fnExactEnglishToClauseLaw
