import Derived.Laws.Cover1
import Derived.Test.YtkgfanajgdelcaaGreatDoorUnPart15
import Derived.Test.YtkgfanajgdelcaaGreatDoorUnPart18
import Derived.Test.YtkgfanajgdelcaaGreatDoorUnPart19
namespace Go.Proofs.YtkgfanajgdelcaaGreatDoor
set_option maxRecDepth 100000
open Go.RowKit
theorem nodes_fmtlen : ∀ (n : Nat) (t : Tm), t.sz ≤ n → t.nodes = true → t.fmt.length ≤ 5 * t.wt + 4 := by
  intro n
  induction n with
  | zero => intro t h; obtain ⟨m, us⟩ := t; rw [Tm.sz] at h; omega
  | succ n ih =>
    intro t hz hn
    obtain ⟨m, us⟩ := t
    have h1 := Tm.nodes_mk hn
    rw [Tm.fmt_mk (word_not61 h1.1)]
    have key : ∀ us : List Tm, Tm.szs us ≤ n → Tm.nodess us = true → (joinB [44] (Tm.fmtL us)).length ≤ 5 * Tm.wts us + 5 * us.length := by
      intro us
      induction us with
      | nil => intro _ _; simp [Tm.fmtL, joinB]
      | cons a us ihu =>
        intro hz hn
        rw [Tm.szs] at hz
        have hn2 : a.nodes = true ∧ Tm.nodess us = true := by simpa [Tm.nodess] using hn
        have ha := ih a (by omega) hn2.1
        have hu := ihu (by omega) hn2.2
        cases us with
        | nil => simp only [Tm.fmtL, joinB, Tm.wts, List.length_cons, List.length_nil]; omega
        | cons b us => simp only [Tm.fmtL, joinB, List.length_append, Tm.wts, List.length_cons, List.length_nil] at hu ⊢; omega
    rw [Tm.sz] at hz
    have hk := key us (by omega) h1.2
    rw [Tm.wt, size_list]
    cases us with
    | nil => simp; omega
    | cons a us => simp only [List.isEmpty_cons, Bool.false_eq_true, if_false, List.length_append, List.length_cons, List.length_nil] at hk ⊢; omega
theorem atom_fmtlen {t : Tm} (h : t.atom = true) : t.fmt.length ≤ 5 * t.wt + 8 := by
  cases atom_cases h with
  | eq a b ha hb =>
    have h1 := nodes_fmtlen _ a (Nat.le_refl _) ha
    have h2 := nodes_fmtlen _ b (Nat.le_refl _) hb
    rw [fmt_eq]
    simp only [List.length_append, eqTm, Tm.wt, Tm.wts, List.length_cons, List.length_nil, show sEq8.length = 3 from rfl]; omega
  | pred n us hs hu hd => have := nodes_fmtlen _ _ (Nat.le_refl _) hd; omega
theorem form_txtlen : ∀ (n : Nat) (F : Fm), F.sz ≤ n → F.form = true → F.txt.length ≤ 16 * F.wt + 16 := by
  intro n
  induction n with
  | zero => intro F h; obtain ⟨op, a, v, ps⟩ := F; rw [Fm.sz] at h; omega
  | succ n ih =>
    intro F hz hf
    cases form_cases hf with
    | tru => have e : (opF 1 []).txt = sTrue8 := by rw [opF, Fm.txt]; rfl
             rw [e, show sTrue8.length = 4 from rfl]; omega
    | fal => have e : (opF 2 []).txt = sFalse8 := by rw [opF, Fm.txt]; rfl
             rw [e, show sFalse8.length = 5 from rfl]; omega
    | atm a ha =>
      have h1 := atom_fmtlen ha
      rw [txt_atm]
      simp only [atomOfF, Fm.wt, Fm.wts, List.length_nil, nil_size]; omega
    | neg g hg =>
      have e : (opF 4 [g]).sz = 1 + (g.sz + 0) := by rw [opF, Fm.sz, Fm.szs, Fm.szs]
      have h1 := ih g (by omega) hg
      rw [txt_neg]
      split <;> (simp only [opF, Fm.wt, Fm.wts, tm0_wt, nil_size, List.length_append, List.length_cons, List.length_nil]; omega)
    | bin op g h ho hg hh =>
      have e : (opF op [g, h]).sz = 1 + (g.sz + (h.sz + 0)) := by rw [opF, Fm.sz, Fm.szs, Fm.szs, Fm.szs]
      have h1 := ih g (by omega) hg
      have h2 := ih h (by omega) hh
      have h3 := sign8_len op
      rw [txt_bin ho]
      simp only [opF, Fm.wt, Fm.wts, tm0_wt, nil_size, List.length_append, List.length_cons, List.length_nil]; omega
    | qua op v g ho hv hg =>
      have e : (quantF op v g).sz = 1 + (g.sz + 0) := by rw [quantF, Fm.sz, Fm.szs, Fm.szs]
      have h1 := ih g (by omega) hg
      have h3 : (if op = 8 then sAll8 else sSome8).length ≤ 5 := by split <;> decide
      rw [txt_qua ho]
      simp only [quantF, Fm.wt, Fm.wts, tm0_wt, size_toBytes, List.length_append, List.length_cons, List.length_nil]; omega
set_option maxHeartbeats 3200000 in
theorem implPF_any (s : ByteArray) (hz : s.size ≤ 1000000000000) (w : World) : Calls Tryz.prog 139 #[.string s] w (EtfPost (3 * s.size + 11) (pfOk s) (fRead s.data.toList).1 w) := by
  by_cases hs : 4000 < s.size
  · have HNO := Lib.hid (show pfOk s = false by rw [pfOk, decide_eq_false (by omega), Bool.false_and])
    go_enter Tryz.func139, Tryz.ntmps139
    go_wp2
    refine bodyPost_ret (v := .tuple #[.agg #[.int .i64 0, .string ⟨#[]⟩, .slice none 0 0, .string ⟨#[]⟩, .slice none 0 0], .bool false]) (by simp only [results, Tryz.results139]; go_simp) rfl (EtfPost.no HNO.out (by exact bel))
  · have hs : s.size ≤ 4000 := by omega
    have hwt := pFrm_wt s.data.toList (2 * s.size + 5) ⟨0, false⟩ (Nat.zero_le _)
    have hpr : pFrm s.data.toList (2 * s.size + 5) ⟨0, false⟩ = fRead s.data.toList := by rw [fRead, ← size_list]
    have hok : pfOk s = (!(fRead s.data.toList).2.bad && (fRead s.data.toList).2.pos == s.size && (fRead s.data.toList).1.good && (fRead s.data.toList).1.txt == s.data.toList) := by rw [pfOk, decide_eq_true hs, Bool.true_and, fOkL, ← size_list]
    rw [hpr, ← size_list] at hwt
    have HPR := Lib.hid hpr
    clear hpr
    generalize fRead s.data.toList = r at *
    obtain ⟨F, p1⟩ := r
    simp only at hwt hok
    have HOK := Lib.hid hok
    clear hok
    go_enter Tryz.func139, Tryz.ntmps139
    go_wp2_with fail
    refine ((frm_any (2 * s.size + 5)).1 (w.heap.size + 1) s ⟨0, false⟩ _ ?_ (Nat.zero_le _) (by omega) (by simp)).mono ?_
    · have h0 := heap_alloc_new (w.alloc (.cells #[.int .i64 0, .string ⟨#[]⟩, .slice none 0 0, .string ⟨#[]⟩, .slice none 0 0] 44)) (.cells #[.string s, .int .i64 0, .bool false] 190)
      rw [show (w.alloc (.cells #[.int .i64 0, .string ⟨#[]⟩, .slice none 0 0, .string ⟨#[]⟩, .slice none 0 0] 44)).heap.size = w.heap.size + 1 by simp] at h0
      exact h0
    rw [HPR.out]
    simp only
    rintro e w1 ⟨x, rfl, hx⟩
    have HX := Lib.hid hx
    obtain ⟨z1, e1, z2, e2, rfl⟩ := hx.form
    clear hx
    have hz1 := HX.out.2.2.size
    simp at hz1
    have G1 := HX.out.2.2
    have HR := (G1.block w.heap.size (by simp; omega) (by simp)).trans ((hao (w.alloc _) _ _ (by simp)).trans (heap_alloc_new w _))
    have BW := Lib.hid (show True → Below w.heap.size w w1 from fun _ => ⟨G1.os, G1.tape, G1.output, by have := G1.size; simp at this; omega, fun b hb => (G1.block b (by simp; omega) (by simp; omega)).trans ((hao (w.alloc _) _ _ (by simp; omega)).trans (hao w _ _ hb))⟩)
    obtain ⟨r0, r1, r2, r3, r4, rf⟩ := cells5_cell HR
    have hr1 := bsz (heap_lt HR)
    have hr2 := bsz (show w.heap.size + 1 < w1.heap.size by omega)
    have HP := Lib.hid HX.out.2.1
    clear HR G1
    go_wp2_with fail
    refine (ended_any (w.heap.size + 1) s p1 _ (HP.out.below (by exact bel))).mono ?_
    rintro e w2 ⟨rfl, hbe⟩
    have ⟨cbe, fbe⟩ := bcell hbe
    have hqe := hbe.size
    simp at hqe
    have he1 := bsz (show w.heap.size < w2.heap.size by omega)
    have he2 := bsz (show w1.heap.size < w2.heap.size by omega)
    cases hE : (!p1.bad && p1.pos == s.size)
    · have HE := Lib.hid (show pfOk s = false by rw [HOK.out, hE]; rfl)
      have hb3 := BW.out trivial
      go_wp2
      refine bodyPost_ret (v := .tuple #[.agg #[.int .i64 0, .string ⟨#[]⟩, .slice none 0 0, .string ⟨#[]⟩, .slice none 0 0], .bool false]) (by simp only [results, Tryz.results139]; go_simp) rfl (EtfPost.no HE.out (by exact bel))
    have HE := Lib.hid hE
    clear hE
    obtain ⟨v0, v1, v2, v3, v4, hx5, hO⟩ := HX.out.1
    simp only [Value.agg.injEq, Array.mk.injEq, List.cons.injEq, and_true] at hx5
    obtain ⟨rfl, rfl, rfl, rfl, rfl⟩ := hx5
    have HO := Lib.hid hO
    have HAT := Lib.hid (FmOwn.at_ _ _ _ hO)
    clear hO
    have hwt' : F.wt ≤ s.size := by omega
    have hsz := F.sz_wt
    have hasz := F.asz_wt
    go_wp2_with fail
    refine (isValidFormula_any _ F _ _ _ _ _ _ (FmAt.below (by exact bel) HAT.out) (by omega) (by omega)).mono ?_
    rintro e w3 ⟨rfl, hbv⟩
    have ⟨cv, fv⟩ := bcell hbv
    have hqv := hbv.size
    (try simp at hqv)
    have hv1 := bsz (show w.heap.size < w3.heap.size by omega)
    have hv2 := bsz (show w1.heap.size < w3.heap.size by omega)
    cases hG : F.good
    · have HG := Lib.hid (show pfOk s = false by rw [HOK.out, hG]; simp)
      go_wp2
      refine bodyPost_ret (v := .tuple #[.agg #[.int .i64 0, .string ⟨#[]⟩, .slice none 0 0, .string ⟨#[]⟩, .slice none 0 0], .bool false]) (by simp only [results, Tryz.results139]; go_simp) rfl (EtfPost.no HG.out (by have hb3 := BW.out trivial; exact bel))
    · have HG := Lib.hid hG
      have hform : F.form = true := by rw [Fm.good, Bool.and_eq_true] at hG; exact hG.2
      have hel := form_txtlen F.sz F (Nat.le_refl _) hform
      clear hG
      go_wp2_with fail
      refine (TxtAt.call (formatFormula_any _) F _ _ _ _ _ _ (FmAt.below (by exact bel) HAT.out) hform (by omega)).mono ?_
      rintro e w4 ⟨rfl, hbf⟩
      have ⟨ce, fe⟩ := bcell hbf
      have hqf := hbf.size
      have hw1 := bsz (show w.heap.size < w4.heap.size by omega)
      have hw2 := bsz (show w1.heap.size < w4.heap.size by omega)
      by_cases hq : (⟨F.txt.toArray⟩ : ByteArray) = s
      · have HQ := Lib.hid (show pfOk s = true by rw [HOK.out, HE.out, HG.out]; simp [← hq])
        have hq2 : (F.txt == s.toList) = true := by rw [ByteArray.toList_eq, ← hq]; simp
        go_wp2
        refine bodyPost_ret (v := .tuple #[.agg #[.int .i64 F.op, .string F.a.n, .slice z1 F.a.us.length e1, .string F.v, .slice z2 F.ps.length e2], .bool true]) (by simp only [results, Tryz.results139]; go_simp) rfl ?_
        rw [HQ.out]
        refine ⟨by have hb3 := BW.out trivial; exact bel, _, rfl, _, _, _, _, _, rfl, ?_⟩
        have hb3 : Below w1.heap.size w1 w4 := by exact bel
        exact FmOwn.mono _ _ _ _ (by omega) (fun b hb hlt => by
          have h0 : w.heap.size + 1 + 1 ≤ b := by simpa [NewB] using hb.1
          repeat rw [heap_setCell_other _ _ _ _ (by simp; omega)]
          exact hb3.block b hlt) (fun b hb => by
          have h0 : w.heap.size + 1 + 1 ≤ b := by simpa [NewB] using hb.1
          have h1 := hb.2
          exact ⟨by omega, by simp; omega⟩) HO.out
      · have HQ := Lib.hid (show pfOk s = false by
          rw [HOK.out, HE.out, HG.out, Bool.true_and, Bool.true_and, beq_eq_false_iff_ne]
          exact fun e => hq (by rw [e]))
        have hq2 : (F.txt == s.toList) = false := by
          rw [ByteArray.toList_eq, beq_eq_false_iff_ne]
          exact fun e => hq (by rw [e])
        go_wp2
        refine bodyPost_ret (v := .tuple #[.agg #[.int .i64 0, .string ⟨#[]⟩, .slice none 0 0, .string ⟨#[]⟩, .slice none 0 0], .bool false]) (by simp only [results, Tryz.results139]; go_simp) rfl (EtfPost.no HQ.out (by have hb3 := BW.out trivial; exact bel))
set_option maxHeartbeats 3200000 in
theorem specPF_any (s : ByteArray) (hz : s.size ≤ 1000000000000) (w : World) : Calls Tryz.prog 166 #[.string s] w (EtfPost (3 * s.size + 11) (pfOk s) (fRead s.data.toList).1 w) := by
  by_cases hs : 4000 < s.size
  · have HNO := Lib.hid (show pfOk s = false by rw [pfOk, decide_eq_false (by omega), Bool.false_and])
    go_enter Tryz.func166, Tryz.ntmps166
    go_wp2
    refine bodyPost_ret (v := .tuple #[.agg #[.int .i64 0, .string ⟨#[]⟩, .slice none 0 0, .string ⟨#[]⟩, .slice none 0 0], .bool false]) (by simp only [results, Tryz.results166]; go_simp) rfl (EtfPost.no HNO.out (by exact bel))
  · have hs : s.size ≤ 4000 := by omega
    have hpr : rFrm s.data.toList (2 * s.size + 5) 0 = gRead s.data.toList := by rw [gRead, ← size_list]
    have hok : pfOk s = gOkL s.data.toList := by rw [pfOk, decide_eq_true hs, Bool.true_and, gOkL_eq]
    have HPR := Lib.hid hpr
    have HEQ := Lib.hid (fun h : pfOk s = true => gRead_eq (L := s.data.toList) (by rw [pfOk, Bool.and_eq_true] at h; exact h.2))
    have HB0 := Lib.hid (BSt.start w)
    have hgo : gOkL s.data.toList = match gRead s.data.toList with | none => false | some (F, j) => j == s.data.toList.length && F.good && F.txt == s.data.toList := rfl
    have HGO := Lib.hid (hok.trans hgo)
    clear hok hgo
    go_enter Tryz.func166, Tryz.ntmps166
    go_wp2_with fail
    refine ((l8Read_any (2 * s.size + 5)).1 s 0 _ (Nat.zero_le _) (by omega) (by omega)).mono ?_
    rintro e w1 ⟨x, rfl, hb1, op1, n1, v1, p1, q1, k1, c1, k2, d1, z1, rfl, hgot⟩
    have HB1 := Lib.hid (HB0.out.later hb1)
    have hq1 := hb1.size
    (try simp at hq1)
    rw [hpr] at hgot
    clear hpr HB0 hb1
    obtain ⟨r0, r1, r2, r3, r4, rf⟩ := cells5_cell HB1.out.res
    have hrb := bsz (heap_lt HB1.out.res)
    have hbel := HB1.out.bel
    cases hr : gRead s.data.toList with
    | none =>
      rw [hr] at hgot
      simp only at hgot
      subst hgot
      have HNO := Lib.hid (show pfOk s = false by rw [HGO.out, hr])
      have hne : ((-1 : Int) == (s.size : Int)) = false := by rw [beq_eq_false_iff_ne]; omega
      have hne' : ((-1 : Int) != (s.size : Int)) = true := by rw [bne, hne]; rfl
      go_wp2
      refine bodyPost_ret (v := .tuple #[.agg #[.int .i64 0, .string ⟨#[]⟩, .slice none 0 0, .string ⟨#[]⟩, .slice none 0 0], .bool false]) (by simp only [results, Tryz.results166]; go_simp) rfl (EtfPost.no HNO.out (by exact bel))
    | some r =>
      obtain ⟨F, j⟩ := r
      have hwt := rFrm_wt s.data.toList (2 * s.size + 5) 0 F j (Nat.zero_le _) (HPR.out.trans hr)
      rw [← size_list] at hwt
      rw [hr] at hgot HGO
      simp only at hgot HGO
      rw [← size_list] at HGO
      obtain ⟨rfl, hO⟩ := hgot
      have HO := Lib.hid hO
      have HAT := Lib.hid (FmOwn.at_ _ _ _ hO)
      obtain ⟨p', c', q', d', e1, e2, e3, e4, e5, -⟩ := hO.form
      simp only [Value.int.injEq, Value.string.injEq, Value.slice.injEq, true_and] at e1 e2 e3 e4 e5
      obtain rfl := e1
      obtain rfl := e2
      obtain rfl := e4
      obtain ⟨rfl, rfl, rfl⟩ := e3
      obtain ⟨rfl, rfl, rfl⟩ := e5
      clear hO
      cases hE : (j == s.size)
      · have HNO := Lib.hid (show pfOk s = false by rw [HGO.out, hE]; rfl)
        have hne : ((j : Int) == (s.size : Int)) = false := by rw [beq_eq_false_iff_ne] at hE ⊢; omega
        have hne' : ((j : Int) != (s.size : Int)) = true := by rw [bne, hne]; rfl
        go_wp2
        refine bodyPost_ret (v := .tuple #[.agg #[.int .i64 0, .string ⟨#[]⟩, .slice none 0 0, .string ⟨#[]⟩, .slice none 0 0], .bool false]) (by simp only [results, Tryz.results166]; go_simp) rfl (EtfPost.no HNO.out (by exact bel))
      · have HE := Lib.hid hE
        have hne : ((j : Int) == (s.size : Int)) = true := by rw [beq_iff_eq] at hE ⊢; omega
        have hne' : ((j : Int) != (s.size : Int)) = false := by rw [bne, hne]; rfl
        have hwt' : F.wt ≤ s.size := by omega
        have hsz := F.sz_wt
        have hasz := F.asz_wt
        clear hE
        go_wp2_with fail
        refine (l8Good_any _ F _ _ _ _ _ _ (FmAt.below (by exact bel) HAT.out) (by omega) (by omega)).mono ?_
        rintro e w3 ⟨rfl, hbv⟩
        have ⟨cv, fv⟩ := bcell hbv
        have hqv := hbv.size
        (try simp at hqv)
        have hv1 := bsz (show w.heap.size < w3.heap.size by omega)
        have hv2 := bsz (show w1.heap.size < w3.heap.size by omega)
        cases hG : F.good
        · have HNO := Lib.hid (show pfOk s = false by rw [HGO.out, hG]; simp)
          go_wp2
          refine bodyPost_ret (v := .tuple #[.agg #[.int .i64 0, .string ⟨#[]⟩, .slice none 0 0, .string ⟨#[]⟩, .slice none 0 0], .bool false]) (by simp only [results, Tryz.results166]; go_simp) rfl (EtfPost.no HNO.out (by exact bel))
        · have HG := Lib.hid hG
          have hform : F.form = true := by rw [Fm.good, Bool.and_eq_true] at hG; exact hG.2
          have hel := form_txtlen F.sz F (Nat.le_refl _) hform
          clear hG
          go_wp2_with fail
          refine (TxtAt.call (l8Text_any _) F _ _ _ _ _ _ (FmAt.below (by exact bel) HAT.out) hform (by omega)).mono ?_
          rintro e w4 ⟨rfl, hbf⟩
          have ⟨ce, fe⟩ := bcell hbf
          have hqf := hbf.size
          have hw1 := bsz (show w.heap.size < w4.heap.size by omega)
          have hw2 := bsz (show w1.heap.size < w4.heap.size by omega)
          by_cases hq : (⟨F.txt.toArray⟩ : ByteArray) = s
          · have hpk : pfOk s = true := by rw [HGO.out, HE.out, HG.out]; simp [← hq]
            have HQ := Lib.hid (show pfOk s = true ∧ F = (fRead s.data.toList).1 from ⟨hpk, by
              have := HEQ.out hpk
              rw [hr] at this
              simp only [Option.some.injEq, Prod.mk.injEq] at this
              exact this.1⟩)
            have hq2 : (F.txt == s.toList) = true := by rw [ByteArray.toList_eq, ← hq]; simp
            clear hpk
            go_wp2
            refine bodyPost_ret (v := .tuple #[.agg #[.int .i64 F.op, .string F.a.n, .slice p1 F.a.us.length c1, .string F.v, .slice q1 F.ps.length d1], .bool true]) (by simp only [results, Tryz.results166]; go_simp) rfl ?_
            rw [HQ.out.1, ← HQ.out.2]
            refine ⟨by exact bel, _, rfl, _, _, _, _, _, rfl, ?_⟩
            have hb3 : Below w1.heap.size w1 w4 := by exact bel
            exact FmOwn.mono _ _ _ _ (by omega) (fun b hb hlt => by
              have h0 : w.heap.size + 1 ≤ b := by simpa [NewB] using hb.1
              repeat rw [heap_setCell_other _ _ _ _ (by simp; omega)]
              exact hb3.block b hlt) (fun b hb => by
              have h0 : w.heap.size + 1 ≤ b := by simpa [NewB] using hb.1
              have h1 := hb.2
              exact ⟨by omega, by simp; omega⟩) HO.out
          · have HNO := Lib.hid (show pfOk s = false by
              rw [HGO.out, HE.out, HG.out, Bool.true_and, Bool.true_and, beq_eq_false_iff_ne]
              exact fun e => hq (by rw [e]))
            have hq2 : (F.txt == s.toList) = false := by
              rw [ByteArray.toList_eq, beq_eq_false_iff_ne]
              exact fun e => hq (by rw [e])
            go_wp2
            refine bodyPost_ret (v := .tuple #[.agg #[.int .i64 0, .string ⟨#[]⟩, .slice none 0 0, .string ⟨#[]⟩, .slice none 0 0], .bool false]) (by simp only [results, Tryz.results166]; go_simp) rfl (EtfPost.no HNO.out (by exact bel))
def unitTxt (s : ByteArray) : Bool := pfOk s && decide (s.size ≤ 100)
def lessB (a b : ByteArray) : Bool := Op.bytesLess a.data.toList b.data.toList
def ascS : Option ByteArray → ByteArray → Bool | none, _ => true | some q, a => lessB q a
def namesF : Option ByteArray → List ByteArray → Bool
  | _, [] => true
  | p, a :: us => symB a.data.toList && ascS p a && namesF (some a) us
def prevS (c : List ByteArray) : Nat → Option ByteArray | 0 => none | k + 1 => c[k]?
theorem namesF_drop {c : List ByteArray} {k : Nat} (h : k < c.length) : namesF (prevS c k) (c.drop k) = (symB c[k].data.toList && ascS (prevS c k) c[k] && namesF (prevS c (k + 1)) (c.drop (k + 1))) := by
  rw [List.drop_eq_getElem_cons h, namesF, show prevS c (k + 1) = some c[k] from List.getElem?_eq_getElem h]
theorem prevS_pos {c : List ByteArray} {k : Nat} (h : k < c.length) (hk : 0 < k) : prevS c k = some (c[k - 1]'(by omega)) := by
  cases k with
  | zero => omega
  | succ k => exact List.getElem?_eq_getElem (by omega)
def Un.good (u : Un) : Bool := symB u.name.data.toList && decide (u.incs.length ≤ 12) && namesF none u.incs && decide (u.axs.length ≤ 6) && u.axs.all unitTxt && (u.goal.data.toList == [] || unitTxt u.goal)
theorem less_total : ∀ x y : List UInt8, Op.bytesLess x y = !(Op.bytesLess y x || y == x)
  | [], [] => rfl
  | [], b :: y => by simp [Op.bytesLess]
  | a :: x, [] => by simp [Op.bytesLess]
  | a :: x, b :: y => by
    have ih := less_total x y
    simp only [Op.bytesLess]
    by_cases h1 : a < b
    · have h2 : ¬ b < a := fun h => by have := UInt8.lt_trans h1 h; exact absurd this (UInt8.lt_irrefl _)
      have h3 : ¬ b = a := fun h => by subst h; exact UInt8.lt_irrefl _ h1
      simp [h1, h2, h3]
    · by_cases h2 : b < a
      · have h3 : ¬ a = b := fun h => by subst h; exact UInt8.lt_irrefl _ h2
        simp [h1, h2, h3]
      · have h3 : a = b := UInt8.le_antisymm (UInt8.not_lt.1 h2) (UInt8.not_lt.1 h1)
        subst h3
        simp [UInt8.lt_irrefl, ih]
theorem EtfPost.form {n : Nat} {ok : Bool} {F : Fm} {w w' : World} {e : Ending} (h : EtfPost n ok F w e w') : ∃ op m p k c v q k2 d, e = .returned (.tuple #[.agg #[.int .i64 op, .string m, .slice p k c, .string v, .slice q k2 d], .bool ok]) ∧ Below w.heap.size w w' := by
  obtain ⟨hb, h⟩ := h
  cases ok with
  | true =>
    obtain ⟨x, rfl, v0, v1, v2, v3, v4, rfl, hO⟩ := (show ∃ x, _ ∧ _ from h)
    obtain ⟨p, c, q, d, rfl, rfl, rfl, rfl, rfl, -⟩ := hO.form
    exact ⟨_, _, _, _, _, _, _, _, _, rfl, hb⟩
  | false =>
    have he : e = _ := h
    exact ⟨_, _, _, _, _, _, _, _, _, he, hb⟩
set_option maxHeartbeats 1600000 in
theorem isUnitText_any (s : ByteArray) (w : World) (hs : s.size ≤ 1000000000000) : Calls Tryz.prog 88 #[.string s] w fun e w' => e = .returned (.bool (unitTxt s)) ∧ Below w.heap.size w w' := by
  have HU := Lib.hid (show unitTxt s = (pfOk s && decide (s.size ≤ 100)) from rfl)
  go_enter Tryz.func88, Tryz.ntmps88
  go_wp2_with fail
  refine (implPF_any s hs _).mono ?_
  rintro e w1 hp
  obtain ⟨op, m, p, k, c, v, q, k2, d, rfl, hb1⟩ := hp.form
  clear hp
  cases hk : pfOk s <;> by_cases h1 : s.size ≤ 100
  all_goals
    have h2 := HU.out
    rw [hk] at h2
    have HU2 := Lib.hid h2
    clear h2
    have h1i : ((s.size : Int) ≤ 100) = (s.size ≤ 100) := by apply propext; omega
    go_wp2
    go_ret
    exact ⟨ret_bool (by rw [HU2.out]; simp [h1]), by exact bel⟩
set_option maxHeartbeats 1600000 in
theorem areNames_any {B : Nat → Prop} (us : List ByteArray) (v : Value) (w : World) (h : StrsAt B w v us) : Calls Tryz.prog 86 #[v] w fun e w' => e = .returned (.bool (namesF none us)) ∧ Below w.heap.size w w' := by
  obtain ⟨p, c, rfl, hlen⟩ := h.form
  unfold maxLen at hlen
  have H := Lib.hid h
  clear h
  go_enter Tryz.func86, Tryz.ntmps86
  go_wp2
  go_loopw [7] (fun i wr => ∃ k : Nat, k ≤ us.length ∧ i = .int .i64 k ∧ namesF none us = namesF (prevS us k) (us.drop k) ∧ Below w.heap.size w wr) (fun i _ => us.length - (intOf i).toNat)
  case atStart => exact ⟨0, Nat.zero_le _, rfl, rfl, by exact bel⟩
  case round =>
    obtain ⟨k, hk, rfl, he, hb⟩ := hrel
    have HE := Lib.hid he
    clear he
    by_cases hlt : k < us.length
    · obtain ⟨b, o, rfl, hB, hx0, hxs⟩ := (H.out.below hb).at_ hlt
      have HD := Lib.hid (namesF_drop hlt)
      by_cases hk0 : k = 0
      · have HP := Lib.hid (show prevS us k = none by rw [hk0]; rfl)
        obtain ⟨a, ha⟩ : ∃ a, us[k] = a := ⟨_, rfl⟩
        rw [ha] at hx0 hxs HD
        clear ha
        have hk1 : ¬ ((k : Int) > 0) := by omega
        have hk2 : ¬ ((0 : Int) < (k : Int)) := by omega
        have zb := bsz (World.block_lt_of_cell? _ _ hx0)
        clear hk0
        cases hy : symB a.data.toList
        all_goals
          have HY := Lib.hid hy
          clear hy
          go_wp2_with fail
          refine (isSymbol_any a _ hxs).mono ?_
          rintro e w1 ⟨rfl, hb1⟩
          have ⟨cw1, fw1⟩ := bcell hb1
          have qw1 := hb1.size
          (try simp at qw1)
          (try have zw1w := bsz (show w.heap.size < w1.heap.size by omega))
          rw [HY.out]
          go_wp2
        · go_ret
          exact ⟨ret_bool (by rw [HE.out, HD.out, HY.out]; rfl), by exact bel⟩
        · refine ⟨⟨k + 1, by omega, by go_num, ?_, by exact bel⟩, by simp [intOf]; omega⟩
          rw [HE.out, HD.out, HY.out, HP.out]; rfl
      · have hk1 : k - 1 < us.length := by omega
        obtain ⟨b', o', hq, hB', hy0, hys⟩ := (H.out.below hb).at_ hk1
        simp only [Option.some.injEq, Addr.mk.injEq, and_true] at hq
        obtain ⟨rfl, rfl⟩ := hq
        have HP := Lib.hid (prevS_pos hlt (by omega))
        obtain ⟨a, ha⟩ : ∃ a, us[k] = a := ⟨_, rfl⟩
        obtain ⟨q, hqe⟩ : ∃ q, us[k - 1] = q := ⟨_, rfl⟩
        rw [ha] at hx0 hxs HD
        rw [hqe] at hy0 HP
        clear ha hqe hys
        have hki : IntKind.i64.wrap ((k : Int) - 1) = ((k - 1 : Nat) : Int) := by rw [IntWalk.i64_in _ (by omega)]; omega
        have hkp : (0 : Int) < (k : Int) := by omega
        have zb := bsz (World.block_lt_of_cell? _ _ hx0)
        have HT := Lib.hid (less_total q.data.toList a.data.toList)
        cases hy : symB a.data.toList <;> cases hA : Op.bytesLess a.toList q.toList <;> cases hB : (a.toList == q.toList)
        all_goals
          have HY := Lib.hid hy
          have HLS := Lib.hid (show lessB q a = _ from HT.out.trans (by rw [← ByteArray.toList_eq, ← ByteArray.toList_eq, hA, hB]))
          clear hy
          go_wp2_with fail
          refine (isSymbol_any a _ hxs).mono ?_
          rintro e w1 ⟨rfl, hb1⟩
          have ⟨cw1, fw1⟩ := bcell hb1
          have qw1 := hb1.size
          (try simp at qw1)
          (try have zw1w := bsz (show w.heap.size < w1.heap.size by omega))
          rw [HY.out]
          go_wp2
        all_goals first
          | (refine ⟨⟨k + 1, by omega, by go_num, ?_, by exact bel⟩, by simp [intOf]; omega⟩; rw [HE.out, HD.out, HY.out, HP.out, ascS, HLS.out]; rfl)
          | (go_ret; exact ⟨ret_bool (by rw [HE.out, HD.out, HY.out, HP.out, ascS, HLS.out]; rfl), by exact bel⟩)
    · obtain rfl : k = us.length := by omega
      have he := HE.out
      rw [List.drop_length] at he
      have HE2 := Lib.hid he
      clear he
      go_wp2
      go_ret
      exact ⟨ret_bool (by rw [HE2.out]; rfl), by exact bel⟩
theorem Un.goal_le (u : Un) : u.goal.size ≤ u.wt := by unfold Un.wt; omega
theorem Un.axs_le (u : Un) : ∀ s ∈ u.axs, s.size ≤ u.wt := fun s hs => by have := wtS_le u.axs s hs; unfold Un.wt; omega
theorem all_not_any (us : List ByteArray) : us.all unitTxt = !(us.any fun s => !unitTxt s) := by
  induction us with
  | nil => rfl
  | cons a us ih => rw [List.all_cons, List.any_cons, ih]; cases unitTxt a <;> rfl
set_option maxHeartbeats 1600000 in
theorem notUnitText_any (s : ByteArray) (w : World) (hs : s.size ≤ 1000000000000) : Calls Tryz.prog 87 #[.string s] w fun e w' => e = .returned (.bool (!unitTxt s)) ∧ Below w.heap.size w w' := by
  go_enter Tryz.func87, Tryz.ntmps87
  go_wp2_with fail
  refine (isUnitText_any s _ hs).mono ?_
  rintro e w1 ⟨rfl, hb1⟩
  have ⟨cw1, fw1⟩ := bcell hb1
  have qw1 := hb1.size
  (try simp at qw1)
  (try have zw1w := bsz (show w.heap.size < w1.heap.size by omega))
  go_wp2
  go_ret
  exact ⟨rfl, by exact bel⟩
set_option maxHeartbeats 1600000 in
theorem indexTxt {B : Nat → Prop} (us : List ByteArray) (hz : ∀ s ∈ us, s.size ≤ 1000000000000) (va : Value) (w : World) (h : StrsAt B w va us) :
    Calls Tryz.prog 138 #[va, .func (.func 87) #[] #[]] w (FirstAt (us.any fun s => !unitTxt s) w) := by
  obtain ⟨p, c, rfl, hlen⟩ := h.form
  unfold maxLen at hlen
  have H := Lib.hid h
  have HZ := Lib.hid hz
  clear h hz
  go_enter Tryz.func138, Tryz.ntmps138
  go_wp2
  go_loopw [8] (fun i wr => ∃ k : Nat, k ≤ us.length ∧ i = .int .i64 k ∧ (us.any fun s => !unitTxt s) = ((us.drop k).any fun s => !unitTxt s) ∧ Below w.heap.size w wr) (fun i _ => us.length - (intOf i).toNat)
  case atStart => exact ⟨0, Nat.zero_le _, rfl, rfl, by exact bel⟩
  case round =>
    obtain ⟨k, hk, rfl, he, hb⟩ := hrel
    have HE := Lib.hid he
    clear he
    by_cases hlt : k < us.length
    · obtain ⟨b, o, rfl, hB, hx0, hxs⟩ := (H.out.below hb).at_ hlt
      have HD := Lib.hid (any_drop us (fun s => !unitTxt s) hlt)
      have hza := HZ.out _ (List.getElem_mem hlt)
      obtain ⟨a, ha⟩ : ∃ a, us[k] = a := ⟨_, rfl⟩
      rw [ha] at hx0 hxs HD hza
      clear ha
      have zb := bsz (World.block_lt_of_cell? _ _ hx0)
      cases hN : unitTxt a
      all_goals
        have HN := Lib.hid hN
        go_wp2_with fail
        refine (notUnitText_any a _ hza).mono ?_
        rintro e w1 ⟨rfl, hb1⟩
        have ⟨cw1, fw1⟩ := bcell hb1
        have qw1 := hb1.size
        (try simp at qw1)
        (try have zw1w := bsz (show w.heap.size < w1.heap.size by omega))
        rw [HN.out]
        go_wp2
      · go_ret
        exact ⟨k, rfl, by rw [HE.out, HD.out, HN.out]; simp, by exact bel⟩
      · refine ⟨⟨k + 1, by omega, by go_num, ?_, by exact bel⟩, by simp [intOf]; omega⟩
        rw [HE.out, HD.out, HN.out]; rfl
    · obtain rfl : k = us.length := by omega
      have he := HE.out
      rw [List.drop_length, List.any_nil] at he
      have HE2 := Lib.hid he
      clear he
      go_wp2
      go_ret
      exact ⟨-1, rfl, by rw [HE2.out]; rfl, by exact bel⟩
theorem containsTxt {B : Nat → Prop} (us : List ByteArray) (hz : ∀ s ∈ us, s.size ≤ 1000000000000) (va : Value) (w : World) (h : StrsAt B w va us) :
    Calls Tryz.prog 83 #[va, .func (.func 87) #[] #[]] w fun e w' => e = .returned (.bool (us.any fun s => !unitTxt s)) ∧ Below w.heap.size w w' := by
  have H := Lib.hid h
  have IH := Lib.hid (indexTxt (B := B) us hz)
  clear h
  go_enter Tryz.func83, Tryz.ntmps83
  go_wp2_with fail
  refine (IH.out va _ H.out).mono ?_
  rintro e w1 ⟨r, rfl, hr, hb1⟩
  have HR := Lib.hid hr
  clear hr
  go_wp2
  go_ret
  exact ⟨ret_bool HR.out, hb1⟩
set_option maxHeartbeats 3200000 in
theorem implUnit_any {B : Nat → Prop} (u : Un) (v0 v1 v2 v3 : Value) (w : World) (h : UnAt B w u [v0, v1, v2, v3]) (hw : u.wt ≤ 1000000000000) :
    Calls Tryz.prog 34 #[.agg #[v0, v1, v2, v3]] w fun e w' => e = .returned (.bool u.good) ∧ Below w.heap.size w w' := by
  obtain ⟨p, c, q, d, rfl, rfl, rfl, rfl, hn, hg, l1, l2, hi, ha⟩ := h.form
  unfold maxLen at l1 l2
  have HI := Lib.hid hi
  have HA := Lib.hid ha
  have HG := Lib.hid (show u.good = (symB u.name.data.toList && decide (u.incs.length ≤ 12) && namesF none u.incs && decide (u.axs.length ≤ 6) && u.axs.all unitTxt && (u.goal.data.toList == [] || unitTxt u.goal)) from rfl)
  have HZ := Lib.hid (fun s hs => Nat.le_trans (u.axs_le s hs) hw)
  have hgz := Nat.le_trans u.goal_le hw
  clear h hi ha
  go_enter Tryz.func34, Tryz.ntmps34
  go_wp2_with fail
  refine (isSymbol_any u.name _ hn).mono ?_
  rintro e w1 ⟨rfl, hb1⟩
  have ⟨cw1, fw1⟩ := bcell hb1
  have qw1 := hb1.size
  (try simp at qw1)
  (try have zw1w := bsz (show w.heap.size < w1.heap.size by omega))
  cases h1 : symB u.name.data.toList
  · have H1 := Lib.hid h1
    go_wp2
    go_ret
    exact ⟨ret_bool (by rw [HG.out, H1.out]; rfl), by exact bel⟩
  have H1 := Lib.hid h1
  clear h1
  by_cases h2 : u.incs.length ≤ 12
  case neg =>
    have h2i : ¬ ((u.incs.length : Int) ≤ 12) := by omega
    have H2 := Lib.hid h2
    go_wp2
    go_ret
    exact ⟨ret_bool (by rw [HG.out, H1.out, decide_eq_false H2.out]; rfl), by exact bel⟩
  have h2i : ((u.incs.length : Int) ≤ 12) := by omega
  have H2 := Lib.hid h2
  clear h2
  go_wp2_with fail
  refine (areNames_any u.incs _ _ (HI.out.below (by exact bel))).mono ?_
  rintro e w2 ⟨rfl, hb2⟩
  have ⟨cw2, fw2⟩ := bcell hb2
  have qw2 := hb2.size
  (try simp at qw2)
  (try have zw2w := bsz (show w.heap.size < w2.heap.size by omega))
  (try have zw2w1 := bsz (show w1.heap.size < w2.heap.size by omega))
  cases h3 : namesF none u.incs
  · have H3 := Lib.hid h3
    go_wp2
    go_ret
    exact ⟨ret_bool (by rw [HG.out, H1.out, decide_eq_true H2.out, H3.out]; rfl), by exact bel⟩
  have H3 := Lib.hid h3
  clear h3
  by_cases h4 : u.axs.length ≤ 6
  case neg =>
    have h4i : ¬ ((u.axs.length : Int) ≤ 6) := by omega
    have H4 := Lib.hid h4
    go_wp2
    go_ret
    exact ⟨ret_bool (by rw [HG.out, H1.out, decide_eq_true H2.out, H3.out, decide_eq_false H4.out]; rfl), by exact bel⟩
  have h4i : ((u.axs.length : Int) ≤ 6) := by omega
  have H4 := Lib.hid h4
  clear h4
  go_wp2_with fail
  refine (containsTxt u.axs HZ.out _ _ (HA.out.below (by exact bel))).mono ?_
  rintro e w3 ⟨rfl, hb3⟩
  have ⟨cw3, fw3⟩ := bcell hb3
  have qw3 := hb3.size
  (try simp at qw3)
  (try have zw3w := bsz (show w.heap.size < w3.heap.size by omega))
  (try have zw3w1 := bsz (show w1.heap.size < w3.heap.size by omega))
  (try have zw3w2 := bsz (show w2.heap.size < w3.heap.size by omega))
  have HNA := Lib.hid (all_not_any u.axs)
  cases h5 : (u.axs.any fun s => !unitTxt s)
  case true =>
    have H5 := Lib.hid h5
    go_wp2
    go_ret
    exact ⟨ret_bool (by rw [HG.out, H1.out, decide_eq_true H2.out, H3.out, decide_eq_true H4.out, HNA.out, H5.out]; rfl), by exact bel⟩
  have H5 := Lib.hid h5
  clear h5
  cases h6 : (u.goal.toList == [])
  case true =>
    have H6 := Lib.hid h6
    go_wp2
    go_ret
    exact ⟨ret_bool (by rw [HG.out, H1.out, decide_eq_true H2.out, H3.out, decide_eq_true H4.out, HNA.out, H5.out, ← ByteArray.toList_eq, H6.out]; rfl), by exact bel⟩
  have H6 := Lib.hid h6
  go_wp2_with fail
  refine (isUnitText_any u.goal _ hgz).mono ?_
  rintro e w4 ⟨rfl, hb4⟩
  have ⟨cw4, fw4⟩ := bcell hb4
  have qw4 := hb4.size
  (try simp at qw4)
  (try have zw4w := bsz (show w.heap.size < w4.heap.size by omega))
  (try have zw4w1 := bsz (show w1.heap.size < w4.heap.size by omega))
  (try have zw4w2 := bsz (show w2.heap.size < w4.heap.size by omega))
  (try have zw4w3 := bsz (show w3.heap.size < w4.heap.size by omega))
  go_wp2
  go_ret
  exact ⟨ret_bool (by rw [HG.out, H1.out, decide_eq_true H2.out, H3.out, decide_eq_true H4.out, HNA.out, H5.out, ← ByteArray.toList_eq, H6.out]; rfl), by exact bel⟩
end Go.Proofs.YtkgfanajgdelcaaGreatDoor
