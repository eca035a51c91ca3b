import Derived.Test.YtkgfanajgdelcaaGreatEnPart19
import Derived.Test.YtkgfanajgdelcaaGreatEnPart20
import Derived.Test.YtkgfanajgdelcaaGreatEnPart24
namespace Go.Proofs.YtkgfanajgdelcaaGreat
set_option maxRecDepth 100000
open Go.RowKit
set_option maxHeartbeats 3200000 in
theorem implETF_long (s : ByteArray) (hs : 12000 < s.size) (hz : s.size ≤ 1000000000000) (w : World) :
    Calls Tryz.prog 7 #[.string s] w fun e w' => e = .returned (.tuple #[.agg #[.int .i64 0, .string ⟨#[]⟩, .slice none 0 0, .string ⟨#[]⟩, .slice none 0 0], .bool false]) ∧ Below w.heap.size w w' := by
  go_enter Tryz.func7, Tryz.ntmps7
  go_wp2
  refine bodyPost_ret (v := .tuple #[.agg #[.int .i64 0, .string ⟨#[]⟩, .slice none 0 0, .string ⟨#[]⟩, .slice none 0 0], .bool false]) (by simp only [results, Tryz.results7]; go_simp) rfl ⟨rfl, by exact bel⟩
set_option maxHeartbeats 3200000 in
theorem implETF_short (s : ByteArray) (hs : s.size ≤ 12000) (w : World) :
    Calls Tryz.prog 7 #[.string s] w (EtfPost (s.size + 5) (pOk s.data.toList) (pRead s.data.toList).1 w) := by
  have hwt := pEng_wt s.data.toList (s.size + 2) ⟨0, false⟩
  have hpo := (pEng_pos s.data.toList (s.size + 2) ⟨0, false⟩ (Nat.zero_le _)).2
  have hpr : pEng s.data.toList (s.size + 2) ⟨0, false⟩ = pRead s.data.toList := by rw [pRead, ← size_list]
  have hok : pOk s.data.toList = (!(pRead s.data.toList).2.bad && (pRead s.data.toList).2.pos == s.size && (pRead s.data.toList).1.good && (pRead s.data.toList).1.eng == s.data.toList) := by rw [pOk, ← size_list]
  rw [hpr] at hwt hpo
  rw [← size_list] at hpo
  have HPR := Lib.hid hpr
  clear hpr
  generalize pRead s.data.toList = r at *
  obtain ⟨F, p1⟩ := r
  simp only at hwt hpo hok
  have HOK := Lib.hid hok
  clear hok
  go_enter Tryz.func7, Tryz.ntmps7
  go_wp2_with fail
  refine (english_read (w.heap.size + 1) s ⟨0, false⟩ _ ?_ (Nat.zero_le _) (by omega)).mono ?_
  · have h0 := heap_alloc_new (w.alloc (.cells #[.int .i64 0, .string ⟨#[]⟩, .slice none 0 0, .string ⟨#[]⟩, .slice none 0 0] 29)) (.cells #[.string s, .int .i64 0, .bool false] 50)
    rw [show (w.alloc (.cells #[.int .i64 0, .string ⟨#[]⟩, .slice none 0 0, .string ⟨#[]⟩, .slice none 0 0] 29)).heap.size = w.heap.size + 1 by simp] at h0
    exact h0
  rw [HPR.out]
  simp only
  rintro e w1 ⟨x, rfl, hx⟩
  have HX := Lib.hid hx
  obtain ⟨z1, e1, z2, e2, rfl⟩ := hx.form
  clear hx
  have hz1 := HX.out.2.2.size
  simp at hz1
  go_wp2_with fail
  refine (ended_any (w.heap.size + 1) s p1 _ (PAt.below HX.out.2.1 (by exact bel))).mono ?_
  rintro e w2 ⟨rfl, hb2⟩
  have G2 := gr_below (gr_al HX.out.2.2 _) hb2
  have HR := (G2.block w.heap.size (by simp; omega) (by simp)).trans ((hao (w.alloc _) _ _ (by simp)).trans (heap_alloc_new w _))
  have HB := (hb2.block w1.heap.size (by simp)).trans (heap_alloc_new w1 _)
  have hz2 := hb2.size
  simp at hz2
  have BW := Lib.hid (show True → Below w.heap.size w w2 from fun _ => ⟨G2.os, G2.tape, G2.output, by have := G2.size; simp at this; omega, fun b hb => (G2.block b (by simp; omega) (by simp; omega)).trans ((hao (w.alloc _) _ _ (by simp; omega)).trans (hao w _ _ hb))⟩)
  obtain ⟨r0, r1, r2, r3, r4, rf⟩ := cells5_cell HR
  obtain ⟨f0, f1, f2, f3, f4, ff⟩ := cells5_cell HB
  have hr1 := bsz (heap_lt HR)
  have hr2 := bsz (heap_lt HB)
  have HRH := Lib.hid HR
  clear HR HB G2
  cases hE : (!p1.bad && p1.pos == s.size)
  · have HE := Lib.hid (show pOk s.data.toList = false by rw [HOK.out, hE]; rfl)
    have hb3 := BW.out trivial
    go_wp2
    refine bodyPost_ret (v := .tuple #[.agg #[.int .i64 0, .string ⟨#[]⟩, .slice none 0 0, .string ⟨#[]⟩, .slice none 0 0], .bool false]) (by simp only [results, Tryz.results7]; go_simp) rfl (EtfPost.no HE.out (by clear hb2; exact bel))
  · have HE := Lib.hid hE
    obtain ⟨v0, v1, v2, v3, v4, hx5, hO⟩ := HX.out.1
    simp only [Value.agg.injEq, Array.mk.injEq, List.cons.injEq, and_true] at hx5
    obtain ⟨rfl, rfl, rfl, rfl, rfl⟩ := hx5
    have HO := Lib.hid hO
    have HAT := Lib.hid (FmOwn.at_ _ _ _ hO)
    clear hO hE
    have hwt' : F.wt ≤ s.size := by omega
    have hsz := F.sz_wt
    have hasz := F.asz_wt
    go_wp2_with fail
    refine (isValidFormula_any (s.size + 5) F _ _ _ _ _ _ (FmAt.below (by exact bel) HAT.out) (by omega) (by omega)).mono ?_
    rintro e w3 ⟨rfl, hbv⟩
    have ⟨cv, fv⟩ := bcell hbv
    have hqv := hbv.size
    have hv1 := bsz (show w.heap.size < w3.heap.size by omega)
    have hv2 := bsz (show w1.heap.size < w3.heap.size by omega)
    cases hG : F.good
    · have HG := Lib.hid (show pOk s.data.toList = false by rw [HOK.out, hG]; simp)
      go_wp2
      refine bodyPost_ret (v := .tuple #[.agg #[.int .i64 0, .string ⟨#[]⟩, .slice none 0 0, .string ⟨#[]⟩, .slice none 0 0], .bool false]) (by simp only [results, Tryz.results7]; go_simp) rfl (EtfPost.no HG.out (by have hb3 := BW.out trivial; clear hb2; exact bel))
    · have HG := Lib.hid hG
      have hform : F.form = true := by rw [Fm.good, Bool.and_eq_true] at hG; exact hG.2
      have hel := Fm.eng_wt F.sz F (Nat.le_refl _) hform
      clear hG
      go_wp2_with fail
      refine (english_any (s.size + 5) F _ _ _ _ _ _ (FmAt.below (by exact bel) HAT.out) hform (by omega)).mono ?_
      rintro e w4 ⟨rfl, hbe⟩
      have ⟨ce, fe⟩ := bcell hbe
      have hqe := hbe.size
      have hw1 := bsz (show w.heap.size < w4.heap.size by omega)
      have hw2 := bsz (show w1.heap.size < w4.heap.size by omega)
      by_cases hq : (⟨F.eng.toArray⟩ : ByteArray) = s
      · have HQ := Lib.hid (show pOk s.data.toList = true by rw [HOK.out, HE.out, HG.out]; simp [← hq])
        go_wp2
        refine bodyPost_ret (v := .tuple #[.agg #[.int .i64 F.op, .string F.a.n, .slice z1 F.a.us.length e1, .string F.v, .slice z2 F.ps.length e2], .bool true]) (by simp only [results, Tryz.results7]; go_simp) rfl ?_
        rw [HQ.out]
        refine ⟨by have hb3 := BW.out trivial; clear hb2; exact bel, _, rfl, _, _, _, _, _, rfl, ?_⟩
        have hb3 : Below w1.heap.size w1 w4 := by exact bel
        exact FmOwn.mono _ _ _ _ (Nat.le_refl _) (fun b hb hlt => by
          have h0 : w.heap.size + 1 + 1 ≤ b := by simpa [NewB] using hb.1
          repeat rw [heap_setCell_other _ _ _ _ (by simp; omega)]
          exact hb3.block b hlt) (fun b hb => by
          have h0 : w.heap.size + 1 + 1 ≤ b := by simpa [NewB] using hb.1
          have h1 := hb.2
          exact ⟨by omega, by simp; omega⟩) HO.out
      · have HQ := Lib.hid (show pOk s.data.toList = false by
          rw [HOK.out, HE.out, HG.out, Bool.true_and, Bool.true_and, beq_eq_false_iff_ne]
          exact fun e => hq (by rw [e]))
        have hq2 : (F.eng == s.toList) = false := by
          rw [ByteArray.toList_eq, beq_eq_false_iff_ne]
          exact fun e => hq (by rw [e])
        go_wp2
        refine bodyPost_ret (v := .tuple #[.agg #[.int .i64 0, .string ⟨#[]⟩, .slice none 0 0, .string ⟨#[]⟩, .slice none 0 0], .bool false]) (by simp only [results, Tryz.results7]; go_simp) rfl (EtfPost.no HQ.out (by have hb3 := BW.out trivial; clear hb2; exact bel))
theorem implETF_any (s : ByteArray) (hz : s.size ≤ 1000000000000) (w : World) : Calls Tryz.prog 7 #[.string s] w (EtfV (2 * s.size + 7) (etfOk s) (etfF s) w) := by
  by_cases h : s.size ≤ 12000
  · have e : etfOk s = pOk s.data.toList := by rw [etfOk, decide_eq_true h, Bool.true_and]
    refine (implETF_short s h w).mono fun e' w' hp => ?_
    have := hp.v (m := 2 * s.size + 7) (by omega) (by omega)
    rw [etfF, e]; exact this
  · have e : etfOk s = false := by rw [etfOk, decide_eq_false h, Bool.false_and]
    refine (implETF_long s (by omega) hz w).mono fun e' w' hp => ?_
    rw [etfF, e]; exact EtfV.zero hp (by omega)
theorem clsOf_wts : ∀ (n : Nat) (f : Fm) (c : List Lit3), f.form = true → clsOf n f = some c → Cls.wts c ≤ f.wt
  | 0, _, _, _, h => by rw [clsOf] at h; cases h
  | n + 1, f, c, hf, h => by
    rw [clsOf] at h
    by_cases h6 : f.op = 6
    · obtain ⟨g, g', rfl, hg, hg'⟩ := form_or hf h6
      rw [if_pos (by rfl)] at h
      have h : (if (litOf g).2 then (clsOf n g').map ((litOf g).1 :: ·) else none) = some c := h
      split at h
      · cases hc : clsOf n g' with
        | none => rw [hc] at h; cases h
        | some d =>
          rw [hc] at h
          obtain rfl : (litOf g).1 :: d = c := Option.some.inj h
          have h1 := clsOf_wts n g' d hg' hc
          have h2 := litOf_wt hg
          have h3 := or_wt g g'
          rw [Cls.wts]; omega
      · cases h
    · rw [if_neg h6] at h
      split at h
      · obtain rfl : [(litOf f).1] = c := Option.some.inj h
        have h2 := litOf_wt hf
        rw [Cls.wts, Cls.wts]; omega
      · cases h
theorem etfF_good {s : ByteArray} (h : etfOk s = true) : (etfF s).form = true ∧ (etfF s).wt ≤ 12000 := by
  have h0 := h
  simp only [etfOk, Bool.and_eq_true, decide_eq_true_eq] at h
  obtain ⟨F, hg, he⟩ := pOk_iff.1 h.2
  have e : etfF s = (pRead s.data.toList).1 := by rw [etfF, if_pos h0]
  have hf := hg
  rw [Fm.good, Bool.and_eq_true] at hf
  refine ⟨by rw [e, pOk_read hg he]; exact hf.2, ?_⟩
  have h1 := pEng_wt s.data.toList (s.data.toList.length + 2) ⟨0, false⟩
  have h2 := (pEng_pos s.data.toList (s.data.toList.length + 2) ⟨0, false⟩ (Nat.zero_le _)).2
  rw [e, pRead]
  rw [← size_list] at h1 h2 ⊢
  omega
theorem own_cap {α : Type} {S : Nat → Prop} {w : World} {e : TypeId} {size : Nat} {R : (Nat → Prop) → α → List Value → Prop} {v : Value} {xs : List α} (h : OwnRow S w e size R v xs) : ∀ p d, v = .slice p xs.length d → xs.length ≤ d := by
  obtain ⟨_, vals, Ss, h1, _⟩ := h
  intro p d hv
  rcases h1.2 with ⟨rfl, h0⟩ | ⟨g, cap, cur, rfl, _, _, hc, _⟩
  · omega
  · injection hv with _ _ e; omega
def EtcV (n : Nat) (ok : Bool) (c : List Lit3) (w : World) (e : Ending) (w' : World) : Prop :=
  Below w.heap.size w w' ∧ ∃ p k d, e = .returned (.tuple #[.agg #[.slice p k d], .bool ok]) ∧ ClsOwn 26 57 n (NewB w w') w' c (.slice p k d)
theorem EtcV.no {n : Nat} {ok : Bool} {c : List Lit3} {w w' : World} (h : ok = false ∧ c = []) (hb : Below w.heap.size w w') : EtcV n ok c w (.returned (.tuple #[.agg #[.slice none 0 0], .bool false])) w' := by
  obtain ⟨rfl, rfl⟩ := h
  exact ⟨hb, _, _, _, rfl, ClsOwn.nil _ _ _ _ _⟩
theorem iOk_no {s : ByteArray} (hne : s.data.toList ≠ sContr) (h : ∀ c, iFm s = some c → Cls.good c = true → Cls.eng c ≠ s.data.toList) : iOk s = false ∧ iC s = [] := by
  have hb : (s.data.toList == sContr) = false := by simpa using hne
  have hk : iOk s = false := by
    rw [iOk, hb, Bool.false_or]
    cases hi : iFm s with
    | none => rfl
    | some c =>
      cases hg : Cls.good c
      · simp [hg]
      · have := h c hi hg
        simp [hg, this]
  exact ⟨hk, by rw [iC, if_neg hne, if_neg (by rw [hk]; simp)]⟩
theorem iOk_some {s : ByteArray} {c : List Lit3} (hne : s.data.toList ≠ sContr) (hi : iFm s = some c) (hg : Cls.good c = true) (he : Cls.eng c = s.data.toList) : iOk s = true ∧ iC s = c := by
  have hb : (s.data.toList == sContr) = false := by simpa using hne
  have hk : iOk s = true := by rw [iOk, hb, hi]; simp [hg, he]
  exact ⟨hk, by rw [iC, if_neg hne, if_pos hk, hi]; rfl⟩
set_option maxHeartbeats 3200000 in
theorem implETC_any (s : ByteArray) (hz : s.size ≤ 1000000000000) (w : World) : Calls Tryz.prog 12 #[.string s] w (EtcV (2 * s.size + 7) (iOk s) (iC s) w) := by
  by_cases hq : s = ⟨sContr.toArray⟩
  · subst hq
    have H1 := Lib.hid (show iOk ⟨sContr.toArray⟩ = true ∧ iC ⟨sContr.toArray⟩ = [] from ⟨rfl, rfl⟩)
    go_enter Tryz.func12, Tryz.ntmps12
    go_wp2
    refine bodyPost_ret (v := .tuple #[.agg #[.slice none 0 0], .bool true]) (by simp only [results, Tryz.results12]; go_simp) rfl ?_
    rw [H1.out.1, H1.out.2]
    exact ⟨by exact bel, _, _, _, rfl, ClsOwn.nil _ _ _ _ _⟩
  · have hne : s.data.toList ≠ sContr := fun e => hq (by rw [← e])
    have hq2 : (s.toList == sContr) = false := by rw [ByteArray.toList_eq]; simpa using hne
    have HNE := Lib.hid hne
    have HF := Lib.hid (show iFm s = if etfOk s then clsOf ((etfF s).sz + 1) (etfF s) else none from rfl)
    unfold sContr at hq2
    go_enter Tryz.func12, Tryz.ntmps12
    go_wp2_with fail
    refine (implETF_any s hz _).mono ?_
    rintro e w1 ⟨hb1, x0, x1, x2, x3, x4, rfl, hO1⟩
    obtain ⟨p, c, q, d, rfl, rfl, rfl, rfl, rfl, -⟩ := hO1.form
    have HO := Lib.hid hO1
    clear hO1
    have ⟨cb1, fb1⟩ := bcell hb1
    have hq1 := hb1.size
    simp at hq1
    have z1 := bsz (show w.heap.size < w1.heap.size by omega)
    cases hok : etfOk s
    · have HNO := Lib.hid (iOk_no HNE.out (fun c hc => by rw [HF.out, hok] at hc; cases hc))
      go_wp2
      refine bodyPost_ret (v := .tuple #[.agg #[.slice none 0 0], .bool false]) (by simp only [results, Tryz.results12]; go_simp) rfl (EtcV.no HNO.out (by exact bel))
    · have hgood := etfF_good hok
      have HG := Lib.hid hgood
      have hw12 := hgood.2
      have HF2 := Lib.hid (show iFm s = clsOf ((etfF s).sz + 1) (etfF s) by rw [HF.out, hok]; rfl)
      clear hgood
      go_wp2_with fail
      refine (clauseOfFormula_any (m := 2 * s.size + 5) (SF := NewB (w.alloc (.cells #[.slice none 0 0] 39)) w1) (etfF s) _ _ _ _ _ _ (FmOwn.later (by exact bel) HO.out) (fun b hb => by have := hb.2; simp; omega) HG.out.1 (by omega)).mono ?_
      rintro e w2 ⟨hb2, p3, n3, d3, rfl, hcl⟩
      rw [← HF2.out] at hcl ⊢
      have HCL := Lib.hid hcl
      clear hcl
      have ⟨cb2, fb2⟩ := bcell hb2
      have hq2' := hb2.size
      simp at hq2'
      have z2 := bsz (show w.heap.size < w2.heap.size by omega)
      have z21 := bsz (show w1.heap.size < w2.heap.size by omega)
      cases hk2 : okC (iFm s)
      · have HNO := Lib.hid (iOk_no HNE.out (fun c hc hg _ => by rw [hc] at hk2; rw [show okC (some c) = Cls.good c from rfl, hg] at hk2; cases hk2))
        go_wp2
        refine bodyPost_ret (v := .tuple #[.agg #[.slice none 0 0], .bool false]) (by simp only [results, Tryz.results12]; go_simp) rfl (EtcV.no HNO.out (by exact bel))
      · obtain ⟨cl, hcs, hown⟩ := HCL.out hk2
        have hgc : Cls.good cl = true := by rw [hcs] at hk2; exact hk2
        have hga := good_atoms hgc
        have hwc := clsOf_wts _ _ _ HG.out.1 (HF2.out.symm.trans hcs)
        have hcap := own_cap hown
        obtain ⟨p3', d3', hv3, -⟩ := OwnRow.form hown
        simp only [Value.slice.injEq] at hv3
        obtain ⟨rfl, rfl, rfl⟩ := hv3
        have HCA := Lib.hid (And.intro hcap (And.intro hga.1 hga.2))
        have HOW := Lib.hid hown
        have HCS := Lib.hid (And.intro hcs hgc)
        clear hown hga hcap hcs hgc
        go_wp2_with fail
        refine (clauseEnglish_any (2 * s.size + 5 + 2) cl _ _ (ClsAt.below (by exact bel) (ClsOwn.at_ HOW.out)) HCA.out.1 HCA.out.2.1 HCA.out.2.2 (by omega)).mono ?_
        rintro e w3 ⟨rfl, hb3⟩
        have ⟨cb3, fb3⟩ := bcell hb3
        have hq3 := hb3.size
        simp at hq3
        have z3 := bsz (show w.heap.size < w3.heap.size by omega)
        have z32 := bsz (show w2.heap.size < w3.heap.size by omega)
        by_cases hq5 : (⟨(Cls.eng cl).toArray⟩ : ByteArray) = s
        · have HY := Lib.hid (iOk_some HNE.out HCS.out.1 HCS.out.2 (by rw [← hq5]))
          have hq6 : (Cls.eng cl == s.toList) = true := by rw [ByteArray.toList_eq, ← hq5]; simp
          go_wp2
          refine bodyPost_ret (v := .tuple #[.agg #[.slice p3 cl.length d3], .bool true]) (by simp only [results, Tryz.results12]; go_simp) rfl ?_
          rw [HY.out.1, HY.out.2]
          refine ⟨by exact bel, _, _, _, rfl, ClsOwn.mono (by omega) (fun b hb hlt => ?_) (fun b hb => ?_) HOW.out⟩
          · have hbw : w.heap.size + 1 ≤ b := by
              rcases hb with h | h
              · have := h.1; simpa using this
              · have := h.1; simp at this; omega
            exact (heap_setCell_other w3 ⟨w.heap.size, 0, none⟩ b _ (by simp; omega)).trans ((hb3.block b (by simp; omega)).trans (hao w2 _ _ hlt))
          · rcases hb with h | h
            · have h1 := h.1
              have h2 := h.2
              simp at h1
              exact ⟨by omega, by simp; omega⟩
            · have h1 := h.1
              have h2 := h.2
              simp at h1
              exact ⟨by omega, by simp; omega⟩
        · have HNO := Lib.hid (iOk_no HNE.out (fun c hc _ he => by rw [HCS.out.1] at hc; obtain rfl := Option.some.inj hc; exact hq5 (by rw [he])))
          have hq6 : (Cls.eng cl == s.toList) = false := by
            rw [ByteArray.toList_eq, beq_eq_false_iff_ne]
            exact fun e => hq5 (by rw [e])
          go_wp2
          refine bodyPost_ret (v := .tuple #[.agg #[.slice none 0 0], .bool false]) (by simp only [results, Tryz.results12]; go_simp) rfl (EtcV.no HNO.out (by exact bel))
theorem Fm.eng_wt2 : ∀ (k : Nat) (t : Fm), t.sz ≤ k → t.form = true → t.eng.length ≤ 4 * t.wt + 30 * t.sz
  | 0, .mk _ _ _ _, hk, _ => by rw [Fm.sz] at hk; omega
  | k + 1, t, hk, hf => by
    cases form_cases hf with
    | tru => rw [opF, Fm.eng, Fm.sz, Fm.szs]; simp [sTruth]
    | fal => rw [opF, Fm.eng, Fm.sz, Fm.szs]; simp [sFalsity]
    | atm a ha =>
      have := Tm.eng_wt ha
      rw [eng_atm, atomOfF, Fm.wt, Fm.sz, Fm.szs]; omega
    | neg g hg =>
      rw [opF, Fm.sz, Fm.szs, Fm.szs] at hk
      have h1 := Fm.eng_wt2 k g (by omega) hg
      have h2 : sNot.length = 24 := rfl
      rw [eng_neg, opF, Fm.wt, Fm.wts, Fm.wts, Fm.sz, Fm.szs, Fm.szs, List.length_append, List.length_cons, List.length_nil]; omega
    | bin op g h ho hg hh =>
      rw [opF, Fm.sz, Fm.szs, Fm.szs, Fm.szs] at hk
      have h1 := Fm.eng_wt2 k g (by omega) hg
      have h2 := Fm.eng_wt2 k h (by omega) hh
      have h3 : sBoth.length = 5 ∧ sAnd.length = 5 ∧ sEither.length = 7 ∧ sOr.length = 4 ∧ sIf.length = 3 ∧ sThen.length = 6 := ⟨rfl, rfl, rfl, rfl, rfl, rfl⟩
      have hw : (opF op [g, h]).wt = tm0.wt + 0 + 2 + (g.wt + (h.wt + 0)) := by rw [opF, Fm.wt, Fm.wts, Fm.wts, Fm.wts]; rfl
      have hs : (opF op [g, h]).sz = 1 + (g.sz + (h.sz + 0)) := by rw [opF, Fm.sz, Fm.szs, Fm.szs, Fm.szs]
      rcases ho with rfl | rfl | rfl
      · rw [eng_and, hw, hs]; simp only [List.length_append]; omega
      · rw [eng_or, hw, hs]; simp only [List.length_append]; omega
      · rw [eng_imp, hw, hs]; simp only [List.length_append]; omega
    | qua op v g ho hv hg =>
      rw [quantF, Fm.sz, Fm.szs, Fm.szs] at hk
      have h1 := Fm.eng_wt2 k g (by omega) hg
      have h3 : sEvery.length = 10 ∧ sComma.length = 2 ∧ sThere.length = 9 ∧ sSuch.length = 11 := ⟨rfl, rfl, rfl, rfl⟩
      have hw : (quantF op v g).wt = tm0.wt + v.length + 1 + (g.wt + 0) := by rw [quantF, Fm.wt, Fm.wts, Fm.wts]; rfl
      have hs : (quantF op v g).sz = 1 + (g.sz + 0) := by rw [quantF, Fm.sz, Fm.szs, Fm.szs]
      rcases ho with rfl | rfl
      · rw [eng_all, hw, hs]; simp only [List.length_append]; omega
      · rw [eng_ex, hw, hs]; simp only [List.length_append]; omega
theorem etf_back {f : Fm} {s : ByteArray} (hg : f.good = true) (hw : f.wt ≤ 2000) (hs : s = ⟨f.eng.toArray⟩) : etfOk s = true ∧ etfF s = f := by
  have hsd : s.data.toList = f.eng := by rw [hs]
  have hg2 := hg
  rw [Fm.good, Bool.and_eq_true] at hg2
  have hz := of_decide_eq_true hg2.1
  have hl := Fm.eng_wt2 _ f (Nat.le_refl _) hg2.2
  have hk : etfOk s = true := by
    rw [etfOk, Bool.and_eq_true]
    refine ⟨decide_eq_true ?_, pOk_iff.2 ⟨f, hg, hsd.symm⟩⟩
    rw [size_list, hsd]; omega
  exact ⟨hk, by rw [etfF, if_pos hk]; exact pOk_read hg hsd.symm⟩
theorem etf_forth {s : ByteArray} (h : etfOk s = true) : (etfF s).good = true ∧ s = ⟨(etfF s).eng.toArray⟩ := by
  have h0 := h
  simp only [etfOk, Bool.and_eq_true, decide_eq_true_eq] at h
  obtain ⟨F, hg, he⟩ := pOk_iff.1 h.2
  have e : etfF s = F := by rw [etfF, if_pos h0]; exact pOk_read hg he
  rw [e]
  exact ⟨hg, by rw [he]⟩
theorem cls_len {c : List Lit3} (hg : Cls.good c = true) (hw : Cls.wts c ≤ 1500) : (Cls.eng c).length ≤ 12000 := by
  obtain ⟨h8, ha⟩ := good_atoms hg
  rw [Cls.eng]
  split
  · decide
  · next h0 =>
    have h0 : 0 < c.length := by omega
    have h1 := Fm.eng_wt2 _ (disj c) (Nat.le_refl _) (disj_form c h0 ha)
    have h2 := disj_wt c h0
    have h3 := (disj_sz c h0).1
    omega
theorem etc_back {c : List Lit3} {s : ByteArray} (hg : Cls.good c = true) (hw : Cls.wts c ≤ 1500) (hs : s = ⟨(Cls.eng c).toArray⟩) : iOk s = true ∧ iC s = c :=
  iOk_yes ⟨by rw [size_list, hs]; exact cls_len hg hw, hg, by rw [hs]⟩
theorem wts_cap (n : Nat) : ∀ c : List Lit3, (∀ l ∈ c, l.a.wt ≤ n) → Cls.wts c ≤ n * c.length
  | [], _ => by rw [Cls.wts]; omega
  | l :: c, h => by
    have h1 := wts_cap n c (fun v hv => h v (List.mem_cons_of_mem _ hv))
    have h2 := h l (List.mem_cons_self ..)
    rw [Cls.wts, List.length_cons, Nat.mul_succ]; omega
theorem among_any (g m b c : Nat) (lo hi : Int) (cs : Array Value) (t : TypeId) (fr : Nat × Nat) (w : World) (h : Cur w g m) (hm : m + 2 ≤ 1000000000) (hb : w.heap[b]? = some (.cells cs t fr)) (hbg : b ≠ g) (h0 : 0 < cs.size) (h1 : cs.size ≤ 1000000000) (hs : ∀ v ∈ cs, IsIn lo hi v) :
    Calls Tryz.prog 94 #[.pointer (some ⟨g, 0, none⟩), .slice (some ⟨b, 0, none⟩) cs.size c] w (Step g m 2 (IsIn lo hi) w) := by
  have H := Lib.hid h
  have HB := Lib.hid hb
  have HS := Lib.hid hs
  clear h hb hs
  go_enter Tryz.func94, Tryz.ntmps94
  go_wp2_with fail
  refine (pick_any g m _ _ H.out hm (by omega) (by omega)).mono ?_
  rintro e w1 ⟨_, rfl, ⟨r1, rfl, hr1, hs1⟩, hc1, hg1⟩
  obtain ⟨j, rfl⟩ := Int.eq_ofNat_of_zero_le hr1
  have hj : j < cs.size := by omega
  have hblt := lt_of_block HB.out
  obtain ⟨s, hv, hsz⟩ := HS.out cs[j] (Array.getElem_mem hj)
  have hcell : w1.cell? ⟨b, j, none⟩ = some (.int .i64 s) := by
    rw [((gcell hg1).1 b j hblt hbg), cell_of_row w b j cs t fr HB.out, ← hv]; exact Array.getElem?_eq_getElem hj
  have HC1 := Lib.hid hc1
  clear hc1 hv
  go_wp2_with fail
  go_ret
  exact ⟨_, rfl, ⟨_, rfl, hsz⟩, HC1.out, hg1⟩
set_option maxHeartbeats 1600000 in
theorem spoilt_any (g m : Nat) (t q : ByteArray) (w : World) (h : Cur w g m) (hm : m + 6 ≤ 1000000000) (ht : t.size ≤ 1000000) (hq : 0 < q.size) (hq2 : q.size ≤ 1000) :
    Calls Tryz.prog 53 #[.pointer (some ⟨g, 0, none⟩), .string t, .string q] w (Step g m 6 (IsStr (t.size + 1)) w) := by
  have H := Lib.hid h
  clear h
  cases he : t.data.toList.isEmpty
  · have he1 := empt_f he
    have ht0 : 0 < t.size := by
      rw [size_list]; cases hl : t.data.toList with
      | nil => rw [hl] at he; cases he
      | cons x l => simp
    go_enter Tryz.func53, Tryz.ntmps53
    go_wp2_with fail
    refine (pick_any g m _ _ H.out (by omega) (by omega) (by omega)).mono ?_
    rintro e w1 ⟨_, rfl, ⟨r1, rfl, hr1, hs1⟩, hc1, hg1⟩
    obtain ⟨i, rfl⟩ := Int.eq_ofNat_of_zero_le hr1
    have hi : i < t.size := by omega
    have hi2 : i ≤ t.size := by omega
    have hi3 : i + 1 ≤ t.size := by omega
    have hwi : IntKind.i64.wrap ((i : Int) + 1) = (i : Int) + 1 := IntWalk.i64_in _ (by omega)
    have hwi2 : ((i : Int) + 1).toNat = i + 1 := by omega
    have hwi3 : 0 ≤ (i : Int) + 1 := by omega
    have hwi4 : (i : Int) + 1 ≤ (t.size : Int) := by omega
    have HSZ := Lib.hid (And.intro ht hi)
    have HC1 := Lib.hid hc1
    clear hc1
    go_wp2_with fail
    refine (pick_any g (m + 2) _ _ HC1.out (by omega) (by omega) (by omega)).mono ?_
    rintro e w2 ⟨_, rfl, ⟨r2, rfl, hr2, hs2⟩, hc2, hg2⟩
    obtain ⟨j, rfl⟩ := Int.eq_ofNat_of_zero_le hr2
    have hj : j < q.size := by omega
    have HC2 := Lib.hid hc2
    clear hc2
    obtain ⟨x, hx⟩ : ∃ x, (q.extract j q.size).extract 0 1 = x := ⟨_, rfl⟩
    have hx1 : x.size ≤ 1 := by rw [← hx]; simp; omega
    go_wp2_with fail
    refine (pick_any g (m + 4) _ _ HC2.out (by omega) (by omega) (by omega)).mono ?_
    rintro e w3 ⟨_, rfl, ⟨r3, rfl, hr3, hs3⟩, hc3, hg3⟩
    have HC3 := Lib.hid hc3
    have HG := Lib.hid (gr_trans (gr_trans hg1 hg2) hg3)
    clear hc3 hg1 hg2 hg3
    clear hx
    rcases (by omega : r3 = 0 ∨ r3 = 1 ∨ r3 = 2) with rfl | rfl | rfl
    · go_wp2
      obtain ⟨C, HC0⟩ := class_of (InF w3.heap.size _ [] [] [])
      have HC := Lib.hid HC0
      clear HC0
      refine wp_region_flow (C := C) (by kernel_rfl) (by kernel_rfl) (fun L hL => (HC.out _ _).2 (InF.start (by first | (intro _ hs; cases hs; done) | (simp only [List.forall_mem_cons]; go_simp)) (by first | (intro _ hs; cases hs; done) | (simp only [List.forall_mem_cons]; go_simp)) (by first | (intro _ hs; cases hs; done) | (simp only [List.forall_mem_cons]; go_simp)) (by first | (intro _ hs; cases hs; done) | (simp only [List.forall_mem_cons]; go_simp)) L hL)) ?_
      repeat (first | ((first | apply flow_free rfl | (apply flow_yes; (case hw => go_simp))); (intro L w' hun hrd hC; have hC := (HC.out _ _).1 hC; have hb' := hC.below; have hf' := hC.cell; (try simp only [List.forall_mem_cons] at hf'); go_simp; first | exact ⟨(HC.out _ _).2 (hC.skip _ (by rfl)), rfl⟩ | (rw [if_neg]; (exact ⟨(HC.out _ _).2 (hC.skip _ (by rfl)), rfl⟩); omega) | fail); go_simp) | (apply flow_no; (case hw => (go_simp; try (intro hh; cases hh))); (intro L w' _ _ hC; exact (HC.out _ _).2 (((HC.out _ _).1 hC).skip _ (by rfl))); go_simp))
      refine flow_nil ?_
      intro L wz hL hz
      have hz := (HC.out _ _).1 hz
      have hbz := hz.below
      have hcz := hz.cell
      try simp only [List.forall_mem_cons] at hcz
      have hdz := hz.done
      try simp only [List.forall_mem_cons] at hdz
      (try have hwz : Below w.heap.size w wz := by first | exact Below.trans (by (repeat (first | with_reducible (first | exact bR _ _ | assumption | refine bA ?_ _ | refine bS ?_ (by first | exact Nat.le_refl _ | (simp; done) | (simp; omega)) _) | assumption | exact bR _ _ | refine bD ?_ | refine bN ?_ _ | refine bT ?_ (by assumption)))) hbz | ((repeat (first | with_reducible (first | exact bR _ _ | assumption | refine bA ?_ _ | refine bS ?_ (by first | exact Nat.le_refl _ | (simp; done) | (simp; omega)) _) | assumption | exact bR _ _ | refine bD ?_ | refine bN ?_ _ | refine bT ?_ (by assumption))); done))
      go_wp2
      go_ret
      refine ⟨_, rfl, ⟨_, rfl, ?_⟩, HC3.out.below hbz, gr_below HG.out hbz⟩
      have h1 := HSZ.out
      simp only [size_list, bytes_append', extract_list, List.length_append, List.length_drop, List.length_take] at h1 hx1 ⊢
      omega
    · go_wp2
      obtain ⟨C, HC0⟩ := class_of (InF w3.heap.size _ [] [] [])
      have HC := Lib.hid HC0
      clear HC0
      refine wp_region_flow (C := C) (by kernel_rfl) (by kernel_rfl) (fun L hL => (HC.out _ _).2 (InF.start (by first | (intro _ hs; cases hs; done) | (simp only [List.forall_mem_cons]; go_simp)) (by first | (intro _ hs; cases hs; done) | (simp only [List.forall_mem_cons]; go_simp)) (by first | (intro _ hs; cases hs; done) | (simp only [List.forall_mem_cons]; go_simp)) (by first | (intro _ hs; cases hs; done) | (simp only [List.forall_mem_cons]; go_simp)) L hL)) ?_
      repeat (first | ((first | apply flow_free rfl | (apply flow_yes; (case hw => go_simp))); (intro L w' hun hrd hC; have hC := (HC.out _ _).1 hC; have hb' := hC.below; have hf' := hC.cell; (try simp only [List.forall_mem_cons] at hf'); go_simp; first | exact ⟨(HC.out _ _).2 (hC.skip _ (by rfl)), rfl⟩ | (rw [if_neg]; (exact ⟨(HC.out _ _).2 (hC.skip _ (by rfl)), rfl⟩); omega) | fail); go_simp) | (apply flow_no; (case hw => (go_simp; try (intro hh; cases hh))); (intro L w' _ _ hC; exact (HC.out _ _).2 (((HC.out _ _).1 hC).skip _ (by rfl))); go_simp))
      refine flow_nil ?_
      intro L wz hL hz
      have hz := (HC.out _ _).1 hz
      have hbz := hz.below
      have hcz := hz.cell
      try simp only [List.forall_mem_cons] at hcz
      have hdz := hz.done
      try simp only [List.forall_mem_cons] at hdz
      (try have hwz : Below w.heap.size w wz := by first | exact Below.trans (by (repeat (first | with_reducible (first | exact bR _ _ | assumption | refine bA ?_ _ | refine bS ?_ (by first | exact Nat.le_refl _ | (simp; done) | (simp; omega)) _) | assumption | exact bR _ _ | refine bD ?_ | refine bN ?_ _ | refine bT ?_ (by assumption)))) hbz | ((repeat (first | with_reducible (first | exact bR _ _ | assumption | refine bA ?_ _ | refine bS ?_ (by first | exact Nat.le_refl _ | (simp; done) | (simp; omega)) _) | assumption | exact bR _ _ | refine bD ?_ | refine bN ?_ _ | refine bT ?_ (by assumption))); done))
      go_wp2
      go_ret
      refine ⟨_, rfl, ⟨_, rfl, ?_⟩, HC3.out.below hbz, gr_below HG.out hbz⟩
      have h1 := HSZ.out
      simp only [size_list, bytes_append', extract_list, List.length_append, List.length_drop, List.length_take] at h1 hx1 ⊢
      omega
    · go_wp2
      obtain ⟨C, HC0⟩ := class_of (InF w3.heap.size _ [] [] [])
      have HC := Lib.hid HC0
      clear HC0
      refine wp_region_flow (C := C) (by kernel_rfl) (by kernel_rfl) (fun L hL => (HC.out _ _).2 (InF.start (by first | (intro _ hs; cases hs; done) | (simp only [List.forall_mem_cons]; go_simp)) (by first | (intro _ hs; cases hs; done) | (simp only [List.forall_mem_cons]; go_simp)) (by first | (intro _ hs; cases hs; done) | (simp only [List.forall_mem_cons]; go_simp)) (by first | (intro _ hs; cases hs; done) | (simp only [List.forall_mem_cons]; go_simp)) L hL)) ?_
      repeat (first | ((first | apply flow_free rfl | (apply flow_yes; (case hw => go_simp))); (intro L w' hun hrd hC; have hC := (HC.out _ _).1 hC; have hb' := hC.below; have hf' := hC.cell; (try simp only [List.forall_mem_cons] at hf'); go_simp; first | exact ⟨(HC.out _ _).2 (hC.skip _ (by rfl)), rfl⟩ | (rw [if_neg]; (exact ⟨(HC.out _ _).2 (hC.skip _ (by rfl)), rfl⟩); omega) | fail); go_simp) | (apply flow_no; (case hw => (go_simp; try (intro hh; cases hh))); (intro L w' _ _ hC; exact (HC.out _ _).2 (((HC.out _ _).1 hC).skip _ (by rfl))); go_simp))
      refine flow_nil ?_
      intro L wz hL hz
      have hz := (HC.out _ _).1 hz
      have hbz := hz.below
      have hcz := hz.cell
      try simp only [List.forall_mem_cons] at hcz
      have hdz := hz.done
      try simp only [List.forall_mem_cons] at hdz
      (try have hwz : Below w.heap.size w wz := by first | exact Below.trans (by (repeat (first | with_reducible (first | exact bR _ _ | assumption | refine bA ?_ _ | refine bS ?_ (by first | exact Nat.le_refl _ | (simp; done) | (simp; omega)) _) | assumption | exact bR _ _ | refine bD ?_ | refine bN ?_ _ | refine bT ?_ (by assumption)))) hbz | ((repeat (first | with_reducible (first | exact bR _ _ | assumption | refine bA ?_ _ | refine bS ?_ (by first | exact Nat.le_refl _ | (simp; done) | (simp; omega)) _) | assumption | exact bR _ _ | refine bD ?_ | refine bN ?_ _ | refine bT ?_ (by assumption))); done))
      go_wp2
      go_ret
      refine ⟨_, rfl, ⟨_, rfl, ?_⟩, HC3.out.below hbz, gr_below HG.out hbz⟩
      have h1 := HSZ.out
      simp only [size_list, bytes_append', extract_list, List.length_append, List.length_drop, List.length_take] at h1 hx1 ⊢
      omega
  · have he1 := empt_t he
    go_enter Tryz.func53, Tryz.ntmps53
    go_wp2
    go_ret
    refine ⟨_, rfl, ⟨_, rfl, ?_⟩, H.out.more (by omega) (by omega), gr_refl _ _⟩
    simp only [size_list, extract_list, List.length_drop, List.length_take]
    omega
theorem of_lit (g m k n b : Nat) (W : World) (cs : Array Value) (t : TypeId) (hn : n = cs.size) (hb : b = W.heap.size) (h : Cur W g m) (hm : m + 2 ≤ 1000000000) (h0 : 0 < cs.size) (h1 : cs.size ≤ 1000000000) (hs : ∀ v ∈ cs, IsStr k v) :
    Calls Tryz.prog 57 #[.pointer (some ⟨g, 0, none⟩), .slice (some ⟨b, 0, none⟩) n n] (W.alloc (.cells cs t)) (Step g m 2 (IsStr k) (W.alloc (.cells cs t))) := by
  subst hn hb
  have hlt := h.lt
  exact of_any g m W.heap.size cs.size k cs t (0, 0) _ (h.below ((Below.refl _ _).alloc (Nat.le_refl _) _)) hm (heap_alloc_new W _) (by omega) h0 h1 hs
theorem Cur.al {w : World} {g m : Nat} (h : Cur w g m) (o : Obj) : Cur (w.alloc o) g m := h.below ((Below.refl _ _).alloc (Nat.le_refl _) o)
theorem Cur.sc {w : World} {g m : Nat} (h : Cur w g m) {p : Addr} (hp : g < p.block) (u : Value) : Cur (w.setCell p u) g m := by
  obtain ⟨v, a, s, h1, h2, h3, h4, h5, code, h6, h7⟩ := h
  exact ⟨v, a, s, (heap_setCell_other w p g u (fun e => by omega)).trans h1, h2, h3, h4, h5, code, h6, h7.mono (SameOn.store w (fun b hb e => by omega) u) (fun _ h => h) (fun _ _ _ h => h)⟩
theorem row2_at {w : World} {g : Nat} {x y : Value} {t : TypeId} (h : w.heap[g]? = some (.cells #[x, y] t (0, 0))) :
    w.cell? ⟨g, 0, none⟩ = some x ∧ w.cell? ⟨g, 1, none⟩ = some y ∧ (∀ j, w.frozen? ⟨g, j, none⟩ = false) := by
  refine ⟨?_, ?_, fun j => frozen_of_row w g j _ _ h⟩
  · rw [cell_of_row w g 0 _ _ (0, 0) h]; rfl
  · rw [cell_of_row w g 1 _ _ (0, 0) h]; rfl
end Go.Proofs.YtkgfanajgdelcaaGreat
