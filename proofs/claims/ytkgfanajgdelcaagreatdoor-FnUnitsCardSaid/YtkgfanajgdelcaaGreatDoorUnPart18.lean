import Derived.Test.YtkgfanajgdelcaaGreatDoorUnPart17
namespace Go.Proofs.YtkgfanajgdelcaaGreatDoor
set_option maxRecDepth 100000
open Go.RowKit
theorem FmP.later {m g : Nat} {s : ByteArray} {F : Fm} {p' : PSt} {w w' w5 : World} {x : Value} (h : FmP m g s F p' w x w') (hb : Below w'.heap.size w' w5) : FmP m g s F p' w x w5 := by
  obtain ⟨⟨v0, v1, v2, v3, v4, rfl, hO⟩, hP, hG⟩ := h
  exact ⟨⟨_, _, _, _, _, rfl, FmOwn.mono _ _ _ _ (Nat.le_refl _) (SameOn.below hb) (fun b h => ⟨h.1, Nat.lt_of_lt_of_le h.2 hb.size⟩) hO⟩, hP.below hb, gr_below hG hb⟩
set_option maxHeartbeats 6400000 in
theorem formula_of (f : Nat) (ih : FrmC f) (ih2 : ∀ f', f = f' + 1 → FrmC f') (g : Nat) (s : ByteArray) (p : PSt) (w : World) (h : PAt 190 w g s p) (hp : p.pos ≤ s.size) (hs : s.size ≤ 1000000) (hf : 2 * (s.size - p.pos) + 1 < f + 1) :
    Calls Tryz.prog 186 #[.pointer (some ⟨g, 0, none⟩)] w fun e w' => ∃ x, e = .returned x ∧ FmP (f + 1 + s.size + 6) g s (pFrm s.data.toList (f + 1) p).1 (pFrm s.data.toList (f + 1) p).2 w x w' := by
  have hg := bsz h.lt
  have IH := Lib.hid ih
  have HE := Lib.hid (show ESt w g s p (w.alloc (.cells #[.int .i64 0, .string ⟨#[]⟩, .slice none 0 0, .string ⟨#[]⟩, .slice none 0 0] 44)) from ⟨h.below (by exact bel), gr_al (gr_refl w g) _, heap_alloc_new w _, h.lt⟩)
  have IH2 := Lib.hid ih2
  clear h ih ih2
  go_enter Tryz.func186, Tryz.ntmps186
  cases h1 : pTake s.data.toList sAll8 p
  case true =>
    have HY := Lib.hid h1
    have hle := pTake_le h1 (by rw [← size_list]; exact hp)
    rw [← size_list] at hle
    have hkl : 4 ≤ (sAll8).length := by decide
    clear h1
    go_wp2_with fail
    refine (take_any g s _ p _ (PAt.below HE.out.at_ (by exact bel)) hp (by omega) (by decide)).mono ?_
    rw [show (⟨#[97, 108, 108, 32]⟩ : ByteArray).data.toList = sAll8 from rfl, HY.out]
    rintro e w1 ⟨_, rfl, rfl, h1, hg1⟩
    have HE' := Lib.hid (HE.out.step (p' := pAdv sAll8 p) h1 hg1)
    clear HE h1 hg1
    have HE := HE'
    clear HE'
    have hpk : (pAdv sAll8 p).pos ≤ s.size := by simp only [pAdv]; omega
    have hpw := pWord_pos s.data.toList (pAdv sAll8 p) (by rw [← size_list]; exact hpk)
    have hpm := pMust_pos s.data.toList [46] (pWord s.data.toList (pAdv sAll8 p)).2 hpw.2
    have hwl := pWord_len s.data.toList (pAdv sAll8 p)
    rw [← size_list] at hpw hpm hwl
    have hpp : (pAdv sAll8 p).pos = p.pos + (sAll8).length := rfl
    go_wp2_with fail
    refine (word_any g s (pAdv sAll8 p) _ (PAt.below HE.out.at_ (by exact bel)) hpk (by omega)).mono ?_
    rintro e wv ⟨_, rfl, rfl, hPv, hgv⟩
    have HEV := Lib.hid (HE.out.step (p' := (pWord s.data.toList (pAdv sAll8 p)).2) hPv hgv)
    clear hPv hgv
    go_wp2_with fail
    refine (must_any g s _ (pWord s.data.toList (pAdv sAll8 p)).2 _ (PAt.below HEV.out.at_ (by exact bel)) hpw.2 (by omega) (by decide)).mono ?_
    rw [show (⟨#[46]⟩ : ByteArray).data.toList = [46] from rfl]
    rintro e wm ⟨_, rfl, rfl, hPm, hgm⟩
    have HEM := Lib.hid (HEV.out.step hPm hgm)
    clear hPm hgm
    go_wp2_with fail
    refine (IH.out g s (pMust s.data.toList [46] (pWord s.data.toList (pAdv sAll8 p)).2) _ (PAt.below HEM.out.at_ (by exact bel)) hpm.2 hs (by omega)).mono ?_
    rintro e wa ⟨x, rfl, hx⟩
    have HX := Lib.hid hx
    obtain ⟨z1, e1, z2, e2, rfl⟩ := hx.form
    clear hx
    go_wp2_with fail
    refine (quantified_any (f + s.size + 5) 8 (by omega) (pWord s.data.toList (pAdv sAll8 p)).1 (by omega) _ _ _ _ HX.out.1 (fun b hb => hb.2)).mono ?_
    rintro e wb ⟨y, rfl, hV, hbb⟩
    have HFIN := Lib.hid (show pFrm s.data.toList (f + 1) p = (quantF 8 (pWord s.data.toList (pAdv sAll8 p)).1 (pFrm s.data.toList f (pMust s.data.toList [46] (pWord s.data.toList (pAdv sAll8 p)).2)).1, (pFrm s.data.toList f (pMust s.data.toList [46] (pWord s.data.toList (pAdv sAll8 p)).2)).2) by rw [pFrm]; simp only [HY.out, if_true])
    have HF := Lib.hid (HX.out.wrap hV hbb (.inl trivial))
    clear hV
    obtain ⟨FF, hFF⟩ : ∃ FF, quantF 8 (pWord s.data.toList (pAdv sAll8 p)).1 (pFrm s.data.toList f (pMust s.data.toList [46] (pWord s.data.toList (pAdv sAll8 p)).2)).1 = FF := ⟨_, rfl⟩
    rw [hFF] at HF HFIN
    clear hFF
    obtain ⟨q1, d1, q2, d2, rfl⟩ := HF.out.form
    obtain ⟨r0, r1, r2, r3, r4, rf⟩ := cells5_cell (HEM.out.kept HF.out)
    have hrb := bsz (heap_lt (HEM.out.kept HF.out))
    go_wp2
    refine bodyPost_ret (v := .agg #[.int .i64 (FF).op, .string (FF).a.n, .slice q1 (FF).a.us.length d1, .string (FF).v, .slice q2 (FF).ps.length d2]) (by simp only [results, Tryz.results186]; go_simp) rfl ⟨_, rfl, ?_⟩
    rw [HFIN.out]
    exact FmP.mono (by omega) (HEM.out.hand HF.out _ _ _ _ _)
  have H1 := Lib.hid h1
  clear h1
  go_wp2_with fail
  refine (take_any g s _ p _ (PAt.below HE.out.at_ (by exact bel)) hp (by omega) (by decide)).mono ?_
  rw [show (⟨#[97, 108, 108, 32]⟩ : ByteArray).data.toList = sAll8 from rfl, H1.out]
  rintro e w1 ⟨_, rfl, rfl, h1, hg1⟩
  have HE' := Lib.hid (HE.out.step (p' := p) h1 hg1)
  clear HE h1 hg1
  have HE := HE'
  clear HE'
  cases h2 : pTake s.data.toList sSome8 p
  case true =>
    have HY := Lib.hid h2
    have hle := pTake_le h2 (by rw [← size_list]; exact hp)
    rw [← size_list] at hle
    have hkl : 4 ≤ (sSome8).length := by decide
    clear h2
    go_wp2_with fail
    refine (take_any g s _ p _ (PAt.below HE.out.at_ (by exact bel)) hp (by omega) (by decide)).mono ?_
    rw [show (⟨#[115, 111, 109, 101, 32]⟩ : ByteArray).data.toList = sSome8 from rfl, HY.out]
    rintro e w2 ⟨_, rfl, rfl, h2, hg2⟩
    have HE' := Lib.hid (HE.out.step (p' := pAdv sSome8 p) h2 hg2)
    clear HE h2 hg2
    have HE := HE'
    clear HE'
    have hpk : (pAdv sSome8 p).pos ≤ s.size := by simp only [pAdv]; omega
    have hpw := pWord_pos s.data.toList (pAdv sSome8 p) (by rw [← size_list]; exact hpk)
    have hpm := pMust_pos s.data.toList [46] (pWord s.data.toList (pAdv sSome8 p)).2 hpw.2
    have hwl := pWord_len s.data.toList (pAdv sSome8 p)
    rw [← size_list] at hpw hpm hwl
    have hpp : (pAdv sSome8 p).pos = p.pos + (sSome8).length := rfl
    go_wp2_with fail
    refine (word_any g s (pAdv sSome8 p) _ (PAt.below HE.out.at_ (by exact bel)) hpk (by omega)).mono ?_
    rintro e wv ⟨_, rfl, rfl, hPv, hgv⟩
    have HEV := Lib.hid (HE.out.step (p' := (pWord s.data.toList (pAdv sSome8 p)).2) hPv hgv)
    clear hPv hgv
    go_wp2_with fail
    refine (must_any g s _ (pWord s.data.toList (pAdv sSome8 p)).2 _ (PAt.below HEV.out.at_ (by exact bel)) hpw.2 (by omega) (by decide)).mono ?_
    rw [show (⟨#[46]⟩ : ByteArray).data.toList = [46] from rfl]
    rintro e wm ⟨_, rfl, rfl, hPm, hgm⟩
    have HEM := Lib.hid (HEV.out.step hPm hgm)
    clear hPm hgm
    go_wp2_with fail
    refine (IH.out g s (pMust s.data.toList [46] (pWord s.data.toList (pAdv sSome8 p)).2) _ (PAt.below HEM.out.at_ (by exact bel)) hpm.2 hs (by omega)).mono ?_
    rintro e wa ⟨x, rfl, hx⟩
    have HX := Lib.hid hx
    obtain ⟨z1, e1, z2, e2, rfl⟩ := hx.form
    clear hx
    go_wp2_with fail
    refine (quantified_any (f + s.size + 5) 9 (by omega) (pWord s.data.toList (pAdv sSome8 p)).1 (by omega) _ _ _ _ HX.out.1 (fun b hb => hb.2)).mono ?_
    rintro e wb ⟨y, rfl, hV, hbb⟩
    have HFIN := Lib.hid (show pFrm s.data.toList (f + 1) p = (quantF 9 (pWord s.data.toList (pAdv sSome8 p)).1 (pFrm s.data.toList f (pMust s.data.toList [46] (pWord s.data.toList (pAdv sSome8 p)).2)).1, (pFrm s.data.toList f (pMust s.data.toList [46] (pWord s.data.toList (pAdv sSome8 p)).2)).2) by rw [pFrm]; simp only [H1.out, HY.out, if_true, Bool.false_eq_true, if_false])
    have HF := Lib.hid (HX.out.wrap hV hbb (.inl trivial))
    clear hV
    obtain ⟨FF, hFF⟩ : ∃ FF, quantF 9 (pWord s.data.toList (pAdv sSome8 p)).1 (pFrm s.data.toList f (pMust s.data.toList [46] (pWord s.data.toList (pAdv sSome8 p)).2)).1 = FF := ⟨_, rfl⟩
    rw [hFF] at HF HFIN
    clear hFF
    obtain ⟨q1, d1, q2, d2, rfl⟩ := HF.out.form
    obtain ⟨r0, r1, r2, r3, r4, rf⟩ := cells5_cell (HEM.out.kept HF.out)
    have hrb := bsz (heap_lt (HEM.out.kept HF.out))
    go_wp2
    refine bodyPost_ret (v := .agg #[.int .i64 (FF).op, .string (FF).a.n, .slice q1 (FF).a.us.length d1, .string (FF).v, .slice q2 (FF).ps.length d2]) (by simp only [results, Tryz.results186]; go_simp) rfl ⟨_, rfl, ?_⟩
    rw [HFIN.out]
    exact FmP.mono (by omega) (HEM.out.hand HF.out _ _ _ _ _)
  have H2 := Lib.hid h2
  clear h2
  go_wp2_with fail
  refine (take_any g s _ p _ (PAt.below HE.out.at_ (by exact bel)) hp (by omega) (by decide)).mono ?_
  rw [show (⟨#[115, 111, 109, 101, 32]⟩ : ByteArray).data.toList = sSome8 from rfl, H2.out]
  rintro e w2 ⟨_, rfl, rfl, h2, hg2⟩
  have HE' := Lib.hid (HE.out.step (p' := p) h2 hg2)
  clear HE h2 hg2
  have HE := HE'
  clear HE'
  cases h3 : pTake s.data.toList [126] p
  case true =>
    have HY := Lib.hid h3
    have hle := pTake_le h3 (by rw [← size_list]; exact hp)
    rw [← size_list] at hle
    have hkl : ([126] : List UInt8).length = 1 := rfl
    clear h3
    go_wp2_with fail
    refine (take_any g s _ p _ (PAt.below HE.out.at_ (by exact bel)) hp (by omega) (by decide)).mono ?_
    rw [show (⟨#[126]⟩ : ByteArray).data.toList = [126] from rfl, HY.out]
    rintro e w3 ⟨_, rfl, rfl, h3, hg3⟩
    have HE' := Lib.hid (HE.out.step (p' := pAdv [126] p) h3 hg3)
    clear HE h3 hg3
    have HE := HE'
    clear HE'
    have hpa : (pAdv [126] p).pos ≤ s.size ∧ 2 * (s.size - (pAdv [126] p).pos) + 1 < f := by simp only [pAdv]; omega
    go_wp2_with fail
    refine (IH.out g s (pAdv [126] p) _ (PAt.below HE.out.at_ (by exact bel)) hpa.1 hs hpa.2).mono ?_
    rintro e wa ⟨x, rfl, hx⟩
    have HX := Lib.hid hx
    obtain ⟨z1, e1, z2, e2, rfl⟩ := hx.form
    clear hx
    go_wp2_with fail
    refine (not_any (f + s.size + 5) _ _ _ _ HX.out.1 (fun b hb => hb.2)).mono ?_
    rintro e wb ⟨y, rfl, hV, hbb⟩
    have HFIN := Lib.hid (show pFrm s.data.toList (f + 1) p = (opF 4 [(pFrm s.data.toList f (pAdv [126] p)).1], (pFrm s.data.toList f (pAdv [126] p)).2) by rw [pFrm]; simp only [H1.out, H2.out, HY.out, if_true, Bool.false_eq_true, if_false])
    have HF := Lib.hid (HX.out.wrap hV hbb (.inl trivial))
    clear hV
    obtain ⟨FF, hFF⟩ : ∃ FF, opF 4 [(pFrm s.data.toList f (pAdv [126] p)).1] = FF := ⟨_, rfl⟩
    rw [hFF] at HF HFIN
    clear hFF
    obtain ⟨q1, d1, q2, d2, rfl⟩ := HF.out.form
    obtain ⟨r0, r1, r2, r3, r4, rf⟩ := cells5_cell (HE.out.kept HF.out)
    have hrb := bsz (heap_lt (HE.out.kept HF.out))
    go_wp2
    refine bodyPost_ret (v := .agg #[.int .i64 (FF).op, .string (FF).a.n, .slice q1 (FF).a.us.length d1, .string (FF).v, .slice q2 (FF).ps.length d2]) (by simp only [results, Tryz.results186]; go_simp) rfl ⟨_, rfl, ?_⟩
    rw [HFIN.out]
    exact FmP.mono (by omega) (HE.out.hand HF.out _ _ _ _ _)
  have H3 := Lib.hid h3
  clear h3
  go_wp2_with fail
  refine (take_any g s _ p _ (PAt.below HE.out.at_ (by exact bel)) hp (by omega) (by decide)).mono ?_
  rw [show (⟨#[126]⟩ : ByteArray).data.toList = [126] from rfl, H3.out]
  rintro e w3 ⟨_, rfl, rfl, h3, hg3⟩
  have HE' := Lib.hid (HE.out.step (p' := p) h3 hg3)
  clear HE h3 hg3
  have HE := HE'
  clear HE'
  cases h4 : pTake s.data.toList [40] p
  case true =>
    have HY := Lib.hid h4
    have hle := pTake_le h4 (by rw [← size_list]; exact hp)
    rw [← size_list] at hle
    have hkl : ([40] : List UInt8).length = 1 := rfl
    clear h4
    go_wp2_with fail
    refine (take_any g s _ p _ (PAt.below HE.out.at_ (by exact bel)) hp (by omega) (by decide)).mono ?_
    rw [show (⟨#[40]⟩ : ByteArray).data.toList = [40] from rfl, HY.out]
    rintro e w4 ⟨_, rfl, rfl, h4, hg4⟩
    have HE' := Lib.hid (HE.out.step (p' := pAdv [40] p) h4 hg4)
    clear HE h4 hg4
    have HE := HE'
    clear HE'
    obtain ⟨f', rfl⟩ : ∃ f', f = f' + 1 := ⟨f - 1, by omega⟩
    have hpa : (pAdv [40] p).pos ≤ s.size ∧ 2 * (s.size - (pAdv [40] p).pos) + 1 < f' := by simp only [pAdv]; omega
    go_wp2_with fail
    refine (inner_of f' (IH2.out f' rfl) g s (pAdv [40] p) _ (PAt.below HE.out.at_ (by exact bel)) hpa.1 hs hpa.2).mono ?_
    rintro e wa ⟨x, rfl, hx⟩
    have HF := Lib.hid hx
    clear hx
    have HFIN := Lib.hid (show pFrm s.data.toList (f' + 1 + 1) p = pInn s.data.toList (f' + 1) (pAdv [40] p) by rw [pFrm]; simp only [H1.out, H2.out, H3.out, HY.out, if_true, Bool.false_eq_true, if_false])
    obtain ⟨FF, hFF⟩ : ∃ FF, pInn s.data.toList (f' + 1) (pAdv [40] p) = FF := ⟨_, rfl⟩
    rw [hFF] at HF HFIN
    clear hFF
    obtain ⟨q1, d1, q2, d2, rfl⟩ := HF.out.form
    obtain ⟨r0, r1, r2, r3, r4, rf⟩ := cells5_cell (HE.out.kept HF.out)
    have hrb := bsz (heap_lt (HE.out.kept HF.out))
    go_wp2
    refine bodyPost_ret (v := .agg #[.int .i64 (FF.1).op, .string (FF.1).a.n, .slice q1 (FF.1).a.us.length d1, .string (FF.1).v, .slice q2 (FF.1).ps.length d2]) (by simp only [results, Tryz.results186]; go_simp) rfl ⟨_, rfl, ?_⟩
    rw [HFIN.out]
    exact FmP.mono (by omega) (HE.out.hand HF.out _ _ _ _ _)
  have H4 := Lib.hid h4
  clear h4
  go_wp2_with fail
  refine (take_any g s _ p _ (PAt.below HE.out.at_ (by exact bel)) hp (by omega) (by decide)).mono ?_
  rw [show (⟨#[40]⟩ : ByteArray).data.toList = [40] from rfl, H4.out]
  rintro e w4 ⟨_, rfl, rfl, h4, hg4⟩
  have HE' := Lib.hid (HE.out.step (p' := p) h4 hg4)
  clear HE h4 hg4
  have HE := HE'
  clear HE'
  go_wp2_with fail
  refine (patom_any (s.size + 2) g s p _ (PAt.below HE.out.at_ (by exact bel)) hp hs (by omega)).mono ?_
  rintro e wa ⟨x, rfl, v0, v1, rfl, hO, hP, hga⟩
  obtain ⟨pp, cc, rfl, rfl, -⟩ := hO.form
  have HFIN := Lib.hid (show pFrm s.data.toList (f + 1) p = (atomF (pAtomT s.data.toList (s.size + 2) p).1, (pAtomT s.data.toList (s.size + 2) p).2) by rw [pFrm]; simp only [H1.out, H2.out, H3.out, H4.out, Bool.false_eq_true, if_false]; rw [← size_list])
  obtain ⟨r, hr⟩ : ∃ r, pAtomT s.data.toList (s.size + 2) p = r := ⟨_, rfl⟩
  rw [hr] at HFIN hO hP
  obtain ⟨t, p1⟩ := r
  simp only [hr] at hO hP HFIN ⊢
  clear hr
  have HO := Lib.hid hO
  have HP := Lib.hid hP
  have HGA := Lib.hid hga
  have hza := hga.size
  have HEA := Lib.hid (HE.out.step (p' := p1) hP hga)
  clear hO hP hga
  obtain ⟨r0, r1, r2, r3, r4, rf⟩ := cells5_cell HEA.out.res
  have hrb := bsz (heap_lt HEA.out.res)
  have HEB := Lib.hid (HEA.out.step (p' := p1) (HEA.out.at_.below ((Below.refl wa.heap.size wa).alloc (Nat.le_refl _) (.cells #[.string t.n, .slice pp t.us.length cc] 41))) (gr_al (gr_refl wa g) _))
  by_cases hu : t.us = []
  · have hlen : ((t.us.length : Int) == 0) = true := by rw [hu]; rfl
    by_cases hn : t.n.data.toList = sTrue8
    · have HF2 := Lib.hid (show atomF t = opF 1 [] by rw [atomF, if_pos ⟨hn, hu⟩])
      have hn2 : (t.n.toList == [116, 114, 117, 101]) = true := by rw [ByteArray.toList_eq, hn]; rfl
      clear hn hu
      go_wp2
      refine bodyPost_ret (v := .agg #[.int .i64 1, .string ⟨#[]⟩, .slice none 0 0, .string ⟨#[]⟩, .slice none 0 0]) (by simp only [results, Tryz.results186]; go_simp) rfl ⟨_, rfl, ?_⟩
      rw [HFIN.out, HF2.out]
      exact (HEA.out.hand (m := f + 1 + s.size + 6) ⟨⟨_, _, _, _, _, rfl, opF_own (m := f + 1 + s.size + 4) (by omega) (OwnRow.nil _ _ _ _ _)⟩, HEA.out.at_, gr_refl _ _⟩ _ _ _ _ _).later ((Below.refl _ _).alloc (Nat.le_refl _) _)
    · have hn2 : (t.n.toList == [116, 114, 117, 101]) = false := by rw [ByteArray.toList_eq]; simpa [sTrue8] using hn
      by_cases hm : t.n.data.toList = sFalse8
      · have HF2 := Lib.hid (show atomF t = opF 2 [] by rw [atomF, if_neg (fun h => hn h.1), if_pos ⟨hm, hu⟩])
        have hm2 : (t.n.toList == [102, 97, 108, 115, 101]) = true := by rw [ByteArray.toList_eq, hm]; rfl
        clear hn hu hm
        go_wp2
        refine bodyPost_ret (v := .agg #[.int .i64 2, .string ⟨#[]⟩, .slice none 0 0, .string ⟨#[]⟩, .slice none 0 0]) (by simp only [results, Tryz.results186]; go_simp) rfl ⟨_, rfl, ?_⟩
        rw [HFIN.out, HF2.out]
        exact (HEA.out.hand (m := f + 1 + s.size + 6) ⟨⟨_, _, _, _, _, rfl, opF_own (m := f + 1 + s.size + 4) (by omega) (OwnRow.nil _ _ _ _ _)⟩, HEA.out.at_, gr_refl _ _⟩ _ _ _ _ _).later ((Below.refl _ _).alloc (Nat.le_refl _) _)
      · have HF2 := Lib.hid (show atomF t = atomOfF t by rw [atomF, if_neg (fun h => hn h.1), if_neg (fun h => hm h.1)])
        have hm2 : (t.n.toList == [102, 97, 108, 115, 101]) = false := by rw [ByteArray.toList_eq]; simpa [sFalse8] using hm
        clear hn hu hm
        go_wp2_with fail
        refine (atomOf_any (s.size + 2 + 2) _ t _ _ _ (TmOwn.below (by exact bel) HO.out)).mono ?_
        rintro e wb ⟨y, rfl, hV, hbb⟩
        obtain ⟨y0, y1, y2, y3, y4, rfl, hOy⟩ := hV
        have HF := Lib.hid (show FmP (s.size + 2 + 2 + 1) g s (atomOfF t) p1 w4 _ wb from ⟨⟨_, _, _, _, _, rfl, FmOwn.mono _ _ _ _ (Nat.le_refl _) (SameOn.refl _ _) (fun b hb => ⟨hb.1, by have := hbb.size; have := hb.2; simp at *; omega⟩) hOy⟩, HEB.out.at_.below hbb, gr_below (gr_al HGA.out _) hbb⟩)
        obtain ⟨q1, d1, q2, d2, rfl, rfl, rfl, rfl, rfl, -⟩ := hOy.form
        clear hOy r0 r1 r2 r3 r4 rf hrb
        obtain ⟨r0, r1, r2, r3, r4, rf⟩ := cells5_cell (HE.out.kept HF.out)
        have hrb := bsz (heap_lt (HE.out.kept HF.out))
        go_wp2
        refine bodyPost_ret (v := .agg #[.int .i64 (atomOfF t).op, .string (atomOfF t).a.n, .slice q1 (atomOfF t).a.us.length d1, .string (atomOfF t).v, .slice q2 (atomOfF t).ps.length d2]) (by simp only [results, Tryz.results186]; go_simp) rfl ⟨_, rfl, ?_⟩
        rw [HFIN.out, HF2.out]
        exact FmP.mono (by omega) (HE.out.hand HF.out _ _ _ _ _)
  · have hlen : ((t.us.length : Int) == 0) = false := by rw [beq_eq_false_iff_ne]; intro e; exact hu (List.eq_nil_of_length_eq_zero (by omega))
    have HF2 := Lib.hid (show atomF t = atomOfF t by rw [atomF, if_neg (fun h => hu h.2), if_neg (fun h => hu h.2)])
    clear hu
    cases hn2 : (t.n.toList == [116, 114, 117, 101]) <;> cases hm2 : (t.n.toList == [102, 97, 108, 115, 101])
    all_goals
      go_wp2_with fail
      refine (atomOf_any (s.size + 2 + 2) _ t _ _ _ (TmOwn.below (by exact bel) HO.out)).mono ?_
      rintro e wb ⟨y, rfl, hV, hbb⟩
      obtain ⟨y0, y1, y2, y3, y4, rfl, hOy⟩ := hV
      have HF := Lib.hid (show FmP (s.size + 2 + 2 + 1) g s (atomOfF t) p1 w4 _ wb from ⟨⟨_, _, _, _, _, rfl, FmOwn.mono _ _ _ _ (Nat.le_refl _) (SameOn.refl _ _) (fun b hb => ⟨hb.1, by have := hbb.size; have := hb.2; simp at *; omega⟩) hOy⟩, HEB.out.at_.below hbb, gr_below (gr_al HGA.out _) hbb⟩)
      obtain ⟨q1, d1, q2, d2, rfl, rfl, rfl, rfl, rfl, -⟩ := hOy.form
      clear hOy r0 r1 r2 r3 r4 rf hrb
      obtain ⟨r0, r1, r2, r3, r4, rf⟩ := cells5_cell (HE.out.kept HF.out)
      have hrb := bsz (heap_lt (HE.out.kept HF.out))
      go_wp2
      refine bodyPost_ret (v := .agg #[.int .i64 (atomOfF t).op, .string (atomOfF t).a.n, .slice q1 (atomOfF t).a.us.length d1, .string (atomOfF t).v, .slice q2 (atomOfF t).ps.length d2]) (by simp only [results, Tryz.results186]; go_simp) rfl ⟨_, rfl, ?_⟩
      rw [HFIN.out, HF2.out]
      exact FmP.mono (by omega) (HE.out.hand HF.out _ _ _ _ _)
theorem frm_any : ∀ f : Nat, FrmC f ∧ FrmC (f + 1)
  | 0 => ⟨fun _ _ _ _ _ _ _ hf => absurd hf (by omega), fun _ _ _ _ _ _ _ hf => absurd hf (by omega)⟩
  | f + 1 => ⟨(frm_any f).2, fun g s p w h hp hs hf => formula_of (f + 1) (frm_any f).2 (fun f' hf' => (show f = f' by omega) ▸ (frm_any f).1) g s p w h hp hs hf⟩
end Go.Proofs.YtkgfanajgdelcaaGreatDoor
