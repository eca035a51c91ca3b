import Derived.Test.YtabkdonplmlbcaaGreatDoorStPart38
namespace Go.Proofs.YtabkdonplmlbcaaGreatDoor
set_option maxRecDepth 100000
open Go.RowKit
def QArgRel (ro : Obj) (w : World) (g rb bt : Nat) (s : ByteArray) (n : List UInt8) (all : List Tm) (pe : PSt) (wr : World) : Prop :=
 ∃ (f' : Nat) (p' : PSt) (v : Value) (xs : List Tm), TSt 64 51 ro w g rb bt s n p' v xs (s.size + 2) wr ∧ xs ++ (qArgs s.data.toList f' p').1 = all ∧ (qArgs s.data.toList f' p').2 = pe ∧ s.size - p'.pos < f' ∧ p'.pos ≤ s.size ∧ xs.length ≤ p'.pos
theorem qName_le (L : List UInt8) (p : PSt) (hp : p.pos ≤ L.length) : (qTerm L p).1.n.data.toList.length ≤ L.length ∧ (qTerm L p).1.us.length ≤ (qTerm L p).2.pos := by
 have h := qTerm_wt L p hp
 have e : (qTerm L p).1.wt = (qTerm L p).1.n.size + (qTerm L p).1.us.length + Tm.wts (qTerm L p).1.us := by cases (qTerm L p).1; rfl
 rw [size_list] at e
 omega
theorem FmQ.atom {f g rb bt : Nat} {s : ByteArray} {ro : Obj} {w W : World} {n : List UInt8} {p : PSt} {v : Value} {xs : List Tm} (h : TSt 64 51 ro w g rb bt s n p v xs f W) (hn : n.length ≤ 1000000) (a0 a1 a2 a3 a4 : Value) :
  FmQ (f + 3) g s (atomOfF (.mk ⟨n.toArray⟩ xs)) p w (.agg #[.int .i64 3, .string ⟨n.toArray⟩, v, .string ⟨#[]⟩, .slice none 0 0]) (((((W.setCell ⟨rb, 0, none⟩ a0).setCell ⟨rb, 1, none⟩ a1).setCell ⟨rb, 2, none⟩ a2).setCell ⟨rb, 3, none⟩ a3).setCell ⟨rb, 4, none⟩ a4) :=
 FmQ.of (S := fun b => rb < b ∧ b ≠ bt ∧ b < W.heap.size) h.at_ h.gr (Below.refl _ _) ⟨_, _, _, _, _, rfl, FmOwn.mono _ _ _ _ (by omega) (SameOn.refl _ _) (fun _ h => h) (atomF_own (h.term hn))⟩ (fun b hb => ⟨hb.1, hb.2.2⟩) h.lt.2.1 (by have := h.lt; omega) _ _ _ _ _
set_option maxHeartbeats 3200000 in
theorem refAtom_hold (g : Nat) (s : ByteArray) (p : PSt) (w : World) (h : PAt 51 w g s p) (hp : p.pos ≤ s.size) (hs : s.size ≤ 1000000) (h1 : pTake s.data.toList sEquals (qTerm s.data.toList p).2 = false) :
  Calls Tryz.prog 87 #[.pointer (some ⟨g, 0, none⟩)] w fun e w' => ∃ x, e = .returned x ∧ FmQ (s.size + 5) g s (qAtom s.data.toList p).1 (qAtom s.data.toList p).2 w x w' := by
 have H := Lib.hid h
 have hg := bsz h.lt
 have hpos := qTerm_wt s.data.toList p (by rw [← size_list]; exact hp)
 have hnm := qName_le s.data.toList p (by rw [← size_list]; exact hp)
 have HA := Lib.hid h1
 have HPA := Lib.hid (show qAtom s.data.toList p = if pTake s.data.toList sOf (qHold s.data.toList (qTerm s.data.toList p)) then
  (atomOfF (.mk (qTerm s.data.toList p).1.n ((qTerm s.data.toList p).1.us ++ (qTerm s.data.toList (pAdv sOf (qHold s.data.toList (qTerm s.data.toList p)))).1 :: (qArgs s.data.toList (s.size + 2) (qTerm s.data.toList (pAdv sOf (qHold s.data.toList (qTerm s.data.toList p)))).2).1)), (qArgs s.data.toList (s.size + 2) (qTerm s.data.toList (pAdv sOf (qHold s.data.toList (qTerm s.data.toList p)))).2).2)
 else (atomOfF (qTerm s.data.toList p).1, qHold s.data.toList (qTerm s.data.toList p)) by rw [qAtom, h1]; rfl)
 rw [← size_list] at hpos
 rw [← size_list, ← size_list] at hnm
 clear h h1
 go_enter Tryz.func87, Tryz.ntmps87
 go_wp2_with fail
 refine (refTerm_any g s p _ (H.out.below (by exact bel)) hp hs).mono ?_
 rintro e w1 ⟨x, rfl, v0, v1, rfl, hO, hP1, hg1⟩
 obtain ⟨pp, cc, rfl, rfl, -⟩ := hO.form
 generalize qTerm s.data.toList p = r at *
 obtain ⟨⟨tn, tus⟩, p1⟩ := r
 simp only [Tm.n, Tm.us] at hpos hO HA hP1 HPA hnm
 have HO := Lib.hid (show TmOwn 64 (s.size + 2) (fun b => w.heap.size + 1 ≤ b ∧ b < w1.heap.size) w1 (.mk tn tus) _ by simpa using hO)
 have HG1 := Lib.hid hg1
 have ⟨c1, f1⟩ := gcell hg1
 have hz1 := hg1.size
 (try simp at hz1)
 have HP1 := Lib.hid hP1
 clear hO hP1 hg1
 go_wp2_with fail
 refine (refTake_any g s _ p1 _ (HP1.out.below (by exact bel)) hpos.2 (by omega) (by decide)).mono ?_
 rw [show (⟨#[32, 101, 113, 117, 97, 108, 115, 32]⟩ : ByteArray).data.toList = sEquals from rfl, HA.out]
 rintro e w2 ⟨_, rfl, rfl, h2, hg2⟩
 have HTS := Lib.hid (TSt.initT (s := s) (t := .mk tn tus) (by omega) HO.out HG1.out hg2 h2)
 simp only [Tm.n, Tm.us] at HTS
 clear h2 hg2 c1 f1
 go_wp2_with fail
 refine (refWant_any g s _ p1 _ (PAt.below HTS.out.at_ (by exact bel)) hpos.2 (by omega) (by decide)).mono ?_
 rw [show (⟨#[32, 104, 111, 108, 100, 115]⟩ : ByteArray).data.toList = sHolds from rfl]
 rintro e w3 ⟨_, rfl, rfl, h3, hg3⟩
 have HT3 := Lib.hid (HTS.out.reader (p' := pMust s.data.toList sHolds p1) h3 hg3)
 clear h3 hg3
 have hpm := pMust_pos s.data.toList sHolds p1 (by rw [← size_list]; exact hpos.2)
 rw [← size_list] at hpm
 cases tus with
 | cons a us =>
  obtain ⟨b0, b1, bf⟩ := cells2_cell HT3.out.cell
  simp only [List.length_cons] at b1
  obtain ⟨d0, d1, d2, df⟩ := HT3.out.at_.cells
  have hlt3 := HT3.out.lt
  have hz2 := bsz (show g < w3.heap.size by omega)
  have hz3 := bsz (show w1.heap.size < w3.heap.size by omega)
  have hu0 : (0 : Int) < (us.length : Int) + 1 := by omega
  have HFIN := Lib.hid (show qAtom s.data.toList p = (atomOfF (.mk tn (a :: us)), ⟨(pMust s.data.toList sHolds p1).pos, true⟩) by
   rw [HPA.out, show qHold s.data.toList (.mk tn (a :: us), p1) = ⟨(pMust s.data.toList sHolds p1).pos, true⟩ from rfl, if_neg (by simp [pTake])])
  go_wp2_with fail
  have HT4 := Lib.hid (HT3.out.reader (p' := ⟨(pMust s.data.toList sHolds p1).pos, true⟩) HT3.out.at_.fail (gr_sc (gr_refl w3 g) (.inl rfl) _))
  clear b0 b1 bf d0 d1 d2 df
  refine (refTake_any g s _ ⟨(pMust s.data.toList sHolds p1).pos, true⟩ _ (PAt.below HT4.out.at_ (by exact bel)) hpm.2 (by omega) (by decide)).mono ?_
  rw [show pTake s.data.toList (⟨#[32, 111, 102, 32]⟩ : ByteArray).data.toList ⟨(pMust s.data.toList sHolds p1).pos, true⟩ = false from rfl, if_neg Bool.false_ne_true]
  rintro e w4 ⟨_, rfl, rfl, h4, hg4⟩
  have HT5 := Lib.hid (HT4.out.reader h4 hg4)
  clear h4 hg4
  obtain ⟨pv, cv, hvv, -⟩ := HT5.out.row.form
  (try subst hvv)
  obtain ⟨b0, b1, -⟩ := cells2_cell HT5.out.cell
  obtain ⟨r0, r1, r2, r3, r4, rf⟩ := cells5_cell HT5.out.res
  have hrb := bsz (heap_lt HT5.out.res)
  have hltt := HT5.out.lt
  (try simp only [List.length_cons] at b1)
  go_wp2
  refine bodyPost_ret (v := .agg #[.int .i64 3, .string ⟨tn.data⟩, .slice pp (us.length + 1) cc, .string ⟨#[]⟩, .slice none 0 0]) (by simp only [results, Tryz.results87]; go_simp) rfl ⟨_, rfl, ?_⟩
  rw [HFIN.out]
  exact FmQ.mono (by omega) (FmQ.atom HT5.out (by rw [← size_list]; omega) _ _ _ _ _)
 | nil =>
  obtain ⟨b0, b1, bf⟩ := cells2_cell HT3.out.cell
  simp only [List.length_nil] at b1
  have hlt3 := HT3.out.lt
  have hz3 := bsz (show w1.heap.size < w3.heap.size by omega)
  have HPB := Lib.hid HPA.out
  rw [show qHold s.data.toList (.mk tn [], p1) = pMust s.data.toList sHolds p1 from rfl] at HPB
  generalize pMust s.data.toList sHolds p1 = pm at *
  cases hT : pTake s.data.toList sOf pm
  ·have HT := Lib.hid hT
   have HFIN := Lib.hid (show qAtom s.data.toList p = (atomOfF (.mk tn []), pm) by rw [HPB.out, hT]; rfl)
   go_wp2_with fail
   clear b0 b1 bf
   refine (refTake_any g s _ pm _ (PAt.below HT3.out.at_ (by exact bel)) hpm.2 (by omega) (by decide)).mono ?_
   rw [show (⟨#[32, 111, 102, 32]⟩ : ByteArray).data.toList = sOf from rfl, HT.out]
   rintro e w4 ⟨_, rfl, rfl, h4, hg4⟩
   have HT5 := Lib.hid (HT3.out.reader (p' := pm) h4 hg4)
   clear h4 hg4
   obtain ⟨pv, cv, hvv, -⟩ := HT5.out.row.form
   (try subst hvv)
   obtain ⟨b0, b1, -⟩ := cells2_cell HT5.out.cell
   obtain ⟨r0, r1, r2, r3, r4, rf⟩ := cells5_cell HT5.out.res
   have hrb := bsz (heap_lt HT5.out.res)
   have hltt := HT5.out.lt
   (try simp only [List.length_nil] at b1)
   go_wp2
   refine bodyPost_ret (v := .agg #[.int .i64 3, .string ⟨tn.data⟩, .slice pp 0 cc, .string ⟨#[]⟩, .slice none 0 0]) (by simp only [results, Tryz.results87]; go_simp) rfl ⟨_, rfl, ?_⟩
   rw [HFIN.out]
   exact FmQ.mono (by omega) (FmQ.atom HT5.out (by rw [← size_list]; omega) _ _ _ _ _)
  ·have HT := Lib.hid hT
   have hle := pTake_le hT (by rw [← size_list]; exact hpm.2)
   rw [← size_list] at hle
   have hl4 : sOf.length = 4 := rfl
   go_wp2_with fail
   clear b0 b1 bf
   refine (refTake_any g s _ pm _ (PAt.below HT3.out.at_ (by exact bel)) hpm.2 (by omega) (by decide)).mono ?_
   rw [show (⟨#[32, 111, 102, 32]⟩ : ByteArray).data.toList = sOf from rfl, HT.out]
   rintro e w4 ⟨_, rfl, rfl, h4, hg4⟩
   have HTS0 := Lib.hid (HT3.out.reader (p' := pAdv sOf pm) h4 hg4)
   clear h4 hg4 HTS
   have HTS := Lib.hid HTS0.out
   simp only [List.length_nil] at HTS
   clear HTS0
   have HBT := Lib.hid (show w4.cell? ⟨w1.heap.size, 1, none⟩ = some (.slice pp 0 cc) from (cells2_cell HTS.out.cell).2.1)
   have HNE := Lib.hid (show w1.heap.size ≠ g by omega)
   go_wp2
   obtain ⟨tq, htq⟩ : ∃ tq, (qTerm s.data.toList (pAdv sOf pm)).1 = tq := ⟨_, rfl⟩
   obtain ⟨pq, hpq⟩ : ∃ pq, (qTerm s.data.toList (pAdv sOf pm)).2 = pq := ⟨_, rfl⟩
   have HTQ := Lib.hid htq
   have HPQ := Lib.hid hpq
   have HRD := Lib.hid (show (pAdv sOf pm).pos ≤ s.size by simp only [pAdv]; omega)
   have HLEN := Lib.hid (show ([] : List Tm).length + 1 ≤ 1000000 by decide)
   have HFIN := Lib.hid (show qAtom s.data.toList p = (atomOfF (.mk tn (tq :: (qArgs s.data.toList (s.size + 2) pq).1)), (qArgs s.data.toList (s.size + 2) pq).2) by rw [HPB.out, HT.out, if_pos rfl, htq, hpq]; rfl)
   have hpp := qTerm_wt s.data.toList (pAdv sOf pm) (by rw [← size_list]; exact HRD.out)
   rw [hpq, ← size_list] at hpp
   have HPP := Lib.hid (show 4 ≤ pq.pos ∧ pq.pos ≤ s.size by simp only [pAdv] at hpp; omega)
   clear htq hpq hpp
   obtain ⟨CP, hCP0⟩ : ∃ CP : Value → World → Prop, CP = TermP 64 g w4.heap.size s (s.size + 2) tq pq 51 w4.drew := ⟨_, rfl⟩
   have HCP := Lib.hid hCP0
   have HGR := Lib.hid (show ∀ x w', CP x w' → w4.grownBy w' (some g) from by
    rw [hCP0]; rintro x w' ⟨_, _, _, _, _, hG⟩; exact ⟨hG.os, hG.tape, hG.output, hG.size, hG.block⟩)
   have HAGG := Lib.hid (show ∀ x w', CP x w' → ∃ v0 v1, x = .agg #[v0, v1] ∧ v0.oneCell' = true ∧ v1.oneCell' = true from by
    rw [hCP0]; rintro x w' ⟨v0, v1, hx, hO, _, _⟩
    obtain ⟨pp, cc, rfl, rfl, -⟩ := hO.form
    exact ⟨_, _, hx, rfl, rfl⟩)
   clear hCP0
   refine wp_region_stages [some (.pointer (some ⟨w1.heap.size, 1, none⟩)), some (.slice pp 0 cc), some (.pointer (some ⟨g, 0, none⟩)), none, none, none, some (.pointer (some ⟨w1.heap.size, 1, none⟩)), none] [3, 4, 5, 7] (AppSt 64 g w1.heap.size CP (.slice pp 0 cc) 0 w4 3 4 5) (by kernel_rfl) (by kernel_rfl) (by first | kernel_rfl | rfl) (by rfl) rfl ?_
   refine chain_st rfl rfl (by decide) rfl (by intro j u w' hS; go_simp; first | done | exact ⟨hS, rfl⟩ | exact hS | rfl) ?_
   go_simp
   refine chain_stb (c := 5) 2 rfl rfl (by decide) rfl rfl rfl (by first | kernel_rfl | rfl) ?_ ?_
   ·intro j u w' hj hS
    have hc := AppSt.cell HGR.out HBT.out HNE.out hj hS
    go_simp
    first | done | exact ⟨hS, rfl⟩ | exact hS | rfl
   go_simp
   refine chain_st rfl rfl (by decide) rfl (by intro j u w' hS; go_simp; first | done | exact ⟨hS, rfl⟩ | exact hS | rfl) ?_
   go_simp
   refine chain_first rfl rfl rfl (by decide) rfl ?_ ?_
   ·intro w' hS
    obtain rfl : w' = w4.drew := hS
    go_simp
    refine (refTerm_any g s _ _ (PAt.below HTS.out.at_ (by exact bel)) HRD.out hs).mono ?_
    rintro e w'' ⟨x, he, hx⟩
    rw [HTQ.out, HPQ.out] at hx
    exact ⟨x, he, by show CP (upd _ 3 x 3) w''; rw [upd_same, HCP.out]; exact hx⟩
   intro x
   go_simp
   refine chain_next 0 rfl rfl rfl rfl (by decide) rfl (by first | kernel_rfl | rfl) ?_ ?_
   ·intro w' hS
    have hS : CP (upd _ 3 x 3) w' := hS
    rw [upd_same] at hS
    obtain ⟨v0, v1, rfl, o0, o1⟩ := HAGG.out _ _ hS
    go_simp
    exact ⟨w', v0, v1, hS, by rw [upd_same], rfl⟩
   intro y
   go_simp
   refine chain_next 1 rfl rfl rfl rfl (by decide) rfl (by first | kernel_rfl | rfl) ?_ ?_
   ·intro w' hS
    obtain ⟨w1', v0, v1, hcp, hy, rfl⟩ := hS
    rw [upd_same] at hy
    subst hy
    obtain ⟨v0', v1', he, o0, o1⟩ := HAGG.out _ _ hcp
    simp only [Value.agg.injEq, Array.mk.injEq, List.cons.injEq, and_true] at he
    obtain ⟨rfl, rfl⟩ := he
    have hG1 := HGR.out _ _ hcp
    obtain ⟨hm, vals, Ss, r1, r2, r3, r4⟩ := HTS.out.row
    have hlt := HTS.out.lt
    have hlen := HLEN.out
    refine each_app1 (.tmp 26) (.tmp 29) _ rfl 0 64 2 40 elemTmI (.slice pp 0 cc) _ vals rfl w1' #[v0, v1] rfl rfl (own_same r1 fun b hb hl => hG1.block b hl (by have := r2 b hb; simp; omega)) rfl (by intro u hu; simp at hu; rcases hu with rfl | rfl <;> assumption) (by omega) (by unfold maxLen; omega) (Nat.zero_le _) ?_
    intro v' w3 happ hg3 hnr hsz
    exact ⟨w1', v0, v1, hcp, by rw [upd_same]; exact happ, hg3, by rw [upd_same]; exact hnr, hsz⟩
   intro z
   go_simp
   refine chain_st rfl rfl (by decide) rfl (by intro j u w' hS; go_simp; first | done | exact ⟨hS, rfl⟩ | exact hS | rfl) ?_
   go_simp
   refine chain_next 2 rfl rfl rfl rfl (by decide) rfl (by first | kernel_rfl | rfl) ?_ ?_
   ·intro w' hS
    obtain ⟨w1', v0, v1, hcp, happ, hg3, hnr, hsz⟩ := hS
    rw [upd_same] at happ hnr
    obtain ⟨⟨q', c', rfl⟩, hbt⟩ := HTS.out.three HGR.out hcp happ hg3
    have hcell : w'.cell? ⟨w1.heap.size, 1, none⟩ = some (.slice pp 0 cc) := by rw [cell_of_row w' _ 1 _ _ (0, 0) hbt]; rfl
    have hfro : w'.frozen? ⟨w1.heap.size, 1, none⟩ = false := frozen_of_row w' _ 1 _ _ hbt
    clear hbt
    go_simp
    refine ⟨w1', w', v0, v1, hcp, ?_, hg3, ?_, hsz, ?_⟩
    ·rw [upd_other _ _ (by decide), upd_same]; exact happ
    ·rw [upd_other _ _ (by decide), upd_same]; exact hnr
    ·rw [upd_other _ _ (by decide), upd_same]
   intro x'
   refine flowU_nil ?_
   intro wz hz
   have HZ := Lib.hid (HTS.out.app (by have := hz; rw [HCP.out] at this; exact this) HLEN.out)
   rw [upd_other _ _ (by decide), upd_same] at HZ
   clear hz
   go_simp
   go_wp2
   go_loopw [] (QArgRel (.cells #[.int .i64 0, .string ⟨#[]⟩, .slice none 0 0, .string ⟨#[]⟩, .slice none 0 0] 67 (0, 0)) w g w.heap.size w1.heap.size s tn.data.toList (tq :: (qArgs s.data.toList (s.size + 2) pq).1) (qArgs s.data.toList (s.size + 2) pq).2) (fun wr => s.size - posOf wr g)
   case atStart => exact ⟨s.size + 2, pq, z, [tq], by simpa using HZ.out, rfl, rfl, by omega, HPP.out.2, by have := HPP.out; simp; omega⟩
   case round =>
    obtain ⟨f', p', v, xs, hts, hal, hpe, hfu, hpl, hxl⟩ := hrel
    have HTS2 := Lib.hid hts
    have HAL := Lib.hid (And.intro hal hpe)
    have HPO := hts.at_.posOf
    clear hts hal hpe HTS HBT HNE HTQ HPQ HRD HLEN HZ
    obtain ⟨f'', rfl⟩ : ∃ q, f' = q + 1 := ⟨f' - 1, by omega⟩
    have hg' := bsz HTS2.out.at_.lt
    obtain ⟨k', bad'⟩ := p'
    obtain ⟨d0, d1, d2, df⟩ := HTS2.out.at_.cells
    simp only at d1 d2 hfu hpl hxl HPO
    cases bad'
    ·cases hT2 : pTake s.data.toList sComma ⟨k', false⟩
     ·have HEND := Lib.hid (show qArgs s.data.toList (f'' + 1) ⟨k', false⟩ = ([], ⟨k', false⟩) by rw [qArgs, hT2]; rfl)
      have HT2 := Lib.hid (show (⟨#[44, 32]⟩ : ByteArray).data.toList.isPrefixOf (s.data.toList.drop k') = false from hT2)
      clear hT2
      go_wp2
      refine wp_region_flowC wr.heap.size [(⟨g, 0, none⟩, .string s), (⟨g, 1, none⟩, .int .i64 (k' : Nat)), (⟨g, 2, none⟩, .bool false)] (by kernel_rfl) (by kernel_rfl) (by first | (intro _ hs; cases hs; done) | (simp only [List.forall_mem_cons]; go_simp)) fun C HC => ?_
      repeat (first | ((first | apply flow_free rfl | (apply flow_yes; (case hw => go_simp))); (intro L w' hun hrd hC; have ⟨hC, hb', hf'⟩ := flO HC hC; (try simp only [List.forall_mem_cons] at hf'); go_simp; first | exact ⟨flS HC hC, rfl⟩ | (rw [if_neg]; (exact ⟨flS HC hC, rfl⟩); omega) | (go_at_call 54; refine ((same_below (l8Starts_any s _ k' _ hpl (by omega) (by decide)))).mono ?_; rintro e w1 ⟨rfl, hb1⟩; exact ⟨rfl, flN HC hC (by first | (simp; done) | (simp; omega) | omega) hb1⟩)); go_simp) | (apply flow_noC HC; (case hw => (go_simp; try (intro hh; cases hh))); go_simp))
      refine flow_nil ?_
      intro L wz hL hz
      have ⟨_, hbz, hcz⟩ := flO HC hz
      try simp only [List.forall_mem_cons] at hcz
      rw [HT2.out]
      have HTS3 := Lib.hid (HTS2.out.reader (HTS2.out.at_.below hbz) (gr_below (gr_refl wr g) hbz))
      clear d0 d1 d2 df
      obtain ⟨pv, cv, hvv, -⟩ := HTS3.out.row.form
      subst hvv
      obtain ⟨b0, b1, -⟩ := cells2_cell HTS3.out.cell
      obtain ⟨r0, r1, r2, r3, r4, rf⟩ := cells5_cell HTS3.out.res
      have hrb := bsz (heap_lt HTS3.out.res)
      have hltt := HTS3.out.lt
      go_wp2
      refine bodyPost_ret (v := .agg #[.int .i64 3, .string ⟨tn.data⟩, .slice pv xs.length cv, .string ⟨#[]⟩, .slice none 0 0]) (by simp only [results, Tryz.results87]; go_simp) rfl ⟨_, rfl, ?_⟩
      have hal := HAL.out
      rw [HEND.out, List.append_nil] at hal
      rw [HFIN.out, ← hal.1, ← hal.2]
      exact FmQ.mono (by omega) (FmQ.atom HTS3.out (by rw [← size_list]; omega) _ _ _ _ _)
     ·have HSTEP := Lib.hid (show qArgs s.data.toList (f'' + 1) ⟨k', false⟩ = ((qTerm s.data.toList ⟨k' + 2, false⟩).1 :: (qArgs s.data.toList f'' (qTerm s.data.toList ⟨k' + 2, false⟩).2).1, (qArgs s.data.toList f'' (qTerm s.data.toList ⟨k' + 2, false⟩).2).2) by rw [qArgs, hT2]; rfl)
      have HT2 := Lib.hid (show (⟨#[44, 32]⟩ : ByteArray).data.toList.isPrefixOf (s.data.toList.drop k') = true from hT2)
      have hle2 := pTake_le hT2 (by rw [← size_list]; exact hpl)
      rw [← size_list, show sComma.length = 2 from rfl] at hle2
      simp only at hle2
      clear hT2
      go_wp2
      refine wp_region_flowC wr.heap.size [(⟨g, 0, none⟩, .string s), (⟨g, 1, none⟩, .int .i64 (k' : Nat)), (⟨g, 2, none⟩, .bool false)] (by kernel_rfl) (by kernel_rfl) (by first | (intro _ hs; cases hs; done) | (simp only [List.forall_mem_cons]; go_simp)) fun C HC => ?_
      repeat (first | ((first | apply flow_free rfl | (apply flow_yes; (case hw => go_simp))); (intro L w' hun hrd hC; have ⟨hC, hb', hf'⟩ := flO HC hC; (try simp only [List.forall_mem_cons] at hf'); go_simp; first | exact ⟨flS HC hC, rfl⟩ | (rw [if_neg]; (exact ⟨flS HC hC, rfl⟩); omega) | (go_at_call 54; refine ((same_below (l8Starts_any s _ k' _ hpl (by omega) (by decide)))).mono ?_; rintro e w1 ⟨rfl, hb1⟩; exact ⟨rfl, flN HC hC (by first | (simp; done) | (simp; omega) | omega) hb1⟩)); go_simp) | (apply flow_noC HC; (case hw => (go_simp; try (intro hh; cases hh))); go_simp))
      refine flow_nil ?_
      intro L wz hL hz
      have ⟨_, hbz, hcz⟩ := flO HC hz
      try simp only [List.forall_mem_cons] at hcz
      rw [HT2.out]
      have HTS3 := Lib.hid (HTS2.out.reader (HTS2.out.at_.below hbz) (gr_below (gr_refl wr g) hbz))
      have HTS4 := Lib.hid (HTS3.out.reader (p' := ⟨k' + 2, false⟩) (HTS3.out.at_.pos (k' + 2)) (gr_sc (gr_refl wz g) (.inl rfl) _))
      clear d0 d1 d2 df
      obtain ⟨d0, d1, d2, df⟩ := HTS3.out.at_.cells
      simp only at d1 d2
      have hg3 := bsz HTS3.out.at_.lt
      go_wp2
      rw [show ((k' : Int) + 2) = ((k' + 2 : Nat) : Int) by omega]
      obtain ⟨w6, hw6⟩ : ∃ w6, w6 = wz.setCell ⟨g, 1, none⟩ (.int .i64 ((k' + 2 : Nat) : Int)) := ⟨_, rfl⟩
      rw [← hw6] at HTS4 ⊢
      have HTS := Lib.hid HTS4.out
      clear HTS4 HTS3 hw6 d0 d1 d2 df hbz
      have HBT := Lib.hid (show w6.cell? ⟨w1.heap.size, 1, none⟩ = some v from (cells2_cell HTS.out.cell).2.1)
      have HNE := Lib.hid (show w1.heap.size ≠ g by omega)
      obtain ⟨tq2, htq⟩ : ∃ tq2, (qTerm s.data.toList ⟨k' + 2, false⟩).1 = tq2 := ⟨_, rfl⟩
      obtain ⟨pq2, hpq⟩ : ∃ pq2, (qTerm s.data.toList ⟨k' + 2, false⟩).2 = pq2 := ⟨_, rfl⟩
      have HTQ := Lib.hid htq
      have HPQ := Lib.hid hpq
      have HRD := Lib.hid (show (⟨k' + 2, false⟩ : PSt).pos ≤ s.size from hle2)
      have HLEN := Lib.hid (show xs.length + 1 ≤ 1000000 by omega)
      have hpp := qTerm_wt s.data.toList ⟨k' + 2, false⟩ (by rw [← size_list]; exact hle2)
      have hst := HSTEP.out
      have hal := HAL.out
      rw [hpq, ← size_list] at hpp
      simp only at hpp
      rw [htq, hpq] at hst
      rw [hst] at hal
      have HAL2 := Lib.hid hal
      have HPP2 := Lib.hid (show k' + 2 ≤ pq2.pos ∧ pq2.pos ≤ s.size by omega)
      clear htq hpq hpp hst hal HSTEP HAL
      obtain ⟨CP, hCP0⟩ : ∃ CP : Value → World → Prop, CP = TermP 64 g w6.heap.size s (s.size + 2) tq2 pq2 51 w6.drew := ⟨_, rfl⟩
      have HCP := Lib.hid hCP0
      have HGR := Lib.hid (show ∀ x w', CP x w' → w6.grownBy w' (some g) from by
       rw [hCP0]; rintro x w' ⟨_, _, _, _, _, hG⟩; exact ⟨hG.os, hG.tape, hG.output, hG.size, hG.block⟩)
      have HAGG := Lib.hid (show ∀ x w', CP x w' → ∃ v0 v1, x = .agg #[v0, v1] ∧ v0.oneCell' = true ∧ v1.oneCell' = true from by
       rw [hCP0]; rintro x w' ⟨v0, v1, hx, hO, _, _⟩
       obtain ⟨pp, cc, rfl, rfl, -⟩ := hO.form
       exact ⟨_, _, hx, rfl, rfl⟩)
      clear hCP0
      refine wp_region_stages [some (.pointer (some ⟨w1.heap.size, 1, none⟩)), some v, some (.pointer (some ⟨g, 0, none⟩)), none, none, none, some (.pointer (some ⟨w1.heap.size, 1, none⟩)), none] [3, 4, 5, 7] (AppSt 64 g w1.heap.size CP v xs.length w6 3 4 5) (by kernel_rfl) (by kernel_rfl) (by first | kernel_rfl | rfl) (by rfl) rfl ?_
      refine chain_st rfl rfl (by decide) rfl (by intro j u w' hS; go_simp; first | done | exact ⟨hS, rfl⟩ | exact hS | rfl) ?_
      go_simp
      refine chain_stb (c := 5) 2 rfl rfl (by decide) rfl rfl rfl (by first | kernel_rfl | rfl) ?_ ?_
      ·intro j u w' hj hS
       have hc := AppSt.cell HGR.out HBT.out HNE.out hj hS
       go_simp
       first | done | exact ⟨hS, rfl⟩ | exact hS | rfl
      go_simp
      refine chain_st rfl rfl (by decide) rfl (by intro j u w' hS; go_simp; first | done | exact ⟨hS, rfl⟩ | exact hS | rfl) ?_
      go_simp
      refine chain_first rfl rfl rfl (by decide) rfl ?_ ?_
      ·intro w' hS
       obtain rfl : w' = w6.drew := hS
       go_simp
       refine (refTerm_any g s _ _ (PAt.below HTS.out.at_ (by exact bel)) HRD.out hs).mono ?_
       rintro e w'' ⟨x, he, hx⟩
       rw [HTQ.out, HPQ.out] at hx
       exact ⟨x, he, by show CP (upd _ 3 x 3) w''; rw [upd_same, HCP.out]; exact hx⟩
      intro x
      go_simp
      refine chain_next 0 rfl rfl rfl rfl (by decide) rfl (by first | kernel_rfl | rfl) ?_ ?_
      ·intro w' hS
       have hS : CP (upd _ 3 x 3) w' := hS
       rw [upd_same] at hS
       obtain ⟨v0, v1, rfl, o0, o1⟩ := HAGG.out _ _ hS
       go_simp
       exact ⟨w', v0, v1, hS, by rw [upd_same], rfl⟩
      intro y
      go_simp
      refine chain_next 1 rfl rfl rfl rfl (by decide) rfl (by first | kernel_rfl | rfl) ?_ ?_
      ·intro w' hS
       obtain ⟨w1', v0, v1, hcp, hy, rfl⟩ := hS
       rw [upd_same] at hy
       subst hy
       obtain ⟨v0', v1', he, o0, o1⟩ := HAGG.out _ _ hcp
       simp only [Value.agg.injEq, Array.mk.injEq, List.cons.injEq, and_true] at he
       obtain ⟨rfl, rfl⟩ := he
       have hG1 := HGR.out _ _ hcp
       obtain ⟨hm, vals, Ss, r1, r2, r3, r4⟩ := HTS.out.row
       have hlt := HTS.out.lt
       have hlen := HLEN.out
       refine each_app1 (.tmp 57) (.tmp 60) _ rfl 0 64 2 40 elemTmI v _ vals rfl w1' #[v0, v1] rfl rfl (own_same r1 fun b hb hl => hG1.block b hl (by have := r2 b hb; simp; omega)) rfl (by intro u hu; simp at hu; rcases hu with rfl | rfl <;> assumption) (by omega) (by unfold maxLen; omega) (Nat.zero_le _) ?_
       intro v' w3 happ hg3 hnr hsz
       exact ⟨w1', v0, v1, hcp, by rw [upd_same]; exact happ, hg3, by rw [upd_same]; exact hnr, hsz⟩
      intro z'
      go_simp
      refine chain_st rfl rfl (by decide) rfl (by intro j u w' hS; go_simp; first | done | exact ⟨hS, rfl⟩ | exact hS | rfl) ?_
      go_simp
      refine chain_next 2 rfl rfl rfl rfl (by decide) rfl (by first | kernel_rfl | rfl) ?_ ?_
      ·intro w' hS
       obtain ⟨w1', v0, v1, hcp, happ, hg3, hnr, hsz⟩ := hS
       rw [upd_same] at happ hnr
       obtain ⟨⟨q', c', rfl⟩, hbt⟩ := HTS.out.three HGR.out hcp happ hg3
       have hcell : w'.cell? ⟨w1.heap.size, 1, none⟩ = some v := by rw [cell_of_row w' _ 1 _ _ (0, 0) hbt]; rfl
       have hfro : w'.frozen? ⟨w1.heap.size, 1, none⟩ = false := frozen_of_row w' _ 1 _ _ hbt
       clear hbt
       go_simp
       refine ⟨w1', w', v0, v1, hcp, ?_, hg3, ?_, hsz, ?_⟩
       ·rw [upd_other _ _ (by decide), upd_same]; exact happ
       ·rw [upd_other _ _ (by decide), upd_same]; exact hnr
       ·rw [upd_other _ _ (by decide), upd_same]
      intro x'
      refine flowU_nil ?_
      intro wz hz
      have HZ := Lib.hid (HTS.out.app (by have := hz; rw [HCP.out] at this; exact this) HLEN.out)
      rw [upd_other _ _ (by decide), upd_same] at HZ
      clear hz
      go_simp
      go_wp2
      have hpp := HPP2.out
      refine ⟨⟨f'', pq2, z', xs ++ [tq2], HZ.out, by rw [← HAL2.out.1]; simp, HAL2.out.2, by omega, hpp.2, by simp; omega⟩, ?_⟩
      rw [HZ.out.at_.posOf, HPO]
      show s.size - pq2.pos < s.size - k'
      omega
    ·have HEND := Lib.hid (show qArgs s.data.toList (f'' + 1) ⟨k', true⟩ = ([], ⟨k', true⟩) by rw [qArgs]; rfl)
     go_wp2
     refine wp_region_flowC wr.heap.size [(⟨g, 0, none⟩, .string s), (⟨g, 1, none⟩, .int .i64 (k' : Nat)), (⟨g, 2, none⟩, .bool true)] (by kernel_rfl) (by kernel_rfl) (by first | (intro _ hs; cases hs; done) | (simp only [List.forall_mem_cons]; go_simp)) fun C HC => ?_
     repeat (first | ((first | apply flow_free rfl | (apply flow_yes; (case hw => go_simp))); (intro L w' hun hrd hC; have ⟨hC, hb', hf'⟩ := flO HC hC; (try simp only [List.forall_mem_cons] at hf'); go_simp; first | exact ⟨flS HC hC, rfl⟩ | (rw [if_neg]; (exact ⟨flS HC hC, rfl⟩); omega) | fail); go_simp) | (apply flow_noC HC; (case hw => (go_simp; try (intro hh; cases hh))); go_simp))
     refine flow_nil ?_
     intro L wz hL hz
     have ⟨_, hbz, hcz⟩ := flO HC hz
     try simp only [List.forall_mem_cons] at hcz
     have HTS3 := Lib.hid (HTS2.out.reader (HTS2.out.at_.below hbz) (gr_below (gr_refl wr g) hbz))
     clear d0 d1 d2 df
     obtain ⟨pv, cv, hvv, -⟩ := HTS3.out.row.form
     subst hvv
     obtain ⟨b0, b1, -⟩ := cells2_cell HTS3.out.cell
     obtain ⟨r0, r1, r2, r3, r4, rf⟩ := cells5_cell HTS3.out.res
     have hrb := bsz (heap_lt HTS3.out.res)
     have hltt := HTS3.out.lt
     go_wp2
     refine bodyPost_ret (v := .agg #[.int .i64 3, .string ⟨tn.data⟩, .slice pv xs.length cv, .string ⟨#[]⟩, .slice none 0 0]) (by simp only [results, Tryz.results87]; go_simp) rfl ⟨_, rfl, ?_⟩
     have hal := HAL.out
     rw [HEND.out, List.append_nil] at hal
     rw [HFIN.out, ← hal.1, ← hal.2]
     exact FmQ.mono (by omega) (FmQ.atom HTS3.out (by rw [← size_list]; omega) _ _ _ _ _)
def QEqSt (m g rb : Nat) (s : ByteArray) (F : Fm) (pq : PSt) (ro : Obj) (w0 : World) (CP : Value → World → Prop) (a0 a1 : Value) (W : World) : Nat → (Nat → Value) → World → Prop
 | 0, _, w => w = W.drew
 | 1, u, w => CP (u 2) w
 | 2, u, w => ∃ w1 v0 v1, CP (.agg #[v0, v1]) w1 ∧ u 3 = .slice (some ⟨w1.heap.size, 0, none⟩) 2 2 ∧ w = w1.alloc (.cells #[a0, a1, v0, v1] 64)
 | 3, u, w => ∃ w1 v0 v1, CP (.agg #[v0, v1]) w1 ∧ u 4 = .agg #[.string ⟨#[61]⟩, .slice (some ⟨w1.heap.size, 0, none⟩) 2 2] ∧ w = w1.alloc (.cells #[a0, a1, v0, v1] 64)
 | 4, u, w => QQ m g rb s F pq ro w0 (u 5) w
 | 5, _, w => ∃ w5 y0 y1 y2 y3 y4, QQ m g rb s F pq ro w0 (.agg #[y0, y1, y2, y3, y4]) w5 ∧ w = ((((w5.setCell ⟨rb, 0, none⟩ y0).setCell ⟨rb, 1, none⟩ y1).setCell ⟨rb, 2, none⟩ y2).setCell ⟨rb, 3, none⟩ y3).setCell ⟨rb, 4, none⟩ y4
 | _, _, _ => False
theorem QEqSt.cells {m g rb bt : Nat} {s : ByteArray} {F : Fm} {pq : PSt} {ro : Obj} {w0 : World} {CP : Value → World → Prop} {a0 a1 x0 x1 : Value} {W : World} (hG : ∀ x w', CP x w' → W.grownBy w' (some g)) (h0 : W.cell? ⟨bt, 0, none⟩ = some x0) (h1 : W.cell? ⟨bt, 1, none⟩ = some x1) (hne : bt ≠ g) {j : Nat} (hj : j ≤ 1) {u : Nat → Value} {w : World}
  (h : QEqSt m g rb s F pq ro w0 CP a0 a1 W j u w) : w.cell? ⟨bt, 0, none⟩ = some x0 ∧ w.cell? ⟨bt, 1, none⟩ = some x1 := by
 match j, hj, h with
 | 0, _, h => obtain rfl : w = W.drew := h; exact ⟨h0, h1⟩
 | 1, _, h => exact ⟨grown_cell (hG _ _ h) h0 (by simpa using hne), grown_cell (hG _ _ h) h1 (by simpa using hne)⟩
theorem QQ.made {f g rb bt : Nat} {s : ByteArray} {p pq : PSt} {ro : Obj} {w0 W w1 : World} {n : List UInt8} {v v0 v1 c0 c1 : Value} {xs : List Tm} {tq t : Tm} (h : TSt 64 51 ro w0 g rb bt s n p v xs f W) (_hn : n.length ≤ 1000000) (hT : TermP 64 g W.heap.size s f tq pq 51 W.drew (.agg #[v0, v1]) w1)
  (hO : TmOwn 64 (f + 2) (fun b => rb < b ∧ b < w1.heap.size + 1) (w1.alloc (.cells #[.string ⟨n.toArray⟩, v, v0, v1] 64)) t [c0, c1]) :
  QQ (f + 3) g rb s (atomOfF t) pq ro w0 (.agg #[.int .i64 3, c0, c1, .string ⟨#[]⟩, .slice none 0 0]) (w1.alloc (.cells #[.string ⟨n.toArray⟩, v, v0, v1] 64)) := by
 obtain ⟨v0', v1', he, hO', hP, hG⟩ := hT
 obtain ⟨l1, l2, l3, l4⟩ := h.lt
 have hz : W.heap.size ≤ w1.heap.size := hG.size
 have hG1 : W.grownBy w1 (some g) := ⟨hG.os, hG.tape, hG.output, hG.size, hG.block⟩
 exact ⟨(hao w1 _ _ (by omega)).trans hP, gr_al (gr_trans h.gr hG1) _, ⟨_, _, _, _, _, rfl, FmOwn.mono _ _ _ _ (Nat.le_refl _) (SameOn.refl _ _) (fun b hb => ⟨hb.1, by simpa using hb.2⟩) (atomF_own hO)⟩, (hao w1 _ _ (by omega)).trans ((hG1.block rb (by omega) (by simp; omega)).trans h.res)⟩
set_option maxHeartbeats 3200000 in
theorem refAtom_eq (g : Nat) (s : ByteArray) (p : PSt) (w : World) (h : PAt 51 w g s p) (hp : p.pos ≤ s.size) (hs : s.size ≤ 1000000) 
  (h1 : pTake s.data.toList sEquals (qTerm s.data.toList p).2 = true) :
  Calls Tryz.prog 87 #[.pointer (some ⟨g, 0, none⟩)] w fun e w' => ∃ x, e = .returned x ∧ FmQ (s.size + 5) g s (qAtom s.data.toList p).1 (qAtom s.data.toList p).2 w x w' := by
 have H := Lib.hid h
 have hg := bsz h.lt
 have hpos := qTerm_wt s.data.toList p (by rw [← size_list]; exact hp)
 have hnm := (qName_le s.data.toList p (by rw [← size_list]; exact hp)).1
 rw [← size_list] at hpos
 rw [← size_list, ← size_list] at hnm
 have hle := pTake_le h1 (by rw [← size_list]; exact hpos.2)
 rw [← size_list] at hle
 have hl8 : sEquals.length = 8 := rfl
 have HA := Lib.hid h1
 have HPA := Lib.hid (show qAtom s.data.toList p = (atomOfF (eqTm (qTerm s.data.toList p).1 (qTerm s.data.toList (pAdv sEquals (qTerm s.data.toList p).2)).1), (qTerm s.data.toList (pAdv sEquals (qTerm s.data.toList p).2)).2) by rw [qAtom, h1]; rfl)
 clear h h1
 go_enter Tryz.func87, Tryz.ntmps87
 go_wp2_with fail
 refine (refTerm_any g s p _ (H.out.below (by exact bel)) hp hs).mono ?_
 rintro e w1 ⟨x, rfl, v0, v1, rfl, hO, hP1, hg1⟩
 obtain ⟨pp, cc, rfl, rfl, -⟩ := hO.form
 generalize qTerm s.data.toList p = r at *
 obtain ⟨t, p1⟩ := r
 simp only at hpos hO HA hP1 HPA hnm hle
 have HO := Lib.hid (show TmOwn 64 (s.size + 2) (fun b => w.heap.size + 1 ≤ b ∧ b < w1.heap.size) w1 t _ by simpa using hO)
 have HG1 := Lib.hid hg1
 have ⟨c1, f1⟩ := gcell hg1
 have hz1 := hg1.size
 (try simp at hz1)
 have HP1 := Lib.hid hP1
 clear hO hP1 hg1
 go_wp2_with fail
 refine (refTake_any g s _ p1 _ (HP1.out.below (by exact bel)) hpos.2 (by omega) (by decide)).mono ?_
 rw [show (⟨#[32, 101, 113, 117, 97, 108, 115, 32]⟩ : ByteArray).data.toList = sEquals from rfl, HA.out]
 rintro e w2 ⟨_, rfl, rfl, h2, hg2⟩
 have HTS := Lib.hid (TSt.initT (s := s) (p := pAdv sEquals p1) (by omega) HO.out HG1.out hg2 h2)
 clear h2 hg2 c1 f1
 obtain ⟨hb0, hb1, -⟩ := cells2_cell HTS.out.cell
 have HB := Lib.hid (And.intro (show w2.cell? ⟨w1.heap.size, 0, none⟩ = some (.string t.n) from hb0) hb1)
 have hlt := HTS.out.lt
 clear hb0 hb1
 go_wp2
 obtain ⟨tq, htq⟩ : ∃ tq, (qTerm s.data.toList (pAdv sEquals p1)).1 = tq := ⟨_, rfl⟩
 obtain ⟨pq, hpq⟩ : ∃ pq, (qTerm s.data.toList (pAdv sEquals p1)).2 = pq := ⟨_, rfl⟩
 have HTQ := Lib.hid htq
 have HPQ := Lib.hid hpq
 have HRD := Lib.hid (show (pAdv sEquals p1).pos ≤ s.size by simp only [pAdv]; omega)
 have HPA2 := Lib.hid (show qAtom s.data.toList p = (atomOfF (eqTm t tq), pq) by rw [HPA.out, htq, hpq])
 clear htq hpq
 obtain ⟨CP, hCP0⟩ : ∃ CP : Value → World → Prop, CP = TermP 64 g w2.heap.size s (s.size + 2) tq pq 51 w2.drew := ⟨_, rfl⟩
 have HCP := Lib.hid hCP0
 have HGR := Lib.hid (show ∀ x w', CP x w' → w2.grownBy w' (some g) from by
  rw [hCP0]; rintro x w' ⟨_, _, _, _, _, hG⟩; exact ⟨hG.os, hG.tape, hG.output, hG.size, hG.block⟩)
 have HAGG := Lib.hid (show ∀ x w', CP x w' → ∃ pp cc, x = .agg #[.string tq.n, .slice pp tq.us.length cc] from by
  rw [hCP0]; rintro x w' ⟨v0, v1, hx, hO, _, _⟩
  obtain ⟨pp, cc, rfl, rfl, -⟩ := hO.form
  exact ⟨_, _, hx⟩)
 clear hCP0
 refine wp_region_stages [some (.agg #[.string t.n, .slice pp t.us.length cc]), some (.pointer (some ⟨g, 0, none⟩)), none, none, none, none, none] [2, 3, 4, 5, 6] (QEqSt (s.size + 5) g w.heap.size s (atomOfF (eqTm t tq)) pq (.cells #[.int .i64 0, .string ⟨#[]⟩, .slice none 0 0, .string ⟨#[]⟩, .slice none 0 0] 67 (0, 0)) w CP (.string t.n) (.slice pp t.us.length cc) w2) (by kernel_rfl) (by kernel_rfl) (by first | kernel_rfl | rfl) (by rfl) rfl ?_
 refine chain_stb (c := 3) 1 rfl rfl (by decide) rfl rfl rfl (by first | kernel_rfl | rfl) ?_ ?_
 ·intro j u w' hj hS
  obtain ⟨hc0, hc1⟩ := QEqSt.cells HGR.out HB.out.1 HB.out.2 (by omega) hj hS
  go_simp
  first | done | exact ⟨hS, rfl⟩ | exact hS | rfl
 go_simp
 refine chain_st rfl rfl (by decide) rfl (by intro j u w' hS; go_simp; first | done | exact ⟨hS, rfl⟩ | exact hS | rfl) ?_
 go_simp
 refine chain_first rfl rfl rfl (by decide) rfl ?_ ?_
 ·intro w' hS
  obtain rfl : w' = w2.drew := hS
  go_simp
  refine (refTerm_any g s _ _ (PAt.below HTS.out.at_ (by exact bel)) HRD.out hs).mono ?_
  rintro e w'' ⟨x, he, hx⟩
  rw [HTQ.out, HPQ.out] at hx
  exact ⟨x, he, by show CP (upd _ 2 x 2) w''; rw [upd_same, HCP.out]; exact hx⟩
 intro x
 go_simp
 refine chain_next 0 rfl rfl rfl rfl (by decide) rfl (by first | kernel_rfl | rfl) ?_ ?_
 ·intro w' hS
  have hS : CP (upd _ 2 x 2) w' := hS
  rw [upd_same] at hS
  obtain ⟨pp4, cc4, rfl⟩ := HAGG.out _ _ hS
  go_simp
  exact ⟨w', _, _, hS, by rw [upd_same], rfl⟩
 intro y
 go_simp
 refine chain_next 1 rfl rfl rfl rfl (by decide) rfl (by first | kernel_rfl | rfl) ?_ ?_
 ·intro w' hS
  obtain ⟨w3, v0, v1, hcp, hy, rfl⟩ := hS
  rw [upd_same] at hy
  subst hy
  go_simp
  exact ⟨w3, v0, v1, hcp, by rw [upd_same], rfl⟩
 intro z
 go_simp
 refine chain_next 2 rfl rfl rfl rfl (by decide) rfl (by first | kernel_rfl | rfl) ?_ ?_
 ·intro w' hS
  obtain ⟨w3, v0, v1, hcp, hy, rfl⟩ := hS
  rw [upd_same] at hy
  subst hy
  have HE := Lib.hid (eq_ownQ HTS.out (by rw [← size_list]; omega) (by rw [HCP.out] at hcp; exact hcp))
  have HCPP := Lib.hid hcp
  go_simp
  show QQ _ _ _ _ _ _ _ _ (upd _ 5 _ 5) _
  rw [upd_same]
  have hcp := HCPP.out
  rw [HCP.out] at hcp
  have hte : (Tm.mk ⟨t.n.data.toList.toArray⟩ t.us) = t := by obtain ⟨n, us⟩ := t; rfl
  have hq := QQ.made HTS.out (by rw [← size_list]; omega) hcp HE.out
  rw [hte] at hq
  exact hq
 intro q
 go_simp
 refine chain_next 3 rfl rfl rfl rfl (by decide) rfl (by first | kernel_rfl | rfl) ?_ ?_
 ·intro w' hS
  have hS : QQ _ _ _ _ _ _ _ _ (upd _ 5 q 5) w' := hS
  rw [upd_same] at hS
  have HS := Lib.hid hS
  obtain ⟨hQ1, hQ2, ⟨y0, y1, y2, y3, y4, rfl, hO⟩, hro⟩ := hS
  obtain ⟨q1, d1, q2, d2, rfl, rfl, rfl, rfl, rfl, -⟩ := hO.form
  obtain ⟨r0, r1, r2, r3, r4, rf⟩ := cells5_cell hro
  clear hQ1 hQ2 hO hro
  go_simp
  exact ⟨w', _, _, _, _, _, HS.out, rfl⟩
 intro x'
 refine flowU_nil ?_
 intro wz hz
 obtain ⟨w5, y0, y1, y2, y3, y4, hQ, rfl⟩ := hz
 have HQ := Lib.hid hQ
 obtain ⟨hQ1, hQ2, ⟨y0', y1', y2', y3', y4', he, hO⟩, hro⟩ := hQ
 simp only [Value.agg.injEq, Array.mk.injEq, List.cons.injEq, and_true] at he
 obtain ⟨rfl, rfl, rfl, rfl, rfl⟩ := he
 obtain ⟨q1, d1, q2, d2, rfl, rfl, rfl, rfl, rfl, -⟩ := hO.form
 obtain ⟨r0, r1, r2, r3, r4, rf⟩ := cells5_cell hro
 clear hQ1 hQ2 hO hro
 go_simp
 go_wp2
 refine bodyPost_ret (v := .agg #[.int .i64 (atomOfF (eqTm t tq)).op, .string (atomOfF (eqTm t tq)).a.n, .slice q1 (atomOfF (eqTm t tq)).a.us.length d1, .string (atomOfF (eqTm t tq)).v, .slice q2 (atomOfF (eqTm t tq)).ps.length d2]) (by simp only [results, Tryz.results87]; go_simp) rfl ⟨_, rfl, ?_⟩
 rw [HPA2.out]
 exact FmQ.of HQ.out.1 HQ.out.2.1 (Below.refl _ _) HQ.out.2.2.1 (fun b hb => hb) (Nat.le_refl _) (by omega) _ _ _ _ _
theorem refAtom_any (g : Nat) (s : ByteArray) (p : PSt) (w : World) (h : PAt 51 w g s p) (hp : p.pos ≤ s.size) (hs : s.size ≤ 1000000) :
  Calls Tryz.prog 87 #[.pointer (some ⟨g, 0, none⟩)] w fun e w' => ∃ x, e = .returned x ∧ FmQ (s.size + 5) g s (qAtom s.data.toList p).1 (qAtom s.data.toList p).2 w x w' := by
 cases h1 : pTake s.data.toList sEquals (qTerm s.data.toList p).2
 ·exact refAtom_hold g s p w h hp hs h1
 ·exact refAtom_eq g s p w h hp hs h1
end Go.Proofs.YtabkdonplmlbcaaGreatDoor
