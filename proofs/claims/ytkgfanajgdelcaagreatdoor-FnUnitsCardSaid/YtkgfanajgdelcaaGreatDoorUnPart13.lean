import Derived.Test.YtkgfanajgdelcaaGreatDoorUnPart12
namespace Go.Proofs.YtkgfanajgdelcaaGreatDoor
set_option maxRecDepth 100000
open Go.RowKit
def TermC (f : Nat) : Prop := ∀ (g : Nat) (s : ByteArray) (p : PSt) (w : World), PAt 190 w g s p → p.pos ≤ s.size → s.size ≤ 1000000 → s.size - p.pos < f →
    Calls Tryz.prog 260 #[.pointer (some ⟨g, 0, none⟩)] w fun e w' => ∃ x, e = .returned x ∧ TermP 41 g w.heap.size s f (pTerm s.data.toList f p).1 (pTerm s.data.toList f p).2 190 w x w'
def ArgRel (ro : Obj) (w : World) (g rb bt : Nat) (s : ByteArray) (n : List UInt8) (sep : List UInt8) (f : Nat) (all : List Tm) (pe : PSt) (wr : World) : Prop :=
  ∃ (f' : Nat) (p' : PSt) (v : Value) (xs : List Tm), TSt 41 190 ro w g rb bt s n p' v xs f wr ∧ f' ≤ f ∧ xs ++ (pArgs s.data.toList sep f' p').1 = all ∧ (pArgs s.data.toList sep f' p').2 = pe ∧ s.size - p'.pos < f' ∧ p'.pos ≤ s.size ∧ xs.length ≤ p'.pos
set_option maxHeartbeats 3200000 in
theorem term_any : ∀ f : Nat, TermC f := by
  intro f
  induction f using Nat.strongRecOn with
  | _ f0 ih =>
    intro g s p w h hp hs hf
    obtain ⟨f, rfl⟩ : ∃ f, f0 = f + 1 := ⟨f0 - 1, by omega⟩
    have IH := Lib.hid ih
    have H := Lib.hid h
    have hg := bsz h.lt
    clear h ih
    go_enter Tryz.func260, Tryz.ntmps260
    go_wp2_with fail
    refine (word_any g s p _ (H.out.below (by exact bel)) hp (by omega)).mono ?_
    rintro e w1 ⟨v, rfl, rfl, h1, hg1⟩
    have ⟨c1, f1⟩ := gcell hg1
    have hz1 := hg1.size
    (try simp at hz1)
    have hw1 := pWord_pos s.data.toList p hp
    have HD := Lib.hid (show pTerm s.data.toList (f + 1) p = _ from rfl)
    rw [← size_list] at hw1
    have hwn := pWord_len s.data.toList p
    rw [← size_list] at hwn
    generalize hpw : pWord s.data.toList p = q at *
    obtain ⟨n, p1⟩ := q
    have HPW := Lib.hid hpw
    have H1 := Lib.hid h1
    clear hpw h1
    simp only at hw1 H1 hwn
    cases hT : pTake s.data.toList [40] p1
    · have HT := Lib.hid hT
      have HFIN := Lib.hid (show pTerm s.data.toList (f + 1) p = (.mk ⟨n.toArray⟩ [], p1) by rw [pTerm, HPW.out, hT]; rfl)
      go_wp2_with fail
      refine (take_any g s ⟨#[40]⟩ p1 _ (H1.out.below (by exact bel)) hw1.2 (by omega) (by decide)).mono ?_
      rw [show (⟨#[40]⟩ : ByteArray).data.toList = [40] from rfl, HT.out]
      rintro e w2 ⟨v, rfl, rfl, h2, hg2⟩
      have HTS : Hid (TSt 41 190 (.cells #[.string ⟨#[]⟩, .slice none 0 0] 41 (0, 0)) w g w.heap.size w1.heap.size s n p1 (.slice none 0 0) [] f w2) := Lib.hid (TSt.init (by omega) hg1 hg2 h2)
      clear h2 hg2
      obtain ⟨b0, b1, -⟩ := cells2_cell HTS.out.cell
      obtain ⟨r0, r1, rf⟩ := cells2_cell HTS.out.res
      go_wp2
      refine bodyPost_ret (v := .agg #[.string ⟨n.toArray⟩, .slice none 0 0]) (by simp only [results, Tryz.results260]; go_simp) rfl ⟨_, rfl, ?_⟩
      rw [HFIN.out]
      exact HTS.out.done (by omega) _ _
    · have HT := Lib.hid hT
      have hle := pTake_le hT (by rw [← size_list]; exact hw1.2)
      go_wp2_with fail
      refine (take_any g s ⟨#[40]⟩ p1 _ (H1.out.below (by exact bel)) hw1.2 (by omega) (by decide)).mono ?_
      rw [show (⟨#[40]⟩ : ByteArray).data.toList = [40] from rfl, HT.out]
      rintro e w2 ⟨v, rfl, rfl, h2, hg2⟩
      have ⟨c2, f2⟩ := gcell hg2
      have hz2 := hg2.size
      (try simp at hz2)
      have HTS : Hid (TSt 41 190 (.cells #[.string ⟨#[]⟩, .slice none 0 0] 41 (0, 0)) w g w.heap.size w1.heap.size s n (pAdv [40] p1) (.slice none 0 0) [] f w2) := Lib.hid (TSt.init (by omega) hg1 hg2 h2)
      have HBT := Lib.hid (show w2.cell? ⟨w1.heap.size, 1, none⟩ = some (.slice none 0 0) by rw [cell_of_row w2 _ 1 _ _ (0, 0) HTS.out.cell]; rfl)
      have HNE := Lib.hid (show w1.heap.size ≠ g by have := HTS.out.lt; omega)
      go_wp2
      obtain ⟨tq, htq⟩ : ∃ tq, (pTerm s.data.toList f (pAdv [40] p1)).1 = tq := ⟨_, rfl⟩
      obtain ⟨pq, hpq⟩ : ∃ pq, (pTerm s.data.toList f (pAdv [40] p1)).2 = pq := ⟨_, rfl⟩
      have HTQ := Lib.hid htq
      have HPQ := Lib.hid hpq
      have HRD := Lib.hid (show (pAdv [40] p1).pos ≤ s.size ∧ s.size - (pAdv [40] p1).pos < f by simp only [pAdv, List.length_cons, List.length_nil]; rw [← size_list] at hle; simp only [List.length_cons, List.length_nil] at hle; omega)
      have HLEN := Lib.hid (show ([] : List Tm).length + 1 ≤ 1000000 by decide)
      have HFIN := Lib.hid (show pTerm s.data.toList (f + 1) p = (.mk ⟨n.toArray⟩ (tq :: (pArgs s.data.toList [44] f pq).1), pMust s.data.toList [41] (pArgs s.data.toList [44] f pq).2) by rw [pTerm, HPW.out, if_pos HT.out, htq, hpq])
      clear htq hpq
      obtain ⟨CP, hCP0⟩ : ∃ CP : Value → World → Prop, CP = TermP 41 g w2.heap.size s f tq pq 190 w2.drew := ⟨_, rfl⟩
      have HCP := Lib.hid hCP0
      have HGR := Lib.hid (show ∀ x w', CP x w' → w2.grownBy w' (some g) from by
        rw [hCP0]; rintro x w' ⟨_, _, _, _, _, hG⟩; exact ⟨hG.os, hG.tape, hG.output, hG.size, hG.block⟩)
      have HAGG := Lib.hid (show ∀ x w', CP x w' → ∃ v0 v1, x = .agg #[v0, v1] ∧ v0.oneCell' = true ∧ v1.oneCell' = true from by
        rw [hCP0]; rintro x w' ⟨v0, v1, hx, hO, _, _⟩
        obtain ⟨pp, cc, rfl, rfl, -⟩ := hO.form
        exact ⟨_, _, hx, rfl, rfl⟩)
      clear hCP0
      refine wp_region_stages [some (.pointer (some ⟨w1.heap.size, 1, none⟩)), some (.slice none 0 0), some (.pointer (some ⟨g, 0, none⟩)), none, none, none, some (.pointer (some ⟨w1.heap.size, 1, none⟩)), none] [3, 4, 5, 7] (AppSt 41 g w1.heap.size CP (.slice none 0 0) 0 w2 3 4 5) (by kernel_rfl) (by kernel_rfl) (by first | kernel_rfl | rfl) (by rfl) rfl ?_
      refine chain_st rfl rfl (by decide) rfl (by intro j u w' hS; go_simp; first | done | exact ⟨hS, rfl⟩ | exact hS | rfl) ?_
      go_simp
      refine chain_stb (c := 5) 2 rfl rfl (by decide) rfl rfl rfl (by first | kernel_rfl | rfl) ?_ ?_
      · intro j u w' hj hS
        have hc := AppSt.cell HGR.out HBT.out HNE.out hj hS
        go_simp
        first | done | exact ⟨hS, rfl⟩ | exact hS | rfl
      go_simp
      refine chain_st rfl rfl (by decide) rfl (by intro j u w' hS; go_simp; first | done | exact ⟨hS, rfl⟩ | exact hS | rfl) ?_
      go_simp
      refine chain_first rfl rfl rfl (by decide) rfl ?_ ?_
      · intro w' hS
        obtain rfl : w' = w2.drew := hS
        go_simp
        refine (IH.out f (by omega) g s _ _ (PAt.below HTS.out.at_ (by exact bel)) HRD.out.1 hs HRD.out.2).mono ?_
        rintro e w'' ⟨x, he, hx⟩
        rw [HTQ.out, HPQ.out] at hx
        exact ⟨x, he, by show CP (upd _ 3 x 3) w''; rw [upd_same, HCP.out]; exact hx.mono (by omega)⟩
      intro x
      go_simp
      refine chain_next 0 rfl rfl rfl rfl (by decide) rfl (by first | kernel_rfl | rfl) ?_ ?_
      · intro w' hS
        have hS : CP (upd _ 3 x 3) w' := hS
        rw [upd_same] at hS
        obtain ⟨v0, v1, rfl, o0, o1⟩ := HAGG.out _ _ hS
        go_simp
        exact ⟨w', v0, v1, hS, by rw [upd_same], rfl⟩
      intro y
      go_simp
      refine chain_next 1 rfl rfl rfl rfl (by decide) rfl (by first | kernel_rfl | rfl) ?_ ?_
      · intro w' hS
        obtain ⟨w1', v0, v1, hcp, hy, rfl⟩ := hS
        rw [upd_same] at hy
        subst hy
        obtain ⟨v0', v1', he, o0, o1⟩ := HAGG.out _ _ hcp
        simp only [Value.agg.injEq, Array.mk.injEq, List.cons.injEq, and_true] at he
        obtain ⟨rfl, rfl⟩ := he
        have hG1 := HGR.out _ _ hcp
        obtain ⟨hm, vals, Ss, r1, r2, r3, r4⟩ := HTS.out.row
        have hlt := HTS.out.lt
        have hlen := HLEN.out
        refine each_app1 (.tmp 10) (.tmp 13) _ rfl 0 41 2 40 elemTmI (.slice none 0 0) _ vals rfl w1' #[v0, v1] rfl rfl (own_same r1 fun b hb hl => hG1.block b hl (by have := r2 b hb; simp; omega)) rfl (by intro u hu; simp at hu; rcases hu with rfl | rfl <;> assumption) (by omega) (by unfold maxLen; omega) (Nat.zero_le _) ?_
        intro v' w3 happ hg3 hnr hsz
        exact ⟨w1', v0, v1, hcp, by rw [upd_same]; exact happ, hg3, by rw [upd_same]; exact hnr, hsz⟩
      intro z
      go_simp
      refine chain_st rfl rfl (by decide) rfl (by intro j u w' hS; go_simp; first | done | exact ⟨hS, rfl⟩ | exact hS | rfl) ?_
      go_simp
      refine chain_next 2 rfl rfl rfl rfl (by decide) rfl (by first | kernel_rfl | rfl) ?_ ?_
      · intro w' hS
        obtain ⟨w1', v0, v1, hcp, happ, hg3, hnr, hsz⟩ := hS
        rw [upd_same] at happ hnr
        obtain ⟨⟨q', c', rfl⟩, hbt⟩ := HTS.out.three HGR.out hcp happ hg3
        have hcell : w'.cell? ⟨w1.heap.size, 1, none⟩ = some (.slice none 0 0) := by rw [cell_of_row w' _ 1 _ _ (0, 0) hbt]; rfl
        have hfro : w'.frozen? ⟨w1.heap.size, 1, none⟩ = false := frozen_of_row w' _ 1 _ _ hbt
        clear hbt
        go_simp
        refine ⟨w1', w', v0, v1, hcp, ?_, hg3, ?_, hsz, ?_⟩
        · rw [upd_other _ _ (by decide), upd_same]; exact happ
        · rw [upd_other _ _ (by decide), upd_same]; exact hnr
        · rw [upd_other _ _ (by decide), upd_same]
      intro x'
      refine flowU_nil ?_
      intro wz hz
      have HZ := Lib.hid (HTS.out.app (by have := hz; rw [HCP.out] at this; exact this) HLEN.out)
      rw [upd_other _ _ (by decide), upd_same] at HZ
      clear hz
      go_simp
      have hpp := pTerm_pos s.data.toList f (pAdv [40] p1) (by rw [← size_list]; exact HRD.out.1)
      rw [HPQ.out, ← size_list] at hpp
      simp only [pAdv, List.length_cons, List.length_nil] at hpp
      have HPP := Lib.hid hpp
      have HRD' := HRD.out
      simp only [pAdv, List.length_cons, List.length_nil] at HRD'
      have HRDX := Lib.hid HRD'
      clear hpp HRD'
      go_wp2
      go_loopw [] (ArgRel (.cells #[.string ⟨#[]⟩, .slice none 0 0] 41 (0, 0)) w g w.heap.size w1.heap.size s n [44] f (tq :: (pArgs s.data.toList [44] f pq).1) (pArgs s.data.toList [44] f pq).2) (fun wr => s.size - posOf wr g)
      case atStart => exact ⟨f, pq, z, [tq], by simpa using HZ.out, Nat.le_refl _, rfl, rfl, by have := HPP.out; have := HRDX.out; omega, HPP.out.2, by have := HPP.out; simp; omega⟩
      case round =>
        obtain ⟨f', p', v, xs, hts, hff, hal, hpe, hfu, hpl, hxl⟩ := hrel
        have HTS0 := Lib.hid hts
        have HAL := Lib.hid (And.intro hal hpe)
        have HPO := hts.at_.posOf
        clear hts hal hpe HTS HBT HNE HTQ HPQ HRD HLEN HZ
        obtain ⟨f'', rfl⟩ : ∃ q, f' = q + 1 := ⟨f' - 1, by omega⟩
        have hg' := bsz HTS0.out.at_.lt
        cases hT2 : pTake s.data.toList [44] p'
        · have HEND := Lib.hid (show pArgs s.data.toList [44] (f'' + 1) p' = ([], p') by rw [pArgs, hT2]; rfl)
          have HT2 := Lib.hid hT2
          go_wp2_with fail
          refine (take_any g s ⟨#[44]⟩ p' _ (PAt.below HTS0.out.at_ (by exact bel)) hpl (by omega) (by decide)).mono ?_
          rw [show (⟨#[44]⟩ : ByteArray).data.toList = [44] from rfl, HT2.out]
          rintro e w3 ⟨_, rfl, rfl, h3, hg3⟩
          have HTS1 := Lib.hid (HTS0.out.reader (p' := p') h3 hg3)
          clear h3 hg3
          go_wp2_with fail
          refine (must_any g s ⟨#[41]⟩ p' _ (PAt.below HTS1.out.at_ (by exact bel)) hpl (by omega) (by decide)).mono ?_
          rw [show (⟨#[41]⟩ : ByteArray).data.toList = [41] from rfl]
          rintro e w4 ⟨_, rfl, rfl, h4, hg4⟩
          have HTS2 := Lib.hid (HTS1.out.reader h4 hg4)
          clear h4 hg4
          obtain ⟨pv, cv, hvv, -⟩ := HTS2.out.row.form
          subst hvv
          obtain ⟨b0, b1, -⟩ := cells2_cell HTS2.out.cell
          obtain ⟨r0, r1, rf⟩ := cells2_cell HTS2.out.res
          go_wp2
          have hal := HAL.out
          rw [HEND.out, List.append_nil] at hal
          refine bodyPost_ret (v := .agg #[.string ⟨n.toArray⟩, .slice pv xs.length cv]) (by simp only [results, Tryz.results260]; go_simp) rfl ⟨_, rfl, ?_⟩
          rw [HFIN.out, ← hal.1, ← hal.2]
          exact HTS2.out.done (by omega) _ _
        · have HT2 := Lib.hid hT2
          have hle2 := pTake_le hT2 (by rw [← size_list]; exact hpl)
          rw [← size_list] at hle2
          simp only [List.length_cons, List.length_nil] at hle2
          go_wp2_with fail
          refine (take_any g s ⟨#[44]⟩ p' _ (PAt.below HTS0.out.at_ (by exact bel)) hpl (by omega) (by decide)).mono ?_
          rw [show (⟨#[44]⟩ : ByteArray).data.toList = [44] from rfl, HT2.out]
          rintro e w3 ⟨_, rfl, rfl, h3, hg3⟩
          have HTS := Lib.hid (HTS0.out.reader (p' := pAdv [44] p') h3 hg3)
          clear h3 hg3
          have HBT := Lib.hid (show w3.cell? ⟨w1.heap.size, 1, none⟩ = some v from (cells2_cell HTS.out.cell).2.1)
          have HNE := Lib.hid (show w1.heap.size ≠ g by have := HTS.out.lt; omega)
          go_wp2
          obtain ⟨tq, htq⟩ : ∃ tq, (pTerm s.data.toList f'' (pAdv [44] p')).1 = tq := ⟨_, rfl⟩
          obtain ⟨pq, hpq⟩ : ∃ pq, (pTerm s.data.toList f'' (pAdv [44] p')).2 = pq := ⟨_, rfl⟩
          have HTQ := Lib.hid htq
          have HPQ := Lib.hid hpq
          have HRD := Lib.hid (show (pAdv [44] p').pos ≤ s.size ∧ s.size - (pAdv [44] p').pos < f'' by simp only [pAdv, List.length_cons, List.length_nil]; omega)
          have HLEN := Lib.hid (show xs.length + 1 ≤ 1000000 by omega)
          have HSTEP := Lib.hid (show pArgs s.data.toList [44] (f'' + 1) p' = (tq :: (pArgs s.data.toList [44] f'' pq).1, (pArgs s.data.toList [44] f'' pq).2) by rw [pArgs, if_pos HT2.out, htq, hpq])
          clear htq hpq
          obtain ⟨CP, hCP0⟩ : ∃ CP : Value → World → Prop, CP = TermP 41 g w3.heap.size s f tq pq 190 w3.drew := ⟨_, rfl⟩
          have HCP := Lib.hid hCP0
          have HGR := Lib.hid (show ∀ x w', CP x w' → w3.grownBy w' (some g) from by
            rw [hCP0]; rintro x w' ⟨_, _, _, _, _, hG⟩; exact ⟨hG.os, hG.tape, hG.output, hG.size, hG.block⟩)
          have HAGG := Lib.hid (show ∀ x w', CP x w' → ∃ v0 v1, x = .agg #[v0, v1] ∧ v0.oneCell' = true ∧ v1.oneCell' = true from by
            rw [hCP0]; rintro x w' ⟨v0, v1, hx, hO, _, _⟩
            obtain ⟨pp, cc, rfl, rfl, -⟩ := hO.form
            exact ⟨_, _, hx, rfl, rfl⟩)
          clear hCP0
          refine wp_region_stages [some (.pointer (some ⟨w1.heap.size, 1, none⟩)), some v, some (.pointer (some ⟨g, 0, none⟩)), none, none, none, some (.pointer (some ⟨w1.heap.size, 1, none⟩)), none] [3, 4, 5, 7] (AppSt 41 g w1.heap.size CP v xs.length w3 3 4 5) (by kernel_rfl) (by kernel_rfl) (by first | kernel_rfl | rfl) (by rfl) rfl ?_
          refine chain_st rfl rfl (by decide) rfl (by intro j u w' hS; go_simp; first | done | exact ⟨hS, rfl⟩ | exact hS | rfl) ?_
          go_simp
          refine chain_stb (c := 5) 2 rfl rfl (by decide) rfl rfl rfl (by first | kernel_rfl | rfl) ?_ ?_
          · intro j u w' hj hS
            have hc := AppSt.cell HGR.out HBT.out HNE.out hj hS
            go_simp
            first | done | exact ⟨hS, rfl⟩ | exact hS | rfl
          go_simp
          refine chain_st rfl rfl (by decide) rfl (by intro j u w' hS; go_simp; first | done | exact ⟨hS, rfl⟩ | exact hS | rfl) ?_
          go_simp
          refine chain_first rfl rfl rfl (by decide) rfl ?_ ?_
          · intro w' hS
            obtain rfl : w' = w3.drew := hS
            go_simp
            refine (IH.out f'' (by omega) g s _ _ (PAt.below HTS.out.at_ (by exact bel)) HRD.out.1 hs HRD.out.2).mono ?_
            rintro e w'' ⟨x, he, hx⟩
            rw [HTQ.out, HPQ.out] at hx
            exact ⟨x, he, by show CP (upd _ 3 x 3) w''; rw [upd_same, HCP.out]; exact hx.mono (by omega)⟩
          intro x
          go_simp
          refine chain_next 0 rfl rfl rfl rfl (by decide) rfl (by first | kernel_rfl | rfl) ?_ ?_
          · intro w' hS
            have hS : CP (upd _ 3 x 3) w' := hS
            rw [upd_same] at hS
            obtain ⟨v0, v1, rfl, o0, o1⟩ := HAGG.out _ _ hS
            go_simp
            exact ⟨w', v0, v1, hS, by rw [upd_same], rfl⟩
          intro y
          go_simp
          refine chain_next 1 rfl rfl rfl rfl (by decide) rfl (by first | kernel_rfl | rfl) ?_ ?_
          · intro w' hS
            obtain ⟨w1', v0, v1, hcp, hy, rfl⟩ := hS
            rw [upd_same] at hy
            subst hy
            obtain ⟨v0', v1', he, o0, o1⟩ := HAGG.out _ _ hcp
            simp only [Value.agg.injEq, Array.mk.injEq, List.cons.injEq, and_true] at he
            obtain ⟨rfl, rfl⟩ := he
            have hG1 := HGR.out _ _ hcp
            obtain ⟨hm, vals, Ss, r1, r2, r3, r4⟩ := HTS.out.row
            have hlt := HTS.out.lt
            have hlen := HLEN.out
            refine each_app1 (.tmp 19) (.tmp 22) _ rfl 0 41 2 40 elemTmI v _ vals rfl w1' #[v0, v1] rfl rfl (own_same r1 fun b hb hl => hG1.block b hl (by have := r2 b hb; simp; omega)) rfl (by intro u hu; simp at hu; rcases hu with rfl | rfl <;> assumption) (by omega) (by unfold maxLen; omega) (Nat.zero_le _) ?_
            intro v' w3 happ hg3 hnr hsz
            exact ⟨w1', v0, v1, hcp, by rw [upd_same]; exact happ, hg3, by rw [upd_same]; exact hnr, hsz⟩
          intro z
          go_simp
          refine chain_st rfl rfl (by decide) rfl (by intro j u w' hS; go_simp; first | done | exact ⟨hS, rfl⟩ | exact hS | rfl) ?_
          go_simp
          refine chain_next 2 rfl rfl rfl rfl (by decide) rfl (by first | kernel_rfl | rfl) ?_ ?_
          · intro w' hS
            obtain ⟨w1', v0, v1, hcp, happ, hg3, hnr, hsz⟩ := hS
            rw [upd_same] at happ hnr
            obtain ⟨⟨q', c', rfl⟩, hbt⟩ := HTS.out.three HGR.out hcp happ hg3
            have hcell : w'.cell? ⟨w1.heap.size, 1, none⟩ = some v := by rw [cell_of_row w' _ 1 _ _ (0, 0) hbt]; rfl
            have hfro : w'.frozen? ⟨w1.heap.size, 1, none⟩ = false := frozen_of_row w' _ 1 _ _ hbt
            clear hbt
            go_simp
            refine ⟨w1', w', v0, v1, hcp, ?_, hg3, ?_, hsz, ?_⟩
            · rw [upd_other _ _ (by decide), upd_same]; exact happ
            · rw [upd_other _ _ (by decide), upd_same]; exact hnr
            · rw [upd_other _ _ (by decide), upd_same]
          intro x'
          refine flowU_nil ?_
          intro wz hz
          have HZ := Lib.hid (HTS.out.app (by have := hz; rw [HCP.out] at this; exact this) HLEN.out)
          rw [upd_other _ _ (by decide), upd_same] at HZ
          clear hz
          go_simp
          go_wp2
          have hpp := pTerm_pos s.data.toList f'' (pAdv [44] p') (by rw [← size_list]; exact HRD.out.1)
          rw [HPQ.out, ← size_list] at hpp
          simp only [pAdv, List.length_cons, List.length_nil] at hpp
          have hal := HAL.out
          rw [HSTEP.out] at hal
          refine ⟨⟨f'', pq, z, xs ++ [tq], HZ.out, by omega, by rw [← hal.1]; simp, hal.2, by omega, hpp.2, by simp; omega⟩, ?_⟩
          rw [HZ.out.at_.posOf, HPO]
          omega
def FmP (m g : Nat) (s : ByteArray) (F : Fm) (p' : PSt) (w : World) (x : Value) (w' : World) : Prop := FmV m (NewB w w') w' F x ∧ PAt 190 w' g s p' ∧ w.grownBy w' (some g)
theorem TSt.initT {T TP : TypeId} {ro : Obj} {w w1 w2 : World} {g : Nat} {s : ByteArray} {p : PSt} {f : Nat} {t : Tm} {pp : Option Addr} {cc : Nat} (hg : g < w.heap.size) (hO : TmOwn T f (fun b => w.heap.size + 1 ≤ b ∧ b < w1.heap.size) w1 t [.string t.n, .slice pp t.us.length cc])
    (hg1 : (w.alloc ro).grownBy w1 (some g)) (hg2 : (w1.alloc (.cells #[.string t.n, .slice pp t.us.length cc] T)).grownBy w2 (some g)) (hP : PAt TP w2 g s p) :
    TSt T TP ro w g w.heap.size w1.heap.size s t.n.data.toList p (.slice pp t.us.length cc) t.us f w2 := by
  have h1 := hg1.size
  have h2 := hg2.size
  simp at h1 h2
  have ha := gr_trans (gr_al (gr_refl w g) _) hg1
  have hk : ∀ b, b < w1.heap.size → b ≠ g → w2.heap[b]? = w1.heap[b]? := fun b hb hne => (hg2.block b (by simp; omega) (by simp; omega)).trans (hao w1 _ _ hb)
  obtain ⟨f', rfl⟩ : ∃ f', f = f' + 1 := by
    cases f with
    | zero => exact hO.elim
    | succ f' => exact ⟨f', rfl⟩
  obtain ⟨n, us⟩ := t
  obtain ⟨va, he, hn, hrow⟩ := hO
  simp only [List.cons.injEq, and_true] at he
  obtain ⟨-, rfl⟩ := he
  refine ⟨hP, ?_, ?_, ?_, gr_trans (gr_al ha _) hg2, hg, Nat.le_refl _, by omega, by omega⟩
  · rw [ba_eq]
    exact (hg2.block w1.heap.size (by simp) (by simp; omega)).trans (heap_alloc_new w1 _)
  · exact (hk w.heap.size (by omega) (by omega)).trans ((hg1.block w.heap.size (by simp) (by simp; omega)).trans (heap_alloc_new w _))
  · exact hrow.mono (fun b hb _ => hk b hb.2 (by omega)) (fun b hb => by omega) (fun S x c _ hS hx => TmOwn.mono f' (f' + 1) x c (by omega) (fun b hb _ => hk b (hS b hb).2 (by have := hS b hb; omega)) (fun _ h => h) hx)
theorem TSt.term {T TP : TypeId} {ro : Obj} {w W : World} {g rb bt : Nat} {s : ByteArray} {n : List UInt8} {p : PSt} {v : Value} {xs : List Tm} {f : Nat} (h : TSt T TP ro w g rb bt s n p v xs f W) (hn : n.length ≤ 1000000) :
    TmOwn T (f + 1) (fun b => rb < b ∧ b ≠ bt ∧ b < W.heap.size) W (.mk ⟨n.toArray⟩ xs) [.string ⟨n.toArray⟩, v] := ⟨_, rfl, by show n.toArray.size ≤ _; unfold maxLen; simp; omega, h.row⟩
theorem cells5_cell {w : World} {g : Nat} {x0 x1 x2 x3 x4 : Value} {t : TypeId} (h : w.heap[g]? = some (.cells #[x0, x1, x2, x3, x4] t (0, 0))) : w.cell? ⟨g, 0, none⟩ = some x0 ∧ w.cell? ⟨g, 1, none⟩ = some x1 ∧ w.cell? ⟨g, 2, none⟩ = some x2 ∧ w.cell? ⟨g, 3, none⟩ = some x3 ∧ w.cell? ⟨g, 4, none⟩ = some x4 ∧ (∀ j, w.frozen? ⟨g, j, none⟩ = false) := by
  refine ⟨?_, ?_, ?_, ?_, ?_, fun j => frozen_of_row w g j _ _ h⟩
  · rw [cell_of_row w g 0 _ _ (0, 0) h]; rfl
  · rw [cell_of_row w g 1 _ _ (0, 0) h]; rfl
  · rw [cell_of_row w g 2 _ _ (0, 0) h]; rfl
  · rw [cell_of_row w g 3 _ _ (0, 0) h]; rfl
  · rw [cell_of_row w g 4 _ _ (0, 0) h]; rfl
theorem FmP.of {m g rb : Nat} {s : ByteArray} {F : Fm} {p' : PSt} {w w4 w5 : World} {S : Nat → Prop} {x : Value} (hP : PAt 190 w4 g s p') (hG : w.grownBy w4 (some g)) (hb : Below w4.heap.size w4 w5) (hV : FmV m S w5 F x) (hS : ∀ b, S b → rb < b ∧ b < w5.heap.size) (hrb : w.heap.size ≤ rb) (hg : g < rb) (a0 a1 a2 a3 a4 : Value) :
    FmP m g s F p' w x (((((w5.setCell ⟨rb, 0, none⟩ a0).setCell ⟨rb, 1, none⟩ a1).setCell ⟨rb, 2, none⟩ a2).setCell ⟨rb, 3, none⟩ a3).setCell ⟨rb, 4, none⟩ a4) := by
  have hk : ∀ b, b ≠ rb → (((((w5.setCell ⟨rb, 0, none⟩ a0).setCell ⟨rb, 1, none⟩ a1).setCell ⟨rb, 2, none⟩ a2).setCell ⟨rb, 3, none⟩ a3).setCell ⟨rb, 4, none⟩ a4).heap[b]? = w5.heap[b]? := fun b hb => by
    repeat rw [heap_setCell_other _ _ _ _ (fun e => hb e)]
  obtain ⟨v0, v1, v2, v3, v4, rfl, hO⟩ := hV
  refine ⟨⟨_, _, _, _, _, rfl, FmOwn.mono _ _ _ _ (Nat.le_refl _) (fun b hb' _ => hk b (by have := hS b hb'; omega)) (fun b hb' => ?_) hO⟩, (hk g (by omega)).trans (hP.below hb), ?_⟩
  · have := hS b hb'
    exact ⟨by omega, by simpa using this.2⟩
  · exact gr_sc (gr_sc (gr_sc (gr_sc (gr_sc (gr_below hG hb) (.inr hrb) _) (.inr hrb) _) (.inr hrb) _) (.inr hrb) _) (.inr hrb) _
structure BSt (w W : World) : Prop where
  bel : Below w.heap.size w W
  res : W.heap[w.heap.size]? = some (.cells #[.int .i64 0, .string ⟨#[]⟩, .slice none 0 0, .string ⟨#[]⟩, .slice none 0 0] 44 (0, 0))
theorem BSt.start (w : World) : BSt w (w.alloc (.cells #[.int .i64 0, .string ⟨#[]⟩, .slice none 0 0, .string ⟨#[]⟩, .slice none 0 0] 44)) := ⟨(Below.refl _ _).alloc (Nat.le_refl _) _, heap_alloc_new w _⟩
theorem BSt.later {w W W' : World} (h : BSt w W) (hb : Below W.heap.size W W') : BSt w W' := ⟨h.bel.trans (hb.mono h.bel.size), (hb.block _ (heap_lt h.res)).trans h.res⟩
def GotFm (f : Nat) (r : Option (Fm × Nat)) (w : World) (x : Value) (w' : World) : Prop :=
  Below w.heap.size w w' ∧ ∃ (op : Int) (n v : ByteArray) (p q : Option Addr) (k c k2 d : Nat) (z : Int), x = .tuple #[.agg #[.int .i64 op, .string n, .slice p k c, .string v, .slice q k2 d], .int .i64 z] ∧ match r with
    | none => z = -1
    | some (F, j) => z = (j : Nat) ∧ FmOwn 41 44 f (NewB w w') w' F [.int .i64 op, .string n, .slice p k c, .string v, .slice q k2 d]
theorem set5_heap (W : World) (rb b : Nat) (a0 a1 a2 a3 a4 : Value) (h : b ≠ rb) : (((((W.setCell ⟨rb, 0, none⟩ a0).setCell ⟨rb, 1, none⟩ a1).setCell ⟨rb, 2, none⟩ a2).setCell ⟨rb, 3, none⟩ a3).setCell ⟨rb, 4, none⟩ a4).heap[b]? = W.heap[b]? := by
  repeat rw [heap_setCell_other _ _ _ _ (fun e => h e)]
theorem BSt.set {w W : World} (h : BSt w W) (a0 a1 a2 a3 a4 : Value) : Below w.heap.size w (((((W.setCell ⟨w.heap.size, 0, none⟩ a0).setCell ⟨w.heap.size, 1, none⟩ a1).setCell ⟨w.heap.size, 2, none⟩ a2).setCell ⟨w.heap.size, 3, none⟩ a3).setCell ⟨w.heap.size, 4, none⟩ a4) :=
  Below.sc (Below.sc (Below.sc (Below.sc (Below.sc h.bel (Nat.le_refl _) a0) (Nat.le_refl _) a1) (Nat.le_refl _) a2) (Nat.le_refl _) a3) (Nat.le_refl _) a4
theorem GotFm.no {f : Nat} {w W : World} (h : BSt w W) (a0 a1 a2 a3 a4 : Value) (op : Int) (n v : ByteArray) (p q : Option Addr) (k c k2 d : Nat) :
    GotFm f none w (.tuple #[.agg #[.int .i64 op, .string n, .slice p k c, .string v, .slice q k2 d], .int .i64 (-1)]) (((((W.setCell ⟨w.heap.size, 0, none⟩ a0).setCell ⟨w.heap.size, 1, none⟩ a1).setCell ⟨w.heap.size, 2, none⟩ a2).setCell ⟨w.heap.size, 3, none⟩ a3).setCell ⟨w.heap.size, 4, none⟩ a4) :=
  ⟨h.set _ _ _ _ _, op, n, v, p, q, k, c, k2, d, -1, rfl, rfl⟩
theorem GotFm.yes {f : Nat} {w W : World} {S : Nat → Prop} {F : Fm} {y0 y1 y2 y3 y4 : Value} (h : BSt w W) (hO : FmOwn 41 44 f S W F [y0, y1, y2, y3, y4]) (hS : ∀ b, S b → w.heap.size < b ∧ b < W.heap.size) (j : Nat) (a0 a1 a2 a3 a4 : Value) :
    GotFm f (some (F, j)) w (.tuple #[.agg #[y0, y1, y2, y3, y4], .int .i64 (j : Nat)]) (((((W.setCell ⟨w.heap.size, 0, none⟩ a0).setCell ⟨w.heap.size, 1, none⟩ a1).setCell ⟨w.heap.size, 2, none⟩ a2).setCell ⟨w.heap.size, 3, none⟩ a3).setCell ⟨w.heap.size, 4, none⟩ a4) := by
  obtain ⟨p, c, q, d, rfl, rfl, rfl, rfl, rfl, -⟩ := hO.form
  refine ⟨h.set _ _ _ _ _, _, _, _, _, _, _, _, _, _, _, rfl, rfl, FmOwn.mono _ _ _ _ (Nat.le_refl _) (fun b hb _ => set5_heap W _ b _ _ _ _ _ (by have := hS b hb; omega)) (fun b hb => ?_) hO⟩
  have := hS b hb
  exact ⟨by omega, by simpa using this.2⟩
theorem GotFm.made {f : Nat} {w W : World} {S : Nat → Prop} {F : Fm} {y0 y1 y2 y3 y4 : Value} (hb : Below w.heap.size w W) (hO : FmOwn 41 44 f S W F [y0, y1, y2, y3, y4]) (hS : ∀ b, S b → w.heap.size ≤ b ∧ b < W.heap.size) (j : Nat) :
    GotFm f (some (F, j)) w (.tuple #[.agg #[y0, y1, y2, y3, y4], .int .i64 (j : Nat)]) W := by
  obtain ⟨p, c, q, d, rfl, rfl, rfl, rfl, rfl, -⟩ := hO.form
  exact ⟨hb, _, _, _, _, _, _, _, _, _, _, rfl, rfl, FmOwn.mono _ _ _ _ (Nat.le_refl _) (SameOn.refl _ _) hS hO⟩
theorem GotFm.mono {f f' : Nat} {r : Option (Fm × Nat)} {w w' : World} {x : Value} (hf : f ≤ f') (h : GotFm f r w x w') : GotFm f' r w x w' := by
  obtain ⟨hb, op, n, v, p, q, k, c, k2, d, z, rfl, h⟩ := h
  refine ⟨hb, op, n, v, p, q, k, c, k2, d, z, rfl, ?_⟩
  match r, h with
  | none, h => exact h
  | some (F, j), ⟨h1, h2⟩ => exact ⟨h1, FmOwn.mono _ _ _ _ hf (SameOn.refl _ _) (fun _ h => h) h2⟩
theorem GotFm.later {f : Nat} {r : Option (Fm × Nat)} {w w' w5 : World} {x : Value} (h : GotFm f r w x w') (hb5 : Below w'.heap.size w' w5) : GotFm f r w x w5 := by
  obtain ⟨hb, op, n, v, p, q, k, c, k2, d, z, rfl, h⟩ := h
  refine ⟨hb.trans (hb5.mono hb.size), op, n, v, p, q, k, c, k2, d, z, rfl, ?_⟩
  match r, h with
  | none, h => exact h
  | some (F, j), ⟨h1, h2⟩ => exact ⟨h1, FmOwn.mono _ _ _ _ (Nat.le_refl _) (SameOn.below hb5) (fun b h => ⟨h.1, Nat.lt_of_lt_of_le h.2 hb5.size⟩) h2⟩
theorem atomF_own8 {eT eF : TypeId} {m : Nat} {S : Nat → Prop} {w : World} {t : Tm} {v0 v1 : Value} (h : TmOwn eT m S w t [v0, v1]) : FmOwn eT eF (m + 1) S w (atomOfF t) [.int .i64 3, v0, v1, .string ⟨#[]⟩, .slice none 0 0] :=
  ⟨_, _, _, S, fun _ => False, rfl, by omega, Nat.zero_le _, h, OwnRow.nil _ _ _ _ _, fun _ hb => ⟨hb, fun h => h⟩, fun _ h => h.elim⟩
set_option maxHeartbeats 3200000 in
theorem l8Simple_any (s : ByteArray) (k : Nat) (w : World) (hk : k ≤ s.size) (hs : s.size ≤ 1000000) :
    Calls Tryz.prog 253 #[.string s, .int .i64 (k : Nat)] w fun e w' => ∃ x, e = .returned x ∧ GotFm (s.size + 6) (rSimp s.data.toList k) w x w' := by
  have HSI := Lib.hid (show rSimp s.data.toList k = match rTerm s.data.toList (s.size + 2) k with
    | none => none
    | some (a, j) => if at8 s.data.toList sEq8 j then (match rTerm s.data.toList (s.size + 2) (j + 3) with | none => none | some (b, e) => some (atomOfF (eqTm a b), e)) else some (atomF a, j) from rfl)
  have HB0 := Lib.hid (BSt.start w)
  go_enter Tryz.func253, Tryz.ntmps253
  go_wp2_with fail
  refine (l3Read_any (s.size + 2) s k _ hk hs (by omega)).mono ?_
  rintro e w1 ⟨x, rfl, hb1, s0, p0, k0, c0, z0, rfl, hgot⟩
  have HB1 := Lib.hid (HB0.out.later hb1)
  have hq1 := hb1.size
  (try simp at hq1)
  clear HB0 hb1
  obtain ⟨r0, r1, r2, r3, r4, rf⟩ := cells5_cell HB1.out.res
  have hrb := bsz (heap_lt HB1.out.res)
  cases hr : rTerm s.data.toList (s.size + 2) k with
  | none =>
    rw [hr] at hgot HSI
    simp only at hgot HSI
    subst hgot
    go_wp2
    refine bodyPost_ret (v := .tuple #[.agg #[.int .i64 0, .string ⟨#[]⟩, .slice none 0 0, .string ⟨#[]⟩, .slice none 0 0], .int .i64 (-1)]) (by simp only [results, Tryz.results253]; go_simp) rfl ⟨_, rfl, ?_⟩
    rw [HSI.out]
    exact (GotFm.no HB1.out _ _ _ _ _ _ _ _ _ _ _ _ _ _).later ((Below.refl _ _).alloc (Nat.le_refl _) _)
  | some aj =>
    obtain ⟨a, j⟩ := aj
    rw [hr] at hgot HSI
    simp only at hgot HSI
    obtain ⟨rfl, hO⟩ := hgot
    obtain ⟨p', c', h1, h2, -⟩ := hO.form
    simp only [Value.string.injEq, Value.slice.injEq] at h1 h2
    obtain rfl := h1
    obtain ⟨rfl, rfl, rfl⟩ := h2
    have hwt := rTerm_wt s.data.toList (s.size + 2) k a j (by rw [← size_list]; exact hk) hr
    rw [← size_list] at hwt
    clear r0 r1 r2 r3 r4 rf hrb hr
    have hjn : ¬ ((j : Nat) : Int) < 0 := by omega
    go_wp2_with fail
    obtain ⟨W, hW⟩ : ∃ W : World, W = w1.alloc (.cells #[.string a.n, .slice p0 a.us.length c0] 41) := ⟨_, rfl⟩
    have HBW := Lib.hid (HB1.out.later (show Below w1.heap.size w1 W by rw [hW]; exact (Below.refl _ _).alloc (Nat.le_refl _) _))
    have HT := Lib.hid (show W.heap[w1.heap.size]? = some (.cells #[.string a.n, .slice p0 a.us.length c0] 41 (0, 0)) by rw [hW]; exact heap_alloc_new w1 _)
    have hzW : W.heap.size = w1.heap.size + 1 := by rw [hW]; simp
    have HO := Lib.hid (show TmOwn 41 (s.size + 2) (fun b => w.heap.size + 1 ≤ b ∧ b < w1.heap.size) W a [.string a.n, .slice p0 a.us.length c0] from TmOwn.mono _ _ _ _ (Nat.le_refl _) (fun b hb hlt => by rw [hW]; exact hao w1 _ b hlt) (fun b hb => by simpa using hb) hO)
    rw [← hW]
    clear hW hO HB1
    refine (l8Starts_any s _ j _ hwt.2.1 (by omega) (by decide)).mono ?_
    rw [show (⟨#[32, 61, 32]⟩ : ByteArray).data.toList.isPrefixOf (s.data.toList.drop j) = at8 s.data.toList sEq8 j from rfl]
    rintro e w2 ⟨rfl, rfl⟩
    obtain ⟨r0, r1, r2, r3, r4, rf⟩ := cells5_cell HBW.out.res
    have hrb := bsz (heap_lt HBW.out.res)
    obtain ⟨b0, b1, bf⟩ := cells2_cell HT.out
    have hbb := bsz (heap_lt HT.out)
    cases h8 : at8 s.data.toList sEq8 j
    · rw [h8] at HSI
      simp only [Bool.false_eq_true, if_false] at HSI
      by_cases hu : a.us = []
      · have hlen : ((a.us.length : Int) == 0) = true := by rw [hu]; rfl
        by_cases hn : a.n.data.toList = sTrue8
        · have HF2 := Lib.hid (show atomF a = opF 1 [] by rw [atomF, if_pos ⟨hn, hu⟩])
          have hn2 : (a.n.toList == [116, 114, 117, 101]) = true := by rw [ByteArray.toList_eq, hn]; rfl
          clear hn hu
          go_wp2
          refine bodyPost_ret (v := .tuple #[.agg #[.int .i64 1, .string ⟨#[]⟩, .slice none 0 0, .string ⟨#[]⟩, .slice none 0 0], .int .i64 (j : Nat)]) (by simp only [results, Tryz.results253]; go_simp) rfl ⟨_, rfl, ?_⟩
          rw [HSI.out, HF2.out]
          exact GotFm.yes (S := fun _ => False) HBW.out (opF_own (m := s.size + 4) (by omega) (OwnRow.nil _ _ _ _ _)) (fun _ h => h.elim) j _ _ _ _ _
        · have hn2 : (a.n.toList == [116, 114, 117, 101]) = false := by rw [ByteArray.toList_eq]; simpa [sTrue8] using hn
          by_cases hm : a.n.data.toList = sFalse8
          · have HF2 := Lib.hid (show atomF a = opF 2 [] by rw [atomF, if_neg (fun h => hn h.1), if_pos ⟨hm, hu⟩])
            have hm2 : (a.n.toList == [102, 97, 108, 115, 101]) = true := by rw [ByteArray.toList_eq, hm]; rfl
            clear hn hu hm
            go_wp2
            refine bodyPost_ret (v := .tuple #[.agg #[.int .i64 2, .string ⟨#[]⟩, .slice none 0 0, .string ⟨#[]⟩, .slice none 0 0], .int .i64 (j : Nat)]) (by simp only [results, Tryz.results253]; go_simp) rfl ⟨_, rfl, ?_⟩
            rw [HSI.out, HF2.out]
            exact GotFm.yes (S := fun _ => False) HBW.out (opF_own (m := s.size + 4) (by omega) (OwnRow.nil _ _ _ _ _)) (fun _ h => h.elim) j _ _ _ _ _
          · have HF2 := Lib.hid (show atomF a = atomOfF a by rw [atomF, if_neg (fun h => hn h.1), if_neg (fun h => hm h.1)])
            have hm2 : (a.n.toList == [102, 97, 108, 115, 101]) = false := by rw [ByteArray.toList_eq]; simpa [sFalse8] using hm
            clear hn hu hm
            go_wp2
            refine bodyPost_ret (v := .tuple #[.agg #[.int .i64 3, .string a.n, .slice p0 a.us.length c0, .string ⟨#[]⟩, .slice none 0 0], .int .i64 (j : Nat)]) (by simp only [results, Tryz.results253]; go_simp) rfl ⟨_, rfl, ?_⟩
            rw [HSI.out, HF2.out]
            exact GotFm.yes HBW.out (FmOwn.mono (s.size + 3) (s.size + 6) _ _ (by omega) (SameOn.refl _ _) (fun _ h => h) (atomF_own8 HO.out)) (fun b hb => by have h1 := hb.1; have h2 := hb.2; exact ⟨by omega, by omega⟩) j _ _ _ _ _
      · have hlen : ((a.us.length : Int) == 0) = false := by rw [beq_eq_false_iff_ne]; intro e; exact hu (List.eq_nil_of_length_eq_zero (by omega))
        have HF2 := Lib.hid (show atomF a = atomOfF a by rw [atomF, if_neg (fun h => hu h.2), if_neg (fun h => hu h.2)])
        clear hu
        go_wp2
        refine bodyPost_ret (v := .tuple #[.agg #[.int .i64 3, .string a.n, .slice p0 a.us.length c0, .string ⟨#[]⟩, .slice none 0 0], .int .i64 (j : Nat)]) (by simp only [results, Tryz.results253]; go_simp) rfl ⟨_, rfl, ?_⟩
        rw [HSI.out, HF2.out]
        exact GotFm.yes HBW.out (FmOwn.mono (s.size + 3) (s.size + 6) _ _ (by omega) (SameOn.refl _ _) (fun _ h => h) (atomF_own8 HO.out)) (fun b hb => by have h1 := hb.1; have h2 := hb.2; exact ⟨by omega, by omega⟩) j _ _ _ _ _
    · rw [h8] at HSI
      simp only [if_true] at HSI
      have h3 : j + 3 ≤ s.size := by have := at8_le h8 (by rw [← size_list]; exact hwt.2.1); rw [← size_list] at this; exact this
      clear h8
      go_wp2_with fail
      rw [show ((j : Int) + 3) = ((j + 3 : Nat) : Int) by omega]
      refine (l3Read_any (s.size + 2) s (j + 3) _ h3 hs (by omega)).mono ?_
      rintro e w2 ⟨x, rfl, hb2, s1, p1, k1, c1, z1, rfl, hgot⟩
      have HB2 := Lib.hid (HBW.out.later hb2)
      have HT2 := Lib.hid ((hb2.block _ (by omega)).trans HT.out)
      have HO2 := Lib.hid (TmOwn.below hb2 HO.out)
      have hq2 := hb2.size
      clear HBW HT HO hb2 r0 r1 r2 r3 r4 rf hrb b0 b1 bf hbb
      obtain ⟨r0, r1, r2, r3, r4, rf⟩ := cells5_cell HB2.out.res
      have hrb := bsz (heap_lt HB2.out.res)
      obtain ⟨b0, b1, bf⟩ := cells2_cell HT2.out
      have hbb := bsz (heap_lt HT2.out)
      cases hr : rTerm s.data.toList (s.size + 2) (j + 3) with
      | none =>
        rw [hr] at hgot HSI
        simp only at hgot HSI
        subst hgot
        go_wp2
        refine bodyPost_ret (v := .tuple #[.agg #[.int .i64 3, .string ⟨#[61]⟩, .slice (some ⟨w2.heap.size + 1, 0, none⟩) 2 2, .string ⟨#[]⟩, .slice none 0 0], .int .i64 (-1)]) (by simp only [results, Tryz.results253]; go_simp) rfl ⟨_, rfl, ?_⟩
        rw [HSI.out]
        exact ((GotFm.no HB2.out _ _ _ _ _ _ _ _ _ _ _ _ _ _).later ((Below.refl _ _).alloc (Nat.le_refl _) _)).later ((Below.refl _ _).alloc (Nat.le_refl _) _)
      | some bj =>
        obtain ⟨b, e⟩ := bj
        rw [hr] at hgot HSI
        simp only at hgot HSI
        obtain ⟨rfl, hOb⟩ := hgot
        obtain ⟨p', c', h1, h2, -⟩ := hOb.form
        simp only [Value.string.injEq, Value.slice.injEq] at h1 h2
        obtain rfl := h1
        obtain ⟨rfl, rfl, rfl⟩ := h2
        have hwt2 := rTerm_wt s.data.toList (s.size + 2) (j + 3) b e (by rw [← size_list]; exact h3) hr
        rw [← size_list] at hwt2
        have HOB := Lib.hid hOb
        clear hOb hr
        go_wp2
        refine bodyPost_ret (v := .tuple #[.agg #[.int .i64 3, .string ⟨#[61]⟩, .slice (some ⟨w2.heap.size + 1, 0, none⟩) 2 2, .string ⟨#[]⟩, .slice none 0 0], .int .i64 (e : Nat)]) (by simp only [results, Tryz.results253]; go_simp) rfl ⟨_, rfl, ?_⟩
        rw [HSI.out]
        have hk : ∀ (W3 : World), W3.heap.size = w2.heap.size → (∀ c, c ≠ w.heap.size → W3.heap[c]? = w2.heap[c]?) → ∀ (o o2 : Obj) c, c ≠ w.heap.size → c < w2.heap.size → ((W3.alloc o).alloc o2).heap[c]? = w2.heap[c]? := fun W3 hz hs o o2 c hc hlt => (hao _ _ c (by simp; omega)).trans ((hao _ _ c (by omega)).trans (hs c hc))
        refine GotFm.made (S := fun c => w.heap.size + 1 ≤ c ∧ c < w2.heap.size + 2 ∧ c ≠ w1.heap.size ∧ c ≠ w2.heap.size) (Below.al (Below.al (HB2.out.set _ _ _ _ _) _) _) ?_ (fun c hc => ⟨by omega, by simp; omega⟩) e
        refine FmOwn.mono (s.size + 4) (s.size + 6) _ _ (by omega) (SameOn.refl _ _) (fun _ h => h) (atomF_own8 ⟨_, rfl, by decide, ?_⟩)
        exact OwnRow.two' (by simp) [.string a.n, .slice p0 a.us.length c0] [.string b.n, .slice p1 b.us.length c1] _ rfl rfl rfl
          (TmOwn.mono _ _ _ _ (Nat.le_refl _) (fun c hc hlt => hk _ (by simp) (fun c hc => set5_heap w2 _ c _ _ _ _ _ hc) _ _ c (by omega) (by omega)) (fun _ h => h) HO2.out)
          (TmOwn.mono _ _ _ _ (Nat.le_refl _) (fun c hc hlt => hk _ (by simp) (fun c hc => set5_heap w2 _ c _ _ _ _ _ hc) _ _ c (by have := hc.1; omega) hlt) (fun _ h => h) HOB.out)
          (fun c hc => by omega) (fun c hc => by have := hc.2; omega) (fun c hc hc' => by have := hc'.1; omega) (fun c hc => by omega) (fun c hc => by have h1 := hc.1; have h2 := hc.2; omega) (by omega)
theorem baseV9 (x0 x1 x2 x3 x4 x5 x6 x7 x8 : Option Value) (v : Value) (l : List (Option Value)) : baseV (x0 :: x1 :: x2 :: x3 :: x4 :: x5 :: x6 :: x7 :: x8 :: some v :: l) 9 = v := rfl
theorem baseV10 (x0 x1 x2 x3 x4 x5 x6 x7 x8 x9 : Option Value) (v : Value) (l : List (Option Value)) : baseV (x0 :: x1 :: x2 :: x3 :: x4 :: x5 :: x6 :: x7 :: x8 :: x9 :: some v :: l) 10 = v := rfl
theorem baseV11 (x0 x1 x2 x3 x4 x5 x6 x7 x8 x9 x10 : Option Value) (v : Value) (l : List (Option Value)) : baseV (x0 :: x1 :: x2 :: x3 :: x4 :: x5 :: x6 :: x7 :: x8 :: x9 :: x10 :: some v :: l) 11 = v := rfl
theorem baseV12 (x0 x1 x2 x3 x4 x5 x6 x7 x8 x9 x10 x11 : Option Value) (v : Value) (l : List (Option Value)) : baseV (x0 :: x1 :: x2 :: x3 :: x4 :: x5 :: x6 :: x7 :: x8 :: x9 :: x10 :: x11 :: some v :: l) 12 = v := rfl
theorem baseV13 (x0 x1 x2 x3 x4 x5 x6 x7 x8 x9 x10 x11 x12 : Option Value) (v : Value) (l : List (Option Value)) : baseV (x0 :: x1 :: x2 :: x3 :: x4 :: x5 :: x6 :: x7 :: x8 :: x9 :: x10 :: x11 :: x12 :: some v :: l) 13 = v := rfl
theorem baseV14 (x0 x1 x2 x3 x4 x5 x6 x7 x8 x9 x10 x11 x12 x13 : Option Value) (v : Value) (l : List (Option Value)) : baseV (x0 :: x1 :: x2 :: x3 :: x4 :: x5 :: x6 :: x7 :: x8 :: x9 :: x10 :: x11 :: x12 :: x13 :: some v :: l) 14 = v := rfl
theorem baseV15 (x0 x1 x2 x3 x4 x5 x6 x7 x8 x9 x10 x11 x12 x13 x14 : Option Value) (v : Value) (l : List (Option Value)) : baseV (x0 :: x1 :: x2 :: x3 :: x4 :: x5 :: x6 :: x7 :: x8 :: x9 :: x10 :: x11 :: x12 :: x13 :: x14 :: some v :: l) 15 = v := rfl
attribute [go_sem] baseV9 baseV10 baseV11 baseV12 baseV13 baseV14 baseV15
end Go.Proofs.YtkgfanajgdelcaaGreatDoor
