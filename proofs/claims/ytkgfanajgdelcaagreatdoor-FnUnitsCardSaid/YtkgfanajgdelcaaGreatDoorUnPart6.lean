/- The reference parses a formula in parentheses. Conditions: it stands inside its text. -/
import Derived.Test.YtkgfanajgdelcaaGreatDoorUnPart4
import Derived.Test.YtkgfanajgdelcaaGreatDoorUnPart5
namespace Go.Proofs.YtkgfanajgdelcaaGreatDoor
open Go.RowKit
def TermC (f : Nat) : Prop := ∀ (g : Nat) (s : ByteArray) (p : PSt) (w : World), PAt 190 w g s p → p.pos ≤ s.size → s.size ≤ 1000000 → s.size - p.pos < f →
    Calls Tryz.prog 260 #[.pointer (some ⟨g, 0, none⟩)] w fun e w' => ∃ x, e = .returned x ∧ TermP 41 g w.heap.size s f (pTerm s.data.toList f p).1 (pTerm s.data.toList f p).2 190 w x w'
def ArgRel (ro : Obj) (w : World) (g rb bt : Nat) (s : ByteArray) (n : List UInt8) (sep : List UInt8) (f : Nat) (all : List Tm) (pe : PSt) (wr : World) : Prop :=
  ∃ (f' : Nat) (p' : PSt) (v : Value) (xs : List Tm), TSt 41 190 ro w g rb bt s n p' v xs f wr ∧ f' ≤ f ∧ xs ++ (pArgs s.data.toList sep f' p').1 = all ∧ (pArgs s.data.toList sep f' p').2 = pe ∧ s.size - p'.pos < f' ∧ p'.pos ≤ s.size ∧ xs.length ≤ p'.pos
set_option maxRecDepth 100000 in
set_option maxHeartbeats 3200000 in
theorem term_any : ∀ f : Nat, TermC f := by
  intro f
  induction f using Nat.strongRecOn with
  | _ f0 ih =>
    intro g s p w h hp hs hf
    obtain ⟨f, rfl⟩ : ∃ f, f0 = f + 1 := ⟨f0 - 1, by omega⟩
    have IH := Lib.hid ih
    have H := Lib.hid h
    have hg := bsz h.lt
    clear h ih
    go_enter Tryz.func260, Tryz.ntmps260
    go_wp2_with fail
    refine (word_any g s p _ (H.out.below (by exact bel)) hp (by omega)).mono ?_
    rintro e w1 ⟨v, rfl, rfl, h1, hg1⟩
    have ⟨c1, f1⟩ := gcell hg1
    have hz1 := hg1.size
    (try simp at hz1)
    have hw1 := pWord_pos s.data.toList p hp
    have HD := Lib.hid (show pTerm s.data.toList (f + 1) p = _ from rfl)
    rw [← size_list] at hw1
    have hwn := pWord_len s.data.toList p
    rw [← size_list] at hwn
    generalize hpw : pWord s.data.toList p = q at *
    obtain ⟨n, p1⟩ := q
    have HPW := Lib.hid hpw
    have H1 := Lib.hid h1
    clear hpw h1
    simp only at hw1 H1 hwn
    cases hT : pTake s.data.toList [40] p1
    · have HT := Lib.hid hT
      have HFIN := Lib.hid (show pTerm s.data.toList (f + 1) p = (.mk ⟨n.toArray⟩ [], p1) by rw [pTerm, HPW.out, hT]; rfl)
      go_wp2_with fail
      refine (take_any g s ⟨#[40]⟩ p1 _ (H1.out.below (by exact bel)) hw1.2 (by omega) (by decide)).mono ?_
      rw [show (⟨#[40]⟩ : ByteArray).data.toList = [40] from rfl, HT.out]
      rintro e w2 ⟨v, rfl, rfl, h2, hg2⟩
      have HTS : Hid (TSt 41 190 (.cells #[.string ⟨#[]⟩, .slice none 0 0] 41 (0, 0)) w g w.heap.size w1.heap.size s n p1 (.slice none 0 0) [] f w2) := Lib.hid (TSt.init (by omega) hg1 hg2 h2)
      clear h2 hg2
      obtain ⟨b0, b1, -⟩ := cells2_cell HTS.out.cell
      obtain ⟨r0, r1, rf⟩ := cells2_cell HTS.out.res
      go_wp2
      refine bodyPost_ret (v := .agg #[.string ⟨n.toArray⟩, .slice none 0 0]) (by simp only [results, Tryz.results260]; go_simp) rfl ⟨_, rfl, ?_⟩
      rw [HFIN.out]
      exact HTS.out.done (by omega) _ _
    · have HT := Lib.hid hT
      have hle := pTake_le hT (by rw [← size_list]; exact hw1.2)
      go_wp2_with fail
      refine (take_any g s ⟨#[40]⟩ p1 _ (H1.out.below (by exact bel)) hw1.2 (by omega) (by decide)).mono ?_
      rw [show (⟨#[40]⟩ : ByteArray).data.toList = [40] from rfl, HT.out]
      rintro e w2 ⟨v, rfl, rfl, h2, hg2⟩
      have ⟨c2, f2⟩ := gcell hg2
      have hz2 := hg2.size
      (try simp at hz2)
      have HTS : Hid (TSt 41 190 (.cells #[.string ⟨#[]⟩, .slice none 0 0] 41 (0, 0)) w g w.heap.size w1.heap.size s n (pAdv [40] p1) (.slice none 0 0) [] f w2) := Lib.hid (TSt.init (by omega) hg1 hg2 h2)
      have HBT := Lib.hid (show w2.cell? ⟨w1.heap.size, 1, none⟩ = some (.slice none 0 0) by rw [cell_of_row w2 _ 1 _ _ (0, 0) HTS.out.cell]; rfl)
      have HNE := Lib.hid (show w1.heap.size ≠ g by have := HTS.out.lt; omega)
      go_wp2
      obtain ⟨tq, htq⟩ : ∃ tq, (pTerm s.data.toList f (pAdv [40] p1)).1 = tq := ⟨_, rfl⟩
      obtain ⟨pq, hpq⟩ : ∃ pq, (pTerm s.data.toList f (pAdv [40] p1)).2 = pq := ⟨_, rfl⟩
      have HTQ := Lib.hid htq
      have HPQ := Lib.hid hpq
      have HRD := Lib.hid (show (pAdv [40] p1).pos ≤ s.size ∧ s.size - (pAdv [40] p1).pos < f by simp only [pAdv, List.length_cons, List.length_nil]; rw [← size_list] at hle; simp only [List.length_cons, List.length_nil] at hle; omega)
      have HLEN := Lib.hid (show ([] : List Tm).length + 1 ≤ 1000000 by decide)
      have HFIN := Lib.hid (show pTerm s.data.toList (f + 1) p = (.mk ⟨n.toArray⟩ (tq :: (pArgs s.data.toList [44] f pq).1), pMust s.data.toList [41] (pArgs s.data.toList [44] f pq).2) by rw [pTerm, HPW.out, if_pos HT.out, htq, hpq])
      clear htq hpq
      obtain ⟨CP, hCP0⟩ : ∃ CP : Value → World → Prop, CP = TermP 41 g w2.heap.size s f tq pq 190 w2.drew := ⟨_, rfl⟩
      have HCP := Lib.hid hCP0
      have HGR := Lib.hid (show ∀ x w', CP x w' → w2.grownBy w' (some g) from by
        rw [hCP0]; rintro x w' ⟨_, _, _, _, _, hG⟩; exact ⟨hG.os, hG.tape, hG.output, hG.size, hG.block⟩)
      have HAGG := Lib.hid (show ∀ x w', CP x w' → ∃ v0 v1, x = .agg #[v0, v1] ∧ v0.oneCell' = true ∧ v1.oneCell' = true from by
        rw [hCP0]; rintro x w' ⟨v0, v1, hx, hO, _, _⟩
        obtain ⟨pp, cc, rfl, rfl, -⟩ := hO.form
        exact ⟨_, _, hx, rfl, rfl⟩)
      clear hCP0
      refine wp_region_stages [some (.pointer (some ⟨w1.heap.size, 1, none⟩)), some (.slice none 0 0), some (.pointer (some ⟨g, 0, none⟩)), none, none, none, some (.pointer (some ⟨w1.heap.size, 1, none⟩)), none] [3, 4, 5, 7] (AppSt 41 g w1.heap.size CP (.slice none 0 0) 0 w2 3 4 5) (by kernel_rfl) (by kernel_rfl) (by first | kernel_rfl | rfl) (by rfl) rfl ?_
      refine chain_st rfl rfl (by decide) rfl (by intro j u w' hS; go_simp; first | done | exact ⟨hS, rfl⟩ | exact hS | rfl) ?_
      go_simp
      refine chain_stb (c := 5) 2 rfl rfl (by decide) rfl rfl rfl (by first | kernel_rfl | rfl) ?_ ?_
      · intro j u w' hj hS
        have hc := AppSt.cell HGR.out HBT.out HNE.out hj hS
        go_simp
        first | done | exact ⟨hS, rfl⟩ | exact hS | rfl
      go_simp
      refine chain_st rfl rfl (by decide) rfl (by intro j u w' hS; go_simp; first | done | exact ⟨hS, rfl⟩ | exact hS | rfl) ?_
      go_simp
      refine chain_first rfl rfl rfl (by decide) rfl ?_ ?_
      · intro w' hS
        obtain rfl : w' = w2.drew := hS
        go_simp
        refine (IH.out f (by omega) g s _ _ (PAt.below HTS.out.at_ (by exact bel)) HRD.out.1 hs HRD.out.2).mono ?_
        rintro e w'' ⟨x, he, hx⟩
        rw [HTQ.out, HPQ.out] at hx
        exact ⟨x, he, by show CP (upd _ 3 x 3) w''; rw [upd_same, HCP.out]; exact hx.mono (by omega)⟩
      intro x
      go_simp
      refine chain_next 0 rfl rfl rfl rfl (by decide) rfl (by first | kernel_rfl | rfl) ?_ ?_
      · intro w' hS
        have hS : CP (upd _ 3 x 3) w' := hS
        rw [upd_same] at hS
        obtain ⟨v0, v1, rfl, o0, o1⟩ := HAGG.out _ _ hS
        go_simp
        exact ⟨w', v0, v1, hS, by rw [upd_same], rfl⟩
      intro y
      go_simp
      refine chain_next 1 rfl rfl rfl rfl (by decide) rfl (by first | kernel_rfl | rfl) ?_ ?_
      · intro w' hS
        obtain ⟨w1', v0, v1, hcp, hy, rfl⟩ := hS
        rw [upd_same] at hy
        subst hy
        obtain ⟨v0', v1', he, o0, o1⟩ := HAGG.out _ _ hcp
        simp only [Value.agg.injEq, Array.mk.injEq, List.cons.injEq, and_true] at he
        obtain ⟨rfl, rfl⟩ := he
        have hG1 := HGR.out _ _ hcp
        obtain ⟨hm, vals, Ss, r1, r2, r3, r4⟩ := HTS.out.row
        have hlt := HTS.out.lt
        have hlen := HLEN.out
        refine each_app1 (.tmp 10) (.tmp 13) _ rfl 0 41 2 40 elemTmI (.slice none 0 0) _ vals rfl w1' #[v0, v1] rfl rfl (own_same r1 fun b hb hl => hG1.block b hl (by have := r2 b hb; simp; omega)) rfl (by intro u hu; simp at hu; rcases hu with rfl | rfl <;> assumption) (by omega) (by unfold maxLen; omega) (Nat.zero_le _) ?_
        intro v' w3 happ hg3 hnr hsz
        exact ⟨w1', v0, v1, hcp, by rw [upd_same]; exact happ, hg3, by rw [upd_same]; exact hnr, hsz⟩
      intro z
      go_simp
      refine chain_st rfl rfl (by decide) rfl (by intro j u w' hS; go_simp; first | done | exact ⟨hS, rfl⟩ | exact hS | rfl) ?_
      go_simp
      refine chain_next 2 rfl rfl rfl rfl (by decide) rfl (by first | kernel_rfl | rfl) ?_ ?_
      · intro w' hS
        obtain ⟨w1', v0, v1, hcp, happ, hg3, hnr, hsz⟩ := hS
        rw [upd_same] at happ hnr
        obtain ⟨⟨q', c', rfl⟩, hbt⟩ := HTS.out.three HGR.out hcp happ hg3
        have hcell : w'.cell? ⟨w1.heap.size, 1, none⟩ = some (.slice none 0 0) := by rw [cell_of_row w' _ 1 _ _ (0, 0) hbt]; rfl
        have hfro : w'.frozen? ⟨w1.heap.size, 1, none⟩ = false := frozen_of_row w' _ 1 _ _ hbt
        clear hbt
        go_simp
        refine ⟨w1', w', v0, v1, hcp, ?_, hg3, ?_, hsz, ?_⟩
        · rw [upd_other _ _ (by decide), upd_same]; exact happ
        · rw [upd_other _ _ (by decide), upd_same]; exact hnr
        · rw [upd_other _ _ (by decide), upd_same]
      intro x'
      refine flowU_nil ?_
      intro wz hz
      have HZ := Lib.hid (HTS.out.app (by have := hz; rw [HCP.out] at this; exact this) HLEN.out)
      rw [upd_other _ _ (by decide), upd_same] at HZ
      clear hz
      go_simp
      have hpp := pTerm_pos s.data.toList f (pAdv [40] p1) (by rw [← size_list]; exact HRD.out.1)
      rw [HPQ.out, ← size_list] at hpp
      simp only [pAdv, List.length_cons, List.length_nil] at hpp
      have HPP := Lib.hid hpp
      have HRD' := HRD.out
      simp only [pAdv, List.length_cons, List.length_nil] at HRD'
      have HRDX := Lib.hid HRD'
      clear hpp HRD'
      go_wp2
      go_loopw [] (ArgRel (.cells #[.string ⟨#[]⟩, .slice none 0 0] 41 (0, 0)) w g w.heap.size w1.heap.size s n [44] f (tq :: (pArgs s.data.toList [44] f pq).1) (pArgs s.data.toList [44] f pq).2) (fun wr => s.size - posOf wr g)
      case atStart => exact ⟨f, pq, z, [tq], by simpa using HZ.out, Nat.le_refl _, rfl, rfl, by have := HPP.out; have := HRDX.out; omega, HPP.out.2, by have := HPP.out; simp; omega⟩
      case round =>
        obtain ⟨f', p', v, xs, hts, hff, hal, hpe, hfu, hpl, hxl⟩ := hrel
        have HTS0 := Lib.hid hts
        have HAL := Lib.hid (And.intro hal hpe)
        have HPO := hts.at_.posOf
        clear hts hal hpe HTS HBT HNE HTQ HPQ HRD HLEN HZ
        obtain ⟨f'', rfl⟩ : ∃ q, f' = q + 1 := ⟨f' - 1, by omega⟩
        have hg' := bsz HTS0.out.at_.lt
        cases hT2 : pTake s.data.toList [44] p'
        · have HEND := Lib.hid (show pArgs s.data.toList [44] (f'' + 1) p' = ([], p') by rw [pArgs, hT2]; rfl)
          have HT2 := Lib.hid hT2
          go_wp2_with fail
          refine (take_any g s ⟨#[44]⟩ p' _ (PAt.below HTS0.out.at_ (by exact bel)) hpl (by omega) (by decide)).mono ?_
          rw [show (⟨#[44]⟩ : ByteArray).data.toList = [44] from rfl, HT2.out]
          rintro e w3 ⟨_, rfl, rfl, h3, hg3⟩
          have HTS1 := Lib.hid (HTS0.out.reader (p' := p') h3 hg3)
          clear h3 hg3
          go_wp2_with fail
          refine (must_any g s ⟨#[41]⟩ p' _ (PAt.below HTS1.out.at_ (by exact bel)) hpl (by omega) (by decide)).mono ?_
          rw [show (⟨#[41]⟩ : ByteArray).data.toList = [41] from rfl]
          rintro e w4 ⟨_, rfl, rfl, h4, hg4⟩
          have HTS2 := Lib.hid (HTS1.out.reader h4 hg4)
          clear h4 hg4
          obtain ⟨pv, cv, hvv, -⟩ := HTS2.out.row.form
          subst hvv
          obtain ⟨b0, b1, -⟩ := cells2_cell HTS2.out.cell
          obtain ⟨r0, r1, rf⟩ := cells2_cell HTS2.out.res
          go_wp2
          have hal := HAL.out
          rw [HEND.out, List.append_nil] at hal
          refine bodyPost_ret (v := .agg #[.string ⟨n.toArray⟩, .slice pv xs.length cv]) (by simp only [results, Tryz.results260]; go_simp) rfl ⟨_, rfl, ?_⟩
          rw [HFIN.out, ← hal.1, ← hal.2]
          exact HTS2.out.done (by omega) _ _
        · have HT2 := Lib.hid hT2
          have hle2 := pTake_le hT2 (by rw [← size_list]; exact hpl)
          rw [← size_list] at hle2
          simp only [List.length_cons, List.length_nil] at hle2
          go_wp2_with fail
          refine (take_any g s ⟨#[44]⟩ p' _ (PAt.below HTS0.out.at_ (by exact bel)) hpl (by omega) (by decide)).mono ?_
          rw [show (⟨#[44]⟩ : ByteArray).data.toList = [44] from rfl, HT2.out]
          rintro e w3 ⟨_, rfl, rfl, h3, hg3⟩
          have HTS := Lib.hid (HTS0.out.reader (p' := pAdv [44] p') h3 hg3)
          clear h3 hg3
          have HBT := Lib.hid (show w3.cell? ⟨w1.heap.size, 1, none⟩ = some v from (cells2_cell HTS.out.cell).2.1)
          have HNE := Lib.hid (show w1.heap.size ≠ g by have := HTS.out.lt; omega)
          go_wp2
          obtain ⟨tq, htq⟩ : ∃ tq, (pTerm s.data.toList f'' (pAdv [44] p')).1 = tq := ⟨_, rfl⟩
          obtain ⟨pq, hpq⟩ : ∃ pq, (pTerm s.data.toList f'' (pAdv [44] p')).2 = pq := ⟨_, rfl⟩
          have HTQ := Lib.hid htq
          have HPQ := Lib.hid hpq
          have HRD := Lib.hid (show (pAdv [44] p').pos ≤ s.size ∧ s.size - (pAdv [44] p').pos < f'' by simp only [pAdv, List.length_cons, List.length_nil]; omega)
          have HLEN := Lib.hid (show xs.length + 1 ≤ 1000000 by omega)
          have HSTEP := Lib.hid (show pArgs s.data.toList [44] (f'' + 1) p' = (tq :: (pArgs s.data.toList [44] f'' pq).1, (pArgs s.data.toList [44] f'' pq).2) by rw [pArgs, if_pos HT2.out, htq, hpq])
          clear htq hpq
          obtain ⟨CP, hCP0⟩ : ∃ CP : Value → World → Prop, CP = TermP 41 g w3.heap.size s f tq pq 190 w3.drew := ⟨_, rfl⟩
          have HCP := Lib.hid hCP0
          have HGR := Lib.hid (show ∀ x w', CP x w' → w3.grownBy w' (some g) from by
            rw [hCP0]; rintro x w' ⟨_, _, _, _, _, hG⟩; exact ⟨hG.os, hG.tape, hG.output, hG.size, hG.block⟩)
          have HAGG := Lib.hid (show ∀ x w', CP x w' → ∃ v0 v1, x = .agg #[v0, v1] ∧ v0.oneCell' = true ∧ v1.oneCell' = true from by
            rw [hCP0]; rintro x w' ⟨v0, v1, hx, hO, _, _⟩
            obtain ⟨pp, cc, rfl, rfl, -⟩ := hO.form
            exact ⟨_, _, hx, rfl, rfl⟩)
          clear hCP0
          refine wp_region_stages [some (.pointer (some ⟨w1.heap.size, 1, none⟩)), some v, some (.pointer (some ⟨g, 0, none⟩)), none, none, none, some (.pointer (some ⟨w1.heap.size, 1, none⟩)), none] [3, 4, 5, 7] (AppSt 41 g w1.heap.size CP v xs.length w3 3 4 5) (by kernel_rfl) (by kernel_rfl) (by first | kernel_rfl | rfl) (by rfl) rfl ?_
          refine chain_st rfl rfl (by decide) rfl (by intro j u w' hS; go_simp; first | done | exact ⟨hS, rfl⟩ | exact hS | rfl) ?_
          go_simp
          refine chain_stb (c := 5) 2 rfl rfl (by decide) rfl rfl rfl (by first | kernel_rfl | rfl) ?_ ?_
          · intro j u w' hj hS
            have hc := AppSt.cell HGR.out HBT.out HNE.out hj hS
            go_simp
            first | done | exact ⟨hS, rfl⟩ | exact hS | rfl
          go_simp
          refine chain_st rfl rfl (by decide) rfl (by intro j u w' hS; go_simp; first | done | exact ⟨hS, rfl⟩ | exact hS | rfl) ?_
          go_simp
          refine chain_first rfl rfl rfl (by decide) rfl ?_ ?_
          · intro w' hS
            obtain rfl : w' = w3.drew := hS
            go_simp
            refine (IH.out f'' (by omega) g s _ _ (PAt.below HTS.out.at_ (by exact bel)) HRD.out.1 hs HRD.out.2).mono ?_
            rintro e w'' ⟨x, he, hx⟩
            rw [HTQ.out, HPQ.out] at hx
            exact ⟨x, he, by show CP (upd _ 3 x 3) w''; rw [upd_same, HCP.out]; exact hx.mono (by omega)⟩
          intro x
          go_simp
          refine chain_next 0 rfl rfl rfl rfl (by decide) rfl (by first | kernel_rfl | rfl) ?_ ?_
          · intro w' hS
            have hS : CP (upd _ 3 x 3) w' := hS
            rw [upd_same] at hS
            obtain ⟨v0, v1, rfl, o0, o1⟩ := HAGG.out _ _ hS
            go_simp
            exact ⟨w', v0, v1, hS, by rw [upd_same], rfl⟩
          intro y
          go_simp
          refine chain_next 1 rfl rfl rfl rfl (by decide) rfl (by first | kernel_rfl | rfl) ?_ ?_
          · intro w' hS
            obtain ⟨w1', v0, v1, hcp, hy, rfl⟩ := hS
            rw [upd_same] at hy
            subst hy
            obtain ⟨v0', v1', he, o0, o1⟩ := HAGG.out _ _ hcp
            simp only [Value.agg.injEq, Array.mk.injEq, List.cons.injEq, and_true] at he
            obtain ⟨rfl, rfl⟩ := he
            have hG1 := HGR.out _ _ hcp
            obtain ⟨hm, vals, Ss, r1, r2, r3, r4⟩ := HTS.out.row
            have hlt := HTS.out.lt
            have hlen := HLEN.out
            refine each_app1 (.tmp 19) (.tmp 22) _ rfl 0 41 2 40 elemTmI v _ vals rfl w1' #[v0, v1] rfl rfl (own_same r1 fun b hb hl => hG1.block b hl (by have := r2 b hb; simp; omega)) rfl (by intro u hu; simp at hu; rcases hu with rfl | rfl <;> assumption) (by omega) (by unfold maxLen; omega) (Nat.zero_le _) ?_
            intro v' w3 happ hg3 hnr hsz
            exact ⟨w1', v0, v1, hcp, by rw [upd_same]; exact happ, hg3, by rw [upd_same]; exact hnr, hsz⟩
          intro z
          go_simp
          refine chain_st rfl rfl (by decide) rfl (by intro j u w' hS; go_simp; first | done | exact ⟨hS, rfl⟩ | exact hS | rfl) ?_
          go_simp
          refine chain_next 2 rfl rfl rfl rfl (by decide) rfl (by first | kernel_rfl | rfl) ?_ ?_
          · intro w' hS
            obtain ⟨w1', v0, v1, hcp, happ, hg3, hnr, hsz⟩ := hS
            rw [upd_same] at happ hnr
            obtain ⟨⟨q', c', rfl⟩, hbt⟩ := HTS.out.three HGR.out hcp happ hg3
            have hcell : w'.cell? ⟨w1.heap.size, 1, none⟩ = some v := by rw [cell_of_row w' _ 1 _ _ (0, 0) hbt]; rfl
            have hfro : w'.frozen? ⟨w1.heap.size, 1, none⟩ = false := frozen_of_row w' _ 1 _ _ hbt
            clear hbt
            go_simp
            refine ⟨w1', w', v0, v1, hcp, ?_, hg3, ?_, hsz, ?_⟩
            · rw [upd_other _ _ (by decide), upd_same]; exact happ
            · rw [upd_other _ _ (by decide), upd_same]; exact hnr
            · rw [upd_other _ _ (by decide), upd_same]
          intro x'
          refine flowU_nil ?_
          intro wz hz
          have HZ := Lib.hid (HTS.out.app (by have := hz; rw [HCP.out] at this; exact this) HLEN.out)
          rw [upd_other _ _ (by decide), upd_same] at HZ
          clear hz
          go_simp
          go_wp2
          have hpp := pTerm_pos s.data.toList f'' (pAdv [44] p') (by rw [← size_list]; exact HRD.out.1)
          rw [HPQ.out, ← size_list] at hpp
          simp only [pAdv, List.length_cons, List.length_nil] at hpp
          have hal := HAL.out
          rw [HSTEP.out] at hal
          refine ⟨⟨f'', pq, z, xs ++ [tq], HZ.out, by omega, by rw [← hal.1]; simp, hal.2, by omega, hpp.2, by simp; omega⟩, ?_⟩
          rw [HZ.out.at_.posOf, HPO]
          omega
open Go.RowKit
def FmP (m g : Nat) (s : ByteArray) (F : Fm) (p' : PSt) (w : World) (x : Value) (w' : World) : Prop := FmV m (NewB w w') w' F x ∧ PAt 190 w' g s p' ∧ w.grownBy w' (some g)
theorem TSt.initT {T TP : TypeId} {ro : Obj} {w w1 w2 : World} {g : Nat} {s : ByteArray} {p : PSt} {f : Nat} {t : Tm} {pp : Option Addr} {cc : Nat} (hg : g < w.heap.size) (hO : TmOwn T f (fun b => w.heap.size + 1 ≤ b ∧ b < w1.heap.size) w1 t [.string t.n, .slice pp t.us.length cc])
    (hg1 : (w.alloc ro).grownBy w1 (some g)) (hg2 : (w1.alloc (.cells #[.string t.n, .slice pp t.us.length cc] T)).grownBy w2 (some g)) (hP : PAt TP w2 g s p) :
    TSt T TP ro w g w.heap.size w1.heap.size s t.n.data.toList p (.slice pp t.us.length cc) t.us f w2 := by
  have h1 := hg1.size
  have h2 := hg2.size
  simp at h1 h2
  have ha := gr_trans (gr_al (gr_refl w g) _) hg1
  have hk : ∀ b, b < w1.heap.size → b ≠ g → w2.heap[b]? = w1.heap[b]? := fun b hb hne => (hg2.block b (by simp; omega) (by simp; omega)).trans (hao w1 _ _ hb)
  obtain ⟨f', rfl⟩ : ∃ f', f = f' + 1 := by
    cases f with
    | zero => exact hO.elim
    | succ f' => exact ⟨f', rfl⟩
  obtain ⟨n, us⟩ := t
  obtain ⟨va, he, hn, hrow⟩ := hO
  simp only [List.cons.injEq, and_true] at he
  obtain ⟨-, rfl⟩ := he
  refine ⟨hP, ?_, ?_, ?_, gr_trans (gr_al ha _) hg2, hg, Nat.le_refl _, by omega, by omega⟩
  · rw [ba_eq]
    exact (hg2.block w1.heap.size (by simp) (by simp; omega)).trans (heap_alloc_new w1 _)
  · exact (hk w.heap.size (by omega) (by omega)).trans ((hg1.block w.heap.size (by simp) (by simp; omega)).trans (heap_alloc_new w _))
  · exact hrow.mono (fun b hb _ => hk b hb.2 (by omega)) (fun b hb => by omega) (fun S x c _ hS hx => TmOwn.mono f' (f' + 1) x c (by omega) (fun b hb _ => hk b (hS b hb).2 (by have := hS b hb; omega)) (fun _ h => h) hx)
theorem TSt.term {T TP : TypeId} {ro : Obj} {w W : World} {g rb bt : Nat} {s : ByteArray} {n : List UInt8} {p : PSt} {v : Value} {xs : List Tm} {f : Nat} (h : TSt T TP ro w g rb bt s n p v xs f W) (hn : n.length ≤ 1000000) :
    TmOwn T (f + 1) (fun b => rb < b ∧ b ≠ bt ∧ b < W.heap.size) W (.mk ⟨n.toArray⟩ xs) [.string ⟨n.toArray⟩, v] := ⟨_, rfl, by show n.toArray.size ≤ _; unfold maxLen; simp; omega, h.row⟩
theorem cells5_cell {w : World} {g : Nat} {x0 x1 x2 x3 x4 : Value} {t : TypeId} (h : w.heap[g]? = some (.cells #[x0, x1, x2, x3, x4] t (0, 0))) : w.cell? ⟨g, 0, none⟩ = some x0 ∧ w.cell? ⟨g, 1, none⟩ = some x1 ∧ w.cell? ⟨g, 2, none⟩ = some x2 ∧ w.cell? ⟨g, 3, none⟩ = some x3 ∧ w.cell? ⟨g, 4, none⟩ = some x4 ∧ (∀ j, w.frozen? ⟨g, j, none⟩ = false) := by
  refine ⟨?_, ?_, ?_, ?_, ?_, fun j => frozen_of_row w g j _ _ h⟩
  · rw [cell_of_row w g 0 _ _ (0, 0) h]; rfl
  · rw [cell_of_row w g 1 _ _ (0, 0) h]; rfl
  · rw [cell_of_row w g 2 _ _ (0, 0) h]; rfl
  · rw [cell_of_row w g 3 _ _ (0, 0) h]; rfl
  · rw [cell_of_row w g 4 _ _ (0, 0) h]; rfl
theorem FmP.of {m g rb : Nat} {s : ByteArray} {F : Fm} {p' : PSt} {w w4 w5 : World} {S : Nat → Prop} {x : Value} (hP : PAt 190 w4 g s p') (hG : w.grownBy w4 (some g)) (hb : Below w4.heap.size w4 w5) (hV : FmV m S w5 F x) (hS : ∀ b, S b → rb < b ∧ b < w5.heap.size) (hrb : w.heap.size ≤ rb) (hg : g < rb) (a0 a1 a2 a3 a4 : Value) :
    FmP m g s F p' w x (((((w5.setCell ⟨rb, 0, none⟩ a0).setCell ⟨rb, 1, none⟩ a1).setCell ⟨rb, 2, none⟩ a2).setCell ⟨rb, 3, none⟩ a3).setCell ⟨rb, 4, none⟩ a4) := by
  have hk : ∀ b, b ≠ rb → (((((w5.setCell ⟨rb, 0, none⟩ a0).setCell ⟨rb, 1, none⟩ a1).setCell ⟨rb, 2, none⟩ a2).setCell ⟨rb, 3, none⟩ a3).setCell ⟨rb, 4, none⟩ a4).heap[b]? = w5.heap[b]? := fun b hb => by
    repeat rw [heap_setCell_other _ _ _ _ (fun e => hb e)]
  obtain ⟨v0, v1, v2, v3, v4, rfl, hO⟩ := hV
  refine ⟨⟨_, _, _, _, _, rfl, FmOwn.mono _ _ _ _ (Nat.le_refl _) (fun b hb' _ => hk b (by have := hS b hb'; omega)) (fun b hb' => ?_) hO⟩, (hk g (by omega)).trans (hP.below hb), ?_⟩
  · have := hS b hb'
    exact ⟨by omega, by simpa using this.2⟩
  · exact gr_sc (gr_sc (gr_sc (gr_sc (gr_sc (gr_below hG hb) (.inr hrb) _) (.inr hrb) _) (.inr hrb) _) (.inr hrb) _) (.inr hrb) _
open Go.RowKit
structure BSt (w W : World) : Prop where
  bel : Below w.heap.size w W
  res : W.heap[w.heap.size]? = some (.cells #[.int .i64 0, .string ⟨#[]⟩, .slice none 0 0, .string ⟨#[]⟩, .slice none 0 0] 44 (0, 0))
theorem BSt.start (w : World) : BSt w (w.alloc (.cells #[.int .i64 0, .string ⟨#[]⟩, .slice none 0 0, .string ⟨#[]⟩, .slice none 0 0] 44)) := ⟨(Below.refl _ _).alloc (Nat.le_refl _) _, heap_alloc_new w _⟩
theorem BSt.later {w W W' : World} (h : BSt w W) (hb : Below W.heap.size W W') : BSt w W' := ⟨h.bel.trans (hb.mono h.bel.size), (hb.block _ (heap_lt h.res)).trans h.res⟩
def GotFm (f : Nat) (r : Option (Fm × Nat)) (w : World) (x : Value) (w' : World) : Prop :=
  Below w.heap.size w w' ∧ ∃ (op : Int) (n v : ByteArray) (p q : Option Addr) (k c k2 d : Nat) (z : Int), x = .tuple #[.agg #[.int .i64 op, .string n, .slice p k c, .string v, .slice q k2 d], .int .i64 z] ∧ match r with
    | none => z = -1
    | some (F, j) => z = (j : Nat) ∧ FmOwn 41 44 f (NewB w w') w' F [.int .i64 op, .string n, .slice p k c, .string v, .slice q k2 d]
theorem set5_heap (W : World) (rb b : Nat) (a0 a1 a2 a3 a4 : Value) (h : b ≠ rb) : (((((W.setCell ⟨rb, 0, none⟩ a0).setCell ⟨rb, 1, none⟩ a1).setCell ⟨rb, 2, none⟩ a2).setCell ⟨rb, 3, none⟩ a3).setCell ⟨rb, 4, none⟩ a4).heap[b]? = W.heap[b]? := by
  repeat rw [heap_setCell_other _ _ _ _ (fun e => h e)]
theorem BSt.set {w W : World} (h : BSt w W) (a0 a1 a2 a3 a4 : Value) : Below w.heap.size w (((((W.setCell ⟨w.heap.size, 0, none⟩ a0).setCell ⟨w.heap.size, 1, none⟩ a1).setCell ⟨w.heap.size, 2, none⟩ a2).setCell ⟨w.heap.size, 3, none⟩ a3).setCell ⟨w.heap.size, 4, none⟩ a4) :=
  Below.sc (Below.sc (Below.sc (Below.sc (Below.sc h.bel (Nat.le_refl _) a0) (Nat.le_refl _) a1) (Nat.le_refl _) a2) (Nat.le_refl _) a3) (Nat.le_refl _) a4
theorem GotFm.no {f : Nat} {w W : World} (h : BSt w W) (a0 a1 a2 a3 a4 : Value) (op : Int) (n v : ByteArray) (p q : Option Addr) (k c k2 d : Nat) :
    GotFm f none w (.tuple #[.agg #[.int .i64 op, .string n, .slice p k c, .string v, .slice q k2 d], .int .i64 (-1)]) (((((W.setCell ⟨w.heap.size, 0, none⟩ a0).setCell ⟨w.heap.size, 1, none⟩ a1).setCell ⟨w.heap.size, 2, none⟩ a2).setCell ⟨w.heap.size, 3, none⟩ a3).setCell ⟨w.heap.size, 4, none⟩ a4) :=
  ⟨h.set _ _ _ _ _, op, n, v, p, q, k, c, k2, d, -1, rfl, rfl⟩
theorem GotFm.yes {f : Nat} {w W : World} {S : Nat → Prop} {F : Fm} {y0 y1 y2 y3 y4 : Value} (h : BSt w W) (hO : FmOwn 41 44 f S W F [y0, y1, y2, y3, y4]) (hS : ∀ b, S b → w.heap.size < b ∧ b < W.heap.size) (j : Nat) (a0 a1 a2 a3 a4 : Value) :
    GotFm f (some (F, j)) w (.tuple #[.agg #[y0, y1, y2, y3, y4], .int .i64 (j : Nat)]) (((((W.setCell ⟨w.heap.size, 0, none⟩ a0).setCell ⟨w.heap.size, 1, none⟩ a1).setCell ⟨w.heap.size, 2, none⟩ a2).setCell ⟨w.heap.size, 3, none⟩ a3).setCell ⟨w.heap.size, 4, none⟩ a4) := by
  obtain ⟨p, c, q, d, rfl, rfl, rfl, rfl, rfl, -⟩ := hO.form
  refine ⟨h.set _ _ _ _ _, _, _, _, _, _, _, _, _, _, _, rfl, rfl, FmOwn.mono _ _ _ _ (Nat.le_refl _) (fun b hb _ => set5_heap W _ b _ _ _ _ _ (by have := hS b hb; omega)) (fun b hb => ?_) hO⟩
  have := hS b hb
  exact ⟨by omega, by simpa using this.2⟩
theorem GotFm.made {f : Nat} {w W : World} {S : Nat → Prop} {F : Fm} {y0 y1 y2 y3 y4 : Value} (hb : Below w.heap.size w W) (hO : FmOwn 41 44 f S W F [y0, y1, y2, y3, y4]) (hS : ∀ b, S b → w.heap.size ≤ b ∧ b < W.heap.size) (j : Nat) :
    GotFm f (some (F, j)) w (.tuple #[.agg #[y0, y1, y2, y3, y4], .int .i64 (j : Nat)]) W := by
  obtain ⟨p, c, q, d, rfl, rfl, rfl, rfl, rfl, -⟩ := hO.form
  exact ⟨hb, _, _, _, _, _, _, _, _, _, _, rfl, rfl, FmOwn.mono _ _ _ _ (Nat.le_refl _) (SameOn.refl _ _) hS hO⟩
theorem GotFm.mono {f f' : Nat} {r : Option (Fm × Nat)} {w w' : World} {x : Value} (hf : f ≤ f') (h : GotFm f r w x w') : GotFm f' r w x w' := by
  obtain ⟨hb, op, n, v, p, q, k, c, k2, d, z, rfl, h⟩ := h
  refine ⟨hb, op, n, v, p, q, k, c, k2, d, z, rfl, ?_⟩
  match r, h with
  | none, h => exact h
  | some (F, j), ⟨h1, h2⟩ => exact ⟨h1, FmOwn.mono _ _ _ _ hf (SameOn.refl _ _) (fun _ h => h) h2⟩
theorem GotFm.later {f : Nat} {r : Option (Fm × Nat)} {w w' w5 : World} {x : Value} (h : GotFm f r w x w') (hb5 : Below w'.heap.size w' w5) : GotFm f r w x w5 := by
  obtain ⟨hb, op, n, v, p, q, k, c, k2, d, z, rfl, h⟩ := h
  refine ⟨hb.trans (hb5.mono hb.size), op, n, v, p, q, k, c, k2, d, z, rfl, ?_⟩
  match r, h with
  | none, h => exact h
  | some (F, j), ⟨h1, h2⟩ => exact ⟨h1, FmOwn.mono _ _ _ _ (Nat.le_refl _) (SameOn.below hb5) (fun b h => ⟨h.1, Nat.lt_of_lt_of_le h.2 hb5.size⟩) h2⟩
theorem atomF_own8 {eT eF : TypeId} {m : Nat} {S : Nat → Prop} {w : World} {t : Tm} {v0 v1 : Value} (h : TmOwn eT m S w t [v0, v1]) : FmOwn eT eF (m + 1) S w (atomOfF t) [.int .i64 3, v0, v1, .string ⟨#[]⟩, .slice none 0 0] :=
  ⟨_, _, _, S, fun _ => False, rfl, by omega, Nat.zero_le _, h, OwnRow.nil _ _ _ _ _, fun _ hb => ⟨hb, fun h => h⟩, fun _ h => h.elim⟩
set_option maxRecDepth 100000 in
set_option maxHeartbeats 3200000 in
theorem l8Simple_any (s : ByteArray) (k : Nat) (w : World) (hk : k ≤ s.size) (hs : s.size ≤ 1000000) :
    Calls Tryz.prog 253 #[.string s, .int .i64 (k : Nat)] w fun e w' => ∃ x, e = .returned x ∧ GotFm (s.size + 6) (rSimp s.data.toList k) w x w' := by
  have HSI := Lib.hid (show rSimp s.data.toList k = match rTerm s.data.toList (s.size + 2) k with
    | none => none
    | some (a, j) => if at8 s.data.toList sEq8 j then (match rTerm s.data.toList (s.size + 2) (j + 3) with | none => none | some (b, e) => some (atomOfF (eqTm a b), e)) else some (atomF a, j) from rfl)
  have HB0 := Lib.hid (BSt.start w)
  go_enter Tryz.func253, Tryz.ntmps253
  go_wp2_with fail
  refine (l3Read_any (s.size + 2) s k _ hk hs (by omega)).mono ?_
  rintro e w1 ⟨x, rfl, hb1, s0, p0, k0, c0, z0, rfl, hgot⟩
  have HB1 := Lib.hid (HB0.out.later hb1)
  have hq1 := hb1.size
  (try simp at hq1)
  clear HB0 hb1
  obtain ⟨r0, r1, r2, r3, r4, rf⟩ := cells5_cell HB1.out.res
  have hrb := bsz (heap_lt HB1.out.res)
  cases hr : rTerm s.data.toList (s.size + 2) k with
  | none =>
    rw [hr] at hgot HSI
    simp only at hgot HSI
    subst hgot
    go_wp2
    refine bodyPost_ret (v := .tuple #[.agg #[.int .i64 0, .string ⟨#[]⟩, .slice none 0 0, .string ⟨#[]⟩, .slice none 0 0], .int .i64 (-1)]) (by simp only [results, Tryz.results253]; go_simp) rfl ⟨_, rfl, ?_⟩
    rw [HSI.out]
    exact (GotFm.no HB1.out _ _ _ _ _ _ _ _ _ _ _ _ _ _).later ((Below.refl _ _).alloc (Nat.le_refl _) _)
  | some aj =>
    obtain ⟨a, j⟩ := aj
    rw [hr] at hgot HSI
    simp only at hgot HSI
    obtain ⟨rfl, hO⟩ := hgot
    obtain ⟨p', c', h1, h2, -⟩ := hO.form
    simp only [Value.string.injEq, Value.slice.injEq] at h1 h2
    obtain rfl := h1
    obtain ⟨rfl, rfl, rfl⟩ := h2
    have hwt := rTerm_wt s.data.toList (s.size + 2) k a j (by rw [← size_list]; exact hk) hr
    rw [← size_list] at hwt
    clear r0 r1 r2 r3 r4 rf hrb hr
    have hjn : ¬ ((j : Nat) : Int) < 0 := by omega
    go_wp2_with fail
    obtain ⟨W, hW⟩ : ∃ W : World, W = w1.alloc (.cells #[.string a.n, .slice p0 a.us.length c0] 41) := ⟨_, rfl⟩
    have HBW := Lib.hid (HB1.out.later (show Below w1.heap.size w1 W by rw [hW]; exact (Below.refl _ _).alloc (Nat.le_refl _) _))
    have HT := Lib.hid (show W.heap[w1.heap.size]? = some (.cells #[.string a.n, .slice p0 a.us.length c0] 41 (0, 0)) by rw [hW]; exact heap_alloc_new w1 _)
    have hzW : W.heap.size = w1.heap.size + 1 := by rw [hW]; simp
    have HO := Lib.hid (show TmOwn 41 (s.size + 2) (fun b => w.heap.size + 1 ≤ b ∧ b < w1.heap.size) W a [.string a.n, .slice p0 a.us.length c0] from TmOwn.mono _ _ _ _ (Nat.le_refl _) (fun b hb hlt => by rw [hW]; exact hao w1 _ b hlt) (fun b hb => by simpa using hb) hO)
    rw [← hW]
    clear hW hO HB1
    refine (l8Starts_any s _ j _ hwt.2.1 (by omega) (by decide)).mono ?_
    rw [show (⟨#[32, 61, 32]⟩ : ByteArray).data.toList.isPrefixOf (s.data.toList.drop j) = at8 s.data.toList sEq8 j from rfl]
    rintro e w2 ⟨rfl, rfl⟩
    obtain ⟨r0, r1, r2, r3, r4, rf⟩ := cells5_cell HBW.out.res
    have hrb := bsz (heap_lt HBW.out.res)
    obtain ⟨b0, b1, bf⟩ := cells2_cell HT.out
    have hbb := bsz (heap_lt HT.out)
    cases h8 : at8 s.data.toList sEq8 j
    · rw [h8] at HSI
      simp only [Bool.false_eq_true, if_false] at HSI
      by_cases hu : a.us = []
      · have hlen : ((a.us.length : Int) == 0) = true := by rw [hu]; rfl
        by_cases hn : a.n.data.toList = sTrue8
        · have HF2 := Lib.hid (show atomF a = opF 1 [] by rw [atomF, if_pos ⟨hn, hu⟩])
          have hn2 : (a.n.toList == [116, 114, 117, 101]) = true := by rw [ByteArray.toList_eq, hn]; rfl
          clear hn hu
          go_wp2
          refine bodyPost_ret (v := .tuple #[.agg #[.int .i64 1, .string ⟨#[]⟩, .slice none 0 0, .string ⟨#[]⟩, .slice none 0 0], .int .i64 (j : Nat)]) (by simp only [results, Tryz.results253]; go_simp) rfl ⟨_, rfl, ?_⟩
          rw [HSI.out, HF2.out]
          exact GotFm.yes (S := fun _ => False) HBW.out (opF_own (m := s.size + 4) (by omega) (OwnRow.nil _ _ _ _ _)) (fun _ h => h.elim) j _ _ _ _ _
        · have hn2 : (a.n.toList == [116, 114, 117, 101]) = false := by rw [ByteArray.toList_eq]; simpa [sTrue8] using hn
          by_cases hm : a.n.data.toList = sFalse8
          · have HF2 := Lib.hid (show atomF a = opF 2 [] by rw [atomF, if_neg (fun h => hn h.1), if_pos ⟨hm, hu⟩])
            have hm2 : (a.n.toList == [102, 97, 108, 115, 101]) = true := by rw [ByteArray.toList_eq, hm]; rfl
            clear hn hu hm
            go_wp2
            refine bodyPost_ret (v := .tuple #[.agg #[.int .i64 2, .string ⟨#[]⟩, .slice none 0 0, .string ⟨#[]⟩, .slice none 0 0], .int .i64 (j : Nat)]) (by simp only [results, Tryz.results253]; go_simp) rfl ⟨_, rfl, ?_⟩
            rw [HSI.out, HF2.out]
            exact GotFm.yes (S := fun _ => False) HBW.out (opF_own (m := s.size + 4) (by omega) (OwnRow.nil _ _ _ _ _)) (fun _ h => h.elim) j _ _ _ _ _
          · have HF2 := Lib.hid (show atomF a = atomOfF a by rw [atomF, if_neg (fun h => hn h.1), if_neg (fun h => hm h.1)])
            have hm2 : (a.n.toList == [102, 97, 108, 115, 101]) = false := by rw [ByteArray.toList_eq]; simpa [sFalse8] using hm
            clear hn hu hm
            go_wp2
            refine bodyPost_ret (v := .tuple #[.agg #[.int .i64 3, .string a.n, .slice p0 a.us.length c0, .string ⟨#[]⟩, .slice none 0 0], .int .i64 (j : Nat)]) (by simp only [results, Tryz.results253]; go_simp) rfl ⟨_, rfl, ?_⟩
            rw [HSI.out, HF2.out]
            exact GotFm.yes HBW.out (FmOwn.mono (s.size + 3) (s.size + 6) _ _ (by omega) (SameOn.refl _ _) (fun _ h => h) (atomF_own8 HO.out)) (fun b hb => by have h1 := hb.1; have h2 := hb.2; exact ⟨by omega, by omega⟩) j _ _ _ _ _
      · have hlen : ((a.us.length : Int) == 0) = false := by rw [beq_eq_false_iff_ne]; intro e; exact hu (List.eq_nil_of_length_eq_zero (by omega))
        have HF2 := Lib.hid (show atomF a = atomOfF a by rw [atomF, if_neg (fun h => hu h.2), if_neg (fun h => hu h.2)])
        clear hu
        go_wp2
        refine bodyPost_ret (v := .tuple #[.agg #[.int .i64 3, .string a.n, .slice p0 a.us.length c0, .string ⟨#[]⟩, .slice none 0 0], .int .i64 (j : Nat)]) (by simp only [results, Tryz.results253]; go_simp) rfl ⟨_, rfl, ?_⟩
        rw [HSI.out, HF2.out]
        exact GotFm.yes HBW.out (FmOwn.mono (s.size + 3) (s.size + 6) _ _ (by omega) (SameOn.refl _ _) (fun _ h => h) (atomF_own8 HO.out)) (fun b hb => by have h1 := hb.1; have h2 := hb.2; exact ⟨by omega, by omega⟩) j _ _ _ _ _
    · rw [h8] at HSI
      simp only [if_true] at HSI
      have h3 : j + 3 ≤ s.size := by have := at8_le h8 (by rw [← size_list]; exact hwt.2.1); rw [← size_list] at this; exact this
      clear h8
      go_wp2_with fail
      rw [show ((j : Int) + 3) = ((j + 3 : Nat) : Int) by omega]
      refine (l3Read_any (s.size + 2) s (j + 3) _ h3 hs (by omega)).mono ?_
      rintro e w2 ⟨x, rfl, hb2, s1, p1, k1, c1, z1, rfl, hgot⟩
      have HB2 := Lib.hid (HBW.out.later hb2)
      have HT2 := Lib.hid ((hb2.block _ (by omega)).trans HT.out)
      have HO2 := Lib.hid (TmOwn.below hb2 HO.out)
      have hq2 := hb2.size
      clear HBW HT HO hb2 r0 r1 r2 r3 r4 rf hrb b0 b1 bf hbb
      obtain ⟨r0, r1, r2, r3, r4, rf⟩ := cells5_cell HB2.out.res
      have hrb := bsz (heap_lt HB2.out.res)
      obtain ⟨b0, b1, bf⟩ := cells2_cell HT2.out
      have hbb := bsz (heap_lt HT2.out)
      cases hr : rTerm s.data.toList (s.size + 2) (j + 3) with
      | none =>
        rw [hr] at hgot HSI
        simp only at hgot HSI
        subst hgot
        go_wp2
        refine bodyPost_ret (v := .tuple #[.agg #[.int .i64 3, .string ⟨#[61]⟩, .slice (some ⟨w2.heap.size + 1, 0, none⟩) 2 2, .string ⟨#[]⟩, .slice none 0 0], .int .i64 (-1)]) (by simp only [results, Tryz.results253]; go_simp) rfl ⟨_, rfl, ?_⟩
        rw [HSI.out]
        exact ((GotFm.no HB2.out _ _ _ _ _ _ _ _ _ _ _ _ _ _).later ((Below.refl _ _).alloc (Nat.le_refl _) _)).later ((Below.refl _ _).alloc (Nat.le_refl _) _)
      | some bj =>
        obtain ⟨b, e⟩ := bj
        rw [hr] at hgot HSI
        simp only at hgot HSI
        obtain ⟨rfl, hOb⟩ := hgot
        obtain ⟨p', c', h1, h2, -⟩ := hOb.form
        simp only [Value.string.injEq, Value.slice.injEq] at h1 h2
        obtain rfl := h1
        obtain ⟨rfl, rfl, rfl⟩ := h2
        have hwt2 := rTerm_wt s.data.toList (s.size + 2) (j + 3) b e (by rw [← size_list]; exact h3) hr
        rw [← size_list] at hwt2
        have HOB := Lib.hid hOb
        clear hOb hr
        go_wp2
        refine bodyPost_ret (v := .tuple #[.agg #[.int .i64 3, .string ⟨#[61]⟩, .slice (some ⟨w2.heap.size + 1, 0, none⟩) 2 2, .string ⟨#[]⟩, .slice none 0 0], .int .i64 (e : Nat)]) (by simp only [results, Tryz.results253]; go_simp) rfl ⟨_, rfl, ?_⟩
        rw [HSI.out]
        have hk : ∀ (W3 : World), W3.heap.size = w2.heap.size → (∀ c, c ≠ w.heap.size → W3.heap[c]? = w2.heap[c]?) → ∀ (o o2 : Obj) c, c ≠ w.heap.size → c < w2.heap.size → ((W3.alloc o).alloc o2).heap[c]? = w2.heap[c]? := fun W3 hz hs o o2 c hc hlt => (hao _ _ c (by simp; omega)).trans ((hao _ _ c (by omega)).trans (hs c hc))
        refine GotFm.made (S := fun c => w.heap.size + 1 ≤ c ∧ c < w2.heap.size + 2 ∧ c ≠ w1.heap.size ∧ c ≠ w2.heap.size) (Below.al (Below.al (HB2.out.set _ _ _ _ _) _) _) ?_ (fun c hc => ⟨by omega, by simp; omega⟩) e
        refine FmOwn.mono (s.size + 4) (s.size + 6) _ _ (by omega) (SameOn.refl _ _) (fun _ h => h) (atomF_own8 ⟨_, rfl, by decide, ?_⟩)
        exact OwnRow.two' (by simp) [.string a.n, .slice p0 a.us.length c0] [.string b.n, .slice p1 b.us.length c1] _ rfl rfl rfl
          (TmOwn.mono _ _ _ _ (Nat.le_refl _) (fun c hc hlt => hk _ (by simp) (fun c hc => set5_heap w2 _ c _ _ _ _ _ hc) _ _ c (by omega) (by omega)) (fun _ h => h) HO2.out)
          (TmOwn.mono _ _ _ _ (Nat.le_refl _) (fun c hc hlt => hk _ (by simp) (fun c hc => set5_heap w2 _ c _ _ _ _ _ hc) _ _ c (by have := hc.1; omega) hlt) (fun _ h => h) HOB.out)
          (fun c hc => by omega) (fun c hc => by have := hc.2; omega) (fun c hc hc' => by have := hc'.1; omega) (fun c hc => by omega) (fun c hc => by have h1 := hc.1; have h2 := hc.2; omega) (by omega)
open Go.RowKit
theorem baseV9 (x0 x1 x2 x3 x4 x5 x6 x7 x8 : Option Value) (v : Value) (l : List (Option Value)) : baseV (x0 :: x1 :: x2 :: x3 :: x4 :: x5 :: x6 :: x7 :: x8 :: some v :: l) 9 = v := rfl
theorem baseV10 (x0 x1 x2 x3 x4 x5 x6 x7 x8 x9 : Option Value) (v : Value) (l : List (Option Value)) : baseV (x0 :: x1 :: x2 :: x3 :: x4 :: x5 :: x6 :: x7 :: x8 :: x9 :: some v :: l) 10 = v := rfl
theorem baseV11 (x0 x1 x2 x3 x4 x5 x6 x7 x8 x9 x10 : Option Value) (v : Value) (l : List (Option Value)) : baseV (x0 :: x1 :: x2 :: x3 :: x4 :: x5 :: x6 :: x7 :: x8 :: x9 :: x10 :: some v :: l) 11 = v := rfl
theorem baseV12 (x0 x1 x2 x3 x4 x5 x6 x7 x8 x9 x10 x11 : Option Value) (v : Value) (l : List (Option Value)) : baseV (x0 :: x1 :: x2 :: x3 :: x4 :: x5 :: x6 :: x7 :: x8 :: x9 :: x10 :: x11 :: some v :: l) 12 = v := rfl
theorem baseV13 (x0 x1 x2 x3 x4 x5 x6 x7 x8 x9 x10 x11 x12 : Option Value) (v : Value) (l : List (Option Value)) : baseV (x0 :: x1 :: x2 :: x3 :: x4 :: x5 :: x6 :: x7 :: x8 :: x9 :: x10 :: x11 :: x12 :: some v :: l) 13 = v := rfl
theorem baseV14 (x0 x1 x2 x3 x4 x5 x6 x7 x8 x9 x10 x11 x12 x13 : Option Value) (v : Value) (l : List (Option Value)) : baseV (x0 :: x1 :: x2 :: x3 :: x4 :: x5 :: x6 :: x7 :: x8 :: x9 :: x10 :: x11 :: x12 :: x13 :: some v :: l) 14 = v := rfl
theorem baseV15 (x0 x1 x2 x3 x4 x5 x6 x7 x8 x9 x10 x11 x12 x13 x14 : Option Value) (v : Value) (l : List (Option Value)) : baseV (x0 :: x1 :: x2 :: x3 :: x4 :: x5 :: x6 :: x7 :: x8 :: x9 :: x10 :: x11 :: x12 :: x13 :: x14 :: some v :: l) 15 = v := rfl
attribute [go_sem] baseV9 baseV10 baseV11 baseV12 baseV13 baseV14 baseV15
open Go.RowKit
theorem byte_46 (c : UInt8) : ((c.toNat : Int) == 46) = (c == 46) := by
  rw [Bool.eq_iff_iff, beq_iff_eq, beq_iff_eq]
  exact ⟨fun e => UInt8.toNat_inj.1 (show c.toNat = 46 by omega), fun e => by subst e; rfl⟩
def QuaSt (rb : Nat) (op : Int) (v : ByteArray) (y0 y1 y2 y3 y4 : Value) (W : World) : Nat → (Nat → Value) → World → Prop
  | 0, _, w => w = W.drew
  | 1, u, w => u 6 = .slice (some ⟨W.heap.size, 0, none⟩) 1 1 ∧ w = W.drew.alloc (.cells #[y0, y1, y2, y3, y4] 44)
  | 2, u, w => u 7 = .agg #[.int .i64 op, .string ⟨#[]⟩, .slice none 0 0, .string v, .slice (some ⟨W.heap.size, 0, none⟩) 1 1] ∧ w = W.drew.alloc (.cells #[y0, y1, y2, y3, y4] 44)
  | 3, _, w => w = ((((((W.setCell ⟨rb, 0, none⟩ (.int .i64 op)).setCell ⟨rb, 1, none⟩ (.string ⟨#[]⟩)).setCell ⟨rb, 2, none⟩ (.slice none 0 0)).setCell ⟨rb, 3, none⟩ (.string v)).setCell ⟨rb, 4, none⟩ (.slice (some ⟨W.heap.size, 0, none⟩) 1 1)).alloc (.cells #[y0, y1, y2, y3, y4] 44)).drew
  | _, _, _ => False
theorem qua_own {f k : Nat} {S : Nat → Prop} {W : World} (hk : W.heap.size = k) {F : Fm} {op : Int} {v : List UInt8} {y0 y1 y2 y3 y4 : Value} (ho : -9223372036854775808 ≤ op ∧ op ≤ 9223372036854775807) (hv : v.length ≤ 1000000) (hO : FmOwn 41 44 (f + 2) S W F [y0, y1, y2, y3, y4]) (hS : ∀ b, S b → b < k) :
    FmOwn 41 44 (f + 3) (fun b => S b ∨ b = k) (W.alloc (.cells #[y0, y1, y2, y3, y4] 44)) (quantF op v F) [.int .i64 op, .string ⟨#[]⟩, .slice none 0 0, .string ⟨v.toArray⟩, .slice (some ⟨k, 0, none⟩) 1 1] := by
  subst hk
  refine ⟨_, _, _, fun _ => False, fun b => S b ∨ b = W.heap.size, rfl, ho, by show v.toArray.size ≤ _; unfold maxLen; simp; omega, ?_, ?_, fun _ h => h.elim, fun _ h => h⟩
  · exact ⟨_, rfl, Nat.zero_le _, OwnRow.nil _ _ _ _ _⟩
  · exact OwnRow.one' rfl #[y0, y1, y2, y3, y4] rfl (FmOwn.later ((Below.refl _ _).alloc (Nat.le_refl _) _) hO) hS (fun b h => .inl h) (.inr rfl)
def ReadC (f : Nat) : Prop := ∀ (s : ByteArray) (k : Nat) (w : World), k ≤ s.size → s.size ≤ 1000000 → 2 * (s.size - k) + 1 < f →
    Calls Tryz.prog 213 #[.string s, .int .i64 (k : Nat)] w fun e w' => ∃ x, e = .returned x ∧ GotFm (f + s.size + 6) (rFrm s.data.toList f k) w x w'
set_option maxRecDepth 100000 in
set_option maxHeartbeats 3200000 in
theorem l8Quantified_of (f : Nat) (ih : ReadC f) (s : ByteArray) (k : Nat) (op : Int) (ho : -9223372036854775808 ≤ op ∧ op ≤ 9223372036854775807) (w : World) (hk : k ≤ s.size) (hs : s.size ≤ 1000000) (hf : 2 * (s.size - k) ≤ f) :
    Calls Tryz.prog 252 #[.string s, .int .i64 (k : Nat), .int .i64 op] w fun e w' => ∃ x, e = .returned x ∧ GotFm (f + 1 + s.size + 6) (rQua s.data.toList (f + 1) op k) w x w' := by
  have IH := Lib.hid ih
  have HB0 := Lib.hid (BSt.start w)
  clear ih
  go_enter Tryz.func252, Tryz.ntmps252
  go_wp2
  go_loopw [8] (ScanRel s k (w.alloc (.cells #[.int .i64 0, .string ⟨#[]⟩, .slice none 0 0, .string ⟨#[]⟩, .slice none 0 0] 44))) (fun i _ => s.size - (intOf i).toNat)
  case atStart => exact ⟨k, rfl, Nat.le_refl _, hk, fun i h1 h2 => absurd h2 (by omega), Below.refl _ _⟩
  case round =>
    obtain ⟨j, rfl, hj1, hj2, hall, hbr⟩ := hrel
    have HALL := Lib.hid hall
    have hqr := hbr.size
    simp at hqr
    have HBR := Lib.hid (show True → _ from fun _ => hbr)
    have HBW := Lib.hid (HB0.out.later hbr)
    clear hall hbr
    obtain ⟨r0, r1, r2, r3, r4, rf⟩ := cells5_cell HBW.out.res
    have hrb := bsz (heap_lt HBW.out.res)
    by_cases hlt : j < s.size
    · have hj3 : (j : Int) < s.size := by omega
      cases hw : wordC s[j]
      · have HSTOP := Lib.hid (show ∀ h : j < s.size, wordC s[j] = false from fun _ => hw)
        have HWD := Lib.hid (show rWordL s.data.toList k = (s.data.toList.drop k).take (j - k) from wordL_at (bad := false) HALL.out hj1 hj2 HSTOP.out)
        have HLL := Lib.hid (show (rWordL s.data.toList k).length = j - k by rw [HWD.out, List.length_take, List.length_drop, ← size_list]; omega)
        have HJ := Lib.hid (show k + (rWordL s.data.toList k).length = j by rw [HLL.out]; omega)
        have hq46 : ((j : Int) == (s.size : Int)) = false := by simp; omega
        cases h46 : ((s[j].toNat : Int) == 46)
        · have HFIN := Lib.hid (show rQua s.data.toList (f + 1) op k = none by
            rw [rQua, HJ.out, list_at s j hlt, if_neg (by
              intro e; injection e with e; rw [byte_46] at h46; rw [e] at h46; simp at h46)])
          have h46' : ((s[j].toNat : Int) != 46) = true := by rw [bne, h46]; rfl
          go_wp2_with (first | (go_at_call 272; refine (l3Word_any _ _).mono ?_; rintro e w' ⟨rfl, rfl⟩))
          refine bodyPost_ret (v := .tuple #[.agg #[.int .i64 0, .string ⟨#[]⟩, .slice none 0 0, .string ⟨#[]⟩, .slice none 0 0], .int .i64 (-1)]) (by simp only [results, Tryz.results252]; go_simp) rfl ⟨_, rfl, ?_⟩
          rw [HFIN.out]
          exact GotFm.no HBW.out _ _ _ _ _ _ _ _ _ _ _ _ _ _
        · have HFIN0 := Lib.hid (show rQua s.data.toList (f + 1) op k = (rFrm s.data.toList f (j + 1)).map (fun r => (quantF op (rWordL s.data.toList k) r.1, r.2)) by
            rw [rQua, HJ.out, list_at s j hlt, if_pos (by
              rw [byte_46, beq_iff_eq] at h46; rw [h46])])
          have h46' : ((s[j].toNat : Int) != 46) = false := by rw [bne, h46]; rfl
          have HNM := Lib.hid (show (⟨(rWordL s.data.toList k).toArray⟩ : ByteArray) = s.extract k j by
            exact (str_eq (by rw [extract_list, HWD.out, List.drop_take])).symm)
          have hwl : (rWordL s.data.toList k).length ≤ 1000000 := by rw [HLL.out]; omega
          clear HB0 r0 r1 r2 r3 r4 rf hrb
          go_wp2_with (first | (go_at_call 272; refine (l3Word_any _ _).mono ?_; rintro e w' ⟨rfl, rfl⟩))
          rw [show ((j : Int) + 1) = ((j + 1 : Nat) : Int) by omega]
          refine (IH.out s (j + 1) _ (by omega) hs (by omega)).mono ?_
          rintro e w1 ⟨x, rfl, hb1, op1, n1, v1, p1, q1, k1, c1, k2, d1, z1, rfl, hgot⟩
          have HB1 := Lib.hid (HBW.out.later hb1)
          have hq1 := hb1.size
          clear HBW hb1
          go_wp2
          obtain ⟨W, hW⟩ : ∃ W : World, W = w1.alloc (.cells #[.int .i64 op1, .string n1, .slice p1 k1 c1, .string v1, .slice q1 k2 d1] 44) := ⟨_, rfl⟩
          have HBV := Lib.hid (HB1.out.later (show Below w1.heap.size w1 W by rw [hW]; exact (Below.refl _ _).alloc (Nat.le_refl _) _))
          have HT := Lib.hid (show W.heap[w1.heap.size]? = some (.cells #[.int .i64 op1, .string n1, .slice p1 k1 c1, .string v1, .slice q1 k2 d1] 44 (0, 0)) by rw [hW]; exact heap_alloc_new w1 _)
          have hzW : W.heap.size = w1.heap.size + 1 := by rw [hW]; simp
          have HO := Lib.hid (show ∀ F S, FmOwn 41 44 (f + s.size + 6) S w1 F [.int .i64 op1, .string n1, .slice p1 k1 c1, .string v1, .slice q1 k2 d1] → FmOwn 41 44 (f + s.size + 6) S W F [.int .i64 op1, .string n1, .slice p1 k1 c1, .string v1, .slice q1 k2 d1] from fun F S h => FmOwn.mono _ _ _ _ (Nat.le_refl _) (fun b hb hlt => by rw [hW]; exact hao w1 _ b hlt) (fun _ h => h) h)
          have HZW := Lib.hid hzW
          have hwW := HBV.out.bel.size
          rw [← hW]
          clear hW HB1 hzW
          refine wp_region_stages [some (.int .i64 op), some (.string s), some (.int .i64 (k : Nat)), some (.int .i64 (j : Nat)), some (.string (s.extract k j)), some (.agg #[.int .i64 op1, .string n1, .slice p1 k1 c1, .string v1, .slice q1 k2 d1]), none, none, some (.int .i64 z1), none, some (.int .i64 z1)] [6, 7, 9] (QuaSt w.heap.size op (s.extract k j) (.int .i64 op1) (.string n1) (.slice p1 k1 c1) (.string v1) (.slice q1 k2 d1) W) (by kernel_rfl) (by kernel_rfl) (by first | kernel_rfl | rfl) (by rfl) rfl ?_
          refine chain_st rfl rfl (by decide) rfl (by intro j u w' hS; go_simp; first | done | exact ⟨hS, rfl⟩ | exact hS | rfl) ?_
          go_simp
          refine chain_st rfl rfl (by decide) rfl (by intro j u w' hS; go_simp; first | done | exact ⟨hS, rfl⟩ | exact hS | rfl) ?_
          go_simp
          refine chain_st rfl rfl (by decide) rfl (by intro j u w' hS; go_simp; first | done | exact ⟨hS, rfl⟩ | exact hS | rfl) ?_
          go_simp
          refine chain_st rfl rfl (by decide) rfl (by intro j u w' hS; go_simp; first | done | exact ⟨hS, rfl⟩ | exact hS | rfl) ?_
          go_simp
          refine chain_st rfl rfl (by decide) rfl (by intro j u w' hS; go_simp; first | done | exact ⟨hS, rfl⟩ | exact hS | rfl) ?_
          go_simp
          refine chain_stb (c := 6) 0 rfl rfl (by decide) rfl rfl rfl (by first | kernel_rfl | rfl) ?_ ?_
          · intro j u w' hj hS
            obtain ⟨hc0, hc1, hc2, hc3, hc4, -⟩ := cells5_cell (w := w') (g := w1.heap.size) (by
              match j, hj, hS with
              | 0, _, h => obtain rfl : w' = W.drew := h; exact HT.out)
            go_simp
            first | done | exact ⟨hS, rfl⟩ | exact hS | rfl
          go_simp
          refine chain_first rfl rfl rfl (by decide) rfl ?_ ?_
          · intro w' hS
            obtain rfl : w' = W.drew := hS
            go_simp
            exact ⟨by show upd _ 6 _ 6 = _; rw [upd_same], rfl⟩
          intro x
          go_simp
          refine chain_next 0 rfl rfl rfl rfl (by decide) rfl (by first | kernel_rfl | rfl) ?_ ?_
          · intro w' hS
            obtain ⟨hu, rfl⟩ := hS
            rw [upd_same] at hu
            subst hu
            go_simp
            exact ⟨by show upd _ 7 _ 7 = _; rw [upd_same], rfl⟩
          intro y
          go_simp
          refine chain_st rfl rfl (by decide) rfl (by intro j u w' hS; go_simp; first | done | exact ⟨hS, rfl⟩ | exact hS | rfl) ?_
          go_simp
          refine chain_next 1 rfl rfl rfl rfl (by decide) rfl (by first | kernel_rfl | rfl) ?_ ?_
          · intro w' hS
            obtain ⟨hu, rfl⟩ := hS
            have hu : upd _ 7 y 7 = _ := hu
            rw [upd_same] at hu
            subst hu
            obtain ⟨r0, r1, r2, r3, r4, rf⟩ := cells5_cell HBV.out.res
            have hrb := bsz (heap_lt HBV.out.res)
            go_simp
            rfl
          intro z
          go_simp
          refine chain_st rfl rfl (by decide) rfl (by intro j u w' hS; go_simp; first | done | exact ⟨hS, rfl⟩ | exact hS | rfl) ?_
          go_simp
          refine flowU_nil ?_
          intro wz hz
          obtain rfl := hz
          obtain ⟨r0, r1, r2, r3, r4, rf⟩ := cells5_cell HBV.out.res
          have hrb := bsz (heap_lt HBV.out.res)
          go_simp
          go_wp2
          refine bodyPost_ret (v := .tuple #[.agg #[.int .i64 op, .string ⟨#[]⟩, .slice none 0 0, .string (s.extract k j), .slice (some ⟨W.heap.size, 0, none⟩) 1 1], .int .i64 z1]) (by simp only [results, Tryz.results252]; go_simp) rfl ⟨_, rfl, ?_⟩
          rw [HFIN0.out]
          cases hr : rFrm s.data.toList f (j + 1) with
          | none =>
            rw [hr] at hgot
            simp only at hgot
            subst hgot
            exact ((GotFm.no HBV.out _ _ _ _ _ _ _ _ _ _ _ _ _ _).later ((Below.refl _ _).alloc (Nat.le_refl _) _)).later (Below.dr (Below.refl _ _))
          | some r =>
            obtain ⟨F, i⟩ := r
            rw [hr] at hgot
            simp only at hgot
            obtain ⟨rfl, hO⟩ := hgot
            have h1 := HBV.out.bel.size
            have h0 := HZW.out
            have hO1 := FmOwn.mono _ _ _ _ (Nat.le_refl _) (w' := ((((W.setCell ⟨w.heap.size, 0, none⟩ (.int .i64 op)).setCell ⟨w.heap.size, 1, none⟩ (.string ⟨#[]⟩)).setCell ⟨w.heap.size, 2, none⟩ (.slice none 0 0)).setCell ⟨w.heap.size, 3, none⟩ (.string (s.extract k j))).setCell ⟨w.heap.size, 4, none⟩ (.slice (some ⟨W.heap.size, 0, none⟩) 1 1)) (fun b (hb : NewB wr w1 b) _ => set5_heap W _ b _ _ _ _ _ (by have := hb.1; omega)) (fun _ h => h) (HO.out F _ hO)
            have h2 := qua_own (f := f + s.size + 4) (k := W.heap.size) (by simp) (op := op) (v := rWordL s.data.toList k) ho hwl hO1 (fun b hb => by have := hb.2; omega)
            rw [HNM.out] at h2
            exact (GotFm.made (Below.al (HBV.out.set _ _ _ _ _) _) (FmOwn.mono _ _ _ _ (by omega) (SameOn.refl _ _) (fun _ h => h) h2) (fun b hb => by
              rcases hb with hb | hb
              · have h3 := hb.1; have h4 := hb.2; exact ⟨by omega, by simp; omega⟩
              · have hb : b = W.heap.size := hb
                exact ⟨by omega, by simp; omega⟩) i).later (Below.dr (Below.refl _ _))
      · have HW := Lib.hid hw
        go_wp2_with (first | (go_at_call 272; refine (l3Word_any _ _).mono ?_; rintro e w' ⟨rfl, rfl⟩))
        refine ⟨⟨j + 1, by go_num, by omega, by omega, fun i h1 h2 h3 => ?_, HBR.out trivial⟩, by simp [intOf]; omega⟩
        by_cases e : i = j
        · subst e; exact HW.out
        · exact HALL.out i h1 (by omega) h3
    · have HSTOP := Lib.hid (show ∀ h : j < s.size, wordC s[j] = false from fun h => absurd h hlt)
      have hj3 : ¬ (j : Int) < s.size := by omega
      have HWD := Lib.hid (show rWordL s.data.toList k = (s.data.toList.drop k).take (j - k) from wordL_at (bad := false) HALL.out hj1 hj2 HSTOP.out)
      have HLL := Lib.hid (show (rWordL s.data.toList k).length = j - k by rw [HWD.out, List.length_take, List.length_drop, ← size_list]; omega)
      have HJ := Lib.hid (show k + (rWordL s.data.toList k).length = j by rw [HLL.out]; omega)
      have hk2 : ((j : Int) == (s.size : Int)) = true := by simp; omega
      have HFIN := Lib.hid (show rQua s.data.toList (f + 1) op k = none by
        rw [rQua, HJ.out, List.getElem?_eq_none (by rw [← size_list]; omega), if_neg (by simp)])
      go_wp2
      refine bodyPost_ret (v := .tuple #[.agg #[.int .i64 0, .string ⟨#[]⟩, .slice none 0 0, .string ⟨#[]⟩, .slice none 0 0], .int .i64 (-1)]) (by simp only [results, Tryz.results252]; go_simp) rfl ⟨_, rfl, ?_⟩
      rw [HFIN.out]
      exact GotFm.no HBW.out _ _ _ _ _ _ _ _ _ _ _ _ _ _
open Go.RowKit
set_option maxRecDepth 100000 in
set_option maxHeartbeats 6400000 in
theorem l8Pair_of (f : Nat) (ih : ReadC f) (s : ByteArray) (k : Nat) (w : World) (hk : k + 1 ≤ s.size) (hs : s.size ≤ 1000000) (hf : 2 * (s.size - (k + 1)) + 1 < f) :
    Calls Tryz.prog 254 #[.string s, .int .i64 (k : Nat)] w fun e w' => ∃ x, e = .returned x ∧ GotFm (f + 1 + s.size + 6) (rPair s.data.toList (f + 1) k) w x w' := by
  have IH := Lib.hid ih
  have HB0 := Lib.hid (BSt.start w)
  clear ih
  go_enter Tryz.func254, Tryz.ntmps254
  go_wp2_with fail
  rw [show ((k : Int) + 1) = ((k + 1 : Nat) : Int) by omega]
  refine (IH.out s (k + 1) _ hk hs hf).mono ?_
  rintro e w1 ⟨x, rfl, hb1, op1, n1, v1, p1, q1, k1, c1, k2, d1, z1, rfl, hgot⟩
  have HB1 := Lib.hid (HB0.out.later hb1)
  have hq1 := hb1.size
  (try simp at hq1)
  clear HB0 hb1
  cases hr : rFrm s.data.toList f (k + 1) with
  | none =>
    rw [hr] at hgot
    simp only at hgot
    subst hgot
    obtain ⟨r0, r1, r2, r3, r4, rf⟩ := cells5_cell HB1.out.res
    have hrb := bsz (heap_lt HB1.out.res)
    have HFIN := Lib.hid (show rPair s.data.toList (f + 1) k = none by rw [rPair, hr])
    go_wp2
    refine bodyPost_ret (v := .tuple #[.agg #[.int .i64 0, .string ⟨#[]⟩, .slice none 0 0, .string ⟨#[]⟩, .slice none 0 0], .int .i64 (-1)]) (by simp only [results, Tryz.results254]; go_simp) rfl ⟨_, rfl, ?_⟩
    rw [HFIN.out]
    exact (GotFm.no HB1.out _ _ _ _ _ _ _ _ _ _ _ _ _ _).later ((Below.refl _ _).alloc (Nat.le_refl _) _)
  | some aj =>
    obtain ⟨a, j⟩ := aj
    have hw1 := rFrm_wt s.data.toList f (k + 1) a j (by rw [← size_list]; exact hk) hr
    rw [← size_list] at hw1
    rw [hr] at hgot
    simp only at hgot
    obtain ⟨rfl, hOA⟩ := hgot
    have hjn : ¬ ((j : Nat) : Int) < 0 := by omega
    go_wp2_with fail
    obtain ⟨W, hW⟩ : ∃ W : World, W = w1.alloc (.cells #[.int .i64 op1, .string n1, .slice p1 k1 c1, .string v1, .slice q1 k2 d1] 44) := ⟨_, rfl⟩
    have HBW := Lib.hid (HB1.out.later (show Below w1.heap.size w1 W by rw [hW]; exact (Below.refl _ _).alloc (Nat.le_refl _) _))
    have HT := Lib.hid (show W.heap[w1.heap.size]? = some (.cells #[.int .i64 op1, .string n1, .slice p1 k1 c1, .string v1, .slice q1 k2 d1] 44 (0, 0)) by rw [hW]; exact heap_alloc_new w1 _)
    have hzW : W.heap.size = w1.heap.size + 1 := by rw [hW]; simp
    have HOA := Lib.hid (show FmOwn 41 44 (f + s.size + 6) (fun b => w.heap.size + 1 ≤ b ∧ b < w1.heap.size) W a [.int .i64 op1, .string n1, .slice p1 k1 c1, .string v1, .slice q1 k2 d1] from FmOwn.mono _ _ _ _ (Nat.le_refl _) (fun b hb hlt => by rw [hW]; exact hao w1 _ b hlt) (fun b hb => by simpa [NewB] using hb) hOA)
    rw [← hW]
    clear hW hOA HB1
    obtain ⟨r0, r1, r2, r3, r4, rf⟩ := cells5_cell HBW.out.res
    have hrb := bsz (heap_lt HBW.out.res)
    obtain ⟨b0, b1, b2, b3, b4, bf⟩ := cells5_cell HT.out
    have hbb := bsz (heap_lt HT.out)
    have st := fun (t : ByteArray) (ht : t.size ≤ 1000000) => l8Starts_any s t j W hw1.2 (by omega) ht
    have HST := Lib.hid st
    clear st
    refine (HST.out _ (by decide)).mono ?_
    rw [show (⟨#[32, 38, 32]⟩ : ByteArray).data.toList.isPrefixOf (s.data.toList.drop j) = at8 s.data.toList sAnd8 j from rfl]
    rintro e w2 ⟨rfl, rfl⟩
    cases h5 : at8 s.data.toList sAnd8 j
    · go_wp2_with fail
      refine (HST.out _ (by decide)).mono ?_
      rw [show (⟨#[32, 124, 32]⟩ : ByteArray).data.toList.isPrefixOf (s.data.toList.drop j) = at8 s.data.toList sOr8 j from rfl]
      rintro e w2 ⟨rfl, rfl⟩
      cases h6 : at8 s.data.toList sOr8 j
      · go_wp2_with fail
        refine (HST.out _ (by decide)).mono ?_
        rw [show (⟨#[32, 61, 62, 32]⟩ : ByteArray).data.toList.isPrefixOf (s.data.toList.drop j) = at8 s.data.toList sImp8 j from rfl]
        rintro e w2 ⟨rfl, rfl⟩
        cases h7 : at8 s.data.toList sImp8 j
        · have HFIN := Lib.hid (show rPair s.data.toList (f + 1) k = none by
            rw [rPair, hr]
            simp only
            rw [if_pos (by rw [rSign, h5, h6, h7]; rfl)])
          go_wp2
          refine bodyPost_ret (v := .tuple #[.agg #[.int .i64 0, .string ⟨#[]⟩, .slice none 0 0, .string ⟨#[]⟩, .slice none 0 0], .int .i64 (-1)]) (by simp only [results, Tryz.results254]; go_simp) rfl ⟨_, rfl, ?_⟩
          rw [HFIN.out]
          exact GotFm.no HBW.out _ _ _ _ _ _ _ _ _ _ _ _ _ _
        · have HS := Lib.hid (show rSign s.data.toList j = 7 by rw [rSign, h5, h6, h7]; rfl)
          have hle := at8_le h7 (by rw [← size_list]; exact hw1.2)
          rw [← size_list, show sImp8.length = 4 from rfl] at hle
          clear h5 h6 h7
          go_wp2_with fail
          rw [show ((j : Int) + 4) = ((j + 4 : Nat) : Int) by omega]
          refine (IH.out s (j + 4) _ (by omega) hs (by omega)).mono ?_
          rintro e w2 ⟨x, rfl, hb2, op2, n2, v2, p2, q2, k2', c2', k3, d3, z2, rfl, hgot2⟩
          have HB2 := Lib.hid (HBW.out.later hb2)
          have HT2 := Lib.hid ((hb2.block _ (by omega)).trans HT.out)
          have HOA2 := Lib.hid (FmOwn.later hb2 HOA.out)
          have hq2 := hb2.size
          clear HBW HT HOA hb2 r0 r1 r2 r3 r4 rf hrb b0 b1 b2 b3 b4 bf hbb
          obtain ⟨r0, r1, r2, r3, r4, rf⟩ := cells5_cell HB2.out.res
          have hrb := bsz (heap_lt HB2.out.res)
          obtain ⟨b0, b1, b2, b3, b4, bf⟩ := cells5_cell HT2.out
          have hbb := bsz (heap_lt HT2.out)
          cases hr2 : rFrm s.data.toList f (j + 4) with
          | none =>
            rw [hr2] at hgot2
            simp only at hgot2
            subst hgot2
            have HFIN := Lib.hid (show rPair s.data.toList (f + 1) k = none by rw [rPair, hr]; simp only [HS.out]; rw [if_neg (by decide), show (sign8 7).length = 4 from rfl, hr2])
            go_wp2
            refine bodyPost_ret (v := .tuple #[.agg #[.int .i64 0, .string ⟨#[]⟩, .slice none 0 0, .string ⟨#[]⟩, .slice none 0 0], .int .i64 (-1)]) (by simp only [results, Tryz.results254]; go_simp) rfl ⟨_, rfl, ?_⟩
            rw [HFIN.out]
            exact (GotFm.no HB2.out _ _ _ _ _ _ _ _ _ _ _ _ _ _).later ((Below.refl _ _).alloc (Nat.le_refl _) _)
          | some be =>
            obtain ⟨b, e⟩ := be
            have hw2 := rFrm_wt s.data.toList f (j + 4) b e (by rw [← size_list]; omega) hr2
            rw [← size_list] at hw2
            rw [hr2] at hgot2
            simp only at hgot2
            obtain ⟨rfl, hOB⟩ := hgot2
            have HOB := Lib.hid hOB
            clear hOB
            have hen : ¬ ((e : Nat) : Int) < 0 := by omega
            have HPF := Lib.hid (show rPair s.data.toList (f + 1) k = if s.data.toList[e]? = some 41 then some (opF 7 [a, b], e + 1) else none by rw [rPair, hr]; simp only [HS.out]; rw [if_neg (by decide), show (sign8 7).length = 4 from rfl, hr2])
            clear hr hr2
            by_cases hes : e = s.size
            · have hes1 : ((e : Int) == (s.size : Int)) = true := by simp; omega
              have HFIN := Lib.hid (show rPair s.data.toList (f + 1) k = none by rw [HPF.out, List.getElem?_eq_none (by rw [← size_list]; omega), if_neg (by simp)])
              go_wp2
              refine bodyPost_ret (v := .tuple #[.agg #[.int .i64 0, .string ⟨#[]⟩, .slice none 0 0, .string ⟨#[]⟩, .slice none 0 0], .int .i64 (-1)]) (by simp only [results, Tryz.results254]; go_simp) rfl ⟨_, rfl, ?_⟩
              rw [HFIN.out]
              exact (GotFm.no HB2.out _ _ _ _ _ _ _ _ _ _ _ _ _ _).later ((Below.refl _ _).alloc (Nat.le_refl _) _)
            have hes1 : ((e : Int) == (s.size : Int)) = false := by simp; omega
            have hel : e < s.size := by omega
            have hel1 : (e : Int) < s.size := by omega
            cases h41 : ((s[e].toNat : Int) == 41)
            · have h41' : ((s[e].toNat : Int) != 41) = true := by rw [bne, h41]; rfl
              have HFIN := Lib.hid (show rPair s.data.toList (f + 1) k = none by rw [HPF.out, list_at s e hel, if_neg (by intro e; injection e with e; rw [byte_41, e] at h41; simp at h41)])
              go_wp2
              refine bodyPost_ret (v := .tuple #[.agg #[.int .i64 0, .string ⟨#[]⟩, .slice none 0 0, .string ⟨#[]⟩, .slice none 0 0], .int .i64 (-1)]) (by simp only [results, Tryz.results254]; go_simp) rfl ⟨_, rfl, ?_⟩
              rw [HFIN.out]
              exact (GotFm.no HB2.out _ _ _ _ _ _ _ _ _ _ _ _ _ _).later ((Below.refl _ _).alloc (Nat.le_refl _) _)
            · have h41' : ((s[e].toNat : Int) != 41) = false := by rw [bne, h41]; rfl
              have HFIN := Lib.hid (show rPair s.data.toList (f + 1) k = some (opF 7 [a, b], e + 1) by rw [HPF.out, list_at s e hel, if_pos (by rw [byte_41, beq_iff_eq] at h41; rw [h41])])
              go_wp2
              refine bodyPost_ret (v := .tuple #[.agg #[.int .i64 7, .string ⟨#[]⟩, .slice none 0 0, .string ⟨#[]⟩, .slice (some ⟨w2.heap.size + 1, 0, none⟩) 2 2], .int .i64 ((e + 1 : Nat) : Int)]) (by simp only [results, Tryz.results254]; go_simp) rfl ⟨_, rfl, ?_⟩
              rw [HFIN.out]
              have hk : ∀ (W3 : World), W3.heap.size = w2.heap.size → (∀ c, c ≠ w.heap.size → W3.heap[c]? = w2.heap[c]?) → ∀ (o o2 : Obj) c, c ≠ w.heap.size → c < w2.heap.size → ((W3.alloc o).alloc o2).heap[c]? = w2.heap[c]? := fun W3 hz hs o o2 c hc hlt => (hao _ _ c (by simp; omega)).trans ((hao _ _ c (by omega)).trans (hs c hc))
              refine GotFm.made (S := fun c => w.heap.size + 1 ≤ c ∧ c < w2.heap.size + 2 ∧ c ≠ w1.heap.size ∧ c ≠ w2.heap.size) (Below.al (Below.al (HB2.out.set _ _ _ _ _) _) _) ?_ (fun c hc => ⟨by omega, by simp; omega⟩) (e + 1)
              refine FmOwn.mono (f + s.size + 7) (f + 1 + s.size + 6) _ _ (by omega) (SameOn.refl _ _) (fun _ h => h) (opF_own (m := f + s.size + 5) (by omega) ?_)
              exact OwnRow.two' (by simp) [.int .i64 op1, .string n1, .slice p1 k1 c1, .string v1, .slice q1 k2 d1] [.int .i64 op2, .string n2, .slice p2 k2' c2', .string v2, .slice q2 k3 d3] _ rfl rfl rfl
                (FmOwn.mono _ _ _ _ (by omega) (fun c (hc : w.heap.size + 1 ≤ c ∧ c < w1.heap.size) _ => hk _ (by simp) (fun c hc => set5_heap w2 _ c _ _ _ _ _ hc) _ _ c (by omega) (by omega)) (fun _ h => h) HOA2.out)
                (FmOwn.mono _ _ _ _ (by omega) (fun c (hc : NewB W w2 c) hlt => hk _ (by simp) (fun c hc => set5_heap w2 _ c _ _ _ _ _ hc) _ _ c (by have := hc.1; omega) hlt) (fun _ h => h) HOB.out)
                (fun c hc => by omega) (fun c hc => by have := hc.2; omega) (fun c hc hc' => by have := hc'.1; omega) (fun c hc => by omega) (fun c hc => by have h1 := hc.1; have h2 := hc.2; omega) (by omega)
      · have HS := Lib.hid (show rSign s.data.toList j = 6 by rw [rSign, h5, h6]; rfl)
        have hle := at8_le h6 (by rw [← size_list]; exact hw1.2)
        rw [← size_list, show sOr8.length = 3 from rfl] at hle
        clear h5 h6
        go_wp2_with fail
        rw [show ((j : Int) + 3) = ((j + 3 : Nat) : Int) by omega]
        refine (IH.out s (j + 3) _ (by omega) hs (by omega)).mono ?_
        rintro e w2 ⟨x, rfl, hb2, op2, n2, v2, p2, q2, k2', c2', k3, d3, z2, rfl, hgot2⟩
        have HB2 := Lib.hid (HBW.out.later hb2)
        have HT2 := Lib.hid ((hb2.block _ (by omega)).trans HT.out)
        have HOA2 := Lib.hid (FmOwn.later hb2 HOA.out)
        have hq2 := hb2.size
        clear HBW HT HOA hb2 r0 r1 r2 r3 r4 rf hrb b0 b1 b2 b3 b4 bf hbb
        obtain ⟨r0, r1, r2, r3, r4, rf⟩ := cells5_cell HB2.out.res
        have hrb := bsz (heap_lt HB2.out.res)
        obtain ⟨b0, b1, b2, b3, b4, bf⟩ := cells5_cell HT2.out
        have hbb := bsz (heap_lt HT2.out)
        cases hr2 : rFrm s.data.toList f (j + 3) with
        | none =>
          rw [hr2] at hgot2
          simp only at hgot2
          subst hgot2
          have HFIN := Lib.hid (show rPair s.data.toList (f + 1) k = none by rw [rPair, hr]; simp only [HS.out]; rw [if_neg (by decide), show (sign8 6).length = 3 from rfl, hr2])
          go_wp2
          refine bodyPost_ret (v := .tuple #[.agg #[.int .i64 0, .string ⟨#[]⟩, .slice none 0 0, .string ⟨#[]⟩, .slice none 0 0], .int .i64 (-1)]) (by simp only [results, Tryz.results254]; go_simp) rfl ⟨_, rfl, ?_⟩
          rw [HFIN.out]
          exact (GotFm.no HB2.out _ _ _ _ _ _ _ _ _ _ _ _ _ _).later ((Below.refl _ _).alloc (Nat.le_refl _) _)
        | some be =>
          obtain ⟨b, e⟩ := be
          have hw2 := rFrm_wt s.data.toList f (j + 3) b e (by rw [← size_list]; omega) hr2
          rw [← size_list] at hw2
          rw [hr2] at hgot2
          simp only at hgot2
          obtain ⟨rfl, hOB⟩ := hgot2
          have HOB := Lib.hid hOB
          clear hOB
          have hen : ¬ ((e : Nat) : Int) < 0 := by omega
          have HPF := Lib.hid (show rPair s.data.toList (f + 1) k = if s.data.toList[e]? = some 41 then some (opF 6 [a, b], e + 1) else none by rw [rPair, hr]; simp only [HS.out]; rw [if_neg (by decide), show (sign8 6).length = 3 from rfl, hr2])
          clear hr hr2
          by_cases hes : e = s.size
          · have hes1 : ((e : Int) == (s.size : Int)) = true := by simp; omega
            have HFIN := Lib.hid (show rPair s.data.toList (f + 1) k = none by rw [HPF.out, List.getElem?_eq_none (by rw [← size_list]; omega), if_neg (by simp)])
            go_wp2
            refine bodyPost_ret (v := .tuple #[.agg #[.int .i64 0, .string ⟨#[]⟩, .slice none 0 0, .string ⟨#[]⟩, .slice none 0 0], .int .i64 (-1)]) (by simp only [results, Tryz.results254]; go_simp) rfl ⟨_, rfl, ?_⟩
            rw [HFIN.out]
            exact (GotFm.no HB2.out _ _ _ _ _ _ _ _ _ _ _ _ _ _).later ((Below.refl _ _).alloc (Nat.le_refl _) _)
          have hes1 : ((e : Int) == (s.size : Int)) = false := by simp; omega
          have hel : e < s.size := by omega
          have hel1 : (e : Int) < s.size := by omega
          cases h41 : ((s[e].toNat : Int) == 41)
          · have h41' : ((s[e].toNat : Int) != 41) = true := by rw [bne, h41]; rfl
            have HFIN := Lib.hid (show rPair s.data.toList (f + 1) k = none by rw [HPF.out, list_at s e hel, if_neg (by intro e; injection e with e; rw [byte_41, e] at h41; simp at h41)])
            go_wp2
            refine bodyPost_ret (v := .tuple #[.agg #[.int .i64 0, .string ⟨#[]⟩, .slice none 0 0, .string ⟨#[]⟩, .slice none 0 0], .int .i64 (-1)]) (by simp only [results, Tryz.results254]; go_simp) rfl ⟨_, rfl, ?_⟩
            rw [HFIN.out]
            exact (GotFm.no HB2.out _ _ _ _ _ _ _ _ _ _ _ _ _ _).later ((Below.refl _ _).alloc (Nat.le_refl _) _)
          · have h41' : ((s[e].toNat : Int) != 41) = false := by rw [bne, h41]; rfl
            have HFIN := Lib.hid (show rPair s.data.toList (f + 1) k = some (opF 6 [a, b], e + 1) by rw [HPF.out, list_at s e hel, if_pos (by rw [byte_41, beq_iff_eq] at h41; rw [h41])])
            go_wp2
            refine bodyPost_ret (v := .tuple #[.agg #[.int .i64 6, .string ⟨#[]⟩, .slice none 0 0, .string ⟨#[]⟩, .slice (some ⟨w2.heap.size + 1, 0, none⟩) 2 2], .int .i64 ((e + 1 : Nat) : Int)]) (by simp only [results, Tryz.results254]; go_simp) rfl ⟨_, rfl, ?_⟩
            rw [HFIN.out]
            have hk : ∀ (W3 : World), W3.heap.size = w2.heap.size → (∀ c, c ≠ w.heap.size → W3.heap[c]? = w2.heap[c]?) → ∀ (o o2 : Obj) c, c ≠ w.heap.size → c < w2.heap.size → ((W3.alloc o).alloc o2).heap[c]? = w2.heap[c]? := fun W3 hz hs o o2 c hc hlt => (hao _ _ c (by simp; omega)).trans ((hao _ _ c (by omega)).trans (hs c hc))
            refine GotFm.made (S := fun c => w.heap.size + 1 ≤ c ∧ c < w2.heap.size + 2 ∧ c ≠ w1.heap.size ∧ c ≠ w2.heap.size) (Below.al (Below.al (HB2.out.set _ _ _ _ _) _) _) ?_ (fun c hc => ⟨by omega, by simp; omega⟩) (e + 1)
            refine FmOwn.mono (f + s.size + 7) (f + 1 + s.size + 6) _ _ (by omega) (SameOn.refl _ _) (fun _ h => h) (opF_own (m := f + s.size + 5) (by omega) ?_)
            exact OwnRow.two' (by simp) [.int .i64 op1, .string n1, .slice p1 k1 c1, .string v1, .slice q1 k2 d1] [.int .i64 op2, .string n2, .slice p2 k2' c2', .string v2, .slice q2 k3 d3] _ rfl rfl rfl
              (FmOwn.mono _ _ _ _ (by omega) (fun c (hc : w.heap.size + 1 ≤ c ∧ c < w1.heap.size) _ => hk _ (by simp) (fun c hc => set5_heap w2 _ c _ _ _ _ _ hc) _ _ c (by omega) (by omega)) (fun _ h => h) HOA2.out)
              (FmOwn.mono _ _ _ _ (by omega) (fun c (hc : NewB W w2 c) hlt => hk _ (by simp) (fun c hc => set5_heap w2 _ c _ _ _ _ _ hc) _ _ c (by have := hc.1; omega) hlt) (fun _ h => h) HOB.out)
              (fun c hc => by omega) (fun c hc => by have := hc.2; omega) (fun c hc hc' => by have := hc'.1; omega) (fun c hc => by omega) (fun c hc => by have h1 := hc.1; have h2 := hc.2; omega) (by omega)
    · have HS := Lib.hid (show rSign s.data.toList j = 5 by rw [rSign, h5]; rfl)
      have hle := at8_le h5 (by rw [← size_list]; exact hw1.2)
      rw [← size_list, show sAnd8.length = 3 from rfl] at hle
      clear h5
      go_wp2_with fail
      rw [show ((j : Int) + 3) = ((j + 3 : Nat) : Int) by omega]
      refine (IH.out s (j + 3) _ (by omega) hs (by omega)).mono ?_
      rintro e w2 ⟨x, rfl, hb2, op2, n2, v2, p2, q2, k2', c2', k3, d3, z2, rfl, hgot2⟩
      have HB2 := Lib.hid (HBW.out.later hb2)
      have HT2 := Lib.hid ((hb2.block _ (by omega)).trans HT.out)
      have HOA2 := Lib.hid (FmOwn.later hb2 HOA.out)
      have hq2 := hb2.size
      clear HBW HT HOA hb2 r0 r1 r2 r3 r4 rf hrb b0 b1 b2 b3 b4 bf hbb
      obtain ⟨r0, r1, r2, r3, r4, rf⟩ := cells5_cell HB2.out.res
      have hrb := bsz (heap_lt HB2.out.res)
      obtain ⟨b0, b1, b2, b3, b4, bf⟩ := cells5_cell HT2.out
      have hbb := bsz (heap_lt HT2.out)
      cases hr2 : rFrm s.data.toList f (j + 3) with
      | none =>
        rw [hr2] at hgot2
        simp only at hgot2
        subst hgot2
        have HFIN := Lib.hid (show rPair s.data.toList (f + 1) k = none by rw [rPair, hr]; simp only [HS.out]; rw [if_neg (by decide), show (sign8 5).length = 3 from rfl, hr2])
        go_wp2
        refine bodyPost_ret (v := .tuple #[.agg #[.int .i64 0, .string ⟨#[]⟩, .slice none 0 0, .string ⟨#[]⟩, .slice none 0 0], .int .i64 (-1)]) (by simp only [results, Tryz.results254]; go_simp) rfl ⟨_, rfl, ?_⟩
        rw [HFIN.out]
        exact (GotFm.no HB2.out _ _ _ _ _ _ _ _ _ _ _ _ _ _).later ((Below.refl _ _).alloc (Nat.le_refl _) _)
      | some be =>
        obtain ⟨b, e⟩ := be
        have hw2 := rFrm_wt s.data.toList f (j + 3) b e (by rw [← size_list]; omega) hr2
        rw [← size_list] at hw2
        rw [hr2] at hgot2
        simp only at hgot2
        obtain ⟨rfl, hOB⟩ := hgot2
        have HOB := Lib.hid hOB
        clear hOB
        have hen : ¬ ((e : Nat) : Int) < 0 := by omega
        have HPF := Lib.hid (show rPair s.data.toList (f + 1) k = if s.data.toList[e]? = some 41 then some (opF 5 [a, b], e + 1) else none by rw [rPair, hr]; simp only [HS.out]; rw [if_neg (by decide), show (sign8 5).length = 3 from rfl, hr2])
        clear hr hr2
        by_cases hes : e = s.size
        · have hes1 : ((e : Int) == (s.size : Int)) = true := by simp; omega
          have HFIN := Lib.hid (show rPair s.data.toList (f + 1) k = none by rw [HPF.out, List.getElem?_eq_none (by rw [← size_list]; omega), if_neg (by simp)])
          go_wp2
          refine bodyPost_ret (v := .tuple #[.agg #[.int .i64 0, .string ⟨#[]⟩, .slice none 0 0, .string ⟨#[]⟩, .slice none 0 0], .int .i64 (-1)]) (by simp only [results, Tryz.results254]; go_simp) rfl ⟨_, rfl, ?_⟩
          rw [HFIN.out]
          exact (GotFm.no HB2.out _ _ _ _ _ _ _ _ _ _ _ _ _ _).later ((Below.refl _ _).alloc (Nat.le_refl _) _)
        have hes1 : ((e : Int) == (s.size : Int)) = false := by simp; omega
        have hel : e < s.size := by omega
        have hel1 : (e : Int) < s.size := by omega
        cases h41 : ((s[e].toNat : Int) == 41)
        · have h41' : ((s[e].toNat : Int) != 41) = true := by rw [bne, h41]; rfl
          have HFIN := Lib.hid (show rPair s.data.toList (f + 1) k = none by rw [HPF.out, list_at s e hel, if_neg (by intro e; injection e with e; rw [byte_41, e] at h41; simp at h41)])
          go_wp2
          refine bodyPost_ret (v := .tuple #[.agg #[.int .i64 0, .string ⟨#[]⟩, .slice none 0 0, .string ⟨#[]⟩, .slice none 0 0], .int .i64 (-1)]) (by simp only [results, Tryz.results254]; go_simp) rfl ⟨_, rfl, ?_⟩
          rw [HFIN.out]
          exact (GotFm.no HB2.out _ _ _ _ _ _ _ _ _ _ _ _ _ _).later ((Below.refl _ _).alloc (Nat.le_refl _) _)
        · have h41' : ((s[e].toNat : Int) != 41) = false := by rw [bne, h41]; rfl
          have HFIN := Lib.hid (show rPair s.data.toList (f + 1) k = some (opF 5 [a, b], e + 1) by rw [HPF.out, list_at s e hel, if_pos (by rw [byte_41, beq_iff_eq] at h41; rw [h41])])
          go_wp2
          refine bodyPost_ret (v := .tuple #[.agg #[.int .i64 5, .string ⟨#[]⟩, .slice none 0 0, .string ⟨#[]⟩, .slice (some ⟨w2.heap.size + 1, 0, none⟩) 2 2], .int .i64 ((e + 1 : Nat) : Int)]) (by simp only [results, Tryz.results254]; go_simp) rfl ⟨_, rfl, ?_⟩
          rw [HFIN.out]
          have hk : ∀ (W3 : World), W3.heap.size = w2.heap.size → (∀ c, c ≠ w.heap.size → W3.heap[c]? = w2.heap[c]?) → ∀ (o o2 : Obj) c, c ≠ w.heap.size → c < w2.heap.size → ((W3.alloc o).alloc o2).heap[c]? = w2.heap[c]? := fun W3 hz hs o o2 c hc hlt => (hao _ _ c (by simp; omega)).trans ((hao _ _ c (by omega)).trans (hs c hc))
          refine GotFm.made (S := fun c => w.heap.size + 1 ≤ c ∧ c < w2.heap.size + 2 ∧ c ≠ w1.heap.size ∧ c ≠ w2.heap.size) (Below.al (Below.al (HB2.out.set _ _ _ _ _) _) _) ?_ (fun c hc => ⟨by omega, by simp; omega⟩) (e + 1)
          refine FmOwn.mono (f + s.size + 7) (f + 1 + s.size + 6) _ _ (by omega) (SameOn.refl _ _) (fun _ h => h) (opF_own (m := f + s.size + 5) (by omega) ?_)
          exact OwnRow.two' (by simp) [.int .i64 op1, .string n1, .slice p1 k1 c1, .string v1, .slice q1 k2 d1] [.int .i64 op2, .string n2, .slice p2 k2' c2', .string v2, .slice q2 k3 d3] _ rfl rfl rfl
            (FmOwn.mono _ _ _ _ (by omega) (fun c (hc : w.heap.size + 1 ≤ c ∧ c < w1.heap.size) _ => hk _ (by simp) (fun c hc => set5_heap w2 _ c _ _ _ _ _ hc) _ _ c (by omega) (by omega)) (fun _ h => h) HOA2.out)
            (FmOwn.mono _ _ _ _ (by omega) (fun c (hc : NewB W w2 c) hlt => hk _ (by simp) (fun c hc => set5_heap w2 _ c _ _ _ _ _ hc) _ _ c (by have := hc.1; omega) hlt) (fun _ h => h) HOB.out)
            (fun c hc => by omega) (fun c hc => by have := hc.2; omega) (fun c hc hc' => by have := hc'.1; omega) (fun c hc => by omega) (fun c hc => by have h1 := hc.1; have h2 := hc.2; omega) (by omega)
end Go.Proofs.YtkgfanajgdelcaaGreatDoor
