import Derived.Test.YtkgfanajgdelcaaGreatEnPart40
namespace Go.Proofs.YtkgfanajgdelcaaGreat
set_option maxRecDepth 100000
open Go.RowKit
set_option maxHeartbeats 12800000 in
theorem anyClause_any (g m : Nat) (w : World) (h : Cur w g m) (hm : m + 2000 ≤ 1000000000) :
    Calls Tryz.prog 45 #[.pointer (some ⟨g, 0, none⟩)] w (StepO g m 600 (GC w) w) := by
  have hlt := h.lt
  have H := Lib.hid h
  have hne : w.heap.size ≠ g := by omega
  clear h
  go_enter Tryz.func45, Tryz.ntmps45
  go_wp2_with fail
  refine (clause_any g m _ (H.out.al _) (by omega)).mono ?_
  rintro e w1 ⟨og, oc, D, rfl, hL, hD5, hDw, hc1, hg1⟩
  have hz0 : w.heap.size + 1 ≤ w1.heap.size := by simpa using hg1.size
  obtain ⟨W, hW⟩ : ∃ q : World, q = w1.alloc (.cells #[.slice (some ⟨og, 0, none⟩) D.length oc] 39) := ⟨_, rfl⟩
  have hbW : Below w1.heap.size w1 W := by rw [hW]; exact (Below.refl _ _).alloc (Nat.le_refl _) _
  have HF0 := Lib.hid (show CBx 12 w g (m + 340) w1.heap.size (.slice (some ⟨og, 0, none⟩) D.length oc) D W from
    ⟨hc1.below hbW, by rw [hW]; exact heap_alloc_new w1 _, (hbW.block _ (by omega)).trans ((hg1.block w.heap.size (by simp) (by simpa using hne)).trans (heap_alloc_new w _)), by
      have h1 := ((hL.fuel (n := 12) (by omega)).new (Nat.le_refl _)).below hbW (Nat.le_refl _)
      exact ⟨own_lower h1.row (by simp), fun x hx => LitAt.mono (SameOn.refl _ _) (fun b hb => ⟨by have := hb.1; simp at this; omega, hb.2⟩) (Nat.le_refl _) (h1.each x hx), h1.nk, h1.len⟩, gr_below (gr_trans (gr_al (gr_refl w g) _) hg1) hbW, hlt, by omega⟩)
  have HDW := Lib.hid hDw
  clear hL hg1 hc1 hbW hDw
  go_wp2_with fail
  rw [← hW]
  clear hW
  refine (pick_any g (m + 340) 20 _ HF0.out.cur (by omega) (by omega) (by omega)).mono ?_
  rintro e w2 ⟨_, rfl, ⟨r, rfl, hr0, hr1⟩, hc2, hg2⟩
  have HF := Lib.hid (HF0.out.later hg2 hc2)
  have hzW := hg2.size
  have HC2 := Lib.hid hc2
  have hneB : w1.heap.size ≠ g := by omega
  clear hg2 hc2
  obtain ⟨⟨b0, bf⟩, ⟨r0, rf⟩, zk, zr⟩ := HF.out.cells
  have zk := bsz zk
  have zr := bsz zr
  rcases (by omega : r = 0 ∨ r = 1 ∨ r = 2 ∨ r = 3 ∨ (3 < r ∧ r ≤ 19)) with rfl | rfl | rfl | rfl | ⟨hra, hrb⟩
  · obtain ⟨hvals, hob⟩ := HF.out.row
    have HVALS := Lib.hid hvals
    have HOB := Lib.hid hob
    have HB0 := Lib.hid b0
    clear hvals hob
    go_wp2_with fail
    go_wp2
    refine wp_region_stages [some (.pointer (some ⟨w1.heap.size, 0, none⟩)), some (.slice (some ⟨og, 0, none⟩) D.length oc), some (.pointer (some ⟨g, 0, none⟩)), none, none, none, some (.pointer (some ⟨w1.heap.size, 0, none⟩)), none] [3, 4, 5, 7] (AppG 57 3 w1.heap.size 0 (LiCP g (m + 340 + 2) w2) (.slice (some ⟨og, 0, none⟩) D.length oc) D.length w2 3 4 5) (by kernel_rfl) (by kernel_rfl) (by first | kernel_rfl | rfl) (by rfl) rfl ?_
    refine chain_st rfl rfl (by decide) rfl (by intro j u w' hS; go_simp; first | done | exact ⟨hS, rfl⟩ | exact hS | rfl) ?_
    go_simp
    refine chain_stb (c := 5) 2 rfl rfl (by decide) rfl rfl rfl (by first | kernel_rfl | rfl) ?_ ?_
    · intro j u w' hj hS
      have hc := AppG.cell (fun _ _ h => LiCP.gr h) HB0.out hneB hj hS
      go_simp
      first | done | exact ⟨hS, rfl⟩ | exact hS | rfl
    go_simp
    refine chain_st rfl rfl (by decide) rfl (by intro j u w' hS; go_simp; first | done | exact ⟨hS, rfl⟩ | exact hS | rfl) ?_
    go_simp
    refine chain_first rfl rfl rfl (by decide) rfl ?_ ?_
    · intro w' hS
      obtain rfl : w' = w2.drew := hS
      go_simp
      refine (anyLiteral_any g (m + 340 + 2) w2.drew (HC2.out.below ((Below.refl _ _).drew)) (by omega)).mono ?_
      rintro e w'' ⟨x, he, h1, h2, h3⟩
      exact ⟨x, he, by show LiCP _ _ _ (upd _ 3 x 3) w''; rw [upd_same]; exact ⟨h1, h2, h3⟩⟩
    intro x
    go_simp
    refine chain_next 0 rfl rfl rfl rfl (by decide) rfl (by first | kernel_rfl | rfl) ?_ ?_
    · intro w' hS
      have hS : LiCP g (m + 340 + 2) w2 (upd _ 3 x 3) w' := hS
      rw [upd_same] at hS
      obtain ⟨l, p, c, rfl, -⟩ := hS.agg
      go_simp
      exact ⟨w', #[.bool l.pos, .string l.a.n, .slice p l.a.us.length c], hS, by rw [upd_same], rfl⟩
    intro y
    go_simp
    refine chain_next 1 rfl rfl rfl rfl (by decide) rfl (by first | kernel_rfl | rfl) ?_ ?_
    · intro w' hS
      obtain ⟨w1', cs, hcp, hy, rfl⟩ := hS
      rw [upd_same] at hy
      subst hy
      obtain ⟨l, p, c, he, -⟩ := hcp.agg
      simp only [Value.agg.injEq] at he
      subst he
      have hG1 := hcp.gr
      obtain ⟨vals, r1⟩ := HVALS.out
      refine each_app1 (.tmp 14) (.tmp 17) _ rfl 0 57 3 48 elemLitI (.slice (some ⟨og, 0, none⟩) D.length oc) D.length vals rfl w1' #[.bool l.pos, .string l.a.n, .slice p l.a.us.length c] rfl rfl (own_same r1 fun b hb hl => hG1.block b hl (by have := HOB.out b hb; simp; omega)) rfl (by intro u hu; simp at hu; rcases hu with rfl | rfl | rfl <;> rfl) (by omega) (by unfold maxLen; omega) (Nat.zero_le _) ?_
      intro v' w3 happ hg3 hnr hsz
      exact ⟨w1', _, hcp, by rw [upd_same]; exact happ, hg3, by rw [upd_same]; exact hnr, hsz⟩
    intro z
    go_simp
    refine chain_st rfl rfl (by decide) rfl (by intro j u w' hS; go_simp; first | done | exact ⟨hS, rfl⟩ | exact hS | rfl) ?_
    go_simp
    refine chain_next 2 rfl rfl rfl rfl (by decide) rfl (by first | kernel_rfl | rfl) ?_ ?_
    · intro w' hS
      obtain ⟨w1', cs, hcp, happ, hg3, hnr, hsz⟩ := hS
      rw [upd_same] at happ hnr
      obtain ⟨vals, r1⟩ := HVALS.out
      have hG1 := hcp.gr
      have hw1 := hG1.size
      have h1 := happ 0 vals (own_same r1 fun b hb hl => hG1.block b hl (by have := HOB.out b hb; simp; omega)) (Nat.zero_le _)
      obtain ⟨q', c', rfl⟩ := own_form h1 (by omega)
      have hbt : w'.heap[w1.heap.size]? = some (.cells #[.slice (some ⟨og, 0, none⟩) D.length oc] 39 (0, 0)) := (hg3.block _ (by omega) (fun e => (HOB.out _ e.symm).2.2 rfl)).trans ((hG1.block _ zk.1 (by simpa using hneB)).trans HF.out.box)
      have hcell : w'.cell? ⟨w1.heap.size, 0, none⟩ = some (.slice (some ⟨og, 0, none⟩) D.length oc) := by rw [cell_of_row w' _ 0 _ _ (0, 0) hbt]; rfl
      have hfro : w'.frozen? ⟨w1.heap.size, 0, none⟩ = false := frozen_of_row w' _ 0 _ _ hbt
      clear hbt
      go_simp
      refine ⟨w1', w', cs, hcp, ?_, hg3, ?_, hsz, ?_⟩
      · rw [upd_other _ _ (by decide), upd_same]; exact happ
      · rw [upd_other _ _ (by decide), upd_same]; exact hnr
      · rw [upd_other _ _ (by decide), upd_same]
    intro x'
    refine flowU_nil ?_
    intro wz hz
    obtain ⟨w1', w3', cs, hcp, happ, hg3, hnr, hsz, rfl⟩ := hz
    simp only [upd_other _ _ (show (5 : Nat) ≠ 7 by decide), upd_same] at happ hnr
    rw [upd_other _ _ (by decide), upd_same]
    obtain ⟨l, p, c, he, hla, hlw⟩ := hcp.agg
    simp only [Value.agg.injEq] at he
    subst he
    obtain ⟨vals, r1⟩ := HVALS.out
    have hG1 := hcp.gr
    have hw1 := hG1.size
    have h1 := happ 0 vals (own_same r1 fun b hb hl => hG1.block b hl (by have := HOB.out b hb; simp; omega)) (Nat.zero_le _)
    obtain ⟨q', c', rfl⟩ := own_form h1 (by omega)
    have HF5 := Lib.hid (HF.out.app (x := ⟨l, p, c⟩) hG1 hcp.2.1 (LitAt.mono (SameOn.refl _ _) (fun b hb => ⟨by have h1 := (show _ ≤ b from hb.1); simp at h1; omega, hb.2, by have h1 := (show _ ≤ b from hb.1); simp at h1; omega, fun e => by have h1 := (show _ ≤ b from hb.1); have := (HOB.out b e).2.1; simp at h1; omega⟩) (Nat.le_refl _) hla) happ hg3 hnr (by omega))
    obtain ⟨W5, hW5⟩ : ∃ q, q = w3'.setCell ⟨w1.heap.size, 0, none⟩ (.slice (some ⟨q', 0, none⟩) (D.length + 1) c') := ⟨_, rfl⟩
    rw [← hW5] at HF5 ⊢
    clear hW5 b0 bf r0 rf zk zr h1 hcp happ hg3 hnr hsz hG1 hw1 hla
    obtain ⟨⟨b0, bf⟩, ⟨r0, rf⟩, zk, zr⟩ := HF5.out.cells
    have zk := bsz zk
    have zr := bsz zr
    have HQ := Lib.hid (HF5.out.done (by simp) (by simp; omega) (fun x hx => by
      rcases List.mem_append.1 hx with hx | hx
      · have := HDW.out x hx; omega
      · obtain rfl : x = ⟨l, p, c⟩ := by simpa using hx
        exact hlw))
    go_wp2
    refine bodyPost_ret (v := .agg #[.slice (some ⟨q', 0, none⟩) (D.length + 1) c']) (by simp only [results, Tryz.results45]; go_simp) rfl ?_
    obtain ⟨q1, q2, q3'⟩ := HQ.out
    have q2 := q2.more (n := m + 600) (by omega) (by omega)
    refine ⟨_, rfl, ?_, ?_, ?_⟩
    · first | with_reducible exact q1 | exact q1
    · first | with_reducible exact q2 | exact q2
    · first | with_reducible exact q3' | exact q3'
  · by_cases h2 : 1 < D.length
    · have h2i : (1 : Int) < D.length := by omega
      have h0i : 0 < D.length := by omega
      have h1i : 1 < D.length := by omega
      obtain ⟨g', e', hogb, hogl, hfro, hcell⟩ := rowL_cell HF.out.ls.row (by omega)
      obtain rfl : og = g' := by injection e' with e'; injection e'
      obtain ⟨X, hX⟩ : ∃ X, D[0]? = some X := ⟨_, List.getElem?_eq_getElem (by omega)⟩
      obtain ⟨Y, hY⟩ : ∃ Y, D[1]? = some Y := ⟨_, List.getElem?_eq_getElem (by omega)⟩
      obtain ⟨x0, x1, x2⟩ := hcell 0 X hX
      obtain ⟨y0, y1, y2⟩ := hcell 1 Y hY
      simp only [Nat.zero_mul, Nat.zero_add, Nat.one_mul, Nat.reduceAdd] at x0 x1 x2 y0 y1 y2
      have hko : w1.heap.size ≠ og := fun e => HF.out.ls.nk (by rw [e]; rfl)
      have hro : w.heap.size ≠ og := by omega
      have zog := bsz hogl
      have HX := Lib.hid (And.intro hX hY)
      have HCX := Lib.hid (And.intro x0 (And.intro x1 x2))
      clear hcell e' hX hY
      go_wp2_with fail
      go_wp2
      obtain ⟨W, hW⟩ : ∃ q : World, q = w2.alloc (.cells #[.bool X.l.pos, .string X.l.a.n, .slice X.p X.l.a.us.length X.c] 57) := ⟨_, rfl⟩
      have hbW : Below w2.heap.size w2 W := by rw [hW]; exact (Below.refl _ _).alloc (Nat.le_refl _) _
      have HFW := Lib.hid ((HF.out.later (gr_below (gr_refl w2 g) hbW) (HC2.out.below hbW)).later (gr_dr (gr_refl W g)) ((HC2.out.below hbW).below (Below.refl _ _).drew))
      have HK := Lib.hid (show W.heap[w2.heap.size]? = some (.cells #[.bool X.l.pos, .string X.l.a.n, .slice X.p X.l.a.us.length X.c] 57 (0, 0)) by rw [hW]; exact heap_alloc_new w2 _)
      replace b0 := cellQ hbW b0
      replace x0 := cellQ hbW x0
      replace x1 := cellQ hbW x1
      replace x2 := cellQ hbW x2
      replace y0 := cellQ hbW y0
      replace y1 := cellQ hbW y1
      replace y2 := cellQ hbW y2
      have hfW : ∀ j, W.frozen? ⟨og, j, none⟩ = false := fun j => (World.frozen?_of_block (hbW.block og hogl)).trans (hfro j)
      have hzW2 := hbW.size
      rw [← hW]
      clear hW bf r0 rf zk zr hfro
      refine wp_region_stages [some (.pointer (some ⟨w1.heap.size, 0, none⟩)), some (.slice (some ⟨og, 0, none⟩) D.length oc), some (.pointer (some ⟨w1.heap.size, 0, none⟩)), some (.slice (some ⟨og, 0, none⟩) D.length oc), some (.pointer (some ⟨og, 3, none⟩)), some (.agg #[.bool Y.l.pos, .string Y.l.a.n, .slice Y.p Y.l.a.us.length Y.c]), some (.pointer (some ⟨og, 0, none⟩)), none] [7] (SwSt og (.bool Y.l.pos) (.string Y.l.a.n) (.slice Y.p Y.l.a.us.length Y.c) W) (by kernel_rfl) (by kernel_rfl) (by first | kernel_rfl | rfl) (by rfl) rfl ?_
      refine chain_st rfl rfl (by decide) rfl (by intro j u w' hS; go_simp; first | done | exact ⟨hS, rfl⟩ | exact hS | rfl) ?_
      go_simp
      refine chain_st rfl rfl (by decide) rfl (by intro j u w' hS; have hc := SwSt.cell b0 (.inl hko) hS; go_simp; first | done | exact ⟨hS, rfl⟩ | exact hS | rfl) ?_
      go_simp
      refine chain_st rfl rfl (by decide) rfl (by intro j u w' hS; go_simp; first | done | exact ⟨hS, rfl⟩ | exact hS | rfl) ?_
      go_simp
      refine chain_st rfl rfl (by decide) rfl (by intro j u w' hS; have hc := SwSt.cell b0 (.inl hko) hS; go_simp; first | done | exact ⟨hS, rfl⟩ | exact hS | rfl) ?_
      go_simp
      refine chain_st rfl rfl (by decide) rfl (by intro j u w' hS; go_simp; first | done | exact ⟨hS, rfl⟩ | exact hS | rfl) ?_
      go_simp
      refine chain_st rfl rfl (by decide) rfl (by intro j u w' hS; have hc0 := SwSt.cell y0 (.inr (by omega)) hS; have hc1 := SwSt.cell y1 (.inr (by omega)) hS; have hc2 := SwSt.cell y2 (.inr (by omega)) hS; go_simp; first | done | exact ⟨hS, rfl⟩ | exact hS | rfl) ?_
      go_simp
      refine chain_st rfl rfl (by decide) rfl (by intro j u w' hS; go_simp; first | done | exact ⟨hS, rfl⟩ | exact hS | rfl) ?_
      go_simp
      refine chain_first rfl rfl rfl (by decide) rfl ?_ ?_
      · intro w' hS
        obtain rfl : w' = W.drew := hS
        go_simp
        first | done | exact rfl
      intro x7
      refine flowU_nil ?_
      intro wz hz
      obtain rfl : wz = set3C W.drew og 0 (.bool Y.l.pos) (.string Y.l.a.n) (.slice Y.p Y.l.a.us.length Y.c) := hz
      have hYm : Y ∈ D := List.mem_of_getElem? HX.out.2
      have hXm : X ∈ D := List.mem_of_getElem? HX.out.1
      have hF8 := HFW.out.set (j := 0) (y := Y) rfl (by omega) (LitAt.mono (SameOn.refl _ _) (fun b hb => ⟨hb.1, hb.2.1, hb.2.2.1, fun e => hb.2.2.2 (by rw [← e]; rfl)⟩) (Nat.le_refl _) (HFW.out.ls.each Y hYm))
      rw [Nat.zero_mul] at hF8
      have HK8 := Lib.hid ((set3_other W.drew (o := 0) (.bool Y.l.pos) (.string Y.l.a.n) (.slice Y.p Y.l.a.us.length Y.c) (show w2.heap.size ≠ og by omega)).trans HK.out)
      have HLX := Lib.hid (LitAt.mono (B' := fun b => w.heap.size + 1 ≤ b ∧ b < (set3C W.drew og 0 (.bool Y.l.pos) (.string Y.l.a.n) (.slice Y.p Y.l.a.us.length Y.c)).heap.size ∧ b ≠ w1.heap.size ∧ og ≠ b) (w' := set3C W.drew og 0 (.bool Y.l.pos) (.string Y.l.a.n) (.slice Y.p Y.l.a.us.length Y.c)) (fun b hb _ => set3_other W.drew _ _ _ (fun e => hb.2.2.2 (by rw [e]; rfl))) (fun b hb => ⟨hb.1, by simpa using hb.2.1, hb.2.2.1, fun e => hb.2.2.2 (by rw [← e]; rfl)⟩) (Nat.le_refl _) (HFW.out.ls.each X hXm))
      have HF8 := Lib.hid hF8
      obtain ⟨W8, hW8⟩ : ∃ q, q = set3C W.drew og 0 (.bool Y.l.pos) (.string Y.l.a.n) (.slice Y.p Y.l.a.us.length Y.c) := ⟨_, rfl⟩
      rw [← hW8] at HF8 HK8 HLX ⊢
      have hY1 : (D.set 0 Y)[1]? = some Y := by rw [List.getElem?_set_ne (by omega)]; exact HX.out.2
      clear hW8 hF8 b0 x0 x1 x2 y0 y1 y2 hfW
      have hr8 := HF8.out.ls.row
      rw [List.length_set] at hr8
      obtain ⟨g', e', -, hogl8, hfro8, hcell8⟩ := rowL_cell hr8 (by omega)
      obtain rfl : og = g' := by injection e' with e'; injection e'
      obtain ⟨y0, y1, y2⟩ := hcell8 1 Y hY1
      simp only [Nat.one_mul, Nat.reduceAdd] at y0 y1 y2
      obtain ⟨k0, k1, k2, kf⟩ := row3_cells HK8.out
      obtain ⟨⟨b0, bf⟩, ⟨r0, rf⟩, zk, zr⟩ := HF8.out.cells
      have zk := bsz zk
      have zr := bsz zr
      have zx := bsz (blk_lt HK8.out)
      have zo8 := bsz hogl8
      clear hcell8 e'
      have HQ := Lib.hid ((HF8.out.set (j := 1) (y := X) (by rw [List.length_set]) (by rw [List.length_set]; omega) HLX.out).done (by rw [List.length_set, List.length_set]) (by rw [List.length_set, List.length_set]; omega) (fun x hx => by
        rcases List.mem_or_eq_of_mem_set hx with hx | rfl
        · rcases List.mem_or_eq_of_mem_set hx with hx | rfl
          · have := HDW.out x hx; omega
          · have := HDW.out x hYm; omega
        · have := HDW.out x hXm; omega))
      go_wp2
      refine bodyPost_ret (v := .agg #[.slice (some ⟨og, 0, none⟩) D.length oc]) (by simp only [results, Tryz.results45]; go_simp) rfl ?_
      obtain ⟨q1, q2, q3'⟩ := HQ.out
      have q2 := q2.more (n := m + 600) (by omega) (by omega)
      refine ⟨_, rfl, ?_, ?_, ?_⟩
      · first | with_reducible exact q1 | exact q1
      · first | with_reducible exact q2 | exact q2
      · first | with_reducible exact q3' | exact q3'
    · have h2i : ¬ (1 : Int) < D.length := by omega
      have HQ := Lib.hid (HF.out.done rfl (by omega) (fun x hx => by have := HDW.out x hx; omega))
      go_wp2
      refine bodyPost_ret (v := .agg #[.slice (some ⟨og, 0, none⟩) D.length oc]) (by simp only [results, Tryz.results45]; go_simp) rfl ?_
      obtain ⟨q1, q2, q3'⟩ := HQ.out
      have q2 := q2.more (n := m + 600) (by omega) (by omega)
      refine ⟨_, rfl, ?_, ?_, ?_⟩
      · first | with_reducible exact q1 | exact q1
      · first | with_reducible exact q2 | exact q2
      · first | with_reducible exact q3' | exact q3'
  · have hS0 : CRw w g (m + 342) (.slice (some ⟨w2.heap.size, 0, none⟩) 0 0) [] (w2.alloc (.cells #[] 57)) :=
      ⟨HC2.out.al _, (hao _ _ _ (blk_lt HF.out.res)).trans HF.out.res, LsC.nil (by have := HF.out.gr.size; have := blk_lt HF.out.res; omega) (by have := blk_lt HF.out.res; omega), gr_al HF.out.gr _, hlt⟩
    have HS0 := Lib.hid hS0
    clear b0 bf r0 rf zk zr hS0
    go_wp2_with fail
    go_wp2
    go_loopw [5, 6] (fun v i wr => ∃ (j : Nat) (q : Option Addr) (d : Nat) (E : List LC), j ≤ 9 ∧ i = .int .i64 j ∧ E.length = j ∧ v = .slice q j d ∧ (∀ x ∈ E, x.l.a.wt ≤ 120) ∧ CRw w g (m + 342 + 4 * j) (.slice q j d) E wr) (fun _ i _ => 9 - (intOf i).toNat)
    case atStart => exact ⟨0, _, _, [], by omega, rfl, rfl, rfl, fun x hx => by simp at hx, HS0.out⟩
    case round =>
      obtain ⟨j, q, d, E, hj, rfl, hE, rfl, hEw, hst⟩ := hrel
      have HS := Lib.hid hst
      have HEW := Lib.hid hEw
      clear hst hEw
      go_wp2_with fail
      refine (pick_any g (m + 342 + 4 * j) 2 _ HS.out.cur (by omega) (by omega) (by omega)).mono ?_
      rintro e w3 ⟨_, rfl, ⟨y, rfl, hy0, hy1⟩, hc3, hg3⟩
      have HS3 := Lib.hid (HS.out.later hg3 hc3)
      clear hc3 hg3
      by_cases hc : (j : Int) < 8 + y
      · go_wp2_with fail
        refine (drew_below (l1Num_any (j : Int) _ (by omega) (by omega))).mono ?_
        rintro e w4 ⟨rfl, hb4⟩
        have HS4 := Lib.hid (HS3.out.later (gr_below (gr_refl w3 g) hb4) (HS3.out.cur.below hb4))
        have hil := itoa_len (j : Int) (by omega) (by omega)
        have hpz : (⟨#[112]⟩ ++ ⟨(Lib.itoa (j : Int)).toArray⟩ : ByteArray).size ≤ 21 := by
          rw [ByteArray.size_append]
          show 1 + (Lib.itoa (j : Int)).length ≤ 21
          omega
        clear hb4
        go_wp2_with fail
        refine (of_lit g (m + 342 + 4 * j + 2) 1 2 w4.heap.size w4 _ _ (by rfl) (by rfl) HS4.out.cur (by omega) (by decide) (by decide) (by intro v hv; simp at hv; rcases hv with rfl | rfl <;> exact ⟨_, rfl, by decide⟩)).mono ?_
        rintro e w5 ⟨_, rfl, ⟨z, rfl, hz⟩, hc5, hg5⟩
        have HS5 := Lib.hid (HS4.out.later (gr_trans (gr_al (gr_refl w4 g) _) hg5) hc5)
        obtain ⟨W, hW⟩ : ∃ q : World, q = w5.alloc (.cells #[.string z, .slice none 0 0] 26) := ⟨_, rfl⟩
        have hbW : Below w5.heap.size w5 W := by rw [hW]; exact (Below.refl _ _).alloc (Nat.le_refl _) _
        have hWb : W.heap[w5.heap.size]? = some (.cells #[.string z, .slice none 0 0] 26 (0, 0)) := by rw [hW]; exact heap_alloc_new w5 _
        have hSW := HS5.out.later (gr_below (gr_refl w5 g) hbW) (HS5.out.cur.below hbW)
        have h5r := blk_lt HS5.out.res
        have hown5 : ∀ b, (Value.slice q j d).ownBlock = some b → b < w5.heap.size := fun b hb => own_lt' HS5.out.ls.row hb
        have HL := Lib.hid (lit_px (B := fun b => w.heap.size + 1 ≤ b ∧ b < W.heap.size ∧ b ≠ w.heap.size ∧ (Value.slice q j d).ownBlock ≠ some b) (pn := ⟨#[112]⟩ ++ ⟨(Lib.itoa (j : Int)).toArray⟩) hWb ⟨by omega, blk_lt hWb, by omega, fun e => by have := hown5 _ e; omega⟩ (by unfold maxLen; omega) (by unfold maxLen; omega))
        have HSW := Lib.hid hSW
        have hvr := hSW.ls.row
        rw [hE] at hvr
        have HV := Lib.hid hvr
        have hWz := hbW.size
        clear hvr hSW hWb hg5 hc5 hown5
        go_wp2_with (at_builtin; refine wpList_app1 rfl (.tmp 51) (.tmp 62) _ rfl (w.heap.size + 1) 57 3 48 elemLitI _ _ (flatL E) rfl (w5.alloc (.cells #[.string z, .slice none 0 0] 26)) #[.bool true, .string (⟨#[112]⟩ ++ ⟨(Lib.itoa (j : Int)).toArray⟩), .slice (some ⟨w5.heap.size, 0, none⟩) 1 1] rfl _ (by simp) rfl (hW ▸ HV.out) rfl (by simp [Value.oneCell']) (by omega) (by unfold maxLen; omega) (by rw [← hW]; omega) ?_; intro v3 w6 happ hg6 hnr6 hlt6; obtain ⟨q', c', rfl⟩ := own_form happ (Nat.succ_pos _))
        rw [← hW] at hg6 hnr6 hlt6
        refine ⟨⟨j + 1, _, _, E ++ [⟨⟨true, .mk (⟨#[112]⟩ ++ ⟨(Lib.itoa (j : Int)).toArray⟩) [.mk z []]⟩, some ⟨w5.heap.size, 0, none⟩, 1⟩], by omega, by go_num, by simp [hE], rfl, ?_, ?_⟩, by simp [intOf]; omega⟩
        · intro x hx
          rcases List.mem_append.1 hx with hx | hx
          · exact HEW.out x hx
          · simp only [List.mem_cons, List.not_mem_nil, or_false] at hx
            subst hx
            show (Tm.mk _ [Tm.mk z []]).wt ≤ 120
            simp only [Tm.wt, Tm.wts, List.length_cons, List.length_nil]
            omega
        · have := HSW.out.snoc (x := ⟨⟨true, .mk (⟨#[112]⟩ ++ ⟨(Lib.itoa (j : Int)).toArray⟩) [.mk z []]⟩, some ⟨w5.heap.size, 0, none⟩, 1⟩) HL.out (by rw [hE]; exact happ) hg6 hnr6 (by omega)
          rw [show m + 342 + 4 * (j + 1) = m + 342 + 4 * j + 2 + 2 by omega]
          exact this
      · obtain ⟨⟨r0, rf⟩, zr⟩ : (w3.cell? ⟨w.heap.size, 0, none⟩ = some (.slice none 0 0) ∧ (∀ j, w3.frozen? ⟨w.heap.size, j, none⟩ = false)) ∧ w.heap.size < w3.heap.size := ⟨⟨by rw [cell_of_row w3 _ 0 _ _ (0, 0) HS3.out.res]; rfl, fun j => frozen_of_row w3 _ j _ _ HS3.out.res⟩, blk_lt HS3.out.res⟩
        have zr := bsz zr
        have HQ := Lib.hid (HS3.out.done hE.symm (by omega) HEW.out)
        go_wp2
        refine bodyPost_ret (v := .agg #[.slice q j d]) (by simp only [results, Tryz.results45]; go_simp) rfl ?_
        obtain ⟨q1, q2, q3'⟩ := HQ.out
        have q2 := q2.more (n := m + 600) (by omega) (by omega)
        refine ⟨_, rfl, ?_, ?_, ?_⟩
        · first | with_reducible exact q1 | exact q1
        · first | with_reducible exact q2 | exact q2
        · first | with_reducible exact q3' | exact q3'
  · by_cases h0 : D.length = 0
    · have h0i : ¬ (0 : Int) < D.length := by omega
      have HQ := Lib.hid (HF.out.done rfl (by omega) (fun x hx => by have := HDW.out x hx; omega))
      clear h0
      go_wp2
      refine bodyPost_ret (v := .agg #[.slice (some ⟨og, 0, none⟩) D.length oc]) (by simp only [results, Tryz.results45]; go_simp) rfl ?_
      obtain ⟨q1, q2, q3'⟩ := HQ.out
      have q2 := q2.more (n := m + 600) (by omega) (by omega)
      refine ⟨_, rfl, ?_, ?_, ?_⟩
      · first | with_reducible exact q1 | exact q1
      · first | with_reducible exact q2 | exact q2
      · first | with_reducible exact q3' | exact q3'
    · obtain ⟨j, hj⟩ : ∃ j, D.length = j + 1 := ⟨D.length - 1, by omega⟩
      obtain ⟨hvals, hob⟩ := HF.out.row
      obtain ⟨g', e', hogb, hogl, hfro, hcell⟩ := rowL_cell HF.out.ls.row (by omega)
      obtain rfl : og = g' := by injection e' with e'; injection e'
      obtain ⟨X, hX⟩ : ∃ X, D[j]? = some X := ⟨_, List.getElem?_eq_getElem (by omega)⟩
      obtain ⟨x0, x1, x2⟩ := hcell j X hX
      have hXm : X ∈ D := List.mem_of_getElem? hX
      rw [hj] at hvals hob b0
      have HVALS := Lib.hid hvals
      have HOB := Lib.hid hob
      have HB0 := Lib.hid b0
      have HBOX := Lib.hid (show w2.heap[w1.heap.size]? = some (.cells #[.slice (some ⟨og, 0, none⟩) (j + 1) oc] 39 (0, 0)) by rw [← hj]; exact HF.out.box)
      have HXC := Lib.hid (And.intro x0 (And.intro x1 x2))
      have zog := bsz hogl
      have hji : (0 : Int) < ((j + 1 : Nat) : Int) := by omega
      have hjl : (j : Int) < ((j + 1 : Nat) : Int) := by omega
      have hwj : IntKind.i64.wrap (j : Int) = (j : Int) := IntWalk.i64_in _ (by omega)
      clear hvals hob hcell hfro e' x0 x1 x2
      go_wp2_with fail
      go_wp2
      refine wp_region_stages [some (.pointer (some ⟨w1.heap.size, 0, none⟩)), some (.slice (some ⟨og, 0, none⟩) (j + 1) oc), some (.pointer (some ⟨w1.heap.size, 0, none⟩)), some (.slice (some ⟨og, 0, none⟩) (j + 1) oc), some (.pointer (some ⟨w1.heap.size, 0, none⟩)), none, none, none, none, none, none, none, some (.pointer (some ⟨w1.heap.size, 0, none⟩)), none] [5, 6, 7, 8, 9, 10, 11, 13] (LaSt 57 (.slice (some ⟨og, 0, none⟩) (j + 1) oc) j og #[.bool X.l.pos, .string X.l.a.n, .slice X.p X.l.a.us.length X.c] w1.heap.size w2) (by kernel_rfl) (by kernel_rfl) (by first | kernel_rfl | rfl) (by rfl) rfl ?_
      refine chain_st rfl rfl (by decide) rfl (by intro j u w' hS; go_simp; first | done | exact ⟨hS, rfl⟩ | exact hS | rfl) ?_
      go_simp
      refine chain_stb (c := 11) 6 rfl rfl (by decide) rfl rfl rfl (by first | kernel_rfl | rfl) ?_ ?_
      · intro i u w' hi hS
        have hc := LaSt.cell HB0.out hi hS
        go_simp
        first | done | exact ⟨hS, rfl⟩ | exact hS | rfl
      go_simp
      refine chain_st rfl rfl (by decide) rfl (by intro j u w' hS; go_simp; first | done | exact ⟨hS, rfl⟩ | exact hS | rfl) ?_
      go_simp
      refine chain_stb (c := 8) 3 rfl rfl (by decide) rfl rfl rfl (by first | kernel_rfl | rfl) ?_ ?_
      · intro i u w' hi hS
        have hc := LaSt.cell HB0.out (by omega) hS
        go_simp
        first | done | exact ⟨hS, rfl⟩ | exact hS | rfl
      go_simp
      refine chain_st rfl rfl (by decide) rfl (by intro j u w' hS; go_simp; first | done | exact ⟨hS, rfl⟩ | exact hS | rfl) ?_
      go_simp
      refine chain_first rfl rfl rfl (by decide) rfl ?_ ?_
      · intro w' hS
        obtain rfl : w' = w2.drew := hS
        go_simp
        (try rw [if_pos (by omega)]); first | done | (refine ⟨rfl, ?_⟩; simp only [upd_same]; first | done | rfl)
      intro t5
      go_simp
      refine chain_next 0 rfl rfl rfl rfl (by decide) rfl (by first | kernel_rfl | rfl) ?_ ?_
      · intro w' hS
        obtain ⟨rfl, hy⟩ := hS
        rw [upd_same] at hy
        subst hy
        go_simp
        (try rw [if_pos (by omega)]); first | done | (refine ⟨rfl, ?_⟩; simp only [upd_same]; first | done | rfl)
      intro t6
      go_simp
      refine chain_next 1 rfl rfl rfl rfl (by decide) rfl (by first | kernel_rfl | rfl) ?_ ?_
      · intro w' hS
        obtain ⟨rfl, hy⟩ := hS
        rw [upd_same] at hy
        subst hy
        go_simp
        (try rw [if_pos (by omega)]); first | done | (refine ⟨rfl, ?_⟩; simp only [upd_same]; first | done | rfl)
      intro t7
      go_simp
      refine chain_next 2 rfl rfl rfl rfl (by decide) rfl (by first | kernel_rfl | rfl) ?_ ?_
      · intro w' hS
        obtain ⟨rfl, hy⟩ := hS
        rw [upd_same] at hy
        subst hy
        go_simp
        (try rw [if_pos (by omega)]); first | done | (refine ⟨rfl, ?_⟩; simp only [upd_same]; first | done | rfl)
      intro t8
      go_simp
      refine chain_next 3 rfl rfl rfl rfl (by decide) rfl (by first | kernel_rfl | rfl) ?_ ?_
      · intro w' hS
        obtain ⟨rfl, hy⟩ := hS
        rw [upd_same] at hy
        subst hy
        obtain ⟨x0, x1, x2⟩ := HXC.out
        go_simp
        (try rw [if_pos (by omega)]); first | done | (refine ⟨rfl, ?_⟩; simp only [upd_same]; first | done | rfl)
      intro t9
      go_simp
      refine chain_next 4 rfl rfl rfl rfl (by decide) rfl (by first | kernel_rfl | rfl) ?_ ?_
      · intro w' hS
        obtain ⟨rfl, hy⟩ := hS
        rw [upd_same] at hy
        subst hy
        go_simp
        first | done | exact ⟨by rw [upd_same], rfl⟩ | exact ⟨by rw [upd_same]; rfl, rfl⟩
      intro t10
      go_simp
      refine chain_next 5 rfl rfl rfl rfl (by decide) rfl (by first | kernel_rfl | rfl) ?_ ?_
      · intro w' hS
        obtain ⟨hy, rfl⟩ := hS
        rw [upd_same] at hy
        subst hy
        obtain ⟨vals, r1⟩ := HVALS.out
        refine each_app1 (.tmp 73) (.tmp 82) _ rfl 0 57 3 48 elemLitI (.slice (some ⟨og, 0, none⟩) (j + 1) oc) (j + 1) vals rfl w2.drew #[.bool X.l.pos, .string X.l.a.n, .slice X.p X.l.a.us.length X.c] rfl rfl r1 rfl (by intro u hu; simp at hu; rcases hu with rfl | rfl | rfl <;> rfl) (by omega) (by unfold maxLen; omega) (Nat.zero_le _) ?_
        intro v' w3 happ hg3 hnr hsz
        exact ⟨by rw [upd_same]; exact happ, hg3, by rw [upd_same]; exact hnr, hsz⟩
      intro t11
      go_simp
      refine chain_st rfl rfl (by decide) rfl (by intro j u w' hS; go_simp; first | done | exact ⟨hS, rfl⟩ | exact hS | rfl) ?_
      go_simp
      refine chain_next 6 rfl rfl rfl rfl (by decide) rfl (by first | kernel_rfl | rfl) ?_ ?_
      · intro w' hS
        obtain ⟨happ, hg3, hnr, hsz⟩ := hS
        rw [upd_same] at happ hnr
        obtain ⟨vals, r1⟩ := HVALS.out
        have h1 := happ 0 vals r1 (Nat.zero_le _)
        obtain ⟨q', c', rfl⟩ := own_form h1 (by omega)
        have hbt : w'.heap[w1.heap.size]? = some (.cells #[.slice (some ⟨og, 0, none⟩) (j + 1) oc] 39 (0, 0)) := (hg3.block _ zk.1 (fun e => (HOB.out _ e.symm).2.2 rfl)).trans HBOX.out
        have hcell : w'.cell? ⟨w1.heap.size, 0, none⟩ = some (.slice (some ⟨og, 0, none⟩) (j + 1) oc) := by rw [cell_of_row w' _ 0 _ _ (0, 0) hbt]; rfl
        have hfro : w'.frozen? ⟨w1.heap.size, 0, none⟩ = false := frozen_of_row w' _ 0 _ _ hbt
        clear hbt
        go_simp
        refine ⟨w', ?_, hg3, ?_, hsz, ?_⟩
        · rw [upd_other _ _ (by decide), upd_same]; exact happ
        · rw [upd_other _ _ (by decide), upd_same]; exact hnr
        · rw [upd_other _ _ (by decide), upd_same]
      intro x'
      refine flowU_nil ?_
      intro wz hz
      obtain ⟨w3', happ, hg3, hnr, hsz, rfl⟩ := hz
      simp only [upd_other _ _ (show (11 : Nat) ≠ 13 by decide), upd_same] at happ hnr
      rw [upd_other _ _ (by decide), upd_same]
      obtain ⟨vals, r1⟩ := HVALS.out
      have h1 := happ 0 vals r1 (Nat.zero_le _)
      obtain ⟨q', c', rfl⟩ := own_form h1 (by omega)
      rw [← hj] at happ hg3 hnr
      have HF5 := Lib.hid (HF.out.app (x := X) (gr_dr (gr_refl w2 g)) (HC2.out.below (Below.refl _ _).drew) (LitAt.below (Below.refl _ _).drew (HF.out.ls.each X hXm)) happ hg3 hnr (by omega))
      rw [hj] at HF5
      obtain ⟨W5, hW5⟩ : ∃ q, q = w3'.setCell ⟨w1.heap.size, 0, none⟩ (.slice (some ⟨q', 0, none⟩) (j + 1 + 1) c') := ⟨_, rfl⟩
      rw [← hW5] at HF5 ⊢
      clear hW5 b0 bf r0 rf zk zr h1 happ hg3 hnr hsz r1
      obtain ⟨⟨b0, bf⟩, ⟨r0, rf⟩, zk, zr⟩ := HF5.out.cells
      have zk := bsz zk
      have zr := bsz zr
      have HQ := Lib.hid (HF5.out.done (by simp [hj]) (by simp; omega) (fun x hx => by
        rcases List.mem_append.1 hx with hx | hx
        · have := HDW.out x hx; omega
        · obtain rfl : x = X := by simpa using hx
          have := HDW.out x hXm; omega))
      go_wp2
      refine bodyPost_ret (v := .agg #[.slice (some ⟨q', 0, none⟩) (j + 1 + 1) c']) (by simp only [results, Tryz.results45]; go_simp) rfl ?_
      obtain ⟨q1, q2, q3'⟩ := HQ.out
      have q2 := q2.more (n := m + 600) (by omega) (by omega)
      refine ⟨_, rfl, ?_, ?_, ?_⟩
      · first | with_reducible exact q1 | exact q1
      · first | with_reducible exact q2 | exact q2
      · first | with_reducible exact q3' | exact q3'
  · have e0 : (r == 0) = false := by simp; omega
    have e1 : (r == 1) = false := by simp; omega
    have e2 : (r == 2) = false := by simp; omega
    have e3 : (r == 3) = false := by simp; omega
    have HQ := Lib.hid (HF.out.done rfl (by omega) (fun x hx => by have := HDW.out x hx; omega))
    go_wp2
    refine bodyPost_ret (v := .agg #[.slice (some ⟨og, 0, none⟩) D.length oc]) (by simp only [results, Tryz.results45]; go_simp) rfl ?_
    obtain ⟨q1, q2, q3'⟩ := HQ.out
    have q2 := q2.more (n := m + 600) (by omega) (by omega)
    refine ⟨_, rfl, ?_, ?_, ?_⟩
    · first | with_reducible exact q1 | exact q1
    · first | with_reducible exact q2 | exact q2
    · first | with_reducible exact q3' | exact q3'
theorem GC.sc {w W w1 : World} {v u : Value} (h : GC W w1 v) (hz : w.heap.size < W.heap.size) : GC w (w1.setCell ⟨w.heap.size, 0, none⟩ u) v := by
  obtain ⟨p, d, c, rfl, h1, h2, h3, h4⟩ := h
  exact ⟨p, d, c, rfl, ClsAt.mono ((SameOn.refl _ _).sc (fun b hb e => by have h5 : W.heap.size ≤ b := hb.1; have h6 : b = w.heap.size := e; omega) _) (fun b hb => ⟨by have h5 : W.heap.size ≤ b := hb.1; omega, by have h5 : b < w1.heap.size := hb.2; simpa using h5⟩) (Nat.le_refl _) h1, h2, h3, h4⟩
def DrawCl (w : World) (e : Ending) (w' : World) : Prop := ∃ v, e = .returned v ∧ GC w w' v ∧ Below w.heap.size w w'
set_option maxHeartbeats 3200000 in
theorem drawIVC_any (pp : Option Addr) (nn cc : Nat) (w : World) (h : CodeIn w (.slice pp nn cc)) : Calls Tryz.prog 23 #[.slice pp nn cc] w (DrawCl w) := by
  have H := Lib.hid (fun (w1 : World) (hb : Below w.heap.size w w1) => cur_new h hb)
  clear h
  go_enter Tryz.func23, Tryz.ntmps23
  have HW := Lib.hid (H.out (w.alloc (.cells #[.slice none 0 0] 39)) (by exact bel))
  go_wp2_with fail
  refine (anyClause_any (w.heap.size + 1) 0 _ (by simpa using HW.out) (by omega)).mono ?_
  rintro e w1 ⟨_, rfl, hf, hc1, hg1⟩
  have HC1 := Lib.hid hc1
  clear hc1
  have ⟨c1, f1⟩ := gcell hg1
  have hz1 := hg1.size
  (try simp at hz1)
  obtain ⟨p, d, c, rfl, -⟩ := id hf
  have hb1 : Below w.heap.size w w1 := (show Below w.heap.size w _ by exact bel).trans (gr_to_below (B := w.heap.size) hg1 (by omega) (by simp; omega))
  have hR := (hg1.block w.heap.size (by simp; omega) (by simp)).trans ((hao _ _ _ (by simp)).trans (heap_alloc_new w _))
  have r0 : w1.cell? ⟨w.heap.size, 0, none⟩ = some (.slice none 0 0) := by rw [cell_of_row w1 _ 0 _ _ (0, 0) hR]; rfl
  have rf := frozen_of_row w1 w.heap.size 0 _ _ hR
  have z01 := bsz (blk_lt hR)
  have HT := Lib.hid hf
  have HB := Lib.hid hb1
  clear hR hg1 c1 f1 hf hb1
  go_wp2_with fail
  refine bodyPost_ret (v := .agg #[.slice p c.length d]) (by simp only [results, Tryz.results23]; go_simp) rfl ⟨_, rfl, HT.out.sc (by simp; omega), ?_⟩
  have hb01 := HB.out
  exact bel
set_option maxHeartbeats 3200000 in
theorem drawCTE_any (pp : Option Addr) (nn cc : Nat) (w : World) (h : CodeIn w (.slice pp nn cc)) : Calls Tryz.prog 10 #[.slice pp nn cc] w (DrawCl w) := by
  obtain ⟨W, hW⟩ : ∃ W : World, W = w.alloc (.cells #[.slice none 0 0] 39) := ⟨_, rfl⟩
  have hbW : Below w.heap.size w W := by rw [hW]; exact bel
  have hWs : W.heap.size = w.heap.size + 1 := by rw [hW]; simp
  have HR0 := Lib.hid (show W.heap[w.heap.size]? = some (.cells #[.slice none 0 0] 39 (0, 0)) by rw [hW]; exact heap_alloc_new w _)
  have H := Lib.hid (code_below h hbW)
  clear h
  go_enter Tryz.func10, Tryz.ntmps10
  go_wp2_with fail
  rw [← hW]
  clear hW
  refine (drawIVC_any pp nn cc _ H.out).mono ?_
  rintro e w1 ⟨v, rfl, hf, hb1⟩
  obtain ⟨p, d, c, rfl, -⟩ := id hf
  have hR := (hb1.block _ (by omega)).trans HR0.out
  have r0 : w1.cell? ⟨w.heap.size, 0, none⟩ = some (.slice none 0 0) := by rw [cell_of_row w1 _ 0 _ _ (0, 0) hR]; rfl
  have rf := frozen_of_row w1 w.heap.size 0 _ _ hR
  have z01 := bsz (blk_lt hR)
  have HT := Lib.hid hf
  have hb01 := Below.step hbW hb1
  clear hR hf
  go_wp2_with fail
  refine bodyPost_ret (v := .agg #[.slice p c.length d]) (by simp only [results, Tryz.results10]; go_simp) rfl ⟨_, rfl, HT.out.sc (by omega), ?_⟩
  exact bel
end Go.Proofs.YtkgfanajgdelcaaGreat
