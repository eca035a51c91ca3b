import Derived.Deep.LoopGhost
import Derived.Test.YtkgfanajgdelcaaGreatEnPart30
namespace Go.Proofs.YtkgfanajgdelcaaGreat
set_option maxRecDepth 100000
open Go.RowKit
def FmCP (g m : Nat) (W : World) (x : Value) (w : World) : Prop := GF 8 253 (NewB W.drew w) w x ∧ Cur w g (m + 572) ∧ W.drew.grownBy w (some g)
theorem FmCP.gr {g m : Nat} {W w : World} {x : Value} (h : FmCP g m W x w) : W.grownBy w (some g) := ⟨h.2.2.os, h.2.2.tape, h.2.2.output, h.2.2.size, h.2.2.block⟩
theorem FmCP.agg {g m : Nat} {W w : World} {x : Value} (h : FmCP g m W x w) : ∃ v0 v1 v2 v3 v4, x = .agg #[v0, v1, v2, v3, v4] ∧ v0.oneCell' = true ∧ v1.oneCell' = true ∧ v2.oneCell' = true ∧ v3.oneCell' = true ∧ v4.oneCell' = true := by
  obtain ⟨o3, s3, x3, p3, k3, e3, q3, j3, d3, rfl, -⟩ := h.1.form
  exact ⟨_, _, _, _, _, rfl, rfl, rfl, rfl, rfl, rfl⟩
theorem elemFmQ : Elem Tryz.prog 27 29 5 88 := elem_of Tryz.underlying27 (z := .agg fmZ) (by kernel_rfl) rfl (by omega)
def PutOp (g m q : Nat) (W : World) : Nat → (Nat → Value) → World → Prop
  | 0, _, w => w = W.drew
  | 1, u, w => ∃ y : Int, u 3 = .int .i64 y ∧ 0 ≤ y ∧ y < 11 ∧ Cur w g (m + 2) ∧ W.grownBy w (some g)
  | 2, _, w => ∃ (y : Int) (w3 : World), 0 ≤ y ∧ y < 11 ∧ Cur w3 g (m + 2) ∧ W.grownBy w3 (some g) ∧ w = w3.setCell ⟨q, 0, none⟩ (.int .i64 y)
  | _, _, _ => False
theorem PutOp.cell {g m q : Nat} {v' : Value} {W : World} {b o : Nat} (hc : W.cell? ⟨b, o, none⟩ = some v') (hne : b ≠ g) {j : Nat} (hj : j ≤ 1) {u : Nat → Value} {w : World} (h : PutOp g m q W j u w) : w.cell? ⟨b, o, none⟩ = some v' := by
  have hc' : W.drew.cell? ⟨b, o, none⟩ = some v' := hc
  match j, hj, h with
  | 0, _, h => obtain rfl : w = W.drew := h; exact hc'
  | 1, _, h => obtain ⟨s, _, _, _, _, h4⟩ := h; exact grown_cell h4 hc (by simpa using hne)
set_option maxHeartbeats 6400000 in
theorem anyFormula_any (g m : Nat) (w : World) (h : Cur w g m) (hm : m + 2000 ≤ 1000000000) :
    Calls Tryz.prog 31 #[.pointer (some ⟨g, 0, none⟩)] w (StepO g m 1500 (fun w' v => GF 60 1000 (NewB w w') w' v) w) := by
  have hlt := h.lt
  have H := Lib.hid h
  have hne : w.heap.size ≠ g := by omega
  clear h
  go_enter Tryz.func31, Tryz.ntmps31
  go_wp2_with fail
  refine (formula_any g m _ (H.out.al _) (by omega)).mono ?_
  rintro e w1 ⟨_, rfl, ht, hc1, hg1⟩
  have HC1 := Lib.hid hc1
  clear hc1
  have ⟨c1, f1⟩ := gcell hg1
  have hz1 := hg1.size
  (try simp at hz1)
  obtain ⟨o3, s3, x3, p3, k3, e3, q3, j3, d3, rfl, -⟩ := ht.form
  have hz0 : w.heap.size + 1 ≤ w1.heap.size := by simpa using hg1.size
  obtain ⟨W, hW⟩ : ∃ q : World, q = w1.alloc (.cells #[.int .i64 o3, .string s3, .slice p3 k3 e3, .string x3, .slice q3 j3 d3] 29) := ⟨_, rfl⟩
  have hbW : Below w1.heap.size w1 W := by rw [hW]; exact (Below.refl _ _).alloc (Nat.le_refl _) _
  have HF0 := Lib.hid (show FBx 8 253 w g (m + 572) w1.heap.size w1.heap.size (.int .i64 o3) (.string s3) (.slice p3 k3 e3) (.string x3) (.slice q3 j3 d3) W from
    ⟨HC1.out.below hbW, by rw [hW]; exact heap_alloc_new w1 _, (hbW.block _ (by omega)).trans ((hg1.block w.heap.size (by simp) (by simpa using hne)).trans (heap_alloc_new w _)), ht.mono (Nat.le_refl _) (Nat.le_refl _) (SameOn.below hbW) (fun b hb => ⟨by have := (show _ ≤ b from hb.1); simp at this; omega, hb.2, by have := hb.2; omega⟩), gr_below (gr_trans (gr_al (gr_refl w g) _) hg1) hbW, hlt, by omega, hbW.size⟩)
  clear ht hg1 c1 f1 hbW
  go_wp2_with fail
  rw [← hW]
  clear hW
  refine (pick_any g (m + 572) 24 _ HF0.out.cur (by omega) (by omega) (by omega)).mono ?_
  rintro e w2 ⟨_, rfl, ⟨r, rfl, hr0, hr1⟩, hc2, hg2⟩
  have HF := Lib.hid (HF0.out.later hg2 hc2)
  have hzW := hg2.size
  have HC2 := Lib.hid hc2
  clear hg2 hc2
  obtain ⟨⟨b0, b1, b2, b3, b4, bf⟩, ⟨r0, r1, r2, r3, r4, rf⟩, zk, zr⟩ := HF.out.cells
  have zk := bsz zk
  have zr := bsz zr
  rcases (by omega : r = 0 ∨ r = 1 ∨ r = 2 ∨ r = 3 ∨ r = 4 ∨ r = 5 ∨ (5 < r ∧ r ≤ 23)) with rfl | rfl | rfl | rfl | rfl | rfl | ⟨hra, hrb⟩
  · go_wp2_with fail
    refine (pick_any g (m + 572 + 2) 11 _ HC2.out (by omega) (by omega) (by omega)).mono ?_
    rintro e w3 ⟨_, rfl, ⟨y, rfl, hy0, hy1⟩, hc3, hg3⟩
    have HC3 := Lib.hid hc3
    clear hc3
    have ⟨c3, f3⟩ := gcell hg3
    have hz3 := hg3.size
    (try simp at hz3)
    have HF3 := Lib.hid (HF.out.later (hg3) HC3.out)
    have hzq := (hg3).size
    clear b0 b1 b2 b3 b4 bf r0 r1 r2 r3 r4 rf zk zr hg3 c3 f3
    obtain ⟨⟨b0, b1, b2, b3, b4, bf⟩, ⟨r0, r1, r2, r3, r4, rf⟩, zk, zr⟩ := HF3.out.cells
    have zk := bsz zk
    have zr := bsz zr
    have HQ := Lib.hid ((HF3.out.set (i := 0) (u := .int .i64 y) rfl HF3.out.lt.2.2 (HF3.out.gf.setOp (by omega))).done (n' := 60) (W' := 1000) (by omega) (by omega))
    go_wp2
    refine bodyPost_ret (v := .agg #[.int .i64 y, .string s3, .slice p3 k3 e3, .string x3, .slice q3 j3 d3]) (by simp only [results, Tryz.results31]; go_simp) rfl ?_
    obtain ⟨q1, q2, q3'⟩ := HQ.out
    have q2 := q2.more (n := m + 1500) (by omega) (by omega)
    dsimp only [set5F] at q1 q2 q3'
    refine ⟨_, rfl, ?_, ?_, ?_⟩
    · with_reducible exact q1
    · with_reducible exact q2
    · with_reducible exact q3'
  · go_wp2_with fail
    refine (of_lit g (m + 572 + 2) 1 3 w2.heap.size _ _ _ (by rfl) (by rfl) HC2.out (by omega) (by decide) (by decide) (by intro v hv; simp at hv; rcases hv with rfl | rfl | rfl <;> exact ⟨_, rfl, by decide⟩)).mono ?_
    rintro e w3 ⟨_, rfl, ⟨y, rfl, hy⟩, hc3, hg3⟩
    have HC3 := Lib.hid hc3
    clear hc3
    have ⟨c3, f3⟩ := gcell hg3
    have hz3 := hg3.size
    (try simp at hz3)
    have HF3 := Lib.hid (HF.out.later ((gr_trans (gr_al (gr_refl w2 g) _) hg3)) HC3.out)
    have hzq := ((gr_trans (gr_al (gr_refl w2 g) _) hg3)).size
    clear b0 b1 b2 b3 b4 bf r0 r1 r2 r3 r4 rf zk zr hg3 c3 f3
    obtain ⟨⟨b0, b1, b2, b3, b4, bf⟩, ⟨r0, r1, r2, r3, r4, rf⟩, zk, zr⟩ := HF3.out.cells
    have zk := bsz zk
    have zr := bsz zr
    have HQ := Lib.hid ((HF3.out.set (i := 3) (u := .string y) rfl HF3.out.lt.2.2 (HF3.out.gf.setVar (y := y) (by unfold maxLen; omega))).done (n' := 60) (W' := 1000) (by omega) (by omega))
    go_wp2
    refine bodyPost_ret (v := .agg #[.int .i64 o3, .string s3, .slice p3 k3 e3, .string y, .slice q3 j3 d3]) (by simp only [results, Tryz.results31]; go_simp) rfl ?_
    obtain ⟨q1, q2, q3'⟩ := HQ.out
    have q2 := q2.more (n := m + 1500) (by omega) (by omega)
    dsimp only [set5F] at q1 q2 q3'
    refine ⟨_, rfl, ?_, ?_, ?_⟩
    · with_reducible exact q1
    · with_reducible exact q2
    · with_reducible exact q3'
  · go_wp2_with fail
    refine (anyTerm_any g (m + 572 + 2) _ HC2.out (by omega)).mono ?_
    rintro e w3 ⟨_, rfl, ht, hc3, hg3⟩
    have HC3 := Lib.hid hc3
    clear hc3
    have ⟨c3, f3⟩ := gcell hg3
    have hz3 := hg3.size
    (try simp at hz3)
    obtain ⟨s4, p4, k4, e4, rfl, -⟩ := ht.form
    have HT := Lib.hid ht
    clear ht
    have HF3 := Lib.hid (HF.out.later (hg3) HC3.out)
    have hzq := (hg3).size
    clear b0 b1 b2 b3 b4 bf r0 r1 r2 r3 r4 rf zk zr hg3 c3 f3
    obtain ⟨⟨b0, b1, b2, b3, b4, bf⟩, ⟨r0, r1, r2, r3, r4, rf⟩, zk, zr⟩ := HF3.out.cells
    have zk := bsz zk
    have zr := bsz zr
    have HQ := Lib.hid ((HF3.out.setA (u1 := .string s4) (u2 := .slice p4 k4 e4) (Nat.le_refl _) (((HF3.out.gf.mono (n' := 13) (by omega) (Nat.le_refl _) (SameOn.refl _ _) (fun _ h => h))).setAtom (S' := SB w w1.heap.size w3.heap.size) HT.out (fun b hb => ⟨⟨by have := (show _ ≤ b from hb.1); omega, hb.2, by have := (show _ ≤ b from hb.1); omega⟩, fun h' => by have := (show _ ≤ b from hb.1); have := h'.2.1; omega⟩) (fun b hb => ⟨hb.1, by have := hb.2.1; omega, hb.2.2⟩))).done (n' := 60) (W' := 1000) (by omega) (by omega))
    go_wp2
    refine bodyPost_ret (v := .agg #[.int .i64 o3, .string s4, .slice p4 k4 e4, .string x3, .slice q3 j3 d3]) (by simp only [results, Tryz.results31]; go_simp) rfl ?_
    obtain ⟨q1, q2, q3'⟩ := HQ.out
    have q2 := q2.more (n := m + 1500) (by omega) (by omega)
    dsimp only [set5F] at q1 q2 q3'
    refine ⟨_, rfl, ?_, ?_, ?_⟩
    · with_reducible exact q1
    · with_reducible exact q2
    · with_reducible exact q3'
  · have HFB := Lib.hid (HF.out.mono (n' := 9) (W' := 253) (by omega) (Nat.le_refl _))
    obtain ⟨hj3, hvals, hob⟩ := HFB.out.row
    have HVALS := Lib.hid hvals
    have HOB := Lib.hid hob
    have HB4 := Lib.hid b4
    have hneB : w1.heap.size ≠ g := by omega
    clear hvals hob
    go_wp2_with fail
    go_wp2
    refine wp_region_stages [some (.pointer (some ⟨w1.heap.size, 4, none⟩)), some (.slice q3 j3 d3), some (.pointer (some ⟨g, 0, none⟩)), none, none, none, some (.pointer (some ⟨w1.heap.size, 4, none⟩)), none] [3, 4, 5, 7] (AppG 29 5 w1.heap.size 4 (FmCP g (m + 572 + 2) w2) (.slice q3 j3 d3) j3 w2 3 4 5) (by kernel_rfl) (by kernel_rfl) (by first | kernel_rfl | rfl) (by rfl) rfl ?_
    refine chain_st rfl rfl (by decide) rfl (by intro j u w' hS; go_simp; first | done | exact ⟨hS, rfl⟩ | exact hS | rfl) ?_
    go_simp
    refine chain_stb (c := 5) 2 rfl rfl (by decide) rfl rfl rfl (by first | kernel_rfl | rfl) ?_ ?_
    · intro j u w' hj hS
      have hc := AppG.cell (fun _ _ h => FmCP.gr h) HB4.out hneB hj hS
      go_simp
      first | done | exact ⟨hS, rfl⟩ | exact hS | rfl
    go_simp
    refine chain_st rfl rfl (by decide) rfl (by intro j u w' hS; go_simp; first | done | exact ⟨hS, rfl⟩ | exact hS | rfl) ?_
    go_simp
    refine chain_first rfl rfl rfl (by decide) rfl ?_ ?_
    · intro w' hS
      obtain rfl : w' = w2.drew := hS
      go_simp
      refine (formula_any g (m + 572 + 2) w2.drew (HC2.out.below ((Below.refl _ _).drew)) (by omega)).mono ?_
      rintro e w'' ⟨x, he, h1, h2, h3⟩
      exact ⟨x, he, by show FmCP _ _ _ (upd _ 3 x 3) w''; rw [upd_same]; exact ⟨h1, h2, h3⟩⟩
    intro x
    go_simp
    refine chain_next 0 rfl rfl rfl rfl (by decide) rfl (by first | kernel_rfl | rfl) ?_ ?_
    · intro w' hS
      have hS : FmCP g (m + 572 + 2) w2 (upd _ 3 x 3) w' := hS
      rw [upd_same] at hS
      obtain ⟨u0, u1, u2, u3, u4, rfl, o0, o1, o2, o3, o4⟩ := hS.agg
      go_simp
      exact ⟨w', #[u0, u1, u2, u3, u4], hS, by rw [upd_same], rfl⟩
    intro y
    go_simp
    refine chain_next 1 rfl rfl rfl rfl (by decide) rfl (by first | kernel_rfl | rfl) ?_ ?_
    · intro w' hS
      obtain ⟨w1', cs, hcp, hy, rfl⟩ := hS
      rw [upd_same] at hy
      subst hy
      obtain ⟨u0, u1, u2, u3, u4, he, o0, o1, o2, o3, o4⟩ := hcp.agg
      simp only [Value.agg.injEq] at he
      subst he
      have hG1 := hcp.gr
      obtain ⟨vals, r1⟩ := HVALS.out
      refine each_app1 (.tmp 28) (.tmp 31) _ rfl 0 29 5 88 elemFmQ (.slice q3 j3 d3) j3 vals rfl w1' #[u0, u1, u2, u3, u4] rfl rfl (own_same r1 fun b hb hl => hG1.block b hl (by have := HOB.out b hb; simp; omega)) rfl (by intro u hu; simp at hu; rcases hu with rfl | rfl | rfl | rfl | rfl <;> assumption) (by omega) (by unfold maxLen; omega) (Nat.zero_le _) ?_
      intro v' w3 happ hg3 hnr hsz
      exact ⟨w1', #[u0, u1, u2, u3, u4], hcp, by rw [upd_same]; exact happ, hg3, by rw [upd_same]; exact hnr, hsz⟩
    intro z
    go_simp
    refine chain_st rfl rfl (by decide) rfl (by intro j u w' hS; go_simp; first | done | exact ⟨hS, rfl⟩ | exact hS | rfl) ?_
    go_simp
    refine chain_next 2 rfl rfl rfl rfl (by decide) rfl (by first | kernel_rfl | rfl) ?_ ?_
    · intro w' hS
      obtain ⟨w1', cs, hcp, happ, hg3, hnr, hsz⟩ := hS
      rw [upd_same] at happ hnr
      obtain ⟨vals, r1⟩ := HVALS.out
      have hG1 := hcp.gr
      have hw1 := hG1.size
      have h1 := happ 0 vals (own_same r1 fun b hb hl => hG1.block b hl (by have := HOB.out b hb; simp; omega)) (Nat.zero_le _)
      obtain ⟨q', c', rfl⟩ := own_form h1 (by omega)
      have hbt : w'.heap[w1.heap.size]? = some (.cells #[.int .i64 o3, .string s3, .slice p3 k3 e3, .string x3, .slice q3 j3 d3] 29 (0, 0)) := (hg3.block _ (by omega) (fun e => (HOB.out _ e.symm).2.2 rfl)).trans ((hG1.block _ zk.1 (by simpa using hneB)).trans HF.out.box)
      have hcell : w'.cell? ⟨w1.heap.size, 4, none⟩ = some (.slice q3 j3 d3) := by rw [cell_of_row w' _ 4 _ _ (0, 0) hbt]; rfl
      have hfro : w'.frozen? ⟨w1.heap.size, 4, none⟩ = false := frozen_of_row w' _ 4 _ _ hbt
      clear hbt
      go_simp
      refine ⟨w1', w', cs, hcp, ?_, hg3, ?_, hsz, ?_⟩
      · rw [upd_other _ _ (by decide), upd_same]; exact happ
      · rw [upd_other _ _ (by decide), upd_same]; exact hnr
      · rw [upd_other _ _ (by decide), upd_same]
    intro x'
    refine flowU_nil ?_
    intro wz hz
    obtain ⟨w1', w3', cs, hcp, happ, hg3, hnr, hsz, rfl⟩ := hz
    simp only [upd_other _ _ (show (5 : Nat) ≠ 7 by decide), upd_same] at happ hnr
    rw [upd_other _ _ (by decide), upd_same]
    obtain ⟨u0, u1, u2, u3, u4, he, -⟩ := hcp.agg
    simp only [Value.agg.injEq] at he
    subst he
    obtain ⟨vals, r1⟩ := HVALS.out
    have hG1 := hcp.gr
    have hw1 := hG1.size
    have h1 := happ 0 vals (own_same r1 fun b hb hl => hG1.block b hl (by have := HOB.out b hb; simp; omega)) (Nat.zero_le _)
    obtain ⟨q', c', rfl⟩ := own_form h1 (by omega)
    have HF5 := Lib.hid (HFB.out.app hG1 hcp.2.1 (hcp.1.mono (Nat.le_refl _) (Nat.le_refl _) (SameOn.refl _ _) (fun b hb => ⟨by simpa using hb.1, hb.2⟩)) happ hg3 hnr (by omega))
    obtain ⟨W5, hW5⟩ : ∃ q, q = w3'.setCell ⟨w1.heap.size, 4, none⟩ (.slice (some ⟨q', 0, none⟩) (j3 + 1) c') := ⟨_, rfl⟩
    rw [← hW5] at HF5 ⊢
    clear hW5 b0 b1 b2 b3 b4 bf r0 r1 r2 r3 r4 rf zk zr h1 hcp happ hg3 hnr hsz hG1 hw1
    obtain ⟨⟨b0, b1, b2, b3, b4, bf⟩, ⟨r0, r1, r2, r3, r4, rf⟩, zk, zr⟩ := HF5.out.cells
    have zk := bsz zk
    have zr := bsz zr
    have HQ := Lib.hid (HF5.out.done (n' := 60) (W' := 1000) (by omega) (by omega))
    go_wp2
    refine bodyPost_ret (v := .agg #[.int .i64 o3, .string s3, .slice p3 k3 e3, .string x3, .slice (some ⟨q', 0, none⟩) (j3 + 1) c']) (by simp only [results, Tryz.results31]; go_simp) rfl ?_
    obtain ⟨q1, q2, q3'⟩ := HQ.out
    have q2 := q2.more (n := m + 1500) (by omega) (by omega)
    dsimp only [set5F] at q1 q2 q3'
    refine ⟨_, rfl, ?_, ?_, ?_⟩
    · with_reducible exact q1
    · with_reducible exact q2
    · with_reducible exact q3'
  · go_wp2_with fail
    refine (pick_any g (m + 572 + 2) 5 _ HC2.out (by omega) (by omega) (by omega)).mono ?_
    rintro e w3 ⟨_, rfl, ⟨y, rfl, hy0, hy1⟩, hc3, hg3⟩
    have HC3 := Lib.hid hc3
    clear hc3
    have ⟨c3, f3⟩ := gcell hg3
    have hz3 := hg3.size
    (try simp at hz3)
    have HF3 := Lib.hid (HF.out.later (hg3) HC3.out)
    have hzq := (hg3).size
    clear b0 b1 b2 b3 b4 bf r0 r1 r2 r3 r4 rf zk zr hg3 c3 f3
    obtain ⟨⟨b0, b1, b2, b3, b4, bf⟩, ⟨r0, r1, r2, r3, r4, rf⟩, zk, zr⟩ := HF3.out.cells
    have zk := bsz zk
    have zr := bsz zr
    have hnn : (0 : Int) ≤ 36 + y ∧ 36 + y ≤ 40 := by omega
    obtain ⟨nn, hnn2⟩ : ∃ nn : Nat, (nn : Int) = 36 + y := ⟨(36 + y).toNat, by omega⟩
    obtain ⟨t, va, vp, he, ht, hw⟩ := HF3.out.gf
    have HT := Lib.hid (show FmOwn 26 29 8 (SB w w1.heap.size w1.heap.size) w3 t [.int .i64 o3, .string s3, .slice p3 k3 e3, .string x3, .slice q3 j3 d3] by
      simp only [Value.agg.injEq, Array.mk.injEq, List.cons.injEq, and_true] at he
      obtain ⟨e0, e1, e2, e3, e4⟩ := he
      rw [e0, e1, e2, e3, e4]; exact ht)
    clear he ht b0 b1 b2 b3 b4 bf r0 r1 r2 r3 r4 rf zk zr
    go_wp2
    go_loopg [] 40 (fun q wr => ∃ (j N : Nat) (v0 v1 v2 v3 v4 : Value) (t : Fm), j + q ≤ 40 ∧ FBx (j + 8) (j + 253) w g (m + 572 + 2 + 2) w1.heap.size N v0 v1 v2 v3 v4 wr ∧ FmOwn 26 29 (j + 8) (SB w w1.heap.size N) wr t [v0, v1, v2, v3, v4] ∧ t.wt ≤ j + 253 ∧ nn ≤ t.sz + q)
    case atStart => exact ⟨0, _, _, _, _, _, _, t, by omega, HF3.out, HT.out, hw, by omega⟩
    case round =>
      obtain ⟨j, N, v0, v1, v2, v3, v4, t', hjq, hfb, hfm, hwt, hsz⟩ := hrel
      obtain ⟨pp, pc, qq, qc, rfl, rfl, rfl, rfl, rfl, -⟩ := hfm.form
      have HFB := Lib.hid hfb
      have HFM := Lib.hid hfm
      obtain ⟨⟨b0, b1, b2, b3, b4, bf⟩, -, zk, zr⟩ := hfb.cells
      have zk := bsz zk
      have zr := bsz zr
      have hszw := t'.sz_wt
      clear hfb hfm
      go_wp2_with fail
      refine (l8Size_any _ t' _ _ _ _ _ _ (FmOwn.at_ _ _ _ HFM.out) (by omega)).mono ?_
      rintro e w4 ⟨rfl, hb4⟩
      have HFB4 := Lib.hid (HFB.out.later (gr_below (gr_refl wr g) hb4) (HFB.out.cur.below hb4))
      have HFM4 := Lib.hid (FmOwn.mono _ _ t' _ (Nat.le_refl _) (SameOn.below hb4) (fun _ h => h) HFM.out)
      clear b0 b1 b2 b3 b4 bf zk zr hb4
      obtain ⟨⟨b0, b1, b2, b3, b4, bf⟩, ⟨r0, r1, r2, r3, r4, rf⟩, zk, zr⟩ := HFB4.out.cells
      have zk := bsz zk
      have zr := bsz zr
      by_cases hlt' : (t'.sz : Int) < 36 + y
      · go_wp2
        go_roundg (gk - 1)
        case measure => omega
        case rel =>
          have h1 := HFB4.out.wrap
          have h2 := HFB4.out.wrapT HFM4.out
          dsimp only [set5F] at h1 h2
          refine ⟨j + 1, w4.heap.size + 1, .int .i64 4, .string ⟨#[]⟩, .slice none 0 0, .string ⟨#[]⟩, .slice (some ⟨w4.heap.size, 0, none⟩) 1 1, .mk 4 (.mk ⟨#[]⟩ []) ⟨#[]⟩ [t'], by omega, ?_, ?_, ?_, ?_⟩
          · exact h1
          · exact h2
          · have e0 : (⟨#[]⟩ : ByteArray).size = 0 := rfl
            simp only [Fm.wt, Fm.wts, Tm.wt, Tm.wts, List.length_cons, List.length_nil, e0]; omega
          · simp only [Fm.sz, Fm.szs]; omega
      · go_wp2
        have HQ := Lib.hid (HFB4.out.done (n' := 60) (W' := 1000) (by omega) (by omega))
        refine bodyPost_ret (v := .agg #[.int .i64 t'.op, .string t'.a.n, .slice pp t'.a.us.length pc, .string t'.v, .slice qq t'.ps.length qc]) (by simp only [results, Tryz.results31]; go_simp) rfl ?_
        obtain ⟨q1, q2, q3'⟩ := HQ.out
        have q2 := q2.more (n := m + 1500) (by omega) (by omega)
        dsimp only [set5F] at q1 q2 q3'
        refine ⟨_, rfl, ?_, ?_, ?_⟩
        · with_reducible exact q1
        · with_reducible exact q2
        · with_reducible exact q3'
  · rcases Nat.eq_zero_or_pos j3 with rfl | hj0
    · have HQ := Lib.hid (HF.out.done (n' := 60) (W' := 1000) (by omega) (by omega))
      go_wp2
      refine bodyPost_ret (v := .agg #[.int .i64 o3, .string s3, .slice p3 k3 e3, .string x3, .slice q3 0 d3]) (by simp only [results, Tryz.results31]; go_simp) rfl ?_
      obtain ⟨q1, q2, q3'⟩ := HQ.out
      have q2 := q2.more (n := m + 1500) (by omega) (by omega)
      dsimp only [set5F] at q1 q2 q3'
      refine ⟨_, rfl, ?_, ?_, ?_⟩
      · with_reducible exact q1
      · with_reducible exact q2
      · with_reducible exact q3'
    · obtain ⟨qb, cur, zz, rfl, hblk, hcz, hq1, hq2, hq3, hput⟩ := HF.out.partOp hj0
      have HBK := Lib.hid hblk
      have HPUT := Lib.hid hput
      have HB4 := Lib.hid b4
      have hneB : w1.heap.size ≠ g := by omega
      have hqg : qb ≠ g := by omega
      have hj1 : (0 : Int) < (j3 : Int) := by omega
      clear hblk hput
      go_wp2_with fail
      go_wp2
      refine wp_region_stages [some (.pointer (some ⟨w1.heap.size, 4, none⟩)), some (.slice (some ⟨qb, 0, none⟩) j3 d3), some (.pointer (some ⟨g, 0, none⟩)), none, some (.pointer (some ⟨qb, 0, none⟩)), some (.pointer (some ⟨qb, 0, none⟩)), none] [3, 6] (PutOp g (m + 572 + 2) qb w2) (by kernel_rfl) (by kernel_rfl) (by first | kernel_rfl | rfl) (by rfl) rfl ?_
      refine chain_st rfl rfl (by decide) rfl (by intro j u w' hS; go_simp; first | done | exact ⟨hS, rfl⟩ | exact hS | rfl) ?_
      go_simp
      refine chain_stb (c := 6) 1 rfl rfl (by decide) rfl rfl rfl (by first | kernel_rfl | rfl) ?_ ?_
      · intro j u w' hj hS
        have hc := PutOp.cell HB4.out hneB hj hS
        go_simp
        first | done | exact ⟨hS, rfl⟩ | exact hS | rfl
      go_simp
      refine chain_st rfl rfl (by decide) rfl (by intro j u w' hS; go_simp; first | done | exact ⟨hS, rfl⟩ | exact hS | rfl) ?_
      go_simp
      refine chain_first rfl rfl rfl (by decide) rfl ?_ ?_
      · intro w' hS
        obtain rfl : w' = w2.drew := hS
        go_simp
        refine (pick_any g (m + 572 + 2) 11 w2.drew (HC2.out.below ((Below.refl _ _).drew)) (by omega) (by omega) (by omega)).mono ?_
        rintro e w'' ⟨x, he, ⟨y, rfl, hy0, hy1⟩, hc, hg⟩
        exact ⟨_, he, y, by rw [upd_same], hy0, by omega, hc, gr_trans (gr_dr (gr_refl _ _)) hg⟩
      intro y3
      go_simp
      refine chain_st rfl rfl (by decide) rfl (by intro j u w' hS; go_simp; first | done | exact ⟨hS, rfl⟩ | exact hS | rfl) ?_
      go_simp
      refine chain_st rfl rfl (by decide) rfl (by intro j u w' hS; go_simp; first | done | exact ⟨hS, rfl⟩ | exact hS | rfl) ?_
      go_simp
      refine chain_next 0 rfl rfl rfl rfl (by decide) rfl (by first | kernel_rfl | rfl) ?_ ?_
      · intro w' hS
        obtain ⟨y, hy, hy0, hy1, hc, hg⟩ := hS
        rw [upd_same] at hy
        subst hy
        have hblk' : w'.heap[qb]? = some (.cells cur 29 (0, 0)) := (hg.block qb hq2 (by simpa using hqg)).trans HBK.out
        have e0 : w'.cell? ⟨qb, 0, none⟩ = some zz := by rw [cell_of_row w' _ 0 _ _ (0, 0) hblk']; exact hcz
        have ef : ∀ j, w'.frozen? ⟨qb, j, none⟩ = false := fun j => frozen_of_row w' qb j _ _ hblk'
        clear hblk'
        go_simp
        exact ⟨y, w', hy0, hy1, hc, hg, rfl⟩
      intro x'
      refine flowU_nil ?_
      intro wz hz
      obtain ⟨y, w3', hy0, hy1, hc, hg, rfl⟩ := hz
      have HF5 := Lib.hid (HPUT.out y w3' _ (by omega) hg hc)
      obtain ⟨W5, hW5⟩ : ∃ q, q = w3'.setCell ⟨qb, 0, none⟩ (.int .i64 y) := ⟨_, rfl⟩
      rw [← hW5] at HF5 ⊢
      clear hW5 b0 b1 b2 b3 b4 bf r0 r1 r2 r3 r4 rf zk zr hc hg
      obtain ⟨⟨b0, b1, b2, b3, b4, bf⟩, ⟨r0, r1, r2, r3, r4, rf⟩, zk, zr⟩ := HF5.out.cells
      have zk := bsz zk
      have zr := bsz zr
      have HQ := Lib.hid (HF5.out.done (n' := 60) (W' := 1000) (by omega) (by omega))
      go_wp2
      refine bodyPost_ret (v := .agg #[.int .i64 o3, .string s3, .slice p3 k3 e3, .string x3, .slice (some ⟨qb, 0, none⟩) j3 d3]) (by simp only [results, Tryz.results31]; go_simp) rfl ?_
      obtain ⟨q1, q2, q3'⟩ := HQ.out
      have q2 := q2.more (n := m + 1500) (by omega) (by omega)
      dsimp only [set5F] at q1 q2 q3'
      refine ⟨_, rfl, ?_, ?_, ?_⟩
      · with_reducible exact q1
      · with_reducible exact q2
      · with_reducible exact q3'
  · have e0 : (r == 0) = false := by simp; omega
    have e1 : (r == 1) = false := by simp; omega
    have e2 : (r == 2) = false := by simp; omega
    have e3' : (r == 3) = false := by simp; omega
    have e4 : (r == 4) = false := by simp; omega
    have e5 : (r == 5) = false := by simp; omega
    have HQ := Lib.hid (HF.out.done (n' := 60) (W' := 1000) (by omega) (by omega))
    go_wp2
    refine bodyPost_ret (v := .agg #[.int .i64 o3, .string s3, .slice p3 k3 e3, .string x3, .slice q3 j3 d3]) (by simp only [results, Tryz.results31]; go_simp) rfl ?_
    obtain ⟨q1, q2, q3'⟩ := HQ.out
    have q2 := q2.more (n := m + 1500) (by omega) (by omega)
    dsimp only [set5F] at q1 q2 q3'
    refine ⟨_, rfl, ?_, ?_, ?_⟩
    · with_reducible exact q1
    · with_reducible exact q2
    · with_reducible exact q3'
end Go.Proofs.YtkgfanajgdelcaaGreat
