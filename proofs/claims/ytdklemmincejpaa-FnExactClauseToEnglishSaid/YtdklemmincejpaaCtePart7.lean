/- Valid clauses: the reference's. Conditions: sizes.
The English of formulas, the reference's side. Conditions: the formula is valid; sizes.
Clauses and their formulas: plain facts. No program is walked.
The order of terms: the reference's. Conditions: sizes. -/
import Derived.Test.YtdklemmincejpaaCtePart6
namespace Go.Proofs.Ytdklemmincejpaa
open Go.RowKit
theorem EngAt.call {P : Program} {k : FuncId} {B : Nat → Prop} {m : Nat} (ih : EngAt P k B m) (t : Fm) (v0 v1 v2 v3 v4 : Value) (w : World) (h : FmAt B m w t [v0, v1, v2, v3, v4]) (hf : t.form = true) (hz : t.eng.length ≤ 1000000000000) :
      Calls P k #[.agg #[v0, v1, v2, v3, v4]] w fun e w' => e = .returned (.string ⟨t.eng.toArray⟩) ∧ Below w.heap.size w w' := ih t v0 v1 v2 v3 v4 w h hf hz
theorem FmAt.one {B : Nat → Prop} {m : Nat} {w : World} {g : Fm} {p : Option Addr} {c : Nat} (h : ListAt B w 5 (FmAt B m w) (.slice p 1 c) [g]) :
    ∃ b o x0 x1 x2 x3 x4, p = some ⟨b, o, none⟩ ∧ w.cell? ⟨b, o, none⟩ = some x0 ∧ w.cell? ⟨b, o + 1, none⟩ = some x1 ∧ w.cell? ⟨b, o + 2, none⟩ = some x2 ∧ w.cell? ⟨b, o + 3, none⟩ = some x3 ∧ w.cell? ⟨b, o + 4, none⟩ = some x4 ∧ FmAt B m w g [x0, x1, x2, x3, x4] := by
  obtain ⟨b, o, rfl, _, x0, x1, x2, x3, x4, hx0, hx1, hx2, hx3, hx4, hx⟩ := h.at5 (i := 0) (by simp)
  exact ⟨b, o, x0, x1, x2, x3, x4, rfl, by simpa using hx0, by simpa using hx1, by simpa using hx2, by simpa using hx3, by simpa using hx4, hx⟩
theorem FmAt.two {B : Nat → Prop} {m : Nat} {w : World} {g h : Fm} {p : Option Addr} {c : Nat} (hl : ListAt B w 5 (FmAt B m w) (.slice p 2 c) [g, h]) :
    ∃ b o x0 x1 x2 x3 x4 y0 y1 y2 y3 y4, p = some ⟨b, o, none⟩ ∧ (w.cell? ⟨b, o, none⟩ = some x0 ∧ w.cell? ⟨b, o + 1, none⟩ = some x1 ∧ w.cell? ⟨b, o + 2, none⟩ = some x2 ∧ w.cell? ⟨b, o + 3, none⟩ = some x3 ∧ w.cell? ⟨b, o + 4, none⟩ = some x4) ∧
      (w.cell? ⟨b, o + 5, none⟩ = some y0 ∧ w.cell? ⟨b, o + 6, none⟩ = some y1 ∧ w.cell? ⟨b, o + 7, none⟩ = some y2 ∧ w.cell? ⟨b, o + 8, none⟩ = some y3 ∧ w.cell? ⟨b, o + 9, none⟩ = some y4) ∧ FmAt B m w g [x0, x1, x2, x3, x4] ∧ FmAt B m w h [y0, y1, y2, y3, y4] := by
  obtain ⟨b, o, rfl, _, x0, x1, x2, x3, x4, hx0, hx1, hx2, hx3, hx4, hx⟩ := hl.at5 (i := 0) (by simp)
  obtain ⟨b', o', he, _, y0, y1, y2, y3, y4, hy0, hy1, hy2, hy3, hy4, hy⟩ := hl.at5 (i := 1) (by simp)
  simp only [Option.some.injEq, Addr.mk.injEq, and_true] at he
  obtain ⟨rfl, rfl⟩ := he
  exact ⟨b, o, x0, x1, x2, x3, x4, y0, y1, y2, y3, y4, rfl, ⟨by simpa using hx0, by simpa using hx1, by simpa using hx2, by simpa using hx3, by simpa using hx4⟩, ⟨by simpa using hy0, by simpa using hy1, by simpa using hy2, by simpa using hy3, by simpa using hy4⟩, hx, hy⟩
set_option maxRecDepth 100000 in
set_option maxHeartbeats 3200000 in
theorem l26Formula_any {B : Nat → Prop} : ∀ m : Nat, EngAt Try.prog 19 B m := by
  intro m
  induction m with
  | zero => intro t v0 v1 v2 v3 v4 w h; exact h.elim
  | succ m ih =>
    intro t v0 v1 v2 v3 v4 w hfm hf hz
    have IH := Lib.hid ih
    clear ih
    cases form_cases hf with
    | tru =>
      obtain ⟨p, c, q, d, rfl, rfl, rfl, rfl, rfl, -⟩ := hfm.form
      clear hfm hf hz
      show Calls Try.prog 19 #[.agg #[.int .i64 1, .string ⟨#[]⟩, .slice p 0 c, .string ⟨#[]⟩, .slice q 0 d]] w _
      go_enter Try.func19, Try.ntmps19
      go_wp2
      go_ret
      exact ⟨ret_str (by rw [opF, Fm.eng]; rfl), by (repeat (first | with_reducible exact Below.refl _ _ | with_reducible assumption | with_reducible refine Below.al ?_ _ | with_reducible refine Below.sc ?_ (by first | exact Nat.le_refl _ | (simp; done) | (simp; omega)) _ | assumption | exact Below.refl _ _ | refine Below.dr ?_ | refine Below.drN ?_ _ | refine Below.step ?_ (by assumption)))⟩
    | fal =>
      obtain ⟨p, c, q, d, rfl, rfl, rfl, rfl, rfl, -⟩ := hfm.form
      clear hfm hf hz
      show Calls Try.prog 19 #[.agg #[.int .i64 2, .string ⟨#[]⟩, .slice p 0 c, .string ⟨#[]⟩, .slice q 0 d]] w _
      go_enter Try.func19, Try.ntmps19
      go_wp2
      go_ret
      exact ⟨ret_str (by rw [opF, Fm.eng]; rfl), by (repeat (first | with_reducible exact Below.refl _ _ | with_reducible assumption | with_reducible refine Below.al ?_ _ | with_reducible refine Below.sc ?_ (by first | exact Nat.le_refl _ | (simp; done) | (simp; omega)) _ | assumption | exact Below.refl _ _ | refine Below.dr ?_ | refine Below.drN ?_ _ | refine Below.step ?_ (by assumption)))⟩
    | atm a ha =>
      have HA := Lib.hid (show TmAt B (m + 1) w a _ from hfm.atm)
      obtain ⟨p, c, q, d, rfl, rfl, rfl, rfl, rfl, -⟩ := hfm.form
      rw [eng_atm] at hz ⊢
      have HZ := Lib.hid (And.intro ha hz)
      clear hfm hf hz
      show Calls Try.prog 19 #[.agg #[.int .i64 3, .string a.n, .slice p a.us.length c, .string ⟨#[]⟩, .slice q 0 d]] w _
      go_enter Try.func19, Try.ntmps19
      go_wp2_with fail
      refine (l26Atom_any (m + 1) a _ _ _ (HA.out.below (by (repeat (first | with_reducible exact Below.refl _ _ | with_reducible assumption | with_reducible refine Below.al ?_ _ | with_reducible refine Below.sc ?_ (by first | exact Nat.le_refl _ | (simp; done) | (simp; omega)) _ | assumption | exact Below.refl _ _ | refine Below.dr ?_ | refine Below.drN ?_ _ | refine Below.step ?_ (by assumption))))) HZ.out.1 HZ.out.2).mono ?_
      rintro e w1 ⟨rfl, hb1⟩
      have ⟨cw1, fw1⟩ := bcell hb1
      have qw1 := hb1.size
      (try simp at qw1)
      (try have zw1w := bsz (show w.heap.size < w1.heap.size by omega))
      go_wp2
      go_ret
      exact ⟨rfl, by (repeat (first | with_reducible exact Below.refl _ _ | with_reducible assumption | with_reducible refine Below.al ?_ _ | with_reducible refine Below.sc ?_ (by first | exact Nat.le_refl _ | (simp; done) | (simp; omega)) _ | assumption | exact Below.refl _ _ | refine Below.dr ?_ | refine Below.drN ?_ _ | refine Below.step ?_ (by assumption)))⟩
    | neg g hg =>
      obtain ⟨p, c, q, d, rfl, rfl, rfl, rfl, rfl, -⟩ := hfm.form
      obtain ⟨vn, va, vp, hcs, hop, hs, ht, hl⟩ := hfm
      simp only [List.cons.injEq, and_true] at hcs
      obtain ⟨-, -, -, -, rfl⟩ := hcs
      have hl' : ListAt B w 5 (FmAt B m w) (.slice q 1 d) [g] := hl
      obtain ⟨b, o, x0, x1, x2, x3, x4, rfl, hx0, hx1, hx2, hx3, hx4, hx⟩ := FmAt.one hl'
      have hz2 : g.eng.length + 24 ≤ 1000000000000 := by rw [eng_neg] at hz; simp [sNot] at hz; omega
      have HX := Lib.hid (And.intro hx hg)
      have zb := bsz (World.block_lt_of_cell? _ _ hx0)
      clear hf hz ht hl hl' hx
      show Calls Try.prog 19 #[.agg #[.int .i64 4, .string ⟨#[]⟩, .slice p 0 c, .string ⟨#[]⟩, .slice (some ⟨b, o, none⟩) 1 d]] w _
      go_enter Try.func19, Try.ntmps19
      go_wp2_with fail
      refine (IH.out g _ _ _ _ _ _ (HX.out.1.below (by (repeat (first | with_reducible exact Below.refl _ _ | with_reducible assumption | with_reducible refine Below.al ?_ _ | with_reducible refine Below.sc ?_ (by first | exact Nat.le_refl _ | (simp; done) | (simp; omega)) _ | assumption | exact Below.refl _ _ | refine Below.dr ?_ | refine Below.drN ?_ _ | refine Below.step ?_ (by assumption))))) HX.out.2 (by omega)).mono ?_
      rintro e w1 ⟨rfl, hb1⟩
      have ⟨cw1, fw1⟩ := bcell hb1
      have qw1 := hb1.size
      (try simp at qw1)
      (try have zw1w := bsz (show w.heap.size < w1.heap.size by omega))
      go_wp2
      go_ret
      exact ⟨ret_strs (by rw [eng_neg]; simp [sNot]), by (repeat (first | with_reducible exact Below.refl _ _ | with_reducible assumption | with_reducible refine Below.al ?_ _ | with_reducible refine Below.sc ?_ (by first | exact Nat.le_refl _ | (simp; done) | (simp; omega)) _ | assumption | exact Below.refl _ _ | refine Below.dr ?_ | refine Below.drN ?_ _ | refine Below.step ?_ (by assumption)))⟩
    | bin op g h ho hg hh =>
      obtain ⟨p, c, q, d, rfl, rfl, rfl, rfl, rfl, -⟩ := hfm.form
      obtain ⟨vn, va, vp, hcs, hop, hs, ht, hl⟩ := hfm
      simp only [List.cons.injEq, and_true] at hcs
      obtain ⟨-, -, -, -, rfl⟩ := hcs
      have hl' : ListAt B w 5 (FmAt B m w) (.slice q 2 d) [g, h] := hl
      obtain ⟨b, o, x0, x1, x2, x3, x4, y0, y1, y2, y3, y4, rfl, ⟨hx0, hx1, hx2, hx3, hx4⟩, ⟨hy0, hy1, hy2, hy3, hy4⟩, hx, hy⟩ := FmAt.two hl'
      have zb := bsz (World.block_lt_of_cell? _ _ hx0)
      have HG := Lib.hid (And.intro hg hh)
      have HX := Lib.hid hx
      have HY := Lib.hid hy
      clear hf ht hl hl' hg hh hx hy
      rcases ho with rfl | rfl | rfl
      · have hz2 : g.eng.length + h.eng.length + 30 ≤ 1000000000030 := by rw [eng_and] at hz; simp at hz; omega
        clear hz
        show Calls Try.prog 19 #[.agg #[.int .i64 5, .string ⟨#[]⟩, .slice p 0 c, .string ⟨#[]⟩, .slice (some ⟨b, o, none⟩) 2 d]] w _
        go_enter Try.func19, Try.ntmps19
        go_wp2
        obtain ⟨W, hW⟩ : ∃ W : World, W = w.alloc (.cells #[.int .i64 5, .string ⟨#[]⟩, .slice p 0 c, .string ⟨#[]⟩, .slice (some ⟨b, o, none⟩) 2 d] 55) := ⟨_, rfl⟩
        have hwb : W.cell? ⟨w.heap.size, 4, none⟩ = some (.slice (some ⟨b, o, none⟩) 2 d) := by rw [hW]; go_simp
        have hbW : Below w.heap.size w W := by rw [hW]; (repeat (first | with_reducible exact Below.refl _ _ | with_reducible assumption | with_reducible refine Below.al ?_ _ | with_reducible refine Below.sc ?_ (by first | exact Nat.le_refl _ | (simp; done) | (simp; omega)) _ | assumption | exact Below.refl _ _ | refine Below.dr ?_ | refine Below.drN ?_ _ | refine Below.step ?_ (by assumption)))
        rw [← hW]
        clear hW
        have ⟨cW, fW⟩ := bcell hbW
        obtain ⟨C, HC0⟩ := class_of (InF W.heap.size _ [(⟨w.heap.size, 4, none⟩, .slice (some ⟨b, o, none⟩) 2 d), (⟨b, o, none⟩, x0), (⟨b, o + 1, none⟩, x1), (⟨b, o + 2, none⟩, x2), (⟨b, o + 3, none⟩, x3), (⟨b, o + 4, none⟩, x4), (⟨b, o + 5, none⟩, y0), (⟨b, o + 6, none⟩, y1), (⟨b, o + 7, none⟩, y2), (⟨b, o + 8, none⟩, y3), (⟨b, o + 9, none⟩, y4)] [] [])
        have HC := Lib.hid HC0
        clear HC0
        refine wp_region_flow (C := C) (by kernel_rfl) (by kernel_rfl) (fun L hL => (HC.out _ _).2 (InF.start (by first | (intro _ hs; cases hs; done) | (simp only [List.forall_mem_cons]; go_simp)) (by first | (intro _ hs; cases hs; done) | (simp only [List.forall_mem_cons]; go_simp)) (by first | (intro _ hs; cases hs; done) | (simp only [List.forall_mem_cons]; go_simp)) (by first | (intro _ hs; cases hs; done) | (simp only [List.forall_mem_cons]; go_simp)) L hL)) ?_
        repeat (first | (apply flow_free rfl; (intro L w' hun hrd hC; have hC := (HC.out _ _).1 hC; have hb' := hC.below; (try have hw' : Below w.heap.size w w' := by first | exact Below.trans (by (repeat (first | with_reducible exact Below.refl _ _ | with_reducible assumption | with_reducible refine Below.al ?_ _ | with_reducible refine Below.sc ?_ (by first | exact Nat.le_refl _ | (simp; done) | (simp; omega)) _ | assumption | exact Below.refl _ _ | refine Below.dr ?_ | refine Below.drN ?_ _ | refine Below.step ?_ (by assumption)))) hb' | ((repeat (first | with_reducible exact Below.refl _ _ | with_reducible assumption | with_reducible refine Below.al ?_ _ | with_reducible refine Below.sc ?_ (by first | exact Nat.le_refl _ | (simp; done) | (simp; omega)) _ | assumption | exact Below.refl _ _ | refine Below.dr ?_ | refine Below.drN ?_ _ | refine Below.step ?_ (by assumption))); done)); have hf' := hC.cell; (try simp only [List.forall_mem_cons] at hf'); go_simp; first | exact ⟨(HC.out _ _).2 (hC.skip _ (by rfl)), rfl⟩ | (rw [if_neg]; (exact ⟨(HC.out _ _).2 (hC.skip _ (by rfl)), rfl⟩); omega) | (go_at_call 19; (with_reducible refine (EngAt.call IH.out g x0 x1 x2 x3 x4 _ (HX.out.below hw') HG.out.1 (by omega)).mono ?_); rintro e w1 ⟨rfl, hb1⟩; exact ⟨rfl, (HC.out _ _).2 ((hC.next (by first | (simp; done) | (simp; omega) | omega) hb1).skip _ (by rfl))⟩) | (go_at_call 19; (with_reducible refine (EngAt.call IH.out h y0 y1 y2 y3 y4 _ (HY.out.below hw') HG.out.2 (by omega)).mono ?_); rintro e w1 ⟨rfl, hb1⟩; exact ⟨rfl, (HC.out _ _).2 ((hC.next (by first | (simp; done) | (simp; omega) | omega) hb1).skip _ (by rfl))⟩)); go_simp) | (apply flow_yes; (case hw => go_simp); (intro L w' hun hrd hC; have hC := (HC.out _ _).1 hC; have hb' := hC.below; (try have hw' : Below w.heap.size w w' := by first | exact Below.trans (by (repeat (first | with_reducible exact Below.refl _ _ | with_reducible assumption | with_reducible refine Below.al ?_ _ | with_reducible refine Below.sc ?_ (by first | exact Nat.le_refl _ | (simp; done) | (simp; omega)) _ | assumption | exact Below.refl _ _ | refine Below.dr ?_ | refine Below.drN ?_ _ | refine Below.step ?_ (by assumption)))) hb' | ((repeat (first | with_reducible exact Below.refl _ _ | with_reducible assumption | with_reducible refine Below.al ?_ _ | with_reducible refine Below.sc ?_ (by first | exact Nat.le_refl _ | (simp; done) | (simp; omega)) _ | assumption | exact Below.refl _ _ | refine Below.dr ?_ | refine Below.drN ?_ _ | refine Below.step ?_ (by assumption))); done)); have hf' := hC.cell; (try simp only [List.forall_mem_cons] at hf'); go_simp; first | exact ⟨(HC.out _ _).2 (hC.skip _ (by rfl)), rfl⟩ | (rw [if_neg]; (exact ⟨(HC.out _ _).2 (hC.skip _ (by rfl)), rfl⟩); omega) | (go_at_call 19; (with_reducible refine (EngAt.call IH.out g x0 x1 x2 x3 x4 _ (HX.out.below hw') HG.out.1 (by omega)).mono ?_); rintro e w1 ⟨rfl, hb1⟩; exact ⟨rfl, (HC.out _ _).2 ((hC.next (by first | (simp; done) | (simp; omega) | omega) hb1).skip _ (by rfl))⟩) | (go_at_call 19; (with_reducible refine (EngAt.call IH.out h y0 y1 y2 y3 y4 _ (HY.out.below hw') HG.out.2 (by omega)).mono ?_); rintro e w1 ⟨rfl, hb1⟩; exact ⟨rfl, (HC.out _ _).2 ((hC.next (by first | (simp; done) | (simp; omega) | omega) hb1).skip _ (by rfl))⟩)); go_simp) | (apply flow_no; (case hw => (go_simp; try (intro hh; cases hh))); (intro L w' _ _ hC; exact (HC.out _ _).2 (((HC.out _ _).1 hC).skip _ (by rfl))); go_simp))
        refine flow_nil ?_
        intro L wz hL hz
        have hz := (HC.out _ _).1 hz
        have hbz := hz.below
        have hcz := hz.cell
        try simp only [List.forall_mem_cons] at hcz
        have hdz := hz.done
        try simp only [List.forall_mem_cons] at hdz
        (try have hwz : Below w.heap.size w wz := by first | exact Below.trans (by (repeat (first | with_reducible exact Below.refl _ _ | with_reducible assumption | with_reducible refine Below.al ?_ _ | with_reducible refine Below.sc ?_ (by first | exact Nat.le_refl _ | (simp; done) | (simp; omega)) _ | assumption | exact Below.refl _ _ | refine Below.dr ?_ | refine Below.drN ?_ _ | refine Below.step ?_ (by assumption)))) hbz | ((repeat (first | with_reducible exact Below.refl _ _ | with_reducible assumption | with_reducible refine Below.al ?_ _ | with_reducible refine Below.sc ?_ (by first | exact Nat.le_refl _ | (simp; done) | (simp; omega)) _ | assumption | exact Below.refl _ _ | refine Below.dr ?_ | refine Below.drN ?_ _ | refine Below.step ?_ (by assumption))); done))
        go_wp2
        go_ret
        exact ⟨ret_strs (by rw [eng_and]; simp [sBoth, sAnd]), by (repeat (first | with_reducible exact Below.refl _ _ | with_reducible assumption | with_reducible refine Below.al ?_ _ | with_reducible refine Below.sc ?_ (by first | exact Nat.le_refl _ | (simp; done) | (simp; omega)) _ | assumption | exact Below.refl _ _ | refine Below.dr ?_ | refine Below.drN ?_ _ | refine Below.step ?_ (by assumption)))⟩
      · have hz2 : g.eng.length + h.eng.length + 30 ≤ 1000000000030 := by rw [eng_or] at hz; simp at hz; omega
        clear hz
        show Calls Try.prog 19 #[.agg #[.int .i64 6, .string ⟨#[]⟩, .slice p 0 c, .string ⟨#[]⟩, .slice (some ⟨b, o, none⟩) 2 d]] w _
        go_enter Try.func19, Try.ntmps19
        go_wp2
        obtain ⟨W, hW⟩ : ∃ W : World, W = w.alloc (.cells #[.int .i64 6, .string ⟨#[]⟩, .slice p 0 c, .string ⟨#[]⟩, .slice (some ⟨b, o, none⟩) 2 d] 55) := ⟨_, rfl⟩
        have hwb : W.cell? ⟨w.heap.size, 4, none⟩ = some (.slice (some ⟨b, o, none⟩) 2 d) := by rw [hW]; go_simp
        have hbW : Below w.heap.size w W := by rw [hW]; (repeat (first | with_reducible exact Below.refl _ _ | with_reducible assumption | with_reducible refine Below.al ?_ _ | with_reducible refine Below.sc ?_ (by first | exact Nat.le_refl _ | (simp; done) | (simp; omega)) _ | assumption | exact Below.refl _ _ | refine Below.dr ?_ | refine Below.drN ?_ _ | refine Below.step ?_ (by assumption)))
        rw [← hW]
        clear hW
        have ⟨cW, fW⟩ := bcell hbW
        obtain ⟨C, HC0⟩ := class_of (InF W.heap.size _ [(⟨w.heap.size, 4, none⟩, .slice (some ⟨b, o, none⟩) 2 d), (⟨b, o, none⟩, x0), (⟨b, o + 1, none⟩, x1), (⟨b, o + 2, none⟩, x2), (⟨b, o + 3, none⟩, x3), (⟨b, o + 4, none⟩, x4), (⟨b, o + 5, none⟩, y0), (⟨b, o + 6, none⟩, y1), (⟨b, o + 7, none⟩, y2), (⟨b, o + 8, none⟩, y3), (⟨b, o + 9, none⟩, y4)] [] [])
        have HC := Lib.hid HC0
        clear HC0
        refine wp_region_flow (C := C) (by kernel_rfl) (by kernel_rfl) (fun L hL => (HC.out _ _).2 (InF.start (by first | (intro _ hs; cases hs; done) | (simp only [List.forall_mem_cons]; go_simp)) (by first | (intro _ hs; cases hs; done) | (simp only [List.forall_mem_cons]; go_simp)) (by first | (intro _ hs; cases hs; done) | (simp only [List.forall_mem_cons]; go_simp)) (by first | (intro _ hs; cases hs; done) | (simp only [List.forall_mem_cons]; go_simp)) L hL)) ?_
        repeat (first | (apply flow_free rfl; (intro L w' hun hrd hC; have hC := (HC.out _ _).1 hC; have hb' := hC.below; (try have hw' : Below w.heap.size w w' := by first | exact Below.trans (by (repeat (first | with_reducible exact Below.refl _ _ | with_reducible assumption | with_reducible refine Below.al ?_ _ | with_reducible refine Below.sc ?_ (by first | exact Nat.le_refl _ | (simp; done) | (simp; omega)) _ | assumption | exact Below.refl _ _ | refine Below.dr ?_ | refine Below.drN ?_ _ | refine Below.step ?_ (by assumption)))) hb' | ((repeat (first | with_reducible exact Below.refl _ _ | with_reducible assumption | with_reducible refine Below.al ?_ _ | with_reducible refine Below.sc ?_ (by first | exact Nat.le_refl _ | (simp; done) | (simp; omega)) _ | assumption | exact Below.refl _ _ | refine Below.dr ?_ | refine Below.drN ?_ _ | refine Below.step ?_ (by assumption))); done)); have hf' := hC.cell; (try simp only [List.forall_mem_cons] at hf'); go_simp; first | exact ⟨(HC.out _ _).2 (hC.skip _ (by rfl)), rfl⟩ | (rw [if_neg]; (exact ⟨(HC.out _ _).2 (hC.skip _ (by rfl)), rfl⟩); omega) | (go_at_call 19; (with_reducible refine (EngAt.call IH.out g x0 x1 x2 x3 x4 _ (HX.out.below hw') HG.out.1 (by omega)).mono ?_); rintro e w1 ⟨rfl, hb1⟩; exact ⟨rfl, (HC.out _ _).2 ((hC.next (by first | (simp; done) | (simp; omega) | omega) hb1).skip _ (by rfl))⟩) | (go_at_call 19; (with_reducible refine (EngAt.call IH.out h y0 y1 y2 y3 y4 _ (HY.out.below hw') HG.out.2 (by omega)).mono ?_); rintro e w1 ⟨rfl, hb1⟩; exact ⟨rfl, (HC.out _ _).2 ((hC.next (by first | (simp; done) | (simp; omega) | omega) hb1).skip _ (by rfl))⟩)); go_simp) | (apply flow_yes; (case hw => go_simp); (intro L w' hun hrd hC; have hC := (HC.out _ _).1 hC; have hb' := hC.below; (try have hw' : Below w.heap.size w w' := by first | exact Below.trans (by (repeat (first | with_reducible exact Below.refl _ _ | with_reducible assumption | with_reducible refine Below.al ?_ _ | with_reducible refine Below.sc ?_ (by first | exact Nat.le_refl _ | (simp; done) | (simp; omega)) _ | assumption | exact Below.refl _ _ | refine Below.dr ?_ | refine Below.drN ?_ _ | refine Below.step ?_ (by assumption)))) hb' | ((repeat (first | with_reducible exact Below.refl _ _ | with_reducible assumption | with_reducible refine Below.al ?_ _ | with_reducible refine Below.sc ?_ (by first | exact Nat.le_refl _ | (simp; done) | (simp; omega)) _ | assumption | exact Below.refl _ _ | refine Below.dr ?_ | refine Below.drN ?_ _ | refine Below.step ?_ (by assumption))); done)); have hf' := hC.cell; (try simp only [List.forall_mem_cons] at hf'); go_simp; first | exact ⟨(HC.out _ _).2 (hC.skip _ (by rfl)), rfl⟩ | (rw [if_neg]; (exact ⟨(HC.out _ _).2 (hC.skip _ (by rfl)), rfl⟩); omega) | (go_at_call 19; (with_reducible refine (EngAt.call IH.out g x0 x1 x2 x3 x4 _ (HX.out.below hw') HG.out.1 (by omega)).mono ?_); rintro e w1 ⟨rfl, hb1⟩; exact ⟨rfl, (HC.out _ _).2 ((hC.next (by first | (simp; done) | (simp; omega) | omega) hb1).skip _ (by rfl))⟩) | (go_at_call 19; (with_reducible refine (EngAt.call IH.out h y0 y1 y2 y3 y4 _ (HY.out.below hw') HG.out.2 (by omega)).mono ?_); rintro e w1 ⟨rfl, hb1⟩; exact ⟨rfl, (HC.out _ _).2 ((hC.next (by first | (simp; done) | (simp; omega) | omega) hb1).skip _ (by rfl))⟩)); go_simp) | (apply flow_no; (case hw => (go_simp; try (intro hh; cases hh))); (intro L w' _ _ hC; exact (HC.out _ _).2 (((HC.out _ _).1 hC).skip _ (by rfl))); go_simp))
        refine flow_nil ?_
        intro L wz hL hz
        have hz := (HC.out _ _).1 hz
        have hbz := hz.below
        have hcz := hz.cell
        try simp only [List.forall_mem_cons] at hcz
        have hdz := hz.done
        try simp only [List.forall_mem_cons] at hdz
        (try have hwz : Below w.heap.size w wz := by first | exact Below.trans (by (repeat (first | with_reducible exact Below.refl _ _ | with_reducible assumption | with_reducible refine Below.al ?_ _ | with_reducible refine Below.sc ?_ (by first | exact Nat.le_refl _ | (simp; done) | (simp; omega)) _ | assumption | exact Below.refl _ _ | refine Below.dr ?_ | refine Below.drN ?_ _ | refine Below.step ?_ (by assumption)))) hbz | ((repeat (first | with_reducible exact Below.refl _ _ | with_reducible assumption | with_reducible refine Below.al ?_ _ | with_reducible refine Below.sc ?_ (by first | exact Nat.le_refl _ | (simp; done) | (simp; omega)) _ | assumption | exact Below.refl _ _ | refine Below.dr ?_ | refine Below.drN ?_ _ | refine Below.step ?_ (by assumption))); done))
        go_wp2
        go_ret
        exact ⟨ret_strs (by rw [eng_or]; simp [sEither, sOr]), by (repeat (first | with_reducible exact Below.refl _ _ | with_reducible assumption | with_reducible refine Below.al ?_ _ | with_reducible refine Below.sc ?_ (by first | exact Nat.le_refl _ | (simp; done) | (simp; omega)) _ | assumption | exact Below.refl _ _ | refine Below.dr ?_ | refine Below.drN ?_ _ | refine Below.step ?_ (by assumption)))⟩
      · have hz2 : g.eng.length + h.eng.length + 30 ≤ 1000000000030 := by rw [eng_imp] at hz; simp at hz; omega
        clear hz
        show Calls Try.prog 19 #[.agg #[.int .i64 7, .string ⟨#[]⟩, .slice p 0 c, .string ⟨#[]⟩, .slice (some ⟨b, o, none⟩) 2 d]] w _
        go_enter Try.func19, Try.ntmps19
        go_wp2
        obtain ⟨W, hW⟩ : ∃ W : World, W = w.alloc (.cells #[.int .i64 7, .string ⟨#[]⟩, .slice p 0 c, .string ⟨#[]⟩, .slice (some ⟨b, o, none⟩) 2 d] 55) := ⟨_, rfl⟩
        have hwb : W.cell? ⟨w.heap.size, 4, none⟩ = some (.slice (some ⟨b, o, none⟩) 2 d) := by rw [hW]; go_simp
        have hbW : Below w.heap.size w W := by rw [hW]; (repeat (first | with_reducible exact Below.refl _ _ | with_reducible assumption | with_reducible refine Below.al ?_ _ | with_reducible refine Below.sc ?_ (by first | exact Nat.le_refl _ | (simp; done) | (simp; omega)) _ | assumption | exact Below.refl _ _ | refine Below.dr ?_ | refine Below.drN ?_ _ | refine Below.step ?_ (by assumption)))
        rw [← hW]
        clear hW
        have ⟨cW, fW⟩ := bcell hbW
        obtain ⟨C, HC0⟩ := class_of (InF W.heap.size _ [(⟨w.heap.size, 4, none⟩, .slice (some ⟨b, o, none⟩) 2 d), (⟨b, o, none⟩, x0), (⟨b, o + 1, none⟩, x1), (⟨b, o + 2, none⟩, x2), (⟨b, o + 3, none⟩, x3), (⟨b, o + 4, none⟩, x4), (⟨b, o + 5, none⟩, y0), (⟨b, o + 6, none⟩, y1), (⟨b, o + 7, none⟩, y2), (⟨b, o + 8, none⟩, y3), (⟨b, o + 9, none⟩, y4)] [] [])
        have HC := Lib.hid HC0
        clear HC0
        refine wp_region_flow (C := C) (by kernel_rfl) (by kernel_rfl) (fun L hL => (HC.out _ _).2 (InF.start (by first | (intro _ hs; cases hs; done) | (simp only [List.forall_mem_cons]; go_simp)) (by first | (intro _ hs; cases hs; done) | (simp only [List.forall_mem_cons]; go_simp)) (by first | (intro _ hs; cases hs; done) | (simp only [List.forall_mem_cons]; go_simp)) (by first | (intro _ hs; cases hs; done) | (simp only [List.forall_mem_cons]; go_simp)) L hL)) ?_
        repeat (first | (apply flow_free rfl; (intro L w' hun hrd hC; have hC := (HC.out _ _).1 hC; have hb' := hC.below; (try have hw' : Below w.heap.size w w' := by first | exact Below.trans (by (repeat (first | with_reducible exact Below.refl _ _ | with_reducible assumption | with_reducible refine Below.al ?_ _ | with_reducible refine Below.sc ?_ (by first | exact Nat.le_refl _ | (simp; done) | (simp; omega)) _ | assumption | exact Below.refl _ _ | refine Below.dr ?_ | refine Below.drN ?_ _ | refine Below.step ?_ (by assumption)))) hb' | ((repeat (first | with_reducible exact Below.refl _ _ | with_reducible assumption | with_reducible refine Below.al ?_ _ | with_reducible refine Below.sc ?_ (by first | exact Nat.le_refl _ | (simp; done) | (simp; omega)) _ | assumption | exact Below.refl _ _ | refine Below.dr ?_ | refine Below.drN ?_ _ | refine Below.step ?_ (by assumption))); done)); have hf' := hC.cell; (try simp only [List.forall_mem_cons] at hf'); go_simp; first | exact ⟨(HC.out _ _).2 (hC.skip _ (by rfl)), rfl⟩ | (rw [if_neg]; (exact ⟨(HC.out _ _).2 (hC.skip _ (by rfl)), rfl⟩); omega) | (go_at_call 19; (with_reducible refine (EngAt.call IH.out g x0 x1 x2 x3 x4 _ (HX.out.below hw') HG.out.1 (by omega)).mono ?_); rintro e w1 ⟨rfl, hb1⟩; exact ⟨rfl, (HC.out _ _).2 ((hC.next (by first | (simp; done) | (simp; omega) | omega) hb1).skip _ (by rfl))⟩) | (go_at_call 19; (with_reducible refine (EngAt.call IH.out h y0 y1 y2 y3 y4 _ (HY.out.below hw') HG.out.2 (by omega)).mono ?_); rintro e w1 ⟨rfl, hb1⟩; exact ⟨rfl, (HC.out _ _).2 ((hC.next (by first | (simp; done) | (simp; omega) | omega) hb1).skip _ (by rfl))⟩)); go_simp) | (apply flow_yes; (case hw => go_simp); (intro L w' hun hrd hC; have hC := (HC.out _ _).1 hC; have hb' := hC.below; (try have hw' : Below w.heap.size w w' := by first | exact Below.trans (by (repeat (first | with_reducible exact Below.refl _ _ | with_reducible assumption | with_reducible refine Below.al ?_ _ | with_reducible refine Below.sc ?_ (by first | exact Nat.le_refl _ | (simp; done) | (simp; omega)) _ | assumption | exact Below.refl _ _ | refine Below.dr ?_ | refine Below.drN ?_ _ | refine Below.step ?_ (by assumption)))) hb' | ((repeat (first | with_reducible exact Below.refl _ _ | with_reducible assumption | with_reducible refine Below.al ?_ _ | with_reducible refine Below.sc ?_ (by first | exact Nat.le_refl _ | (simp; done) | (simp; omega)) _ | assumption | exact Below.refl _ _ | refine Below.dr ?_ | refine Below.drN ?_ _ | refine Below.step ?_ (by assumption))); done)); have hf' := hC.cell; (try simp only [List.forall_mem_cons] at hf'); go_simp; first | exact ⟨(HC.out _ _).2 (hC.skip _ (by rfl)), rfl⟩ | (rw [if_neg]; (exact ⟨(HC.out _ _).2 (hC.skip _ (by rfl)), rfl⟩); omega) | (go_at_call 19; (with_reducible refine (EngAt.call IH.out g x0 x1 x2 x3 x4 _ (HX.out.below hw') HG.out.1 (by omega)).mono ?_); rintro e w1 ⟨rfl, hb1⟩; exact ⟨rfl, (HC.out _ _).2 ((hC.next (by first | (simp; done) | (simp; omega) | omega) hb1).skip _ (by rfl))⟩) | (go_at_call 19; (with_reducible refine (EngAt.call IH.out h y0 y1 y2 y3 y4 _ (HY.out.below hw') HG.out.2 (by omega)).mono ?_); rintro e w1 ⟨rfl, hb1⟩; exact ⟨rfl, (HC.out _ _).2 ((hC.next (by first | (simp; done) | (simp; omega) | omega) hb1).skip _ (by rfl))⟩)); go_simp) | (apply flow_no; (case hw => (go_simp; try (intro hh; cases hh))); (intro L w' _ _ hC; exact (HC.out _ _).2 (((HC.out _ _).1 hC).skip _ (by rfl))); go_simp))
        refine flow_nil ?_
        intro L wz hL hz
        have hz := (HC.out _ _).1 hz
        have hbz := hz.below
        have hcz := hz.cell
        try simp only [List.forall_mem_cons] at hcz
        have hdz := hz.done
        try simp only [List.forall_mem_cons] at hdz
        (try have hwz : Below w.heap.size w wz := by first | exact Below.trans (by (repeat (first | with_reducible exact Below.refl _ _ | with_reducible assumption | with_reducible refine Below.al ?_ _ | with_reducible refine Below.sc ?_ (by first | exact Nat.le_refl _ | (simp; done) | (simp; omega)) _ | assumption | exact Below.refl _ _ | refine Below.dr ?_ | refine Below.drN ?_ _ | refine Below.step ?_ (by assumption)))) hbz | ((repeat (first | with_reducible exact Below.refl _ _ | with_reducible assumption | with_reducible refine Below.al ?_ _ | with_reducible refine Below.sc ?_ (by first | exact Nat.le_refl _ | (simp; done) | (simp; omega)) _ | assumption | exact Below.refl _ _ | refine Below.dr ?_ | refine Below.drN ?_ _ | refine Below.step ?_ (by assumption))); done))
        go_wp2
        go_ret
        exact ⟨ret_strs (by rw [eng_imp]; simp [sIf, sThen]), by (repeat (first | with_reducible exact Below.refl _ _ | with_reducible assumption | with_reducible refine Below.al ?_ _ | with_reducible refine Below.sc ?_ (by first | exact Nat.le_refl _ | (simp; done) | (simp; omega)) _ | assumption | exact Below.refl _ _ | refine Below.dr ?_ | refine Below.drN ?_ _ | refine Below.step ?_ (by assumption)))⟩
    | qua op v g ho hv hg =>
      obtain ⟨p, c, q, d, rfl, rfl, rfl, rfl, rfl, -⟩ := hfm.form
      obtain ⟨vn, va, vp, hcs, hop, hs, ht, hl⟩ := hfm
      simp only [List.cons.injEq, and_true] at hcs
      obtain ⟨-, -, -, -, rfl⟩ := hcs
      have hl' : ListAt B w 5 (FmAt B m w) (.slice q 1 d) [g] := hl
      obtain ⟨b, o, x0, x1, x2, x3, x4, rfl, hx0, hx1, hx2, hx3, hx4, hx⟩ := FmAt.one hl'
      have zb := bsz (World.block_lt_of_cell? _ _ hx0)
      have HG := Lib.hid hg
      have HX := Lib.hid hx
      clear hf ht hl hl' hg hx
      rcases ho with rfl | rfl
      · have hz2 : g.eng.length + v.length + 30 ≤ 1000000000030 := by rw [eng_all] at hz; simp at hz; omega
        clear hz
        show Calls Try.prog 19 #[.agg #[.int .i64 8, .string ⟨#[]⟩, .slice p 0 c, .string ⟨v.toArray⟩, .slice (some ⟨b, o, none⟩) 1 d]] w _
        go_enter Try.func19, Try.ntmps19
        go_wp2
        obtain ⟨W, hW⟩ : ∃ W : World, W = w.alloc (.cells #[.int .i64 8, .string ⟨#[]⟩, .slice p 0 c, .string ⟨v.toArray⟩, .slice (some ⟨b, o, none⟩) 1 d] 55) := ⟨_, rfl⟩
        have hwb : W.cell? ⟨w.heap.size, 3, none⟩ = some (.string ⟨v.toArray⟩) := by rw [hW]; go_simp
        have hwc : W.cell? ⟨w.heap.size, 4, none⟩ = some (.slice (some ⟨b, o, none⟩) 1 d) := by rw [hW]; go_simp
        have hbW : Below w.heap.size w W := by rw [hW]; (repeat (first | with_reducible exact Below.refl _ _ | with_reducible assumption | with_reducible refine Below.al ?_ _ | with_reducible refine Below.sc ?_ (by first | exact Nat.le_refl _ | (simp; done) | (simp; omega)) _ | assumption | exact Below.refl _ _ | refine Below.dr ?_ | refine Below.drN ?_ _ | refine Below.step ?_ (by assumption)))
        rw [← hW]
        clear hW
        have zW := bsz (World.block_lt_of_cell? _ _ hwb)
        have ⟨cW, fW⟩ := bcell hbW
        obtain ⟨C, HC0⟩ := class_of (InF W.heap.size _ [(⟨w.heap.size, 3, none⟩, .string ⟨v.toArray⟩), (⟨w.heap.size, 4, none⟩, .slice (some ⟨b, o, none⟩) 1 d), (⟨b, o, none⟩, x0), (⟨b, o + 1, none⟩, x1), (⟨b, o + 2, none⟩, x2), (⟨b, o + 3, none⟩, x3), (⟨b, o + 4, none⟩, x4)] [] [])
        have HC := Lib.hid HC0
        clear HC0
        refine wp_region_flow (C := C) (by kernel_rfl) (by kernel_rfl) (fun L hL => (HC.out _ _).2 (InF.start (by first | (intro _ hs; cases hs; done) | (simp only [List.forall_mem_cons]; go_simp)) (by first | (intro _ hs; cases hs; done) | (simp only [List.forall_mem_cons]; go_simp)) (by first | (intro _ hs; cases hs; done) | (simp only [List.forall_mem_cons]; go_simp)) (by first | (intro _ hs; cases hs; done) | (simp only [List.forall_mem_cons]; go_simp)) L hL)) ?_
        repeat (first | (apply flow_free rfl; (intro L w' hun hrd hC; have hC := (HC.out _ _).1 hC; have hb' := hC.below; (try have hw' : Below w.heap.size w w' := by first | exact Below.trans (by (repeat (first | with_reducible exact Below.refl _ _ | with_reducible assumption | with_reducible refine Below.al ?_ _ | with_reducible refine Below.sc ?_ (by first | exact Nat.le_refl _ | (simp; done) | (simp; omega)) _ | assumption | exact Below.refl _ _ | refine Below.dr ?_ | refine Below.drN ?_ _ | refine Below.step ?_ (by assumption)))) hb' | ((repeat (first | with_reducible exact Below.refl _ _ | with_reducible assumption | with_reducible refine Below.al ?_ _ | with_reducible refine Below.sc ?_ (by first | exact Nat.le_refl _ | (simp; done) | (simp; omega)) _ | assumption | exact Below.refl _ _ | refine Below.dr ?_ | refine Below.drN ?_ _ | refine Below.step ?_ (by assumption))); done)); have hf' := hC.cell; (try simp only [List.forall_mem_cons] at hf'); go_simp; first | exact ⟨(HC.out _ _).2 (hC.skip _ (by rfl)), rfl⟩ | (rw [if_neg]; (exact ⟨(HC.out _ _).2 (hC.skip _ (by rfl)), rfl⟩); omega) | (go_at_call 19; (with_reducible refine (EngAt.call IH.out g x0 x1 x2 x3 x4 _ (HX.out.below hw') HG.out (by omega)).mono ?_); rintro e w1 ⟨rfl, hb1⟩; exact ⟨rfl, (HC.out _ _).2 ((hC.next (by first | (simp; done) | (simp; omega) | omega) hb1).skip _ (by rfl))⟩)); go_simp) | (apply flow_yes; (case hw => go_simp); (intro L w' hun hrd hC; have hC := (HC.out _ _).1 hC; have hb' := hC.below; (try have hw' : Below w.heap.size w w' := by first | exact Below.trans (by (repeat (first | with_reducible exact Below.refl _ _ | with_reducible assumption | with_reducible refine Below.al ?_ _ | with_reducible refine Below.sc ?_ (by first | exact Nat.le_refl _ | (simp; done) | (simp; omega)) _ | assumption | exact Below.refl _ _ | refine Below.dr ?_ | refine Below.drN ?_ _ | refine Below.step ?_ (by assumption)))) hb' | ((repeat (first | with_reducible exact Below.refl _ _ | with_reducible assumption | with_reducible refine Below.al ?_ _ | with_reducible refine Below.sc ?_ (by first | exact Nat.le_refl _ | (simp; done) | (simp; omega)) _ | assumption | exact Below.refl _ _ | refine Below.dr ?_ | refine Below.drN ?_ _ | refine Below.step ?_ (by assumption))); done)); have hf' := hC.cell; (try simp only [List.forall_mem_cons] at hf'); go_simp; first | exact ⟨(HC.out _ _).2 (hC.skip _ (by rfl)), rfl⟩ | (rw [if_neg]; (exact ⟨(HC.out _ _).2 (hC.skip _ (by rfl)), rfl⟩); omega) | (go_at_call 19; (with_reducible refine (EngAt.call IH.out g x0 x1 x2 x3 x4 _ (HX.out.below hw') HG.out (by omega)).mono ?_); rintro e w1 ⟨rfl, hb1⟩; exact ⟨rfl, (HC.out _ _).2 ((hC.next (by first | (simp; done) | (simp; omega) | omega) hb1).skip _ (by rfl))⟩)); go_simp) | (apply flow_no; (case hw => (go_simp; try (intro hh; cases hh))); (intro L w' _ _ hC; exact (HC.out _ _).2 (((HC.out _ _).1 hC).skip _ (by rfl))); go_simp))
        refine flow_nil ?_
        intro L wz hL hz
        have hz := (HC.out _ _).1 hz
        have hbz := hz.below
        have hcz := hz.cell
        try simp only [List.forall_mem_cons] at hcz
        have hdz := hz.done
        try simp only [List.forall_mem_cons] at hdz
        (try have hwz : Below w.heap.size w wz := by first | exact Below.trans (by (repeat (first | with_reducible exact Below.refl _ _ | with_reducible assumption | with_reducible refine Below.al ?_ _ | with_reducible refine Below.sc ?_ (by first | exact Nat.le_refl _ | (simp; done) | (simp; omega)) _ | assumption | exact Below.refl _ _ | refine Below.dr ?_ | refine Below.drN ?_ _ | refine Below.step ?_ (by assumption)))) hbz | ((repeat (first | with_reducible exact Below.refl _ _ | with_reducible assumption | with_reducible refine Below.al ?_ _ | with_reducible refine Below.sc ?_ (by first | exact Nat.le_refl _ | (simp; done) | (simp; omega)) _ | assumption | exact Below.refl _ _ | refine Below.dr ?_ | refine Below.drN ?_ _ | refine Below.step ?_ (by assumption))); done))
        go_wp2
        go_ret
        exact ⟨ret_strs (by rw [eng_all]; simp [sEvery, sComma]), by (repeat (first | with_reducible exact Below.refl _ _ | with_reducible assumption | with_reducible refine Below.al ?_ _ | with_reducible refine Below.sc ?_ (by first | exact Nat.le_refl _ | (simp; done) | (simp; omega)) _ | assumption | exact Below.refl _ _ | refine Below.dr ?_ | refine Below.drN ?_ _ | refine Below.step ?_ (by assumption)))⟩
      · have hz2 : g.eng.length + v.length + 30 ≤ 1000000000030 := by rw [eng_ex] at hz; simp at hz; omega
        clear hz
        show Calls Try.prog 19 #[.agg #[.int .i64 9, .string ⟨#[]⟩, .slice p 0 c, .string ⟨v.toArray⟩, .slice (some ⟨b, o, none⟩) 1 d]] w _
        go_enter Try.func19, Try.ntmps19
        go_wp2
        obtain ⟨W, hW⟩ : ∃ W : World, W = w.alloc (.cells #[.int .i64 9, .string ⟨#[]⟩, .slice p 0 c, .string ⟨v.toArray⟩, .slice (some ⟨b, o, none⟩) 1 d] 55) := ⟨_, rfl⟩
        have hwb : W.cell? ⟨w.heap.size, 3, none⟩ = some (.string ⟨v.toArray⟩) := by rw [hW]; go_simp
        have hwc : W.cell? ⟨w.heap.size, 4, none⟩ = some (.slice (some ⟨b, o, none⟩) 1 d) := by rw [hW]; go_simp
        have hbW : Below w.heap.size w W := by rw [hW]; (repeat (first | with_reducible exact Below.refl _ _ | with_reducible assumption | with_reducible refine Below.al ?_ _ | with_reducible refine Below.sc ?_ (by first | exact Nat.le_refl _ | (simp; done) | (simp; omega)) _ | assumption | exact Below.refl _ _ | refine Below.dr ?_ | refine Below.drN ?_ _ | refine Below.step ?_ (by assumption)))
        rw [← hW]
        clear hW
        have zW := bsz (World.block_lt_of_cell? _ _ hwb)
        have ⟨cW, fW⟩ := bcell hbW
        obtain ⟨C, HC0⟩ := class_of (InF W.heap.size _ [(⟨w.heap.size, 3, none⟩, .string ⟨v.toArray⟩), (⟨w.heap.size, 4, none⟩, .slice (some ⟨b, o, none⟩) 1 d), (⟨b, o, none⟩, x0), (⟨b, o + 1, none⟩, x1), (⟨b, o + 2, none⟩, x2), (⟨b, o + 3, none⟩, x3), (⟨b, o + 4, none⟩, x4)] [] [])
        have HC := Lib.hid HC0
        clear HC0
        refine wp_region_flow (C := C) (by kernel_rfl) (by kernel_rfl) (fun L hL => (HC.out _ _).2 (InF.start (by first | (intro _ hs; cases hs; done) | (simp only [List.forall_mem_cons]; go_simp)) (by first | (intro _ hs; cases hs; done) | (simp only [List.forall_mem_cons]; go_simp)) (by first | (intro _ hs; cases hs; done) | (simp only [List.forall_mem_cons]; go_simp)) (by first | (intro _ hs; cases hs; done) | (simp only [List.forall_mem_cons]; go_simp)) L hL)) ?_
        repeat (first | (apply flow_free rfl; (intro L w' hun hrd hC; have hC := (HC.out _ _).1 hC; have hb' := hC.below; (try have hw' : Below w.heap.size w w' := by first | exact Below.trans (by (repeat (first | with_reducible exact Below.refl _ _ | with_reducible assumption | with_reducible refine Below.al ?_ _ | with_reducible refine Below.sc ?_ (by first | exact Nat.le_refl _ | (simp; done) | (simp; omega)) _ | assumption | exact Below.refl _ _ | refine Below.dr ?_ | refine Below.drN ?_ _ | refine Below.step ?_ (by assumption)))) hb' | ((repeat (first | with_reducible exact Below.refl _ _ | with_reducible assumption | with_reducible refine Below.al ?_ _ | with_reducible refine Below.sc ?_ (by first | exact Nat.le_refl _ | (simp; done) | (simp; omega)) _ | assumption | exact Below.refl _ _ | refine Below.dr ?_ | refine Below.drN ?_ _ | refine Below.step ?_ (by assumption))); done)); have hf' := hC.cell; (try simp only [List.forall_mem_cons] at hf'); go_simp; first | exact ⟨(HC.out _ _).2 (hC.skip _ (by rfl)), rfl⟩ | (rw [if_neg]; (exact ⟨(HC.out _ _).2 (hC.skip _ (by rfl)), rfl⟩); omega) | (go_at_call 19; (with_reducible refine (EngAt.call IH.out g x0 x1 x2 x3 x4 _ (HX.out.below hw') HG.out (by omega)).mono ?_); rintro e w1 ⟨rfl, hb1⟩; exact ⟨rfl, (HC.out _ _).2 ((hC.next (by first | (simp; done) | (simp; omega) | omega) hb1).skip _ (by rfl))⟩)); go_simp) | (apply flow_yes; (case hw => go_simp); (intro L w' hun hrd hC; have hC := (HC.out _ _).1 hC; have hb' := hC.below; (try have hw' : Below w.heap.size w w' := by first | exact Below.trans (by (repeat (first | with_reducible exact Below.refl _ _ | with_reducible assumption | with_reducible refine Below.al ?_ _ | with_reducible refine Below.sc ?_ (by first | exact Nat.le_refl _ | (simp; done) | (simp; omega)) _ | assumption | exact Below.refl _ _ | refine Below.dr ?_ | refine Below.drN ?_ _ | refine Below.step ?_ (by assumption)))) hb' | ((repeat (first | with_reducible exact Below.refl _ _ | with_reducible assumption | with_reducible refine Below.al ?_ _ | with_reducible refine Below.sc ?_ (by first | exact Nat.le_refl _ | (simp; done) | (simp; omega)) _ | assumption | exact Below.refl _ _ | refine Below.dr ?_ | refine Below.drN ?_ _ | refine Below.step ?_ (by assumption))); done)); have hf' := hC.cell; (try simp only [List.forall_mem_cons] at hf'); go_simp; first | exact ⟨(HC.out _ _).2 (hC.skip _ (by rfl)), rfl⟩ | (rw [if_neg]; (exact ⟨(HC.out _ _).2 (hC.skip _ (by rfl)), rfl⟩); omega) | (go_at_call 19; (with_reducible refine (EngAt.call IH.out g x0 x1 x2 x3 x4 _ (HX.out.below hw') HG.out (by omega)).mono ?_); rintro e w1 ⟨rfl, hb1⟩; exact ⟨rfl, (HC.out _ _).2 ((hC.next (by first | (simp; done) | (simp; omega) | omega) hb1).skip _ (by rfl))⟩)); go_simp) | (apply flow_no; (case hw => (go_simp; try (intro hh; cases hh))); (intro L w' _ _ hC; exact (HC.out _ _).2 (((HC.out _ _).1 hC).skip _ (by rfl))); go_simp))
        refine flow_nil ?_
        intro L wz hL hz
        have hz := (HC.out _ _).1 hz
        have hbz := hz.below
        have hcz := hz.cell
        try simp only [List.forall_mem_cons] at hcz
        have hdz := hz.done
        try simp only [List.forall_mem_cons] at hdz
        (try have hwz : Below w.heap.size w wz := by first | exact Below.trans (by (repeat (first | with_reducible exact Below.refl _ _ | with_reducible assumption | with_reducible refine Below.al ?_ _ | with_reducible refine Below.sc ?_ (by first | exact Nat.le_refl _ | (simp; done) | (simp; omega)) _ | assumption | exact Below.refl _ _ | refine Below.dr ?_ | refine Below.drN ?_ _ | refine Below.step ?_ (by assumption)))) hbz | ((repeat (first | with_reducible exact Below.refl _ _ | with_reducible assumption | with_reducible refine Below.al ?_ _ | with_reducible refine Below.sc ?_ (by first | exact Nat.le_refl _ | (simp; done) | (simp; omega)) _ | assumption | exact Below.refl _ _ | refine Below.dr ?_ | refine Below.drN ?_ _ | refine Below.step ?_ (by assumption))); done))
        go_wp2
        go_ret
        exact ⟨ret_strs (by rw [eng_ex]; simp [sThere, sSuch]), by (repeat (first | with_reducible exact Below.refl _ _ | with_reducible assumption | with_reducible refine Below.al ?_ _ | with_reducible refine Below.sc ?_ (by first | exact Nat.le_refl _ | (simp; done) | (simp; omega)) _ | assumption | exact Below.refl _ _ | refine Below.dr ?_ | refine Below.drN ?_ _ | refine Below.step ?_ (by assumption)))⟩
end Go.Proofs.Ytdklemmincejpaa
namespace Go.Proofs.Ytdklemmincejpaa
open Go.RowKit
theorem atomOfF_form (a : Tm) : (atomOfF a).form = a.atom := by simp [atomOfF, Fm.form, Fm.forms, Fm.form1, arity, isQ, Fm.op, Fm.a, Fm.v, Fm.ps]
theorem tm0_none : tm0.none = true := rfl
theorem neg_form (g : Fm) : (opF 4 [g]).form = g.form := by simp [opF, Fm.form, Fm.forms, Fm.form1, arity, isQ, Fm.op, Fm.a, Fm.v, Fm.ps, tm0_none]
theorem or_form (g h : Fm) : (opF 6 [g, h]).form = (g.form && h.form) := by simp [opF, Fm.form, Fm.forms, Fm.form1, arity, isQ, Fm.op, Fm.a, Fm.v, Fm.ps, tm0_none]
theorem Lit3.fm_form (l : Lit3) (h : l.a.atom = true) : l.fm.form = true := by
  rw [Lit3.fm]; split
  · rw [atomOfF_form, h]
  · rw [neg_form, atomOfF_form, h]
theorem size_nil : (⟨#[]⟩ : ByteArray).size = 0 := rfl
theorem Lit3.fm_wt (l : Lit3) : l.fm.wt ≤ l.a.wt + 1 := by
  rw [Lit3.fm]; split <;> simp [opF, atomOfF, Fm.wt, Fm.wts, tm0, Tm.wt, Tm.wts, size_nil] <;> omega
theorem or_wt (g h : Fm) : (opF 6 [g, h]).wt = 2 + g.wt + h.wt := by simp [opF, Fm.wt, Fm.wts, tm0, Tm.wt, Tm.wts, size_nil]; omega
def Cls.wts : List Lit3 → Nat | [] => 0 | l :: ls => l.a.wt + Cls.wts ls
theorem Cls.wts_le (c : List Lit3) : ∀ l ∈ c, l.a.wt ≤ Cls.wts c := by
  induction c with
  | nil => simp
  | cons a c ih =>
    intro l hl
    rw [Cls.wts]
    rcases List.mem_cons.1 hl with rfl | h
    · omega
    · have := ih l h; omega
theorem Cls.wts_drop (c : List Lit3) {k : Nat} (h : k < c.length) : Cls.wts (c.drop k) = c[k].a.wt + Cls.wts (c.drop (k + 1)) := by
  rw [List.drop_eq_getElem_cons h, Cls.wts]
theorem Cls.wts_drop_le : ∀ (c : List Lit3) (k : Nat), Cls.wts (c.drop k) ≤ Cls.wts c
  | [], k => by simp
  | a :: c, 0 => by simp
  | a :: c, k + 1 => by have := Cls.wts_drop_le c k; rw [List.drop_succ_cons, Cls.wts]; omega
theorem disj_one (l : Lit3) : disj [l] = l.fm := rfl
theorem disj_cons (l a : Lit3) (c : List Lit3) : disj (l :: a :: c) = opF 6 [l.fm, disj (a :: c)] := by
  have h : ∀ (x y : Lit3) (ys : List Lit3), disj (x :: (y :: ys)) = opF 6 [x.fm, disj (y :: ys)] := by
    intro x y ys
    rw [disj_of (c := x :: (y :: ys)) (by simp), disj_of (c := y :: ys) (by simp)]
    have e1 : (x :: (y :: ys)).length - 1 = ((y :: ys).length - 1) + 1 := by simp
    simp only [e1, List.take_succ_cons, List.reverse_cons, List.getElem_cons_succ, disF_snoc]
  exact h l a c
theorem disj_drop {c : List Lit3} {k : Nat} (h : k + 1 < c.length) : disj (c.drop k) = opF 6 [(c[k]'(by omega)).fm, disj (c.drop (k + 1))] := by
  rw [List.drop_eq_getElem_cons (by omega : k < c.length), List.drop_eq_getElem_cons h, disj_cons]
theorem disj_form : ∀ (c : List Lit3), 0 < c.length → (∀ l ∈ c, l.a.atom = true) → (disj c).form = true
  | [], h, _ => absurd h (by simp)
  | [l], _, h => by rw [disj_one]; exact l.fm_form (h l (by simp))
  | l :: a :: c, _, h => by rw [disj_cons, or_form, l.fm_form (h l (by simp)), disj_form (a :: c) (by simp) (fun x hx => h x (List.mem_cons_of_mem _ hx))]; rfl
theorem disj_wt : ∀ (c : List Lit3), 0 < c.length → (disj c).wt ≤ Cls.wts c + 3 * c.length
  | [], h => absurd h (by simp)
  | [l], _ => by have := l.fm_wt; rw [disj_one, Cls.wts, Cls.wts]; simp; omega
  | l :: a :: c, _ => by
    have h1 := l.fm_wt
    have h2 := disj_wt (a :: c) (by simp)
    rw [disj_cons, or_wt, Cls.wts]; simp only [List.length_cons] at h2 ⊢; omega
theorem okF_atoms : ∀ (c : List Lit3) (p : Option Lit3), Cls.okF p c = true → ∀ l ∈ c, l.a.atom = true
  | [], _, _ => by simp
  | a :: c, p, h => by
    rw [Cls.okF, Bool.and_eq_true, Bool.and_eq_true] at h
    intro l hl
    rcases List.mem_cons.1 hl with rfl | h'
    · exact h.1.1
    · exact okF_atoms c _ h.2 l h'
theorem good_atoms {c : List Lit3} (h : Cls.good c = true) : c.length ≤ 8 ∧ ∀ l ∈ c, l.a.atom = true := by
  rw [Cls.good, Bool.and_eq_true] at h
  exact ⟨of_decide_eq_true h.1, okF_atoms c none h.2⟩
/-- 'a contradiction' -/
def sContr : List UInt8 := [97, 32, 99, 111, 110, 116, 114, 97, 100, 105, 99, 116, 105, 111, 110]
/-- The English of a clause. -/
def Cls.eng (c : List Lit3) : List UInt8 := if c.length = 0 then sContr else (disj c).eng
def Cls.engG (c : List Lit3) : List UInt8 := if Cls.good c then Cls.eng c else []
theorem disj_len {c : List Lit3} (h0 : 0 < c.length) (h8 : c.length ≤ 8) (ha : ∀ l ∈ c, l.a.atom = true) (hw : Cls.wts c ≤ 1048576) : (disj c).eng.length ≤ 40000000 := by
  have h1 := Fm.eng_wt _ (disj c) (Nat.le_refl _) (disj_form c h0 ha)
  have h2 := disj_wt c h0
  omega
theorem fm_len {l : Lit3} (ha : l.a.atom = true) (hw : l.a.wt ≤ 1048576) : l.fm.eng.length ≤ 40000000 := by
  have h1 := Fm.eng_wt _ l.fm (Nat.le_refl _) (l.fm_form ha)
  have h2 := l.fm_wt
  omega
end Go.Proofs.Ytdklemmincejpaa
namespace Go.Proofs.Ytdklemmincejpaa
open Go.RowKit
def L2CmpC (B : Nat → Prop) (m : Nat) : Prop := ∀ (a b : Tm) (v0 v1 u0 u1 : Value) (w : World), TmAt B m w a [v0, v1] → TmAt B m w b [u0, u1] →
  Calls Try.prog 32 #[.agg #[v0, v1], .agg #[u0, u1]] w fun e w' => e = .returned (.int .i64 (a.cmp b)) ∧ Below w.heap.size w w'
def L2Rel (us vs : List Tm) (w : World) (i : Value) (wr : World) : Prop := ∃ k : Nat, k ≤ us.length ∧ i = .int .i64 k ∧ Tm.cmps us vs = Tm.cmps (us.drop k) (vs.drop k) ∧ Below w.heap.size w wr
set_option maxRecDepth 100000 in
set_option maxHeartbeats 3200000 in
theorem l2Compare_any {B : Nat → Prop} : ∀ m : Nat, L2CmpC B m := by
  intro m
  induction m with
  | zero => intro a b v0 v1 u0 u1 w h; exact h.elim
  | succ m ih =>
    intro a b v0 v1 u0 u1 w ha hb
    have hsa := ha.form
    have hsb := hb.form
    obtain ⟨p, c, rfl, rfl, hna, hla⟩ := ha.form
    obtain ⟨q, d, rfl, rfl, hnb, hlb⟩ := hb.form
    have HA := Lib.hid (TmAt.sub' ha)
    have HB := Lib.hid (TmAt.sub' hb)
    have IH := Lib.hid ih
    have HCE := Lib.hid (Tm.cmp_eq a b)
    clear ha hb ih hsa hsb
    have HNA := Lib.hid hna
    have HNB := Lib.hid hnb
    unfold maxLen at hla hlb
    clear hna hnb
    go_enter Try.func32, Try.ntmps32
    go_wp2
    obtain ⟨W, hW⟩ : ∃ W : World, W = (w.alloc (.cells #[.string a.n, .slice p a.us.length c] 48)).alloc (.cells #[.string b.n, .slice q b.us.length d] 48) := ⟨_, rfl⟩
    have hsW : W.heap.size = w.heap.size + 2 := by rw [hW]; simp
    have hbW : Below w.heap.size w W := by rw [hW]; (repeat (first | with_reducible exact Below.refl _ _ | with_reducible assumption | with_reducible refine Below.al ?_ _ | with_reducible refine Below.sc ?_ (by first | exact Nat.le_refl _ | (simp; done) | (simp; omega)) _ | assumption | exact Below.refl _ _ | refine Below.dr ?_ | refine Below.drN ?_ _ | refine Below.step ?_ (by assumption)))
    have a0 : W.cell? ⟨w.heap.size, 0, none⟩ = some (.string a.n) := by rw [hW]; go_simp
    have a1 : W.cell? ⟨w.heap.size, 1, none⟩ = some (.slice p a.us.length c) := by rw [hW]; go_simp
    have b0 : W.cell? ⟨w.heap.size + 1, 0, none⟩ = some (.string b.n) := by rw [hW]; go_simp
    have b1 : W.cell? ⟨w.heap.size + 1, 1, none⟩ = some (.slice q b.us.length d) := by rw [hW]; go_simp
    rw [← hW]
    clear hW
    have zW := bsz (show w.heap.size < W.heap.size by omega)
    have zW1 := bsz (show w.heap.size + 1 < W.heap.size by omega)
    obtain ⟨C, HC0⟩ := class_of (InF W.heap.size _ [(⟨w.heap.size, 0, none⟩, .string a.n), (⟨w.heap.size, 1, none⟩, .slice p a.us.length c), (⟨w.heap.size + 1, 0, none⟩, .string b.n), (⟨w.heap.size + 1, 1, none⟩, .slice q b.us.length d)] [] [])
    have HC := Lib.hid HC0
    clear HC0
    refine wp_region_flow (C := C) (by kernel_rfl) (by kernel_rfl) (fun L hL => (HC.out _ _).2 (InF.start (by first | (intro _ hs; cases hs; done) | (simp only [List.forall_mem_cons]; go_simp)) (by first | (intro _ hs; cases hs; done) | (simp only [List.forall_mem_cons]; go_simp)) (by first | (intro _ hs; cases hs; done) | (simp only [List.forall_mem_cons]; go_simp)) (by first | (intro _ hs; cases hs; done) | (simp only [List.forall_mem_cons]; go_simp)) L hL)) ?_
    repeat (first | (apply flow_free rfl; (intro L w' hun hrd hC; have hC := (HC.out _ _).1 hC; have hb' := hC.below; (try have hw' : Below w.heap.size w w' := by first | exact Below.trans (by (repeat (first | with_reducible exact Below.refl _ _ | with_reducible assumption | with_reducible refine Below.al ?_ _ | with_reducible refine Below.sc ?_ (by first | exact Nat.le_refl _ | (simp; done) | (simp; omega)) _ | assumption | exact Below.refl _ _ | refine Below.dr ?_ | refine Below.drN ?_ _ | refine Below.step ?_ (by assumption)))) hb' | ((repeat (first | with_reducible exact Below.refl _ _ | with_reducible assumption | with_reducible refine Below.al ?_ _ | with_reducible refine Below.sc ?_ (by first | exact Nat.le_refl _ | (simp; done) | (simp; omega)) _ | assumption | exact Below.refl _ _ | refine Below.dr ?_ | refine Below.drN ?_ _ | refine Below.step ?_ (by assumption))); done)); have hf' := hC.cell; (try simp only [List.forall_mem_cons] at hf'); go_simp; first | exact ⟨(HC.out _ _).2 (hC.skip _ (by rfl)), rfl⟩ | (rw [if_neg]; (exact ⟨(HC.out _ _).2 (hC.skip _ (by rfl)), rfl⟩); omega) | (go_at_call 50; (with_reducible refine ((same_below (l2Var_any a.n _ HNA.out))).mono ?_); rintro e w1 ⟨rfl, hb1⟩; exact ⟨rfl, (HC.out _ _).2 ((hC.next (by first | (simp; done) | (simp; omega) | omega) hb1).skip _ (by rfl))⟩) | (go_at_call 50; (with_reducible refine ((same_below (l2Var_any b.n _ HNB.out))).mono ?_); rintro e w1 ⟨rfl, hb1⟩; exact ⟨rfl, (HC.out _ _).2 ((hC.next (by first | (simp; done) | (simp; omega) | omega) hb1).skip _ (by rfl))⟩)); go_simp) | (apply flow_yes; (case hw => go_simp); (intro L w' hun hrd hC; have hC := (HC.out _ _).1 hC; have hb' := hC.below; (try have hw' : Below w.heap.size w w' := by first | exact Below.trans (by (repeat (first | with_reducible exact Below.refl _ _ | with_reducible assumption | with_reducible refine Below.al ?_ _ | with_reducible refine Below.sc ?_ (by first | exact Nat.le_refl _ | (simp; done) | (simp; omega)) _ | assumption | exact Below.refl _ _ | refine Below.dr ?_ | refine Below.drN ?_ _ | refine Below.step ?_ (by assumption)))) hb' | ((repeat (first | with_reducible exact Below.refl _ _ | with_reducible assumption | with_reducible refine Below.al ?_ _ | with_reducible refine Below.sc ?_ (by first | exact Nat.le_refl _ | (simp; done) | (simp; omega)) _ | assumption | exact Below.refl _ _ | refine Below.dr ?_ | refine Below.drN ?_ _ | refine Below.step ?_ (by assumption))); done)); have hf' := hC.cell; (try simp only [List.forall_mem_cons] at hf'); go_simp; first | exact ⟨(HC.out _ _).2 (hC.skip _ (by rfl)), rfl⟩ | (rw [if_neg]; (exact ⟨(HC.out _ _).2 (hC.skip _ (by rfl)), rfl⟩); omega) | (go_at_call 50; (with_reducible refine ((same_below (l2Var_any a.n _ HNA.out))).mono ?_); rintro e w1 ⟨rfl, hb1⟩; exact ⟨rfl, (HC.out _ _).2 ((hC.next (by first | (simp; done) | (simp; omega) | omega) hb1).skip _ (by rfl))⟩) | (go_at_call 50; (with_reducible refine ((same_below (l2Var_any b.n _ HNB.out))).mono ?_); rintro e w1 ⟨rfl, hb1⟩; exact ⟨rfl, (HC.out _ _).2 ((hC.next (by first | (simp; done) | (simp; omega) | omega) hb1).skip _ (by rfl))⟩)); go_simp) | (apply flow_no; (case hw => (go_simp; try (intro hh; cases hh))); (intro L w' _ _ hC; exact (HC.out _ _).2 (((HC.out _ _).1 hC).skip _ (by rfl))); go_simp))
    refine flow_nil ?_
    intro L wz hL hz
    have hz := (HC.out _ _).1 hz
    have hbz := hz.below
    have hcz := hz.cell
    try simp only [List.forall_mem_cons] at hcz
    have hdz := hz.done
    try simp only [List.forall_mem_cons] at hdz
    (try have hwz : Below w.heap.size w wz := by first | exact Below.trans (by (repeat (first | with_reducible exact Below.refl _ _ | with_reducible assumption | with_reducible refine Below.al ?_ _ | with_reducible refine Below.sc ?_ (by first | exact Nat.le_refl _ | (simp; done) | (simp; omega)) _ | assumption | exact Below.refl _ _ | refine Below.dr ?_ | refine Below.drN ?_ _ | refine Below.step ?_ (by assumption)))) hbz | ((repeat (first | with_reducible exact Below.refl _ _ | with_reducible assumption | with_reducible refine Below.al ?_ _ | with_reducible refine Below.sc ?_ (by first | exact Nat.le_refl _ | (simp; done) | (simp; omega)) _ | assumption | exact Below.refl _ _ | refine Below.dr ?_ | refine Below.drN ?_ _ | refine Below.step ?_ (by assumption))); done))
    cases hva : varB a.n.data.toList <;> cases hvb : varB b.n.data.toList
    case true.false =>
      go_wp2
      go_ret
      exact ⟨ret_int (by rw [HCE.out, hva, hvb]; rfl), by (repeat (first | with_reducible exact Below.refl _ _ | with_reducible assumption | with_reducible refine Below.al ?_ _ | with_reducible refine Below.sc ?_ (by first | exact Nat.le_refl _ | (simp; done) | (simp; omega)) _ | assumption | exact Below.refl _ _ | refine Below.dr ?_ | refine Below.drN ?_ _ | refine Below.step ?_ (by assumption)))⟩
    case false.true =>
      go_wp2
      go_ret
      exact ⟨ret_int (by rw [HCE.out, hva, hvb]; rfl), by (repeat (first | with_reducible exact Below.refl _ _ | with_reducible assumption | with_reducible refine Below.al ?_ _ | with_reducible refine Below.sc ?_ (by first | exact Nat.le_refl _ | (simp; done) | (simp; omega)) _ | assumption | exact Below.refl _ _ | refine Below.dr ?_ | refine Below.drN ?_ _ | refine Below.step ?_ (by assumption)))⟩
    all_goals
      have HCE2 := Lib.hid (show a.cmp b = if textCmp a.n.data.toList b.n.data.toList ≠ 0 then textCmp a.n.data.toList b.n.data.toList else if a.us.length < b.us.length then -1 else if b.us.length < a.us.length then 1 else Tm.cmps a.us b.us by rw [HCE.out, hva, hvb]; rfl)
      clear hva hvb
      obtain ⟨g0, g1, k0, k1, -⟩ := hcz
      have hwq : Below w.heap.size w wz := by first | exact hwz | (repeat (first | with_reducible exact Below.refl _ _ | with_reducible assumption | with_reducible refine Below.al ?_ _ | with_reducible refine Below.sc ?_ (by first | exact Nat.le_refl _ | (simp; done) | (simp; omega)) _ | assumption | exact Below.refl _ _ | refine Below.dr ?_ | refine Below.drN ?_ _ | refine Below.step ?_ (by assumption)))
      have hqz := hbz.size
      have zq := bsz (show w.heap.size < wz.heap.size by omega)
      have zq1 := bsz (show w.heap.size + 1 < wz.heap.size by omega)
      clear a0 a1 b0 b1 hdz
      by_cases hne : a.n.toList = b.n.toList
      · have hne1 : (a.n.toList == b.n.toList) = true := by simpa using hne
        have hne2 : (a.n.toList != b.n.toList) = false := by rw [bne, hne1]; rfl
        have hl : a.n.data.toList = b.n.data.toList := by rw [← ByteArray.toList_eq, ← ByteArray.toList_eq, hne]
        have HT := Lib.hid (show a.cmp b = if a.us.length < b.us.length then -1 else if b.us.length < a.us.length then 1 else Tm.cmps a.us b.us by rw [HCE2.out, hl, textCmp_self, if_neg (by simp)])
        clear hl hne
        by_cases h1 : (a.us.length : Int) < b.us.length
        · go_wp2
          go_ret
          exact ⟨ret_int (by rw [HT.out, if_pos (by omega)]), by (repeat (first | with_reducible exact Below.refl _ _ | with_reducible assumption | with_reducible refine Below.al ?_ _ | with_reducible refine Below.sc ?_ (by first | exact Nat.le_refl _ | (simp; done) | (simp; omega)) _ | assumption | exact Below.refl _ _ | refine Below.dr ?_ | refine Below.drN ?_ _ | refine Below.step ?_ (by assumption)))⟩
        · by_cases h2 : (b.us.length : Int) < a.us.length
          · go_wp2
            go_ret
            exact ⟨ret_int (by rw [HT.out, if_neg (by omega), if_pos (by omega)]), by (repeat (first | with_reducible exact Below.refl _ _ | with_reducible assumption | with_reducible refine Below.al ?_ _ | with_reducible refine Below.sc ?_ (by first | exact Nat.le_refl _ | (simp; done) | (simp; omega)) _ | assumption | exact Below.refl _ _ | refine Below.dr ?_ | refine Below.drN ?_ _ | refine Below.step ?_ (by assumption)))⟩
          · have HT2 := Lib.hid (show a.cmp b = Tm.cmps a.us b.us by rw [HT.out, if_neg (by omega), if_neg (by omega)])
            go_wp2
            have HAZ := Lib.hid (HA.out.mono (SameOn.below hwq) (fun _ h => h) (fun x cs _ hx => TmAt.below hwq hx))
            have HBZ := Lib.hid (HB.out.mono (SameOn.below hwq) (fun _ h => h) (fun x cs _ hx => TmAt.below hwq hx))
            generalize wz = wz_old at *
            go_loopw [7] (L2Rel a.us b.us wz_old) (fun i _ => a.us.length - (intOf i).toNat)
            case atStart => exact ⟨0, Nat.zero_le _, rfl, rfl, Below.refl _ _⟩
            case round =>
              obtain ⟨k, hk, rfl, he, hb⟩ := hrel
              have HE := Lib.hid he
              have hqr := hb.size
              have e1 : wr.cell? ⟨w.heap.size, 1, none⟩ = some (.slice p a.us.length c) := (World.cell?_of_block (hb.block _ (by simp; omega))).trans g1
              have e2 : wr.cell? ⟨w.heap.size + 1, 1, none⟩ = some (.slice q b.us.length d) := (World.cell?_of_block (hb.block _ (by simp; omega))).trans k1
              have hwr : Below w.heap.size w wr := Below.trans hwq (hb.mono hwq.size)
              have zr := bsz (show w.heap.size < wr.heap.size by omega)
              have zr1 := bsz (show w.heap.size + 1 < wr.heap.size by omega)
              clear he g0 g1 k0 k1
              by_cases hlt : k < a.us.length
              · have hlt2 : k < b.us.length := by omega
                have hlt3 : (k : Int) < a.us.length := by omega
                have hlt4 : (k : Int) < b.us.length := by omega
                have hd := Tm.cmps_drop hlt hlt2
                obtain ⟨b1, o1, hq1, hB1, x0, x1, hx0, hx1, hx⟩ := (HAZ.out.mono (SameOn.below hb) (fun _ h => h) (fun x cs _ hx => TmAt.below hb hx)).at2 hlt
                obtain ⟨b2, o2, hq2, hB2, y0, y1, hy0, hy1, hy⟩ := (HBZ.out.mono (SameOn.below hb) (fun _ h => h) (fun x cs _ hx => TmAt.below hb hx)).at2 hlt2
                subst hq1 hq2
                obtain ⟨x, hxx⟩ : ∃ x, a.us[k] = x := ⟨_, rfl⟩
                obtain ⟨y, hyy⟩ : ∃ y, b.us[k] = y := ⟨_, rfl⟩
                rw [hxx, hyy] at hd
                rw [hxx] at hx
                rw [hyy] at hy
                have HX := Lib.hid hx
                have HY := Lib.hid hy
                have HD := Lib.hid hd
                clear hd hxx hyy hx hy
                obtain ⟨pa, ca, rfl, rfl, -⟩ := HX.out.form
                obtain ⟨pb, cb, rfl, rfl, -⟩ := HY.out.form
                have zb1 := bsz (World.block_lt_of_cell? _ _ hx0)
                have zb2 := bsz (World.block_lt_of_cell? _ _ hy0)
                have hbr : Below wr.heap.size wr wr := Below.refl _ _
                go_wp2
                obtain ⟨C, HC0⟩ := class_of (InF wr.heap.size _ [(⟨w.heap.size, 1, none⟩, .slice (some ⟨b1, o1, none⟩) a.us.length c), (⟨w.heap.size + 1, 1, none⟩, .slice (some ⟨b2, o2, none⟩) b.us.length d), (⟨b1, o1 + k * 2, none⟩, .string x.n), (⟨b1, o1 + k * 2 + 1, none⟩, .slice pa x.us.length ca), (⟨b2, o2 + k * 2, none⟩, .string y.n), (⟨b2, o2 + k * 2 + 1, none⟩, .slice pb y.us.length cb)] [] [])
                have HC := Lib.hid HC0
                clear HC0
                refine wp_region_flow (C := C) (by kernel_rfl) (by kernel_rfl) (fun L hL => (HC.out _ _).2 (InF.start (by first | (intro _ hs; cases hs; done) | (simp only [List.forall_mem_cons]; go_simp)) (by first | (intro _ hs; cases hs; done) | (simp only [List.forall_mem_cons]; go_simp)) (by first | (intro _ hs; cases hs; done) | (simp only [List.forall_mem_cons]; go_simp)) (by first | (intro _ hs; cases hs; done) | (simp only [List.forall_mem_cons]; go_simp)) L hL)) ?_
                repeat (first | (apply flow_free rfl; (intro L w' hun hrd hC; have hC := (HC.out _ _).1 hC; have hb' := hC.below; (try have hw' : Below w.heap.size w w' := by first | exact Below.trans (by (repeat (first | with_reducible exact Below.refl _ _ | with_reducible assumption | with_reducible refine Below.al ?_ _ | with_reducible refine Below.sc ?_ (by first | exact Nat.le_refl _ | (simp; done) | (simp; omega)) _ | assumption | exact Below.refl _ _ | refine Below.dr ?_ | refine Below.drN ?_ _ | refine Below.step ?_ (by assumption)))) hb' | ((repeat (first | with_reducible exact Below.refl _ _ | with_reducible assumption | with_reducible refine Below.al ?_ _ | with_reducible refine Below.sc ?_ (by first | exact Nat.le_refl _ | (simp; done) | (simp; omega)) _ | assumption | exact Below.refl _ _ | refine Below.dr ?_ | refine Below.drN ?_ _ | refine Below.step ?_ (by assumption))); done)); have hf' := hC.cell; (try simp only [List.forall_mem_cons] at hf'); go_simp; first | exact ⟨(HC.out _ _).2 (hC.skip _ (by rfl)), rfl⟩ | (rw [if_neg]; (exact ⟨(HC.out _ _).2 (hC.skip _ (by rfl)), rfl⟩); omega) | (go_at_call 32; refine (IH.out x y _ _ _ _ _ (TmAt.below hb' HX.out) (TmAt.below hb' HY.out)).mono ?_; rintro e w1 ⟨rfl, hb1⟩; exact ⟨rfl, (HC.out _ _).2 ((hC.next (by first | (simp; done) | (simp; omega) | omega) hb1).skip _ (by rfl))⟩)); go_simp) | (apply flow_yes; (case hw => go_simp); (intro L w' hun hrd hC; have hC := (HC.out _ _).1 hC; have hb' := hC.below; (try have hw' : Below w.heap.size w w' := by first | exact Below.trans (by (repeat (first | with_reducible exact Below.refl _ _ | with_reducible assumption | with_reducible refine Below.al ?_ _ | with_reducible refine Below.sc ?_ (by first | exact Nat.le_refl _ | (simp; done) | (simp; omega)) _ | assumption | exact Below.refl _ _ | refine Below.dr ?_ | refine Below.drN ?_ _ | refine Below.step ?_ (by assumption)))) hb' | ((repeat (first | with_reducible exact Below.refl _ _ | with_reducible assumption | with_reducible refine Below.al ?_ _ | with_reducible refine Below.sc ?_ (by first | exact Nat.le_refl _ | (simp; done) | (simp; omega)) _ | assumption | exact Below.refl _ _ | refine Below.dr ?_ | refine Below.drN ?_ _ | refine Below.step ?_ (by assumption))); done)); have hf' := hC.cell; (try simp only [List.forall_mem_cons] at hf'); go_simp; first | exact ⟨(HC.out _ _).2 (hC.skip _ (by rfl)), rfl⟩ | (rw [if_neg]; (exact ⟨(HC.out _ _).2 (hC.skip _ (by rfl)), rfl⟩); omega) | (go_at_call 32; refine (IH.out x y _ _ _ _ _ (TmAt.below hb' HX.out) (TmAt.below hb' HY.out)).mono ?_; rintro e w1 ⟨rfl, hb1⟩; exact ⟨rfl, (HC.out _ _).2 ((hC.next (by first | (simp; done) | (simp; omega) | omega) hb1).skip _ (by rfl))⟩)); go_simp) | (apply flow_no; (case hw => (go_simp; try (intro hh; cases hh))); (intro L w' _ _ hC; exact (HC.out _ _).2 (((HC.out _ _).1 hC).skip _ (by rfl))); go_simp))
                refine flow_nil ?_
                intro L wz hL hz
                have hz := (HC.out _ _).1 hz
                have hbz := hz.below
                have hcz := hz.cell
                try simp only [List.forall_mem_cons] at hcz
                have hdz := hz.done
                try simp only [List.forall_mem_cons] at hdz
                (try have hwz : Below w.heap.size w wz := by first | exact Below.trans (by (repeat (first | with_reducible exact Below.refl _ _ | with_reducible assumption | with_reducible refine Below.al ?_ _ | with_reducible refine Below.sc ?_ (by first | exact Nat.le_refl _ | (simp; done) | (simp; omega)) _ | assumption | exact Below.refl _ _ | refine Below.dr ?_ | refine Below.drN ?_ _ | refine Below.step ?_ (by assumption)))) hbz | ((repeat (first | with_reducible exact Below.refl _ _ | with_reducible assumption | with_reducible refine Below.al ?_ _ | with_reducible refine Below.sc ?_ (by first | exact Nat.le_refl _ | (simp; done) | (simp; omega)) _ | assumption | exact Below.refl _ _ | refine Below.dr ?_ | refine Below.drN ?_ _ | refine Below.step ?_ (by assumption))); done))
                have hwz2 : Below wz_old.heap.size wz_old wz := hb.trans (hbz.mono hb.size)
                cases hz : (x.cmp y == 0)
                · have hz' : (x.cmp y != 0) = true := by rw [bne, hz]; rfl
                  have hz2 : ¬ x.cmp y = 0 := by simpa using hz
                  go_wp2
                  go_ret
                  exact ⟨ret_int (by rw [HT2.out, HE.out, HD.out, if_pos hz2]), hwr.trans (hbz.mono hwr.size)⟩
                · have hz' : (x.cmp y != 0) = false := by rw [bne, hz]; rfl
                  have hz2 : x.cmp y = 0 := by simpa using hz
                  go_wp2
                  refine ⟨⟨k + 1, by omega, by go_num, by rw [HE.out, HD.out, if_neg (by simpa using hz2)], hwz2⟩, by simp [intOf]; omega⟩
              · obtain rfl : k = a.us.length := by omega
                go_wp2
                go_ret
                exact ⟨ret_int (by rw [HT2.out, HE.out, cmps_end (by omega)]), hwr⟩
      · have hne1 : (a.n.toList == b.n.toList) = false := by simpa using hne
        have hne2 : (a.n.toList != b.n.toList) = true := by rw [bne, hne1]; rfl
        have hl : a.n.data.toList ≠ b.n.data.toList := by rw [← ByteArray.toList_eq, ← ByteArray.toList_eq]; exact hne
        go_wp2_with (first | (go_at_call 53; refine (l2Text_any _ _ _).mono ?_; rintro e w' ⟨rfl, rfl⟩))
        go_ret
        exact ⟨ret_int (by rw [HCE2.out, if_pos (textCmp_ne hl)]), by (repeat (first | with_reducible exact Below.refl _ _ | with_reducible assumption | with_reducible refine Below.al ?_ _ | with_reducible refine Below.sc ?_ (by first | exact Nat.le_refl _ | (simp; done) | (simp; omega)) _ | assumption | exact Below.refl _ _ | refine Below.dr ?_ | refine Below.drN ?_ _ | refine Below.step ?_ (by assumption)))⟩
end Go.Proofs.Ytdklemmincejpaa
namespace Go.Proofs.Ytdklemmincejpaa
open Go.RowKit
set_option maxRecDepth 100000 in
set_option maxHeartbeats 1600000 in
theorem l7Literals_any {B : Nat → Prop} (m : Nat) (a b : Lit3) (v0 v1 v2 u0 u1 u2 : Value) (w : World) (ha : LitAt B m w a [v0, v1, v2]) (hb : LitAt B m w b [u0, u1, u2]) :
    Calls Try.prog 18 #[.agg #[v0, v1, v2], .agg #[u0, u1, u2]] w fun e w' => e = .returned (.int .i64 (a.cmp b)) ∧ Below w.heap.size w w' := by
  obtain ⟨p, c, rfl, rfl, rfl, hta⟩ := ha.form
  obtain ⟨q, d, rfl, rfl, rfl, htb⟩ := hb.form
  have HA := Lib.hid hta
  have HB := Lib.hid htb
  have HC := Lib.hid (show a.cmp b = if a.a.cmp b.a ≠ 0 then a.a.cmp b.a else if !a.pos && b.pos then -1 else if a.pos && !b.pos then 1 else 0 by rw [Lit3.cmp, cmp_flags]; rfl)
  clear ha hb hta htb
  go_enter Try.func18, Try.ntmps18
  go_wp2_with fail
  refine (l2Compare_any m a.a b.a _ _ _ _ _ (HA.out.below (by (repeat (first | with_reducible exact Below.refl _ _ | with_reducible assumption | with_reducible refine Below.al ?_ _ | with_reducible refine Below.sc ?_ (by first | exact Nat.le_refl _ | (simp; done) | (simp; omega)) _ | assumption | exact Below.refl _ _ | refine Below.dr ?_ | refine Below.drN ?_ _ | refine Below.step ?_ (by assumption))))) (HB.out.below (by (repeat (first | with_reducible exact Below.refl _ _ | with_reducible assumption | with_reducible refine Below.al ?_ _ | with_reducible refine Below.sc ?_ (by first | exact Nat.le_refl _ | (simp; done) | (simp; omega)) _ | assumption | exact Below.refl _ _ | refine Below.dr ?_ | refine Below.drN ?_ _ | refine Below.step ?_ (by assumption)))))).mono ?_
  rintro e w1 ⟨rfl, hb1⟩
  have ⟨cb1, fb1⟩ := bcell hb1
  have hq1 := hb1.size
  simp at hq1
  have z0 := bsz (show w.heap.size < w1.heap.size by omega)
  have z1 := bsz (show w.heap.size + 1 < w1.heap.size by omega)
  cases hz : (a.a.cmp b.a == 0)
  · have hz' : (a.a.cmp b.a != 0) = true := by rw [bne, hz]; rfl
    have hz2 : ¬ a.a.cmp b.a = 0 := by simpa using hz
    go_wp2
    go_ret
    exact ⟨ret_int (by rw [HC.out, if_pos hz2]), by (repeat (first | with_reducible exact Below.refl _ _ | with_reducible assumption | with_reducible refine Below.al ?_ _ | with_reducible refine Below.sc ?_ (by first | exact Nat.le_refl _ | (simp; done) | (simp; omega)) _ | assumption | exact Below.refl _ _ | refine Below.dr ?_ | refine Below.drN ?_ _ | refine Below.step ?_ (by assumption)))⟩
  · have hz' : (a.a.cmp b.a != 0) = false := by rw [bne, hz]; rfl
    have hz2 : a.a.cmp b.a = 0 := by simpa using hz
    have HC2 := Lib.hid (show a.cmp b = if !a.pos && b.pos then -1 else if a.pos && !b.pos then 1 else 0 by rw [HC.out, if_neg (by simpa using hz2)])
    cases hpa : a.pos <;> cases hpb : b.pos
    all_goals
      have HC3 := Lib.hid HC2.out
      rw [hpa, hpb] at HC3
      go_wp2
      go_ret
      exact ⟨ret_int (by rw [HC3.out]; rfl), by (repeat (first | with_reducible exact Below.refl _ _ | with_reducible assumption | with_reducible refine Below.al ?_ _ | with_reducible refine Below.sc ?_ (by first | exact Nat.le_refl _ | (simp; done) | (simp; omega)) _ | assumption | exact Below.refl _ _ | refine Below.dr ?_ | refine Below.drN ?_ _ | refine Below.step ?_ (by assumption)))⟩
set_option maxRecDepth 100000 in
set_option maxHeartbeats 3200000 in
theorem l7Good_any {B : Nat → Prop} (m : Nat) (c : List Lit3) (v : Value) (w : World) (h : ClsAt B m w c v) (hz : ∀ l ∈ c, l.a.sz ≤ 100000000) :
    Calls Try.prog 10 #[.agg #[v]] w fun e w' => e = .returned (.bool (Cls.good c)) ∧ Below w.heap.size w w' := by
  obtain ⟨p, d, rfl, hlen⟩ := (show ListAt B w 3 (LitAt B m w) v c from h).form
  unfold maxLen at hlen
  have H := Lib.hid (show ListAt B w 3 (LitAt B m w) (.slice p c.length d) c from h)
  have HG := Lib.hid (show Cls.good c = (decide (c.length ≤ 8) && Cls.okF none c) from rfl)
  have HZ := Lib.hid hz
  clear h hz
  by_cases h8 : (8 : Int) < c.length
  · go_enter Try.func10, Try.ntmps10
    go_wp2
    go_ret
    exact ⟨ret_bool (by rw [HG.out, decide_eq_false (by omega), Bool.false_and]), by (repeat (first | with_reducible exact Below.refl _ _ | with_reducible assumption | with_reducible refine Below.al ?_ _ | with_reducible refine Below.sc ?_ (by first | exact Nat.le_refl _ | (simp; done) | (simp; omega)) _ | assumption | exact Below.refl _ _ | refine Below.dr ?_ | refine Below.drN ?_ _ | refine Below.step ?_ (by assumption)))⟩
  have HG2 := Lib.hid (show Cls.good c = Cls.okF none c by rw [HG.out, decide_eq_true (by omega), Bool.true_and])
  go_enter Try.func10, Try.ntmps10
  go_wp2
  obtain ⟨W, hW⟩ : ∃ W : World, W = w.alloc (.cells #[.slice p c.length d] 30) := ⟨_, rfl⟩
  have hsW : W.heap.size = w.heap.size + 1 := by rw [hW]; simp
  have hbW : Below w.heap.size w W := by rw [hW]; (repeat (first | with_reducible exact Below.refl _ _ | with_reducible assumption | with_reducible refine Below.al ?_ _ | with_reducible refine Below.sc ?_ (by first | exact Nat.le_refl _ | (simp; done) | (simp; omega)) _ | assumption | exact Below.refl _ _ | refine Below.dr ?_ | refine Below.drN ?_ _ | refine Below.step ?_ (by assumption)))
  have a0 : W.cell? ⟨w.heap.size, 0, none⟩ = some (.slice p c.length d) := by rw [hW]; go_simp
  rw [← hW]
  clear hW
  have HL := Lib.hid (H.out.mono (SameOn.below hbW) (fun _ h => h) (fun x cs _ hx => LitAt.below hbW hx))
  go_loopw [3] (ClsRel c W) (fun i _ => c.length - (intOf i).toNat)
  case atStart => exact ⟨0, Nat.zero_le _, rfl, rfl, fun h => absurd h (by omega), Below.refl _ _⟩
  case round =>
    obtain ⟨k, hk, rfl, he, hpv, hb⟩ := hrel
    have HE := Lib.hid he
    have HPV := Lib.hid hpv
    have hqr := hb.size
    have zr := bsz (show w.heap.size < wr.heap.size by omega)
    have e0 : wr.cell? ⟨w.heap.size, 0, none⟩ = some (.slice p c.length d) := (World.cell?_of_block (hb.block _ (by simp; omega))).trans a0
    have hwr : Below w.heap.size w wr := hbW.trans (hb.mono hbW.size)
    clear he hpv a0
    by_cases hlt : k < c.length
    · have hD := okF_drop hlt
      have hszl := HZ.out _ (List.getElem_mem hlt)
      obtain ⟨b1, o1, hq1, hB1, x0, x1, x2, hx0, hx1, hx2, hx⟩ := (HL.out.mono (SameOn.below hb) (fun _ h => h) (fun x cs _ hx => LitAt.below hb hx)).at3 hlt
      have hprev : ∀ h : 0 < k, ∃ y0 y1 y2, wr.cell? ⟨b1, o1 + (k - 1) * 3, none⟩ = some y0 ∧ wr.cell? ⟨b1, o1 + (k - 1) * 3 + 1, none⟩ = some y1 ∧ wr.cell? ⟨b1, o1 + (k - 1) * 3 + 2, none⟩ = some y2 ∧ LitAt B m wr (c[k - 1]'(by omega)) [y0, y1, y2] := fun h => by
        obtain ⟨b2, o2, hq2, -, y0, y1, y2, hy0, hy1, hy2, hy⟩ := (HL.out.mono (SameOn.below hb) (fun _ h => h) (fun x cs _ hx => LitAt.below hb hx)).at3 (show k - 1 < c.length by omega)
        rw [hq1] at hq2
        simp only [Option.some.injEq, Addr.mk.injEq, and_true] at hq2
        obtain ⟨rfl, rfl⟩ := hq2
        exact ⟨y0, y1, y2, hy0, hy1, hy2, hy⟩
      subst hq1
      have HPR := Lib.hid hprev
      have hpp := fun h : 0 < k => prevAt_pos hlt h
      have HPP := Lib.hid hpp
      clear hprev hpp
      obtain ⟨l, hl⟩ : ∃ l, c[k] = l := ⟨_, rfl⟩
      rw [hl] at hx hD hszl
      have HX := Lib.hid hx
      have HD := Lib.hid hD
      have HLK := Lib.hid hl
      clear hx hD hl
      obtain ⟨pa, ca, rfl, rfl, rfl, ht⟩ := HX.out.form
      have HTX := Lib.hid ht
      clear ht
      have zb := bsz (World.block_lt_of_cell? _ _ hx0)
      have hkl : (k : Int) < c.length := by omega
      cases hA : l.a.atom
      · have HA := Lib.hid (show Cls.good c = false by rw [HG2.out, HE.out, HD.out, hA, Bool.false_and, Bool.false_and])
        go_wp2
        obtain ⟨C, HC0⟩ := class_of (InF wr.heap.size _ [(⟨w.heap.size, 0, none⟩, .slice (some ⟨b1, o1, none⟩) c.length d), (⟨b1, o1 + k * 3, none⟩, .bool l.pos), (⟨b1, o1 + k * 3 + 1, none⟩, .string l.a.n), (⟨b1, o1 + k * 3 + 2, none⟩, .slice pa l.a.us.length ca)] [] [])
        have HC := Lib.hid HC0
        clear HC0
        refine wp_region_flow (C := C) (by kernel_rfl) (by kernel_rfl) (fun L hL => (HC.out _ _).2 (InF.start (by first | (intro _ hs; cases hs; done) | (simp only [List.forall_mem_cons]; go_simp)) (by first | (intro _ hs; cases hs; done) | (simp only [List.forall_mem_cons]; go_simp)) (by first | (intro _ hs; cases hs; done) | (simp only [List.forall_mem_cons]; go_simp)) (by first | (intro _ hs; cases hs; done) | (simp only [List.forall_mem_cons]; go_simp)) L hL)) ?_
        repeat (first | (apply flow_free rfl; (intro L w' hun hrd hC; have hC := (HC.out _ _).1 hC; have hb' := hC.below; (try have hw' : Below w.heap.size w w' := by first | exact Below.trans (by (repeat (first | with_reducible exact Below.refl _ _ | with_reducible assumption | with_reducible refine Below.al ?_ _ | with_reducible refine Below.sc ?_ (by first | exact Nat.le_refl _ | (simp; done) | (simp; omega)) _ | assumption | exact Below.refl _ _ | refine Below.dr ?_ | refine Below.drN ?_ _ | refine Below.step ?_ (by assumption)))) hb' | ((repeat (first | with_reducible exact Below.refl _ _ | with_reducible assumption | with_reducible refine Below.al ?_ _ | with_reducible refine Below.sc ?_ (by first | exact Nat.le_refl _ | (simp; done) | (simp; omega)) _ | assumption | exact Below.refl _ _ | refine Below.dr ?_ | refine Below.drN ?_ _ | refine Below.step ?_ (by assumption))); done)); have hf' := hC.cell; (try simp only [List.forall_mem_cons] at hf'); go_simp; first | exact ⟨(HC.out _ _).2 (hC.skip _ (by rfl)), rfl⟩ | (rw [if_neg]; (exact ⟨(HC.out _ _).2 (hC.skip _ (by rfl)), rfl⟩); omega) | (go_at_call 17; refine (l2Atom_any m l.a _ _ _ (TmAt.below hb' HTX.out) hszl).mono ?_; rintro e w1 ⟨rfl, hb1⟩; exact ⟨rfl, (HC.out _ _).2 ((hC.next (by first | (simp; done) | (simp; omega) | omega) hb1).skip _ (by rfl))⟩)); go_simp) | (apply flow_yes; (case hw => go_simp); (intro L w' hun hrd hC; have hC := (HC.out _ _).1 hC; have hb' := hC.below; (try have hw' : Below w.heap.size w w' := by first | exact Below.trans (by (repeat (first | with_reducible exact Below.refl _ _ | with_reducible assumption | with_reducible refine Below.al ?_ _ | with_reducible refine Below.sc ?_ (by first | exact Nat.le_refl _ | (simp; done) | (simp; omega)) _ | assumption | exact Below.refl _ _ | refine Below.dr ?_ | refine Below.drN ?_ _ | refine Below.step ?_ (by assumption)))) hb' | ((repeat (first | with_reducible exact Below.refl _ _ | with_reducible assumption | with_reducible refine Below.al ?_ _ | with_reducible refine Below.sc ?_ (by first | exact Nat.le_refl _ | (simp; done) | (simp; omega)) _ | assumption | exact Below.refl _ _ | refine Below.dr ?_ | refine Below.drN ?_ _ | refine Below.step ?_ (by assumption))); done)); have hf' := hC.cell; (try simp only [List.forall_mem_cons] at hf'); go_simp; first | exact ⟨(HC.out _ _).2 (hC.skip _ (by rfl)), rfl⟩ | (rw [if_neg]; (exact ⟨(HC.out _ _).2 (hC.skip _ (by rfl)), rfl⟩); omega) | (go_at_call 17; refine (l2Atom_any m l.a _ _ _ (TmAt.below hb' HTX.out) hszl).mono ?_; rintro e w1 ⟨rfl, hb1⟩; exact ⟨rfl, (HC.out _ _).2 ((hC.next (by first | (simp; done) | (simp; omega) | omega) hb1).skip _ (by rfl))⟩)); go_simp) | (apply flow_no; (case hw => (go_simp; try (intro hh; cases hh))); (intro L w' _ _ hC; exact (HC.out _ _).2 (((HC.out _ _).1 hC).skip _ (by rfl))); go_simp))
        refine flow_nil ?_
        intro L wz hL hz
        have hz := (HC.out _ _).1 hz
        have hbz := hz.below
        have hcz := hz.cell
        try simp only [List.forall_mem_cons] at hcz
        have hdz := hz.done
        try simp only [List.forall_mem_cons] at hdz
        (try have hwz : Below w.heap.size w wz := by first | exact Below.trans (by (repeat (first | with_reducible exact Below.refl _ _ | with_reducible assumption | with_reducible refine Below.al ?_ _ | with_reducible refine Below.sc ?_ (by first | exact Nat.le_refl _ | (simp; done) | (simp; omega)) _ | assumption | exact Below.refl _ _ | refine Below.dr ?_ | refine Below.drN ?_ _ | refine Below.step ?_ (by assumption)))) hbz | ((repeat (first | with_reducible exact Below.refl _ _ | with_reducible assumption | with_reducible refine Below.al ?_ _ | with_reducible refine Below.sc ?_ (by first | exact Nat.le_refl _ | (simp; done) | (simp; omega)) _ | assumption | exact Below.refl _ _ | refine Below.dr ?_ | refine Below.drN ?_ _ | refine Below.step ?_ (by assumption))); done))
        go_wp2
        go_ret
        exact ⟨ret_bool HA.out.symm, hwr.trans (hbz.mono hwr.size)⟩
      · cases k with
        | zero =>
          simp only [Nat.zero_mul, Nat.add_zero] at hx0 hx1 hx2
          have HOK := Lib.hid (show Cls.okF none c = Cls.okF (prevAt c (0 + 1)) (c.drop (0 + 1)) by rw [HE.out, HD.out, hA]; simp [prevAt, ascP])
          go_wp2
          obtain ⟨C, HC0⟩ := class_of (InF wr.heap.size _ [(⟨w.heap.size, 0, none⟩, .slice (some ⟨b1, o1, none⟩) c.length d), (⟨b1, o1, none⟩, .bool l.pos), (⟨b1, o1 + 1, none⟩, .string l.a.n), (⟨b1, o1 + 2, none⟩, .slice pa l.a.us.length ca)] [] [])
          have HC := Lib.hid HC0
          clear HC0
          refine wp_region_flow (C := C) (by kernel_rfl) (by kernel_rfl) (fun L hL => (HC.out _ _).2 (InF.start (by first | (intro _ hs; cases hs; done) | (simp only [List.forall_mem_cons]; go_simp)) (by first | (intro _ hs; cases hs; done) | (simp only [List.forall_mem_cons]; go_simp)) (by first | (intro _ hs; cases hs; done) | (simp only [List.forall_mem_cons]; go_simp)) (by first | (intro _ hs; cases hs; done) | (simp only [List.forall_mem_cons]; go_simp)) L hL)) ?_
          repeat (first | (apply flow_free rfl; (intro L w' hun hrd hC; have hC := (HC.out _ _).1 hC; have hb' := hC.below; (try have hw' : Below w.heap.size w w' := by first | exact Below.trans (by (repeat (first | with_reducible exact Below.refl _ _ | with_reducible assumption | with_reducible refine Below.al ?_ _ | with_reducible refine Below.sc ?_ (by first | exact Nat.le_refl _ | (simp; done) | (simp; omega)) _ | assumption | exact Below.refl _ _ | refine Below.dr ?_ | refine Below.drN ?_ _ | refine Below.step ?_ (by assumption)))) hb' | ((repeat (first | with_reducible exact Below.refl _ _ | with_reducible assumption | with_reducible refine Below.al ?_ _ | with_reducible refine Below.sc ?_ (by first | exact Nat.le_refl _ | (simp; done) | (simp; omega)) _ | assumption | exact Below.refl _ _ | refine Below.dr ?_ | refine Below.drN ?_ _ | refine Below.step ?_ (by assumption))); done)); have hf' := hC.cell; (try simp only [List.forall_mem_cons] at hf'); go_simp; first | exact ⟨(HC.out _ _).2 (hC.skip _ (by rfl)), rfl⟩ | (rw [if_neg]; (exact ⟨(HC.out _ _).2 (hC.skip _ (by rfl)), rfl⟩); omega) | (go_at_call 17; refine (l2Atom_any m l.a _ _ _ (TmAt.below hb' HTX.out) hszl).mono ?_; rintro e w1 ⟨rfl, hb1⟩; exact ⟨rfl, (HC.out _ _).2 ((hC.next (by first | (simp; done) | (simp; omega) | omega) hb1).skip _ (by rfl))⟩)); go_simp) | (apply flow_yes; (case hw => go_simp); (intro L w' hun hrd hC; have hC := (HC.out _ _).1 hC; have hb' := hC.below; (try have hw' : Below w.heap.size w w' := by first | exact Below.trans (by (repeat (first | with_reducible exact Below.refl _ _ | with_reducible assumption | with_reducible refine Below.al ?_ _ | with_reducible refine Below.sc ?_ (by first | exact Nat.le_refl _ | (simp; done) | (simp; omega)) _ | assumption | exact Below.refl _ _ | refine Below.dr ?_ | refine Below.drN ?_ _ | refine Below.step ?_ (by assumption)))) hb' | ((repeat (first | with_reducible exact Below.refl _ _ | with_reducible assumption | with_reducible refine Below.al ?_ _ | with_reducible refine Below.sc ?_ (by first | exact Nat.le_refl _ | (simp; done) | (simp; omega)) _ | assumption | exact Below.refl _ _ | refine Below.dr ?_ | refine Below.drN ?_ _ | refine Below.step ?_ (by assumption))); done)); have hf' := hC.cell; (try simp only [List.forall_mem_cons] at hf'); go_simp; first | exact ⟨(HC.out _ _).2 (hC.skip _ (by rfl)), rfl⟩ | (rw [if_neg]; (exact ⟨(HC.out _ _).2 (hC.skip _ (by rfl)), rfl⟩); omega) | (go_at_call 17; refine (l2Atom_any m l.a _ _ _ (TmAt.below hb' HTX.out) hszl).mono ?_; rintro e w1 ⟨rfl, hb1⟩; exact ⟨rfl, (HC.out _ _).2 ((hC.next (by first | (simp; done) | (simp; omega) | omega) hb1).skip _ (by rfl))⟩)); go_simp) | (apply flow_no; (case hw => (go_simp; try (intro hh; cases hh))); (intro L w' _ _ hC; exact (HC.out _ _).2 (((HC.out _ _).1 hC).skip _ (by rfl))); go_simp))
          refine flow_nil ?_
          intro L wz hL hz
          have hz := (HC.out _ _).1 hz
          have hbz := hz.below
          have hcz := hz.cell
          try simp only [List.forall_mem_cons] at hcz
          have hdz := hz.done
          try simp only [List.forall_mem_cons] at hdz
          (try have hwz : Below w.heap.size w wz := by first | exact Below.trans (by (repeat (first | with_reducible exact Below.refl _ _ | with_reducible assumption | with_reducible refine Below.al ?_ _ | with_reducible refine Below.sc ?_ (by first | exact Nat.le_refl _ | (simp; done) | (simp; omega)) _ | assumption | exact Below.refl _ _ | refine Below.dr ?_ | refine Below.drN ?_ _ | refine Below.step ?_ (by assumption)))) hbz | ((repeat (first | with_reducible exact Below.refl _ _ | with_reducible assumption | with_reducible refine Below.al ?_ _ | with_reducible refine Below.sc ?_ (by first | exact Nat.le_refl _ | (simp; done) | (simp; omega)) _ | assumption | exact Below.refl _ _ | refine Below.dr ?_ | refine Below.drN ?_ _ | refine Below.step ?_ (by assumption))); done))
          go_wp2
          refine ⟨⟨0 + 1, by omega, by go_num, HOK.out, fun _ h2 => ?_, hb.trans (hbz.mono hb.size)⟩, by simp [intOf]; omega⟩
          rw [← hA, ← HLK.out]
        | succ j =>
          obtain ⟨y0, y1, y2, hy0, hy1, hy2, hy⟩ := HPR.out (by omega)
          have hpp := HPP.out (by omega)
          simp only [Nat.add_sub_cancel] at hy0 hy1 hy2 hy hpp
          obtain ⟨l0, hl0⟩ : ∃ l0, c[j]'(by omega) = l0 := ⟨_, rfl⟩
          rw [hl0] at hy hpp
          have HY := Lib.hid hy
          have HPP0 := Lib.hid hpp
          clear hy hpp hl0
          obtain ⟨pb, cb, rfl, rfl, rfl, ht⟩ := HY.out.form
          clear ht
          have hj1 : (0 : Int) < (j : Int) + 1 := by omega
          have hwj : IntKind.i64.wrap (j : Int) = (j : Int) := IntWalk.i64_in _ (by omega)
          have hjl : (j : Int) < c.length := by omega
          by_cases hcm : l0.cmp l < 0
          · have HOK := Lib.hid (show Cls.okF none c = Cls.okF (prevAt c (j + 1 + 1)) (c.drop (j + 1 + 1)) by rw [HE.out, HD.out, hA, HPP0.out]; simp [ascP, hcm])
            have hcm2 : ¬ 0 ≤ l0.cmp l := by omega
            go_wp2
            obtain ⟨C, HC0⟩ := class_of (InF wr.heap.size _ [(⟨w.heap.size, 0, none⟩, .slice (some ⟨b1, o1, none⟩) c.length d), (⟨b1, o1 + (j + 1) * 3, none⟩, .bool l.pos), (⟨b1, o1 + (j + 1) * 3 + 1, none⟩, .string l.a.n), (⟨b1, o1 + (j + 1) * 3 + 2, none⟩, .slice pa l.a.us.length ca), (⟨b1, o1 + j * 3, none⟩, .bool l0.pos), (⟨b1, o1 + j * 3 + 1, none⟩, .string l0.a.n), (⟨b1, o1 + j * 3 + 2, none⟩, .slice pb l0.a.us.length cb)] [] [])
            have HC := Lib.hid HC0
            clear HC0
            refine wp_region_flow (C := C) (by kernel_rfl) (by kernel_rfl) (fun L hL => (HC.out _ _).2 (InF.start (by first | (intro _ hs; cases hs; done) | (simp only [List.forall_mem_cons]; go_simp)) (by first | (intro _ hs; cases hs; done) | (simp only [List.forall_mem_cons]; go_simp)) (by first | (intro _ hs; cases hs; done) | (simp only [List.forall_mem_cons]; go_simp)) (by first | (intro _ hs; cases hs; done) | (simp only [List.forall_mem_cons]; go_simp)) L hL)) ?_
            repeat (first | (apply flow_free rfl; (intro L w' hun hrd hC; have hC := (HC.out _ _).1 hC; have hb' := hC.below; (try have hw' : Below w.heap.size w w' := by first | exact Below.trans (by (repeat (first | with_reducible exact Below.refl _ _ | with_reducible assumption | with_reducible refine Below.al ?_ _ | with_reducible refine Below.sc ?_ (by first | exact Nat.le_refl _ | (simp; done) | (simp; omega)) _ | assumption | exact Below.refl _ _ | refine Below.dr ?_ | refine Below.drN ?_ _ | refine Below.step ?_ (by assumption)))) hb' | ((repeat (first | with_reducible exact Below.refl _ _ | with_reducible assumption | with_reducible refine Below.al ?_ _ | with_reducible refine Below.sc ?_ (by first | exact Nat.le_refl _ | (simp; done) | (simp; omega)) _ | assumption | exact Below.refl _ _ | refine Below.dr ?_ | refine Below.drN ?_ _ | refine Below.step ?_ (by assumption))); done)); have hf' := hC.cell; (try simp only [List.forall_mem_cons] at hf'); go_simp; first | exact ⟨(HC.out _ _).2 (hC.skip _ (by rfl)), rfl⟩ | (rw [if_neg]; (exact ⟨(HC.out _ _).2 (hC.skip _ (by rfl)), rfl⟩); omega) | (go_at_call 17; refine (l2Atom_any m l.a _ _ _ (TmAt.below hb' HTX.out) hszl).mono ?_; rintro e w1 ⟨rfl, hb1⟩; exact ⟨rfl, (HC.out _ _).2 ((hC.next (by first | (simp; done) | (simp; omega) | omega) hb1).skip _ (by rfl))⟩) | (go_at_call 18; refine (l7Literals_any m l0 l _ _ _ _ _ _ _ (LitAt.below hb' HY.out) (LitAt.below hb' HX.out)).mono ?_; rintro e w1 ⟨rfl, hb1⟩; exact ⟨rfl, (HC.out _ _).2 ((hC.next (by first | (simp; done) | (simp; omega) | omega) hb1).skip _ (by rfl))⟩)); go_simp) | (apply flow_yes; (case hw => go_simp); (intro L w' hun hrd hC; have hC := (HC.out _ _).1 hC; have hb' := hC.below; (try have hw' : Below w.heap.size w w' := by first | exact Below.trans (by (repeat (first | with_reducible exact Below.refl _ _ | with_reducible assumption | with_reducible refine Below.al ?_ _ | with_reducible refine Below.sc ?_ (by first | exact Nat.le_refl _ | (simp; done) | (simp; omega)) _ | assumption | exact Below.refl _ _ | refine Below.dr ?_ | refine Below.drN ?_ _ | refine Below.step ?_ (by assumption)))) hb' | ((repeat (first | with_reducible exact Below.refl _ _ | with_reducible assumption | with_reducible refine Below.al ?_ _ | with_reducible refine Below.sc ?_ (by first | exact Nat.le_refl _ | (simp; done) | (simp; omega)) _ | assumption | exact Below.refl _ _ | refine Below.dr ?_ | refine Below.drN ?_ _ | refine Below.step ?_ (by assumption))); done)); have hf' := hC.cell; (try simp only [List.forall_mem_cons] at hf'); go_simp; first | exact ⟨(HC.out _ _).2 (hC.skip _ (by rfl)), rfl⟩ | (rw [if_neg]; (exact ⟨(HC.out _ _).2 (hC.skip _ (by rfl)), rfl⟩); omega) | (go_at_call 17; refine (l2Atom_any m l.a _ _ _ (TmAt.below hb' HTX.out) hszl).mono ?_; rintro e w1 ⟨rfl, hb1⟩; exact ⟨rfl, (HC.out _ _).2 ((hC.next (by first | (simp; done) | (simp; omega) | omega) hb1).skip _ (by rfl))⟩) | (go_at_call 18; refine (l7Literals_any m l0 l _ _ _ _ _ _ _ (LitAt.below hb' HY.out) (LitAt.below hb' HX.out)).mono ?_; rintro e w1 ⟨rfl, hb1⟩; exact ⟨rfl, (HC.out _ _).2 ((hC.next (by first | (simp; done) | (simp; omega) | omega) hb1).skip _ (by rfl))⟩)); go_simp) | (apply flow_no; (case hw => (go_simp; try (intro hh; cases hh))); (intro L w' _ _ hC; exact (HC.out _ _).2 (((HC.out _ _).1 hC).skip _ (by rfl))); go_simp))
            refine flow_nil ?_
            intro L wz hL hz
            have hz := (HC.out _ _).1 hz
            have hbz := hz.below
            have hcz := hz.cell
            try simp only [List.forall_mem_cons] at hcz
            have hdz := hz.done
            try simp only [List.forall_mem_cons] at hdz
            (try have hwz : Below w.heap.size w wz := by first | exact Below.trans (by (repeat (first | with_reducible exact Below.refl _ _ | with_reducible assumption | with_reducible refine Below.al ?_ _ | with_reducible refine Below.sc ?_ (by first | exact Nat.le_refl _ | (simp; done) | (simp; omega)) _ | assumption | exact Below.refl _ _ | refine Below.dr ?_ | refine Below.drN ?_ _ | refine Below.step ?_ (by assumption)))) hbz | ((repeat (first | with_reducible exact Below.refl _ _ | with_reducible assumption | with_reducible refine Below.al ?_ _ | with_reducible refine Below.sc ?_ (by first | exact Nat.le_refl _ | (simp; done) | (simp; omega)) _ | assumption | exact Below.refl _ _ | refine Below.dr ?_ | refine Below.drN ?_ _ | refine Below.step ?_ (by assumption))); done))
            go_wp2
            refine ⟨⟨j + 1 + 1, by omega, by go_num, HOK.out, fun _ h2 => ?_, hb.trans (hbz.mono hb.size)⟩, by simp [intOf]; omega⟩
            rw [← hA, ← HLK.out]
            rfl
          · have HNO := Lib.hid (show Cls.good c = false by rw [HG2.out, HE.out, HD.out, hA, HPP0.out]; simp [ascP, hcm])
            have hcm2 : 0 ≤ l0.cmp l := by omega
            go_wp2
            obtain ⟨C, HC0⟩ := class_of (InF wr.heap.size _ [(⟨w.heap.size, 0, none⟩, .slice (some ⟨b1, o1, none⟩) c.length d), (⟨b1, o1 + (j + 1) * 3, none⟩, .bool l.pos), (⟨b1, o1 + (j + 1) * 3 + 1, none⟩, .string l.a.n), (⟨b1, o1 + (j + 1) * 3 + 2, none⟩, .slice pa l.a.us.length ca), (⟨b1, o1 + j * 3, none⟩, .bool l0.pos), (⟨b1, o1 + j * 3 + 1, none⟩, .string l0.a.n), (⟨b1, o1 + j * 3 + 2, none⟩, .slice pb l0.a.us.length cb)] [] [])
            have HC := Lib.hid HC0
            clear HC0
            refine wp_region_flow (C := C) (by kernel_rfl) (by kernel_rfl) (fun L hL => (HC.out _ _).2 (InF.start (by first | (intro _ hs; cases hs; done) | (simp only [List.forall_mem_cons]; go_simp)) (by first | (intro _ hs; cases hs; done) | (simp only [List.forall_mem_cons]; go_simp)) (by first | (intro _ hs; cases hs; done) | (simp only [List.forall_mem_cons]; go_simp)) (by first | (intro _ hs; cases hs; done) | (simp only [List.forall_mem_cons]; go_simp)) L hL)) ?_
            repeat (first | (apply flow_free rfl; (intro L w' hun hrd hC; have hC := (HC.out _ _).1 hC; have hb' := hC.below; (try have hw' : Below w.heap.size w w' := by first | exact Below.trans (by (repeat (first | with_reducible exact Below.refl _ _ | with_reducible assumption | with_reducible refine Below.al ?_ _ | with_reducible refine Below.sc ?_ (by first | exact Nat.le_refl _ | (simp; done) | (simp; omega)) _ | assumption | exact Below.refl _ _ | refine Below.dr ?_ | refine Below.drN ?_ _ | refine Below.step ?_ (by assumption)))) hb' | ((repeat (first | with_reducible exact Below.refl _ _ | with_reducible assumption | with_reducible refine Below.al ?_ _ | with_reducible refine Below.sc ?_ (by first | exact Nat.le_refl _ | (simp; done) | (simp; omega)) _ | assumption | exact Below.refl _ _ | refine Below.dr ?_ | refine Below.drN ?_ _ | refine Below.step ?_ (by assumption))); done)); have hf' := hC.cell; (try simp only [List.forall_mem_cons] at hf'); go_simp; first | exact ⟨(HC.out _ _).2 (hC.skip _ (by rfl)), rfl⟩ | (rw [if_neg]; (exact ⟨(HC.out _ _).2 (hC.skip _ (by rfl)), rfl⟩); omega) | (go_at_call 17; refine (l2Atom_any m l.a _ _ _ (TmAt.below hb' HTX.out) hszl).mono ?_; rintro e w1 ⟨rfl, hb1⟩; exact ⟨rfl, (HC.out _ _).2 ((hC.next (by first | (simp; done) | (simp; omega) | omega) hb1).skip _ (by rfl))⟩) | (go_at_call 18; refine (l7Literals_any m l0 l _ _ _ _ _ _ _ (LitAt.below hb' HY.out) (LitAt.below hb' HX.out)).mono ?_; rintro e w1 ⟨rfl, hb1⟩; exact ⟨rfl, (HC.out _ _).2 ((hC.next (by first | (simp; done) | (simp; omega) | omega) hb1).skip _ (by rfl))⟩)); go_simp) | (apply flow_yes; (case hw => go_simp); (intro L w' hun hrd hC; have hC := (HC.out _ _).1 hC; have hb' := hC.below; (try have hw' : Below w.heap.size w w' := by first | exact Below.trans (by (repeat (first | with_reducible exact Below.refl _ _ | with_reducible assumption | with_reducible refine Below.al ?_ _ | with_reducible refine Below.sc ?_ (by first | exact Nat.le_refl _ | (simp; done) | (simp; omega)) _ | assumption | exact Below.refl _ _ | refine Below.dr ?_ | refine Below.drN ?_ _ | refine Below.step ?_ (by assumption)))) hb' | ((repeat (first | with_reducible exact Below.refl _ _ | with_reducible assumption | with_reducible refine Below.al ?_ _ | with_reducible refine Below.sc ?_ (by first | exact Nat.le_refl _ | (simp; done) | (simp; omega)) _ | assumption | exact Below.refl _ _ | refine Below.dr ?_ | refine Below.drN ?_ _ | refine Below.step ?_ (by assumption))); done)); have hf' := hC.cell; (try simp only [List.forall_mem_cons] at hf'); go_simp; first | exact ⟨(HC.out _ _).2 (hC.skip _ (by rfl)), rfl⟩ | (rw [if_neg]; (exact ⟨(HC.out _ _).2 (hC.skip _ (by rfl)), rfl⟩); omega) | (go_at_call 17; refine (l2Atom_any m l.a _ _ _ (TmAt.below hb' HTX.out) hszl).mono ?_; rintro e w1 ⟨rfl, hb1⟩; exact ⟨rfl, (HC.out _ _).2 ((hC.next (by first | (simp; done) | (simp; omega) | omega) hb1).skip _ (by rfl))⟩) | (go_at_call 18; refine (l7Literals_any m l0 l _ _ _ _ _ _ _ (LitAt.below hb' HY.out) (LitAt.below hb' HX.out)).mono ?_; rintro e w1 ⟨rfl, hb1⟩; exact ⟨rfl, (HC.out _ _).2 ((hC.next (by first | (simp; done) | (simp; omega) | omega) hb1).skip _ (by rfl))⟩)); go_simp) | (apply flow_no; (case hw => (go_simp; try (intro hh; cases hh))); (intro L w' _ _ hC; exact (HC.out _ _).2 (((HC.out _ _).1 hC).skip _ (by rfl))); go_simp))
            refine flow_nil ?_
            intro L wz hL hz
            have hz := (HC.out _ _).1 hz
            have hbz := hz.below
            have hcz := hz.cell
            try simp only [List.forall_mem_cons] at hcz
            have hdz := hz.done
            try simp only [List.forall_mem_cons] at hdz
            (try have hwz : Below w.heap.size w wz := by first | exact Below.trans (by (repeat (first | with_reducible exact Below.refl _ _ | with_reducible assumption | with_reducible refine Below.al ?_ _ | with_reducible refine Below.sc ?_ (by first | exact Nat.le_refl _ | (simp; done) | (simp; omega)) _ | assumption | exact Below.refl _ _ | refine Below.dr ?_ | refine Below.drN ?_ _ | refine Below.step ?_ (by assumption)))) hbz | ((repeat (first | with_reducible exact Below.refl _ _ | with_reducible assumption | with_reducible refine Below.al ?_ _ | with_reducible refine Below.sc ?_ (by first | exact Nat.le_refl _ | (simp; done) | (simp; omega)) _ | assumption | exact Below.refl _ _ | refine Below.dr ?_ | refine Below.drN ?_ _ | refine Below.step ?_ (by assumption))); done))
            go_wp2
            go_ret
            exact ⟨ret_bool HNO.out.symm, hwr.trans (hbz.mono hwr.size)⟩
    · obtain rfl : k = c.length := by omega
      go_wp2
      go_ret
      exact ⟨ret_bool (by rw [HG2.out, HE.out, List.drop_length, Cls.okF]), hwr⟩
end Go.Proofs.Ytdklemmincejpaa
