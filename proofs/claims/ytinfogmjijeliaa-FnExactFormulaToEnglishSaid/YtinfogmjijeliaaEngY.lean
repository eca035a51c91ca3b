/- The English of formulas, the reference's side. Conditions: the formula is valid; sizes. -/
import Derived.Test.YtinfogmjijeliaaEngX
namespace Go.Proofs.Ytinfogmjijeliaa
open Go.RowKit
theorem EngAt.call {P : Program} {k : FuncId} {B : Nat → Prop} {m : Nat} (ih : EngAt P k B m) (t : Fm) (v0 v1 v2 v3 v4 : Value) (w : World) (h : FmAt B m w t [v0, v1, v2, v3, v4]) (hf : t.form = true) (hz : t.eng.length ≤ 1000000000000) :
      Calls P k #[.agg #[v0, v1, v2, v3, v4]] w fun e w' => e = .returned (.string ⟨t.eng.toArray⟩) ∧ Below w.heap.size w w' := ih t v0 v1 v2 v3 v4 w h hf hz
theorem FmAt.one {B : Nat → Prop} {m : Nat} {w : World} {g : Fm} {p : Option Addr} {c : Nat} (h : ListAt B w 5 (FmAt B m w) (.slice p 1 c) [g]) :
    ∃ b o x0 x1 x2 x3 x4, p = some ⟨b, o, none⟩ ∧ w.cell? ⟨b, o, none⟩ = some x0 ∧ w.cell? ⟨b, o + 1, none⟩ = some x1 ∧ w.cell? ⟨b, o + 2, none⟩ = some x2 ∧ w.cell? ⟨b, o + 3, none⟩ = some x3 ∧ w.cell? ⟨b, o + 4, none⟩ = some x4 ∧ FmAt B m w g [x0, x1, x2, x3, x4] := by
  obtain ⟨b, o, rfl, _, x0, x1, x2, x3, x4, hx0, hx1, hx2, hx3, hx4, hx⟩ := h.at5 (i := 0) (by simp)
  exact ⟨b, o, x0, x1, x2, x3, x4, rfl, by simpa using hx0, by simpa using hx1, by simpa using hx2, by simpa using hx3, by simpa using hx4, hx⟩
theorem FmAt.two {B : Nat → Prop} {m : Nat} {w : World} {g h : Fm} {p : Option Addr} {c : Nat} (hl : ListAt B w 5 (FmAt B m w) (.slice p 2 c) [g, h]) :
    ∃ b o x0 x1 x2 x3 x4 y0 y1 y2 y3 y4, p = some ⟨b, o, none⟩ ∧ (w.cell? ⟨b, o, none⟩ = some x0 ∧ w.cell? ⟨b, o + 1, none⟩ = some x1 ∧ w.cell? ⟨b, o + 2, none⟩ = some x2 ∧ w.cell? ⟨b, o + 3, none⟩ = some x3 ∧ w.cell? ⟨b, o + 4, none⟩ = some x4) ∧
      (w.cell? ⟨b, o + 5, none⟩ = some y0 ∧ w.cell? ⟨b, o + 6, none⟩ = some y1 ∧ w.cell? ⟨b, o + 7, none⟩ = some y2 ∧ w.cell? ⟨b, o + 8, none⟩ = some y3 ∧ w.cell? ⟨b, o + 9, none⟩ = some y4) ∧ FmAt B m w g [x0, x1, x2, x3, x4] ∧ FmAt B m w h [y0, y1, y2, y3, y4] := by
  obtain ⟨b, o, rfl, _, x0, x1, x2, x3, x4, hx0, hx1, hx2, hx3, hx4, hx⟩ := hl.at5 (i := 0) (by simp)
  obtain ⟨b', o', he, _, y0, y1, y2, y3, y4, hy0, hy1, hy2, hy3, hy4, hy⟩ := hl.at5 (i := 1) (by simp)
  simp only [Option.some.injEq, Addr.mk.injEq, and_true] at he
  obtain ⟨rfl, rfl⟩ := he
  exact ⟨b, o, x0, x1, x2, x3, x4, y0, y1, y2, y3, y4, rfl, ⟨by simpa using hx0, by simpa using hx1, by simpa using hx2, by simpa using hx3, by simpa using hx4⟩, ⟨by simpa using hy0, by simpa using hy1, by simpa using hy2, by simpa using hy3, by simpa using hy4⟩, hx, hy⟩
set_option maxRecDepth 100000 in
set_option maxHeartbeats 3200000 in
theorem l26Formula_any {B : Nat → Prop} : ∀ m : Nat, EngAt Try.prog 27 B m := by
  intro m
  induction m with
  | zero => intro t v0 v1 v2 v3 v4 w h; exact h.elim
  | succ m ih =>
    intro t v0 v1 v2 v3 v4 w hfm hf hz
    have IH := Lib.hid ih
    clear ih
    cases form_cases hf with
    | tru =>
      obtain ⟨p, c, q, d, rfl, rfl, rfl, rfl, rfl, -⟩ := hfm.form
      clear hfm hf hz
      show Calls Try.prog 27 #[.agg #[.int .i64 1, .string ⟨#[]⟩, .slice p 0 c, .string ⟨#[]⟩, .slice q 0 d]] w _
      go_enter Try.func27, Try.ntmps27
      go_wp2
      go_ret
      exact ⟨ret_str (by rw [opF, Fm.eng]; rfl), by (repeat (first | with_reducible exact Below.refl _ _ | with_reducible assumption | with_reducible refine Below.al ?_ _ | with_reducible refine Below.sc ?_ (by first | exact Nat.le_refl _ | (simp; done) | (simp; omega)) _ | assumption | exact Below.refl _ _ | refine Below.dr ?_ | refine Below.drN ?_ _ | refine Below.step ?_ (by assumption)))⟩
    | fal =>
      obtain ⟨p, c, q, d, rfl, rfl, rfl, rfl, rfl, -⟩ := hfm.form
      clear hfm hf hz
      show Calls Try.prog 27 #[.agg #[.int .i64 2, .string ⟨#[]⟩, .slice p 0 c, .string ⟨#[]⟩, .slice q 0 d]] w _
      go_enter Try.func27, Try.ntmps27
      go_wp2
      go_ret
      exact ⟨ret_str (by rw [opF, Fm.eng]; rfl), by (repeat (first | with_reducible exact Below.refl _ _ | with_reducible assumption | with_reducible refine Below.al ?_ _ | with_reducible refine Below.sc ?_ (by first | exact Nat.le_refl _ | (simp; done) | (simp; omega)) _ | assumption | exact Below.refl _ _ | refine Below.dr ?_ | refine Below.drN ?_ _ | refine Below.step ?_ (by assumption)))⟩
    | atm a ha =>
      have HA := Lib.hid (show TmAt B (m + 1) w a _ from hfm.atm)
      obtain ⟨p, c, q, d, rfl, rfl, rfl, rfl, rfl, -⟩ := hfm.form
      rw [eng_atm] at hz ⊢
      have HZ := Lib.hid (And.intro ha hz)
      clear hfm hf hz
      show Calls Try.prog 27 #[.agg #[.int .i64 3, .string a.n, .slice p a.us.length c, .string ⟨#[]⟩, .slice q 0 d]] w _
      go_enter Try.func27, Try.ntmps27
      go_wp2_with fail
      refine (l26Atom_any (m + 1) a _ _ _ (HA.out.below (by (repeat (first | with_reducible exact Below.refl _ _ | with_reducible assumption | with_reducible refine Below.al ?_ _ | with_reducible refine Below.sc ?_ (by first | exact Nat.le_refl _ | (simp; done) | (simp; omega)) _ | assumption | exact Below.refl _ _ | refine Below.dr ?_ | refine Below.drN ?_ _ | refine Below.step ?_ (by assumption))))) HZ.out.1 HZ.out.2).mono ?_
      rintro e w1 ⟨rfl, hb1⟩
      have ⟨cw1, fw1⟩ := bcell hb1
      have qw1 := hb1.size
      (try simp at qw1)
      (try have zw1w := bsz (show w.heap.size < w1.heap.size by omega))
      go_wp2
      go_ret
      exact ⟨rfl, by (repeat (first | with_reducible exact Below.refl _ _ | with_reducible assumption | with_reducible refine Below.al ?_ _ | with_reducible refine Below.sc ?_ (by first | exact Nat.le_refl _ | (simp; done) | (simp; omega)) _ | assumption | exact Below.refl _ _ | refine Below.dr ?_ | refine Below.drN ?_ _ | refine Below.step ?_ (by assumption)))⟩
    | neg g hg =>
      obtain ⟨p, c, q, d, rfl, rfl, rfl, rfl, rfl, -⟩ := hfm.form
      obtain ⟨vn, va, vp, hcs, hop, hs, ht, hl⟩ := hfm
      simp only [List.cons.injEq, and_true] at hcs
      obtain ⟨-, -, -, -, rfl⟩ := hcs
      have hl' : ListAt B w 5 (FmAt B m w) (.slice q 1 d) [g] := hl
      obtain ⟨b, o, x0, x1, x2, x3, x4, rfl, hx0, hx1, hx2, hx3, hx4, hx⟩ := FmAt.one hl'
      have hz2 : g.eng.length + 24 ≤ 1000000000000 := by rw [eng_neg] at hz; simp [sNot] at hz; omega
      have HX := Lib.hid (And.intro hx hg)
      have zb := bsz (World.block_lt_of_cell? _ _ hx0)
      clear hf hz ht hl hl' hx
      show Calls Try.prog 27 #[.agg #[.int .i64 4, .string ⟨#[]⟩, .slice p 0 c, .string ⟨#[]⟩, .slice (some ⟨b, o, none⟩) 1 d]] w _
      go_enter Try.func27, Try.ntmps27
      go_wp2_with fail
      refine (IH.out g _ _ _ _ _ _ (HX.out.1.below (by (repeat (first | with_reducible exact Below.refl _ _ | with_reducible assumption | with_reducible refine Below.al ?_ _ | with_reducible refine Below.sc ?_ (by first | exact Nat.le_refl _ | (simp; done) | (simp; omega)) _ | assumption | exact Below.refl _ _ | refine Below.dr ?_ | refine Below.drN ?_ _ | refine Below.step ?_ (by assumption))))) HX.out.2 (by omega)).mono ?_
      rintro e w1 ⟨rfl, hb1⟩
      have ⟨cw1, fw1⟩ := bcell hb1
      have qw1 := hb1.size
      (try simp at qw1)
      (try have zw1w := bsz (show w.heap.size < w1.heap.size by omega))
      go_wp2
      go_ret
      exact ⟨ret_strs (by rw [eng_neg]; simp [sNot]), by (repeat (first | with_reducible exact Below.refl _ _ | with_reducible assumption | with_reducible refine Below.al ?_ _ | with_reducible refine Below.sc ?_ (by first | exact Nat.le_refl _ | (simp; done) | (simp; omega)) _ | assumption | exact Below.refl _ _ | refine Below.dr ?_ | refine Below.drN ?_ _ | refine Below.step ?_ (by assumption)))⟩
    | bin op g h ho hg hh =>
      obtain ⟨p, c, q, d, rfl, rfl, rfl, rfl, rfl, -⟩ := hfm.form
      obtain ⟨vn, va, vp, hcs, hop, hs, ht, hl⟩ := hfm
      simp only [List.cons.injEq, and_true] at hcs
      obtain ⟨-, -, -, -, rfl⟩ := hcs
      have hl' : ListAt B w 5 (FmAt B m w) (.slice q 2 d) [g, h] := hl
      obtain ⟨b, o, x0, x1, x2, x3, x4, y0, y1, y2, y3, y4, rfl, ⟨hx0, hx1, hx2, hx3, hx4⟩, ⟨hy0, hy1, hy2, hy3, hy4⟩, hx, hy⟩ := FmAt.two hl'
      have zb := bsz (World.block_lt_of_cell? _ _ hx0)
      have HG := Lib.hid (And.intro hg hh)
      have HX := Lib.hid hx
      have HY := Lib.hid hy
      clear hf ht hl hl' hg hh hx hy
      rcases ho with rfl | rfl | rfl
      · have hz2 : g.eng.length + h.eng.length + 30 ≤ 1000000000030 := by rw [eng_and] at hz; simp at hz; omega
        clear hz
        show Calls Try.prog 27 #[.agg #[.int .i64 5, .string ⟨#[]⟩, .slice p 0 c, .string ⟨#[]⟩, .slice (some ⟨b, o, none⟩) 2 d]] w _
        go_enter Try.func27, Try.ntmps27
        go_wp2
        obtain ⟨W, hW⟩ : ∃ W : World, W = w.alloc (.cells #[.int .i64 5, .string ⟨#[]⟩, .slice p 0 c, .string ⟨#[]⟩, .slice (some ⟨b, o, none⟩) 2 d] 36) := ⟨_, rfl⟩
        have hwb : W.cell? ⟨w.heap.size, 4, none⟩ = some (.slice (some ⟨b, o, none⟩) 2 d) := by rw [hW]; go_simp
        have hbW : Below w.heap.size w W := by rw [hW]; (repeat (first | with_reducible exact Below.refl _ _ | with_reducible assumption | with_reducible refine Below.al ?_ _ | with_reducible refine Below.sc ?_ (by first | exact Nat.le_refl _ | (simp; done) | (simp; omega)) _ | assumption | exact Below.refl _ _ | refine Below.dr ?_ | refine Below.drN ?_ _ | refine Below.step ?_ (by assumption)))
        rw [← hW]
        clear hW
        have ⟨cW, fW⟩ := bcell hbW
        obtain ⟨C, HC0⟩ := class_of (InF W.heap.size _ [(⟨w.heap.size, 4, none⟩, .slice (some ⟨b, o, none⟩) 2 d), (⟨b, o, none⟩, x0), (⟨b, o + 1, none⟩, x1), (⟨b, o + 2, none⟩, x2), (⟨b, o + 3, none⟩, x3), (⟨b, o + 4, none⟩, x4), (⟨b, o + 5, none⟩, y0), (⟨b, o + 6, none⟩, y1), (⟨b, o + 7, none⟩, y2), (⟨b, o + 8, none⟩, y3), (⟨b, o + 9, none⟩, y4)] [] [])
        have HC := Lib.hid HC0
        clear HC0
        refine wp_region_flow (C := C) (by kernel_rfl) (by kernel_rfl) (fun L hL => (HC.out _ _).2 (InF.start (by first | (intro _ hs; cases hs; done) | (simp only [List.forall_mem_cons]; go_simp)) (by first | (intro _ hs; cases hs; done) | (simp only [List.forall_mem_cons]; go_simp)) (by first | (intro _ hs; cases hs; done) | (simp only [List.forall_mem_cons]; go_simp)) (by first | (intro _ hs; cases hs; done) | (simp only [List.forall_mem_cons]; go_simp)) L hL)) ?_
        repeat (first | (apply flow_free rfl; (intro L w' hun hrd hC; have hC := (HC.out _ _).1 hC; have hb' := hC.below; (try have hw' : Below w.heap.size w w' := by first | exact Below.trans (by (repeat (first | with_reducible exact Below.refl _ _ | with_reducible assumption | with_reducible refine Below.al ?_ _ | with_reducible refine Below.sc ?_ (by first | exact Nat.le_refl _ | (simp; done) | (simp; omega)) _ | assumption | exact Below.refl _ _ | refine Below.dr ?_ | refine Below.drN ?_ _ | refine Below.step ?_ (by assumption)))) hb' | ((repeat (first | with_reducible exact Below.refl _ _ | with_reducible assumption | with_reducible refine Below.al ?_ _ | with_reducible refine Below.sc ?_ (by first | exact Nat.le_refl _ | (simp; done) | (simp; omega)) _ | assumption | exact Below.refl _ _ | refine Below.dr ?_ | refine Below.drN ?_ _ | refine Below.step ?_ (by assumption))); done)); have hf' := hC.cell; (try simp only [List.forall_mem_cons] at hf'); go_simp; first | exact ⟨(HC.out _ _).2 (hC.skip _ (by rfl)), rfl⟩ | (rw [if_neg]; (exact ⟨(HC.out _ _).2 (hC.skip _ (by rfl)), rfl⟩); omega) | (go_at_call 27; (with_reducible refine (EngAt.call IH.out g x0 x1 x2 x3 x4 _ (HX.out.below hw') HG.out.1 (by omega)).mono ?_); rintro e w1 ⟨rfl, hb1⟩; exact ⟨rfl, (HC.out _ _).2 ((hC.next (by first | (simp; done) | (simp; omega) | omega) hb1).skip _ (by rfl))⟩) | (go_at_call 27; (with_reducible refine (EngAt.call IH.out h y0 y1 y2 y3 y4 _ (HY.out.below hw') HG.out.2 (by omega)).mono ?_); rintro e w1 ⟨rfl, hb1⟩; exact ⟨rfl, (HC.out _ _).2 ((hC.next (by first | (simp; done) | (simp; omega) | omega) hb1).skip _ (by rfl))⟩)); go_simp) | (apply flow_yes; (case hw => go_simp); (intro L w' hun hrd hC; have hC := (HC.out _ _).1 hC; have hb' := hC.below; (try have hw' : Below w.heap.size w w' := by first | exact Below.trans (by (repeat (first | with_reducible exact Below.refl _ _ | with_reducible assumption | with_reducible refine Below.al ?_ _ | with_reducible refine Below.sc ?_ (by first | exact Nat.le_refl _ | (simp; done) | (simp; omega)) _ | assumption | exact Below.refl _ _ | refine Below.dr ?_ | refine Below.drN ?_ _ | refine Below.step ?_ (by assumption)))) hb' | ((repeat (first | with_reducible exact Below.refl _ _ | with_reducible assumption | with_reducible refine Below.al ?_ _ | with_reducible refine Below.sc ?_ (by first | exact Nat.le_refl _ | (simp; done) | (simp; omega)) _ | assumption | exact Below.refl _ _ | refine Below.dr ?_ | refine Below.drN ?_ _ | refine Below.step ?_ (by assumption))); done)); have hf' := hC.cell; (try simp only [List.forall_mem_cons] at hf'); go_simp; first | exact ⟨(HC.out _ _).2 (hC.skip _ (by rfl)), rfl⟩ | (rw [if_neg]; (exact ⟨(HC.out _ _).2 (hC.skip _ (by rfl)), rfl⟩); omega) | (go_at_call 27; (with_reducible refine (EngAt.call IH.out g x0 x1 x2 x3 x4 _ (HX.out.below hw') HG.out.1 (by omega)).mono ?_); rintro e w1 ⟨rfl, hb1⟩; exact ⟨rfl, (HC.out _ _).2 ((hC.next (by first | (simp; done) | (simp; omega) | omega) hb1).skip _ (by rfl))⟩) | (go_at_call 27; (with_reducible refine (EngAt.call IH.out h y0 y1 y2 y3 y4 _ (HY.out.below hw') HG.out.2 (by omega)).mono ?_); rintro e w1 ⟨rfl, hb1⟩; exact ⟨rfl, (HC.out _ _).2 ((hC.next (by first | (simp; done) | (simp; omega) | omega) hb1).skip _ (by rfl))⟩)); go_simp) | (apply flow_no; (case hw => go_simp); (intro L w' _ _ hC; exact (HC.out _ _).2 (((HC.out _ _).1 hC).skip _ (by rfl))); go_simp))
        refine flow_nil ?_
        intro L wz hL hz
        have hz := (HC.out _ _).1 hz
        have hbz := hz.below
        have hcz := hz.cell
        try simp only [List.forall_mem_cons] at hcz
        have hdz := hz.done
        try simp only [List.forall_mem_cons] at hdz
        (try have hwz : Below w.heap.size w wz := by first | exact Below.trans (by (repeat (first | with_reducible exact Below.refl _ _ | with_reducible assumption | with_reducible refine Below.al ?_ _ | with_reducible refine Below.sc ?_ (by first | exact Nat.le_refl _ | (simp; done) | (simp; omega)) _ | assumption | exact Below.refl _ _ | refine Below.dr ?_ | refine Below.drN ?_ _ | refine Below.step ?_ (by assumption)))) hbz | ((repeat (first | with_reducible exact Below.refl _ _ | with_reducible assumption | with_reducible refine Below.al ?_ _ | with_reducible refine Below.sc ?_ (by first | exact Nat.le_refl _ | (simp; done) | (simp; omega)) _ | assumption | exact Below.refl _ _ | refine Below.dr ?_ | refine Below.drN ?_ _ | refine Below.step ?_ (by assumption))); done))
        go_wp2
        go_ret
        exact ⟨ret_strs (by rw [eng_and]; simp [sBoth, sAnd]), by (repeat (first | with_reducible exact Below.refl _ _ | with_reducible assumption | with_reducible refine Below.al ?_ _ | with_reducible refine Below.sc ?_ (by first | exact Nat.le_refl _ | (simp; done) | (simp; omega)) _ | assumption | exact Below.refl _ _ | refine Below.dr ?_ | refine Below.drN ?_ _ | refine Below.step ?_ (by assumption)))⟩
      · have hz2 : g.eng.length + h.eng.length + 30 ≤ 1000000000030 := by rw [eng_or] at hz; simp at hz; omega
        clear hz
        show Calls Try.prog 27 #[.agg #[.int .i64 6, .string ⟨#[]⟩, .slice p 0 c, .string ⟨#[]⟩, .slice (some ⟨b, o, none⟩) 2 d]] w _
        go_enter Try.func27, Try.ntmps27
        go_wp2
        obtain ⟨W, hW⟩ : ∃ W : World, W = w.alloc (.cells #[.int .i64 6, .string ⟨#[]⟩, .slice p 0 c, .string ⟨#[]⟩, .slice (some ⟨b, o, none⟩) 2 d] 36) := ⟨_, rfl⟩
        have hwb : W.cell? ⟨w.heap.size, 4, none⟩ = some (.slice (some ⟨b, o, none⟩) 2 d) := by rw [hW]; go_simp
        have hbW : Below w.heap.size w W := by rw [hW]; (repeat (first | with_reducible exact Below.refl _ _ | with_reducible assumption | with_reducible refine Below.al ?_ _ | with_reducible refine Below.sc ?_ (by first | exact Nat.le_refl _ | (simp; done) | (simp; omega)) _ | assumption | exact Below.refl _ _ | refine Below.dr ?_ | refine Below.drN ?_ _ | refine Below.step ?_ (by assumption)))
        rw [← hW]
        clear hW
        have ⟨cW, fW⟩ := bcell hbW
        obtain ⟨C, HC0⟩ := class_of (InF W.heap.size _ [(⟨w.heap.size, 4, none⟩, .slice (some ⟨b, o, none⟩) 2 d), (⟨b, o, none⟩, x0), (⟨b, o + 1, none⟩, x1), (⟨b, o + 2, none⟩, x2), (⟨b, o + 3, none⟩, x3), (⟨b, o + 4, none⟩, x4), (⟨b, o + 5, none⟩, y0), (⟨b, o + 6, none⟩, y1), (⟨b, o + 7, none⟩, y2), (⟨b, o + 8, none⟩, y3), (⟨b, o + 9, none⟩, y4)] [] [])
        have HC := Lib.hid HC0
        clear HC0
        refine wp_region_flow (C := C) (by kernel_rfl) (by kernel_rfl) (fun L hL => (HC.out _ _).2 (InF.start (by first | (intro _ hs; cases hs; done) | (simp only [List.forall_mem_cons]; go_simp)) (by first | (intro _ hs; cases hs; done) | (simp only [List.forall_mem_cons]; go_simp)) (by first | (intro _ hs; cases hs; done) | (simp only [List.forall_mem_cons]; go_simp)) (by first | (intro _ hs; cases hs; done) | (simp only [List.forall_mem_cons]; go_simp)) L hL)) ?_
        repeat (first | (apply flow_free rfl; (intro L w' hun hrd hC; have hC := (HC.out _ _).1 hC; have hb' := hC.below; (try have hw' : Below w.heap.size w w' := by first | exact Below.trans (by (repeat (first | with_reducible exact Below.refl _ _ | with_reducible assumption | with_reducible refine Below.al ?_ _ | with_reducible refine Below.sc ?_ (by first | exact Nat.le_refl _ | (simp; done) | (simp; omega)) _ | assumption | exact Below.refl _ _ | refine Below.dr ?_ | refine Below.drN ?_ _ | refine Below.step ?_ (by assumption)))) hb' | ((repeat (first | with_reducible exact Below.refl _ _ | with_reducible assumption | with_reducible refine Below.al ?_ _ | with_reducible refine Below.sc ?_ (by first | exact Nat.le_refl _ | (simp; done) | (simp; omega)) _ | assumption | exact Below.refl _ _ | refine Below.dr ?_ | refine Below.drN ?_ _ | refine Below.step ?_ (by assumption))); done)); have hf' := hC.cell; (try simp only [List.forall_mem_cons] at hf'); go_simp; first | exact ⟨(HC.out _ _).2 (hC.skip _ (by rfl)), rfl⟩ | (rw [if_neg]; (exact ⟨(HC.out _ _).2 (hC.skip _ (by rfl)), rfl⟩); omega) | (go_at_call 27; (with_reducible refine (EngAt.call IH.out g x0 x1 x2 x3 x4 _ (HX.out.below hw') HG.out.1 (by omega)).mono ?_); rintro e w1 ⟨rfl, hb1⟩; exact ⟨rfl, (HC.out _ _).2 ((hC.next (by first | (simp; done) | (simp; omega) | omega) hb1).skip _ (by rfl))⟩) | (go_at_call 27; (with_reducible refine (EngAt.call IH.out h y0 y1 y2 y3 y4 _ (HY.out.below hw') HG.out.2 (by omega)).mono ?_); rintro e w1 ⟨rfl, hb1⟩; exact ⟨rfl, (HC.out _ _).2 ((hC.next (by first | (simp; done) | (simp; omega) | omega) hb1).skip _ (by rfl))⟩)); go_simp) | (apply flow_yes; (case hw => go_simp); (intro L w' hun hrd hC; have hC := (HC.out _ _).1 hC; have hb' := hC.below; (try have hw' : Below w.heap.size w w' := by first | exact Below.trans (by (repeat (first | with_reducible exact Below.refl _ _ | with_reducible assumption | with_reducible refine Below.al ?_ _ | with_reducible refine Below.sc ?_ (by first | exact Nat.le_refl _ | (simp; done) | (simp; omega)) _ | assumption | exact Below.refl _ _ | refine Below.dr ?_ | refine Below.drN ?_ _ | refine Below.step ?_ (by assumption)))) hb' | ((repeat (first | with_reducible exact Below.refl _ _ | with_reducible assumption | with_reducible refine Below.al ?_ _ | with_reducible refine Below.sc ?_ (by first | exact Nat.le_refl _ | (simp; done) | (simp; omega)) _ | assumption | exact Below.refl _ _ | refine Below.dr ?_ | refine Below.drN ?_ _ | refine Below.step ?_ (by assumption))); done)); have hf' := hC.cell; (try simp only [List.forall_mem_cons] at hf'); go_simp; first | exact ⟨(HC.out _ _).2 (hC.skip _ (by rfl)), rfl⟩ | (rw [if_neg]; (exact ⟨(HC.out _ _).2 (hC.skip _ (by rfl)), rfl⟩); omega) | (go_at_call 27; (with_reducible refine (EngAt.call IH.out g x0 x1 x2 x3 x4 _ (HX.out.below hw') HG.out.1 (by omega)).mono ?_); rintro e w1 ⟨rfl, hb1⟩; exact ⟨rfl, (HC.out _ _).2 ((hC.next (by first | (simp; done) | (simp; omega) | omega) hb1).skip _ (by rfl))⟩) | (go_at_call 27; (with_reducible refine (EngAt.call IH.out h y0 y1 y2 y3 y4 _ (HY.out.below hw') HG.out.2 (by omega)).mono ?_); rintro e w1 ⟨rfl, hb1⟩; exact ⟨rfl, (HC.out _ _).2 ((hC.next (by first | (simp; done) | (simp; omega) | omega) hb1).skip _ (by rfl))⟩)); go_simp) | (apply flow_no; (case hw => go_simp); (intro L w' _ _ hC; exact (HC.out _ _).2 (((HC.out _ _).1 hC).skip _ (by rfl))); go_simp))
        refine flow_nil ?_
        intro L wz hL hz
        have hz := (HC.out _ _).1 hz
        have hbz := hz.below
        have hcz := hz.cell
        try simp only [List.forall_mem_cons] at hcz
        have hdz := hz.done
        try simp only [List.forall_mem_cons] at hdz
        (try have hwz : Below w.heap.size w wz := by first | exact Below.trans (by (repeat (first | with_reducible exact Below.refl _ _ | with_reducible assumption | with_reducible refine Below.al ?_ _ | with_reducible refine Below.sc ?_ (by first | exact Nat.le_refl _ | (simp; done) | (simp; omega)) _ | assumption | exact Below.refl _ _ | refine Below.dr ?_ | refine Below.drN ?_ _ | refine Below.step ?_ (by assumption)))) hbz | ((repeat (first | with_reducible exact Below.refl _ _ | with_reducible assumption | with_reducible refine Below.al ?_ _ | with_reducible refine Below.sc ?_ (by first | exact Nat.le_refl _ | (simp; done) | (simp; omega)) _ | assumption | exact Below.refl _ _ | refine Below.dr ?_ | refine Below.drN ?_ _ | refine Below.step ?_ (by assumption))); done))
        go_wp2
        go_ret
        exact ⟨ret_strs (by rw [eng_or]; simp [sEither, sOr]), by (repeat (first | with_reducible exact Below.refl _ _ | with_reducible assumption | with_reducible refine Below.al ?_ _ | with_reducible refine Below.sc ?_ (by first | exact Nat.le_refl _ | (simp; done) | (simp; omega)) _ | assumption | exact Below.refl _ _ | refine Below.dr ?_ | refine Below.drN ?_ _ | refine Below.step ?_ (by assumption)))⟩
      · have hz2 : g.eng.length + h.eng.length + 30 ≤ 1000000000030 := by rw [eng_imp] at hz; simp at hz; omega
        clear hz
        show Calls Try.prog 27 #[.agg #[.int .i64 7, .string ⟨#[]⟩, .slice p 0 c, .string ⟨#[]⟩, .slice (some ⟨b, o, none⟩) 2 d]] w _
        go_enter Try.func27, Try.ntmps27
        go_wp2
        obtain ⟨W, hW⟩ : ∃ W : World, W = w.alloc (.cells #[.int .i64 7, .string ⟨#[]⟩, .slice p 0 c, .string ⟨#[]⟩, .slice (some ⟨b, o, none⟩) 2 d] 36) := ⟨_, rfl⟩
        have hwb : W.cell? ⟨w.heap.size, 4, none⟩ = some (.slice (some ⟨b, o, none⟩) 2 d) := by rw [hW]; go_simp
        have hbW : Below w.heap.size w W := by rw [hW]; (repeat (first | with_reducible exact Below.refl _ _ | with_reducible assumption | with_reducible refine Below.al ?_ _ | with_reducible refine Below.sc ?_ (by first | exact Nat.le_refl _ | (simp; done) | (simp; omega)) _ | assumption | exact Below.refl _ _ | refine Below.dr ?_ | refine Below.drN ?_ _ | refine Below.step ?_ (by assumption)))
        rw [← hW]
        clear hW
        have ⟨cW, fW⟩ := bcell hbW
        obtain ⟨C, HC0⟩ := class_of (InF W.heap.size _ [(⟨w.heap.size, 4, none⟩, .slice (some ⟨b, o, none⟩) 2 d), (⟨b, o, none⟩, x0), (⟨b, o + 1, none⟩, x1), (⟨b, o + 2, none⟩, x2), (⟨b, o + 3, none⟩, x3), (⟨b, o + 4, none⟩, x4), (⟨b, o + 5, none⟩, y0), (⟨b, o + 6, none⟩, y1), (⟨b, o + 7, none⟩, y2), (⟨b, o + 8, none⟩, y3), (⟨b, o + 9, none⟩, y4)] [] [])
        have HC := Lib.hid HC0
        clear HC0
        refine wp_region_flow (C := C) (by kernel_rfl) (by kernel_rfl) (fun L hL => (HC.out _ _).2 (InF.start (by first | (intro _ hs; cases hs; done) | (simp only [List.forall_mem_cons]; go_simp)) (by first | (intro _ hs; cases hs; done) | (simp only [List.forall_mem_cons]; go_simp)) (by first | (intro _ hs; cases hs; done) | (simp only [List.forall_mem_cons]; go_simp)) (by first | (intro _ hs; cases hs; done) | (simp only [List.forall_mem_cons]; go_simp)) L hL)) ?_
        repeat (first | (apply flow_free rfl; (intro L w' hun hrd hC; have hC := (HC.out _ _).1 hC; have hb' := hC.below; (try have hw' : Below w.heap.size w w' := by first | exact Below.trans (by (repeat (first | with_reducible exact Below.refl _ _ | with_reducible assumption | with_reducible refine Below.al ?_ _ | with_reducible refine Below.sc ?_ (by first | exact Nat.le_refl _ | (simp; done) | (simp; omega)) _ | assumption | exact Below.refl _ _ | refine Below.dr ?_ | refine Below.drN ?_ _ | refine Below.step ?_ (by assumption)))) hb' | ((repeat (first | with_reducible exact Below.refl _ _ | with_reducible assumption | with_reducible refine Below.al ?_ _ | with_reducible refine Below.sc ?_ (by first | exact Nat.le_refl _ | (simp; done) | (simp; omega)) _ | assumption | exact Below.refl _ _ | refine Below.dr ?_ | refine Below.drN ?_ _ | refine Below.step ?_ (by assumption))); done)); have hf' := hC.cell; (try simp only [List.forall_mem_cons] at hf'); go_simp; first | exact ⟨(HC.out _ _).2 (hC.skip _ (by rfl)), rfl⟩ | (rw [if_neg]; (exact ⟨(HC.out _ _).2 (hC.skip _ (by rfl)), rfl⟩); omega) | (go_at_call 27; (with_reducible refine (EngAt.call IH.out g x0 x1 x2 x3 x4 _ (HX.out.below hw') HG.out.1 (by omega)).mono ?_); rintro e w1 ⟨rfl, hb1⟩; exact ⟨rfl, (HC.out _ _).2 ((hC.next (by first | (simp; done) | (simp; omega) | omega) hb1).skip _ (by rfl))⟩) | (go_at_call 27; (with_reducible refine (EngAt.call IH.out h y0 y1 y2 y3 y4 _ (HY.out.below hw') HG.out.2 (by omega)).mono ?_); rintro e w1 ⟨rfl, hb1⟩; exact ⟨rfl, (HC.out _ _).2 ((hC.next (by first | (simp; done) | (simp; omega) | omega) hb1).skip _ (by rfl))⟩)); go_simp) | (apply flow_yes; (case hw => go_simp); (intro L w' hun hrd hC; have hC := (HC.out _ _).1 hC; have hb' := hC.below; (try have hw' : Below w.heap.size w w' := by first | exact Below.trans (by (repeat (first | with_reducible exact Below.refl _ _ | with_reducible assumption | with_reducible refine Below.al ?_ _ | with_reducible refine Below.sc ?_ (by first | exact Nat.le_refl _ | (simp; done) | (simp; omega)) _ | assumption | exact Below.refl _ _ | refine Below.dr ?_ | refine Below.drN ?_ _ | refine Below.step ?_ (by assumption)))) hb' | ((repeat (first | with_reducible exact Below.refl _ _ | with_reducible assumption | with_reducible refine Below.al ?_ _ | with_reducible refine Below.sc ?_ (by first | exact Nat.le_refl _ | (simp; done) | (simp; omega)) _ | assumption | exact Below.refl _ _ | refine Below.dr ?_ | refine Below.drN ?_ _ | refine Below.step ?_ (by assumption))); done)); have hf' := hC.cell; (try simp only [List.forall_mem_cons] at hf'); go_simp; first | exact ⟨(HC.out _ _).2 (hC.skip _ (by rfl)), rfl⟩ | (rw [if_neg]; (exact ⟨(HC.out _ _).2 (hC.skip _ (by rfl)), rfl⟩); omega) | (go_at_call 27; (with_reducible refine (EngAt.call IH.out g x0 x1 x2 x3 x4 _ (HX.out.below hw') HG.out.1 (by omega)).mono ?_); rintro e w1 ⟨rfl, hb1⟩; exact ⟨rfl, (HC.out _ _).2 ((hC.next (by first | (simp; done) | (simp; omega) | omega) hb1).skip _ (by rfl))⟩) | (go_at_call 27; (with_reducible refine (EngAt.call IH.out h y0 y1 y2 y3 y4 _ (HY.out.below hw') HG.out.2 (by omega)).mono ?_); rintro e w1 ⟨rfl, hb1⟩; exact ⟨rfl, (HC.out _ _).2 ((hC.next (by first | (simp; done) | (simp; omega) | omega) hb1).skip _ (by rfl))⟩)); go_simp) | (apply flow_no; (case hw => go_simp); (intro L w' _ _ hC; exact (HC.out _ _).2 (((HC.out _ _).1 hC).skip _ (by rfl))); go_simp))
        refine flow_nil ?_
        intro L wz hL hz
        have hz := (HC.out _ _).1 hz
        have hbz := hz.below
        have hcz := hz.cell
        try simp only [List.forall_mem_cons] at hcz
        have hdz := hz.done
        try simp only [List.forall_mem_cons] at hdz
        (try have hwz : Below w.heap.size w wz := by first | exact Below.trans (by (repeat (first | with_reducible exact Below.refl _ _ | with_reducible assumption | with_reducible refine Below.al ?_ _ | with_reducible refine Below.sc ?_ (by first | exact Nat.le_refl _ | (simp; done) | (simp; omega)) _ | assumption | exact Below.refl _ _ | refine Below.dr ?_ | refine Below.drN ?_ _ | refine Below.step ?_ (by assumption)))) hbz | ((repeat (first | with_reducible exact Below.refl _ _ | with_reducible assumption | with_reducible refine Below.al ?_ _ | with_reducible refine Below.sc ?_ (by first | exact Nat.le_refl _ | (simp; done) | (simp; omega)) _ | assumption | exact Below.refl _ _ | refine Below.dr ?_ | refine Below.drN ?_ _ | refine Below.step ?_ (by assumption))); done))
        go_wp2
        go_ret
        exact ⟨ret_strs (by rw [eng_imp]; simp [sIf, sThen]), by (repeat (first | with_reducible exact Below.refl _ _ | with_reducible assumption | with_reducible refine Below.al ?_ _ | with_reducible refine Below.sc ?_ (by first | exact Nat.le_refl _ | (simp; done) | (simp; omega)) _ | assumption | exact Below.refl _ _ | refine Below.dr ?_ | refine Below.drN ?_ _ | refine Below.step ?_ (by assumption)))⟩
    | qua op v g ho hv hg =>
      obtain ⟨p, c, q, d, rfl, rfl, rfl, rfl, rfl, -⟩ := hfm.form
      obtain ⟨vn, va, vp, hcs, hop, hs, ht, hl⟩ := hfm
      simp only [List.cons.injEq, and_true] at hcs
      obtain ⟨-, -, -, -, rfl⟩ := hcs
      have hl' : ListAt B w 5 (FmAt B m w) (.slice q 1 d) [g] := hl
      obtain ⟨b, o, x0, x1, x2, x3, x4, rfl, hx0, hx1, hx2, hx3, hx4, hx⟩ := FmAt.one hl'
      have zb := bsz (World.block_lt_of_cell? _ _ hx0)
      have HG := Lib.hid hg
      have HX := Lib.hid hx
      clear hf ht hl hl' hg hx
      rcases ho with rfl | rfl
      · have hz2 : g.eng.length + v.length + 30 ≤ 1000000000030 := by rw [eng_all] at hz; simp at hz; omega
        clear hz
        show Calls Try.prog 27 #[.agg #[.int .i64 8, .string ⟨#[]⟩, .slice p 0 c, .string ⟨v.toArray⟩, .slice (some ⟨b, o, none⟩) 1 d]] w _
        go_enter Try.func27, Try.ntmps27
        go_wp2
        obtain ⟨W, hW⟩ : ∃ W : World, W = w.alloc (.cells #[.int .i64 8, .string ⟨#[]⟩, .slice p 0 c, .string ⟨v.toArray⟩, .slice (some ⟨b, o, none⟩) 1 d] 36) := ⟨_, rfl⟩
        have hwb : W.cell? ⟨w.heap.size, 3, none⟩ = some (.string ⟨v.toArray⟩) := by rw [hW]; go_simp
        have hwc : W.cell? ⟨w.heap.size, 4, none⟩ = some (.slice (some ⟨b, o, none⟩) 1 d) := by rw [hW]; go_simp
        have hbW : Below w.heap.size w W := by rw [hW]; (repeat (first | with_reducible exact Below.refl _ _ | with_reducible assumption | with_reducible refine Below.al ?_ _ | with_reducible refine Below.sc ?_ (by first | exact Nat.le_refl _ | (simp; done) | (simp; omega)) _ | assumption | exact Below.refl _ _ | refine Below.dr ?_ | refine Below.drN ?_ _ | refine Below.step ?_ (by assumption)))
        rw [← hW]
        clear hW
        have zW := bsz (World.block_lt_of_cell? _ _ hwb)
        have ⟨cW, fW⟩ := bcell hbW
        obtain ⟨C, HC0⟩ := class_of (InF W.heap.size _ [(⟨w.heap.size, 3, none⟩, .string ⟨v.toArray⟩), (⟨w.heap.size, 4, none⟩, .slice (some ⟨b, o, none⟩) 1 d), (⟨b, o, none⟩, x0), (⟨b, o + 1, none⟩, x1), (⟨b, o + 2, none⟩, x2), (⟨b, o + 3, none⟩, x3), (⟨b, o + 4, none⟩, x4)] [] [])
        have HC := Lib.hid HC0
        clear HC0
        refine wp_region_flow (C := C) (by kernel_rfl) (by kernel_rfl) (fun L hL => (HC.out _ _).2 (InF.start (by first | (intro _ hs; cases hs; done) | (simp only [List.forall_mem_cons]; go_simp)) (by first | (intro _ hs; cases hs; done) | (simp only [List.forall_mem_cons]; go_simp)) (by first | (intro _ hs; cases hs; done) | (simp only [List.forall_mem_cons]; go_simp)) (by first | (intro _ hs; cases hs; done) | (simp only [List.forall_mem_cons]; go_simp)) L hL)) ?_
        repeat (first | (apply flow_free rfl; (intro L w' hun hrd hC; have hC := (HC.out _ _).1 hC; have hb' := hC.below; (try have hw' : Below w.heap.size w w' := by first | exact Below.trans (by (repeat (first | with_reducible exact Below.refl _ _ | with_reducible assumption | with_reducible refine Below.al ?_ _ | with_reducible refine Below.sc ?_ (by first | exact Nat.le_refl _ | (simp; done) | (simp; omega)) _ | assumption | exact Below.refl _ _ | refine Below.dr ?_ | refine Below.drN ?_ _ | refine Below.step ?_ (by assumption)))) hb' | ((repeat (first | with_reducible exact Below.refl _ _ | with_reducible assumption | with_reducible refine Below.al ?_ _ | with_reducible refine Below.sc ?_ (by first | exact Nat.le_refl _ | (simp; done) | (simp; omega)) _ | assumption | exact Below.refl _ _ | refine Below.dr ?_ | refine Below.drN ?_ _ | refine Below.step ?_ (by assumption))); done)); have hf' := hC.cell; (try simp only [List.forall_mem_cons] at hf'); go_simp; first | exact ⟨(HC.out _ _).2 (hC.skip _ (by rfl)), rfl⟩ | (rw [if_neg]; (exact ⟨(HC.out _ _).2 (hC.skip _ (by rfl)), rfl⟩); omega) | (go_at_call 27; (with_reducible refine (EngAt.call IH.out g x0 x1 x2 x3 x4 _ (HX.out.below hw') HG.out (by omega)).mono ?_); rintro e w1 ⟨rfl, hb1⟩; exact ⟨rfl, (HC.out _ _).2 ((hC.next (by first | (simp; done) | (simp; omega) | omega) hb1).skip _ (by rfl))⟩)); go_simp) | (apply flow_yes; (case hw => go_simp); (intro L w' hun hrd hC; have hC := (HC.out _ _).1 hC; have hb' := hC.below; (try have hw' : Below w.heap.size w w' := by first | exact Below.trans (by (repeat (first | with_reducible exact Below.refl _ _ | with_reducible assumption | with_reducible refine Below.al ?_ _ | with_reducible refine Below.sc ?_ (by first | exact Nat.le_refl _ | (simp; done) | (simp; omega)) _ | assumption | exact Below.refl _ _ | refine Below.dr ?_ | refine Below.drN ?_ _ | refine Below.step ?_ (by assumption)))) hb' | ((repeat (first | with_reducible exact Below.refl _ _ | with_reducible assumption | with_reducible refine Below.al ?_ _ | with_reducible refine Below.sc ?_ (by first | exact Nat.le_refl _ | (simp; done) | (simp; omega)) _ | assumption | exact Below.refl _ _ | refine Below.dr ?_ | refine Below.drN ?_ _ | refine Below.step ?_ (by assumption))); done)); have hf' := hC.cell; (try simp only [List.forall_mem_cons] at hf'); go_simp; first | exact ⟨(HC.out _ _).2 (hC.skip _ (by rfl)), rfl⟩ | (rw [if_neg]; (exact ⟨(HC.out _ _).2 (hC.skip _ (by rfl)), rfl⟩); omega) | (go_at_call 27; (with_reducible refine (EngAt.call IH.out g x0 x1 x2 x3 x4 _ (HX.out.below hw') HG.out (by omega)).mono ?_); rintro e w1 ⟨rfl, hb1⟩; exact ⟨rfl, (HC.out _ _).2 ((hC.next (by first | (simp; done) | (simp; omega) | omega) hb1).skip _ (by rfl))⟩)); go_simp) | (apply flow_no; (case hw => go_simp); (intro L w' _ _ hC; exact (HC.out _ _).2 (((HC.out _ _).1 hC).skip _ (by rfl))); go_simp))
        refine flow_nil ?_
        intro L wz hL hz
        have hz := (HC.out _ _).1 hz
        have hbz := hz.below
        have hcz := hz.cell
        try simp only [List.forall_mem_cons] at hcz
        have hdz := hz.done
        try simp only [List.forall_mem_cons] at hdz
        (try have hwz : Below w.heap.size w wz := by first | exact Below.trans (by (repeat (first | with_reducible exact Below.refl _ _ | with_reducible assumption | with_reducible refine Below.al ?_ _ | with_reducible refine Below.sc ?_ (by first | exact Nat.le_refl _ | (simp; done) | (simp; omega)) _ | assumption | exact Below.refl _ _ | refine Below.dr ?_ | refine Below.drN ?_ _ | refine Below.step ?_ (by assumption)))) hbz | ((repeat (first | with_reducible exact Below.refl _ _ | with_reducible assumption | with_reducible refine Below.al ?_ _ | with_reducible refine Below.sc ?_ (by first | exact Nat.le_refl _ | (simp; done) | (simp; omega)) _ | assumption | exact Below.refl _ _ | refine Below.dr ?_ | refine Below.drN ?_ _ | refine Below.step ?_ (by assumption))); done))
        go_wp2
        go_ret
        exact ⟨ret_strs (by rw [eng_all]; simp [sEvery, sComma]), by (repeat (first | with_reducible exact Below.refl _ _ | with_reducible assumption | with_reducible refine Below.al ?_ _ | with_reducible refine Below.sc ?_ (by first | exact Nat.le_refl _ | (simp; done) | (simp; omega)) _ | assumption | exact Below.refl _ _ | refine Below.dr ?_ | refine Below.drN ?_ _ | refine Below.step ?_ (by assumption)))⟩
      · have hz2 : g.eng.length + v.length + 30 ≤ 1000000000030 := by rw [eng_ex] at hz; simp at hz; omega
        clear hz
        show Calls Try.prog 27 #[.agg #[.int .i64 9, .string ⟨#[]⟩, .slice p 0 c, .string ⟨v.toArray⟩, .slice (some ⟨b, o, none⟩) 1 d]] w _
        go_enter Try.func27, Try.ntmps27
        go_wp2
        obtain ⟨W, hW⟩ : ∃ W : World, W = w.alloc (.cells #[.int .i64 9, .string ⟨#[]⟩, .slice p 0 c, .string ⟨v.toArray⟩, .slice (some ⟨b, o, none⟩) 1 d] 36) := ⟨_, rfl⟩
        have hwb : W.cell? ⟨w.heap.size, 3, none⟩ = some (.string ⟨v.toArray⟩) := by rw [hW]; go_simp
        have hwc : W.cell? ⟨w.heap.size, 4, none⟩ = some (.slice (some ⟨b, o, none⟩) 1 d) := by rw [hW]; go_simp
        have hbW : Below w.heap.size w W := by rw [hW]; (repeat (first | with_reducible exact Below.refl _ _ | with_reducible assumption | with_reducible refine Below.al ?_ _ | with_reducible refine Below.sc ?_ (by first | exact Nat.le_refl _ | (simp; done) | (simp; omega)) _ | assumption | exact Below.refl _ _ | refine Below.dr ?_ | refine Below.drN ?_ _ | refine Below.step ?_ (by assumption)))
        rw [← hW]
        clear hW
        have zW := bsz (World.block_lt_of_cell? _ _ hwb)
        have ⟨cW, fW⟩ := bcell hbW
        obtain ⟨C, HC0⟩ := class_of (InF W.heap.size _ [(⟨w.heap.size, 3, none⟩, .string ⟨v.toArray⟩), (⟨w.heap.size, 4, none⟩, .slice (some ⟨b, o, none⟩) 1 d), (⟨b, o, none⟩, x0), (⟨b, o + 1, none⟩, x1), (⟨b, o + 2, none⟩, x2), (⟨b, o + 3, none⟩, x3), (⟨b, o + 4, none⟩, x4)] [] [])
        have HC := Lib.hid HC0
        clear HC0
        refine wp_region_flow (C := C) (by kernel_rfl) (by kernel_rfl) (fun L hL => (HC.out _ _).2 (InF.start (by first | (intro _ hs; cases hs; done) | (simp only [List.forall_mem_cons]; go_simp)) (by first | (intro _ hs; cases hs; done) | (simp only [List.forall_mem_cons]; go_simp)) (by first | (intro _ hs; cases hs; done) | (simp only [List.forall_mem_cons]; go_simp)) (by first | (intro _ hs; cases hs; done) | (simp only [List.forall_mem_cons]; go_simp)) L hL)) ?_
        repeat (first | (apply flow_free rfl; (intro L w' hun hrd hC; have hC := (HC.out _ _).1 hC; have hb' := hC.below; (try have hw' : Below w.heap.size w w' := by first | exact Below.trans (by (repeat (first | with_reducible exact Below.refl _ _ | with_reducible assumption | with_reducible refine Below.al ?_ _ | with_reducible refine Below.sc ?_ (by first | exact Nat.le_refl _ | (simp; done) | (simp; omega)) _ | assumption | exact Below.refl _ _ | refine Below.dr ?_ | refine Below.drN ?_ _ | refine Below.step ?_ (by assumption)))) hb' | ((repeat (first | with_reducible exact Below.refl _ _ | with_reducible assumption | with_reducible refine Below.al ?_ _ | with_reducible refine Below.sc ?_ (by first | exact Nat.le_refl _ | (simp; done) | (simp; omega)) _ | assumption | exact Below.refl _ _ | refine Below.dr ?_ | refine Below.drN ?_ _ | refine Below.step ?_ (by assumption))); done)); have hf' := hC.cell; (try simp only [List.forall_mem_cons] at hf'); go_simp; first | exact ⟨(HC.out _ _).2 (hC.skip _ (by rfl)), rfl⟩ | (rw [if_neg]; (exact ⟨(HC.out _ _).2 (hC.skip _ (by rfl)), rfl⟩); omega) | (go_at_call 27; (with_reducible refine (EngAt.call IH.out g x0 x1 x2 x3 x4 _ (HX.out.below hw') HG.out (by omega)).mono ?_); rintro e w1 ⟨rfl, hb1⟩; exact ⟨rfl, (HC.out _ _).2 ((hC.next (by first | (simp; done) | (simp; omega) | omega) hb1).skip _ (by rfl))⟩)); go_simp) | (apply flow_yes; (case hw => go_simp); (intro L w' hun hrd hC; have hC := (HC.out _ _).1 hC; have hb' := hC.below; (try have hw' : Below w.heap.size w w' := by first | exact Below.trans (by (repeat (first | with_reducible exact Below.refl _ _ | with_reducible assumption | with_reducible refine Below.al ?_ _ | with_reducible refine Below.sc ?_ (by first | exact Nat.le_refl _ | (simp; done) | (simp; omega)) _ | assumption | exact Below.refl _ _ | refine Below.dr ?_ | refine Below.drN ?_ _ | refine Below.step ?_ (by assumption)))) hb' | ((repeat (first | with_reducible exact Below.refl _ _ | with_reducible assumption | with_reducible refine Below.al ?_ _ | with_reducible refine Below.sc ?_ (by first | exact Nat.le_refl _ | (simp; done) | (simp; omega)) _ | assumption | exact Below.refl _ _ | refine Below.dr ?_ | refine Below.drN ?_ _ | refine Below.step ?_ (by assumption))); done)); have hf' := hC.cell; (try simp only [List.forall_mem_cons] at hf'); go_simp; first | exact ⟨(HC.out _ _).2 (hC.skip _ (by rfl)), rfl⟩ | (rw [if_neg]; (exact ⟨(HC.out _ _).2 (hC.skip _ (by rfl)), rfl⟩); omega) | (go_at_call 27; (with_reducible refine (EngAt.call IH.out g x0 x1 x2 x3 x4 _ (HX.out.below hw') HG.out (by omega)).mono ?_); rintro e w1 ⟨rfl, hb1⟩; exact ⟨rfl, (HC.out _ _).2 ((hC.next (by first | (simp; done) | (simp; omega) | omega) hb1).skip _ (by rfl))⟩)); go_simp) | (apply flow_no; (case hw => go_simp); (intro L w' _ _ hC; exact (HC.out _ _).2 (((HC.out _ _).1 hC).skip _ (by rfl))); go_simp))
        refine flow_nil ?_
        intro L wz hL hz
        have hz := (HC.out _ _).1 hz
        have hbz := hz.below
        have hcz := hz.cell
        try simp only [List.forall_mem_cons] at hcz
        have hdz := hz.done
        try simp only [List.forall_mem_cons] at hdz
        (try have hwz : Below w.heap.size w wz := by first | exact Below.trans (by (repeat (first | with_reducible exact Below.refl _ _ | with_reducible assumption | with_reducible refine Below.al ?_ _ | with_reducible refine Below.sc ?_ (by first | exact Nat.le_refl _ | (simp; done) | (simp; omega)) _ | assumption | exact Below.refl _ _ | refine Below.dr ?_ | refine Below.drN ?_ _ | refine Below.step ?_ (by assumption)))) hbz | ((repeat (first | with_reducible exact Below.refl _ _ | with_reducible assumption | with_reducible refine Below.al ?_ _ | with_reducible refine Below.sc ?_ (by first | exact Nat.le_refl _ | (simp; done) | (simp; omega)) _ | assumption | exact Below.refl _ _ | refine Below.dr ?_ | refine Below.drN ?_ _ | refine Below.step ?_ (by assumption))); done))
        go_wp2
        go_ret
        exact ⟨ret_strs (by rw [eng_ex]; simp [sThere, sSuch]), by (repeat (first | with_reducible exact Below.refl _ _ | with_reducible assumption | with_reducible refine Below.al ?_ _ | with_reducible refine Below.sc ?_ (by first | exact Nat.le_refl _ | (simp; done) | (simp; omega)) _ | assumption | exact Below.refl _ _ | refine Below.dr ?_ | refine Below.drN ?_ _ | refine Below.step ?_ (by assumption)))⟩
end Go.Proofs.Ytinfogmjijeliaa
