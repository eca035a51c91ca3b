/- Steps of a proof as data; their English. No program is walked. -/
import Derived.Laws.IdiomStrings
import Derived.Test.YtcegllnljaapiaaGreatDoorAste1
import Derived.Test.YtcegllnljaapiaaGreatDoorAste2
import Derived.Test.YtcegllnljaapiaaGreatDoorAste4
import Derived.Test.YtcegllnljaapiaaGreatDoorAste5
namespace Go.Proofs.YtcegllnljaapiaaGreatDoor
open Go.RowKit
theorem EngAt.call {P : Program} {k : FuncId} {B : Nat → Prop} {m : Nat} (ih : EngAt P k B m) (t : Fm) (v0 v1 v2 v3 v4 : Value) (w : World) (h : FmAt B m w t [v0, v1, v2, v3, v4]) (hf : t.form = true) (hz : t.eng.length ≤ 1000000000000) :
      Calls P k #[.agg #[v0, v1, v2, v3, v4]] w fun e w' => e = .returned (.string ⟨t.eng.toArray⟩) ∧ Below w.heap.size w w' := ih t v0 v1 v2 v3 v4 w h hf hz
theorem FmAt.one {B : Nat → Prop} {m : Nat} {w : World} {g : Fm} {p : Option Addr} {c : Nat} (h : ListAt B w 5 (FmAt B m w) (.slice p 1 c) [g]) :
    ∃ b o x0 x1 x2 x3 x4, p = some ⟨b, o, none⟩ ∧ w.cell? ⟨b, o, none⟩ = some x0 ∧ w.cell? ⟨b, o + 1, none⟩ = some x1 ∧ w.cell? ⟨b, o + 2, none⟩ = some x2 ∧ w.cell? ⟨b, o + 3, none⟩ = some x3 ∧ w.cell? ⟨b, o + 4, none⟩ = some x4 ∧ FmAt B m w g [x0, x1, x2, x3, x4] := by
  obtain ⟨b, o, rfl, _, x0, x1, x2, x3, x4, hx0, hx1, hx2, hx3, hx4, hx⟩ := h.at5 (i := 0) (by simp)
  exact ⟨b, o, x0, x1, x2, x3, x4, rfl, by simpa using hx0, by simpa using hx1, by simpa using hx2, by simpa using hx3, by simpa using hx4, hx⟩
theorem FmAt.two {B : Nat → Prop} {m : Nat} {w : World} {g h : Fm} {p : Option Addr} {c : Nat} (hl : ListAt B w 5 (FmAt B m w) (.slice p 2 c) [g, h]) :
    ∃ b o x0 x1 x2 x3 x4 y0 y1 y2 y3 y4, p = some ⟨b, o, none⟩ ∧ (w.cell? ⟨b, o, none⟩ = some x0 ∧ w.cell? ⟨b, o + 1, none⟩ = some x1 ∧ w.cell? ⟨b, o + 2, none⟩ = some x2 ∧ w.cell? ⟨b, o + 3, none⟩ = some x3 ∧ w.cell? ⟨b, o + 4, none⟩ = some x4) ∧
      (w.cell? ⟨b, o + 5, none⟩ = some y0 ∧ w.cell? ⟨b, o + 6, none⟩ = some y1 ∧ w.cell? ⟨b, o + 7, none⟩ = some y2 ∧ w.cell? ⟨b, o + 8, none⟩ = some y3 ∧ w.cell? ⟨b, o + 9, none⟩ = some y4) ∧ FmAt B m w g [x0, x1, x2, x3, x4] ∧ FmAt B m w h [y0, y1, y2, y3, y4] := by
  obtain ⟨b, o, rfl, _, x0, x1, x2, x3, x4, hx0, hx1, hx2, hx3, hx4, hx⟩ := hl.at5 (i := 0) (by simp)
  obtain ⟨b', o', he, _, y0, y1, y2, y3, y4, hy0, hy1, hy2, hy3, hy4, hy⟩ := hl.at5 (i := 1) (by simp)
  simp only [Option.some.injEq, Addr.mk.injEq, and_true] at he
  obtain ⟨rfl, rfl⟩ := he
  exact ⟨b, o, x0, x1, x2, x3, x4, y0, y1, y2, y3, y4, rfl, ⟨by simpa using hx0, by simpa using hx1, by simpa using hx2, by simpa using hx3, by simpa using hx4⟩, ⟨by simpa using hy0, by simpa using hy1, by simpa using hy2, by simpa using hy3, by simpa using hy4⟩, hx, hy⟩
set_option maxRecDepth 100000 in
set_option maxHeartbeats 3200000 in
theorem l26Formula_any {B : Nat → Prop} : ∀ m : Nat, EngAt Tryz.prog 192 B m := by
  intro m
  induction m with
  | zero => intro t v0 v1 v2 v3 v4 w h; exact h.elim
  | succ m ih =>
    intro t v0 v1 v2 v3 v4 w hfm hf hz
    have IH := Lib.hid ih
    clear ih
    cases form_cases hf with
    | tru =>
      obtain ⟨p, c, q, d, rfl, rfl, rfl, rfl, rfl, -⟩ := hfm.form
      clear hfm hf hz
      show Calls Tryz.prog 192 #[.agg #[.int .i64 1, .string ⟨#[]⟩, .slice p 0 c, .string ⟨#[]⟩, .slice q 0 d]] w _
      go_enter Tryz.func192, Tryz.ntmps192
      go_wp2
      go_ret
      exact ⟨ret_str (by rw [opF, Fm.eng]; rfl), by (repeat (first | with_reducible exact Below.refl _ _ | with_reducible assumption | with_reducible refine Below.al ?_ _ | with_reducible refine Below.sc ?_ (by first | exact Nat.le_refl _ | (simp; done) | (simp; omega)) _ | assumption | exact Below.refl _ _ | refine Below.dr ?_ | refine Below.drN ?_ _ | refine Below.step ?_ (by assumption)))⟩
    | fal =>
      obtain ⟨p, c, q, d, rfl, rfl, rfl, rfl, rfl, -⟩ := hfm.form
      clear hfm hf hz
      show Calls Tryz.prog 192 #[.agg #[.int .i64 2, .string ⟨#[]⟩, .slice p 0 c, .string ⟨#[]⟩, .slice q 0 d]] w _
      go_enter Tryz.func192, Tryz.ntmps192
      go_wp2
      go_ret
      exact ⟨ret_str (by rw [opF, Fm.eng]; rfl), by (repeat (first | with_reducible exact Below.refl _ _ | with_reducible assumption | with_reducible refine Below.al ?_ _ | with_reducible refine Below.sc ?_ (by first | exact Nat.le_refl _ | (simp; done) | (simp; omega)) _ | assumption | exact Below.refl _ _ | refine Below.dr ?_ | refine Below.drN ?_ _ | refine Below.step ?_ (by assumption)))⟩
    | atm a ha =>
      have HA := Lib.hid (show TmAt B (m + 1) w a _ from hfm.atm)
      obtain ⟨p, c, q, d, rfl, rfl, rfl, rfl, rfl, -⟩ := hfm.form
      rw [eng_atm] at hz ⊢
      have HZ := Lib.hid (And.intro ha hz)
      clear hfm hf hz
      show Calls Tryz.prog 192 #[.agg #[.int .i64 3, .string a.n, .slice p a.us.length c, .string ⟨#[]⟩, .slice q 0 d]] w _
      go_enter Tryz.func192, Tryz.ntmps192
      go_wp2_with fail
      refine (l26Atom_any (m + 1) a _ _ _ (HA.out.below (by (repeat (first | with_reducible exact Below.refl _ _ | with_reducible assumption | with_reducible refine Below.al ?_ _ | with_reducible refine Below.sc ?_ (by first | exact Nat.le_refl _ | (simp; done) | (simp; omega)) _ | assumption | exact Below.refl _ _ | refine Below.dr ?_ | refine Below.drN ?_ _ | refine Below.step ?_ (by assumption))))) HZ.out.1 HZ.out.2).mono ?_
      rintro e w1 ⟨rfl, hb1⟩
      have ⟨cw1, fw1⟩ := bcell hb1
      have qw1 := hb1.size
      (try simp at qw1)
      (try have zw1w := bsz (show w.heap.size < w1.heap.size by omega))
      go_wp2
      go_ret
      exact ⟨rfl, by (repeat (first | with_reducible exact Below.refl _ _ | with_reducible assumption | with_reducible refine Below.al ?_ _ | with_reducible refine Below.sc ?_ (by first | exact Nat.le_refl _ | (simp; done) | (simp; omega)) _ | assumption | exact Below.refl _ _ | refine Below.dr ?_ | refine Below.drN ?_ _ | refine Below.step ?_ (by assumption)))⟩
    | neg g hg =>
      obtain ⟨p, c, q, d, rfl, rfl, rfl, rfl, rfl, -⟩ := hfm.form
      obtain ⟨vn, va, vp, hcs, hop, hs, ht, hl⟩ := hfm
      simp only [List.cons.injEq, and_true] at hcs
      obtain ⟨-, -, -, -, rfl⟩ := hcs
      have hl' : ListAt B w 5 (FmAt B m w) (.slice q 1 d) [g] := hl
      obtain ⟨b, o, x0, x1, x2, x3, x4, rfl, hx0, hx1, hx2, hx3, hx4, hx⟩ := FmAt.one hl'
      have hz2 : g.eng.length + 24 ≤ 1000000000000 := by rw [eng_neg] at hz; simp [sNot] at hz; omega
      have HX := Lib.hid (And.intro hx hg)
      have zb := bsz (World.block_lt_of_cell? _ _ hx0)
      clear hf hz ht hl hl' hx
      show Calls Tryz.prog 192 #[.agg #[.int .i64 4, .string ⟨#[]⟩, .slice p 0 c, .string ⟨#[]⟩, .slice (some ⟨b, o, none⟩) 1 d]] w _
      go_enter Tryz.func192, Tryz.ntmps192
      go_wp2_with fail
      refine (IH.out g _ _ _ _ _ _ (HX.out.1.below (by (repeat (first | with_reducible exact Below.refl _ _ | with_reducible assumption | with_reducible refine Below.al ?_ _ | with_reducible refine Below.sc ?_ (by first | exact Nat.le_refl _ | (simp; done) | (simp; omega)) _ | assumption | exact Below.refl _ _ | refine Below.dr ?_ | refine Below.drN ?_ _ | refine Below.step ?_ (by assumption))))) HX.out.2 (by omega)).mono ?_
      rintro e w1 ⟨rfl, hb1⟩
      have ⟨cw1, fw1⟩ := bcell hb1
      have qw1 := hb1.size
      (try simp at qw1)
      (try have zw1w := bsz (show w.heap.size < w1.heap.size by omega))
      go_wp2
      go_ret
      exact ⟨ret_strs (by rw [eng_neg]; simp [sNot]), by (repeat (first | with_reducible exact Below.refl _ _ | with_reducible assumption | with_reducible refine Below.al ?_ _ | with_reducible refine Below.sc ?_ (by first | exact Nat.le_refl _ | (simp; done) | (simp; omega)) _ | assumption | exact Below.refl _ _ | refine Below.dr ?_ | refine Below.drN ?_ _ | refine Below.step ?_ (by assumption)))⟩
    | bin op g h ho hg hh =>
      obtain ⟨p, c, q, d, rfl, rfl, rfl, rfl, rfl, -⟩ := hfm.form
      obtain ⟨vn, va, vp, hcs, hop, hs, ht, hl⟩ := hfm
      simp only [List.cons.injEq, and_true] at hcs
      obtain ⟨-, -, -, -, rfl⟩ := hcs
      have hl' : ListAt B w 5 (FmAt B m w) (.slice q 2 d) [g, h] := hl
      obtain ⟨b, o, x0, x1, x2, x3, x4, y0, y1, y2, y3, y4, rfl, ⟨hx0, hx1, hx2, hx3, hx4⟩, ⟨hy0, hy1, hy2, hy3, hy4⟩, hx, hy⟩ := FmAt.two hl'
      have zb := bsz (World.block_lt_of_cell? _ _ hx0)
      have HG := Lib.hid (And.intro hg hh)
      have HX := Lib.hid hx
      have HY := Lib.hid hy
      clear hf ht hl hl' hg hh hx hy
      rcases ho with rfl | rfl | rfl
      · have hz2 : g.eng.length + h.eng.length + 30 ≤ 1000000000030 := by rw [eng_and] at hz; simp at hz; omega
        clear hz
        show Calls Tryz.prog 192 #[.agg #[.int .i64 5, .string ⟨#[]⟩, .slice p 0 c, .string ⟨#[]⟩, .slice (some ⟨b, o, none⟩) 2 d]] w _
        go_enter Tryz.func192, Tryz.ntmps192
        go_wp2
        obtain ⟨W, hW⟩ : ∃ W : World, W = w.alloc (.cells #[.int .i64 5, .string ⟨#[]⟩, .slice p 0 c, .string ⟨#[]⟩, .slice (some ⟨b, o, none⟩) 2 d] 60) := ⟨_, rfl⟩
        have hwb : W.cell? ⟨w.heap.size, 4, none⟩ = some (.slice (some ⟨b, o, none⟩) 2 d) := by rw [hW]; go_simp
        have hbW : Below w.heap.size w W := by rw [hW]; (repeat (first | with_reducible exact Below.refl _ _ | with_reducible assumption | with_reducible refine Below.al ?_ _ | with_reducible refine Below.sc ?_ (by first | exact Nat.le_refl _ | (simp; done) | (simp; omega)) _ | assumption | exact Below.refl _ _ | refine Below.dr ?_ | refine Below.drN ?_ _ | refine Below.step ?_ (by assumption)))
        rw [← hW]
        clear hW
        have ⟨cW, fW⟩ := bcell hbW
        obtain ⟨C, HC0⟩ := class_of (InF W.heap.size _ [(⟨w.heap.size, 4, none⟩, .slice (some ⟨b, o, none⟩) 2 d), (⟨b, o, none⟩, x0), (⟨b, o + 1, none⟩, x1), (⟨b, o + 2, none⟩, x2), (⟨b, o + 3, none⟩, x3), (⟨b, o + 4, none⟩, x4), (⟨b, o + 5, none⟩, y0), (⟨b, o + 6, none⟩, y1), (⟨b, o + 7, none⟩, y2), (⟨b, o + 8, none⟩, y3), (⟨b, o + 9, none⟩, y4)] [] [])
        have HC := Lib.hid HC0
        clear HC0
        refine wp_region_flow (C := C) (by kernel_rfl) (by kernel_rfl) (fun L hL => (HC.out _ _).2 (InF.start (by first | (intro _ hs; cases hs; done) | (simp only [List.forall_mem_cons]; go_simp)) (by first | (intro _ hs; cases hs; done) | (simp only [List.forall_mem_cons]; go_simp)) (by first | (intro _ hs; cases hs; done) | (simp only [List.forall_mem_cons]; go_simp)) (by first | (intro _ hs; cases hs; done) | (simp only [List.forall_mem_cons]; go_simp)) L hL)) ?_
        repeat (first | (apply flow_free rfl; (intro L w' hun hrd hC; have hC := (HC.out _ _).1 hC; have hb' := hC.below; (try have hw' : Below w.heap.size w w' := by first | exact Below.trans (by (repeat (first | with_reducible exact Below.refl _ _ | with_reducible assumption | with_reducible refine Below.al ?_ _ | with_reducible refine Below.sc ?_ (by first | exact Nat.le_refl _ | (simp; done) | (simp; omega)) _ | assumption | exact Below.refl _ _ | refine Below.dr ?_ | refine Below.drN ?_ _ | refine Below.step ?_ (by assumption)))) hb' | ((repeat (first | with_reducible exact Below.refl _ _ | with_reducible assumption | with_reducible refine Below.al ?_ _ | with_reducible refine Below.sc ?_ (by first | exact Nat.le_refl _ | (simp; done) | (simp; omega)) _ | assumption | exact Below.refl _ _ | refine Below.dr ?_ | refine Below.drN ?_ _ | refine Below.step ?_ (by assumption))); done)); have hf' := hC.cell; (try simp only [List.forall_mem_cons] at hf'); go_simp; first | exact ⟨(HC.out _ _).2 (hC.skip _ (by rfl)), rfl⟩ | (rw [if_neg]; (exact ⟨(HC.out _ _).2 (hC.skip _ (by rfl)), rfl⟩); omega) | (go_at_call 192; (with_reducible refine (EngAt.call IH.out g x0 x1 x2 x3 x4 _ (HX.out.below hw') HG.out.1 (by omega)).mono ?_); rintro e w1 ⟨rfl, hb1⟩; exact ⟨rfl, (HC.out _ _).2 ((hC.next (by first | (simp; done) | (simp; omega) | omega) hb1).skip _ (by rfl))⟩) | (go_at_call 192; (with_reducible refine (EngAt.call IH.out h y0 y1 y2 y3 y4 _ (HY.out.below hw') HG.out.2 (by omega)).mono ?_); rintro e w1 ⟨rfl, hb1⟩; exact ⟨rfl, (HC.out _ _).2 ((hC.next (by first | (simp; done) | (simp; omega) | omega) hb1).skip _ (by rfl))⟩)); go_simp) | (apply flow_yes; (case hw => go_simp); (intro L w' hun hrd hC; have hC := (HC.out _ _).1 hC; have hb' := hC.below; (try have hw' : Below w.heap.size w w' := by first | exact Below.trans (by (repeat (first | with_reducible exact Below.refl _ _ | with_reducible assumption | with_reducible refine Below.al ?_ _ | with_reducible refine Below.sc ?_ (by first | exact Nat.le_refl _ | (simp; done) | (simp; omega)) _ | assumption | exact Below.refl _ _ | refine Below.dr ?_ | refine Below.drN ?_ _ | refine Below.step ?_ (by assumption)))) hb' | ((repeat (first | with_reducible exact Below.refl _ _ | with_reducible assumption | with_reducible refine Below.al ?_ _ | with_reducible refine Below.sc ?_ (by first | exact Nat.le_refl _ | (simp; done) | (simp; omega)) _ | assumption | exact Below.refl _ _ | refine Below.dr ?_ | refine Below.drN ?_ _ | refine Below.step ?_ (by assumption))); done)); have hf' := hC.cell; (try simp only [List.forall_mem_cons] at hf'); go_simp; first | exact ⟨(HC.out _ _).2 (hC.skip _ (by rfl)), rfl⟩ | (rw [if_neg]; (exact ⟨(HC.out _ _).2 (hC.skip _ (by rfl)), rfl⟩); omega) | (go_at_call 192; (with_reducible refine (EngAt.call IH.out g x0 x1 x2 x3 x4 _ (HX.out.below hw') HG.out.1 (by omega)).mono ?_); rintro e w1 ⟨rfl, hb1⟩; exact ⟨rfl, (HC.out _ _).2 ((hC.next (by first | (simp; done) | (simp; omega) | omega) hb1).skip _ (by rfl))⟩) | (go_at_call 192; (with_reducible refine (EngAt.call IH.out h y0 y1 y2 y3 y4 _ (HY.out.below hw') HG.out.2 (by omega)).mono ?_); rintro e w1 ⟨rfl, hb1⟩; exact ⟨rfl, (HC.out _ _).2 ((hC.next (by first | (simp; done) | (simp; omega) | omega) hb1).skip _ (by rfl))⟩)); go_simp) | (apply flow_no; (case hw => (go_simp; try (intro hh; cases hh))); (intro L w' _ _ hC; exact (HC.out _ _).2 (((HC.out _ _).1 hC).skip _ (by rfl))); go_simp))
        refine flow_nil ?_
        intro L wz hL hz
        have hz := (HC.out _ _).1 hz
        have hbz := hz.below
        have hcz := hz.cell
        try simp only [List.forall_mem_cons] at hcz
        have hdz := hz.done
        try simp only [List.forall_mem_cons] at hdz
        (try have hwz : Below w.heap.size w wz := by first | exact Below.trans (by (repeat (first | with_reducible exact Below.refl _ _ | with_reducible assumption | with_reducible refine Below.al ?_ _ | with_reducible refine Below.sc ?_ (by first | exact Nat.le_refl _ | (simp; done) | (simp; omega)) _ | assumption | exact Below.refl _ _ | refine Below.dr ?_ | refine Below.drN ?_ _ | refine Below.step ?_ (by assumption)))) hbz | ((repeat (first | with_reducible exact Below.refl _ _ | with_reducible assumption | with_reducible refine Below.al ?_ _ | with_reducible refine Below.sc ?_ (by first | exact Nat.le_refl _ | (simp; done) | (simp; omega)) _ | assumption | exact Below.refl _ _ | refine Below.dr ?_ | refine Below.drN ?_ _ | refine Below.step ?_ (by assumption))); done))
        go_wp2
        go_ret
        exact ⟨ret_strs (by rw [eng_and]; simp [sBoth, sAnd]), by (repeat (first | with_reducible exact Below.refl _ _ | with_reducible assumption | with_reducible refine Below.al ?_ _ | with_reducible refine Below.sc ?_ (by first | exact Nat.le_refl _ | (simp; done) | (simp; omega)) _ | assumption | exact Below.refl _ _ | refine Below.dr ?_ | refine Below.drN ?_ _ | refine Below.step ?_ (by assumption)))⟩
      · have hz2 : g.eng.length + h.eng.length + 30 ≤ 1000000000030 := by rw [eng_or] at hz; simp at hz; omega
        clear hz
        show Calls Tryz.prog 192 #[.agg #[.int .i64 6, .string ⟨#[]⟩, .slice p 0 c, .string ⟨#[]⟩, .slice (some ⟨b, o, none⟩) 2 d]] w _
        go_enter Tryz.func192, Tryz.ntmps192
        go_wp2
        obtain ⟨W, hW⟩ : ∃ W : World, W = w.alloc (.cells #[.int .i64 6, .string ⟨#[]⟩, .slice p 0 c, .string ⟨#[]⟩, .slice (some ⟨b, o, none⟩) 2 d] 60) := ⟨_, rfl⟩
        have hwb : W.cell? ⟨w.heap.size, 4, none⟩ = some (.slice (some ⟨b, o, none⟩) 2 d) := by rw [hW]; go_simp
        have hbW : Below w.heap.size w W := by rw [hW]; (repeat (first | with_reducible exact Below.refl _ _ | with_reducible assumption | with_reducible refine Below.al ?_ _ | with_reducible refine Below.sc ?_ (by first | exact Nat.le_refl _ | (simp; done) | (simp; omega)) _ | assumption | exact Below.refl _ _ | refine Below.dr ?_ | refine Below.drN ?_ _ | refine Below.step ?_ (by assumption)))
        rw [← hW]
        clear hW
        have ⟨cW, fW⟩ := bcell hbW
        obtain ⟨C, HC0⟩ := class_of (InF W.heap.size _ [(⟨w.heap.size, 4, none⟩, .slice (some ⟨b, o, none⟩) 2 d), (⟨b, o, none⟩, x0), (⟨b, o + 1, none⟩, x1), (⟨b, o + 2, none⟩, x2), (⟨b, o + 3, none⟩, x3), (⟨b, o + 4, none⟩, x4), (⟨b, o + 5, none⟩, y0), (⟨b, o + 6, none⟩, y1), (⟨b, o + 7, none⟩, y2), (⟨b, o + 8, none⟩, y3), (⟨b, o + 9, none⟩, y4)] [] [])
        have HC := Lib.hid HC0
        clear HC0
        refine wp_region_flow (C := C) (by kernel_rfl) (by kernel_rfl) (fun L hL => (HC.out _ _).2 (InF.start (by first | (intro _ hs; cases hs; done) | (simp only [List.forall_mem_cons]; go_simp)) (by first | (intro _ hs; cases hs; done) | (simp only [List.forall_mem_cons]; go_simp)) (by first | (intro _ hs; cases hs; done) | (simp only [List.forall_mem_cons]; go_simp)) (by first | (intro _ hs; cases hs; done) | (simp only [List.forall_mem_cons]; go_simp)) L hL)) ?_
        repeat (first | (apply flow_free rfl; (intro L w' hun hrd hC; have hC := (HC.out _ _).1 hC; have hb' := hC.below; (try have hw' : Below w.heap.size w w' := by first | exact Below.trans (by (repeat (first | with_reducible exact Below.refl _ _ | with_reducible assumption | with_reducible refine Below.al ?_ _ | with_reducible refine Below.sc ?_ (by first | exact Nat.le_refl _ | (simp; done) | (simp; omega)) _ | assumption | exact Below.refl _ _ | refine Below.dr ?_ | refine Below.drN ?_ _ | refine Below.step ?_ (by assumption)))) hb' | ((repeat (first | with_reducible exact Below.refl _ _ | with_reducible assumption | with_reducible refine Below.al ?_ _ | with_reducible refine Below.sc ?_ (by first | exact Nat.le_refl _ | (simp; done) | (simp; omega)) _ | assumption | exact Below.refl _ _ | refine Below.dr ?_ | refine Below.drN ?_ _ | refine Below.step ?_ (by assumption))); done)); have hf' := hC.cell; (try simp only [List.forall_mem_cons] at hf'); go_simp; first | exact ⟨(HC.out _ _).2 (hC.skip _ (by rfl)), rfl⟩ | (rw [if_neg]; (exact ⟨(HC.out _ _).2 (hC.skip _ (by rfl)), rfl⟩); omega) | (go_at_call 192; (with_reducible refine (EngAt.call IH.out g x0 x1 x2 x3 x4 _ (HX.out.below hw') HG.out.1 (by omega)).mono ?_); rintro e w1 ⟨rfl, hb1⟩; exact ⟨rfl, (HC.out _ _).2 ((hC.next (by first | (simp; done) | (simp; omega) | omega) hb1).skip _ (by rfl))⟩) | (go_at_call 192; (with_reducible refine (EngAt.call IH.out h y0 y1 y2 y3 y4 _ (HY.out.below hw') HG.out.2 (by omega)).mono ?_); rintro e w1 ⟨rfl, hb1⟩; exact ⟨rfl, (HC.out _ _).2 ((hC.next (by first | (simp; done) | (simp; omega) | omega) hb1).skip _ (by rfl))⟩)); go_simp) | (apply flow_yes; (case hw => go_simp); (intro L w' hun hrd hC; have hC := (HC.out _ _).1 hC; have hb' := hC.below; (try have hw' : Below w.heap.size w w' := by first | exact Below.trans (by (repeat (first | with_reducible exact Below.refl _ _ | with_reducible assumption | with_reducible refine Below.al ?_ _ | with_reducible refine Below.sc ?_ (by first | exact Nat.le_refl _ | (simp; done) | (simp; omega)) _ | assumption | exact Below.refl _ _ | refine Below.dr ?_ | refine Below.drN ?_ _ | refine Below.step ?_ (by assumption)))) hb' | ((repeat (first | with_reducible exact Below.refl _ _ | with_reducible assumption | with_reducible refine Below.al ?_ _ | with_reducible refine Below.sc ?_ (by first | exact Nat.le_refl _ | (simp; done) | (simp; omega)) _ | assumption | exact Below.refl _ _ | refine Below.dr ?_ | refine Below.drN ?_ _ | refine Below.step ?_ (by assumption))); done)); have hf' := hC.cell; (try simp only [List.forall_mem_cons] at hf'); go_simp; first | exact ⟨(HC.out _ _).2 (hC.skip _ (by rfl)), rfl⟩ | (rw [if_neg]; (exact ⟨(HC.out _ _).2 (hC.skip _ (by rfl)), rfl⟩); omega) | (go_at_call 192; (with_reducible refine (EngAt.call IH.out g x0 x1 x2 x3 x4 _ (HX.out.below hw') HG.out.1 (by omega)).mono ?_); rintro e w1 ⟨rfl, hb1⟩; exact ⟨rfl, (HC.out _ _).2 ((hC.next (by first | (simp; done) | (simp; omega) | omega) hb1).skip _ (by rfl))⟩) | (go_at_call 192; (with_reducible refine (EngAt.call IH.out h y0 y1 y2 y3 y4 _ (HY.out.below hw') HG.out.2 (by omega)).mono ?_); rintro e w1 ⟨rfl, hb1⟩; exact ⟨rfl, (HC.out _ _).2 ((hC.next (by first | (simp; done) | (simp; omega) | omega) hb1).skip _ (by rfl))⟩)); go_simp) | (apply flow_no; (case hw => (go_simp; try (intro hh; cases hh))); (intro L w' _ _ hC; exact (HC.out _ _).2 (((HC.out _ _).1 hC).skip _ (by rfl))); go_simp))
        refine flow_nil ?_
        intro L wz hL hz
        have hz := (HC.out _ _).1 hz
        have hbz := hz.below
        have hcz := hz.cell
        try simp only [List.forall_mem_cons] at hcz
        have hdz := hz.done
        try simp only [List.forall_mem_cons] at hdz
        (try have hwz : Below w.heap.size w wz := by first | exact Below.trans (by (repeat (first | with_reducible exact Below.refl _ _ | with_reducible assumption | with_reducible refine Below.al ?_ _ | with_reducible refine Below.sc ?_ (by first | exact Nat.le_refl _ | (simp; done) | (simp; omega)) _ | assumption | exact Below.refl _ _ | refine Below.dr ?_ | refine Below.drN ?_ _ | refine Below.step ?_ (by assumption)))) hbz | ((repeat (first | with_reducible exact Below.refl _ _ | with_reducible assumption | with_reducible refine Below.al ?_ _ | with_reducible refine Below.sc ?_ (by first | exact Nat.le_refl _ | (simp; done) | (simp; omega)) _ | assumption | exact Below.refl _ _ | refine Below.dr ?_ | refine Below.drN ?_ _ | refine Below.step ?_ (by assumption))); done))
        go_wp2
        go_ret
        exact ⟨ret_strs (by rw [eng_or]; simp [sEither, sOr]), by (repeat (first | with_reducible exact Below.refl _ _ | with_reducible assumption | with_reducible refine Below.al ?_ _ | with_reducible refine Below.sc ?_ (by first | exact Nat.le_refl _ | (simp; done) | (simp; omega)) _ | assumption | exact Below.refl _ _ | refine Below.dr ?_ | refine Below.drN ?_ _ | refine Below.step ?_ (by assumption)))⟩
      · have hz2 : g.eng.length + h.eng.length + 30 ≤ 1000000000030 := by rw [eng_imp] at hz; simp at hz; omega
        clear hz
        show Calls Tryz.prog 192 #[.agg #[.int .i64 7, .string ⟨#[]⟩, .slice p 0 c, .string ⟨#[]⟩, .slice (some ⟨b, o, none⟩) 2 d]] w _
        go_enter Tryz.func192, Tryz.ntmps192
        go_wp2
        obtain ⟨W, hW⟩ : ∃ W : World, W = w.alloc (.cells #[.int .i64 7, .string ⟨#[]⟩, .slice p 0 c, .string ⟨#[]⟩, .slice (some ⟨b, o, none⟩) 2 d] 60) := ⟨_, rfl⟩
        have hwb : W.cell? ⟨w.heap.size, 4, none⟩ = some (.slice (some ⟨b, o, none⟩) 2 d) := by rw [hW]; go_simp
        have hbW : Below w.heap.size w W := by rw [hW]; (repeat (first | with_reducible exact Below.refl _ _ | with_reducible assumption | with_reducible refine Below.al ?_ _ | with_reducible refine Below.sc ?_ (by first | exact Nat.le_refl _ | (simp; done) | (simp; omega)) _ | assumption | exact Below.refl _ _ | refine Below.dr ?_ | refine Below.drN ?_ _ | refine Below.step ?_ (by assumption)))
        rw [← hW]
        clear hW
        have ⟨cW, fW⟩ := bcell hbW
        obtain ⟨C, HC0⟩ := class_of (InF W.heap.size _ [(⟨w.heap.size, 4, none⟩, .slice (some ⟨b, o, none⟩) 2 d), (⟨b, o, none⟩, x0), (⟨b, o + 1, none⟩, x1), (⟨b, o + 2, none⟩, x2), (⟨b, o + 3, none⟩, x3), (⟨b, o + 4, none⟩, x4), (⟨b, o + 5, none⟩, y0), (⟨b, o + 6, none⟩, y1), (⟨b, o + 7, none⟩, y2), (⟨b, o + 8, none⟩, y3), (⟨b, o + 9, none⟩, y4)] [] [])
        have HC := Lib.hid HC0
        clear HC0
        refine wp_region_flow (C := C) (by kernel_rfl) (by kernel_rfl) (fun L hL => (HC.out _ _).2 (InF.start (by first | (intro _ hs; cases hs; done) | (simp only [List.forall_mem_cons]; go_simp)) (by first | (intro _ hs; cases hs; done) | (simp only [List.forall_mem_cons]; go_simp)) (by first | (intro _ hs; cases hs; done) | (simp only [List.forall_mem_cons]; go_simp)) (by first | (intro _ hs; cases hs; done) | (simp only [List.forall_mem_cons]; go_simp)) L hL)) ?_
        repeat (first | (apply flow_free rfl; (intro L w' hun hrd hC; have hC := (HC.out _ _).1 hC; have hb' := hC.below; (try have hw' : Below w.heap.size w w' := by first | exact Below.trans (by (repeat (first | with_reducible exact Below.refl _ _ | with_reducible assumption | with_reducible refine Below.al ?_ _ | with_reducible refine Below.sc ?_ (by first | exact Nat.le_refl _ | (simp; done) | (simp; omega)) _ | assumption | exact Below.refl _ _ | refine Below.dr ?_ | refine Below.drN ?_ _ | refine Below.step ?_ (by assumption)))) hb' | ((repeat (first | with_reducible exact Below.refl _ _ | with_reducible assumption | with_reducible refine Below.al ?_ _ | with_reducible refine Below.sc ?_ (by first | exact Nat.le_refl _ | (simp; done) | (simp; omega)) _ | assumption | exact Below.refl _ _ | refine Below.dr ?_ | refine Below.drN ?_ _ | refine Below.step ?_ (by assumption))); done)); have hf' := hC.cell; (try simp only [List.forall_mem_cons] at hf'); go_simp; first | exact ⟨(HC.out _ _).2 (hC.skip _ (by rfl)), rfl⟩ | (rw [if_neg]; (exact ⟨(HC.out _ _).2 (hC.skip _ (by rfl)), rfl⟩); omega) | (go_at_call 192; (with_reducible refine (EngAt.call IH.out g x0 x1 x2 x3 x4 _ (HX.out.below hw') HG.out.1 (by omega)).mono ?_); rintro e w1 ⟨rfl, hb1⟩; exact ⟨rfl, (HC.out _ _).2 ((hC.next (by first | (simp; done) | (simp; omega) | omega) hb1).skip _ (by rfl))⟩) | (go_at_call 192; (with_reducible refine (EngAt.call IH.out h y0 y1 y2 y3 y4 _ (HY.out.below hw') HG.out.2 (by omega)).mono ?_); rintro e w1 ⟨rfl, hb1⟩; exact ⟨rfl, (HC.out _ _).2 ((hC.next (by first | (simp; done) | (simp; omega) | omega) hb1).skip _ (by rfl))⟩)); go_simp) | (apply flow_yes; (case hw => go_simp); (intro L w' hun hrd hC; have hC := (HC.out _ _).1 hC; have hb' := hC.below; (try have hw' : Below w.heap.size w w' := by first | exact Below.trans (by (repeat (first | with_reducible exact Below.refl _ _ | with_reducible assumption | with_reducible refine Below.al ?_ _ | with_reducible refine Below.sc ?_ (by first | exact Nat.le_refl _ | (simp; done) | (simp; omega)) _ | assumption | exact Below.refl _ _ | refine Below.dr ?_ | refine Below.drN ?_ _ | refine Below.step ?_ (by assumption)))) hb' | ((repeat (first | with_reducible exact Below.refl _ _ | with_reducible assumption | with_reducible refine Below.al ?_ _ | with_reducible refine Below.sc ?_ (by first | exact Nat.le_refl _ | (simp; done) | (simp; omega)) _ | assumption | exact Below.refl _ _ | refine Below.dr ?_ | refine Below.drN ?_ _ | refine Below.step ?_ (by assumption))); done)); have hf' := hC.cell; (try simp only [List.forall_mem_cons] at hf'); go_simp; first | exact ⟨(HC.out _ _).2 (hC.skip _ (by rfl)), rfl⟩ | (rw [if_neg]; (exact ⟨(HC.out _ _).2 (hC.skip _ (by rfl)), rfl⟩); omega) | (go_at_call 192; (with_reducible refine (EngAt.call IH.out g x0 x1 x2 x3 x4 _ (HX.out.below hw') HG.out.1 (by omega)).mono ?_); rintro e w1 ⟨rfl, hb1⟩; exact ⟨rfl, (HC.out _ _).2 ((hC.next (by first | (simp; done) | (simp; omega) | omega) hb1).skip _ (by rfl))⟩) | (go_at_call 192; (with_reducible refine (EngAt.call IH.out h y0 y1 y2 y3 y4 _ (HY.out.below hw') HG.out.2 (by omega)).mono ?_); rintro e w1 ⟨rfl, hb1⟩; exact ⟨rfl, (HC.out _ _).2 ((hC.next (by first | (simp; done) | (simp; omega) | omega) hb1).skip _ (by rfl))⟩)); go_simp) | (apply flow_no; (case hw => (go_simp; try (intro hh; cases hh))); (intro L w' _ _ hC; exact (HC.out _ _).2 (((HC.out _ _).1 hC).skip _ (by rfl))); go_simp))
        refine flow_nil ?_
        intro L wz hL hz
        have hz := (HC.out _ _).1 hz
        have hbz := hz.below
        have hcz := hz.cell
        try simp only [List.forall_mem_cons] at hcz
        have hdz := hz.done
        try simp only [List.forall_mem_cons] at hdz
        (try have hwz : Below w.heap.size w wz := by first | exact Below.trans (by (repeat (first | with_reducible exact Below.refl _ _ | with_reducible assumption | with_reducible refine Below.al ?_ _ | with_reducible refine Below.sc ?_ (by first | exact Nat.le_refl _ | (simp; done) | (simp; omega)) _ | assumption | exact Below.refl _ _ | refine Below.dr ?_ | refine Below.drN ?_ _ | refine Below.step ?_ (by assumption)))) hbz | ((repeat (first | with_reducible exact Below.refl _ _ | with_reducible assumption | with_reducible refine Below.al ?_ _ | with_reducible refine Below.sc ?_ (by first | exact Nat.le_refl _ | (simp; done) | (simp; omega)) _ | assumption | exact Below.refl _ _ | refine Below.dr ?_ | refine Below.drN ?_ _ | refine Below.step ?_ (by assumption))); done))
        go_wp2
        go_ret
        exact ⟨ret_strs (by rw [eng_imp]; simp [sIf, sThen]), by (repeat (first | with_reducible exact Below.refl _ _ | with_reducible assumption | with_reducible refine Below.al ?_ _ | with_reducible refine Below.sc ?_ (by first | exact Nat.le_refl _ | (simp; done) | (simp; omega)) _ | assumption | exact Below.refl _ _ | refine Below.dr ?_ | refine Below.drN ?_ _ | refine Below.step ?_ (by assumption)))⟩
    | qua op v g ho hv hg =>
      obtain ⟨p, c, q, d, rfl, rfl, rfl, rfl, rfl, -⟩ := hfm.form
      obtain ⟨vn, va, vp, hcs, hop, hs, ht, hl⟩ := hfm
      simp only [List.cons.injEq, and_true] at hcs
      obtain ⟨-, -, -, -, rfl⟩ := hcs
      have hl' : ListAt B w 5 (FmAt B m w) (.slice q 1 d) [g] := hl
      obtain ⟨b, o, x0, x1, x2, x3, x4, rfl, hx0, hx1, hx2, hx3, hx4, hx⟩ := FmAt.one hl'
      have zb := bsz (World.block_lt_of_cell? _ _ hx0)
      have HG := Lib.hid hg
      have HX := Lib.hid hx
      clear hf ht hl hl' hg hx
      rcases ho with rfl | rfl
      · have hz2 : g.eng.length + v.length + 30 ≤ 1000000000030 := by rw [eng_all] at hz; simp at hz; omega
        clear hz
        show Calls Tryz.prog 192 #[.agg #[.int .i64 8, .string ⟨#[]⟩, .slice p 0 c, .string ⟨v.toArray⟩, .slice (some ⟨b, o, none⟩) 1 d]] w _
        go_enter Tryz.func192, Tryz.ntmps192
        go_wp2
        obtain ⟨W, hW⟩ : ∃ W : World, W = w.alloc (.cells #[.int .i64 8, .string ⟨#[]⟩, .slice p 0 c, .string ⟨v.toArray⟩, .slice (some ⟨b, o, none⟩) 1 d] 60) := ⟨_, rfl⟩
        have hwb : W.cell? ⟨w.heap.size, 3, none⟩ = some (.string ⟨v.toArray⟩) := by rw [hW]; go_simp
        have hwc : W.cell? ⟨w.heap.size, 4, none⟩ = some (.slice (some ⟨b, o, none⟩) 1 d) := by rw [hW]; go_simp
        have hbW : Below w.heap.size w W := by rw [hW]; (repeat (first | with_reducible exact Below.refl _ _ | with_reducible assumption | with_reducible refine Below.al ?_ _ | with_reducible refine Below.sc ?_ (by first | exact Nat.le_refl _ | (simp; done) | (simp; omega)) _ | assumption | exact Below.refl _ _ | refine Below.dr ?_ | refine Below.drN ?_ _ | refine Below.step ?_ (by assumption)))
        rw [← hW]
        clear hW
        have zW := bsz (World.block_lt_of_cell? _ _ hwb)
        have ⟨cW, fW⟩ := bcell hbW
        obtain ⟨C, HC0⟩ := class_of (InF W.heap.size _ [(⟨w.heap.size, 3, none⟩, .string ⟨v.toArray⟩), (⟨w.heap.size, 4, none⟩, .slice (some ⟨b, o, none⟩) 1 d), (⟨b, o, none⟩, x0), (⟨b, o + 1, none⟩, x1), (⟨b, o + 2, none⟩, x2), (⟨b, o + 3, none⟩, x3), (⟨b, o + 4, none⟩, x4)] [] [])
        have HC := Lib.hid HC0
        clear HC0
        refine wp_region_flow (C := C) (by kernel_rfl) (by kernel_rfl) (fun L hL => (HC.out _ _).2 (InF.start (by first | (intro _ hs; cases hs; done) | (simp only [List.forall_mem_cons]; go_simp)) (by first | (intro _ hs; cases hs; done) | (simp only [List.forall_mem_cons]; go_simp)) (by first | (intro _ hs; cases hs; done) | (simp only [List.forall_mem_cons]; go_simp)) (by first | (intro _ hs; cases hs; done) | (simp only [List.forall_mem_cons]; go_simp)) L hL)) ?_
        repeat (first | (apply flow_free rfl; (intro L w' hun hrd hC; have hC := (HC.out _ _).1 hC; have hb' := hC.below; (try have hw' : Below w.heap.size w w' := by first | exact Below.trans (by (repeat (first | with_reducible exact Below.refl _ _ | with_reducible assumption | with_reducible refine Below.al ?_ _ | with_reducible refine Below.sc ?_ (by first | exact Nat.le_refl _ | (simp; done) | (simp; omega)) _ | assumption | exact Below.refl _ _ | refine Below.dr ?_ | refine Below.drN ?_ _ | refine Below.step ?_ (by assumption)))) hb' | ((repeat (first | with_reducible exact Below.refl _ _ | with_reducible assumption | with_reducible refine Below.al ?_ _ | with_reducible refine Below.sc ?_ (by first | exact Nat.le_refl _ | (simp; done) | (simp; omega)) _ | assumption | exact Below.refl _ _ | refine Below.dr ?_ | refine Below.drN ?_ _ | refine Below.step ?_ (by assumption))); done)); have hf' := hC.cell; (try simp only [List.forall_mem_cons] at hf'); go_simp; first | exact ⟨(HC.out _ _).2 (hC.skip _ (by rfl)), rfl⟩ | (rw [if_neg]; (exact ⟨(HC.out _ _).2 (hC.skip _ (by rfl)), rfl⟩); omega) | (go_at_call 192; (with_reducible refine (EngAt.call IH.out g x0 x1 x2 x3 x4 _ (HX.out.below hw') HG.out (by omega)).mono ?_); rintro e w1 ⟨rfl, hb1⟩; exact ⟨rfl, (HC.out _ _).2 ((hC.next (by first | (simp; done) | (simp; omega) | omega) hb1).skip _ (by rfl))⟩)); go_simp) | (apply flow_yes; (case hw => go_simp); (intro L w' hun hrd hC; have hC := (HC.out _ _).1 hC; have hb' := hC.below; (try have hw' : Below w.heap.size w w' := by first | exact Below.trans (by (repeat (first | with_reducible exact Below.refl _ _ | with_reducible assumption | with_reducible refine Below.al ?_ _ | with_reducible refine Below.sc ?_ (by first | exact Nat.le_refl _ | (simp; done) | (simp; omega)) _ | assumption | exact Below.refl _ _ | refine Below.dr ?_ | refine Below.drN ?_ _ | refine Below.step ?_ (by assumption)))) hb' | ((repeat (first | with_reducible exact Below.refl _ _ | with_reducible assumption | with_reducible refine Below.al ?_ _ | with_reducible refine Below.sc ?_ (by first | exact Nat.le_refl _ | (simp; done) | (simp; omega)) _ | assumption | exact Below.refl _ _ | refine Below.dr ?_ | refine Below.drN ?_ _ | refine Below.step ?_ (by assumption))); done)); have hf' := hC.cell; (try simp only [List.forall_mem_cons] at hf'); go_simp; first | exact ⟨(HC.out _ _).2 (hC.skip _ (by rfl)), rfl⟩ | (rw [if_neg]; (exact ⟨(HC.out _ _).2 (hC.skip _ (by rfl)), rfl⟩); omega) | (go_at_call 192; (with_reducible refine (EngAt.call IH.out g x0 x1 x2 x3 x4 _ (HX.out.below hw') HG.out (by omega)).mono ?_); rintro e w1 ⟨rfl, hb1⟩; exact ⟨rfl, (HC.out _ _).2 ((hC.next (by first | (simp; done) | (simp; omega) | omega) hb1).skip _ (by rfl))⟩)); go_simp) | (apply flow_no; (case hw => (go_simp; try (intro hh; cases hh))); (intro L w' _ _ hC; exact (HC.out _ _).2 (((HC.out _ _).1 hC).skip _ (by rfl))); go_simp))
        refine flow_nil ?_
        intro L wz hL hz
        have hz := (HC.out _ _).1 hz
        have hbz := hz.below
        have hcz := hz.cell
        try simp only [List.forall_mem_cons] at hcz
        have hdz := hz.done
        try simp only [List.forall_mem_cons] at hdz
        (try have hwz : Below w.heap.size w wz := by first | exact Below.trans (by (repeat (first | with_reducible exact Below.refl _ _ | with_reducible assumption | with_reducible refine Below.al ?_ _ | with_reducible refine Below.sc ?_ (by first | exact Nat.le_refl _ | (simp; done) | (simp; omega)) _ | assumption | exact Below.refl _ _ | refine Below.dr ?_ | refine Below.drN ?_ _ | refine Below.step ?_ (by assumption)))) hbz | ((repeat (first | with_reducible exact Below.refl _ _ | with_reducible assumption | with_reducible refine Below.al ?_ _ | with_reducible refine Below.sc ?_ (by first | exact Nat.le_refl _ | (simp; done) | (simp; omega)) _ | assumption | exact Below.refl _ _ | refine Below.dr ?_ | refine Below.drN ?_ _ | refine Below.step ?_ (by assumption))); done))
        go_wp2
        go_ret
        exact ⟨ret_strs (by rw [eng_all]; simp [sEvery, sComma]), by (repeat (first | with_reducible exact Below.refl _ _ | with_reducible assumption | with_reducible refine Below.al ?_ _ | with_reducible refine Below.sc ?_ (by first | exact Nat.le_refl _ | (simp; done) | (simp; omega)) _ | assumption | exact Below.refl _ _ | refine Below.dr ?_ | refine Below.drN ?_ _ | refine Below.step ?_ (by assumption)))⟩
      · have hz2 : g.eng.length + v.length + 30 ≤ 1000000000030 := by rw [eng_ex] at hz; simp at hz; omega
        clear hz
        show Calls Tryz.prog 192 #[.agg #[.int .i64 9, .string ⟨#[]⟩, .slice p 0 c, .string ⟨v.toArray⟩, .slice (some ⟨b, o, none⟩) 1 d]] w _
        go_enter Tryz.func192, Tryz.ntmps192
        go_wp2
        obtain ⟨W, hW⟩ : ∃ W : World, W = w.alloc (.cells #[.int .i64 9, .string ⟨#[]⟩, .slice p 0 c, .string ⟨v.toArray⟩, .slice (some ⟨b, o, none⟩) 1 d] 60) := ⟨_, rfl⟩
        have hwb : W.cell? ⟨w.heap.size, 3, none⟩ = some (.string ⟨v.toArray⟩) := by rw [hW]; go_simp
        have hwc : W.cell? ⟨w.heap.size, 4, none⟩ = some (.slice (some ⟨b, o, none⟩) 1 d) := by rw [hW]; go_simp
        have hbW : Below w.heap.size w W := by rw [hW]; (repeat (first | with_reducible exact Below.refl _ _ | with_reducible assumption | with_reducible refine Below.al ?_ _ | with_reducible refine Below.sc ?_ (by first | exact Nat.le_refl _ | (simp; done) | (simp; omega)) _ | assumption | exact Below.refl _ _ | refine Below.dr ?_ | refine Below.drN ?_ _ | refine Below.step ?_ (by assumption)))
        rw [← hW]
        clear hW
        have zW := bsz (World.block_lt_of_cell? _ _ hwb)
        have ⟨cW, fW⟩ := bcell hbW
        obtain ⟨C, HC0⟩ := class_of (InF W.heap.size _ [(⟨w.heap.size, 3, none⟩, .string ⟨v.toArray⟩), (⟨w.heap.size, 4, none⟩, .slice (some ⟨b, o, none⟩) 1 d), (⟨b, o, none⟩, x0), (⟨b, o + 1, none⟩, x1), (⟨b, o + 2, none⟩, x2), (⟨b, o + 3, none⟩, x3), (⟨b, o + 4, none⟩, x4)] [] [])
        have HC := Lib.hid HC0
        clear HC0
        refine wp_region_flow (C := C) (by kernel_rfl) (by kernel_rfl) (fun L hL => (HC.out _ _).2 (InF.start (by first | (intro _ hs; cases hs; done) | (simp only [List.forall_mem_cons]; go_simp)) (by first | (intro _ hs; cases hs; done) | (simp only [List.forall_mem_cons]; go_simp)) (by first | (intro _ hs; cases hs; done) | (simp only [List.forall_mem_cons]; go_simp)) (by first | (intro _ hs; cases hs; done) | (simp only [List.forall_mem_cons]; go_simp)) L hL)) ?_
        repeat (first | (apply flow_free rfl; (intro L w' hun hrd hC; have hC := (HC.out _ _).1 hC; have hb' := hC.below; (try have hw' : Below w.heap.size w w' := by first | exact Below.trans (by (repeat (first | with_reducible exact Below.refl _ _ | with_reducible assumption | with_reducible refine Below.al ?_ _ | with_reducible refine Below.sc ?_ (by first | exact Nat.le_refl _ | (simp; done) | (simp; omega)) _ | assumption | exact Below.refl _ _ | refine Below.dr ?_ | refine Below.drN ?_ _ | refine Below.step ?_ (by assumption)))) hb' | ((repeat (first | with_reducible exact Below.refl _ _ | with_reducible assumption | with_reducible refine Below.al ?_ _ | with_reducible refine Below.sc ?_ (by first | exact Nat.le_refl _ | (simp; done) | (simp; omega)) _ | assumption | exact Below.refl _ _ | refine Below.dr ?_ | refine Below.drN ?_ _ | refine Below.step ?_ (by assumption))); done)); have hf' := hC.cell; (try simp only [List.forall_mem_cons] at hf'); go_simp; first | exact ⟨(HC.out _ _).2 (hC.skip _ (by rfl)), rfl⟩ | (rw [if_neg]; (exact ⟨(HC.out _ _).2 (hC.skip _ (by rfl)), rfl⟩); omega) | (go_at_call 192; (with_reducible refine (EngAt.call IH.out g x0 x1 x2 x3 x4 _ (HX.out.below hw') HG.out (by omega)).mono ?_); rintro e w1 ⟨rfl, hb1⟩; exact ⟨rfl, (HC.out _ _).2 ((hC.next (by first | (simp; done) | (simp; omega) | omega) hb1).skip _ (by rfl))⟩)); go_simp) | (apply flow_yes; (case hw => go_simp); (intro L w' hun hrd hC; have hC := (HC.out _ _).1 hC; have hb' := hC.below; (try have hw' : Below w.heap.size w w' := by first | exact Below.trans (by (repeat (first | with_reducible exact Below.refl _ _ | with_reducible assumption | with_reducible refine Below.al ?_ _ | with_reducible refine Below.sc ?_ (by first | exact Nat.le_refl _ | (simp; done) | (simp; omega)) _ | assumption | exact Below.refl _ _ | refine Below.dr ?_ | refine Below.drN ?_ _ | refine Below.step ?_ (by assumption)))) hb' | ((repeat (first | with_reducible exact Below.refl _ _ | with_reducible assumption | with_reducible refine Below.al ?_ _ | with_reducible refine Below.sc ?_ (by first | exact Nat.le_refl _ | (simp; done) | (simp; omega)) _ | assumption | exact Below.refl _ _ | refine Below.dr ?_ | refine Below.drN ?_ _ | refine Below.step ?_ (by assumption))); done)); have hf' := hC.cell; (try simp only [List.forall_mem_cons] at hf'); go_simp; first | exact ⟨(HC.out _ _).2 (hC.skip _ (by rfl)), rfl⟩ | (rw [if_neg]; (exact ⟨(HC.out _ _).2 (hC.skip _ (by rfl)), rfl⟩); omega) | (go_at_call 192; (with_reducible refine (EngAt.call IH.out g x0 x1 x2 x3 x4 _ (HX.out.below hw') HG.out (by omega)).mono ?_); rintro e w1 ⟨rfl, hb1⟩; exact ⟨rfl, (HC.out _ _).2 ((hC.next (by first | (simp; done) | (simp; omega) | omega) hb1).skip _ (by rfl))⟩)); go_simp) | (apply flow_no; (case hw => (go_simp; try (intro hh; cases hh))); (intro L w' _ _ hC; exact (HC.out _ _).2 (((HC.out _ _).1 hC).skip _ (by rfl))); go_simp))
        refine flow_nil ?_
        intro L wz hL hz
        have hz := (HC.out _ _).1 hz
        have hbz := hz.below
        have hcz := hz.cell
        try simp only [List.forall_mem_cons] at hcz
        have hdz := hz.done
        try simp only [List.forall_mem_cons] at hdz
        (try have hwz : Below w.heap.size w wz := by first | exact Below.trans (by (repeat (first | with_reducible exact Below.refl _ _ | with_reducible assumption | with_reducible refine Below.al ?_ _ | with_reducible refine Below.sc ?_ (by first | exact Nat.le_refl _ | (simp; done) | (simp; omega)) _ | assumption | exact Below.refl _ _ | refine Below.dr ?_ | refine Below.drN ?_ _ | refine Below.step ?_ (by assumption)))) hbz | ((repeat (first | with_reducible exact Below.refl _ _ | with_reducible assumption | with_reducible refine Below.al ?_ _ | with_reducible refine Below.sc ?_ (by first | exact Nat.le_refl _ | (simp; done) | (simp; omega)) _ | assumption | exact Below.refl _ _ | refine Below.dr ?_ | refine Below.drN ?_ _ | refine Below.step ?_ (by assumption))); done))
        go_wp2
        go_ret
        exact ⟨ret_strs (by rw [eng_ex]; simp [sThere, sSuch]), by (repeat (first | with_reducible exact Below.refl _ _ | with_reducible assumption | with_reducible refine Below.al ?_ _ | with_reducible refine Below.sc ?_ (by first | exact Nat.le_refl _ | (simp; done) | (simp; omega)) _ | assumption | exact Below.refl _ _ | refine Below.dr ?_ | refine Below.drN ?_ _ | refine Below.step ?_ (by assumption)))⟩
end Go.Proofs.YtcegllnljaapiaaGreatDoor
namespace Go.Proofs.YtcegllnljaapiaaGreatDoor
open Go.RowKit
theorem atomOfF_form (a : Tm) : (atomOfF a).form = a.atom := by simp [atomOfF, Fm.form, Fm.forms, Fm.form1, arity, isQ, Fm.op, Fm.a, Fm.v, Fm.ps]
theorem tm0_none : tm0.none = true := rfl
theorem neg_form (g : Fm) : (opF 4 [g]).form = g.form := by simp [opF, Fm.form, Fm.forms, Fm.form1, arity, isQ, Fm.op, Fm.a, Fm.v, Fm.ps, tm0_none]
theorem or_form (g h : Fm) : (opF 6 [g, h]).form = (g.form && h.form) := by simp [opF, Fm.form, Fm.forms, Fm.form1, arity, isQ, Fm.op, Fm.a, Fm.v, Fm.ps, tm0_none]
theorem Lit3.fm_form (l : Lit3) (h : l.a.atom = true) : l.fm.form = true := by
  rw [Lit3.fm]; split
  · rw [atomOfF_form, h]
  · rw [neg_form, atomOfF_form, h]
theorem size_nil : (⟨#[]⟩ : ByteArray).size = 0 := rfl
theorem Lit3.fm_wt (l : Lit3) : l.fm.wt ≤ l.a.wt + 1 := by
  rw [Lit3.fm]; split <;> simp [opF, atomOfF, Fm.wt, Fm.wts, tm0, Tm.wt, Tm.wts, size_nil] <;> omega
theorem or_wt (g h : Fm) : (opF 6 [g, h]).wt = 2 + g.wt + h.wt := by simp [opF, Fm.wt, Fm.wts, tm0, Tm.wt, Tm.wts, size_nil]; omega
def Cls.wts : List Lit3 → Nat | [] => 0 | l :: ls => l.a.wt + Cls.wts ls
theorem Cls.wts_le (c : List Lit3) : ∀ l ∈ c, l.a.wt ≤ Cls.wts c := by
  induction c with
  | nil => simp
  | cons a c ih =>
    intro l hl
    rw [Cls.wts]
    rcases List.mem_cons.1 hl with rfl | h
    · omega
    · have := ih l h; omega
theorem Cls.wts_drop (c : List Lit3) {k : Nat} (h : k < c.length) : Cls.wts (c.drop k) = c[k].a.wt + Cls.wts (c.drop (k + 1)) := by
  rw [List.drop_eq_getElem_cons h, Cls.wts]
theorem Cls.wts_drop_le : ∀ (c : List Lit3) (k : Nat), Cls.wts (c.drop k) ≤ Cls.wts c
  | [], k => by simp
  | a :: c, 0 => by simp
  | a :: c, k + 1 => by have := Cls.wts_drop_le c k; rw [List.drop_succ_cons, Cls.wts]; omega
theorem disj_one (l : Lit3) : disj [l] = l.fm := rfl
theorem disj_cons (l a : Lit3) (c : List Lit3) : disj (l :: a :: c) = opF 6 [l.fm, disj (a :: c)] := by
  have h : ∀ (x y : Lit3) (ys : List Lit3), disj (x :: (y :: ys)) = opF 6 [x.fm, disj (y :: ys)] := by
    intro x y ys
    rw [disj_of (c := x :: (y :: ys)) (by simp), disj_of (c := y :: ys) (by simp)]
    have e1 : (x :: (y :: ys)).length - 1 = ((y :: ys).length - 1) + 1 := by simp
    simp only [e1, List.take_succ_cons, List.reverse_cons, List.getElem_cons_succ, disF_snoc]
  exact h l a c
theorem disj_drop {c : List Lit3} {k : Nat} (h : k + 1 < c.length) : disj (c.drop k) = opF 6 [(c[k]'(by omega)).fm, disj (c.drop (k + 1))] := by
  rw [List.drop_eq_getElem_cons (by omega : k < c.length), List.drop_eq_getElem_cons h, disj_cons]
theorem disj_form : ∀ (c : List Lit3), 0 < c.length → (∀ l ∈ c, l.a.atom = true) → (disj c).form = true
  | [], h, _ => absurd h (by simp)
  | [l], _, h => by rw [disj_one]; exact l.fm_form (h l (by simp))
  | l :: a :: c, _, h => by rw [disj_cons, or_form, l.fm_form (h l (by simp)), disj_form (a :: c) (by simp) (fun x hx => h x (List.mem_cons_of_mem _ hx))]; rfl
theorem disj_wt : ∀ (c : List Lit3), 0 < c.length → (disj c).wt ≤ Cls.wts c + 3 * c.length
  | [], h => absurd h (by simp)
  | [l], _ => by have := l.fm_wt; rw [disj_one, Cls.wts, Cls.wts]; simp; omega
  | l :: a :: c, _ => by
    have h1 := l.fm_wt
    have h2 := disj_wt (a :: c) (by simp)
    rw [disj_cons, or_wt, Cls.wts]; simp only [List.length_cons] at h2 ⊢; omega
theorem okF_atoms : ∀ (c : List Lit3) (p : Option Lit3), Cls.okF p c = true → ∀ l ∈ c, l.a.atom = true
  | [], _, _ => by simp
  | a :: c, p, h => by
    rw [Cls.okF, Bool.and_eq_true, Bool.and_eq_true] at h
    intro l hl
    rcases List.mem_cons.1 hl with rfl | h'
    · exact h.1.1
    · exact okF_atoms c _ h.2 l h'
theorem good_atoms {c : List Lit3} (h : Cls.good c = true) : c.length ≤ 8 ∧ ∀ l ∈ c, l.a.atom = true := by
  rw [Cls.good, Bool.and_eq_true] at h
  exact ⟨of_decide_eq_true h.1, okF_atoms c none h.2⟩
/-- 'a contradiction' -/
def sContr : List UInt8 := [97, 32, 99, 111, 110, 116, 114, 97, 100, 105, 99, 116, 105, 111, 110]
/-- The English of a clause. -/
def Cls.eng (c : List Lit3) : List UInt8 := if c.length = 0 then sContr else (disj c).eng
theorem disj_len {c : List Lit3} (h0 : 0 < c.length) (h8 : c.length ≤ 8) (ha : ∀ l ∈ c, l.a.atom = true) (hw : Cls.wts c ≤ 1048576) : (disj c).eng.length ≤ 40000000 := by
  have h1 := Fm.eng_wt _ (disj c) (Nat.le_refl _) (disj_form c h0 ha)
  have h2 := disj_wt c h0
  omega
theorem fm_len {l : Lit3} (ha : l.a.atom = true) (hw : l.a.wt ≤ 1048576) : l.fm.eng.length ≤ 40000000 := by
  have h1 := Fm.eng_wt _ l.fm (Nat.le_refl _) (l.fm_form ha)
  have h2 := l.fm_wt
  omega
end Go.Proofs.YtcegllnljaapiaaGreatDoor
namespace Go.Proofs.YtcegllnljaapiaaGreatDoor
open Go.RowKit
/-- All blocks outside S are as they were. -/
structure Kept (S : Nat → Prop) (w w' : World) : Prop where
  os : w'.os = w.os
  tape : w'.tape = w.tape
  output : w'.output = w.output
  size : w.heap.size ≤ w'.heap.size
  block : ∀ b, b < w.heap.size → ¬ S b → w'.heap[b]? = w.heap[b]?
theorem blk_lt {w : World} {b : Nat} {o : Obj} (h : w.heap[b]? = some o) : b < w.heap.size := by
  rcases Nat.lt_or_ge b w.heap.size with h' | h'
  · exact h'
  · rw [Array.getElem?_eq_none h'] at h; cases h
/-- Block g's cells from a place on are cs, all others as in cur. -/
def Patch (cur cur' : Array Value) (o : Nat) (cs : List Value) : Prop := cur'.size = cur.size ∧ (∀ j, j < cs.length → cur'[o + j]? = cs[j]?) ∧ ∀ k, (k < o ∨ o + cs.length ≤ k) → cur'[k]? = cur[k]?
theorem Patch.set {cur cur' : Array Value} {o : Nat} {cs : List Value} (h : Patch cur cur' o cs) {j : Nat} (hj : j < cs.length) (hb : o + cs.length ≤ cur.size) (v : Value) : Patch cur (cur'.setIfInBounds (o + j) v) o (cs.set j v) := by
  obtain ⟨h1, h2, h3⟩ := h
  refine ⟨by simpa using h1, fun i hi => ?_, fun k hk => ?_⟩
  · rw [List.length_set] at hi
    by_cases e : j = i
    · subst e
      rw [Array.getElem?_setIfInBounds_self_of_lt (by omega), List.getElem?_set_self hj]
    · rw [Array.getElem?_setIfInBounds_ne (by omega), List.getElem?_set_ne e, h2 i hi]
  · rw [List.length_set] at hk
    rw [Array.getElem?_setIfInBounds_ne (by omega), h3 k hk]
end Go.Proofs.YtcegllnljaapiaaGreatDoor
namespace Go.Proofs.YtcegllnljaapiaaGreatDoor
open Go.RowKit
/-- Of the row in block g (n elements, each of so many cells) the first k read as the list's; each one's memory is its own. -/
structure FillRow {α : Type} (S : Nat → Prop) (w : World) (e : TypeId) (size : Nat) (R : (Nat → Prop) → World → α → List Value → Prop) (g n k : Nat) (us : List α) : Prop where
  own : S g
  row : ∃ cur : Array Value, w.heap[g]? = some (.cells cur e (0, 0)) ∧ cur.size = n * size ∧ ∃ Ss : Nat → Nat → Prop,
    (∀ j x, j < k → us[j]? = some x → ∃ cs : List Value, cs.length = size ∧ (∀ i, i < size → cur[j * size + i]? = cs[i]?) ∧ R (Ss j) w x cs ∧ ∀ b, Ss j b → S b ∧ b ≠ g ∧ b < w.heap.size) ∧
    ∀ i j b, i < k → j < k → i ≠ j → Ss i b → ¬ Ss j b
theorem FillRow.start {α : Type} {S : Nat → Prop} {w : World} {e : TypeId} {size base g n : Nat} {R : (Nat → Prop) → World → α → List Value → Prop} {xs : List Value} {us : List α} (hS : S g) (h : w.ownsRow base e size (.slice (some ⟨g, 0, none⟩) n n) n xs) : FillRow S w e size R g n 0 us := by
  refine ⟨hS, ?_⟩
  rcases h.2 with ⟨h0, _⟩ | ⟨g', cap, cur, hv, _, hh, _, _, hc, _⟩
  · cases h0
  · simp only [Value.slice.injEq, Option.some.injEq, Addr.mk.injEq, and_true, true_and] at hv
    obtain ⟨rfl, rfl⟩ := hv
    exact ⟨cur, hh, hc, fun _ _ => False, fun j x hj => absurd hj (Nat.not_lt_zero _), fun i j b hi => absurd hi (Nat.not_lt_zero _)⟩
theorem FillRow.wider {α : Type} {S S' : Nat → Prop} {w : World} {e : TypeId} {size g n k : Nat} {R : (Nat → Prop) → World → α → List Value → Prop} {us : List α} (h : FillRow S w e size R g n k us) (hS : ∀ b, S b → S' b) : FillRow S' w e size R g n k us := by
  obtain ⟨h0, cur, hh, hc, Ss, h1, h2⟩ := h
  refine ⟨hS _ h0, cur, hh, hc, Ss, fun j x hj hx => ?_, h2⟩
  obtain ⟨cs, a1, a2, a3, a4⟩ := h1 j x hj hx
  exact ⟨cs, a1, a2, a3, fun b hb => ⟨hS _ (a4 b hb).1, (a4 b hb).2⟩⟩
theorem FillRow.lt {α : Type} {S : Nat → Prop} {w : World} {e : TypeId} {size g n k : Nat} {R : (Nat → Prop) → World → α → List Value → Prop} {us : List α} (h : FillRow S w e size R g n k us) : g < w.heap.size := by
  obtain ⟨_, _, hh, _⟩ := h; exact blk_lt hh
theorem FillRow.cell {α : Type} {S : Nat → Prop} {w : World} {e : TypeId} {size g n k : Nat} {R : (Nat → Prop) → World → α → List Value → Prop} {us : List α} (h : FillRow S w e size R g n k us) (j : Nat) (hj : j < n * size) : (∃ q, w.cell? ⟨g, j, none⟩ = some q) ∧ w.frozen? ⟨g, j, none⟩ = false := by
  obtain ⟨_, cur, hh, hc, _⟩ := h
  exact ⟨⟨cur[j], (cell_of_row w g j cur _ (0, 0) hh).trans (Array.getElem?_eq_getElem (by omega))⟩, frozen_of_row w g j _ _ hh⟩
theorem FillRow.put {α : Type} {S T : Nat → Prop} {w w1 w2 : World} {e : TypeId} {size g n k : Nat} {R : (Nat → Prop) → World → α → List Value → Prop} {us : List α} {x : α} {cs : List Value} (h : FillRow S w e size R g n k us) (hk : k < n) (hx : us[k]? = some x)
    (hb : Below w.heap.size w w1) (hl : cs.length = size) (hR : R T w2 x cs) (hT : ∀ b, T b → S b ∧ b ≠ g ∧ w.heap.size ≤ b ∧ b < w2.heap.size)
    (hp : ∀ cur : Array Value, w1.heap[g]? = some (.cells cur e (0, 0)) → k * size + size ≤ cur.size → ∃ cur', w2.heap[g]? = some (.cells cur' e (0, 0)) ∧ Patch cur cur' (k * size) cs)
    (hsz : w1.heap.size ≤ w2.heap.size) (hm : ∀ T x cs, (∀ b, T b → b < w.heap.size ∧ b ≠ g) → R T w x cs → R T w2 x cs) : FillRow S w2 e size R g n (k + 1) us := by
  obtain ⟨hS, cur, hh, hc, Ss, h1, h2⟩ := h
  have hg := blk_lt hh
  have h5 : (k + 1) * size ≤ n * size := Nat.mul_le_mul_right _ hk
  rw [Nat.succ_mul] at h5
  obtain ⟨cur', hh', hpt⟩ := hp cur ((hb.block g hg).trans hh) (by omega)
  have hws := hb.size
  refine ⟨hS, cur', hh', hpt.1.trans hc, fun j => if j = k then T else Ss j, fun j y hj hy => ?_, fun i j b hi hj hij hbi => ?_⟩
  · by_cases e : j = k
    · subst e
      rw [hx] at hy
      obtain rfl := Option.some.inj hy
      simp only [if_pos]
      exact ⟨cs, hl, fun i hi => hpt.2.1 i (by omega), hR, fun b hb' => ⟨(hT b hb').1, (hT b hb').2.1, (hT b hb').2.2.2⟩⟩
    · obtain ⟨ds, a1, a2, a3, a4⟩ := h1 j y (by omega) hy
      simp only [if_neg e]
      refine ⟨ds, a1, fun i hi => ?_, hm _ _ _ (fun b hb' => ⟨(a4 b hb').2.2, (a4 b hb').2.1⟩) a3, fun b hb' => ⟨(a4 b hb').1, (a4 b hb').2.1, by have := (a4 b hb').2.2; omega⟩⟩
      have h6 : (j + 1) * size ≤ k * size := Nat.mul_le_mul_right _ (by omega)
      rw [Nat.succ_mul] at h6
      rw [hpt.2.2 _ (.inl (by omega))]; exact a2 i hi
  · by_cases e : i = k
    · have ej : ¬ j = k := by omega
      simp only [if_pos e] at hbi
      simp only [if_neg ej]
      intro hbj
      rcases Nat.lt_or_ge j us.length with hlt | hge
      · obtain ⟨ds, _, _, _, a4⟩ := h1 j us[j] (by omega) (List.getElem?_eq_getElem hlt)
        have := (a4 b hbj).2.2
        have := (hT b hbi).2.2.1
        omega
      · have := (List.getElem?_eq_some_iff.1 hx).1; omega
    · simp only [if_neg e] at hbi
      by_cases ej : j = k
      · simp only [if_pos ej]
        intro hbj
        rcases Nat.lt_or_ge i us.length with hlt | hge
        · obtain ⟨ds, _, _, _, a4⟩ := h1 i us[i] (by omega) (List.getElem?_eq_getElem hlt)
          have := (a4 b hbi).2.2
          have := (hT b hbj).2.2.1
          omega
        · have := (List.getElem?_eq_some_iff.1 hx).1; omega
      · simp only [if_neg ej]
        exact h2 i j b (by omega) (by omega) hij hbi
theorem FillRow.done {α : Type} {S : Nat → Prop} {w : World} {e : TypeId} {size g : Nat} {R : (Nat → Prop) → World → α → List Value → Prop} {us : List α} (h : FillRow S w e size R g us.length us.length us) (hm : us.length ≤ maxLen) : OwnRow S w e size (fun T x cs => R T w x cs) (.slice (some ⟨g, 0, none⟩) us.length us.length) us := by
  obtain ⟨hS, cur, hh, hc, Ss, h1, h2⟩ := h
  refine ⟨hm, cur.toList, Ss, ⟨by simpa using hc, .inr ⟨g, us.length, cur, rfl, Nat.zero_le _, hh, Nat.le_refl _, hm, hc, by rw [List.take_of_length_le (by simp [hc])]⟩⟩, fun g' hg' => ?_, fun i x hx => ?_, h2⟩
  · have : g = g' := by simpa [Value.ownBlock] using hg'
    exact this ▸ hS
  · have hi := (List.getElem?_eq_some_iff.1 hx).1
    obtain ⟨cs, a1, a2, a3, a4⟩ := h1 i x hi hx
    have h6 : (i + 1) * size ≤ us.length * size := Nat.mul_le_mul_right _ hi
    rw [Nat.succ_mul] at h6
    have : (cur.toList.drop (i * size)).take size = cs := by
      apply List.ext_getElem?
      intro j
      rw [List.getElem?_take]
      split
      · rename_i hj
        rw [List.getElem?_drop, Array.getElem?_toList]; exact a2 j hj
      · rw [List.getElem?_eq_none (by omega)]
    rw [this]
    exact ⟨a3, fun b hb => ⟨(a4 b hb).1, fun e => (a4 b hb).2.1 (by simpa [Value.ownBlock] using e.symm)⟩⟩
end Go.Proofs.YtcegllnljaapiaaGreatDoor
namespace Go.Proofs.YtcegllnljaapiaaGreatDoor
open Go.RowKit
def i64B (n : Int) : Prop := -9223372036854775808 ≤ n ∧ n ≤ 9223372036854775807
def IntAt (n : Int) (cs : List Value) : Prop := cs = [.int .i64 n] ∧ i64B n
def IntsAt (B : Nat → Prop) (w : World) (v : Value) (xs : List Int) : Prop := ListAt B w 1 IntAt v xs
theorem IntsAt.mono {B B' : Nat → Prop} {w w' : World} {v : Value} {xs : List Int} (hs : SameOn B w w') (hB : ∀ b, B b → B' b) (h : IntsAt B w v xs) : IntsAt B' w' v xs := ListAt.mono h hs hB (fun _ _ _ h => h)
theorem IntsAt.below {B : Nat → Prop} {w w' : World} {v : Value} {xs : List Int} (hb : Below w.heap.size w w') (h : IntsAt B w v xs) : IntsAt B w' v xs := h.mono (SameOn.below hb) (fun _ h => h)
theorem IntsAt.form {B : Nat → Prop} {w : World} {v : Value} {xs : List Int} (h : IntsAt B w v xs) : ∃ p c, v = .slice p xs.length c ∧ xs.length ≤ maxLen := ListAt.form h
theorem IntsAt.at_ {B : Nat → Prop} {w : World} {p : Option Addr} {n c : Nat} {xs : List Int} (h : IntsAt B w (.slice p n c) xs) {i : Nat} (hi : i < xs.length) : ∃ b o, p = some ⟨b, o, none⟩ ∧ B b ∧ w.cell? ⟨b, o + i, none⟩ = some (.int .i64 xs[i]) ∧ i64B xs[i] := by
  obtain ⟨b, o, h1, h2, x, h3, h4, h5⟩ := ListAt.at1 h hi
  simp only [List.cons.injEq, and_true] at h4
  subst h4
  exact ⟨b, o, h1, h2, h3, h5⟩
def IntOwn (e : TypeId) (S : Nat → Prop) (w : World) (us : List Int) (v : Value) : Prop := OwnRow S w e 1 (fun _ s cs => IntAt s cs) v us
theorem IntOwn.at_ {e : TypeId} {S : Nat → Prop} {w : World} {us : List Int} {v : Value} (h : IntOwn e S w us v) : IntsAt S w v us := OwnRow.listAt (by omega) h (fun _ _ _ _ _ hx => hx)
set_option maxRecDepth 100000 in
theorem szIntS_any {B : Nat → Prop} (us : List Int) (va : Value) (left : Int) (w : World) (h : IntsAt B w va us) (h0 : 0 ≤ left) (h1 : left ≤ 1048576) :
    Calls Tryz.prog 46 #[va, .int .i64 left] w fun e w' => e = .returned (.int .i64 (szR left us.length)) ∧ Below w.heap.size w w' := by
  obtain ⟨p, c, rfl, hlen⟩ := h.form
  unfold maxLen at hlen
  clear h
  by_cases hl : (us.length : Int) ≤ left
  · go_enter Tryz.func46, Tryz.ntmps46
    go_wp2
    go_ret
    exact ⟨ret_int (by rw [szR, if_pos (by omega)]), by (repeat (first | with_reducible exact Below.refl _ _ | with_reducible assumption | with_reducible refine Below.al ?_ _ | with_reducible refine Below.sc ?_ (by first | exact Nat.le_refl _ | (simp; done) | (simp; omega)) _ | assumption | exact Below.refl _ _ | refine Below.dr ?_ | refine Below.drN ?_ _ | refine Below.step ?_ (by assumption)))⟩
  · go_enter Tryz.func46, Tryz.ntmps46
    go_wp2
    go_ret
    exact ⟨ret_int (by rw [szR, if_neg (by omega)]), by (repeat (first | with_reducible exact Below.refl _ _ | with_reducible assumption | with_reducible refine Below.al ?_ _ | with_reducible refine Below.sc ?_ (by first | exact Nat.le_refl _ | (simp; done) | (simp; omega)) _ | assumption | exact Below.refl _ _ | refine Below.dr ?_ | refine Below.drN ?_ _ | refine Below.step ?_ (by assumption)))⟩
set_option maxRecDepth 100000 in
set_option maxHeartbeats 1600000 in
theorem eqIntS_same {B B' : Nat → Prop} (us : List Int) (va ua : Value) (w : World) (h : IntsAt B w va us) (h' : IntsAt B' w ua us) :
    Calls Tryz.prog 63 #[va, ua] w fun e w' => e = .returned (.bool true) ∧ Below w.heap.size w w' := by
  obtain ⟨p, c, rfl, hlen⟩ := h.form
  obtain ⟨p', c', rfl, -⟩ := h'.form
  unfold maxLen at hlen
  have H := Lib.hid h
  have H' := Lib.hid h'
  clear h h'
  go_enter Tryz.func63, Tryz.ntmps63
  go_wp2
  go_loopw [5] (fun i wr => ∃ k : Nat, k ≤ us.length ∧ i = .int .i64 k ∧ Below w.heap.size w wr) (fun i _ => us.length - (intOf i).toNat)
  case atStart => exact ⟨0, Nat.zero_le _, rfl, by (repeat (first | with_reducible exact Below.refl _ _ | with_reducible assumption | with_reducible refine Below.al ?_ _ | with_reducible refine Below.sc ?_ (by first | exact Nat.le_refl _ | (simp; done) | (simp; omega)) _ | assumption | exact Below.refl _ _ | refine Below.dr ?_ | refine Below.drN ?_ _ | refine Below.step ?_ (by assumption)))⟩
  case round =>
    obtain ⟨k, hk, rfl, hb⟩ := hrel
    by_cases hlt : k < us.length
    · obtain ⟨b, o, rfl, hB, hx0, hxs⟩ := (H.out.below hb).at_ hlt
      obtain ⟨b', o', rfl, hB', hy0, hys⟩ := (H'.out.below hb).at_ hlt
      obtain ⟨a, ha⟩ : ∃ a, us[k] = a := ⟨_, rfl⟩
      rw [ha] at hx0 hy0
      clear ha hxs hys
      have zb := bsz (World.block_lt_of_cell? _ _ hx0)
      have zb' := bsz (World.block_lt_of_cell? _ _ hy0)
      go_wp2
      obtain ⟨C, HC0⟩ := class_of (InF wr.heap.size _ [(⟨b, o + k, none⟩, .int .i64 a), (⟨b', o' + k, none⟩, .int .i64 a)] [] [])
      have HC := Lib.hid HC0
      clear HC0
      refine wp_region_flow (C := C) (by kernel_rfl) (by kernel_rfl) (fun L hL => (HC.out _ _).2 (InF.start (by first | (intro _ hs; cases hs; done) | (simp only [List.forall_mem_cons]; go_simp)) (by first | (intro _ hs; cases hs; done) | (simp only [List.forall_mem_cons]; go_simp)) (by first | (intro _ hs; cases hs; done) | (simp only [List.forall_mem_cons]; go_simp)) (by first | (intro _ hs; cases hs; done) | (simp only [List.forall_mem_cons]; go_simp)) L hL)) ?_
      repeat (first | (apply flow_free rfl; (intro L w' hun hrd hC; have hC := (HC.out _ _).1 hC; have hb' := hC.below; (try have hw' : Below w.heap.size w w' := by first | exact Below.trans (by (repeat (first | with_reducible exact Below.refl _ _ | with_reducible assumption | with_reducible refine Below.al ?_ _ | with_reducible refine Below.sc ?_ (by first | exact Nat.le_refl _ | (simp; done) | (simp; omega)) _ | assumption | exact Below.refl _ _ | refine Below.dr ?_ | refine Below.drN ?_ _ | refine Below.step ?_ (by assumption)))) hb' | ((repeat (first | with_reducible exact Below.refl _ _ | with_reducible assumption | with_reducible refine Below.al ?_ _ | with_reducible refine Below.sc ?_ (by first | exact Nat.le_refl _ | (simp; done) | (simp; omega)) _ | assumption | exact Below.refl _ _ | refine Below.dr ?_ | refine Below.drN ?_ _ | refine Below.step ?_ (by assumption))); done)); have hf' := hC.cell; (try simp only [List.forall_mem_cons] at hf'); go_simp; first | exact ⟨(HC.out _ _).2 (hC.skip _ (by rfl)), rfl⟩ | (rw [if_neg]; (exact ⟨(HC.out _ _).2 (hC.skip _ (by rfl)), rfl⟩); omega) | fail); go_simp) | (apply flow_yes; (case hw => go_simp); (intro L w' hun hrd hC; have hC := (HC.out _ _).1 hC; have hb' := hC.below; (try have hw' : Below w.heap.size w w' := by first | exact Below.trans (by (repeat (first | with_reducible exact Below.refl _ _ | with_reducible assumption | with_reducible refine Below.al ?_ _ | with_reducible refine Below.sc ?_ (by first | exact Nat.le_refl _ | (simp; done) | (simp; omega)) _ | assumption | exact Below.refl _ _ | refine Below.dr ?_ | refine Below.drN ?_ _ | refine Below.step ?_ (by assumption)))) hb' | ((repeat (first | with_reducible exact Below.refl _ _ | with_reducible assumption | with_reducible refine Below.al ?_ _ | with_reducible refine Below.sc ?_ (by first | exact Nat.le_refl _ | (simp; done) | (simp; omega)) _ | assumption | exact Below.refl _ _ | refine Below.dr ?_ | refine Below.drN ?_ _ | refine Below.step ?_ (by assumption))); done)); have hf' := hC.cell; (try simp only [List.forall_mem_cons] at hf'); go_simp; first | exact ⟨(HC.out _ _).2 (hC.skip _ (by rfl)), rfl⟩ | (rw [if_neg]; (exact ⟨(HC.out _ _).2 (hC.skip _ (by rfl)), rfl⟩); omega) | fail); go_simp) | (apply flow_no; (case hw => (go_simp; try (intro hh; cases hh))); (intro L w' _ _ hC; exact (HC.out _ _).2 (((HC.out _ _).1 hC).skip _ (by rfl))); go_simp))
      refine flow_nil ?_
      intro L wz hL hz
      have hz := (HC.out _ _).1 hz
      have hbz := hz.below
      have hcz := hz.cell
      try simp only [List.forall_mem_cons] at hcz
      have hdz := hz.done
      try simp only [List.forall_mem_cons] at hdz
      (try have hwz : Below w.heap.size w wz := by first | exact Below.trans (by (repeat (first | with_reducible exact Below.refl _ _ | with_reducible assumption | with_reducible refine Below.al ?_ _ | with_reducible refine Below.sc ?_ (by first | exact Nat.le_refl _ | (simp; done) | (simp; omega)) _ | assumption | exact Below.refl _ _ | refine Below.dr ?_ | refine Below.drN ?_ _ | refine Below.step ?_ (by assumption)))) hbz | ((repeat (first | with_reducible exact Below.refl _ _ | with_reducible assumption | with_reducible refine Below.al ?_ _ | with_reducible refine Below.sc ?_ (by first | exact Nat.le_refl _ | (simp; done) | (simp; omega)) _ | assumption | exact Below.refl _ _ | refine Below.dr ?_ | refine Below.drN ?_ _ | refine Below.step ?_ (by assumption))); done))
      go_wp2
      exact ⟨⟨k + 1, by omega, by go_num, Below.step hb hbz⟩, by simp [intOf]; omega⟩
    · go_wp2
      go_ret
      exact ⟨rfl, by (repeat (first | with_reducible exact Below.refl _ _ | with_reducible assumption | with_reducible refine Below.al ?_ _ | with_reducible refine Below.sc ?_ (by first | exact Nat.le_refl _ | (simp; done) | (simp; omega)) _ | assumption | exact Below.refl _ _ | refine Below.dr ?_ | refine Below.drN ?_ _ | refine Below.step ?_ (by assumption)))⟩
theorem elemIntL : Elem Tryz.prog 30 3 1 8 := elem_of Tryz.underlying30 (z := .int .i64 0) (by kernel_rfl) rfl (by omega)
def ToIRel (us : List Int) (w : World) (i : Value) (wr : World) : Prop :=
  ∃ k : Nat, k ≤ us.length ∧ i = .int .i64 k ∧ FillRow (NewB w wr) wr 3 1 (fun _ _ s cs => IntAt s cs) w.heap.size us.length k us ∧ Below w.heap.size w wr
set_option maxRecDepth 100000 in
set_option maxHeartbeats 3200000 in
theorem toIntS_own {B : Nat → Prop} (us : List Int) (va : Value) (w : World) (h : IntsAt B w va us) (hlen : us.length ≤ 1048576) :
    Calls Tryz.prog 52 #[va] w fun e w' => ∃ g, e = .returned (.slice (some ⟨g, 0, none⟩) us.length us.length) ∧ IntOwn 3 (NewB w w') w' us (.slice (some ⟨g, 0, none⟩) us.length us.length) ∧ Below w.heap.size w w' := by
  obtain ⟨p, c, rfl, -⟩ := h.form
  have H := Lib.hid h
  obtain ⟨-, i, z, hi, hz, hsz, hby, hzs, -⟩ := elemIntL
  clear h
  go_enter Tryz.func52, Tryz.ntmps52
  go_wp2_with (at_make; refine wpList_make_full _ rfl _ _ _ rfl w.heap.size 3 i z 1 Tryz.underlying30 hi hz hsz _ _ _ _ us.length rfl rfl rfl rfl (by rw [hby]; omega) (by unfold maxLen; omega) (Nat.le_refl _) ?_; intro w1 ho1 hg1)
  have hb1 : Below w.heap.size w w1 := ⟨hg1.os, hg1.tape, hg1.output, hg1.size, fun k hk => hg1.block k hk (by simp)⟩
  have HF1 := Lib.hid (show FillRow (NewB w w1) w1 3 1 (fun _ _ s cs => IntAt s cs) w.heap.size us.length 0 us from FillRow.start ⟨Nat.le_refl _, own_lt ho1⟩ ho1)
  clear ho1 hg1
  go_loopw [4] (ToIRel us w) (fun i _ => us.length - (intOf i).toNat)
  case atStart => exact ⟨0, Nat.zero_le _, rfl, HF1.out, hb1⟩
  case round =>
    obtain ⟨k, hk, rfl, hf, hb⟩ := hrel
    have HF := Lib.hid hf
    have hgw := hf.lt
    clear hf HF1 hb1
    by_cases hlt : k < us.length
    · obtain ⟨b, o, rfl, hB, hx0, hxs⟩ := (H.out.below hb).at_ hlt
      have hcz := HF.out.cell k (by omega)
      obtain ⟨⟨q0, hq0⟩, hf0⟩ := hcz
      obtain ⟨a, ha⟩ : ∃ a, us[k] = a := ⟨_, rfl⟩
      have HK : Hid (us[k]? = some a) := Lib.hid (by rw [List.getElem?_eq_getElem hlt, ha])
      rw [ha] at hx0 hxs
      have HXS := Lib.hid hxs
      clear ha hxs
      have hgb := bsz hgw
      go_wp2
      refine ⟨⟨k + 1, by omega, by go_num, ?_, hb.setCell (Nat.le_refl _) _⟩, by simp [intOf]; omega⟩
      refine FillRow.put (T := fun _ => False) (S := NewB w _) (HF.out.wider (fun b hb => ⟨hb.1, by simpa using hb.2⟩)) hlt HK.out (Below.refl _ _) rfl ⟨rfl, HXS.out⟩ (fun _ h => h.elim) (fun cur hc hz => ⟨_, heap_setCell_same wr _ k cur _ (.int .i64 a) hc, ?_⟩) (by simp) (fun _ _ _ _ hx => hx)
      have := Patch.set (cur := cur) (cur' := cur) (o := k * 1) (cs := [q0]) ⟨rfl, fun j hj => ?_, fun _ _ => rfl⟩ (j := 0) (by simp) hz (.int .i64 a)
      · simpa using this
      · obtain rfl : j = 0 := by simpa using hj
        have h1 := (cell_of_row wr _ k cur _ (0, 0) hc).symm.trans hq0
        simpa using h1
    · obtain rfl : k = us.length := by omega
      go_wp2
      go_ret
      exact ⟨_, rfl, HF.out.done (by unfold maxLen; omega), hb⟩
end Go.Proofs.YtcegllnljaapiaaGreatDoor
namespace Go.Proofs.YtcegllnljaapiaaGreatDoor
open Go.RowKit
structure Stp where
  rule : Int
  ps : List Int
  wh : List Int
  c : List Lit3
def StpAt (B : Nat → Prop) (m : Nat) (w : World) (s : Stp) (cs : List Value) : Prop :=
  ∃ va vb vc, cs = [.int .i64 s.rule, va, vb, vc] ∧ i64B s.rule ∧ IntsAt B w va s.ps ∧ IntsAt B w vb s.wh ∧ ClsAt B m w s.c vc
theorem StpAt.mono {B B' : Nat → Prop} {m m' : Nat} {w w' : World} {s : Stp} {cs : List Value} (hs : SameOn B w w') (hB : ∀ b, B b → B' b) (hm : m ≤ m') (h : StpAt B m w s cs) : StpAt B' m' w' s cs := by
  obtain ⟨va, vb, vc, h1, h2, h3, h4, h5⟩ := h
  exact ⟨va, vb, vc, h1, h2, h3.mono hs hB, h4.mono hs hB, h5.mono hs hB hm⟩
theorem StpAt.below {B : Nat → Prop} {m : Nat} {w w' : World} {s : Stp} {cs : List Value} (hb : Below w.heap.size w w') (h : StpAt B m w s cs) : StpAt B m w' s cs := h.mono (SameOn.below hb) (fun _ h => h) (Nat.le_refl _)
theorem ClsAt.form' {B : Nat → Prop} {m : Nat} {w : World} {c : List Lit3} {v : Value} (h : ClsAt B m w c v) : ∃ p d, v = .slice p c.length d ∧ c.length ≤ maxLen := (show ListAt B w 3 (LitAt B m w) v c from h).form
theorem StpAt.form {B : Nat → Prop} {m : Nat} {w : World} {s : Stp} {v0 v1 v2 v3 : Value} (h : StpAt B m w s [v0, v1, v2, v3]) :
    ∃ p c q d r e, v0 = .int .i64 s.rule ∧ v1 = .slice p s.ps.length c ∧ v2 = .slice q s.wh.length d ∧ v3 = .slice r s.c.length e ∧ i64B s.rule ∧ s.ps.length ≤ maxLen ∧ s.wh.length ≤ maxLen ∧ s.c.length ≤ maxLen ∧ IntsAt B w v1 s.ps ∧ IntsAt B w v2 s.wh ∧ ClsAt B m w s.c v3 := by
  obtain ⟨va, vb, vc, h1, h2, h3, h4, h5⟩ := h
  simp only [List.cons.injEq, and_true] at h1
  obtain ⟨rfl, rfl, rfl, rfl⟩ := h1
  obtain ⟨p, c, rfl, l1⟩ := h3.form
  obtain ⟨q, d, rfl, l2⟩ := h4.form
  obtain ⟨r, e, rfl, l3⟩ := h5.form'
  exact ⟨p, c, q, d, r, e, rfl, rfl, rfl, rfl, h2, l1, l2, l3, h3, h4, h5⟩
/-- The rest of a list in memory. -/
theorem ListAt.rest {α : Type} {B : Nat → Prop} {w : World} {size : Nat} {R : α → List Value → Prop} {b o n c n' c' : Nat} {xs : List α} (h : ListAt B w size R (.slice (some ⟨b, o, none⟩) n c) xs) (k : Nat) (hn : n' = xs.length - k) : ListAt B w size R (.slice (some ⟨b, o + k * size, none⟩) n' c') (xs.drop k) := by
  obtain ⟨p', c1, h1, h2, h3⟩ := h
  injection h1 with e1 e2 e3
  subst e1 hn
  refine ⟨_, _, by rw [List.length_drop], by rw [List.length_drop]; omega, fun i x hx => ?_⟩
  rw [List.getElem?_drop] at hx
  obtain ⟨b', o', h4, h0, cs, h5, h6, h7⟩ := h3 _ x hx
  injection h4 with e
  injection e with e1 e2
  subst e1 e2
  refine ⟨b, _, rfl, h0, cs, h5, fun j hj => ?_, h7⟩
  rw [← h6 j hj]
  congr 2
  rw [Nat.add_mul]; omega
/-! ### Which steps are good -/
def in99 (n : Int) : Bool := inB n 0 99
def posB (l : List Int) : Bool := decide (l.length ≤ 8) && l.all (fun n => inB n 0 3)
def Stp.nums (s : Stp) : Bool :=
  if s.rule = 1 then decide (s.ps.length = 0) && decide (s.wh.length = 1)
  else if s.rule = 2 then decide (s.ps.length = 2) && decide (s.wh.length = 2)
  else if s.rule = 3 then decide (s.ps.length = 1) && decide (s.wh.length = 2)
  else if s.rule = 4 then decide (s.ps.length = 2) && decide (3 < s.wh.length) && inB (s.wh.getD 1 0) 0 1 && posB (s.wh.drop 3)
  else if s.rule = 5 then decide (s.ps.length = 1) && decide (s.wh.length = 1)
  else if s.rule = 6 then decide (2 ≤ s.ps.length) && decide (s.ps.length ≤ 11) && decide (s.wh.length = 0)
  else false
/-- The rest of what the reference asks of a step, by its rule. -/
def Stp.numsR (s : Stp) : Bool :=
  if s.rule = 1 then decide (s.ps.length = 0) && decide (s.wh.length = 1)
  else if s.rule = 2 then decide (s.ps.length = 2) && decide (s.wh.length = 2)
  else if s.rule = 3 then decide (s.ps.length = 1) && decide (s.wh.length = 2)
  else if s.rule = 5 then decide (s.ps.length = 1) && decide (s.wh.length = 1)
  else if s.rule = 6 then decide (2 ≤ s.ps.length) && decide (s.ps.length ≤ 11) && decide (s.wh.length = 0)
  else if s.rule = 4 then decide (s.ps.length = 2) && decide (3 < s.wh.length) && in99 (s.wh.getD 0 0) && inB (s.wh.getD 1 0) 0 1 && in99 (s.wh.getD 2 0) && posB (s.wh.drop 3)
  else false
def numsB (l : List Int) : Bool := l.all in99 && decide (l.length ≤ 12)
/-- What the reference asks of a step. -/
def Stp.shape (s : Stp) (k : Int) : Bool := s.ps.all (fun n => inB n 0 (k - 1)) && (numsB s.wh || decide (s.rule = 4)) && s.numsR
def Stp.shp (s : Stp) (k : Int) : Bool := s.nums && s.ps.all (fun n => inB n 0 (k - 1)) && s.wh.all in99
theorem inB_sub {n a b a' b' : Int} (h : inB n a b = true) (ha : a' ≤ a) (hb : b ≤ b') : inB n a' b' = true := by
  simp only [inB, Bool.and_eq_true, decide_eq_true_eq] at *; omega
theorem Stp.shape_eq (s : Stp) (k : Int) : s.shape k = s.shp k := by
  obtain ⟨r, ps, wh, c⟩ := s
  simp only [Stp.shape, Stp.shp, Stp.nums, Stp.numsR]
  by_cases h4 : r = 4
  · subst h4
    simp only [decide_true, Bool.or_true, Bool.and_true, show ¬ (4 : Int) = 1 by decide, show ¬ (4 : Int) = 2 by decide, show ¬ (4 : Int) = 3 by decide, show ¬ (4 : Int) = 5 by decide, show ¬ (4 : Int) = 6 by decide, if_true, if_false]
    match wh with
    | [] => simp
    | [_] => simp
    | [_, _] => simp
    | a :: b :: d :: l =>
      simp only [List.getD_cons_zero, List.getD_cons_succ, List.drop_succ_cons, List.drop_zero, List.all_cons]
      cases hb : inB b 0 1
      · simp
      have hb2 : in99 b = true := inB_sub hb (by omega) (by omega)
      cases hp : posB l
      · simp
      have hp2 : l.all in99 = true := by
        simp only [posB, Bool.and_eq_true, List.all_eq_true] at hp
        exact List.all_eq_true.2 fun x hx => inB_sub (hp.2 x hx) (by omega) (by omega)
      rw [hb2, hp2]
      cases in99 a <;> cases in99 d <;> cases ps.all (fun n => inB n 0 (k - 1)) <;> simp
  · simp only [h4, decide_false, Bool.or_false, if_false]
    cases ps.all (fun n => inB n 0 (k - 1))
    · simp
    simp only [Bool.true_and, Bool.and_true]
    have hn : ∀ (n : Nat) (X : Bool), n ≤ 12 → (numsB wh && (X && decide (wh.length = n))) = (X && decide (wh.length = n) && wh.all in99) := fun n X hn => by
      by_cases hl : wh.length = n
      · rw [numsB, decide_eq_true (show wh.length ≤ 12 by omega), decide_eq_true hl]; cases X <;> simp
      · rw [decide_eq_false hl]; simp
    split
    · exact hn 1 _ (by omega)
    split
    · exact hn 2 _ (by omega)
    split
    · exact hn 2 _ (by omega)
    split
    · exact hn 1 _ (by omega)
    split
    · exact hn 0 _ (by omega)
    simp
/-- A step that may be written. -/
def Stp.good (s : Stp) (k : Int) : Bool := inB k 0 59 && s.shp k && Cls.good s.c
theorem lenI2 {l : List Int} (h : l.length = 2) : ∃ a b, l = [a, b] := by
  match l, h with
  | [a, b], _ => exact ⟨a, b, rfl⟩
theorem lenI1 {l : List Int} (h : l.length = 1) : ∃ a, l = [a] := by
  match l, h with
  | [a], _ => exact ⟨a, rfl⟩
theorem Stp.nums_cases {s : Stp} (h : s.nums = true) :
    (s.rule = 1 ∧ s.ps = [] ∧ ∃ a, s.wh = [a]) ∨ (s.rule = 2 ∧ (∃ p q, s.ps = [p, q]) ∧ ∃ a b, s.wh = [a, b]) ∨ (s.rule = 3 ∧ (∃ p, s.ps = [p]) ∧ ∃ a b, s.wh = [a, b]) ∨
    (s.rule = 4 ∧ (∃ p q, s.ps = [p, q]) ∧ ∃ a b d l, s.wh = a :: b :: d :: l ∧ l ≠ [] ∧ (b = 0 ∨ b = 1) ∧ posB l = true) ∨ (s.rule = 5 ∧ (∃ p, s.ps = [p]) ∧ ∃ a, s.wh = [a]) ∨ (s.rule = 6 ∧ (∃ p l, s.ps = p :: l ∧ l ≠ [] ∧ l.length ≤ 10) ∧ s.wh = []) := by
  rw [Stp.nums] at h
  split at h
  · simp only [Bool.and_eq_true, decide_eq_true_eq] at h
    exact .inl ⟨by assumption, List.eq_nil_of_length_eq_zero h.1, lenI1 h.2⟩
  split at h
  · simp only [Bool.and_eq_true, decide_eq_true_eq] at h
    exact .inr (.inl ⟨by assumption, lenI2 h.1, lenI2 h.2⟩)
  split at h
  · simp only [Bool.and_eq_true, decide_eq_true_eq] at h
    exact .inr (.inr (.inl ⟨by assumption, lenI1 h.1, lenI2 h.2⟩))
  split at h
  · simp only [Bool.and_eq_true, decide_eq_true_eq] at h
    obtain ⟨⟨⟨h1, h2⟩, h3⟩, h4⟩ := h
    refine .inr (.inr (.inr (.inl ⟨by assumption, lenI2 h1, ?_⟩)))
    match hw : s.wh, h2 with
    | a :: b :: d :: e :: l, _ =>
      rw [hw] at h3 h4
      refine ⟨a, b, d, e :: l, rfl, by simp, ?_, h4⟩
      simp only [List.getD_cons_succ, List.getD_cons_zero, inB, Bool.and_eq_true, decide_eq_true_eq] at h3
      omega
  split at h
  · simp only [Bool.and_eq_true, decide_eq_true_eq] at h
    exact .inr (.inr (.inr (.inr (.inl ⟨by assumption, lenI1 h.1, lenI1 h.2⟩))))
  split at h
  · simp only [Bool.and_eq_true, decide_eq_true_eq] at h
    obtain ⟨⟨h1, h2⟩, h3⟩ := h
    refine .inr (.inr (.inr (.inr (.inr ⟨by assumption, ?_, List.eq_nil_of_length_eq_zero h3⟩))))
    match hw : s.ps, h1, h2 with
    | a :: b :: l, h1, h2 => exact ⟨a, b :: l, rfl, by simp, by simpa using h2⟩
  · cases h
theorem beqN0 (n : Nat) : ((n : Int) == 0) = decide (n = 0) := by rw [Bool.eq_iff_iff, beq_iff_eq, decide_eq_true_iff]; omega
theorem beqN1 (n : Nat) : ((n : Int) == 1) = decide (n = 1) := by rw [Bool.eq_iff_iff, beq_iff_eq, decide_eq_true_iff]; omega
theorem beqN2 (n : Nat) : ((n : Int) == 2) = decide (n = 2) := by rw [Bool.eq_iff_iff, beq_iff_eq, decide_eq_true_iff]; omega
theorem leN2 (n : Nat) : decide ((2 : Int) ≤ n) = decide (2 ≤ n) := by rw [decide_eq_decide]; omega
theorem leN11 (n : Nat) : decide ((n : Int) ≤ 11) = decide (n ≤ 11) := by rw [decide_eq_decide]; omega
/-! ### English -/
def cnt (n : Int) : List UInt8 := Lib.itoa (n + 1)
def sByAx : List UInt8 := [66, 121, 32, 97, 120, 105, 111, 109, 32]
def sFrom : List UInt8 := [70, 114, 111, 109, 32]
def sResL : List UInt8 := [32, 98, 121, 32, 114, 101, 115, 111, 108, 118, 105, 110, 103, 32, 108, 105, 116, 101, 114, 97, 108, 32]
def sWithL : List UInt8 := [32, 119, 105, 116, 104, 32, 108, 105, 116, 101, 114, 97, 108, 32]
def sMerge : List UInt8 := [32, 98, 121, 32, 109, 101, 114, 103, 105, 110, 103, 32, 108, 105, 116, 101, 114, 97, 108, 115, 32]
def sRepl : List UInt8 := [32, 98, 121, 32, 114, 101, 112, 108, 97, 99, 105, 110, 103, 32, 105, 110, 32, 108, 105, 116, 101, 114, 97, 108, 32]
def sAt : List UInt8 := [32, 97, 116, 32]
def sRead : List UInt8 := [32, 114, 101, 97, 100, 32, 102, 114, 111, 109, 32, 116, 104, 101, 32]
def sLeft : List UInt8 := [108, 101, 102, 116]
def sRight : List UInt8 := [114, 105, 103, 104, 116]
def sRem : List UInt8 := [32, 98, 121, 32, 114, 101, 109, 111, 118, 105, 110, 103, 32, 108, 105, 116, 101, 114, 97, 108, 32]
def sRew : List UInt8 := [32, 98, 121, 32, 114, 101, 119, 114, 105, 116, 105, 110, 103, 32, 119, 105, 116, 104, 32]
def posT (l : List Int) : List UInt8 := if l = [] then [45] else joinB [46] (l.map Lib.itoa)
def Stp.org (s : Stp) : List UInt8 :=
  if s.rule = 1 then sByAx ++ cnt (s.wh.getD 0 0)
  else if s.rule = 2 then sFrom ++ cnt (s.ps.getD 0 0) ++ sAnd ++ cnt (s.ps.getD 1 0) ++ sResL ++ cnt (s.wh.getD 0 0) ++ sWithL ++ cnt (s.wh.getD 1 0)
  else if s.rule = 3 then sFrom ++ cnt (s.ps.getD 0 0) ++ sMerge ++ cnt (s.wh.getD 0 0) ++ sAnd ++ cnt (s.wh.getD 1 0)
  else if s.rule = 4 then sFrom ++ cnt (s.ps.getD 0 0) ++ sAnd ++ cnt (s.ps.getD 1 0) ++ sRepl ++ cnt (s.wh.getD 2 0) ++ sAt ++ posT (s.wh.drop 3) ++ sWithL ++ cnt (s.wh.getD 0 0) ++ sRead ++ (if s.wh.getD 1 0 = 1 then sRight else sLeft)
  else if s.rule = 5 then sFrom ++ cnt (s.ps.getD 0 0) ++ sRem ++ cnt (s.wh.getD 0 0)
  else sFrom ++ cnt (s.ps.getD 0 0) ++ sRew ++ joinB sComma ((s.ps.drop 1).map cnt)
def Stp.eng (s : Stp) (k : Int) : List UInt8 := cnt k ++ [46, 32] ++ s.org ++ sComma ++ Cls.eng s.c ++ [46]
def Stp.engG (s : Stp) (k : Int) : List UInt8 := if s.good k then s.eng k else []
/-! ### Sizes -/
theorem cnt_len {n : Int} (h0 : 0 ≤ n) (h1 : n ≤ 99) : (cnt n).length ≤ 20 := itoa_len (n + 1) (by omega) (by omega)
theorem joinB_bd {sep : List UInt8} (L : Nat) : ∀ l : List (List UInt8), (∀ x ∈ l, x.length ≤ L) → (joinB sep l).length ≤ (L + sep.length) * l.length
  | [], _ => by simp [joinB]
  | [a], h => by
    have := h a (by simp)
    rw [joinB]; simp; omega
  | a :: b :: l, h => by
    have h1 := h a (by simp)
    have h2 := joinB_bd (sep := sep) L (b :: l) (fun x hx => h x (List.mem_cons_of_mem _ hx))
    rw [joinB, List.length_append, List.length_append, List.length_cons, Nat.mul_succ]
    omega
theorem posT_len {l : List Int} (h : posB l = true) : (posT l).length ≤ 168 := by
  simp only [posB, Bool.and_eq_true, decide_eq_true_eq, List.all_eq_true] at h
  rw [posT]
  split
  · decide
  · have := joinB_bd (sep := [46]) 20 (l.map Lib.itoa) (fun x hx => by
      obtain ⟨y, hy, rfl⟩ := List.mem_map.1 hx
      have h2 := h.2 y hy
      simp only [inB, Bool.and_eq_true, decide_eq_true_eq] at h2
      exact itoa_len y (by omega) (by omega))
    rw [List.length_map] at this
    simp only [List.length_cons, List.length_nil] at this
    omega
theorem rewT_len {l : List Int} (h : ∀ x ∈ l, 0 ≤ x ∧ x ≤ 99) (hl : l.length ≤ 10) : (joinB sComma (l.map cnt)).length ≤ 220 := by
  have := joinB_bd (sep := sComma) 20 (l.map cnt) (fun x hx => by
    obtain ⟨y, hy, rfl⟩ := List.mem_map.1 hx
    exact cnt_len (h y hy).1 (h y hy).2)
  rw [List.length_map] at this
  simp only [sComma, List.length_cons, List.length_nil] at this ⊢
  omega
theorem Stp.org_len {s : Stp} (hg : s.nums = true) (hp : ∀ x ∈ s.ps, 0 ≤ x ∧ x ≤ 99) (hw : ∀ x ∈ s.wh, 0 ≤ x ∧ x ≤ 99) : s.org.length ≤ 2000 := by
  have hc := Stp.nums_cases hg
  obtain ⟨ru, ps, wh, cl⟩ := s
  simp only at hc hp hw
  rcases hc with ⟨rfl, rfl, a, rfl⟩ | ⟨rfl, ⟨x, y, rfl⟩, a, z, rfl⟩ | ⟨rfl, ⟨x, rfl⟩, a, z, rfl⟩ | ⟨rfl, ⟨x, y, rfl⟩, a, z, t, l, rfl, hl0, hz, hpl⟩ | ⟨rfl, ⟨x, rfl⟩, a, rfl⟩ | ⟨rfl, ⟨x, l, rfl, hl0, hl10⟩, rfl⟩
  · have la := cnt_len (n := a) (hw a (by simp)).1 (hw a (by simp)).2
    simp [Stp.org, sByAx]; omega
  · have la := cnt_len (n := a) (hw a (by simp)).1 (hw a (by simp)).2
    have lz := cnt_len (n := z) (hw z (by simp)).1 (hw z (by simp)).2
    have lx := cnt_len (n := x) (hp x (by simp)).1 (hp x (by simp)).2
    have ly := cnt_len (n := y) (hp y (by simp)).1 (hp y (by simp)).2
    simp [Stp.org, sFrom, sAnd, sResL, sWithL]; omega
  · have la := cnt_len (n := a) (hw a (by simp)).1 (hw a (by simp)).2
    have lz := cnt_len (n := z) (hw z (by simp)).1 (hw z (by simp)).2
    have lx := cnt_len (n := x) (hp x (by simp)).1 (hp x (by simp)).2
    simp [Stp.org, sFrom, sAnd, sMerge]; omega
  · have la := cnt_len (n := a) (hw a (by simp)).1 (hw a (by simp)).2
    have lt := cnt_len (n := t) (hw t (by simp)).1 (hw t (by simp)).2
    have lx := cnt_len (n := x) (hp x (by simp)).1 (hp x (by simp)).2
    have ly := cnt_len (n := y) (hp y (by simp)).1 (hp y (by simp)).2
    have lp := posT_len hpl
    have ls : (if z = 1 then sRight else sLeft).length ≤ 5 := by split <;> decide
    simp [Stp.org, sFrom, sAnd, sRepl, sAt, sWithL, sRead]; omega
  · have la := cnt_len (n := a) (hw a (by simp)).1 (hw a (by simp)).2
    have lx := cnt_len (n := x) (hp x (by simp)).1 (hp x (by simp)).2
    simp [Stp.org, sFrom, sRem]; omega
  · have lx := cnt_len (n := x) (hp x (by simp)).1 (hp x (by simp)).2
    have lr := rewT_len (fun y hy => hp y (List.mem_cons_of_mem _ hy)) hl10
    simp [Stp.org, sFrom, sRew]; omega
theorem Cls.eng_len {c : List Lit3} (h8 : c.length ≤ 8) (ha : ∀ l ∈ c, l.a.atom = true) (hw : Cls.wts c ≤ 1048576) : (Cls.eng c).length ≤ 40000000 := by
  unfold Cls.eng
  split
  · decide
  · exact disj_len (by omega) h8 ha hw
end Go.Proofs.YtcegllnljaapiaaGreatDoor
