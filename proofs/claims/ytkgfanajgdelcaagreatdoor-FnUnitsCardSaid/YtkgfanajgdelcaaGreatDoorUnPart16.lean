import Derived.Test.YtkgfanajgdelcaaGreatDoorUnPart13
namespace Go.Proofs.YtkgfanajgdelcaaGreatDoor
set_option maxRecDepth 100000
open Go.RowKit
def TxtAt (P : Program) (k : FuncId) (B : Nat → Prop) (m : Nat) : Prop := ∀ (t : Fm) (v0 v1 v2 v3 v4 : Value) (w : World), FmAt B m w t [v0, v1, v2, v3, v4] → t.form = true → t.txt.length ≤ 1000000000000 →
      Calls P k #[.agg #[v0, v1, v2, v3, v4]] w fun e w' => e = .returned (.string ⟨t.txt.toArray⟩) ∧ Below w.heap.size w w'
theorem TxtAt.call {P : Program} {k : FuncId} {B : Nat → Prop} {m : Nat} (ih : TxtAt P k B m) (t : Fm) (v0 v1 v2 v3 v4 : Value) (w : World) (h : FmAt B m w t [v0, v1, v2, v3, v4]) (hf : t.form = true) (hz : t.txt.length ≤ 1000000000000) :
      Calls P k #[.agg #[v0, v1, v2, v3, v4]] w fun e w' => e = .returned (.string ⟨t.txt.toArray⟩) ∧ Below w.heap.size w w' := ih t v0 v1 v2 v3 v4 w h hf hz
theorem FmAt.oneT {B : Nat → Prop} {m : Nat} {w : World} {g : Fm} {p : Option Addr} {c : Nat} (h : ListAt B w 5 (FmAt B m w) (.slice p 1 c) [g]) :
    ∃ b o x0 x1 x2 x3 x4, p = some ⟨b, o, none⟩ ∧ w.cell? ⟨b, o, none⟩ = some x0 ∧ w.cell? ⟨b, o + 1, none⟩ = some x1 ∧ w.cell? ⟨b, o + 2, none⟩ = some x2 ∧ w.cell? ⟨b, o + 3, none⟩ = some x3 ∧ w.cell? ⟨b, o + 4, none⟩ = some x4 ∧ FmAt B m w g [x0, x1, x2, x3, x4] := by
  obtain ⟨b, o, rfl, _, x0, x1, x2, x3, x4, hx0, hx1, hx2, hx3, hx4, hx⟩ := h.at5 (i := 0) (by simp)
  exact ⟨b, o, x0, x1, x2, x3, x4, rfl, by simpa using hx0, by simpa using hx1, by simpa using hx2, by simpa using hx3, by simpa using hx4, hx⟩
theorem FmAt.twoT {B : Nat → Prop} {m : Nat} {w : World} {g h : Fm} {p : Option Addr} {c : Nat} (hl : ListAt B w 5 (FmAt B m w) (.slice p 2 c) [g, h]) :
    ∃ b o x0 x1 x2 x3 x4 y0 y1 y2 y3 y4, p = some ⟨b, o, none⟩ ∧ (w.cell? ⟨b, o, none⟩ = some x0 ∧ w.cell? ⟨b, o + 1, none⟩ = some x1 ∧ w.cell? ⟨b, o + 2, none⟩ = some x2 ∧ w.cell? ⟨b, o + 3, none⟩ = some x3 ∧ w.cell? ⟨b, o + 4, none⟩ = some x4) ∧
      (w.cell? ⟨b, o + 5, none⟩ = some y0 ∧ w.cell? ⟨b, o + 6, none⟩ = some y1 ∧ w.cell? ⟨b, o + 7, none⟩ = some y2 ∧ w.cell? ⟨b, o + 8, none⟩ = some y3 ∧ w.cell? ⟨b, o + 9, none⟩ = some y4) ∧ FmAt B m w g [x0, x1, x2, x3, x4] ∧ FmAt B m w h [y0, y1, y2, y3, y4] := by
  obtain ⟨b, o, rfl, _, x0, x1, x2, x3, x4, hx0, hx1, hx2, hx3, hx4, hx⟩ := hl.at5 (i := 0) (by simp)
  obtain ⟨b', o', he, _, y0, y1, y2, y3, y4, hy0, hy1, hy2, hy3, hy4, hy⟩ := hl.at5 (i := 1) (by simp)
  simp only [Option.some.injEq, Addr.mk.injEq, and_true] at he
  obtain ⟨rfl, rfl⟩ := he
  exact ⟨b, o, x0, x1, x2, x3, x4, y0, y1, y2, y3, y4, rfl, ⟨by simpa using hx0, by simpa using hx1, by simpa using hx2, by simpa using hx3, by simpa using hx4⟩, ⟨by simpa using hy0, by simpa using hy1, by simpa using hy2, by simpa using hy3, by simpa using hy4⟩, hx, hy⟩
set_option maxHeartbeats 1600000 in
theorem l3Term_eq {B : Nat → Prop} (m : Nat) (a b : Tm) (v0 v1 : Value) (w : World) (h : TmAt B m w (eqTm a b) [v0, v1]) (ha : a.nodes = true) (hb : b.nodes = true) (hz : (eqTm a b).fmt.length ≤ 1000000000000) :
      Calls Tryz.prog 255 #[.agg #[v0, v1]] w fun e w' => e = .returned (.string ⟨(eqTm a b).fmt.toArray⟩) ∧ Below w.heap.size w w' := by
  have hl := h.args
  obtain ⟨p, c, rfl, rfl, -, -⟩ := h.form
  clear h
  have hl2 : ListAt B w 2 (TmAt B m w) (.slice p 2 c) [a, b] := hl
  obtain ⟨g, o, pa, ca, pb, cb, rfl, hx0, hx1, hx2, hx3, hta, htb⟩ := TmAt.pair hl2
  have HE := Lib.hid (fmt_eq a b)
  have hz2 : a.fmt.length + b.fmt.length + 3 ≤ 1000000000000 := by rw [fmt_eq] at hz; simp [sEq8] at hz; omega
  have HA := Lib.hid (And.intro hta ha)
  have HB := Lib.hid (And.intro htb hb)
  clear hl hl2 hta htb ha hb hz
  show Calls Tryz.prog 255 #[.agg #[.string ⟨#[61]⟩, .slice (some ⟨g, o, none⟩) 2 c]] w _
  go_enter Tryz.func255, Tryz.ntmps255
  go_wp2
  have zg := bsz (World.block_lt_of_cell? _ _ hx0)
  obtain ⟨W, hW⟩ : ∃ W : World, W = w.alloc (.cells #[.string ⟨#[61]⟩, .slice (some ⟨g, o, none⟩) 2 c] 41) := ⟨_, rfl⟩
  have hwb : W.cell? ⟨w.heap.size, 1, none⟩ = some (.slice (some ⟨g, o, none⟩) 2 c) := by rw [hW]; go_simp
  have hbW : Below w.heap.size w W := by rw [hW]; exact bel
  rw [← hW]
  clear hW
  have ⟨cW, fW⟩ := bcell hbW
  obtain ⟨C, HC0⟩ := class_of (InF W.heap.size _ [(⟨w.heap.size, 1, none⟩, .slice (some ⟨g, o, none⟩) 2 c), (⟨g, o, none⟩, .string a.n), (⟨g, o + 1, none⟩, .slice pa a.us.length ca), (⟨g, o + 2, none⟩, .string b.n), (⟨g, o + 3, none⟩, .slice pb b.us.length cb)] [] [])
  have HC := Lib.hid HC0
  clear HC0
  refine wp_region_flow (C := C) (by kernel_rfl) (by kernel_rfl) (fun L hL => (HC.out _ _).2 (InF.start (by first | (intro _ hs; cases hs; done) | (simp only [List.forall_mem_cons]; go_simp)) (by first | (intro _ hs; cases hs; done) | (simp only [List.forall_mem_cons]; go_simp)) (by first | (intro _ hs; cases hs; done) | (simp only [List.forall_mem_cons]; go_simp)) (by first | (intro _ hs; cases hs; done) | (simp only [List.forall_mem_cons]; go_simp)) L hL)) ?_
  repeat (first | ((first | apply flow_free rfl | (apply flow_yes; (case hw => go_simp))); (intro L w' hun hrd hC; have hC := (HC.out _ _).1 hC; have hb' := hC.below; (try have hw' : Below w.heap.size w w' := by first | exact Below.trans (by (repeat (first | with_reducible (first | exact bR _ _ | assumption | refine bA ?_ _ | refine bS ?_ (by first | exact Nat.le_refl _ | (simp; done) | (simp; omega)) _) | assumption | exact bR _ _ | refine bD ?_ | refine bN ?_ _ | refine bT ?_ (by assumption)))) hb' | ((repeat (first | with_reducible (first | exact bR _ _ | assumption | refine bA ?_ _ | refine bS ?_ (by first | exact Nat.le_refl _ | (simp; done) | (simp; omega)) _) | assumption | exact bR _ _ | refine bD ?_ | refine bN ?_ _ | refine bT ?_ (by assumption))); done)); have hf' := hC.cell; (try simp only [List.forall_mem_cons] at hf'); go_simp; first | exact ⟨(HC.out _ _).2 (hC.skip _ (by rfl)), rfl⟩ | (rw [if_neg]; (exact ⟨(HC.out _ _).2 (hC.skip _ (by rfl)), rfl⟩); omega) | (go_at_call 255; (with_reducible refine (l3Term_any m a _ _ _ (HA.out.1.below hw') HA.out.2 (by omega)).mono ?_); rintro e w1 ⟨rfl, hb1⟩; exact ⟨rfl, (HC.out _ _).2 ((hC.next (by first | (simp; done) | (simp; omega) | omega) hb1).skip _ (by rfl))⟩) | (go_at_call 255; (with_reducible refine (l3Term_any m b _ _ _ (HB.out.1.below hw') HB.out.2 (by omega)).mono ?_); rintro e w1 ⟨rfl, hb1⟩; exact ⟨rfl, (HC.out _ _).2 ((hC.next (by first | (simp; done) | (simp; omega) | omega) hb1).skip _ (by rfl))⟩)); go_simp) | (apply flow_no; (case hw => (go_simp; try (intro hh; cases hh))); (intro L w' _ _ hC; exact (HC.out _ _).2 (((HC.out _ _).1 hC).skip _ (by rfl))); go_simp))
  refine flow_nil ?_
  intro L wz hL hz
  have hz := (HC.out _ _).1 hz
  have hbz := hz.below
  have hcz := hz.cell
  try simp only [List.forall_mem_cons] at hcz
  have hdz := hz.done
  try simp only [List.forall_mem_cons] at hdz
  (try have hwz : Below w.heap.size w wz := by first | exact Below.trans (by (repeat (first | with_reducible (first | exact bR _ _ | assumption | refine bA ?_ _ | refine bS ?_ (by first | exact Nat.le_refl _ | (simp; done) | (simp; omega)) _) | assumption | exact bR _ _ | refine bD ?_ | refine bN ?_ _ | refine bT ?_ (by assumption)))) hbz | ((repeat (first | with_reducible (first | exact bR _ _ | assumption | refine bA ?_ _ | refine bS ?_ (by first | exact Nat.le_refl _ | (simp; done) | (simp; omega)) _) | assumption | exact bR _ _ | refine bD ?_ | refine bN ?_ _ | refine bT ?_ (by assumption))); done))
  go_wp2
  go_ret
  exact ⟨ret_strs (by rw [HE.out]; simp [sEq8]), by exact bel⟩
theorem l3Term_atom {B : Nat → Prop} (m : Nat) (t : Tm) (v0 v1 : Value) (w : World) (h : TmAt B m w t [v0, v1]) (ht : t.atom = true) (hz : t.fmt.length ≤ 1000000000000) :
      Calls Tryz.prog 255 #[.agg #[v0, v1]] w fun e w' => e = .returned (.string ⟨t.fmt.toArray⟩) ∧ Below w.heap.size w w' := by
  cases atom_cases ht with
  | eq a b ha hb => exact l3Term_eq m a b _ _ w h ha hb hz
  | pred n us hs hu hd => exact l3Term_any m _ _ _ w h hd hz
set_option maxHeartbeats 3200000 in
theorem l8Text_any {B : Nat → Prop} : ∀ m : Nat, TxtAt Tryz.prog 214 B m := by
  intro m
  induction m with
  | zero => intro t v0 v1 v2 v3 v4 w h; exact h.elim
  | succ m ih =>
    intro t v0 v1 v2 v3 v4 w hfm hf hz
    have IH := Lib.hid ih
    clear ih
    cases form_cases hf with
    | tru =>
      obtain ⟨p, c, q, d, rfl, rfl, rfl, rfl, rfl, -⟩ := hfm.form
      clear hfm hf hz
      show Calls Tryz.prog 214 #[.agg #[.int .i64 1, .string ⟨#[]⟩, .slice p 0 c, .string ⟨#[]⟩, .slice q 0 d]] w _
      go_enter Tryz.func214, Tryz.ntmps214
      go_wp2
      go_ret
      exact ⟨ret_str (by rw [opF, Fm.txt]; rfl), by exact bel⟩
    | fal =>
      obtain ⟨p, c, q, d, rfl, rfl, rfl, rfl, rfl, -⟩ := hfm.form
      clear hfm hf hz
      show Calls Tryz.prog 214 #[.agg #[.int .i64 2, .string ⟨#[]⟩, .slice p 0 c, .string ⟨#[]⟩, .slice q 0 d]] w _
      go_enter Tryz.func214, Tryz.ntmps214
      go_wp2
      go_ret
      exact ⟨ret_str (by rw [opF, Fm.txt]; rfl), by exact bel⟩
    | atm a ha =>
      have HA := Lib.hid (show TmAt B (m + 1) w a _ from hfm.atm)
      obtain ⟨p, c, q, d, rfl, rfl, rfl, rfl, rfl, -⟩ := hfm.form
      rw [txt_atm] at hz ⊢
      have HZ := Lib.hid (And.intro ha hz)
      clear hfm hf hz
      show Calls Tryz.prog 214 #[.agg #[.int .i64 3, .string a.n, .slice p a.us.length c, .string ⟨#[]⟩, .slice q 0 d]] w _
      go_enter Tryz.func214, Tryz.ntmps214
      go_wp2_with fail
      refine (l3Term_atom (m + 1) a _ _ _ (HA.out.below (by exact bel)) HZ.out.1 HZ.out.2).mono ?_
      rintro e w1 ⟨rfl, hb1⟩
      have ⟨cw1, fw1⟩ := bcell hb1
      have qw1 := hb1.size
      (try simp at qw1)
      (try have zw1w := bsz (show w.heap.size < w1.heap.size by omega))
      go_wp2
      go_ret
      exact ⟨rfl, by exact bel⟩
    | neg g hg =>
      obtain ⟨p, c, q, d, rfl, rfl, rfl, rfl, rfl, -⟩ := hfm.form
      obtain ⟨vn, va, vp, hcs, hop, hs, ht, hl⟩ := hfm
      simp only [List.cons.injEq, and_true] at hcs
      obtain ⟨-, -, -, -, rfl⟩ := hcs
      have hl' : ListAt B w 5 (FmAt B m w) (.slice q 1 d) [g] := hl
      obtain ⟨b, o, x0, x1, x2, x3, x4, rfl, hx0, hx1, hx2, hx3, hx4, hx⟩ := FmAt.oneT hl'
      have zb := bsz (World.block_lt_of_cell? _ _ hx0)
      obtain ⟨pg, cg, qg, dg, rfl, rfl, rfl, rfl, rfl, -⟩ := hx.form
      have HT := Lib.hid (txt_neg g)
      have hz2 : g.txt.length + 3 ≤ 1000000000003 := by rw [txt_neg] at hz; split at hz <;> (simp at hz; omega)
      have HX := Lib.hid (And.intro hx hg)
      have HQ := Lib.hid (fun h => eq_form hg h)
      clear hf hz ht hl hl' hx hg
      show Calls Tryz.prog 214 #[.agg #[.int .i64 4, .string ⟨#[]⟩, .slice p 0 c, .string ⟨#[]⟩, .slice (some ⟨b, o, none⟩) 1 d]] w _
      by_cases hq : g.a.n.data.toList = [61]
      · have hq2 : (g.a.n.toList == [61]) = true := by rw [ByteArray.toList_eq]; simpa using hq
        have hop3 : (g.op == 3) = true := by obtain ⟨a, b, rfl, -⟩ := HQ.out hq; rfl
        have HN := Lib.hid hq
        clear hq
        go_enter Tryz.func214, Tryz.ntmps214
        go_wp2_with fail
        refine (TxtAt.call IH.out g _ _ _ _ _ _ (HX.out.1.below (by exact bel)) HX.out.2 (by omega)).mono ?_
        rintro e w1 ⟨rfl, hb1⟩
        have ⟨cw1, fw1⟩ := bcell hb1
        have qw1 := hb1.size
        (try simp at qw1)
        (try have zw1w := bsz (show w.heap.size < w1.heap.size by omega))
        go_wp2
        go_ret
        exact ⟨ret_strs (by rw [HT.out, if_pos HN.out]; simp), by exact bel⟩
      · have hq2 : (g.a.n.toList == [61]) = false := by rw [ByteArray.toList_eq]; simpa using hq
        have HN := Lib.hid hq
        clear hq
        cases hop3 : (g.op == 3)
        all_goals
          go_enter Tryz.func214, Tryz.ntmps214
          go_wp2_with fail
          refine (TxtAt.call IH.out g _ _ _ _ _ _ (HX.out.1.below (by exact bel)) HX.out.2 (by omega)).mono ?_
          rintro e w1 ⟨rfl, hb1⟩
          have ⟨cw1, fw1⟩ := bcell hb1
          have qw1 := hb1.size
          (try simp at qw1)
          (try have zw1w := bsz (show w.heap.size < w1.heap.size by omega))
          go_wp2
          go_ret
          exact ⟨ret_strs (by rw [HT.out, if_neg HN.out]; simp), by exact bel⟩
    | bin op g h ho hg hh =>
      obtain ⟨p, c, q, d, rfl, rfl, rfl, rfl, rfl, -⟩ := hfm.form
      obtain ⟨vn, va, vp, hcs, hop, hs, ht, hl⟩ := hfm
      simp only [List.cons.injEq, and_true] at hcs
      obtain ⟨-, -, -, -, rfl⟩ := hcs
      have hl' : ListAt B w 5 (FmAt B m w) (.slice q 2 d) [g, h] := hl
      obtain ⟨b, o, x0, x1, x2, x3, x4, y0, y1, y2, y3, y4, rfl, ⟨hx0, hx1, hx2, hx3, hx4⟩, ⟨hy0, hy1, hy2, hy3, hy4⟩, hx, hy⟩ := FmAt.twoT hl'
      have zb := bsz (World.block_lt_of_cell? _ _ hx0)
      have HG := Lib.hid (And.intro hg hh)
      have HX := Lib.hid hx
      have HY := Lib.hid hy
      clear hf ht hl hl' hg hh hx hy
      rcases ho with rfl | rfl | rfl
      · have hz2 : g.txt.length + h.txt.length + 30 ≤ 1000000000030 := by rw [txt_bin (by decide)] at hz; simp at hz; omega
        clear hz
        show Calls Tryz.prog 214 #[.agg #[.int .i64 5, .string ⟨#[]⟩, .slice p 0 c, .string ⟨#[]⟩, .slice (some ⟨b, o, none⟩) 2 d]] w _
        go_enter Tryz.func214, Tryz.ntmps214
        go_wp2
        obtain ⟨W, hW⟩ : ∃ W : World, W = w.alloc (.cells #[.int .i64 5, .string ⟨#[]⟩, .slice p 0 c, .string ⟨#[]⟩, .slice (some ⟨b, o, none⟩) 2 d] 44) := ⟨_, rfl⟩
        have hwb : W.cell? ⟨w.heap.size, 4, none⟩ = some (.slice (some ⟨b, o, none⟩) 2 d) := by rw [hW]; go_simp
        have hbW : Below w.heap.size w W := by rw [hW]; exact bel
        rw [← hW]
        clear hW
        have ⟨cW, fW⟩ := bcell hbW
        obtain ⟨C, HC0⟩ := class_of (InF W.heap.size _ [(⟨w.heap.size, 4, none⟩, .slice (some ⟨b, o, none⟩) 2 d), (⟨b, o, none⟩, x0), (⟨b, o + 1, none⟩, x1), (⟨b, o + 2, none⟩, x2), (⟨b, o + 3, none⟩, x3), (⟨b, o + 4, none⟩, x4), (⟨b, o + 5, none⟩, y0), (⟨b, o + 6, none⟩, y1), (⟨b, o + 7, none⟩, y2), (⟨b, o + 8, none⟩, y3), (⟨b, o + 9, none⟩, y4)] [] [])
        have HC := Lib.hid HC0
        clear HC0
        refine wp_region_flow (C := C) (by kernel_rfl) (by kernel_rfl) (fun L hL => (HC.out _ _).2 (InF.start (by first | (intro _ hs; cases hs; done) | (simp only [List.forall_mem_cons]; go_simp)) (by first | (intro _ hs; cases hs; done) | (simp only [List.forall_mem_cons]; go_simp)) (by first | (intro _ hs; cases hs; done) | (simp only [List.forall_mem_cons]; go_simp)) (by first | (intro _ hs; cases hs; done) | (simp only [List.forall_mem_cons]; go_simp)) L hL)) ?_
        repeat (first | ((first | apply flow_free rfl | (apply flow_yes; (case hw => go_simp))); (intro L w' hun hrd hC; have hC := (HC.out _ _).1 hC; have hb' := hC.below; (try have hw' : Below w.heap.size w w' := by first | exact Below.trans (by (repeat (first | with_reducible (first | exact bR _ _ | assumption | refine bA ?_ _ | refine bS ?_ (by first | exact Nat.le_refl _ | (simp; done) | (simp; omega)) _) | assumption | exact bR _ _ | refine bD ?_ | refine bN ?_ _ | refine bT ?_ (by assumption)))) hb' | ((repeat (first | with_reducible (first | exact bR _ _ | assumption | refine bA ?_ _ | refine bS ?_ (by first | exact Nat.le_refl _ | (simp; done) | (simp; omega)) _) | assumption | exact bR _ _ | refine bD ?_ | refine bN ?_ _ | refine bT ?_ (by assumption))); done)); have hf' := hC.cell; (try simp only [List.forall_mem_cons] at hf'); go_simp; first | exact ⟨(HC.out _ _).2 (hC.skip _ (by rfl)), rfl⟩ | (rw [if_neg]; (exact ⟨(HC.out _ _).2 (hC.skip _ (by rfl)), rfl⟩); omega) | (go_at_call 214; (with_reducible refine (TxtAt.call IH.out g x0 x1 x2 x3 x4 _ (HX.out.below hw') HG.out.1 (by omega)).mono ?_); rintro e w1 ⟨rfl, hb1⟩; exact ⟨rfl, (HC.out _ _).2 ((hC.next (by first | (simp; done) | (simp; omega) | omega) hb1).skip _ (by rfl))⟩) | (go_at_call 214; (with_reducible refine (TxtAt.call IH.out h y0 y1 y2 y3 y4 _ (HY.out.below hw') HG.out.2 (by omega)).mono ?_); rintro e w1 ⟨rfl, hb1⟩; exact ⟨rfl, (HC.out _ _).2 ((hC.next (by first | (simp; done) | (simp; omega) | omega) hb1).skip _ (by rfl))⟩)); go_simp) | (apply flow_no; (case hw => (go_simp; try (intro hh; cases hh))); (intro L w' _ _ hC; exact (HC.out _ _).2 (((HC.out _ _).1 hC).skip _ (by rfl))); go_simp))
        refine flow_nil ?_
        intro L wz hL hz
        have hz := (HC.out _ _).1 hz
        have hbz := hz.below
        have hcz := hz.cell
        try simp only [List.forall_mem_cons] at hcz
        have hdz := hz.done
        try simp only [List.forall_mem_cons] at hdz
        (try have hwz : Below w.heap.size w wz := by first | exact Below.trans (by (repeat (first | with_reducible (first | exact bR _ _ | assumption | refine bA ?_ _ | refine bS ?_ (by first | exact Nat.le_refl _ | (simp; done) | (simp; omega)) _) | assumption | exact bR _ _ | refine bD ?_ | refine bN ?_ _ | refine bT ?_ (by assumption)))) hbz | ((repeat (first | with_reducible (first | exact bR _ _ | assumption | refine bA ?_ _ | refine bS ?_ (by first | exact Nat.le_refl _ | (simp; done) | (simp; omega)) _) | assumption | exact bR _ _ | refine bD ?_ | refine bN ?_ _ | refine bT ?_ (by assumption))); done))
        go_wp2
        go_ret
        exact ⟨ret_strs (by rw [txt_bin (by decide)]; simp [sign8, sAnd8]), by exact bel⟩
      · have hz2 : g.txt.length + h.txt.length + 30 ≤ 1000000000030 := by rw [txt_bin (by decide)] at hz; simp at hz; omega
        clear hz
        show Calls Tryz.prog 214 #[.agg #[.int .i64 6, .string ⟨#[]⟩, .slice p 0 c, .string ⟨#[]⟩, .slice (some ⟨b, o, none⟩) 2 d]] w _
        go_enter Tryz.func214, Tryz.ntmps214
        go_wp2
        obtain ⟨W, hW⟩ : ∃ W : World, W = w.alloc (.cells #[.int .i64 6, .string ⟨#[]⟩, .slice p 0 c, .string ⟨#[]⟩, .slice (some ⟨b, o, none⟩) 2 d] 44) := ⟨_, rfl⟩
        have hwb : W.cell? ⟨w.heap.size, 4, none⟩ = some (.slice (some ⟨b, o, none⟩) 2 d) := by rw [hW]; go_simp
        have hbW : Below w.heap.size w W := by rw [hW]; exact bel
        rw [← hW]
        clear hW
        have ⟨cW, fW⟩ := bcell hbW
        obtain ⟨C, HC0⟩ := class_of (InF W.heap.size _ [(⟨w.heap.size, 4, none⟩, .slice (some ⟨b, o, none⟩) 2 d), (⟨b, o, none⟩, x0), (⟨b, o + 1, none⟩, x1), (⟨b, o + 2, none⟩, x2), (⟨b, o + 3, none⟩, x3), (⟨b, o + 4, none⟩, x4), (⟨b, o + 5, none⟩, y0), (⟨b, o + 6, none⟩, y1), (⟨b, o + 7, none⟩, y2), (⟨b, o + 8, none⟩, y3), (⟨b, o + 9, none⟩, y4)] [] [])
        have HC := Lib.hid HC0
        clear HC0
        refine wp_region_flow (C := C) (by kernel_rfl) (by kernel_rfl) (fun L hL => (HC.out _ _).2 (InF.start (by first | (intro _ hs; cases hs; done) | (simp only [List.forall_mem_cons]; go_simp)) (by first | (intro _ hs; cases hs; done) | (simp only [List.forall_mem_cons]; go_simp)) (by first | (intro _ hs; cases hs; done) | (simp only [List.forall_mem_cons]; go_simp)) (by first | (intro _ hs; cases hs; done) | (simp only [List.forall_mem_cons]; go_simp)) L hL)) ?_
        repeat (first | ((first | apply flow_free rfl | (apply flow_yes; (case hw => go_simp))); (intro L w' hun hrd hC; have hC := (HC.out _ _).1 hC; have hb' := hC.below; (try have hw' : Below w.heap.size w w' := by first | exact Below.trans (by (repeat (first | with_reducible (first | exact bR _ _ | assumption | refine bA ?_ _ | refine bS ?_ (by first | exact Nat.le_refl _ | (simp; done) | (simp; omega)) _) | assumption | exact bR _ _ | refine bD ?_ | refine bN ?_ _ | refine bT ?_ (by assumption)))) hb' | ((repeat (first | with_reducible (first | exact bR _ _ | assumption | refine bA ?_ _ | refine bS ?_ (by first | exact Nat.le_refl _ | (simp; done) | (simp; omega)) _) | assumption | exact bR _ _ | refine bD ?_ | refine bN ?_ _ | refine bT ?_ (by assumption))); done)); have hf' := hC.cell; (try simp only [List.forall_mem_cons] at hf'); go_simp; first | exact ⟨(HC.out _ _).2 (hC.skip _ (by rfl)), rfl⟩ | (rw [if_neg]; (exact ⟨(HC.out _ _).2 (hC.skip _ (by rfl)), rfl⟩); omega) | (go_at_call 214; (with_reducible refine (TxtAt.call IH.out g x0 x1 x2 x3 x4 _ (HX.out.below hw') HG.out.1 (by omega)).mono ?_); rintro e w1 ⟨rfl, hb1⟩; exact ⟨rfl, (HC.out _ _).2 ((hC.next (by first | (simp; done) | (simp; omega) | omega) hb1).skip _ (by rfl))⟩) | (go_at_call 214; (with_reducible refine (TxtAt.call IH.out h y0 y1 y2 y3 y4 _ (HY.out.below hw') HG.out.2 (by omega)).mono ?_); rintro e w1 ⟨rfl, hb1⟩; exact ⟨rfl, (HC.out _ _).2 ((hC.next (by first | (simp; done) | (simp; omega) | omega) hb1).skip _ (by rfl))⟩)); go_simp) | (apply flow_no; (case hw => (go_simp; try (intro hh; cases hh))); (intro L w' _ _ hC; exact (HC.out _ _).2 (((HC.out _ _).1 hC).skip _ (by rfl))); go_simp))
        refine flow_nil ?_
        intro L wz hL hz
        have hz := (HC.out _ _).1 hz
        have hbz := hz.below
        have hcz := hz.cell
        try simp only [List.forall_mem_cons] at hcz
        have hdz := hz.done
        try simp only [List.forall_mem_cons] at hdz
        (try have hwz : Below w.heap.size w wz := by first | exact Below.trans (by (repeat (first | with_reducible (first | exact bR _ _ | assumption | refine bA ?_ _ | refine bS ?_ (by first | exact Nat.le_refl _ | (simp; done) | (simp; omega)) _) | assumption | exact bR _ _ | refine bD ?_ | refine bN ?_ _ | refine bT ?_ (by assumption)))) hbz | ((repeat (first | with_reducible (first | exact bR _ _ | assumption | refine bA ?_ _ | refine bS ?_ (by first | exact Nat.le_refl _ | (simp; done) | (simp; omega)) _) | assumption | exact bR _ _ | refine bD ?_ | refine bN ?_ _ | refine bT ?_ (by assumption))); done))
        go_wp2
        go_ret
        exact ⟨ret_strs (by rw [txt_bin (by decide)]; simp [sign8, sOr8]), by exact bel⟩
      · have hz2 : g.txt.length + h.txt.length + 30 ≤ 1000000000030 := by rw [txt_bin (by decide)] at hz; simp at hz; omega
        clear hz
        show Calls Tryz.prog 214 #[.agg #[.int .i64 7, .string ⟨#[]⟩, .slice p 0 c, .string ⟨#[]⟩, .slice (some ⟨b, o, none⟩) 2 d]] w _
        go_enter Tryz.func214, Tryz.ntmps214
        go_wp2
        obtain ⟨W, hW⟩ : ∃ W : World, W = w.alloc (.cells #[.int .i64 7, .string ⟨#[]⟩, .slice p 0 c, .string ⟨#[]⟩, .slice (some ⟨b, o, none⟩) 2 d] 44) := ⟨_, rfl⟩
        have hwb : W.cell? ⟨w.heap.size, 4, none⟩ = some (.slice (some ⟨b, o, none⟩) 2 d) := by rw [hW]; go_simp
        have hbW : Below w.heap.size w W := by rw [hW]; exact bel
        rw [← hW]
        clear hW
        have ⟨cW, fW⟩ := bcell hbW
        obtain ⟨C, HC0⟩ := class_of (InF W.heap.size _ [(⟨w.heap.size, 4, none⟩, .slice (some ⟨b, o, none⟩) 2 d), (⟨b, o, none⟩, x0), (⟨b, o + 1, none⟩, x1), (⟨b, o + 2, none⟩, x2), (⟨b, o + 3, none⟩, x3), (⟨b, o + 4, none⟩, x4), (⟨b, o + 5, none⟩, y0), (⟨b, o + 6, none⟩, y1), (⟨b, o + 7, none⟩, y2), (⟨b, o + 8, none⟩, y3), (⟨b, o + 9, none⟩, y4)] [] [])
        have HC := Lib.hid HC0
        clear HC0
        refine wp_region_flow (C := C) (by kernel_rfl) (by kernel_rfl) (fun L hL => (HC.out _ _).2 (InF.start (by first | (intro _ hs; cases hs; done) | (simp only [List.forall_mem_cons]; go_simp)) (by first | (intro _ hs; cases hs; done) | (simp only [List.forall_mem_cons]; go_simp)) (by first | (intro _ hs; cases hs; done) | (simp only [List.forall_mem_cons]; go_simp)) (by first | (intro _ hs; cases hs; done) | (simp only [List.forall_mem_cons]; go_simp)) L hL)) ?_
        repeat (first | ((first | apply flow_free rfl | (apply flow_yes; (case hw => go_simp))); (intro L w' hun hrd hC; have hC := (HC.out _ _).1 hC; have hb' := hC.below; (try have hw' : Below w.heap.size w w' := by first | exact Below.trans (by (repeat (first | with_reducible (first | exact bR _ _ | assumption | refine bA ?_ _ | refine bS ?_ (by first | exact Nat.le_refl _ | (simp; done) | (simp; omega)) _) | assumption | exact bR _ _ | refine bD ?_ | refine bN ?_ _ | refine bT ?_ (by assumption)))) hb' | ((repeat (first | with_reducible (first | exact bR _ _ | assumption | refine bA ?_ _ | refine bS ?_ (by first | exact Nat.le_refl _ | (simp; done) | (simp; omega)) _) | assumption | exact bR _ _ | refine bD ?_ | refine bN ?_ _ | refine bT ?_ (by assumption))); done)); have hf' := hC.cell; (try simp only [List.forall_mem_cons] at hf'); go_simp; first | exact ⟨(HC.out _ _).2 (hC.skip _ (by rfl)), rfl⟩ | (rw [if_neg]; (exact ⟨(HC.out _ _).2 (hC.skip _ (by rfl)), rfl⟩); omega) | (go_at_call 214; (with_reducible refine (TxtAt.call IH.out g x0 x1 x2 x3 x4 _ (HX.out.below hw') HG.out.1 (by omega)).mono ?_); rintro e w1 ⟨rfl, hb1⟩; exact ⟨rfl, (HC.out _ _).2 ((hC.next (by first | (simp; done) | (simp; omega) | omega) hb1).skip _ (by rfl))⟩) | (go_at_call 214; (with_reducible refine (TxtAt.call IH.out h y0 y1 y2 y3 y4 _ (HY.out.below hw') HG.out.2 (by omega)).mono ?_); rintro e w1 ⟨rfl, hb1⟩; exact ⟨rfl, (HC.out _ _).2 ((hC.next (by first | (simp; done) | (simp; omega) | omega) hb1).skip _ (by rfl))⟩)); go_simp) | (apply flow_no; (case hw => (go_simp; try (intro hh; cases hh))); (intro L w' _ _ hC; exact (HC.out _ _).2 (((HC.out _ _).1 hC).skip _ (by rfl))); go_simp))
        refine flow_nil ?_
        intro L wz hL hz
        have hz := (HC.out _ _).1 hz
        have hbz := hz.below
        have hcz := hz.cell
        try simp only [List.forall_mem_cons] at hcz
        have hdz := hz.done
        try simp only [List.forall_mem_cons] at hdz
        (try have hwz : Below w.heap.size w wz := by first | exact Below.trans (by (repeat (first | with_reducible (first | exact bR _ _ | assumption | refine bA ?_ _ | refine bS ?_ (by first | exact Nat.le_refl _ | (simp; done) | (simp; omega)) _) | assumption | exact bR _ _ | refine bD ?_ | refine bN ?_ _ | refine bT ?_ (by assumption)))) hbz | ((repeat (first | with_reducible (first | exact bR _ _ | assumption | refine bA ?_ _ | refine bS ?_ (by first | exact Nat.le_refl _ | (simp; done) | (simp; omega)) _) | assumption | exact bR _ _ | refine bD ?_ | refine bN ?_ _ | refine bT ?_ (by assumption))); done))
        go_wp2
        go_ret
        exact ⟨ret_strs (by rw [txt_bin (by decide)]; simp [sign8, sImp8]), by exact bel⟩
    | qua op v g ho hv hg =>
      obtain ⟨p, c, q, d, rfl, rfl, rfl, rfl, rfl, -⟩ := hfm.form
      obtain ⟨vn, va, vp, hcs, hop, hs, ht, hl⟩ := hfm
      simp only [List.cons.injEq, and_true] at hcs
      obtain ⟨-, -, -, -, rfl⟩ := hcs
      have hl' : ListAt B w 5 (FmAt B m w) (.slice q 1 d) [g] := hl
      obtain ⟨b, o, x0, x1, x2, x3, x4, rfl, hx0, hx1, hx2, hx3, hx4, hx⟩ := FmAt.oneT hl'
      have zb := bsz (World.block_lt_of_cell? _ _ hx0)
      have HG := Lib.hid hg
      have HX := Lib.hid hx
      clear hf ht hl hl' hg hx
      rcases ho with rfl | rfl
      · have hz2 : g.txt.length + v.length + 30 ≤ 1000000000030 := by rw [txt_qua (by decide)] at hz; simp at hz; omega
        clear hz
        show Calls Tryz.prog 214 #[.agg #[.int .i64 8, .string ⟨#[]⟩, .slice p 0 c, .string ⟨v.toArray⟩, .slice (some ⟨b, o, none⟩) 1 d]] w _
        go_enter Tryz.func214, Tryz.ntmps214
        go_wp2
        obtain ⟨W, hW⟩ : ∃ W : World, W = w.alloc (.cells #[.int .i64 8, .string ⟨#[]⟩, .slice p 0 c, .string ⟨v.toArray⟩, .slice (some ⟨b, o, none⟩) 1 d] 44) := ⟨_, rfl⟩
        have hwb : W.cell? ⟨w.heap.size, 3, none⟩ = some (.string ⟨v.toArray⟩) := by rw [hW]; go_simp
        have hwc : W.cell? ⟨w.heap.size, 4, none⟩ = some (.slice (some ⟨b, o, none⟩) 1 d) := by rw [hW]; go_simp
        have hbW : Below w.heap.size w W := by rw [hW]; exact bel
        rw [← hW]
        clear hW
        have zW := bsz (World.block_lt_of_cell? _ _ hwb)
        have ⟨cW, fW⟩ := bcell hbW
        obtain ⟨C, HC0⟩ := class_of (InF W.heap.size _ [(⟨w.heap.size, 3, none⟩, .string ⟨v.toArray⟩), (⟨w.heap.size, 4, none⟩, .slice (some ⟨b, o, none⟩) 1 d), (⟨b, o, none⟩, x0), (⟨b, o + 1, none⟩, x1), (⟨b, o + 2, none⟩, x2), (⟨b, o + 3, none⟩, x3), (⟨b, o + 4, none⟩, x4)] [] [])
        have HC := Lib.hid HC0
        clear HC0
        refine wp_region_flow (C := C) (by kernel_rfl) (by kernel_rfl) (fun L hL => (HC.out _ _).2 (InF.start (by first | (intro _ hs; cases hs; done) | (simp only [List.forall_mem_cons]; go_simp)) (by first | (intro _ hs; cases hs; done) | (simp only [List.forall_mem_cons]; go_simp)) (by first | (intro _ hs; cases hs; done) | (simp only [List.forall_mem_cons]; go_simp)) (by first | (intro _ hs; cases hs; done) | (simp only [List.forall_mem_cons]; go_simp)) L hL)) ?_
        repeat (first | ((first | apply flow_free rfl | (apply flow_yes; (case hw => go_simp))); (intro L w' hun hrd hC; have hC := (HC.out _ _).1 hC; have hb' := hC.below; (try have hw' : Below w.heap.size w w' := by first | exact Below.trans (by (repeat (first | with_reducible (first | exact bR _ _ | assumption | refine bA ?_ _ | refine bS ?_ (by first | exact Nat.le_refl _ | (simp; done) | (simp; omega)) _) | assumption | exact bR _ _ | refine bD ?_ | refine bN ?_ _ | refine bT ?_ (by assumption)))) hb' | ((repeat (first | with_reducible (first | exact bR _ _ | assumption | refine bA ?_ _ | refine bS ?_ (by first | exact Nat.le_refl _ | (simp; done) | (simp; omega)) _) | assumption | exact bR _ _ | refine bD ?_ | refine bN ?_ _ | refine bT ?_ (by assumption))); done)); have hf' := hC.cell; (try simp only [List.forall_mem_cons] at hf'); go_simp; first | exact ⟨(HC.out _ _).2 (hC.skip _ (by rfl)), rfl⟩ | (rw [if_neg]; (exact ⟨(HC.out _ _).2 (hC.skip _ (by rfl)), rfl⟩); omega) | (go_at_call 214; (with_reducible refine (TxtAt.call IH.out g x0 x1 x2 x3 x4 _ (HX.out.below hw') HG.out (by omega)).mono ?_); rintro e w1 ⟨rfl, hb1⟩; exact ⟨rfl, (HC.out _ _).2 ((hC.next (by first | (simp; done) | (simp; omega) | omega) hb1).skip _ (by rfl))⟩)); go_simp) | (apply flow_no; (case hw => (go_simp; try (intro hh; cases hh))); (intro L w' _ _ hC; exact (HC.out _ _).2 (((HC.out _ _).1 hC).skip _ (by rfl))); go_simp))
        refine flow_nil ?_
        intro L wz hL hz
        have hz := (HC.out _ _).1 hz
        have hbz := hz.below
        have hcz := hz.cell
        try simp only [List.forall_mem_cons] at hcz
        have hdz := hz.done
        try simp only [List.forall_mem_cons] at hdz
        (try have hwz : Below w.heap.size w wz := by first | exact Below.trans (by (repeat (first | with_reducible (first | exact bR _ _ | assumption | refine bA ?_ _ | refine bS ?_ (by first | exact Nat.le_refl _ | (simp; done) | (simp; omega)) _) | assumption | exact bR _ _ | refine bD ?_ | refine bN ?_ _ | refine bT ?_ (by assumption)))) hbz | ((repeat (first | with_reducible (first | exact bR _ _ | assumption | refine bA ?_ _ | refine bS ?_ (by first | exact Nat.le_refl _ | (simp; done) | (simp; omega)) _) | assumption | exact bR _ _ | refine bD ?_ | refine bN ?_ _ | refine bT ?_ (by assumption))); done))
        go_wp2
        go_ret
        exact ⟨ret_strs (by rw [txt_qua (by decide)]; simp [sAll8]), by exact bel⟩
      · have hz2 : g.txt.length + v.length + 30 ≤ 1000000000030 := by rw [txt_qua (by decide)] at hz; simp at hz; omega
        clear hz
        show Calls Tryz.prog 214 #[.agg #[.int .i64 9, .string ⟨#[]⟩, .slice p 0 c, .string ⟨v.toArray⟩, .slice (some ⟨b, o, none⟩) 1 d]] w _
        go_enter Tryz.func214, Tryz.ntmps214
        go_wp2
        obtain ⟨W, hW⟩ : ∃ W : World, W = w.alloc (.cells #[.int .i64 9, .string ⟨#[]⟩, .slice p 0 c, .string ⟨v.toArray⟩, .slice (some ⟨b, o, none⟩) 1 d] 44) := ⟨_, rfl⟩
        have hwb : W.cell? ⟨w.heap.size, 3, none⟩ = some (.string ⟨v.toArray⟩) := by rw [hW]; go_simp
        have hwc : W.cell? ⟨w.heap.size, 4, none⟩ = some (.slice (some ⟨b, o, none⟩) 1 d) := by rw [hW]; go_simp
        have hbW : Below w.heap.size w W := by rw [hW]; exact bel
        rw [← hW]
        clear hW
        have zW := bsz (World.block_lt_of_cell? _ _ hwb)
        have ⟨cW, fW⟩ := bcell hbW
        obtain ⟨C, HC0⟩ := class_of (InF W.heap.size _ [(⟨w.heap.size, 3, none⟩, .string ⟨v.toArray⟩), (⟨w.heap.size, 4, none⟩, .slice (some ⟨b, o, none⟩) 1 d), (⟨b, o, none⟩, x0), (⟨b, o + 1, none⟩, x1), (⟨b, o + 2, none⟩, x2), (⟨b, o + 3, none⟩, x3), (⟨b, o + 4, none⟩, x4)] [] [])
        have HC := Lib.hid HC0
        clear HC0
        refine wp_region_flow (C := C) (by kernel_rfl) (by kernel_rfl) (fun L hL => (HC.out _ _).2 (InF.start (by first | (intro _ hs; cases hs; done) | (simp only [List.forall_mem_cons]; go_simp)) (by first | (intro _ hs; cases hs; done) | (simp only [List.forall_mem_cons]; go_simp)) (by first | (intro _ hs; cases hs; done) | (simp only [List.forall_mem_cons]; go_simp)) (by first | (intro _ hs; cases hs; done) | (simp only [List.forall_mem_cons]; go_simp)) L hL)) ?_
        repeat (first | ((first | apply flow_free rfl | (apply flow_yes; (case hw => go_simp))); (intro L w' hun hrd hC; have hC := (HC.out _ _).1 hC; have hb' := hC.below; (try have hw' : Below w.heap.size w w' := by first | exact Below.trans (by (repeat (first | with_reducible (first | exact bR _ _ | assumption | refine bA ?_ _ | refine bS ?_ (by first | exact Nat.le_refl _ | (simp; done) | (simp; omega)) _) | assumption | exact bR _ _ | refine bD ?_ | refine bN ?_ _ | refine bT ?_ (by assumption)))) hb' | ((repeat (first | with_reducible (first | exact bR _ _ | assumption | refine bA ?_ _ | refine bS ?_ (by first | exact Nat.le_refl _ | (simp; done) | (simp; omega)) _) | assumption | exact bR _ _ | refine bD ?_ | refine bN ?_ _ | refine bT ?_ (by assumption))); done)); have hf' := hC.cell; (try simp only [List.forall_mem_cons] at hf'); go_simp; first | exact ⟨(HC.out _ _).2 (hC.skip _ (by rfl)), rfl⟩ | (rw [if_neg]; (exact ⟨(HC.out _ _).2 (hC.skip _ (by rfl)), rfl⟩); omega) | (go_at_call 214; (with_reducible refine (TxtAt.call IH.out g x0 x1 x2 x3 x4 _ (HX.out.below hw') HG.out (by omega)).mono ?_); rintro e w1 ⟨rfl, hb1⟩; exact ⟨rfl, (HC.out _ _).2 ((hC.next (by first | (simp; done) | (simp; omega) | omega) hb1).skip _ (by rfl))⟩)); go_simp) | (apply flow_no; (case hw => (go_simp; try (intro hh; cases hh))); (intro L w' _ _ hC; exact (HC.out _ _).2 (((HC.out _ _).1 hC).skip _ (by rfl))); go_simp))
        refine flow_nil ?_
        intro L wz hL hz
        have hz := (HC.out _ _).1 hz
        have hbz := hz.below
        have hcz := hz.cell
        try simp only [List.forall_mem_cons] at hcz
        have hdz := hz.done
        try simp only [List.forall_mem_cons] at hdz
        (try have hwz : Below w.heap.size w wz := by first | exact Below.trans (by (repeat (first | with_reducible (first | exact bR _ _ | assumption | refine bA ?_ _ | refine bS ?_ (by first | exact Nat.le_refl _ | (simp; done) | (simp; omega)) _) | assumption | exact bR _ _ | refine bD ?_ | refine bN ?_ _ | refine bT ?_ (by assumption)))) hbz | ((repeat (first | with_reducible (first | exact bR _ _ | assumption | refine bA ?_ _ | refine bS ?_ (by first | exact Nat.le_refl _ | (simp; done) | (simp; omega)) _) | assumption | exact bR _ _ | refine bD ?_ | refine bN ?_ _ | refine bT ?_ (by assumption))); done))
        go_wp2
        go_ret
        exact ⟨ret_strs (by rw [txt_qua (by decide)]; simp [sSome8]), by exact bel⟩
theorem FmP.mono {m n g : Nat} {s : ByteArray} {F : Fm} {p' : PSt} {w w' : World} {x : Value} (hm : m ≤ n) (h : FmP m g s F p' w x w') : FmP n g s F p' w x w' := by
  obtain ⟨⟨v0, v1, v2, v3, v4, hx, hO⟩, h2⟩ := h
  exact ⟨⟨v0, v1, v2, v3, v4, hx, FmOwn.mono _ _ _ _ hm (SameOn.refl _ _) (fun _ h => h) hO⟩, h2⟩
theorem eq_own {f g rb bt : Nat} {s : ByteArray} {p pq : PSt} {ro : Obj} {w0 W w1 : World} {n : List UInt8} {v v0 v1 : Value} {xs : List Tm} {tq : Tm} (h : TSt 41 190 ro w0 g rb bt s n p v xs f W) (hn : n.length ≤ 1000000) (hT : TermP 41 g W.heap.size s f tq pq 190 W.drew (.agg #[v0, v1]) w1) :
    TmOwn 41 (f + 2) (fun b => rb < b ∧ b < w1.heap.size + 1) (w1.alloc (.cells #[.string ⟨n.toArray⟩, v, v0, v1] 41)) (eqTm (.mk ⟨n.toArray⟩ xs) tq) [.string ⟨#[61]⟩, .slice (some ⟨w1.heap.size, 0, none⟩) 2 2] := by
  obtain ⟨v0', v1', he, hO, hP, hG⟩ := hT
  simp only [Value.agg.injEq, Array.mk.injEq, List.cons.injEq, and_true] at he
  obtain ⟨rfl, rfl⟩ := he
  obtain ⟨l1, l2, l3, l4⟩ := h.lt
  have hz : W.heap.size ≤ w1.heap.size := hG.size
  have hG1 : W.grownBy w1 (some g) := ⟨hG.os, hG.tape, hG.output, hG.size, hG.block⟩
  have h1 := TmOwn.mono (f + 1) (f + 1) _ _ (Nat.le_refl _) (w' := w1) (fun b hb hlt => hG1.block b hlt (by simp; omega)) (fun _ h => h) (h.term hn)
  refine ⟨_, rfl, by decide, ?_⟩
  exact OwnRow.two' rfl [.string ⟨n.toArray⟩, v] [v0, v1] _ rfl rfl rfl (TmOwn.below ((Below.refl _ _).alloc (Nat.le_refl _) _) h1) (TmOwn.mono f (f + 1) _ _ (by omega) (SameOn.below ((Below.refl _ _).alloc (Nat.le_refl _) _)) (fun _ h => h) hO)
    (fun b hb => by omega) (fun b hb => hb.2) (fun b hb hb' => by omega) (fun b hb => by omega) (fun b hb => by omega) (by omega)
end Go.Proofs.YtkgfanajgdelcaaGreatDoor
