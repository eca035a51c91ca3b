import Derived.Test.YtkgfanajgdelcaaGreatDoorUnPart17
namespace Go.Proofs.YtkgfanajgdelcaaGreatDoor
set_option maxRecDepth 100000
open Go.RowKit Go.Maps
set_option maxHeartbeats 1600000 in
theorem formatTerm_eq {B : Nat → Prop} (m : Nat) (a b : Tm) (v0 v1 : Value) (w : World) (h : TmAt B m w (eqTm a b) [v0, v1]) (ha : a.nodes = true) (hb : b.nodes = true) (hz : (eqTm a b).fmt.length ≤ 1000000000000) :
      Calls Tryz.prog 230 #[.agg #[v0, v1]] w fun e w' => e = .returned (.string ⟨(eqTm a b).fmt.toArray⟩) ∧ Below w.heap.size w w' := by
  have hl := h.args
  obtain ⟨p, c, rfl, rfl, -, -⟩ := h.form
  clear h
  have hl2 : ListAt B w 2 (TmAt B m w) (.slice p 2 c) [a, b] := hl
  obtain ⟨g, o, pa, ca, pb, cb, rfl, hx0, hx1, hx2, hx3, hta, htb⟩ := TmAt.pair hl2
  have HE := Lib.hid (fmt_eq a b)
  have hz2 : a.fmt.length + b.fmt.length + 3 ≤ 1000000000000 := by rw [fmt_eq] at hz; simp [sEq8] at hz; omega
  have HA := Lib.hid (And.intro hta ha)
  have HB := Lib.hid (And.intro htb hb)
  clear hl hl2 hta htb ha hb hz
  show Calls Tryz.prog 230 #[.agg #[.string ⟨#[61]⟩, .slice (some ⟨g, o, none⟩) 2 c]] w _
  go_enter Tryz.func230, Tryz.ntmps230
  go_wp2_with fail
  refine (isEquality_any _ _ _).mono ?_
  rintro e w1 ⟨rfl, hb1⟩
  have ⟨cw1, fw1⟩ := bcell hb1
  have qw1 := hb1.size
  (try simp at qw1)
  (try have zw1w := bsz (show w.heap.size < w1.heap.size by omega))
  rw [show isEq ⟨#[61]⟩ = true from rfl]
  go_wp2
  have zg := bsz (World.block_lt_of_cell? _ _ hx0)
  obtain ⟨C, HC0⟩ := class_of (InF w1.heap.size _ [(⟨w.heap.size, 1, none⟩, .slice (some ⟨g, o, none⟩) 2 c), (⟨g, o, none⟩, .string a.n), (⟨g, o + 1, none⟩, .slice pa a.us.length ca), (⟨g, o + 2, none⟩, .string b.n), (⟨g, o + 3, none⟩, .slice pb b.us.length cb)] [] [])
  have HC := Lib.hid HC0
  clear HC0
  refine wp_region_flow (C := C) (by kernel_rfl) (by kernel_rfl) (fun L hL => (HC.out _ _).2 (InF.start (by first | (intro _ hs; cases hs; done) | (simp only [List.forall_mem_cons]; go_simp)) (by first | (intro _ hs; cases hs; done) | (simp only [List.forall_mem_cons]; go_simp)) (by first | (intro _ hs; cases hs; done) | (simp only [List.forall_mem_cons]; go_simp)) (by first | (intro _ hs; cases hs; done) | (simp only [List.forall_mem_cons]; go_simp)) L hL)) ?_
  repeat (first | ((first | apply flow_free rfl | (apply flow_yes; (case hw => go_simp))); (intro L w' hun hrd hC; have hC := (HC.out _ _).1 hC; have hb' := hC.below; (try have hw' : Below w.heap.size w w' := by first | exact Below.trans (by (repeat (first | with_reducible (first | exact bR _ _ | assumption | refine bA ?_ _ | refine bS ?_ (by first | exact Nat.le_refl _ | (simp; done) | (simp; omega)) _) | assumption | exact bR _ _ | refine bD ?_ | refine bN ?_ _ | refine bT ?_ (by assumption)))) hb' | ((repeat (first | with_reducible (first | exact bR _ _ | assumption | refine bA ?_ _ | refine bS ?_ (by first | exact Nat.le_refl _ | (simp; done) | (simp; omega)) _) | assumption | exact bR _ _ | refine bD ?_ | refine bN ?_ _ | refine bT ?_ (by assumption))); done)); have hf' := hC.cell; (try simp only [List.forall_mem_cons] at hf'); go_simp; first | exact ⟨(HC.out _ _).2 (hC.skip _ (by rfl)), rfl⟩ | (rw [if_neg]; (exact ⟨(HC.out _ _).2 (hC.skip _ (by rfl)), rfl⟩); omega) | (go_at_call 230; (with_reducible refine (formatTerm_any m a _ _ _ (HA.out.1.below hw') HA.out.2 (by omega)).mono ?_); rintro e w1 ⟨rfl, hb1⟩; exact ⟨rfl, (HC.out _ _).2 ((hC.next (by first | (simp; done) | (simp; omega) | omega) hb1).skip _ (by rfl))⟩) | (go_at_call 230; (with_reducible refine (formatTerm_any m b _ _ _ (HB.out.1.below hw') HB.out.2 (by omega)).mono ?_); rintro e w1 ⟨rfl, hb1⟩; exact ⟨rfl, (HC.out _ _).2 ((hC.next (by first | (simp; done) | (simp; omega) | omega) hb1).skip _ (by rfl))⟩)); go_simp) | (apply flow_no; (case hw => (go_simp; try (intro hh; cases hh))); (intro L w' _ _ hC; exact (HC.out _ _).2 (((HC.out _ _).1 hC).skip _ (by rfl))); go_simp))
  refine flow_nil ?_
  intro L wz hL hz
  have hz := (HC.out _ _).1 hz
  have hbz := hz.below
  have hcz := hz.cell
  try simp only [List.forall_mem_cons] at hcz
  have hdz := hz.done
  try simp only [List.forall_mem_cons] at hdz
  (try have hwz : Below w.heap.size w wz := by first | exact Below.trans (by (repeat (first | with_reducible (first | exact bR _ _ | assumption | refine bA ?_ _ | refine bS ?_ (by first | exact Nat.le_refl _ | (simp; done) | (simp; omega)) _) | assumption | exact bR _ _ | refine bD ?_ | refine bN ?_ _ | refine bT ?_ (by assumption)))) hbz | ((repeat (first | with_reducible (first | exact bR _ _ | assumption | refine bA ?_ _ | refine bS ?_ (by first | exact Nat.le_refl _ | (simp; done) | (simp; omega)) _) | assumption | exact bR _ _ | refine bD ?_ | refine bN ?_ _ | refine bT ?_ (by assumption))); done))
  go_wp2
  go_ret
  exact ⟨ret_strs (by rw [HE.out]; simp [sEq8]), by exact bel⟩
theorem formatTerm_atom {B : Nat → Prop} (m : Nat) (t : Tm) (v0 v1 : Value) (w : World) (h : TmAt B m w t [v0, v1]) (ht : t.atom = true) (hz : t.fmt.length ≤ 1000000000000) :
      Calls Tryz.prog 230 #[.agg #[v0, v1]] w fun e w' => e = .returned (.string ⟨t.fmt.toArray⟩) ∧ Below w.heap.size w w' := by
  cases atom_cases ht with
  | eq a b ha hb => exact formatTerm_eq m a b _ _ w h ha hb hz
  | pred n us hs hu hd => exact formatTerm_any m _ _ _ w h hd hz
def SgSt (W : World) (sg x1 x2 x3 : ByteArray) (j : Nat) (u : Nat → Value) (w : World) : Prop :=
  Below W.heap.size W w ∧ match j with
  | 0 => True
  | 1 => ∃ b, u 6 = .map (some b) ∧ w.ownsMap Tryz.prog 3 (plainElem (H := Unit) Tryz.prog 9) b 3 D8
  | 2 => u 9 = .string sg
  | 3 => u 10 = .string x1
  | 4 => u 16 = .string x2
  | 5 => u 17 = .string x3
  | 6 => u 18 = .string x3
  | _ => False
theorem SgSt.below {W w w' : World} {sg x1 x2 x3 : ByteArray} {j : Nat} {u : Nat → Value} (h : SgSt W sg x1 x2 x3 j u w) (hb : Below w.heap.size w w') : SgSt W sg x1 x2 x3 j u w' := by
  refine ⟨h.1.trans (hb.mono h.1.size), ?_⟩
  obtain ⟨_, h⟩ := h
  match j, h with
  | 0, _ => trivial
  | 1, ⟨b, h1, h2⟩ => exact ⟨b, h1, h2.kept (row := none) ⟨hb.os, hb.tape, hb.output, hb.size, fun i hi _ => hb.block i hi⟩ (by simp)⟩
  | 2, h => exact h
  | 3, h => exact h
  | 4, h => exact h
  | 5, h => exact h
  | 6, h => exact h
theorem sign_lookup {w : World} {b : Nat} (h : w.ownsMap Tryz.prog 3 (plainElem (H := Unit) Tryz.prog 9) b 3 D8) (op : Int) (ho : op = 5 ∨ op = 6 ∨ op = 7) :
    (Instr.lookup 217 (.map (some b)) (.int .i64 op) false).run Tryz.prog w = .ok (.string ⟨(sign8 op).toArray⟩) w := by
  have hz : (zeroValue 9).run Tryz.prog w = .ok (.string ⟨#[]⟩) w := by kernel_rfl
  obtain ⟨v, ps, hrun, hv⟩ := h.lookup (int_keyed Tryz.underlying3) Tryz.underlying217 hz (plainElem_string Tryz.underlying9 (s := ⟨#[]⟩) (by decide)) (key8 op (by rcases ho with rfl | rfl | rfl <;> decide))
  obtain ⟨c, rfl, hc, -⟩ := plainElem_string_inv Tryz.underlying9 hv
  rw [D8_at, if_pos ho] at hc
  simp only [Prod.mk.injEq, DataW.lit.injEq, Lit.string.injEq] at hc
  rw [hrun, str_eq hc.1.symm]
set_option maxHeartbeats 6400000 in
theorem formatFormula_bin {B : Nat → Prop} (m : Nat) (ih : TxtAt Tryz.prog 188 B m) (op : Int) (ho : op = 5 ∨ op = 6 ∨ op = 7) (g h : Fm) (hg : g.form = true) (hh : h.form = true) (p q : Option Addr) (c d : Nat) (w : World)
    (hl : ListAt B w 5 (FmAt B m w) (.slice q 2 d) [g, h]) (hz : (opF op [g, h]).txt.length ≤ 1000000000000) :
    Calls Tryz.prog 188 #[.agg #[.int .i64 op, .string ⟨#[]⟩, .slice p 0 c, .string ⟨#[]⟩, .slice q 2 d]] w fun e w' => e = .returned (.string ⟨(opF op [g, h]).txt.toArray⟩) ∧ Below w.heap.size w w' := by
  obtain ⟨b, o, x0, x1, x2, x3, x4, y0, y1, y2, y3, y4, rfl, ⟨hx0, hx1, hx2, hx3, hx4⟩, ⟨hy0, hy1, hy2, hy3, hy4⟩, hx, hy⟩ := FmAt.twoT hl
  have zb := bsz (World.block_lt_of_cell? _ _ hx0)
  have hz2 : g.txt.length + h.txt.length + 30 ≤ 1000000000030 := by rw [txt_bin ho] at hz; simp at hz; omega
  have HG := Lib.hid (And.intro hg hh)
  have HX := Lib.hid hx
  have HY := Lib.hid hy
  have IH := Lib.hid ih
  have HTX := Lib.hid (txt_bin ho g h)
  have HOP := Lib.hid ho
  have hs4 := (sign8_len op).2
  have n1 : (op == 1) = false := by rw [beq_eq_false_iff_ne]; omega
  have n2 : (op == 2) = false := by rw [beq_eq_false_iff_ne]; omega
  have n3 : (op == 3) = false := by rw [beq_eq_false_iff_ne]; omega
  have n4 : (op == 4) = false := by rw [beq_eq_false_iff_ne]; omega
  have n8 : (op == 8) = false := by rw [beq_eq_false_iff_ne]; omega
  have n9 : (op == 9) = false := by rw [beq_eq_false_iff_ne]; omega
  clear hl hg hh hx hy ih hz ho
  go_enter Tryz.func188, Tryz.ntmps188
  go_wp2
  obtain ⟨W, hW⟩ : ∃ W : World, W = w.alloc (.cells #[.int .i64 op, .string ⟨#[]⟩, .slice p 0 c, .string ⟨#[]⟩, .slice (some ⟨b, o, none⟩) 2 d] 44) := ⟨_, rfl⟩
  have hw0 : W.cell? ⟨w.heap.size, 0, none⟩ = some (.int .i64 op) := by rw [hW]; go_simp
  have hw4 : W.cell? ⟨w.heap.size, 4, none⟩ = some (.slice (some ⟨b, o, none⟩) 2 d) := by rw [hW]; go_simp
  have hbW : Below w.heap.size w W := by rw [hW]; exact bel
  rw [← hW]
  clear hW
  have zW := bsz (World.block_lt_of_cell? _ _ hw0)
  have ⟨cW, fW⟩ := bcell hbW
  have e0 : W.cell? ⟨b, o, none⟩ = some x0 := by go_simp
  have e1 : W.cell? ⟨b, o + 1, none⟩ = some x1 := by go_simp
  have e2 : W.cell? ⟨b, o + 2, none⟩ = some x2 := by go_simp
  have e3 : W.cell? ⟨b, o + 3, none⟩ = some x3 := by go_simp
  have e4 : W.cell? ⟨b, o + 4, none⟩ = some x4 := by go_simp
  have k0 : W.cell? ⟨b, o + 5, none⟩ = some y0 := by go_simp
  have k1 : W.cell? ⟨b, o + 6, none⟩ = some y1 := by go_simp
  have k2 : W.cell? ⟨b, o + 7, none⟩ = some y2 := by go_simp
  have k3 : W.cell? ⟨b, o + 8, none⟩ = some y3 := by go_simp
  have k4 : W.cell? ⟨b, o + 9, none⟩ = some y4 := by go_simp
  have hqW := hbW.size
  have zbW := bsz (show b < W.heap.size by omega)
  have HB := Lib.hid hbW
  have l1 : ¬ (9223372036854775807 < 1 + g.txt.length) := by omega
  have l2 : ¬ (9223372036854775807 < 1 + g.txt.length + (sign8 op).length) := by omega
  have l3 : ¬ (9223372036854775807 < 1 + g.txt.length + (sign8 op).length + h.txt.length) := by omega
  have l4 : ¬ (9223372036854775807 < 1 + g.txt.length + (sign8 op).length + h.txt.length + 1) := by omega
  clear cW fW hx0 hx1 hx2 hx3 hx4 hy0 hy1 hy2 hy3 hy4
  refine wp_region_stages [some (.pointer (some ⟨w.heap.size, 4, none⟩)), some (.slice (some ⟨b, o, none⟩) 2 d), some (.pointer (some ⟨b, o, none⟩)), some (.agg #[x0, x1, x2, x3, x4]), some (.string ⟨g.txt.toArray⟩), some (.string (⟨#[40]⟩ ++ ⟨g.txt.toArray⟩)), none, some (.pointer (some ⟨w.heap.size, 0, none⟩)), some (.int .i64 op), none, none,
    some (.pointer (some ⟨w.heap.size, 4, none⟩)), some (.slice (some ⟨b, o, none⟩) 2 d), some (.pointer (some ⟨b, o + 5, none⟩)), some (.agg #[y0, y1, y2, y3, y4]), some (.string ⟨h.txt.toArray⟩), none, none, none] [6, 9, 10, 16, 17, 18]
    (SgSt W ⟨(sign8 op).toArray⟩ (⟨#[40]⟩ ++ ⟨g.txt.toArray⟩ ++ ⟨(sign8 op).toArray⟩) (⟨#[40]⟩ ++ ⟨g.txt.toArray⟩ ++ ⟨(sign8 op).toArray⟩ ++ ⟨h.txt.toArray⟩) (⟨#[40]⟩ ++ ⟨g.txt.toArray⟩ ++ ⟨(sign8 op).toArray⟩ ++ ⟨h.txt.toArray⟩ ++ ⟨#[41]⟩)) (by kernel_rfl) (by kernel_rfl) (by first | kernel_rfl | rfl) (by rfl) ⟨Below.dr (Below.refl _ _), trivial⟩ ?_
  refine chain_st rfl rfl (by decide) rfl (by intro j u w' hS; have hbS := hS.1; have ⟨cb, fb⟩ := bcell hbS; have qb := hbS.size; go_simp; first | done | exact ⟨hS, rfl⟩ | exact hS | rfl) ?_
  go_simp
  refine chain_st rfl rfl (by decide) rfl (by intro j u w' hS; have hbS := hS.1; have ⟨cb, fb⟩ := bcell hbS; have qb := hbS.size; go_simp; first | done | exact ⟨hS, rfl⟩ | exact hS | rfl) ?_
  go_simp
  refine chain_st rfl rfl (by decide) rfl (by intro j u w' hS; have hbS := hS.1; have ⟨cb, fb⟩ := bcell hbS; have qb := hbS.size; go_simp; first | done | exact ⟨hS, rfl⟩ | exact hS | rfl) ?_
  go_simp
  refine chain_st rfl rfl (by decide) rfl (by intro j u w' hS; have hbS := hS.1; have ⟨cb, fb⟩ := bcell hbS; have qb := hbS.size; go_simp; first | done | exact ⟨hS, rfl⟩ | exact hS | rfl) ?_
  go_simp
  refine chain_st rfl rfl (by decide) rfl (by intro j u w' hS; go_simp; exact (TxtAt.call IH.out g _ _ _ _ _ w' ((HX.out.below HB.out).below hS.1) HG.out.1 (by omega)).mono (fun e w'' hh => ⟨hh.1, hS.below hh.2⟩)) ?_
  go_simp
  refine chain_st rfl rfl (by decide) rfl (by intro j u w' hS; have hbS := hS.1; have ⟨cb, fb⟩ := bcell hbS; have qb := hbS.size; go_simp; first | done | exact ⟨hS, rfl⟩ | exact hS | rfl) ?_
  go_simp
  refine chain_first rfl rfl rfl (by decide) rfl ?_ ?_
  · intro w' hS
    go_simp
    refine (signs_any _).mono ?_
    rintro e w'' ⟨b', he, hown, -, hb'⟩
    exact ⟨_, he, (hS.below hb').1, b', by rw [upd_same], hown⟩
  intro x
  go_simp
  refine chain_st rfl rfl (by decide) rfl (by intro j u w' hS; have hbS := hS.1; have ⟨cb, fb⟩ := bcell hbS; have qb := hbS.size; go_simp; first | done | exact ⟨hS, rfl⟩ | exact hS | rfl) ?_
  go_simp
  refine chain_st rfl rfl (by decide) rfl (by intro j u w' hS; have hbS := hS.1; have ⟨cb, fb⟩ := bcell hbS; have qb := hbS.size; go_simp; first | done | exact ⟨hS, rfl⟩ | exact hS | rfl) ?_
  go_simp
  refine chain_next 0 rfl rfl rfl rfl (by decide) rfl (by first | kernel_rfl | rfl) ?_ ?_
  · intro w' hS
    obtain ⟨hb', b', hx', hown⟩ := hS
    rw [upd_same] at hx'
    subst hx'
    have hlk := sign_lookup hown op HOP.out
    go_simp
    exact ⟨hb', by show upd _ 9 _ 9 = _; rw [upd_same]⟩
  intro y
  go_simp
  refine chain_next 1 rfl rfl rfl rfl (by decide) rfl (by first | kernel_rfl | rfl) ?_ ?_
  · intro w' hS
    obtain ⟨hb', hy'⟩ := hS
    have hy' : upd (upd _ 6 x) 9 y 9 = _ := hy'
    rw [upd_same] at hy'
    subst hy'
    go_simp
    exact ⟨hb', by show upd _ 10 _ 10 = _; rw [upd_same]⟩
  intro z
  go_simp
  refine chain_st rfl rfl (by decide) rfl (by intro j u w' hS; have hbS := hS.1; have ⟨cb, fb⟩ := bcell hbS; have qb := hbS.size; go_simp; first | done | exact ⟨hS, rfl⟩ | exact hS | rfl) ?_
  go_simp
  refine chain_st rfl rfl (by decide) rfl (by intro j u w' hS; have hbS := hS.1; have ⟨cb, fb⟩ := bcell hbS; have qb := hbS.size; go_simp; first | done | exact ⟨hS, rfl⟩ | exact hS | rfl) ?_
  go_simp
  refine chain_st rfl rfl (by decide) rfl (by intro j u w' hS; have hbS := hS.1; have ⟨cb, fb⟩ := bcell hbS; have qb := hbS.size; go_simp; first | done | exact ⟨hS, rfl⟩ | exact hS | rfl) ?_
  go_simp
  refine chain_st rfl rfl (by decide) rfl (by intro j u w' hS; have hbS := hS.1; have ⟨cb, fb⟩ := bcell hbS; have qb := hbS.size; go_simp; first | done | exact ⟨hS, rfl⟩ | exact hS | rfl) ?_
  go_simp
  refine chain_st rfl rfl (by decide) rfl (by intro j u w' hS; go_simp; exact (TxtAt.call IH.out h _ _ _ _ _ w' ((HY.out.below HB.out).below hS.1) HG.out.2 (by omega)).mono (fun e w'' hh => ⟨hh.1, hS.below hh.2⟩)) ?_
  go_simp
  refine chain_next 2 rfl rfl rfl rfl (by decide) rfl (by first | kernel_rfl | rfl) ?_ ?_
  · intro w' hS
    obtain ⟨hb', hy'⟩ := hS
    have hy' : upd _ 10 z 10 = _ := hy'
    rw [upd_same] at hy'
    subst hy'
    go_simp
    exact ⟨hb', by show upd _ 16 _ 16 = _; rw [upd_same]⟩
  intro z2
  go_simp
  refine chain_next 3 rfl rfl rfl rfl (by decide) rfl (by first | kernel_rfl | rfl) ?_ ?_
  · intro w' hS
    obtain ⟨hb', hy'⟩ := hS
    have hy' : upd _ 16 z2 16 = _ := hy'
    rw [upd_same] at hy'
    subst hy'
    go_simp
    exact ⟨hb', by show upd _ 17 _ 17 = _; rw [upd_same]⟩
  intro z3
  go_simp
  refine chain_next 4 rfl rfl rfl rfl (by decide) rfl (by first | kernel_rfl | rfl) ?_ ?_
  · intro w' hS
    obtain ⟨hb', hy'⟩ := hS
    have hy' : upd _ 17 z3 17 = _ := hy'
    rw [upd_same] at hy'
    subst hy'
    go_simp
    exact ⟨hb', by show upd _ 18 _ 18 = _; rw [upd_same]⟩
  intro z4
  refine flowU_nil ?_
  intro wz hz
  obtain ⟨hb', hy'⟩ := hz
  have hy' : upd _ 18 z4 18 = _ := hy'
  rw [upd_same] at hy'
  subst hy'
  go_simp
  go_wp2
  go_ret
  exact ⟨ret_strs (by rw [HTX.out]; simp [List.append_assoc]), by exact bel⟩
set_option maxHeartbeats 3200000 in
theorem formatFormula_any {B : Nat → Prop} : ∀ m : Nat, TxtAt Tryz.prog 188 B m := by
  intro m
  induction m with
  | zero => intro t v0 v1 v2 v3 v4 w h; exact h.elim
  | succ m ih =>
    intro t v0 v1 v2 v3 v4 w hfm hf hz
    have IH := Lib.hid ih
    clear ih
    cases form_cases hf with
    | tru =>
      obtain ⟨p, c, q, d, rfl, rfl, rfl, rfl, rfl, -⟩ := hfm.form
      clear hfm hf hz
      show Calls Tryz.prog 188 #[.agg #[.int .i64 1, .string ⟨#[]⟩, .slice p 0 c, .string ⟨#[]⟩, .slice q 0 d]] w _
      go_enter Tryz.func188, Tryz.ntmps188
      go_wp2
      go_ret
      exact ⟨ret_str (by rw [opF, Fm.txt]; rfl), by exact bel⟩
    | fal =>
      obtain ⟨p, c, q, d, rfl, rfl, rfl, rfl, rfl, -⟩ := hfm.form
      clear hfm hf hz
      show Calls Tryz.prog 188 #[.agg #[.int .i64 2, .string ⟨#[]⟩, .slice p 0 c, .string ⟨#[]⟩, .slice q 0 d]] w _
      go_enter Tryz.func188, Tryz.ntmps188
      go_wp2
      go_ret
      exact ⟨ret_str (by rw [opF, Fm.txt]; rfl), by exact bel⟩
    | atm a ha =>
      have HA := Lib.hid (show TmAt B (m + 1) w a _ from hfm.atm)
      obtain ⟨p, c, q, d, rfl, rfl, rfl, rfl, rfl, -⟩ := hfm.form
      rw [txt_atm] at hz ⊢
      have HZ := Lib.hid (And.intro ha hz)
      clear hfm hf hz
      show Calls Tryz.prog 188 #[.agg #[.int .i64 3, .string a.n, .slice p a.us.length c, .string ⟨#[]⟩, .slice q 0 d]] w _
      go_enter Tryz.func188, Tryz.ntmps188
      go_wp2_with fail
      refine (formatTerm_atom (m + 1) a _ _ _ (HA.out.below (by exact bel)) HZ.out.1 HZ.out.2).mono ?_
      rintro e w1 ⟨rfl, hb1⟩
      have ⟨cw1, fw1⟩ := bcell hb1
      have qw1 := hb1.size
      (try simp at qw1)
      (try have zw1w := bsz (show w.heap.size < w1.heap.size by omega))
      go_wp2
      go_ret
      exact ⟨rfl, by exact bel⟩
    | neg g hg =>
      obtain ⟨p, c, q, d, rfl, rfl, rfl, rfl, rfl, -⟩ := hfm.form
      obtain ⟨vn, va, vp, hcs, hop, hs, ht, hl⟩ := hfm
      simp only [List.cons.injEq, and_true] at hcs
      obtain ⟨-, -, -, -, rfl⟩ := hcs
      have hl' : ListAt B w 5 (FmAt B m w) (.slice q 1 d) [g] := hl
      obtain ⟨b, o, x0, x1, x2, x3, x4, rfl, hx0, hx1, hx2, hx3, hx4, hx⟩ := FmAt.oneT hl'
      have zb := bsz (World.block_lt_of_cell? _ _ hx0)
      obtain ⟨pg, cg, qg, dg, rfl, rfl, rfl, rfl, rfl, -⟩ := hx.form
      have HT := Lib.hid (txt_neg g)
      have hz2 : g.txt.length + 3 ≤ 1000000000003 := by rw [txt_neg] at hz; split at hz <;> (simp at hz; omega)
      have HX := Lib.hid (And.intro hx hg)
      clear hf hz ht hl hl' hx hg
      show Calls Tryz.prog 188 #[.agg #[.int .i64 4, .string ⟨#[]⟩, .slice p 0 c, .string ⟨#[]⟩, .slice (some ⟨b, o, none⟩) 1 d]] w _
      by_cases hq : g.a.n.data.toList = [61]
      · have HIE := Lib.hid (show isEq g.a.n = true by rw [isEq]; simpa using hq)
        have HN := Lib.hid hq
        clear hq
        go_enter Tryz.func188, Tryz.ntmps188
        go_wp2_with fail
        refine (isEquality_any _ _ _).mono ?_
        rintro e w1 ⟨rfl, hb1⟩
        have ⟨cw1, fw1⟩ := bcell hb1
        have qw1 := hb1.size
        (try simp at qw1)
        (try have zw1w := bsz (show w.heap.size < w1.heap.size by omega))
        rw [HIE.out]
        go_wp2_with fail
        refine (TxtAt.call IH.out g _ _ _ _ _ _ (HX.out.1.below (by exact bel)) HX.out.2 (by omega)).mono ?_
        rintro e w2 ⟨rfl, hb2⟩
        have ⟨cw2, fw2⟩ := bcell hb2
        have qw2 := hb2.size
        (try simp at qw2)
        (try have zw2w := bsz (show w.heap.size < w2.heap.size by omega))
        (try have zw2w1 := bsz (show w1.heap.size < w2.heap.size by omega))
        go_wp2
        go_ret
        exact ⟨ret_strs (by rw [HT.out, if_pos HN.out]; simp), by exact bel⟩
      · have HIE := Lib.hid (show isEq g.a.n = false by rw [isEq]; simpa using hq)
        have HN := Lib.hid hq
        clear hq
        go_enter Tryz.func188, Tryz.ntmps188
        go_wp2_with fail
        refine (isEquality_any _ _ _).mono ?_
        rintro e w1 ⟨rfl, hb1⟩
        have ⟨cw1, fw1⟩ := bcell hb1
        have qw1 := hb1.size
        (try simp at qw1)
        (try have zw1w := bsz (show w.heap.size < w1.heap.size by omega))
        rw [HIE.out]
        go_wp2_with fail
        refine (TxtAt.call IH.out g _ _ _ _ _ _ (HX.out.1.below (by exact bel)) HX.out.2 (by omega)).mono ?_
        rintro e w2 ⟨rfl, hb2⟩
        have ⟨cw2, fw2⟩ := bcell hb2
        have qw2 := hb2.size
        (try simp at qw2)
        (try have zw2w := bsz (show w.heap.size < w2.heap.size by omega))
        (try have zw2w1 := bsz (show w1.heap.size < w2.heap.size by omega))
        go_wp2
        go_ret
        exact ⟨ret_strs (by rw [HT.out, if_neg HN.out]; simp), by exact bel⟩
    | bin op g h ho hg hh =>
      obtain ⟨p, c, q, d, rfl, rfl, rfl, rfl, rfl, -⟩ := hfm.form
      obtain ⟨vn, va, vp, hcs, hop, hs, ht, hl⟩ := hfm
      simp only [List.cons.injEq, and_true] at hcs
      obtain ⟨-, -, -, -, rfl⟩ := hcs
      exact formatFormula_bin m IH.out op ho g h hg hh p q c d w hl hz
    | qua op v g ho hv hg =>
      obtain ⟨p, c, q, d, rfl, rfl, rfl, rfl, rfl, -⟩ := hfm.form
      obtain ⟨vn, va, vp, hcs, hop, hs, ht, hl⟩ := hfm
      simp only [List.cons.injEq, and_true] at hcs
      obtain ⟨-, -, -, -, rfl⟩ := hcs
      have hl' : ListAt B w 5 (FmAt B m w) (.slice q 1 d) [g] := hl
      obtain ⟨b, o, x0, x1, x2, x3, x4, rfl, hx0, hx1, hx2, hx3, hx4, hx⟩ := FmAt.oneT hl'
      have zb := bsz (World.block_lt_of_cell? _ _ hx0)
      have HG := Lib.hid hg
      have HX := Lib.hid hx
      clear hf ht hl hl' hg hx
      rcases ho with rfl | rfl
      · have hz2 : g.txt.length + v.length + 30 ≤ 1000000000030 := by rw [txt_qua (by decide)] at hz; simp at hz; omega
        clear hz
        show Calls Tryz.prog 188 #[.agg #[.int .i64 8, .string ⟨#[]⟩, .slice p 0 c, .string ⟨v.toArray⟩, .slice (some ⟨b, o, none⟩) 1 d]] w _
        go_enter Tryz.func188, Tryz.ntmps188
        go_wp2
        obtain ⟨W, hW⟩ : ∃ W : World, W = w.alloc (.cells #[.int .i64 8, .string ⟨#[]⟩, .slice p 0 c, .string ⟨v.toArray⟩, .slice (some ⟨b, o, none⟩) 1 d] 44) := ⟨_, rfl⟩
        have hwb : W.cell? ⟨w.heap.size, 3, none⟩ = some (.string ⟨v.toArray⟩) := by rw [hW]; go_simp
        have hwc : W.cell? ⟨w.heap.size, 4, none⟩ = some (.slice (some ⟨b, o, none⟩) 1 d) := by rw [hW]; go_simp
        have hbW : Below w.heap.size w W := by rw [hW]; exact bel
        rw [← hW]
        clear hW
        have zW := bsz (World.block_lt_of_cell? _ _ hwb)
        have ⟨cW, fW⟩ := bcell hbW
        obtain ⟨C, HC0⟩ := class_of (InF W.heap.size _ [(⟨w.heap.size, 3, none⟩, .string ⟨v.toArray⟩), (⟨w.heap.size, 4, none⟩, .slice (some ⟨b, o, none⟩) 1 d), (⟨b, o, none⟩, x0), (⟨b, o + 1, none⟩, x1), (⟨b, o + 2, none⟩, x2), (⟨b, o + 3, none⟩, x3), (⟨b, o + 4, none⟩, x4)] [] [])
        have HC := Lib.hid HC0
        clear HC0
        refine wp_region_flow (C := C) (by kernel_rfl) (by kernel_rfl) (fun L hL => (HC.out _ _).2 (InF.start (by first | (intro _ hs; cases hs; done) | (simp only [List.forall_mem_cons]; go_simp)) (by first | (intro _ hs; cases hs; done) | (simp only [List.forall_mem_cons]; go_simp)) (by first | (intro _ hs; cases hs; done) | (simp only [List.forall_mem_cons]; go_simp)) (by first | (intro _ hs; cases hs; done) | (simp only [List.forall_mem_cons]; go_simp)) L hL)) ?_
        repeat (first | ((first | apply flow_free rfl | (apply flow_yes; (case hw => go_simp))); (intro L w' hun hrd hC; have hC := (HC.out _ _).1 hC; have hb' := hC.below; (try have hw' : Below w.heap.size w w' := by first | exact Below.trans (by (repeat (first | with_reducible (first | exact bR _ _ | assumption | refine bA ?_ _ | refine bS ?_ (by first | exact Nat.le_refl _ | (simp; done) | (simp; omega)) _) | assumption | exact bR _ _ | refine bD ?_ | refine bN ?_ _ | refine bT ?_ (by assumption)))) hb' | ((repeat (first | with_reducible (first | exact bR _ _ | assumption | refine bA ?_ _ | refine bS ?_ (by first | exact Nat.le_refl _ | (simp; done) | (simp; omega)) _) | assumption | exact bR _ _ | refine bD ?_ | refine bN ?_ _ | refine bT ?_ (by assumption))); done)); have hf' := hC.cell; (try simp only [List.forall_mem_cons] at hf'); go_simp; first | exact ⟨(HC.out _ _).2 (hC.skip _ (by rfl)), rfl⟩ | (rw [if_neg]; (exact ⟨(HC.out _ _).2 (hC.skip _ (by rfl)), rfl⟩); omega) | (go_at_call 188; (with_reducible refine (TxtAt.call IH.out g x0 x1 x2 x3 x4 _ (HX.out.below hw') HG.out (by omega)).mono ?_); rintro e w1 ⟨rfl, hb1⟩; exact ⟨rfl, (HC.out _ _).2 ((hC.next (by first | (simp; done) | (simp; omega) | omega) hb1).skip _ (by rfl))⟩)); go_simp) | (apply flow_no; (case hw => (go_simp; try (intro hh; cases hh))); (intro L w' _ _ hC; exact (HC.out _ _).2 (((HC.out _ _).1 hC).skip _ (by rfl))); go_simp))
        refine flow_nil ?_
        intro L wz hL hz
        have hz := (HC.out _ _).1 hz
        have hbz := hz.below
        have hcz := hz.cell
        try simp only [List.forall_mem_cons] at hcz
        have hdz := hz.done
        try simp only [List.forall_mem_cons] at hdz
        (try have hwz : Below w.heap.size w wz := by first | exact Below.trans (by (repeat (first | with_reducible (first | exact bR _ _ | assumption | refine bA ?_ _ | refine bS ?_ (by first | exact Nat.le_refl _ | (simp; done) | (simp; omega)) _) | assumption | exact bR _ _ | refine bD ?_ | refine bN ?_ _ | refine bT ?_ (by assumption)))) hbz | ((repeat (first | with_reducible (first | exact bR _ _ | assumption | refine bA ?_ _ | refine bS ?_ (by first | exact Nat.le_refl _ | (simp; done) | (simp; omega)) _) | assumption | exact bR _ _ | refine bD ?_ | refine bN ?_ _ | refine bT ?_ (by assumption))); done))
        go_wp2
        go_ret
        exact ⟨ret_strs (by rw [txt_qua (by decide)]; simp [sAll8]), by exact bel⟩
      · have hz2 : g.txt.length + v.length + 30 ≤ 1000000000030 := by rw [txt_qua (by decide)] at hz; simp at hz; omega
        clear hz
        show Calls Tryz.prog 188 #[.agg #[.int .i64 9, .string ⟨#[]⟩, .slice p 0 c, .string ⟨v.toArray⟩, .slice (some ⟨b, o, none⟩) 1 d]] w _
        go_enter Tryz.func188, Tryz.ntmps188
        go_wp2
        obtain ⟨W, hW⟩ : ∃ W : World, W = w.alloc (.cells #[.int .i64 9, .string ⟨#[]⟩, .slice p 0 c, .string ⟨v.toArray⟩, .slice (some ⟨b, o, none⟩) 1 d] 44) := ⟨_, rfl⟩
        have hwb : W.cell? ⟨w.heap.size, 3, none⟩ = some (.string ⟨v.toArray⟩) := by rw [hW]; go_simp
        have hwc : W.cell? ⟨w.heap.size, 4, none⟩ = some (.slice (some ⟨b, o, none⟩) 1 d) := by rw [hW]; go_simp
        have hbW : Below w.heap.size w W := by rw [hW]; exact bel
        rw [← hW]
        clear hW
        have zW := bsz (World.block_lt_of_cell? _ _ hwb)
        have ⟨cW, fW⟩ := bcell hbW
        obtain ⟨C, HC0⟩ := class_of (InF W.heap.size _ [(⟨w.heap.size, 3, none⟩, .string ⟨v.toArray⟩), (⟨w.heap.size, 4, none⟩, .slice (some ⟨b, o, none⟩) 1 d), (⟨b, o, none⟩, x0), (⟨b, o + 1, none⟩, x1), (⟨b, o + 2, none⟩, x2), (⟨b, o + 3, none⟩, x3), (⟨b, o + 4, none⟩, x4)] [] [])
        have HC := Lib.hid HC0
        clear HC0
        refine wp_region_flow (C := C) (by kernel_rfl) (by kernel_rfl) (fun L hL => (HC.out _ _).2 (InF.start (by first | (intro _ hs; cases hs; done) | (simp only [List.forall_mem_cons]; go_simp)) (by first | (intro _ hs; cases hs; done) | (simp only [List.forall_mem_cons]; go_simp)) (by first | (intro _ hs; cases hs; done) | (simp only [List.forall_mem_cons]; go_simp)) (by first | (intro _ hs; cases hs; done) | (simp only [List.forall_mem_cons]; go_simp)) L hL)) ?_
        repeat (first | ((first | apply flow_free rfl | (apply flow_yes; (case hw => go_simp))); (intro L w' hun hrd hC; have hC := (HC.out _ _).1 hC; have hb' := hC.below; (try have hw' : Below w.heap.size w w' := by first | exact Below.trans (by (repeat (first | with_reducible (first | exact bR _ _ | assumption | refine bA ?_ _ | refine bS ?_ (by first | exact Nat.le_refl _ | (simp; done) | (simp; omega)) _) | assumption | exact bR _ _ | refine bD ?_ | refine bN ?_ _ | refine bT ?_ (by assumption)))) hb' | ((repeat (first | with_reducible (first | exact bR _ _ | assumption | refine bA ?_ _ | refine bS ?_ (by first | exact Nat.le_refl _ | (simp; done) | (simp; omega)) _) | assumption | exact bR _ _ | refine bD ?_ | refine bN ?_ _ | refine bT ?_ (by assumption))); done)); have hf' := hC.cell; (try simp only [List.forall_mem_cons] at hf'); go_simp; first | exact ⟨(HC.out _ _).2 (hC.skip _ (by rfl)), rfl⟩ | (rw [if_neg]; (exact ⟨(HC.out _ _).2 (hC.skip _ (by rfl)), rfl⟩); omega) | (go_at_call 188; (with_reducible refine (TxtAt.call IH.out g x0 x1 x2 x3 x4 _ (HX.out.below hw') HG.out (by omega)).mono ?_); rintro e w1 ⟨rfl, hb1⟩; exact ⟨rfl, (HC.out _ _).2 ((hC.next (by first | (simp; done) | (simp; omega) | omega) hb1).skip _ (by rfl))⟩)); go_simp) | (apply flow_no; (case hw => (go_simp; try (intro hh; cases hh))); (intro L w' _ _ hC; exact (HC.out _ _).2 (((HC.out _ _).1 hC).skip _ (by rfl))); go_simp))
        refine flow_nil ?_
        intro L wz hL hz
        have hz := (HC.out _ _).1 hz
        have hbz := hz.below
        have hcz := hz.cell
        try simp only [List.forall_mem_cons] at hcz
        have hdz := hz.done
        try simp only [List.forall_mem_cons] at hdz
        (try have hwz : Below w.heap.size w wz := by first | exact Below.trans (by (repeat (first | with_reducible (first | exact bR _ _ | assumption | refine bA ?_ _ | refine bS ?_ (by first | exact Nat.le_refl _ | (simp; done) | (simp; omega)) _) | assumption | exact bR _ _ | refine bD ?_ | refine bN ?_ _ | refine bT ?_ (by assumption)))) hbz | ((repeat (first | with_reducible (first | exact bR _ _ | assumption | refine bA ?_ _ | refine bS ?_ (by first | exact Nat.le_refl _ | (simp; done) | (simp; omega)) _) | assumption | exact bR _ _ | refine bD ?_ | refine bN ?_ _ | refine bT ?_ (by assumption))); done))
        go_wp2
        go_ret
        exact ⟨ret_strs (by rw [txt_qua (by decide)]; simp [sSome8]), by exact bel⟩
open Go.RowKit
def EtfPost (n : Nat) (ok : Bool) (F : Fm) (w : World) (e : Ending) (w' : World) : Prop :=
  Below w.heap.size w w' ∧ if ok = true then ∃ x, e = .returned (.tuple #[x, .bool true]) ∧ FmV n (NewB w w') w' F x
    else e = .returned (.tuple #[.agg #[.int .i64 0, .string ⟨#[]⟩, .slice none 0 0, .string ⟨#[]⟩, .slice none 0 0], .bool false])
theorem EtfPost.no {n : Nat} {ok : Bool} {F : Fm} {w w' : World} (h : ok = false) (hb : Below w.heap.size w w') : EtfPost n ok F w (.returned (.tuple #[.agg #[.int .i64 0, .string ⟨#[]⟩, .slice none 0 0, .string ⟨#[]⟩, .slice none 0 0], .bool false])) w' := by
  subst h; exact ⟨hb, rfl⟩
end Go.Proofs.YtkgfanajgdelcaaGreatDoor
