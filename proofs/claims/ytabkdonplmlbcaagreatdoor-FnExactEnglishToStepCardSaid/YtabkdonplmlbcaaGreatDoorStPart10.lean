import Derived.RangeFuncOwn
import Derived.Test.YtabkdonplmlbcaaGreatDoorStPart9
namespace Go.Proofs.YtabkdonplmlbcaaGreatDoor
set_option maxRecDepth 100000
open Go.RowKit
theorem LitAt.form {B : Nat → Prop} {n : Nat} {w : World} {l : Lit3} {x0 x1 x2 : Value} (h : LitAt B n w l [x0, x1, x2]) : ∃ p c, x0 = .bool l.pos ∧ x1 = .string l.a.n ∧ x2 = .slice p l.a.us.length c ∧ TmAt B n w l.a [x1, x2] := by
 obtain ⟨vn, va, h1, h2⟩ := h
 simp only [List.cons.injEq, and_true] at h1
 obtain ⟨rfl, rfl, rfl⟩ := h1
 obtain ⟨p, c, rfl, rfl, -⟩ := h2.form
 exact ⟨p, c, rfl, rfl, rfl, h2⟩
theorem LitAt.below {B : Nat → Prop} {w w' : World} (hb : Below w.heap.size w w') {n : Nat} {l : Lit3} {cs : List Value} (h : LitAt B n w l cs) : LitAt B n w' l cs := LitAt.mono (SameOn.below hb) (fun _ h => h) (Nat.le_refl _) h
theorem isValidLiteral_any {B : Nat → Prop} (m : Nat) (l : Lit3) (v0 v1 v2 : Value) (w : World) (h : LitAt B m w l [v0, v1, v2]) (hz : l.a.sz ≤ 100000000) :
  Calls Tryz.prog 75 #[.agg #[v0, v1, v2]] w fun e w' => e = .returned (.bool l.a.atom) ∧ Below w.heap.size w w' := by
 obtain ⟨p, c, rfl, rfl, rfl, ht⟩ := h.form
 have HT := Lib.hid ht
 clear h ht
 go_enter Tryz.func75, Tryz.ntmps75
 go_wp2_with (first | (go_at_call 114; refine (isValidAtom_any m l.a _ _ _ (HT.out.below (by exact bel)) hz).mono ?_; rintro e w1 ⟨rfl, hb1⟩; have ⟨cw1, fw1⟩ := bcell hb1; have qw1 := hb1.size; (try simp at qw1); (try have zw1w := bsz (show w.heap.size < w1.heap.size by omega))))
 go_ret
 exact ⟨rfl, by exact bel⟩
theorem flag_any (b : Bool) (w : World) : Calls Tryz.prog 118 #[.bool b] w fun e w' => e = .returned (.int .i64 (flagI b)) ∧ w = w' := by
 go_enter Tryz.func118, Tryz.ntmps118
 cases b
 all_goals
  go_wp2
  go_ret
  exact ⟨rfl, rfl⟩
set_option maxHeartbeats 1600000 in
theorem compareLiterals_any {B : Nat → Prop} (m : Nat) (a b : Lit3) (v0 v1 v2 u0 u1 u2 : Value) (w : World) (ha : LitAt B m w a [v0, v1, v2]) (hb : LitAt B m w b [u0, u1, u2]) (hoa : a.a.ord = true) (hob : b.a.ord = true) :
  Calls Tryz.prog 76 #[.agg #[v0, v1, v2], .agg #[u0, u1, u2]] w fun e w' => e = .returned (.int .i64 (a.cmp b)) ∧ Below w.heap.size w w' := by
 obtain ⟨p, c, rfl, rfl, rfl, hta⟩ := ha.form
 obtain ⟨q, d, rfl, rfl, rfl, htb⟩ := hb.form
 have HA := Lib.hid hta
 have HB := Lib.hid htb
 clear ha hb hta htb
 go_enter Tryz.func76, Tryz.ntmps76
 go_wp2
 obtain ⟨W, hW⟩ : ∃ W : World, W = (w.alloc (.cells #[.bool a.pos, .string a.a.n, .slice p a.a.us.length c] 81)).alloc (.cells #[.bool b.pos, .string b.a.n, .slice q b.a.us.length d] 81) := ⟨_, rfl⟩
 have hsW : W.heap.size = w.heap.size + 2 := by rw [hW]; simp
 have hbW : Below w.heap.size w W := by rw [hW]; exact bel
 have a0 : W.cell? ⟨w.heap.size, 0, none⟩ = some (.bool a.pos) := by rw [hW]; go_simp
 have a1 : W.cell? ⟨w.heap.size, 1, none⟩ = some (.string a.a.n) := by rw [hW]; go_simp
 have a2 : W.cell? ⟨w.heap.size, 2, none⟩ = some (.slice p a.a.us.length c) := by rw [hW]; go_simp
 have b0 : W.cell? ⟨w.heap.size + 1, 0, none⟩ = some (.bool b.pos) := by rw [hW]; go_simp
 have b1 : W.cell? ⟨w.heap.size + 1, 1, none⟩ = some (.string b.a.n) := by rw [hW]; go_simp
 have b2 : W.cell? ⟨w.heap.size + 1, 2, none⟩ = some (.slice q b.a.us.length d) := by rw [hW]; go_simp
 rw [← hW]
 clear hW
 have zW := bsz (show w.heap.size < W.heap.size by omega)
 have zW1 := bsz (show w.heap.size + 1 < W.heap.size by omega)
 go_region_held3 (fun w' => w'.cell? ⟨w.heap.size, 0, none⟩ = some (.bool a.pos) ∧ w'.cell? ⟨w.heap.size, 1, none⟩ = some (.string a.a.n) ∧ w'.cell? ⟨w.heap.size, 2, none⟩ = some (.slice p a.a.us.length c) ∧ w'.cell? ⟨w.heap.size + 1, 0, none⟩ = some (.bool b.pos) ∧ w'.cell? ⟨w.heap.size + 1, 1, none⟩ = some (.string b.a.n) ∧ w'.cell? ⟨w.heap.size + 1, 2, none⟩ = some (.slice q b.a.us.length d)) (first | go_keep | (refine ⟨?_, ?_, ?_, ?_, ?_, ?_⟩ <;> first | assumption | (go_simp; done) | (exact (World.cell?_of_block (hb6.block _ (by simp; omega))).trans (by first | assumption | (go_simp; done))) | (exact (World.cell?_of_block (hb7.block _ (by simp; omega))).trans (by first | assumption | (go_simp; done))) | fail)) (first | (go_at_call 116; refine (compareTerms_any m a.a b.a _ _ _ _ _ (HA.out.below (by exact bel)) (HB.out.below (by exact bel)) hoa hob).mono ?_; rintro e w6 ⟨rfl, hb6⟩; have hq6 := hb6.size; (try simp at hq6)) | (go_at_call 118; refine (flag_any _ _).mono ?_; rintro e w5 ⟨rfl, rfl⟩) | (go_at_call 117; refine (Tryz.cmp_Compare_int _ _ _).mono ?_; rintro e w5 ⟨rfl, rfl⟩) | (go_at_call 115; refine (or2_any (a.a.cmp b.a) (Lib.compareInt (flagI a.pos) (flagI b.pos)) _ _ _ (by go_simp) (by go_simp)).mono ?_; rintro e w7 ⟨rfl, hb7⟩))
 all_goals
  go_wp2
  go_ret
  exact ⟨rfl, by exact bel⟩
def ClsRel (c : List Lit3) (w : World) (i : Value) (wr : World) : Prop := ∃ k : Nat, k ≤ c.length ∧ i = .int .i64 k ∧ Cls.okF none c = Cls.okF (prevAt c k) (c.drop k) ∧ (∀ _h : 0 < k, ∀ h2 : k - 1 < c.length, (c[k - 1]'h2).a.atom = true) ∧ Below w.heap.size w wr
set_option maxHeartbeats 3200000 in
theorem isValidClause_any {B : Nat → Prop} (m : Nat) (c : List Lit3) (v : Value) (w : World) (h : ClsAt B m w c v) (hz : ∀ l ∈ c, l.a.sz ≤ 100000000) :
  Calls Tryz.prog 42 #[.agg #[v]] w fun e w' => e = .returned (.bool (Cls.good c)) ∧ Below w.heap.size w w' := by
 obtain ⟨p, d, rfl, hlen⟩ := (show ListAt B w 3 (LitAt B m w) v c from h).form
 unfold maxLen at hlen
 have H := Lib.hid (show ListAt B w 3 (LitAt B m w) (.slice p c.length d) c from h)
 have HG := Lib.hid (show Cls.good c = (decide (c.length ≤ 8) && Cls.okF none c) from rfl)
 have HZ := Lib.hid hz
 clear h hz
 go_enter Tryz.func42, Tryz.ntmps42
 go_wp2
 obtain ⟨W, hW⟩ : ∃ W : World, W = w.alloc (.cells #[.slice p c.length d] 25) := ⟨_, rfl⟩
 have hsW : W.heap.size = w.heap.size + 1 := by rw [hW]; simp
 have hbW : Below w.heap.size w W := by rw [hW]; exact bel
 have a0 : W.cell? ⟨w.heap.size, 0, none⟩ = some (.slice p c.length d) := by rw [hW]; go_simp
 rw [← hW]
 clear hW
 have HL := Lib.hid (H.out.mono (SameOn.below hbW) (fun _ h => h) (fun x cs _ hx => LitAt.below hbW hx))
 go_loopw [8] (ClsRel c W) (fun i _ => c.length - (intOf i).toNat)
 case atStart => exact ⟨0, Nat.zero_le _, rfl, rfl, fun h => absurd h (by omega), Below.refl _ _⟩
 case round =>
  obtain ⟨k, hk, rfl, he, hpv, hb⟩ := hrel
  have HE := Lib.hid he
  have HPV := Lib.hid hpv
  have hqr := hb.size
  have zr := bsz (show w.heap.size < wr.heap.size by omega)
  have e0 : wr.cell? ⟨w.heap.size, 0, none⟩ = some (.slice p c.length d) := (World.cell?_of_block (hb.block _ (by simp; omega))).trans a0
  have hwr : Below w.heap.size w wr := hbW.trans (hb.mono hbW.size)
  clear he hpv a0
  by_cases hlt : k < c.length
  ·have hD := okF_drop hlt
   have hszl := HZ.out _ (List.getElem_mem hlt)
   obtain ⟨b1, o1, hq1, hB1, x0, x1, x2, hx0, hx1, hx2, hx⟩ := (HL.out.mono (SameOn.below hb) (fun _ h => h) (fun x cs _ hx => LitAt.below hb hx)).at3 hlt
   have hprev : ∀ h : 0 < k, ∃ y0 y1 y2, wr.cell? ⟨b1, o1 + (k - 1) * 3, none⟩ = some y0 ∧ wr.cell? ⟨b1, o1 + (k - 1) * 3 + 1, none⟩ = some y1 ∧ wr.cell? ⟨b1, o1 + (k - 1) * 3 + 2, none⟩ = some y2 ∧ LitAt B m wr (c[k - 1]'(by omega)) [y0, y1, y2] := fun h => by
    obtain ⟨b2, o2, hq2, -, y0, y1, y2, hy0, hy1, hy2, hy⟩ := (HL.out.mono (SameOn.below hb) (fun _ h => h) (fun x cs _ hx => LitAt.below hb hx)).at3 (show k - 1 < c.length by omega)
    rw [hq1] at hq2
    simp only [Option.some.injEq, Addr.mk.injEq, and_true] at hq2
    obtain ⟨rfl, rfl⟩ := hq2
    exact ⟨y0, y1, y2, hy0, hy1, hy2, hy⟩
   subst hq1
   have HPR := Lib.hid hprev
   have hpp := fun h : 0 < k => prevAt_pos hlt h
   have HPP := Lib.hid hpp
   clear hprev hpp
   obtain ⟨l, hl⟩ : ∃ l, c[k] = l := ⟨_, rfl⟩
   rw [hl] at hx hD hszl
   have HX := Lib.hid hx
   have HD := Lib.hid hD
   have HLK := Lib.hid hl
   clear hx hD hl
   obtain ⟨pa, ca, rfl, rfl, rfl, ht⟩ := HX.out.form
   clear ht
   have zb := bsz (World.block_lt_of_cell? _ _ hx0)
   cases hA : l.a.atom
   ·have HA := Lib.hid (show Cls.good c = false by rw [HG.out, HE.out, HD.out, hA, Bool.false_and, Bool.false_and, Bool.and_false])
    go_wp2
    obtain ⟨V, hV⟩ : ∃ V : World, V = wr.alloc (.cells #[.bool l.pos, .string l.a.n, .slice pa l.a.us.length ca] 81) := ⟨_, rfl⟩
    have hsV : V.heap.size = wr.heap.size + 1 := by rw [hV]; simp
    have hbV : Below wr.heap.size wr V := by rw [hV]; exact bel
    have g0 : V.cell? ⟨wr.heap.size, 0, none⟩ = some (.bool l.pos) := by rw [hV]; go_simp
    have g1 : V.cell? ⟨wr.heap.size, 1, none⟩ = some (.string l.a.n) := by rw [hV]; go_simp
    have g2 : V.cell? ⟨wr.heap.size, 2, none⟩ = some (.slice pa l.a.us.length ca) := by rw [hV]; go_simp
    have g3 : V.cell? ⟨w.heap.size, 0, none⟩ = some (.slice (some ⟨b1, o1, none⟩) c.length d) := by rw [hV]; go_simp
    have zv := bsz (show w.heap.size < V.heap.size by omega)
    have zv1 := bsz (show wr.heap.size < V.heap.size by omega)
    have zv2 := bsz (show b1 < V.heap.size by omega)
    have hwV : Below w.heap.size w V := hwr.trans (hbV.mono hwr.size)
    have hWV : Below W.heap.size W V := hb.trans (hbV.mono hb.size)
    rw [← hV]
    clear hV
    refine wp_region_flowC V.heap.size [(⟨wr.heap.size, 0, none⟩, .bool l.pos), (⟨wr.heap.size, 1, none⟩, .string l.a.n), (⟨wr.heap.size, 2, none⟩, .slice pa l.a.us.length ca)] (by kernel_rfl) (by kernel_rfl) (by first | (intro _ hs; cases hs; done) | (simp only [List.forall_mem_cons]; go_simp)) fun C HC => ?_
    repeat (first | ((first | apply flow_free rfl | (apply flow_yes; (case hw => go_simp))); (intro L w' hun hrd hC; have ⟨hC, hb', hf'⟩ := flO HC hC; (try simp only [List.forall_mem_cons] at hf'); go_simp; first | exact ⟨flS HC hC, rfl⟩ | (rw [if_neg]; (exact ⟨flS HC hC, rfl⟩); omega) | (go_at_call 75; refine (isValidLiteral_any m l _ _ _ _ (LitAt.below (hbV.trans (hb'.mono hbV.size)) HX.out) hszl).mono ?_; rintro e w1 ⟨rfl, hb1⟩; exact ⟨rfl, flN HC hC (by first | (simp; done) | (simp; omega) | omega) hb1⟩)); go_simp) | (apply flow_noC HC; (case hw => (go_simp; try (intro hh; cases hh))); go_simp))
    refine flow_nil ?_
    intro L wz hL hz
    have ⟨_, hbz, hcz⟩ := flO HC hz
    try simp only [List.forall_mem_cons] at hcz
    go_wp2
    go_ret
    exact ⟨ret_bool HA.out.symm, hwV.trans (hbz.mono hwV.size)⟩
   ·cases k with
    | zero =>
     simp only [Nat.zero_mul, Nat.add_zero] at hx0 hx1 hx2
     have HOK := Lib.hid (show Cls.okF none c = Cls.okF (prevAt c (0 + 1)) (c.drop (0 + 1)) by rw [HE.out, HD.out, hA]; simp [prevAt, ascP])
     go_wp2
     obtain ⟨V, hV⟩ : ∃ V : World, V = wr.alloc (.cells #[.bool l.pos, .string l.a.n, .slice pa l.a.us.length ca] 81) := ⟨_, rfl⟩
     have hsV : V.heap.size = wr.heap.size + 1 := by rw [hV]; simp
     have hbV : Below wr.heap.size wr V := by rw [hV]; exact bel
     have g0 : V.cell? ⟨wr.heap.size, 0, none⟩ = some (.bool l.pos) := by rw [hV]; go_simp
     have g1 : V.cell? ⟨wr.heap.size, 1, none⟩ = some (.string l.a.n) := by rw [hV]; go_simp
     have g2 : V.cell? ⟨wr.heap.size, 2, none⟩ = some (.slice pa l.a.us.length ca) := by rw [hV]; go_simp
     have g3 : V.cell? ⟨w.heap.size, 0, none⟩ = some (.slice (some ⟨b1, o1, none⟩) c.length d) := by rw [hV]; go_simp
     have zv := bsz (show w.heap.size < V.heap.size by omega)
     have zv1 := bsz (show wr.heap.size < V.heap.size by omega)
     have zv2 := bsz (show b1 < V.heap.size by omega)
     have hwV : Below w.heap.size w V := hwr.trans (hbV.mono hwr.size)
     have hWV : Below W.heap.size W V := hb.trans (hbV.mono hb.size)
     rw [← hV]
     clear hV
     refine wp_region_flowC V.heap.size [(⟨wr.heap.size, 0, none⟩, .bool l.pos), (⟨wr.heap.size, 1, none⟩, .string l.a.n), (⟨wr.heap.size, 2, none⟩, .slice pa l.a.us.length ca)] (by kernel_rfl) (by kernel_rfl) (by first | (intro _ hs; cases hs; done) | (simp only [List.forall_mem_cons]; go_simp)) fun C HC => ?_
     repeat (first | ((first | apply flow_free rfl | (apply flow_yes; (case hw => go_simp))); (intro L w' hun hrd hC; have ⟨hC, hb', hf'⟩ := flO HC hC; (try simp only [List.forall_mem_cons] at hf'); go_simp; first | exact ⟨flS HC hC, rfl⟩ | (rw [if_neg]; (exact ⟨flS HC hC, rfl⟩); omega) | (go_at_call 75; refine (isValidLiteral_any m l _ _ _ _ (LitAt.below (hbV.trans (hb'.mono hbV.size)) HX.out) hszl).mono ?_; rintro e w1 ⟨rfl, hb1⟩; exact ⟨rfl, flN HC hC (by first | (simp; done) | (simp; omega) | omega) hb1⟩)); go_simp) | (apply flow_noC HC; (case hw => (go_simp; try (intro hh; cases hh))); go_simp))
     refine flow_nil ?_
     intro L wz hL hz
     have ⟨_, hbz, hcz⟩ := flO HC hz
     try simp only [List.forall_mem_cons] at hcz
     go_wp2
     refine ⟨⟨0 + 1, by omega, by go_num, HOK.out, fun _ h2 => ?_, hWV.trans (hbz.mono hWV.size)⟩, by simp [intOf]; omega⟩
     rw [← hA, ← HLK.out]
    | succ j =>
     obtain ⟨y0, y1, y2, hy0, hy1, hy2, hy⟩ := HPR.out (by omega)
     have hpa := HPV.out (by omega) (by omega)
     have hpp := HPP.out (by omega)
     simp only [Nat.add_sub_cancel] at hy0 hy1 hy2 hy hpa hpp
     obtain ⟨l0, hl0⟩ : ∃ l0, c[j]'(by omega) = l0 := ⟨_, rfl⟩
     rw [hl0] at hy hpa hpp
     have HY := Lib.hid hy
     have HPP0 := Lib.hid hpp
     have hop := Tm.ord_atom hpa
     have hol := Tm.ord_atom hA
     clear hy hpp hl0 hpa
     obtain ⟨pb, cb, rfl, rfl, rfl, ht⟩ := HY.out.form
     clear ht
     have hj1 : (0 : Int) < (j : Int) + 1 := by omega
     have hwj : IntKind.i64.wrap (j : Int) = (j : Int) := IntWalk.i64_in _ (by omega)
     have hjl : (j : Int) < c.length := by omega
     by_cases hcm : l0.cmp l < 0
     ·have HOK := Lib.hid (show Cls.okF none c = Cls.okF (prevAt c (j + 1 + 1)) (c.drop (j + 1 + 1)) by rw [HE.out, HD.out, hA, HPP0.out]; simp [ascP, hcm])
      have hcm2 : ¬ 0 ≤ l0.cmp l := by omega
      go_wp2
      obtain ⟨V, hV⟩ : ∃ V : World, V = wr.alloc (.cells #[.bool l.pos, .string l.a.n, .slice pa l.a.us.length ca] 81) := ⟨_, rfl⟩
      have hsV : V.heap.size = wr.heap.size + 1 := by rw [hV]; simp
      have hbV : Below wr.heap.size wr V := by rw [hV]; exact bel
      have g0 : V.cell? ⟨wr.heap.size, 0, none⟩ = some (.bool l.pos) := by rw [hV]; go_simp
      have g1 : V.cell? ⟨wr.heap.size, 1, none⟩ = some (.string l.a.n) := by rw [hV]; go_simp
      have g2 : V.cell? ⟨wr.heap.size, 2, none⟩ = some (.slice pa l.a.us.length ca) := by rw [hV]; go_simp
      have g3 : V.cell? ⟨w.heap.size, 0, none⟩ = some (.slice (some ⟨b1, o1, none⟩) c.length d) := by rw [hV]; go_simp
      have zv := bsz (show w.heap.size < V.heap.size by omega)
      have zv1 := bsz (show wr.heap.size < V.heap.size by omega)
      have zv2 := bsz (show b1 < V.heap.size by omega)
      have hwV : Below w.heap.size w V := hwr.trans (hbV.mono hwr.size)
      have hWV : Below W.heap.size W V := hb.trans (hbV.mono hb.size)
      have hy0' : V.cell? ⟨b1, o1 + j * 3, none⟩ = some (.bool l0.pos) := by rw [hV]; go_simp
      have hy1' : V.cell? ⟨b1, o1 + j * 3 + 1, none⟩ = some (.string l0.a.n) := by rw [hV]; go_simp
      have hy2' : V.cell? ⟨b1, o1 + j * 3 + 2, none⟩ = some (.slice pb l0.a.us.length cb) := by rw [hV]; go_simp
      rw [← hV]
      clear hV
      refine wp_region_flowC V.heap.size [(⟨wr.heap.size, 0, none⟩, .bool l.pos), (⟨wr.heap.size, 1, none⟩, .string l.a.n), (⟨wr.heap.size, 2, none⟩, .slice pa l.a.us.length ca), (⟨w.heap.size, 0, none⟩, .slice (some ⟨b1, o1, none⟩) c.length d), (⟨b1, o1 + j * 3, none⟩, .bool l0.pos), (⟨b1, o1 + j * 3 + 1, none⟩, .string l0.a.n), (⟨b1, o1 + j * 3 + 2, none⟩, .slice pb l0.a.us.length cb)] (by kernel_rfl) (by kernel_rfl) (by first | (intro _ hs; cases hs; done) | (simp only [List.forall_mem_cons]; go_simp)) fun C HC => ?_
      repeat (first | ((first | apply flow_free rfl | (apply flow_yes; (case hw => go_simp))); (intro L w' hun hrd hC; have ⟨hC, hb', hf'⟩ := flO HC hC; (try simp only [List.forall_mem_cons] at hf'); go_simp; first | exact ⟨flS HC hC, rfl⟩ | (rw [if_neg]; (exact ⟨flS HC hC, rfl⟩); omega) | (go_at_call 75; refine (isValidLiteral_any m l _ _ _ _ (LitAt.below (hbV.trans (hb'.mono hbV.size)) HX.out) hszl).mono ?_; rintro e w1 ⟨rfl, hb1⟩; exact ⟨rfl, flN HC hC (by first | (simp; done) | (simp; omega) | omega) hb1⟩) | (go_at_call 76; refine (compareLiterals_any m l0 l _ _ _ _ _ _ _ (LitAt.below (hbV.trans (hb'.mono hbV.size)) HY.out) (LitAt.below (hbV.trans (hb'.mono hbV.size)) HX.out) hop hol).mono ?_; rintro e w1 ⟨rfl, hb1⟩; exact ⟨rfl, flN HC hC (by first | (simp; done) | (simp; omega) | omega) hb1⟩)); go_simp) | (apply flow_noC HC; (case hw => (go_simp; try (intro hh; cases hh))); go_simp))
      refine flow_nil ?_
      intro L wz hL hz
      have ⟨_, hbz, hcz⟩ := flO HC hz
      try simp only [List.forall_mem_cons] at hcz
      go_wp2
      refine ⟨⟨j + 1 + 1, by omega, by go_num, HOK.out, fun _ h2 => ?_, hWV.trans (hbz.mono hWV.size)⟩, by simp [intOf]; omega⟩
      rw [← hA, ← HLK.out]
      rfl
     ·have HNO := Lib.hid (show Cls.good c = false by rw [HG.out, HE.out, HD.out, hA, HPP0.out]; simp [ascP, hcm])
      have hcm2 : 0 ≤ l0.cmp l := by omega
      go_wp2
      obtain ⟨V, hV⟩ : ∃ V : World, V = wr.alloc (.cells #[.bool l.pos, .string l.a.n, .slice pa l.a.us.length ca] 81) := ⟨_, rfl⟩
      have hsV : V.heap.size = wr.heap.size + 1 := by rw [hV]; simp
      have hbV : Below wr.heap.size wr V := by rw [hV]; exact bel
      have g0 : V.cell? ⟨wr.heap.size, 0, none⟩ = some (.bool l.pos) := by rw [hV]; go_simp
      have g1 : V.cell? ⟨wr.heap.size, 1, none⟩ = some (.string l.a.n) := by rw [hV]; go_simp
      have g2 : V.cell? ⟨wr.heap.size, 2, none⟩ = some (.slice pa l.a.us.length ca) := by rw [hV]; go_simp
      have g3 : V.cell? ⟨w.heap.size, 0, none⟩ = some (.slice (some ⟨b1, o1, none⟩) c.length d) := by rw [hV]; go_simp
      have zv := bsz (show w.heap.size < V.heap.size by omega)
      have zv1 := bsz (show wr.heap.size < V.heap.size by omega)
      have zv2 := bsz (show b1 < V.heap.size by omega)
      have hwV : Below w.heap.size w V := hwr.trans (hbV.mono hwr.size)
      have hWV : Below W.heap.size W V := hb.trans (hbV.mono hb.size)
      have hy0' : V.cell? ⟨b1, o1 + j * 3, none⟩ = some (.bool l0.pos) := by rw [hV]; go_simp
      have hy1' : V.cell? ⟨b1, o1 + j * 3 + 1, none⟩ = some (.string l0.a.n) := by rw [hV]; go_simp
      have hy2' : V.cell? ⟨b1, o1 + j * 3 + 2, none⟩ = some (.slice pb l0.a.us.length cb) := by rw [hV]; go_simp
      rw [← hV]
      clear hV
      refine wp_region_flowC V.heap.size [(⟨wr.heap.size, 0, none⟩, .bool l.pos), (⟨wr.heap.size, 1, none⟩, .string l.a.n), (⟨wr.heap.size, 2, none⟩, .slice pa l.a.us.length ca), (⟨w.heap.size, 0, none⟩, .slice (some ⟨b1, o1, none⟩) c.length d), (⟨b1, o1 + j * 3, none⟩, .bool l0.pos), (⟨b1, o1 + j * 3 + 1, none⟩, .string l0.a.n), (⟨b1, o1 + j * 3 + 2, none⟩, .slice pb l0.a.us.length cb)] (by kernel_rfl) (by kernel_rfl) (by first | (intro _ hs; cases hs; done) | (simp only [List.forall_mem_cons]; go_simp)) fun C HC => ?_
      repeat (first | ((first | apply flow_free rfl | (apply flow_yes; (case hw => go_simp))); (intro L w' hun hrd hC; have ⟨hC, hb', hf'⟩ := flO HC hC; (try simp only [List.forall_mem_cons] at hf'); go_simp; first | exact ⟨flS HC hC, rfl⟩ | (rw [if_neg]; (exact ⟨flS HC hC, rfl⟩); omega) | (go_at_call 75; refine (isValidLiteral_any m l _ _ _ _ (LitAt.below (hbV.trans (hb'.mono hbV.size)) HX.out) hszl).mono ?_; rintro e w1 ⟨rfl, hb1⟩; exact ⟨rfl, flN HC hC (by first | (simp; done) | (simp; omega) | omega) hb1⟩) | (go_at_call 76; refine (compareLiterals_any m l0 l _ _ _ _ _ _ _ (LitAt.below (hbV.trans (hb'.mono hbV.size)) HY.out) (LitAt.below (hbV.trans (hb'.mono hbV.size)) HX.out) hop hol).mono ?_; rintro e w1 ⟨rfl, hb1⟩; exact ⟨rfl, flN HC hC (by first | (simp; done) | (simp; omega) | omega) hb1⟩)); go_simp) | (apply flow_noC HC; (case hw => (go_simp; try (intro hh; cases hh))); go_simp))
      refine flow_nil ?_
      intro L wz hL hz
      have ⟨_, hbz, hcz⟩ := flO HC hz
      try simp only [List.forall_mem_cons] at hcz
      go_wp2
      go_ret
      exact ⟨ret_bool HNO.out.symm, hwV.trans (hbz.mono hwV.size)⟩
  ·obtain rfl : k = c.length := by omega
   go_wp2
   go_ret
   exact ⟨ret_bool (by rw [HG.out, HE.out, List.drop_length, Cls.okF, Bool.and_true, decide_eq_decide]; omega), hwr⟩
theorem ListAt.cells {α : Type} {B : Nat → Prop} {w : World} {size : Nat} {R R' : α → List Value → Prop} {v : Value} {xs : List α} (hs : 0 < size) (h : ListAt B w size R v xs) (hR : ∀ x cs, x ∈ xs → R x cs → R' x cs) : ListAt (fun b => B b ∧ ∃ o, w.heap[b]? = some o ∧ o.isCells = true) w size R' v xs := by
 obtain ⟨p, c, h1, h2, h3⟩ := h
 refine ⟨p, c, h1, h2, fun i x hx => ?_⟩
 obtain ⟨b, o, hp, hB, cs, hl, hc, hr⟩ := h3 i x hx
 refine ⟨b, o, hp, ⟨hB, ?_⟩, cs, hl, hc, hR x cs (List.mem_of_getElem? hx) hr⟩
 have h0 := hc 0 hs
 rw [List.getElem?_eq_getElem (by omega)] at h0
 unfold World.cell? at h0
 split at h0
 ·exact ⟨_, by assumption, rfl⟩
 all_goals simp at h0
theorem TmAt.cells {B : Nat → Prop} {w : World} : ∀ (n : Nat) (t : Tm) (cs : List Value), TmAt B n w t cs → TmAt (fun b => B b ∧ ∃ o, w.heap[b]? = some o ∧ o.isCells = true) n w t cs
 | 0, _, _, h => h.elim
 | n + 1, .mk s us, cs, h => by
  obtain ⟨va, h1, h2, h3⟩ := h
  exact ⟨va, h1, h2, h3.cells (by omega) (fun x cs _ hx => TmAt.cells n x cs hx)⟩
theorem FmAt.cells {B : Nat → Prop} {w : World} : ∀ (n : Nat) (t : Fm) (cs : List Value), FmAt B n w t cs → FmAt (fun b => B b ∧ ∃ o, w.heap[b]? = some o ∧ o.isCells = true) n w t cs
 | 0, _, _, h => h.elim
 | n + 1, .mk op a x ps, cs, h => by
  obtain ⟨vn, va, vp, h1, h2, h3, h4, h5⟩ := h
  exact ⟨vn, va, vp, h1, h2, h3, TmAt.cells n _ _ h4, h5.cells (by omega) (fun x cs _ hx => FmAt.cells n x cs hx)⟩
theorem FmAt.lies {B : Nat → Prop} {w : World} {n : Nat} {t : Fm} {cs : List Value} (h : FmAt B n w t cs) : FmAt (fun b => B b ∧ b < w.heap.size) n w t cs :=
 FmAt.mono (SameOn.refl _ _) (fun _ hb => ⟨hb.1, let ⟨_, h, _⟩ := hb.2; (Array.getElem?_eq_some_iff.1 h).1⟩) _ _ _ _ (Nat.le_refl _) (FmAt.cells _ _ _ h)
set_option maxHeartbeats 1600000 in
theorem formulaOfLiteral_any {B : Nat → Prop} (m : Nat) (l : Lit3) (v0 v1 v2 : Value) (w : World) (h : LitAt B m w l [v0, v1, v2]) (hw : l.a.wt ≤ 1048576) :
  Calls Tryz.prog 110 #[.agg #[v0, v1, v2]] w fun e w' => ∃ u0 u1 u2 u3 u4, e = .returned (.agg #[u0, u1, u2, u3, u4]) ∧ FmAt (fun b => w.heap.size ≤ b) (m + 2) w' l.fm [u0, u1, u2, u3, u4] ∧ Below w.heap.size w w' := by
 obtain ⟨p, c, rfl, rfl, rfl, ht⟩ := h.form
 have HT := Lib.hid ht
 have HW := Lib.hid hw
 have HL := Lib.hid (show l.fm = if l.pos then atomOfF l.a else opF 4 [atomOfF l.a] from rfl)
 clear h ht hw
 go_enter Tryz.func110, Tryz.ntmps110
 go_wp2_with fail
 obtain ⟨W, hW⟩ : ∃ W : World, W = (w.alloc (.cells #[.bool l.pos, .string l.a.n, .slice p l.a.us.length c] 81)).alloc (.cells #[.int .i64 0, .string ⟨#[]⟩, .slice none 0 0, .string ⟨#[]⟩, .slice none 0 0] 67) := ⟨_, rfl⟩
 have hsW : W.heap.size = w.heap.size + 2 := by rw [hW]; simp
 have hbW : Below w.heap.size w W := by rw [hW]; exact bel
 have a0 : W.cell? ⟨w.heap.size, 0, none⟩ = some (.bool l.pos) := by rw [hW]; go_simp
 have a1 : W.cell? ⟨w.heap.size, 1, none⟩ = some (.string l.a.n) := by rw [hW]; go_simp
 have a2 : W.cell? ⟨w.heap.size, 2, none⟩ = some (.slice p l.a.us.length c) := by rw [hW]; go_simp
 have r0 : W.cell? ⟨w.heap.size + 1, 0, none⟩ = some (.int .i64 0) := by rw [hW]; go_simp
 have r1 : W.cell? ⟨w.heap.size + 1, 1, none⟩ = some (.string ⟨#[]⟩) := by rw [hW]; go_simp
 have r2 : W.cell? ⟨w.heap.size + 1, 2, none⟩ = some (.slice none 0 0) := by rw [hW]; go_simp
 have r3 : W.cell? ⟨w.heap.size + 1, 3, none⟩ = some (.string ⟨#[]⟩) := by rw [hW]; go_simp
 have r4 : W.cell? ⟨w.heap.size + 1, 4, none⟩ = some (.slice none 0 0) := by rw [hW]; go_simp
 have rf : ∀ j, W.frozen? ⟨w.heap.size + 1, j, none⟩ = false := fun j => by rw [hW]; go_simp
 rw [← hW]
 clear hW
 have zW := bsz (show w.heap.size < W.heap.size by omega)
 have zW1 := bsz (show w.heap.size + 1 < W.heap.size by omega)
 refine (copyTerm_any m l.a _ _ _ (HT.out.below (by exact bel)) HW.out).mono ?_
 rintro e w1 ⟨u0, u1, rfl, hu, hb1⟩
 have ⟨cw1, fw1⟩ := bcell hb1
 have qw1 := hb1.size
 obtain ⟨pu, cu, rfl, rfl, -, -⟩ := hu.form
 have HU := Lib.hid hu
 clear hu
 have hw1 : Below w.heap.size w w1 := by exact bel
 go_wp2_with fail
 refine (atomOf_at m l.a _ _ _ HU.out).mono ?_
 rintro e w2 ⟨rfl, hf, hb2⟩
 have ⟨cw2, fw2⟩ := bcell hb2
 have qw2 := hb2.size
 (try simp at qw2)
 (try have zw2w := bsz (show w.heap.size < w2.heap.size by omega))
 have HF := Lib.hid (FmAt.lies hf)
 clear hf
 have z1 := bsz (show w.heap.size < w1.heap.size by omega)
 have z11 := bsz (show w.heap.size + 1 < w1.heap.size by omega)
 have z2 := bsz (show w.heap.size < w2.heap.size by omega)
 have z21 := bsz (show w.heap.size + 1 < w2.heap.size by omega)
 cases hp : l.pos
 ·have HL2 := Lib.hid (show l.fm = opF 4 [atomOfF l.a] by rw [HL.out, hp]; rfl)
  clear HU HT HL
  go_wp2_with fail
  refine (not_at m (atomOfF l.a) _ _ _ _ _ _ (HF.out.below (by exact bel))).mono ?_
  rintro e w3 ⟨x0, x1, x2, x3, x4, rfl, hx, hb3⟩
  have ⟨cw3, fw3⟩ := bcell hb3
  have qw3 := hb3.size
  (try simp at qw3)
  (try have zw3w := bsz (show w.heap.size < w3.heap.size by omega))
  have z3 := bsz (show w.heap.size < w3.heap.size by omega)
  have z31 := bsz (show w.heap.size + 1 < w3.heap.size by omega)
  have z32 := bsz (show w2.heap.size < w3.heap.size by omega)
  obtain ⟨px, cx, qx, dx, rfl, rfl, rfl, rfl, rfl, -⟩ := hx.form
  have HX := Lib.hid hx
  clear hx
  go_wp2
  refine bodyPost_ret (v := .agg #[.int .i64 (opF 4 [atomOfF l.a]).op, .string (opF 4 [atomOfF l.a]).a.n, .slice px (opF 4 [atomOfF l.a]).a.us.length cx, .string (opF 4 [atomOfF l.a]).v, .slice qx (opF 4 [atomOfF l.a]).ps.length dx]) (by simp only [results, Tryz.results110]; go_simp) rfl ⟨_, _, _, _, _, rfl, ?_, by exact bel⟩
  rw [HL2.out]
  exact FmAt.mono (by ((repeat' (first | with_reducible exact SameOn.refl _ _ | with_reducible refine SameOn.sc ?_ ?_ _ | with_reducible refine SameOn.al ?_ ?_ _ | with_reducible refine SameOn.be ?_ ?_ (by with_reducible assumption))) <;> (first | (intro b hb; simp at hb ⊢; omega) | exact Nat.le_refl _ | (simp; done) | (simp; omega) | omega))) (fun b hb => by (try simp at hb); omega) _ _ _ _ (Nat.le_refl _) HX.out
 ·have HL2 := Lib.hid (show l.fm = atomOfF l.a by rw [HL.out, hp]; rfl)
  clear HU HT HL
  go_wp2
  refine bodyPost_ret (v := .agg #[.int .i64 3, .string l.a.n, .slice pu l.a.us.length cu, .string ⟨#[]⟩, .slice none 0 0]) (by simp only [results, Tryz.results110]; go_simp) rfl ⟨_, _, _, _, _, rfl, ?_, by exact bel⟩
  rw [HL2.out]
  exact FmAt.mono (by ((repeat' (first | with_reducible exact SameOn.refl _ _ | with_reducible refine SameOn.sc ?_ ?_ _ | with_reducible refine SameOn.al ?_ ?_ _ | with_reducible refine SameOn.be ?_ ?_ (by with_reducible assumption))) <;> (first | (intro b hb; simp at hb ⊢; omega) | exact Nat.le_refl _ | (simp; done) | (simp; omega) | omega))) (fun b hb => by (try simp at hb); omega) _ _ _ _ (by omega) HF.out
end Go.Proofs.YtabkdonplmlbcaaGreatDoor
