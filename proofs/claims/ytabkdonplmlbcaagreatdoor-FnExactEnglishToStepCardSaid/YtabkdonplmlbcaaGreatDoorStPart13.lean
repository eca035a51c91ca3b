import Derived.Test.YtabkdonplmlbcaaGreatDoorStPart12
namespace Go.Proofs.YtabkdonplmlbcaaGreatDoor
set_option maxRecDepth 100000
open Go.RowKit
theorem eng_neg (g : Fm) : (opF 4 [g]).eng = sNot ++ g.eng := by rw [opF, Fm.eng]; rfl
theorem eng_and (g h : Fm) : (opF 5 [g, h]).eng = sBoth ++ g.eng ++ sAnd ++ h.eng := by rw [opF, Fm.eng]; rfl
theorem eng_or (g h : Fm) : (opF 6 [g, h]).eng = sEither ++ g.eng ++ sOr ++ h.eng := by rw [opF, Fm.eng]; rfl
theorem eng_imp (g h : Fm) : (opF 7 [g, h]).eng = sIf ++ g.eng ++ sThen ++ h.eng := by rw [opF, Fm.eng]; rfl
theorem eng_all (v : List UInt8) (g : Fm) : (quantF 8 v g).eng = sEvery ++ v ++ sComma ++ g.eng := by rw [quantF, Fm.eng]; rfl
theorem eng_ex (v : List UInt8) (g : Fm) : (quantF 9 v g).eng = sThere ++ v ++ sSuch ++ g.eng := by rw [quantF, Fm.eng]; rfl
theorem eng_atm (a : Tm) : (atomOfF a).eng = a.eng := by rw [atomOfF, Fm.eng]; rfl
def EngAt (P : Program) (k : FuncId) (B : Nat → Prop) (m : Nat) : Prop := ∀ (t : Fm) (v0 v1 v2 v3 v4 : Value) (w : World), FmAt B m w t [v0, v1, v2, v3, v4] → t.form = true → t.eng.length ≤ 1000000000000 →
   Calls P k #[.agg #[v0, v1, v2, v3, v4]] w fun e w' => e = .returned (.string ⟨t.eng.toArray⟩) ∧ Below w.heap.size w w'
theorem englishPart_of {B : Nat → Prop} (m : Nat) (ih : EngAt Tryz.prog 70 B m) (ps : List Fm) (q : Option Addr) (d g : Nat) (w : World) (hc : w.cell? ⟨g, 4, none⟩ = some (.slice q ps.length d))
  (hl : ListAt B w 5 (FmAt B m w) (.slice q ps.length d) ps) (k : Nat) (i : Int) (hi : i = k) (hk : k < ps.length) (hf : (ps[k]).form = true) (hz : (ps[k]).eng.length ≤ 1000000000000) :
  Calls Tryz.prog 108 #[.int .i64 i, .pointer (some ⟨g, 0, none⟩)] w fun e w' => e = .returned (.string ⟨(ps[k]).eng.toArray⟩) ∧ Below w.heap.size w w' := by
 subst hi
 obtain ⟨b, o, rfl, hB, x0, x1, x2, x3, x4, hx0, hx1, hx2, hx3, hx4, hx⟩ := hl.at5 hk
 obtain ⟨a, ha⟩ : ∃ a, ps[k] = a := ⟨_, rfl⟩
 rw [ha] at hx hf hz ⊢
 obtain ⟨pa, ca, qa, da, rfl, rfl, rfl, rfl, rfl, -⟩ := hx.form
 have HX := Lib.hid hx
 have IH := Lib.hid ih
 have HF := Lib.hid (And.intro hf hz)
 clear hl ha hx ih hf hz
 go_enter Tryz.func108, Tryz.ntmps108
 go_wp2_with fail
 refine (IH.out a _ _ _ _ _ _ (HX.out.below (by exact bel)) HF.out.1 HF.out.2).mono ?_
 rintro e w1 ⟨rfl, hb1⟩
 have ⟨cw1, fw1⟩ := bcell hb1
 have qw1 := hb1.size
 (try simp at qw1)
 (try have zw1w := bsz (show w.heap.size < w1.heap.size by omega))
 go_wp2
 go_ret
 exact ⟨rfl, by exact bel⟩
set_option maxHeartbeats 3200000 in
theorem english_any {B : Nat → Prop} : ∀ m : Nat, EngAt Tryz.prog 70 B m := by
 intro m
 induction m with
 | zero => intro t v0 v1 v2 v3 v4 w h; exact h.elim
 | succ m ih =>
  intro t v0 v1 v2 v3 v4 w hfm hf hz
  have HP := Lib.hid (englishPart_of m ih)
  clear ih
  cases form_cases hf with
  | tru =>
   obtain ⟨p, c, q, d, rfl, rfl, rfl, rfl, rfl, -⟩ := hfm.form
   clear hfm hf hz
   show Calls Tryz.prog 70 #[.agg #[.int .i64 1, .string ⟨#[]⟩, .slice p 0 c, .string ⟨#[]⟩, .slice q 0 d]] w _
   go_enter Tryz.func70, Tryz.ntmps70
   go_wp2
   go_ret
   exact ⟨ret_str (by rw [opF, Fm.eng]; rfl), by exact bel⟩
  | fal =>
   obtain ⟨p, c, q, d, rfl, rfl, rfl, rfl, rfl, -⟩ := hfm.form
   clear hfm hf hz
   show Calls Tryz.prog 70 #[.agg #[.int .i64 2, .string ⟨#[]⟩, .slice p 0 c, .string ⟨#[]⟩, .slice q 0 d]] w _
   go_enter Tryz.func70, Tryz.ntmps70
   go_wp2
   go_ret
   exact ⟨ret_str (by rw [opF, Fm.eng]; rfl), by exact bel⟩
  | atm a ha =>
   have HA := Lib.hid (show TmAt B (m + 1) w a _ from hfm.atm)
   obtain ⟨p, c, q, d, rfl, rfl, rfl, rfl, rfl, -⟩ := hfm.form
   rw [eng_atm] at hz ⊢
   have HZ := Lib.hid (And.intro ha hz)
   clear hfm hf hz
   show Calls Tryz.prog 70 #[.agg #[.int .i64 3, .string a.n, .slice p a.us.length c, .string ⟨#[]⟩, .slice q 0 d]] w _
   go_enter Tryz.func70, Tryz.ntmps70
   go_wp2_with fail
   refine (atomEnglish_any (m + 1) a _ _ _ (HA.out.below (by exact bel)) HZ.out.1 HZ.out.2).mono ?_
   rintro e w1 ⟨rfl, hb1⟩
   have ⟨cw1, fw1⟩ := bcell hb1
   have qw1 := hb1.size
   (try simp at qw1)
   (try have zw1w := bsz (show w.heap.size < w1.heap.size by omega))
   go_wp2
   go_ret
   exact ⟨rfl, by exact bel⟩
  | neg g hg =>
   obtain ⟨p, c, q, d, rfl, rfl, rfl, rfl, rfl, -⟩ := hfm.form
   obtain ⟨vn, va, vp, hcs, hop, hs, ht, hl⟩ := hfm
   simp only [List.cons.injEq, and_true] at hcs
   obtain ⟨-, -, -, -, rfl⟩ := hcs
   have HL := Lib.hid (show ListAt B w 5 (FmAt B m w) (.slice q 1 d) [g] from hl)
   have hz2 : g.eng.length + 24 ≤ 1000000000000 := by rw [eng_neg] at hz; simp [sNot] at hz; omega
   have HG := Lib.hid hg
   clear hf hz ht hl
   show Calls Tryz.prog 70 #[.agg #[.int .i64 4, .string ⟨#[]⟩, .slice p 0 c, .string ⟨#[]⟩, .slice q 1 d]] w _
   go_enter Tryz.func70, Tryz.ntmps70
   go_wp2_with fail
   refine (HP.out [g] q d _ _ (by go_simp) (HL.out.mono (SameOn.below (by exact bel)) (fun _ h => h) (fun x cs _ hx => FmAt.below (by exact bel) hx)) 0 _ rfl (by simp) HG.out (by show g.eng.length ≤ _; omega)).mono ?_
   rintro e w1 ⟨rfl, hb1⟩
   have ⟨cw1, fw1⟩ := bcell hb1
   have qw1 := hb1.size
   (try simp at qw1)
   (try have zw1w := bsz (show w.heap.size < w1.heap.size by omega))
   simp only [List.getElem_cons_zero]
   go_wp2
   go_ret
   exact ⟨ret_strs (by rw [eng_neg]; simp [sNot]), by exact bel⟩
  | bin op g h ho hg hh =>
   obtain ⟨p, c, q, d, rfl, rfl, rfl, rfl, rfl, -⟩ := hfm.form
   obtain ⟨vn, va, vp, hcs, hop, hs, ht, hl⟩ := hfm
   simp only [List.cons.injEq, and_true] at hcs
   obtain ⟨-, -, -, -, rfl⟩ := hcs
   have HL := Lib.hid (show ListAt B w 5 (FmAt B m w) (.slice q 2 d) [g, h] from hl)
   have HG := Lib.hid (And.intro hg hh)
   clear hf ht hl hg hh
   rcases ho with rfl | rfl | rfl
   ·have hz2 : g.eng.length + h.eng.length + 30 ≤ 1000000000030 := by rw [eng_and] at hz; simp at hz; omega
    clear hz
    show Calls Tryz.prog 70 #[.agg #[.int .i64 5, .string ⟨#[]⟩, .slice p 0 c, .string ⟨#[]⟩, .slice q 2 d]] w _
    go_enter Tryz.func70, Tryz.ntmps70
    go_wp2_with fail
    refine (HP.out [g, h] q d _ _ (by go_simp) (HL.out.mono (SameOn.below (by exact bel)) (fun _ h => h) (fun x cs _ hx => FmAt.below (by exact bel) hx)) 0 _ rfl (by simp) HG.out.1 (by show g.eng.length ≤ _; omega)).mono ?_
    rintro e w1 ⟨rfl, hb1⟩
    have ⟨cw1, fw1⟩ := bcell hb1
    have qw1 := hb1.size
    (try simp at qw1)
    (try have zw1w := bsz (show w.heap.size < w1.heap.size by omega))
    simp only [List.getElem_cons_zero]
    go_wp2_with fail
    refine (HP.out [g, h] q d _ _ (by go_simp) (HL.out.mono (SameOn.below (by exact bel)) (fun _ h => h) (fun x cs _ hx => FmAt.below (by exact bel) hx)) 1 _ rfl (by simp) HG.out.2 (by show h.eng.length ≤ _; omega)).mono ?_
    rintro e w2 ⟨rfl, hb2⟩
    have ⟨cw2, fw2⟩ := bcell hb2
    have qw2 := hb2.size
    (try simp at qw2)
    (try have zw2w := bsz (show w.heap.size < w2.heap.size by omega))
    (try have zw2w1 := bsz (show w1.heap.size < w2.heap.size by omega))
    simp only [List.getElem_cons_succ, List.getElem_cons_zero]
    go_wp2
    go_ret
    exact ⟨ret_strs (by rw [eng_and]; simp [sBoth, sAnd]), by exact bel⟩
   ·have hz2 : g.eng.length + h.eng.length + 30 ≤ 1000000000030 := by rw [eng_or] at hz; simp at hz; omega
    clear hz
    show Calls Tryz.prog 70 #[.agg #[.int .i64 6, .string ⟨#[]⟩, .slice p 0 c, .string ⟨#[]⟩, .slice q 2 d]] w _
    go_enter Tryz.func70, Tryz.ntmps70
    go_wp2_with fail
    refine (HP.out [g, h] q d _ _ (by go_simp) (HL.out.mono (SameOn.below (by exact bel)) (fun _ h => h) (fun x cs _ hx => FmAt.below (by exact bel) hx)) 0 _ rfl (by simp) HG.out.1 (by show g.eng.length ≤ _; omega)).mono ?_
    rintro e w1 ⟨rfl, hb1⟩
    have ⟨cw1, fw1⟩ := bcell hb1
    have qw1 := hb1.size
    (try simp at qw1)
    (try have zw1w := bsz (show w.heap.size < w1.heap.size by omega))
    simp only [List.getElem_cons_zero]
    go_wp2_with fail
    refine (HP.out [g, h] q d _ _ (by go_simp) (HL.out.mono (SameOn.below (by exact bel)) (fun _ h => h) (fun x cs _ hx => FmAt.below (by exact bel) hx)) 1 _ rfl (by simp) HG.out.2 (by show h.eng.length ≤ _; omega)).mono ?_
    rintro e w2 ⟨rfl, hb2⟩
    have ⟨cw2, fw2⟩ := bcell hb2
    have qw2 := hb2.size
    (try simp at qw2)
    (try have zw2w := bsz (show w.heap.size < w2.heap.size by omega))
    (try have zw2w1 := bsz (show w1.heap.size < w2.heap.size by omega))
    simp only [List.getElem_cons_succ, List.getElem_cons_zero]
    go_wp2
    go_ret
    exact ⟨ret_strs (by rw [eng_or]; simp [sEither, sOr]), by exact bel⟩
   ·have hz2 : g.eng.length + h.eng.length + 30 ≤ 1000000000030 := by rw [eng_imp] at hz; simp at hz; omega
    clear hz
    show Calls Tryz.prog 70 #[.agg #[.int .i64 7, .string ⟨#[]⟩, .slice p 0 c, .string ⟨#[]⟩, .slice q 2 d]] w _
    go_enter Tryz.func70, Tryz.ntmps70
    go_wp2_with fail
    refine (HP.out [g, h] q d _ _ (by go_simp) (HL.out.mono (SameOn.below (by exact bel)) (fun _ h => h) (fun x cs _ hx => FmAt.below (by exact bel) hx)) 0 _ rfl (by simp) HG.out.1 (by show g.eng.length ≤ _; omega)).mono ?_
    rintro e w1 ⟨rfl, hb1⟩
    have ⟨cw1, fw1⟩ := bcell hb1
    have qw1 := hb1.size
    (try simp at qw1)
    (try have zw1w := bsz (show w.heap.size < w1.heap.size by omega))
    simp only [List.getElem_cons_zero]
    go_wp2_with fail
    refine (HP.out [g, h] q d _ _ (by go_simp) (HL.out.mono (SameOn.below (by exact bel)) (fun _ h => h) (fun x cs _ hx => FmAt.below (by exact bel) hx)) 1 _ rfl (by simp) HG.out.2 (by show h.eng.length ≤ _; omega)).mono ?_
    rintro e w2 ⟨rfl, hb2⟩
    have ⟨cw2, fw2⟩ := bcell hb2
    have qw2 := hb2.size
    (try simp at qw2)
    (try have zw2w := bsz (show w.heap.size < w2.heap.size by omega))
    (try have zw2w1 := bsz (show w1.heap.size < w2.heap.size by omega))
    simp only [List.getElem_cons_succ, List.getElem_cons_zero]
    go_wp2
    go_ret
    exact ⟨ret_strs (by rw [eng_imp]; simp [sIf, sThen]), by exact bel⟩
  | qua op v g ho hv hg =>
   obtain ⟨p, c, q, d, rfl, rfl, rfl, rfl, rfl, -⟩ := hfm.form
   obtain ⟨vn, va, vp, hcs, hop, hs, ht, hl⟩ := hfm
   simp only [List.cons.injEq, and_true] at hcs
   obtain ⟨-, -, -, -, rfl⟩ := hcs
   have HL := Lib.hid (show ListAt B w 5 (FmAt B m w) (.slice q 1 d) [g] from hl)
   have HG := Lib.hid hg
   clear hf ht hl hg
   rcases ho with rfl | rfl
   ·have hz2 : g.eng.length + v.length + 30 ≤ 1000000000030 := by rw [eng_all] at hz; simp at hz; omega
    clear hz
    show Calls Tryz.prog 70 #[.agg #[.int .i64 8, .string ⟨#[]⟩, .slice p 0 c, .string ⟨v.toArray⟩, .slice q 1 d]] w _
    go_enter Tryz.func70, Tryz.ntmps70
    go_wp2
    obtain ⟨W, hW⟩ : ∃ W : World, W = w.alloc (.cells #[.int .i64 8, .string ⟨#[]⟩, .slice p 0 c, .string ⟨v.toArray⟩, .slice q 1 d] 67) := ⟨_, rfl⟩
    have hwb : W.cell? ⟨w.heap.size, 3, none⟩ = some (.string ⟨v.toArray⟩) := by rw [hW]; go_simp
    have hwc : W.cell? ⟨w.heap.size, 4, none⟩ = some (.slice q 1 d) := by rw [hW]; go_simp
    have hbW : Below w.heap.size w W := by rw [hW]; exact bel
    rw [← hW]
    clear hW
    have zW := bsz (World.block_lt_of_cell? _ _ hwb)
    refine wp_region_flowC W.heap.size [(⟨w.heap.size, 3, none⟩, .string ⟨v.toArray⟩), (⟨w.heap.size, 4, none⟩, .slice q 1 d)] (by kernel_rfl) (by kernel_rfl) (by first | (intro _ hs; cases hs; done) | (simp only [List.forall_mem_cons]; go_simp)) fun C HC => ?_
    repeat (first | ((first | apply flow_free rfl | (apply flow_yes; (case hw => go_simp))); (intro L w' hun hrd hC; have ⟨hC, hb', hf'⟩ := flO HC hC; (try have hw' : Below w.heap.size w w' := by first | exact belT (hb := hb') | exact bel); (try simp only [List.forall_mem_cons] at hf'); go_simp; first | exact ⟨flS HC hC, rfl⟩ | (rw [if_neg]; (exact ⟨flS HC hC, rfl⟩); omega) | (go_at_call 108; refine (HP.out [g] q d _ _ hf'.2.1 (HL.out.mono (SameOn.below hw') (fun _ h => h) (fun x cs _ hx => FmAt.below hw' hx)) 0 _ rfl (by simp) HG.out (by show g.eng.length ≤ _; omega)).mono ?_; rintro e w1 ⟨rfl, hb1⟩; exact ⟨rfl, flN HC hC (by first | (simp; done) | (simp; omega) | omega) hb1⟩)); go_simp) | (apply flow_noC HC; (case hw => (go_simp; try (intro hh; cases hh))); go_simp))
    refine flow_nil ?_
    intro L wz hL hz
    have ⟨_, hbz, hcz⟩ := flO HC hz
    try simp only [List.forall_mem_cons] at hcz
    go_wp2
    go_ret
    exact ⟨ret_strs (by rw [eng_all]; simp [sEvery, sComma]), by exact bel⟩
   ·have hz2 : g.eng.length + v.length + 30 ≤ 1000000000030 := by rw [eng_ex] at hz; simp at hz; omega
    clear hz
    show Calls Tryz.prog 70 #[.agg #[.int .i64 9, .string ⟨#[]⟩, .slice p 0 c, .string ⟨v.toArray⟩, .slice q 1 d]] w _
    go_enter Tryz.func70, Tryz.ntmps70
    go_wp2
    obtain ⟨W, hW⟩ : ∃ W : World, W = w.alloc (.cells #[.int .i64 9, .string ⟨#[]⟩, .slice p 0 c, .string ⟨v.toArray⟩, .slice q 1 d] 67) := ⟨_, rfl⟩
    have hwb : W.cell? ⟨w.heap.size, 3, none⟩ = some (.string ⟨v.toArray⟩) := by rw [hW]; go_simp
    have hwc : W.cell? ⟨w.heap.size, 4, none⟩ = some (.slice q 1 d) := by rw [hW]; go_simp
    have hbW : Below w.heap.size w W := by rw [hW]; exact bel
    rw [← hW]
    clear hW
    have zW := bsz (World.block_lt_of_cell? _ _ hwb)
    refine wp_region_flowC W.heap.size [(⟨w.heap.size, 3, none⟩, .string ⟨v.toArray⟩), (⟨w.heap.size, 4, none⟩, .slice q 1 d)] (by kernel_rfl) (by kernel_rfl) (by first | (intro _ hs; cases hs; done) | (simp only [List.forall_mem_cons]; go_simp)) fun C HC => ?_
    repeat (first | ((first | apply flow_free rfl | (apply flow_yes; (case hw => go_simp))); (intro L w' hun hrd hC; have ⟨hC, hb', hf'⟩ := flO HC hC; (try have hw' : Below w.heap.size w w' := by first | exact belT (hb := hb') | exact bel); (try simp only [List.forall_mem_cons] at hf'); go_simp; first | exact ⟨flS HC hC, rfl⟩ | (rw [if_neg]; (exact ⟨flS HC hC, rfl⟩); omega) | (go_at_call 108; refine (HP.out [g] q d _ _ hf'.2.1 (HL.out.mono (SameOn.below hw') (fun _ h => h) (fun x cs _ hx => FmAt.below hw' hx)) 0 _ rfl (by simp) HG.out (by show g.eng.length ≤ _; omega)).mono ?_; rintro e w1 ⟨rfl, hb1⟩; exact ⟨rfl, flN HC hC (by first | (simp; done) | (simp; omega) | omega) hb1⟩)); go_simp) | (apply flow_noC HC; (case hw => (go_simp; try (intro hh; cases hh))); go_simp))
    refine flow_nil ?_
    intro L wz hL hz
    have ⟨_, hbz, hcz⟩ := flO HC hz
    try simp only [List.forall_mem_cons] at hcz
    go_wp2
    go_ret
    exact ⟨ret_strs (by rw [eng_ex]; simp [sThere, sSuch]), by exact bel⟩
mutual
theorem Tm.sz_wt : ∀ t : Tm, t.sz ≤ t.wt + 1
 | .mk n us => by have := Tm.szs_wt us; rw [Tm.sz, Tm.wt]; omega
theorem Tm.szs_wt : ∀ us : List Tm, Tm.szs us ≤ us.length + Tm.wts us
 | [] => by simp [Tm.szs]
 | a :: us => by have := Tm.sz_wt a; have := Tm.szs_wt us; rw [Tm.szs, Tm.wts, List.length_cons]; omega
end
mutual
theorem Fm.sz_wt : ∀ t : Fm, t.sz ≤ t.wt + 1
 | .mk op a v us => by have := Fm.szs_wt us; rw [Fm.sz, Fm.wt]; omega
theorem Fm.szs_wt : ∀ us : List Fm, Fm.szs us ≤ us.length + Fm.wts us
 | [] => by simp [Fm.szs]
 | a :: us => by have := Fm.sz_wt a; have := Fm.szs_wt us; rw [Fm.szs, Fm.wts, List.length_cons]; omega
end
mutual
theorem Fm.asz_wt : ∀ t : Fm, t.asz ≤ t.wt + 1
 | .mk op a v us => by have := Fm.aszs_wt us; have := a.sz_wt; rw [Fm.asz, Fm.wt]; omega
theorem Fm.aszs_wt : ∀ us : List Fm, Fm.aszs us ≤ us.length + Fm.wts us
 | [] => by simp [Fm.aszs]
 | a :: us => by have := Fm.asz_wt a; have := Fm.aszs_wt us; rw [Fm.aszs, Fm.wts, List.length_cons]; omega
end
theorem joinB_len (sep : List UInt8) : ∀ l : List (List UInt8), (joinB sep l).length ≤ (l.map (fun a => a.length + sep.length)).sum
 | [] => by simp [joinB]
 | [a] => by simp [joinB]
 | a :: b :: l => by
  have := joinB_len sep (b :: l)
  rw [joinB]
  simp only [List.length_append, List.map_cons, List.sum_cons] at this ⊢
  omega
mutual
theorem Tm.fmt_wt : ∀ t : Tm, t.nodes = true → t.fmt.length ≤ 3 * t.wt + 2
 | .mk n us, h => by
  have h1 := Tm.nodes_mk h
  have h2 := Tm.fmts_wt us h1.2
  have h3 := joinB_len [44] (Tm.fmtL us)
  rw [Tm.fmt_mk (word_not61 h1.1), Tm.wt]
  simp only [List.length_cons, List.length_nil] at h3
  have hn : n.data.toList.length = n.size := rfl
  split
  ·omega
  ·simp only [List.length_append, List.length_cons, List.length_nil, hn]; omega
theorem Tm.fmts_wt : ∀ us : List Tm, Tm.nodess us = true → ((Tm.fmtL us).map (fun a => a.length + (0 + 1))).sum ≤ 3 * us.length + 3 * Tm.wts us
 | [], _ => by simp [Tm.fmtL]
 | a :: us, h => by
  rw [Tm.nodess, Bool.and_eq_true] at h
  have h1 := Tm.fmt_wt a h.1
  have h2 := Tm.fmts_wt us h.2
  rw [Tm.fmtL, List.map_cons, List.sum_cons, Tm.wts, List.length_cons]; omega
end
theorem fmts_wt2 : ∀ us : List Tm, Tm.nodess us = true → ((Tm.fmtL us).map (fun a => a.length + sComma.length)).sum ≤ 4 * us.length + 3 * Tm.wts us
 | [], _ => by simp [Tm.fmtL]
 | a :: us, h => by
  rw [Tm.nodess, Bool.and_eq_true] at h
  have h1 := Tm.fmt_wt a h.1
  have h2 := fmts_wt2 us h.2
  have h3 : sComma.length = 2 := rfl
  rw [Tm.fmtL, List.map_cons, List.sum_cons, Tm.wts, List.length_cons]; omega
theorem Tm.eng_wt {t : Tm} (h : t.atom = true) : t.eng.length ≤ 4 * t.wt + 20 := by
 cases atom_cases h with
 | eq a b ha hb =>
  have h1 := Tm.fmt_wt a ha
  have h2 := Tm.fmt_wt b hb
  have h3 : sEquals.length = 8 := rfl
  rw [eng_eq, eqTm, Tm.wt, Tm.wts, Tm.wts, Tm.wts]
  simp only [List.length_append]; omega
 | pred n us hs hu hd =>
  rw [eng_pred hs, Tm.wt]
  have h3 : sHolds.length = 6 := rfl
  have h4 : sHoldsOf.length = 10 := rfl
  have hn : n.data.toList.length = n.size := rfl
  have h5 := joinB_len sComma (Tm.fmtL us)
  have h6 := fmts_wt2 us hu
  split <;> simp only [List.length_append, hn] <;> omega
theorem Fm.eng_wt : ∀ (k : Nat) (t : Fm), t.sz ≤ k → t.form = true → t.eng.length ≤ 30 * t.wt + 30
 | 0, .mk _ _ _ _, hk, _ => by rw [Fm.sz] at hk; omega
 | k + 1, t, hk, hf => by
  cases form_cases hf with
  | tru => rw [opF, Fm.eng]; simp [sTruth]
  | fal => rw [opF, Fm.eng]; simp [sFalsity]
  | atm a ha =>
   have := Tm.eng_wt ha
   rw [eng_atm, atomOfF, Fm.wt]; omega
  | neg g hg =>
   rw [opF, Fm.sz, Fm.szs, Fm.szs] at hk
   have h1 := Fm.eng_wt k g (by omega) hg
   have h2 : sNot.length = 24 := rfl
   rw [eng_neg, opF, Fm.wt, Fm.wts, Fm.wts, List.length_append, List.length_cons, List.length_nil]; omega
  | bin op g h ho hg hh =>
   rw [opF, Fm.sz, Fm.szs, Fm.szs, Fm.szs] at hk
   have h1 := Fm.eng_wt k g (by omega) hg
   have h2 := Fm.eng_wt k h (by omega) hh
   have h3 : sBoth.length = 5 ∧ sAnd.length = 5 ∧ sEither.length = 7 ∧ sOr.length = 4 ∧ sIf.length = 3 ∧ sThen.length = 6 := ⟨rfl, rfl, rfl, rfl, rfl, rfl⟩
   have hw : (opF op [g, h]).wt = tm0.wt + 0 + 2 + (g.wt + (h.wt + 0)) := by rw [opF, Fm.wt, Fm.wts, Fm.wts, Fm.wts]; rfl
   rcases ho with rfl | rfl | rfl
   ·rw [eng_and, hw]; simp only [List.length_append]; omega
   ·rw [eng_or, hw]; simp only [List.length_append]; omega
   ·rw [eng_imp, hw]; simp only [List.length_append]; omega
  | qua op v g ho hv hg =>
   rw [quantF, Fm.sz, Fm.szs, Fm.szs] at hk
   have h1 := Fm.eng_wt k g (by omega) hg
   have h3 : sEvery.length = 10 ∧ sComma.length = 2 ∧ sThere.length = 9 ∧ sSuch.length = 11 := ⟨rfl, rfl, rfl, rfl⟩
   have hw : (quantF op v g).wt = tm0.wt + v.length + 1 + (g.wt + 0) := by rw [quantF, Fm.wt, Fm.wts, Fm.wts]; rfl
   rcases ho with rfl | rfl
   ·rw [eng_all, hw]; simp only [List.length_append]; omega
   ·rw [eng_ex, hw]; simp only [List.length_append]; omega
theorem EngAt.call {P : Program} {k : FuncId} {B : Nat → Prop} {m : Nat} (ih : EngAt P k B m) (t : Fm) (v0 v1 v2 v3 v4 : Value) (w : World) (h : FmAt B m w t [v0, v1, v2, v3, v4]) (hf : t.form = true) (hz : t.eng.length ≤ 1000000000000) :
   Calls P k #[.agg #[v0, v1, v2, v3, v4]] w fun e w' => e = .returned (.string ⟨t.eng.toArray⟩) ∧ Below w.heap.size w w' := ih t v0 v1 v2 v3 v4 w h hf hz
theorem FmAt.one {B : Nat → Prop} {m : Nat} {w : World} {g : Fm} {p : Option Addr} {c : Nat} (h : ListAt B w 5 (FmAt B m w) (.slice p 1 c) [g]) :
  ∃ b o x0 x1 x2 x3 x4, p = some ⟨b, o, none⟩ ∧ w.cell? ⟨b, o, none⟩ = some x0 ∧ w.cell? ⟨b, o + 1, none⟩ = some x1 ∧ w.cell? ⟨b, o + 2, none⟩ = some x2 ∧ w.cell? ⟨b, o + 3, none⟩ = some x3 ∧ w.cell? ⟨b, o + 4, none⟩ = some x4 ∧ FmAt B m w g [x0, x1, x2, x3, x4] := by
 obtain ⟨b, o, rfl, _, x0, x1, x2, x3, x4, hx0, hx1, hx2, hx3, hx4, hx⟩ := h.at5 (i := 0) (by simp)
 exact ⟨b, o, x0, x1, x2, x3, x4, rfl, by simpa using hx0, by simpa using hx1, by simpa using hx2, by simpa using hx3, by simpa using hx4, hx⟩
theorem FmAt.two {B : Nat → Prop} {m : Nat} {w : World} {g h : Fm} {p : Option Addr} {c : Nat} (hl : ListAt B w 5 (FmAt B m w) (.slice p 2 c) [g, h]) :
  ∃ b o x0 x1 x2 x3 x4 y0 y1 y2 y3 y4, p = some ⟨b, o, none⟩ ∧ (w.cell? ⟨b, o, none⟩ = some x0 ∧ w.cell? ⟨b, o + 1, none⟩ = some x1 ∧ w.cell? ⟨b, o + 2, none⟩ = some x2 ∧ w.cell? ⟨b, o + 3, none⟩ = some x3 ∧ w.cell? ⟨b, o + 4, none⟩ = some x4) ∧
   (w.cell? ⟨b, o + 5, none⟩ = some y0 ∧ w.cell? ⟨b, o + 6, none⟩ = some y1 ∧ w.cell? ⟨b, o + 7, none⟩ = some y2 ∧ w.cell? ⟨b, o + 8, none⟩ = some y3 ∧ w.cell? ⟨b, o + 9, none⟩ = some y4) ∧ FmAt B m w g [x0, x1, x2, x3, x4] ∧ FmAt B m w h [y0, y1, y2, y3, y4] := by
 obtain ⟨b, o, rfl, _, x0, x1, x2, x3, x4, hx0, hx1, hx2, hx3, hx4, hx⟩ := hl.at5 (i := 0) (by simp)
 obtain ⟨b', o', he, _, y0, y1, y2, y3, y4, hy0, hy1, hy2, hy3, hy4, hy⟩ := hl.at5 (i := 1) (by simp)
 simp only [Option.some.injEq, Addr.mk.injEq, and_true] at he
 obtain ⟨rfl, rfl⟩ := he
 exact ⟨b, o, x0, x1, x2, x3, x4, y0, y1, y2, y3, y4, rfl, ⟨by simpa using hx0, by simpa using hx1, by simpa using hx2, by simpa using hx3, by simpa using hx4⟩, ⟨by simpa using hy0, by simpa using hy1, by simpa using hy2, by simpa using hy3, by simpa using hy4⟩, hx, hy⟩
set_option maxHeartbeats 3200000 in
theorem l26Formula_any {B : Nat → Prop} : ∀ m : Nat, EngAt Tryz.prog 94 B m := by
 intro m
 induction m with
 | zero => intro t v0 v1 v2 v3 v4 w h; exact h.elim
 | succ m ih =>
  intro t v0 v1 v2 v3 v4 w hfm hf hz
  have IH := Lib.hid ih
  clear ih
  cases form_cases hf with
  | tru =>
   obtain ⟨p, c, q, d, rfl, rfl, rfl, rfl, rfl, -⟩ := hfm.form
   clear hfm hf hz
   show Calls Tryz.prog 94 #[.agg #[.int .i64 1, .string ⟨#[]⟩, .slice p 0 c, .string ⟨#[]⟩, .slice q 0 d]] w _
   go_enter Tryz.func94, Tryz.ntmps94
   go_wp2
   go_ret
   exact ⟨ret_str (by rw [opF, Fm.eng]; rfl), by exact bel⟩
  | fal =>
   obtain ⟨p, c, q, d, rfl, rfl, rfl, rfl, rfl, -⟩ := hfm.form
   clear hfm hf hz
   show Calls Tryz.prog 94 #[.agg #[.int .i64 2, .string ⟨#[]⟩, .slice p 0 c, .string ⟨#[]⟩, .slice q 0 d]] w _
   go_enter Tryz.func94, Tryz.ntmps94
   go_wp2
   go_ret
   exact ⟨ret_str (by rw [opF, Fm.eng]; rfl), by exact bel⟩
  | atm a ha =>
   have HA := Lib.hid (show TmAt B (m + 1) w a _ from hfm.atm)
   obtain ⟨p, c, q, d, rfl, rfl, rfl, rfl, rfl, -⟩ := hfm.form
   rw [eng_atm] at hz ⊢
   have HZ := Lib.hid (And.intro ha hz)
   clear hfm hf hz
   show Calls Tryz.prog 94 #[.agg #[.int .i64 3, .string a.n, .slice p a.us.length c, .string ⟨#[]⟩, .slice q 0 d]] w _
   go_enter Tryz.func94, Tryz.ntmps94
   go_wp2_with fail
   refine (l26Atom_any (m + 1) a _ _ _ (HA.out.below (by exact bel)) HZ.out.1 HZ.out.2).mono ?_
   rintro e w1 ⟨rfl, hb1⟩
   have ⟨cw1, fw1⟩ := bcell hb1
   have qw1 := hb1.size
   (try simp at qw1)
   (try have zw1w := bsz (show w.heap.size < w1.heap.size by omega))
   go_wp2
   go_ret
   exact ⟨rfl, by exact bel⟩
  | neg g hg =>
   obtain ⟨p, c, q, d, rfl, rfl, rfl, rfl, rfl, -⟩ := hfm.form
   obtain ⟨vn, va, vp, hcs, hop, hs, ht, hl⟩ := hfm
   simp only [List.cons.injEq, and_true] at hcs
   obtain ⟨-, -, -, -, rfl⟩ := hcs
   have hl' : ListAt B w 5 (FmAt B m w) (.slice q 1 d) [g] := hl
   obtain ⟨b, o, x0, x1, x2, x3, x4, rfl, hx0, hx1, hx2, hx3, hx4, hx⟩ := FmAt.one hl'
   have hz2 : g.eng.length + 24 ≤ 1000000000000 := by rw [eng_neg] at hz; simp [sNot] at hz; omega
   have HX := Lib.hid (And.intro hx hg)
   have zb := bsz (World.block_lt_of_cell? _ _ hx0)
   clear hf hz ht hl hl' hx
   show Calls Tryz.prog 94 #[.agg #[.int .i64 4, .string ⟨#[]⟩, .slice p 0 c, .string ⟨#[]⟩, .slice (some ⟨b, o, none⟩) 1 d]] w _
   go_enter Tryz.func94, Tryz.ntmps94
   go_wp2_with fail
   refine (IH.out g _ _ _ _ _ _ (HX.out.1.below (by exact bel)) HX.out.2 (by omega)).mono ?_
   rintro e w1 ⟨rfl, hb1⟩
   have ⟨cw1, fw1⟩ := bcell hb1
   have qw1 := hb1.size
   (try simp at qw1)
   (try have zw1w := bsz (show w.heap.size < w1.heap.size by omega))
   go_wp2
   go_ret
   exact ⟨ret_strs (by rw [eng_neg]; simp [sNot]), by exact bel⟩
  | bin op g h ho hg hh =>
   obtain ⟨p, c, q, d, rfl, rfl, rfl, rfl, rfl, -⟩ := hfm.form
   obtain ⟨vn, va, vp, hcs, hop, hs, ht, hl⟩ := hfm
   simp only [List.cons.injEq, and_true] at hcs
   obtain ⟨-, -, -, -, rfl⟩ := hcs
   have hl' : ListAt B w 5 (FmAt B m w) (.slice q 2 d) [g, h] := hl
   obtain ⟨b, o, x0, x1, x2, x3, x4, y0, y1, y2, y3, y4, rfl, ⟨hx0, hx1, hx2, hx3, hx4⟩, ⟨hy0, hy1, hy2, hy3, hy4⟩, hx, hy⟩ := FmAt.two hl'
   have zb := bsz (World.block_lt_of_cell? _ _ hx0)
   have HG := Lib.hid (And.intro hg hh)
   have HX := Lib.hid hx
   have HY := Lib.hid hy
   clear hf ht hl hl' hg hh hx hy
   rcases ho with rfl | rfl | rfl
   ·have hz2 : g.eng.length + h.eng.length + 30 ≤ 1000000000030 := by rw [eng_and] at hz; simp at hz; omega
    clear hz
    show Calls Tryz.prog 94 #[.agg #[.int .i64 5, .string ⟨#[]⟩, .slice p 0 c, .string ⟨#[]⟩, .slice (some ⟨b, o, none⟩) 2 d]] w _
    go_enter Tryz.func94, Tryz.ntmps94
    go_wp2
    obtain ⟨W, hW⟩ : ∃ W : World, W = w.alloc (.cells #[.int .i64 5, .string ⟨#[]⟩, .slice p 0 c, .string ⟨#[]⟩, .slice (some ⟨b, o, none⟩) 2 d] 67) := ⟨_, rfl⟩
    have hwb : W.cell? ⟨w.heap.size, 4, none⟩ = some (.slice (some ⟨b, o, none⟩) 2 d) := by rw [hW]; go_simp
    have hbW : Below w.heap.size w W := by rw [hW]; exact bel
    rw [← hW]
    clear hW
    have ⟨cW, fW⟩ := bcell hbW
    refine wp_region_flowC W.heap.size [(⟨w.heap.size, 4, none⟩, .slice (some ⟨b, o, none⟩) 2 d), (⟨b, o, none⟩, x0), (⟨b, o + 1, none⟩, x1), (⟨b, o + 2, none⟩, x2), (⟨b, o + 3, none⟩, x3), (⟨b, o + 4, none⟩, x4), (⟨b, o + 5, none⟩, y0), (⟨b, o + 6, none⟩, y1), (⟨b, o + 7, none⟩, y2), (⟨b, o + 8, none⟩, y3), (⟨b, o + 9, none⟩, y4)] (by kernel_rfl) (by kernel_rfl) (by first | (intro _ hs; cases hs; done) | (simp only [List.forall_mem_cons]; go_simp)) fun C HC => ?_
    repeat (first | ((first | apply flow_free rfl | (apply flow_yes; (case hw => go_simp))); (intro L w' hun hrd hC; have ⟨hC, hb', hf'⟩ := flO HC hC; (try have hw' : Below w.heap.size w w' := by first | exact belT (hb := hb') | exact bel); (try simp only [List.forall_mem_cons] at hf'); go_simp; first | exact ⟨flS HC hC, rfl⟩ | (rw [if_neg]; (exact ⟨flS HC hC, rfl⟩); omega) | (go_at_call 94; (with_reducible refine (EngAt.call IH.out g x0 x1 x2 x3 x4 _ (HX.out.below hw') HG.out.1 (by omega)).mono ?_); rintro e w1 ⟨rfl, hb1⟩; exact ⟨rfl, (HC.out _ _).2 ((hC.next (by first | (simp; done) | (simp; omega) | omega) hb1).skip _ (by rfl))⟩) | (go_at_call 94; (with_reducible refine (EngAt.call IH.out h y0 y1 y2 y3 y4 _ (HY.out.below hw') HG.out.2 (by omega)).mono ?_); rintro e w1 ⟨rfl, hb1⟩; exact ⟨rfl, (HC.out _ _).2 ((hC.next (by first | (simp; done) | (simp; omega) | omega) hb1).skip _ (by rfl))⟩)); go_simp) | (apply flow_noC HC; (case hw => (go_simp; try (intro hh; cases hh))); go_simp))
    refine flow_nil ?_
    intro L wz hL hz
    have ⟨_, hbz, hcz⟩ := flO HC hz
    try simp only [List.forall_mem_cons] at hcz
    go_wp2
    go_ret
    exact ⟨ret_strs (by rw [eng_and]; simp [sBoth, sAnd]), by exact bel⟩
   ·have hz2 : g.eng.length + h.eng.length + 30 ≤ 1000000000030 := by rw [eng_or] at hz; simp at hz; omega
    clear hz
    show Calls Tryz.prog 94 #[.agg #[.int .i64 6, .string ⟨#[]⟩, .slice p 0 c, .string ⟨#[]⟩, .slice (some ⟨b, o, none⟩) 2 d]] w _
    go_enter Tryz.func94, Tryz.ntmps94
    go_wp2
    obtain ⟨W, hW⟩ : ∃ W : World, W = w.alloc (.cells #[.int .i64 6, .string ⟨#[]⟩, .slice p 0 c, .string ⟨#[]⟩, .slice (some ⟨b, o, none⟩) 2 d] 67) := ⟨_, rfl⟩
    have hwb : W.cell? ⟨w.heap.size, 4, none⟩ = some (.slice (some ⟨b, o, none⟩) 2 d) := by rw [hW]; go_simp
    have hbW : Below w.heap.size w W := by rw [hW]; exact bel
    rw [← hW]
    clear hW
    have ⟨cW, fW⟩ := bcell hbW
    refine wp_region_flowC W.heap.size [(⟨w.heap.size, 4, none⟩, .slice (some ⟨b, o, none⟩) 2 d), (⟨b, o, none⟩, x0), (⟨b, o + 1, none⟩, x1), (⟨b, o + 2, none⟩, x2), (⟨b, o + 3, none⟩, x3), (⟨b, o + 4, none⟩, x4), (⟨b, o + 5, none⟩, y0), (⟨b, o + 6, none⟩, y1), (⟨b, o + 7, none⟩, y2), (⟨b, o + 8, none⟩, y3), (⟨b, o + 9, none⟩, y4)] (by kernel_rfl) (by kernel_rfl) (by first | (intro _ hs; cases hs; done) | (simp only [List.forall_mem_cons]; go_simp)) fun C HC => ?_
    repeat (first | ((first | apply flow_free rfl | (apply flow_yes; (case hw => go_simp))); (intro L w' hun hrd hC; have ⟨hC, hb', hf'⟩ := flO HC hC; (try have hw' : Below w.heap.size w w' := by first | exact belT (hb := hb') | exact bel); (try simp only [List.forall_mem_cons] at hf'); go_simp; first | exact ⟨flS HC hC, rfl⟩ | (rw [if_neg]; (exact ⟨flS HC hC, rfl⟩); omega) | (go_at_call 94; (with_reducible refine (EngAt.call IH.out g x0 x1 x2 x3 x4 _ (HX.out.below hw') HG.out.1 (by omega)).mono ?_); rintro e w1 ⟨rfl, hb1⟩; exact ⟨rfl, (HC.out _ _).2 ((hC.next (by first | (simp; done) | (simp; omega) | omega) hb1).skip _ (by rfl))⟩) | (go_at_call 94; (with_reducible refine (EngAt.call IH.out h y0 y1 y2 y3 y4 _ (HY.out.below hw') HG.out.2 (by omega)).mono ?_); rintro e w1 ⟨rfl, hb1⟩; exact ⟨rfl, (HC.out _ _).2 ((hC.next (by first | (simp; done) | (simp; omega) | omega) hb1).skip _ (by rfl))⟩)); go_simp) | (apply flow_noC HC; (case hw => (go_simp; try (intro hh; cases hh))); go_simp))
    refine flow_nil ?_
    intro L wz hL hz
    have ⟨_, hbz, hcz⟩ := flO HC hz
    try simp only [List.forall_mem_cons] at hcz
    go_wp2
    go_ret
    exact ⟨ret_strs (by rw [eng_or]; simp [sEither, sOr]), by exact bel⟩
   ·have hz2 : g.eng.length + h.eng.length + 30 ≤ 1000000000030 := by rw [eng_imp] at hz; simp at hz; omega
    clear hz
    show Calls Tryz.prog 94 #[.agg #[.int .i64 7, .string ⟨#[]⟩, .slice p 0 c, .string ⟨#[]⟩, .slice (some ⟨b, o, none⟩) 2 d]] w _
    go_enter Tryz.func94, Tryz.ntmps94
    go_wp2
    obtain ⟨W, hW⟩ : ∃ W : World, W = w.alloc (.cells #[.int .i64 7, .string ⟨#[]⟩, .slice p 0 c, .string ⟨#[]⟩, .slice (some ⟨b, o, none⟩) 2 d] 67) := ⟨_, rfl⟩
    have hwb : W.cell? ⟨w.heap.size, 4, none⟩ = some (.slice (some ⟨b, o, none⟩) 2 d) := by rw [hW]; go_simp
    have hbW : Below w.heap.size w W := by rw [hW]; exact bel
    rw [← hW]
    clear hW
    have ⟨cW, fW⟩ := bcell hbW
    refine wp_region_flowC W.heap.size [(⟨w.heap.size, 4, none⟩, .slice (some ⟨b, o, none⟩) 2 d), (⟨b, o, none⟩, x0), (⟨b, o + 1, none⟩, x1), (⟨b, o + 2, none⟩, x2), (⟨b, o + 3, none⟩, x3), (⟨b, o + 4, none⟩, x4), (⟨b, o + 5, none⟩, y0), (⟨b, o + 6, none⟩, y1), (⟨b, o + 7, none⟩, y2), (⟨b, o + 8, none⟩, y3), (⟨b, o + 9, none⟩, y4)] (by kernel_rfl) (by kernel_rfl) (by first | (intro _ hs; cases hs; done) | (simp only [List.forall_mem_cons]; go_simp)) fun C HC => ?_
    repeat (first | ((first | apply flow_free rfl | (apply flow_yes; (case hw => go_simp))); (intro L w' hun hrd hC; have ⟨hC, hb', hf'⟩ := flO HC hC; (try have hw' : Below w.heap.size w w' := by first | exact belT (hb := hb') | exact bel); (try simp only [List.forall_mem_cons] at hf'); go_simp; first | exact ⟨flS HC hC, rfl⟩ | (rw [if_neg]; (exact ⟨flS HC hC, rfl⟩); omega) | (go_at_call 94; (with_reducible refine (EngAt.call IH.out g x0 x1 x2 x3 x4 _ (HX.out.below hw') HG.out.1 (by omega)).mono ?_); rintro e w1 ⟨rfl, hb1⟩; exact ⟨rfl, (HC.out _ _).2 ((hC.next (by first | (simp; done) | (simp; omega) | omega) hb1).skip _ (by rfl))⟩) | (go_at_call 94; (with_reducible refine (EngAt.call IH.out h y0 y1 y2 y3 y4 _ (HY.out.below hw') HG.out.2 (by omega)).mono ?_); rintro e w1 ⟨rfl, hb1⟩; exact ⟨rfl, (HC.out _ _).2 ((hC.next (by first | (simp; done) | (simp; omega) | omega) hb1).skip _ (by rfl))⟩)); go_simp) | (apply flow_noC HC; (case hw => (go_simp; try (intro hh; cases hh))); go_simp))
    refine flow_nil ?_
    intro L wz hL hz
    have ⟨_, hbz, hcz⟩ := flO HC hz
    try simp only [List.forall_mem_cons] at hcz
    go_wp2
    go_ret
    exact ⟨ret_strs (by rw [eng_imp]; simp [sIf, sThen]), by exact bel⟩
  | qua op v g ho hv hg =>
   obtain ⟨p, c, q, d, rfl, rfl, rfl, rfl, rfl, -⟩ := hfm.form
   obtain ⟨vn, va, vp, hcs, hop, hs, ht, hl⟩ := hfm
   simp only [List.cons.injEq, and_true] at hcs
   obtain ⟨-, -, -, -, rfl⟩ := hcs
   have hl' : ListAt B w 5 (FmAt B m w) (.slice q 1 d) [g] := hl
   obtain ⟨b, o, x0, x1, x2, x3, x4, rfl, hx0, hx1, hx2, hx3, hx4, hx⟩ := FmAt.one hl'
   have zb := bsz (World.block_lt_of_cell? _ _ hx0)
   have HG := Lib.hid hg
   have HX := Lib.hid hx
   clear hf ht hl hl' hg hx
   rcases ho with rfl | rfl
   ·have hz2 : g.eng.length + v.length + 30 ≤ 1000000000030 := by rw [eng_all] at hz; simp at hz; omega
    clear hz
    show Calls Tryz.prog 94 #[.agg #[.int .i64 8, .string ⟨#[]⟩, .slice p 0 c, .string ⟨v.toArray⟩, .slice (some ⟨b, o, none⟩) 1 d]] w _
    go_enter Tryz.func94, Tryz.ntmps94
    go_wp2
    obtain ⟨W, hW⟩ : ∃ W : World, W = w.alloc (.cells #[.int .i64 8, .string ⟨#[]⟩, .slice p 0 c, .string ⟨v.toArray⟩, .slice (some ⟨b, o, none⟩) 1 d] 67) := ⟨_, rfl⟩
    have hwb : W.cell? ⟨w.heap.size, 3, none⟩ = some (.string ⟨v.toArray⟩) := by rw [hW]; go_simp
    have hwc : W.cell? ⟨w.heap.size, 4, none⟩ = some (.slice (some ⟨b, o, none⟩) 1 d) := by rw [hW]; go_simp
    have hbW : Below w.heap.size w W := by rw [hW]; exact bel
    rw [← hW]
    clear hW
    have zW := bsz (World.block_lt_of_cell? _ _ hwb)
    have ⟨cW, fW⟩ := bcell hbW
    refine wp_region_flowC W.heap.size [(⟨w.heap.size, 3, none⟩, .string ⟨v.toArray⟩), (⟨w.heap.size, 4, none⟩, .slice (some ⟨b, o, none⟩) 1 d), (⟨b, o, none⟩, x0), (⟨b, o + 1, none⟩, x1), (⟨b, o + 2, none⟩, x2), (⟨b, o + 3, none⟩, x3), (⟨b, o + 4, none⟩, x4)] (by kernel_rfl) (by kernel_rfl) (by first | (intro _ hs; cases hs; done) | (simp only [List.forall_mem_cons]; go_simp)) fun C HC => ?_
    repeat (first | ((first | apply flow_free rfl | (apply flow_yes; (case hw => go_simp))); (intro L w' hun hrd hC; have ⟨hC, hb', hf'⟩ := flO HC hC; (try have hw' : Below w.heap.size w w' := by first | exact belT (hb := hb') | exact bel); (try simp only [List.forall_mem_cons] at hf'); go_simp; first | exact ⟨flS HC hC, rfl⟩ | (rw [if_neg]; (exact ⟨flS HC hC, rfl⟩); omega) | (go_at_call 94; (with_reducible refine (EngAt.call IH.out g x0 x1 x2 x3 x4 _ (HX.out.below hw') HG.out (by omega)).mono ?_); rintro e w1 ⟨rfl, hb1⟩; exact ⟨rfl, (HC.out _ _).2 ((hC.next (by first | (simp; done) | (simp; omega) | omega) hb1).skip _ (by rfl))⟩)); go_simp) | (apply flow_noC HC; (case hw => (go_simp; try (intro hh; cases hh))); go_simp))
    refine flow_nil ?_
    intro L wz hL hz
    have ⟨_, hbz, hcz⟩ := flO HC hz
    try simp only [List.forall_mem_cons] at hcz
    go_wp2
    go_ret
    exact ⟨ret_strs (by rw [eng_all]; simp [sEvery, sComma]), by exact bel⟩
   ·have hz2 : g.eng.length + v.length + 30 ≤ 1000000000030 := by rw [eng_ex] at hz; simp at hz; omega
    clear hz
    show Calls Tryz.prog 94 #[.agg #[.int .i64 9, .string ⟨#[]⟩, .slice p 0 c, .string ⟨v.toArray⟩, .slice (some ⟨b, o, none⟩) 1 d]] w _
    go_enter Tryz.func94, Tryz.ntmps94
    go_wp2
    obtain ⟨W, hW⟩ : ∃ W : World, W = w.alloc (.cells #[.int .i64 9, .string ⟨#[]⟩, .slice p 0 c, .string ⟨v.toArray⟩, .slice (some ⟨b, o, none⟩) 1 d] 67) := ⟨_, rfl⟩
    have hwb : W.cell? ⟨w.heap.size, 3, none⟩ = some (.string ⟨v.toArray⟩) := by rw [hW]; go_simp
    have hwc : W.cell? ⟨w.heap.size, 4, none⟩ = some (.slice (some ⟨b, o, none⟩) 1 d) := by rw [hW]; go_simp
    have hbW : Below w.heap.size w W := by rw [hW]; exact bel
    rw [← hW]
    clear hW
    have zW := bsz (World.block_lt_of_cell? _ _ hwb)
    have ⟨cW, fW⟩ := bcell hbW
    refine wp_region_flowC W.heap.size [(⟨w.heap.size, 3, none⟩, .string ⟨v.toArray⟩), (⟨w.heap.size, 4, none⟩, .slice (some ⟨b, o, none⟩) 1 d), (⟨b, o, none⟩, x0), (⟨b, o + 1, none⟩, x1), (⟨b, o + 2, none⟩, x2), (⟨b, o + 3, none⟩, x3), (⟨b, o + 4, none⟩, x4)] (by kernel_rfl) (by kernel_rfl) (by first | (intro _ hs; cases hs; done) | (simp only [List.forall_mem_cons]; go_simp)) fun C HC => ?_
    repeat (first | ((first | apply flow_free rfl | (apply flow_yes; (case hw => go_simp))); (intro L w' hun hrd hC; have ⟨hC, hb', hf'⟩ := flO HC hC; (try have hw' : Below w.heap.size w w' := by first | exact belT (hb := hb') | exact bel); (try simp only [List.forall_mem_cons] at hf'); go_simp; first | exact ⟨flS HC hC, rfl⟩ | (rw [if_neg]; (exact ⟨flS HC hC, rfl⟩); omega) | (go_at_call 94; (with_reducible refine (EngAt.call IH.out g x0 x1 x2 x3 x4 _ (HX.out.below hw') HG.out (by omega)).mono ?_); rintro e w1 ⟨rfl, hb1⟩; exact ⟨rfl, (HC.out _ _).2 ((hC.next (by first | (simp; done) | (simp; omega) | omega) hb1).skip _ (by rfl))⟩)); go_simp) | (apply flow_noC HC; (case hw => (go_simp; try (intro hh; cases hh))); go_simp))
    refine flow_nil ?_
    intro L wz hL hz
    have ⟨_, hbz, hcz⟩ := flO HC hz
    try simp only [List.forall_mem_cons] at hcz
    go_wp2
    go_ret
    exact ⟨ret_strs (by rw [eng_ex]; simp [sThere, sSuch]), by exact bel⟩
end Go.Proofs.YtabkdonplmlbcaaGreatDoor
