/- Steps of a proof: the program's texts of positions and origins. Conditions: sizes; tables. -/
import Derived.Maps.StringElems
import Derived.Laws.Cover1
import Derived.Test.YtcegllnljaapiaaGreatDoorAste1
import Derived.Test.YtcegllnljaapiaaGreatDoorAste2
import Derived.Test.YtcegllnljaapiaaGreatDoorAste4
import Derived.Test.YtcegllnljaapiaaGreatDoorAste5
import Derived.Test.YtcegllnljaapiaaGreatDoorAste6
import Derived.Test.YtcegllnljaapiaaGreatDoorAste7
namespace Go.Proofs.YtcegllnljaapiaaGreatDoor
open Go.RowKit
set_option maxRecDepth 100000 in
set_option maxHeartbeats 1600000 in
theorem l7Literals_any {B : Nat → Prop} (m : Nat) (a b : Lit3) (v0 v1 v2 u0 u1 u2 : Value) (w : World) (ha : LitAt B m w a [v0, v1, v2]) (hb : LitAt B m w b [u0, u1, u2]) :
    Calls Tryz.prog 125 #[.agg #[v0, v1, v2], .agg #[u0, u1, u2]] w fun e w' => e = .returned (.int .i64 (a.cmp b)) ∧ Below w.heap.size w w' := by
  obtain ⟨p, c, rfl, rfl, rfl, hta⟩ := ha.form
  obtain ⟨q, d, rfl, rfl, rfl, htb⟩ := hb.form
  have HA := Lib.hid hta
  have HB := Lib.hid htb
  have HC := Lib.hid (show a.cmp b = if a.a.cmp b.a ≠ 0 then a.a.cmp b.a else if !a.pos && b.pos then -1 else if a.pos && !b.pos then 1 else 0 by rw [Lit3.cmp, cmp_flags]; rfl)
  clear ha hb hta htb
  go_enter Tryz.func125, Tryz.ntmps125
  go_wp2_with fail
  refine (l2Compare_any m a.a b.a _ _ _ _ _ (HA.out.below (by (repeat (first | with_reducible exact Below.refl _ _ | with_reducible assumption | with_reducible refine Below.al ?_ _ | with_reducible refine Below.sc ?_ (by first | exact Nat.le_refl _ | (simp; done) | (simp; omega)) _ | assumption | exact Below.refl _ _ | refine Below.dr ?_ | refine Below.drN ?_ _ | refine Below.step ?_ (by assumption))))) (HB.out.below (by (repeat (first | with_reducible exact Below.refl _ _ | with_reducible assumption | with_reducible refine Below.al ?_ _ | with_reducible refine Below.sc ?_ (by first | exact Nat.le_refl _ | (simp; done) | (simp; omega)) _ | assumption | exact Below.refl _ _ | refine Below.dr ?_ | refine Below.drN ?_ _ | refine Below.step ?_ (by assumption)))))).mono ?_
  rintro e w1 ⟨rfl, hb1⟩
  have ⟨cb1, fb1⟩ := bcell hb1
  have hq1 := hb1.size
  simp at hq1
  have z0 := bsz (show w.heap.size < w1.heap.size by omega)
  have z1 := bsz (show w.heap.size + 1 < w1.heap.size by omega)
  cases hz : (a.a.cmp b.a == 0)
  · have hz' : (a.a.cmp b.a != 0) = true := by rw [bne, hz]; rfl
    have hz2 : ¬ a.a.cmp b.a = 0 := by simpa using hz
    go_wp2
    go_ret
    exact ⟨ret_int (by rw [HC.out, if_pos hz2]), by (repeat (first | with_reducible exact Below.refl _ _ | with_reducible assumption | with_reducible refine Below.al ?_ _ | with_reducible refine Below.sc ?_ (by first | exact Nat.le_refl _ | (simp; done) | (simp; omega)) _ | assumption | exact Below.refl _ _ | refine Below.dr ?_ | refine Below.drN ?_ _ | refine Below.step ?_ (by assumption)))⟩
  · have hz' : (a.a.cmp b.a != 0) = false := by rw [bne, hz]; rfl
    have hz2 : a.a.cmp b.a = 0 := by simpa using hz
    have HC2 := Lib.hid (show a.cmp b = if !a.pos && b.pos then -1 else if a.pos && !b.pos then 1 else 0 by rw [HC.out, if_neg (by simpa using hz2)])
    cases hpa : a.pos <;> cases hpb : b.pos
    all_goals
      have HC3 := Lib.hid HC2.out
      rw [hpa, hpb] at HC3
      go_wp2
      go_ret
      exact ⟨ret_int (by rw [HC3.out]; rfl), by (repeat (first | with_reducible exact Below.refl _ _ | with_reducible assumption | with_reducible refine Below.al ?_ _ | with_reducible refine Below.sc ?_ (by first | exact Nat.le_refl _ | (simp; done) | (simp; omega)) _ | assumption | exact Below.refl _ _ | refine Below.dr ?_ | refine Below.drN ?_ _ | refine Below.step ?_ (by assumption)))⟩
set_option maxRecDepth 100000 in
set_option maxHeartbeats 3200000 in
theorem l7Good_any {B : Nat → Prop} (m : Nat) (c : List Lit3) (v : Value) (w : World) (h : ClsAt B m w c v) (hz : ∀ l ∈ c, l.a.sz ≤ 100000000) :
    Calls Tryz.prog 50 #[.agg #[v]] w fun e w' => e = .returned (.bool (Cls.good c)) ∧ Below w.heap.size w w' := by
  obtain ⟨p, d, rfl, hlen⟩ := (show ListAt B w 3 (LitAt B m w) v c from h).form
  unfold maxLen at hlen
  have H := Lib.hid (show ListAt B w 3 (LitAt B m w) (.slice p c.length d) c from h)
  have HG := Lib.hid (show Cls.good c = (decide (c.length ≤ 8) && Cls.okF none c) from rfl)
  have HZ := Lib.hid hz
  clear h hz
  by_cases h8 : (8 : Int) < c.length
  · go_enter Tryz.func50, Tryz.ntmps50
    go_wp2
    go_ret
    exact ⟨ret_bool (by rw [HG.out, decide_eq_false (by omega), Bool.false_and]), by (repeat (first | with_reducible exact Below.refl _ _ | with_reducible assumption | with_reducible refine Below.al ?_ _ | with_reducible refine Below.sc ?_ (by first | exact Nat.le_refl _ | (simp; done) | (simp; omega)) _ | assumption | exact Below.refl _ _ | refine Below.dr ?_ | refine Below.drN ?_ _ | refine Below.step ?_ (by assumption)))⟩
  have HG2 := Lib.hid (show Cls.good c = Cls.okF none c by rw [HG.out, decide_eq_true (by omega), Bool.true_and])
  go_enter Tryz.func50, Tryz.ntmps50
  go_wp2
  obtain ⟨W, hW⟩ : ∃ W : World, W = w.alloc (.cells #[.slice p c.length d] 49) := ⟨_, rfl⟩
  have hsW : W.heap.size = w.heap.size + 1 := by rw [hW]; simp
  have hbW : Below w.heap.size w W := by rw [hW]; (repeat (first | with_reducible exact Below.refl _ _ | with_reducible assumption | with_reducible refine Below.al ?_ _ | with_reducible refine Below.sc ?_ (by first | exact Nat.le_refl _ | (simp; done) | (simp; omega)) _ | assumption | exact Below.refl _ _ | refine Below.dr ?_ | refine Below.drN ?_ _ | refine Below.step ?_ (by assumption)))
  have a0 : W.cell? ⟨w.heap.size, 0, none⟩ = some (.slice p c.length d) := by rw [hW]; go_simp
  rw [← hW]
  clear hW
  have HL := Lib.hid (H.out.mono (SameOn.below hbW) (fun _ h => h) (fun x cs _ hx => LitAt.below hbW hx))
  go_loopw [3] (ClsRel c W) (fun i _ => c.length - (intOf i).toNat)
  case atStart => exact ⟨0, Nat.zero_le _, rfl, rfl, fun h => absurd h (by omega), Below.refl _ _⟩
  case round =>
    obtain ⟨k, hk, rfl, he, hpv, hb⟩ := hrel
    have HE := Lib.hid he
    have HPV := Lib.hid hpv
    have hqr := hb.size
    have zr := bsz (show w.heap.size < wr.heap.size by omega)
    have e0 : wr.cell? ⟨w.heap.size, 0, none⟩ = some (.slice p c.length d) := (World.cell?_of_block (hb.block _ (by simp; omega))).trans a0
    have hwr : Below w.heap.size w wr := hbW.trans (hb.mono hbW.size)
    clear he hpv a0
    by_cases hlt : k < c.length
    · have hD := okF_drop hlt
      have hszl := HZ.out _ (List.getElem_mem hlt)
      obtain ⟨b1, o1, hq1, hB1, x0, x1, x2, hx0, hx1, hx2, hx⟩ := (HL.out.mono (SameOn.below hb) (fun _ h => h) (fun x cs _ hx => LitAt.below hb hx)).at3 hlt
      have hprev : ∀ h : 0 < k, ∃ y0 y1 y2, wr.cell? ⟨b1, o1 + (k - 1) * 3, none⟩ = some y0 ∧ wr.cell? ⟨b1, o1 + (k - 1) * 3 + 1, none⟩ = some y1 ∧ wr.cell? ⟨b1, o1 + (k - 1) * 3 + 2, none⟩ = some y2 ∧ LitAt B m wr (c[k - 1]'(by omega)) [y0, y1, y2] := fun h => by
        obtain ⟨b2, o2, hq2, -, y0, y1, y2, hy0, hy1, hy2, hy⟩ := (HL.out.mono (SameOn.below hb) (fun _ h => h) (fun x cs _ hx => LitAt.below hb hx)).at3 (show k - 1 < c.length by omega)
        rw [hq1] at hq2
        simp only [Option.some.injEq, Addr.mk.injEq, and_true] at hq2
        obtain ⟨rfl, rfl⟩ := hq2
        exact ⟨y0, y1, y2, hy0, hy1, hy2, hy⟩
      subst hq1
      have HPR := Lib.hid hprev
      have hpp := fun h : 0 < k => prevAt_pos hlt h
      have HPP := Lib.hid hpp
      clear hprev hpp
      obtain ⟨l, hl⟩ : ∃ l, c[k] = l := ⟨_, rfl⟩
      rw [hl] at hx hD hszl
      have HX := Lib.hid hx
      have HD := Lib.hid hD
      have HLK := Lib.hid hl
      clear hx hD hl
      obtain ⟨pa, ca, rfl, rfl, rfl, ht⟩ := HX.out.form
      have HTX := Lib.hid ht
      clear ht
      have zb := bsz (World.block_lt_of_cell? _ _ hx0)
      have hkl : (k : Int) < c.length := by omega
      cases hA : l.a.atom
      · have HA := Lib.hid (show Cls.good c = false by rw [HG2.out, HE.out, HD.out, hA, Bool.false_and, Bool.false_and])
        go_wp2
        obtain ⟨C, HC0⟩ := class_of (InF wr.heap.size _ [(⟨w.heap.size, 0, none⟩, .slice (some ⟨b1, o1, none⟩) c.length d), (⟨b1, o1 + k * 3, none⟩, .bool l.pos), (⟨b1, o1 + k * 3 + 1, none⟩, .string l.a.n), (⟨b1, o1 + k * 3 + 2, none⟩, .slice pa l.a.us.length ca)] [] [])
        have HC := Lib.hid HC0
        clear HC0
        refine wp_region_flow (C := C) (by kernel_rfl) (by kernel_rfl) (fun L hL => (HC.out _ _).2 (InF.start (by first | (intro _ hs; cases hs; done) | (simp only [List.forall_mem_cons]; go_simp)) (by first | (intro _ hs; cases hs; done) | (simp only [List.forall_mem_cons]; go_simp)) (by first | (intro _ hs; cases hs; done) | (simp only [List.forall_mem_cons]; go_simp)) (by first | (intro _ hs; cases hs; done) | (simp only [List.forall_mem_cons]; go_simp)) L hL)) ?_
        repeat (first | (apply flow_free rfl; (intro L w' hun hrd hC; have hC := (HC.out _ _).1 hC; have hb' := hC.below; (try have hw' : Below w.heap.size w w' := by first | exact Below.trans (by (repeat (first | with_reducible exact Below.refl _ _ | with_reducible assumption | with_reducible refine Below.al ?_ _ | with_reducible refine Below.sc ?_ (by first | exact Nat.le_refl _ | (simp; done) | (simp; omega)) _ | assumption | exact Below.refl _ _ | refine Below.dr ?_ | refine Below.drN ?_ _ | refine Below.step ?_ (by assumption)))) hb' | ((repeat (first | with_reducible exact Below.refl _ _ | with_reducible assumption | with_reducible refine Below.al ?_ _ | with_reducible refine Below.sc ?_ (by first | exact Nat.le_refl _ | (simp; done) | (simp; omega)) _ | assumption | exact Below.refl _ _ | refine Below.dr ?_ | refine Below.drN ?_ _ | refine Below.step ?_ (by assumption))); done)); have hf' := hC.cell; (try simp only [List.forall_mem_cons] at hf'); go_simp; first | exact ⟨(HC.out _ _).2 (hC.skip _ (by rfl)), rfl⟩ | (rw [if_neg]; (exact ⟨(HC.out _ _).2 (hC.skip _ (by rfl)), rfl⟩); omega) | (go_at_call 124; refine (l2Atom_any m l.a _ _ _ (TmAt.below hb' HTX.out) hszl).mono ?_; rintro e w1 ⟨rfl, hb1⟩; exact ⟨rfl, (HC.out _ _).2 ((hC.next (by first | (simp; done) | (simp; omega) | omega) hb1).skip _ (by rfl))⟩)); go_simp) | (apply flow_yes; (case hw => go_simp); (intro L w' hun hrd hC; have hC := (HC.out _ _).1 hC; have hb' := hC.below; (try have hw' : Below w.heap.size w w' := by first | exact Below.trans (by (repeat (first | with_reducible exact Below.refl _ _ | with_reducible assumption | with_reducible refine Below.al ?_ _ | with_reducible refine Below.sc ?_ (by first | exact Nat.le_refl _ | (simp; done) | (simp; omega)) _ | assumption | exact Below.refl _ _ | refine Below.dr ?_ | refine Below.drN ?_ _ | refine Below.step ?_ (by assumption)))) hb' | ((repeat (first | with_reducible exact Below.refl _ _ | with_reducible assumption | with_reducible refine Below.al ?_ _ | with_reducible refine Below.sc ?_ (by first | exact Nat.le_refl _ | (simp; done) | (simp; omega)) _ | assumption | exact Below.refl _ _ | refine Below.dr ?_ | refine Below.drN ?_ _ | refine Below.step ?_ (by assumption))); done)); have hf' := hC.cell; (try simp only [List.forall_mem_cons] at hf'); go_simp; first | exact ⟨(HC.out _ _).2 (hC.skip _ (by rfl)), rfl⟩ | (rw [if_neg]; (exact ⟨(HC.out _ _).2 (hC.skip _ (by rfl)), rfl⟩); omega) | (go_at_call 124; refine (l2Atom_any m l.a _ _ _ (TmAt.below hb' HTX.out) hszl).mono ?_; rintro e w1 ⟨rfl, hb1⟩; exact ⟨rfl, (HC.out _ _).2 ((hC.next (by first | (simp; done) | (simp; omega) | omega) hb1).skip _ (by rfl))⟩)); go_simp) | (apply flow_no; (case hw => (go_simp; try (intro hh; cases hh))); (intro L w' _ _ hC; exact (HC.out _ _).2 (((HC.out _ _).1 hC).skip _ (by rfl))); go_simp))
        refine flow_nil ?_
        intro L wz hL hz
        have hz := (HC.out _ _).1 hz
        have hbz := hz.below
        have hcz := hz.cell
        try simp only [List.forall_mem_cons] at hcz
        have hdz := hz.done
        try simp only [List.forall_mem_cons] at hdz
        (try have hwz : Below w.heap.size w wz := by first | exact Below.trans (by (repeat (first | with_reducible exact Below.refl _ _ | with_reducible assumption | with_reducible refine Below.al ?_ _ | with_reducible refine Below.sc ?_ (by first | exact Nat.le_refl _ | (simp; done) | (simp; omega)) _ | assumption | exact Below.refl _ _ | refine Below.dr ?_ | refine Below.drN ?_ _ | refine Below.step ?_ (by assumption)))) hbz | ((repeat (first | with_reducible exact Below.refl _ _ | with_reducible assumption | with_reducible refine Below.al ?_ _ | with_reducible refine Below.sc ?_ (by first | exact Nat.le_refl _ | (simp; done) | (simp; omega)) _ | assumption | exact Below.refl _ _ | refine Below.dr ?_ | refine Below.drN ?_ _ | refine Below.step ?_ (by assumption))); done))
        go_wp2
        go_ret
        exact ⟨ret_bool HA.out.symm, hwr.trans (hbz.mono hwr.size)⟩
      · cases k with
        | zero =>
          simp only [Nat.zero_mul, Nat.add_zero] at hx0 hx1 hx2
          have HOK := Lib.hid (show Cls.okF none c = Cls.okF (prevAt c (0 + 1)) (c.drop (0 + 1)) by rw [HE.out, HD.out, hA]; simp [prevAt, ascP])
          go_wp2
          obtain ⟨C, HC0⟩ := class_of (InF wr.heap.size _ [(⟨w.heap.size, 0, none⟩, .slice (some ⟨b1, o1, none⟩) c.length d), (⟨b1, o1, none⟩, .bool l.pos), (⟨b1, o1 + 1, none⟩, .string l.a.n), (⟨b1, o1 + 2, none⟩, .slice pa l.a.us.length ca)] [] [])
          have HC := Lib.hid HC0
          clear HC0
          refine wp_region_flow (C := C) (by kernel_rfl) (by kernel_rfl) (fun L hL => (HC.out _ _).2 (InF.start (by first | (intro _ hs; cases hs; done) | (simp only [List.forall_mem_cons]; go_simp)) (by first | (intro _ hs; cases hs; done) | (simp only [List.forall_mem_cons]; go_simp)) (by first | (intro _ hs; cases hs; done) | (simp only [List.forall_mem_cons]; go_simp)) (by first | (intro _ hs; cases hs; done) | (simp only [List.forall_mem_cons]; go_simp)) L hL)) ?_
          repeat (first | (apply flow_free rfl; (intro L w' hun hrd hC; have hC := (HC.out _ _).1 hC; have hb' := hC.below; (try have hw' : Below w.heap.size w w' := by first | exact Below.trans (by (repeat (first | with_reducible exact Below.refl _ _ | with_reducible assumption | with_reducible refine Below.al ?_ _ | with_reducible refine Below.sc ?_ (by first | exact Nat.le_refl _ | (simp; done) | (simp; omega)) _ | assumption | exact Below.refl _ _ | refine Below.dr ?_ | refine Below.drN ?_ _ | refine Below.step ?_ (by assumption)))) hb' | ((repeat (first | with_reducible exact Below.refl _ _ | with_reducible assumption | with_reducible refine Below.al ?_ _ | with_reducible refine Below.sc ?_ (by first | exact Nat.le_refl _ | (simp; done) | (simp; omega)) _ | assumption | exact Below.refl _ _ | refine Below.dr ?_ | refine Below.drN ?_ _ | refine Below.step ?_ (by assumption))); done)); have hf' := hC.cell; (try simp only [List.forall_mem_cons] at hf'); go_simp; first | exact ⟨(HC.out _ _).2 (hC.skip _ (by rfl)), rfl⟩ | (rw [if_neg]; (exact ⟨(HC.out _ _).2 (hC.skip _ (by rfl)), rfl⟩); omega) | (go_at_call 124; refine (l2Atom_any m l.a _ _ _ (TmAt.below hb' HTX.out) hszl).mono ?_; rintro e w1 ⟨rfl, hb1⟩; exact ⟨rfl, (HC.out _ _).2 ((hC.next (by first | (simp; done) | (simp; omega) | omega) hb1).skip _ (by rfl))⟩)); go_simp) | (apply flow_yes; (case hw => go_simp); (intro L w' hun hrd hC; have hC := (HC.out _ _).1 hC; have hb' := hC.below; (try have hw' : Below w.heap.size w w' := by first | exact Below.trans (by (repeat (first | with_reducible exact Below.refl _ _ | with_reducible assumption | with_reducible refine Below.al ?_ _ | with_reducible refine Below.sc ?_ (by first | exact Nat.le_refl _ | (simp; done) | (simp; omega)) _ | assumption | exact Below.refl _ _ | refine Below.dr ?_ | refine Below.drN ?_ _ | refine Below.step ?_ (by assumption)))) hb' | ((repeat (first | with_reducible exact Below.refl _ _ | with_reducible assumption | with_reducible refine Below.al ?_ _ | with_reducible refine Below.sc ?_ (by first | exact Nat.le_refl _ | (simp; done) | (simp; omega)) _ | assumption | exact Below.refl _ _ | refine Below.dr ?_ | refine Below.drN ?_ _ | refine Below.step ?_ (by assumption))); done)); have hf' := hC.cell; (try simp only [List.forall_mem_cons] at hf'); go_simp; first | exact ⟨(HC.out _ _).2 (hC.skip _ (by rfl)), rfl⟩ | (rw [if_neg]; (exact ⟨(HC.out _ _).2 (hC.skip _ (by rfl)), rfl⟩); omega) | (go_at_call 124; refine (l2Atom_any m l.a _ _ _ (TmAt.below hb' HTX.out) hszl).mono ?_; rintro e w1 ⟨rfl, hb1⟩; exact ⟨rfl, (HC.out _ _).2 ((hC.next (by first | (simp; done) | (simp; omega) | omega) hb1).skip _ (by rfl))⟩)); go_simp) | (apply flow_no; (case hw => (go_simp; try (intro hh; cases hh))); (intro L w' _ _ hC; exact (HC.out _ _).2 (((HC.out _ _).1 hC).skip _ (by rfl))); go_simp))
          refine flow_nil ?_
          intro L wz hL hz
          have hz := (HC.out _ _).1 hz
          have hbz := hz.below
          have hcz := hz.cell
          try simp only [List.forall_mem_cons] at hcz
          have hdz := hz.done
          try simp only [List.forall_mem_cons] at hdz
          (try have hwz : Below w.heap.size w wz := by first | exact Below.trans (by (repeat (first | with_reducible exact Below.refl _ _ | with_reducible assumption | with_reducible refine Below.al ?_ _ | with_reducible refine Below.sc ?_ (by first | exact Nat.le_refl _ | (simp; done) | (simp; omega)) _ | assumption | exact Below.refl _ _ | refine Below.dr ?_ | refine Below.drN ?_ _ | refine Below.step ?_ (by assumption)))) hbz | ((repeat (first | with_reducible exact Below.refl _ _ | with_reducible assumption | with_reducible refine Below.al ?_ _ | with_reducible refine Below.sc ?_ (by first | exact Nat.le_refl _ | (simp; done) | (simp; omega)) _ | assumption | exact Below.refl _ _ | refine Below.dr ?_ | refine Below.drN ?_ _ | refine Below.step ?_ (by assumption))); done))
          go_wp2
          refine ⟨⟨0 + 1, by omega, by go_num, HOK.out, fun _ h2 => ?_, hb.trans (hbz.mono hb.size)⟩, by simp [intOf]; omega⟩
          rw [← hA, ← HLK.out]
        | succ j =>
          obtain ⟨y0, y1, y2, hy0, hy1, hy2, hy⟩ := HPR.out (by omega)
          have hpp := HPP.out (by omega)
          simp only [Nat.add_sub_cancel] at hy0 hy1 hy2 hy hpp
          obtain ⟨l0, hl0⟩ : ∃ l0, c[j]'(by omega) = l0 := ⟨_, rfl⟩
          rw [hl0] at hy hpp
          have HY := Lib.hid hy
          have HPP0 := Lib.hid hpp
          clear hy hpp hl0
          obtain ⟨pb, cb, rfl, rfl, rfl, ht⟩ := HY.out.form
          clear ht
          have hj1 : (0 : Int) < (j : Int) + 1 := by omega
          have hwj : IntKind.i64.wrap (j : Int) = (j : Int) := IntWalk.i64_in _ (by omega)
          have hjl : (j : Int) < c.length := by omega
          by_cases hcm : l0.cmp l < 0
          · have HOK := Lib.hid (show Cls.okF none c = Cls.okF (prevAt c (j + 1 + 1)) (c.drop (j + 1 + 1)) by rw [HE.out, HD.out, hA, HPP0.out]; simp [ascP, hcm])
            have hcm2 : ¬ 0 ≤ l0.cmp l := by omega
            go_wp2
            obtain ⟨C, HC0⟩ := class_of (InF wr.heap.size _ [(⟨w.heap.size, 0, none⟩, .slice (some ⟨b1, o1, none⟩) c.length d), (⟨b1, o1 + (j + 1) * 3, none⟩, .bool l.pos), (⟨b1, o1 + (j + 1) * 3 + 1, none⟩, .string l.a.n), (⟨b1, o1 + (j + 1) * 3 + 2, none⟩, .slice pa l.a.us.length ca), (⟨b1, o1 + j * 3, none⟩, .bool l0.pos), (⟨b1, o1 + j * 3 + 1, none⟩, .string l0.a.n), (⟨b1, o1 + j * 3 + 2, none⟩, .slice pb l0.a.us.length cb)] [] [])
            have HC := Lib.hid HC0
            clear HC0
            refine wp_region_flow (C := C) (by kernel_rfl) (by kernel_rfl) (fun L hL => (HC.out _ _).2 (InF.start (by first | (intro _ hs; cases hs; done) | (simp only [List.forall_mem_cons]; go_simp)) (by first | (intro _ hs; cases hs; done) | (simp only [List.forall_mem_cons]; go_simp)) (by first | (intro _ hs; cases hs; done) | (simp only [List.forall_mem_cons]; go_simp)) (by first | (intro _ hs; cases hs; done) | (simp only [List.forall_mem_cons]; go_simp)) L hL)) ?_
            repeat (first | (apply flow_free rfl; (intro L w' hun hrd hC; have hC := (HC.out _ _).1 hC; have hb' := hC.below; (try have hw' : Below w.heap.size w w' := by first | exact Below.trans (by (repeat (first | with_reducible exact Below.refl _ _ | with_reducible assumption | with_reducible refine Below.al ?_ _ | with_reducible refine Below.sc ?_ (by first | exact Nat.le_refl _ | (simp; done) | (simp; omega)) _ | assumption | exact Below.refl _ _ | refine Below.dr ?_ | refine Below.drN ?_ _ | refine Below.step ?_ (by assumption)))) hb' | ((repeat (first | with_reducible exact Below.refl _ _ | with_reducible assumption | with_reducible refine Below.al ?_ _ | with_reducible refine Below.sc ?_ (by first | exact Nat.le_refl _ | (simp; done) | (simp; omega)) _ | assumption | exact Below.refl _ _ | refine Below.dr ?_ | refine Below.drN ?_ _ | refine Below.step ?_ (by assumption))); done)); have hf' := hC.cell; (try simp only [List.forall_mem_cons] at hf'); go_simp; first | exact ⟨(HC.out _ _).2 (hC.skip _ (by rfl)), rfl⟩ | (rw [if_neg]; (exact ⟨(HC.out _ _).2 (hC.skip _ (by rfl)), rfl⟩); omega) | (go_at_call 124; refine (l2Atom_any m l.a _ _ _ (TmAt.below hb' HTX.out) hszl).mono ?_; rintro e w1 ⟨rfl, hb1⟩; exact ⟨rfl, (HC.out _ _).2 ((hC.next (by first | (simp; done) | (simp; omega) | omega) hb1).skip _ (by rfl))⟩) | (go_at_call 125; refine (l7Literals_any m l0 l _ _ _ _ _ _ _ (LitAt.below hb' HY.out) (LitAt.below hb' HX.out)).mono ?_; rintro e w1 ⟨rfl, hb1⟩; exact ⟨rfl, (HC.out _ _).2 ((hC.next (by first | (simp; done) | (simp; omega) | omega) hb1).skip _ (by rfl))⟩)); go_simp) | (apply flow_yes; (case hw => go_simp); (intro L w' hun hrd hC; have hC := (HC.out _ _).1 hC; have hb' := hC.below; (try have hw' : Below w.heap.size w w' := by first | exact Below.trans (by (repeat (first | with_reducible exact Below.refl _ _ | with_reducible assumption | with_reducible refine Below.al ?_ _ | with_reducible refine Below.sc ?_ (by first | exact Nat.le_refl _ | (simp; done) | (simp; omega)) _ | assumption | exact Below.refl _ _ | refine Below.dr ?_ | refine Below.drN ?_ _ | refine Below.step ?_ (by assumption)))) hb' | ((repeat (first | with_reducible exact Below.refl _ _ | with_reducible assumption | with_reducible refine Below.al ?_ _ | with_reducible refine Below.sc ?_ (by first | exact Nat.le_refl _ | (simp; done) | (simp; omega)) _ | assumption | exact Below.refl _ _ | refine Below.dr ?_ | refine Below.drN ?_ _ | refine Below.step ?_ (by assumption))); done)); have hf' := hC.cell; (try simp only [List.forall_mem_cons] at hf'); go_simp; first | exact ⟨(HC.out _ _).2 (hC.skip _ (by rfl)), rfl⟩ | (rw [if_neg]; (exact ⟨(HC.out _ _).2 (hC.skip _ (by rfl)), rfl⟩); omega) | (go_at_call 124; refine (l2Atom_any m l.a _ _ _ (TmAt.below hb' HTX.out) hszl).mono ?_; rintro e w1 ⟨rfl, hb1⟩; exact ⟨rfl, (HC.out _ _).2 ((hC.next (by first | (simp; done) | (simp; omega) | omega) hb1).skip _ (by rfl))⟩) | (go_at_call 125; refine (l7Literals_any m l0 l _ _ _ _ _ _ _ (LitAt.below hb' HY.out) (LitAt.below hb' HX.out)).mono ?_; rintro e w1 ⟨rfl, hb1⟩; exact ⟨rfl, (HC.out _ _).2 ((hC.next (by first | (simp; done) | (simp; omega) | omega) hb1).skip _ (by rfl))⟩)); go_simp) | (apply flow_no; (case hw => (go_simp; try (intro hh; cases hh))); (intro L w' _ _ hC; exact (HC.out _ _).2 (((HC.out _ _).1 hC).skip _ (by rfl))); go_simp))
            refine flow_nil ?_
            intro L wz hL hz
            have hz := (HC.out _ _).1 hz
            have hbz := hz.below
            have hcz := hz.cell
            try simp only [List.forall_mem_cons] at hcz
            have hdz := hz.done
            try simp only [List.forall_mem_cons] at hdz
            (try have hwz : Below w.heap.size w wz := by first | exact Below.trans (by (repeat (first | with_reducible exact Below.refl _ _ | with_reducible assumption | with_reducible refine Below.al ?_ _ | with_reducible refine Below.sc ?_ (by first | exact Nat.le_refl _ | (simp; done) | (simp; omega)) _ | assumption | exact Below.refl _ _ | refine Below.dr ?_ | refine Below.drN ?_ _ | refine Below.step ?_ (by assumption)))) hbz | ((repeat (first | with_reducible exact Below.refl _ _ | with_reducible assumption | with_reducible refine Below.al ?_ _ | with_reducible refine Below.sc ?_ (by first | exact Nat.le_refl _ | (simp; done) | (simp; omega)) _ | assumption | exact Below.refl _ _ | refine Below.dr ?_ | refine Below.drN ?_ _ | refine Below.step ?_ (by assumption))); done))
            go_wp2
            refine ⟨⟨j + 1 + 1, by omega, by go_num, HOK.out, fun _ h2 => ?_, hb.trans (hbz.mono hb.size)⟩, by simp [intOf]; omega⟩
            rw [← hA, ← HLK.out]
            rfl
          · have HNO := Lib.hid (show Cls.good c = false by rw [HG2.out, HE.out, HD.out, hA, HPP0.out]; simp [ascP, hcm])
            have hcm2 : 0 ≤ l0.cmp l := by omega
            go_wp2
            obtain ⟨C, HC0⟩ := class_of (InF wr.heap.size _ [(⟨w.heap.size, 0, none⟩, .slice (some ⟨b1, o1, none⟩) c.length d), (⟨b1, o1 + (j + 1) * 3, none⟩, .bool l.pos), (⟨b1, o1 + (j + 1) * 3 + 1, none⟩, .string l.a.n), (⟨b1, o1 + (j + 1) * 3 + 2, none⟩, .slice pa l.a.us.length ca), (⟨b1, o1 + j * 3, none⟩, .bool l0.pos), (⟨b1, o1 + j * 3 + 1, none⟩, .string l0.a.n), (⟨b1, o1 + j * 3 + 2, none⟩, .slice pb l0.a.us.length cb)] [] [])
            have HC := Lib.hid HC0
            clear HC0
            refine wp_region_flow (C := C) (by kernel_rfl) (by kernel_rfl) (fun L hL => (HC.out _ _).2 (InF.start (by first | (intro _ hs; cases hs; done) | (simp only [List.forall_mem_cons]; go_simp)) (by first | (intro _ hs; cases hs; done) | (simp only [List.forall_mem_cons]; go_simp)) (by first | (intro _ hs; cases hs; done) | (simp only [List.forall_mem_cons]; go_simp)) (by first | (intro _ hs; cases hs; done) | (simp only [List.forall_mem_cons]; go_simp)) L hL)) ?_
            repeat (first | (apply flow_free rfl; (intro L w' hun hrd hC; have hC := (HC.out _ _).1 hC; have hb' := hC.below; (try have hw' : Below w.heap.size w w' := by first | exact Below.trans (by (repeat (first | with_reducible exact Below.refl _ _ | with_reducible assumption | with_reducible refine Below.al ?_ _ | with_reducible refine Below.sc ?_ (by first | exact Nat.le_refl _ | (simp; done) | (simp; omega)) _ | assumption | exact Below.refl _ _ | refine Below.dr ?_ | refine Below.drN ?_ _ | refine Below.step ?_ (by assumption)))) hb' | ((repeat (first | with_reducible exact Below.refl _ _ | with_reducible assumption | with_reducible refine Below.al ?_ _ | with_reducible refine Below.sc ?_ (by first | exact Nat.le_refl _ | (simp; done) | (simp; omega)) _ | assumption | exact Below.refl _ _ | refine Below.dr ?_ | refine Below.drN ?_ _ | refine Below.step ?_ (by assumption))); done)); have hf' := hC.cell; (try simp only [List.forall_mem_cons] at hf'); go_simp; first | exact ⟨(HC.out _ _).2 (hC.skip _ (by rfl)), rfl⟩ | (rw [if_neg]; (exact ⟨(HC.out _ _).2 (hC.skip _ (by rfl)), rfl⟩); omega) | (go_at_call 124; refine (l2Atom_any m l.a _ _ _ (TmAt.below hb' HTX.out) hszl).mono ?_; rintro e w1 ⟨rfl, hb1⟩; exact ⟨rfl, (HC.out _ _).2 ((hC.next (by first | (simp; done) | (simp; omega) | omega) hb1).skip _ (by rfl))⟩) | (go_at_call 125; refine (l7Literals_any m l0 l _ _ _ _ _ _ _ (LitAt.below hb' HY.out) (LitAt.below hb' HX.out)).mono ?_; rintro e w1 ⟨rfl, hb1⟩; exact ⟨rfl, (HC.out _ _).2 ((hC.next (by first | (simp; done) | (simp; omega) | omega) hb1).skip _ (by rfl))⟩)); go_simp) | (apply flow_yes; (case hw => go_simp); (intro L w' hun hrd hC; have hC := (HC.out _ _).1 hC; have hb' := hC.below; (try have hw' : Below w.heap.size w w' := by first | exact Below.trans (by (repeat (first | with_reducible exact Below.refl _ _ | with_reducible assumption | with_reducible refine Below.al ?_ _ | with_reducible refine Below.sc ?_ (by first | exact Nat.le_refl _ | (simp; done) | (simp; omega)) _ | assumption | exact Below.refl _ _ | refine Below.dr ?_ | refine Below.drN ?_ _ | refine Below.step ?_ (by assumption)))) hb' | ((repeat (first | with_reducible exact Below.refl _ _ | with_reducible assumption | with_reducible refine Below.al ?_ _ | with_reducible refine Below.sc ?_ (by first | exact Nat.le_refl _ | (simp; done) | (simp; omega)) _ | assumption | exact Below.refl _ _ | refine Below.dr ?_ | refine Below.drN ?_ _ | refine Below.step ?_ (by assumption))); done)); have hf' := hC.cell; (try simp only [List.forall_mem_cons] at hf'); go_simp; first | exact ⟨(HC.out _ _).2 (hC.skip _ (by rfl)), rfl⟩ | (rw [if_neg]; (exact ⟨(HC.out _ _).2 (hC.skip _ (by rfl)), rfl⟩); omega) | (go_at_call 124; refine (l2Atom_any m l.a _ _ _ (TmAt.below hb' HTX.out) hszl).mono ?_; rintro e w1 ⟨rfl, hb1⟩; exact ⟨rfl, (HC.out _ _).2 ((hC.next (by first | (simp; done) | (simp; omega) | omega) hb1).skip _ (by rfl))⟩) | (go_at_call 125; refine (l7Literals_any m l0 l _ _ _ _ _ _ _ (LitAt.below hb' HY.out) (LitAt.below hb' HX.out)).mono ?_; rintro e w1 ⟨rfl, hb1⟩; exact ⟨rfl, (HC.out _ _).2 ((hC.next (by first | (simp; done) | (simp; omega) | omega) hb1).skip _ (by rfl))⟩)); go_simp) | (apply flow_no; (case hw => (go_simp; try (intro hh; cases hh))); (intro L w' _ _ hC; exact (HC.out _ _).2 (((HC.out _ _).1 hC).skip _ (by rfl))); go_simp))
            refine flow_nil ?_
            intro L wz hL hz
            have hz := (HC.out _ _).1 hz
            have hbz := hz.below
            have hcz := hz.cell
            try simp only [List.forall_mem_cons] at hcz
            have hdz := hz.done
            try simp only [List.forall_mem_cons] at hdz
            (try have hwz : Below w.heap.size w wz := by first | exact Below.trans (by (repeat (first | with_reducible exact Below.refl _ _ | with_reducible assumption | with_reducible refine Below.al ?_ _ | with_reducible refine Below.sc ?_ (by first | exact Nat.le_refl _ | (simp; done) | (simp; omega)) _ | assumption | exact Below.refl _ _ | refine Below.dr ?_ | refine Below.drN ?_ _ | refine Below.step ?_ (by assumption)))) hbz | ((repeat (first | with_reducible exact Below.refl _ _ | with_reducible assumption | with_reducible refine Below.al ?_ _ | with_reducible refine Below.sc ?_ (by first | exact Nat.le_refl _ | (simp; done) | (simp; omega)) _ | assumption | exact Below.refl _ _ | refine Below.dr ?_ | refine Below.drN ?_ _ | refine Below.step ?_ (by assumption))); done))
            go_wp2
            go_ret
            exact ⟨ret_bool HNO.out.symm, hwr.trans (hbz.mono hwr.size)⟩
    · obtain rfl : k = c.length := by omega
      go_wp2
      go_ret
      exact ⟨ret_bool (by rw [HG2.out, HE.out, List.drop_length, Cls.okF]), hwr⟩
end Go.Proofs.YtcegllnljaapiaaGreatDoor
namespace Go.Proofs.YtcegllnljaapiaaGreatDoor
open Go.RowKit
set_option maxHeartbeats 800000 in
theorem clauseEnglish_any {B : Nat → Prop} (m : Nat) (c : List Lit3) (v : Value) (w : World) (h : ClsAt B m w c v) (hcap : ∀ p d, v = .slice p c.length d → c.length ≤ d) (h8 : c.length ≤ 8) (ha : ∀ l ∈ c, l.a.atom = true) (hw : Cls.wts c ≤ 1048576) :
    Calls Tryz.prog 62 #[.agg #[v]] w fun e w' => e = .returned (.string ⟨(Cls.eng c).toArray⟩) ∧ Below w.heap.size w w' := by
  obtain ⟨p, d, rfl, -⟩ := (show ListAt B w 3 (LitAt B m w) v c from h).form
  have H := Lib.hid h
  have HC := Lib.hid hcap
  have HA := Lib.hid ha
  clear h hcap ha
  by_cases h0 : c.length = 0
  · have HE := Lib.hid (show Cls.eng c = sContr from if_pos h0)
    obtain rfl : c = [] := List.eq_nil_of_length_eq_zero h0
    go_enter Tryz.func62, Tryz.ntmps62
    go_wp2
    go_ret
    exact ⟨ret_str (by rw [HE.out]; rfl), by (repeat (first | with_reducible exact Below.refl _ _ | with_reducible assumption | with_reducible refine Below.al ?_ _ | with_reducible refine Below.sc ?_ (by first | exact Nat.le_refl _ | (simp; done) | (simp; omega)) _ | assumption | exact Below.refl _ _ | refine Below.dr ?_ | refine Below.drN ?_ _ | refine Below.step ?_ (by assumption)))⟩
  · have HE := Lib.hid (show Cls.eng c = (disj c).eng from if_neg h0)
    have HW := Lib.hid (fun l hl => Nat.le_trans (Cls.wts_le c l hl) hw)
    have HD := Lib.hid (And.intro (disj_form c (by omega) HA.out) (disj_len (by omega) h8 HA.out hw))
    have h0i : ((c.length : Int) == 0) = false := by rw [beq_eq_false_iff_ne]; omega
    go_enter Tryz.func62, Tryz.ntmps62
    go_wp2_with fail
    refine (disjunction_any m c _ _ (ClsAt.below (by (repeat (first | with_reducible exact Below.refl _ _ | with_reducible assumption | with_reducible refine Below.al ?_ _ | with_reducible refine Below.sc ?_ (by first | exact Nat.le_refl _ | (simp; done) | (simp; omega)) _ | assumption | exact Below.refl _ _ | refine Below.dr ?_ | refine Below.drN ?_ _ | refine Below.step ?_ (by assumption)))) H.out) h8 HC.out HW.out).mono ?_
    rintro e w1 ⟨u0, u1, u2, u3, u4, rfl, hu, hb1⟩
    have ⟨cw1, fw1⟩ := bcell hb1
    have qw1 := hb1.size
    (try simp at qw1)
    (try have zw1w := bsz (show w.heap.size < w1.heap.size by omega))
    have HU := Lib.hid hu
    clear hu
    go_wp2_with fail
    refine (english_any (m + 2 + c.length) (disj c) _ _ _ _ _ _ HU.out HD.out.1 (by have := HD.out.2; omega)).mono ?_
    rintro e w2 ⟨rfl, hb2⟩
    have ⟨cw2, fw2⟩ := bcell hb2
    have qw2 := hb2.size
    (try simp at qw2)
    (try have zw2w := bsz (show w.heap.size < w2.heap.size by omega))
    (try have zw2w1 := bsz (show w1.heap.size < w2.heap.size by omega))
    go_wp2
    go_ret
    exact ⟨ret_str (by rw [HE.out]), by (repeat (first | with_reducible exact Below.refl _ _ | with_reducible assumption | with_reducible refine Below.al ?_ _ | with_reducible refine Below.sc ?_ (by first | exact Nat.le_refl _ | (simp; done) | (simp; omega)) _ | assumption | exact Below.refl _ _ | refine Below.dr ?_ | refine Below.drN ?_ _ | refine Below.step ?_ (by assumption)))⟩
end Go.Proofs.YtcegllnljaapiaaGreatDoor
namespace Go.Proofs.YtcegllnljaapiaaGreatDoor
open Go.RowKit
theorem own_unique {w : World} {base : Nat} {e : TypeId} {size : Nat} {v : Value} {n : Nat} {xs ys : List Value} (h : w.ownsRow base e size v n xs) (h' : w.ownsRow base e size v n ys) : xs = ys := by
  obtain ⟨l1, h1⟩ := h
  obtain ⟨l2, h2⟩ := h'
  rcases h1 with ⟨rfl, h0⟩ | ⟨g, cap, cur, rfl, hb, hh, h3, h4, h5, h6⟩
  · subst h0
    rw [Nat.zero_mul] at l1 l2
    rw [List.eq_nil_of_length_eq_zero l1, List.eq_nil_of_length_eq_zero l2]
  · rcases h2 with ⟨hv, _⟩ | ⟨g', cap', cur', hv, _, hh', _, _, _, h6'⟩
    · cases hv
    · simp only [Value.slice.injEq, Option.some.injEq, Addr.mk.injEq] at hv
      obtain ⟨⟨rfl, -⟩, -, rfl⟩ := hv
      rw [hh] at hh'
      simp only [Option.some.injEq, Obj.cells.injEq] at hh'
      rw [← h6, ← h6', hh'.1]
/-- The middle of a parsing: block rb waits for the result, block bt is the struct in the making (a name, the arguments us so far). -/
structure LSt (T : TypeId) (rb bt : Nat) (n : ByteArray) (w : World) (f : Nat) (v : Value) (us : List Tm) (W : World) : Prop where
  res : W.heap[rb]? = some (.cells #[.string ⟨#[]⟩, .slice none 0 0] T (0, 0))
  cell : W.heap[bt]? = some (.cells #[.string n, v] T (0, 0))
  row : OwnRow (fun b => bt < b ∧ b < W.heap.size) W T 2 (fun S x c => TmOwn T f S W x c) v us
  bel : Below w.heap.size w W
  lt : w.heap.size ≤ rb ∧ rb < bt ∧ bt < W.heap.size
theorem LSt.later {T : TypeId} {rb bt : Nat} {n : ByteArray} {w W W' : World} {f : Nat} {v : Value} {us : List Tm} (h : LSt T rb bt n w f v us W) (hb : Below W.heap.size W W') : LSt T rb bt n w f v us W' := by
  have hz := hb.size
  obtain ⟨l1, l2, l3⟩ := h.lt
  exact ⟨(hb.block _ (by omega)).trans h.res, (hb.block _ l3).trans h.cell, h.row.mono (SameOn.below hb) (fun b h => ⟨h.1, by omega⟩) (fun S x c _ _ hx => TmOwn.below hb hx), ⟨hb.os.trans h.bel.os, hb.tape.trans h.bel.tape, hb.output.trans h.bel.output, Nat.le_trans h.bel.size hb.size, fun b hlt => (hb.block b (Nat.lt_of_lt_of_le hlt h.bel.size)).trans (h.bel.block b hlt)⟩, l1, l2, by omega⟩
theorem LSt.app {T : TypeId} {rb bt : Nat} {n : ByteArray} {w W W2 w3 : World} {f : Nat} {v v' v0 v1 : Value} {us : List Tm} {a : Tm} (h : LSt T rb bt n w f v us W) (hb : Below W.heap.size W W2) (hO : TmOwn T f (fun b => W.heap.size ≤ b ∧ b < W2.heap.size) W2 a [v0, v1])
    {vals : List Value} (hv : W2.ownsRow 0 T 2 v us.length vals) (happ : w3.ownsRow 0 T 2 v' (us.length + 1) (vals ++ [v0, v1])) (hg : W2.grownBy w3 v.ownBlock) (hnr : NewRow v v' W2.heap.size) (hlen : us.length + 1 ≤ 1048576) :
    LSt T rb bt n w f v' (us ++ [a]) (w3.setCell ⟨bt, 1, none⟩ v') := by
  have H2 := h.later hb
  obtain ⟨l1, l2, l3⟩ := h.lt
  obtain ⟨-, -, l4⟩ := H2.lt
  have hz := hb.size
  have hz3 := hg.size
  obtain ⟨hm, vals0, Ss, r1, r2, r3, r4⟩ := h.row
  have hvb : ∀ b, v.ownBlock = some b → bt < b ∧ b < W.heap.size := fun b hb => r2 b hb
  have nob : ∀ b, b ≤ bt → v.ownBlock ≠ some b := fun b hb e => by have := hvb b e; omega
  have hnew : ∀ b, v'.ownBlock = some b → bt < b ∧ b < w3.heap.size := fun b hb => ⟨by
    rcases hnr with e | ⟨b', e, hge⟩
    · rw [e] at hb; exact (hvb b hb).1
    · rw [e] at hb; injection hb with hb; omega, own_lt' happ hb⟩
  have hrow := OwnRow.snoc (S' := fun b => bt < b ∧ b < w3.heap.size) (R' := fun S x c => TmOwn T f S w3 x c)
    (h.row.mono (S' := fun b => bt < b ∧ b < W.heap.size) (w' := W2) (R' := fun S x c => TmOwn T f S W2 x c) (SameOn.below hb) (fun _ h => h) (fun S x c _ _ hx => TmOwn.below hb hx)) hO rfl
    (fun vs hvs => by rw [own_unique hvs hv]; exact happ) hg hnr (by unfold maxLen; omega) (fun b hb hS => by omega) (fun b hb => by omega) (fun b hb => hb.2) (fun b hb => by omega) (fun b hb => by omega) hnew
    (fun S x c hS hx => TmOwn.mono f f x c (Nat.le_refl _) (fun b hb hlt => hg.block b hlt (fun e => (hS b hb).2 e.symm)) (fun _ h => h) hx)
  have hbt3 : w3.heap[bt]? = some (.cells #[.string n, v] T (0, 0)) := (hg.block bt l4 (fun e => nob bt (Nat.le_refl _) e.symm)).trans H2.cell
  refine ⟨?_, ?_, ?_, ?_, l1, l2, by simp; omega⟩
  · exact (heap_setCell_other w3 ⟨bt, 1, none⟩ rb v' (by simp; omega)).trans ((hg.block rb (by omega) (fun e => nob rb (by omega) e.symm)).trans H2.res)
  · have := heap_setCell_same w3 bt 1 _ T v' hbt3
    simpa using this
  · exact hrow.mono (fun b hb hlt => heap_setCell_other w3 ⟨bt, 1, none⟩ b v' (by simp; omega)) (fun b hb => by simpa using hb)
      (fun S x c _ hS hx => TmOwn.mono f f x c (Nat.le_refl _) (fun b hb hlt => heap_setCell_other w3 ⟨bt, 1, none⟩ b v' (by have := hS b hb; simp; omega)) (fun _ h => h) hx)
  · have hb2 := H2.bel
    exact ⟨hg.os.trans hb2.os, hg.tape.trans hb2.tape, hg.output.trans hb2.output, by have := hb2.size; simp; omega, fun b hlt => (heap_setCell_other w3 ⟨bt, 1, none⟩ b v' (by simp; omega)).trans ((hg.block b (by have := hb2.size; omega) (fun e => nob b (by omega) e.symm)).trans (hb2.block b hlt))⟩
/-- What the parsing of a term answers. -/
def GotTm (T : TypeId) (f : Nat) (r : Option (Tm × Nat)) (w : World) (x : Value) (w' : World) : Prop :=
  Below w.heap.size w w' ∧ ∃ (s : ByteArray) (p : Option Addr) (k c : Nat) (z : Int), x = .tuple #[.agg #[.string s, .slice p k c], .int .i64 z] ∧ match r with
    | none => z = -1
    | some (t, j) => z = (j : Nat) ∧ TmOwn T f (fun b => w.heap.size ≤ b ∧ b < w'.heap.size) w' t [.string s, .slice p k c]
/-- The struct is handed over. -/
theorem LSt.done {T : TypeId} {rb bt : Nat} {n : ByteArray} {w W : World} {f : Nat} {p : Option Addr} {k c : Nat} {us : List Tm} (h : LSt T rb bt n w f (.slice p k c) us W) (hn : n.size ≤ maxLen) (a b : Value) (j : Nat) :
    GotTm T (f + 1) (some (.mk n us, j)) w (.tuple #[.agg #[.string n, .slice p k c], .int .i64 (j : Nat)]) ((W.setCell ⟨rb, 0, none⟩ a).setCell ⟨rb, 1, none⟩ b) := by
  obtain ⟨l1, l2, l3⟩ := h.lt
  have hk : ∀ c, c ≠ rb → ((W.setCell ⟨rb, 0, none⟩ a).setCell ⟨rb, 1, none⟩ b).heap[c]? = W.heap[c]? := fun c hc => (heap_setCell_other _ ⟨rb, 1, none⟩ c b (fun e => hc e)).trans (heap_setCell_other W ⟨rb, 0, none⟩ c a (fun e => hc e))
  have hb := h.bel
  refine ⟨⟨hb.os, hb.tape, hb.output, by simpa using hb.size, fun c hc => (hk c (by omega)).trans (hb.block c hc)⟩, _, _, _, _, _, rfl, rfl, _, rfl, hn, ?_⟩
  exact h.row.mono (fun c hc _ => hk c (by omega)) (fun c hc => by simp; omega)
      (fun S x c _ hS hx => TmOwn.mono f f x c (Nat.le_refl _) (fun d hd _ => hk d (by have := (hS d hd).1; omega)) (fun _ h => h) hx)
theorem LSt.init {T : TypeId} {n : ByteArray} {w wr : World} {f : Nat} (hbr : Below (w.alloc (.cells #[.string ⟨#[]⟩, .slice Option.none 0 0] T)).heap.size (w.alloc (.cells #[.string ⟨#[]⟩, .slice Option.none 0 0] T)) wr) :
    LSt T w.heap.size wr.heap.size n w f (.slice Option.none 0 0) [] (wr.alloc (.cells #[.string n, .slice Option.none 0 0] T)) := by
  have hz := hbr.size
  simp at hz
  refine ⟨(hao wr _ _ (by omega)).trans ((hbr.block _ (by simp)).trans (heap_alloc_new w _)), heap_alloc_new wr _, OwnRow.nil _ _ _ _ _, ⟨hbr.os, hbr.tape, hbr.output, by simp; omega, fun b hlt => (hao wr _ _ (by omega)).trans ((hbr.block b (by simp; omega)).trans (hao w _ _ hlt))⟩, Nat.le_refl _, by omega, by simp⟩
theorem LSt.three {T : TypeId} {rb bt : Nat} {n : ByteArray} {w W w3 : World} {f : Nat} {v v' : Value} {us : List Tm} {ys : List Value} (h : LSt T rb bt n w f v us W) (happ : w3.ownsRow 0 T 2 v' (us.length + 1) ys) (hg : W.grownBy w3 v.ownBlock) :
    (∃ q c, v' = .slice (some ⟨q, 0, Option.none⟩) (us.length + 1) c) ∧ w3.heap[bt]? = some (.cells #[.string n, v] T (0, 0)) ∧ w3.heap[rb]? = some (.cells #[.string ⟨#[]⟩, .slice Option.none 0 0] T (0, 0)) := by
  obtain ⟨l1, l2, l3⟩ := h.lt
  obtain ⟨hm, vals, Ss, r1, r2, r3, r4⟩ := h.row
  exact ⟨own_form happ (by omega), (hg.block bt l3 (fun e => by have := (r2 bt e.symm).1; omega)).trans h.cell, (hg.block rb (by omega) (fun e => by have := (r2 rb e.symm).1; omega)).trans h.res⟩
theorem AppSt.keep {T : TypeId} {g bt n i j k : Nat} {CP : Value → World → Prop} {v : Value} {W : World} (hG : ∀ x w', CP x w' → W.grownBy w' (some g)) {c : Nat} (hc : c < W.heap.size) (hne : c ≠ g) (hv : v.ownBlock ≠ some c) (hbt : c ≠ bt) {m : Nat} {u : Nat → Value} {w : World} (h : AppSt T g bt CP v n W i j k m u w) : w.heap[c]? = W.heap[c]? := by
  have h1 : ∀ x w1, CP x w1 → w1.heap[c]? = W.heap[c]? ∧ c < w1.heap.size := fun x w1 h => ⟨(hG _ _ h).block c hc (by simpa using hne), Nat.lt_of_lt_of_le hc (hG _ _ h).size⟩
  match m, h with
  | 0, h => obtain rfl : w = W.drew := h; rfl
  | 1, h => exact (h1 _ _ h).1
  | 2, h =>
    obtain ⟨w1, v0, v1, h2, _, rfl⟩ := h
    exact (hao w1 _ _ (h1 _ _ h2).2).trans (h1 _ _ h2).1
  | 3, h =>
    obtain ⟨w1, v0, v1, h2, -, hg, -⟩ := h
    exact (hg.block c (h1 _ _ h2).2 (fun e => hv e.symm)).trans (h1 _ _ h2).1
  | 4, h =>
    obtain ⟨w1, w3, v0, v1, h2, -, hg, -, -, rfl⟩ := h
    exact (heap_setCell_other w3 ⟨bt, 1, Option.none⟩ c _ (fun e => hbt e)).trans ((hg.block c (h1 _ _ h2).2 (fun e => hv e.symm)).trans (h1 _ _ h2).1)
theorem LSt.out {T : TypeId} {rb bt : Nat} {n : ByteArray} {w W : World} {f : Nat} {p : Option Addr} {k c : Nat} {us : List Tm} (h : LSt T rb bt n w f (.slice p k c) us W) (hn : n.size ≤ maxLen) (a b : Value) :
    Below w.heap.size w ((W.setCell ⟨rb, 0, Option.none⟩ a).setCell ⟨rb, 1, Option.none⟩ b) ∧ TmOwn T (f + 1) (fun q => w.heap.size ≤ q ∧ q < ((W.setCell ⟨rb, 0, Option.none⟩ a).setCell ⟨rb, 1, Option.none⟩ b).heap.size) ((W.setCell ⟨rb, 0, Option.none⟩ a).setCell ⟨rb, 1, Option.none⟩ b) (.mk n us) [.string n, .slice p k c] := by
  obtain ⟨hb, s, p', k', c', z, he, hz, hO⟩ := LSt.done h hn a b 0
  simp only [Value.tuple.injEq, Array.mk.injEq, List.cons.injEq, Value.agg.injEq, Value.string.injEq, Value.slice.injEq, and_true] at he
  obtain ⟨⟨rfl, rfl, rfl, rfl⟩, -⟩ := he
  exact ⟨hb, hO⟩
end Go.Proofs.YtcegllnljaapiaaGreatDoor
namespace Go.Proofs.YtcegllnljaapiaaGreatDoor
open Go.RowKit
theorem baseV9 (x0 x1 x2 x3 x4 x5 x6 x7 x8 : Option Value) (v : Value) (l : List (Option Value)) : baseV (x0 :: x1 :: x2 :: x3 :: x4 :: x5 :: x6 :: x7 :: x8 :: some v :: l) 9 = v := rfl
theorem baseV10 (x0 x1 x2 x3 x4 x5 x6 x7 x8 x9 : Option Value) (v : Value) (l : List (Option Value)) : baseV (x0 :: x1 :: x2 :: x3 :: x4 :: x5 :: x6 :: x7 :: x8 :: x9 :: some v :: l) 10 = v := rfl
theorem baseV11 (x0 x1 x2 x3 x4 x5 x6 x7 x8 x9 x10 : Option Value) (v : Value) (l : List (Option Value)) : baseV (x0 :: x1 :: x2 :: x3 :: x4 :: x5 :: x6 :: x7 :: x8 :: x9 :: x10 :: some v :: l) 11 = v := rfl
theorem baseV12 (x0 x1 x2 x3 x4 x5 x6 x7 x8 x9 x10 x11 : Option Value) (v : Value) (l : List (Option Value)) : baseV (x0 :: x1 :: x2 :: x3 :: x4 :: x5 :: x6 :: x7 :: x8 :: x9 :: x10 :: x11 :: some v :: l) 12 = v := rfl
theorem baseV13 (x0 x1 x2 x3 x4 x5 x6 x7 x8 x9 x10 x11 x12 : Option Value) (v : Value) (l : List (Option Value)) : baseV (x0 :: x1 :: x2 :: x3 :: x4 :: x5 :: x6 :: x7 :: x8 :: x9 :: x10 :: x11 :: x12 :: some v :: l) 13 = v := rfl
theorem baseV14 (x0 x1 x2 x3 x4 x5 x6 x7 x8 x9 x10 x11 x12 x13 : Option Value) (v : Value) (l : List (Option Value)) : baseV (x0 :: x1 :: x2 :: x3 :: x4 :: x5 :: x6 :: x7 :: x8 :: x9 :: x10 :: x11 :: x12 :: x13 :: some v :: l) 14 = v := rfl
theorem baseV15 (x0 x1 x2 x3 x4 x5 x6 x7 x8 x9 x10 x11 x12 x13 x14 : Option Value) (v : Value) (l : List (Option Value)) : baseV (x0 :: x1 :: x2 :: x3 :: x4 :: x5 :: x6 :: x7 :: x8 :: x9 :: x10 :: x11 :: x12 :: x13 :: x14 :: some v :: l) 15 = v := rfl
attribute [go_sem] baseV9 baseV10 baseV11 baseV12 baseV13 baseV14 baseV15
end Go.Proofs.YtcegllnljaapiaaGreatDoor
namespace Go.Proofs.YtcegllnljaapiaaGreatDoor
open Go.RowKit
/-- The place of the first element that meets a test. -/
def firstI {α : Type} (P : α → Bool) : Nat → List α → Option Nat
  | _, [] => none
  | k, a :: l => if P a then some k else firstI P (k + 1) l
theorem firstI_drop {α : Type} (P : α → Bool) {us : List α} {k : Nat} (h : k < us.length) : firstI P k (us.drop k) = if P us[k] then some k else firstI P (k + 1) (us.drop (k + 1)) := by
  rw [List.drop_eq_getElem_cons h, firstI]
theorem firstI_any {α : Type} (P : α → Bool) : ∀ (us : List α) (k : Nat), (firstI P k us).isSome = us.any P
  | [], _ => rfl
  | a :: us, k => by
    rw [firstI, List.any_cons]
    cases hp : P a
    · rw [if_neg (by simp), firstI_any P us (k + 1), Bool.false_or]
    · rw [if_pos rfl]; rfl
def atI : Option Nat → Int | none => -1 | some i => i
def FirstI (o : Option Nat) (w : World) (e : Ending) (w' : World) : Prop := ∃ r : Int, e = .returned (.int .i64 r) ∧ r = atI o ∧ Below w.heap.size w w'
theorem atI_neg (o : Option Nat) : decide (0 ≤ atI o) = o.isSome := by cases o <;> simp [atI]
end Go.Proofs.YtcegllnljaapiaaGreatDoor
namespace Go.Proofs.YtcegllnljaapiaaGreatDoor
open Go.RowKit
theorem not_any_allI (us : List Int) (P : Int → Bool) : (!us.any fun x => !P x) = us.all P := by
  induction us with
  | nil => rfl
  | cons a us ih => rw [List.any_cons, List.all_cons, ← ih]; cases P a <;> simp
theorem any_not_allI (us : List Int) (P : Int → Bool) : (us.any fun x => !P x) = !us.all P := by rw [← not_any_allI, Bool.not_not]
set_option maxRecDepth 100000 in
theorem count_any (n : Int) (w : World) (h0 : 0 ≤ n) (h1 : n ≤ 1000) (hE : Env w) : Calls Tryz.prog 60 #[.int .i64 n] w fun e w' => e = .returned (.string ⟨(cnt n).toArray⟩) ∧ Below w.heap.size w w' := by
  have HE := Lib.hid hE
  clear hE
  go_enter Tryz.func60, Tryz.ntmps60
  go_wp2_with fail
  refine (itoa_any (n + 1) (by omega) (by omega) _ HE.out).mono ?_
  rintro e w1 ⟨rfl, hb1⟩
  go_wp2
  go_ret
  exact ⟨rfl, hb1⟩
set_option maxRecDepth 100000 in
theorem isPosition1_any (n : Int) (w : World) : Calls Tryz.prog 195 #[.int .i64 n] w fun e w' => e = .returned (.bool (!inB n 0 3)) ∧ Below w.heap.size w w' := by
  go_enter Tryz.func195, Tryz.ntmps195
  go_wp2_with (first | (go_at_call 54; refine (within_any _ _ _ _).mono ?_; rintro e w' ⟨rfl, rfl⟩))
  go_ret
  exact ⟨rfl, by (repeat (first | with_reducible exact Below.refl _ _ | with_reducible assumption | with_reducible refine Below.al ?_ _ | with_reducible refine Below.sc ?_ (by first | exact Nat.le_refl _ | (simp; done) | (simp; omega)) _ | assumption | exact Below.refl _ _ | refine Below.dr ?_ | refine Below.drN ?_ _ | refine Below.step ?_ (by assumption)))⟩
set_option maxRecDepth 100000 in
set_option maxHeartbeats 1600000 in
theorem idxPos {B : Nat → Prop} (P : Int → Bool) (us : List Int) (va : Value) (w : World) (HC : ∀ (a : Int) (w' : World), a ∈ us → i64B a → Below w.heap.size w w' → Calls Tryz.prog 195 #[.int .i64 a] w' fun e w'' => e = .returned (.bool (P a)) ∧ Below w'.heap.size w' w'')
    (h : IntsAt B w va us) : Calls Tryz.prog 133 #[va, .func (.func 195) #[] #[]] w (FirstI (firstI P 0 us) w) := by
  obtain ⟨p, c, rfl, hlen⟩ := h.form
  unfold maxLen at hlen
  have H := Lib.hid h
  have HN1 := Lib.hid HC
  clear h HC
  go_enter Tryz.func133, Tryz.ntmps133
  go_wp2
  go_loopw [8] (fun i wr => ∃ k : Nat, k ≤ us.length ∧ i = .int .i64 k ∧ firstI P 0 us = firstI P k (us.drop k) ∧ Below w.heap.size w wr) (fun i _ => us.length - (intOf i).toNat)
  case atStart => exact ⟨0, Nat.zero_le _, rfl, rfl, by (repeat (first | with_reducible exact Below.refl _ _ | with_reducible assumption | with_reducible refine Below.al ?_ _ | with_reducible refine Below.sc ?_ (by first | exact Nat.le_refl _ | (simp; done) | (simp; omega)) _ | assumption | exact Below.refl _ _ | refine Below.dr ?_ | refine Below.drN ?_ _ | refine Below.step ?_ (by assumption)))⟩
  case round =>
    obtain ⟨k, hk, rfl, he, hb⟩ := hrel
    have HE := Lib.hid he
    clear he
    by_cases hlt : k < us.length
    · obtain ⟨b, o, rfl, hB, hx0, hxs⟩ := (H.out.below hb).at_ hlt
      have HD := Lib.hid (firstI_drop P hlt)
      have hm := List.getElem_mem hlt
      obtain ⟨a, ha⟩ : ∃ a, us[k] = a := ⟨_, rfl⟩
      rw [ha] at hx0 hxs HD hm
      clear ha
      have zb := bsz (World.block_lt_of_cell? _ _ hx0)
      cases hN : P a
      all_goals
        have HN := Lib.hid hN
        go_wp2_with fail
        refine (HN1.out a _ hm hxs (by (repeat (first | with_reducible exact Below.refl _ _ | with_reducible assumption | with_reducible refine Below.al ?_ _ | with_reducible refine Below.sc ?_ (by first | exact Nat.le_refl _ | (simp; done) | (simp; omega)) _ | assumption | exact Below.refl _ _ | refine Below.dr ?_ | refine Below.drN ?_ _ | refine Below.step ?_ (by assumption))))).mono ?_
        rintro e w1 ⟨rfl, hb1⟩
        have ⟨cw1, fw1⟩ := bcell hb1
        have qw1 := hb1.size
        (try simp at qw1)
        (try have zw1w := bsz (show w.heap.size < w1.heap.size by omega))
        rw [HN.out]
        go_wp2
      · refine ⟨⟨k + 1, by omega, by go_num, ?_, by (repeat (first | with_reducible exact Below.refl _ _ | with_reducible assumption | with_reducible refine Below.al ?_ _ | with_reducible refine Below.sc ?_ (by first | exact Nat.le_refl _ | (simp; done) | (simp; omega)) _ | assumption | exact Below.refl _ _ | refine Below.dr ?_ | refine Below.drN ?_ _ | refine Below.step ?_ (by assumption)))⟩, by simp [intOf]; omega⟩
        rw [HE.out, HD.out, HN.out]; rfl
      · go_ret
        exact ⟨_, rfl, by rw [HE.out, HD.out, HN.out]; rfl, by (repeat (first | with_reducible exact Below.refl _ _ | with_reducible assumption | with_reducible refine Below.al ?_ _ | with_reducible refine Below.sc ?_ (by first | exact Nat.le_refl _ | (simp; done) | (simp; omega)) _ | assumption | exact Below.refl _ _ | refine Below.dr ?_ | refine Below.drN ?_ _ | refine Below.step ?_ (by assumption)))⟩
    · obtain rfl : k = us.length := by omega
      have he := HE.out
      rw [List.drop_length] at he
      have HE2 := Lib.hid he
      clear he
      go_wp2
      go_ret
      exact ⟨-1, rfl, by rw [HE2.out]; rfl, by (repeat (first | with_reducible exact Below.refl _ _ | with_reducible assumption | with_reducible refine Below.al ?_ _ | with_reducible refine Below.sc ?_ (by first | exact Nat.le_refl _ | (simp; done) | (simp; omega)) _ | assumption | exact Below.refl _ _ | refine Below.dr ?_ | refine Below.drN ?_ _ | refine Below.step ?_ (by assumption)))⟩
theorem containsPos {B : Nat → Prop} (P : Int → Bool) (us : List Int) (va : Value) (w : World) (HC : ∀ (a : Int) (w' : World), a ∈ us → i64B a → Below w.heap.size w w' → Calls Tryz.prog 195 #[.int .i64 a] w' fun e w'' => e = .returned (.bool (P a)) ∧ Below w'.heap.size w' w'')
    (h : IntsAt B w va us) : Calls Tryz.prog 57 #[va, .func (.func 195) #[] #[]] w fun e w' => e = .returned (.bool (us.any P)) ∧ Below w.heap.size w w' := by
  have HX := Lib.hid (fun (w' : World) (hb : Below w.heap.size w w') => idxPos (B := B) P us va w' (fun a w2 ha hi hb2 => HC a w2 ha hi (Below.step hb hb2)) (h.below hb))
  clear h HC
  go_enter Tryz.func57, Tryz.ntmps57
  go_wp2_with fail
  refine (HX.out _ (by (repeat (first | with_reducible exact Below.refl _ _ | with_reducible assumption | with_reducible refine Below.al ?_ _ | with_reducible refine Below.sc ?_ (by first | exact Nat.le_refl _ | (simp; done) | (simp; omega)) _ | assumption | exact Below.refl _ _ | refine Below.dr ?_ | refine Below.drN ?_ _ | refine Below.step ?_ (by assumption))))).mono ?_
  rintro e w1 ⟨r, rfl, hr, hb1⟩
  have HR := Lib.hid (show decide (0 ≤ r) = us.any P by rw [hr, atI_neg, firstI_any])
  clear hr
  go_wp2
  go_ret
  exact ⟨ret_bool HR.out, by (repeat (first | with_reducible exact Below.refl _ _ | with_reducible assumption | with_reducible refine Below.al ?_ _ | with_reducible refine Below.sc ?_ (by first | exact Nat.le_refl _ | (simp; done) | (simp; omega)) _ | assumption | exact Below.refl _ _ | refine Below.dr ?_ | refine Below.drN ?_ _ | refine Below.step ?_ (by assumption)))⟩
set_option maxRecDepth 100000 in
set_option maxHeartbeats 1600000 in
theorem isPosition_any {B : Nat → Prop} (l : List Int) (v : Value) (w : World) (h : IntsAt B w v l) : Calls Tryz.prog 130 #[v] w fun e w' => e = .returned (.bool (posB l)) ∧ Below w.heap.size w w' := by
  obtain ⟨p, c, rfl, hlen⟩ := h.form
  unfold maxLen at hlen
  have H := Lib.hid h
  have HP := Lib.hid (show posB l = (decide (l.length ≤ 8) && !(l.any fun n => !inB n 0 3)) by rw [posB, not_any_allI])
  clear h
  by_cases h8 : l.length ≤ 8
  · have h8i : (l.length : Int) ≤ 8 := by omega
    have H8 := Lib.hid h8
    go_enter Tryz.func130, Tryz.ntmps130
    go_wp2_with fail
    refine (containsPos (fun n => !inB n 0 3) l _ _ (fun a w' _ _ _ => isPosition1_any a w') (H.out.below (by (repeat (first | with_reducible exact Below.refl _ _ | with_reducible assumption | with_reducible refine Below.al ?_ _ | with_reducible refine Below.sc ?_ (by first | exact Nat.le_refl _ | (simp; done) | (simp; omega)) _ | assumption | exact Below.refl _ _ | refine Below.dr ?_ | refine Below.drN ?_ _ | refine Below.step ?_ (by assumption)))))).mono ?_
    rintro e w1 ⟨rfl, hb1⟩
    have ⟨cw1, fw1⟩ := bcell hb1
    have qw1 := hb1.size
    (try simp at qw1)
    (try have zw1w := bsz (show w.heap.size < w1.heap.size by omega))
    go_wp2
    go_ret
    exact ⟨ret_bool (by rw [HP.out, decide_eq_true H8.out, Bool.true_and]), by (repeat (first | with_reducible exact Below.refl _ _ | with_reducible assumption | with_reducible refine Below.al ?_ _ | with_reducible refine Below.sc ?_ (by first | exact Nat.le_refl _ | (simp; done) | (simp; omega)) _ | assumption | exact Below.refl _ _ | refine Below.dr ?_ | refine Below.drN ?_ _ | refine Below.step ?_ (by assumption)))⟩
  · have h8i : ¬ (l.length : Int) ≤ 8 := by omega
    have H8 := Lib.hid h8
    go_enter Tryz.func130, Tryz.ntmps130
    go_wp2
    go_ret
    exact ⟨ret_bool (by rw [HP.out, decide_eq_false H8.out, Bool.false_and]), by (repeat (first | with_reducible exact Below.refl _ _ | with_reducible assumption | with_reducible refine Below.al ?_ _ | with_reducible refine Below.sc ?_ (by first | exact Nat.le_refl _ | (simp; done) | (simp; omega)) _ | assumption | exact Below.refl _ _ | refine Below.dr ?_ | refine Below.drN ?_ _ | refine Below.step ?_ (by assumption)))⟩
set_option maxRecDepth 100000 in
set_option maxHeartbeats 3200000 in
theorem hasNumbers_any {B : Nat → Prop} (m : Nat) (s : Stp) (p q : Option Addr) (c d : Nat) (v3 : Value) (w : World) (h : StpAt B m w s [.int .i64 s.rule, .slice p s.ps.length c, .slice q s.wh.length d, v3]) (hd : s.wh.length ≤ d) :
    Calls Tryz.prog 55 #[.agg #[.int .i64 s.rule, .slice p s.ps.length c, .slice q s.wh.length d, v3]] w fun e w' => e = .returned (.bool s.nums) ∧ Below w.heap.size w w' := by
  obtain ⟨_, _, _, _, r, g, -, -, -, rfl, hr, l1, l2, l3, ha, hb, hc⟩ := h.form
  obtain ⟨ru, ps, wh, cl⟩ := s
  simp only at l1 l2 l3 ha hb hc hd hr ⊢
  unfold maxLen at l1 l2 l3
  have HB := Lib.hid hb
  clear h ha hb hc
  go_enter Tryz.func55, Tryz.ntmps55
  go_wp2
  obtain ⟨W, hW⟩ : ∃ W : World, W = w.alloc (.cells #[.int .i64 ru, .slice p ps.length c, .slice q wh.length d, .slice r cl.length g] 51) := ⟨_, rfl⟩
  have k0 : W.cell? ⟨w.heap.size, 0, none⟩ = some (.int .i64 ru) := by rw [hW]; go_simp
  have k1 : W.cell? ⟨w.heap.size, 1, none⟩ = some (.slice p ps.length c) := by rw [hW]; go_simp
  have k2 : W.cell? ⟨w.heap.size, 2, none⟩ = some (.slice q wh.length d) := by rw [hW]; go_simp
  have k3 : W.cell? ⟨w.heap.size, 3, none⟩ = some (.slice r cl.length g) := by rw [hW]; go_simp
  have HSW := Lib.hid (show W.heap.size = w.heap.size + 1 by rw [hW]; simp)
  have hbW : Below w.heap.size w W := by rw [hW]; (repeat (first | with_reducible exact Below.refl _ _ | with_reducible assumption | with_reducible refine Below.al ?_ _ | with_reducible refine Below.sc ?_ (by first | exact Nat.le_refl _ | (simp; done) | (simp; omega)) _ | assumption | exact Below.refl _ _ | refine Below.dr ?_ | refine Below.drN ?_ _ | refine Below.step ?_ (by assumption)))
  rw [← hW]
  clear hW
  have zW := bsz (World.block_lt_of_cell? _ _ k0)
  obtain ⟨C, HC0⟩ := class_of (InF W.heap.size _ [(⟨w.heap.size, 0, none⟩, .int .i64 ru), (⟨w.heap.size, 1, none⟩, .slice p ps.length c), (⟨w.heap.size, 2, none⟩, .slice q wh.length d)] [] [])
  have HC := Lib.hid HC0
  clear HC0
  refine wp_region_flow (C := C) (by kernel_rfl) (by kernel_rfl) (fun L hL => (HC.out _ _).2 (InF.start (by first | (intro _ hs; cases hs; done) | (simp only [List.forall_mem_cons]; go_simp)) (by first | (intro _ hs; cases hs; done) | (simp only [List.forall_mem_cons]; go_simp)) (by first | (intro _ hs; cases hs; done) | (simp only [List.forall_mem_cons]; go_simp)) (by first | (intro _ hs; cases hs; done) | (simp only [List.forall_mem_cons]; go_simp)) L hL)) ?_
  repeat (first | (apply flow_free rfl; (intro L w' hun hrd hC; have hC := (HC.out _ _).1 hC; have hb' := hC.below; (try have hw' : Below w.heap.size w w' := by first | exact Below.trans (by (repeat (first | with_reducible exact Below.refl _ _ | with_reducible assumption | with_reducible refine Below.al ?_ _ | with_reducible refine Below.sc ?_ (by first | exact Nat.le_refl _ | (simp; done) | (simp; omega)) _ | assumption | exact Below.refl _ _ | refine Below.dr ?_ | refine Below.drN ?_ _ | refine Below.step ?_ (by assumption)))) hb' | ((repeat (first | with_reducible exact Below.refl _ _ | with_reducible assumption | with_reducible refine Below.al ?_ _ | with_reducible refine Below.sc ?_ (by first | exact Nat.le_refl _ | (simp; done) | (simp; omega)) _ | assumption | exact Below.refl _ _ | refine Below.dr ?_ | refine Below.drN ?_ _ | refine Below.step ?_ (by assumption))); done)); have hf' := hC.cell; (try simp only [List.forall_mem_cons] at hf'); go_simp; first | exact ⟨(HC.out _ _).2 (hC.skip _ (by rfl)), rfl⟩ | (rw [if_neg]; (exact ⟨(HC.out _ _).2 (hC.skip _ (by rfl)), rfl⟩); omega) | fail); go_simp) | (apply flow_yes; (case hw => go_simp); (intro L w' hun hrd hC; have hC := (HC.out _ _).1 hC; have hb' := hC.below; (try have hw' : Below w.heap.size w w' := by first | exact Below.trans (by (repeat (first | with_reducible exact Below.refl _ _ | with_reducible assumption | with_reducible refine Below.al ?_ _ | with_reducible refine Below.sc ?_ (by first | exact Nat.le_refl _ | (simp; done) | (simp; omega)) _ | assumption | exact Below.refl _ _ | refine Below.dr ?_ | refine Below.drN ?_ _ | refine Below.step ?_ (by assumption)))) hb' | ((repeat (first | with_reducible exact Below.refl _ _ | with_reducible assumption | with_reducible refine Below.al ?_ _ | with_reducible refine Below.sc ?_ (by first | exact Nat.le_refl _ | (simp; done) | (simp; omega)) _ | assumption | exact Below.refl _ _ | refine Below.dr ?_ | refine Below.drN ?_ _ | refine Below.step ?_ (by assumption))); done)); have hf' := hC.cell; (try simp only [List.forall_mem_cons] at hf'); go_simp; first | exact ⟨(HC.out _ _).2 (hC.skip _ (by rfl)), rfl⟩ | (rw [if_neg]; (exact ⟨(HC.out _ _).2 (hC.skip _ (by rfl)), rfl⟩); omega) | fail); go_simp) | (apply flow_no; (case hw => (go_simp; try (intro hh; cases hh))); (intro L w' _ _ hC; exact (HC.out _ _).2 (((HC.out _ _).1 hC).skip _ (by rfl))); go_simp))
  refine flow_nil ?_
  intro L wz hL hz
  have hz := (HC.out _ _).1 hz
  have hbz := hz.below
  have hcz := hz.cell
  try simp only [List.forall_mem_cons] at hcz
  have hdz := hz.done
  try simp only [List.forall_mem_cons] at hdz
  (try have hwz : Below w.heap.size w wz := by first | exact Below.trans (by (repeat (first | with_reducible exact Below.refl _ _ | with_reducible assumption | with_reducible refine Below.al ?_ _ | with_reducible refine Below.sc ?_ (by first | exact Nat.le_refl _ | (simp; done) | (simp; omega)) _ | assumption | exact Below.refl _ _ | refine Below.dr ?_ | refine Below.drN ?_ _ | refine Below.step ?_ (by assumption)))) hbz | ((repeat (first | with_reducible exact Below.refl _ _ | with_reducible assumption | with_reducible refine Below.al ?_ _ | with_reducible refine Below.sc ?_ (by first | exact Nat.le_refl _ | (simp; done) | (simp; omega)) _ | assumption | exact Below.refl _ _ | refine Below.dr ?_ | refine Below.drN ?_ _ | refine Below.step ?_ (by assumption))); done))
  have z0 := (hbz.cell (p := ⟨w.heap.size, 0, none⟩) zW.1).trans k0
  have z2 := (hbz.cell (p := ⟨w.heap.size, 2, none⟩) zW.1).trans k2
  have hbw := Below.step hbW hbz
  have zz := bsz (World.block_lt_of_cell? _ _ z0)
  clear k0 k1 k2 k3 hcz
  by_cases r1 : ru = 1
  · subst r1
    go_wp2
    all_goals (go_ret; exact ⟨ret_bool (by simp_all [Stp.nums, beqN1] <;> (intros; omega)), by (repeat (first | with_reducible exact Below.refl _ _ | with_reducible assumption | with_reducible refine Below.al ?_ _ | with_reducible refine Below.sc ?_ (by first | exact Nat.le_refl _ | (simp; done) | (simp; omega)) _ | assumption | exact Below.refl _ _ | refine Below.dr ?_ | refine Below.drN ?_ _ | refine Below.step ?_ (by assumption)))⟩)
  by_cases r2 : ru = 2
  · subst r2
    go_wp2
    all_goals (go_ret; exact ⟨ret_bool (by simp_all [Stp.nums, beqN2] <;> (intros; omega)), by (repeat (first | with_reducible exact Below.refl _ _ | with_reducible assumption | with_reducible refine Below.al ?_ _ | with_reducible refine Below.sc ?_ (by first | exact Nat.le_refl _ | (simp; done) | (simp; omega)) _ | assumption | exact Below.refl _ _ | refine Below.dr ?_ | refine Below.drN ?_ _ | refine Below.step ?_ (by assumption)))⟩)
  by_cases r3 : ru = 3
  · subst r3
    go_wp2
    all_goals (go_ret; exact ⟨ret_bool (by simp_all [Stp.nums, beqN2] <;> (intros; omega)), by (repeat (first | with_reducible exact Below.refl _ _ | with_reducible assumption | with_reducible refine Below.al ?_ _ | with_reducible refine Below.sc ?_ (by first | exact Nat.le_refl _ | (simp; done) | (simp; omega)) _ | assumption | exact Below.refl _ _ | refine Below.dr ?_ | refine Below.drN ?_ _ | refine Below.step ?_ (by assumption)))⟩)
  by_cases r4 : ru = 4
  · subst r4
    by_cases p2 : ps.length = 2
    case neg =>
      have HN := Lib.hid (show Stp.nums ⟨4, ps, wh, cl⟩ = false by simp [Stp.nums, p2])
      have p2i : ((ps.length : Int) == 2) = false := by rw [beq_eq_false_iff_ne]; omega
      go_wp2
      go_ret
      exact ⟨ret_bool (by rw [HN.out]), by (repeat (first | with_reducible exact Below.refl _ _ | with_reducible assumption | with_reducible refine Below.al ?_ _ | with_reducible refine Below.sc ?_ (by first | exact Nat.le_refl _ | (simp; done) | (simp; omega)) _ | assumption | exact Below.refl _ _ | refine Below.dr ?_ | refine Below.drN ?_ _ | refine Below.step ?_ (by assumption)))⟩
    have p2i : ((ps.length : Int) == 2) = true := by rw [beq_iff_eq]; omega
    by_cases w3 : 3 < wh.length
    case neg =>
      have HN := Lib.hid (show Stp.nums ⟨4, ps, wh, cl⟩ = false by simp [Stp.nums, w3])
      have w3i : ¬ (3 : Int) < wh.length := by omega
      go_wp2
      go_ret
      exact ⟨ret_bool (by rw [HN.out]), by (repeat (first | with_reducible exact Below.refl _ _ | with_reducible assumption | with_reducible refine Below.al ?_ _ | with_reducible refine Below.sc ?_ (by first | exact Nat.le_refl _ | (simp; done) | (simp; omega)) _ | assumption | exact Below.refl _ _ | refine Below.dr ?_ | refine Below.drN ?_ _ | refine Below.step ?_ (by assumption)))⟩
    have w3i : (3 : Int) < wh.length := by omega
    have HN := Lib.hid (show Stp.nums ⟨4, ps, wh, cl⟩ = (inB (wh.getD 1 0) 0 1 && posB (wh.drop 3)) by simp [Stp.nums, p2, w3])
    obtain ⟨b, o, rfl, hB, hx1, -⟩ := (HB.out.below hbw).at_ (show 1 < wh.length by omega)
    have HG := Lib.hid (show wh.getD 1 0 = wh[1] by rw [List.getD_eq_getElem?_getD, List.getElem?_eq_getElem (by omega)]; rfl)
    obtain ⟨a, hae⟩ : ∃ a, wh[1] = a := ⟨_, rfl⟩
    rw [hae] at hx1 HG
    have HR := Lib.hid (ListAt.rest HB.out 3 (n' := wh.length - 3) (c' := d - 3) rfl)
    have zb := bsz (World.block_lt_of_cell? _ _ hx1)
    have hd3 : ¬ d = 3 := by omega
    have hd3a : (3 : Int) ≤ wh.length := by omega
    have hd3b : (wh.length : Int) ≤ d := by omega
    clear hae p2 w3
    cases hq : inB a 0 1
    · have HQ := Lib.hid hq
      go_wp2_with (first | (go_at_call 54; refine (within_any _ _ _ _).mono ?_; rintro e w' ⟨rfl, rfl⟩; rw [HQ.out]))
      go_ret
      exact ⟨ret_bool (by rw [HN.out, HG.out, HQ.out]; rfl), by (repeat (first | with_reducible exact Below.refl _ _ | with_reducible assumption | with_reducible refine Below.al ?_ _ | with_reducible refine Below.sc ?_ (by first | exact Nat.le_refl _ | (simp; done) | (simp; omega)) _ | assumption | exact Below.refl _ _ | refine Below.dr ?_ | refine Below.drN ?_ _ | refine Below.step ?_ (by assumption)))⟩
    · have HQ := Lib.hid hq
      go_wp2_with (first | (go_at_call 54; refine (within_any _ _ _ _).mono ?_; rintro e w' ⟨rfl, rfl⟩; rw [HQ.out]))
      refine (isPosition_any (wh.drop 3) _ _ ((show IntsAt B w _ (wh.drop 3) from HR.out).below (by (repeat (first | with_reducible exact Below.refl _ _ | with_reducible assumption | with_reducible refine Below.al ?_ _ | with_reducible refine Below.sc ?_ (by first | exact Nat.le_refl _ | (simp; done) | (simp; omega)) _ | assumption | exact Below.refl _ _ | refine Below.dr ?_ | refine Below.drN ?_ _ | refine Below.step ?_ (by assumption)))))).mono ?_
      rintro e w5 ⟨rfl, hb5⟩
      go_wp2
      go_ret
      exact ⟨ret_bool (by rw [HN.out, HG.out, HQ.out]; rfl), by (repeat (first | with_reducible exact Below.refl _ _ | with_reducible assumption | with_reducible refine Below.al ?_ _ | with_reducible refine Below.sc ?_ (by first | exact Nat.le_refl _ | (simp; done) | (simp; omega)) _ | assumption | exact Below.refl _ _ | refine Below.dr ?_ | refine Below.drN ?_ _ | refine Below.step ?_ (by assumption)))⟩
  by_cases r5 : ru = 5
  · subst r5
    go_wp2
    all_goals (go_ret; exact ⟨ret_bool (by simp_all [Stp.nums, beqN1] <;> (intros; omega)), by (repeat (first | with_reducible exact Below.refl _ _ | with_reducible assumption | with_reducible refine Below.al ?_ _ | with_reducible refine Below.sc ?_ (by first | exact Nat.le_refl _ | (simp; done) | (simp; omega)) _ | assumption | exact Below.refl _ _ | refine Below.dr ?_ | refine Below.drN ?_ _ | refine Below.step ?_ (by assumption)))⟩)
  by_cases r6 : ru = 6
  · subst r6
    go_wp2_with (first | (go_at_call 54; refine (within_any _ _ _ _).mono ?_; rintro e w' ⟨rfl, rfl⟩))
    all_goals (go_ret; exact ⟨ret_bool (by simp_all [Stp.nums, inB, beqN0, leN2, leN11] <;> (intros; omega)), by (repeat (first | with_reducible exact Below.refl _ _ | with_reducible assumption | with_reducible refine Below.al ?_ _ | with_reducible refine Below.sc ?_ (by first | exact Nat.le_refl _ | (simp; done) | (simp; omega)) _ | assumption | exact Below.refl _ _ | refine Below.dr ?_ | refine Below.drN ?_ _ | refine Below.step ?_ (by assumption)))⟩)
  have e1 : (ru == 1) = false := by simp [r1]
  have e2 : (ru == 2) = false := by simp [r2]
  have e3 : (ru == 3) = false := by simp [r3]
  have e4 : (ru == 4) = false := by simp [r4]
  have e5 : (ru == 5) = false := by simp [r5]
  have e6 : (ru == 6) = false := by simp [r6]
  have HN := Lib.hid (show Stp.nums ⟨ru, ps, wh, cl⟩ = false by simp [Stp.nums, r1, r2, r3, r4, r5, r6])
  clear r1 r2 r3 r4 r5 r6
  go_wp2
  go_ret
  exact ⟨ret_bool (by rw [HN.out]), by (repeat (first | with_reducible exact Below.refl _ _ | with_reducible assumption | with_reducible refine Below.al ?_ _ | with_reducible refine Below.sc ?_ (by first | exact Nat.le_refl _ | (simp; done) | (simp; omega)) _ | assumption | exact Below.refl _ _ | refine Below.dr ?_ | refine Below.drN ?_ _ | refine Below.step ?_ (by assumption)))⟩
end Go.Proofs.YtcegllnljaapiaaGreatDoor
namespace Go.Proofs.YtcegllnljaapiaaGreatDoor
open Go.RowKit
/-- Texts of numbers, written one by one into an own row. -/
def NumsRel (us : List Int) (tx : Int → List UInt8) (base : Nat) (w : World) (out i : Value) (wr : World) : Prop :=
  ∃ k : Nat, k ≤ us.length ∧ i = .int .i64 k ∧ wr.ownsRow base 9 1 out k (strV ((us.map tx).take k)) ∧ Below w.heap.size w wr
theorem nums_take {us : List Int} {tx : Int → List UInt8} {k : Nat} (h : k < us.length) : strV ((us.map tx).take (k + 1)) = strV ((us.map tx).take k) ++ [.string ⟨(tx us[k]).toArray⟩] := by
  rw [strV_take (by rw [List.length_map]; exact h), List.getElem_map]
theorem joinB_numsLen {us : List Int} {tx : Int → List UInt8} {sep : List UInt8} (h : ∀ x ∈ us, (tx x).length ≤ 20) (hs : sep.length ≤ 10) (hl : us.length ≤ 1000000) : (joinB sep (us.map tx)).length ≤ 140737488355328 := by
  have := joinB_bd (sep := sep) 20 (us.map tx) (fun x hx => by obtain ⟨y, hy, rfl⟩ := List.mem_map.1 hx; exact h y hy)
  rw [List.length_map] at this
  have h2 : (20 + sep.length) * us.length ≤ 30 * us.length := Nat.mul_le_mul_right _ (by omega)
  omega
set_option maxRecDepth 100000 in
set_option maxHeartbeats 1600000 in
theorem formatPosition_any {B : Nat → Prop} (us : List Int) (v : Value) (w : World) (h : IntsAt B w v us) (h0 : us ≠ []) (hx : ∀ x ∈ us, 0 ≤ x ∧ x ≤ 1000) (hl : us.length ≤ 1000) (hE : Env w) :
    Calls Tryz.prog 136 #[v] w fun e w' => e = .returned (.string ⟨(posT us).toArray⟩) ∧ Below w.heap.size w w' := by
  obtain ⟨p, c, rfl, -⟩ := h.form
  have H := Lib.hid h
  have HX := Lib.hid hx
  have HE := Lib.hid hE
  have HP := Lib.hid (show posT us = joinB [46] (us.map Lib.itoa) from if_neg h0)
  have hpos := List.length_pos_iff.2 h0
  have hnz : ((us.length : Int) == 0) = false := by rw [beq_eq_false_iff_ne]; omega
  have HJ := Lib.hid (joinB_numsLen (us := us) (tx := Lib.itoa) (sep := [46]) (fun x hx' => by have := hx x hx'; exact itoa_len x (by omega) (by omega)) (by decide) (by omega))
  clear h hx hE h0
  go_enter Tryz.func136, Tryz.ntmps136
  go_wp2
  go_loopw [3, 12] (NumsRel us Lib.itoa w.heap.size w) (fun _ i _ => us.length - (intOf i).toNat)
  case atStart => exact ⟨0, Nat.zero_le _, rfl, row_empty _ _ _ _ (by omega), by (repeat (first | with_reducible exact Below.refl _ _ | with_reducible assumption | with_reducible refine Below.al ?_ _ | with_reducible refine Below.sc ?_ (by first | exact Nat.le_refl _ | (simp; done) | (simp; omega)) _ | assumption | exact Below.refl _ _ | refine Below.dr ?_ | refine Below.drN ?_ _ | refine Below.step ?_ (by assumption)))⟩
  case round =>
    obtain ⟨k, hk, rfl, ho, hb⟩ := hrel
    have HO := Lib.hid ho
    have hqr := hb.size
    clear ho
    by_cases hlt : k < us.length
    · obtain ⟨b, o, rfl, hB, hx0, -⟩ := (H.out.below hb).at_ hlt
      have hxb := HX.out _ (List.getElem_mem hlt)
      have HT := Lib.hid (nums_take (tx := Lib.itoa) hlt)
      obtain ⟨a, ha⟩ : ∃ a, us[k] = a := ⟨_, rfl⟩
      rw [ha] at hx0 hxb HT
      have zb := bsz (World.block_lt_of_cell? _ _ hx0)
      clear ha
      go_wp2_with fail
      refine (itoa_any a (by omega) (by omega) _ (HE.out.below hb)).mono ?_
      rintro e w2 ⟨rfl, hb2⟩
      have hq2 := hb2.size
      have HO1 := Lib.hid (own_below HO.out hb2)
      have hb3 : Below w.heap.size w w2 := Below.step hb hb2
      go_wp2_with (at_builtin; refine wpList_app1 rfl (.tmp 16) (.tmp 19) _ rfl w.heap.size 9 1 16 elemStr _ _ _ rfl w2 #[.string ⟨(Lib.itoa a).toArray⟩] rfl _ (by simp) rfl HO1.out rfl (by simp [Value.oneCell']) (by omega) (by unfold maxLen; omega) (by omega) ?_; intro v1 w3 hown1 hg1 hnr1 hlt1)
      refine ⟨⟨k + 1, by omega, by go_num, ?_, hb3.grown hg1 (by omega) (fun k hk => by have := own_base HO1.out k hk; omega)⟩, by simp [intOf]; omega⟩
      rw [HT.out]; exact hown1
    · obtain rfl : k = us.length := by omega
      have ho := HO.out
      rw [show us.length = (us.map Lib.itoa).length by rw [List.length_map], List.take_length] at ho
      have HO2 := Lib.hid ho
      clear ho HO
      go_wp2_with fail
      refine (join_own [46] _ HO2.out (by rw [List.length_map]; omega) HJ.out).mono ?_
      rintro e w2 ⟨rfl, hb2⟩
      go_wp2
      go_ret
      exact ⟨ret_str (by rw [HP.out]), Below.step hb hb2⟩
set_option maxRecDepth 100000 in
theorem parent_any (g b o c k n : Nat) (i : Int) (x : Int) (w : World) (hE : Env w) (hg : w.cell? ⟨g, 1, none⟩ = some (.slice (some ⟨b, o, none⟩) n c)) (hx : w.cell? ⟨b, o + k, none⟩ = some (.int .i64 x)) (hi : i = k) (hk : k < n) (_hn : n ≤ 1000000) (h0 : 0 ≤ x) (h1 : x ≤ 1000) :
    Calls Tryz.prog 134 #[.int .i64 i, .pointer (some ⟨g, 0, none⟩)] w fun e w' => e = .returned (.string ⟨(cnt x).toArray⟩) ∧ Below w.heap.size w w' := by
  subst hi
  have HE := Lib.hid hE
  have hki : (k : Int) < n := by omega
  have zg := bsz (World.block_lt_of_cell? _ _ hg)
  clear hE
  go_enter Tryz.func134, Tryz.ntmps134
  go_wp2_with fail
  refine (count_any x _ h0 h1 HE.out).mono ?_
  rintro e w1 ⟨rfl, hb1⟩
  go_wp2
  go_ret
  exact ⟨rfl, hb1⟩
set_option maxRecDepth 100000 in
theorem where_any (g b o c k n : Nat) (i : Int) (x : Int) (w : World) (hE : Env w) (hg : w.cell? ⟨g, 2, none⟩ = some (.slice (some ⟨b, o, none⟩) n c)) (hx : w.cell? ⟨b, o + k, none⟩ = some (.int .i64 x)) (hi : i = k) (hk : k < n) (_hn : n ≤ 1000000) (h0 : 0 ≤ x) (h1 : x ≤ 1000) :
    Calls Tryz.prog 135 #[.int .i64 i, .pointer (some ⟨g, 0, none⟩)] w fun e w' => e = .returned (.string ⟨(cnt x).toArray⟩) ∧ Below w.heap.size w w' := by
  subst hi
  have HE := Lib.hid hE
  have hki : (k : Int) < n := by omega
  have zg := bsz (World.block_lt_of_cell? _ _ hg)
  clear hE
  go_enter Tryz.func135, Tryz.ntmps135
  go_wp2_with fail
  refine (count_any x _ h0 h1 HE.out).mono ?_
  rintro e w1 ⟨rfl, hb1⟩
  go_wp2
  go_ret
  exact ⟨rfl, hb1⟩
end Go.Proofs.YtcegllnljaapiaaGreatDoor
