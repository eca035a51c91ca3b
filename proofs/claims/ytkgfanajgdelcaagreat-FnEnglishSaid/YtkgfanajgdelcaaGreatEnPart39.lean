import Derived.Test.YtkgfanajgdelcaaGreatEnPart38
namespace Go.Proofs.YtkgfanajgdelcaaGreat
set_option maxRecDepth 100000
open Go.RowKit
def MkRel (xs : List Lit3) (base k0 : Nat) (W : World) (out i : Value) (wr : World) : Prop :=
  ∃ (k og oc n : Nat) (D : List LC), k ≤ xs.length ∧ i = .int .i64 k ∧ out = .slice (some ⟨og, 0, none⟩) n oc ∧ D.length = n ∧ LsC 57 4 base k0 (.slice (some ⟨og, 0, none⟩) n oc) D wr ∧ n ≤ k ∧ (∀ x ∈ D, x.l ∈ xs) ∧ Below W.heap.size W wr
def MkPost (xs : List Lit3) (w : World) (e : Ending) (w' : World) : Prop :=
  ∃ (og oc : Nat) (D : List LC), e = .returned (.agg #[.slice (some ⟨og, 0, none⟩) D.length oc]) ∧ LsC 57 4 (w.heap.size + 1) w.heap.size (.slice (some ⟨og, 0, none⟩) D.length oc) D w' ∧ D.length ≤ xs.length ∧ (∀ x ∈ D, x.l ∈ xs) ∧ Below w.heap.size w w'
set_option maxHeartbeats 12800000 in
theorem l7Make_any {B : Nat → Prop} (xs : List Lit3) (v : Value) (w : World) (h : ListAt B w 3 (LitAt B 4 w) v xs) (hl : xs.length ≤ 100) (hw : ∀ l ∈ xs, l.a.wt ≤ 1000) :
    Calls Tryz.prog 111 #[v] w (MkPost xs w) := by
  obtain ⟨p, c, rfl, -⟩ := h.form
  have H := Lib.hid (show ListAt (fun _ => True) w 3 (LitAt (fun _ => True) 4 w) (.slice p xs.length c) xs from h.mono (SameOn.refl _ _) (fun _ _ => trivial) (fun x cs _ hx => LitAt.mono (SameOn.refl _ _) (fun _ _ => trivial) (Nat.le_refl _) hx))
  have HW := Lib.hid hw
  clear h hw
  go_enter Tryz.func111, Tryz.ntmps111
  go_wp2
  obtain ⟨W, hW⟩ : ∃ W : World, W = (w.alloc (.cells #[.slice none 0 0] 39)).alloc (.cells #[] 57) := ⟨_, rfl⟩
  have hsW : W.heap.size = w.heap.size + 2 := by rw [hW]; simp
  have hbW : Below w.heap.size w W := by rw [hW]; exact bel
  have HBX := Lib.hid (show W.heap[w.heap.size]? = some (.cells #[.slice none 0 0] 39 (0, 0)) by rw [hW]; exact (hao _ _ _ (by simp)).trans (heap_alloc_new w _))
  have hL0 := LsC.nil (T := 57) (n := 4) (base := w.heap.size + 1) (k := w.heap.size) (w := w.alloc (.cells #[.slice none 0 0] 39)) (by simp) (by simp)
  rw [← hW] at hL0 ⊢
  simp only [World.size_alloc] at hL0
  have HL0 := Lib.hid hL0
  have HX := Lib.hid (H.out.mono (SameOn.below hbW) (fun _ h => h) (fun x cs _ hx => LitAt.below hbW hx))
  clear hW hL0
  go_loopw [3, 4] (MkRel xs (w.heap.size + 1) w.heap.size W) (fun _ i _ => xs.length - (intOf i).toNat)
  case atStart => exact ⟨0, _, _, 0, [], Nat.zero_le _, rfl, rfl, rfl, HL0.out, Nat.le_refl _, fun x hx => by simp at hx, Below.refl _ _⟩
  case round =>
    obtain ⟨k, og, oc, n, D, hk, rfl, rfl, hnD, hO, hDk, hmem, hb⟩ := hrel
    have HO := Lib.hid hO
    have HB := Lib.hid hb
    have HMEM := Lib.hid hmem
    have hqr := hb.size
    clear hO hb hmem
    by_cases hlt : k < xs.length
    · have hki : (k : Int) < xs.length := by omega
      have HXR := Lib.hid (HX.out.mono (SameOn.below HB.out) (fun _ h => h) (fun x cs _ hx => LitAt.below HB.out hx))
      obtain ⟨b, o, rfl, hB, x0, x1, x2, hx0, hx1, hx2, hx⟩ := HXR.out.at3 hlt
      have HLM := Lib.hid (show xs[k] ∈ xs from List.getElem_mem hlt)
      obtain ⟨l, hl⟩ : ∃ l, xs[k] = l := ⟨_, rfl⟩
      rw [hl] at hx HLM
      have hwl := HW.out l HLM.out
      obtain ⟨pa, ca, rfl, rfl, rfl, htl⟩ := hx.form
      have HLX := Lib.hid hx
      have HTL := Lib.hid htl
      clear hl hx htl
      go_wp2
      obtain ⟨wC, hwC⟩ : ∃ q, q = wr := ⟨_, rfl⟩
      subst hwC
      go_loopw [5] (fun t wr' => ∃ j : Nat, j ≤ n ∧ t = .int .i64 j ∧ Below wC.heap.size wC wr') (fun t _ => n - (intOf t).toNat)
      case atStart => exact ⟨0, Nat.zero_le _, rfl, Below.refl _ _⟩
      case round =>
        obtain ⟨j, hj, rfl, hbm⟩ := hrel
        have HBR := Lib.hid (Below.step HB.out hbm)
        have HOM := Lib.hid (HO.out.below hbm (Nat.le_refl _))
        have HLR := Lib.hid (LitAt.below hbm HLX.out)
        have q0 := cellQ hbm hx0
        have q1 := cellQ hbm hx1
        have q2 := cellQ hbm hx2
        have zb := bsz (World.block_lt_of_cell? _ _ q0)
        have zog := bsz (show og < wr.heap.size from own_lt' HOM.out.row rfl)
        have hqm := hbm.size
        have HBM := Lib.hid hbm
        have hkc : n ≤ oc := by
          rcases HOM.out.row.2 with ⟨h1, -⟩ | ⟨_, _, _, h1, -, -, h2, -⟩
          · cases h1
          · simp only [Value.slice.injEq] at h1; omega
        have hkk : (n : Int) ≤ oc := by omega
        clear hbm hx0 hx1 hx2
        by_cases hjl : j < n
        · have hrowM := HOM.out.row
          rw [hnD] at hrowM
          obtain ⟨g', e', -, -, -, hcell⟩ := rowL_cell hrowM (by omega)
          obtain rfl : og = g' := by injection e' with e'; injection e'
          obtain ⟨c0, c1, c2⟩ := hcell j D[j] (List.getElem?_eq_getElem (by omega))
          have hzat := HOM.out.each D[j] (List.getElem_mem (by omega))
          obtain ⟨z, hzD⟩ : ∃ z, D[j] = z := ⟨_, rfl⟩
          rw [hzD] at c0 c1 c2 hzat
          have HZ := Lib.hid (show LitAt (fun _ => True) 4 wr z.l [.bool z.l.pos, .string z.l.a.n, .slice z.p z.l.a.us.length z.c] from LitAt.mono (SameOn.refl _ _) (fun _ _ => trivial) (Nat.le_refl _) hzat)
          have hji : (j : Int) < n := by omega
          have hml : (j : Int) ≤ n := by omega
          have hkm : (j : Int) ≤ oc := by omega
          have hkm2 : j ≤ oc := by omega
          have hcm : oc ≠ j := by omega
          clear hzat hzD hcell e'
          cases hc : decide (z.l.cmp l < 0)
          · have hc' : ¬ z.l.cmp l < 0 := of_decide_eq_false hc
            clear hc
            go_wp2
            obtain ⟨C, HC0⟩ := class_of (InF wr.heap.size _ [(⟨og, j * 3, none⟩, .bool z.l.pos), (⟨og, j * 3 + 1, none⟩, .string z.l.a.n), (⟨og, j * 3 + 2, none⟩, .slice z.p z.l.a.us.length z.c), (⟨b, o + k * 3, none⟩, .bool l.pos), (⟨b, o + k * 3 + 1, none⟩, .string l.a.n), (⟨b, o + k * 3 + 2, none⟩, .slice pa l.a.us.length ca)] [] [])
            have HC := Lib.hid HC0
            clear HC0
            refine wp_region_flow (C := C) (by kernel_rfl) (by kernel_rfl) (fun L hL => (HC.out _ _).2 (InF.start (by first | (intro _ hs; cases hs; done) | (simp only [List.forall_mem_cons]; go_simp)) (by first | (intro _ hs; cases hs; done) | (simp only [List.forall_mem_cons]; go_simp)) (by first | (intro _ hs; cases hs; done) | (simp only [List.forall_mem_cons]; go_simp)) (by first | (intro _ hs; cases hs; done) | (simp only [List.forall_mem_cons]; go_simp)) L hL)) ?_
            repeat (first | ((first | apply flow_free rfl | (apply flow_yes; (case hw => go_simp))); (intro L w' hun hrd hC; have hC := (HC.out _ _).1 hC; have hb' := hC.below; (try have hw' : Below w.heap.size w w' := by first | exact Below.trans (by (repeat (first | with_reducible (first | exact bR _ _ | assumption | refine bA ?_ _ | refine bS ?_ (by first | exact Nat.le_refl _ | (simp; done) | (simp; omega)) _) | assumption | exact bR _ _ | refine bD ?_ | refine bN ?_ _ | refine bT ?_ (by assumption)))) hb' | ((repeat (first | with_reducible (first | exact bR _ _ | assumption | refine bA ?_ _ | refine bS ?_ (by first | exact Nat.le_refl _ | (simp; done) | (simp; omega)) _) | assumption | exact bR _ _ | refine bD ?_ | refine bN ?_ _ | refine bT ?_ (by assumption))); done)); have hf' := hC.cell; (try simp only [List.forall_mem_cons] at hf'); go_simp; first | exact ⟨(HC.out _ _).2 (hC.skip _ (by rfl)), rfl⟩ | (rw [if_neg]; (exact ⟨(HC.out _ _).2 (hC.skip _ (by rfl)), rfl⟩); omega) | (go_at_call 51; refine (l7Literals_any 4 z.l l _ _ _ _ _ _ _ (LitAt.below hb' HZ.out) (LitAt.below hb' HLR.out)).mono ?_; rintro e w1 ⟨rfl, hb1⟩; exact ⟨rfl, (HC.out _ _).2 ((hC.next (by first | (simp; done) | (simp; omega) | omega) hb1).skip _ (by rfl))⟩)); go_simp) | (apply flow_no; (case hw => (go_simp; try (intro hh; cases hh))); (intro L w' _ _ hC; exact (HC.out _ _).2 (((HC.out _ _).1 hC).skip _ (by rfl))); go_simp))
            refine flow_nil ?_
            intro L wz hL hz
            have hz := (HC.out _ _).1 hz
            have hbz := hz.below
            have hcz := hz.cell
            try simp only [List.forall_mem_cons] at hcz
            have hdz := hz.done
            try simp only [List.forall_mem_cons] at hdz
            (try have hwz : Below w.heap.size w wz := by first | exact Below.trans (by (repeat (first | with_reducible (first | exact bR _ _ | assumption | refine bA ?_ _ | refine bS ?_ (by first | exact Nat.le_refl _ | (simp; done) | (simp; omega)) _) | assumption | exact bR _ _ | refine bD ?_ | refine bN ?_ _ | refine bT ?_ (by assumption)))) hbz | ((repeat (first | with_reducible (first | exact bR _ _ | assumption | refine bA ?_ _ | refine bS ?_ (by first | exact Nat.le_refl _ | (simp; done) | (simp; omega)) _) | assumption | exact bR _ _ | refine bD ?_ | refine bN ?_ _ | refine bT ?_ (by assumption))); done))
            obtain ⟨wa, hwa⟩ : ∃ q, q = wz := ⟨_, rfl⟩
            subst hwa
            have hba := hbz
            have HBA := Lib.hid (Below.step HBR.out hba)
            have hza := hba.size
            replace q0 := cellQ hba q0
            replace q1 := cellQ hba q1
            replace q2 := cellQ hba q2
            have zb := bsz (World.block_lt_of_cell? _ _ q0)
            have HOA := Lib.hid (HOM.out.below hba (Nat.le_refl _))
            have HLA := Lib.hid (LitAt.below hba HLR.out)
            have zog := bsz (show og < wa.heap.size from own_lt' HOA.out.row rfl)
            clear hz hcz hdz hbz
            have HZA := Lib.hid (LitAt.below hba HZ.out)
            replace c0 := cellQ hba c0
            replace c1 := cellQ hba c1
            replace c2 := cellQ hba c2
            clear hba
            cases he : (z.l.cmp l == 0)
            · go_wp2
              obtain ⟨C, HC0⟩ := class_of (InF wa.heap.size _ [(⟨og, j * 3, none⟩, .bool z.l.pos), (⟨og, j * 3 + 1, none⟩, .string z.l.a.n), (⟨og, j * 3 + 2, none⟩, .slice z.p z.l.a.us.length z.c), (⟨b, o + k * 3, none⟩, .bool l.pos), (⟨b, o + k * 3 + 1, none⟩, .string l.a.n), (⟨b, o + k * 3 + 2, none⟩, .slice pa l.a.us.length ca)] [] [])
              have HC := Lib.hid HC0
              clear HC0
              refine wp_region_flow (C := C) (by kernel_rfl) (by kernel_rfl) (fun L hL => (HC.out _ _).2 (InF.start (by first | (intro _ hs; cases hs; done) | (simp only [List.forall_mem_cons]; go_simp)) (by first | (intro _ hs; cases hs; done) | (simp only [List.forall_mem_cons]; go_simp)) (by first | (intro _ hs; cases hs; done) | (simp only [List.forall_mem_cons]; go_simp)) (by first | (intro _ hs; cases hs; done) | (simp only [List.forall_mem_cons]; go_simp)) L hL)) ?_
              repeat (first | ((first | apply flow_free rfl | (apply flow_yes; (case hw => go_simp))); (intro L w' hun hrd hC; have hC := (HC.out _ _).1 hC; have hb' := hC.below; (try have hw' : Below w.heap.size w w' := by first | exact Below.trans (by (repeat (first | with_reducible (first | exact bR _ _ | assumption | refine bA ?_ _ | refine bS ?_ (by first | exact Nat.le_refl _ | (simp; done) | (simp; omega)) _) | assumption | exact bR _ _ | refine bD ?_ | refine bN ?_ _ | refine bT ?_ (by assumption)))) hb' | ((repeat (first | with_reducible (first | exact bR _ _ | assumption | refine bA ?_ _ | refine bS ?_ (by first | exact Nat.le_refl _ | (simp; done) | (simp; omega)) _) | assumption | exact bR _ _ | refine bD ?_ | refine bN ?_ _ | refine bT ?_ (by assumption))); done)); have hf' := hC.cell; (try simp only [List.forall_mem_cons] at hf'); go_simp; first | exact ⟨(HC.out _ _).2 (hC.skip _ (by rfl)), rfl⟩ | (rw [if_neg]; (exact ⟨(HC.out _ _).2 (hC.skip _ (by rfl)), rfl⟩); omega) | (go_at_call 51; refine (l7Literals_any 4 z.l l _ _ _ _ _ _ _ (LitAt.below hb' HZA.out) (LitAt.below hb' HLA.out)).mono ?_; rintro e w1 ⟨rfl, hb1⟩; exact ⟨rfl, (HC.out _ _).2 ((hC.next (by first | (simp; done) | (simp; omega) | omega) hb1).skip _ (by rfl))⟩)); go_simp) | (apply flow_no; (case hw => (go_simp; try (intro hh; cases hh))); (intro L w' _ _ hC; exact (HC.out _ _).2 (((HC.out _ _).1 hC).skip _ (by rfl))); go_simp))
              refine flow_nil ?_
              intro L wz hL hz
              have hz := (HC.out _ _).1 hz
              have hbz := hz.below
              have hcz := hz.cell
              try simp only [List.forall_mem_cons] at hcz
              have hdz := hz.done
              try simp only [List.forall_mem_cons] at hdz
              (try have hwz : Below w.heap.size w wz := by first | exact Below.trans (by (repeat (first | with_reducible (first | exact bR _ _ | assumption | refine bA ?_ _ | refine bS ?_ (by first | exact Nat.le_refl _ | (simp; done) | (simp; omega)) _) | assumption | exact bR _ _ | refine bD ?_ | refine bN ?_ _ | refine bT ?_ (by assumption)))) hbz | ((repeat (first | with_reducible (first | exact bR _ _ | assumption | refine bA ?_ _ | refine bS ?_ (by first | exact Nat.le_refl _ | (simp; done) | (simp; omega)) _) | assumption | exact bR _ _ | refine bD ?_ | refine bN ?_ _ | refine bT ?_ (by assumption))); done))
              obtain ⟨wq, hwq⟩ : ∃ q, q = wz := ⟨_, rfl⟩
              subst hwq
              have hbq := hbz
              have HBQ := Lib.hid (Below.step HBA.out hbq)
              have hqq := hbq.size
              replace q0 := cellQ hbq q0
              replace q1 := cellQ hbq q1
              replace q2 := cellQ hbq q2
              have zb := bsz (World.block_lt_of_cell? _ _ q0)
              have HOQ := Lib.hid (HOA.out.below hbq (Nat.le_refl _))
              have HLQ := Lib.hid (LitAt.below hbq HLA.out)
              have HTQ := Lib.hid (show TmAt (fun _ => True) 4 wq l.a [.string l.a.n, .slice pa l.a.us.length ca] from by obtain ⟨_, _, e, h⟩ := HLQ.out; simp only [List.cons.injEq, and_true, true_and] at e; obtain ⟨rfl, rfl⟩ := e; exact h)
              have zog := bsz (show og < wq.heap.size from own_lt' HOQ.out.row rfl)
              clear hz hcz hdz hbz
              clear c0 c1 c2 he hc' hbq
              go_wp2_with fail
              refine wp_region_any3 [some (.slice (some ⟨b, o, none⟩) xs.length c), some (.int .i64 (k : Nat)), some (.pointer (some ⟨b, o + k * 3, none⟩)), some (.pointer (some ⟨b, o + k * 3, none⟩)), some (.bool l.pos), some (.slice (some ⟨b, o, none⟩) xs.length c), some (.int .i64 (k : Nat)), some (.pointer (some ⟨b, o + k * 3, none⟩)), some (.pointer (some ⟨b, o + k * 3 + 1, none⟩)), some (.agg #[.string l.a.n, .slice pa l.a.us.length ca]), none, none, none, none] (MkD 57 4 wq l.pos l.a) (by kernel_rfl) (by kernel_rfl) (fun L hL => MkD.start hL) ?_
              refine flowV_st rfl rfl (by intro u' L w' hun hbe hD; go_simp; first | exact ⟨hD.other 0 (by decide), rfl⟩ | exact hD.other 0 (by decide)) ?_
              go_simp
              refine flowV_st rfl rfl (by intro u' L w' hun hbe hD; go_simp; first | exact ⟨hD.other 1 (by decide), rfl⟩ | exact hD.other 1 (by decide)) ?_
              go_simp
              refine flowV_st rfl rfl (by intro u' L w' hun hbe hD; go_simp; first | exact ⟨hD.other 2 (by decide), rfl⟩ | exact hD.other 2 (by decide)) ?_
              go_simp
              refine flowV_st rfl rfl (by intro u' L w' hun hbe hD; go_simp; first | exact ⟨hD.other 3 (by decide), rfl⟩ | exact hD.other 3 (by decide)) ?_
              go_simp
              refine flowV_st rfl rfl (by intro u' L w' hun hbe hD; have hw' := hD.bel; have e0 := cellQ hw' q0; have ze := bsz (World.block_lt_of_cell? _ _ e0); go_simp; first | exact ⟨hD.other 4 (by decide), rfl⟩ | exact hD.other 4 (by decide)) ?_
              go_simp
              refine flowV_st rfl rfl (by intro u' L w' hun hbe hD; go_simp; first | exact ⟨hD.other 5 (by decide), rfl⟩ | exact hD.other 5 (by decide)) ?_
              go_simp
              refine flowV_st rfl rfl (by intro u' L w' hun hbe hD; go_simp; first | exact ⟨hD.other 6 (by decide), rfl⟩ | exact hD.other 6 (by decide)) ?_
              go_simp
              refine flowV_st rfl rfl (by intro u' L w' hun hbe hD; go_simp; first | exact ⟨hD.other 7 (by decide), rfl⟩ | exact hD.other 7 (by decide)) ?_
              go_simp
              refine flowV_st rfl rfl (by intro u' L w' hun hbe hD; go_simp; first | exact ⟨hD.other 8 (by decide), rfl⟩ | exact hD.other 8 (by decide)) ?_
              go_simp
              refine flowV_st rfl rfl (by intro u' L w' hun hbe hD; have hw' := hD.bel; have e0 := cellQ hw' q1; have e1 := cellQ hw' q2; have ze := bsz (World.block_lt_of_cell? _ _ e0); go_simp; first | exact ⟨hD.other 9 (by decide), rfl⟩ | exact hD.other 9 (by decide)) ?_
              go_simp
              refine flowV_ch rfl rfl (by
                intro u' hu' L w' hun hbe hD
                go_simp
                refine (l2Own_any 4 l.a _ _ w' (TmAt.below hD.bel HTQ.out) (by omega)).mono ?_
                rintro e w'' ⟨u0, u1, he, hO, hb'⟩
                obtain ⟨pn, cn, rfl, rfl, -⟩ := hO.form
                exact ⟨_, he, hD.c10 hun hO.at_ hb'⟩) ?_
              intro x10
              go_simp
              refine flowV_ch rfl rfl (by
                intro u' hu' L w' hun hbe hD
                have h10 := after_behind hbe (p := 10) (by kernel_rfl)
                have hu10 : u' 10 = x10 := (after_eq hu' (by kernel_rfl)).trans (by simp [upd])
                obtain ⟨pn, cn, e1, -⟩ := hD.r10 h10
                have hm := hD.m11 hun h10 e1
                obtain rfl : x10 = _ := hu10.symm.trans e1
                (first | (go_simp; done) | (go_simp; exact hm))) ?_
              intro x11
              go_simp
              refine flowV_ch rfl rfl (by intro u' hu' L w' hun hbe hD; go_simp; exact hD.a12' hun) ?_
              intro x12
              go_simp
              refine flowV_ch rfl rfl (by
                intro u' hu' L w' hun hbe hD
                have h11 := after_behind hbe (p := 11) (by kernel_rfl)
                have h12 := after_behind hbe (p := 12) (by kernel_rfl)
                have hu11 : u' 11 = x11 := (after_eq hu' (by kernel_rfl)).trans (by simp [upd])
                have hu12 : u' 12 = x12 := (after_eq hu' (by kernel_rfl)).trans (by simp [upd])
                obtain ⟨k', e1, e2, e3, e4, -⟩ := hD.a12 h12
                obtain ⟨pn, cn, e6, -⟩ := hD.r10 (hD.o11 h11)
                have hs := hD.s13 (v' := undef) hun h11 h12 e6 e1
                have hv := hD.b11 h11 _ _ e6
                obtain rfl : x11 = _ := hu11.symm.trans hv
                obtain rfl : x12 = _ := hu12.symm.trans e1
                obtain ⟨d0, d1, d2, df⟩ := row3_cells (e4 (getD_tf hun))
                have ze := bsz e3
                clear e1 e2 e3 e4 e6 hv hu11 hu12 hu'
                (first | (go_simp; done) | (go_simp; exact hs))) ?_
              intro x13
              refine flowV_nil ?_
              intro L w4 hL hD
              obtain ⟨bk, pb, cb, e1, hbk, hbox, htm, hb4⟩ := hD.done (fun i hi => by simpa using hL i (by simpa using hi))
              obtain rfl : x12 = .pointer (some ⟨bk, 0, none⟩) := by simpa [upd] using e1
              have hz4 := hb4.size
              have HTM := Lib.hid htm
              have HB4 := Lib.hid hb4
              have HO4 := Lib.hid (HOQ.out.below hb4 (Nat.le_refl _))
              have hor4 := HO4.out.row
              rw [hnD] at hor4
              obtain ⟨n0, n1, n2, nf⟩ := row3_cells hbox
              have zn := bsz (blk_lt hbox)
              have HBW := Lib.hid (Below.step HBQ.out hb4)
              clear hL hD e1 htm hb4 q0 q1 q2
              go_wp2_with fail
              refine wp_region_any3 [none, some (.slice (some ⟨og, 0, none⟩) n oc), some (.int .i64 (j : Nat)), some (.slice (some ⟨og, 0, none⟩) j oc), none, some (.agg #[.bool l.pos, .string l.a.n, .slice pb l.a.us.length cb]), none, none, some (.slice (some ⟨og, 0, none⟩) n oc), some (.int .i64 (j : Nat)), some (.slice (some ⟨og, j * 3, none⟩) (n - j) (oc - j)), none, none] (InsD 57 3 w4 j (n + 1) (flatL (D.take j)) (flatL (D.drop j)) (#[.bool l.pos, .string l.a.n, .slice pb l.a.us.length cb])) (by kernel_rfl) (by kernel_rfl) (fun L hL => InsD.start hL) ?_
              refine flowV_ch rfl rfl (by intro u' hu' L w' hun hbe hD; go_simp; exact hD.b0 hun) ?_
              intro x0
              go_simp
              refine flowV_st rfl rfl (by intro u' L w' hun hbe hD; go_simp; first | exact ⟨hD.other 1 (by decide), rfl⟩ | exact hD.other 1 (by decide)) ?_
              go_simp
              refine flowV_st rfl rfl (by intro u' L w' hun hbe hD; go_simp; first | exact ⟨hD.other 2 (by decide), rfl⟩ | exact hD.other 2 (by decide)) ?_
              go_simp
              refine flowV_st rfl rfl (by intro u' L w' hun hbe hD; go_simp; first | exact ⟨hD.other 3 (by decide), rfl⟩ | exact hD.other 3 (by decide)) ?_
              go_simp
              refine flowV_ch rfl rfl ?_ ?_
              · intro u' hu' L w' hun hbe hD
                have hu0 : u' 0 = x0 := (after_eq hu' (by kernel_rfl)).trans (by simp [upd])
                have h0 := after_behind hbe (p := 0) (by kernel_rfl)
                have hw := hD.bel
                refine each_app (.tmp 60) (.tmp 63) 37 rfl w4.heap.size 57 3 48 elemLitI (u' 0) 0 [] (by rw [hu0]; rfl) _ j (flatL (D.take j)) rfl ((srcL_head hor4 (Nat.le_of_lt hjl) oc).below hw) (hD.r0 h0 (getD_tf hun)) (by first | exact flatL_cell _ | simp) (by omega) (by unfold maxLen; omega) hw.size ?_
                intro v' w2 hr hg hn
                exact hD.a4 hun h0 hr hg hn
              intro x4
              go_simp
              refine flowV_st rfl rfl (by intro u' L w' hun hbe hD; have hw := hD.bel; have e0 := cellQ hw n0; have e1 := cellQ hw n1; have e2 := cellQ hw n2; have ze := bsz (World.block_lt_of_cell? _ _ e0); go_simp; first | exact ⟨hD.other 5 (by decide), rfl⟩ | exact hD.other 5 (by decide)) ?_
              go_simp
              refine flowV_ch rfl rfl (by intro u' hu' L w' hun hbe hD; go_simp; exact hD.b6 hun) ?_
              intro x6
              go_simp
              refine flowV_ch rfl rfl ?_ ?_
              · intro u' hu' L w' hun hbe hD
                have hu4 : u' 4 = x4 := (after_eq hu' (by kernel_rfl)).trans (by simp [upd])
                have hu6 : u' 6 = x6 := (after_eq hu' (by kernel_rfl)).trans (by simp [upd])
                have h4 := after_behind hbe (p := 4) (by kernel_rfl)
                have h6 := after_behind hbe (p := 6) (by kernel_rfl)
                have hw := hD.bel
                obtain ⟨q, hq, hqc, -, -⟩ := hD.r6 h6 (getD_tf hun)
                refine each_app (.tmp 64) (.tmp 66) 37 rfl w4.heap.size 57 3 48 elemLitI (u' 4) j (flatL (D.take j)) (by rw [hu4]; rfl) (.slice (some ⟨q, 0, none⟩) 1 1) 1 (#[.bool l.pos, .string l.a.n, .slice pb l.a.us.length cb]).toList (by rw [← hq, hu6]; rfl) (src_block hqc (by simp)) (hD.r4 h4 (getD_tf hun)) (by simp [Value.oneCell']) (by omega) (by unfold maxLen; omega) hw.size ?_
                intro v' w2 hr hg hn
                exact hD.a7 hun h4 h6 hr hg
              intro x7
              go_simp
              refine flowV_st rfl rfl (by intro u' L w' hun hbe hD; go_simp; first | exact ⟨hD.other 8 (by decide), rfl⟩ | exact hD.other 8 (by decide)) ?_
              go_simp
              refine flowV_st rfl rfl (by intro u' L w' hun hbe hD; go_simp; first | exact ⟨hD.other 9 (by decide), rfl⟩ | exact hD.other 9 (by decide)) ?_
              go_simp
              refine flowV_st rfl rfl (by intro u' L w' hun hbe hD; go_simp; first | exact ⟨hD.other 10 (by decide), rfl⟩ | exact hD.other 10 (by decide)) ?_
              go_simp
              refine flowV_ch rfl rfl ?_ ?_
              · intro u' hu' L w' hun hbe hD
                have hu7 : u' 7 = x7 := (after_eq hu' (by kernel_rfl)).trans (by simp [upd])
                have h7 := after_behind hbe (p := 7) (by kernel_rfl)
                have hw := hD.bel
                refine each_app (.tmp 67) (.tmp 70) 37 rfl w4.heap.size 57 3 48 elemLitI (u' 7) (j + 1) ((flatL (D.take j)) ++ (#[.bool l.pos, .string l.a.n, .slice pb l.a.us.length cb]).toList) (by rw [hu7]; rfl) _ ((n + 1) - (j + 1)) (flatL (D.drop j)) rfl ((srcL_tail hor4 (Nat.le_of_lt hjl) (oc - j)).below hw) (hD.r7 h7 (getD_tf hun)) (by first | exact flatL_cell _ | simp) (by omega) (by unfold maxLen; omega) hw.size ?_
                intro v' w2 hr hg hn
                rw [show j + 1 + ((n + 1) - (j + 1)) = (n + 1) by omega] at hr
                exact hD.a11 hun h7 hr hg
              intro x11
              go_simp
              refine flowV_ch rfl rfl ?_ ?_
              · intro u' hu' L w' hun hbe hD
                have hu11 : u' 11 = x11 := (after_eq hu' (by kernel_rfl)).trans (by simp [upd])
                have h11 := after_behind hbe (p := 11) (by kernel_rfl)
                go_simp
                rw [← hu11]
                exact hD.m12 hun h11
              intro x12
              go_simp
              refine flowV_nil ?_
              intro L w3 hL hD
              have hx12 : x12 = x11 := by have := hD.r12 (by simpa using hL 12 (by simp)); simpa [upd] using this
              have hrow : w3.ownsRow w4.heap.size 57 3 x11 (n + 1) ((flatL (D.take j)) ++ (#[.bool l.pos, .string l.a.n, .slice pb l.a.us.length cb]).toList ++ (flatL (D.drop j))) := by have := hD.r11 (by simpa using hL 11 (by simp)); simpa [upd] using this
              have hbel3 := hD.bel
              subst hx12
              have hrow2 : w3.ownsRow w4.heap.size 57 3 x12 (n + 1) (flatL (D.take j ++ ⟨l, pb, cb⟩ :: D.drop j)) := by
                have e : flatL (D.take j ++ ⟨l, pb, cb⟩ :: D.drop j) = flatL (D.take j) ++ flatL [(⟨l, pb, cb⟩ : LC)] ++ flatL (D.drop j) := by rw [← flatL_app, ← flatL_app]; simp
                rw [e]; exact hrow
              obtain ⟨g', c', rfl⟩ := own_fst hrow2 (by omega)
              have HPUT := Lib.hid (HO4.out.put (j := j) (x := ⟨l, pb, cb⟩) ⟨_, _, rfl, TmAt.mono (SameOn.refl _ _) (fun b hb => ⟨by have := hb.1; omega, hb.2.1, by have := hb.1; omega⟩) 4 4 l.a _ (Nat.le_refl _) HTM.out⟩ hbel3 (by rw [hnD]; exact hrow2) (by omega) (by omega) (by omega))
              have HBZ := Lib.hid (Below.step HBW.out hbel3)
              have hlen : (D.take j ++ (⟨l, pb, cb⟩ : LC) :: D.drop j).length = D.length + 1 := by
                have := congrArg List.length (List.take_append_drop j D)
                rw [List.length_append] at this
                rw [List.length_append, List.length_cons]; omega
              have HLE := Lib.hid hlen
              clear hrow hrow2 hbel3 hlen
              go_wp2
              refine ⟨⟨k + 1, g', c', n + 1, D.take j ++ ⟨l, pb, cb⟩ :: D.drop j, by omega, by go_num, rfl, by rw [HLE.out, hnD], HPUT.out, by omega, ?_, HBZ.out⟩, by simp [intOf]; omega⟩
              intro y hy
              rcases List.mem_append.1 hy with hy | hy
              · exact HMEM.out y (List.mem_of_mem_take hy)
              · rcases List.mem_cons.1 hy with rfl | hy
                · exact HLM.out
                · exact HMEM.out y (List.mem_of_mem_drop hy)
            · go_wp2
              obtain ⟨C, HC0⟩ := class_of (InF wa.heap.size _ [(⟨og, j * 3, none⟩, .bool z.l.pos), (⟨og, j * 3 + 1, none⟩, .string z.l.a.n), (⟨og, j * 3 + 2, none⟩, .slice z.p z.l.a.us.length z.c), (⟨b, o + k * 3, none⟩, .bool l.pos), (⟨b, o + k * 3 + 1, none⟩, .string l.a.n), (⟨b, o + k * 3 + 2, none⟩, .slice pa l.a.us.length ca)] [] [])
              have HC := Lib.hid HC0
              clear HC0
              refine wp_region_flow (C := C) (by kernel_rfl) (by kernel_rfl) (fun L hL => (HC.out _ _).2 (InF.start (by first | (intro _ hs; cases hs; done) | (simp only [List.forall_mem_cons]; go_simp)) (by first | (intro _ hs; cases hs; done) | (simp only [List.forall_mem_cons]; go_simp)) (by first | (intro _ hs; cases hs; done) | (simp only [List.forall_mem_cons]; go_simp)) (by first | (intro _ hs; cases hs; done) | (simp only [List.forall_mem_cons]; go_simp)) L hL)) ?_
              repeat (first | ((first | apply flow_free rfl | (apply flow_yes; (case hw => go_simp))); (intro L w' hun hrd hC; have hC := (HC.out _ _).1 hC; have hb' := hC.below; (try have hw' : Below w.heap.size w w' := by first | exact Below.trans (by (repeat (first | with_reducible (first | exact bR _ _ | assumption | refine bA ?_ _ | refine bS ?_ (by first | exact Nat.le_refl _ | (simp; done) | (simp; omega)) _) | assumption | exact bR _ _ | refine bD ?_ | refine bN ?_ _ | refine bT ?_ (by assumption)))) hb' | ((repeat (first | with_reducible (first | exact bR _ _ | assumption | refine bA ?_ _ | refine bS ?_ (by first | exact Nat.le_refl _ | (simp; done) | (simp; omega)) _) | assumption | exact bR _ _ | refine bD ?_ | refine bN ?_ _ | refine bT ?_ (by assumption))); done)); have hf' := hC.cell; (try simp only [List.forall_mem_cons] at hf'); go_simp; first | exact ⟨(HC.out _ _).2 (hC.skip _ (by rfl)), rfl⟩ | (rw [if_neg]; (exact ⟨(HC.out _ _).2 (hC.skip _ (by rfl)), rfl⟩); omega) | (go_at_call 51; refine (l7Literals_any 4 z.l l _ _ _ _ _ _ _ (LitAt.below hb' HZA.out) (LitAt.below hb' HLA.out)).mono ?_; rintro e w1 ⟨rfl, hb1⟩; exact ⟨rfl, (HC.out _ _).2 ((hC.next (by first | (simp; done) | (simp; omega) | omega) hb1).skip _ (by rfl))⟩)); go_simp) | (apply flow_no; (case hw => (go_simp; try (intro hh; cases hh))); (intro L w' _ _ hC; exact (HC.out _ _).2 (((HC.out _ _).1 hC).skip _ (by rfl))); go_simp))
              refine flow_nil ?_
              intro L wz hL hz
              have hz := (HC.out _ _).1 hz
              have hbz := hz.below
              have hcz := hz.cell
              try simp only [List.forall_mem_cons] at hcz
              have hdz := hz.done
              try simp only [List.forall_mem_cons] at hdz
              (try have hwz : Below w.heap.size w wz := by first | exact Below.trans (by (repeat (first | with_reducible (first | exact bR _ _ | assumption | refine bA ?_ _ | refine bS ?_ (by first | exact Nat.le_refl _ | (simp; done) | (simp; omega)) _) | assumption | exact bR _ _ | refine bD ?_ | refine bN ?_ _ | refine bT ?_ (by assumption)))) hbz | ((repeat (first | with_reducible (first | exact bR _ _ | assumption | refine bA ?_ _ | refine bS ?_ (by first | exact Nat.le_refl _ | (simp; done) | (simp; omega)) _) | assumption | exact bR _ _ | refine bD ?_ | refine bN ?_ _ | refine bT ?_ (by assumption))); done))
              obtain ⟨wq, hwq⟩ : ∃ q, q = wz := ⟨_, rfl⟩
              subst hwq
              have hbq := hbz
              have HBQ := Lib.hid (Below.step HBA.out hbq)
              have hqq := hbq.size
              replace q0 := cellQ hbq q0
              replace q1 := cellQ hbq q1
              replace q2 := cellQ hbq q2
              have zb := bsz (World.block_lt_of_cell? _ _ q0)
              have HOQ := Lib.hid (HOA.out.below hbq (Nat.le_refl _))
              have HLQ := Lib.hid (LitAt.below hbq HLA.out)
              have HTQ := Lib.hid (show TmAt (fun _ => True) 4 wq l.a [.string l.a.n, .slice pa l.a.us.length ca] from by obtain ⟨_, _, e, h⟩ := HLQ.out; simp only [List.cons.injEq, and_true, true_and] at e; obtain ⟨rfl, rfl⟩ := e; exact h)
              have zog := bsz (show og < wq.heap.size from own_lt' HOQ.out.row rfl)
              clear hz hcz hdz hbz
              go_wp2
              exact ⟨⟨k + 1, og, oc, n, D, by omega, by go_num, rfl, hnD, HOQ.out, by omega, HMEM.out, HBQ.out⟩, by simp [intOf]; omega⟩
          · have hc' : z.l.cmp l < 0 := of_decide_eq_true hc
            clear hc
            go_wp2
            obtain ⟨C, HC0⟩ := class_of (InF wr.heap.size _ [(⟨og, j * 3, none⟩, .bool z.l.pos), (⟨og, j * 3 + 1, none⟩, .string z.l.a.n), (⟨og, j * 3 + 2, none⟩, .slice z.p z.l.a.us.length z.c), (⟨b, o + k * 3, none⟩, .bool l.pos), (⟨b, o + k * 3 + 1, none⟩, .string l.a.n), (⟨b, o + k * 3 + 2, none⟩, .slice pa l.a.us.length ca)] [] [])
            have HC := Lib.hid HC0
            clear HC0
            refine wp_region_flow (C := C) (by kernel_rfl) (by kernel_rfl) (fun L hL => (HC.out _ _).2 (InF.start (by first | (intro _ hs; cases hs; done) | (simp only [List.forall_mem_cons]; go_simp)) (by first | (intro _ hs; cases hs; done) | (simp only [List.forall_mem_cons]; go_simp)) (by first | (intro _ hs; cases hs; done) | (simp only [List.forall_mem_cons]; go_simp)) (by first | (intro _ hs; cases hs; done) | (simp only [List.forall_mem_cons]; go_simp)) L hL)) ?_
            repeat (first | ((first | apply flow_free rfl | (apply flow_yes; (case hw => go_simp))); (intro L w' hun hrd hC; have hC := (HC.out _ _).1 hC; have hb' := hC.below; (try have hw' : Below w.heap.size w w' := by first | exact Below.trans (by (repeat (first | with_reducible (first | exact bR _ _ | assumption | refine bA ?_ _ | refine bS ?_ (by first | exact Nat.le_refl _ | (simp; done) | (simp; omega)) _) | assumption | exact bR _ _ | refine bD ?_ | refine bN ?_ _ | refine bT ?_ (by assumption)))) hb' | ((repeat (first | with_reducible (first | exact bR _ _ | assumption | refine bA ?_ _ | refine bS ?_ (by first | exact Nat.le_refl _ | (simp; done) | (simp; omega)) _) | assumption | exact bR _ _ | refine bD ?_ | refine bN ?_ _ | refine bT ?_ (by assumption))); done)); have hf' := hC.cell; (try simp only [List.forall_mem_cons] at hf'); go_simp; first | exact ⟨(HC.out _ _).2 (hC.skip _ (by rfl)), rfl⟩ | (rw [if_neg]; (exact ⟨(HC.out _ _).2 (hC.skip _ (by rfl)), rfl⟩); omega) | (go_at_call 51; refine (l7Literals_any 4 z.l l _ _ _ _ _ _ _ (LitAt.below hb' HZ.out) (LitAt.below hb' HLR.out)).mono ?_; rintro e w1 ⟨rfl, hb1⟩; exact ⟨rfl, (HC.out _ _).2 ((hC.next (by first | (simp; done) | (simp; omega) | omega) hb1).skip _ (by rfl))⟩)); go_simp) | (apply flow_no; (case hw => (go_simp; try (intro hh; cases hh))); (intro L w' _ _ hC; exact (HC.out _ _).2 (((HC.out _ _).1 hC).skip _ (by rfl))); go_simp))
            refine flow_nil ?_
            intro L wz hL hz
            have hz := (HC.out _ _).1 hz
            have hbz := hz.below
            have hcz := hz.cell
            try simp only [List.forall_mem_cons] at hcz
            have hdz := hz.done
            try simp only [List.forall_mem_cons] at hdz
            (try have hwz : Below w.heap.size w wz := by first | exact Below.trans (by (repeat (first | with_reducible (first | exact bR _ _ | assumption | refine bA ?_ _ | refine bS ?_ (by first | exact Nat.le_refl _ | (simp; done) | (simp; omega)) _) | assumption | exact bR _ _ | refine bD ?_ | refine bN ?_ _ | refine bT ?_ (by assumption)))) hbz | ((repeat (first | with_reducible (first | exact bR _ _ | assumption | refine bA ?_ _ | refine bS ?_ (by first | exact Nat.le_refl _ | (simp; done) | (simp; omega)) _) | assumption | exact bR _ _ | refine bD ?_ | refine bN ?_ _ | refine bT ?_ (by assumption))); done))
            go_wp2
            exact ⟨⟨j + 1, by omega, by go_num, Below.step HBM.out hbz⟩, by simp [intOf]; omega⟩
        · obtain rfl : n = j := by omega
          have hji : ¬ (n : Int) < n := by omega
          by_cases hck : n = oc
          · subst hck
            go_wp2
            obtain ⟨C, HC0⟩ := class_of (InF wr.heap.size _ [] [] [])
            have HC := Lib.hid HC0
            clear HC0
            refine wp_region_flow (C := C) (by kernel_rfl) (by kernel_rfl) (fun L hL => (HC.out _ _).2 (InF.start (by first | (intro _ hs; cases hs; done) | (simp only [List.forall_mem_cons]; go_simp)) (by first | (intro _ hs; cases hs; done) | (simp only [List.forall_mem_cons]; go_simp)) (by first | (intro _ hs; cases hs; done) | (simp only [List.forall_mem_cons]; go_simp)) (by first | (intro _ hs; cases hs; done) | (simp only [List.forall_mem_cons]; go_simp)) L hL)) ?_
            repeat (first | ((first | apply flow_free rfl | (apply flow_yes; (case hw => go_simp))); (intro L w' hun hrd hC; have hC := (HC.out _ _).1 hC; have hb' := hC.below; have hf' := hC.cell; (try simp only [List.forall_mem_cons] at hf'); go_simp; first | exact ⟨(HC.out _ _).2 (hC.skip _ (by rfl)), rfl⟩ | (rw [if_neg]; (exact ⟨(HC.out _ _).2 (hC.skip _ (by rfl)), rfl⟩); omega) | fail); go_simp) | (apply flow_no; (case hw => (go_simp; try (intro hh; cases hh))); (intro L w' _ _ hC; exact (HC.out _ _).2 (((HC.out _ _).1 hC).skip _ (by rfl))); go_simp))
            refine flow_nil ?_
            intro L wz hL hz
            have hz := (HC.out _ _).1 hz
            have hbz := hz.below
            have hcz := hz.cell
            try simp only [List.forall_mem_cons] at hcz
            have hdz := hz.done
            try simp only [List.forall_mem_cons] at hdz
            (try have hwz : Below w.heap.size w wz := by first | exact Below.trans (by (repeat (first | with_reducible (first | exact bR _ _ | assumption | refine bA ?_ _ | refine bS ?_ (by first | exact Nat.le_refl _ | (simp; done) | (simp; omega)) _) | assumption | exact bR _ _ | refine bD ?_ | refine bN ?_ _ | refine bT ?_ (by assumption)))) hbz | ((repeat (first | with_reducible (first | exact bR _ _ | assumption | refine bA ?_ _ | refine bS ?_ (by first | exact Nat.le_refl _ | (simp; done) | (simp; omega)) _) | assumption | exact bR _ _ | refine bD ?_ | refine bN ?_ _ | refine bT ?_ (by assumption))); done))
            obtain ⟨wa, hwa⟩ : ∃ q, q = wz := ⟨_, rfl⟩
            subst hwa
            have hba := hbz
            have HBA := Lib.hid (Below.step HBR.out hba)
            have hza := hba.size
            replace q0 := cellQ hba q0
            replace q1 := cellQ hba q1
            replace q2 := cellQ hba q2
            have zb := bsz (World.block_lt_of_cell? _ _ q0)
            have HOA := Lib.hid (HOM.out.below hba (Nat.le_refl _))
            have HLA := Lib.hid (LitAt.below hba HLR.out)
            have zog := bsz (show og < wa.heap.size from own_lt' HOA.out.row rfl)
            clear hz hcz hdz hbz
            clear hba
            go_wp2
            obtain ⟨C, HC0⟩ := class_of (InF wa.heap.size _ [] [] [])
            have HC := Lib.hid HC0
            clear HC0
            refine wp_region_flow (C := C) (by kernel_rfl) (by kernel_rfl) (fun L hL => (HC.out _ _).2 (InF.start (by first | (intro _ hs; cases hs; done) | (simp only [List.forall_mem_cons]; go_simp)) (by first | (intro _ hs; cases hs; done) | (simp only [List.forall_mem_cons]; go_simp)) (by first | (intro _ hs; cases hs; done) | (simp only [List.forall_mem_cons]; go_simp)) (by first | (intro _ hs; cases hs; done) | (simp only [List.forall_mem_cons]; go_simp)) L hL)) ?_
            repeat (first | ((first | apply flow_free rfl | (apply flow_yes; (case hw => go_simp))); (intro L w' hun hrd hC; have hC := (HC.out _ _).1 hC; have hb' := hC.below; have hf' := hC.cell; (try simp only [List.forall_mem_cons] at hf'); go_simp; first | exact ⟨(HC.out _ _).2 (hC.skip _ (by rfl)), rfl⟩ | (rw [if_neg]; (exact ⟨(HC.out _ _).2 (hC.skip _ (by rfl)), rfl⟩); omega) | fail); go_simp) | (apply flow_no; (case hw => (go_simp; try (intro hh; cases hh))); (intro L w' _ _ hC; exact (HC.out _ _).2 (((HC.out _ _).1 hC).skip _ (by rfl))); go_simp))
            refine flow_nil ?_
            intro L wz hL hz
            have hz := (HC.out _ _).1 hz
            have hbz := hz.below
            have hcz := hz.cell
            try simp only [List.forall_mem_cons] at hcz
            have hdz := hz.done
            try simp only [List.forall_mem_cons] at hdz
            (try have hwz : Below w.heap.size w wz := by first | exact Below.trans (by (repeat (first | with_reducible (first | exact bR _ _ | assumption | refine bA ?_ _ | refine bS ?_ (by first | exact Nat.le_refl _ | (simp; done) | (simp; omega)) _) | assumption | exact bR _ _ | refine bD ?_ | refine bN ?_ _ | refine bT ?_ (by assumption)))) hbz | ((repeat (first | with_reducible (first | exact bR _ _ | assumption | refine bA ?_ _ | refine bS ?_ (by first | exact Nat.le_refl _ | (simp; done) | (simp; omega)) _) | assumption | exact bR _ _ | refine bD ?_ | refine bN ?_ _ | refine bT ?_ (by assumption))); done))
            obtain ⟨wq, hwq⟩ : ∃ q, q = wz := ⟨_, rfl⟩
            subst hwq
            have hbq := hbz
            have HBQ := Lib.hid (Below.step HBA.out hbq)
            have hqq := hbq.size
            replace q0 := cellQ hbq q0
            replace q1 := cellQ hbq q1
            replace q2 := cellQ hbq q2
            have zb := bsz (World.block_lt_of_cell? _ _ q0)
            have HOQ := Lib.hid (HOA.out.below hbq (Nat.le_refl _))
            have HLQ := Lib.hid (LitAt.below hbq HLA.out)
            have HTQ := Lib.hid (show TmAt (fun _ => True) 4 wq l.a [.string l.a.n, .slice pa l.a.us.length ca] from by obtain ⟨_, _, e, h⟩ := HLQ.out; simp only [List.cons.injEq, and_true, true_and] at e; obtain ⟨rfl, rfl⟩ := e; exact h)
            have zog := bsz (show og < wq.heap.size from own_lt' HOQ.out.row rfl)
            clear hz hcz hdz hbz
            clear hbq
            go_wp2_with fail
            refine wp_region_any3 [some (.slice (some ⟨b, o, none⟩) xs.length c), some (.int .i64 (k : Nat)), some (.pointer (some ⟨b, o + k * 3, none⟩)), some (.pointer (some ⟨b, o + k * 3, none⟩)), some (.bool l.pos), some (.slice (some ⟨b, o, none⟩) xs.length c), some (.int .i64 (k : Nat)), some (.pointer (some ⟨b, o + k * 3, none⟩)), some (.pointer (some ⟨b, o + k * 3 + 1, none⟩)), some (.agg #[.string l.a.n, .slice pa l.a.us.length ca]), none, none, none, none] (MkD 57 4 wq l.pos l.a) (by kernel_rfl) (by kernel_rfl) (fun L hL => MkD.start hL) ?_
            refine flowV_st rfl rfl (by intro u' L w' hun hbe hD; go_simp; first | exact ⟨hD.other 0 (by decide), rfl⟩ | exact hD.other 0 (by decide)) ?_
            go_simp
            refine flowV_st rfl rfl (by intro u' L w' hun hbe hD; go_simp; first | exact ⟨hD.other 1 (by decide), rfl⟩ | exact hD.other 1 (by decide)) ?_
            go_simp
            refine flowV_st rfl rfl (by intro u' L w' hun hbe hD; go_simp; first | exact ⟨hD.other 2 (by decide), rfl⟩ | exact hD.other 2 (by decide)) ?_
            go_simp
            refine flowV_st rfl rfl (by intro u' L w' hun hbe hD; go_simp; first | exact ⟨hD.other 3 (by decide), rfl⟩ | exact hD.other 3 (by decide)) ?_
            go_simp
            refine flowV_st rfl rfl (by intro u' L w' hun hbe hD; have hw' := hD.bel; have e0 := cellQ hw' q0; have ze := bsz (World.block_lt_of_cell? _ _ e0); go_simp; first | exact ⟨hD.other 4 (by decide), rfl⟩ | exact hD.other 4 (by decide)) ?_
            go_simp
            refine flowV_st rfl rfl (by intro u' L w' hun hbe hD; go_simp; first | exact ⟨hD.other 5 (by decide), rfl⟩ | exact hD.other 5 (by decide)) ?_
            go_simp
            refine flowV_st rfl rfl (by intro u' L w' hun hbe hD; go_simp; first | exact ⟨hD.other 6 (by decide), rfl⟩ | exact hD.other 6 (by decide)) ?_
            go_simp
            refine flowV_st rfl rfl (by intro u' L w' hun hbe hD; go_simp; first | exact ⟨hD.other 7 (by decide), rfl⟩ | exact hD.other 7 (by decide)) ?_
            go_simp
            refine flowV_st rfl rfl (by intro u' L w' hun hbe hD; go_simp; first | exact ⟨hD.other 8 (by decide), rfl⟩ | exact hD.other 8 (by decide)) ?_
            go_simp
            refine flowV_st rfl rfl (by intro u' L w' hun hbe hD; have hw' := hD.bel; have e0 := cellQ hw' q1; have e1 := cellQ hw' q2; have ze := bsz (World.block_lt_of_cell? _ _ e0); go_simp; first | exact ⟨hD.other 9 (by decide), rfl⟩ | exact hD.other 9 (by decide)) ?_
            go_simp
            refine flowV_ch rfl rfl (by
              intro u' hu' L w' hun hbe hD
              go_simp
              refine (l2Own_any 4 l.a _ _ w' (TmAt.below hD.bel HTQ.out) (by omega)).mono ?_
              rintro e w'' ⟨u0, u1, he, hO, hb'⟩
              obtain ⟨pn, cn, rfl, rfl, -⟩ := hO.form
              exact ⟨_, he, hD.c10 hun hO.at_ hb'⟩) ?_
            intro x10
            go_simp
            refine flowV_ch rfl rfl (by
              intro u' hu' L w' hun hbe hD
              have h10 := after_behind hbe (p := 10) (by kernel_rfl)
              have hu10 : u' 10 = x10 := (after_eq hu' (by kernel_rfl)).trans (by simp [upd])
              obtain ⟨pn, cn, e1, -⟩ := hD.r10 h10
              have hm := hD.m11 hun h10 e1
              obtain rfl : x10 = _ := hu10.symm.trans e1
              (first | (go_simp; done) | (go_simp; exact hm))) ?_
            intro x11
            go_simp
            refine flowV_ch rfl rfl (by intro u' hu' L w' hun hbe hD; go_simp; exact hD.a12' hun) ?_
            intro x12
            go_simp
            refine flowV_ch rfl rfl (by
              intro u' hu' L w' hun hbe hD
              have h11 := after_behind hbe (p := 11) (by kernel_rfl)
              have h12 := after_behind hbe (p := 12) (by kernel_rfl)
              have hu11 : u' 11 = x11 := (after_eq hu' (by kernel_rfl)).trans (by simp [upd])
              have hu12 : u' 12 = x12 := (after_eq hu' (by kernel_rfl)).trans (by simp [upd])
              obtain ⟨k', e1, e2, e3, e4, -⟩ := hD.a12 h12
              obtain ⟨pn, cn, e6, -⟩ := hD.r10 (hD.o11 h11)
              have hs := hD.s13 (v' := undef) hun h11 h12 e6 e1
              have hv := hD.b11 h11 _ _ e6
              obtain rfl : x11 = _ := hu11.symm.trans hv
              obtain rfl : x12 = _ := hu12.symm.trans e1
              obtain ⟨d0, d1, d2, df⟩ := row3_cells (e4 (getD_tf hun))
              have ze := bsz e3
              clear e1 e2 e3 e4 e6 hv hu11 hu12 hu'
              (first | (go_simp; done) | (go_simp; exact hs))) ?_
            intro x13
            refine flowV_nil ?_
            intro L w4 hL hD
            obtain ⟨bk, pb, cb, e1, hbk, hbox, htm, hb4⟩ := hD.done (fun i hi => by simpa using hL i (by simpa using hi))
            obtain rfl : x12 = .pointer (some ⟨bk, 0, none⟩) := by simpa [upd] using e1
            have hz4 := hb4.size
            have HTM := Lib.hid htm
            have HB4 := Lib.hid hb4
            have HO4 := Lib.hid (HOQ.out.below hb4 (Nat.le_refl _))
            have hor4 := HO4.out.row
            rw [hnD] at hor4
            obtain ⟨n0, n1, n2, nf⟩ := row3_cells hbox
            have zn := bsz (blk_lt hbox)
            have HBW := Lib.hid (Below.step HBQ.out hb4)
            clear hL hD e1 htm hb4 q0 q1 q2
            go_wp2_with fail
            refine wp_region_any3 [none, some (.slice (some ⟨og, 0, none⟩) n n), some (.int .i64 (n : Nat)), some (.slice (some ⟨og, 0, none⟩) n n), none, some (.agg #[.bool l.pos, .string l.a.n, .slice pb l.a.us.length cb]), none, none, some (.slice (some ⟨og, 0, none⟩) n n), some (.int .i64 (n : Nat)), some (.slice (some ⟨og, 0, none⟩) 0 0), none, none] (InsD 57 3 w4 n (n + 1) (flatL (D.take n)) (flatL (D.drop n)) (#[.bool l.pos, .string l.a.n, .slice pb l.a.us.length cb])) (by kernel_rfl) (by kernel_rfl) (fun L hL => InsD.start hL) ?_
            refine flowV_ch rfl rfl (by intro u' hu' L w' hun hbe hD; go_simp; exact hD.b0 hun) ?_
            intro x0
            go_simp
            refine flowV_st rfl rfl (by intro u' L w' hun hbe hD; go_simp; first | exact ⟨hD.other 1 (by decide), rfl⟩ | exact hD.other 1 (by decide)) ?_
            go_simp
            refine flowV_st rfl rfl (by intro u' L w' hun hbe hD; go_simp; first | exact ⟨hD.other 2 (by decide), rfl⟩ | exact hD.other 2 (by decide)) ?_
            go_simp
            refine flowV_st rfl rfl (by intro u' L w' hun hbe hD; go_simp; first | exact ⟨hD.other 3 (by decide), rfl⟩ | exact hD.other 3 (by decide)) ?_
            go_simp
            refine flowV_ch rfl rfl ?_ ?_
            · intro u' hu' L w' hun hbe hD
              have hu0 : u' 0 = x0 := (after_eq hu' (by kernel_rfl)).trans (by simp [upd])
              have h0 := after_behind hbe (p := 0) (by kernel_rfl)
              have hw := hD.bel
              refine each_app (.tmp 60) (.tmp 63) 37 rfl w4.heap.size 57 3 48 elemLitI (u' 0) 0 [] (by rw [hu0]; rfl) _ n (flatL (D.take n)) rfl ((srcL_head hor4 (Nat.le_refl _) n).below hw) (hD.r0 h0 (getD_tf hun)) (by first | exact flatL_cell _ | simp) (by omega) (by unfold maxLen; omega) hw.size ?_
              intro v' w2 hr hg hn
              exact hD.a4 hun h0 hr hg hn
            intro x4
            go_simp
            refine flowV_st rfl rfl (by intro u' L w' hun hbe hD; have hw := hD.bel; have e0 := cellQ hw n0; have e1 := cellQ hw n1; have e2 := cellQ hw n2; have ze := bsz (World.block_lt_of_cell? _ _ e0); go_simp; first | exact ⟨hD.other 5 (by decide), rfl⟩ | exact hD.other 5 (by decide)) ?_
            go_simp
            refine flowV_ch rfl rfl (by intro u' hu' L w' hun hbe hD; go_simp; exact hD.b6 hun) ?_
            intro x6
            go_simp
            refine flowV_ch rfl rfl ?_ ?_
            · intro u' hu' L w' hun hbe hD
              have hu4 : u' 4 = x4 := (after_eq hu' (by kernel_rfl)).trans (by simp [upd])
              have hu6 : u' 6 = x6 := (after_eq hu' (by kernel_rfl)).trans (by simp [upd])
              have h4 := after_behind hbe (p := 4) (by kernel_rfl)
              have h6 := after_behind hbe (p := 6) (by kernel_rfl)
              have hw := hD.bel
              obtain ⟨q, hq, hqc, -, -⟩ := hD.r6 h6 (getD_tf hun)
              refine each_app (.tmp 64) (.tmp 66) 37 rfl w4.heap.size 57 3 48 elemLitI (u' 4) n (flatL (D.take n)) (by rw [hu4]; rfl) (.slice (some ⟨q, 0, none⟩) 1 1) 1 (#[.bool l.pos, .string l.a.n, .slice pb l.a.us.length cb]).toList (by rw [← hq, hu6]; rfl) (src_block hqc (by simp)) (hD.r4 h4 (getD_tf hun)) (by simp [Value.oneCell']) (by omega) (by unfold maxLen; omega) hw.size ?_
              intro v' w2 hr hg hn
              exact hD.a7 hun h4 h6 hr hg
            intro x7
            go_simp
            refine flowV_st rfl rfl (by intro u' L w' hun hbe hD; go_simp; first | exact ⟨hD.other 8 (by decide), rfl⟩ | exact hD.other 8 (by decide)) ?_
            go_simp
            refine flowV_st rfl rfl (by intro u' L w' hun hbe hD; go_simp; first | exact ⟨hD.other 9 (by decide), rfl⟩ | exact hD.other 9 (by decide)) ?_
            go_simp
            refine flowV_st rfl rfl (by intro u' L w' hun hbe hD; go_simp; first | exact ⟨hD.other 10 (by decide), rfl⟩ | exact hD.other 10 (by decide)) ?_
            go_simp
            refine flowV_ch rfl rfl ?_ ?_
            · intro u' hu' L w' hun hbe hD
              have hu7 : u' 7 = x7 := (after_eq hu' (by kernel_rfl)).trans (by simp [upd])
              have h7 := after_behind hbe (p := 7) (by kernel_rfl)
              have hw := hD.bel
              refine each_app (.tmp 67) (.tmp 70) 37 rfl w4.heap.size 57 3 48 elemLitI (u' 7) (n + 1) ((flatL (D.take n)) ++ (#[.bool l.pos, .string l.a.n, .slice pb l.a.us.length cb]).toList) (by rw [hu7]; rfl) _ ((n + 1) - (n + 1)) (flatL (D.drop n)) rfl (srcL_nil hnD) (hD.r7 h7 (getD_tf hun)) (by first | exact flatL_cell _ | simp) (by omega) (by unfold maxLen; omega) hw.size ?_
              intro v' w2 hr hg hn
              rw [show n + 1 + ((n + 1) - (n + 1)) = (n + 1) by omega] at hr
              exact hD.a11 hun h7 hr hg
            intro x11
            go_simp
            refine flowV_ch rfl rfl ?_ ?_
            · intro u' hu' L w' hun hbe hD
              have hu11 : u' 11 = x11 := (after_eq hu' (by kernel_rfl)).trans (by simp [upd])
              have h11 := after_behind hbe (p := 11) (by kernel_rfl)
              go_simp
              rw [← hu11]
              exact hD.m12 hun h11
            intro x12
            go_simp
            refine flowV_nil ?_
            intro L w3 hL hD
            have hx12 : x12 = x11 := by have := hD.r12 (by simpa using hL 12 (by simp)); simpa [upd] using this
            have hrow : w3.ownsRow w4.heap.size 57 3 x11 (n + 1) ((flatL (D.take n)) ++ (#[.bool l.pos, .string l.a.n, .slice pb l.a.us.length cb]).toList ++ (flatL (D.drop n))) := by have := hD.r11 (by simpa using hL 11 (by simp)); simpa [upd] using this
            have hbel3 := hD.bel
            subst hx12
            have hrow2 : w3.ownsRow w4.heap.size 57 3 x12 (n + 1) (flatL (D.take n ++ ⟨l, pb, cb⟩ :: D.drop n)) := by
              have e : flatL (D.take n ++ ⟨l, pb, cb⟩ :: D.drop n) = flatL (D.take n) ++ flatL [(⟨l, pb, cb⟩ : LC)] ++ flatL (D.drop n) := by rw [← flatL_app, ← flatL_app]; simp
              rw [e]; exact hrow
            obtain ⟨g', c', rfl⟩ := own_fst hrow2 (by omega)
            have HPUT := Lib.hid (HO4.out.put (j := n) (x := ⟨l, pb, cb⟩) ⟨_, _, rfl, TmAt.mono (SameOn.refl _ _) (fun b hb => ⟨by have := hb.1; omega, hb.2.1, by have := hb.1; omega⟩) 4 4 l.a _ (Nat.le_refl _) HTM.out⟩ hbel3 (by rw [hnD]; exact hrow2) (by omega) (by omega) (by omega))
            have HBZ := Lib.hid (Below.step HBW.out hbel3)
            have hlen : (D.take n ++ (⟨l, pb, cb⟩ : LC) :: D.drop n).length = D.length + 1 := by
              have := congrArg List.length (List.take_append_drop n D)
              rw [List.length_append] at this
              rw [List.length_append, List.length_cons]; omega
            have HLE := Lib.hid hlen
            clear hrow hrow2 hbel3 hlen
            go_wp2
            refine ⟨⟨k + 1, g', c', n + 1, D.take n ++ ⟨l, pb, cb⟩ :: D.drop n, by omega, by go_num, rfl, by rw [HLE.out, hnD], HPUT.out, by omega, ?_, HBZ.out⟩, by simp [intOf]; omega⟩
            intro y hy
            rcases List.mem_append.1 hy with hy | hy
            · exact HMEM.out y (List.mem_of_mem_take hy)
            · rcases List.mem_cons.1 hy with rfl | hy
              · exact HLM.out
              · exact HMEM.out y (List.mem_of_mem_drop hy)
          · have hcm : oc ≠ n := fun e => hck e.symm
            go_wp2
            obtain ⟨C, HC0⟩ := class_of (InF wr.heap.size _ [] [] [])
            have HC := Lib.hid HC0
            clear HC0
            refine wp_region_flow (C := C) (by kernel_rfl) (by kernel_rfl) (fun L hL => (HC.out _ _).2 (InF.start (by first | (intro _ hs; cases hs; done) | (simp only [List.forall_mem_cons]; go_simp)) (by first | (intro _ hs; cases hs; done) | (simp only [List.forall_mem_cons]; go_simp)) (by first | (intro _ hs; cases hs; done) | (simp only [List.forall_mem_cons]; go_simp)) (by first | (intro _ hs; cases hs; done) | (simp only [List.forall_mem_cons]; go_simp)) L hL)) ?_
            repeat (first | ((first | apply flow_free rfl | (apply flow_yes; (case hw => go_simp))); (intro L w' hun hrd hC; have hC := (HC.out _ _).1 hC; have hb' := hC.below; have hf' := hC.cell; (try simp only [List.forall_mem_cons] at hf'); go_simp; first | exact ⟨(HC.out _ _).2 (hC.skip _ (by rfl)), rfl⟩ | (rw [if_neg]; (exact ⟨(HC.out _ _).2 (hC.skip _ (by rfl)), rfl⟩); omega) | fail); go_simp) | (apply flow_no; (case hw => (go_simp; try (intro hh; cases hh))); (intro L w' _ _ hC; exact (HC.out _ _).2 (((HC.out _ _).1 hC).skip _ (by rfl))); go_simp))
            refine flow_nil ?_
            intro L wz hL hz
            have hz := (HC.out _ _).1 hz
            have hbz := hz.below
            have hcz := hz.cell
            try simp only [List.forall_mem_cons] at hcz
            have hdz := hz.done
            try simp only [List.forall_mem_cons] at hdz
            (try have hwz : Below w.heap.size w wz := by first | exact Below.trans (by (repeat (first | with_reducible (first | exact bR _ _ | assumption | refine bA ?_ _ | refine bS ?_ (by first | exact Nat.le_refl _ | (simp; done) | (simp; omega)) _) | assumption | exact bR _ _ | refine bD ?_ | refine bN ?_ _ | refine bT ?_ (by assumption)))) hbz | ((repeat (first | with_reducible (first | exact bR _ _ | assumption | refine bA ?_ _ | refine bS ?_ (by first | exact Nat.le_refl _ | (simp; done) | (simp; omega)) _) | assumption | exact bR _ _ | refine bD ?_ | refine bN ?_ _ | refine bT ?_ (by assumption))); done))
            obtain ⟨wa, hwa⟩ : ∃ q, q = wz := ⟨_, rfl⟩
            subst hwa
            have hba := hbz
            have HBA := Lib.hid (Below.step HBR.out hba)
            have hza := hba.size
            replace q0 := cellQ hba q0
            replace q1 := cellQ hba q1
            replace q2 := cellQ hba q2
            have zb := bsz (World.block_lt_of_cell? _ _ q0)
            have HOA := Lib.hid (HOM.out.below hba (Nat.le_refl _))
            have HLA := Lib.hid (LitAt.below hba HLR.out)
            have zog := bsz (show og < wa.heap.size from own_lt' HOA.out.row rfl)
            clear hz hcz hdz hbz
            clear hba
            go_wp2
            obtain ⟨C, HC0⟩ := class_of (InF wa.heap.size _ [] [] [])
            have HC := Lib.hid HC0
            clear HC0
            refine wp_region_flow (C := C) (by kernel_rfl) (by kernel_rfl) (fun L hL => (HC.out _ _).2 (InF.start (by first | (intro _ hs; cases hs; done) | (simp only [List.forall_mem_cons]; go_simp)) (by first | (intro _ hs; cases hs; done) | (simp only [List.forall_mem_cons]; go_simp)) (by first | (intro _ hs; cases hs; done) | (simp only [List.forall_mem_cons]; go_simp)) (by first | (intro _ hs; cases hs; done) | (simp only [List.forall_mem_cons]; go_simp)) L hL)) ?_
            repeat (first | ((first | apply flow_free rfl | (apply flow_yes; (case hw => go_simp))); (intro L w' hun hrd hC; have hC := (HC.out _ _).1 hC; have hb' := hC.below; have hf' := hC.cell; (try simp only [List.forall_mem_cons] at hf'); go_simp; first | exact ⟨(HC.out _ _).2 (hC.skip _ (by rfl)), rfl⟩ | (rw [if_neg]; (exact ⟨(HC.out _ _).2 (hC.skip _ (by rfl)), rfl⟩); omega) | fail); go_simp) | (apply flow_no; (case hw => (go_simp; try (intro hh; cases hh))); (intro L w' _ _ hC; exact (HC.out _ _).2 (((HC.out _ _).1 hC).skip _ (by rfl))); go_simp))
            refine flow_nil ?_
            intro L wz hL hz
            have hz := (HC.out _ _).1 hz
            have hbz := hz.below
            have hcz := hz.cell
            try simp only [List.forall_mem_cons] at hcz
            have hdz := hz.done
            try simp only [List.forall_mem_cons] at hdz
            (try have hwz : Below w.heap.size w wz := by first | exact Below.trans (by (repeat (first | with_reducible (first | exact bR _ _ | assumption | refine bA ?_ _ | refine bS ?_ (by first | exact Nat.le_refl _ | (simp; done) | (simp; omega)) _) | assumption | exact bR _ _ | refine bD ?_ | refine bN ?_ _ | refine bT ?_ (by assumption)))) hbz | ((repeat (first | with_reducible (first | exact bR _ _ | assumption | refine bA ?_ _ | refine bS ?_ (by first | exact Nat.le_refl _ | (simp; done) | (simp; omega)) _) | assumption | exact bR _ _ | refine bD ?_ | refine bN ?_ _ | refine bT ?_ (by assumption))); done))
            obtain ⟨wq, hwq⟩ : ∃ q, q = wz := ⟨_, rfl⟩
            subst hwq
            have hbq := hbz
            have HBQ := Lib.hid (Below.step HBA.out hbq)
            have hqq := hbq.size
            replace q0 := cellQ hbq q0
            replace q1 := cellQ hbq q1
            replace q2 := cellQ hbq q2
            have zb := bsz (World.block_lt_of_cell? _ _ q0)
            have HOQ := Lib.hid (HOA.out.below hbq (Nat.le_refl _))
            have HLQ := Lib.hid (LitAt.below hbq HLA.out)
            have HTQ := Lib.hid (show TmAt (fun _ => True) 4 wq l.a [.string l.a.n, .slice pa l.a.us.length ca] from by obtain ⟨_, _, e, h⟩ := HLQ.out; simp only [List.cons.injEq, and_true, true_and] at e; obtain ⟨rfl, rfl⟩ := e; exact h)
            have zog := bsz (show og < wq.heap.size from own_lt' HOQ.out.row rfl)
            clear hz hcz hdz hbz
            clear hbq
            go_wp2_with fail
            refine wp_region_any3 [some (.slice (some ⟨b, o, none⟩) xs.length c), some (.int .i64 (k : Nat)), some (.pointer (some ⟨b, o + k * 3, none⟩)), some (.pointer (some ⟨b, o + k * 3, none⟩)), some (.bool l.pos), some (.slice (some ⟨b, o, none⟩) xs.length c), some (.int .i64 (k : Nat)), some (.pointer (some ⟨b, o + k * 3, none⟩)), some (.pointer (some ⟨b, o + k * 3 + 1, none⟩)), some (.agg #[.string l.a.n, .slice pa l.a.us.length ca]), none, none, none, none] (MkD 57 4 wq l.pos l.a) (by kernel_rfl) (by kernel_rfl) (fun L hL => MkD.start hL) ?_
            refine flowV_st rfl rfl (by intro u' L w' hun hbe hD; go_simp; first | exact ⟨hD.other 0 (by decide), rfl⟩ | exact hD.other 0 (by decide)) ?_
            go_simp
            refine flowV_st rfl rfl (by intro u' L w' hun hbe hD; go_simp; first | exact ⟨hD.other 1 (by decide), rfl⟩ | exact hD.other 1 (by decide)) ?_
            go_simp
            refine flowV_st rfl rfl (by intro u' L w' hun hbe hD; go_simp; first | exact ⟨hD.other 2 (by decide), rfl⟩ | exact hD.other 2 (by decide)) ?_
            go_simp
            refine flowV_st rfl rfl (by intro u' L w' hun hbe hD; go_simp; first | exact ⟨hD.other 3 (by decide), rfl⟩ | exact hD.other 3 (by decide)) ?_
            go_simp
            refine flowV_st rfl rfl (by intro u' L w' hun hbe hD; have hw' := hD.bel; have e0 := cellQ hw' q0; have ze := bsz (World.block_lt_of_cell? _ _ e0); go_simp; first | exact ⟨hD.other 4 (by decide), rfl⟩ | exact hD.other 4 (by decide)) ?_
            go_simp
            refine flowV_st rfl rfl (by intro u' L w' hun hbe hD; go_simp; first | exact ⟨hD.other 5 (by decide), rfl⟩ | exact hD.other 5 (by decide)) ?_
            go_simp
            refine flowV_st rfl rfl (by intro u' L w' hun hbe hD; go_simp; first | exact ⟨hD.other 6 (by decide), rfl⟩ | exact hD.other 6 (by decide)) ?_
            go_simp
            refine flowV_st rfl rfl (by intro u' L w' hun hbe hD; go_simp; first | exact ⟨hD.other 7 (by decide), rfl⟩ | exact hD.other 7 (by decide)) ?_
            go_simp
            refine flowV_st rfl rfl (by intro u' L w' hun hbe hD; go_simp; first | exact ⟨hD.other 8 (by decide), rfl⟩ | exact hD.other 8 (by decide)) ?_
            go_simp
            refine flowV_st rfl rfl (by intro u' L w' hun hbe hD; have hw' := hD.bel; have e0 := cellQ hw' q1; have e1 := cellQ hw' q2; have ze := bsz (World.block_lt_of_cell? _ _ e0); go_simp; first | exact ⟨hD.other 9 (by decide), rfl⟩ | exact hD.other 9 (by decide)) ?_
            go_simp
            refine flowV_ch rfl rfl (by
              intro u' hu' L w' hun hbe hD
              go_simp
              refine (l2Own_any 4 l.a _ _ w' (TmAt.below hD.bel HTQ.out) (by omega)).mono ?_
              rintro e w'' ⟨u0, u1, he, hO, hb'⟩
              obtain ⟨pn, cn, rfl, rfl, -⟩ := hO.form
              exact ⟨_, he, hD.c10 hun hO.at_ hb'⟩) ?_
            intro x10
            go_simp
            refine flowV_ch rfl rfl (by
              intro u' hu' L w' hun hbe hD
              have h10 := after_behind hbe (p := 10) (by kernel_rfl)
              have hu10 : u' 10 = x10 := (after_eq hu' (by kernel_rfl)).trans (by simp [upd])
              obtain ⟨pn, cn, e1, -⟩ := hD.r10 h10
              have hm := hD.m11 hun h10 e1
              obtain rfl : x10 = _ := hu10.symm.trans e1
              (first | (go_simp; done) | (go_simp; exact hm))) ?_
            intro x11
            go_simp
            refine flowV_ch rfl rfl (by intro u' hu' L w' hun hbe hD; go_simp; exact hD.a12' hun) ?_
            intro x12
            go_simp
            refine flowV_ch rfl rfl (by
              intro u' hu' L w' hun hbe hD
              have h11 := after_behind hbe (p := 11) (by kernel_rfl)
              have h12 := after_behind hbe (p := 12) (by kernel_rfl)
              have hu11 : u' 11 = x11 := (after_eq hu' (by kernel_rfl)).trans (by simp [upd])
              have hu12 : u' 12 = x12 := (after_eq hu' (by kernel_rfl)).trans (by simp [upd])
              obtain ⟨k', e1, e2, e3, e4, -⟩ := hD.a12 h12
              obtain ⟨pn, cn, e6, -⟩ := hD.r10 (hD.o11 h11)
              have hs := hD.s13 (v' := undef) hun h11 h12 e6 e1
              have hv := hD.b11 h11 _ _ e6
              obtain rfl : x11 = _ := hu11.symm.trans hv
              obtain rfl : x12 = _ := hu12.symm.trans e1
              obtain ⟨d0, d1, d2, df⟩ := row3_cells (e4 (getD_tf hun))
              have ze := bsz e3
              clear e1 e2 e3 e4 e6 hv hu11 hu12 hu'
              (first | (go_simp; done) | (go_simp; exact hs))) ?_
            intro x13
            refine flowV_nil ?_
            intro L w4 hL hD
            obtain ⟨bk, pb, cb, e1, hbk, hbox, htm, hb4⟩ := hD.done (fun i hi => by simpa using hL i (by simpa using hi))
            obtain rfl : x12 = .pointer (some ⟨bk, 0, none⟩) := by simpa [upd] using e1
            have hz4 := hb4.size
            have HTM := Lib.hid htm
            have HB4 := Lib.hid hb4
            have HO4 := Lib.hid (HOQ.out.below hb4 (Nat.le_refl _))
            have hor4 := HO4.out.row
            rw [hnD] at hor4
            obtain ⟨n0, n1, n2, nf⟩ := row3_cells hbox
            have zn := bsz (blk_lt hbox)
            have HBW := Lib.hid (Below.step HBQ.out hb4)
            clear hL hD e1 htm hb4 q0 q1 q2
            go_wp2_with fail
            refine wp_region_any3 [none, some (.slice (some ⟨og, 0, none⟩) n oc), some (.int .i64 (n : Nat)), some (.slice (some ⟨og, 0, none⟩) n oc), none, some (.agg #[.bool l.pos, .string l.a.n, .slice pb l.a.us.length cb]), none, none, some (.slice (some ⟨og, 0, none⟩) n oc), some (.int .i64 (n : Nat)), some (.slice (some ⟨og, n * 3, none⟩) 0 (oc - n)), none, none] (InsD 57 3 w4 n (n + 1) (flatL (D.take n)) (flatL (D.drop n)) (#[.bool l.pos, .string l.a.n, .slice pb l.a.us.length cb])) (by kernel_rfl) (by kernel_rfl) (fun L hL => InsD.start hL) ?_
            refine flowV_ch rfl rfl (by intro u' hu' L w' hun hbe hD; go_simp; exact hD.b0 hun) ?_
            intro x0
            go_simp
            refine flowV_st rfl rfl (by intro u' L w' hun hbe hD; go_simp; first | exact ⟨hD.other 1 (by decide), rfl⟩ | exact hD.other 1 (by decide)) ?_
            go_simp
            refine flowV_st rfl rfl (by intro u' L w' hun hbe hD; go_simp; first | exact ⟨hD.other 2 (by decide), rfl⟩ | exact hD.other 2 (by decide)) ?_
            go_simp
            refine flowV_st rfl rfl (by intro u' L w' hun hbe hD; go_simp; first | exact ⟨hD.other 3 (by decide), rfl⟩ | exact hD.other 3 (by decide)) ?_
            go_simp
            refine flowV_ch rfl rfl ?_ ?_
            · intro u' hu' L w' hun hbe hD
              have hu0 : u' 0 = x0 := (after_eq hu' (by kernel_rfl)).trans (by simp [upd])
              have h0 := after_behind hbe (p := 0) (by kernel_rfl)
              have hw := hD.bel
              refine each_app (.tmp 60) (.tmp 63) 37 rfl w4.heap.size 57 3 48 elemLitI (u' 0) 0 [] (by rw [hu0]; rfl) _ n (flatL (D.take n)) rfl ((srcL_head hor4 (Nat.le_refl _) oc).below hw) (hD.r0 h0 (getD_tf hun)) (by first | exact flatL_cell _ | simp) (by omega) (by unfold maxLen; omega) hw.size ?_
              intro v' w2 hr hg hn
              exact hD.a4 hun h0 hr hg hn
            intro x4
            go_simp
            refine flowV_st rfl rfl (by intro u' L w' hun hbe hD; have hw := hD.bel; have e0 := cellQ hw n0; have e1 := cellQ hw n1; have e2 := cellQ hw n2; have ze := bsz (World.block_lt_of_cell? _ _ e0); go_simp; first | exact ⟨hD.other 5 (by decide), rfl⟩ | exact hD.other 5 (by decide)) ?_
            go_simp
            refine flowV_ch rfl rfl (by intro u' hu' L w' hun hbe hD; go_simp; exact hD.b6 hun) ?_
            intro x6
            go_simp
            refine flowV_ch rfl rfl ?_ ?_
            · intro u' hu' L w' hun hbe hD
              have hu4 : u' 4 = x4 := (after_eq hu' (by kernel_rfl)).trans (by simp [upd])
              have hu6 : u' 6 = x6 := (after_eq hu' (by kernel_rfl)).trans (by simp [upd])
              have h4 := after_behind hbe (p := 4) (by kernel_rfl)
              have h6 := after_behind hbe (p := 6) (by kernel_rfl)
              have hw := hD.bel
              obtain ⟨q, hq, hqc, -, -⟩ := hD.r6 h6 (getD_tf hun)
              refine each_app (.tmp 64) (.tmp 66) 37 rfl w4.heap.size 57 3 48 elemLitI (u' 4) n (flatL (D.take n)) (by rw [hu4]; rfl) (.slice (some ⟨q, 0, none⟩) 1 1) 1 (#[.bool l.pos, .string l.a.n, .slice pb l.a.us.length cb]).toList (by rw [← hq, hu6]; rfl) (src_block hqc (by simp)) (hD.r4 h4 (getD_tf hun)) (by simp [Value.oneCell']) (by omega) (by unfold maxLen; omega) hw.size ?_
              intro v' w2 hr hg hn
              exact hD.a7 hun h4 h6 hr hg
            intro x7
            go_simp
            refine flowV_st rfl rfl (by intro u' L w' hun hbe hD; go_simp; first | exact ⟨hD.other 8 (by decide), rfl⟩ | exact hD.other 8 (by decide)) ?_
            go_simp
            refine flowV_st rfl rfl (by intro u' L w' hun hbe hD; go_simp; first | exact ⟨hD.other 9 (by decide), rfl⟩ | exact hD.other 9 (by decide)) ?_
            go_simp
            refine flowV_st rfl rfl (by intro u' L w' hun hbe hD; go_simp; first | exact ⟨hD.other 10 (by decide), rfl⟩ | exact hD.other 10 (by decide)) ?_
            go_simp
            refine flowV_ch rfl rfl ?_ ?_
            · intro u' hu' L w' hun hbe hD
              have hu7 : u' 7 = x7 := (after_eq hu' (by kernel_rfl)).trans (by simp [upd])
              have h7 := after_behind hbe (p := 7) (by kernel_rfl)
              have hw := hD.bel
              refine each_app (.tmp 67) (.tmp 70) 37 rfl w4.heap.size 57 3 48 elemLitI (u' 7) (n + 1) ((flatL (D.take n)) ++ (#[.bool l.pos, .string l.a.n, .slice pb l.a.us.length cb]).toList) (by rw [hu7]; rfl) _ ((n + 1) - (n + 1)) (flatL (D.drop n)) rfl (srcL_nil hnD) (hD.r7 h7 (getD_tf hun)) (by first | exact flatL_cell _ | simp) (by omega) (by unfold maxLen; omega) hw.size ?_
              intro v' w2 hr hg hn
              rw [show n + 1 + ((n + 1) - (n + 1)) = (n + 1) by omega] at hr
              exact hD.a11 hun h7 hr hg
            intro x11
            go_simp
            refine flowV_ch rfl rfl ?_ ?_
            · intro u' hu' L w' hun hbe hD
              have hu11 : u' 11 = x11 := (after_eq hu' (by kernel_rfl)).trans (by simp [upd])
              have h11 := after_behind hbe (p := 11) (by kernel_rfl)
              go_simp
              rw [← hu11]
              exact hD.m12 hun h11
            intro x12
            go_simp
            refine flowV_nil ?_
            intro L w3 hL hD
            have hx12 : x12 = x11 := by have := hD.r12 (by simpa using hL 12 (by simp)); simpa [upd] using this
            have hrow : w3.ownsRow w4.heap.size 57 3 x11 (n + 1) ((flatL (D.take n)) ++ (#[.bool l.pos, .string l.a.n, .slice pb l.a.us.length cb]).toList ++ (flatL (D.drop n))) := by have := hD.r11 (by simpa using hL 11 (by simp)); simpa [upd] using this
            have hbel3 := hD.bel
            subst hx12
            have hrow2 : w3.ownsRow w4.heap.size 57 3 x12 (n + 1) (flatL (D.take n ++ ⟨l, pb, cb⟩ :: D.drop n)) := by
              have e : flatL (D.take n ++ ⟨l, pb, cb⟩ :: D.drop n) = flatL (D.take n) ++ flatL [(⟨l, pb, cb⟩ : LC)] ++ flatL (D.drop n) := by rw [← flatL_app, ← flatL_app]; simp
              rw [e]; exact hrow
            obtain ⟨g', c', rfl⟩ := own_fst hrow2 (by omega)
            have HPUT := Lib.hid (HO4.out.put (j := n) (x := ⟨l, pb, cb⟩) ⟨_, _, rfl, TmAt.mono (SameOn.refl _ _) (fun b hb => ⟨by have := hb.1; omega, hb.2.1, by have := hb.1; omega⟩) 4 4 l.a _ (Nat.le_refl _) HTM.out⟩ hbel3 (by rw [hnD]; exact hrow2) (by omega) (by omega) (by omega))
            have HBZ := Lib.hid (Below.step HBW.out hbel3)
            have hlen : (D.take n ++ (⟨l, pb, cb⟩ : LC) :: D.drop n).length = D.length + 1 := by
              have := congrArg List.length (List.take_append_drop n D)
              rw [List.length_append] at this
              rw [List.length_append, List.length_cons]; omega
            have HLE := Lib.hid hlen
            clear hrow hrow2 hbel3 hlen
            go_wp2
            refine ⟨⟨k + 1, g', c', n + 1, D.take n ++ ⟨l, pb, cb⟩ :: D.drop n, by omega, by go_num, rfl, by rw [HLE.out, hnD], HPUT.out, by omega, ?_, HBZ.out⟩, by simp [intOf]; omega⟩
            intro y hy
            rcases List.mem_append.1 hy with hy | hy
            · exact HMEM.out y (List.mem_of_mem_take hy)
            · rcases List.mem_cons.1 hy with rfl | hy
              · exact HLM.out
              · exact HMEM.out y (List.mem_of_mem_drop hy)
    · obtain rfl : k = xs.length := by omega
      have hki : ¬ (xs.length : Int) < xs.length := by omega
      have r0 : wr.cell? ⟨w.heap.size, 0, none⟩ = some (.slice none 0 0) := by rw [cell_of_row wr _ 0 _ _ (0, 0) ((HB.out.block _ (by omega)).trans HBX.out)]; rfl
      have rf := frozen_of_row wr w.heap.size 0 _ _ ((HB.out.block _ (by omega)).trans HBX.out)
      have zr := bsz (show w.heap.size < wr.heap.size by omega)
      go_wp2
      subst hnD
      refine bodyPost_ret (v := .agg #[.slice (some ⟨og, 0, none⟩) D.length oc]) (by simp only [results, Tryz.results111]; go_simp) rfl ⟨og, oc, D, rfl, ?_, hDk, HMEM.out, ?_⟩
      · exact HO.out.sc (a := ⟨w.heap.size, 0, none⟩) (.inr rfl) _
      · have hb01 : Below w.heap.size w wr := Below.step hbW HB.out
        exact bel
end Go.Proofs.YtkgfanajgdelcaaGreat
