import Derived.Test.YtkgfanajgdelcaaGreatEnPart18
namespace Go.Proofs.YtkgfanajgdelcaaGreat
set_option maxRecDepth 100000
open Go.RowKit
theorem two_new {w W : World} {a b : Array Value} {t : TypeId} (h : W = (w.alloc (.cells a t)).alloc (.cells b t)) : W.heap.size = w.heap.size + 2 ∧ Below w.heap.size w W ∧ W.heap[w.heap.size]? = some (.cells a t (0, 0)) ∧ W.heap[w.heap.size + 1]? = some (.cells b t (0, 0)) := by
  subst h
  refine ⟨by simp, ((Below.refl _ _).alloc (Nat.le_refl _) _).alloc (by simp) _, (hao _ _ _ (by simp)).trans (heap_alloc_new w _), ?_⟩
  have := heap_alloc_new (w.alloc (.cells a t)) (.cells b t)
  simpa using this
theorem five_at {w : World} {g : Nat} {v0 v1 v2 v3 v4 : Value} {t : TypeId} (h : w.heap[g]? = some (.cells #[v0, v1, v2, v3, v4] t (0, 0))) :
    w.cell? ⟨g, 0, none⟩ = some v0 ∧ w.cell? ⟨g, 1, none⟩ = some v1 ∧ w.cell? ⟨g, 2, none⟩ = some v2 ∧ w.cell? ⟨g, 3, none⟩ = some v3 ∧ w.cell? ⟨g, 4, none⟩ = some v4 := by
  refine ⟨?_, ?_, ?_, ?_, ?_⟩
  · rw [cell_of_row w g 0 _ _ (0, 0) h]; rfl
  · rw [cell_of_row w g 1 _ _ (0, 0) h]; rfl
  · rw [cell_of_row w g 2 _ _ (0, 0) h]; rfl
  · rw [cell_of_row w g 3 _ _ (0, 0) h]; rfl
  · rw [cell_of_row w g 4 _ _ (0, 0) h]; rfl
set_option maxHeartbeats 3200000 in
theorem vTerms_same {B B' : Nat → Prop} : ∀ (m : Nat) (t : Tm) (v0 v1 u0 u1 : Value) (w : World), TmAt B m w t [v0, v1] → TmAt B' m w t [u0, u1] →
      Calls Tryz.prog 22 #[.agg #[v0, v1], .agg #[u0, u1]] w fun e w' => e = .returned (.bool true) ∧ Below w.heap.size w w' := by
  intro m
  induction m with
  | zero => intro t v0 v1 u0 u1 w h; exact h.elim
  | succ m ih =>
    rintro ⟨s, us⟩ v0 v1 u0 u1 w ⟨va, hcs, hs, hl⟩ ⟨va', hcs', hs', hl'⟩
    simp only [List.cons.injEq, and_true] at hcs hcs'
    obtain ⟨rfl, rfl⟩ := hcs
    obtain ⟨rfl, rfl⟩ := hcs'
    obtain ⟨p, c, rfl, hlen⟩ := hl.form
    obtain ⟨p', c', rfl, -⟩ := hl'.form
    unfold maxLen at hlen
    have HL := Lib.hid hl
    have HL' := Lib.hid hl'
    have IH := Lib.hid ih
    clear ih hl hl' hs hs'
    go_enter Tryz.func22, Tryz.ntmps22
    go_wp2
    obtain ⟨W, hW⟩ : ∃ W : World, W = (w.alloc (.cells #[.string s, .slice p us.length c] 26)).alloc (.cells #[.string s, .slice p' us.length c'] 26) := ⟨_, rfl⟩
    obtain ⟨hsW, hbW, A0, A1⟩ := two_new hW
    rw [← hW]
    clear hW
    have HLW := Lib.hid (HL.out.mono (SameOn.below hbW) (fun _ h => h) (fun x cs _ hx => TmAt.below hbW hx))
    have HLW' := Lib.hid (HL'.out.mono (SameOn.below hbW) (fun _ h => h) (fun x cs _ hx => TmAt.below hbW hx))
    go_loopw [5] (fun i wr => ∃ k : Nat, k ≤ us.length ∧ i = .int .i64 k ∧ Below W.heap.size W wr) (fun i _ => us.length - (intOf i).toNat)
    case atStart => exact ⟨0, Nat.zero_le _, rfl, Below.refl _ _⟩
    case round =>
      obtain ⟨k, hk, rfl, hb⟩ := hrel
      have hqr := hb.size
      have hwr : Below w.heap.size w wr := hbW.trans (hb.mono hbW.size)
      obtain ⟨a0, a1, af⟩ := cells2_cell ((hb.block _ (by omega)).trans A0)
      obtain ⟨b0, b1, bf⟩ := cells2_cell ((hb.block _ (by omega)).trans A1)
      have za := bsz (show w.heap.size < wr.heap.size by omega)
      have zb := bsz (show w.heap.size + 1 < wr.heap.size by omega)
      by_cases hlt : k < us.length
      · have hlti : (k : Int) < us.length := by omega
        obtain ⟨b, o, rfl, hB, x0, x1, hx0, hx1, hx⟩ := (HLW.out.mono (SameOn.below hb) (fun _ h => h) (fun x cs _ hx => TmAt.below hb hx)).at2 hlt
        obtain ⟨b', o', rfl, hB', y0, y1, hy0, hy1, hy⟩ := (HLW'.out.mono (SameOn.below hb) (fun _ h => h) (fun x cs _ hx => TmAt.below hb hx)).at2 hlt
        obtain ⟨a, ha⟩ : ∃ a, us[k] = a := ⟨_, rfl⟩
        rw [ha] at hx hy
        have HX := Lib.hid hx
        have HY := Lib.hid hy
        clear hx hy ha
        go_wp2
        obtain ⟨C, HC0⟩ := class_of (InF wr.heap.size _ [(⟨w.heap.size, 1, none⟩, .slice (some ⟨b, o, none⟩) us.length c), (⟨w.heap.size + 1, 1, none⟩, .slice (some ⟨b', o', none⟩) us.length c'), (⟨b, o + k * 2, none⟩, x0), (⟨b, o + k * 2 + 1, none⟩, x1), (⟨b', o' + k * 2, none⟩, y0), (⟨b', o' + k * 2 + 1, none⟩, y1)] [] [])
        have HC := Lib.hid HC0
        clear HC0
        refine wp_region_flow (C := C) (by kernel_rfl) (by kernel_rfl) (fun L hL => (HC.out _ _).2 (InF.start (by first | (intro _ hs; cases hs; done) | (simp only [List.forall_mem_cons]; go_simp)) (by first | (intro _ hs; cases hs; done) | (simp only [List.forall_mem_cons]; go_simp)) (by first | (intro _ hs; cases hs; done) | (simp only [List.forall_mem_cons]; go_simp)) (by first | (intro _ hs; cases hs; done) | (simp only [List.forall_mem_cons]; go_simp)) L hL)) ?_
        repeat (first | ((first | apply flow_free rfl | (apply flow_yes; (case hw => go_simp))); (intro L w' hun hrd hC; have hC := (HC.out _ _).1 hC; have hb' := hC.below; (try have hw' : Below w.heap.size w w' := by first | exact Below.trans (by (repeat (first | with_reducible (first | exact bR _ _ | assumption | refine bA ?_ _ | refine bS ?_ (by first | exact Nat.le_refl _ | (simp; done) | (simp; omega)) _) | assumption | exact bR _ _ | refine bD ?_ | refine bN ?_ _ | refine bT ?_ (by assumption)))) hb' | ((repeat (first | with_reducible (first | exact bR _ _ | assumption | refine bA ?_ _ | refine bS ?_ (by first | exact Nat.le_refl _ | (simp; done) | (simp; omega)) _) | assumption | exact bR _ _ | refine bD ?_ | refine bN ?_ _ | refine bT ?_ (by assumption))); done)); have hf' := hC.cell; (try simp only [List.forall_mem_cons] at hf'); go_simp; first | exact ⟨(HC.out _ _).2 (hC.skip _ (by rfl)), rfl⟩ | (rw [if_neg]; (exact ⟨(HC.out _ _).2 (hC.skip _ (by rfl)), rfl⟩); omega) | (go_at_call 22; refine (IH.out a x0 x1 y0 y1 _ (HX.out.below hb') (HY.out.below hb')).mono ?_; rintro e w1 ⟨rfl, hb1⟩; exact ⟨rfl, (HC.out _ _).2 ((hC.next (by first | (simp; done) | (simp; omega) | omega) hb1).skip _ (by rfl))⟩)); go_simp) | (apply flow_no; (case hw => (go_simp; try (intro hh; cases hh))); (intro L w' _ _ hC; exact (HC.out _ _).2 (((HC.out _ _).1 hC).skip _ (by rfl))); go_simp))
        refine flow_nil ?_
        intro L wz hL hz
        have hz := (HC.out _ _).1 hz
        have hbz := hz.below
        have hcz := hz.cell
        try simp only [List.forall_mem_cons] at hcz
        have hdz := hz.done
        try simp only [List.forall_mem_cons] at hdz
        (try have hwz : Below w.heap.size w wz := by first | exact Below.trans (by (repeat (first | with_reducible (first | exact bR _ _ | assumption | refine bA ?_ _ | refine bS ?_ (by first | exact Nat.le_refl _ | (simp; done) | (simp; omega)) _) | assumption | exact bR _ _ | refine bD ?_ | refine bN ?_ _ | refine bT ?_ (by assumption)))) hbz | ((repeat (first | with_reducible (first | exact bR _ _ | assumption | refine bA ?_ _ | refine bS ?_ (by first | exact Nat.le_refl _ | (simp; done) | (simp; omega)) _) | assumption | exact bR _ _ | refine bD ?_ | refine bN ?_ _ | refine bT ?_ (by assumption))); done))
        go_wp2
        refine ⟨⟨k + 1, by omega, by go_num, Below.step hb hbz⟩, by simp [intOf]; omega⟩
      · obtain rfl : k = us.length := by omega
        go_wp2
        go_ret
        exact ⟨rfl, hwr⟩
set_option maxHeartbeats 3200000 in
theorem vFormulas_same {B B' : Nat → Prop} : ∀ (m : Nat) (t : Fm) (v0 v1 v2 v3 v4 u0 u1 u2 u3 u4 : Value) (w : World), FmAt B m w t [v0, v1, v2, v3, v4] → FmAt B' m w t [u0, u1, u2, u3, u4] →
      Calls Tryz.prog 9 #[.agg #[v0, v1, v2, v3, v4], .agg #[u0, u1, u2, u3, u4]] w fun e w' => e = .returned (.bool true) ∧ Below w.heap.size w w' := by
  intro m
  induction m with
  | zero => intro t v0 v1 v2 v3 v4 u0 u1 u2 u3 u4 w h; exact h.elim
  | succ m ih =>
    rintro ⟨op, t, x, ps⟩ v0 v1 v2 v3 v4 u0 u1 u2 u3 u4 w ⟨vn, va, vp, hcs, hop, hs, ht, hl⟩ ⟨vn', va', vp', hcs', hop', hs', ht', hl'⟩
    simp only [List.cons.injEq, and_true] at hcs hcs'
    obtain ⟨rfl, rfl, rfl, rfl, rfl⟩ := hcs
    obtain ⟨rfl, rfl, rfl, rfl, rfl⟩ := hcs'
    obtain ⟨pa, ca, rfl, rfl, -⟩ := ht.form
    obtain ⟨pa', ca', rfl, rfl, -⟩ := ht'.form
    obtain ⟨p, c, rfl, hlen⟩ := hl.form
    obtain ⟨p', c', rfl, -⟩ := hl'.form
    unfold maxLen at hlen
    have HT := Lib.hid ht
    have HT' := Lib.hid ht'
    have HL := Lib.hid hl
    have HL' := Lib.hid hl'
    have IH := Lib.hid ih
    clear ih hl hl' ht ht' hs hs' hop hop'
    go_enter Tryz.func9, Tryz.ntmps9
    go_wp2_with fail
    obtain ⟨W, hW⟩ : ∃ W : World, W = (w.alloc (.cells #[.int .i64 op, .string t.n, .slice pa t.us.length ca, .string x, .slice p ps.length c] 29)).alloc (.cells #[.int .i64 op, .string t.n, .slice pa' t.us.length ca', .string x, .slice p' ps.length c'] 29) := ⟨_, rfl⟩
    obtain ⟨hsW, hbW, A0, A1⟩ := two_new hW
    rw [← hW]
    clear hW
    refine (vTerms_same m t _ _ _ _ W (TmAt.below hbW HT.out) (TmAt.below hbW HT'.out)).mono ?_
    rintro e w1 ⟨rfl, hb1⟩
    have hbw1 := Below.step hbW hb1
    have A0 := (hb1.block _ (by omega)).trans A0
    have A1 := (hb1.block _ (by omega)).trans A1
    have hz1 := hb1.size
    obtain ⟨a0, a1, a2, a3, a4⟩ := five_at A0
    obtain ⟨b0, b1, b2, b3, b4⟩ := five_at A1
    have za := bsz (show w.heap.size < w1.heap.size by omega)
    have zb := bsz (show w.heap.size + 1 < w1.heap.size by omega)
    have HLW := Lib.hid (HL.out.mono (SameOn.below hbw1) (fun _ h => h) (fun x cs _ hx => FmAt.below hbw1 hx))
    have HLW' := Lib.hid (HL'.out.mono (SameOn.below hbw1) (fun _ h => h) (fun x cs _ hx => FmAt.below hbw1 hx))
    go_wp2
    clear a0 a1 a2 a3 a4 b0 b1 b2 b3 b4 za zb
    go_loopw [5] (fun i wr => ∃ k : Nat, k ≤ ps.length ∧ i = .int .i64 k ∧ Below w1.heap.size w1 wr) (fun i _ => ps.length - (intOf i).toNat)
    case atStart => exact ⟨0, Nat.zero_le _, rfl, Below.refl _ _⟩
    case round =>
      obtain ⟨k, hk, rfl, hb⟩ := hrel
      have hqr := hb.size
      have hwr : Below w.heap.size w wr := hbw1.trans (hb.mono hbw1.size)
      obtain ⟨a0, a1, a2, a3, a4⟩ := five_at ((hb.block _ (by omega)).trans A0)
      obtain ⟨b0, b1, b2, b3, b4⟩ := five_at ((hb.block _ (by omega)).trans A1)
      have za := bsz (show w.heap.size < wr.heap.size by omega)
      have zb := bsz (show w.heap.size + 1 < wr.heap.size by omega)
      by_cases hlt : k < ps.length
      · have hlti : (k : Int) < ps.length := by omega
        obtain ⟨b, o, rfl, hB, x0, x1, x2, x3, x4, hx0, hx1, hx2, hx3, hx4, hx⟩ := (HLW.out.mono (SameOn.below hb) (fun _ h => h) (fun x cs _ hx => FmAt.below hb hx)).at5 hlt
        obtain ⟨b', o', rfl, hB', y0, y1, y2, y3, y4, hy0, hy1, hy2, hy3, hy4, hy⟩ := (HLW'.out.mono (SameOn.below hb) (fun _ h => h) (fun x cs _ hx => FmAt.below hb hx)).at5 hlt
        obtain ⟨a, ha⟩ : ∃ a, ps[k] = a := ⟨_, rfl⟩
        rw [ha] at hx hy
        have HX := Lib.hid hx
        have HY := Lib.hid hy
        clear hx hy ha
        go_wp2
        obtain ⟨C, HC0⟩ := class_of (InF wr.heap.size _ [(⟨w.heap.size, 4, none⟩, .slice (some ⟨b, o, none⟩) ps.length c), (⟨w.heap.size + 1, 4, none⟩, .slice (some ⟨b', o', none⟩) ps.length c'), (⟨b, o + k * 5, none⟩, x0), (⟨b, o + k * 5 + 1, none⟩, x1), (⟨b, o + k * 5 + 2, none⟩, x2), (⟨b, o + k * 5 + 3, none⟩, x3), (⟨b, o + k * 5 + 4, none⟩, x4), (⟨b', o' + k * 5, none⟩, y0), (⟨b', o' + k * 5 + 1, none⟩, y1), (⟨b', o' + k * 5 + 2, none⟩, y2), (⟨b', o' + k * 5 + 3, none⟩, y3), (⟨b', o' + k * 5 + 4, none⟩, y4)] [] [])
        have HC := Lib.hid HC0
        clear HC0
        refine wp_region_flow (C := C) (by kernel_rfl) (by kernel_rfl) (fun L hL => (HC.out _ _).2 (InF.start (by first | (intro _ hs; cases hs; done) | (simp only [List.forall_mem_cons]; go_simp)) (by first | (intro _ hs; cases hs; done) | (simp only [List.forall_mem_cons]; go_simp)) (by first | (intro _ hs; cases hs; done) | (simp only [List.forall_mem_cons]; go_simp)) (by first | (intro _ hs; cases hs; done) | (simp only [List.forall_mem_cons]; go_simp)) L hL)) ?_
        repeat (first | ((first | apply flow_free rfl | (apply flow_yes; (case hw => go_simp))); (intro L w' hun hrd hC; have hC := (HC.out _ _).1 hC; have hb' := hC.below; (try have hw' : Below w.heap.size w w' := by first | exact Below.trans (by (repeat (first | with_reducible (first | exact bR _ _ | assumption | refine bA ?_ _ | refine bS ?_ (by first | exact Nat.le_refl _ | (simp; done) | (simp; omega)) _) | assumption | exact bR _ _ | refine bD ?_ | refine bN ?_ _ | refine bT ?_ (by assumption)))) hb' | ((repeat (first | with_reducible (first | exact bR _ _ | assumption | refine bA ?_ _ | refine bS ?_ (by first | exact Nat.le_refl _ | (simp; done) | (simp; omega)) _) | assumption | exact bR _ _ | refine bD ?_ | refine bN ?_ _ | refine bT ?_ (by assumption))); done)); have hf' := hC.cell; (try simp only [List.forall_mem_cons] at hf'); go_simp; first | exact ⟨(HC.out _ _).2 (hC.skip _ (by rfl)), rfl⟩ | (rw [if_neg]; (exact ⟨(HC.out _ _).2 (hC.skip _ (by rfl)), rfl⟩); omega) | (go_at_call 9; refine (IH.out a _ _ _ _ _ _ _ _ _ _ _ (HX.out.below hb') (HY.out.below hb')).mono ?_; rintro e w1 ⟨rfl, hb1⟩; exact ⟨rfl, (HC.out _ _).2 ((hC.next (by first | (simp; done) | (simp; omega) | omega) hb1).skip _ (by rfl))⟩)); go_simp) | (apply flow_no; (case hw => (go_simp; try (intro hh; cases hh))); (intro L w' _ _ hC; exact (HC.out _ _).2 (((HC.out _ _).1 hC).skip _ (by rfl))); go_simp))
        refine flow_nil ?_
        intro L wz hL hz
        have hz := (HC.out _ _).1 hz
        have hbz := hz.below
        have hcz := hz.cell
        try simp only [List.forall_mem_cons] at hcz
        have hdz := hz.done
        try simp only [List.forall_mem_cons] at hdz
        (try have hwz : Below w.heap.size w wz := by first | exact Below.trans (by (repeat (first | with_reducible (first | exact bR _ _ | assumption | refine bA ?_ _ | refine bS ?_ (by first | exact Nat.le_refl _ | (simp; done) | (simp; omega)) _) | assumption | exact bR _ _ | refine bD ?_ | refine bN ?_ _ | refine bT ?_ (by assumption)))) hbz | ((repeat (first | with_reducible (first | exact bR _ _ | assumption | refine bA ?_ _ | refine bS ?_ (by first | exact Nat.le_refl _ | (simp; done) | (simp; omega)) _) | assumption | exact bR _ _ | refine bD ?_ | refine bN ?_ _ | refine bT ?_ (by assumption))); done))
        go_wp2
        refine ⟨⟨k + 1, by omega, by go_num, Below.step hb hbz⟩, by simp [intOf]; omega⟩
      · obtain rfl : k = ps.length := by omega
        go_wp2
        go_ret
        exact ⟨rfl, hwr⟩
set_option maxHeartbeats 3200000 in
theorem vClauses_same {B B' : Nat → Prop} (m : Nat) (c : List Lit3) (v u : Value) (w : World) (h : ClsAt B m w c v) (h' : ClsAt B' m w c u) :
      Calls Tryz.prog 14 #[.agg #[v], .agg #[u]] w fun e w' => e = .returned (.bool true) ∧ Below w.heap.size w w' := by
  obtain ⟨p, d, rfl, hlen⟩ := (show ListAt B w 3 (LitAt B m w) v c from h).form
  obtain ⟨p', d', rfl, -⟩ := (show ListAt B' w 3 (LitAt B' m w) u c from h').form
  unfold maxLen at hlen
  have H := Lib.hid (show ListAt B w 3 (LitAt B m w) (.slice p c.length d) c from h)
  have H' := Lib.hid (show ListAt B' w 3 (LitAt B' m w) (.slice p' c.length d') c from h')
  clear h h'
  go_enter Tryz.func14, Tryz.ntmps14
  go_wp2
  obtain ⟨W, hW⟩ : ∃ W : World, W = (w.alloc (.cells #[.slice p c.length d] 39)).alloc (.cells #[.slice p' c.length d'] 39) := ⟨_, rfl⟩
  obtain ⟨hsW, hbW, A0, A1⟩ := two_new hW
  rw [← hW]
  clear hW
  have HLW := Lib.hid (H.out.mono (SameOn.below hbW) (fun _ h => h) (fun x cs _ hx => LitAt.below hbW hx))
  have HLW' := Lib.hid (H'.out.mono (SameOn.below hbW) (fun _ h => h) (fun x cs _ hx => LitAt.below hbW hx))
  go_loopw [5] (fun i wr => ∃ k : Nat, k ≤ c.length ∧ i = .int .i64 k ∧ Below W.heap.size W wr) (fun i _ => c.length - (intOf i).toNat)
  case atStart => exact ⟨0, Nat.zero_le _, rfl, Below.refl _ _⟩
  case round =>
    obtain ⟨k, hk, rfl, hb⟩ := hrel
    have hqr := hb.size
    have hwr : Below w.heap.size w wr := hbW.trans (hb.mono hbW.size)
    have a0 : wr.cell? ⟨w.heap.size, 0, none⟩ = some (.slice p c.length d) := by rw [cell_of_row wr _ 0 _ _ (0, 0) ((hb.block _ (by omega)).trans A0)]; rfl
    have b0 : wr.cell? ⟨w.heap.size + 1, 0, none⟩ = some (.slice p' c.length d') := by rw [cell_of_row wr _ 0 _ _ (0, 0) ((hb.block _ (by omega)).trans A1)]; rfl
    have za := bsz (show w.heap.size < wr.heap.size by omega)
    have zb := bsz (show w.heap.size + 1 < wr.heap.size by omega)
    by_cases hlt : k < c.length
    · have hlti : (k : Int) < c.length := by omega
      obtain ⟨b, o, rfl, hB, x0, x1, x2, hx0, hx1, hx2, hx⟩ := (HLW.out.mono (SameOn.below hb) (fun _ h => h) (fun x cs _ hx => LitAt.below hb hx)).at3 hlt
      obtain ⟨b', o', rfl, hB', y0, y1, y2, hy0, hy1, hy2, hy⟩ := (HLW'.out.mono (SameOn.below hb) (fun _ h => h) (fun x cs _ hx => LitAt.below hb hx)).at3 hlt
      obtain ⟨l, hl⟩ : ∃ l, c[k] = l := ⟨_, rfl⟩
      rw [hl] at hx hy
      obtain ⟨q, e, rfl, rfl, rfl, hx⟩ := hx.form
      obtain ⟨q', e', rfl, rfl, rfl, hy⟩ := hy.form
      have HX := Lib.hid hx
      have HY := Lib.hid hy
      clear hx hy hl
      go_wp2
      obtain ⟨C, HC0⟩ := class_of (InF wr.heap.size _ [(⟨w.heap.size, 0, none⟩, .slice (some ⟨b, o, none⟩) c.length d), (⟨w.heap.size + 1, 0, none⟩, .slice (some ⟨b', o', none⟩) c.length d'), (⟨b, o + k * 3, none⟩, .bool l.pos), (⟨b, o + k * 3 + 1, none⟩, .string l.a.n), (⟨b, o + k * 3 + 2, none⟩, .slice q l.a.us.length e), (⟨b', o' + k * 3, none⟩, .bool l.pos), (⟨b', o' + k * 3 + 1, none⟩, .string l.a.n), (⟨b', o' + k * 3 + 2, none⟩, .slice q' l.a.us.length e')] [] [])
      have HC := Lib.hid HC0
      clear HC0
      refine wp_region_flow (C := C) (by kernel_rfl) (by kernel_rfl) (fun L hL => (HC.out _ _).2 (InF.start (by first | (intro _ hs; cases hs; done) | (simp only [List.forall_mem_cons]; go_simp)) (by first | (intro _ hs; cases hs; done) | (simp only [List.forall_mem_cons]; go_simp)) (by first | (intro _ hs; cases hs; done) | (simp only [List.forall_mem_cons]; go_simp)) (by first | (intro _ hs; cases hs; done) | (simp only [List.forall_mem_cons]; go_simp)) L hL)) ?_
      repeat (first | ((first | apply flow_free rfl | (apply flow_yes; (case hw => go_simp))); (intro L w' hun hrd hC; have hC := (HC.out _ _).1 hC; have hb' := hC.below; (try have hw' : Below w.heap.size w w' := by first | exact Below.trans (by (repeat (first | with_reducible (first | exact bR _ _ | assumption | refine bA ?_ _ | refine bS ?_ (by first | exact Nat.le_refl _ | (simp; done) | (simp; omega)) _) | assumption | exact bR _ _ | refine bD ?_ | refine bN ?_ _ | refine bT ?_ (by assumption)))) hb' | ((repeat (first | with_reducible (first | exact bR _ _ | assumption | refine bA ?_ _ | refine bS ?_ (by first | exact Nat.le_refl _ | (simp; done) | (simp; omega)) _) | assumption | exact bR _ _ | refine bD ?_ | refine bN ?_ _ | refine bT ?_ (by assumption))); done)); have hf' := hC.cell; (try simp only [List.forall_mem_cons] at hf'); go_simp; first | exact ⟨(HC.out _ _).2 (hC.skip _ (by rfl)), rfl⟩ | (rw [if_neg]; (exact ⟨(HC.out _ _).2 (hC.skip _ (by rfl)), rfl⟩); omega) | (go_at_call 22; refine (vTerms_same m l.a _ _ _ _ _ (HX.out.below hb') (HY.out.below hb')).mono ?_; rintro e w1 ⟨rfl, hb1⟩; exact ⟨rfl, (HC.out _ _).2 ((hC.next (by first | (simp; done) | (simp; omega) | omega) hb1).skip _ (by rfl))⟩)); go_simp) | (apply flow_no; (case hw => (go_simp; try (intro hh; cases hh))); (intro L w' _ _ hC; exact (HC.out _ _).2 (((HC.out _ _).1 hC).skip _ (by rfl))); go_simp))
      refine flow_nil ?_
      intro L wz hL hz
      have hz := (HC.out _ _).1 hz
      have hbz := hz.below
      have hcz := hz.cell
      try simp only [List.forall_mem_cons] at hcz
      have hdz := hz.done
      try simp only [List.forall_mem_cons] at hdz
      (try have hwz : Below w.heap.size w wz := by first | exact Below.trans (by (repeat (first | with_reducible (first | exact bR _ _ | assumption | refine bA ?_ _ | refine bS ?_ (by first | exact Nat.le_refl _ | (simp; done) | (simp; omega)) _) | assumption | exact bR _ _ | refine bD ?_ | refine bN ?_ _ | refine bT ?_ (by assumption)))) hbz | ((repeat (first | with_reducible (first | exact bR _ _ | assumption | refine bA ?_ _ | refine bS ?_ (by first | exact Nat.le_refl _ | (simp; done) | (simp; omega)) _) | assumption | exact bR _ _ | refine bD ?_ | refine bN ?_ _ | refine bT ?_ (by assumption))); done))
      go_wp2
      refine ⟨⟨k + 1, by omega, by go_num, Below.step hb hbz⟩, by simp [intOf]; omega⟩
    · obtain rfl : k = c.length := by omega
      go_wp2
      go_ret
      exact ⟨rfl, hwr⟩
end Go.Proofs.YtkgfanajgdelcaaGreat
