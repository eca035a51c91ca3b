import Derived.Test.YtmbkjdkjemlfkaaGreatDoorDfPart21
namespace Go.Proofs.YtmbkjdkjemlfkaaGreatDoor
set_option maxRecDepth 100000
open Go.RowKit
def DrwF (S : Nat → Prop) (n wt : Nat) (w' : World) (v : Value) : Prop := ∃ y : FC, v = .agg y.cs.toArray ∧ FmAt S n w' y.f y.cs ∧ y.f.wt ≤ wt
theorem drw_ret {g m k n wt : Nat} {w W : World} {y : FC} (hA : FmAt (fun b => w.heap.size < b ∧ b < W.heap.size) n W y.f y.cs) (hw : y.f.wt ≤ wt) (hc : Cur W g (m + k)) (hg : w.grownBy W (some g)) (hlt : g < w.heap.size) (u0 u1 u2 u3 u4 : Value) :
    StepO g m k (fun w' v => DrwF (NewB w w') n wt w' v) w (.returned (.agg y.cs.toArray)) (set5C W w.heap.size u0 u1 u2 u3 u4) :=
  ⟨_, rfl, ⟨y, rfl, FmAt.mono (fun b hb _ => set5C_other W _ _ _ _ _ (by have := hb.1; omega)) (fun b hb => ⟨by have := hb.1; omega, by rw [set5C_size]; exact hb.2⟩) _ _ _ _ (Nat.le_refl _) hA, hw⟩,
    ((((hc.sc (p := ⟨w.heap.size, 0, none⟩) hlt _).sc (p := ⟨w.heap.size, 1, none⟩) hlt _).sc (p := ⟨w.heap.size, 2, none⟩) hlt _).sc (p := ⟨w.heap.size, 3, none⟩) hlt _).sc (p := ⟨w.heap.size, 4, none⟩) hlt _,
    gr_sc (gr_sc (gr_sc (gr_sc (gr_sc hg (p := ⟨w.heap.size, 0, none⟩) (.inr (Nat.le_refl _)) _) (p := ⟨w.heap.size, 1, none⟩) (.inr (Nat.le_refl _)) _) (p := ⟨w.heap.size, 2, none⟩) (.inr (Nat.le_refl _)) _) (p := ⟨w.heap.size, 3, none⟩) (.inr (Nat.le_refl _)) _) (p := ⟨w.heap.size, 4, none⟩) (.inr (Nat.le_refl _)) _⟩
theorem drw_ret2 {g n wt : Nat} {w W : World} {y : FC} (hA : FmAt (fun b => w.heap.size < b ∧ b < W.heap.size) n W y.f y.cs) (hw : y.f.wt ≤ wt) (hg : w.grownBy W (some g)) (u0 u1 u2 u3 u4 : Value) :
    (fun e w' => ∃ v, e = .returned v ∧ DrwF (NewB w w') n wt w' v ∧ w.grownBy w' (some g)) (Ending.returned (.agg y.cs.toArray)) (set5C W w.heap.size u0 u1 u2 u3 u4) :=
  ⟨_, rfl, ⟨y, rfl, FmAt.mono (fun b hb _ => set5C_other W _ _ _ _ _ (by have := hb.1; omega)) (fun b hb => ⟨by have := hb.1; omega, by rw [set5C_size]; exact hb.2⟩) _ _ _ _ (Nat.le_refl _) hA, hw⟩,
    gr_sc (gr_sc (gr_sc (gr_sc (gr_sc hg (p := ⟨w.heap.size, 0, none⟩) (.inr (Nat.le_refl _)) _) (p := ⟨w.heap.size, 1, none⟩) (.inr (Nat.le_refl _)) _) (p := ⟨w.heap.size, 2, none⟩) (.inr (Nat.le_refl _)) _) (p := ⟨w.heap.size, 3, none⟩) (.inr (Nat.le_refl _)) _) (p := ⟨w.heap.size, 4, none⟩) (.inr (Nat.le_refl _)) _⟩
theorem fc_agg (y : FC) : y.cs.toArray = #[.int .i64 y.f.op, .string y.f.a.n, .slice y.p y.f.a.us.length y.c, .string y.f.v, .slice y.q y.f.ps.length y.d] := rfl
def NfSt (g m r : Nat) (W : World) : Nat → (Nat → Value) → World → Prop
  | 0, _, w => w = W.drew
  | 1, u, w => ∃ b : Bool, u 2 = .bool b ∧ Cur w g (m + 2) ∧ W.grownBy w (some g)
  | 2, u, w => ∃ y : FC, u 3 = .agg y.cs.toArray ∧ FmAt (fun b => W.heap.size ≤ b ∧ b < w.heap.size) 61 w y.f y.cs ∧ y.f.wt ≤ 2001 ∧ Cur w g (m + 2) ∧ W.grownBy w (some g)
  | 3, u, w => ∃ (y : FC) (w0 : World), u 3 = .agg y.cs.toArray ∧ FmAt (fun b => W.heap.size ≤ b ∧ b < w0.heap.size) 61 w0 y.f y.cs ∧ y.f.wt ≤ 2001 ∧ Cur w0 g (m + 2) ∧ W.grownBy w0 (some g) ∧ w = set5C w0 r (.int .i64 y.f.op) (.string y.f.a.n) (.slice y.p y.f.a.us.length y.c) (.string y.f.v) (.slice y.q y.f.ps.length y.d)
  | _, _, _ => False
theorem NfSt.gr {g m r : Nat} {W : World} {j : Nat} (hj : j ≤ 2) {u : Nat → Value} {w : World} (h : NfSt g m r W j u w) : W.grownBy w (some g) := by
  match j, hj, h with
  | 0, _, h => obtain rfl : w = W.drew := h; exact gr_dr (gr_refl _ _)
  | 1, _, h => obtain ⟨_, _, _, h⟩ := h; exact h
  | 2, _, h => obtain ⟨_, _, _, _, _, h⟩ := h; exact h
theorem gr_block {w w' : World} {g b : Nat} {o : Obj} (hg : w.grownBy w' (some g)) (hne : b ≠ g) (h : w.heap[b]? = some o) : w'.heap[b]? = some o := (hg.block b (heap_lt h) (by simpa using hne)).trans h
set_option maxHeartbeats 6400000 in
theorem nnf_any (g m : Nat) (w : World) (h : Cur w g m) (hm : m + 2000 ≤ 1000000000) :
    Calls Tryz.prog 28 #[.pointer (some ⟨g, 0, none⟩)] w (StepO g m 1504 (fun w' v => DrwF (NewB w w') 61 2001 w' v) w) := by
  have hlt := h.lt
  have H := Lib.hid h
  have hne : w.heap.size ≠ g := by omega
  clear h
  go_enter Tryz.func28, Tryz.ntmps28
  go_wp2_with fail
  refine (anyFormula_any g m _ (H.out.al _) (by omega)).mono ?_
  rintro e w1 ⟨_, rfl, hf, hc1, hg1⟩
  have HC1 := Lib.hid hc1
  clear hc1
  have ⟨c1, f1⟩ := gcell hg1
  have hz1 := hg1.size
  (try simp at hz1)
  obtain ⟨f, va, vp, rfl, hO, hw⟩ := hf
  obtain ⟨p, c, q, d, -, -, rfl, -, rfl, -⟩ := hO.form
  have hz0 : w.heap.size + 1 ≤ w1.heap.size := by simpa using hg1.size
  obtain ⟨W, hW⟩ : ∃ q' : World, q' = w1.alloc (.cells #[.int .i64 f.op, .string f.a.n, .slice p f.a.us.length c, .string f.v, .slice q f.ps.length d] 29) := ⟨_, rfl⟩
  have hbW : Below w1.heap.size w1 W := by rw [hW]; exact (Below.refl _ _).alloc (Nat.le_refl _) _
  have hsW : W.heap.size = w1.heap.size + 1 := by rw [hW]; simp
  have hgW : w.grownBy W (some g) := gr_below (gr_trans (gr_al (gr_refl w g) _) hg1) hbW
  have HR := Lib.hid (show W.heap[w.heap.size]? = some (.cells fmZ 29 (0, 0)) from (hbW.block _ (by omega)).trans ((hg1.block w.heap.size (by simp) (by simpa using hne)).trans (heap_alloc_new w _)))
  have HB := Lib.hid (show W.heap[w1.heap.size]? = some (.cells #[.int .i64 f.op, .string f.a.n, .slice p f.a.us.length c, .string f.v, .slice q f.ps.length d] 29 (0, 0)) by rw [hW]; exact heap_alloc_new w1 _)
  have HF := Lib.hid (FmAt.mono (B' := fun b => w.heap.size < b ∧ b < w1.heap.size) (SameOn.below hbW) (fun b hb => ⟨by have := (show _ ≤ b from hb.1); simp at this; omega, hb.2⟩) _ _ _ _ (Nat.le_refl _) (FmOwn.at_ _ _ _ hO))
  have HCW := Lib.hid (HC1.out.below hbW)
  have HGW := Lib.hid hgW
  have hs1 := Fm.sz_wt f
  have hs2 := Fm.asz_wt f
  obtain ⟨b0, b1, b2, b3, b4, bf⟩ := row5_at HB.out
  have zb := bsz (show w1.heap.size < W.heap.size by omega)
  clear hO hg1 c1 f1 hbW hgW
  go_wp2_with fail
  rw [← hW]
  clear hW
  refine (l8Good_any 60 f _ _ _ _ _ _ HF.out (by omega) (by omega)).mono ?_
  rintro e w2 ⟨rfl, hb2⟩
  have hz2 := hb2.size
  have HR2 := Lib.hid ((hb2.block _ (by omega)).trans HR.out)
  have HB2 := Lib.hid ((hb2.block _ (by omega)).trans HB.out)
  have HF2 := Lib.hid (FmAt.below hb2 HF.out)
  have HC2 := Lib.hid (HCW.out.below hb2)
  have HG2 := Lib.hid (gr_below HGW.out hb2)
  clear b0 b1 b2 b3 b4 bf zb hb2 HR HB HF HCW HGW
  obtain ⟨b0, b1, b2, b3, b4, bf⟩ := row5_at HB2.out
  have zb := bsz (show w1.heap.size < w2.heap.size by omega)
  obtain ⟨r0, r1, r2, r3, r4, rf⟩ := row5_at HR2.out
  have zr := bsz (show w.heap.size < w2.heap.size by omega)
  cases hgd : f.good
  · go_wp2
    refine bodyPost_ret (v := .agg #[.int .i64 f.op, .string f.a.n, .slice p f.a.us.length c, .string f.v, .slice q f.ps.length d]) (by simp only [results, Tryz.results28]; go_simp) rfl ?_
    exact drw_ret (y := ⟨f, p, c, q, d⟩) (FmAt.mono (SameOn.refl _ _) (fun b hb => ⟨hb.1, by omega⟩) _ _ _ _ (by omega) HF2.out) (by show f.wt ≤ _; omega) (HC2.out.more (by omega) (by omega)) HG2.out hlt _ _ _ _ _
  · have HGD := Lib.hid hgd
    clear hgd
    go_wp2_with fail
    refine (one_any g (m + 1500) 10 _ HC2.out (by omega) (by omega) (by omega)).mono ?_
    rintro e w3 ⟨_, rfl, ⟨bb, rfl⟩, hc3, hg3⟩
    have hz3 := hg3.size
    have HR3 := Lib.hid (gr_block hg3 hne HR2.out)
    have HB3 := Lib.hid (gr_block hg3 (by omega) HB2.out)
    have HF3 := Lib.hid (FmAt.mono (fun b hb hl => hg3.block b hl (by have := hb.1; simp; omega)) (fun _ h => h) _ _ _ _ (Nat.le_refl _) HF2.out)
    have HC3 := Lib.hid hc3
    have HG3 := Lib.hid (gr_trans HG2.out hg3)
    clear b0 b1 b2 b3 b4 bf zb r0 r1 r2 r3 r4 rf zr hc3 hg3
    obtain ⟨b0, b1, b2, b3, b4, bf⟩ := row5_at HB3.out
    have zb := bsz (show w1.heap.size < w3.heap.size by omega)
    obtain ⟨r0, r1, r2, r3, r4, rf⟩ := row5_at HR3.out
    have zr := bsz (show w.heap.size < w3.heap.size by omega)
    cases bb
    · go_wp2_with fail
      go_wp2
      refine wp_region_stages [some (.agg #[.int .i64 f.op, .string f.a.n, .slice p f.a.us.length c, .string f.v, .slice q f.ps.length d]), some (.pointer (some ⟨g, 0, none⟩)), none, none, none] [2, 3, 4] (NfSt g (m + 1500 + 2) w.heap.size w3) (by kernel_rfl) (by kernel_rfl) (by first | kernel_rfl | rfl) (by rfl) rfl ?_
      refine chain_stb (c := 3) 1 rfl rfl (by decide) rfl rfl rfl (by first | kernel_rfl | rfl) ?_ ?_
      · intro j u w' hj hS
        have hB' := gr_block (hS.gr (by omega)) (show w1.heap.size ≠ g by omega) HB3.out
        obtain ⟨e0, e1, e2, e3, e4, ef⟩ := row5_at hB'
        clear hB' b0 b1 b2 b3 b4
        go_simp
        first | done | exact ⟨hS, rfl⟩ | exact hS | rfl
      go_simp
      refine chain_st rfl rfl (by decide) rfl (by intro j u w' hS; go_simp; first | done | exact ⟨hS, rfl⟩ | exact hS | rfl) ?_
      go_simp
      refine chain_first rfl rfl (by rfl) (by decide) rfl ?_ ?_
      · intro w' hS
        obtain rfl : w' = w3.drew := hS
        go_simp
        refine (one_any g (m + 1500 + 2) 2 _ (HC3.out.below ((Below.refl _ _).drew)) (by omega) (by omega) (by omega)).mono ?_
        rintro e w'' ⟨x, he, ⟨b', rfl⟩, hc, hg⟩
        exact ⟨_, he, b', by rw [upd_same], hc, gr_trans (gr_dr (gr_refl _ _)) hg⟩
      intro yb
      go_simp
      refine chain_next 0 rfl rfl rfl rfl (by decide) rfl (by first | kernel_rfl | rfl) ?_ ?_
      · intro w' hS
        obtain ⟨b', hy, hc, hg⟩ := hS
        rw [upd_same] at hy
        subst hy
        go_simp
        refine (l9Nnf_any 60 f b' _ _ _ _ _ w' (FmAt.mono (fun b hb hl => hg.block b hl (by have := hb.1; simp; omega)) (fun _ h => h) _ _ _ _ (Nat.le_refl _) HF3.out) (by have := HGD.out; rw [Fm.good, Bool.and_eq_true] at this; exact this.2) (by omega)).mono ?_
        rintro e w'' ⟨x, he, ⟨y, rfl, h1, h2⟩, hb⟩
        have := hg.size
        exact ⟨_, he, y, by rw [upd_same], FmAt.mono (SameOn.refl _ _) (fun b hb => ⟨by omega, hb.2⟩) _ _ _ _ (Nat.le_refl _) h1, by omega, hc.below hb, gr_below hg hb⟩
      intro yn
      go_simp
      refine chain_next 1 rfl rfl rfl rfl (by decide) rfl (by first | kernel_rfl | rfl) ?_ ?_
      · intro w' hS
        obtain ⟨y, hy, h1, h2, hc, hg⟩ := hS
        rw [upd_same] at hy
        subst hy
        have hR' := gr_block hg hne HR3.out
        obtain ⟨e0, e1, e2, e3, e4, ef⟩ := row5_at hR'
        have hzz := hg.size
        have ze := bsz (show w.heap.size < w'.heap.size by omega)
        rw [fc_agg]
        clear hR' r0 r1 r2 r3 r4 rf zr
        go_simp
        exact ⟨y, w', by simp [upd, fc_agg], h1, h2, hc, hg, rfl⟩
      intro xs
      refine flowU_nil ?_
      intro wz hz
      obtain ⟨y, w0, hy, h1, h2, hc, hg, rfl⟩ := hz
      have hzz := hg.size
      have HR4 := Lib.hid (gr_block hg hne HR3.out)
      have HY := Lib.hid h1
      have HC4 := Lib.hid hc
      have HG4 := Lib.hid (gr_trans HG3.out hg)
      clear hy h1 hc hg b0 b1 b2 b3 b4 bf zb r0 r1 r2 r3 r4 rf zr
      obtain ⟨r0, r1, r2, r3, r4, rf⟩ := row5_at HR4.out
      have zr := bsz (show w.heap.size < w0.heap.size by omega)
      go_wp2
      refine bodyPost_ret (v := .agg #[.int .i64 y.f.op, .string y.f.a.n, .slice y.p y.f.a.us.length y.c, .string y.f.v, .slice y.q y.f.ps.length y.d]) (by simp only [results, Tryz.results28]; go_simp) rfl ?_
      exact drw_ret (y := y) (FmAt.mono (SameOn.refl _ _) (fun b hb => ⟨by have := hb.1; omega, hb.2⟩) _ _ _ _ (by omega) HY.out) h2 (HC4.out.more (by omega) (by omega)) HG4.out hlt _ _ _ _ _
    · go_wp2
      refine bodyPost_ret (v := .agg #[.int .i64 f.op, .string f.a.n, .slice p f.a.us.length c, .string f.v, .slice q f.ps.length d]) (by simp only [results, Tryz.results28]; go_simp) rfl ?_
      exact drw_ret (y := ⟨f, p, c, q, d⟩) (FmAt.mono (SameOn.refl _ _) (fun b hb => ⟨hb.1, by omega⟩) _ _ _ _ (by omega) HF3.out) (by show f.wt ≤ _; omega) (HC3.out.more (by omega) (by omega)) HG3.out hlt _ _ _ _ _
set_option maxHeartbeats 6400000 in
theorem plain_any (g m : Nat) (w : World) (h : Cur w g m) (hm : m + 2000 ≤ 1000000000) :
    Calls Tryz.prog 10 #[.pointer (some ⟨g, 0, none⟩)] w (fun e w' => ∃ v, e = .returned v ∧ DrwF (NewB w w') 61 2001 w' v ∧ w.grownBy w' (some g)) := by
  have hlt := h.lt
  have H := Lib.hid h
  have hne : w.heap.size ≠ g := by omega
  clear h
  go_enter Tryz.func10, Tryz.ntmps10
  go_wp2_with fail
  refine (nnf_any g m _ (H.out.al _) (by omega)).mono ?_
  rintro e w1 ⟨_, rfl, hf, hc1, hg1⟩
  have HC1 := Lib.hid hc1
  clear hc1
  have ⟨c1, f1⟩ := gcell hg1
  have hz1 := hg1.size
  (try simp at hz1)
  obtain ⟨f, rfl, hO, hw⟩ := hf
  have hz0 : w.heap.size + 1 ≤ w1.heap.size := by simpa using hg1.size
  obtain ⟨W, hW⟩ : ∃ q' : World, q' = w1.alloc (.cells #[.int .i64 f.f.op, .string f.f.a.n, .slice f.p f.f.a.us.length f.c, .string f.f.v, .slice f.q f.f.ps.length f.d] 29) := ⟨_, rfl⟩
  have hbW : Below w1.heap.size w1 W := by rw [hW]; exact (Below.refl _ _).alloc (Nat.le_refl _) _
  have hsW : W.heap.size = w1.heap.size + 1 := by rw [hW]; simp
  have HGW := Lib.hid (gr_below (gr_trans (gr_al (gr_refl w g) _) hg1) hbW)
  have HR := Lib.hid (show W.heap[w.heap.size]? = some (.cells fmZ 29 (0, 0)) from (hbW.block _ (by omega)).trans ((hg1.block w.heap.size (by simp) (by simpa using hne)).trans (heap_alloc_new w _)))
  have HB := Lib.hid (show W.heap[w1.heap.size]? = some (.cells #[.int .i64 f.f.op, .string f.f.a.n, .slice f.p f.f.a.us.length f.c, .string f.f.v, .slice f.q f.f.ps.length f.d] 29 (0, 0)) by rw [hW]; exact heap_alloc_new w1 _)
  have HF := Lib.hid (FmAt.mono (B' := fun b => w.heap.size < b ∧ b < w1.heap.size) (SameOn.below hbW) (fun b hb => ⟨by have := (show _ ≤ b from hb.1); simp at this; omega, hb.2⟩) _ _ _ _ (Nat.le_refl _) hO)
  have HCW := Lib.hid (HC1.out.below hbW)
  clear hO hg1 c1 f1 hbW
  rw [fc_agg]
  go_wp2_with fail
  rw [← hW]
  clear hW
  refine (one_any g (m + 1504) 16 _ HCW.out (by omega) (by omega) (by omega)).mono ?_
  rintro e w3 ⟨_, rfl, ⟨bb, rfl⟩, -, hg3⟩
  have hz3 := hg3.size
  have HR3 := Lib.hid (gr_block hg3 hne HR.out)
  have HB3 := Lib.hid (gr_block hg3 (by omega) HB.out)
  have HF3 := Lib.hid (FmAt.mono (fun b hb hl => hg3.block b hl (by have := hb.1; simp; omega)) (fun _ h => h) _ _ _ _ (Nat.le_refl _) HF.out)
  have HG3 := Lib.hid (gr_trans HGW.out hg3)
  clear hg3
  obtain ⟨b0, b1, b2, b3, b4, bf⟩ := row5_at HB3.out
  have zb := bsz (show w1.heap.size < w3.heap.size by omega)
  obtain ⟨r0, r1, r2, r3, r4, rf⟩ := row5_at HR3.out
  have zr := bsz (show w.heap.size < w3.heap.size by omega)
  cases bb
  · go_wp2_with fail
    refine (bare_any _ w3.heap.size (fun b => w.heap.size < b ∧ b < w3.heap.size) (fun b hb => hb.2) 61 f.f _ _ _ _ _ w3 (FmAt.mono (SameOn.refl _ _) (fun b hb => ⟨hb.1, by omega⟩) _ _ _ _ (by omega) HF3.out) (Nat.le_refl _) (by omega)).mono ?_
    rintro e w4 ⟨y, rfl, h1, h2, hb4⟩
    have hz4 := hb4.size
    have HR4 := Lib.hid ((hb4.block _ (by omega)).trans HR3.out)
    have HG4 := Lib.hid (gr_below HG3.out hb4)
    have HY := Lib.hid h1
    clear b0 b1 b2 b3 b4 bf zb r0 r1 r2 r3 r4 rf zr h1 hb4
    obtain ⟨r0, r1, r2, r3, r4, rf⟩ := row5_at HR4.out
    have zr := bsz (show w.heap.size < w4.heap.size by omega)
    rw [fc_agg]
    go_wp2
    refine bodyPost_ret (v := .agg #[.int .i64 y.f.op, .string y.f.a.n, .slice y.p y.f.a.us.length y.c, .string y.f.v, .slice y.q y.f.ps.length y.d]) (by simp only [results, Tryz.results10]; go_simp) rfl ?_
    have hz5 : w3.heap.size ≤ w4.heap.size := hz4
    obtain ⟨v, h1, ⟨y', h2, h3, h4⟩, h6⟩ := drw_ret2 (y := y) (FmAt.mono (SameOn.refl _ _) (fun b hb => by rcases hb with hb | hb <;> exact ⟨by omega, by omega⟩) _ _ _ _ (Nat.le_refl _) HY.out) h2 HG4.out (.int .i64 y.f.op) (.string y.f.a.n) (.slice y.p y.f.a.us.length y.c) (.string y.f.v) (.slice y.q y.f.ps.length y.d)
    exact ⟨v, h1, ⟨y', h2, h3, by omega⟩, h6⟩
  · go_wp2
    refine bodyPost_ret (v := .agg #[.int .i64 f.f.op, .string f.f.a.n, .slice f.p f.f.a.us.length f.c, .string f.f.v, .slice f.q f.f.ps.length f.d]) (by simp only [results, Tryz.results10]; go_simp) rfl ?_
    exact drw_ret2 (y := f) (FmAt.mono (SameOn.refl _ _) (fun b hb => ⟨hb.1, by omega⟩) _ _ _ _ (by omega) HF3.out) hw HG3.out _ _ _ _ _
def DrawFq (w : World) (e : Ending) (w' : World) : Prop := ∃ y : FC, e = .returned (.agg y.cs.toArray) ∧ FmAt (NewB w w') 61 w' y.f y.cs ∧ y.f.wt ≤ 2001 ∧ Below w.heap.size w w'
set_option maxHeartbeats 3200000 in
theorem drawDC_any (pp : Option Addr) (nn cc : Nat) (w : World) (h : CodeIn w (.slice pp nn cc)) : Calls Tryz.prog 5 #[.slice pp nn cc] w (DrawFq w) := by
  have H := Lib.hid (fun (w1 : World) (hb : Below w.heap.size w w1) => cur_new h hb)
  clear h
  go_enter Tryz.func5, Tryz.ntmps5
  have HW := Lib.hid (H.out (w.alloc (.cells fmZ 29)) (by exact bel))
  go_wp2_with fail
  refine (plain_any (w.heap.size + 1) 0 _ (by simpa [fmZ] using HW.out) (by omega)).mono ?_
  rintro e w1 ⟨_, rfl, ⟨y, rfl, hA, hwt⟩, hg1⟩
  have hb1 : Below w.heap.size w w1 := (show Below w.heap.size w _ by exact bel).trans (gr_to_below (B := w.heap.size) hg1 (by omega) (by simp; omega))
  have hR := (hg1.block w.heap.size (by simp; omega) (by simp)).trans ((hao _ _ _ (by simp)).trans (heap_alloc_new w _))
  obtain ⟨r0, r1, r2, r3, r4, rf⟩ := row5_at hR
  have hz0 := hg1.size
  simp at hz0
  have z01 := bsz (show w.heap.size < w1.heap.size by omega)
  have HT := Lib.hid (FmAt.mono (B' := fun b => w.heap.size < b ∧ b < w1.heap.size) (SameOn.refl _ _) (fun b hb => ⟨by have := (show _ ≤ b from hb.1); simp at this; omega, hb.2⟩) _ _ _ _ (Nat.le_refl _) hA)
  have HB := Lib.hid hb1
  clear hR hg1 hA hb1
  rw [fc_agg]
  go_wp2_with fail
  refine bodyPost_ret (v := .agg #[.int .i64 y.f.op, .string y.f.a.n, .slice y.p y.f.a.us.length y.c, .string y.f.v, .slice y.q y.f.ps.length y.d]) (by simp only [results, Tryz.results5]; go_simp) rfl ⟨y, rfl, ?_, hwt, ?_⟩
  · exact FmAt.mono (fun b hb _ => set5C_other w1 _ _ _ _ _ (by have := hb.1; omega)) (fun b hb => ⟨by have := hb.1; omega, by rw [set5C_size]; exact hb.2⟩) _ _ _ _ (Nat.le_refl _) HT.out
  · exact set5C_below HB.out (Nat.le_refl _) _ _ _ _ _
mutual
def Tm.syms : Tm → List ByteArray | .mk n us => (if !varB n.data.toList && !n.data.toList.isEmpty then [n] else []) ++ Tm.symss us
def Tm.symss : List Tm → List ByteArray | [] => [] | a :: us => a.syms ++ Tm.symss us
end
mutual
def Fm.syms : Fm → List ByteArray | .mk _ a _ ps => a.syms ++ Fm.symss ps
def Fm.symss : List Fm → List ByteArray | [] => [] | f :: fs => f.syms ++ Fm.symss fs
end
mutual
theorem Tm.syms_len : ∀ t : Tm, t.syms.length ≤ t.sz
  | .mk n us => by
    have := Tm.symss_len us
    rw [Tm.syms, Tm.sz, List.length_append]
    split
    · simp only [List.length_cons, List.length_nil]; omega
    · simp only [List.length_nil]; omega
theorem Tm.symss_len : ∀ us : List Tm, (Tm.symss us).length ≤ Tm.szs us
  | [] => by simp [Tm.symss, Tm.szs]
  | a :: us => by have := Tm.syms_len a; have := Tm.symss_len us; rw [Tm.symss, Tm.szs, List.length_append]; omega
end
theorem Tm.symss_snoc (us : List Tm) (a : Tm) : Tm.symss (us ++ [a]) = Tm.symss us ++ a.syms := by
  induction us with
  | nil => rw [List.nil_append, Tm.symss, Tm.symss, Tm.symss, List.append_nil]; rfl
  | cons b us ih => rw [List.cons_append, Tm.symss, Tm.symss, ih, List.append_assoc]
theorem Tm.szs_take (us : List Tm) (k : Nat) : Tm.szs (us.take k) + Tm.szs (us.drop k) = Tm.szs us := by
  induction us generalizing k with
  | nil => simp [Tm.szs]
  | cons a us ih =>
    cases k with
    | zero => simp [Tm.szs]
    | succ k => have := ih k; simp only [List.take_succ_cons, List.drop_succ_cons, Tm.szs]; omega
theorem Fm.symss_snoc (us : List Fm) (a : Fm) : Fm.symss (us ++ [a]) = Fm.symss us ++ a.syms := by
  induction us with
  | nil => rw [List.nil_append, Fm.symss, Fm.symss, Fm.symss, List.append_nil]; rfl
  | cons b us ih => rw [List.cons_append, Fm.symss, Fm.symss, ih, List.append_assoc]
mutual
def Fm.nn : Fm → Nat | .mk _ a _ ps => a.sz + Fm.nns ps
def Fm.nns : List Fm → Nat | [] => 0 | f :: fs => f.nn + Fm.nns fs
end
mutual
theorem Fm.syms_len : ∀ t : Fm, t.syms.length ≤ t.nn
  | .mk _ a _ ps => by have := Fm.symss_len ps; have := a.syms_len; rw [Fm.syms, Fm.nn, List.length_append]; omega
theorem Fm.symss_len : ∀ us : List Fm, (Fm.symss us).length ≤ Fm.nns us
  | [] => by simp [Fm.symss, Fm.nns]
  | a :: us => by have := Fm.syms_len a; have := Fm.symss_len us; rw [Fm.symss, Fm.nns, List.length_append]; omega
end
theorem Fm.nns_take (us : List Fm) (k : Nat) : Fm.nns (us.take k) + Fm.nns (us.drop k) = Fm.nns us := by
  induction us generalizing k with
  | nil => simp [Fm.nns]
  | cons a us ih =>
    cases k with
    | zero => simp [Fm.nns]
    | succ k => have := ih k; simp only [List.take_succ_cons, List.drop_succ_cons, Fm.nns]; omega
structure GrS (e : TypeId) (base : Nat) (W : World) (v : Value) (l : List ByteArray) (v' : Value) (w' : World) : Prop where
  row : w'.ownsRow base e 1 v' l.length (strW l)
  gr : W.grownBy w' v.ownBlock
  nr : NewRow v v' W.heap.size
section
variable {e : TypeId} {base : Nat} {W w1 w2 : World} {v v1 v2 : Value} {l l1 l2 : List ByteArray}
theorem GrS.refl (h : W.ownsRow base e 1 v l.length (strW l)) : GrS e base W v l v W := ⟨h, ⟨rfl, rfl, rfl, Nat.le_refl _, fun _ _ _ => rfl⟩, .inl rfl⟩
theorem GrS.trans (h : GrS e base W v l1 v1 w1) (h2 : GrS e base w1 v1 l2 v2 w2) : GrS e base W v l2 v2 w2 := by
  have hz := h.gr.size
  refine ⟨h2.row, ⟨h2.gr.os.trans h.gr.os, h2.gr.tape.trans h.gr.tape, h2.gr.output.trans h.gr.output, Nat.le_trans hz h2.gr.size, fun b hb hne => (h2.gr.block b (by omega) (fun e' => ?_)).trans (h.gr.block b hb hne)⟩, ?_⟩
  · rcases h.nr with e | ⟨b', e, hge⟩
    · exact hne (e'.trans e)
    · rw [e] at e'; injection e' with e'; omega
  · rcases h2.nr with e | ⟨b', e, hge⟩
    · rcases h.nr with e1 | ⟨b', e1, hge⟩
      · exact .inl (e.trans e1)
      · exact .inr ⟨b', e.trans e1, hge⟩
    · exact .inr ⟨b', e, by omega⟩
theorem GrS.keep (h : GrS e base W v l v1 w1) {b : Nat} (hb : b < W.heap.size) (hne : v.ownBlock ≠ some b) : w1.heap[b]? = W.heap[b]? := h.gr.block b hb (fun e => hne e.symm)
end
def SymP (e : TypeId) (base : Nat) (v : Value) (l' : List ByteArray) (w : World) (en : Ending) (w' : World) : Prop := ∃ v', en = .returned v' ∧ GrS e base w v l' v' w'
set_option maxHeartbeats 3200000 in
theorem l9Symbols_any (base : Nat) : ∀ (m : Nat) (t : Tm) (v0 v1 v : Value) (l : List ByteArray) (w : World), TmAt (fun b => b < base) m w t [v0, v1] → base ≤ w.heap.size → w.ownsRow base 9 1 v l.length (strW l) → l.length + t.sz ≤ 1000000 →
      Calls Tryz.prog 50 #[v, .agg #[v0, v1]] w (SymP 9 base v (l ++ t.syms) w) := by
  intro m
  induction m with
  | zero => intro t v0 v1 v l w h; exact h.elim
  | succ m ih =>
    rintro ⟨n, us⟩ v0 v1 v l w ⟨va, he, hn, hl⟩ hb hr hz
    simp only [List.cons.injEq, and_true] at he
    obtain ⟨rfl, rfl⟩ := he
    obtain ⟨p, c, rfl, hlen⟩ := hl.form
    unfold maxLen at hlen
    rw [Tm.sz] at hz
    have HN := Lib.hid hn
    have IH := Lib.hid ih
    obtain ⟨W, hW⟩ : ∃ W : World, W = w.alloc (.cells #[.string n, .slice p us.length c] 26) := ⟨_, rfl⟩
    have hbW : Below w.heap.size w W := by rw [hW]; exact bel
    have hsW : W.heap.size = w.heap.size + 1 := by rw [hW]; simp
    have A0 : W.heap[w.heap.size]? = some (.cells #[.string n, .slice p us.length c] 26 (0, 0)) := by rw [hW]; exact heap_alloc_new w _
    have hvb : ∀ b, v.ownBlock = some b → base ≤ b ∧ b < w.heap.size := fun b hb => ⟨own_base hr b hb, own_lt' hr hb⟩
    have HVB := Lib.hid hvb
    have HR := Lib.hid (own_below hr hbW)
    have HL := Lib.hid (hl.mono (SameOn.below hbW) (fun _ h => h) (fun x cs _ hx => TmAt.below hbW hx))
    have HG0 := Lib.hid (show w.grownBy W v.ownBlock from ⟨hbW.os, hbW.tape, hbW.output, hbW.size, fun b hb _ => hbW.block b hb⟩)
    obtain ⟨a0, a1, af⟩ := cells2_cell A0
    have za := bsz (show w.heap.size < W.heap.size by omega)
    clear hn ih hl hr hvb
    cases hc : (!varB n.data.toList && !n.data.toList.isEmpty)
    · have HS := Lib.hid (show (Tm.mk n us).syms = Tm.symss us by rw [Tm.syms, hc]; rfl)
      have hst := GrS.refl HR.out
      have HC := Lib.hid hc
      go_enter Tryz.func50, Tryz.ntmps50
      go_wp2_with fail
      rw [← hW]
      clear hW
      refine (l2Var_any n _ HN.out).mono ?_
      rintro e w1 ⟨rfl, rfl⟩
      cases hv : varB n.data.toList
      · have hne : n.data.toList.isEmpty = true := by have := HC.out; rw [hv] at this; simpa using this
        have hn0 : n = ⟨#[]⟩ := ba_nil hne
        subst hn0
        go_wp2
        have HST := Lib.hid (hst)
        (try clear a0 a1 af)
        go_loopw [0, 5] (fun x i wr => ∃ (k : Nat) (v' : Value), k ≤ us.length ∧ i = .int .i64 k ∧ x = v' ∧ GrS 9 base W v (l ++ Tm.symss (us.take k)) v' wr) (fun _ i _ => us.length - (intOf i).toNat)
        case atStart => exact ⟨0, _, Nat.zero_le _, rfl, rfl, by rw [List.take_zero, Tm.symss, List.append_nil]; exact HST.out⟩
        case round =>
          obtain ⟨k, v', hk, rfl, hxv, hg⟩ := hrel
          replace hxv := hxv.symm
          subst hxv
          have HGS := Lib.hid hg
          have hzr := hg.gr.size
          obtain ⟨a0, a1, af⟩ := cells2_cell ((hg.keep (b := w.heap.size) (by omega) (fun e => by have := HVB.out _ e; omega)).trans A0)
          have za := bsz (show w.heap.size < wr.heap.size by omega)
          clear hg
          by_cases hlt : k < us.length
          · have hlti : (k : Int) < us.length := by omega
            have hsame : SameOn (fun b => b < base) W wr := fun b hb hl => HGS.out.keep hl (fun e => by have := (HVB.out b e).1; omega)
            obtain ⟨b, o, hpe, hB, x0, x1, hx0, hx1, hx⟩ := (HL.out.mono hsame (fun _ h => h) (fun x cs _ hx => TmAt.mono hsame (fun _ h => h) _ _ _ _ (Nat.le_refl _) hx)).at2 hlt
            obtain ⟨y, hy⟩ : ∃ y, us[k] = y := ⟨_, rfl⟩
            have HTK := Lib.hid (show us.take (k + 1) = us.take k ++ [y] by rw [List.take_succ_eq_append_getElem hlt, hy])
            have hszk : Tm.szs (us.take k) + y.sz ≤ Tm.szs us := by
              have h1 := Tm.szs_take us (k + 1)
              rw [HTK.out] at h1
              have h2 : ∀ l : List Tm, Tm.szs (l ++ [y]) = Tm.szs l + y.sz := fun l => by
                induction l with
                | nil => simp [Tm.szs]
                | cons z l ih => rw [List.cons_append, Tm.szs, Tm.szs, ih]; omega
              rw [h2] at h1; omega
            have hsl := Tm.symss_len (us.take k)
            rw [hy] at hx
            have HX := Lib.hid hx
            have zb := bsz (World.block_lt_of_cell? _ _ hx0)
            subst hpe
            clear hx hy hsame
            go_wp2_with fail
            refine (IH.out y _ _ _ (l ++ Tm.symss (us.take k)) _ HX.out (by omega) HGS.out.row (by simp only [List.length_append]; omega)).mono ?_
            rintro e w2 ⟨v2, rfl, h2⟩
            have HT := Lib.hid (HGS.out.trans h2)
            clear h2
            go_wp2
            exact ⟨⟨k + 1, _, by omega, by go_num, rfl, by rw [HTK.out, Tm.symss_snoc, ← List.append_assoc]; exact HT.out⟩, by simp [intOf]; omega⟩
          · obtain rfl : k = us.length := by omega
            have HT := Lib.hid HGS.out
            rw [List.take_length] at HT
            go_wp2
            go_ret
            refine ⟨v', ?_, by rw [HS.out]; (try rw [← List.append_assoc]); exact HT.out.row, ⟨HT.out.gr.os.trans HG0.out.os, HT.out.gr.tape.trans HG0.out.tape, HT.out.gr.output.trans HG0.out.output, Nat.le_trans HG0.out.size HT.out.gr.size, fun b hb hne => (HT.out.gr.block b (by omega) hne).trans (HG0.out.block b hb hne)⟩, by
              rcases HT.out.nr with e | ⟨b', e, hge⟩
              · exact .inl e
              · exact .inr ⟨b', e, by omega⟩⟩
            first | rfl | go_simp
      · go_wp2
        have HST := Lib.hid (hst)
        (try clear a0 a1 af)
        go_loopw [0, 5] (fun x i wr => ∃ (k : Nat) (v' : Value), k ≤ us.length ∧ i = .int .i64 k ∧ x = v' ∧ GrS 9 base W v (l ++ Tm.symss (us.take k)) v' wr) (fun _ i _ => us.length - (intOf i).toNat)
        case atStart => exact ⟨0, _, Nat.zero_le _, rfl, rfl, by rw [List.take_zero, Tm.symss, List.append_nil]; exact HST.out⟩
        case round =>
          obtain ⟨k, v', hk, rfl, hxv, hg⟩ := hrel
          replace hxv := hxv.symm
          subst hxv
          have HGS := Lib.hid hg
          have hzr := hg.gr.size
          obtain ⟨a0, a1, af⟩ := cells2_cell ((hg.keep (b := w.heap.size) (by omega) (fun e => by have := HVB.out _ e; omega)).trans A0)
          have za := bsz (show w.heap.size < wr.heap.size by omega)
          clear hg
          by_cases hlt : k < us.length
          · have hlti : (k : Int) < us.length := by omega
            have hsame : SameOn (fun b => b < base) W wr := fun b hb hl => HGS.out.keep hl (fun e => by have := (HVB.out b e).1; omega)
            obtain ⟨b, o, hpe, hB, x0, x1, hx0, hx1, hx⟩ := (HL.out.mono hsame (fun _ h => h) (fun x cs _ hx => TmAt.mono hsame (fun _ h => h) _ _ _ _ (Nat.le_refl _) hx)).at2 hlt
            obtain ⟨y, hy⟩ : ∃ y, us[k] = y := ⟨_, rfl⟩
            have HTK := Lib.hid (show us.take (k + 1) = us.take k ++ [y] by rw [List.take_succ_eq_append_getElem hlt, hy])
            have hszk : Tm.szs (us.take k) + y.sz ≤ Tm.szs us := by
              have h1 := Tm.szs_take us (k + 1)
              rw [HTK.out] at h1
              have h2 : ∀ l : List Tm, Tm.szs (l ++ [y]) = Tm.szs l + y.sz := fun l => by
                induction l with
                | nil => simp [Tm.szs]
                | cons z l ih => rw [List.cons_append, Tm.szs, Tm.szs, ih]; omega
              rw [h2] at h1; omega
            have hsl := Tm.symss_len (us.take k)
            rw [hy] at hx
            have HX := Lib.hid hx
            have zb := bsz (World.block_lt_of_cell? _ _ hx0)
            subst hpe
            clear hx hy hsame
            go_wp2_with fail
            refine (IH.out y _ _ _ (l ++ Tm.symss (us.take k)) _ HX.out (by omega) HGS.out.row (by simp only [List.length_append]; omega)).mono ?_
            rintro e w2 ⟨v2, rfl, h2⟩
            have HT := Lib.hid (HGS.out.trans h2)
            clear h2
            go_wp2
            exact ⟨⟨k + 1, _, by omega, by go_num, rfl, by rw [HTK.out, Tm.symss_snoc, ← List.append_assoc]; exact HT.out⟩, by simp [intOf]; omega⟩
          · obtain rfl : k = us.length := by omega
            have HT := Lib.hid HGS.out
            rw [List.take_length] at HT
            go_wp2
            go_ret
            refine ⟨v', ?_, by rw [HS.out]; (try rw [← List.append_assoc]); exact HT.out.row, ⟨HT.out.gr.os.trans HG0.out.os, HT.out.gr.tape.trans HG0.out.tape, HT.out.gr.output.trans HG0.out.output, Nat.le_trans HG0.out.size HT.out.gr.size, fun b hb hne => (HT.out.gr.block b (by omega) hne).trans (HG0.out.block b hb hne)⟩, by
              rcases HT.out.nr with e | ⟨b', e, hge⟩
              · exact .inl e
              · exact .inr ⟨b', e, by omega⟩⟩
            first | rfl | go_simp
    · have HS := Lib.hid (show (Tm.mk n us).syms = [n] ++ Tm.symss us by rw [Tm.syms, hc]; rfl)
      rw [Bool.and_eq_true, Bool.not_eq_true', Bool.not_eq_true'] at hc
      obtain ⟨hv, hne⟩ := hc
      have hl0 : n.toList ≠ [] := by
        rw [ByteArray.toList_eq]
        intro e0
        rw [e0] at hne
        exact absurd hne (by decide)
      have hne2 : (n.toList != []) = true := by rw [bne_iff_ne]; exact hl0
      have hne3 : (n.toList == []) = false := by rw [beq_eq_false_iff_ne]; exact hl0
      have hne4 : n.toList.isEmpty = false := by rw [ByteArray.toList_eq]; exact hne
      go_enter Tryz.func50, Tryz.ntmps50
      go_wp2_with fail
      rw [← hW]
      clear hW
      refine (l2Var_any n _ HN.out).mono ?_
      rintro e w1 ⟨rfl, rfl⟩
      rw [hv]
      go_wp2_with (at_builtin; refine wpList_app1 rfl (.tmp 15) (.tmp 18) _ rfl base 9 1 16 elemStr _ _ (strW l) rfl W #[.string n] rfl _ hsW rfl HR.out rfl (by simp [Value.oneCell']) (by omega) (by unfold maxLen; omega) (by omega) ?_; intro v3 w3 hown3 hg3 hnr3 hlt3)
      have hst : GrS 9 base W v (l ++ [n]) v3 w3 := ⟨by rw [strW_snoc, List.length_append]; exact hown3, hg3, hnr3⟩
      clear hown3 hg3 hnr3 a0 a1 af
      have HST := Lib.hid (hst)
      (try clear a0 a1 af)
      go_loopw [0, 5] (fun x i wr => ∃ (k : Nat) (v' : Value), k ≤ us.length ∧ i = .int .i64 k ∧ x = v' ∧ GrS 9 base W v ((l ++ [n]) ++ Tm.symss (us.take k)) v' wr) (fun _ i _ => us.length - (intOf i).toNat)
      case atStart => exact ⟨0, _, Nat.zero_le _, rfl, rfl, by rw [List.take_zero, Tm.symss, List.append_nil]; exact HST.out⟩
      case round =>
        obtain ⟨k, v', hk, rfl, hxv, hg⟩ := hrel
        replace hxv := hxv.symm
        subst hxv
        have HGS := Lib.hid hg
        have hzr := hg.gr.size
        obtain ⟨a0, a1, af⟩ := cells2_cell ((hg.keep (b := w.heap.size) (by omega) (fun e => by have := HVB.out _ e; omega)).trans A0)
        have za := bsz (show w.heap.size < wr.heap.size by omega)
        clear hg
        by_cases hlt : k < us.length
        · have hlti : (k : Int) < us.length := by omega
          have hsame : SameOn (fun b => b < base) W wr := fun b hb hl => HGS.out.keep hl (fun e => by have := (HVB.out b e).1; omega)
          obtain ⟨b, o, hpe, hB, x0, x1, hx0, hx1, hx⟩ := (HL.out.mono hsame (fun _ h => h) (fun x cs _ hx => TmAt.mono hsame (fun _ h => h) _ _ _ _ (Nat.le_refl _) hx)).at2 hlt
          obtain ⟨y, hy⟩ : ∃ y, us[k] = y := ⟨_, rfl⟩
          have HTK := Lib.hid (show us.take (k + 1) = us.take k ++ [y] by rw [List.take_succ_eq_append_getElem hlt, hy])
          have hszk : Tm.szs (us.take k) + y.sz ≤ Tm.szs us := by
            have h1 := Tm.szs_take us (k + 1)
            rw [HTK.out] at h1
            have h2 : ∀ l : List Tm, Tm.szs (l ++ [y]) = Tm.szs l + y.sz := fun l => by
              induction l with
              | nil => simp [Tm.szs]
              | cons z l ih => rw [List.cons_append, Tm.szs, Tm.szs, ih]; omega
            rw [h2] at h1; omega
          have hsl := Tm.symss_len (us.take k)
          rw [hy] at hx
          have HX := Lib.hid hx
          have zb := bsz (World.block_lt_of_cell? _ _ hx0)
          subst hpe
          clear hx hy hsame
          go_wp2_with fail
          refine (IH.out y _ _ _ ((l ++ [n]) ++ Tm.symss (us.take k)) _ HX.out (by omega) HGS.out.row (by simp only [List.length_append, List.length_cons, List.length_nil]; omega)).mono ?_
          rintro e w2 ⟨v2, rfl, h2⟩
          have HT := Lib.hid (HGS.out.trans h2)
          clear h2
          go_wp2
          exact ⟨⟨k + 1, _, by omega, by go_num, rfl, by rw [HTK.out, Tm.symss_snoc, ← List.append_assoc]; exact HT.out⟩, by simp [intOf]; omega⟩
        · obtain rfl : k = us.length := by omega
          have HT := Lib.hid HGS.out
          rw [List.take_length] at HT
          go_wp2
          go_ret
          refine ⟨v', ?_, by rw [HS.out]; (try rw [← List.append_assoc]); exact HT.out.row, ⟨HT.out.gr.os.trans HG0.out.os, HT.out.gr.tape.trans HG0.out.tape, HT.out.gr.output.trans HG0.out.output, Nat.le_trans HG0.out.size HT.out.gr.size, fun b hb hne => (HT.out.gr.block b (by omega) hne).trans (HG0.out.block b hb hne)⟩, by
            rcases HT.out.nr with e | ⟨b', e, hge⟩
            · exact .inl e
            · exact .inr ⟨b', e, by omega⟩⟩
          first | rfl | go_simp
set_option maxHeartbeats 3200000 in
theorem l9Names_any (base : Nat) : ∀ (m : Nat) (t : Fm) (v0 v1 v2 v3 v4 v : Value) (l : List ByteArray) (w : World), FmAt (fun b => b < base) m w t [v0, v1, v2, v3, v4] → base ≤ w.heap.size → w.ownsRow base 9 1 v l.length (strW l) → l.length + t.nn ≤ 1000000 →
      Calls Tryz.prog 20 #[v, .agg #[v0, v1, v2, v3, v4]] w (SymP 9 base v (l ++ t.syms) w) := by
  intro m
  induction m with
  | zero => intro t v0 v1 v2 v3 v4 v l w h; exact h.elim
  | succ m ih =>
    rintro ⟨op, a, x, ps⟩ v0 v1 v2 v3 v4 v l w hfm hb hr hz
    have hl := fm_parts hfm
    have ha := hfm.atm
    obtain ⟨p, pc, q, d, rfl, rfl, rfl, rfl, rfl, -, -, -, -, hlen⟩ := hfm.form
    simp only [Fm.op, Fm.a, Fm.v, Fm.ps] at *
    unfold maxLen at hlen
    rw [Fm.nn] at hz
    have IH := Lib.hid ih
    obtain ⟨W, hW⟩ : ∃ W : World, W = w.alloc (.cells #[.int .i64 op, .string a.n, .slice p a.us.length pc, .string x, .slice q ps.length d] 29) := ⟨_, rfl⟩
    have hbW : Below w.heap.size w W := by rw [hW]; exact bel
    have hsW : W.heap.size = w.heap.size + 1 := by rw [hW]; simp
    have A0 : W.heap[w.heap.size]? = some (.cells #[.int .i64 op, .string a.n, .slice p a.us.length pc, .string x, .slice q ps.length d] 29 (0, 0)) := by rw [hW]; exact heap_alloc_new w _
    have HVB := Lib.hid (show ∀ b, v.ownBlock = some b → base ≤ b ∧ b < w.heap.size from fun b hb => ⟨own_base hr b hb, own_lt' hr hb⟩)
    have HR := Lib.hid (own_below hr hbW)
    have HA := Lib.hid (TmAt.below hbW ha)
    have HL := Lib.hid (hl.mono (SameOn.below hbW) (fun _ h => h) (fun x cs _ hx => FmAt.below hbW hx))
    have HG0 := Lib.hid (show GrS 9 base w v l v W from ⟨own_below hr hbW, ⟨hbW.os, hbW.tape, hbW.output, hbW.size, fun b hb _ => hbW.block b hb⟩, .inl rfl⟩)
    have hal := a.syms_len
    obtain ⟨a0, a1, a2, a3, a4⟩ := five_at A0
    have za := bsz (show w.heap.size < W.heap.size by omega)
    clear ih hl hr ha hfm
    go_enter Tryz.func20, Tryz.ntmps20
    go_wp2_with fail
    rw [← hW]
    clear hW
    refine (l9Symbols_any base _ a _ _ v l W HA.out (by omega) HR.out (by omega)).mono ?_
    rintro e w1 ⟨v1, rfl, h1⟩
    have HST := Lib.hid h1
    clear h1 a0 a1 a2 a3 a4 za
    go_wp2
    go_loopw [0, 5] (fun y i wr => ∃ (k : Nat) (v' : Value), k ≤ ps.length ∧ i = .int .i64 k ∧ y = v' ∧ GrS 9 base W v (l ++ a.syms ++ Fm.symss (ps.take k)) v' wr) (fun _ i _ => ps.length - (intOf i).toNat)
    case atStart => exact ⟨0, _, Nat.zero_le _, rfl, rfl, by rw [List.take_zero, Fm.symss, List.append_nil]; exact HST.out⟩
    case round =>
      obtain ⟨k, v', hk, rfl, hxv, hg⟩ := hrel
      replace hxv := hxv.symm
      subst hxv
      have HGS := Lib.hid hg
      have hzr := hg.gr.size
      obtain ⟨a0, a1, a2, a3, a4⟩ := five_at ((hg.keep (b := w.heap.size) (by omega) (fun e => by have := HVB.out _ e; omega)).trans A0)
      have za := bsz (show w.heap.size < wr.heap.size by omega)
      clear hg
      by_cases hlt : k < ps.length
      · have hlti : (k : Int) < ps.length := by omega
        have hsame : SameOn (fun b => b < base) W wr := fun b hb hl => HGS.out.keep hl (fun e => by have := (HVB.out b e).1; omega)
        obtain ⟨b, o, hpe, hB, x0, x1, x2, x3, x4, hx0, hx1, hx2, hx3, hx4, hx⟩ := (HL.out.mono hsame (fun _ h => h) (fun x cs _ hx => FmAt.mono hsame (fun _ h => h) _ _ _ _ (Nat.le_refl _) hx)).at5 hlt
        obtain ⟨y, hy⟩ : ∃ y, ps[k] = y := ⟨_, rfl⟩
        have HTK := Lib.hid (show ps.take (k + 1) = ps.take k ++ [y] by rw [List.take_succ_eq_append_getElem hlt, hy])
        have hszk : Fm.nns (ps.take k) + y.nn ≤ Fm.nns ps := by
          have h1 := Fm.nns_take ps (k + 1)
          rw [HTK.out] at h1
          have h2 : ∀ l : List Fm, Fm.nns (l ++ [y]) = Fm.nns l + y.nn := fun l => by
            induction l with
            | nil => simp [Fm.nns]
            | cons z l ih => rw [List.cons_append, Fm.nns, Fm.nns, ih]; omega
          rw [h2] at h1; omega
        have hsl := Fm.symss_len (ps.take k)
        rw [hy] at hx
        have HX := Lib.hid hx
        have zb := bsz (World.block_lt_of_cell? _ _ hx0)
        subst hpe
        clear hx hy hsame
        go_wp2_with fail
        refine (IH.out y _ _ _ _ _ _ (l ++ a.syms ++ Fm.symss (ps.take k)) _ HX.out (by omega) HGS.out.row (by simp only [List.length_append]; omega)).mono ?_
        rintro e w2 ⟨v2, rfl, h2⟩
        have HT := Lib.hid (HGS.out.trans h2)
        clear h2
        go_wp2
        exact ⟨⟨k + 1, _, by omega, by go_num, rfl, by rw [HTK.out, Fm.symss_snoc, ← List.append_assoc]; exact HT.out⟩, by simp [intOf]; omega⟩
      · obtain rfl : k = ps.length := by omega
        have HT := Lib.hid (HG0.out.trans HGS.out)
        rw [List.take_length] at HT
        go_wp2
        go_ret
        refine ⟨v', ?_, by rw [Fm.syms, ← List.append_assoc]; exact HT.out⟩
        first | rfl | go_simp
end Go.Proofs.YtmbkjdkjemlfkaaGreatDoor
