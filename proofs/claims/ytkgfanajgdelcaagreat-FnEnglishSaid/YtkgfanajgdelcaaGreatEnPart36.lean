import Derived.Maps.StringElems
import Derived.Test.YtkgfanajgdelcaaGreatEnPart35
namespace Go.Proofs.YtkgfanajgdelcaaGreat
set_option maxRecDepth 100000
open Go.RowKit
structure LsSt (w : World) (g m : Nat) (v : Value) (xs : List Lit3) (wr : World) : Prop where
  cur : Cur wr g m
  row : OwnRow (NewB w wr) wr 57 3 (fun T l c => LitOwn 26 4 T wr l c) v xs
  wt : ∀ l ∈ xs, l.a.wt ≤ 29 ∧ l.a.ord = true
  gr : w.grownBy wr (some g)
  lt : g < w.heap.size
section
variable {w wr w2 W1 w3 : World} {g m m' : Nat} {v v' : Value} {xs : List Lit3}
theorem LsSt.new (hc : Cur w g m) (hlt : g < w.heap.size) : LsSt w g m (.slice (some ⟨w.heap.size, 0, none⟩) 0 0) [] (w.alloc (.cells #[] 57)) :=
  ⟨hc.al _, ⟨by unfold maxLen; simp, [], fun _ _ => False, row_new w _ 3 0 #[] rfl (by unfold maxLen; omega), fun b hb => by have hb' : w.heap.size = b := Option.some.inj hb; exact ⟨by omega, by simp; omega⟩, fun i x hx => by simp at hx, fun i j b hi => by simp at hi⟩, fun l hl => by simp at hl, gr_al (gr_refl _ _) _, hlt⟩
theorem LsSt.later (h : LsSt w g m v xs wr) (hg : wr.grownBy w2 (some g)) (hc : Cur w2 g m') : LsSt w g m' v xs w2 := by
  have l1 := h.lt
  have hz := hg.size
  refine ⟨hc, h.row.mono (fun b hb hlt => hg.block b hlt (by have := hb.1; simp; omega)) (fun b hb => ⟨hb.1, by have := hb.2; omega⟩) (fun T x c _ hT hx => LitOwn.mono (Nat.le_refl _) (fun b hb hlt => hg.block b hlt (by have := (hT b hb).1; simp; omega)) (fun _ h => h) hx), h.wt, gr_trans h.gr hg, l1⟩
theorem LsSt.more {n : Nat} (h : LsSt w g m v xs wr) (h1 : m ≤ n) (h2 : n ≤ 1000000000) : LsSt w g n v xs wr := ⟨h.cur.more h1 h2, h.row, h.wt, h.gr, h.lt⟩
theorem LsSt.own (h : LsSt w g m v xs wr) : ∃ vals, wr.ownsRow 0 57 3 v xs.length vals := by
  obtain ⟨_, vals, _, h1, _⟩ := h.row
  exact ⟨vals, h1⟩
theorem LsSt.snoc {x : Lit3} {cs vals : List Value} {Sx : Nat → Prop} (h : LsSt w g m v xs W1) (hx : LitOwn 26 4 Sx W1 x cs) (hS : ∀ b, Sx b → w.heap.size ≤ b ∧ b < W1.heap.size ∧ ¬ NewB w wr b) (hr : OwnRow (NewB w wr) W1 57 3 (fun T l c => LitOwn 26 4 T W1 l c) v xs) (hz : wr.heap.size ≤ W1.heap.size) (hw : x.a.wt ≤ 29 ∧ x.a.ord = true)
    (hv : W1.ownsRow 0 57 3 v xs.length vals) (happ : w3.ownsRow 0 57 3 v' (xs.length + 1) (vals ++ cs)) (hg3 : W1.grownBy w3 v.ownBlock) (hnr : NewRow v v' W1.heap.size) (hlen : xs.length ≤ 1000000) : LsSt w g m v' (xs ++ [x]) w3 := by
  have l1 := h.lt
  have hz3 := hg3.size
  obtain ⟨_, _, _, _, r2, _⟩ := id hr
  have hzw := h.gr.size
  refine ⟨h.cur.own hg3 (fun b hb => by have := (r2 b hb).1; omega), ?_, ?_, ?_, l1⟩
  · exact OwnRow.snoc (S' := NewB w w3) (R' := fun T l c => LitOwn 26 4 T w3 l c) hr hx (by obtain ⟨_, _, rfl, _⟩ := hx; rfl) (fun vs hvs => by rw [own_unique hvs hv]; exact happ) hg3 hnr (by unfold maxLen; omega)
      (fun b hb => (hS b hb).2.2) (fun b hb => by have := hb.2; omega) (fun b hb => (hS b hb).2.1) (fun b hb => ⟨hb.1, by have := hb.2; omega⟩) (fun b hb => ⟨(hS b hb).1, by have := (hS b hb).2.1; omega⟩)
      (fun b hb => ⟨by
        rcases hnr with e | ⟨b', e, hge⟩
        · rw [e] at hb; exact (r2 b hb).1
        · rw [e] at hb; injection hb with hb; omega, own_lt' happ hb⟩)
      (fun T y c hT hy => LitOwn.mono (Nat.le_refl _) (fun b hb hlt => hg3.block b hlt (fun e => (hT b hb).2 e.symm)) (fun _ h => h) hy)
  · intro l hl
    rcases List.mem_append.1 hl with hl | hl
    · exact h.wt l hl
    · obtain rfl : l = x := by simpa using hl
      exact hw
  · have h1 := h.gr
    exact ⟨hg3.os.trans h1.os, hg3.tape.trans h1.tape, hg3.output.trans h1.output, Nat.le_trans h1.size hz3, fun b hb hne => (hg3.block b (Nat.lt_of_lt_of_le hb h1.size) (fun e => by have := (r2 b e.symm).1; omega)).trans (h1.block b hb hne)⟩
end
def CpP (t : Tm) (W : World) (u0 u1 : Value) (w : World) : Prop := TmOwn 26 4 (fun b => W.heap.size ≤ b ∧ b < w.heap.size) w t [u0, u1] ∧ Below W.heap.size W w
theorem CpP.one {t : Tm} {W w : World} {u0 u1 : Value} (h : CpP t W u0 u1 w) : u0.oneCell' = true ∧ u1.oneCell' = true := by
  obtain ⟨p, c, rfl, rfl, -⟩ := h.1.form
  exact ⟨rfl, rfl⟩
def LnSt (nb : Bool) (t : Tm) (v : Value) (n : Nat) (W : World) : Nat → (Nat → Value) → World → Prop
  | 0, _, w => w = W
  | 1, u, w => ∃ u0 u1, u 6 = .agg #[u0, u1] ∧ CpP t W u0 u1 w
  | 2, u, w => ∃ u0 u1, u 7 = .agg #[.bool nb, u0, u1] ∧ CpP t W u0 u1 w
  | 3, u, w => ∃ u0 u1 w1, CpP t W u0 u1 w1 ∧ u 8 = .slice (some ⟨w1.heap.size, 0, none⟩) 1 1 ∧ w = w1.alloc (.cells #[.bool nb, u0, u1] 57)
  | 4, u, w => ∃ u0 u1 w1, CpP t W u0 u1 w1 ∧ (∀ b xs, w1.ownsRow b 57 3 v n xs → b ≤ w1.heap.size → w.ownsRow b 57 3 (u 9) (n + 1) (xs ++ [.bool nb, u0, u1])) ∧ w1.grownBy w v.ownBlock ∧ NewRow v (u 9) w1.heap.size ∧ w1.heap.size < w.heap.size
  | 5, u, w => ∃ u0 u1 w1, CpP t W u0 u1 w1 ∧ (∀ b xs, w1.ownsRow b 57 3 v n xs → b ≤ w1.heap.size → w.ownsRow b 57 3 (u 10) (n + 1) (xs ++ [.bool nb, u0, u1])) ∧ w1.grownBy w v.ownBlock ∧ NewRow v (u 10) w1.heap.size ∧ w1.heap.size < w.heap.size
  | _, _, _ => False
theorem LnSt.cell {nb : Bool} {t : Tm} {v v' : Value} {n k o : Nat} {W : World} (hc : W.cell? ⟨k, o, none⟩ = some v') (hvo : v.ownBlock ≠ some k) {j : Nat} {u : Nat → Value} {w : World} (h : LnSt nb t v n W j u w) : w.cell? ⟨k, o, none⟩ = some v' := by
  have hk := World.block_lt_of_cell? W _ hc
  have cp : ∀ {u0 u1 w1}, CpP t W u0 u1 w1 → w1.cell? ⟨k, o, none⟩ = some v' := fun h => (h.2.cell hk).trans hc
  match j, h with
  | 0, h => obtain rfl : w = W := h; exact hc
  | 1, h => obtain ⟨_, _, _, h1⟩ := h; exact cp h1
  | 2, h => obtain ⟨_, _, _, h1⟩ := h; exact cp h1
  | 3, h =>
    obtain ⟨_, _, w1, h1, _, rfl⟩ := h
    exact (((Below.refl w1.heap.size w1).alloc (Nat.le_refl _) _).cell (World.block_lt_of_cell? w1 _ (cp h1))).trans (cp h1)
  | 4, h => obtain ⟨_, _, w1, h1, _, hg, _, _⟩ := h; exact grown_cell hg (cp h1) (fun e => hvo e.symm)
  | 5, h => obtain ⟨_, _, w1, h1, _, hg, _, _⟩ := h; exact grown_cell hg (cp h1) (fun e => hvo e.symm)
set_option maxHeartbeats 3200000 in
theorem literals_any (g m : Nat) (w : World) (h : Cur w g m) (hm : m + 1000 ≤ 1000000000) :
    Calls Tryz.prog 112 #[.pointer (some ⟨g, 0, none⟩), .int .i64 4] w (fun e w' => ∃ v, e = .returned v ∧ ∃ xs, xs.length ≤ 5 ∧ LsSt w g (m + 340) v xs w') := by
  have hlt := h.lt
  have H := Lib.hid h
  have hne : w.heap.size ≠ g := by omega
  clear h
  go_enter Tryz.func112, Tryz.ntmps112
  go_wp2_with fail
  go_wp2_with fail
  refine (pick_any g m 5 _ (H.out.al _) (by omega) (by omega) (by omega)).mono ?_
  rintro e w1 ⟨_, rfl, ⟨y, rfl, hy0, hy1⟩, hc1, hg1⟩
  have HC1 := Lib.hid hc1
  clear hc1
  have ⟨c1, f1⟩ := gcell hg1
  have hz1 := hg1.size
  (try simp at hz1)
  obtain ⟨n, hn⟩ : ∃ n : Nat, y = (n : Int) := ⟨y.toNat, by omega⟩
  subst hn
  have HS := Lib.hid ((LsSt.new H.out hlt).later hg1 HC1.out)
  have hn4 : n ≤ 4 := by omega
  clear hg1 c1 f1
  go_wp2
  go_loopw [5, 6] (fun v i wr => ∃ (k : Nat) (xs : List Lit3), i = .int .i64 k ∧ k + xs.length ≤ 4 ∧ LsSt w g (m + 2 + 64 * xs.length) v xs wr) (fun _ i _ => (intOf i).toNat)
  case atStart => exact ⟨n, [], rfl, by simpa using hn4, HS.out⟩
  case round =>
    obtain ⟨k, xs, rfl, hk, hst⟩ := hrel
    obtain ⟨p0, c0, rfl, -⟩ := hst.row.form
    have HT := Lib.hid hst
    clear hst
    by_cases hk0 : 0 < k
    · have hk1 : (0 : Int) < (k : Int) := by omega
      go_wp2_with fail
      refine (literal_ord g (m + 2 + 64 * xs.length) _ HT.out.cur (by omega)).mono ?_
      rintro e w2 ⟨_, rfl, ht, hc2, hg2⟩
      have HC2 := Lib.hid hc2
      clear hc2
      have ⟨c2, f2⟩ := gcell hg2
      have hz2 := hg2.size
      (try simp at hz2)
      obtain ⟨b3, x3, q3, j3, d3, rfl, -⟩ := ht.gl.form
      obtain ⟨l, va, e, hT, hw⟩ := ht
      simp only [Value.agg.injEq, Array.mk.injEq, List.cons.injEq, and_true] at e
      obtain ⟨e0, e1, e2⟩ := e
      have HL := Lib.hid (show LitOwn 26 4 (NewB wr w2) w2 l [.bool b3, .string x3, .slice q3 j3 d3] from ⟨_, _, by rw [e0, e1, e2], hT⟩)
      have HS2 := Lib.hid (HT.out.later hg2 HC2.out)
      have hzr := HT.out.gr.size
      have hz2 := hg2.size
      have hlw := HT.out.lt
      have HR := Lib.hid (HT.out.row.mono (S' := NewB w wr) (w' := w2) (R' := fun T l c => LitOwn 26 4 T w2 l c) (fun b hb hlt => hg2.block b hlt (by have := hb.1; simp; omega)) (fun _ h => h) (fun T x c _ hT hx => LitOwn.mono (Nat.le_refl _) (fun b hb hlt => hg2.block b hlt (by have := (hT b hb).1; simp; omega)) (fun _ h => h) hx))
      obtain ⟨vals, hv⟩ := HS2.out.own
      have HV := Lib.hid hv
      have HW := Lib.hid hw
      clear hv hT hw e0 e1 e2 hg2 c2 f2
      go_wp2_with (at_builtin; refine wpList_app1 rfl (.tmp 17) (.tmp 20) _ rfl 0 57 3 48 elemLitI _ _ vals rfl w2 #[.bool b3, .string x3, .slice q3 j3 d3] rfl _ (by simp) rfl HV.out rfl (by simp [Value.oneCell']) (by omega) (by unfold maxLen; omega) (Nat.zero_le _) ?_; intro v3 w3 happ hg3 hnr3 hlt3; obtain ⟨q', c', rfl⟩ := own_form happ (Nat.succ_pos _))
      refine ⟨⟨k - 1, xs ++ [l], by go_num, by simp; omega, ?_⟩, by simp [intOf]; omega⟩
      have := HS2.out.snoc (v' := .slice (some ⟨q', 0, none⟩) (xs.length + 1) c') HL.out (fun b hb => ⟨by have := hb.1; omega, hb.2, fun h => by have := hb.1; have := h.2; omega⟩) HR.out hz2 HW.out HV.out happ hg3 hnr3 (by omega)
      have e : m + 2 + 64 * (xs ++ [l]).length = m + 2 + 64 * xs.length + 64 := by simp; omega
      rw [e]
      exact this
    · have hk1 : ¬ (0 : Int) < (k : Int) := by omega
      by_cases hx : 0 < xs.length
      · have hx1 : (0 : Int) < (xs.length : Int) := by omega
        go_wp2_with fail
        refine (one_any g (m + 2 + 64 * xs.length) 8 _ HT.out.cur (by omega) (by omega) (by omega)).mono ?_
        rintro e w2 ⟨_, rfl, ⟨y1, rfl⟩, hc2, hg2⟩
        have HC2 := Lib.hid hc2
        clear hc2
        have ⟨c2, f2⟩ := gcell hg2
        have hz2 := hg2.size
        (try simp at hz2)
        have HS2 := Lib.hid (HT.out.later hg2 HC2.out)
        clear hg2 c2 f2
        cases y1
        · go_wp2_with fail
          go_ret
          exact ⟨_, rfl, xs, by omega, HS2.out.more (by omega) (by omega)⟩
        · have hi2 : (xs.length : Int) ≤ 1000000000 := by omega
          go_wp2_with fail
          refine (pick_any g (m + 2 + 64 * xs.length + 2) xs.length _ HC2.out (by omega) (by omega) (by omega)).mono ?_
          rintro e w3 ⟨_, rfl, ⟨i0, rfl, hi0, hi1⟩, hc3, hg3⟩
          have HC3 := Lib.hid hc3
          clear hc3
          have ⟨c3, f3⟩ := gcell hg3
          have hz3 := hg3.size
          (try simp at hz3)
          obtain ⟨i, hi⟩ : ∃ i : Nat, i0 = (i : Int) := ⟨i0.toNat, by omega⟩
          subst hi
          have HS3 := Lib.hid (HS2.out.later hg3 HC3.out)
          clear hg3 c3 f3
          have hil : i < xs.length := by omega
          obtain ⟨gb, o, rfl, hB, x0, x1, x2, hx0, hx1, hx2, hxx⟩ := (ClsOwn.at_ HS3.out.row).at3 hil
          obtain ⟨pt, ct, rfl, rfl, rfl, hT⟩ := hxx.form
          have HTM := Lib.hid hT
          have zb := bsz (World.block_lt_of_cell? _ _ hx0)
          clear hxx hT
          go_wp2_with fail
          obtain ⟨W, hW⟩ : ∃ q : World, q = w3.alloc (.cells #[.bool xs[i].pos, .string xs[i].a.n, .slice pt xs[i].a.us.length ct] 57) := ⟨_, rfl⟩
          have hbW : Below w3.heap.size w3 W := by rw [hW]; exact (Below.refl _ _).alloc (Nat.le_refl _) _
          have HSW := Lib.hid (HS3.out.later (gr_below (gr_refl w3 g) hbW) (HC3.out.below hbW))
          have HTW := Lib.hid (TmAt.below (hbW.drew) HTM.out)
          obtain ⟨k0, k1, k2, kf⟩ := cells3_cell (show W.heap[w3.heap.size]? = some (.cells #[.bool xs[i].pos, .string xs[i].a.n, .slice pt xs[i].a.us.length ct] 57 (0, 0)) by rw [hW]; exact heap_alloc_new w3 _)
          have hvo : (Value.slice (some ⟨gb, o, none⟩) xs.length c0).ownBlock ≠ some w3.heap.size := fun e => by
            obtain ⟨_, _, _, _, r2, _⟩ := HS3.out.row
            have := (r2 _ e).2; omega
          have HK := Lib.hid (show W.drew.cell? ⟨w3.heap.size, 0, none⟩ = some (.bool xs[i].pos) ∧ W.drew.cell? ⟨w3.heap.size, 1, none⟩ = some (.string xs[i].a.n) ∧ W.drew.cell? ⟨w3.heap.size, 2, none⟩ = some (.slice pt xs[i].a.us.length ct) from ⟨k0, k1, k2⟩)
          have HWT := Lib.hid (HS3.out.wt xs[i] (List.getElem_mem hil))
          have hzW := hbW.size
          rw [← hW]
          clear hW
          refine wp_region_stages [some (.slice (some ⟨gb, o, none⟩) xs.length c0), some (.pointer (some ⟨w3.heap.size, 0, none⟩)), some (.bool xs[i].pos), some (.bool (!xs[i].pos)), some (.pointer (some ⟨w3.heap.size, 1, none⟩)), some (.agg #[.string xs[i].a.n, .slice pt xs[i].a.us.length ct]), none, none, none, none, none] [6, 7, 8, 9, 10] (LnSt (!xs[i].pos) xs[i].a (.slice (some ⟨gb, o, none⟩) xs.length c0) xs.length W.drew) (by kernel_rfl) (by kernel_rfl) (by first | kernel_rfl | rfl) (by rfl) rfl ?_
          refine chain_st rfl rfl (by decide) rfl (by intro j u w' hS; go_simp; first | done | exact ⟨hS, rfl⟩ | exact hS | rfl) ?_
          go_simp
          refine chain_st rfl rfl (by decide) rfl (by intro j u w' hS; go_simp; first | done | exact ⟨hS, rfl⟩ | exact hS | rfl) ?_
          go_simp
          refine chain_st rfl rfl (by decide) rfl (by intro j u w' hS; have hc := LnSt.cell HK.out.1 hvo hS; go_simp; first | done | exact ⟨hS, rfl⟩ | exact hS | rfl) ?_
          go_simp
          refine chain_st rfl rfl (by decide) rfl (by intro j u w' hS; go_simp; first | done | exact ⟨hS, rfl⟩ | exact hS | rfl) ?_
          go_simp
          refine chain_st rfl rfl (by decide) rfl (by intro j u w' hS; go_simp; first | done | exact ⟨hS, rfl⟩ | exact hS | rfl) ?_
          go_simp
          refine chain_st rfl rfl (by decide) rfl (by intro j u w' hS; have hc := LnSt.cell HK.out.2.1 hvo hS; have hc2 := LnSt.cell HK.out.2.2 hvo hS; go_simp; first | done | exact ⟨hS, rfl⟩ | exact hS | rfl) ?_
          go_simp
          refine chain_first rfl rfl rfl (by decide) rfl ?_ ?_
          · intro w' hS
            obtain rfl : w' = W.drew := hS
            go_simp
            refine (l2Own_any 4 xs[i].a _ _ _ HTW.out (by have := HWT.out; omega)).mono ?_
            rintro e w'' ⟨u0, u1, he, h1, h2⟩
            exact ⟨_, he, u0, u1, by rw [upd_same], h1, h2⟩
          intro y6
          go_simp
          refine chain_next 0 rfl rfl rfl rfl (by decide) rfl (by first | kernel_rfl | rfl) ?_ ?_
          · intro w' hS
            obtain ⟨u0, u1, hy, hcp⟩ := hS
            rw [upd_same] at hy
            subst hy
            go_simp
            exact ⟨u0, u1, by rw [upd_same], hcp⟩
          intro y7
          go_simp
          refine chain_next 1 rfl rfl rfl rfl (by decide) rfl (by first | kernel_rfl | rfl) ?_ ?_
          · intro w' hS
            obtain ⟨u0, u1, hy, hcp⟩ := hS
            rw [upd_same] at hy
            subst hy
            obtain ⟨o0, o1⟩ := hcp.one
            go_simp
            exact ⟨u0, u1, w', hcp, by rw [upd_same], rfl⟩
          intro y8
          go_simp
          refine chain_next 2 rfl rfl rfl rfl (by decide) rfl (by first | kernel_rfl | rfl) ?_ ?_
          · intro w' hS
            obtain ⟨u0, u1, w1', hcp, hy, rfl⟩ := hS
            rw [upd_same] at hy
            subst hy
            obtain ⟨o0, o1⟩ := hcp.one
            obtain ⟨vals, r1⟩ := HSW.out.own
            refine each_app1 (.tmp 36) (.tmp 44) _ rfl 0 57 3 48 elemLitI (.slice (some ⟨gb, o, none⟩) xs.length c0) xs.length vals rfl w1' #[.bool (!xs[i].pos), u0, u1] rfl rfl (own_below (own_below r1 (Below.refl _ _).drew) hcp.2) rfl (by intro u hu; simp at hu; rcases hu with rfl | rfl | rfl <;> first | assumption | rfl) (by omega) (by unfold maxLen; omega) (Nat.zero_le _) ?_
            intro v' w5 happ hg3 hnr hsz
            exact ⟨u0, u1, w1', hcp, by rw [upd_same]; exact happ, hg3, by rw [upd_same]; exact hnr, hsz⟩
          intro y9
          go_simp
          refine chain_next 3 rfl rfl rfl rfl (by decide) rfl (by first | kernel_rfl | rfl) ?_ ?_
          · intro w' hS
            obtain ⟨u0, u1, w1', hcp, happ, hg3, hnr, hsz⟩ := hS
            rw [upd_same] at happ hnr
            go_simp
            exact ⟨u0, u1, w1', hcp, by rw [upd_same]; exact happ, hg3, by rw [upd_same]; exact hnr, hsz⟩
          intro y10
          refine flowU_nil ?_
          intro wz hz
          obtain ⟨u0, u1, w1', hcp, happ, hg3, hnr, hsz⟩ := hz
          rw [upd_same] at happ hnr
          obtain ⟨vals, r1⟩ := HSW.out.own
          have r2 := own_below (own_below r1 (Below.refl _ _).drew) hcp.2
          have happ0 := happ 0 vals r2 (Nat.zero_le _)
          obtain ⟨q', c', rfl⟩ := own_form happ0 (Nat.succ_pos _)
          have HSD := HSW.out.later (gr_dr (gr_refl W g)) (HSW.out.cur.below (Below.refl _ _).drew)
          have hgb := gr_below (gr_refl W.drew g) hcp.2
          have HS1 := HSD.later hgb (HSD.cur.below hcp.2)
          have hzD := HSD.gr.size
          have hz1 := hgb.size
          have hrow := HSD.row.mono (S' := NewB w W.drew) (w' := w1') (R' := fun T l c => LitOwn 26 4 T w1' l c) (SameOn.below hcp.2) (fun _ h => h) (fun T x c _ hT hx => LitOwn.mono (Nat.le_refl _) (SameOn.below hcp.2) (fun _ h => h) hx)
          have HQ := Lib.hid ((HS1.snoc (wr := W.drew) (x := ⟨!xs[i].pos, xs[i].a⟩) (v' := .slice (some ⟨q', 0, none⟩) (xs.length + 1) c') ⟨_, _, rfl, hcp.1⟩ (fun b hb => ⟨by omega, hb.2, fun h => by have := h.2; omega⟩) hrow hz1 HWT.out r2 happ0 hg3 hnr (by omega)).more (n := m + 340) (by omega) (by omega))
          clear happ hg3 hnr hsz hrow HS1 hgb hcp HSD
          go_wp2_with fail
          go_ret
          refine ⟨.slice (some ⟨q', 0, none⟩) (xs.length + 1) c', ?_, xs ++ [⟨!xs[i].pos, xs[i].a⟩], by simp; omega, HQ.out⟩
          first | rfl | go_simp
      · have hx1 : ¬ (0 : Int) < (xs.length : Int) := by omega
        go_wp2_with fail
        go_ret
        exact ⟨_, rfl, xs, by omega, HT.out.more (by omega) (by omega)⟩
section
variable {P : Program} {ops : Array Oper} {md : Region.Mode} {vs : List (Option Value)} {D : (Nat → Value) → Array Bool → World → Prop}
theorem upd_comm (u : Nat → Value) {i j : Nat} (x y : Value) (h : i ≠ j) : upd (upd u i x) j y = upd (upd u j y) i x := by
  funext k
  unfold upd
  by_cases h1 : k = j
  · by_cases h2 : k = i
    · exact absurd (h2.symm.trans h1) h
    · rw [if_pos h1, if_neg h2, if_pos h1]
  · rw [if_neg h1]
    by_cases h2 : k = i
    · rw [if_pos h2, if_pos h2]
    · rw [if_neg h2, if_neg h2, if_neg h1]
def GV (P : Program) (md : Region.Mode) (ops : Array Oper) (D : (Nat → Value) → Array Bool → World → Prop) (o : Oper) (i : Nat) (a : Act) (u : Nat → Value) : Prop :=
  Region.wanted o (yielded ops a.tmps) = true ∧ ∀ u', (∀ e ∈ o.after, Region.binds md e = true → u' e.on = u e.on) → ∀ L w, L.getD i true = false → Behind md o L → D u' L w → eachUpon P (fun x w' => D (upd u' i x) (L.setIfInBounds i true) w') ((execOp a.eval o).run P w)
theorem GV.eval {o : Oper} {i : Nat} {a a' : Act} {u u' : Nat → Value} (h : GV P md ops D o i a u) (he : execOp a'.eval o = execOp a.eval o) (hw : Region.wanted o (yielded ops a'.tmps) = Region.wanted o (yielded ops a.tmps)) (hu : ∀ e ∈ o.after, Region.binds md e = true → u' e.on = u e.on) : GV P md ops D o i a' u' := by
  unfold GV at *
  rw [he, hw]
  exact ⟨h.1, fun v hv => h.2 v fun e h1 h2 => (hv e h1 h2).trans (hu e h1 h2)⟩
def opV (P : Program) (md : Region.Mode) (ops : Array Oper) (vs : List (Option Value)) (D : (Nat → Value) → Array Bool → World → Prop) (i : Nat) (K : Act → (Nat → Value) → Prop) (a : Act) (u : Nat → Value) : Prop :=
  ∃ o, ops[i]? = some o ∧ ((stB vs i = true ∧ GS P md ops vs D o i a ∧ K (a.put o.dst (baseV vs i)) u) ∨ (stB vs i = false ∧ GV P md ops D o i a u ∧ ∀ x, K (a.put o.dst x) (upd u i x)))
def anyV (P : Program) (md : Region.Mode) (ops : Array Oper) (vs : List (Option Value)) (D : (Nat → Value) → Array Bool → World → Prop) (Q : Array Bool → Act → (Nat → Value) → Prop) : Nat → Array Bool → Act → (Nat → Value) → Prop
  | 0, L, a, u => Region.ready md ops L = [] ∧ Q L a u
  | fuel + 1, L, a, u => (Region.ready md ops L = [] → Q L a u) ∧ ∀ i ∈ Region.ready md ops L, opV P md ops vs D i (anyV P md ops vs D Q fuel (L.setIfInBounds i true)) a u
theorem wpAny_of_anyV {Q : Array Bool → Act → (Nat → Value) → Prop} {Q' : Exit → Act → World → Prop} (hQ : ∀ L a u w, D u L w → Q L a u → Q' .normal a w) : ∀ (fuel : Nat) (L : Array Bool) (a : Act) (u : Nat → Value) (w : World), D u L w →
    anyV P md ops vs D Q fuel L a u → wpAny P md ops Q' fuel L a w
  | 0, _, _, _, _, hw, h => ⟨h.1, hQ _ _ _ _ hw h.2⟩
  | fuel + 1, L, a, u, w, hw, h => by
    refine ⟨fun h0 => hQ _ _ _ _ hw (h.1 h0), fun i hi => ?_⟩
    obtain ⟨o, ho, ⟨hs, hg, hK⟩ | ⟨hs, hg, hK⟩⟩ := h.2 i hi
    · exact wpOp_of_flowOp (C := D u) (K := fun a' => anyV P md ops vs D Q fuel (L.setIfInBounds i true) a' u) hi hw (fun a' w' hw' hK => wpAny_of_anyV hQ fuel _ a' u w' hw' hK) ⟨o, _, ho, hg u, hK⟩
    · obtain ⟨hun, oj, hoj, hall⟩ := mem_ready.1 hi
      obtain rfl : oj = o := Option.some.inj (hoj.symm.trans ho)
      have hbe : Behind md oj L := fun e he hb => by simpa using hall e he hb
      have h3 := hg.2 u (fun _ _ _ => rfl) L w hun hbe hw
      unfold wpOp
      simp only [ho]
      rw [if_pos hg.1]
      refine .inl ?_
      unfold Oper.wp
      generalize (execOp a.eval oj).run P w = r at *
      cases r with
      | ok n w' =>
        cases n <;> simp only [eachUpon] at h3 <;> simp only [Oper.upon]
        case value x => exact wpAny_of_anyV hQ fuel _ _ _ _ h3 (hK x)
        case skip => exact wpAny_of_anyV hQ fuel _ _ _ _ h3 (hK undef)
        case enter f args => exact h3.mono fun e w'' ⟨x, he, hw''⟩ => by subst he; exact wpAny_of_anyV hQ fuel _ _ _ _ hw'' (hK x)
      | halt x w' => simp only [eachUpon] at h3
theorem anyV_firstS {Q : Array Bool → Act → (Nat → Value) → Prop} {i : Nat} {oi : Oper} (hi : ops[i]? = some oi) (hst : stB vs i = true) (hsel : ∀ (j : Nat) (o : Oper) cs b, ops[j]? = some o → o.op ≠ .select cs b) :
    ∀ (fuel : Nat) (L : Array Bool) (a : Act) (u : Nat → Value),
      (∀ j oj, ops[j]? = some oj → j ≠ i → L.getD j true = false → (∀ e ∈ oj.after, Region.binds md e = true → e.on ≠ i) → oi.apart ops oj = true) →
      i ∈ Region.ready md ops L → GS P md ops vs D oi i a →
      anyV P md ops vs D Q fuel (L.setIfInBounds i true) (a.put oi.dst (baseV vs i)) u → anyV P md ops vs D Q (fuel + 1) L a u := by
  intro fuel
  induction fuel with
  | zero =>
    intro L a u _ hr hy H
    refine ⟨fun h => (by rw [h] at hr; cases hr), fun j hj => ?_⟩
    by_cases hji : j = i
    · subst hji; exact ⟨oi, hi, .inl ⟨hst, hy, H⟩⟩
    · have := ready_mono hj hji
      rw [H.1] at this
      cases this
  | succ fuel ih =>
    intro L a u hfree hr hy H
    refine ⟨fun h => (by rw [h] at hr; cases hr), fun j hj => ?_⟩
    by_cases hji : j = i
    · subst hji; exact ⟨oi, hi, .inl ⟨hst, hy, H⟩⟩
    · obtain ⟨hjun, oj, hoj, hall⟩ := mem_ready.1 hj
      have hnot : ∀ e ∈ oj.after, Region.binds md e = true → e.on ≠ i := fun e he hb heq => by
        have h1 := hall e he hb
        have h0 := (mem_ready.1 hr).1
        rw [heq] at h1
        rw [getD_tf h0] at h1; cases h1
      obtain ⟨p1, p2, p3⟩ := Oper.apart_spec (hfree j oj hoj hji hjun hnot)
      have hfree' : ∀ k ok, ops[k]? = some ok → k ≠ i → (L.setIfInBounds j true).getD k true = false →
          (∀ e ∈ ok.after, Region.binds md e = true → e.on ≠ i) → oi.apart ops ok = true := fun k ok hk hki hun hno => by
        refine hfree k ok hk hki ?_ hno
        by_cases hjk : j = k
        · subst hjk; exact hjun
        · rw [getD_set_ne true hjk] at hun; exact hun
      obtain ⟨o, ho, hcase⟩ := H.2 j (ready_mono hj hji)
      obtain rfl : oj = o := Option.some.inj (hoj.symm.trans ho)
      have hej := execOp_put oj (fun cs b => hsel j oj cs b hoj) a oi.dst (baseV vs i) p1
      have hwj := wanted_put (ops := ops) oj a oi.dst (baseV vs i) p1
      rcases hcase with ⟨hs, hg, hK⟩ | ⟨hs, hg, hK⟩
      · refine ⟨oj, hoj, .inl ⟨hs, hg.eval hej.symm hwj.symm, ih (L.setIfInBounds j true) _ u hfree' (ready_mono hr (Ne.symm hji)) (hy.eval (execOp_put oi (fun cs b => hsel i oi cs b hi) a oj.dst _ p3) (wanted_put oi a oj.dst _ p3)) ?_⟩⟩
        rw [Array.setIfInBounds_comm _ _ hji, ← Act.put_comm a _ _ p2]; exact hK
      · refine ⟨oj, hoj, .inr ⟨hs, hg.eval hej.symm hwj.symm (fun _ _ _ => rfl), fun x => ih (L.setIfInBounds j true) _ _ hfree' (ready_mono hr (Ne.symm hji)) (hy.eval (execOp_put oi (fun cs b => hsel i oi cs b hi) a oj.dst x p3) (wanted_put oi a oj.dst x p3)) ?_⟩⟩
        rw [Array.setIfInBounds_comm _ _ hji, ← Act.put_comm a _ _ p2]; exact hK x
theorem anyV_firstV {Q : Array Bool → Act → (Nat → Value) → Prop} {i : Nat} {oi : Oper} (hi : ops[i]? = some oi) (hst : stB vs i = false) (hsel : ∀ (j : Nat) (o : Oper) cs b, ops[j]? = some o → o.op ≠ .select cs b) :
    ∀ (fuel : Nat) (L : Array Bool) (a : Act) (u : Nat → Value),
      (∀ j oj, ops[j]? = some oj → j ≠ i → L.getD j true = false → (∀ e ∈ oj.after, Region.binds md e = true → e.on ≠ i) → oi.apart ops oj = true) →
      i ∈ Region.ready md ops L → GV P md ops D oi i a u →
      (∀ x, anyV P md ops vs D Q fuel (L.setIfInBounds i true) (a.put oi.dst x) (upd u i x)) → anyV P md ops vs D Q (fuel + 1) L a u := by
  intro fuel
  induction fuel with
  | zero =>
    intro L a u _ hr hy H
    refine ⟨fun h => (by rw [h] at hr; cases hr), fun j hj => ?_⟩
    by_cases hji : j = i
    · subst hji; exact ⟨oi, hi, .inr ⟨hst, hy, H⟩⟩
    · have := ready_mono hj hji
      rw [(H undef).1] at this
      cases this
  | succ fuel ih =>
    intro L a u hfree hr hy H
    refine ⟨fun h => (by rw [h] at hr; cases hr), fun j hj => ?_⟩
    by_cases hji : j = i
    · subst hji; exact ⟨oi, hi, .inr ⟨hst, hy, H⟩⟩
    · obtain ⟨hjun, oj, hoj, hall⟩ := mem_ready.1 hj
      have hnot : ∀ e ∈ oj.after, Region.binds md e = true → e.on ≠ i := fun e he hb heq => by
        have h1 := hall e he hb
        have h0 := (mem_ready.1 hr).1
        rw [heq] at h1
        rw [getD_tf h0] at h1; cases h1
      have hnoti : ∀ e ∈ oi.after, Region.binds md e = true → e.on ≠ j := fun e he hb heq => by
        obtain ⟨_, oi', hoi', hall'⟩ := mem_ready.1 hr
        obtain rfl : oi = oi' := Option.some.inj (hi.symm.trans hoi')
        have h1 := hall' e he hb
        rw [heq] at h1
        rw [getD_tf hjun] at h1; cases h1
      obtain ⟨p1, p2, p3⟩ := Oper.apart_spec (hfree j oj hoj hji hjun hnot)
      have hfree' : ∀ k ok, ops[k]? = some ok → k ≠ i → (L.setIfInBounds j true).getD k true = false →
          (∀ e ∈ ok.after, Region.binds md e = true → e.on ≠ i) → oi.apart ops ok = true := fun k ok hk hki hun hno => by
        refine hfree k ok hk hki ?_ hno
        by_cases hjk : j = k
        · subst hjk; exact hjun
        · rw [getD_set_ne true hjk] at hun; exact hun
      have hej : ∀ x, execOp (a.put oi.dst x).eval oj = execOp a.eval oj := fun x => execOp_put oj (fun cs b => hsel j oj cs b hoj) a oi.dst x p1
      have hwj : ∀ x, Region.wanted oj (yielded ops (a.put oi.dst x).tmps) = Region.wanted oj (yielded ops a.tmps) := fun x => wanted_put (ops := ops) oj a oi.dst x p1
      have hei : ∀ y, execOp (a.put oj.dst y).eval oi = execOp a.eval oi := fun y => execOp_put oi (fun cs b => hsel i oi cs b hi) a oj.dst y p3
      have hwi : ∀ y, Region.wanted oi (yielded ops (a.put oj.dst y).tmps) = Region.wanted oi (yielded ops a.tmps) := fun y => wanted_put (ops := ops) oi a oj.dst y p3
      cases hsj : stB vs j with
      | true =>
        have hx : ∀ x, GS P md ops vs D oj j a ∧ anyV P md ops vs D Q fuel ((L.setIfInBounds i true).setIfInBounds j true) ((a.put oi.dst x).put oj.dst (baseV vs j)) (upd u i x) := fun x => by
          obtain ⟨o, ho, hcase⟩ := (H x).2 j (ready_mono hj hji)
          obtain rfl : oj = o := Option.some.inj (hoj.symm.trans ho)
          rcases hcase with ⟨hs, hg, hK⟩ | ⟨hs, hg, hK⟩
          · exact ⟨hg.eval (hej x).symm (hwj x).symm, hK⟩
          · rw [hs] at hsj; cases hsj
        refine ⟨oj, hoj, .inl ⟨hsj, (hx undef).1, ih (L.setIfInBounds j true) _ u hfree' (ready_mono hr (Ne.symm hji)) (hy.eval (hei _) (hwi _) (fun _ _ _ => rfl)) fun x => ?_⟩⟩
        rw [Array.setIfInBounds_comm _ _ hji, ← Act.put_comm a _ _ p2]; exact (hx x).2
      | false =>
        have hx : ∀ x, GV P md ops D oj j a u ∧ ∀ y, anyV P md ops vs D Q fuel ((L.setIfInBounds i true).setIfInBounds j true) ((a.put oi.dst x).put oj.dst y) (upd (upd u i x) j y) := fun x => by
          obtain ⟨o, ho, hcase⟩ := (H x).2 j (ready_mono hj hji)
          obtain rfl : oj = o := Option.some.inj (hoj.symm.trans ho)
          rcases hcase with ⟨hs, hg, hK⟩ | ⟨hs, hg, hK⟩
          · rw [hs] at hsj; cases hsj
          · exact ⟨hg.eval (hej x).symm (hwj x).symm (fun e h1 h2 => (upd_other u x (hnot e h1 h2)).symm), hK⟩
        refine ⟨oj, hoj, .inr ⟨hsj, (hx undef).1, fun y => ih (L.setIfInBounds j true) _ _ hfree' (ready_mono hr (Ne.symm hji)) (hy.eval (hei y) (hwi y) (fun e h1 h2 => upd_other u y (hnoti e h1 h2))) fun x => ?_⟩⟩
        rw [Array.setIfInBounds_comm _ _ hji, ← Act.put_comm a _ _ p2, ← upd_comm u x y (Ne.symm hji)]; exact (hx x).2 y
def flowV (P : Program) (md : Region.Mode) (ops : Array Oper) (vs : List (Option Value)) (D : (Nat → Value) → Array Bool → World → Prop) (Q : Act → (Nat → Value) → Prop) : Nat → List Oper → Act → (Nat → Value) → Prop
  | _, [], a, u => Q a u
  | k, o :: rest, a, u => (stB vs k = true ∧ GS P md ops vs D o k a ∧ flowV P md ops vs D Q (k + 1) rest (a.put o.dst (baseV vs k)) u) ∨ (stB vs k = false ∧ GV P md ops D o k a u ∧ ∀ x, flowV P md ops vs D Q (k + 1) rest (a.put o.dst x) (upd u k x))
theorem anyV_lex {Q : Act → (Nat → Value) → Prop} (hs : Region.noSelect ops = true) : ∀ (l : List Oper) (k : Nat) (L : Array Bool) (a : Act) (u : Nat → Value), (∀ j, l[j]? = ops[k + j]?) → L.size = ops.size → k + l.length = ops.size → (∀ i, i < k → L.getD i false = true) →
    Region.lexFrom md ops l.length k L = true → flowV P md ops vs D Q k l a u → anyV P md ops vs D (fun L a u => (∀ i, i < ops.size → L.getD i false = true) ∧ Q a u) l.length L a u
  | [], k, _, _, _, _, _, hk, hall, hB, h => ⟨by simpa [Region.lexFrom] using hB, fun i hi => hall i (by simp at hk; omega), h⟩
  | o :: l, k, L, a, u, hl, hz, hk, hall, hB, h => by
    have h0 : ops[k]? = some o := by simpa using (hl 0).symm
    simp only [List.length_cons, Region.lexFrom, Bool.and_eq_true] at hB
    obtain ⟨⟨hr, hf⟩, hB'⟩ := hB
    have hlt : k < L.size := by simp only [List.length_cons] at hk; omega
    have hrk : k ∈ Region.ready md ops L := by simpa using hr
    have next : ∀ a u, flowV P md ops vs D Q (k + 1) l a u → anyV P md ops vs D (fun L a u => (∀ i, i < ops.size → L.getD i false = true) ∧ Q a u) l.length (L.setIfInBounds k true) a u := fun a u hK =>
      anyV_lex hs l (k + 1) _ _ u (fun j => by have := hl (j + 1); simpa [Nat.add_assoc, Nat.add_comm 1 j] using this) (by simpa using hz) (by simp only [List.length_cons] at hk; omega)
        (fun i hi => by
          by_cases hik : i = k
          · subst hik; simp [hlt]
          · rw [getD_set_ne false (Ne.symm hik)]; exact hall i (by omega)) hB' hK
    rcases h with ⟨hst, hy, hK⟩ | ⟨hst, hy, hK⟩
    · exact anyV_firstS h0 hst (Region.noSelect_spec hs) l.length L a u (Region.free_spec h0 hf) hrk hy (next _ _ hK)
    · exact anyV_firstV h0 hst (Region.noSelect_spec hs) l.length L a u (Region.free_spec h0 hf) hrk hy (fun x => next _ _ (hK x))
theorem wp_region_any3 {id : Nat} {Q : Exit → Act → World → Prop} {a : Act} {w : World} {l : List Oper} (vs : List (Option Value)) (D : (Nat → Value) → Array Bool → World → Prop) (hm : P.follows .mixedOrders = true) (hB : Region.lexB .any l.toArray = true)
    (hC : ∀ L : Array Bool, (∀ i, L.getD i false = false) → D (fun _ => undef) L w.drew)
    (h : flowV P .any l.toArray vs D (fun a' u => ∀ L w', (∀ i, i < l.length → L.getD i false = true) → D u L w' → Q .normal a' w') 0 l a (fun _ => undef)) : (Code.region id l.toArray true).wp P Q a w := by
  simp only [Region.lexB, Bool.and_eq_true] at hB
  refine wp_region_any hm (wpAny_of_anyV (vs := vs) (D := D) (Q := fun L a u => (∀ i, i < l.toArray.size → L.getD i false = true) ∧ ∀ L w', (∀ i, i < l.length → L.getD i false = true) → D u L w' → Q .normal a w')
    (fun L a u w' hw' h => h.2 L w' (by simpa using h.1) hw') _ _ _ (fun _ => undef) _ (hC _ (fun i => getD_replicate_none _ _)) ?_)
  have := anyV_lex hB.1 l 0 (Array.replicate l.length false) a (fun _ => undef) (by simp) (by simp) (by simp) (fun i hi => absurd hi (by omega)) (by simpa using hB.2) h
  simpa using this
theorem flowV_st {Q : Act → (Nat → Value) → Prop} {k : Nat} {o : Oper} {rest : List Oper} {a : Act} {u : Nat → Value} (hs : stB vs k = true) (hg : o.guard = none)
    (h1 : ∀ u L w, L.getD k true = false → Behind md o L → D u L w → goesUpon P (D u (L.setIfInBounds k true)) (baseV vs k) ((execOp a.eval o).run P w)) (h2 : flowV P md ops vs D Q (k + 1) rest (a.put o.dst (baseV vs k)) u) : flowV P md ops vs D Q k (o :: rest) a u :=
  .inl ⟨hs, fun u => .inl ⟨by simp [Region.wanted, hg], h1 u⟩, h2⟩
theorem flowV_ch {Q : Act → (Nat → Value) → Prop} {k : Nat} {o : Oper} {rest : List Oper} {a : Act} {u : Nat → Value} (hs : stB vs k = false) (hg : o.guard = none)
    (h1 : ∀ u', (∀ e ∈ o.after, Region.binds md e = true → u' e.on = u e.on) → ∀ L w, L.getD k true = false → Behind md o L → D u' L w → eachUpon P (fun x w' => D (upd u' k x) (L.setIfInBounds k true) w') ((execOp a.eval o).run P w)) (h2 : ∀ x, flowV P md ops vs D Q (k + 1) rest (a.put o.dst x) (upd u k x)) : flowV P md ops vs D Q k (o :: rest) a u :=
  .inr ⟨hs, ⟨by simp [Region.wanted, hg], h1⟩, h2⟩
theorem flowV_nil {Q : Act → (Nat → Value) → Prop} {k : Nat} {a : Act} {u : Nat → Value} (h : Q a u) : flowV P md ops vs D Q k [] a u := h
end
end Go.Proofs.YtkgfanajgdelcaaGreat
