/- Valid units: the program's. Conditions: sizes. -/
import Derived.Laws.Cover1
import Derived.Test.YtkgfanajgdelcaaGreatDoorUnPart1
import Derived.Test.YtkgfanajgdelcaaGreatDoorUnPart3
import Derived.Test.YtkgfanajgdelcaaGreatDoorUnPart5
import Derived.Test.YtkgfanajgdelcaaGreatDoorUnPart6
import Derived.Test.YtkgfanajgdelcaaGreatDoorUnPart7
namespace Go.Proofs.YtkgfanajgdelcaaGreatDoor
open Go.RowKit Go.Maps
structure ISt (m g top : Nat) (s : ByteArray) (w : World) (bt : Nat) (F : Fm) (p : PSt) (y0 y1 y2 y3 y4 : Value) (W : World) : Prop where
  at_ : PAt 190 W g s p
  gr : w.grownBy W (some g)
  res : W.heap[w.heap.size]? = some (.cells #[.int .i64 0, .string ⟨#[]⟩, .slice none 0 0, .string ⟨#[]⟩, .slice none 0 0] 44 (0, 0))
  cellb : W.heap[bt]? = some (.cells #[y0, y1, y2, y3, y4] 44 (0, 0))
  fm : FmV m (fun b => w.heap.size < b ∧ b ≠ bt ∧ b < top) W F (.agg #[y0, y1, y2, y3, y4])
  lt : g < w.heap.size ∧ w.heap.size < bt ∧ bt < W.heap.size ∧ top ≤ W.heap.size
theorem ISt.form {m g top : Nat} {s : ByteArray} {w W : World} {bt : Nat} {F : Fm} {p : PSt} {y0 y1 y2 y3 y4 : Value} (h : ISt m g top s w bt F p y0 y1 y2 y3 y4 W) : ∃ q1 d1 q2 d2, y0 = .int .i64 F.op ∧ y1 = .string F.a.n ∧ y2 = .slice q1 F.a.us.length d1 ∧ y3 = .string F.v ∧ y4 = .slice q2 F.ps.length d2 := by
  obtain ⟨v0, v1, v2, v3, v4, he, hO⟩ := h.fm
  simp only [Value.agg.injEq, Array.mk.injEq, List.cons.injEq, and_true] at he
  obtain ⟨rfl, rfl, rfl, rfl, rfl⟩ := he
  obtain ⟨q1, d1, q2, d2, h1, h2, h3, h4, h5, -⟩ := hO.form
  exact ⟨q1, d1, q2, d2, h1, h2, h3, h4, h5⟩
theorem ISt.move {m g top r : Nat} {s : ByteArray} {w W W' : World} {bt : Nat} {F : Fm} {p p' : PSt} {y0 y1 y2 y3 y4 : Value} (h : ISt m g top s w bt F p y0 y1 y2 y3 y4 W) (hP : PAt 190 W' g s p') (hG : W.grownBy W' (some r)) (hr : r = g ∨ (w.heap.size < r ∧ r ≠ bt ∧ top ≤ r)) : ISt m g top s w bt F p' y0 y1 y2 y3 y4 W' := by
  obtain ⟨l1, l2, l3, l4⟩ := h.lt
  have hz := hG.size
  obtain ⟨v0, v1, v2, v3, v4, he, hO⟩ := h.fm
  have hgz := h.gr.size
  refine ⟨hP, ⟨hG.os.trans h.gr.os, hG.tape.trans h.gr.tape, hG.output.trans h.gr.output, by omega, fun b hb hne => ?_⟩, (hG.block _ (by omega) (by simp; omega)).trans h.res, (hG.block _ l3 (by simp; omega)).trans h.cellb, ⟨_, _, _, _, _, he, FmOwn.mono _ _ _ _ (Nat.le_refl _) (fun b hb _ => hG.block b (by omega) (by simp; omega)) (fun _ h => h) hO⟩, l1, l2, by omega, by omega⟩
  have h1 : ¬ b = g := by simpa using hne
  exact (hG.block b (by omega) (by simp; omega)).trans (h.gr.block b hb hne)
theorem ISt.step {m g top : Nat} {s : ByteArray} {w W W' : World} {bt : Nat} {F : Fm} {p p' : PSt} {y0 y1 y2 y3 y4 : Value} (h : ISt m g top s w bt F p y0 y1 y2 y3 y4 W) (hP : PAt 190 W' g s p') (hG : W.grownBy W' (some g)) : ISt m g top s w bt F p' y0 y1 y2 y3 y4 W' := h.move hP hG (.inl rfl)
theorem ISt.later {m g top : Nat} {s : ByteArray} {w W W' : World} {bt : Nat} {F : Fm} {p : PSt} {y0 y1 y2 y3 y4 : Value} (h : ISt m g top s w bt F p y0 y1 y2 y3 y4 W) (hb : Below W.heap.size W W') : ISt m g top s w bt F p y0 y1 y2 y3 y4 W' :=
  h.move (h.at_.below hb) ⟨hb.os, hb.tape, hb.output, hb.size, fun b hlt _ => hb.block b hlt⟩ (.inl rfl)
def InnSt (m g bt : Nat) (s : ByteArray) (F : Fm) (pq : PSt) (w0 : World) (CP : Value → World → Prop) (y0 y1 y2 y3 y4 : Value) (W : World) : Nat → (Nat → Value) → World → Prop
  | 0, _, w => w = W.drew
  | 1, u, w => CP (u 3) w
  | 2, u, w => w.heap[bt]? = some (.cells #[y0, y1, y2, y3, y4] 44 (0, 0)) ∧ FmV m (fun b => w0.heap.size < b ∧ b ≠ bt ∧ b < w.heap.size) w F (u 4) ∧ PAt 190 w g s pq ∧ W.grownBy w (some g)
  | 3, _, w => ∃ w5 z0 z1 z2 z3 z4, (w5.heap[bt]? = some (.cells #[y0, y1, y2, y3, y4] 44 (0, 0)) ∧ FmV m (fun b => w0.heap.size < b ∧ b ≠ bt ∧ b < w5.heap.size) w5 F (.agg #[z0, z1, z2, z3, z4]) ∧ PAt 190 w5 g s pq ∧ W.grownBy w5 (some g)) ∧ w = ((((w5.setCell ⟨bt, 0, none⟩ z0).setCell ⟨bt, 1, none⟩ z1).setCell ⟨bt, 2, none⟩ z2).setCell ⟨bt, 3, none⟩ z3).setCell ⟨bt, 4, none⟩ z4
  | _, _, _ => False
theorem ISt.set {m m' g top : Nat} {s : ByteArray} {w W w5 : World} {bt : Nat} {F F' : Fm} {p pq : PSt} {y0 y1 y2 y3 y4 z0 z1 z2 z3 z4 : Value} (h : ISt m g top s w bt F p y0 y1 y2 y3 y4 W) (hb : w5.heap[bt]? = some (.cells #[y0, y1, y2, y3, y4] 44 (0, 0))) (hF : FmV m' (fun b => w.heap.size < b ∧ b ≠ bt ∧ b < w5.heap.size) w5 F' (.agg #[z0, z1, z2, z3, z4])) (hP : PAt 190 w5 g s pq) (hG : W.grownBy w5 (some g)) :
    ISt m' g w5.heap.size s w bt F' pq z0 z1 z2 z3 z4 (((((w5.setCell ⟨bt, 0, none⟩ z0).setCell ⟨bt, 1, none⟩ z1).setCell ⟨bt, 2, none⟩ z2).setCell ⟨bt, 3, none⟩ z3).setCell ⟨bt, 4, none⟩ z4) := by
  obtain ⟨l1, l2, l3, l4⟩ := h.lt
  have hz := hG.size
  have hgz := h.gr.size
  have hk : ∀ b, b ≠ bt → (((((w5.setCell ⟨bt, 0, none⟩ z0).setCell ⟨bt, 1, none⟩ z1).setCell ⟨bt, 2, none⟩ z2).setCell ⟨bt, 3, none⟩ z3).setCell ⟨bt, 4, none⟩ z4).heap[b]? = w5.heap[b]? := fun b hb => by
    repeat rw [heap_setCell_other _ _ _ _ (fun e => hb e)]
  obtain ⟨v0, v1, v2, v3, v4, he, hO⟩ := hF
  have G := gr_trans h.gr hG
  refine ⟨(hk g (by omega)).trans hP, gr_sc (gr_sc (gr_sc (gr_sc (gr_sc G (.inr (by simp; omega)) _) (.inr (by simp; omega)) _) (.inr (by simp; omega)) _) (.inr (by simp; omega)) _) (.inr (by simp; omega)) _, (hk _ (by omega)).trans ((hG.block _ (by omega) (by simp; omega)).trans h.res), ?_, ⟨_, _, _, _, _, he, FmOwn.mono _ _ _ _ (Nat.le_refl _) (fun b hb _ => hk b hb.2.1) (fun _ h => h) hO⟩, l1, l2, by simp; omega, by simp⟩
  have h1 := heap_setCell_same _ bt 0 _ 44 z0 hb
  have h2 := heap_setCell_same _ bt 1 _ 44 z1 h1
  have h3 := heap_setCell_same _ bt 2 _ 44 z2 h2
  have h4 := heap_setCell_same _ bt 3 _ 44 z3 h3
  have h5 := heap_setCell_same _ bt 4 _ 44 z4 h4
  simpa using h5
def FrmC (f : Nat) : Prop := ∀ (g : Nat) (s : ByteArray) (p : PSt) (w : World), PAt 190 w g s p → p.pos ≤ s.size → s.size ≤ 1000000 → 2 * (s.size - p.pos) + 1 < f →
    Calls Tryz.prog 186 #[.pointer (some ⟨g, 0, none⟩)] w fun e w' => ∃ x, e = .returned x ∧ FmP (f + s.size + 6) g s (pFrm s.data.toList f p).1 (pFrm s.data.toList f p).2 w x w'
def InnRel (m g bt r b : Nat) (s : ByteArray) (w : World) (F : Fm) (p : PSt) (y0 y1 y2 y3 y4 : Value) (wr : World) : Prop :=
  ∃ left cnt, wr.ranges Tryz.prog 3 (plainElem (H := Unit) Tryz.prog 9) b r 3 D8 left cnt ∧ ISt m g bt s w bt F p y0 y1 y2 y3 y4 wr ∧ (∀ x : Int, x = 5 ∨ x = 6 ∨ x = 7 → left (.int .i64 x) = false → pTake s.data.toList (sign8 x) p = false)
set_option maxRecDepth 100000 in
set_option maxHeartbeats 6400000 in
theorem inner_of (f : Nat) (ih : FrmC f) (g : Nat) (s : ByteArray) (p : PSt) (w : World) (h : PAt 190 w g s p) (hp : p.pos ≤ s.size) (hs : s.size ≤ 1000000) (hf : 2 * (s.size - p.pos) + 1 < f) :
    Calls Tryz.prog 228 #[.pointer (some ⟨g, 0, none⟩)] w fun e w' => ∃ x, e = .returned x ∧ FmP (f + 1 + s.size + 6) g s (pInn s.data.toList (f + 1) p).1 (pInn s.data.toList (f + 1) p).2 w x w' := by
  have H := Lib.hid h
  have hg := bsz h.lt
  have IH := Lib.hid ih
  have hpos := pFrm_wt s.data.toList f p (by rw [← size_list]; exact hp)
  have HINN := Lib.hid (show pInn s.data.toList (f + 1) p = if pSign s.data.toList (pFrm s.data.toList f p).2 = 0 then ((pFrm s.data.toList f p).1, pMust s.data.toList [41] (pFrm s.data.toList f p).2)
    else (opF (pSign s.data.toList (pFrm s.data.toList f p).2) [(pFrm s.data.toList f p).1, (pFrm s.data.toList f (pAdv (sign8 (pSign s.data.toList (pFrm s.data.toList f p).2)) (pFrm s.data.toList f p).2)).1], pMust s.data.toList [41] (pFrm s.data.toList f (pAdv (sign8 (pSign s.data.toList (pFrm s.data.toList f p).2)) (pFrm s.data.toList f p).2)).2) by rw [pInn])
  clear h ih
  go_enter Tryz.func228, Tryz.ntmps228
  go_wp2_with fail
  refine (IH.out g s p _ (H.out.below (by exact bel)) hp hs hf).mono ?_
  rintro e w1 ⟨x, rfl, ⟨v0, v1, v2, v3, v4, rfl, hO⟩, hP1, hg1⟩
  obtain ⟨q1, d1, q2, d2, rfl, rfl, rfl, rfl, rfl, -⟩ := hO.form
  generalize pFrm s.data.toList f p = r at *
  obtain ⟨F1, p1⟩ := r
  simp only at hpos hO hP1 HINN ⊢
  rw [← size_list] at hpos
  have hz1 := hg1.size
  (try simp at hz1)
  have HI1 := Lib.hid (show ISt (f + s.size + 6) g w1.heap.size s w w1.heap.size F1 p1 _ _ _ _ _ (w1.alloc (.cells #[.int .i64 F1.op, .string F1.a.n, .slice q1 F1.a.us.length d1, .string F1.v, .slice q2 F1.ps.length d2] 44)) from
    ⟨(hao w1 _ g (by omega)).trans hP1, gr_al (gr_trans (gr_al (gr_refl w g) _) hg1) _, (hao w1 _ _ (by omega)).trans ((hg1.block _ (by simp) (by simp; omega)).trans (heap_alloc_new w _)), heap_alloc_new w1 _,
      ⟨_, _, _, _, _, rfl, FmOwn.mono _ _ _ _ (Nat.le_refl _) (fun b hb _ => hao w1 _ b (by omega)) (fun b hb => by have := hb.1; simp at this; exact ⟨by omega, by have := hb.2; omega, hb.2⟩) hO⟩, by omega, by omega, by simp, by simp⟩)
  clear hO hP1 hg1
  go_wp2_with fail
  refine (signs_any _).mono ?_
  rintro e w2 ⟨b, rfl, hmap, hbb, hb2⟩
  have HI2 := Lib.hid (HI1.out.later hb2)
  have hq2 := hb2.size
  (try simp at hq2 hbb)
  clear HI1 hb2
  go_wp2_with (first | (at_range; refine wpList_range_own _ rfl _ 217 rfl 3 9 (int_keyed Tryz.underlying3) Tryz.underlying217 _ b 3 D8 rfl hmap ?_; intro w3 hrg hg3 hs3))
  go_frame
  have HI3 := Lib.hid (HI2.out.later (⟨hg3.os, hg3.tape, hg3.output, hg3.size, fun b hb => hg3.block b hb (by simp)⟩ : Below w2.heap.size w2 w3))
  clear HI2 hmap hg3
  have HPS := Lib.hid hpos
  clear hpos
  go_loopw [4, 5] (fun _ _ wr => InnRel (f + s.size + 6) g w1.heap.size w2.heap.size b s w F1 p1 (.int .i64 F1.op) (.string F1.a.n) (.slice q1 F1.a.us.length d1) (.string F1.v) (.slice q2 F1.ps.length d2) wr) (fun _ _ wr => wr.rangeLeft b w2.heap.size)
  case atStart => exact ⟨_, _, hrg, HI3.out, fun x hx hl => by rcases hx with rfl | rfl | rfl <;> exact absurd hl (by decide)⟩
  case round =>
    obtain ⟨left, cnt, hrg, hI, hno⟩ := hrel
    have HIR := Lib.hid hI
    have HNO := Lib.hid hno
    have HRG := Lib.hid hrg
    clear hI hno HI3
    go_wp2_with (first | (at_next; refine wpList_next_ranges_is _ rfl _ rfl 3 9 .i64 (int_keyed Tryz.underlying3) Tryz.underlying3 Tryz.underlying9 b w2.heap.size 3 D8 left cnt rfl hrg ?_ ?_))
    · intro hc0 hl0
      have HFIN := Lib.hid (show pInn s.data.toList (f + 1) p = (F1, pMust s.data.toList [41] p1) by rw [HINN.out, if_pos (pSign_no fun x hx => HNO.out x hx (hl0 _))])
      have HI := Lib.hid HIR.out
      have hpe2 := HPS.out.2
      obtain ⟨pe, hpe⟩ : ∃ pe, p1 = pe := ⟨_, rfl⟩
      obtain ⟨FE, hFE⟩ : ∃ FE, F1 = FE := ⟨_, rfl⟩
      clear hrg hl0 HNO HRG HIR
      go_wp2_with fail
      subst hpe
      refine (must_any g s _ p1 _ (PAt.below HI.out.at_ (by exact bel)) hpe2 (by omega) (by decide)).mono ?_
      rw [show (⟨#[41]⟩ : ByteArray).data.toList = [41] from rfl]
      rintro e w9 ⟨_, rfl, rfl, h9, hg9⟩
      have HI9 := Lib.hid (HI.out.step h9 hg9)
      clear h9 hg9
      obtain ⟨b0, b1, b2, b3, b4, bf⟩ := cells5_cell HI9.out.cellb
      obtain ⟨r0, r1, r2, r3, r4, rf⟩ := cells5_cell HI9.out.res
      have hrb := bsz (heap_lt HI9.out.res)
      have hbb := bsz (heap_lt HI9.out.cellb)
      have hlt9 := HI9.out.lt
      go_wp2
      refine bodyPost_ret (v := .agg #[.int .i64 F1.op, .string F1.a.n, .slice q1 F1.a.us.length d1, .string F1.v, .slice q2 F1.ps.length d2]) (by simp only [results, Tryz.results228]; go_simp) rfl ⟨_, rfl, ?_⟩
      rw [HFIN.out]
      exact FmP.mono (by omega) (FmP.of HI9.out.at_ HI9.out.gr (Below.refl _ _) HI9.out.fm (fun b hb => ⟨hb.1, by omega⟩) (Nat.le_refl _) hlt9.1 _ _ _ _ _)
    · intro x c w4 cnt' hwx hwc hlx hat hrg4 hlt hg4 hs4 hen
      obtain ⟨hx, hc⟩ := D8_entry hat
      have hl := HIR.out.lt
      have HI4 := Lib.hid (HIR.out.move ((hg4.block g (by omega) (by simp; omega)).trans HIR.out.at_) hg4 (.inr ⟨by omega, by omega, by omega⟩))
      have hcs : c.size ≤ 4 := by rw [size_list, hc]; exact (sign8_len x).2
      have HX := Lib.hid hx
      have HC := Lib.hid hc
      have HRG4 := Lib.hid hrg4
      have hbg : b ≠ g := by omega
      have hxi : -9223372036854775808 ≤ x ∧ x ≤ 9223372036854775807 := by omega
      clear hrg hat hrg4 hx hc hg4 hlx HIR
      cases hT : pTake s.data.toList (sign8 x) p1
      · have HT := Lib.hid hT
        clear hT
        go_wp2_with fail
        refine (take_any g s c p1 _ (PAt.below HI4.out.at_ (by exact bel)) HPS.out.2 (by omega) (by omega)).mono ?_
        rw [HC.out, HT.out]
        rintro e w5 ⟨_, rfl, rfl, h5, hg5⟩
        have HI5 := Lib.hid (HI4.out.step (p' := p1) h5 hg5)
        have HRG5 := Lib.hid (HRG4.out.kept hg5 (by simp; omega) (by simp; omega))
        clear h5 hg5
        go_wp2
        refine ⟨⟨_, cnt', HRG5.out, HI5.out, fun y hy hl => ?_⟩, ?_⟩
        · have hl : (left (.int .i64 y) && !(Lit.int .i64 y).sameKey (.int .i64 x)) = false := hl
          have hX := HX.out
          have hTT := HT.out
          have hN := HNO.out y hy
          rcases hX with rfl | rfl | rfl <;> rcases hy with rfl | rfl | rfl <;> first | exact hTT | exact hN (by simpa [Lit.sameKey] using hl)
        · rw [HRG5.out.left_eq, HRG.out.left_eq]; exact hlt
      · have HT := Lib.hid hT
        have hle := pTake_le hT (by rw [← size_list]; exact HPS.out.2)
        rw [← size_list] at hle
        have h3 := (sign8_len x).1
        have HFIN0 := Lib.hid (show pInn s.data.toList (f + 1) p = (opF x [F1, (pFrm s.data.toList f (pAdv (sign8 x) p1)).1], pMust s.data.toList [41] (pFrm s.data.toList f (pAdv (sign8 x) p1)).2) by
          have hS := pSign_of HX.out hT
          have hX := HX.out
          rw [HINN.out, hS, if_neg (by omega)])
        clear hT
        go_wp2_with fail
        refine (take_any g s c p1 _ (PAt.below HI4.out.at_ (by exact bel)) HPS.out.2 (by omega) (by omega)).mono ?_
        rw [HC.out, HT.out]
        rintro e w5 ⟨_, rfl, rfl, h5, hg5⟩
        have HI5 := Lib.hid (HI4.out.step (p' := pAdv (sign8 x) p1) h5 hg5)
        have hl5 := HI5.out.lt
        clear h5 hg5
        go_wp2
        obtain ⟨F2, hF2⟩ : ∃ F2, (pFrm s.data.toList f (pAdv (sign8 x) p1)).1 = F2 := ⟨_, rfl⟩
        obtain ⟨pq, hpq⟩ : ∃ pq, (pFrm s.data.toList f (pAdv (sign8 x) p1)).2 = pq := ⟨_, rfl⟩
        have HF2 := Lib.hid hF2
        have HPQ := Lib.hid hpq
        have HRD := Lib.hid (show (pAdv (sign8 x) p1).pos ≤ s.size ∧ 2 * (s.size - (pAdv (sign8 x) p1).pos) + 1 < f by have := HPS.out; simp only [pAdv]; omega)
        have hpp := pFrm_wt s.data.toList f (pAdv (sign8 x) p1) (by rw [← size_list]; exact HRD.out.1)
        rw [hpq, ← size_list] at hpp
        have hpe2 := hpp.2
        have HFIN := Lib.hid (show pInn s.data.toList (f + 1) p = (opF x [F1, F2], pMust s.data.toList [41] pq) by rw [HFIN0.out, hF2, hpq])
        clear hF2 hpq hpp HFIN0
        obtain ⟨CP, hCP0⟩ : ∃ CP : Value → World → Prop, CP = FmP (f + s.size + 6) g s F2 pq w5.drew := ⟨_, rfl⟩
        have HCP := Lib.hid hCP0
        have HGR := Lib.hid (show ∀ x w', CP x w' → w5.grownBy w' (some g) from by
          rw [hCP0]; rintro x w' ⟨_, _, hG⟩; exact ⟨hG.os, hG.tape, hG.output, hG.size, hG.block⟩)
        clear hCP0
        refine wp_region_stages [some (.int .i64 x), some (.agg #[.int .i64 F1.op, .string F1.a.n, .slice q1 F1.a.us.length d1, .string F1.v, .slice q2 F1.ps.length d2]), some (.pointer (some ⟨g, 0, none⟩)), none, none, none] [3, 4, 5] (InnSt (f + s.size + 7) g w1.heap.size s (opF x [F1, F2]) pq w CP (.int .i64 F1.op) (.string F1.a.n) (.slice q1 F1.a.us.length d1) (.string F1.v) (.slice q2 F1.ps.length d2) w5) (by kernel_rfl) (by kernel_rfl) (by first | kernel_rfl | rfl) (by rfl) rfl ?_
        refine chain_st rfl rfl (by decide) rfl (by intro j u w' hS; go_simp; first | done | exact ⟨hS, rfl⟩ | exact hS | rfl) ?_
        go_simp
        refine chain_stb (c := 4) 1 rfl rfl (by decide) rfl rfl rfl (by first | kernel_rfl | rfl) ?_ ?_
        · intro j u w' hj hS
          obtain ⟨hc0, hc1, hc2, hc3, hc4, -⟩ : w'.cell? ⟨w1.heap.size, 0, none⟩ = some (.int .i64 F1.op) ∧ w'.cell? ⟨w1.heap.size, 1, none⟩ = some (.string F1.a.n) ∧ w'.cell? ⟨w1.heap.size, 2, none⟩ = some (.slice q1 F1.a.us.length d1) ∧ w'.cell? ⟨w1.heap.size, 3, none⟩ = some (.string F1.v) ∧ w'.cell? ⟨w1.heap.size, 4, none⟩ = some (.slice q2 F1.ps.length d2) ∧ (∀ j, w'.frozen? ⟨w1.heap.size, j, none⟩ = false) := by
            match j, hj, hS with
            | 0, _, h => obtain rfl : w' = w5.drew := h; exact cells5_cell HI5.out.cellb
            | 1, _, h => exact cells5_cell (((HGR.out _ _ h).block _ hl5.2.2.1 (by simp; omega)).trans HI5.out.cellb)
          go_simp
          first | done | exact ⟨hS, rfl⟩ | exact hS | rfl
        go_simp
        refine chain_st rfl rfl (by decide) rfl (by intro j u w' hS; go_simp; first | done | exact ⟨hS, rfl⟩ | exact hS | rfl) ?_
        go_simp
        refine chain_first rfl rfl rfl (by decide) rfl ?_ ?_
        · intro w' hS
          obtain rfl : w' = w5.drew := hS
          go_simp
          refine (IH.out g s _ _ (PAt.below HI5.out.at_ (by exact bel)) HRD.out.1 hs HRD.out.2).mono ?_
          rintro e w'' ⟨x', he, hx'⟩
          rw [HF2.out, HPQ.out] at hx'
          exact ⟨x', he, by show CP (upd _ 3 x' 3) w''; rw [upd_same, HCP.out]; exact hx'⟩
        intro xv
        go_simp
        refine chain_next 0 rfl rfl rfl rfl (by decide) rfl (by first | kernel_rfl | rfl) ?_ ?_
        · intro w' hS
          have hS : CP (upd _ 3 xv 3) w' := hS
          rw [upd_same] at hS
          have hG := HGR.out _ _ hS
          have HGX := Lib.hid hG
          rw [HCP.out] at hS
          have HS := Lib.hid hS
          have hzz := hG.size
          have HI6 := Lib.hid (HI5.out.step HS.out.2.1 hG)
          clear hG hS
          go_simp
          refine (binary_any (f + s.size + 5) x hxi (fun b => w.heap.size < b ∧ b ≠ w1.heap.size ∧ b < w1.heap.size) (NewB w5.drew w') F1 F2 _ xv w' HI6.out.fm HS.out.1 (fun b hb => by omega) (fun b hb => hb.2) (fun b hb hb' => by have := hb'.1; have : w5.heap.size ≤ b := this; omega)).mono ?_
          rintro e w6 ⟨y, rfl, hV, hb6⟩
          refine ⟨y, rfl, ?_⟩
          show InnSt _ _ _ _ _ _ _ _ _ _ _ _ _ _ 2 (upd _ 4 y) w6
          have hq6 := hb6.size
          refine ⟨(hb6.block _ (by omega)).trans HI6.out.cellb, ?_, HI6.out.at_.below hb6, gr_below HGX.out hb6⟩
          rw [upd_same]
          obtain ⟨y0, y1, y2, y3, y4, rfl, hO5⟩ := hV
          refine ⟨_, _, _, _, _, rfl, FmOwn.mono _ _ _ _ (Nat.le_refl _) (SameOn.refl _ _) (fun b hb => ?_) hO5⟩
          rcases hb with hb | hb | hb
          · exact ⟨hb.1, hb.2.1, by omega⟩
          · have h1 : w5.heap.size ≤ b := hb.1
            have := hb.2; exact ⟨by omega, by omega, by omega⟩
          · have := hb.1; have := hb.2; exact ⟨by omega, by omega, by omega⟩
        intro y
        go_simp
        refine chain_next 1 rfl rfl rfl rfl (by decide) rfl (by first | kernel_rfl | rfl) ?_ ?_
        · intro w' hS
          obtain ⟨hcb, hV, hP, hG⟩ := hS
          rw [upd_same] at hV
          have HS := Lib.hid (And.intro hcb (And.intro hV (And.intro hP hG)))
          obtain ⟨y0, y1, y2, y3, y4, rfl, hO⟩ := hV
          obtain ⟨e1, c1, e2, c2, rfl, rfl, rfl, rfl, rfl, -⟩ := hO.form
          obtain ⟨r0, r1, r2, r3, r4, rf⟩ := cells5_cell hcb
          clear hP hG hO hcb
          go_simp
          exact ⟨w', _, _, _, _, _, HS.out, rfl⟩
        intro x'
        refine flowU_nil ?_
        intro wz hz
        obtain ⟨w6, z0, z1, z2, z3, z4, ⟨hcb, hV, hP, hG⟩, rfl⟩ := hz
        have HI := Lib.hid (ISt.set HI5.out hcb hV hP hG)
        obtain ⟨e1, c1, e2, c2, rfl, rfl, rfl, rfl, rfl⟩ := HI.out.form
        clear hcb hV hP hG
        obtain ⟨W7, hW7⟩ : ∃ W7 : World, W7 = ((((w6.setCell ⟨w1.heap.size, 0, none⟩ (.int .i64 (opF x [F1, F2]).op)).setCell ⟨w1.heap.size, 1, none⟩ (.string (opF x [F1, F2]).a.n)).setCell ⟨w1.heap.size, 2, none⟩ (.slice e1 (opF x [F1, F2]).a.us.length c1)).setCell ⟨w1.heap.size, 3, none⟩ (.string (opF x [F1, F2]).v)).setCell ⟨w1.heap.size, 4, none⟩ (.slice e2 (opF x [F1, F2]).ps.length c2) := ⟨_, rfl⟩
        rw [← hW7] at HI ⊢
        clear hW7
        go_simp
        go_wp2_with fail
        refine (must_any g s _ pq _ (PAt.below HI.out.at_ (by exact bel)) hpe2 (by omega) (by decide)).mono ?_
        rw [show (⟨#[41]⟩ : ByteArray).data.toList = [41] from rfl]
        rintro e w9 ⟨_, rfl, rfl, h9, hg9⟩
        have HI9 := Lib.hid (HI.out.step h9 hg9)
        clear h9 hg9
        obtain ⟨b0, b1, b2, b3, b4, bf⟩ := cells5_cell HI9.out.cellb
        obtain ⟨r0, r1, r2, r3, r4, rf⟩ := cells5_cell HI9.out.res
        have hrb := bsz (heap_lt HI9.out.res)
        have hbb := bsz (heap_lt HI9.out.cellb)
        have hlt9 := HI9.out.lt
        go_wp2
        refine bodyPost_ret (v := .agg #[.int .i64 (opF x [F1, F2]).op, .string (opF x [F1, F2]).a.n, .slice e1 (opF x [F1, F2]).a.us.length c1, .string (opF x [F1, F2]).v, .slice e2 (opF x [F1, F2]).ps.length c2]) (by simp only [results, Tryz.results228]; go_simp) rfl ⟨_, rfl, ?_⟩
        rw [HFIN.out]
        exact FmP.mono (by omega) (FmP.of HI9.out.at_ HI9.out.gr (Below.refl _ _) HI9.out.fm (fun b hb => ⟨hb.1, by omega⟩) (Nat.le_refl _) hlt9.1 _ _ _ _ _)
open Go.RowKit
theorem FmP.later {m g : Nat} {s : ByteArray} {F : Fm} {p' : PSt} {w w' w5 : World} {x : Value} (h : FmP m g s F p' w x w') (hb : Below w'.heap.size w' w5) : FmP m g s F p' w x w5 := by
  obtain ⟨⟨v0, v1, v2, v3, v4, rfl, hO⟩, hP, hG⟩ := h
  exact ⟨⟨_, _, _, _, _, rfl, FmOwn.mono _ _ _ _ (Nat.le_refl _) (SameOn.below hb) (fun b h => ⟨h.1, Nat.lt_of_lt_of_le h.2 hb.size⟩) hO⟩, hP.below hb, gr_below hG hb⟩
set_option maxRecDepth 100000 in
set_option maxHeartbeats 6400000 in
theorem formula_of (f : Nat) (ih : FrmC f) (ih2 : ∀ f', f = f' + 1 → FrmC f') (g : Nat) (s : ByteArray) (p : PSt) (w : World) (h : PAt 190 w g s p) (hp : p.pos ≤ s.size) (hs : s.size ≤ 1000000) (hf : 2 * (s.size - p.pos) + 1 < f + 1) :
    Calls Tryz.prog 186 #[.pointer (some ⟨g, 0, none⟩)] w fun e w' => ∃ x, e = .returned x ∧ FmP (f + 1 + s.size + 6) g s (pFrm s.data.toList (f + 1) p).1 (pFrm s.data.toList (f + 1) p).2 w x w' := by
  have hg := bsz h.lt
  have IH := Lib.hid ih
  have HE := Lib.hid (show ESt w g s p (w.alloc (.cells #[.int .i64 0, .string ⟨#[]⟩, .slice none 0 0, .string ⟨#[]⟩, .slice none 0 0] 44)) from ⟨h.below (by exact bel), gr_al (gr_refl w g) _, heap_alloc_new w _, h.lt⟩)
  have IH2 := Lib.hid ih2
  clear h ih ih2
  go_enter Tryz.func186, Tryz.ntmps186
  cases h1 : pTake s.data.toList sAll8 p
  case true =>
    have HY := Lib.hid h1
    have hle := pTake_le h1 (by rw [← size_list]; exact hp)
    rw [← size_list] at hle
    have hkl : 4 ≤ (sAll8).length := by decide
    clear h1
    go_wp2_with fail
    refine (take_any g s _ p _ (PAt.below HE.out.at_ (by exact bel)) hp (by omega) (by decide)).mono ?_
    rw [show (⟨#[97, 108, 108, 32]⟩ : ByteArray).data.toList = sAll8 from rfl, HY.out]
    rintro e w1 ⟨_, rfl, rfl, h1, hg1⟩
    have HE' := Lib.hid (HE.out.step (p' := pAdv sAll8 p) h1 hg1)
    clear HE h1 hg1
    have HE := HE'
    clear HE'
    have hpk : (pAdv sAll8 p).pos ≤ s.size := by simp only [pAdv]; omega
    have hpw := pWord_pos s.data.toList (pAdv sAll8 p) (by rw [← size_list]; exact hpk)
    have hpm := pMust_pos s.data.toList [46] (pWord s.data.toList (pAdv sAll8 p)).2 hpw.2
    have hwl := pWord_len s.data.toList (pAdv sAll8 p)
    rw [← size_list] at hpw hpm hwl
    have hpp : (pAdv sAll8 p).pos = p.pos + (sAll8).length := rfl
    go_wp2_with fail
    refine (word_any g s (pAdv sAll8 p) _ (PAt.below HE.out.at_ (by exact bel)) hpk (by omega)).mono ?_
    rintro e wv ⟨_, rfl, rfl, hPv, hgv⟩
    have HEV := Lib.hid (HE.out.step (p' := (pWord s.data.toList (pAdv sAll8 p)).2) hPv hgv)
    clear hPv hgv
    go_wp2_with fail
    refine (must_any g s _ (pWord s.data.toList (pAdv sAll8 p)).2 _ (PAt.below HEV.out.at_ (by exact bel)) hpw.2 (by omega) (by decide)).mono ?_
    rw [show (⟨#[46]⟩ : ByteArray).data.toList = [46] from rfl]
    rintro e wm ⟨_, rfl, rfl, hPm, hgm⟩
    have HEM := Lib.hid (HEV.out.step hPm hgm)
    clear hPm hgm
    go_wp2_with fail
    refine (IH.out g s (pMust s.data.toList [46] (pWord s.data.toList (pAdv sAll8 p)).2) _ (PAt.below HEM.out.at_ (by exact bel)) hpm.2 hs (by omega)).mono ?_
    rintro e wa ⟨x, rfl, hx⟩
    have HX := Lib.hid hx
    obtain ⟨z1, e1, z2, e2, rfl⟩ := hx.form
    clear hx
    go_wp2_with fail
    refine (quantified_any (f + s.size + 5) 8 (by omega) (pWord s.data.toList (pAdv sAll8 p)).1 (by omega) _ _ _ _ HX.out.1 (fun b hb => hb.2)).mono ?_
    rintro e wb ⟨y, rfl, hV, hbb⟩
    have HFIN := Lib.hid (show pFrm s.data.toList (f + 1) p = (quantF 8 (pWord s.data.toList (pAdv sAll8 p)).1 (pFrm s.data.toList f (pMust s.data.toList [46] (pWord s.data.toList (pAdv sAll8 p)).2)).1, (pFrm s.data.toList f (pMust s.data.toList [46] (pWord s.data.toList (pAdv sAll8 p)).2)).2) by rw [pFrm]; simp only [HY.out, if_true])
    have HF := Lib.hid (HX.out.wrap hV hbb (.inl trivial))
    clear hV
    obtain ⟨FF, hFF⟩ : ∃ FF, quantF 8 (pWord s.data.toList (pAdv sAll8 p)).1 (pFrm s.data.toList f (pMust s.data.toList [46] (pWord s.data.toList (pAdv sAll8 p)).2)).1 = FF := ⟨_, rfl⟩
    rw [hFF] at HF HFIN
    clear hFF
    obtain ⟨q1, d1, q2, d2, rfl⟩ := HF.out.form
    obtain ⟨r0, r1, r2, r3, r4, rf⟩ := cells5_cell (HEM.out.kept HF.out)
    have hrb := bsz (heap_lt (HEM.out.kept HF.out))
    go_wp2
    refine bodyPost_ret (v := .agg #[.int .i64 (FF).op, .string (FF).a.n, .slice q1 (FF).a.us.length d1, .string (FF).v, .slice q2 (FF).ps.length d2]) (by simp only [results, Tryz.results186]; go_simp) rfl ⟨_, rfl, ?_⟩
    rw [HFIN.out]
    exact FmP.mono (by omega) (HEM.out.hand HF.out _ _ _ _ _)
  have H1 := Lib.hid h1
  clear h1
  go_wp2_with fail
  refine (take_any g s _ p _ (PAt.below HE.out.at_ (by exact bel)) hp (by omega) (by decide)).mono ?_
  rw [show (⟨#[97, 108, 108, 32]⟩ : ByteArray).data.toList = sAll8 from rfl, H1.out]
  rintro e w1 ⟨_, rfl, rfl, h1, hg1⟩
  have HE' := Lib.hid (HE.out.step (p' := p) h1 hg1)
  clear HE h1 hg1
  have HE := HE'
  clear HE'
  cases h2 : pTake s.data.toList sSome8 p
  case true =>
    have HY := Lib.hid h2
    have hle := pTake_le h2 (by rw [← size_list]; exact hp)
    rw [← size_list] at hle
    have hkl : 4 ≤ (sSome8).length := by decide
    clear h2
    go_wp2_with fail
    refine (take_any g s _ p _ (PAt.below HE.out.at_ (by exact bel)) hp (by omega) (by decide)).mono ?_
    rw [show (⟨#[115, 111, 109, 101, 32]⟩ : ByteArray).data.toList = sSome8 from rfl, HY.out]
    rintro e w2 ⟨_, rfl, rfl, h2, hg2⟩
    have HE' := Lib.hid (HE.out.step (p' := pAdv sSome8 p) h2 hg2)
    clear HE h2 hg2
    have HE := HE'
    clear HE'
    have hpk : (pAdv sSome8 p).pos ≤ s.size := by simp only [pAdv]; omega
    have hpw := pWord_pos s.data.toList (pAdv sSome8 p) (by rw [← size_list]; exact hpk)
    have hpm := pMust_pos s.data.toList [46] (pWord s.data.toList (pAdv sSome8 p)).2 hpw.2
    have hwl := pWord_len s.data.toList (pAdv sSome8 p)
    rw [← size_list] at hpw hpm hwl
    have hpp : (pAdv sSome8 p).pos = p.pos + (sSome8).length := rfl
    go_wp2_with fail
    refine (word_any g s (pAdv sSome8 p) _ (PAt.below HE.out.at_ (by exact bel)) hpk (by omega)).mono ?_
    rintro e wv ⟨_, rfl, rfl, hPv, hgv⟩
    have HEV := Lib.hid (HE.out.step (p' := (pWord s.data.toList (pAdv sSome8 p)).2) hPv hgv)
    clear hPv hgv
    go_wp2_with fail
    refine (must_any g s _ (pWord s.data.toList (pAdv sSome8 p)).2 _ (PAt.below HEV.out.at_ (by exact bel)) hpw.2 (by omega) (by decide)).mono ?_
    rw [show (⟨#[46]⟩ : ByteArray).data.toList = [46] from rfl]
    rintro e wm ⟨_, rfl, rfl, hPm, hgm⟩
    have HEM := Lib.hid (HEV.out.step hPm hgm)
    clear hPm hgm
    go_wp2_with fail
    refine (IH.out g s (pMust s.data.toList [46] (pWord s.data.toList (pAdv sSome8 p)).2) _ (PAt.below HEM.out.at_ (by exact bel)) hpm.2 hs (by omega)).mono ?_
    rintro e wa ⟨x, rfl, hx⟩
    have HX := Lib.hid hx
    obtain ⟨z1, e1, z2, e2, rfl⟩ := hx.form
    clear hx
    go_wp2_with fail
    refine (quantified_any (f + s.size + 5) 9 (by omega) (pWord s.data.toList (pAdv sSome8 p)).1 (by omega) _ _ _ _ HX.out.1 (fun b hb => hb.2)).mono ?_
    rintro e wb ⟨y, rfl, hV, hbb⟩
    have HFIN := Lib.hid (show pFrm s.data.toList (f + 1) p = (quantF 9 (pWord s.data.toList (pAdv sSome8 p)).1 (pFrm s.data.toList f (pMust s.data.toList [46] (pWord s.data.toList (pAdv sSome8 p)).2)).1, (pFrm s.data.toList f (pMust s.data.toList [46] (pWord s.data.toList (pAdv sSome8 p)).2)).2) by rw [pFrm]; simp only [H1.out, HY.out, if_true, Bool.false_eq_true, if_false])
    have HF := Lib.hid (HX.out.wrap hV hbb (.inl trivial))
    clear hV
    obtain ⟨FF, hFF⟩ : ∃ FF, quantF 9 (pWord s.data.toList (pAdv sSome8 p)).1 (pFrm s.data.toList f (pMust s.data.toList [46] (pWord s.data.toList (pAdv sSome8 p)).2)).1 = FF := ⟨_, rfl⟩
    rw [hFF] at HF HFIN
    clear hFF
    obtain ⟨q1, d1, q2, d2, rfl⟩ := HF.out.form
    obtain ⟨r0, r1, r2, r3, r4, rf⟩ := cells5_cell (HEM.out.kept HF.out)
    have hrb := bsz (heap_lt (HEM.out.kept HF.out))
    go_wp2
    refine bodyPost_ret (v := .agg #[.int .i64 (FF).op, .string (FF).a.n, .slice q1 (FF).a.us.length d1, .string (FF).v, .slice q2 (FF).ps.length d2]) (by simp only [results, Tryz.results186]; go_simp) rfl ⟨_, rfl, ?_⟩
    rw [HFIN.out]
    exact FmP.mono (by omega) (HEM.out.hand HF.out _ _ _ _ _)
  have H2 := Lib.hid h2
  clear h2
  go_wp2_with fail
  refine (take_any g s _ p _ (PAt.below HE.out.at_ (by exact bel)) hp (by omega) (by decide)).mono ?_
  rw [show (⟨#[115, 111, 109, 101, 32]⟩ : ByteArray).data.toList = sSome8 from rfl, H2.out]
  rintro e w2 ⟨_, rfl, rfl, h2, hg2⟩
  have HE' := Lib.hid (HE.out.step (p' := p) h2 hg2)
  clear HE h2 hg2
  have HE := HE'
  clear HE'
  cases h3 : pTake s.data.toList [126] p
  case true =>
    have HY := Lib.hid h3
    have hle := pTake_le h3 (by rw [← size_list]; exact hp)
    rw [← size_list] at hle
    have hkl : ([126] : List UInt8).length = 1 := rfl
    clear h3
    go_wp2_with fail
    refine (take_any g s _ p _ (PAt.below HE.out.at_ (by exact bel)) hp (by omega) (by decide)).mono ?_
    rw [show (⟨#[126]⟩ : ByteArray).data.toList = [126] from rfl, HY.out]
    rintro e w3 ⟨_, rfl, rfl, h3, hg3⟩
    have HE' := Lib.hid (HE.out.step (p' := pAdv [126] p) h3 hg3)
    clear HE h3 hg3
    have HE := HE'
    clear HE'
    have hpa : (pAdv [126] p).pos ≤ s.size ∧ 2 * (s.size - (pAdv [126] p).pos) + 1 < f := by simp only [pAdv]; omega
    go_wp2_with fail
    refine (IH.out g s (pAdv [126] p) _ (PAt.below HE.out.at_ (by exact bel)) hpa.1 hs hpa.2).mono ?_
    rintro e wa ⟨x, rfl, hx⟩
    have HX := Lib.hid hx
    obtain ⟨z1, e1, z2, e2, rfl⟩ := hx.form
    clear hx
    go_wp2_with fail
    refine (not_any (f + s.size + 5) _ _ _ _ HX.out.1 (fun b hb => hb.2)).mono ?_
    rintro e wb ⟨y, rfl, hV, hbb⟩
    have HFIN := Lib.hid (show pFrm s.data.toList (f + 1) p = (opF 4 [(pFrm s.data.toList f (pAdv [126] p)).1], (pFrm s.data.toList f (pAdv [126] p)).2) by rw [pFrm]; simp only [H1.out, H2.out, HY.out, if_true, Bool.false_eq_true, if_false])
    have HF := Lib.hid (HX.out.wrap hV hbb (.inl trivial))
    clear hV
    obtain ⟨FF, hFF⟩ : ∃ FF, opF 4 [(pFrm s.data.toList f (pAdv [126] p)).1] = FF := ⟨_, rfl⟩
    rw [hFF] at HF HFIN
    clear hFF
    obtain ⟨q1, d1, q2, d2, rfl⟩ := HF.out.form
    obtain ⟨r0, r1, r2, r3, r4, rf⟩ := cells5_cell (HE.out.kept HF.out)
    have hrb := bsz (heap_lt (HE.out.kept HF.out))
    go_wp2
    refine bodyPost_ret (v := .agg #[.int .i64 (FF).op, .string (FF).a.n, .slice q1 (FF).a.us.length d1, .string (FF).v, .slice q2 (FF).ps.length d2]) (by simp only [results, Tryz.results186]; go_simp) rfl ⟨_, rfl, ?_⟩
    rw [HFIN.out]
    exact FmP.mono (by omega) (HE.out.hand HF.out _ _ _ _ _)
  have H3 := Lib.hid h3
  clear h3
  go_wp2_with fail
  refine (take_any g s _ p _ (PAt.below HE.out.at_ (by exact bel)) hp (by omega) (by decide)).mono ?_
  rw [show (⟨#[126]⟩ : ByteArray).data.toList = [126] from rfl, H3.out]
  rintro e w3 ⟨_, rfl, rfl, h3, hg3⟩
  have HE' := Lib.hid (HE.out.step (p' := p) h3 hg3)
  clear HE h3 hg3
  have HE := HE'
  clear HE'
  cases h4 : pTake s.data.toList [40] p
  case true =>
    have HY := Lib.hid h4
    have hle := pTake_le h4 (by rw [← size_list]; exact hp)
    rw [← size_list] at hle
    have hkl : ([40] : List UInt8).length = 1 := rfl
    clear h4
    go_wp2_with fail
    refine (take_any g s _ p _ (PAt.below HE.out.at_ (by exact bel)) hp (by omega) (by decide)).mono ?_
    rw [show (⟨#[40]⟩ : ByteArray).data.toList = [40] from rfl, HY.out]
    rintro e w4 ⟨_, rfl, rfl, h4, hg4⟩
    have HE' := Lib.hid (HE.out.step (p' := pAdv [40] p) h4 hg4)
    clear HE h4 hg4
    have HE := HE'
    clear HE'
    obtain ⟨f', rfl⟩ : ∃ f', f = f' + 1 := ⟨f - 1, by omega⟩
    have hpa : (pAdv [40] p).pos ≤ s.size ∧ 2 * (s.size - (pAdv [40] p).pos) + 1 < f' := by simp only [pAdv]; omega
    go_wp2_with fail
    refine (inner_of f' (IH2.out f' rfl) g s (pAdv [40] p) _ (PAt.below HE.out.at_ (by exact bel)) hpa.1 hs hpa.2).mono ?_
    rintro e wa ⟨x, rfl, hx⟩
    have HF := Lib.hid hx
    clear hx
    have HFIN := Lib.hid (show pFrm s.data.toList (f' + 1 + 1) p = pInn s.data.toList (f' + 1) (pAdv [40] p) by rw [pFrm]; simp only [H1.out, H2.out, H3.out, HY.out, if_true, Bool.false_eq_true, if_false])
    obtain ⟨FF, hFF⟩ : ∃ FF, pInn s.data.toList (f' + 1) (pAdv [40] p) = FF := ⟨_, rfl⟩
    rw [hFF] at HF HFIN
    clear hFF
    obtain ⟨q1, d1, q2, d2, rfl⟩ := HF.out.form
    obtain ⟨r0, r1, r2, r3, r4, rf⟩ := cells5_cell (HE.out.kept HF.out)
    have hrb := bsz (heap_lt (HE.out.kept HF.out))
    go_wp2
    refine bodyPost_ret (v := .agg #[.int .i64 (FF.1).op, .string (FF.1).a.n, .slice q1 (FF.1).a.us.length d1, .string (FF.1).v, .slice q2 (FF.1).ps.length d2]) (by simp only [results, Tryz.results186]; go_simp) rfl ⟨_, rfl, ?_⟩
    rw [HFIN.out]
    exact FmP.mono (by omega) (HE.out.hand HF.out _ _ _ _ _)
  have H4 := Lib.hid h4
  clear h4
  go_wp2_with fail
  refine (take_any g s _ p _ (PAt.below HE.out.at_ (by exact bel)) hp (by omega) (by decide)).mono ?_
  rw [show (⟨#[40]⟩ : ByteArray).data.toList = [40] from rfl, H4.out]
  rintro e w4 ⟨_, rfl, rfl, h4, hg4⟩
  have HE' := Lib.hid (HE.out.step (p' := p) h4 hg4)
  clear HE h4 hg4
  have HE := HE'
  clear HE'
  go_wp2_with fail
  refine (patom_any (s.size + 2) g s p _ (PAt.below HE.out.at_ (by exact bel)) hp hs (by omega)).mono ?_
  rintro e wa ⟨x, rfl, v0, v1, rfl, hO, hP, hga⟩
  obtain ⟨pp, cc, rfl, rfl, -⟩ := hO.form
  have HFIN := Lib.hid (show pFrm s.data.toList (f + 1) p = (atomF (pAtomT s.data.toList (s.size + 2) p).1, (pAtomT s.data.toList (s.size + 2) p).2) by rw [pFrm]; simp only [H1.out, H2.out, H3.out, H4.out, Bool.false_eq_true, if_false]; rw [← size_list])
  obtain ⟨r, hr⟩ : ∃ r, pAtomT s.data.toList (s.size + 2) p = r := ⟨_, rfl⟩
  rw [hr] at HFIN hO hP
  obtain ⟨t, p1⟩ := r
  simp only [hr] at hO hP HFIN ⊢
  clear hr
  have HO := Lib.hid hO
  have HP := Lib.hid hP
  have HGA := Lib.hid hga
  have hza := hga.size
  have HEA := Lib.hid (HE.out.step (p' := p1) hP hga)
  clear hO hP hga
  obtain ⟨r0, r1, r2, r3, r4, rf⟩ := cells5_cell HEA.out.res
  have hrb := bsz (heap_lt HEA.out.res)
  have HEB := Lib.hid (HEA.out.step (p' := p1) (HEA.out.at_.below ((Below.refl wa.heap.size wa).alloc (Nat.le_refl _) (.cells #[.string t.n, .slice pp t.us.length cc] 41))) (gr_al (gr_refl wa g) _))
  by_cases hu : t.us = []
  · have hlen : ((t.us.length : Int) == 0) = true := by rw [hu]; rfl
    by_cases hn : t.n.data.toList = sTrue8
    · have HF2 := Lib.hid (show atomF t = opF 1 [] by rw [atomF, if_pos ⟨hn, hu⟩])
      have hn2 : (t.n.toList == [116, 114, 117, 101]) = true := by rw [ByteArray.toList_eq, hn]; rfl
      clear hn hu
      go_wp2
      refine bodyPost_ret (v := .agg #[.int .i64 1, .string ⟨#[]⟩, .slice none 0 0, .string ⟨#[]⟩, .slice none 0 0]) (by simp only [results, Tryz.results186]; go_simp) rfl ⟨_, rfl, ?_⟩
      rw [HFIN.out, HF2.out]
      exact (HEA.out.hand (m := f + 1 + s.size + 6) ⟨⟨_, _, _, _, _, rfl, opF_own (m := f + 1 + s.size + 4) (by omega) (OwnRow.nil _ _ _ _ _)⟩, HEA.out.at_, gr_refl _ _⟩ _ _ _ _ _).later ((Below.refl _ _).alloc (Nat.le_refl _) _)
    · have hn2 : (t.n.toList == [116, 114, 117, 101]) = false := by rw [ByteArray.toList_eq]; simpa [sTrue8] using hn
      by_cases hm : t.n.data.toList = sFalse8
      · have HF2 := Lib.hid (show atomF t = opF 2 [] by rw [atomF, if_neg (fun h => hn h.1), if_pos ⟨hm, hu⟩])
        have hm2 : (t.n.toList == [102, 97, 108, 115, 101]) = true := by rw [ByteArray.toList_eq, hm]; rfl
        clear hn hu hm
        go_wp2
        refine bodyPost_ret (v := .agg #[.int .i64 2, .string ⟨#[]⟩, .slice none 0 0, .string ⟨#[]⟩, .slice none 0 0]) (by simp only [results, Tryz.results186]; go_simp) rfl ⟨_, rfl, ?_⟩
        rw [HFIN.out, HF2.out]
        exact (HEA.out.hand (m := f + 1 + s.size + 6) ⟨⟨_, _, _, _, _, rfl, opF_own (m := f + 1 + s.size + 4) (by omega) (OwnRow.nil _ _ _ _ _)⟩, HEA.out.at_, gr_refl _ _⟩ _ _ _ _ _).later ((Below.refl _ _).alloc (Nat.le_refl _) _)
      · have HF2 := Lib.hid (show atomF t = atomOfF t by rw [atomF, if_neg (fun h => hn h.1), if_neg (fun h => hm h.1)])
        have hm2 : (t.n.toList == [102, 97, 108, 115, 101]) = false := by rw [ByteArray.toList_eq]; simpa [sFalse8] using hm
        clear hn hu hm
        go_wp2_with fail
        refine (atomOf_any (s.size + 2 + 2) _ t _ _ _ (TmOwn.below (by exact bel) HO.out)).mono ?_
        rintro e wb ⟨y, rfl, hV, hbb⟩
        obtain ⟨y0, y1, y2, y3, y4, rfl, hOy⟩ := hV
        have HF := Lib.hid (show FmP (s.size + 2 + 2 + 1) g s (atomOfF t) p1 w4 _ wb from ⟨⟨_, _, _, _, _, rfl, FmOwn.mono _ _ _ _ (Nat.le_refl _) (SameOn.refl _ _) (fun b hb => ⟨hb.1, by have := hbb.size; have := hb.2; simp at *; omega⟩) hOy⟩, HEB.out.at_.below hbb, gr_below (gr_al HGA.out _) hbb⟩)
        obtain ⟨q1, d1, q2, d2, rfl, rfl, rfl, rfl, rfl, -⟩ := hOy.form
        clear hOy r0 r1 r2 r3 r4 rf hrb
        obtain ⟨r0, r1, r2, r3, r4, rf⟩ := cells5_cell (HE.out.kept HF.out)
        have hrb := bsz (heap_lt (HE.out.kept HF.out))
        go_wp2
        refine bodyPost_ret (v := .agg #[.int .i64 (atomOfF t).op, .string (atomOfF t).a.n, .slice q1 (atomOfF t).a.us.length d1, .string (atomOfF t).v, .slice q2 (atomOfF t).ps.length d2]) (by simp only [results, Tryz.results186]; go_simp) rfl ⟨_, rfl, ?_⟩
        rw [HFIN.out, HF2.out]
        exact FmP.mono (by omega) (HE.out.hand HF.out _ _ _ _ _)
  · have hlen : ((t.us.length : Int) == 0) = false := by rw [beq_eq_false_iff_ne]; intro e; exact hu (List.eq_nil_of_length_eq_zero (by omega))
    have HF2 := Lib.hid (show atomF t = atomOfF t by rw [atomF, if_neg (fun h => hu h.2), if_neg (fun h => hu h.2)])
    clear hu
    cases hn2 : (t.n.toList == [116, 114, 117, 101]) <;> cases hm2 : (t.n.toList == [102, 97, 108, 115, 101])
    all_goals
      go_wp2_with fail
      refine (atomOf_any (s.size + 2 + 2) _ t _ _ _ (TmOwn.below (by exact bel) HO.out)).mono ?_
      rintro e wb ⟨y, rfl, hV, hbb⟩
      obtain ⟨y0, y1, y2, y3, y4, rfl, hOy⟩ := hV
      have HF := Lib.hid (show FmP (s.size + 2 + 2 + 1) g s (atomOfF t) p1 w4 _ wb from ⟨⟨_, _, _, _, _, rfl, FmOwn.mono _ _ _ _ (Nat.le_refl _) (SameOn.refl _ _) (fun b hb => ⟨hb.1, by have := hbb.size; have := hb.2; simp at *; omega⟩) hOy⟩, HEB.out.at_.below hbb, gr_below (gr_al HGA.out _) hbb⟩)
      obtain ⟨q1, d1, q2, d2, rfl, rfl, rfl, rfl, rfl, -⟩ := hOy.form
      clear hOy r0 r1 r2 r3 r4 rf hrb
      obtain ⟨r0, r1, r2, r3, r4, rf⟩ := cells5_cell (HE.out.kept HF.out)
      have hrb := bsz (heap_lt (HE.out.kept HF.out))
      go_wp2
      refine bodyPost_ret (v := .agg #[.int .i64 (atomOfF t).op, .string (atomOfF t).a.n, .slice q1 (atomOfF t).a.us.length d1, .string (atomOfF t).v, .slice q2 (atomOfF t).ps.length d2]) (by simp only [results, Tryz.results186]; go_simp) rfl ⟨_, rfl, ?_⟩
      rw [HFIN.out, HF2.out]
      exact FmP.mono (by omega) (HE.out.hand HF.out _ _ _ _ _)
theorem frm_any : ∀ f : Nat, FrmC f ∧ FrmC (f + 1)
  | 0 => ⟨fun _ _ _ _ _ _ _ hf => absurd hf (by omega), fun _ _ _ _ _ _ _ hf => absurd hf (by omega)⟩
  | f + 1 => ⟨(frm_any f).2, fun g s p w h hp hs hf => formula_of (f + 1) (frm_any f).2 (fun f' hf' => (show f = f' by omega) ▸ (frm_any f).1) g s p w h hp hs hf⟩
open Go.RowKit Go.Maps
set_option maxRecDepth 100000 in
set_option maxHeartbeats 1600000 in
theorem formatTerm_eq {B : Nat → Prop} (m : Nat) (a b : Tm) (v0 v1 : Value) (w : World) (h : TmAt B m w (eqTm a b) [v0, v1]) (ha : a.nodes = true) (hb : b.nodes = true) (hz : (eqTm a b).fmt.length ≤ 1000000000000) :
      Calls Tryz.prog 230 #[.agg #[v0, v1]] w fun e w' => e = .returned (.string ⟨(eqTm a b).fmt.toArray⟩) ∧ Below w.heap.size w w' := by
  have hl := h.args
  obtain ⟨p, c, rfl, rfl, -, -⟩ := h.form
  clear h
  have hl2 : ListAt B w 2 (TmAt B m w) (.slice p 2 c) [a, b] := hl
  obtain ⟨g, o, pa, ca, pb, cb, rfl, hx0, hx1, hx2, hx3, hta, htb⟩ := TmAt.pair hl2
  have HE := Lib.hid (fmt_eq a b)
  have hz2 : a.fmt.length + b.fmt.length + 3 ≤ 1000000000000 := by rw [fmt_eq] at hz; simp [sEq8] at hz; omega
  have HA := Lib.hid (And.intro hta ha)
  have HB := Lib.hid (And.intro htb hb)
  clear hl hl2 hta htb ha hb hz
  show Calls Tryz.prog 230 #[.agg #[.string ⟨#[61]⟩, .slice (some ⟨g, o, none⟩) 2 c]] w _
  go_enter Tryz.func230, Tryz.ntmps230
  go_wp2_with fail
  refine (isEquality_any _ _ _).mono ?_
  rintro e w1 ⟨rfl, hb1⟩
  have ⟨cw1, fw1⟩ := bcell hb1
  have qw1 := hb1.size
  (try simp at qw1)
  (try have zw1w := bsz (show w.heap.size < w1.heap.size by omega))
  rw [show isEq ⟨#[61]⟩ = true from rfl]
  go_wp2
  have zg := bsz (World.block_lt_of_cell? _ _ hx0)
  obtain ⟨C, HC0⟩ := class_of (InF w1.heap.size _ [(⟨w.heap.size, 1, none⟩, .slice (some ⟨g, o, none⟩) 2 c), (⟨g, o, none⟩, .string a.n), (⟨g, o + 1, none⟩, .slice pa a.us.length ca), (⟨g, o + 2, none⟩, .string b.n), (⟨g, o + 3, none⟩, .slice pb b.us.length cb)] [] [])
  have HC := Lib.hid HC0
  clear HC0
  refine wp_region_flow (C := C) (by kernel_rfl) (by kernel_rfl) (fun L hL => (HC.out _ _).2 (InF.start (by first | (intro _ hs; cases hs; done) | (simp only [List.forall_mem_cons]; go_simp)) (by first | (intro _ hs; cases hs; done) | (simp only [List.forall_mem_cons]; go_simp)) (by first | (intro _ hs; cases hs; done) | (simp only [List.forall_mem_cons]; go_simp)) (by first | (intro _ hs; cases hs; done) | (simp only [List.forall_mem_cons]; go_simp)) L hL)) ?_
  repeat (first | ((first | apply flow_free rfl | (apply flow_yes; (case hw => go_simp))); (intro L w' hun hrd hC; have hC := (HC.out _ _).1 hC; have hb' := hC.below; (try have hw' : Below w.heap.size w w' := by first | exact Below.trans (by (repeat (first | with_reducible (first | exact bR _ _ | assumption | refine bA ?_ _ | refine bS ?_ (by first | exact Nat.le_refl _ | (simp; done) | (simp; omega)) _) | assumption | exact bR _ _ | refine bD ?_ | refine bN ?_ _ | refine bT ?_ (by assumption)))) hb' | ((repeat (first | with_reducible (first | exact bR _ _ | assumption | refine bA ?_ _ | refine bS ?_ (by first | exact Nat.le_refl _ | (simp; done) | (simp; omega)) _) | assumption | exact bR _ _ | refine bD ?_ | refine bN ?_ _ | refine bT ?_ (by assumption))); done)); have hf' := hC.cell; (try simp only [List.forall_mem_cons] at hf'); go_simp; first | exact ⟨(HC.out _ _).2 (hC.skip _ (by rfl)), rfl⟩ | (rw [if_neg]; (exact ⟨(HC.out _ _).2 (hC.skip _ (by rfl)), rfl⟩); omega) | (go_at_call 230; (with_reducible refine (formatTerm_any m a _ _ _ (HA.out.1.below hw') HA.out.2 (by omega)).mono ?_); rintro e w1 ⟨rfl, hb1⟩; exact ⟨rfl, (HC.out _ _).2 ((hC.next (by first | (simp; done) | (simp; omega) | omega) hb1).skip _ (by rfl))⟩) | (go_at_call 230; (with_reducible refine (formatTerm_any m b _ _ _ (HB.out.1.below hw') HB.out.2 (by omega)).mono ?_); rintro e w1 ⟨rfl, hb1⟩; exact ⟨rfl, (HC.out _ _).2 ((hC.next (by first | (simp; done) | (simp; omega) | omega) hb1).skip _ (by rfl))⟩)); go_simp) | (apply flow_no; (case hw => (go_simp; try (intro hh; cases hh))); (intro L w' _ _ hC; exact (HC.out _ _).2 (((HC.out _ _).1 hC).skip _ (by rfl))); go_simp))
  refine flow_nil ?_
  intro L wz hL hz
  have hz := (HC.out _ _).1 hz
  have hbz := hz.below
  have hcz := hz.cell
  try simp only [List.forall_mem_cons] at hcz
  have hdz := hz.done
  try simp only [List.forall_mem_cons] at hdz
  (try have hwz : Below w.heap.size w wz := by first | exact Below.trans (by (repeat (first | with_reducible (first | exact bR _ _ | assumption | refine bA ?_ _ | refine bS ?_ (by first | exact Nat.le_refl _ | (simp; done) | (simp; omega)) _) | assumption | exact bR _ _ | refine bD ?_ | refine bN ?_ _ | refine bT ?_ (by assumption)))) hbz | ((repeat (first | with_reducible (first | exact bR _ _ | assumption | refine bA ?_ _ | refine bS ?_ (by first | exact Nat.le_refl _ | (simp; done) | (simp; omega)) _) | assumption | exact bR _ _ | refine bD ?_ | refine bN ?_ _ | refine bT ?_ (by assumption))); done))
  go_wp2
  go_ret
  exact ⟨ret_strs (by rw [HE.out]; simp [sEq8]), by exact bel⟩
theorem formatTerm_atom {B : Nat → Prop} (m : Nat) (t : Tm) (v0 v1 : Value) (w : World) (h : TmAt B m w t [v0, v1]) (ht : t.atom = true) (hz : t.fmt.length ≤ 1000000000000) :
      Calls Tryz.prog 230 #[.agg #[v0, v1]] w fun e w' => e = .returned (.string ⟨t.fmt.toArray⟩) ∧ Below w.heap.size w w' := by
  cases atom_cases ht with
  | eq a b ha hb => exact formatTerm_eq m a b _ _ w h ha hb hz
  | pred n us hs hu hd => exact formatTerm_any m _ _ _ w h hd hz
def SgSt (W : World) (sg x1 x2 x3 : ByteArray) (j : Nat) (u : Nat → Value) (w : World) : Prop :=
  Below W.heap.size W w ∧ match j with
  | 0 => True
  | 1 => ∃ b, u 6 = .map (some b) ∧ w.ownsMap Tryz.prog 3 (plainElem (H := Unit) Tryz.prog 9) b 3 D8
  | 2 => u 9 = .string sg
  | 3 => u 10 = .string x1
  | 4 => u 16 = .string x2
  | 5 => u 17 = .string x3
  | 6 => u 18 = .string x3
  | _ => False
theorem SgSt.below {W w w' : World} {sg x1 x2 x3 : ByteArray} {j : Nat} {u : Nat → Value} (h : SgSt W sg x1 x2 x3 j u w) (hb : Below w.heap.size w w') : SgSt W sg x1 x2 x3 j u w' := by
  refine ⟨h.1.trans (hb.mono h.1.size), ?_⟩
  obtain ⟨_, h⟩ := h
  match j, h with
  | 0, _ => trivial
  | 1, ⟨b, h1, h2⟩ => exact ⟨b, h1, h2.kept (row := none) ⟨hb.os, hb.tape, hb.output, hb.size, fun i hi _ => hb.block i hi⟩ (by simp)⟩
  | 2, h => exact h
  | 3, h => exact h
  | 4, h => exact h
  | 5, h => exact h
  | 6, h => exact h
theorem sign_lookup {w : World} {b : Nat} (h : w.ownsMap Tryz.prog 3 (plainElem (H := Unit) Tryz.prog 9) b 3 D8) (op : Int) (ho : op = 5 ∨ op = 6 ∨ op = 7) :
    (Instr.lookup 217 (.map (some b)) (.int .i64 op) false).run Tryz.prog w = .ok (.string ⟨(sign8 op).toArray⟩) w := by
  have hz : (zeroValue 9).run Tryz.prog w = .ok (.string ⟨#[]⟩) w := by kernel_rfl
  obtain ⟨v, ps, hrun, hv⟩ := h.lookup (int_keyed Tryz.underlying3) Tryz.underlying217 hz (plainElem_string Tryz.underlying9 (s := ⟨#[]⟩) (by decide)) (key8 op (by rcases ho with rfl | rfl | rfl <;> decide))
  obtain ⟨c, rfl, hc, -⟩ := plainElem_string_inv Tryz.underlying9 hv
  rw [D8_at, if_pos ho] at hc
  simp only [Prod.mk.injEq, DataW.lit.injEq, Lit.string.injEq] at hc
  rw [hrun, str_eq hc.1.symm]
set_option maxRecDepth 100000 in
set_option maxHeartbeats 6400000 in
theorem formatFormula_bin {B : Nat → Prop} (m : Nat) (ih : TxtAt Tryz.prog 188 B m) (op : Int) (ho : op = 5 ∨ op = 6 ∨ op = 7) (g h : Fm) (hg : g.form = true) (hh : h.form = true) (p q : Option Addr) (c d : Nat) (w : World)
    (hl : ListAt B w 5 (FmAt B m w) (.slice q 2 d) [g, h]) (hz : (opF op [g, h]).txt.length ≤ 1000000000000) :
    Calls Tryz.prog 188 #[.agg #[.int .i64 op, .string ⟨#[]⟩, .slice p 0 c, .string ⟨#[]⟩, .slice q 2 d]] w fun e w' => e = .returned (.string ⟨(opF op [g, h]).txt.toArray⟩) ∧ Below w.heap.size w w' := by
  obtain ⟨b, o, x0, x1, x2, x3, x4, y0, y1, y2, y3, y4, rfl, ⟨hx0, hx1, hx2, hx3, hx4⟩, ⟨hy0, hy1, hy2, hy3, hy4⟩, hx, hy⟩ := FmAt.twoT hl
  have zb := bsz (World.block_lt_of_cell? _ _ hx0)
  have hz2 : g.txt.length + h.txt.length + 30 ≤ 1000000000030 := by rw [txt_bin ho] at hz; simp at hz; omega
  have HG := Lib.hid (And.intro hg hh)
  have HX := Lib.hid hx
  have HY := Lib.hid hy
  have IH := Lib.hid ih
  have HTX := Lib.hid (txt_bin ho g h)
  have HOP := Lib.hid ho
  have hs4 := (sign8_len op).2
  have n1 : (op == 1) = false := by rw [beq_eq_false_iff_ne]; omega
  have n2 : (op == 2) = false := by rw [beq_eq_false_iff_ne]; omega
  have n3 : (op == 3) = false := by rw [beq_eq_false_iff_ne]; omega
  have n4 : (op == 4) = false := by rw [beq_eq_false_iff_ne]; omega
  have n8 : (op == 8) = false := by rw [beq_eq_false_iff_ne]; omega
  have n9 : (op == 9) = false := by rw [beq_eq_false_iff_ne]; omega
  clear hl hg hh hx hy ih hz ho
  go_enter Tryz.func188, Tryz.ntmps188
  go_wp2
  obtain ⟨W, hW⟩ : ∃ W : World, W = w.alloc (.cells #[.int .i64 op, .string ⟨#[]⟩, .slice p 0 c, .string ⟨#[]⟩, .slice (some ⟨b, o, none⟩) 2 d] 44) := ⟨_, rfl⟩
  have hw0 : W.cell? ⟨w.heap.size, 0, none⟩ = some (.int .i64 op) := by rw [hW]; go_simp
  have hw4 : W.cell? ⟨w.heap.size, 4, none⟩ = some (.slice (some ⟨b, o, none⟩) 2 d) := by rw [hW]; go_simp
  have hbW : Below w.heap.size w W := by rw [hW]; exact bel
  rw [← hW]
  clear hW
  have zW := bsz (World.block_lt_of_cell? _ _ hw0)
  have ⟨cW, fW⟩ := bcell hbW
  have e0 : W.cell? ⟨b, o, none⟩ = some x0 := by go_simp
  have e1 : W.cell? ⟨b, o + 1, none⟩ = some x1 := by go_simp
  have e2 : W.cell? ⟨b, o + 2, none⟩ = some x2 := by go_simp
  have e3 : W.cell? ⟨b, o + 3, none⟩ = some x3 := by go_simp
  have e4 : W.cell? ⟨b, o + 4, none⟩ = some x4 := by go_simp
  have k0 : W.cell? ⟨b, o + 5, none⟩ = some y0 := by go_simp
  have k1 : W.cell? ⟨b, o + 6, none⟩ = some y1 := by go_simp
  have k2 : W.cell? ⟨b, o + 7, none⟩ = some y2 := by go_simp
  have k3 : W.cell? ⟨b, o + 8, none⟩ = some y3 := by go_simp
  have k4 : W.cell? ⟨b, o + 9, none⟩ = some y4 := by go_simp
  have hqW := hbW.size
  have zbW := bsz (show b < W.heap.size by omega)
  have HB := Lib.hid hbW
  have l1 : ¬ (9223372036854775807 < 1 + g.txt.length) := by omega
  have l2 : ¬ (9223372036854775807 < 1 + g.txt.length + (sign8 op).length) := by omega
  have l3 : ¬ (9223372036854775807 < 1 + g.txt.length + (sign8 op).length + h.txt.length) := by omega
  have l4 : ¬ (9223372036854775807 < 1 + g.txt.length + (sign8 op).length + h.txt.length + 1) := by omega
  clear cW fW hx0 hx1 hx2 hx3 hx4 hy0 hy1 hy2 hy3 hy4
  refine wp_region_stages [some (.pointer (some ⟨w.heap.size, 4, none⟩)), some (.slice (some ⟨b, o, none⟩) 2 d), some (.pointer (some ⟨b, o, none⟩)), some (.agg #[x0, x1, x2, x3, x4]), some (.string ⟨g.txt.toArray⟩), some (.string (⟨#[40]⟩ ++ ⟨g.txt.toArray⟩)), none, some (.pointer (some ⟨w.heap.size, 0, none⟩)), some (.int .i64 op), none, none,
    some (.pointer (some ⟨w.heap.size, 4, none⟩)), some (.slice (some ⟨b, o, none⟩) 2 d), some (.pointer (some ⟨b, o + 5, none⟩)), some (.agg #[y0, y1, y2, y3, y4]), some (.string ⟨h.txt.toArray⟩), none, none, none] [6, 9, 10, 16, 17, 18]
    (SgSt W ⟨(sign8 op).toArray⟩ (⟨#[40]⟩ ++ ⟨g.txt.toArray⟩ ++ ⟨(sign8 op).toArray⟩) (⟨#[40]⟩ ++ ⟨g.txt.toArray⟩ ++ ⟨(sign8 op).toArray⟩ ++ ⟨h.txt.toArray⟩) (⟨#[40]⟩ ++ ⟨g.txt.toArray⟩ ++ ⟨(sign8 op).toArray⟩ ++ ⟨h.txt.toArray⟩ ++ ⟨#[41]⟩)) (by kernel_rfl) (by kernel_rfl) (by first | kernel_rfl | rfl) (by rfl) ⟨Below.dr (Below.refl _ _), trivial⟩ ?_
  refine chain_st rfl rfl (by decide) rfl (by intro j u w' hS; have hbS := hS.1; have ⟨cb, fb⟩ := bcell hbS; have qb := hbS.size; go_simp; first | done | exact ⟨hS, rfl⟩ | exact hS | rfl) ?_
  go_simp
  refine chain_st rfl rfl (by decide) rfl (by intro j u w' hS; have hbS := hS.1; have ⟨cb, fb⟩ := bcell hbS; have qb := hbS.size; go_simp; first | done | exact ⟨hS, rfl⟩ | exact hS | rfl) ?_
  go_simp
  refine chain_st rfl rfl (by decide) rfl (by intro j u w' hS; have hbS := hS.1; have ⟨cb, fb⟩ := bcell hbS; have qb := hbS.size; go_simp; first | done | exact ⟨hS, rfl⟩ | exact hS | rfl) ?_
  go_simp
  refine chain_st rfl rfl (by decide) rfl (by intro j u w' hS; have hbS := hS.1; have ⟨cb, fb⟩ := bcell hbS; have qb := hbS.size; go_simp; first | done | exact ⟨hS, rfl⟩ | exact hS | rfl) ?_
  go_simp
  refine chain_st rfl rfl (by decide) rfl (by intro j u w' hS; go_simp; exact (TxtAt.call IH.out g _ _ _ _ _ w' ((HX.out.below HB.out).below hS.1) HG.out.1 (by omega)).mono (fun e w'' hh => ⟨hh.1, hS.below hh.2⟩)) ?_
  go_simp
  refine chain_st rfl rfl (by decide) rfl (by intro j u w' hS; have hbS := hS.1; have ⟨cb, fb⟩ := bcell hbS; have qb := hbS.size; go_simp; first | done | exact ⟨hS, rfl⟩ | exact hS | rfl) ?_
  go_simp
  refine chain_first rfl rfl rfl (by decide) rfl ?_ ?_
  · intro w' hS
    go_simp
    refine (signs_any _).mono ?_
    rintro e w'' ⟨b', he, hown, -, hb'⟩
    exact ⟨_, he, (hS.below hb').1, b', by rw [upd_same], hown⟩
  intro x
  go_simp
  refine chain_st rfl rfl (by decide) rfl (by intro j u w' hS; have hbS := hS.1; have ⟨cb, fb⟩ := bcell hbS; have qb := hbS.size; go_simp; first | done | exact ⟨hS, rfl⟩ | exact hS | rfl) ?_
  go_simp
  refine chain_st rfl rfl (by decide) rfl (by intro j u w' hS; have hbS := hS.1; have ⟨cb, fb⟩ := bcell hbS; have qb := hbS.size; go_simp; first | done | exact ⟨hS, rfl⟩ | exact hS | rfl) ?_
  go_simp
  refine chain_next 0 rfl rfl rfl rfl (by decide) rfl (by first | kernel_rfl | rfl) ?_ ?_
  · intro w' hS
    obtain ⟨hb', b', hx', hown⟩ := hS
    rw [upd_same] at hx'
    subst hx'
    have hlk := sign_lookup hown op HOP.out
    go_simp
    exact ⟨hb', by show upd _ 9 _ 9 = _; rw [upd_same]⟩
  intro y
  go_simp
  refine chain_next 1 rfl rfl rfl rfl (by decide) rfl (by first | kernel_rfl | rfl) ?_ ?_
  · intro w' hS
    obtain ⟨hb', hy'⟩ := hS
    have hy' : upd (upd _ 6 x) 9 y 9 = _ := hy'
    rw [upd_same] at hy'
    subst hy'
    go_simp
    exact ⟨hb', by show upd _ 10 _ 10 = _; rw [upd_same]⟩
  intro z
  go_simp
  refine chain_st rfl rfl (by decide) rfl (by intro j u w' hS; have hbS := hS.1; have ⟨cb, fb⟩ := bcell hbS; have qb := hbS.size; go_simp; first | done | exact ⟨hS, rfl⟩ | exact hS | rfl) ?_
  go_simp
  refine chain_st rfl rfl (by decide) rfl (by intro j u w' hS; have hbS := hS.1; have ⟨cb, fb⟩ := bcell hbS; have qb := hbS.size; go_simp; first | done | exact ⟨hS, rfl⟩ | exact hS | rfl) ?_
  go_simp
  refine chain_st rfl rfl (by decide) rfl (by intro j u w' hS; have hbS := hS.1; have ⟨cb, fb⟩ := bcell hbS; have qb := hbS.size; go_simp; first | done | exact ⟨hS, rfl⟩ | exact hS | rfl) ?_
  go_simp
  refine chain_st rfl rfl (by decide) rfl (by intro j u w' hS; have hbS := hS.1; have ⟨cb, fb⟩ := bcell hbS; have qb := hbS.size; go_simp; first | done | exact ⟨hS, rfl⟩ | exact hS | rfl) ?_
  go_simp
  refine chain_st rfl rfl (by decide) rfl (by intro j u w' hS; go_simp; exact (TxtAt.call IH.out h _ _ _ _ _ w' ((HY.out.below HB.out).below hS.1) HG.out.2 (by omega)).mono (fun e w'' hh => ⟨hh.1, hS.below hh.2⟩)) ?_
  go_simp
  refine chain_next 2 rfl rfl rfl rfl (by decide) rfl (by first | kernel_rfl | rfl) ?_ ?_
  · intro w' hS
    obtain ⟨hb', hy'⟩ := hS
    have hy' : upd _ 10 z 10 = _ := hy'
    rw [upd_same] at hy'
    subst hy'
    go_simp
    exact ⟨hb', by show upd _ 16 _ 16 = _; rw [upd_same]⟩
  intro z2
  go_simp
  refine chain_next 3 rfl rfl rfl rfl (by decide) rfl (by first | kernel_rfl | rfl) ?_ ?_
  · intro w' hS
    obtain ⟨hb', hy'⟩ := hS
    have hy' : upd _ 16 z2 16 = _ := hy'
    rw [upd_same] at hy'
    subst hy'
    go_simp
    exact ⟨hb', by show upd _ 17 _ 17 = _; rw [upd_same]⟩
  intro z3
  go_simp
  refine chain_next 4 rfl rfl rfl rfl (by decide) rfl (by first | kernel_rfl | rfl) ?_ ?_
  · intro w' hS
    obtain ⟨hb', hy'⟩ := hS
    have hy' : upd _ 17 z3 17 = _ := hy'
    rw [upd_same] at hy'
    subst hy'
    go_simp
    exact ⟨hb', by show upd _ 18 _ 18 = _; rw [upd_same]⟩
  intro z4
  refine flowU_nil ?_
  intro wz hz
  obtain ⟨hb', hy'⟩ := hz
  have hy' : upd _ 18 z4 18 = _ := hy'
  rw [upd_same] at hy'
  subst hy'
  go_simp
  go_wp2
  go_ret
  exact ⟨ret_strs (by rw [HTX.out]; simp [List.append_assoc]), by exact bel⟩
set_option maxRecDepth 100000 in
set_option maxHeartbeats 3200000 in
theorem formatFormula_any {B : Nat → Prop} : ∀ m : Nat, TxtAt Tryz.prog 188 B m := by
  intro m
  induction m with
  | zero => intro t v0 v1 v2 v3 v4 w h; exact h.elim
  | succ m ih =>
    intro t v0 v1 v2 v3 v4 w hfm hf hz
    have IH := Lib.hid ih
    clear ih
    cases form_cases hf with
    | tru =>
      obtain ⟨p, c, q, d, rfl, rfl, rfl, rfl, rfl, -⟩ := hfm.form
      clear hfm hf hz
      show Calls Tryz.prog 188 #[.agg #[.int .i64 1, .string ⟨#[]⟩, .slice p 0 c, .string ⟨#[]⟩, .slice q 0 d]] w _
      go_enter Tryz.func188, Tryz.ntmps188
      go_wp2
      go_ret
      exact ⟨ret_str (by rw [opF, Fm.txt]; rfl), by exact bel⟩
    | fal =>
      obtain ⟨p, c, q, d, rfl, rfl, rfl, rfl, rfl, -⟩ := hfm.form
      clear hfm hf hz
      show Calls Tryz.prog 188 #[.agg #[.int .i64 2, .string ⟨#[]⟩, .slice p 0 c, .string ⟨#[]⟩, .slice q 0 d]] w _
      go_enter Tryz.func188, Tryz.ntmps188
      go_wp2
      go_ret
      exact ⟨ret_str (by rw [opF, Fm.txt]; rfl), by exact bel⟩
    | atm a ha =>
      have HA := Lib.hid (show TmAt B (m + 1) w a _ from hfm.atm)
      obtain ⟨p, c, q, d, rfl, rfl, rfl, rfl, rfl, -⟩ := hfm.form
      rw [txt_atm] at hz ⊢
      have HZ := Lib.hid (And.intro ha hz)
      clear hfm hf hz
      show Calls Tryz.prog 188 #[.agg #[.int .i64 3, .string a.n, .slice p a.us.length c, .string ⟨#[]⟩, .slice q 0 d]] w _
      go_enter Tryz.func188, Tryz.ntmps188
      go_wp2_with fail
      refine (formatTerm_atom (m + 1) a _ _ _ (HA.out.below (by exact bel)) HZ.out.1 HZ.out.2).mono ?_
      rintro e w1 ⟨rfl, hb1⟩
      have ⟨cw1, fw1⟩ := bcell hb1
      have qw1 := hb1.size
      (try simp at qw1)
      (try have zw1w := bsz (show w.heap.size < w1.heap.size by omega))
      go_wp2
      go_ret
      exact ⟨rfl, by exact bel⟩
    | neg g hg =>
      obtain ⟨p, c, q, d, rfl, rfl, rfl, rfl, rfl, -⟩ := hfm.form
      obtain ⟨vn, va, vp, hcs, hop, hs, ht, hl⟩ := hfm
      simp only [List.cons.injEq, and_true] at hcs
      obtain ⟨-, -, -, -, rfl⟩ := hcs
      have hl' : ListAt B w 5 (FmAt B m w) (.slice q 1 d) [g] := hl
      obtain ⟨b, o, x0, x1, x2, x3, x4, rfl, hx0, hx1, hx2, hx3, hx4, hx⟩ := FmAt.oneT hl'
      have zb := bsz (World.block_lt_of_cell? _ _ hx0)
      obtain ⟨pg, cg, qg, dg, rfl, rfl, rfl, rfl, rfl, -⟩ := hx.form
      have HT := Lib.hid (txt_neg g)
      have hz2 : g.txt.length + 3 ≤ 1000000000003 := by rw [txt_neg] at hz; split at hz <;> (simp at hz; omega)
      have HX := Lib.hid (And.intro hx hg)
      clear hf hz ht hl hl' hx hg
      show Calls Tryz.prog 188 #[.agg #[.int .i64 4, .string ⟨#[]⟩, .slice p 0 c, .string ⟨#[]⟩, .slice (some ⟨b, o, none⟩) 1 d]] w _
      by_cases hq : g.a.n.data.toList = [61]
      · have HIE := Lib.hid (show isEq g.a.n = true by rw [isEq]; simpa using hq)
        have HN := Lib.hid hq
        clear hq
        go_enter Tryz.func188, Tryz.ntmps188
        go_wp2_with fail
        refine (isEquality_any _ _ _).mono ?_
        rintro e w1 ⟨rfl, hb1⟩
        have ⟨cw1, fw1⟩ := bcell hb1
        have qw1 := hb1.size
        (try simp at qw1)
        (try have zw1w := bsz (show w.heap.size < w1.heap.size by omega))
        rw [HIE.out]
        go_wp2_with fail
        refine (TxtAt.call IH.out g _ _ _ _ _ _ (HX.out.1.below (by exact bel)) HX.out.2 (by omega)).mono ?_
        rintro e w2 ⟨rfl, hb2⟩
        have ⟨cw2, fw2⟩ := bcell hb2
        have qw2 := hb2.size
        (try simp at qw2)
        (try have zw2w := bsz (show w.heap.size < w2.heap.size by omega))
        (try have zw2w1 := bsz (show w1.heap.size < w2.heap.size by omega))
        go_wp2
        go_ret
        exact ⟨ret_strs (by rw [HT.out, if_pos HN.out]; simp), by exact bel⟩
      · have HIE := Lib.hid (show isEq g.a.n = false by rw [isEq]; simpa using hq)
        have HN := Lib.hid hq
        clear hq
        go_enter Tryz.func188, Tryz.ntmps188
        go_wp2_with fail
        refine (isEquality_any _ _ _).mono ?_
        rintro e w1 ⟨rfl, hb1⟩
        have ⟨cw1, fw1⟩ := bcell hb1
        have qw1 := hb1.size
        (try simp at qw1)
        (try have zw1w := bsz (show w.heap.size < w1.heap.size by omega))
        rw [HIE.out]
        go_wp2_with fail
        refine (TxtAt.call IH.out g _ _ _ _ _ _ (HX.out.1.below (by exact bel)) HX.out.2 (by omega)).mono ?_
        rintro e w2 ⟨rfl, hb2⟩
        have ⟨cw2, fw2⟩ := bcell hb2
        have qw2 := hb2.size
        (try simp at qw2)
        (try have zw2w := bsz (show w.heap.size < w2.heap.size by omega))
        (try have zw2w1 := bsz (show w1.heap.size < w2.heap.size by omega))
        go_wp2
        go_ret
        exact ⟨ret_strs (by rw [HT.out, if_neg HN.out]; simp), by exact bel⟩
    | bin op g h ho hg hh =>
      obtain ⟨p, c, q, d, rfl, rfl, rfl, rfl, rfl, -⟩ := hfm.form
      obtain ⟨vn, va, vp, hcs, hop, hs, ht, hl⟩ := hfm
      simp only [List.cons.injEq, and_true] at hcs
      obtain ⟨-, -, -, -, rfl⟩ := hcs
      exact formatFormula_bin m IH.out op ho g h hg hh p q c d w hl hz
    | qua op v g ho hv hg =>
      obtain ⟨p, c, q, d, rfl, rfl, rfl, rfl, rfl, -⟩ := hfm.form
      obtain ⟨vn, va, vp, hcs, hop, hs, ht, hl⟩ := hfm
      simp only [List.cons.injEq, and_true] at hcs
      obtain ⟨-, -, -, -, rfl⟩ := hcs
      have hl' : ListAt B w 5 (FmAt B m w) (.slice q 1 d) [g] := hl
      obtain ⟨b, o, x0, x1, x2, x3, x4, rfl, hx0, hx1, hx2, hx3, hx4, hx⟩ := FmAt.oneT hl'
      have zb := bsz (World.block_lt_of_cell? _ _ hx0)
      have HG := Lib.hid hg
      have HX := Lib.hid hx
      clear hf ht hl hl' hg hx
      rcases ho with rfl | rfl
      · have hz2 : g.txt.length + v.length + 30 ≤ 1000000000030 := by rw [txt_qua (by decide)] at hz; simp at hz; omega
        clear hz
        show Calls Tryz.prog 188 #[.agg #[.int .i64 8, .string ⟨#[]⟩, .slice p 0 c, .string ⟨v.toArray⟩, .slice (some ⟨b, o, none⟩) 1 d]] w _
        go_enter Tryz.func188, Tryz.ntmps188
        go_wp2
        obtain ⟨W, hW⟩ : ∃ W : World, W = w.alloc (.cells #[.int .i64 8, .string ⟨#[]⟩, .slice p 0 c, .string ⟨v.toArray⟩, .slice (some ⟨b, o, none⟩) 1 d] 44) := ⟨_, rfl⟩
        have hwb : W.cell? ⟨w.heap.size, 3, none⟩ = some (.string ⟨v.toArray⟩) := by rw [hW]; go_simp
        have hwc : W.cell? ⟨w.heap.size, 4, none⟩ = some (.slice (some ⟨b, o, none⟩) 1 d) := by rw [hW]; go_simp
        have hbW : Below w.heap.size w W := by rw [hW]; exact bel
        rw [← hW]
        clear hW
        have zW := bsz (World.block_lt_of_cell? _ _ hwb)
        have ⟨cW, fW⟩ := bcell hbW
        obtain ⟨C, HC0⟩ := class_of (InF W.heap.size _ [(⟨w.heap.size, 3, none⟩, .string ⟨v.toArray⟩), (⟨w.heap.size, 4, none⟩, .slice (some ⟨b, o, none⟩) 1 d), (⟨b, o, none⟩, x0), (⟨b, o + 1, none⟩, x1), (⟨b, o + 2, none⟩, x2), (⟨b, o + 3, none⟩, x3), (⟨b, o + 4, none⟩, x4)] [] [])
        have HC := Lib.hid HC0
        clear HC0
        refine wp_region_flow (C := C) (by kernel_rfl) (by kernel_rfl) (fun L hL => (HC.out _ _).2 (InF.start (by first | (intro _ hs; cases hs; done) | (simp only [List.forall_mem_cons]; go_simp)) (by first | (intro _ hs; cases hs; done) | (simp only [List.forall_mem_cons]; go_simp)) (by first | (intro _ hs; cases hs; done) | (simp only [List.forall_mem_cons]; go_simp)) (by first | (intro _ hs; cases hs; done) | (simp only [List.forall_mem_cons]; go_simp)) L hL)) ?_
        repeat (first | ((first | apply flow_free rfl | (apply flow_yes; (case hw => go_simp))); (intro L w' hun hrd hC; have hC := (HC.out _ _).1 hC; have hb' := hC.below; (try have hw' : Below w.heap.size w w' := by first | exact Below.trans (by (repeat (first | with_reducible (first | exact bR _ _ | assumption | refine bA ?_ _ | refine bS ?_ (by first | exact Nat.le_refl _ | (simp; done) | (simp; omega)) _) | assumption | exact bR _ _ | refine bD ?_ | refine bN ?_ _ | refine bT ?_ (by assumption)))) hb' | ((repeat (first | with_reducible (first | exact bR _ _ | assumption | refine bA ?_ _ | refine bS ?_ (by first | exact Nat.le_refl _ | (simp; done) | (simp; omega)) _) | assumption | exact bR _ _ | refine bD ?_ | refine bN ?_ _ | refine bT ?_ (by assumption))); done)); have hf' := hC.cell; (try simp only [List.forall_mem_cons] at hf'); go_simp; first | exact ⟨(HC.out _ _).2 (hC.skip _ (by rfl)), rfl⟩ | (rw [if_neg]; (exact ⟨(HC.out _ _).2 (hC.skip _ (by rfl)), rfl⟩); omega) | (go_at_call 188; (with_reducible refine (TxtAt.call IH.out g x0 x1 x2 x3 x4 _ (HX.out.below hw') HG.out (by omega)).mono ?_); rintro e w1 ⟨rfl, hb1⟩; exact ⟨rfl, (HC.out _ _).2 ((hC.next (by first | (simp; done) | (simp; omega) | omega) hb1).skip _ (by rfl))⟩)); go_simp) | (apply flow_no; (case hw => (go_simp; try (intro hh; cases hh))); (intro L w' _ _ hC; exact (HC.out _ _).2 (((HC.out _ _).1 hC).skip _ (by rfl))); go_simp))
        refine flow_nil ?_
        intro L wz hL hz
        have hz := (HC.out _ _).1 hz
        have hbz := hz.below
        have hcz := hz.cell
        try simp only [List.forall_mem_cons] at hcz
        have hdz := hz.done
        try simp only [List.forall_mem_cons] at hdz
        (try have hwz : Below w.heap.size w wz := by first | exact Below.trans (by (repeat (first | with_reducible (first | exact bR _ _ | assumption | refine bA ?_ _ | refine bS ?_ (by first | exact Nat.le_refl _ | (simp; done) | (simp; omega)) _) | assumption | exact bR _ _ | refine bD ?_ | refine bN ?_ _ | refine bT ?_ (by assumption)))) hbz | ((repeat (first | with_reducible (first | exact bR _ _ | assumption | refine bA ?_ _ | refine bS ?_ (by first | exact Nat.le_refl _ | (simp; done) | (simp; omega)) _) | assumption | exact bR _ _ | refine bD ?_ | refine bN ?_ _ | refine bT ?_ (by assumption))); done))
        go_wp2
        go_ret
        exact ⟨ret_strs (by rw [txt_qua (by decide)]; simp [sAll8]), by exact bel⟩
      · have hz2 : g.txt.length + v.length + 30 ≤ 1000000000030 := by rw [txt_qua (by decide)] at hz; simp at hz; omega
        clear hz
        show Calls Tryz.prog 188 #[.agg #[.int .i64 9, .string ⟨#[]⟩, .slice p 0 c, .string ⟨v.toArray⟩, .slice (some ⟨b, o, none⟩) 1 d]] w _
        go_enter Tryz.func188, Tryz.ntmps188
        go_wp2
        obtain ⟨W, hW⟩ : ∃ W : World, W = w.alloc (.cells #[.int .i64 9, .string ⟨#[]⟩, .slice p 0 c, .string ⟨v.toArray⟩, .slice (some ⟨b, o, none⟩) 1 d] 44) := ⟨_, rfl⟩
        have hwb : W.cell? ⟨w.heap.size, 3, none⟩ = some (.string ⟨v.toArray⟩) := by rw [hW]; go_simp
        have hwc : W.cell? ⟨w.heap.size, 4, none⟩ = some (.slice (some ⟨b, o, none⟩) 1 d) := by rw [hW]; go_simp
        have hbW : Below w.heap.size w W := by rw [hW]; exact bel
        rw [← hW]
        clear hW
        have zW := bsz (World.block_lt_of_cell? _ _ hwb)
        have ⟨cW, fW⟩ := bcell hbW
        obtain ⟨C, HC0⟩ := class_of (InF W.heap.size _ [(⟨w.heap.size, 3, none⟩, .string ⟨v.toArray⟩), (⟨w.heap.size, 4, none⟩, .slice (some ⟨b, o, none⟩) 1 d), (⟨b, o, none⟩, x0), (⟨b, o + 1, none⟩, x1), (⟨b, o + 2, none⟩, x2), (⟨b, o + 3, none⟩, x3), (⟨b, o + 4, none⟩, x4)] [] [])
        have HC := Lib.hid HC0
        clear HC0
        refine wp_region_flow (C := C) (by kernel_rfl) (by kernel_rfl) (fun L hL => (HC.out _ _).2 (InF.start (by first | (intro _ hs; cases hs; done) | (simp only [List.forall_mem_cons]; go_simp)) (by first | (intro _ hs; cases hs; done) | (simp only [List.forall_mem_cons]; go_simp)) (by first | (intro _ hs; cases hs; done) | (simp only [List.forall_mem_cons]; go_simp)) (by first | (intro _ hs; cases hs; done) | (simp only [List.forall_mem_cons]; go_simp)) L hL)) ?_
        repeat (first | ((first | apply flow_free rfl | (apply flow_yes; (case hw => go_simp))); (intro L w' hun hrd hC; have hC := (HC.out _ _).1 hC; have hb' := hC.below; (try have hw' : Below w.heap.size w w' := by first | exact Below.trans (by (repeat (first | with_reducible (first | exact bR _ _ | assumption | refine bA ?_ _ | refine bS ?_ (by first | exact Nat.le_refl _ | (simp; done) | (simp; omega)) _) | assumption | exact bR _ _ | refine bD ?_ | refine bN ?_ _ | refine bT ?_ (by assumption)))) hb' | ((repeat (first | with_reducible (first | exact bR _ _ | assumption | refine bA ?_ _ | refine bS ?_ (by first | exact Nat.le_refl _ | (simp; done) | (simp; omega)) _) | assumption | exact bR _ _ | refine bD ?_ | refine bN ?_ _ | refine bT ?_ (by assumption))); done)); have hf' := hC.cell; (try simp only [List.forall_mem_cons] at hf'); go_simp; first | exact ⟨(HC.out _ _).2 (hC.skip _ (by rfl)), rfl⟩ | (rw [if_neg]; (exact ⟨(HC.out _ _).2 (hC.skip _ (by rfl)), rfl⟩); omega) | (go_at_call 188; (with_reducible refine (TxtAt.call IH.out g x0 x1 x2 x3 x4 _ (HX.out.below hw') HG.out (by omega)).mono ?_); rintro e w1 ⟨rfl, hb1⟩; exact ⟨rfl, (HC.out _ _).2 ((hC.next (by first | (simp; done) | (simp; omega) | omega) hb1).skip _ (by rfl))⟩)); go_simp) | (apply flow_no; (case hw => (go_simp; try (intro hh; cases hh))); (intro L w' _ _ hC; exact (HC.out _ _).2 (((HC.out _ _).1 hC).skip _ (by rfl))); go_simp))
        refine flow_nil ?_
        intro L wz hL hz
        have hz := (HC.out _ _).1 hz
        have hbz := hz.below
        have hcz := hz.cell
        try simp only [List.forall_mem_cons] at hcz
        have hdz := hz.done
        try simp only [List.forall_mem_cons] at hdz
        (try have hwz : Below w.heap.size w wz := by first | exact Below.trans (by (repeat (first | with_reducible (first | exact bR _ _ | assumption | refine bA ?_ _ | refine bS ?_ (by first | exact Nat.le_refl _ | (simp; done) | (simp; omega)) _) | assumption | exact bR _ _ | refine bD ?_ | refine bN ?_ _ | refine bT ?_ (by assumption)))) hbz | ((repeat (first | with_reducible (first | exact bR _ _ | assumption | refine bA ?_ _ | refine bS ?_ (by first | exact Nat.le_refl _ | (simp; done) | (simp; omega)) _) | assumption | exact bR _ _ | refine bD ?_ | refine bN ?_ _ | refine bT ?_ (by assumption))); done))
        go_wp2
        go_ret
        exact ⟨ret_strs (by rw [txt_qua (by decide)]; simp [sSome8]), by exact bel⟩
open Go.RowKit
def EtfPost (n : Nat) (ok : Bool) (F : Fm) (w : World) (e : Ending) (w' : World) : Prop :=
  Below w.heap.size w w' ∧ if ok = true then ∃ x, e = .returned (.tuple #[x, .bool true]) ∧ FmV n (NewB w w') w' F x
    else e = .returned (.tuple #[.agg #[.int .i64 0, .string ⟨#[]⟩, .slice none 0 0, .string ⟨#[]⟩, .slice none 0 0], .bool false])
theorem EtfPost.no {n : Nat} {ok : Bool} {F : Fm} {w w' : World} (h : ok = false) (hb : Below w.heap.size w w') : EtfPost n ok F w (.returned (.tuple #[.agg #[.int .i64 0, .string ⟨#[]⟩, .slice none 0 0, .string ⟨#[]⟩, .slice none 0 0], .bool false])) w' := by
  subst h; exact ⟨hb, rfl⟩
open Go.RowKit
theorem nodes_fmtlen : ∀ (n : Nat) (t : Tm), t.sz ≤ n → t.nodes = true → t.fmt.length ≤ 5 * t.wt + 4 := by
  intro n
  induction n with
  | zero => intro t h; obtain ⟨m, us⟩ := t; rw [Tm.sz] at h; omega
  | succ n ih =>
    intro t hz hn
    obtain ⟨m, us⟩ := t
    have h1 := Tm.nodes_mk hn
    rw [Tm.fmt_mk (word_not61 h1.1)]
    have key : ∀ us : List Tm, Tm.szs us ≤ n → Tm.nodess us = true → (joinB [44] (Tm.fmtL us)).length ≤ 5 * Tm.wts us + 5 * us.length := by
      intro us
      induction us with
      | nil => intro _ _; simp [Tm.fmtL, joinB]
      | cons a us ihu =>
        intro hz hn
        rw [Tm.szs] at hz
        have hn2 : a.nodes = true ∧ Tm.nodess us = true := by simpa [Tm.nodess] using hn
        have ha := ih a (by omega) hn2.1
        have hu := ihu (by omega) hn2.2
        cases us with
        | nil => simp only [Tm.fmtL, joinB, Tm.wts, List.length_cons, List.length_nil]; omega
        | cons b us => simp only [Tm.fmtL, joinB, List.length_append, Tm.wts, List.length_cons, List.length_nil] at hu ⊢; omega
    rw [Tm.sz] at hz
    have hk := key us (by omega) h1.2
    rw [Tm.wt, size_list]
    cases us with
    | nil => simp; omega
    | cons a us => simp only [List.isEmpty_cons, Bool.false_eq_true, if_false, List.length_append, List.length_cons, List.length_nil] at hk ⊢; omega
theorem atom_fmtlen {t : Tm} (h : t.atom = true) : t.fmt.length ≤ 5 * t.wt + 8 := by
  cases atom_cases h with
  | eq a b ha hb =>
    have h1 := nodes_fmtlen _ a (Nat.le_refl _) ha
    have h2 := nodes_fmtlen _ b (Nat.le_refl _) hb
    rw [fmt_eq]
    simp only [List.length_append, eqTm, Tm.wt, Tm.wts, List.length_cons, List.length_nil, show sEq8.length = 3 from rfl]; omega
  | pred n us hs hu hd => have := nodes_fmtlen _ _ (Nat.le_refl _) hd; omega
theorem form_txtlen : ∀ (n : Nat) (F : Fm), F.sz ≤ n → F.form = true → F.txt.length ≤ 16 * F.wt + 16 := by
  intro n
  induction n with
  | zero => intro F h; obtain ⟨op, a, v, ps⟩ := F; rw [Fm.sz] at h; omega
  | succ n ih =>
    intro F hz hf
    cases form_cases hf with
    | tru => have e : (opF 1 []).txt = sTrue8 := by rw [opF, Fm.txt]; rfl
             rw [e, show sTrue8.length = 4 from rfl]; omega
    | fal => have e : (opF 2 []).txt = sFalse8 := by rw [opF, Fm.txt]; rfl
             rw [e, show sFalse8.length = 5 from rfl]; omega
    | atm a ha =>
      have h1 := atom_fmtlen ha
      rw [txt_atm]
      simp only [atomOfF, Fm.wt, Fm.wts, List.length_nil, nil_size]; omega
    | neg g hg =>
      have e : (opF 4 [g]).sz = 1 + (g.sz + 0) := by rw [opF, Fm.sz, Fm.szs, Fm.szs]
      have h1 := ih g (by omega) hg
      rw [txt_neg]
      split <;> (simp only [opF, Fm.wt, Fm.wts, tm0_wt, nil_size, List.length_append, List.length_cons, List.length_nil]; omega)
    | bin op g h ho hg hh =>
      have e : (opF op [g, h]).sz = 1 + (g.sz + (h.sz + 0)) := by rw [opF, Fm.sz, Fm.szs, Fm.szs, Fm.szs]
      have h1 := ih g (by omega) hg
      have h2 := ih h (by omega) hh
      have h3 := sign8_len op
      rw [txt_bin ho]
      simp only [opF, Fm.wt, Fm.wts, tm0_wt, nil_size, List.length_append, List.length_cons, List.length_nil]; omega
    | qua op v g ho hv hg =>
      have e : (quantF op v g).sz = 1 + (g.sz + 0) := by rw [quantF, Fm.sz, Fm.szs, Fm.szs]
      have h1 := ih g (by omega) hg
      have h3 : (if op = 8 then sAll8 else sSome8).length ≤ 5 := by split <;> decide
      rw [txt_qua ho]
      simp only [quantF, Fm.wt, Fm.wts, tm0_wt, size_toBytes, List.length_append, List.length_cons, List.length_nil]; omega
set_option maxRecDepth 100000 in
set_option maxHeartbeats 3200000 in
theorem implPF_any (s : ByteArray) (hz : s.size ≤ 1000000000000) (w : World) : Calls Tryz.prog 139 #[.string s] w (EtfPost (3 * s.size + 11) (pfOk s) (fRead s.data.toList).1 w) := by
  by_cases hs : 4000 < s.size
  · have HNO := Lib.hid (show pfOk s = false by rw [pfOk, decide_eq_false (by omega), Bool.false_and])
    go_enter Tryz.func139, Tryz.ntmps139
    go_wp2
    refine bodyPost_ret (v := .tuple #[.agg #[.int .i64 0, .string ⟨#[]⟩, .slice none 0 0, .string ⟨#[]⟩, .slice none 0 0], .bool false]) (by simp only [results, Tryz.results139]; go_simp) rfl (EtfPost.no HNO.out (by exact bel))
  · have hs : s.size ≤ 4000 := by omega
    have hwt := pFrm_wt s.data.toList (2 * s.size + 5) ⟨0, false⟩ (Nat.zero_le _)
    have hpr : pFrm s.data.toList (2 * s.size + 5) ⟨0, false⟩ = fRead s.data.toList := by rw [fRead, ← size_list]
    have hok : pfOk s = (!(fRead s.data.toList).2.bad && (fRead s.data.toList).2.pos == s.size && (fRead s.data.toList).1.good && (fRead s.data.toList).1.txt == s.data.toList) := by rw [pfOk, decide_eq_true hs, Bool.true_and, fOkL, ← size_list]
    rw [hpr, ← size_list] at hwt
    have HPR := Lib.hid hpr
    clear hpr
    generalize fRead s.data.toList = r at *
    obtain ⟨F, p1⟩ := r
    simp only at hwt hok
    have HOK := Lib.hid hok
    clear hok
    go_enter Tryz.func139, Tryz.ntmps139
    go_wp2_with fail
    refine ((frm_any (2 * s.size + 5)).1 (w.heap.size + 1) s ⟨0, false⟩ _ ?_ (Nat.zero_le _) (by omega) (by simp)).mono ?_
    · have h0 := heap_alloc_new (w.alloc (.cells #[.int .i64 0, .string ⟨#[]⟩, .slice none 0 0, .string ⟨#[]⟩, .slice none 0 0] 44)) (.cells #[.string s, .int .i64 0, .bool false] 190)
      rw [show (w.alloc (.cells #[.int .i64 0, .string ⟨#[]⟩, .slice none 0 0, .string ⟨#[]⟩, .slice none 0 0] 44)).heap.size = w.heap.size + 1 by simp] at h0
      exact h0
    rw [HPR.out]
    simp only
    rintro e w1 ⟨x, rfl, hx⟩
    have HX := Lib.hid hx
    obtain ⟨z1, e1, z2, e2, rfl⟩ := hx.form
    clear hx
    have hz1 := HX.out.2.2.size
    simp at hz1
    have G1 := HX.out.2.2
    have HR := (G1.block w.heap.size (by simp; omega) (by simp)).trans ((hao (w.alloc _) _ _ (by simp)).trans (heap_alloc_new w _))
    have BW := Lib.hid (show True → Below w.heap.size w w1 from fun _ => ⟨G1.os, G1.tape, G1.output, by have := G1.size; simp at this; omega, fun b hb => (G1.block b (by simp; omega) (by simp; omega)).trans ((hao (w.alloc _) _ _ (by simp; omega)).trans (hao w _ _ hb))⟩)
    obtain ⟨r0, r1, r2, r3, r4, rf⟩ := cells5_cell HR
    have hr1 := bsz (heap_lt HR)
    have hr2 := bsz (show w.heap.size + 1 < w1.heap.size by omega)
    have HP := Lib.hid HX.out.2.1
    clear HR G1
    go_wp2_with fail
    refine (ended_any (w.heap.size + 1) s p1 _ (HP.out.below (by exact bel))).mono ?_
    rintro e w2 ⟨rfl, hbe⟩
    have ⟨cbe, fbe⟩ := bcell hbe
    have hqe := hbe.size
    simp at hqe
    have he1 := bsz (show w.heap.size < w2.heap.size by omega)
    have he2 := bsz (show w1.heap.size < w2.heap.size by omega)
    cases hE : (!p1.bad && p1.pos == s.size)
    · have HE := Lib.hid (show pfOk s = false by rw [HOK.out, hE]; rfl)
      have hb3 := BW.out trivial
      go_wp2
      refine bodyPost_ret (v := .tuple #[.agg #[.int .i64 0, .string ⟨#[]⟩, .slice none 0 0, .string ⟨#[]⟩, .slice none 0 0], .bool false]) (by simp only [results, Tryz.results139]; go_simp) rfl (EtfPost.no HE.out (by exact bel))
    have HE := Lib.hid hE
    clear hE
    obtain ⟨v0, v1, v2, v3, v4, hx5, hO⟩ := HX.out.1
    simp only [Value.agg.injEq, Array.mk.injEq, List.cons.injEq, and_true] at hx5
    obtain ⟨rfl, rfl, rfl, rfl, rfl⟩ := hx5
    have HO := Lib.hid hO
    have HAT := Lib.hid (FmOwn.at_ _ _ _ hO)
    clear hO
    have hwt' : F.wt ≤ s.size := by omega
    have hsz := F.sz_wt
    have hasz := F.asz_wt
    go_wp2_with fail
    refine (isValidFormula_any _ F _ _ _ _ _ _ (FmAt.below (by exact bel) HAT.out) (by omega) (by omega)).mono ?_
    rintro e w3 ⟨rfl, hbv⟩
    have ⟨cv, fv⟩ := bcell hbv
    have hqv := hbv.size
    (try simp at hqv)
    have hv1 := bsz (show w.heap.size < w3.heap.size by omega)
    have hv2 := bsz (show w1.heap.size < w3.heap.size by omega)
    cases hG : F.good
    · have HG := Lib.hid (show pfOk s = false by rw [HOK.out, hG]; simp)
      go_wp2
      refine bodyPost_ret (v := .tuple #[.agg #[.int .i64 0, .string ⟨#[]⟩, .slice none 0 0, .string ⟨#[]⟩, .slice none 0 0], .bool false]) (by simp only [results, Tryz.results139]; go_simp) rfl (EtfPost.no HG.out (by have hb3 := BW.out trivial; exact bel))
    · have HG := Lib.hid hG
      have hform : F.form = true := by rw [Fm.good, Bool.and_eq_true] at hG; exact hG.2
      have hel := form_txtlen F.sz F (Nat.le_refl _) hform
      clear hG
      go_wp2_with fail
      refine (TxtAt.call (formatFormula_any _) F _ _ _ _ _ _ (FmAt.below (by exact bel) HAT.out) hform (by omega)).mono ?_
      rintro e w4 ⟨rfl, hbf⟩
      have ⟨ce, fe⟩ := bcell hbf
      have hqf := hbf.size
      have hw1 := bsz (show w.heap.size < w4.heap.size by omega)
      have hw2 := bsz (show w1.heap.size < w4.heap.size by omega)
      by_cases hq : (⟨F.txt.toArray⟩ : ByteArray) = s
      · have HQ := Lib.hid (show pfOk s = true by rw [HOK.out, HE.out, HG.out]; simp [← hq])
        have hq2 : (F.txt == s.toList) = true := by rw [ByteArray.toList_eq, ← hq]; simp
        go_wp2
        refine bodyPost_ret (v := .tuple #[.agg #[.int .i64 F.op, .string F.a.n, .slice z1 F.a.us.length e1, .string F.v, .slice z2 F.ps.length e2], .bool true]) (by simp only [results, Tryz.results139]; go_simp) rfl ?_
        rw [HQ.out]
        refine ⟨by have hb3 := BW.out trivial; exact bel, _, rfl, _, _, _, _, _, rfl, ?_⟩
        have hb3 : Below w1.heap.size w1 w4 := by exact bel
        exact FmOwn.mono _ _ _ _ (by omega) (fun b hb hlt => by
          have h0 : w.heap.size + 1 + 1 ≤ b := by simpa [NewB] using hb.1
          repeat rw [heap_setCell_other _ _ _ _ (by simp; omega)]
          exact hb3.block b hlt) (fun b hb => by
          have h0 : w.heap.size + 1 + 1 ≤ b := by simpa [NewB] using hb.1
          have h1 := hb.2
          exact ⟨by omega, by simp; omega⟩) HO.out
      · have HQ := Lib.hid (show pfOk s = false by
          rw [HOK.out, HE.out, HG.out, Bool.true_and, Bool.true_and, beq_eq_false_iff_ne]
          exact fun e => hq (by rw [e]))
        have hq2 : (F.txt == s.toList) = false := by
          rw [ByteArray.toList_eq, beq_eq_false_iff_ne]
          exact fun e => hq (by rw [e])
        go_wp2
        refine bodyPost_ret (v := .tuple #[.agg #[.int .i64 0, .string ⟨#[]⟩, .slice none 0 0, .string ⟨#[]⟩, .slice none 0 0], .bool false]) (by simp only [results, Tryz.results139]; go_simp) rfl (EtfPost.no HQ.out (by have hb3 := BW.out trivial; exact bel))
open Go.RowKit
set_option maxRecDepth 100000 in
set_option maxHeartbeats 3200000 in
theorem specPF_any (s : ByteArray) (hz : s.size ≤ 1000000000000) (w : World) : Calls Tryz.prog 166 #[.string s] w (EtfPost (3 * s.size + 11) (pfOk s) (fRead s.data.toList).1 w) := by
  by_cases hs : 4000 < s.size
  · have HNO := Lib.hid (show pfOk s = false by rw [pfOk, decide_eq_false (by omega), Bool.false_and])
    go_enter Tryz.func166, Tryz.ntmps166
    go_wp2
    refine bodyPost_ret (v := .tuple #[.agg #[.int .i64 0, .string ⟨#[]⟩, .slice none 0 0, .string ⟨#[]⟩, .slice none 0 0], .bool false]) (by simp only [results, Tryz.results166]; go_simp) rfl (EtfPost.no HNO.out (by exact bel))
  · have hs : s.size ≤ 4000 := by omega
    have hpr : rFrm s.data.toList (2 * s.size + 5) 0 = gRead s.data.toList := by rw [gRead, ← size_list]
    have hok : pfOk s = gOkL s.data.toList := by rw [pfOk, decide_eq_true hs, Bool.true_and, gOkL_eq]
    have HPR := Lib.hid hpr
    have HEQ := Lib.hid (fun h : pfOk s = true => gRead_eq (L := s.data.toList) (by rw [pfOk, Bool.and_eq_true] at h; exact h.2))
    have HB0 := Lib.hid (BSt.start w)
    have hgo : gOkL s.data.toList = match gRead s.data.toList with | none => false | some (F, j) => j == s.data.toList.length && F.good && F.txt == s.data.toList := rfl
    have HGO := Lib.hid (hok.trans hgo)
    clear hok hgo
    go_enter Tryz.func166, Tryz.ntmps166
    go_wp2_with fail
    refine ((l8Read_any (2 * s.size + 5)).1 s 0 _ (Nat.zero_le _) (by omega) (by omega)).mono ?_
    rintro e w1 ⟨x, rfl, hb1, op1, n1, v1, p1, q1, k1, c1, k2, d1, z1, rfl, hgot⟩
    have HB1 := Lib.hid (HB0.out.later hb1)
    have hq1 := hb1.size
    (try simp at hq1)
    rw [hpr] at hgot
    clear hpr HB0 hb1
    obtain ⟨r0, r1, r2, r3, r4, rf⟩ := cells5_cell HB1.out.res
    have hrb := bsz (heap_lt HB1.out.res)
    have hbel := HB1.out.bel
    cases hr : gRead s.data.toList with
    | none =>
      rw [hr] at hgot
      simp only at hgot
      subst hgot
      have HNO := Lib.hid (show pfOk s = false by rw [HGO.out, hr])
      have hne : ((-1 : Int) == (s.size : Int)) = false := by rw [beq_eq_false_iff_ne]; omega
      have hne' : ((-1 : Int) != (s.size : Int)) = true := by rw [bne, hne]; rfl
      go_wp2
      refine bodyPost_ret (v := .tuple #[.agg #[.int .i64 0, .string ⟨#[]⟩, .slice none 0 0, .string ⟨#[]⟩, .slice none 0 0], .bool false]) (by simp only [results, Tryz.results166]; go_simp) rfl (EtfPost.no HNO.out (by exact bel))
    | some r =>
      obtain ⟨F, j⟩ := r
      have hwt := rFrm_wt s.data.toList (2 * s.size + 5) 0 F j (Nat.zero_le _) (HPR.out.trans hr)
      rw [← size_list] at hwt
      rw [hr] at hgot HGO
      simp only at hgot HGO
      rw [← size_list] at HGO
      obtain ⟨rfl, hO⟩ := hgot
      have HO := Lib.hid hO
      have HAT := Lib.hid (FmOwn.at_ _ _ _ hO)
      obtain ⟨p', c', q', d', e1, e2, e3, e4, e5, -⟩ := hO.form
      simp only [Value.int.injEq, Value.string.injEq, Value.slice.injEq, true_and] at e1 e2 e3 e4 e5
      obtain rfl := e1
      obtain rfl := e2
      obtain rfl := e4
      obtain ⟨rfl, rfl, rfl⟩ := e3
      obtain ⟨rfl, rfl, rfl⟩ := e5
      clear hO
      cases hE : (j == s.size)
      · have HNO := Lib.hid (show pfOk s = false by rw [HGO.out, hE]; rfl)
        have hne : ((j : Int) == (s.size : Int)) = false := by rw [beq_eq_false_iff_ne] at hE ⊢; omega
        have hne' : ((j : Int) != (s.size : Int)) = true := by rw [bne, hne]; rfl
        go_wp2
        refine bodyPost_ret (v := .tuple #[.agg #[.int .i64 0, .string ⟨#[]⟩, .slice none 0 0, .string ⟨#[]⟩, .slice none 0 0], .bool false]) (by simp only [results, Tryz.results166]; go_simp) rfl (EtfPost.no HNO.out (by exact bel))
      · have HE := Lib.hid hE
        have hne : ((j : Int) == (s.size : Int)) = true := by rw [beq_iff_eq] at hE ⊢; omega
        have hne' : ((j : Int) != (s.size : Int)) = false := by rw [bne, hne]; rfl
        have hwt' : F.wt ≤ s.size := by omega
        have hsz := F.sz_wt
        have hasz := F.asz_wt
        clear hE
        go_wp2_with fail
        refine (l8Good_any _ F _ _ _ _ _ _ (FmAt.below (by exact bel) HAT.out) (by omega) (by omega)).mono ?_
        rintro e w3 ⟨rfl, hbv⟩
        have ⟨cv, fv⟩ := bcell hbv
        have hqv := hbv.size
        (try simp at hqv)
        have hv1 := bsz (show w.heap.size < w3.heap.size by omega)
        have hv2 := bsz (show w1.heap.size < w3.heap.size by omega)
        cases hG : F.good
        · have HNO := Lib.hid (show pfOk s = false by rw [HGO.out, hG]; simp)
          go_wp2
          refine bodyPost_ret (v := .tuple #[.agg #[.int .i64 0, .string ⟨#[]⟩, .slice none 0 0, .string ⟨#[]⟩, .slice none 0 0], .bool false]) (by simp only [results, Tryz.results166]; go_simp) rfl (EtfPost.no HNO.out (by exact bel))
        · have HG := Lib.hid hG
          have hform : F.form = true := by rw [Fm.good, Bool.and_eq_true] at hG; exact hG.2
          have hel := form_txtlen F.sz F (Nat.le_refl _) hform
          clear hG
          go_wp2_with fail
          refine (TxtAt.call (l8Text_any _) F _ _ _ _ _ _ (FmAt.below (by exact bel) HAT.out) hform (by omega)).mono ?_
          rintro e w4 ⟨rfl, hbf⟩
          have ⟨ce, fe⟩ := bcell hbf
          have hqf := hbf.size
          have hw1 := bsz (show w.heap.size < w4.heap.size by omega)
          have hw2 := bsz (show w1.heap.size < w4.heap.size by omega)
          by_cases hq : (⟨F.txt.toArray⟩ : ByteArray) = s
          · have hpk : pfOk s = true := by rw [HGO.out, HE.out, HG.out]; simp [← hq]
            have HQ := Lib.hid (show pfOk s = true ∧ F = (fRead s.data.toList).1 from ⟨hpk, by
              have := HEQ.out hpk
              rw [hr] at this
              simp only [Option.some.injEq, Prod.mk.injEq] at this
              exact this.1⟩)
            have hq2 : (F.txt == s.toList) = true := by rw [ByteArray.toList_eq, ← hq]; simp
            clear hpk
            go_wp2
            refine bodyPost_ret (v := .tuple #[.agg #[.int .i64 F.op, .string F.a.n, .slice p1 F.a.us.length c1, .string F.v, .slice q1 F.ps.length d1], .bool true]) (by simp only [results, Tryz.results166]; go_simp) rfl ?_
            rw [HQ.out.1, ← HQ.out.2]
            refine ⟨by exact bel, _, rfl, _, _, _, _, _, rfl, ?_⟩
            have hb3 : Below w1.heap.size w1 w4 := by exact bel
            exact FmOwn.mono _ _ _ _ (by omega) (fun b hb hlt => by
              have h0 : w.heap.size + 1 ≤ b := by simpa [NewB] using hb.1
              repeat rw [heap_setCell_other _ _ _ _ (by simp; omega)]
              exact hb3.block b hlt) (fun b hb => by
              have h0 : w.heap.size + 1 ≤ b := by simpa [NewB] using hb.1
              have h1 := hb.2
              exact ⟨by omega, by simp; omega⟩) HO.out
          · have HNO := Lib.hid (show pfOk s = false by
              rw [HGO.out, HE.out, HG.out, Bool.true_and, Bool.true_and, beq_eq_false_iff_ne]
              exact fun e => hq (by rw [e]))
            have hq2 : (F.txt == s.toList) = false := by
              rw [ByteArray.toList_eq, beq_eq_false_iff_ne]
              exact fun e => hq (by rw [e])
            go_wp2
            refine bodyPost_ret (v := .tuple #[.agg #[.int .i64 0, .string ⟨#[]⟩, .slice none 0 0, .string ⟨#[]⟩, .slice none 0 0], .bool false]) (by simp only [results, Tryz.results166]; go_simp) rfl (EtfPost.no HNO.out (by exact bel))
open Go.RowKit
def unitTxt (s : ByteArray) : Bool := pfOk s && decide (s.size ≤ 100)
def lessB (a b : ByteArray) : Bool := Op.bytesLess a.data.toList b.data.toList
def ascS : Option ByteArray → ByteArray → Bool | none, _ => true | some q, a => lessB q a
def namesF : Option ByteArray → List ByteArray → Bool
  | _, [] => true
  | p, a :: us => symB a.data.toList && ascS p a && namesF (some a) us
def prevS (c : List ByteArray) : Nat → Option ByteArray | 0 => none | k + 1 => c[k]?
theorem namesF_drop {c : List ByteArray} {k : Nat} (h : k < c.length) : namesF (prevS c k) (c.drop k) = (symB c[k].data.toList && ascS (prevS c k) c[k] && namesF (prevS c (k + 1)) (c.drop (k + 1))) := by
  rw [List.drop_eq_getElem_cons h, namesF, show prevS c (k + 1) = some c[k] from List.getElem?_eq_getElem h]
theorem prevS_pos {c : List ByteArray} {k : Nat} (h : k < c.length) (hk : 0 < k) : prevS c k = some (c[k - 1]'(by omega)) := by
  cases k with
  | zero => omega
  | succ k => exact List.getElem?_eq_getElem (by omega)
def Un.good (u : Un) : Bool := symB u.name.data.toList && decide (u.incs.length ≤ 12) && namesF none u.incs && decide (u.axs.length ≤ 6) && u.axs.all unitTxt && (u.goal.data.toList == [] || unitTxt u.goal)
theorem less_total : ∀ x y : List UInt8, Op.bytesLess x y = !(Op.bytesLess y x || y == x)
  | [], [] => rfl
  | [], b :: y => by simp [Op.bytesLess]
  | a :: x, [] => by simp [Op.bytesLess]
  | a :: x, b :: y => by
    have ih := less_total x y
    simp only [Op.bytesLess]
    by_cases h1 : a < b
    · have h2 : ¬ b < a := fun h => by have := UInt8.lt_trans h1 h; exact absurd this (UInt8.lt_irrefl _)
      have h3 : ¬ b = a := fun h => by subst h; exact UInt8.lt_irrefl _ h1
      simp [h1, h2, h3]
    · by_cases h2 : b < a
      · have h3 : ¬ a = b := fun h => by subst h; exact UInt8.lt_irrefl _ h2
        simp [h1, h2, h3]
      · have h3 : a = b := UInt8.le_antisymm (UInt8.not_lt.1 h2) (UInt8.not_lt.1 h1)
        subst h3
        simp [UInt8.lt_irrefl, ih]
theorem EtfPost.form {n : Nat} {ok : Bool} {F : Fm} {w w' : World} {e : Ending} (h : EtfPost n ok F w e w') : ∃ op m p k c v q k2 d, e = .returned (.tuple #[.agg #[.int .i64 op, .string m, .slice p k c, .string v, .slice q k2 d], .bool ok]) ∧ Below w.heap.size w w' := by
  obtain ⟨hb, h⟩ := h
  cases ok with
  | true =>
    obtain ⟨x, rfl, v0, v1, v2, v3, v4, rfl, hO⟩ := (show ∃ x, _ ∧ _ from h)
    obtain ⟨p, c, q, d, rfl, rfl, rfl, rfl, rfl, -⟩ := hO.form
    exact ⟨_, _, _, _, _, _, _, _, _, rfl, hb⟩
  | false =>
    have he : e = _ := h
    exact ⟨_, _, _, _, _, _, _, _, _, he, hb⟩
set_option maxRecDepth 100000 in
set_option maxHeartbeats 1600000 in
theorem isUnitText_any (s : ByteArray) (w : World) (hs : s.size ≤ 1000000000000) : Calls Tryz.prog 88 #[.string s] w fun e w' => e = .returned (.bool (unitTxt s)) ∧ Below w.heap.size w w' := by
  have HU := Lib.hid (show unitTxt s = (pfOk s && decide (s.size ≤ 100)) from rfl)
  go_enter Tryz.func88, Tryz.ntmps88
  go_wp2_with fail
  refine (implPF_any s hs _).mono ?_
  rintro e w1 hp
  obtain ⟨op, m, p, k, c, v, q, k2, d, rfl, hb1⟩ := hp.form
  clear hp
  cases hk : pfOk s <;> by_cases h1 : s.size ≤ 100
  all_goals
    have h2 := HU.out
    rw [hk] at h2
    have HU2 := Lib.hid h2
    clear h2
    have h1i : ((s.size : Int) ≤ 100) = (s.size ≤ 100) := by apply propext; omega
    go_wp2
    go_ret
    exact ⟨ret_bool (by rw [HU2.out]; simp [h1]), by exact bel⟩
set_option maxRecDepth 100000 in
set_option maxHeartbeats 1600000 in
theorem areNames_any {B : Nat → Prop} (us : List ByteArray) (v : Value) (w : World) (h : StrsAt B w v us) : Calls Tryz.prog 86 #[v] w fun e w' => e = .returned (.bool (namesF none us)) ∧ Below w.heap.size w w' := by
  obtain ⟨p, c, rfl, hlen⟩ := h.form
  unfold maxLen at hlen
  have H := Lib.hid h
  clear h
  go_enter Tryz.func86, Tryz.ntmps86
  go_wp2
  go_loopw [7] (fun i wr => ∃ k : Nat, k ≤ us.length ∧ i = .int .i64 k ∧ namesF none us = namesF (prevS us k) (us.drop k) ∧ Below w.heap.size w wr) (fun i _ => us.length - (intOf i).toNat)
  case atStart => exact ⟨0, Nat.zero_le _, rfl, rfl, by exact bel⟩
  case round =>
    obtain ⟨k, hk, rfl, he, hb⟩ := hrel
    have HE := Lib.hid he
    clear he
    by_cases hlt : k < us.length
    · obtain ⟨b, o, rfl, hB, hx0, hxs⟩ := (H.out.below hb).at_ hlt
      have HD := Lib.hid (namesF_drop hlt)
      by_cases hk0 : k = 0
      · have HP := Lib.hid (show prevS us k = none by rw [hk0]; rfl)
        obtain ⟨a, ha⟩ : ∃ a, us[k] = a := ⟨_, rfl⟩
        rw [ha] at hx0 hxs HD
        clear ha
        have hk1 : ¬ ((k : Int) > 0) := by omega
        have hk2 : ¬ ((0 : Int) < (k : Int)) := by omega
        have zb := bsz (World.block_lt_of_cell? _ _ hx0)
        clear hk0
        cases hy : symB a.data.toList
        all_goals
          have HY := Lib.hid hy
          clear hy
          go_wp2_with fail
          refine (isSymbol_any a _ hxs).mono ?_
          rintro e w1 ⟨rfl, hb1⟩
          have ⟨cw1, fw1⟩ := bcell hb1
          have qw1 := hb1.size
          (try simp at qw1)
          (try have zw1w := bsz (show w.heap.size < w1.heap.size by omega))
          rw [HY.out]
          go_wp2
        · go_ret
          exact ⟨ret_bool (by rw [HE.out, HD.out, HY.out]; rfl), by exact bel⟩
        · refine ⟨⟨k + 1, by omega, by go_num, ?_, by exact bel⟩, by simp [intOf]; omega⟩
          rw [HE.out, HD.out, HY.out, HP.out]; rfl
      · have hk1 : k - 1 < us.length := by omega
        obtain ⟨b', o', hq, hB', hy0, hys⟩ := (H.out.below hb).at_ hk1
        simp only [Option.some.injEq, Addr.mk.injEq, and_true] at hq
        obtain ⟨rfl, rfl⟩ := hq
        have HP := Lib.hid (prevS_pos hlt (by omega))
        obtain ⟨a, ha⟩ : ∃ a, us[k] = a := ⟨_, rfl⟩
        obtain ⟨q, hqe⟩ : ∃ q, us[k - 1] = q := ⟨_, rfl⟩
        rw [ha] at hx0 hxs HD
        rw [hqe] at hy0 HP
        clear ha hqe hys
        have hki : IntKind.i64.wrap ((k : Int) - 1) = ((k - 1 : Nat) : Int) := by rw [IntWalk.i64_in _ (by omega)]; omega
        have hkp : (0 : Int) < (k : Int) := by omega
        have zb := bsz (World.block_lt_of_cell? _ _ hx0)
        have HT := Lib.hid (less_total q.data.toList a.data.toList)
        cases hy : symB a.data.toList <;> cases hA : Op.bytesLess a.toList q.toList <;> cases hB : (a.toList == q.toList)
        all_goals
          have HY := Lib.hid hy
          have HLS := Lib.hid (show lessB q a = _ from HT.out.trans (by rw [← ByteArray.toList_eq, ← ByteArray.toList_eq, hA, hB]))
          clear hy
          go_wp2_with fail
          refine (isSymbol_any a _ hxs).mono ?_
          rintro e w1 ⟨rfl, hb1⟩
          have ⟨cw1, fw1⟩ := bcell hb1
          have qw1 := hb1.size
          (try simp at qw1)
          (try have zw1w := bsz (show w.heap.size < w1.heap.size by omega))
          rw [HY.out]
          go_wp2
        all_goals first
          | (refine ⟨⟨k + 1, by omega, by go_num, ?_, by exact bel⟩, by simp [intOf]; omega⟩; rw [HE.out, HD.out, HY.out, HP.out, ascS, HLS.out]; rfl)
          | (go_ret; exact ⟨ret_bool (by rw [HE.out, HD.out, HY.out, HP.out, ascS, HLS.out]; rfl), by exact bel⟩)
    · obtain rfl : k = us.length := by omega
      have he := HE.out
      rw [List.drop_length] at he
      have HE2 := Lib.hid he
      clear he
      go_wp2
      go_ret
      exact ⟨ret_bool (by rw [HE2.out]; rfl), by exact bel⟩
end Go.Proofs.YtkgfanajgdelcaaGreatDoor
