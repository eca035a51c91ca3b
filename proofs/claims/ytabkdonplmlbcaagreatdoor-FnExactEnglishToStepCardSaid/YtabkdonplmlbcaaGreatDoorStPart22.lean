import Derived.Maps.StringElems
import Derived.Test.YtabkdonplmlbcaaGreatDoorStPart21
namespace Go.Proofs.YtabkdonplmlbcaaGreatDoor
set_option maxRecDepth 100000
open Go.RowKit
def PairSt (m g rb : Nat) (s : ByteArray) (F : Fm) (pq : PSt) (ro : Obj) (w0 : World) (CP : Value → World → Prop) (W : World) : Nat → (Nat → Value) → World → Prop
 | 0, _, w => w = W.drew
 | 1, u, w => CP (u 3) w
 | 2, u, w => EqQ m g rb s F pq ro w0 (u 4) w
 | 3, _, w => ∃ w5 y0 y1 y2 y3 y4, EqQ m g rb s F pq ro w0 (.agg #[y0, y1, y2, y3, y4]) w5 ∧ w = ((((w5.setCell ⟨rb, 0, none⟩ y0).setCell ⟨rb, 1, none⟩ y1).setCell ⟨rb, 2, none⟩ y2).setCell ⟨rb, 3, none⟩ y3).setCell ⟨rb, 4, none⟩ y4
 | _, _, _ => False
def EngP (f : Nat) : Prop := ∀ (g : Nat) (s : ByteArray) (p : PSt) (w : World), PAt 35 w g s p → p.pos ≤ s.size → s.size ≤ 1000000 → s.size - p.pos + 1 < f →
  Calls Tryz.prog 67 #[.pointer (some ⟨g, 0, none⟩)] w fun e w' => ∃ x, e = .returned x ∧ FmP (f + 3) g s (pEng s.data.toList f p).1 (pEng s.data.toList f p).2 w x w'
set_option maxHeartbeats 3200000 in
theorem readPair_any (f : Nat) (ih : EngP f) (g : Nat) (s word : ByteArray) (hwd : word.size ≤ 1000000) (op : Int) (ho : -9223372036854775808 ≤ op ∧ op ≤ 9223372036854775807) (p : PSt) (w : World) (h : PAt 35 w g s p) (hp : p.pos ≤ s.size) (hs : s.size ≤ 1000000) (hf : s.size - p.pos + 1 < f) :
  Calls Tryz.prog 102 #[.pointer (some ⟨g, 0, none⟩), .int .i64 op, .string word] w fun e w' => ∃ x, e = .returned x ∧
   FmP (f + 4) g s (opF op [(pEng s.data.toList f p).1, (pEng s.data.toList f (pMust s.data.toList word.data.toList (pEng s.data.toList f p).2)).1]) (pEng s.data.toList f (pMust s.data.toList word.data.toList (pEng s.data.toList f p).2)).2 w x w' := by
 have H := Lib.hid h
 have hg := bsz h.lt
 have IH := Lib.hid ih
 have hpos := pEng_pos s.data.toList f p (by rw [← size_list]; exact hp)
 clear h ih
 go_enter Tryz.func102, Tryz.ntmps102
 go_wp2_with fail
 refine (IH.out g s p _ (H.out.below (by exact bel)) hp hs hf).mono ?_
 rintro e w1 ⟨x, rfl, ⟨v0, v1, v2, v3, v4, rfl, hO⟩, hP1, hg1⟩
 obtain ⟨q1, d1, q2, d2, rfl, rfl, rfl, rfl, rfl, -⟩ := hO.form
 generalize hr : pEng s.data.toList f p = r at *
 obtain ⟨F1, p1⟩ := r
 have HR := Lib.hid hr
 clear hr
 simp only at hpos hO hP1 ⊢
 have hpm := pMust_pos s.data.toList word.data.toList p1 hpos.2
 rw [← size_list] at hpos hpm
 have HO := Lib.hid hO
 have HG1 := Lib.hid hg1
 have hz1 := hg1.size
 (try simp at hz1)
 have HP1 := Lib.hid hP1
 clear hO hP1 hg1
 go_wp2_with fail
 refine (must_any g s word p1 _ (HP1.out.below (by exact bel)) hpos.2 (by omega) (by omega)).mono ?_
 rintro e w2 ⟨_, rfl, rfl, h2, hg2⟩
 have hz2 := hg2.size
 (try simp at hz2)
 have hbox := (hg2.block w1.heap.size (by simp) (by simp; omega)).trans (heap_alloc_new w1 _)
 have HK := Lib.hid (show ∀ b, b < w1.heap.size → b ≠ g → w2.heap[b]? = w1.heap[b]? from fun b hb hne => (hg2.block b (by simp; omega) (by simp; omega)).trans (hao w1 _ _ hb))
 have HRO := Lib.hid (show w2.heap[w.heap.size]? = some (.cells #[.int .i64 0, .string ⟨#[]⟩, .slice none 0 0, .string ⟨#[]⟩, .slice none 0 0] 67 (0, 0)) from (HK.out _ (by omega) (by omega)).trans ((HG1.out.block w.heap.size (by simp) (by simp; omega)).trans (heap_alloc_new w _)))
 have HG2 := Lib.hid (gr_trans (gr_al (gr_trans (gr_al (gr_refl w g) _) HG1.out) _) hg2)
 have HP2 := Lib.hid h2
 obtain ⟨hb0, hb1, hb2, hb3, hb4, -⟩ := cells5_cell hbox
 have HB := Lib.hid (And.intro hb0 (And.intro hb1 (And.intro hb2 (And.intro hb3 hb4))))
 clear hg2 h2 hb0 hb1 hb2 hb3 hb4 hbox
 go_wp2
 obtain ⟨F2, hF2⟩ : ∃ F2, (pEng s.data.toList f (pMust s.data.toList word.data.toList p1)).1 = F2 := ⟨_, rfl⟩
 obtain ⟨pq, hpq⟩ : ∃ pq, (pEng s.data.toList f (pMust s.data.toList word.data.toList p1)).2 = pq := ⟨_, rfl⟩
 have HF2 := Lib.hid hF2
 have HPQ := Lib.hid hpq
 clear hF2 hpq
 obtain ⟨CP, hCP0⟩ : ∃ CP : Value → World → Prop, CP = FmP (f + 3) g s F2 pq w2.drew := ⟨_, rfl⟩
 have HCP := Lib.hid hCP0
 have HGR := Lib.hid (show ∀ x w', CP x w' → w2.grownBy w' (some g) from by
  rw [hCP0]; rintro x w' ⟨_, _, hG⟩; exact ⟨hG.os, hG.tape, hG.output, hG.size, hG.block⟩)
 clear hCP0
 refine wp_region_stages [some (.int .i64 op), some (.agg #[.int .i64 F1.op, .string F1.a.n, .slice q1 F1.a.us.length d1, .string F1.v, .slice q2 F1.ps.length d2]), some (.pointer (some ⟨g, 0, none⟩)), none, none, none] [3, 4, 5] (PairSt (f + 4) g w.heap.size s (opF op [F1, F2]) pq (.cells #[.int .i64 0, .string ⟨#[]⟩, .slice none 0 0, .string ⟨#[]⟩, .slice none 0 0] 67 (0, 0)) w CP w2) (by kernel_rfl) (by kernel_rfl) (by first | kernel_rfl | rfl) (by rfl) rfl ?_
 refine chain_st rfl rfl (by decide) rfl (by intro j u w' hS; go_simp; first | done | exact ⟨hS, rfl⟩ | exact hS | rfl) ?_
 go_simp
 refine chain_stb (c := 4) 1 rfl rfl (by decide) rfl rfl rfl (by first | kernel_rfl | rfl) ?_ ?_
 ·intro j u w' hj hS
  obtain ⟨hc0, hc1, hc2, hc3, hc4⟩ : w'.cell? ⟨w1.heap.size, 0, none⟩ = some (.int .i64 F1.op) ∧ w'.cell? ⟨w1.heap.size, 1, none⟩ = some (.string F1.a.n) ∧ w'.cell? ⟨w1.heap.size, 2, none⟩ = some (.slice q1 F1.a.us.length d1) ∧ w'.cell? ⟨w1.heap.size, 3, none⟩ = some (.string F1.v) ∧ w'.cell? ⟨w1.heap.size, 4, none⟩ = some (.slice q2 F1.ps.length d2) := by
   have hne : (some w1.heap.size : Option Nat) ≠ some g := by simp; omega
   match j, hj, hS with
   | 0, _, h => obtain rfl : w' = w2.drew := h; exact HB.out
   | 1, _, h =>
    have hG := HGR.out _ _ h
    exact ⟨grown_cell hG HB.out.1 hne, grown_cell hG HB.out.2.1 hne, grown_cell hG HB.out.2.2.1 hne, grown_cell hG HB.out.2.2.2.1 hne, grown_cell hG HB.out.2.2.2.2 hne⟩
  go_simp
  first | done | exact ⟨hS, rfl⟩ | exact hS | rfl
 go_simp
 refine chain_st rfl rfl (by decide) rfl (by intro j u w' hS; go_simp; first | done | exact ⟨hS, rfl⟩ | exact hS | rfl) ?_
 go_simp
 refine chain_first rfl rfl rfl (by decide) rfl ?_ ?_
 ·intro w' hS
  obtain rfl : w' = w2.drew := hS
  go_simp
  refine (IH.out g s _ _ (PAt.below HP2.out (by exact bel)) hpm.2 hs (by omega)).mono ?_
  rintro e w'' ⟨x, he, hx⟩
  rw [HF2.out, HPQ.out] at hx
  exact ⟨x, he, by show CP (upd _ 3 x 3) w''; rw [upd_same, HCP.out]; exact hx⟩
 intro x
 go_simp
 refine chain_next 0 rfl rfl rfl rfl (by decide) rfl (by first | kernel_rfl | rfl) ?_ ?_
 ·intro w' hS
  have hS : CP (upd _ 3 x 3) w' := hS
  rw [upd_same] at hS
  have hG := HGR.out _ _ hS
  have HGX := Lib.hid hG
  rw [HCP.out] at hS
  have HS := Lib.hid hS
  have hzz := hG.size
  clear hG hS
  go_simp
  refine (binary_any (f + 2) op ho (fun b => w.heap.size + 1 ≤ b ∧ b < w1.heap.size) (NewB w2.drew w') F1 F2 _ x w' ⟨_, _, _, _, _, rfl, FmOwn.mono _ _ _ _ (Nat.le_refl _) (fun b hb hlt => by
   have h1 : b < w1.heap.size := hb.2
   have h0 : w.heap.size + 1 ≤ b := by simpa using hb.1
   exact (HGX.out.block b (by omega) (by simp; omega)).trans (HK.out b h1 (by omega))) (fun b hb => by simpa [NewB] using hb) HO.out⟩ HS.out.1 (fun b hb => by omega) (fun b hb => hb.2) (fun b hb hb' => by have := hb'.1; have : w2.heap.size ≤ b := this; omega)).mono ?_
  rintro e w5 ⟨y, rfl, hV, hb5⟩
  refine ⟨y, rfl, ?_⟩
  show EqQ _ _ _ _ _ _ _ _ (upd _ 4 y 4) w5
  rw [upd_same]
  have hq5 := hb5.size
  refine ⟨HS.out.2.1.below hb5, gr_below (gr_trans HG2.out HGX.out) hb5, ?_, (hb5.block _ (by omega)).trans ((HGX.out.block _ (by omega) (by simp; omega)).trans HRO.out)⟩
  obtain ⟨y0, y1, y2, y3, y4, rfl, hO5⟩ := hV
  refine ⟨_, _, _, _, _, rfl, FmOwn.mono _ _ _ _ (Nat.le_refl _) (SameOn.refl _ _) (fun b hb => ?_) hO5⟩
  rcases hb with hb | hb | hb
  ·omega
  ·have h1 : w2.heap.size ≤ b := hb.1
   have := hb.2; omega
  ·have := hb.1; have := hb.2; omega
 intro y
 go_simp
 refine chain_next 1 rfl rfl rfl rfl (by decide) rfl (by first | kernel_rfl | rfl) ?_ ?_
 ·intro w' hS
  have hS : EqQ _ _ _ _ _ _ _ _ (upd _ 4 y 4) w' := hS
  rw [upd_same] at hS
  have HS := Lib.hid hS
  obtain ⟨hQ1, hQ2, ⟨y0, y1, y2, y3, y4, rfl, hO⟩, hro⟩ := hS
  obtain ⟨e1, c1, e2, c2, rfl, rfl, rfl, rfl, rfl, -⟩ := hO.form
  obtain ⟨r0, r1, r2, r3, r4, rf⟩ := cells5_cell hro
  clear hQ1 hQ2 hO hro
  go_simp
  exact ⟨w', _, _, _, _, _, HS.out, rfl⟩
 intro x'
 refine flowU_nil ?_
 intro wz hz
 obtain ⟨w5, y0, y1, y2, y3, y4, hQ, rfl⟩ := hz
 have HQ := Lib.hid hQ
 obtain ⟨hQ1, hQ2, ⟨y0', y1', y2', y3', y4', he, hO⟩, hro⟩ := hQ
 simp only [Value.agg.injEq, Array.mk.injEq, List.cons.injEq, and_true] at he
 obtain ⟨rfl, rfl, rfl, rfl, rfl⟩ := he
 obtain ⟨e1, c1, e2, c2, rfl, rfl, rfl, rfl, rfl, -⟩ := hO.form
 obtain ⟨r0, r1, r2, r3, r4, rf⟩ := cells5_cell hro
 clear hQ1 hQ2 hO hro
 go_simp
 go_wp2
 refine bodyPost_ret (v := .agg #[.int .i64 (opF op [F1, F2]).op, .string (opF op [F1, F2]).a.n, .slice e1 (opF op [F1, F2]).a.us.length c1, .string (opF op [F1, F2]).v, .slice e2 (opF op [F1, F2]).ps.length c2]) (by simp only [results, Tryz.results102]; go_simp) rfl ⟨_, rfl, ?_⟩
 rw [HR.out]
 show FmP (f + 4) g s (opF op [F1, (pEng s.data.toList f (pMust s.data.toList word.data.toList p1)).1]) (pEng s.data.toList f (pMust s.data.toList word.data.toList p1)).2 w _ _
 rw [HF2.out, HPQ.out]
 exact FmP.of HQ.out.1 HQ.out.2.1 (Below.refl _ _) HQ.out.2.2.1 (fun b hb => hb) (Nat.le_refl _) (by omega) _ _ _ _ _
structure ESt (w : World) (g : Nat) (s : ByteArray) (p : PSt) (W : World) : Prop where
 at_ : PAt 35 W g s p
 gr : w.grownBy W (some g)
 res : W.heap[w.heap.size]? = some (.cells #[.int .i64 0, .string ⟨#[]⟩, .slice none 0 0, .string ⟨#[]⟩, .slice none 0 0] 67 (0, 0))
 lt : g < w.heap.size
theorem ESt.step {w W W' : World} {g : Nat} {s : ByteArray} {p p' : PSt} (h : ESt w g s p W) (hP : PAt 35 W' g s p') (hG : W.grownBy W' (some g)) : ESt w g s p' W' :=
 ⟨hP, gr_trans h.gr hG, (hG.block _ (heap_lt h.res) (by have := h.lt; simp; omega)).trans h.res, h.lt⟩
theorem ESt.hand {w W W' : World} {m g : Nat} {s : ByteArray} {p p' : PSt} {F : Fm} {x : Value} (h : ESt w g s p W) (hF : FmP m g s F p' W x W') (a0 a1 a2 a3 a4 : Value) :
  FmP m g s F p' w x (((((W'.setCell ⟨w.heap.size, 0, none⟩ a0).setCell ⟨w.heap.size, 1, none⟩ a1).setCell ⟨w.heap.size, 2, none⟩ a2).setCell ⟨w.heap.size, 3, none⟩ a3).setCell ⟨w.heap.size, 4, none⟩ a4) :=
 FmP.of hF.2.1 (gr_trans h.gr hF.2.2) (Below.refl _ _) hF.1 (fun _ hb => ⟨Nat.lt_of_lt_of_le (heap_lt h.res) hb.1, hb.2⟩) (Nat.le_refl _) h.lt _ _ _ _ _
theorem FmP.form {m g : Nat} {s : ByteArray} {F : Fm} {p' : PSt} {w w' : World} {x : Value} (h : FmP m g s F p' w x w') : ∃ q1 d1 q2 d2, x = .agg #[.int .i64 F.op, .string F.a.n, .slice q1 F.a.us.length d1, .string F.v, .slice q2 F.ps.length d2] := by
 obtain ⟨⟨v0, v1, v2, v3, v4, rfl, hO⟩, _⟩ := h
 obtain ⟨q1, d1, q2, d2, rfl, rfl, rfl, rfl, rfl, -⟩ := hO.form
 exact ⟨q1, d1, q2, d2, rfl⟩
theorem ESt.kept {w W W' : World} {m g : Nat} {s : ByteArray} {p p' : PSt} {F : Fm} {x : Value} (h : ESt w g s p W) (hF : FmP m g s F p' W x W') : W'.heap[w.heap.size]? = some (.cells #[.int .i64 0, .string ⟨#[]⟩, .slice none 0 0, .string ⟨#[]⟩, .slice none 0 0] 67 (0, 0)) :=
 (hF.2.2.block _ (heap_lt h.res) (by have := h.lt; simp; omega)).trans h.res
theorem FmP.wrap {m n g : Nat} {s : ByteArray} {F F' : Fm} {p' : PSt} {w w' w5 : World} {x y : Value} (h : FmP m g s F p' w x w') (hV : FmV n (fun b => NewB w w' b ∨ NewB w' w5 b) w5 F' y) (hb : Below w'.heap.size w' w5) (_ : True ∨ n = n) : FmP n g s F' p' w y w5 := by
 obtain ⟨v0, v1, v2, v3, v4, rfl, hO⟩ := hV
 have h1 := h.2.2.size
 have h2 := hb.size
 refine ⟨⟨_, _, _, _, _, rfl, FmOwn.mono _ _ _ _ (Nat.le_refl _) (SameOn.refl _ _) (fun b hb => ?_) hO⟩, h.2.1.below hb, gr_below h.2.2 hb⟩
 rcases hb with hb | hb
 ·exact ⟨hb.1, Nat.lt_of_lt_of_le hb.2 h2⟩
 ·exact ⟨Nat.le_trans h1 hb.1, hb.2⟩
set_option maxHeartbeats 6400000 in
theorem english_of (f : Nat) (ih : EngP f) (g : Nat) (s : ByteArray) (p : PSt) (w : World) (h : PAt 35 w g s p) (hp : p.pos ≤ s.size) (hs : s.size ≤ 1000000) (hf : s.size - p.pos + 1 < f + 1) :
  Calls Tryz.prog 67 #[.pointer (some ⟨g, 0, none⟩)] w fun e w' => ∃ x, e = .returned x ∧ FmP (f + 4) g s (pEng s.data.toList (f + 1) p).1 (pEng s.data.toList (f + 1) p).2 w x w' := by
 have hg := bsz h.lt
 have IH := Lib.hid ih
 have HE := Lib.hid (show ESt w g s p (w.alloc (.cells #[.int .i64 0, .string ⟨#[]⟩, .slice none 0 0, .string ⟨#[]⟩, .slice none 0 0] 67)) from ⟨h.below (by exact bel), gr_al (gr_refl w g) _, heap_alloc_new w _, h.lt⟩)
 clear h ih
 go_enter Tryz.func67, Tryz.ntmps67
 cases h1 : pTake s.data.toList sTruth p
 case true =>
  have HY := Lib.hid h1
  have hle := pTake_le h1 (by rw [← size_list]; exact hp)
  rw [← size_list] at hle
  have hkl : 0 < sTruth.length := by decide
  clear h1
  have HFIN := Lib.hid (show pEng s.data.toList (f + 1) p = (opF 1 [], pAdv sTruth p) by rw [pEng]; simp only [HY.out, if_true])
  go_wp2_with fail
  refine (take_any g s _ p _ (PAt.below HE.out.at_ (by exact bel)) hp (by omega) (by decide)).mono ?_
  rw [show (⟨#[116, 114, 117, 116, 104, 32, 104, 111, 108, 100, 115]⟩ : ByteArray).data.toList = sTruth from rfl, HY.out]
  rintro e w1 ⟨_, rfl, rfl, h1, hg1⟩
  have HE' := Lib.hid (HE.out.step (p' := pAdv sTruth p) h1 hg1)
  clear HE h1 hg1
  have HE := HE'
  clear HE'
  have HRES := Lib.hid HE.out.res
  obtain ⟨r0, r1, r2, r3, r4, rf⟩ := cells5_cell HRES.out
  have hrb := bsz (heap_lt HRES.out)
  go_wp2
  refine bodyPost_ret (v := .agg #[.int .i64 1, .string ⟨#[]⟩, .slice none 0 0, .string ⟨#[]⟩, .slice none 0 0]) (by simp only [results, Tryz.results67]; go_simp) rfl ⟨_, rfl, ?_⟩
  rw [HFIN.out]
  exact HE.out.hand ⟨⟨_, _, _, _, _, rfl, opF_own (by omega) (OwnRow.nil _ _ _ _ _)⟩, HE.out.at_, gr_refl _ _⟩ _ _ _ _ _
 have H1 := Lib.hid h1
 clear h1
 go_wp2_with fail
 refine (take_any g s _ p _ (PAt.below HE.out.at_ (by exact bel)) hp (by omega) (by decide)).mono ?_
 rw [show (⟨#[116, 114, 117, 116, 104, 32, 104, 111, 108, 100, 115]⟩ : ByteArray).data.toList = sTruth from rfl, H1.out]
 rintro e w1 ⟨_, rfl, rfl, h1, hg1⟩
 have HE' := Lib.hid (HE.out.step (p' := p) h1 hg1)
 clear HE h1 hg1
 have HE := HE'
 clear HE'
 cases h2 : pTake s.data.toList sFalsity p
 case true =>
  have HY := Lib.hid h2
  have hle := pTake_le h2 (by rw [← size_list]; exact hp)
  rw [← size_list] at hle
  have hkl : 0 < sFalsity.length := by decide
  clear h2
  have HFIN := Lib.hid (show pEng s.data.toList (f + 1) p = (opF 2 [], pAdv sFalsity p) by rw [pEng]; simp only [H1.out, HY.out, if_true, Bool.false_eq_true, if_false])
  go_wp2_with fail
  refine (take_any g s _ p _ (PAt.below HE.out.at_ (by exact bel)) hp (by omega) (by decide)).mono ?_
  rw [show (⟨#[102, 97, 108, 115, 105, 116, 121, 32, 104, 111, 108, 100, 115]⟩ : ByteArray).data.toList = sFalsity from rfl, HY.out]
  rintro e w2 ⟨_, rfl, rfl, h2, hg2⟩
  have HE' := Lib.hid (HE.out.step (p' := pAdv sFalsity p) h2 hg2)
  clear HE h2 hg2
  have HE := HE'
  clear HE'
  have HRES := Lib.hid HE.out.res
  obtain ⟨r0, r1, r2, r3, r4, rf⟩ := cells5_cell HRES.out
  have hrb := bsz (heap_lt HRES.out)
  go_wp2
  refine bodyPost_ret (v := .agg #[.int .i64 2, .string ⟨#[]⟩, .slice none 0 0, .string ⟨#[]⟩, .slice none 0 0]) (by simp only [results, Tryz.results67]; go_simp) rfl ⟨_, rfl, ?_⟩
  rw [HFIN.out]
  exact HE.out.hand ⟨⟨_, _, _, _, _, rfl, opF_own (by omega) (OwnRow.nil _ _ _ _ _)⟩, HE.out.at_, gr_refl _ _⟩ _ _ _ _ _
 have H2 := Lib.hid h2
 clear h2
 go_wp2_with fail
 refine (take_any g s _ p _ (PAt.below HE.out.at_ (by exact bel)) hp (by omega) (by decide)).mono ?_
 rw [show (⟨#[102, 97, 108, 115, 105, 116, 121, 32, 104, 111, 108, 100, 115]⟩ : ByteArray).data.toList = sFalsity from rfl, H2.out]
 rintro e w2 ⟨_, rfl, rfl, h2, hg2⟩
 have HE' := Lib.hid (HE.out.step (p' := p) h2 hg2)
 clear HE h2 hg2
 have HE := HE'
 clear HE'
 cases h3 : pTake s.data.toList sNot p
 case true =>
  have HY := Lib.hid h3
  have hle := pTake_le h3 (by rw [← size_list]; exact hp)
  rw [← size_list] at hle
  have hkl : 0 < sNot.length := by decide
  clear h3
  go_wp2_with fail
  refine (take_any g s _ p _ (PAt.below HE.out.at_ (by exact bel)) hp (by omega) (by decide)).mono ?_
  rw [show (⟨#[105, 116, 32, 105, 115, 32, 110, 111, 116, 32, 116, 104, 101, 32, 99, 97, 115, 101, 32, 116, 104, 97, 116, 32]⟩ : ByteArray).data.toList = sNot from rfl, HY.out]
  rintro e w3 ⟨_, rfl, rfl, h3, hg3⟩
  have HE' := Lib.hid (HE.out.step (p' := pAdv sNot p) h3 hg3)
  clear HE h3 hg3
  have HE := HE'
  clear HE'
  have hpa : (pAdv sNot p).pos ≤ s.size ∧ s.size - (pAdv sNot p).pos + 1 < f := by simp only [pAdv]; omega
  go_wp2_with fail
  refine (IH.out g s (pAdv sNot p) _ (PAt.below HE.out.at_ (by exact bel)) hpa.1 hs hpa.2).mono ?_
  rintro e wa ⟨x, rfl, hx⟩
  have HX := Lib.hid hx
  obtain ⟨z1, e1, z2, e2, rfl⟩ := hx.form
  clear hx
  go_wp2_with fail
  refine (not_any (f + 2) _ _ _ _ HX.out.1 (fun b hb => hb.2)).mono ?_
  rintro e wb ⟨y, rfl, hV, hbb⟩
  have HFIN := Lib.hid (show pEng s.data.toList (f + 1) p = (opF 4 [(pEng s.data.toList f (pAdv sNot p)).1], (pEng s.data.toList f (pAdv sNot p)).2) by rw [pEng]; simp only [H1.out, H2.out, HY.out, if_true, Bool.false_eq_true, if_false])
  have HF := Lib.hid (HX.out.wrap hV hbb (.inl trivial))
  clear hV
  obtain ⟨q1, d1, q2, d2, rfl⟩ := HF.out.form
  obtain ⟨r0, r1, r2, r3, r4, rf⟩ := cells5_cell (HE.out.kept HF.out)
  have hrb := bsz (heap_lt (HE.out.kept HF.out))
  go_wp2
  refine bodyPost_ret (v := .agg #[.int .i64 (opF 4 [(pEng s.data.toList f (pAdv sNot p)).1]).op, .string (opF 4 [(pEng s.data.toList f (pAdv sNot p)).1]).a.n, .slice q1 (opF 4 [(pEng s.data.toList f (pAdv sNot p)).1]).a.us.length d1, .string (opF 4 [(pEng s.data.toList f (pAdv sNot p)).1]).v, .slice q2 (opF 4 [(pEng s.data.toList f (pAdv sNot p)).1]).ps.length d2]) (by simp only [results, Tryz.results67]; go_simp) rfl ⟨_, rfl, ?_⟩
  rw [HFIN.out]
  exact HE.out.hand HF.out _ _ _ _ _
 have H3 := Lib.hid h3
 clear h3
 go_wp2_with fail
 refine (take_any g s _ p _ (PAt.below HE.out.at_ (by exact bel)) hp (by omega) (by decide)).mono ?_
 rw [show (⟨#[105, 116, 32, 105, 115, 32, 110, 111, 116, 32, 116, 104, 101, 32, 99, 97, 115, 101, 32, 116, 104, 97, 116, 32]⟩ : ByteArray).data.toList = sNot from rfl, H3.out]
 rintro e w3 ⟨_, rfl, rfl, h3, hg3⟩
 have HE' := Lib.hid (HE.out.step (p' := p) h3 hg3)
 clear HE h3 hg3
 have HE := HE'
 clear HE'
 cases h4 : pTake s.data.toList sBoth p
 case true =>
  have HY := Lib.hid h4
  have hle := pTake_le h4 (by rw [← size_list]; exact hp)
  rw [← size_list] at hle
  have hkl : 0 < sBoth.length := by decide
  clear h4
  go_wp2_with fail
  refine (take_any g s _ p _ (PAt.below HE.out.at_ (by exact bel)) hp (by omega) (by decide)).mono ?_
  rw [show (⟨#[98, 111, 116, 104, 32]⟩ : ByteArray).data.toList = sBoth from rfl, HY.out]
  rintro e w4 ⟨_, rfl, rfl, h4, hg4⟩
  have HE' := Lib.hid (HE.out.step (p' := pAdv sBoth p) h4 hg4)
  clear HE h4 hg4
  have HE := HE'
  clear HE'
  have hpa : (pAdv sBoth p).pos ≤ s.size ∧ s.size - (pAdv sBoth p).pos + 1 < f := by simp only [pAdv]; omega
  go_wp2_with fail
  refine (readPair_any f IH.out g s ⟨#[32, 97, 110, 100, 32]⟩ (by decide) 5 (by omega) (pAdv sBoth p) _ (PAt.below HE.out.at_ (by exact bel)) hpa.1 hs hpa.2).mono ?_
  rw [show (⟨#[32, 97, 110, 100, 32]⟩ : ByteArray).data.toList = sAnd from rfl]
  rintro e wa ⟨x, rfl, hx⟩
  have HF := Lib.hid hx
  clear hx
  have HFIN := Lib.hid (show pEng s.data.toList (f + 1) p = (opF 5 [(pEng s.data.toList f (pAdv sBoth p)).1, (pEng s.data.toList f (pMust s.data.toList sAnd (pEng s.data.toList f (pAdv sBoth p)).2)).1], (pEng s.data.toList f (pMust s.data.toList sAnd (pEng s.data.toList f (pAdv sBoth p)).2)).2) by rw [pEng]; simp only [H1.out, H2.out, H3.out, HY.out, if_true, Bool.false_eq_true, if_false])
  obtain ⟨FF, hFF⟩ : ∃ FF, opF 5 [(pEng s.data.toList f (pAdv sBoth p)).1, (pEng s.data.toList f (pMust s.data.toList sAnd (pEng s.data.toList f (pAdv sBoth p)).2)).1] = FF := ⟨_, rfl⟩
  rw [hFF] at HF HFIN
  clear hFF
  obtain ⟨q1, d1, q2, d2, rfl⟩ := HF.out.form
  obtain ⟨r0, r1, r2, r3, r4, rf⟩ := cells5_cell (HE.out.kept HF.out)
  have hrb := bsz (heap_lt (HE.out.kept HF.out))
  go_wp2
  refine bodyPost_ret (v := .agg #[.int .i64 (FF).op, .string (FF).a.n, .slice q1 (FF).a.us.length d1, .string (FF).v, .slice q2 (FF).ps.length d2]) (by simp only [results, Tryz.results67]; go_simp) rfl ⟨_, rfl, ?_⟩
  rw [HFIN.out]
  exact HE.out.hand HF.out _ _ _ _ _
 have H4 := Lib.hid h4
 clear h4
 go_wp2_with fail
 refine (take_any g s _ p _ (PAt.below HE.out.at_ (by exact bel)) hp (by omega) (by decide)).mono ?_
 rw [show (⟨#[98, 111, 116, 104, 32]⟩ : ByteArray).data.toList = sBoth from rfl, H4.out]
 rintro e w4 ⟨_, rfl, rfl, h4, hg4⟩
 have HE' := Lib.hid (HE.out.step (p' := p) h4 hg4)
 clear HE h4 hg4
 have HE := HE'
 clear HE'
 cases h5 : pTake s.data.toList sEither p
 case true =>
  have HY := Lib.hid h5
  have hle := pTake_le h5 (by rw [← size_list]; exact hp)
  rw [← size_list] at hle
  have hkl : 0 < sEither.length := by decide
  clear h5
  go_wp2_with fail
  refine (take_any g s _ p _ (PAt.below HE.out.at_ (by exact bel)) hp (by omega) (by decide)).mono ?_
  rw [show (⟨#[101, 105, 116, 104, 101, 114, 32]⟩ : ByteArray).data.toList = sEither from rfl, HY.out]
  rintro e w5 ⟨_, rfl, rfl, h5, hg5⟩
  have HE' := Lib.hid (HE.out.step (p' := pAdv sEither p) h5 hg5)
  clear HE h5 hg5
  have HE := HE'
  clear HE'
  have hpa : (pAdv sEither p).pos ≤ s.size ∧ s.size - (pAdv sEither p).pos + 1 < f := by simp only [pAdv]; omega
  go_wp2_with fail
  refine (readPair_any f IH.out g s ⟨#[32, 111, 114, 32]⟩ (by decide) 6 (by omega) (pAdv sEither p) _ (PAt.below HE.out.at_ (by exact bel)) hpa.1 hs hpa.2).mono ?_
  rw [show (⟨#[32, 111, 114, 32]⟩ : ByteArray).data.toList = sOr from rfl]
  rintro e wa ⟨x, rfl, hx⟩
  have HF := Lib.hid hx
  clear hx
  have HFIN := Lib.hid (show pEng s.data.toList (f + 1) p = (opF 6 [(pEng s.data.toList f (pAdv sEither p)).1, (pEng s.data.toList f (pMust s.data.toList sOr (pEng s.data.toList f (pAdv sEither p)).2)).1], (pEng s.data.toList f (pMust s.data.toList sOr (pEng s.data.toList f (pAdv sEither p)).2)).2) by rw [pEng]; simp only [H1.out, H2.out, H3.out, H4.out, HY.out, if_true, Bool.false_eq_true, if_false])
  obtain ⟨FF, hFF⟩ : ∃ FF, opF 6 [(pEng s.data.toList f (pAdv sEither p)).1, (pEng s.data.toList f (pMust s.data.toList sOr (pEng s.data.toList f (pAdv sEither p)).2)).1] = FF := ⟨_, rfl⟩
  rw [hFF] at HF HFIN
  clear hFF
  obtain ⟨q1, d1, q2, d2, rfl⟩ := HF.out.form
  obtain ⟨r0, r1, r2, r3, r4, rf⟩ := cells5_cell (HE.out.kept HF.out)
  have hrb := bsz (heap_lt (HE.out.kept HF.out))
  go_wp2
  refine bodyPost_ret (v := .agg #[.int .i64 (FF).op, .string (FF).a.n, .slice q1 (FF).a.us.length d1, .string (FF).v, .slice q2 (FF).ps.length d2]) (by simp only [results, Tryz.results67]; go_simp) rfl ⟨_, rfl, ?_⟩
  rw [HFIN.out]
  exact HE.out.hand HF.out _ _ _ _ _
 have H5 := Lib.hid h5
 clear h5
 go_wp2_with fail
 refine (take_any g s _ p _ (PAt.below HE.out.at_ (by exact bel)) hp (by omega) (by decide)).mono ?_
 rw [show (⟨#[101, 105, 116, 104, 101, 114, 32]⟩ : ByteArray).data.toList = sEither from rfl, H5.out]
 rintro e w5 ⟨_, rfl, rfl, h5, hg5⟩
 have HE' := Lib.hid (HE.out.step (p' := p) h5 hg5)
 clear HE h5 hg5
 have HE := HE'
 clear HE'
 cases h6 : pTake s.data.toList sIf p
 case true =>
  have HY := Lib.hid h6
  have hle := pTake_le h6 (by rw [← size_list]; exact hp)
  rw [← size_list] at hle
  have hkl : 0 < sIf.length := by decide
  clear h6
  go_wp2_with fail
  refine (take_any g s _ p _ (PAt.below HE.out.at_ (by exact bel)) hp (by omega) (by decide)).mono ?_
  rw [show (⟨#[105, 102, 32]⟩ : ByteArray).data.toList = sIf from rfl, HY.out]
  rintro e w6 ⟨_, rfl, rfl, h6, hg6⟩
  have HE' := Lib.hid (HE.out.step (p' := pAdv sIf p) h6 hg6)
  clear HE h6 hg6
  have HE := HE'
  clear HE'
  have hpa : (pAdv sIf p).pos ≤ s.size ∧ s.size - (pAdv sIf p).pos + 1 < f := by simp only [pAdv]; omega
  go_wp2_with fail
  refine (readPair_any f IH.out g s ⟨#[32, 116, 104, 101, 110, 32]⟩ (by decide) 7 (by omega) (pAdv sIf p) _ (PAt.below HE.out.at_ (by exact bel)) hpa.1 hs hpa.2).mono ?_
  rw [show (⟨#[32, 116, 104, 101, 110, 32]⟩ : ByteArray).data.toList = sThen from rfl]
  rintro e wa ⟨x, rfl, hx⟩
  have HF := Lib.hid hx
  clear hx
  have HFIN := Lib.hid (show pEng s.data.toList (f + 1) p = (opF 7 [(pEng s.data.toList f (pAdv sIf p)).1, (pEng s.data.toList f (pMust s.data.toList sThen (pEng s.data.toList f (pAdv sIf p)).2)).1], (pEng s.data.toList f (pMust s.data.toList sThen (pEng s.data.toList f (pAdv sIf p)).2)).2) by rw [pEng]; simp only [H1.out, H2.out, H3.out, H4.out, H5.out, HY.out, if_true, Bool.false_eq_true, if_false])
  obtain ⟨FF, hFF⟩ : ∃ FF, opF 7 [(pEng s.data.toList f (pAdv sIf p)).1, (pEng s.data.toList f (pMust s.data.toList sThen (pEng s.data.toList f (pAdv sIf p)).2)).1] = FF := ⟨_, rfl⟩
  rw [hFF] at HF HFIN
  clear hFF
  obtain ⟨q1, d1, q2, d2, rfl⟩ := HF.out.form
  obtain ⟨r0, r1, r2, r3, r4, rf⟩ := cells5_cell (HE.out.kept HF.out)
  have hrb := bsz (heap_lt (HE.out.kept HF.out))
  go_wp2
  refine bodyPost_ret (v := .agg #[.int .i64 (FF).op, .string (FF).a.n, .slice q1 (FF).a.us.length d1, .string (FF).v, .slice q2 (FF).ps.length d2]) (by simp only [results, Tryz.results67]; go_simp) rfl ⟨_, rfl, ?_⟩
  rw [HFIN.out]
  exact HE.out.hand HF.out _ _ _ _ _
 have H6 := Lib.hid h6
 clear h6
 go_wp2_with fail
 refine (take_any g s _ p _ (PAt.below HE.out.at_ (by exact bel)) hp (by omega) (by decide)).mono ?_
 rw [show (⟨#[105, 102, 32]⟩ : ByteArray).data.toList = sIf from rfl, H6.out]
 rintro e w6 ⟨_, rfl, rfl, h6, hg6⟩
 have HE' := Lib.hid (HE.out.step (p' := p) h6 hg6)
 clear HE h6 hg6
 have HE := HE'
 clear HE'
 cases h7 : pTake s.data.toList sEvery p
 case true =>
  have HY := Lib.hid h7
  have hle := pTake_le h7 (by rw [← size_list]; exact hp)
  rw [← size_list] at hle
  have hkl : 0 < sEvery.length := by decide
  clear h7
  go_wp2_with fail
  refine (take_any g s _ p _ (PAt.below HE.out.at_ (by exact bel)) hp (by omega) (by decide)).mono ?_
  rw [show (⟨#[102, 111, 114, 32, 101, 118, 101, 114, 121, 32]⟩ : ByteArray).data.toList = sEvery from rfl, HY.out]
  rintro e w7 ⟨_, rfl, rfl, h7, hg7⟩
  have HE' := Lib.hid (HE.out.step (p' := pAdv sEvery p) h7 hg7)
  clear HE h7 hg7
  have HE := HE'
  clear HE'
  have hpa : (pAdv sEvery p).pos ≤ s.size ∧ s.size - (pAdv sEvery p).pos + 1 < f := by simp only [pAdv]; omega
  have hwp := pWord_pos s.data.toList (pAdv sEvery p) (by rw [← size_list]; exact hpa.1)
  have hwl := pWord_len s.data.toList (pAdv sEvery p)
  have hmp := pMust_pos s.data.toList sComma (pWord s.data.toList (pAdv sEvery p)).2 hwp.2
  rw [← size_list] at hwp hmp hwl
  have HFIN := Lib.hid (show pEng s.data.toList (f + 1) p = (quantF 8 (pWord s.data.toList (pAdv sEvery p)).1 (pEng s.data.toList f (pMust s.data.toList sComma (pWord s.data.toList (pAdv sEvery p)).2)).1, (pEng s.data.toList f (pMust s.data.toList sComma (pWord s.data.toList (pAdv sEvery p)).2)).2) by rw [pEng]; simp only [H1.out, H2.out, H3.out, H4.out, H5.out, H6.out, HY.out, if_true, Bool.false_eq_true, if_false])
  go_wp2_with fail
  refine (word_any g s (pAdv sEvery p) _ (PAt.below HE.out.at_ (by exact bel)) hpa.1 (by omega)).mono ?_
  obtain ⟨pw, hpw⟩ : ∃ pw, pWord s.data.toList (pAdv sEvery p) = pw := ⟨_, rfl⟩
  rw [hpw] at hwp hwl hmp HFIN ⊢
  clear hpw
  obtain ⟨vn, p2⟩ := pw
  simp only at hwp hwl hmp HFIN ⊢
  rintro e wx ⟨_, rfl, rfl, hx1, hgx⟩
  have HE' := Lib.hid (HE.out.step hx1 hgx)
  clear HE hx1 hgx
  have HE := HE'
  clear HE'
  go_wp2_with fail
  refine (must_any g s ⟨#[44, 32]⟩ p2 _ (PAt.below HE.out.at_ (by exact bel)) hwp.2 (by omega) (by decide)).mono ?_
  rw [show (⟨#[44, 32]⟩ : ByteArray).data.toList = sComma from rfl]
  obtain ⟨p3, hp3⟩ : ∃ p3, pMust s.data.toList sComma p2 = p3 := ⟨_, rfl⟩
  rw [hp3] at hmp HFIN ⊢
  clear hp3
  rintro e wy ⟨_, rfl, rfl, hy1, hgy⟩
  have HE' := Lib.hid (HE.out.step hy1 hgy)
  clear HE hy1 hgy
  have HE := HE'
  clear HE'
  go_wp2_with fail
  refine (IH.out g s p3 _ (PAt.below HE.out.at_ (by exact bel)) hmp.2 hs (by omega)).mono ?_
  rintro e wa ⟨x, rfl, hx⟩
  have HX := Lib.hid hx
  obtain ⟨z1, e1, z2, e2, rfl⟩ := hx.form
  clear hx
  go_wp2_with fail
  refine (quantified_any (f + 2) 8 (by omega) vn (by omega) _ _ _ _ HX.out.1 (fun b hb => hb.2)).mono ?_
  rintro e wb ⟨y, rfl, hV, hbb⟩
  have HF := Lib.hid (HX.out.wrap hV hbb (.inl trivial))
  clear hV
  obtain ⟨FF, hFF⟩ : ∃ FF, quantF 8 vn (pEng s.data.toList f p3).1 = FF := ⟨_, rfl⟩
  rw [hFF] at HF HFIN
  clear hFF
  obtain ⟨q1, d1, q2, d2, rfl⟩ := HF.out.form
  obtain ⟨r0, r1, r2, r3, r4, rf⟩ := cells5_cell (HE.out.kept HF.out)
  have hrb := bsz (heap_lt (HE.out.kept HF.out))
  go_wp2
  refine bodyPost_ret (v := .agg #[.int .i64 (FF).op, .string (FF).a.n, .slice q1 (FF).a.us.length d1, .string (FF).v, .slice q2 (FF).ps.length d2]) (by simp only [results, Tryz.results67]; go_simp) rfl ⟨_, rfl, ?_⟩
  rw [HFIN.out]
  exact HE.out.hand HF.out _ _ _ _ _
 have H7 := Lib.hid h7
 clear h7
 go_wp2_with fail
 refine (take_any g s _ p _ (PAt.below HE.out.at_ (by exact bel)) hp (by omega) (by decide)).mono ?_
 rw [show (⟨#[102, 111, 114, 32, 101, 118, 101, 114, 121, 32]⟩ : ByteArray).data.toList = sEvery from rfl, H7.out]
 rintro e w7 ⟨_, rfl, rfl, h7, hg7⟩
 have HE' := Lib.hid (HE.out.step (p' := p) h7 hg7)
 clear HE h7 hg7
 have HE := HE'
 clear HE'
 cases h8 : pTake s.data.toList sThere p
 case true =>
  have HY := Lib.hid h8
  have hle := pTake_le h8 (by rw [← size_list]; exact hp)
  rw [← size_list] at hle
  have hkl : 0 < sThere.length := by decide
  clear h8
  go_wp2_with fail
  refine (take_any g s _ p _ (PAt.below HE.out.at_ (by exact bel)) hp (by omega) (by decide)).mono ?_
  rw [show (⟨#[116, 104, 101, 114, 101, 32, 105, 115, 32]⟩ : ByteArray).data.toList = sThere from rfl, HY.out]
  rintro e w8 ⟨_, rfl, rfl, h8, hg8⟩
  have HE' := Lib.hid (HE.out.step (p' := pAdv sThere p) h8 hg8)
  clear HE h8 hg8
  have HE := HE'
  clear HE'
  have hpa : (pAdv sThere p).pos ≤ s.size ∧ s.size - (pAdv sThere p).pos + 1 < f := by simp only [pAdv]; omega
  have hwp := pWord_pos s.data.toList (pAdv sThere p) (by rw [← size_list]; exact hpa.1)
  have hwl := pWord_len s.data.toList (pAdv sThere p)
  have hmp := pMust_pos s.data.toList sSuch (pWord s.data.toList (pAdv sThere p)).2 hwp.2
  rw [← size_list] at hwp hmp hwl
  have HFIN := Lib.hid (show pEng s.data.toList (f + 1) p = (quantF 9 (pWord s.data.toList (pAdv sThere p)).1 (pEng s.data.toList f (pMust s.data.toList sSuch (pWord s.data.toList (pAdv sThere p)).2)).1, (pEng s.data.toList f (pMust s.data.toList sSuch (pWord s.data.toList (pAdv sThere p)).2)).2) by rw [pEng]; simp only [H1.out, H2.out, H3.out, H4.out, H5.out, H6.out, H7.out, HY.out, if_true, Bool.false_eq_true, if_false])
  go_wp2_with fail
  refine (word_any g s (pAdv sThere p) _ (PAt.below HE.out.at_ (by exact bel)) hpa.1 (by omega)).mono ?_
  obtain ⟨pw, hpw⟩ : ∃ pw, pWord s.data.toList (pAdv sThere p) = pw := ⟨_, rfl⟩
  rw [hpw] at hwp hwl hmp HFIN ⊢
  clear hpw
  obtain ⟨vn, p2⟩ := pw
  simp only at hwp hwl hmp HFIN ⊢
  rintro e wx ⟨_, rfl, rfl, hx1, hgx⟩
  have HE' := Lib.hid (HE.out.step hx1 hgx)
  clear HE hx1 hgx
  have HE := HE'
  clear HE'
  go_wp2_with fail
  refine (must_any g s ⟨#[32, 115, 117, 99, 104, 32, 116, 104, 97, 116, 32]⟩ p2 _ (PAt.below HE.out.at_ (by exact bel)) hwp.2 (by omega) (by decide)).mono ?_
  rw [show (⟨#[32, 115, 117, 99, 104, 32, 116, 104, 97, 116, 32]⟩ : ByteArray).data.toList = sSuch from rfl]
  obtain ⟨p3, hp3⟩ : ∃ p3, pMust s.data.toList sSuch p2 = p3 := ⟨_, rfl⟩
  rw [hp3] at hmp HFIN ⊢
  clear hp3
  rintro e wy ⟨_, rfl, rfl, hy1, hgy⟩
  have HE' := Lib.hid (HE.out.step hy1 hgy)
  clear HE hy1 hgy
  have HE := HE'
  clear HE'
  go_wp2_with fail
  refine (IH.out g s p3 _ (PAt.below HE.out.at_ (by exact bel)) hmp.2 hs (by omega)).mono ?_
  rintro e wa ⟨x, rfl, hx⟩
  have HX := Lib.hid hx
  obtain ⟨z1, e1, z2, e2, rfl⟩ := hx.form
  clear hx
  go_wp2_with fail
  refine (quantified_any (f + 2) 9 (by omega) vn (by omega) _ _ _ _ HX.out.1 (fun b hb => hb.2)).mono ?_
  rintro e wb ⟨y, rfl, hV, hbb⟩
  have HF := Lib.hid (HX.out.wrap hV hbb (.inl trivial))
  clear hV
  obtain ⟨FF, hFF⟩ : ∃ FF, quantF 9 vn (pEng s.data.toList f p3).1 = FF := ⟨_, rfl⟩
  rw [hFF] at HF HFIN
  clear hFF
  obtain ⟨q1, d1, q2, d2, rfl⟩ := HF.out.form
  obtain ⟨r0, r1, r2, r3, r4, rf⟩ := cells5_cell (HE.out.kept HF.out)
  have hrb := bsz (heap_lt (HE.out.kept HF.out))
  go_wp2
  refine bodyPost_ret (v := .agg #[.int .i64 (FF).op, .string (FF).a.n, .slice q1 (FF).a.us.length d1, .string (FF).v, .slice q2 (FF).ps.length d2]) (by simp only [results, Tryz.results67]; go_simp) rfl ⟨_, rfl, ?_⟩
  rw [HFIN.out]
  exact HE.out.hand HF.out _ _ _ _ _
 have H8 := Lib.hid h8
 clear h8
 go_wp2_with fail
 refine (take_any g s _ p _ (PAt.below HE.out.at_ (by exact bel)) hp (by omega) (by decide)).mono ?_
 rw [show (⟨#[116, 104, 101, 114, 101, 32, 105, 115, 32]⟩ : ByteArray).data.toList = sThere from rfl, H8.out]
 rintro e w8 ⟨_, rfl, rfl, h8, hg8⟩
 have HE' := Lib.hid (HE.out.step (p' := p) h8 hg8)
 clear HE h8 hg8
 have HE := HE'
 clear HE'
 go_wp2_with fail
 refine (readAtom_any f g s p _ (PAt.below HE.out.at_ (by exact bel)) hp hs (by omega)).mono ?_
 rintro e wa ⟨x, rfl, hx⟩
 have HF := Lib.hid (hx.mono (n := f + 4) (by omega))
 clear hx
 have HFIN := Lib.hid (show pEng s.data.toList (f + 1) p = pAtom s.data.toList f p by rw [pEng]; simp only [H1.out, H2.out, H3.out, H4.out, H5.out, H6.out, H7.out, H8.out, Bool.false_eq_true, if_false])
 obtain ⟨FF, hFF⟩ : ∃ FF, pAtom s.data.toList f p = FF := ⟨_, rfl⟩
 rw [hFF] at HF HFIN
 clear hFF
 obtain ⟨q1, d1, q2, d2, rfl⟩ := HF.out.form
 obtain ⟨r0, r1, r2, r3, r4, rf⟩ := cells5_cell (HE.out.kept HF.out)
 have hrb := bsz (heap_lt (HE.out.kept HF.out))
 go_wp2
 refine bodyPost_ret (v := .agg #[.int .i64 (FF.1).op, .string (FF.1).a.n, .slice q1 (FF.1).a.us.length d1, .string (FF.1).v, .slice q2 (FF.1).ps.length d2]) (by simp only [results, Tryz.results67]; go_simp) rfl ⟨_, rfl, ?_⟩
 rw [HFIN.out]
 exact HE.out.hand HF.out _ _ _ _ _
def StrOwn (e : TypeId) (S : Nat → Prop) (w : World) (us : List ByteArray) (v : Value) : Prop := OwnRow S w e 1 (fun _ s cs => StrAt s cs) v us
theorem StrOwn.at_ {e : TypeId} {S : Nat → Prop} {w : World} {us : List ByteArray} {v : Value} (h : StrOwn e S w us v) : StrsAt S w v us := OwnRow.listAt (by omega) h (fun _ _ _ _ _ hx => hx)
def strW (l : List ByteArray) : List Value := l.map Value.string
theorem rowS_own {S : Nat → Prop} {w : World} {base : Nat} {e : TypeId} {v : Value} {us : List ByteArray} (h : w.ownsRow base e 1 v us.length (strW us)) (hz : ∀ s ∈ us, s.size ≤ maxLen) (hm : us.length ≤ maxLen) (hS : ∀ g, v.ownBlock = some g → S g) : StrOwn e S w us v := by
 refine ⟨hm, strW us, fun _ _ => False, own_lower h (Nat.zero_le _), hS, fun i x hx => ⟨⟨?_, hz x (List.mem_of_getElem? hx)⟩, fun b hb => hb.elim⟩, fun i j b hi hj hij hb => hb.elim⟩
 have hi := (List.getElem?_eq_some_iff.1 hx).1
 have hx' := (List.getElem?_eq_some_iff.1 hx).2
 rw [Nat.mul_one, List.drop_eq_getElem_cons (by simpa [strW] using hi), List.take_succ_cons, List.take_zero]
 simp [strW, hx']
def firstI {α : Type} (P : α → Bool) : Nat → List α → Option Nat
 | _, [] => none
 | k, a :: l => if P a then some k else firstI P (k + 1) l
theorem firstI_drop {α : Type} (P : α → Bool) {us : List α} {k : Nat} (h : k < us.length) : firstI P k (us.drop k) = if P us[k] then some k else firstI P (k + 1) (us.drop (k + 1)) := by
 rw [List.drop_eq_getElem_cons h, firstI]
theorem firstI_any {α : Type} (P : α → Bool) : ∀ (us : List α) (k : Nat), (firstI P k us).isSome = us.any P
 | [], _ => rfl
 | a :: us, k => by
  rw [firstI, List.any_cons]
  cases hp : P a
  ·rw [if_neg (by simp), firstI_any P us (k + 1), Bool.false_or]
  ·rw [if_pos rfl]; rfl
def atI : Option Nat → Int | none => -1 | some i => i
def FirstI (o : Option Nat) (w : World) (e : Ending) (w' : World) : Prop := ∃ r : Int, e = .returned (.int .i64 r) ∧ r = atI o ∧ Below w.heap.size w w'
theorem atI_neg (o : Option Nat) : decide (0 ≤ atI o) = o.isSome := by cases o <;> simp [atI]
end Go.Proofs.YtabkdonplmlbcaaGreatDoor
