import Derived.Test.YtabkdonplmlbcaaGreatDoorStPart19
import Derived.Test.YtabkdonplmlbcaaGreatDoorStPart20
namespace Go.Proofs.YtabkdonplmlbcaaGreatDoor
set_option maxRecDepth 100000
open Go.RowKit
def FmP (m g : Nat) (s : ByteArray) (F : Fm) (p' : PSt) (w : World) (x : Value) (w' : World) : Prop := FmV m (NewB w w') w' F x ∧ PAt 35 w' g s p' ∧ w.grownBy w' (some g)
theorem TSt.initT {T TP : TypeId} {ro : Obj} {w w1 w2 : World} {g : Nat} {s : ByteArray} {p : PSt} {f : Nat} {t : Tm} {pp : Option Addr} {cc : Nat} (hg : g < w.heap.size) (hO : TmOwn T f (fun b => w.heap.size + 1 ≤ b ∧ b < w1.heap.size) w1 t [.string t.n, .slice pp t.us.length cc])
  (hg1 : (w.alloc ro).grownBy w1 (some g)) (hg2 : (w1.alloc (.cells #[.string t.n, .slice pp t.us.length cc] T)).grownBy w2 (some g)) (hP : PAt TP w2 g s p) :
  TSt T TP ro w g w.heap.size w1.heap.size s t.n.data.toList p (.slice pp t.us.length cc) t.us f w2 := by
 have h1 := hg1.size
 have h2 := hg2.size
 simp at h1 h2
 have ha := gr_trans (gr_al (gr_refl w g) _) hg1
 have hk : ∀ b, b < w1.heap.size → b ≠ g → w2.heap[b]? = w1.heap[b]? := fun b hb hne => (hg2.block b (by simp; omega) (by simp; omega)).trans (hao w1 _ _ hb)
 obtain ⟨f', rfl⟩ : ∃ f', f = f' + 1 := by
  cases f with
  | zero => exact hO.elim
  | succ f' => exact ⟨f', rfl⟩
 obtain ⟨n, us⟩ := t
 obtain ⟨va, he, hn, hrow⟩ := hO
 simp only [List.cons.injEq, and_true] at he
 obtain ⟨-, rfl⟩ := he
 refine ⟨hP, ?_, ?_, ?_, gr_trans (gr_al ha _) hg2, hg, Nat.le_refl _, by omega, by omega⟩
 ·rw [ba_eq]
  exact (hg2.block w1.heap.size (by simp) (by simp; omega)).trans (heap_alloc_new w1 _)
 ·exact (hk w.heap.size (by omega) (by omega)).trans ((hg1.block w.heap.size (by simp) (by simp; omega)).trans (heap_alloc_new w _))
 ·exact hrow.mono (fun b hb _ => hk b hb.2 (by omega)) (fun b hb => by omega) (fun S x c _ hS hx => TmOwn.mono f' (f' + 1) x c (by omega) (fun b hb _ => hk b (hS b hb).2 (by have := hS b hb; omega)) (fun _ h => h) hx)
theorem TSt.fresh {T TP : TypeId} {ro : Obj} {w W w1 : World} {g rb bt : Nat} {s : ByteArray} {n : List UInt8} {p p' : PSt} {v v0 v1 : Value} {xs : List Tm} {f : Nat} {t : Tm} (h : TSt T TP ro w g rb bt s n p v xs f W) (hT : TermP T g W.heap.size s f t p' TP W (.agg #[v0, v1]) w1) :
  TSt T TP ro w g rb bt s n p' (.slice (some ⟨w1.heap.size, 0, none⟩) 1 1) [t] f ((w1.alloc (.cells #[v0, v1] T)).setCell ⟨bt, 1, none⟩ (.slice (some ⟨w1.heap.size, 0, none⟩) 1 1)) := by
 obtain ⟨v0', v1', he, hO, hP, hG⟩ := hT
 simp only [Value.agg.injEq, Array.mk.injEq, List.cons.injEq, and_true] at he
 obtain ⟨rfl, rfl⟩ := he
 obtain ⟨l1, l2, l3, l4⟩ := h.lt
 have hz := hG.size
 have hk : ∀ b, b < w1.heap.size → b ≠ bt → ((w1.alloc (.cells #[v0, v1] T)).setCell ⟨bt, 1, none⟩ (.slice (some ⟨w1.heap.size, 0, none⟩) 1 1)).heap[b]? = w1.heap[b]? := fun b hb hne => (heap_setCell_other _ ⟨bt, 1, none⟩ b _ (fun e => hne e)).trans (hao w1 _ _ hb)
 have hbt : (w1.alloc (.cells #[v0, v1] T)).heap[bt]? = some (.cells #[.string ⟨n.toArray⟩, v] T (0, 0)) := (hao w1 _ _ (by omega)).trans ((hG.block bt l4 (by simp; omega)).trans h.cell)
 refine ⟨(hk g (by omega) (by omega)).trans hP, ?_, (hk rb (by omega) (by omega)).trans ((hG.block rb (by omega) (by simp; omega)).trans h.res), ?_, ?_, l1, l2, l3, by simp; omega⟩
 ·have := heap_setCell_same (w1.alloc (.cells #[v0, v1] T)) bt 1 _ T (.slice (some ⟨w1.heap.size, 0, none⟩) 1 1) hbt
  simpa using this
 ·have h1 := OwnRow.one (S' := fun b => rb < b ∧ b ≠ bt ∧ b < w1.heap.size + 1) (R := fun S x c => TmOwn T f S (w1.alloc (.cells #[v0, v1] T)) x c) (w := w1) (e := T) #[v0, v1] rfl (TmOwn.below ((Below.refl _ _).alloc (Nat.le_refl _) _) hO) (fun b hb => hb.2) (fun b hb => by omega) (by omega)
  refine h1.mono (fun b hb _ => heap_setCell_other _ ⟨bt, 1, none⟩ b _ (fun e => hb.2.1 e)) (fun b hb => by simpa using hb) (fun S x c _ hS hx => TmOwn.mono f f x c (Nat.le_refl _) (fun b hb _ => heap_setCell_other _ ⟨bt, 1, none⟩ b _ (fun e => (hS b hb).2.1 e)) (fun _ h => h) hx)
 ·exact gr_sc (gr_al (gr_trans h.gr hG) _) (.inr (by simp; omega)) _
theorem TSt.term {T TP : TypeId} {ro : Obj} {w W : World} {g rb bt : Nat} {s : ByteArray} {n : List UInt8} {p : PSt} {v : Value} {xs : List Tm} {f : Nat} (h : TSt T TP ro w g rb bt s n p v xs f W) (hn : n.length ≤ 1000000) :
  TmOwn T (f + 1) (fun b => rb < b ∧ b ≠ bt ∧ b < W.heap.size) W (.mk ⟨n.toArray⟩ xs) [.string ⟨n.toArray⟩, v] := ⟨_, rfl, by show n.toArray.size ≤ _; unfold maxLen; simp; omega, h.row⟩
theorem cells5_cell {w : World} {g : Nat} {x0 x1 x2 x3 x4 : Value} {t : TypeId} (h : w.heap[g]? = some (.cells #[x0, x1, x2, x3, x4] t (0, 0))) : w.cell? ⟨g, 0, none⟩ = some x0 ∧ w.cell? ⟨g, 1, none⟩ = some x1 ∧ w.cell? ⟨g, 2, none⟩ = some x2 ∧ w.cell? ⟨g, 3, none⟩ = some x3 ∧ w.cell? ⟨g, 4, none⟩ = some x4 ∧ (∀ j, w.frozen? ⟨g, j, none⟩ = false) := by
 refine ⟨?_, ?_, ?_, ?_, ?_, fun j => frozen_of_row w g j _ _ h⟩
 ·rw [cell_of_row w g 0 _ _ (0, 0) h]; rfl
 ·rw [cell_of_row w g 1 _ _ (0, 0) h]; rfl
 ·rw [cell_of_row w g 2 _ _ (0, 0) h]; rfl
 ·rw [cell_of_row w g 3 _ _ (0, 0) h]; rfl
 ·rw [cell_of_row w g 4 _ _ (0, 0) h]; rfl
theorem FmP.of {m g rb : Nat} {s : ByteArray} {F : Fm} {p' : PSt} {w w4 w5 : World} {S : Nat → Prop} {x : Value} (hP : PAt 35 w4 g s p') (hG : w.grownBy w4 (some g)) (hb : Below w4.heap.size w4 w5) (hV : FmV m S w5 F x) (hS : ∀ b, S b → rb < b ∧ b < w5.heap.size) (hrb : w.heap.size ≤ rb) (hg : g < rb) (a0 a1 a2 a3 a4 : Value) :
  FmP m g s F p' w x (((((w5.setCell ⟨rb, 0, none⟩ a0).setCell ⟨rb, 1, none⟩ a1).setCell ⟨rb, 2, none⟩ a2).setCell ⟨rb, 3, none⟩ a3).setCell ⟨rb, 4, none⟩ a4) := by
 have hk : ∀ b, b ≠ rb → (((((w5.setCell ⟨rb, 0, none⟩ a0).setCell ⟨rb, 1, none⟩ a1).setCell ⟨rb, 2, none⟩ a2).setCell ⟨rb, 3, none⟩ a3).setCell ⟨rb, 4, none⟩ a4).heap[b]? = w5.heap[b]? := fun b hb => by
  repeat rw [heap_setCell_other _ _ _ _ (fun e => hb e)]
 obtain ⟨v0, v1, v2, v3, v4, rfl, hO⟩ := hV
 refine ⟨⟨_, _, _, _, _, rfl, FmOwn.mono _ _ _ _ (Nat.le_refl _) (fun b hb' _ => hk b (by have := hS b hb'; omega)) (fun b hb' => ?_) hO⟩, (hk g (by omega)).trans (hP.below hb), ?_⟩
 ·have := hS b hb'
  exact ⟨by omega, by simpa using this.2⟩
 ·exact gr_sc (gr_sc (gr_sc (gr_sc (gr_sc (gr_below hG hb) (.inr hrb) _) (.inr hrb) _) (.inr hrb) _) (.inr hrb) _) (.inr hrb) _
set_option maxHeartbeats 3200000 in
theorem atomEnglish_one (f g : Nat) (s : ByteArray) (p : PSt) (w : World) (h : PAt 35 w g s p) (hp : p.pos ≤ s.size) (hs : s.size ≤ 1000000) (hf : s.size - p.pos < f)
  (h1 : pTake s.data.toList sEquals (pTerm s.data.toList f p).2 = false) (h2 : pTake s.data.toList sHoldsOf (pTerm s.data.toList f p).2 = false) :
  Calls Tryz.prog 105 #[.pointer (some ⟨g, 0, none⟩)] w fun e w' => ∃ x, e = .returned x ∧ FmP (f + 2) g s (pAtom s.data.toList f p).1 (pAtom s.data.toList f p).2 w x w' := by
 have H := Lib.hid h
 have hg := bsz h.lt
 have HFIN := Lib.hid (show pAtom s.data.toList f p = (atomOfF (pTerm s.data.toList f p).1, pMust s.data.toList sHolds (pTerm s.data.toList f p).2) by rw [pAtom, h1, h2]; rfl)
 have hpos := pTerm_pos s.data.toList f p (by rw [← size_list]; exact hp)
 rw [← size_list] at hpos
 have hnm := pTerm_name s.data.toList f p
 rw [← size_list, ← size_list] at hnm
 have HA := Lib.hid (And.intro h1 h2)
 clear h h1 h2
 go_enter Tryz.func105, Tryz.ntmps105
 go_wp2_with fail
 refine (term_any f g s p _ (H.out.below (by exact bel)) hp hs hf).mono ?_
 rintro e w1 ⟨x, rfl, v0, v1, rfl, hO, hP1, hg1⟩
 obtain ⟨pp, cc, rfl, rfl, -⟩ := hO.form
 generalize pTerm s.data.toList f p = r at *
 obtain ⟨t, p1⟩ := r
 simp only at hpos hO HA hP1 HFIN hnm
 have HO := Lib.hid (show TmOwn 64 f (fun b => w.heap.size + 1 ≤ b ∧ b < w1.heap.size) w1 t _ by simpa using hO)
 have HG1 := Lib.hid hg1
 have ⟨c1, f1⟩ := gcell hg1
 have hz1 := hg1.size
 (try simp at hz1)
 have HP1 := Lib.hid hP1
 clear hO hP1 hg1
 go_wp2_with fail
 refine (take_any g s _ p1 _ (HP1.out.below (by exact bel)) hpos.2 (by omega) (by decide)).mono ?_
 rw [show (⟨#[32, 101, 113, 117, 97, 108, 115, 32]⟩ : ByteArray).data.toList = sEquals from rfl, HA.out.1]
 rintro e w2 ⟨_, rfl, rfl, h2, hg2⟩
 have HTS := Lib.hid (TSt.initT (s := s) (by omega) HO.out HG1.out hg2 h2)
 clear h2
 have ⟨c2, f2⟩ := gcell hg2
 have hz2 := hg2.size
 (try simp at hz2)
 clear hg2
 go_wp2_with fail
 refine (take_any g s _ p1 _ (PAt.below HTS.out.at_ (by exact bel)) hpos.2 (by omega) (by decide)).mono ?_
 rw [show (⟨#[32, 104, 111, 108, 100, 115, 32, 111, 102, 32]⟩ : ByteArray).data.toList = sHoldsOf from rfl, HA.out.2]
 rintro e w3 ⟨_, rfl, rfl, h3, hg3⟩
 have HTS1 := Lib.hid (HTS.out.reader (p' := p1) h3 hg3)
 clear h3 hg3 c1 f1 c2 f2
 go_wp2_with fail
 refine (must_any g s _ p1 _ (PAt.below HTS1.out.at_ (by exact bel)) hpos.2 (by omega) (by decide)).mono ?_
 rw [show (⟨#[32, 104, 111, 108, 100, 115]⟩ : ByteArray).data.toList = sHolds from rfl]
 rintro e w4 ⟨_, rfl, rfl, h4, hg4⟩
 have HTS2 := Lib.hid (HTS1.out.reader h4 hg4)
 clear h4 hg4
 obtain ⟨b0, b1, -⟩ := cells2_cell HTS2.out.cell
 obtain ⟨r0, r1, r2, r3, r4, rf⟩ := cells5_cell HTS2.out.res
 have hrb := bsz (heap_lt HTS2.out.res)
 have hlt := HTS2.out.lt
 go_wp2_with fail
 refine (atomOf_any (f + 1) _ _ _ _ _ (HTS2.out.term (by rw [← size_list]; omega))).mono ?_
 rintro e w5 ⟨y, rfl, hV, hb5⟩
 have HV := Lib.hid hV
 have hq5 := hb5.size
 have ⟨c5, f5⟩ := bcell hb5
 obtain ⟨y0, y1, y2, y3, y4, rfl, hOO⟩ := hV
 obtain ⟨q1, d1, q2, d2, rfl, rfl, rfl, rfl, rfl, -⟩ := hOO.form
 clear hOO b0 b1
 go_wp2
 refine bodyPost_ret (v := .agg #[.int .i64 (atomOfF (Tm.mk ⟨t.n.data⟩ t.us)).op, .string (atomOfF (Tm.mk ⟨t.n.data⟩ t.us)).a.n, .slice q1 (atomOfF (Tm.mk ⟨t.n.data⟩ t.us)).a.us.length d1, .string (atomOfF (Tm.mk ⟨t.n.data⟩ t.us)).v, .slice q2 (atomOfF (Tm.mk ⟨t.n.data⟩ t.us)).ps.length d2]) (by simp only [results, Tryz.results105]; go_simp) rfl ⟨_, rfl, ?_⟩
 rw [HFIN.out]
 have hte : (Tm.mk ⟨t.n.data.toList.toArray⟩ t.us) = t := by obtain ⟨n, us⟩ := t; rfl
 have hv := HV.out
 rw [hte] at hv
 exact FmP.of HTS2.out.at_ HTS2.out.gr hb5 hv (fun b hb => ⟨hb.1, by omega⟩) (Nat.le_refl _) (by omega) _ _ _ _ _
set_option maxHeartbeats 3200000 in
theorem atomEnglish_of (f g : Nat) (s : ByteArray) (p : PSt) (w : World) (h : PAt 35 w g s p) (hp : p.pos ≤ s.size) (hs : s.size ≤ 1000000) (hf : s.size - p.pos < f)
  (h1 : pTake s.data.toList sEquals (pTerm s.data.toList f p).2 = false) (h2 : pTake s.data.toList sHoldsOf (pTerm s.data.toList f p).2 = true) :
  Calls Tryz.prog 105 #[.pointer (some ⟨g, 0, none⟩)] w fun e w' => ∃ x, e = .returned x ∧ FmP (f + 2) g s (pAtom s.data.toList f p).1 (pAtom s.data.toList f p).2 w x w' := by
 have H := Lib.hid h
 have hg := bsz h.lt
 have hpos := pTerm_pos s.data.toList f p (by rw [← size_list]; exact hp)
 rw [← size_list] at hpos
 have hnm := pTerm_name s.data.toList f p
 rw [← size_list, ← size_list] at hnm
 have hle := pTake_le h2 (by rw [← size_list]; exact hpos.2)
 rw [← size_list] at hle
 have hl10 : sHoldsOf.length = 10 := rfl
 have HA := Lib.hid (And.intro h1 h2)
 have HPA := Lib.hid (show pAtom s.data.toList f p = (atomOfF (.mk (pTerm s.data.toList f p).1.n ((pTerm s.data.toList f (pAdv sHoldsOf (pTerm s.data.toList f p).2)).1 :: (pArgs s.data.toList sComma f (pTerm s.data.toList f (pAdv sHoldsOf (pTerm s.data.toList f p).2)).2).1)), (pArgs s.data.toList sComma f (pTerm s.data.toList f (pAdv sHoldsOf (pTerm s.data.toList f p).2)).2).2) by rw [pAtom, h1, h2]; rfl)
 clear h h1 h2
 have IH := Lib.hid (fun (f' : Nat) (_ : f' < f + 1) => term_any f')
 go_enter Tryz.func105, Tryz.ntmps105
 go_wp2_with fail
 refine (term_any f g s p _ (H.out.below (by exact bel)) hp hs hf).mono ?_
 rintro e w1 ⟨x, rfl, v0, v1, rfl, hO, hP1, hg1⟩
 obtain ⟨pp, cc, rfl, rfl, -⟩ := hO.form
 generalize pTerm s.data.toList f p = r at *
 obtain ⟨t, p1⟩ := r
 simp only at hpos hO HA hP1 HPA hnm hle
 have HO := Lib.hid (show TmOwn 64 f (fun b => w.heap.size + 1 ≤ b ∧ b < w1.heap.size) w1 t _ by simpa using hO)
 have HG1 := Lib.hid hg1
 have ⟨c1, f1⟩ := gcell hg1
 have hz1 := hg1.size
 (try simp at hz1)
 have HP1 := Lib.hid hP1
 clear hO hP1 hg1
 go_wp2_with fail
 refine (take_any g s _ p1 _ (HP1.out.below (by exact bel)) hpos.2 (by omega) (by decide)).mono ?_
 rw [show (⟨#[32, 101, 113, 117, 97, 108, 115, 32]⟩ : ByteArray).data.toList = sEquals from rfl, HA.out.1]
 rintro e w2 ⟨_, rfl, rfl, h2, hg2⟩
 have HTS0 := Lib.hid (TSt.initT (s := s) (by omega) HO.out HG1.out hg2 h2)
 clear h2
 have ⟨c2, f2⟩ := gcell hg2
 have hz2 := hg2.size
 (try simp at hz2)
 clear hg2
 go_wp2_with fail
 refine (take_any g s _ p1 _ (PAt.below HTS0.out.at_ (by exact bel)) hpos.2 (by omega) (by decide)).mono ?_
 rw [show (⟨#[32, 104, 111, 108, 100, 115, 32, 111, 102, 32]⟩ : ByteArray).data.toList = sHoldsOf from rfl, HA.out.2]
 rintro e w3 ⟨_, rfl, rfl, h3, hg3⟩
 have HTS1 := Lib.hid (HTS0.out.reader (p' := pAdv sHoldsOf p1) h3 hg3)
 clear h3 hg3 c1 f1 c2 f2
 have hrd : (pAdv sHoldsOf p1).pos ≤ s.size ∧ s.size - (pAdv sHoldsOf p1).pos < f := by simp only [pAdv]; omega
 go_wp2_with fail
 refine (term_any f g s (pAdv sHoldsOf p1) _ (PAt.below HTS1.out.at_ (by exact bel)) hrd.1 hs hrd.2).mono ?_
 rintro e w4 ⟨x, rfl, hT4⟩
 obtain ⟨tq, htq⟩ : ∃ tq, (pTerm s.data.toList f (pAdv sHoldsOf p1)).1 = tq := ⟨_, rfl⟩
 obtain ⟨pq, hpq⟩ : ∃ pq, (pTerm s.data.toList f (pAdv sHoldsOf p1)).2 = pq := ⟨_, rfl⟩
 have hpp := pTerm_pos s.data.toList f (pAdv sHoldsOf p1) (by rw [← size_list]; exact hrd.1)
 rw [hpq, ← size_list] at hpp
 rw [htq, hpq] at hT4
 have HPA2 := Lib.hid (show pAtom s.data.toList f p = (atomOfF (.mk t.n (tq :: (pArgs s.data.toList sComma f pq).1)), (pArgs s.data.toList sComma f pq).2) by rw [HPA.out, htq, hpq])
 clear htq hpq
 simp only [pAdv] at hpp
 obtain ⟨v0, v1, rfl, hO4, hP4, hG4⟩ := hT4
 have ht4 := TSt.fresh HTS1.out ⟨v0, v1, rfl, hO4, hP4, hG4⟩
 rw [World.setCell_alloc_past _ _ _ _ (show w1.heap.size < w4.heap.size by have := hG4.size; have := HTS1.out.lt; omega)] at ht4
 have HT4 := Lib.hid ht4
 clear ht4
 obtain ⟨l1, l2, l3, l4⟩ := HTS1.out.lt
 have hz4 := hG4.size
 obtain ⟨b0, b1, bf⟩ := cells2_cell ((hG4.block w1.heap.size l4 (by simp; omega)).trans HTS1.out.cell)
 obtain ⟨pp4, cc4, rfl, rfl, -⟩ := hO4.form
 have hbt := bsz (show w1.heap.size < w4.heap.size by omega)
 have HPP := Lib.hid (And.intro hpp hrd)
 clear hO4 hP4 hG4 hpp hrd
 go_wp2
 go_loopw [] (ArgRel (.cells #[.int .i64 0, .string ⟨#[]⟩, .slice none 0 0, .string ⟨#[]⟩, .slice none 0 0] 67 (0, 0)) w g w.heap.size w1.heap.size s t.n.data.toList sComma f (tq :: (pArgs s.data.toList sComma f pq).1) (pArgs s.data.toList sComma f pq).2) (fun wr => s.size - posOf wr g)
 case atStart => exact ⟨f, pq, _, [tq], HT4.out, Nat.le_refl _, rfl, rfl, by have := HPP.out; simp only [pAdv] at this; omega, HPP.out.1.2, by have := HPP.out.1; simp; omega⟩
 case round =>
  obtain ⟨f', p', v, xs, hts, hff, hal, hpe, hfu, hpl, hxl⟩ := hrel
  have HTS2 := Lib.hid hts
  have HAL := Lib.hid (And.intro hal hpe)
  have HPO := hts.at_.posOf
  clear hts hal hpe HTS0 HTS1 HT4 b0 b1 bf
  obtain ⟨f'', rfl⟩ : ∃ q, f' = q + 1 := ⟨f' - 1, by omega⟩
  have hg' := bsz HTS2.out.at_.lt
  cases hT2 : pTake s.data.toList sComma p'
  ·have HEND := Lib.hid (show pArgs s.data.toList sComma (f'' + 1) p' = ([], p') by rw [pArgs, hT2]; rfl)
   have HT2 := Lib.hid hT2
   go_wp2_with fail
   refine (take_any g s _ p' _ (PAt.below HTS2.out.at_ (by exact bel)) hpl (by omega) (by decide)).mono ?_
   rw [show (⟨#[44, 32]⟩ : ByteArray).data.toList = sComma from rfl, HT2.out]
   rintro e w6 ⟨_, rfl, rfl, h6, hg6⟩
   have HTS3 := Lib.hid (HTS2.out.reader (p' := p') h6 hg6)
   clear h6 hg6
   obtain ⟨pv, cv, hvv, -⟩ := HTS3.out.row.form
   subst hvv
   obtain ⟨b0, b1, -⟩ := cells2_cell HTS3.out.cell
   obtain ⟨r0, r1, r2, r3, r4, rf⟩ := cells5_cell HTS3.out.res
   have hrb := bsz (heap_lt HTS3.out.res)
   have hlt := HTS3.out.lt
   go_wp2_with fail
   refine (atomOf_any (f + 1) _ _ _ _ _ (HTS3.out.term (by rw [← size_list]; omega))).mono ?_
   rintro e w7 ⟨y, rfl, hV, hb7⟩
   have HV := Lib.hid hV
   have hq7 := hb7.size
   have ⟨c7, f7⟩ := bcell hb7
   obtain ⟨y0, y1, y2, y3, y4, rfl, hOO⟩ := hV
   obtain ⟨q1, d1, q2, d2, rfl, rfl, rfl, rfl, rfl, -⟩ := hOO.form
   clear hOO b0 b1
   go_wp2
   refine bodyPost_ret (v := .agg #[.int .i64 (atomOfF (Tm.mk ⟨t.n.data⟩ xs)).op, .string (atomOfF (Tm.mk ⟨t.n.data⟩ xs)).a.n, .slice q1 (atomOfF (Tm.mk ⟨t.n.data⟩ xs)).a.us.length d1, .string (atomOfF (Tm.mk ⟨t.n.data⟩ xs)).v, .slice q2 (atomOfF (Tm.mk ⟨t.n.data⟩ xs)).ps.length d2]) (by simp only [results, Tryz.results105]; go_simp) rfl ⟨_, rfl, ?_⟩
   have hal := HAL.out
   rw [HEND.out, List.append_nil] at hal
   rw [HPA2.out, ← hal.1, ← hal.2]
   exact FmP.of HTS3.out.at_ HTS3.out.gr hb7 HV.out (fun b hb => ⟨hb.1, by omega⟩) (Nat.le_refl _) (by omega) _ _ _ _ _
  ·have HT2 := Lib.hid hT2
   have hle2 := pTake_le hT2 (by rw [← size_list]; exact hpl)
   rw [← size_list, show sComma.length = 2 from rfl] at hle2
   go_wp2_with fail
   refine (take_any g s _ p' _ (PAt.below HTS2.out.at_ (by exact bel)) hpl (by omega) (by decide)).mono ?_
   rw [show (⟨#[44, 32]⟩ : ByteArray).data.toList = sComma from rfl, HT2.out]
   rintro e w6 ⟨_, rfl, rfl, h6, hg6⟩
   have HTS := Lib.hid (HTS2.out.reader (p' := pAdv sComma p') h6 hg6)
   clear h6 hg6 HPP
   have HBT := Lib.hid (show w6.cell? ⟨w1.heap.size, 1, none⟩ = some v from (cells2_cell HTS.out.cell).2.1)
   have HNE := Lib.hid (show w1.heap.size ≠ g by omega)
   go_wp2
   obtain ⟨tq, htq⟩ : ∃ tq, (pTerm s.data.toList f'' (pAdv sComma p')).1 = tq := ⟨_, rfl⟩
   obtain ⟨pq, hpq⟩ : ∃ pq, (pTerm s.data.toList f'' (pAdv sComma p')).2 = pq := ⟨_, rfl⟩
   have HTQ := Lib.hid htq
   have HPQ := Lib.hid hpq
   have HRD := Lib.hid (show (pAdv sComma p').pos ≤ s.size ∧ s.size - (pAdv sComma p').pos < f'' by simp only [pAdv, show sComma.length = 2 from rfl]; omega)
   have HLEN := Lib.hid (show xs.length + 1 ≤ 1000000 by omega)
   have HSTEP := Lib.hid (show pArgs s.data.toList sComma (f'' + 1) p' = (tq :: (pArgs s.data.toList sComma f'' pq).1, (pArgs s.data.toList sComma f'' pq).2) by rw [pArgs, if_pos HT2.out, htq, hpq])
   clear htq hpq
   obtain ⟨CP, hCP0⟩ : ∃ CP : Value → World → Prop, CP = TermP 64 g w6.heap.size s f tq pq 35 w6.drew := ⟨_, rfl⟩
   have HCP := Lib.hid hCP0
   have HGR := Lib.hid (show ∀ x w', CP x w' → w6.grownBy w' (some g) from by
    rw [hCP0]; rintro x w' ⟨_, _, _, _, _, hG⟩; exact ⟨hG.os, hG.tape, hG.output, hG.size, hG.block⟩)
   have HAGG := Lib.hid (show ∀ x w', CP x w' → ∃ v0 v1, x = .agg #[v0, v1] ∧ v0.oneCell' = true ∧ v1.oneCell' = true from by
    rw [hCP0]; rintro x w' ⟨v0, v1, hx, hO, _, _⟩
    obtain ⟨pp, cc, rfl, rfl, -⟩ := hO.form
    exact ⟨_, _, hx, rfl, rfl⟩)
   clear hCP0
   refine wp_region_stages [some (.pointer (some ⟨w1.heap.size, 1, none⟩)), some v, some (.pointer (some ⟨g, 0, none⟩)), none, none, none, some (.pointer (some ⟨w1.heap.size, 1, none⟩)), none] [3, 4, 5, 7] (AppSt 64 g w1.heap.size CP v xs.length w6 3 4 5) (by kernel_rfl) (by kernel_rfl) (by first | kernel_rfl | rfl) (by rfl) rfl ?_
   refine chain_st rfl rfl (by decide) rfl (by intro j u w' hS; go_simp; first | done | exact ⟨hS, rfl⟩ | exact hS | rfl) ?_
   go_simp
   refine chain_stb (c := 5) 2 rfl rfl (by decide) rfl rfl rfl (by first | kernel_rfl | rfl) ?_ ?_
   ·intro j u w' hj hS
    have hc := AppSt.cell HGR.out HBT.out HNE.out hj hS
    go_simp
    first | done | exact ⟨hS, rfl⟩ | exact hS | rfl
   go_simp
   refine chain_st rfl rfl (by decide) rfl (by intro j u w' hS; go_simp; first | done | exact ⟨hS, rfl⟩ | exact hS | rfl) ?_
   go_simp
   refine chain_first rfl rfl rfl (by decide) rfl ?_ ?_
   ·intro w' hS
    obtain rfl : w' = w6.drew := hS
    go_simp
    refine (IH.out f'' (by omega) g s _ _ (PAt.below HTS.out.at_ (by exact bel)) HRD.out.1 hs HRD.out.2).mono ?_
    rintro e w'' ⟨x, he, hx⟩
    rw [HTQ.out, HPQ.out] at hx
    exact ⟨x, he, by show CP (upd _ 3 x 3) w''; rw [upd_same, HCP.out]; exact hx.mono (by omega)⟩
   intro x
   go_simp
   refine chain_next 0 rfl rfl rfl rfl (by decide) rfl (by first | kernel_rfl | rfl) ?_ ?_
   ·intro w' hS
    have hS : CP (upd _ 3 x 3) w' := hS
    rw [upd_same] at hS
    obtain ⟨v0, v1, rfl, o0, o1⟩ := HAGG.out _ _ hS
    go_simp
    exact ⟨w', v0, v1, hS, by rw [upd_same], rfl⟩
   intro y
   go_simp
   refine chain_next 1 rfl rfl rfl rfl (by decide) rfl (by first | kernel_rfl | rfl) ?_ ?_
   ·intro w' hS
    obtain ⟨w1', v0, v1, hcp, hy, rfl⟩ := hS
    rw [upd_same] at hy
    subst hy
    obtain ⟨v0', v1', he, o0, o1⟩ := HAGG.out _ _ hcp
    simp only [Value.agg.injEq, Array.mk.injEq, List.cons.injEq, and_true] at he
    obtain ⟨rfl, rfl⟩ := he
    have hG1 := HGR.out _ _ hcp
    obtain ⟨hm, vals, Ss, r1, r2, r3, r4⟩ := HTS.out.row
    have hlt := HTS.out.lt
    have hlen := HLEN.out
    refine each_app1 (.tmp 27) (.tmp 30) _ rfl 0 64 2 40 elemTmI v _ vals rfl w1' #[v0, v1] rfl rfl (own_same r1 fun b hb hl => hG1.block b hl (by have := r2 b hb; simp; omega)) rfl (by intro u hu; simp at hu; rcases hu with rfl | rfl <;> assumption) (by omega) (by unfold maxLen; omega) (Nat.zero_le _) ?_
    intro v' w3 happ hg3 hnr hsz
    exact ⟨w1', v0, v1, hcp, by rw [upd_same]; exact happ, hg3, by rw [upd_same]; exact hnr, hsz⟩
   intro z
   go_simp
   refine chain_st rfl rfl (by decide) rfl (by intro j u w' hS; go_simp; first | done | exact ⟨hS, rfl⟩ | exact hS | rfl) ?_
   go_simp
   refine chain_next 2 rfl rfl rfl rfl (by decide) rfl (by first | kernel_rfl | rfl) ?_ ?_
   ·intro w' hS
    obtain ⟨w1', v0, v1, hcp, happ, hg3, hnr, hsz⟩ := hS
    rw [upd_same] at happ hnr
    obtain ⟨⟨q', c', rfl⟩, hbt⟩ := HTS.out.three HGR.out hcp happ hg3
    have hcell : w'.cell? ⟨w1.heap.size, 1, none⟩ = some v := by rw [cell_of_row w' _ 1 _ _ (0, 0) hbt]; rfl
    have hfro : w'.frozen? ⟨w1.heap.size, 1, none⟩ = false := frozen_of_row w' _ 1 _ _ hbt
    clear hbt
    go_simp
    refine ⟨w1', w', v0, v1, hcp, ?_, hg3, ?_, hsz, ?_⟩
    ·rw [upd_other _ _ (by decide), upd_same]; exact happ
    ·rw [upd_other _ _ (by decide), upd_same]; exact hnr
    ·rw [upd_other _ _ (by decide), upd_same]
   intro x'
   refine flowU_nil ?_
   intro wz hz
   have HZ := Lib.hid (HTS.out.app (by have := hz; rw [HCP.out] at this; exact this) HLEN.out)
   rw [upd_other _ _ (by decide), upd_same] at HZ
   clear hz
   go_simp
   go_wp2
   have hpp := pTerm_pos s.data.toList f'' (pAdv sComma p') (by rw [← size_list]; exact HRD.out.1)
   rw [HPQ.out, ← size_list] at hpp
   simp only [pAdv, show sComma.length = 2 from rfl] at hpp
   have hal := HAL.out
   rw [HSTEP.out] at hal
   refine ⟨⟨f'', pq, z, xs ++ [tq], HZ.out, by omega, by rw [← hal.1]; simp, hal.2, by omega, hpp.2, by simp; omega⟩, ?_⟩
   rw [HZ.out.at_.posOf, HPO]
   omega
theorem baseV9 (x0 x1 x2 x3 x4 x5 x6 x7 x8 : Option Value) (v : Value) (l : List (Option Value)) : baseV (x0 :: x1 :: x2 :: x3 :: x4 :: x5 :: x6 :: x7 :: x8 :: some v :: l) 9 = v := rfl
theorem baseV10 (x0 x1 x2 x3 x4 x5 x6 x7 x8 x9 : Option Value) (v : Value) (l : List (Option Value)) : baseV (x0 :: x1 :: x2 :: x3 :: x4 :: x5 :: x6 :: x7 :: x8 :: x9 :: some v :: l) 10 = v := rfl
theorem baseV11 (x0 x1 x2 x3 x4 x5 x6 x7 x8 x9 x10 : Option Value) (v : Value) (l : List (Option Value)) : baseV (x0 :: x1 :: x2 :: x3 :: x4 :: x5 :: x6 :: x7 :: x8 :: x9 :: x10 :: some v :: l) 11 = v := rfl
theorem baseV12 (x0 x1 x2 x3 x4 x5 x6 x7 x8 x9 x10 x11 : Option Value) (v : Value) (l : List (Option Value)) : baseV (x0 :: x1 :: x2 :: x3 :: x4 :: x5 :: x6 :: x7 :: x8 :: x9 :: x10 :: x11 :: some v :: l) 12 = v := rfl
theorem baseV13 (x0 x1 x2 x3 x4 x5 x6 x7 x8 x9 x10 x11 x12 : Option Value) (v : Value) (l : List (Option Value)) : baseV (x0 :: x1 :: x2 :: x3 :: x4 :: x5 :: x6 :: x7 :: x8 :: x9 :: x10 :: x11 :: x12 :: some v :: l) 13 = v := rfl
theorem baseV14 (x0 x1 x2 x3 x4 x5 x6 x7 x8 x9 x10 x11 x12 x13 : Option Value) (v : Value) (l : List (Option Value)) : baseV (x0 :: x1 :: x2 :: x3 :: x4 :: x5 :: x6 :: x7 :: x8 :: x9 :: x10 :: x11 :: x12 :: x13 :: some v :: l) 14 = v := rfl
theorem baseV15 (x0 x1 x2 x3 x4 x5 x6 x7 x8 x9 x10 x11 x12 x13 x14 : Option Value) (v : Value) (l : List (Option Value)) : baseV (x0 :: x1 :: x2 :: x3 :: x4 :: x5 :: x6 :: x7 :: x8 :: x9 :: x10 :: x11 :: x12 :: x13 :: x14 :: some v :: l) 15 = v := rfl
attribute [go_sem] baseV9 baseV10 baseV11 baseV12 baseV13 baseV14 baseV15
theorem FmP.mono {m n g : Nat} {s : ByteArray} {F : Fm} {p' : PSt} {w w' : World} {x : Value} (hm : m ≤ n) (h : FmP m g s F p' w x w') : FmP n g s F p' w x w' := by
 obtain ⟨⟨v0, v1, v2, v3, v4, hx, hO⟩, h2⟩ := h
 exact ⟨⟨v0, v1, v2, v3, v4, hx, FmOwn.mono _ _ _ _ hm (SameOn.refl _ _) (fun _ h => h) hO⟩, h2⟩
def EqQ (m g rb : Nat) (s : ByteArray) (F : Fm) (pq : PSt) (ro : Obj) (w0 : World) (y : Value) (w : World) : Prop :=
 PAt 35 w g s pq ∧ w0.grownBy w (some g) ∧ FmV m (fun b => rb < b ∧ b < w.heap.size) w F y ∧ w.heap[rb]? = some ro
def EqSt (m g rb : Nat) (s : ByteArray) (F : Fm) (pq : PSt) (ro : Obj) (w0 : World) (CP : Value → World → Prop) (a0 a1 : Value) (W : World) : Nat → (Nat → Value) → World → Prop
 | 0, _, w => w = W.drew
 | 1, u, w => CP (u 2) w
 | 2, u, w => ∃ w1 v0 v1, CP (.agg #[v0, v1]) w1 ∧ u 3 = .slice (some ⟨w1.heap.size, 0, none⟩) 2 2 ∧ w = w1.alloc (.cells #[a0, a1, v0, v1] 64)
 | 3, u, w => ∃ w1 v0 v1, CP (.agg #[v0, v1]) w1 ∧ u 4 = .agg #[.string ⟨#[61]⟩, .slice (some ⟨w1.heap.size, 0, none⟩) 2 2] ∧ w = w1.alloc (.cells #[a0, a1, v0, v1] 64)
 | 4, u, w => EqQ m g rb s F pq ro w0 (u 5) w
 | 5, _, w => ∃ w5 y0 y1 y2 y3 y4, EqQ m g rb s F pq ro w0 (.agg #[y0, y1, y2, y3, y4]) w5 ∧ w = ((((w5.setCell ⟨rb, 0, none⟩ y0).setCell ⟨rb, 1, none⟩ y1).setCell ⟨rb, 2, none⟩ y2).setCell ⟨rb, 3, none⟩ y3).setCell ⟨rb, 4, none⟩ y4
 | _, _, _ => False
theorem EqSt.cells {m g rb bt : Nat} {s : ByteArray} {F : Fm} {pq : PSt} {ro : Obj} {w0 : World} {CP : Value → World → Prop} {a0 a1 x0 x1 : Value} {W : World} (hG : ∀ x w', CP x w' → W.grownBy w' (some g)) (h0 : W.cell? ⟨bt, 0, none⟩ = some x0) (h1 : W.cell? ⟨bt, 1, none⟩ = some x1) (hne : bt ≠ g) {j : Nat} (hj : j ≤ 1) {u : Nat → Value} {w : World}
  (h : EqSt m g rb s F pq ro w0 CP a0 a1 W j u w) : w.cell? ⟨bt, 0, none⟩ = some x0 ∧ w.cell? ⟨bt, 1, none⟩ = some x1 := by
 match j, hj, h with
 | 0, _, h => obtain rfl : w = W.drew := h; exact ⟨h0, h1⟩
 | 1, _, h => exact ⟨grown_cell (hG _ _ h) h0 (by simpa using hne), grown_cell (hG _ _ h) h1 (by simpa using hne)⟩
theorem EqQ.made {f g rb bt : Nat} {s : ByteArray} {p pq : PSt} {ro : Obj} {w0 W w1 w5 : World} {n : List UInt8} {v v0 v1 y : Value} {xs : List Tm} {tq : Tm} (h : TSt 64 35 ro w0 g rb bt s n p v xs f W) (_hn : n.length ≤ 1000000) (hT : TermP 64 g W.heap.size s f tq pq 35 W.drew (.agg #[v0, v1]) w1)
  (hb : Below (w1.alloc (.cells #[.string ⟨n.toArray⟩, v, v0, v1] 64)).heap.size (w1.alloc (.cells #[.string ⟨n.toArray⟩, v, v0, v1] 64)) w5)
  (hV : FmV (f + 3) (fun b => rb < b ∧ b < w1.heap.size + 1) w5 (atomOfF (eqTm (.mk ⟨n.toArray⟩ xs) tq)) y) : EqQ (f + 3) g rb s (atomOfF (eqTm (.mk ⟨n.toArray⟩ xs) tq)) pq ro w0 y w5 := by
 obtain ⟨v0', v1', he, hO, hP, hG⟩ := hT
 obtain ⟨l1, l2, l3, l4⟩ := h.lt
 have hz : W.heap.size ≤ w1.heap.size := hG.size
 have hzb := hb.size
 simp at hzb
 have hk : ∀ b, b < w1.heap.size → w5.heap[b]? = w1.heap[b]? := fun b hlt => (hb.block b (by simp; omega)).trans (hao w1 _ _ hlt)
 have hG1 : W.grownBy w1 (some g) := ⟨hG.os, hG.tape, hG.output, hG.size, hG.block⟩
 refine ⟨(hk g (by omega)).trans hP, gr_below (gr_al (gr_trans h.gr hG1) _) hb, ?_, (hk rb (by omega)).trans ((hG1.block rb (by omega) (by simp; omega)).trans h.res)⟩
 obtain ⟨y0, y1, y2, y3, y4, rfl, hO5⟩ := hV
 exact ⟨_, _, _, _, _, rfl, FmOwn.mono _ _ _ _ (Nat.le_refl _) (SameOn.refl _ _) (fun b hb => ⟨hb.1, by omega⟩) hO5⟩
theorem eq_own {f g rb bt : Nat} {s : ByteArray} {p pq : PSt} {ro : Obj} {w0 W w1 : World} {n : List UInt8} {v v0 v1 : Value} {xs : List Tm} {tq : Tm} (h : TSt 64 35 ro w0 g rb bt s n p v xs f W) (hn : n.length ≤ 1000000) (hT : TermP 64 g W.heap.size s f tq pq 35 W.drew (.agg #[v0, v1]) w1) :
  TmOwn 64 (f + 2) (fun b => rb < b ∧ b < w1.heap.size + 1) (w1.alloc (.cells #[.string ⟨n.toArray⟩, v, v0, v1] 64)) (eqTm (.mk ⟨n.toArray⟩ xs) tq) [.string ⟨#[61]⟩, .slice (some ⟨w1.heap.size, 0, none⟩) 2 2] := by
 obtain ⟨v0', v1', he, hO, hP, hG⟩ := hT
 simp only [Value.agg.injEq, Array.mk.injEq, List.cons.injEq, and_true] at he
 obtain ⟨rfl, rfl⟩ := he
 obtain ⟨l1, l2, l3, l4⟩ := h.lt
 have hz : W.heap.size ≤ w1.heap.size := hG.size
 have hG1 : W.grownBy w1 (some g) := ⟨hG.os, hG.tape, hG.output, hG.size, hG.block⟩
 have h1 := TmOwn.mono (f + 1) (f + 1) _ _ (Nat.le_refl _) (w' := w1) (fun b hb hlt => hG1.block b hlt (by simp; omega)) (fun _ h => h) (h.term hn)
 refine ⟨_, rfl, by decide, ?_⟩
 exact OwnRow.two' rfl [.string ⟨n.toArray⟩, v] [v0, v1] _ rfl rfl rfl (TmOwn.below ((Below.refl _ _).alloc (Nat.le_refl _) _) h1) (TmOwn.mono f (f + 1) _ _ (by omega) (SameOn.below ((Below.refl _ _).alloc (Nat.le_refl _) _)) (fun _ h => h) hO)
  (fun b hb => by omega) (fun b hb => hb.2) (fun b hb hb' => by omega) (fun b hb => by omega) (fun b hb => by omega) (by omega)
set_option maxHeartbeats 3200000 in
theorem atomEnglish_eq (f g : Nat) (s : ByteArray) (p : PSt) (w : World) (h : PAt 35 w g s p) (hp : p.pos ≤ s.size) (hs : s.size ≤ 1000000) (hf : s.size - p.pos < f)
  (h1 : pTake s.data.toList sEquals (pTerm s.data.toList f p).2 = true) :
  Calls Tryz.prog 105 #[.pointer (some ⟨g, 0, none⟩)] w fun e w' => ∃ x, e = .returned x ∧ FmP (f + 3) g s (pAtom s.data.toList f p).1 (pAtom s.data.toList f p).2 w x w' := by
 have H := Lib.hid h
 have hg := bsz h.lt
 have hpos := pTerm_pos s.data.toList f p (by rw [← size_list]; exact hp)
 rw [← size_list] at hpos
 have hnm := pTerm_name s.data.toList f p
 rw [← size_list, ← size_list] at hnm
 have hle := pTake_le h1 (by rw [← size_list]; exact hpos.2)
 rw [← size_list] at hle
 have hl8 : sEquals.length = 8 := rfl
 have HA := Lib.hid h1
 have HPA := Lib.hid (show pAtom s.data.toList f p = (atomOfF (eqTm (pTerm s.data.toList f p).1 (pTerm s.data.toList f (pAdv sEquals (pTerm s.data.toList f p).2)).1), (pTerm s.data.toList f (pAdv sEquals (pTerm s.data.toList f p).2)).2) by rw [pAtom, h1]; rfl)
 clear h h1
 go_enter Tryz.func105, Tryz.ntmps105
 go_wp2_with fail
 refine (term_any f g s p _ (H.out.below (by exact bel)) hp hs hf).mono ?_
 rintro e w1 ⟨x, rfl, v0, v1, rfl, hO, hP1, hg1⟩
 obtain ⟨pp, cc, rfl, rfl, -⟩ := hO.form
 generalize pTerm s.data.toList f p = r at *
 obtain ⟨t, p1⟩ := r
 simp only at hpos hO HA hP1 HPA hnm hle
 have HO := Lib.hid (show TmOwn 64 f (fun b => w.heap.size + 1 ≤ b ∧ b < w1.heap.size) w1 t _ by simpa using hO)
 have HG1 := Lib.hid hg1
 have ⟨c1, f1⟩ := gcell hg1
 have hz1 := hg1.size
 (try simp at hz1)
 have HP1 := Lib.hid hP1
 clear hO hP1 hg1
 go_wp2_with fail
 refine (take_any g s _ p1 _ (HP1.out.below (by exact bel)) hpos.2 (by omega) (by decide)).mono ?_
 rw [show (⟨#[32, 101, 113, 117, 97, 108, 115, 32]⟩ : ByteArray).data.toList = sEquals from rfl, HA.out]
 rintro e w2 ⟨_, rfl, rfl, h2, hg2⟩
 have HTS := Lib.hid (TSt.initT (s := s) (p := pAdv sEquals p1) (by omega) HO.out HG1.out hg2 h2)
 clear h2 hg2 c1 f1
 obtain ⟨hb0, hb1, -⟩ := cells2_cell HTS.out.cell
 have HB := Lib.hid (And.intro (show w2.cell? ⟨w1.heap.size, 0, none⟩ = some (.string t.n) from hb0) hb1)
 have hlt := HTS.out.lt
 clear hb0 hb1
 go_wp2
 obtain ⟨tq, htq⟩ : ∃ tq, (pTerm s.data.toList f (pAdv sEquals p1)).1 = tq := ⟨_, rfl⟩
 obtain ⟨pq, hpq⟩ : ∃ pq, (pTerm s.data.toList f (pAdv sEquals p1)).2 = pq := ⟨_, rfl⟩
 have HTQ := Lib.hid htq
 have HPQ := Lib.hid hpq
 have HRD := Lib.hid (show (pAdv sEquals p1).pos ≤ s.size ∧ s.size - (pAdv sEquals p1).pos < f by simp only [pAdv]; omega)
 have HPA2 := Lib.hid (show pAtom s.data.toList f p = (atomOfF (eqTm t tq), pq) by rw [HPA.out, htq, hpq])
 clear htq hpq
 obtain ⟨CP, hCP0⟩ : ∃ CP : Value → World → Prop, CP = TermP 64 g w2.heap.size s f tq pq 35 w2.drew := ⟨_, rfl⟩
 have HCP := Lib.hid hCP0
 have HGR := Lib.hid (show ∀ x w', CP x w' → w2.grownBy w' (some g) from by
  rw [hCP0]; rintro x w' ⟨_, _, _, _, _, hG⟩; exact ⟨hG.os, hG.tape, hG.output, hG.size, hG.block⟩)
 have HAGG := Lib.hid (show ∀ x w', CP x w' → ∃ pp cc, x = .agg #[.string tq.n, .slice pp tq.us.length cc] from by
  rw [hCP0]; rintro x w' ⟨v0, v1, hx, hO, _, _⟩
  obtain ⟨pp, cc, rfl, rfl, -⟩ := hO.form
  exact ⟨_, _, hx⟩)
 clear hCP0
 refine wp_region_stages [some (.agg #[.string t.n, .slice pp t.us.length cc]), some (.pointer (some ⟨g, 0, none⟩)), none, none, none, none, none] [2, 3, 4, 5, 6] (EqSt (f + 3) g w.heap.size s (atomOfF (eqTm t tq)) pq (.cells #[.int .i64 0, .string ⟨#[]⟩, .slice none 0 0, .string ⟨#[]⟩, .slice none 0 0] 67 (0, 0)) w CP (.string t.n) (.slice pp t.us.length cc) w2) (by kernel_rfl) (by kernel_rfl) (by first | kernel_rfl | rfl) (by rfl) rfl ?_
 refine chain_stb (c := 3) 1 rfl rfl (by decide) rfl rfl rfl (by first | kernel_rfl | rfl) ?_ ?_
 ·intro j u w' hj hS
  obtain ⟨hc0, hc1⟩ := EqSt.cells HGR.out HB.out.1 HB.out.2 (by omega) hj hS
  go_simp
  first | done | exact ⟨hS, rfl⟩ | exact hS | rfl
 go_simp
 refine chain_st rfl rfl (by decide) rfl (by intro j u w' hS; go_simp; first | done | exact ⟨hS, rfl⟩ | exact hS | rfl) ?_
 go_simp
 refine chain_first rfl rfl rfl (by decide) rfl ?_ ?_
 ·intro w' hS
  obtain rfl : w' = w2.drew := hS
  go_simp
  refine (term_any f g s _ _ (PAt.below HTS.out.at_ (by exact bel)) HRD.out.1 hs HRD.out.2).mono ?_
  rintro e w'' ⟨x, he, hx⟩
  rw [HTQ.out, HPQ.out] at hx
  exact ⟨x, he, by show CP (upd _ 2 x 2) w''; rw [upd_same, HCP.out]; exact hx⟩
 intro x
 go_simp
 refine chain_next 0 rfl rfl rfl rfl (by decide) rfl (by first | kernel_rfl | rfl) ?_ ?_
 ·intro w' hS
  have hS : CP (upd _ 2 x 2) w' := hS
  rw [upd_same] at hS
  obtain ⟨pp4, cc4, rfl⟩ := HAGG.out _ _ hS
  go_simp
  exact ⟨w', _, _, hS, by rw [upd_same], rfl⟩
 intro y
 go_simp
 refine chain_next 1 rfl rfl rfl rfl (by decide) rfl (by first | kernel_rfl | rfl) ?_ ?_
 ·intro w' hS
  obtain ⟨w3, v0, v1, hcp, hy, rfl⟩ := hS
  rw [upd_same] at hy
  subst hy
  go_simp
  exact ⟨w3, v0, v1, hcp, by rw [upd_same], rfl⟩
 intro z
 go_simp
 refine chain_next 2 rfl rfl rfl rfl (by decide) rfl (by first | kernel_rfl | rfl) ?_ ?_
 ·intro w' hS
  obtain ⟨w3, v0, v1, hcp, hy, rfl⟩ := hS
  rw [upd_same] at hy
  subst hy
  have HE := Lib.hid (eq_own HTS.out (by rw [← size_list]; omega) (by rw [HCP.out] at hcp; exact hcp))
  have HCPP := Lib.hid hcp
  go_simp
  refine (atomOf_any (f + 2) _ _ _ _ _ HE.out).mono ?_
  rintro e w5 ⟨q, rfl, hV, hb5⟩
  refine ⟨q, rfl, ?_⟩
  show EqQ _ _ _ _ _ _ _ _ (upd _ 5 q 5) w5
  rw [upd_same]
  have hcp := HCPP.out
  rw [HCP.out] at hcp
  have hte : (Tm.mk ⟨t.n.data.toList.toArray⟩ t.us) = t := by obtain ⟨n, us⟩ := t; rfl
  have hq := EqQ.made HTS.out (by rw [← size_list]; omega) hcp hb5 hV
  rw [hte] at hq
  exact hq
 intro q
 go_simp
 refine chain_next 3 rfl rfl rfl rfl (by decide) rfl (by first | kernel_rfl | rfl) ?_ ?_
 ·intro w' hS
  have hS : EqQ _ _ _ _ _ _ _ _ (upd _ 5 q 5) w' := hS
  rw [upd_same] at hS
  have HS := Lib.hid hS
  obtain ⟨hQ1, hQ2, ⟨y0, y1, y2, y3, y4, rfl, hO⟩, hro⟩ := hS
  obtain ⟨q1, d1, q2, d2, rfl, rfl, rfl, rfl, rfl, -⟩ := hO.form
  obtain ⟨r0, r1, r2, r3, r4, rf⟩ := cells5_cell hro
  clear hQ1 hQ2 hO hro
  go_simp
  exact ⟨w', _, _, _, _, _, HS.out, rfl⟩
 intro x'
 refine flowU_nil ?_
 intro wz hz
 obtain ⟨w5, y0, y1, y2, y3, y4, hQ, rfl⟩ := hz
 have HQ := Lib.hid hQ
 obtain ⟨hQ1, hQ2, ⟨y0', y1', y2', y3', y4', he, hO⟩, hro⟩ := hQ
 simp only [Value.agg.injEq, Array.mk.injEq, List.cons.injEq, and_true] at he
 obtain ⟨rfl, rfl, rfl, rfl, rfl⟩ := he
 obtain ⟨q1, d1, q2, d2, rfl, rfl, rfl, rfl, rfl, -⟩ := hO.form
 obtain ⟨r0, r1, r2, r3, r4, rf⟩ := cells5_cell hro
 clear hQ1 hQ2 hO hro
 go_simp
 go_wp2
 refine bodyPost_ret (v := .agg #[.int .i64 (atomOfF (eqTm t tq)).op, .string (atomOfF (eqTm t tq)).a.n, .slice q1 (atomOfF (eqTm t tq)).a.us.length d1, .string (atomOfF (eqTm t tq)).v, .slice q2 (atomOfF (eqTm t tq)).ps.length d2]) (by simp only [results, Tryz.results105]; go_simp) rfl ⟨_, rfl, ?_⟩
 rw [HPA2.out]
 exact FmP.of HQ.out.1 HQ.out.2.1 (Below.refl _ _) HQ.out.2.2.1 (fun b hb => hb) (Nat.le_refl _) (by omega) _ _ _ _ _
theorem readAtom_any (f g : Nat) (s : ByteArray) (p : PSt) (w : World) (h : PAt 35 w g s p) (hp : p.pos ≤ s.size) (hs : s.size ≤ 1000000) (hf : s.size - p.pos < f) :
  Calls Tryz.prog 105 #[.pointer (some ⟨g, 0, none⟩)] w fun e w' => ∃ x, e = .returned x ∧ FmP (f + 3) g s (pAtom s.data.toList f p).1 (pAtom s.data.toList f p).2 w x w' := by
 cases h1 : pTake s.data.toList sEquals (pTerm s.data.toList f p).2
 ·cases h2 : pTake s.data.toList sHoldsOf (pTerm s.data.toList f p).2
  ·exact (atomEnglish_one f g s p w h hp hs hf h1 h2).mono fun e w' ⟨x, he, hx⟩ => ⟨x, he, hx.mono (by omega)⟩
  ·exact (atomEnglish_of f g s p w h hp hs hf h1 h2).mono fun e w' ⟨x, he, hx⟩ => ⟨x, he, hx.mono (by omega)⟩
 ·exact atomEnglish_eq f g s p w h hp hs hf h1
end Go.Proofs.YtabkdonplmlbcaaGreatDoor
