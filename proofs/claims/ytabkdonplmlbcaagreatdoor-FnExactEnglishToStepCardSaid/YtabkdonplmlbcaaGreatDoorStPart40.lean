import Derived.Test.YtabkdonplmlbcaaGreatDoorStPart31
import Derived.Test.YtabkdonplmlbcaaGreatDoorStPart34
import Derived.Test.YtabkdonplmlbcaaGreatDoorStPart39
namespace Go.Proofs.YtabkdonplmlbcaaGreatDoor
set_option maxRecDepth 100000
open Go.RowKit
section
variable {α : Type} (R : (Nat → Prop) → World → α → List Value → Prop)
def KeepR : Prop := ∀ (S S' : Nat → Prop) (w w' : World) (x : α) (cs : List Value), SameOn S w w' → (∀ b, S b → S' b) → R S w x cs → R S' w' x cs
def GP (g lo : Nat) (s : ByteArray) (t : α) (p' : PSt) (TP : TypeId) (W : World) (x : Value) (w : World) : Prop :=
 ∃ cs : Array Value, x = .agg cs ∧ R (fun b => lo ≤ b ∧ b < w.heap.size) w t cs.toList ∧ PAt TP w g s p' ∧ W.grownBy w (some g)
end
def AppG (eT : TypeId) (sz bt ci : Nat) (CP : Value → World → Prop) (v : Value) (n : Nat) (W : World) (i j k : Nat) : Nat → (Nat → Value) → World → Prop
 | 0, _, w => w = W.drew
 | 1, u, w => CP (u i) w
 | 2, u, w => ∃ w1 cs, CP (.agg cs) w1 ∧ u j = .slice (some ⟨w1.heap.size, 0, none⟩) 1 1 ∧ w = w1.alloc (.cells cs eT)
 | 3, u, w => ∃ w1 cs, CP (.agg cs) w1 ∧ (∀ b xs, w1.ownsRow b eT sz v n xs → b ≤ w1.heap.size → w.ownsRow b eT sz (u k) (n + 1) (xs ++ cs.toList)) ∧ w1.grownBy w v.ownBlock ∧ NewRow v (u k) w1.heap.size ∧ w1.heap.size < w.heap.size
 | 4, u, w => ∃ w1 w3 cs, CP (.agg cs) w1 ∧ (∀ b xs, w1.ownsRow b eT sz v n xs → b ≤ w1.heap.size → w3.ownsRow b eT sz (u k) (n + 1) (xs ++ cs.toList)) ∧ w1.grownBy w3 v.ownBlock ∧ NewRow v (u k) w1.heap.size ∧ w1.heap.size < w3.heap.size ∧ w = w3.setCell ⟨bt, ci, none⟩ (u k)
 | _, _, _ => False
theorem AppG.cell {eT : TypeId} {sz g bt ci n i j k : Nat} {CP : Value → World → Prop} {v v' : Value} {W : World} (hG : ∀ x w', CP x w' → W.grownBy w' (some g)) {c o : Nat} (hc : W.cell? ⟨c, o, none⟩ = some v') (hne : c ≠ g) {m : Nat} (hm : m ≤ 2) {u : Nat → Value} {w : World} (h : AppG eT sz bt ci CP v n W i j k m u w) : w.cell? ⟨c, o, none⟩ = some v' := by
 match m, hm, h with
 | 0, _, h => obtain rfl : w = W.drew := h; exact hc
 | 1, _, h => exact grown_cell (hG _ _ h) hc (by simpa using hne)
 | 2, _, h =>
  obtain ⟨w1, cs, h1, _, rfl⟩ := h
  have h2 := grown_cell (hG _ _ h1) hc (by simpa using hne)
  exact (((Below.refl w1.heap.size w1).alloc (Nat.le_refl _) _).cell (World.block_lt_of_cell? w1 _ h2)).trans h2
def SetsTo (mk : Value → Obj) (ci : Nat) : Prop := ∀ (w : World) (bt : Nat) (v v' : Value), w.heap[bt]? = some (mk v) → (w.setCell ⟨bt, ci, none⟩ v').heap[bt]? = some (mk v')
theorem SetsTo.one (T : TypeId) : SetsTo (fun v => .cells #[v] T (0, 0)) 0 := fun w bt v v' h => by simpa using heap_setCell_same w bt 0 _ T v' h
structure GSt {α : Type} (R : (Nat → Prop) → World → α → List Value → Prop) (eT : TypeId) (sz : Nat) (mk : Value → Obj) (TP : TypeId) (ro : Obj) (w : World) (g rb bt : Nat) (s : ByteArray) (p : PSt) (v : Value) (xs : List α) (W : World) : Prop where
 at_ : PAt TP W g s p
 cell : W.heap[bt]? = some (mk v)
 res : W.heap[rb]? = some ro
 row : OwnRow (fun b => rb < b ∧ b ≠ bt ∧ b < W.heap.size) W eT sz (fun S x c => R S W x c) v xs
 gr : w.grownBy W (some g)
 lt : g < w.heap.size ∧ w.heap.size ≤ rb ∧ rb < bt ∧ bt < W.heap.size
theorem GSt.three {α : Type} {R : (Nat → Prop) → World → α → List Value → Prop} {eT : TypeId} {sz : Nat} {mk : Value → Obj} {TP : TypeId} {ro : Obj} {w W w' : World} {g rb bt : Nat} {s : ByteArray} {p : PSt} {v z : Value} {xs : List α} {CP : Value → World → Prop} (h : GSt R eT sz mk TP ro w g rb bt s p v xs W) (hG : ∀ x w', CP x w' → W.grownBy w' (some g))
  {w1 : World} {cs : List Value} {x : Value} (hcp : CP x w1) (happ : ∀ b ys, w1.ownsRow b eT sz v xs.length ys → b ≤ w1.heap.size → w'.ownsRow b eT sz z (xs.length + 1) (ys ++ cs)) (hg3 : w1.grownBy w' v.ownBlock) :
  (∃ q c, z = .slice (some ⟨q, 0, none⟩) (xs.length + 1) c) ∧ w'.heap[bt]? = some (mk v) := by
 obtain ⟨l1, l2, l3, l4⟩ := h.lt
 have hG1 := hG _ _ hcp
 have hz1 := hG1.size
 obtain ⟨hm, vals, Ss, r1, r2, r3, r4⟩ := h.row
 have h1 := happ 0 vals (own_same r1 fun b hb hl => hG1.block b hl (by have := r2 b hb; simp; omega)) (Nat.zero_le _)
 refine ⟨own_form h1 (by omega), ?_⟩
 exact (hg3.block bt (by omega) (fun e => (r2 bt e.symm).2.1 rfl)).trans ((hG1.block bt l4 (by simp; omega)).trans h.cell)
theorem GSt.app {α : Type} {R : (Nat → Prop) → World → α → List Value → Prop} (hR : KeepR R) {eT : TypeId} {sz : Nat} {mk : Value → Obj} {ci : Nat} (hmk : SetsTo mk ci) {TP : TypeId} {ro : Obj} {w W w4 : World} {g rb bt : Nat} {s : ByteArray} {p p' : PSt} {v : Value} {xs : List α} {i j k : Nat} {t : α} {u : Nat → Value} (h : GSt R eT sz mk TP ro w g rb bt s p v xs W)
  (hA : AppG eT sz bt ci (GP R g W.heap.size s t p' TP W.drew) v xs.length W i j k 4 u w4) (hcs : ∀ S w x cs, R S w x cs → cs.length = sz) (hlen : xs.length + 1 ≤ 1000000) : GSt R eT sz mk TP ro w g rb bt s p' (u k) (xs ++ [t]) w4 := by
 obtain ⟨w1, w3, cs, ⟨cs', he, hO, hP, hG⟩, happ, hg3, hnr, hsz, rfl⟩ := hA
 simp only [Value.agg.injEq] at he
 obtain rfl := he
 obtain ⟨l1, l2, l3, l4⟩ := h.lt
 have hG1 : W.grownBy w1 (some g) := ⟨hG.os, hG.tape, hG.output, hG.size, hG.block⟩
 have hz1 := hG1.size
 obtain ⟨hm, vals, Ss, r1, r2, r3, r4⟩ := h.row
 have hvb : ∀ b, v.ownBlock = some b → rb < b ∧ b ≠ bt ∧ b < W.heap.size := fun b hb => r2 b hb
 have keep : ∀ b, b < W.heap.size → b ≠ g → v.ownBlock ≠ some b → w3.heap[b]? = W.heap[b]? := fun b hb hne hv => (hg3.block b (by omega) (fun e => hv e.symm)).trans (hG1.block b hb (by simpa using hne))
 have nob : ∀ b, (b ≤ rb ∨ b = bt) → v.ownBlock ≠ some b := fun b hb e => by have := hvb b e; omega
 have hrow1 := h.row.mono (S' := fun b => rb < b ∧ b ≠ bt ∧ b < W.heap.size) (w' := w1) (R' := fun S x c => R S w1 x c) (fun b hb hlt => hG1.block b hlt (by simp; omega)) (fun _ h => h)
  (fun S x c _ hS hx => hR _ _ _ _ _ _ (fun b hb hlt => hG1.block b hlt (by have := hS b hb; simp; omega)) (fun _ h => h) hx)
 have hown3 : ∀ b, (u k).ownBlock = some b → b < w3.heap.size := fun b hb => own_lt' (happ 0 vals (own_same r1 fun b' hb' hlt => hG1.block b' hlt (by have := hvb b' hb'; simp; omega)) (Nat.zero_le _)) hb
 have hrow3 := OwnRow.snoc (S' := fun b => rb < b ∧ b ≠ bt ∧ b < w3.heap.size) (R' := fun S x c => R S w3 x c) hrow1 hO (hcs _ _ _ _ hO) (fun vals' hv => happ 0 vals' hv (Nat.zero_le _)) hg3 hnr (by unfold maxLen; omega)
  (fun b hb hS => by omega) (fun b hb => by omega) (fun b hb => hb.2) (fun b hb => by omega) (fun b hb => by omega)
  (fun b hb => ⟨by
   rcases hnr with e | ⟨b', e, hge⟩
   ·rw [e] at hb; exact (hvb b hb).1
   ·rw [e] at hb; injection hb with hb; omega, by
   rcases hnr with e | ⟨b', e, hge⟩
   ·rw [e] at hb; exact (hvb b hb).2.1
   ·rw [e] at hb; injection hb with hb; omega, hown3 b hb⟩)
  (fun S x c hS hx => hR _ _ _ _ _ _ (fun b hb hlt => hg3.block b hlt (fun e => (hS b hb).2 e.symm)) (fun _ h => h) hx)
 have hbt3 : w3.heap[bt]? = some (mk v) := (keep bt l4 (by omega) (nob bt (.inr rfl))).trans h.cell
 refine ⟨?_, ?_, ?_, ?_, ?_, l1, l2, l3, by simp; omega⟩
 ·have h3 : PAt TP w3 g s p' := (hg3.block g (by omega) (fun e => nob g (.inl (by omega)) e.symm)).trans hP
  exact (heap_setCell_other w3 ⟨bt, ci, none⟩ g (u k) (by simp; omega)).trans h3
 ·exact hmk w3 bt v (u k) hbt3
 ·exact (heap_setCell_other w3 ⟨bt, ci, none⟩ rb (u k) (by simp; omega)).trans ((keep rb (by omega) (by omega) (nob rb (.inl (Nat.le_refl _)))).trans h.res)
 ·exact hrow3.mono (fun b hb hlt => heap_setCell_other w3 ⟨bt, ci, none⟩ b (u k) (by simp; omega)) (fun b hb => by simpa using hb)
   (fun S x c _ hS hx => hR _ _ _ _ _ _ (fun b hb hlt => heap_setCell_other w3 ⟨bt, ci, none⟩ b (u k) (by have := hS b hb; simp; omega)) (fun _ h => h) hx)
 ·have h1 := gr_trans h.gr hG1
  have h3 : w.grownBy w3 (some g) := ⟨hg3.os.trans h1.os, hg3.tape.trans h1.tape, hg3.output.trans h1.output, Nat.le_trans h1.size (Nat.le_of_lt (Nat.lt_of_le_of_lt (Nat.le_refl _) hsz)), fun b hb hne => (hg3.block b (Nat.lt_of_lt_of_le hb h1.size) (fun e => nob b (.inl (by omega)) e.symm)).trans (h1.block b hb hne)⟩
  exact gr_sc h3 (.inr (by simp; omega)) _
theorem GSt.reader {α : Type} {R : (Nat → Prop) → World → α → List Value → Prop} (hR : KeepR R) {eT : TypeId} {sz : Nat} {mk : Value → Obj} {TP : TypeId} {ro : Obj} {w W w' : World} {g rb bt : Nat} {s : ByteArray} {p p' : PSt} {v : Value} {xs : List α} (h : GSt R eT sz mk TP ro w g rb bt s p v xs W) (hP : PAt TP w' g s p') (hG : W.grownBy w' (some g)) : GSt R eT sz mk TP ro w g rb bt s p' v xs w' := by
 obtain ⟨l1, l2, l3, l4⟩ := h.lt
 have hz := hG.size
 refine ⟨hP, (hG.block bt l4 (by simp; omega)).trans h.cell, (hG.block rb (by omega) (by simp; omega)).trans h.res, ?_, gr_trans h.gr hG, l1, l2, l3, by omega⟩
 exact h.row.mono (fun b hb hlt => hG.block b hlt (by simp; omega)) (fun b hb => by omega)
  (fun S x c _ hS hx => hR _ _ _ _ _ _ (fun b hb hlt => hG.block b hlt (by have := hS b hb; simp; omega)) (fun _ h => h) hx)
theorem GSt.init {α : Type} {R : (Nat → Prop) → World → α → List Value → Prop} {eT : TypeId} {sz : Nat} {mk : Value → Obj} {TP : TypeId} {ro : Obj} {w w2 : World} {g rb bt : Nat} {s : ByteArray} {p : PSt} (hP : PAt TP w2 g s p) (hc : w2.heap[bt]? = some (mk (.slice none 0 0))) (hr : w2.heap[rb]? = some ro) (hg : w.grownBy w2 (some g)) (hl : g < w.heap.size ∧ w.heap.size ≤ rb ∧ rb < bt) : GSt R eT sz mk TP ro w g rb bt s p (.slice none 0 0) [] w2 :=
 ⟨hP, hc, hr, OwnRow.nil _ _ _ _ _, hg, hl.1, hl.2.1, hl.2.2, heap_lt hc⟩
theorem FmOwn.atom {eT eF : TypeId} {n : Nat} {S : Nat → Prop} {w : World} {t : Fm} {v0 v1 v2 v3 v4 : Value} (h : FmOwn eT eF n S w t [v0, v1, v2, v3, v4]) : TmOwn eT n S w t.a [v1, v2] := by
 cases n with
 | zero => exact h.elim
 | succ n =>
  obtain ⟨op, a, x, ps⟩ := t
  obtain ⟨vn, va, vp, Sa, Sp, h1, h2, h3, h4, h5, h6, h7⟩ := h
  simp only [List.cons.injEq, and_true] at h1
  obtain ⟨-, rfl, rfl, -, rfl⟩ := h1
  exact TmOwn.mono n (n + 1) a _ (by omega) (SameOn.refl _ _) (fun b hb => (h6 b hb).1) h4
theorem rLit_pos (L : List UInt8) (p : PSt) (hp : p.pos ≤ L.length) : p.pos ≤ (rLit L p).2.pos ∧ (rLit L p).2.pos ≤ L.length := by
 rw [rLit]
 split
 ·rename_i h
  have h1 := pTake_le h hp
  have h2 := qAtom_wt L (pAdv sNot p) (by simpa [pAdv] using h1)
  simp only [pAdv] at h2 ⊢; omega
 ·have h2 := qAtom_wt L p hp
  simp only; omega
def LitR (m : Nat) (S : Nat → Prop) (w : World) (l : Lit3) (cs : List Value) : Prop := LitOwn 64 m S w l cs
theorem LitR.keep (m : Nat) : KeepR (LitR m) := fun _ _ _ _ _ _ hs hS h => LitOwn.mono (Nat.le_refl _) hs hS h
theorem LitR.len (m : Nat) : ∀ S w (x : Lit3) cs, LitR m S w x cs → cs.length = 3 := fun S w x cs h => by obtain ⟨_, _, rfl, _⟩ := h; rfl
set_option maxHeartbeats 3200000 in
theorem refLiteral_any (g : Nat) (s : ByteArray) (p : PSt) (w : World) (h : PAt 51 w g s p) (hp : p.pos ≤ s.size) (hs : s.size ≤ 1000000) :
  Calls Tryz.prog 55 #[.pointer (some ⟨g, 0, none⟩)] w fun e w' => ∃ x, e = .returned x ∧ GP (LitR (s.size + 5)) g w.heap.size s (rLit s.data.toList p).1 (rLit s.data.toList p).2 51 w x w' := by
 have H := Lib.hid h
 have hg := bsz h.lt
 obtain ⟨tk, htk⟩ : ∃ tk, pTake s.data.toList sNot p = tk := ⟨_, rfl⟩
 have HTK := Lib.hid htk
 obtain ⟨p1, hp1⟩ : ∃ p1, (if tk = true then pAdv sNot p else p) = p1 := ⟨_, rfl⟩
 have HP1 := Lib.hid hp1
 have hR : p1.pos ≤ s.size ∧ rLit s.data.toList p = (⟨!tk, (qAtom s.data.toList p1).1.a⟩, (qAtom s.data.toList p1).2) := by
  subst hp1 htk
  cases hT : pTake s.data.toList sNot p
  ·exact ⟨hp, by rw [rLit, hT]; rfl⟩
  ·have h1 := pTake_le hT (by rw [← size_list]; exact hp)
   rw [← size_list] at h1
   exact ⟨by simpa [pAdv] using h1, by rw [rLit, hT]; rfl⟩
 have hp1s := hR.1
 have HR := Lib.hid hR.2
 clear h hR hp1 htk
 go_enter Tryz.func55, Tryz.ntmps55
 go_wp2_with fail
 refine (refTake_any g s _ p _ (H.out.below (by exact bel)) hp (by omega) (by decide)).mono ?_
 rw [show (⟨#[105, 116, 32, 105, 115, 32, 110, 111, 116, 32, 116, 104, 101, 32, 99, 97, 115, 101, 32, 116, 104, 97, 116, 32]⟩ : ByteArray).data.toList = sNot from rfl, HTK.out, HP1.out]
 rintro e w1 ⟨_, rfl, rfl, h1, hg1⟩
 have HQ := Lib.hid h1
 have hz1 := hg1.size
 simp at hz1
 have HRO := Lib.hid ((hg1.block w.heap.size (by simp) (by simp; omega)).trans (heap_alloc_new w _))
 have HG1 := Lib.hid (gr_trans (gr_al (gr_refl w g) _) hg1)
 clear h1 hg1
 go_wp2_with fail
 refine (refAtom_any g s p1 _ (PAt.below HQ.out (by exact bel)) hp1s hs).mono ?_
 rintro e w2 ⟨x, rfl, hV, hP2, hg2⟩
 obtain ⟨v0, v1, v2, v3, v4, rfl, hO⟩ := hV
 have hz2 := hg2.size
 have HT := Lib.hid hO.atom
 have HP2 := Lib.hid hP2
 have hro := (hg2.block w.heap.size (by omega) (by simp; omega)).trans HRO.out
 have HG2 := Lib.hid (gr_trans HG1.out hg2)
 obtain ⟨q1, d1, q2, d2, rfl, rfl, rfl, rfl, rfl, -⟩ := hO.form
 have r0 : w2.cell? ⟨w.heap.size, 0, none⟩ = some (.bool false) := by rw [cell_of_row _ _ 0 _ _ (0, 0) hro]; rfl
 have r1 : w2.cell? ⟨w.heap.size, 1, none⟩ = some (.string ⟨#[]⟩) := by rw [cell_of_row _ _ 1 _ _ (0, 0) hro]; rfl
 have r2 : w2.cell? ⟨w.heap.size, 2, none⟩ = some (.slice none 0 0) := by rw [cell_of_row _ _ 2 _ _ (0, 0) hro]; rfl
 have rf : ∀ i, w2.frozen? ⟨w.heap.size, i, none⟩ = false := fun i => frozen_of_row _ _ i _ _ hro
 have hrb := bsz (heap_lt hro)
 clear hO hP2 hg2 hro
 have hfd : ∀ (w : World) (v0 v1 v2 v3 v4 : Value), (Instr.field 67 (.agg #[v0, v1, v2, v3, v4]) 1).run Tryz.prog w = .ok (.agg #[v1, v2]) w := fun _ _ _ _ _ _ => by kernel_rfl
 go_wp2
 refine bodyPost_ret (v := .agg #[.bool (!tk), .string (qAtom s.data.toList p1).1.a.n, .slice q1 (qAtom s.data.toList p1).1.a.us.length d1]) (by simp only [results, Tryz.results55]; go_simp) rfl ⟨_, rfl, ?_⟩
 rw [HR.out]
 have hk : ∀ b, b ≠ w.heap.size → (((w2.setCell ⟨w.heap.size, 0, none⟩ (.bool (!tk))).setCell ⟨w.heap.size, 1, none⟩ (.string (qAtom s.data.toList p1).1.a.n)).setCell ⟨w.heap.size, 2, none⟩ (.slice q1 (qAtom s.data.toList p1).1.a.us.length d1)).heap[b]? = w2.heap[b]? := fun b hb => by
  repeat rw [heap_setCell_other _ _ _ _ (fun e => hb e)]
 refine ⟨_, rfl, ⟨_, _, rfl, TmOwn.mono _ _ _ _ (Nat.le_refl _) (fun b hb _ => hk b (by have := hb.1; omega)) (fun b hb => ?_) HT.out⟩, (hk g (by omega)).trans HP2.out, ?_⟩
 ·have h1 := hb.1
  have h2 := hb.2
  exact ⟨by omega, by simpa using h2⟩
 ·exact gr_sc (gr_sc (gr_sc HG2.out (.inr (Nat.le_refl _)) _) (.inr (Nat.le_refl _)) _) (.inr (Nat.le_refl _)) _
theorem GSt.hand {α : Type} {R : (Nat → Prop) → World → α → List Value → Prop} (hR : KeepR R) {eT : TypeId} {sz : Nat} {mk : Value → Obj} {TP : TypeId} {ro : Obj} {w W : World} {g rb bt : Nat} {s : ByteArray} {p : PSt} {v : Value} {xs : List α} (h : GSt R eT sz mk TP ro w g rb bt s p v xs W) (a : Value) :
  OwnRow (NewB w (W.setCell ⟨rb, 0, none⟩ a)) (W.setCell ⟨rb, 0, none⟩ a) eT sz (fun S x c => R S (W.setCell ⟨rb, 0, none⟩ a) x c) v xs ∧ PAt TP (W.setCell ⟨rb, 0, none⟩ a) g s p ∧ w.grownBy (W.setCell ⟨rb, 0, none⟩ a) (some g) := by
 obtain ⟨l1, l2, l3, l4⟩ := h.lt
 have hk : ∀ b, b ≠ rb → (W.setCell ⟨rb, 0, none⟩ a).heap[b]? = W.heap[b]? := fun b hb => heap_setCell_other W ⟨rb, 0, none⟩ b a (fun e => hb e)
 refine ⟨h.row.mono (fun b hb _ => hk b (by omega)) (fun b hb => ⟨by omega, by simp; omega⟩) (fun S x c _ hS hx => hR _ _ _ _ _ _ (fun b hb _ => hk b (by have := hS b hb; omega)) (fun _ h => h) hx), (hk g (by omega)).trans h.at_, gr_sc h.gr (.inr l2) _⟩
theorem elemLitQ : Elem Tryz.prog 23 81 3 48 := elem_of Tryz.underlying23 (z := .agg #[.bool false, .string ⟨#[]⟩, .slice none 0 0]) (by kernel_rfl) rfl (by omega)
def QClRel (w : World) (g rb bt : Nat) (s : ByteArray) (all : List Lit3) (pe : PSt) (wr : World) : Prop :=
 ∃ (f : Nat) (p : PSt) (v : Value) (xs : List Lit3), GSt (LitR (s.size + 5)) 81 3 (fun v => .cells #[v] 25 (0, 0)) 51 (.cells #[.slice none 0 0] 25 (0, 0)) w g rb bt s p v xs wr ∧ xs ++ (rLits s.data.toList f p).1 = all ∧ (rLits s.data.toList f p).2 = pe ∧ s.size - p.pos < f ∧ p.pos ≤ s.size ∧ xs.length ≤ p.pos
set_option maxHeartbeats 6400000 in
theorem refClause_any (g : Nat) (s : ByteArray) (p : PSt) (w : World) (h : PAt 51 w g s p) (hp : p.pos ≤ s.size) (hs9 : s.size ≤ 900000) :
  Calls Tryz.prog 27 #[.pointer (some ⟨g, 0, none⟩)] w fun e w' => ∃ q k c, e = .returned (.agg #[.slice q k c]) ∧ ClsOwn 64 81 (s.size + 5) (NewB w w') w' (rCls s.data.toList p).1 (.slice q k c) ∧ PAt 51 w' g s (rCls s.data.toList p).2 ∧ w.grownBy w' (some g) := by
 have hg := bsz h.lt
 have hs : s.size ≤ 1000000 := by omega
 have HGL := Lib.hid h.lt
 obtain ⟨W, hW⟩ : ∃ W : World, W = (w.alloc (.cells #[.slice none 0 0] 25)).alloc (.cells #[.slice none 0 0] 25) := ⟨_, rfl⟩
 have HT0 := Lib.hid (show GSt (LitR (s.size + 5)) 81 3 (fun v => .cells #[v] 25 (0, 0)) 51 (.cells #[.slice none 0 0] 25 (0, 0)) w g w.heap.size (w.heap.size + 1) s p (.slice none 0 0) [] W by
  rw [hW]
  refine GSt.init (h.below (by exact bel)) (alloc_new_at (by simp)) ?_ (gr_al (gr_al (gr_refl w g) _) _) ⟨h.lt, Nat.le_refl _, by omega⟩
  exact (hao (w.alloc _) _ _ (by simp)).trans (heap_alloc_new w _))
 clear h
 go_enter Tryz.func27, Tryz.ntmps27
 go_wp2_with fail
 rw [← hW]
 clear hW
 have hlt0 := HT0.out.lt
 cases hT : pTake s.data.toList sContr p
 case true =>
  have HTT := Lib.hid hT
  have HFIN := Lib.hid (show rCls s.data.toList p = ([], pAdv sContr p) by rw [rCls, hT]; rfl)
  refine (refTake_any g s _ p _ (PAt.below HT0.out.at_ (by exact bel)) hp (by omega) (by decide)).mono ?_
  rw [show (⟨#[97, 32, 99, 111, 110, 116, 114, 97, 100, 105, 99, 116, 105, 111, 110]⟩ : ByteArray).data.toList = sContr from rfl, HTT.out]
  rintro e w1 ⟨_, rfl, rfl, h1, hg1⟩
  have HT1 := Lib.hid (HT0.out.reader (LitR.keep _) (p' := pAdv sContr p) h1 hg1)
  clear h1 hg1 hT
  have b0 : w1.cell? ⟨w.heap.size + 1, 0, none⟩ = some (.slice none 0 0) := by rw [cell_of_row _ _ 0 _ _ (0, 0) HT1.out.cell]; rfl
  have bf : ∀ i, w1.frozen? ⟨w.heap.size + 1, i, none⟩ = false := fun i => frozen_of_row _ _ i _ _ HT1.out.cell
  have r0 : w1.cell? ⟨w.heap.size, 0, none⟩ = some (.slice none 0 0) := by rw [cell_of_row _ _ 0 _ _ (0, 0) HT1.out.res]; rfl
  have rf : ∀ i, w1.frozen? ⟨w.heap.size, i, none⟩ = false := fun i => frozen_of_row _ _ i _ _ HT1.out.res
  have hrb := bsz (heap_lt HT1.out.res)
  have hbb := bsz (heap_lt HT1.out.cell)
  go_wp2
  refine bodyPost_ret (v := .agg #[.slice none 0 0]) (by simp only [results, Tryz.results27]; go_simp) rfl ⟨_, _, _, rfl, ?_⟩
  rw [HFIN.out]
  exact GSt.hand (LitR.keep _) HT1.out _
 have HTN := Lib.hid hT
 have HALL := Lib.hid (show rCls s.data.toList p = rLits s.data.toList (s.size + 2) p by rw [rCls, hT, if_neg (by simp), ← size_list])
 clear hT
 refine (refTake_any g s _ p _ (PAt.below HT0.out.at_ (by exact bel)) hp (by omega) (by decide)).mono ?_
 rw [show (⟨#[97, 32, 99, 111, 110, 116, 114, 97, 100, 105, 99, 116, 105, 111, 110]⟩ : ByteArray).data.toList = sContr from rfl, HTN.out]
 rintro e w1 ⟨_, rfl, rfl, h1, hg1⟩
 have HT1 := Lib.hid (HT0.out.reader (LitR.keep _) (p' := p) h1 hg1)
 clear h1 hg1
 go_wp2
 go_loopw [] (QClRel w g w.heap.size (w.heap.size + 1) s (rLits s.data.toList (s.size + 2) p).1 (rLits s.data.toList (s.size + 2) p).2) (fun wr => s.size - posOf wr g)
 case atStart => exact ⟨s.size + 2, p, _, [], HT1.out, rfl, rfl, by omega, hp, Nat.zero_le _⟩
 case round =>
  obtain ⟨f, p', v, xs, hst, hal, hpe, hfu, hpl, hxl⟩ := hrel
  have HTS0 := Lib.hid hst
  have HAL := Lib.hid (And.intro hal hpe)
  have HPO := hst.at_.posOf
  have hlt := hst.lt
  obtain ⟨pv, cv, rfl, -⟩ := hst.row.form
  clear hst hal hpe HT1 HT0 hlt0
  obtain ⟨f', rfl⟩ : ∃ q, f = q + 1 := ⟨f - 1, by omega⟩
  have hg' := bsz HTS0.out.at_.lt
  have HNE := Lib.hid (show w.heap.size + 1 ≠ g by omega)
  have HLEN := Lib.hid (show xs.length + 1 ≤ 1000000 by omega)
  cases hE : pTake s.data.toList sEither p'
  case true =>
   have HE := Lib.hid hE
   have hle := pTake_le hE (by rw [← size_list]; exact hpl)
   rw [← size_list] at hle
   have hl7 : sEither.length = 7 := rfl
   clear hE
   go_wp2_with fail
   refine (refTake_any g s _ p' _ (PAt.below HTS0.out.at_ (by exact bel)) hpl (by omega) (by decide)).mono ?_
   rw [show (⟨#[101, 105, 116, 104, 101, 114, 32]⟩ : ByteArray).data.toList = sEither from rfl, HE.out]
   rintro e w2 ⟨_, rfl, rfl, h2, hg2⟩
   have HTS := Lib.hid (HTS0.out.reader (LitR.keep _) (p' := pAdv sEither p') h2 hg2)
   clear h2 hg2
   obtain ⟨tq, htq⟩ : ∃ tq, (rLit s.data.toList (pAdv sEither p')).1 = tq := ⟨_, rfl⟩
   obtain ⟨pq, hpq⟩ : ∃ pq, (rLit s.data.toList (pAdv sEither p')).2 = pq := ⟨_, rfl⟩
   have HTQ := Lib.hid htq
   have HPQ := Lib.hid hpq
   have HRD := Lib.hid (show (pAdv sEither p').pos ≤ s.size by simp only [pAdv]; omega)
   have HBT := Lib.hid (show w2.cell? ⟨w.heap.size + 1, 0, none⟩ = some (.slice pv xs.length cv) by rw [cell_of_row _ _ 0 _ _ (0, 0) HTS.out.cell]; rfl)
   have hpp := rLit_pos s.data.toList (pAdv sEither p') (by rw [← size_list]; exact HRD.out)
   rw [hpq, ← size_list] at hpp
   have hpm := pMust_pos s.data.toList sOr pq (by rw [← size_list]; exact hpp.2)
   rw [← size_list] at hpm
   have HPP := Lib.hid (show p'.pos + 7 ≤ (pMust s.data.toList sOr pq).pos ∧ (pMust s.data.toList sOr pq).pos ≤ s.size ∧ pq.pos ≤ s.size by simp only [pAdv] at hpp; omega)
   have HSTEP := Lib.hid (show rLits s.data.toList (f' + 1) p' = (tq :: (rLits s.data.toList f' (pMust s.data.toList sOr pq)).1, (rLits s.data.toList f' (pMust s.data.toList sOr pq)).2) by rw [rLits, HE.out, if_pos rfl, htq, hpq])
   clear htq hpq hpp hpm
   go_wp2
   obtain ⟨CP, hCP0⟩ : ∃ CP : Value → World → Prop, CP = GP (LitR (s.size + 5)) g w2.heap.size s tq pq 51 w2.drew := ⟨_, rfl⟩
   have HCP := Lib.hid hCP0
   have HGR := Lib.hid (show ∀ x w', CP x w' → w2.grownBy w' (some g) from by
    rw [hCP0]; rintro x w' ⟨_, _, _, _, hG⟩; exact ⟨hG.os, hG.tape, hG.output, hG.size, hG.block⟩)
   have HAGG := Lib.hid (show ∀ x w', CP x w' → ∃ v0 v1 v2, x = .agg #[v0, v1, v2] ∧ v0.oneCell' = true ∧ v1.oneCell' = true ∧ v2.oneCell' = true from by
    rw [hCP0]; rintro x w' ⟨⟨cs⟩, hx, ⟨u1, u2, hc, hO⟩, _, _⟩
    obtain ⟨pp, cc, rfl, rfl, -⟩ := hO.form
    obtain rfl : cs = _ := hc
    exact ⟨_, _, _, hx, rfl, rfl, rfl⟩)
   clear hCP0
   refine wp_region_stages [some (.pointer (some ⟨(w.heap.size + 1), 0, none⟩)), some (.slice pv xs.length cv), some (.pointer (some ⟨g, 0, none⟩)), none, none, none, some (.pointer (some ⟨(w.heap.size + 1), 0, none⟩)), none] [3, 4, 5, 7] (AppG 81 3 (w.heap.size + 1) 0 CP (.slice pv xs.length cv) xs.length w2 3 4 5) (by kernel_rfl) (by kernel_rfl) (by first | kernel_rfl | rfl) (by rfl) rfl ?_
   refine chain_st rfl rfl (by decide) rfl (by intro j u w' hS; go_simp; first | done | exact ⟨hS, rfl⟩ | exact hS | rfl) ?_
   go_simp
   refine chain_stb (c := 5) 2 rfl rfl (by decide) rfl rfl rfl (by first | kernel_rfl | rfl) ?_ ?_
   ·intro j u w' hj hS
    have hc := AppG.cell HGR.out HBT.out HNE.out hj hS
    go_simp
    first | done | exact ⟨hS, rfl⟩ | exact hS | rfl
   go_simp
   refine chain_st rfl rfl (by decide) rfl (by intro j u w' hS; go_simp; first | done | exact ⟨hS, rfl⟩ | exact hS | rfl) ?_
   go_simp
   refine chain_first rfl rfl rfl (by decide) rfl ?_ ?_
   ·intro w' hS
    obtain rfl : w' = w2.drew := hS
    go_simp
    refine (refLiteral_any g s _ _ (PAt.below HTS.out.at_ (by exact bel)) HRD.out hs).mono ?_
    rintro e w'' ⟨x, he, hx⟩
    rw [HTQ.out, HPQ.out] at hx
    exact ⟨x, he, by show CP (upd _ 3 x 3) w''; rw [upd_same, HCP.out]; exact hx⟩
   intro x
   go_simp
   refine chain_next 0 rfl rfl rfl rfl (by decide) rfl (by first | kernel_rfl | rfl) ?_ ?_
   ·intro w' hS
    have hS : CP (upd _ 3 x 3) w' := hS
    rw [upd_same] at hS
    obtain ⟨v0, v1, v2, rfl, o0, o1, o2⟩ := HAGG.out _ _ hS
    go_simp
    exact ⟨w', #[v0, v1, v2], hS, by rw [upd_same], rfl⟩
   intro y
   go_simp
   refine chain_next 1 rfl rfl rfl rfl (by decide) rfl (by first | kernel_rfl | rfl) ?_ ?_
   ·intro w' hS
    obtain ⟨w1', cs, hcp, hy, rfl⟩ := hS
    rw [upd_same] at hy
    subst hy
    obtain ⟨v0, v1, v2, he, o0, o1, o2⟩ := HAGG.out _ _ hcp
    simp only [Value.agg.injEq] at he
    subst he
    have hG1 := HGR.out _ _ hcp
    obtain ⟨hm, vals, Ss, r1, r2, r3, r4⟩ := HTS.out.row
    have hlt := HTS.out.lt
    have hlen := HLEN.out
    refine each_app1 (.tmp 11) (.tmp 14) _ rfl 0 81 3 48 elemLitQ (.slice pv xs.length cv) _ vals rfl w1' #[v0, v1, v2] rfl rfl (own_same r1 fun b hb hl => hG1.block b hl (by have := r2 b hb; simp; omega)) rfl (by intro u hu; simp at hu; rcases hu with rfl | rfl | rfl <;> assumption) (by omega) (by unfold maxLen; omega) (Nat.zero_le _) ?_
    intro v' w3 happ hg3 hnr hsz
    exact ⟨w1', #[v0, v1, v2], hcp, by rw [upd_same]; exact happ, hg3, by rw [upd_same]; exact hnr, hsz⟩
   intro z
   go_simp
   refine chain_st rfl rfl (by decide) rfl (by intro j u w' hS; go_simp; first | done | exact ⟨hS, rfl⟩ | exact hS | rfl) ?_
   go_simp
   refine chain_next 2 rfl rfl rfl rfl (by decide) rfl (by first | kernel_rfl | rfl) ?_ ?_
   ·intro w' hS
    obtain ⟨w1', cs, hcp, happ, hg3, hnr, hsz⟩ := hS
    rw [upd_same] at happ hnr
    obtain ⟨⟨q', c', rfl⟩, hbt⟩ := HTS.out.three HGR.out hcp happ hg3
    have hcell : w'.cell? ⟨(w.heap.size + 1), 0, none⟩ = some (.slice pv xs.length cv) := by rw [cell_of_row w' _ 0 _ _ (0, 0) hbt]; rfl
    have hfro : w'.frozen? ⟨(w.heap.size + 1), 0, none⟩ = false := frozen_of_row w' _ 0 _ _ hbt
    clear hbt
    go_simp
    refine ⟨w1', w', cs, hcp, ?_, hg3, ?_, hsz, ?_⟩
    ·rw [upd_other _ _ (by decide), upd_same]; exact happ
    ·rw [upd_other _ _ (by decide), upd_same]; exact hnr
    ·rw [upd_other _ _ (by decide), upd_same]
   intro x'
   refine flowU_nil ?_
   intro wz hz
   have HZ := Lib.hid (GSt.app (LitR.keep _) (SetsTo.one _) HTS.out (by have := hz; rw [HCP.out] at this; exact this) (LitR.len _) HLEN.out)
   rw [upd_other _ _ (by decide), upd_same] at HZ
   clear hz
   go_simp
   go_wp2_with fail
   refine (refWant_any g s _ pq _ (PAt.below HZ.out.at_ (by exact bel)) HPP.out.2.2 (by omega) (by decide)).mono ?_
   rw [show (⟨#[32, 111, 114, 32]⟩ : ByteArray).data.toList = sOr from rfl]
   rintro e w5 ⟨_, rfl, rfl, h5, hg5⟩
   have HT5 := Lib.hid (HZ.out.reader (LitR.keep _) (p' := pMust s.data.toList sOr pq) h5 hg5)
   clear h5 hg5
   go_wp2
   have hal := HAL.out
   rw [HSTEP.out] at hal
   have hpp := HPP.out
   refine ⟨⟨f', _, z, xs ++ [tq], HT5.out, by rw [← hal.1]; simp, hal.2, by omega, hpp.2.1, by simp; omega⟩, ?_⟩
   rw [HT5.out.at_.posOf, HPO]
   omega
  case false =>
   have HE := Lib.hid hE
   clear hE
   go_wp2_with fail
   refine (refTake_any g s _ p' _ (PAt.below HTS0.out.at_ (by exact bel)) hpl (by omega) (by decide)).mono ?_
   rw [show (⟨#[101, 105, 116, 104, 101, 114, 32]⟩ : ByteArray).data.toList = sEither from rfl, HE.out]
   rintro e w2 ⟨_, rfl, rfl, h2, hg2⟩
   have HTS := Lib.hid (HTS0.out.reader (LitR.keep _) (p' := p') h2 hg2)
   clear h2 hg2
   obtain ⟨tq, htq⟩ : ∃ tq, (rLit s.data.toList p').1 = tq := ⟨_, rfl⟩
   obtain ⟨pq, hpq⟩ : ∃ pq, (rLit s.data.toList p').2 = pq := ⟨_, rfl⟩
   have HTQ := Lib.hid htq
   have HPQ := Lib.hid hpq
   have HRD := Lib.hid hpl
   have HBT := Lib.hid (show w2.cell? ⟨w.heap.size + 1, 0, none⟩ = some (.slice pv xs.length cv) by rw [cell_of_row _ _ 0 _ _ (0, 0) HTS.out.cell]; rfl)
   have HSTEP := Lib.hid (show rLits s.data.toList (f' + 1) p' = ([tq], pq) by rw [rLits, HE.out, if_neg (by simp), htq, hpq])
   clear htq hpq
   go_wp2
   obtain ⟨CP, hCP0⟩ : ∃ CP : Value → World → Prop, CP = GP (LitR (s.size + 5)) g w2.heap.size s tq pq 51 w2.drew := ⟨_, rfl⟩
   have HCP := Lib.hid hCP0
   have HGR := Lib.hid (show ∀ x w', CP x w' → w2.grownBy w' (some g) from by
    rw [hCP0]; rintro x w' ⟨_, _, _, _, hG⟩; exact ⟨hG.os, hG.tape, hG.output, hG.size, hG.block⟩)
   have HAGG := Lib.hid (show ∀ x w', CP x w' → ∃ v0 v1 v2, x = .agg #[v0, v1, v2] ∧ v0.oneCell' = true ∧ v1.oneCell' = true ∧ v2.oneCell' = true from by
    rw [hCP0]; rintro x w' ⟨⟨cs⟩, hx, ⟨u1, u2, hc, hO⟩, _, _⟩
    obtain ⟨pp, cc, rfl, rfl, -⟩ := hO.form
    obtain rfl : cs = _ := hc
    exact ⟨_, _, _, hx, rfl, rfl, rfl⟩)
   clear hCP0
   refine wp_region_stages [some (.pointer (some ⟨(w.heap.size + 1), 0, none⟩)), some (.slice pv xs.length cv), some (.pointer (some ⟨g, 0, none⟩)), none, none, none, some (.pointer (some ⟨(w.heap.size + 1), 0, none⟩)), none] [3, 4, 5, 7] (AppG 81 3 (w.heap.size + 1) 0 CP (.slice pv xs.length cv) xs.length w2 3 4 5) (by kernel_rfl) (by kernel_rfl) (by first | kernel_rfl | rfl) (by rfl) rfl ?_
   refine chain_st rfl rfl (by decide) rfl (by intro j u w' hS; go_simp; first | done | exact ⟨hS, rfl⟩ | exact hS | rfl) ?_
   go_simp
   refine chain_stb (c := 5) 2 rfl rfl (by decide) rfl rfl rfl (by first | kernel_rfl | rfl) ?_ ?_
   ·intro j u w' hj hS
    have hc := AppG.cell HGR.out HBT.out HNE.out hj hS
    go_simp
    first | done | exact ⟨hS, rfl⟩ | exact hS | rfl
   go_simp
   refine chain_st rfl rfl (by decide) rfl (by intro j u w' hS; go_simp; first | done | exact ⟨hS, rfl⟩ | exact hS | rfl) ?_
   go_simp
   refine chain_first rfl rfl rfl (by decide) rfl ?_ ?_
   ·intro w' hS
    obtain rfl : w' = w2.drew := hS
    go_simp
    refine (refLiteral_any g s _ _ (PAt.below HTS.out.at_ (by exact bel)) HRD.out hs).mono ?_
    rintro e w'' ⟨x, he, hx⟩
    rw [HTQ.out, HPQ.out] at hx
    exact ⟨x, he, by show CP (upd _ 3 x 3) w''; rw [upd_same, HCP.out]; exact hx⟩
   intro x
   go_simp
   refine chain_next 0 rfl rfl rfl rfl (by decide) rfl (by first | kernel_rfl | rfl) ?_ ?_
   ·intro w' hS
    have hS : CP (upd _ 3 x 3) w' := hS
    rw [upd_same] at hS
    obtain ⟨v0, v1, v2, rfl, o0, o1, o2⟩ := HAGG.out _ _ hS
    go_simp
    exact ⟨w', #[v0, v1, v2], hS, by rw [upd_same], rfl⟩
   intro y
   go_simp
   refine chain_next 1 rfl rfl rfl rfl (by decide) rfl (by first | kernel_rfl | rfl) ?_ ?_
   ·intro w' hS
    obtain ⟨w1', cs, hcp, hy, rfl⟩ := hS
    rw [upd_same] at hy
    subst hy
    obtain ⟨v0, v1, v2, he, o0, o1, o2⟩ := HAGG.out _ _ hcp
    simp only [Value.agg.injEq] at he
    subst he
    have hG1 := HGR.out _ _ hcp
    obtain ⟨hm, vals, Ss, r1, r2, r3, r4⟩ := HTS.out.row
    have hlt := HTS.out.lt
    have hlen := HLEN.out
    refine each_app1 (.tmp 20) (.tmp 23) _ rfl 0 81 3 48 elemLitQ (.slice pv xs.length cv) _ vals rfl w1' #[v0, v1, v2] rfl rfl (own_same r1 fun b hb hl => hG1.block b hl (by have := r2 b hb; simp; omega)) rfl (by intro u hu; simp at hu; rcases hu with rfl | rfl | rfl <;> assumption) (by omega) (by unfold maxLen; omega) (Nat.zero_le _) ?_
    intro v' w3 happ hg3 hnr hsz
    exact ⟨w1', #[v0, v1, v2], hcp, by rw [upd_same]; exact happ, hg3, by rw [upd_same]; exact hnr, hsz⟩
   intro z
   go_simp
   refine chain_st rfl rfl (by decide) rfl (by intro j u w' hS; go_simp; first | done | exact ⟨hS, rfl⟩ | exact hS | rfl) ?_
   go_simp
   refine chain_next 2 rfl rfl rfl rfl (by decide) rfl (by first | kernel_rfl | rfl) ?_ ?_
   ·intro w' hS
    obtain ⟨w1', cs, hcp, happ, hg3, hnr, hsz⟩ := hS
    rw [upd_same] at happ hnr
    obtain ⟨⟨q', c', rfl⟩, hbt⟩ := HTS.out.three HGR.out hcp happ hg3
    have hcell : w'.cell? ⟨(w.heap.size + 1), 0, none⟩ = some (.slice pv xs.length cv) := by rw [cell_of_row w' _ 0 _ _ (0, 0) hbt]; rfl
    have hfro : w'.frozen? ⟨(w.heap.size + 1), 0, none⟩ = false := frozen_of_row w' _ 0 _ _ hbt
    clear hbt
    go_simp
    refine ⟨w1', w', cs, hcp, ?_, hg3, ?_, hsz, ?_⟩
    ·rw [upd_other _ _ (by decide), upd_same]; exact happ
    ·rw [upd_other _ _ (by decide), upd_same]; exact hnr
    ·rw [upd_other _ _ (by decide), upd_same]
   intro x'
   refine flowU_nil ?_
   intro wz hz
   have HZ := Lib.hid (GSt.app (LitR.keep _) (SetsTo.one _) HTS.out (by have := hz; rw [HCP.out] at this; exact this) (LitR.len _) HLEN.out)
   rw [upd_other _ _ (by decide), upd_same] at HZ
   clear hz
   go_simp
   obtain ⟨qv, dv, rfl, -⟩ := HZ.out.row.form
   have b0 : wz.cell? ⟨w.heap.size + 1, 0, none⟩ = some (.slice qv (xs ++ [tq]).length dv) := by rw [cell_of_row _ _ 0 _ _ (0, 0) HZ.out.cell]; rfl
   have bf : ∀ i, wz.frozen? ⟨w.heap.size + 1, i, none⟩ = false := fun i => frozen_of_row _ _ i _ _ HZ.out.cell
   have r0 : wz.cell? ⟨w.heap.size, 0, none⟩ = some (.slice none 0 0) := by rw [cell_of_row _ _ 0 _ _ (0, 0) HZ.out.res]; rfl
   have rf : ∀ i, wz.frozen? ⟨w.heap.size, i, none⟩ = false := fun i => frozen_of_row _ _ i _ _ HZ.out.res
   have hrb := bsz (heap_lt HZ.out.res)
   have hbb := bsz (heap_lt HZ.out.cell)
   have hal := HAL.out
   rw [HSTEP.out] at hal
   have HFIN := Lib.hid (show rCls s.data.toList p = (xs ++ [tq], pq) by rw [HALL.out]; exact Prod.ext hal.1.symm hal.2.symm)
   clear hal
   go_wp2
   refine bodyPost_ret (v := .agg #[.slice qv (xs ++ [tq]).length dv]) (by simp only [results, Tryz.results27]; go_simp) rfl ⟨_, _, _, rfl, ?_⟩
   rw [HFIN.out]
   exact GSt.hand (LitR.keep _) HZ.out _
theorem Fm.awt : ∀ f : Fm, f.a.wt ≤ f.wt
 | .mk op a v ps => by show a.wt ≤ _; rw [Fm.wt]; omega
theorem rLit_wt (L : List UInt8) (p : PSt) (hp : p.pos ≤ L.length) : (rLit L p).1.a.wt + p.pos ≤ (rLit L p).2.pos ∧ (rLit L p).2.pos ≤ L.length := by
 rw [rLit]
 split
 ·rename_i h
  have h1 := pTake_le h hp
  have h2 := qAtom_wt L (pAdv sNot p) (by simpa [pAdv] using h1)
  have h3 := (qAtom L (pAdv sNot p)).1.awt
  simp only [pAdv] at h2 h3 ⊢; omega
 ·have h2 := qAtom_wt L p hp
  have h3 := (qAtom L p).1.awt
  simp only; omega
theorem rLits_wt (L : List UInt8) : ∀ (f : Nat) (p : PSt), p.pos ≤ L.length → Cls.wts (rLits L f p).1 + p.pos ≤ (rLits L f p).2.pos ∧ (rLits L f p).2.pos ≤ L.length
 | 0, p, hp => by simp [rLits, Cls.wts, hp]
 | f + 1, p, hp => by
  rw [rLits]
  split
  ·rename_i h
   have h1 := pTake_le h hp
   have h2 := rLit_wt L (pAdv sEither p) (by simpa [pAdv] using h1)
   have h3 := pMust_pos L sOr (rLit L (pAdv sEither p)).2 h2.2
   have h4 := rLits_wt L f (pMust L sOr (rLit L (pAdv sEither p)).2) h3.2
   simp only [Cls.wts, pAdv] at h2 h3 h4 ⊢
   omega
  ·have h2 := rLit_wt L p hp
   simp only [Cls.wts]; omega
theorem rCls_wt (L : List UInt8) (p : PSt) (hp : p.pos ≤ L.length) : Cls.wts (rCls L p).1 + p.pos ≤ (rCls L p).2.pos ∧ (rCls L p).2.pos ≤ L.length := by
 rw [rCls]
 split
 ·rename_i h
  have h1 := pTake_le h hp
  simp only [Cls.wts, pAdv]; omega
 ·exact rLits_wt L _ p hp
end Go.Proofs.YtabkdonplmlbcaaGreatDoor
