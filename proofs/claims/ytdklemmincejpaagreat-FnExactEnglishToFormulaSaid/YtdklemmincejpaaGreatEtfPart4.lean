/- The program's parser reads an equation's English. Conditions: it stands inside its text.
A reader's struct that grows by what the reader reads: the state, and one element more. No conditions; no program is walked.
The program's parser reads a term. Conditions: it stands inside its text.
Formulas that own their memory; rows just made. No conditions; no program is named.
The program's makers of formulas: the negation, the pair, the quantifier, the atom. No conditions.
Where the program's parser of English may stand behind its steps. No conditions; no program is walked.
The program's parser reads an atom's English. Conditions: it stands inside its text. -/
import Derived.Test.YtdklemmincejpaaGreatEtfPart3
namespace Go.Proofs.YtdklemmincejpaaGreat
open Go.RowKit
/-- What a call of the reader leaves: a tree in new memory, its value x. -/
def TermP (T : TypeId) (g lo : Nat) (s : ByteArray) (f : Nat) (t : Tm) (p' : PSt) (TP : TypeId) (W : World) (x : Value) (w : World) : Prop :=
  ∃ v0 v1, x = .agg #[v0, v1] ∧ TmOwn T f (fun b => lo ≤ b ∧ b < w.heap.size) w t [v0, v1] ∧ PAt TP w g s p' ∧ W.grownBy w (some g)
theorem TermP.mono {T TP : TypeId} {g lo f f' : Nat} {s : ByteArray} {t : Tm} {p' : PSt} {W w : World} {x : Value} (hf : f ≤ f') (h : TermP T g lo s f t p' TP W x w) : TermP T g lo s f' t p' TP W x w := by
  obtain ⟨v0, v1, h1, h2, h3⟩ := h
  exact ⟨v0, v1, h1, TmOwn.mono f f' t _ hf (SameOn.refl _ _) (fun _ h => h) h2, h3⟩
/-- The stages of 't.Args = append(t.Args, p.term())': i, j, k, l are the numbers of the call, the slice built, the append, the store. -/
def AppSt (T : TypeId) (g bt : Nat) (CP : Value → World → Prop) (v : Value) (n : Nat) (W : World) (i j k : Nat) : Nat → (Nat → Value) → World → Prop
  | 0, _, w => w = W.drew
  | 1, u, w => CP (u i) w
  | 2, u, w => ∃ w1 v0 v1, CP (.agg #[v0, v1]) w1 ∧ u j = .slice (some ⟨w1.heap.size, 0, none⟩) 1 1 ∧ w = w1.alloc (.cells #[v0, v1] T)
  | 3, u, w => ∃ w1 v0 v1, CP (.agg #[v0, v1]) w1 ∧ (∀ b xs, w1.ownsRow b T 2 v n xs → b ≤ w1.heap.size → w.ownsRow b T 2 (u k) (n + 1) (xs ++ [v0, v1])) ∧ w1.grownBy w v.ownBlock ∧ NewRow v (u k) w1.heap.size ∧ w1.heap.size < w.heap.size
  | 4, u, w => ∃ w1 w3 v0 v1, CP (.agg #[v0, v1]) w1 ∧ (∀ b xs, w1.ownsRow b T 2 v n xs → b ≤ w1.heap.size → w3.ownsRow b T 2 (u k) (n + 1) (xs ++ [v0, v1])) ∧ w1.grownBy w3 v.ownBlock ∧ NewRow v (u k) w1.heap.size ∧ w1.heap.size < w3.heap.size ∧ w = w3.setCell ⟨bt, 1, none⟩ (u k)
  | _, _, _ => False
theorem AppSt.cell {T : TypeId} {g bt n i j k : Nat} {CP : Value → World → Prop} {v v' : Value} {W : World} (hG : ∀ x w', CP x w' → W.grownBy w' (some g)) (hc : W.cell? ⟨bt, 1, none⟩ = some v') (hne : bt ≠ g) {m : Nat} (hm : m ≤ 2) {u : Nat → Value} {w : World} (h : AppSt T g bt CP v n W i j k m u w) : w.cell? ⟨bt, 1, none⟩ = some v' := by
  match m, hm, h with
  | 0, _, h => obtain rfl : w = W.drew := h; exact hc
  | 1, _, h => exact grown_cell (hG _ _ h) hc (by simpa using hne)
  | 2, _, h =>
    obtain ⟨w1, v0, v1, h1, _, rfl⟩ := h
    have h2 := grown_cell (hG _ _ h1) hc (by simpa using hne)
    exact (((Below.refl w1.heap.size w1).alloc (Nat.le_refl _) _).cell (World.block_lt_of_cell? w1 _ h2)).trans h2
/-- The middle of a reading: block rb waits for the result, block bt is the struct in the making (a name, the arguments xs so far), the reader is in state p. -/
structure TSt (T TP : TypeId) (ro : Obj) (w : World) (g rb bt : Nat) (s : ByteArray) (n : List UInt8) (p : PSt) (v : Value) (xs : List Tm) (f : Nat) (W : World) : Prop where
  at_ : PAt TP W g s p
  cell : W.heap[bt]? = some (.cells #[.string ⟨n.toArray⟩, v] T (0, 0))
  res : W.heap[rb]? = some ro
  row : OwnRow (fun b => rb < b ∧ b ≠ bt ∧ b < W.heap.size) W T 2 (fun S x c => TmOwn T f S W x c) v xs
  gr : w.grownBy W (some g)
  lt : g < w.heap.size ∧ w.heap.size ≤ rb ∧ rb < bt ∧ bt < W.heap.size
theorem heap_lt {w : World} {b : Nat} {o : Obj} (h : w.heap[b]? = some o) : b < w.heap.size := by
  rcases Nat.lt_or_ge b w.heap.size with h' | h'
  · exact h'
  · rw [Array.getElem?_eq_none h'] at h; cases h
theorem own_lt' {w : World} {base : Nat} {e : TypeId} {size : Nat} {v : Value} {n : Nat} {xs : List Value} (h : w.ownsRow base e size v n xs) {g : Nat} (hg : v.ownBlock = some g) : g < w.heap.size := by
  rcases h.2 with ⟨rfl, _⟩ | ⟨g', cap, cur, rfl, _, hh, _⟩
  · simp [Value.ownBlock] at hg
  · have : g' = g := by simpa [Value.ownBlock] using hg
    subst this; exact heap_lt hh
theorem elemTmI : Elem Tryz.prog 22 24 2 40 := elem_of Tryz.underlying22 (z := .agg #[.string ⟨#[]⟩, .slice none 0 0]) (by kernel_rfl) rfl (by omega)
theorem TSt.three {T TP : TypeId} {ro : Obj} {w W w' : World} {g rb bt : Nat} {s : ByteArray} {n : List UInt8} {p : PSt} {v z : Value} {xs : List Tm} {f : Nat} {CP : Value → World → Prop} (h : TSt T TP ro w g rb bt s n p v xs f W) (hG : ∀ x w', CP x w' → W.grownBy w' (some g))
    {w1 : World} {v0 v1 x : Value} (hcp : CP x w1) (happ : ∀ b ys, w1.ownsRow b T 2 v xs.length ys → b ≤ w1.heap.size → w'.ownsRow b T 2 z (xs.length + 1) (ys ++ [v0, v1])) (hg3 : w1.grownBy w' v.ownBlock) :
    (∃ q c, z = .slice (some ⟨q, 0, none⟩) (xs.length + 1) c) ∧ w'.heap[bt]? = some (.cells #[.string ⟨n.toArray⟩, v] T (0, 0)) := by
  obtain ⟨l1, l2, l3, l4⟩ := h.lt
  have hG1 := hG _ _ hcp
  have hz1 := hG1.size
  obtain ⟨hm, vals, Ss, r1, r2, r3, r4⟩ := h.row
  have h1 := happ 0 vals (own_same r1 fun b hb hl => hG1.block b hl (by have := r2 b hb; simp; omega)) (Nat.zero_le _)
  refine ⟨own_form h1 (by omega), ?_⟩
  exact (hg3.block bt (by omega) (fun e => (r2 bt e.symm).2.1 rfl)).trans ((hG1.block bt l4 (by simp; omega)).trans h.cell)
theorem TSt.app {T TP : TypeId} {ro : Obj} {w W w4 : World} {g rb bt : Nat} {s : ByteArray} {n : List UInt8} {p p' : PSt} {v : Value} {xs : List Tm} {f i j k : Nat} {t : Tm} {u : Nat → Value} (h : TSt T TP ro w g rb bt s n p v xs f W)
    (hA : AppSt T g bt (TermP T g W.heap.size s f t p' TP W.drew) v xs.length W i j k 4 u w4) (hlen : xs.length + 1 ≤ 1000000) : TSt T TP ro w g rb bt s n p' (u k) (xs ++ [t]) f w4 := by
  obtain ⟨w1, w3, v0, v1, ⟨v0', v1', he, hO, hP, hG⟩, happ, hg3, hnr, hsz, rfl⟩ := hA
  simp only [Value.agg.injEq, Array.mk.injEq, List.cons.injEq, and_true] at he
  obtain ⟨rfl, rfl⟩ := he
  obtain ⟨l1, l2, l3, l4⟩ := h.lt
  have hG1 : W.grownBy w1 (some g) := ⟨hG.os, hG.tape, hG.output, hG.size, hG.block⟩
  have hz1 := hG1.size
  obtain ⟨hm, vals, Ss, r1, r2, r3, r4⟩ := h.row
  have hvb : ∀ b, v.ownBlock = some b → rb < b ∧ b ≠ bt ∧ b < W.heap.size := fun b hb => r2 b hb
  have keep : ∀ b, b < W.heap.size → b ≠ g → v.ownBlock ≠ some b → w3.heap[b]? = W.heap[b]? := fun b hb hne hv => (hg3.block b (by omega) (fun e => hv e.symm)).trans (hG1.block b hb (by simpa using hne))
  have nob : ∀ b, (b ≤ rb ∨ b = bt) → v.ownBlock ≠ some b := fun b hb e => by have := hvb b e; omega
  have hrow1 := h.row.mono (S' := fun b => rb < b ∧ b ≠ bt ∧ b < W.heap.size) (w' := w1) (R' := fun S x c => TmOwn T f S w1 x c) (fun b hb hlt => hG1.block b hlt (by simp; omega)) (fun _ h => h)
    (fun S x c _ hS hx => TmOwn.mono f f x c (Nat.le_refl _) (fun b hb hlt => hG1.block b hlt (by have := hS b hb; simp; omega)) (fun _ h => h) hx)
  have hown3 : ∀ b, (u k).ownBlock = some b → b < w3.heap.size := fun b hb => own_lt' (happ 0 vals (own_same r1 fun b' hb' hlt => hG1.block b' hlt (by have := hvb b' hb'; simp; omega)) (Nat.zero_le _)) hb
  have hrow3 := OwnRow.snoc (S' := fun b => rb < b ∧ b ≠ bt ∧ b < w3.heap.size) (R' := fun S x c => TmOwn T f S w3 x c) hrow1 hO rfl (fun vals' hv => happ 0 vals' hv (Nat.zero_le _)) hg3 hnr (by unfold maxLen; omega)
    (fun b hb hS => by omega) (fun b hb => by omega) (fun b hb => hb.2) (fun b hb => by omega) (fun b hb => by omega)
    (fun b hb => ⟨by
      rcases hnr with e | ⟨b', e, hge⟩
      · rw [e] at hb; exact (hvb b hb).1
      · rw [e] at hb; injection hb with hb; omega, by
      rcases hnr with e | ⟨b', e, hge⟩
      · rw [e] at hb; exact (hvb b hb).2.1
      · rw [e] at hb; injection hb with hb; omega, hown3 b hb⟩)
    (fun S x c hS hx => TmOwn.mono f f x c (Nat.le_refl _) (fun b hb hlt => hg3.block b hlt (fun e => (hS b hb).2 e.symm)) (fun _ h => h) hx)
  have hbt3 : w3.heap[bt]? = some (.cells #[.string ⟨n.toArray⟩, v] T (0, 0)) := (keep bt l4 (by omega) (nob bt (.inr rfl))).trans h.cell
  refine ⟨?_, ?_, ?_, ?_, ?_, l1, l2, l3, by simp; omega⟩
  · have h3 : PAt TP w3 g s p' := (hg3.block g (by omega) (fun e => nob g (.inl (by omega)) e.symm)).trans hP
    exact (heap_setCell_other w3 ⟨bt, 1, none⟩ g (u k) (by simp; omega)).trans h3
  · have := heap_setCell_same w3 bt 1 _ T (u k) hbt3
    simpa using this
  · exact (heap_setCell_other w3 ⟨bt, 1, none⟩ rb (u k) (by simp; omega)).trans ((keep rb (by omega) (by omega) (nob rb (.inl (Nat.le_refl _)))).trans h.res)
  · exact hrow3.mono (fun b hb hlt => heap_setCell_other w3 ⟨bt, 1, none⟩ b (u k) (by simp; omega)) (fun b hb => by simpa using hb)
      (fun S x c _ hS hx => TmOwn.mono f f x c (Nat.le_refl _) (fun b hb hlt => heap_setCell_other w3 ⟨bt, 1, none⟩ b (u k) (by have := hS b hb; simp; omega)) (fun _ h => h) hx)
  · have h1 := gr_trans h.gr hG1
    have h3 : w.grownBy w3 (some g) := ⟨hg3.os.trans h1.os, hg3.tape.trans h1.tape, hg3.output.trans h1.output, Nat.le_trans h1.size (Nat.le_of_lt (Nat.lt_of_le_of_lt (Nat.le_refl _) hsz)), fun b hb hne => (hg3.block b (Nat.lt_of_lt_of_le hb h1.size) (fun e => nob b (.inl (by omega)) e.symm)).trans (h1.block b hb hne)⟩
    exact gr_sc h3 (.inr (by simp; omega)) _
/-- The reader moves on. -/
theorem TSt.reader {T TP : TypeId} {ro : Obj} {w W w' : World} {g rb bt : Nat} {s : ByteArray} {n : List UInt8} {p p' : PSt} {v : Value} {xs : List Tm} {f : Nat} (h : TSt T TP ro w g rb bt s n p v xs f W) (hP : PAt TP w' g s p') (hG : W.grownBy w' (some g)) : TSt T TP ro w g rb bt s n p' v xs f w' := by
  obtain ⟨l1, l2, l3, l4⟩ := h.lt
  have hz := hG.size
  refine ⟨hP, (hG.block bt l4 (by simp; omega)).trans h.cell, (hG.block rb (by omega) (by simp; omega)).trans h.res, ?_, gr_trans h.gr hG, l1, l2, l3, by omega⟩
  exact h.row.mono (fun b hb hlt => hG.block b hlt (by simp; omega)) (fun b hb => by omega)
    (fun S x c _ hS hx => TmOwn.mono f f x c (Nat.le_refl _) (fun b hb hlt => hG.block b hlt (by have := hS b hb; simp; omega)) (fun _ h => h) hx)
theorem cells2_cell {w : World} {g : Nat} {x y : Value} {t : TypeId} (h : w.heap[g]? = some (.cells #[x, y] t (0, 0))) : w.cell? ⟨g, 0, none⟩ = some x ∧ w.cell? ⟨g, 1, none⟩ = some y ∧ (∀ j, w.frozen? ⟨g, j, none⟩ = false) := by
  refine ⟨?_, ?_, fun j => frozen_of_row w g j _ _ h⟩
  · rw [cell_of_row w g 0 _ _ (0, 0) h]; rfl
  · rw [cell_of_row w g 1 _ _ (0, 0) h]; rfl
theorem TSt.init {T TP : TypeId} {w w1 w2 : World} {g : Nat} {s : ByteArray} {n : List UInt8} {p : PSt} {f : Nat} (hg : g < w.heap.size) (hg1 : (w.alloc (.cells #[.string ⟨#[]⟩, .slice none 0 0] T)).grownBy w1 (some g))
    (hg2 : (w1.alloc (.cells #[.string ⟨n.toArray⟩, .slice none 0 0] T)).grownBy w2 (some g)) (hP : PAt TP w2 g s p) : TSt T TP (.cells #[.string ⟨#[]⟩, .slice none 0 0] T (0, 0)) w g w.heap.size w1.heap.size s n p (.slice none 0 0) [] f w2 := by
  have h1 := hg1.size
  have h2 := hg2.size
  simp at h1 h2
  have ha := gr_trans (gr_al (gr_refl w g) _) hg1
  refine ⟨hP, ?_, ?_, OwnRow.nil _ _ _ _ _, gr_trans (gr_al ha _) hg2, hg, Nat.le_refl _, by omega, by omega⟩
  · exact (hg2.block w1.heap.size (by simp) (by simp; omega)).trans (heap_alloc_new w1 _)
  · refine (hg2.block w.heap.size (by simp; omega) (by simp; omega)).trans ((heap_alloc_old w1 _ (by omega)).trans ?_)
    exact (hg1.block w.heap.size (by simp) (by simp; omega)).trans (heap_alloc_new w _)
/-- The struct is handed over. -/
theorem TSt.done {T TP : TypeId} {ro : Obj} {w W : World} {g rb bt : Nat} {s : ByteArray} {n : List UInt8} {p : PSt} {v : Value} {xs : List Tm} {f : Nat} (h : TSt T TP ro w g rb bt s n p v xs f W) (hn : n.length ≤ 1000000) (a b : Value) :
    TermP T g w.heap.size s (f + 1) (.mk ⟨n.toArray⟩ xs) p TP w (.agg #[.string ⟨n.toArray⟩, v]) ((W.setCell ⟨rb, 0, none⟩ a).setCell ⟨rb, 1, none⟩ b) := by
  obtain ⟨l1, l2, l3, l4⟩ := h.lt
  have hk : ∀ c, c ≠ rb → ((W.setCell ⟨rb, 0, none⟩ a).setCell ⟨rb, 1, none⟩ b).heap[c]? = W.heap[c]? := fun c hc => (heap_setCell_other _ ⟨rb, 1, none⟩ c b (fun e => hc e)).trans (heap_setCell_other W ⟨rb, 0, none⟩ c a (fun e => hc e))
  refine ⟨_, _, rfl, ⟨_, rfl, by show n.toArray.size ≤ _; unfold maxLen; simp; omega, ?_⟩, ?_, gr_sc (gr_sc h.gr (.inr l2) _) (.inr l2) _⟩
  · exact h.row.mono (fun c hc _ => hk c (by omega)) (fun c hc => by simp; omega)
      (fun S x c _ hS hx => TmOwn.mono f f x c (Nat.le_refl _) (fun d hd _ => hk d (by have := (hS d hd).1; omega)) (fun _ h => h) hx)
  · exact (hk g (by omega)).trans h.at_
end Go.Proofs.YtdklemmincejpaaGreat
namespace Go.Proofs.YtdklemmincejpaaGreat
open Go.RowKit
def TermC (f : Nat) : Prop := ∀ (g : Nat) (s : ByteArray) (p : PSt) (w : World), PAt 57 w g s p → p.pos ≤ s.size → s.size ≤ 1000000 → s.size - p.pos < f →
    Calls Tryz.prog 103 #[.pointer (some ⟨g, 0, none⟩)] w fun e w' => ∃ x, e = .returned x ∧ TermP 24 g w.heap.size s f (pTerm s.data.toList f p).1 (pTerm s.data.toList f p).2 57 w x w'
/-- Between two arguments: what is still to come, added to what is there, makes the whole. -/
def ArgRel (ro : Obj) (w : World) (g rb bt : Nat) (s : ByteArray) (n : List UInt8) (sep : List UInt8) (f : Nat) (all : List Tm) (pe : PSt) (wr : World) : Prop :=
  ∃ (f' : Nat) (p' : PSt) (v : Value) (xs : List Tm), TSt 24 57 ro w g rb bt s n p' v xs f wr ∧ f' ≤ f ∧ xs ++ (pArgs s.data.toList sep f' p').1 = all ∧ (pArgs s.data.toList sep f' p').2 = pe ∧ s.size - p'.pos < f' ∧ p'.pos ≤ s.size ∧ xs.length ≤ p'.pos
set_option maxRecDepth 100000 in
set_option maxHeartbeats 3200000 in
theorem term_any : ∀ f : Nat, TermC f := by
  intro f
  induction f using Nat.strongRecOn with
  | _ f0 ih =>
    intro g s p w h hp hs hf
    obtain ⟨f, rfl⟩ : ∃ f, f0 = f + 1 := ⟨f0 - 1, by omega⟩
    have IH := Lib.hid ih
    have H := Lib.hid h
    have hg := bsz h.lt
    clear h ih
    go_enter Tryz.func103, Tryz.ntmps103
    go_wp2_with fail
    refine (word_any g s p _ (H.out.below (by (repeat (first | with_reducible exact Below.refl _ _ | with_reducible assumption | with_reducible refine Below.al ?_ _ | with_reducible refine Below.sc ?_ (by first | exact Nat.le_refl _ | (simp; done) | (simp; omega)) _ | assumption | exact Below.refl _ _ | refine Below.dr ?_ | refine Below.drN ?_ _ | refine Below.step ?_ (by assumption))))) hp (by omega)).mono ?_
    rintro e w1 ⟨v, rfl, rfl, h1, hg1⟩
    have ⟨c1, f1⟩ := gcell hg1
    have hz1 := hg1.size
    (try simp at hz1)
    have hw1 := pWord_pos s.data.toList p hp
    have HD := Lib.hid (show pTerm s.data.toList (f + 1) p = _ from rfl)
    rw [← size_list] at hw1
    have hwn := pWord_len s.data.toList p
    rw [← size_list] at hwn
    generalize hpw : pWord s.data.toList p = q at *
    obtain ⟨n, p1⟩ := q
    have HPW := Lib.hid hpw
    have H1 := Lib.hid h1
    clear hpw h1
    simp only at hw1 H1 hwn
    cases hT : pTake s.data.toList [40] p1
    · have HT := Lib.hid hT
      have HFIN := Lib.hid (show pTerm s.data.toList (f + 1) p = (.mk ⟨n.toArray⟩ [], p1) by rw [pTerm, HPW.out, hT]; rfl)
      go_wp2_with fail
      refine (take_any g s ⟨#[40]⟩ p1 _ (H1.out.below (by (repeat (first | with_reducible exact Below.refl _ _ | with_reducible assumption | with_reducible refine Below.al ?_ _ | with_reducible refine Below.sc ?_ (by first | exact Nat.le_refl _ | (simp; done) | (simp; omega)) _ | assumption | exact Below.refl _ _ | refine Below.dr ?_ | refine Below.drN ?_ _ | refine Below.step ?_ (by assumption))))) hw1.2 (by omega) (by decide)).mono ?_
      rw [show (⟨#[40]⟩ : ByteArray).data.toList = [40] from rfl, HT.out]
      rintro e w2 ⟨v, rfl, rfl, h2, hg2⟩
      have HTS : Hid (TSt 24 57 (.cells #[.string ⟨#[]⟩, .slice none 0 0] 24 (0, 0)) w g w.heap.size w1.heap.size s n p1 (.slice none 0 0) [] f w2) := Lib.hid (TSt.init (by omega) hg1 hg2 h2)
      clear h2 hg2
      obtain ⟨b0, b1, -⟩ := cells2_cell HTS.out.cell
      obtain ⟨r0, r1, rf⟩ := cells2_cell HTS.out.res
      go_wp2
      refine bodyPost_ret (v := .agg #[.string ⟨n.toArray⟩, .slice none 0 0]) (by simp only [results, Tryz.results103]; go_simp) rfl ⟨_, rfl, ?_⟩
      rw [HFIN.out]
      exact HTS.out.done (by omega) _ _
    · have HT := Lib.hid hT
      have hle := pTake_le hT (by rw [← size_list]; exact hw1.2)
      go_wp2_with fail
      refine (take_any g s ⟨#[40]⟩ p1 _ (H1.out.below (by (repeat (first | with_reducible exact Below.refl _ _ | with_reducible assumption | with_reducible refine Below.al ?_ _ | with_reducible refine Below.sc ?_ (by first | exact Nat.le_refl _ | (simp; done) | (simp; omega)) _ | assumption | exact Below.refl _ _ | refine Below.dr ?_ | refine Below.drN ?_ _ | refine Below.step ?_ (by assumption))))) hw1.2 (by omega) (by decide)).mono ?_
      rw [show (⟨#[40]⟩ : ByteArray).data.toList = [40] from rfl, HT.out]
      rintro e w2 ⟨v, rfl, rfl, h2, hg2⟩
      have ⟨c2, f2⟩ := gcell hg2
      have hz2 := hg2.size
      (try simp at hz2)
      have HTS : Hid (TSt 24 57 (.cells #[.string ⟨#[]⟩, .slice none 0 0] 24 (0, 0)) w g w.heap.size w1.heap.size s n (pAdv [40] p1) (.slice none 0 0) [] f w2) := Lib.hid (TSt.init (by omega) hg1 hg2 h2)
      have HBT := Lib.hid (show w2.cell? ⟨w1.heap.size, 1, none⟩ = some (.slice none 0 0) by rw [cell_of_row w2 _ 1 _ _ (0, 0) HTS.out.cell]; rfl)
      have HNE := Lib.hid (show w1.heap.size ≠ g by have := HTS.out.lt; omega)
      go_wp2
      obtain ⟨tq, htq⟩ : ∃ tq, (pTerm s.data.toList f (pAdv [40] p1)).1 = tq := ⟨_, rfl⟩
      obtain ⟨pq, hpq⟩ : ∃ pq, (pTerm s.data.toList f (pAdv [40] p1)).2 = pq := ⟨_, rfl⟩
      have HTQ := Lib.hid htq
      have HPQ := Lib.hid hpq
      have HRD := Lib.hid (show (pAdv [40] p1).pos ≤ s.size ∧ s.size - (pAdv [40] p1).pos < f by simp only [pAdv, List.length_cons, List.length_nil]; rw [← size_list] at hle; simp only [List.length_cons, List.length_nil] at hle; omega)
      have HLEN := Lib.hid (show ([] : List Tm).length + 1 ≤ 1000000 by decide)
      have HFIN := Lib.hid (show pTerm s.data.toList (f + 1) p = (.mk ⟨n.toArray⟩ (tq :: (pArgs s.data.toList [44] f pq).1), pMust s.data.toList [41] (pArgs s.data.toList [44] f pq).2) by rw [pTerm, HPW.out, if_pos HT.out, htq, hpq])
      clear htq hpq
      obtain ⟨CP, hCP0⟩ : ∃ CP : Value → World → Prop, CP = TermP 24 g w2.heap.size s f tq pq 57 w2.drew := ⟨_, rfl⟩
      have HCP := Lib.hid hCP0
      have HGR := Lib.hid (show ∀ x w', CP x w' → w2.grownBy w' (some g) from by
        rw [hCP0]; rintro x w' ⟨_, _, _, _, _, hG⟩; exact ⟨hG.os, hG.tape, hG.output, hG.size, hG.block⟩)
      have HAGG := Lib.hid (show ∀ x w', CP x w' → ∃ v0 v1, x = .agg #[v0, v1] ∧ v0.oneCell' = true ∧ v1.oneCell' = true from by
        rw [hCP0]; rintro x w' ⟨v0, v1, hx, hO, _, _⟩
        obtain ⟨pp, cc, rfl, rfl, -⟩ := hO.form
        exact ⟨_, _, hx, rfl, rfl⟩)
      clear hCP0
      refine wp_region_stages [some (.pointer (some ⟨w1.heap.size, 1, none⟩)), some (.slice none 0 0), some (.pointer (some ⟨g, 0, none⟩)), none, none, none, some (.pointer (some ⟨w1.heap.size, 1, none⟩)), none] [3, 4, 5, 7] (AppSt 24 g w1.heap.size CP (.slice none 0 0) 0 w2 3 4 5) (by kernel_rfl) (by kernel_rfl) (by first | kernel_rfl | rfl) (by rfl) rfl ?_
      refine chain_st rfl rfl (by decide) rfl (by intro j u w' hS; go_simp; first | done | exact ⟨hS, rfl⟩ | exact hS | rfl) ?_
      go_simp
      refine chain_stb (c := 5) 2 rfl rfl (by decide) rfl rfl rfl (by first | kernel_rfl | rfl) ?_ ?_
      · intro j u w' hj hS
        have hc := AppSt.cell HGR.out HBT.out HNE.out hj hS
        go_simp
        first | done | exact ⟨hS, rfl⟩ | exact hS | rfl
      go_simp
      refine chain_st rfl rfl (by decide) rfl (by intro j u w' hS; go_simp; first | done | exact ⟨hS, rfl⟩ | exact hS | rfl) ?_
      go_simp
      refine chain_first rfl rfl rfl (by decide) rfl ?_ ?_
      · intro w' hS
        obtain rfl : w' = w2.drew := hS
        go_simp
        refine (IH.out f (by omega) g s _ _ (PAt.below HTS.out.at_ (by (repeat (first | with_reducible exact Below.refl _ _ | with_reducible assumption | with_reducible refine Below.al ?_ _ | with_reducible refine Below.sc ?_ (by first | exact Nat.le_refl _ | (simp; done) | (simp; omega)) _ | assumption | exact Below.refl _ _ | refine Below.dr ?_ | refine Below.drN ?_ _ | refine Below.step ?_ (by assumption))))) HRD.out.1 hs HRD.out.2).mono ?_
        rintro e w'' ⟨x, he, hx⟩
        rw [HTQ.out, HPQ.out] at hx
        exact ⟨x, he, by show CP (upd _ 3 x 3) w''; rw [upd_same, HCP.out]; exact hx.mono (by omega)⟩
      intro x
      go_simp
      refine chain_next 0 rfl rfl rfl rfl (by decide) rfl (by first | kernel_rfl | rfl) ?_ ?_
      · intro w' hS
        have hS : CP (upd _ 3 x 3) w' := hS
        rw [upd_same] at hS
        obtain ⟨v0, v1, rfl, o0, o1⟩ := HAGG.out _ _ hS
        go_simp
        exact ⟨w', v0, v1, hS, by rw [upd_same], rfl⟩
      intro y
      go_simp
      refine chain_next 1 rfl rfl rfl rfl (by decide) rfl (by first | kernel_rfl | rfl) ?_ ?_
      · intro w' hS
        obtain ⟨w1', v0, v1, hcp, hy, rfl⟩ := hS
        rw [upd_same] at hy
        subst hy
        obtain ⟨v0', v1', he, o0, o1⟩ := HAGG.out _ _ hcp
        simp only [Value.agg.injEq, Array.mk.injEq, List.cons.injEq, and_true] at he
        obtain ⟨rfl, rfl⟩ := he
        have hG1 := HGR.out _ _ hcp
        obtain ⟨hm, vals, Ss, r1, r2, r3, r4⟩ := HTS.out.row
        have hlt := HTS.out.lt
        have hlen := HLEN.out
        refine each_app1 (.tmp 10) (.tmp 13) _ rfl 0 24 2 40 elemTmI (.slice none 0 0) _ vals rfl w1' #[v0, v1] rfl rfl (own_same r1 fun b hb hl => hG1.block b hl (by have := r2 b hb; simp; omega)) rfl (by intro u hu; simp at hu; rcases hu with rfl | rfl <;> assumption) (by omega) (by unfold maxLen; omega) (Nat.zero_le _) ?_
        intro v' w3 happ hg3 hnr hsz
        exact ⟨w1', v0, v1, hcp, by rw [upd_same]; exact happ, hg3, by rw [upd_same]; exact hnr, hsz⟩
      intro z
      go_simp
      refine chain_st rfl rfl (by decide) rfl (by intro j u w' hS; go_simp; first | done | exact ⟨hS, rfl⟩ | exact hS | rfl) ?_
      go_simp
      refine chain_next 2 rfl rfl rfl rfl (by decide) rfl (by first | kernel_rfl | rfl) ?_ ?_
      · intro w' hS
        obtain ⟨w1', v0, v1, hcp, happ, hg3, hnr, hsz⟩ := hS
        rw [upd_same] at happ hnr
        obtain ⟨⟨q', c', rfl⟩, hbt⟩ := HTS.out.three HGR.out hcp happ hg3
        have hcell : w'.cell? ⟨w1.heap.size, 1, none⟩ = some (.slice none 0 0) := by rw [cell_of_row w' _ 1 _ _ (0, 0) hbt]; rfl
        have hfro : w'.frozen? ⟨w1.heap.size, 1, none⟩ = false := frozen_of_row w' _ 1 _ _ hbt
        clear hbt
        go_simp
        refine ⟨w1', w', v0, v1, hcp, ?_, hg3, ?_, hsz, ?_⟩
        · rw [upd_other _ _ (by decide), upd_same]; exact happ
        · rw [upd_other _ _ (by decide), upd_same]; exact hnr
        · rw [upd_other _ _ (by decide), upd_same]
      intro x'
      refine flowU_nil ?_
      intro wz hz
      have HZ := Lib.hid (HTS.out.app (by have := hz; rw [HCP.out] at this; exact this) HLEN.out)
      rw [upd_other _ _ (by decide), upd_same] at HZ
      clear hz
      go_simp
      have hpp := pTerm_pos s.data.toList f (pAdv [40] p1) (by rw [← size_list]; exact HRD.out.1)
      rw [HPQ.out, ← size_list] at hpp
      simp only [pAdv, List.length_cons, List.length_nil] at hpp
      have HPP := Lib.hid hpp
      have HRD' := HRD.out
      simp only [pAdv, List.length_cons, List.length_nil] at HRD'
      have HRDX := Lib.hid HRD'
      clear hpp HRD'
      go_wp2
      go_loopw [] (ArgRel (.cells #[.string ⟨#[]⟩, .slice none 0 0] 24 (0, 0)) w g w.heap.size w1.heap.size s n [44] f (tq :: (pArgs s.data.toList [44] f pq).1) (pArgs s.data.toList [44] f pq).2) (fun wr => s.size - posOf wr g)
      case atStart => exact ⟨f, pq, z, [tq], by simpa using HZ.out, Nat.le_refl _, rfl, rfl, by have := HPP.out; have := HRDX.out; omega, HPP.out.2, by have := HPP.out; simp; omega⟩
      case round =>
        obtain ⟨f', p', v, xs, hts, hff, hal, hpe, hfu, hpl, hxl⟩ := hrel
        have HTS0 := Lib.hid hts
        have HAL := Lib.hid (And.intro hal hpe)
        have HPO := hts.at_.posOf
        clear hts hal hpe HTS HBT HNE HTQ HPQ HRD HLEN HZ
        obtain ⟨f'', rfl⟩ : ∃ q, f' = q + 1 := ⟨f' - 1, by omega⟩
        have hg' := bsz HTS0.out.at_.lt
        cases hT2 : pTake s.data.toList [44] p'
        · have HEND := Lib.hid (show pArgs s.data.toList [44] (f'' + 1) p' = ([], p') by rw [pArgs, hT2]; rfl)
          have HT2 := Lib.hid hT2
          go_wp2_with fail
          refine (take_any g s ⟨#[44]⟩ p' _ (PAt.below HTS0.out.at_ (by (repeat (first | with_reducible exact Below.refl _ _ | with_reducible assumption | with_reducible refine Below.al ?_ _ | with_reducible refine Below.sc ?_ (by first | exact Nat.le_refl _ | (simp; done) | (simp; omega)) _ | assumption | exact Below.refl _ _ | refine Below.dr ?_ | refine Below.drN ?_ _ | refine Below.step ?_ (by assumption))))) hpl (by omega) (by decide)).mono ?_
          rw [show (⟨#[44]⟩ : ByteArray).data.toList = [44] from rfl, HT2.out]
          rintro e w3 ⟨_, rfl, rfl, h3, hg3⟩
          have HTS1 := Lib.hid (HTS0.out.reader (p' := p') h3 hg3)
          clear h3 hg3
          go_wp2_with fail
          refine (must_any g s ⟨#[41]⟩ p' _ (PAt.below HTS1.out.at_ (by (repeat (first | with_reducible exact Below.refl _ _ | with_reducible assumption | with_reducible refine Below.al ?_ _ | with_reducible refine Below.sc ?_ (by first | exact Nat.le_refl _ | (simp; done) | (simp; omega)) _ | assumption | exact Below.refl _ _ | refine Below.dr ?_ | refine Below.drN ?_ _ | refine Below.step ?_ (by assumption))))) hpl (by omega) (by decide)).mono ?_
          rw [show (⟨#[41]⟩ : ByteArray).data.toList = [41] from rfl]
          rintro e w4 ⟨_, rfl, rfl, h4, hg4⟩
          have HTS2 := Lib.hid (HTS1.out.reader h4 hg4)
          clear h4 hg4
          obtain ⟨pv, cv, hvv, -⟩ := HTS2.out.row.form
          subst hvv
          obtain ⟨b0, b1, -⟩ := cells2_cell HTS2.out.cell
          obtain ⟨r0, r1, rf⟩ := cells2_cell HTS2.out.res
          go_wp2
          have hal := HAL.out
          rw [HEND.out, List.append_nil] at hal
          refine bodyPost_ret (v := .agg #[.string ⟨n.toArray⟩, .slice pv xs.length cv]) (by simp only [results, Tryz.results103]; go_simp) rfl ⟨_, rfl, ?_⟩
          rw [HFIN.out, ← hal.1, ← hal.2]
          exact HTS2.out.done (by omega) _ _
        · have HT2 := Lib.hid hT2
          have hle2 := pTake_le hT2 (by rw [← size_list]; exact hpl)
          rw [← size_list] at hle2
          simp only [List.length_cons, List.length_nil] at hle2
          go_wp2_with fail
          refine (take_any g s ⟨#[44]⟩ p' _ (PAt.below HTS0.out.at_ (by (repeat (first | with_reducible exact Below.refl _ _ | with_reducible assumption | with_reducible refine Below.al ?_ _ | with_reducible refine Below.sc ?_ (by first | exact Nat.le_refl _ | (simp; done) | (simp; omega)) _ | assumption | exact Below.refl _ _ | refine Below.dr ?_ | refine Below.drN ?_ _ | refine Below.step ?_ (by assumption))))) hpl (by omega) (by decide)).mono ?_
          rw [show (⟨#[44]⟩ : ByteArray).data.toList = [44] from rfl, HT2.out]
          rintro e w3 ⟨_, rfl, rfl, h3, hg3⟩
          have HTS := Lib.hid (HTS0.out.reader (p' := pAdv [44] p') h3 hg3)
          clear h3 hg3
          have HBT := Lib.hid (show w3.cell? ⟨w1.heap.size, 1, none⟩ = some v from (cells2_cell HTS.out.cell).2.1)
          have HNE := Lib.hid (show w1.heap.size ≠ g by have := HTS.out.lt; omega)
          go_wp2
          obtain ⟨tq, htq⟩ : ∃ tq, (pTerm s.data.toList f'' (pAdv [44] p')).1 = tq := ⟨_, rfl⟩
          obtain ⟨pq, hpq⟩ : ∃ pq, (pTerm s.data.toList f'' (pAdv [44] p')).2 = pq := ⟨_, rfl⟩
          have HTQ := Lib.hid htq
          have HPQ := Lib.hid hpq
          have HRD := Lib.hid (show (pAdv [44] p').pos ≤ s.size ∧ s.size - (pAdv [44] p').pos < f'' by simp only [pAdv, List.length_cons, List.length_nil]; omega)
          have HLEN := Lib.hid (show xs.length + 1 ≤ 1000000 by omega)
          have HSTEP := Lib.hid (show pArgs s.data.toList [44] (f'' + 1) p' = (tq :: (pArgs s.data.toList [44] f'' pq).1, (pArgs s.data.toList [44] f'' pq).2) by rw [pArgs, if_pos HT2.out, htq, hpq])
          clear htq hpq
          obtain ⟨CP, hCP0⟩ : ∃ CP : Value → World → Prop, CP = TermP 24 g w3.heap.size s f tq pq 57 w3.drew := ⟨_, rfl⟩
          have HCP := Lib.hid hCP0
          have HGR := Lib.hid (show ∀ x w', CP x w' → w3.grownBy w' (some g) from by
            rw [hCP0]; rintro x w' ⟨_, _, _, _, _, hG⟩; exact ⟨hG.os, hG.tape, hG.output, hG.size, hG.block⟩)
          have HAGG := Lib.hid (show ∀ x w', CP x w' → ∃ v0 v1, x = .agg #[v0, v1] ∧ v0.oneCell' = true ∧ v1.oneCell' = true from by
            rw [hCP0]; rintro x w' ⟨v0, v1, hx, hO, _, _⟩
            obtain ⟨pp, cc, rfl, rfl, -⟩ := hO.form
            exact ⟨_, _, hx, rfl, rfl⟩)
          clear hCP0
          refine wp_region_stages [some (.pointer (some ⟨w1.heap.size, 1, none⟩)), some v, some (.pointer (some ⟨g, 0, none⟩)), none, none, none, some (.pointer (some ⟨w1.heap.size, 1, none⟩)), none] [3, 4, 5, 7] (AppSt 24 g w1.heap.size CP v xs.length w3 3 4 5) (by kernel_rfl) (by kernel_rfl) (by first | kernel_rfl | rfl) (by rfl) rfl ?_
          refine chain_st rfl rfl (by decide) rfl (by intro j u w' hS; go_simp; first | done | exact ⟨hS, rfl⟩ | exact hS | rfl) ?_
          go_simp
          refine chain_stb (c := 5) 2 rfl rfl (by decide) rfl rfl rfl (by first | kernel_rfl | rfl) ?_ ?_
          · intro j u w' hj hS
            have hc := AppSt.cell HGR.out HBT.out HNE.out hj hS
            go_simp
            first | done | exact ⟨hS, rfl⟩ | exact hS | rfl
          go_simp
          refine chain_st rfl rfl (by decide) rfl (by intro j u w' hS; go_simp; first | done | exact ⟨hS, rfl⟩ | exact hS | rfl) ?_
          go_simp
          refine chain_first rfl rfl rfl (by decide) rfl ?_ ?_
          · intro w' hS
            obtain rfl : w' = w3.drew := hS
            go_simp
            refine (IH.out f'' (by omega) g s _ _ (PAt.below HTS.out.at_ (by (repeat (first | with_reducible exact Below.refl _ _ | with_reducible assumption | with_reducible refine Below.al ?_ _ | with_reducible refine Below.sc ?_ (by first | exact Nat.le_refl _ | (simp; done) | (simp; omega)) _ | assumption | exact Below.refl _ _ | refine Below.dr ?_ | refine Below.drN ?_ _ | refine Below.step ?_ (by assumption))))) HRD.out.1 hs HRD.out.2).mono ?_
            rintro e w'' ⟨x, he, hx⟩
            rw [HTQ.out, HPQ.out] at hx
            exact ⟨x, he, by show CP (upd _ 3 x 3) w''; rw [upd_same, HCP.out]; exact hx.mono (by omega)⟩
          intro x
          go_simp
          refine chain_next 0 rfl rfl rfl rfl (by decide) rfl (by first | kernel_rfl | rfl) ?_ ?_
          · intro w' hS
            have hS : CP (upd _ 3 x 3) w' := hS
            rw [upd_same] at hS
            obtain ⟨v0, v1, rfl, o0, o1⟩ := HAGG.out _ _ hS
            go_simp
            exact ⟨w', v0, v1, hS, by rw [upd_same], rfl⟩
          intro y
          go_simp
          refine chain_next 1 rfl rfl rfl rfl (by decide) rfl (by first | kernel_rfl | rfl) ?_ ?_
          · intro w' hS
            obtain ⟨w1', v0, v1, hcp, hy, rfl⟩ := hS
            rw [upd_same] at hy
            subst hy
            obtain ⟨v0', v1', he, o0, o1⟩ := HAGG.out _ _ hcp
            simp only [Value.agg.injEq, Array.mk.injEq, List.cons.injEq, and_true] at he
            obtain ⟨rfl, rfl⟩ := he
            have hG1 := HGR.out _ _ hcp
            obtain ⟨hm, vals, Ss, r1, r2, r3, r4⟩ := HTS.out.row
            have hlt := HTS.out.lt
            have hlen := HLEN.out
            refine each_app1 (.tmp 19) (.tmp 22) _ rfl 0 24 2 40 elemTmI v _ vals rfl w1' #[v0, v1] rfl rfl (own_same r1 fun b hb hl => hG1.block b hl (by have := r2 b hb; simp; omega)) rfl (by intro u hu; simp at hu; rcases hu with rfl | rfl <;> assumption) (by omega) (by unfold maxLen; omega) (Nat.zero_le _) ?_
            intro v' w3 happ hg3 hnr hsz
            exact ⟨w1', v0, v1, hcp, by rw [upd_same]; exact happ, hg3, by rw [upd_same]; exact hnr, hsz⟩
          intro z
          go_simp
          refine chain_st rfl rfl (by decide) rfl (by intro j u w' hS; go_simp; first | done | exact ⟨hS, rfl⟩ | exact hS | rfl) ?_
          go_simp
          refine chain_next 2 rfl rfl rfl rfl (by decide) rfl (by first | kernel_rfl | rfl) ?_ ?_
          · intro w' hS
            obtain ⟨w1', v0, v1, hcp, happ, hg3, hnr, hsz⟩ := hS
            rw [upd_same] at happ hnr
            obtain ⟨⟨q', c', rfl⟩, hbt⟩ := HTS.out.three HGR.out hcp happ hg3
            have hcell : w'.cell? ⟨w1.heap.size, 1, none⟩ = some v := by rw [cell_of_row w' _ 1 _ _ (0, 0) hbt]; rfl
            have hfro : w'.frozen? ⟨w1.heap.size, 1, none⟩ = false := frozen_of_row w' _ 1 _ _ hbt
            clear hbt
            go_simp
            refine ⟨w1', w', v0, v1, hcp, ?_, hg3, ?_, hsz, ?_⟩
            · rw [upd_other _ _ (by decide), upd_same]; exact happ
            · rw [upd_other _ _ (by decide), upd_same]; exact hnr
            · rw [upd_other _ _ (by decide), upd_same]
          intro x'
          refine flowU_nil ?_
          intro wz hz
          have HZ := Lib.hid (HTS.out.app (by have := hz; rw [HCP.out] at this; exact this) HLEN.out)
          rw [upd_other _ _ (by decide), upd_same] at HZ
          clear hz
          go_simp
          go_wp2
          have hpp := pTerm_pos s.data.toList f'' (pAdv [44] p') (by rw [← size_list]; exact HRD.out.1)
          rw [HPQ.out, ← size_list] at hpp
          simp only [pAdv, List.length_cons, List.length_nil] at hpp
          have hal := HAL.out
          rw [HSTEP.out] at hal
          refine ⟨⟨f'', pq, z, xs ++ [tq], HZ.out, by omega, by rw [← hal.1]; simp, hal.2, by omega, hpp.2, by simp; omega⟩, ?_⟩
          rw [HZ.out.at_.posOf, HPO]
          omega
end Go.Proofs.YtdklemmincejpaaGreat
namespace Go.Proofs.YtdklemmincejpaaGreat
open Go.RowKit
def FmOwn (eT eF : TypeId) : Nat → (Nat → Prop) → World → Fm → List Value → Prop
  | 0, _, _, _, _ => False
  | n + 1, S, w, .mk op a x ps, cs => ∃ (vn va vp : Value) (Sa Sp : Nat → Prop), cs = [.int .i64 op, vn, va, .string x, vp] ∧ (-9223372036854775808 ≤ op ∧ op ≤ 9223372036854775807) ∧ x.size ≤ maxLen ∧ TmOwn eT n Sa w a [vn, va] ∧
      OwnRow Sp w eF 5 (fun T f c => FmOwn eT eF n T w f c) vp ps ∧ (∀ b, Sa b → S b ∧ ¬ Sp b) ∧ ∀ b, Sp b → S b
theorem FmOwn.mono {eT eF : TypeId} : ∀ (n m : Nat) {S S' : Nat → Prop} {w w' : World} (t : Fm) (cs : List Value), n ≤ m → SameOn S w w' → (∀ b, S b → S' b) → FmOwn eT eF n S w t cs → FmOwn eT eF m S' w' t cs
  | 0, _, _, _, _, _, _, _, _, _, _, h => h.elim
  | n + 1, 0, _, _, _, _, _, _, hm, _, _, _ => by omega
  | n + 1, m + 1, S, S', w, w', .mk op a x ps, cs, hm, hs, hS, h => by
    obtain ⟨vn, va, vp, Sa, Sp, h1, h2, h3, h4, h5, h6, h7⟩ := h
    exact ⟨vn, va, vp, Sa, Sp, h1, h2, h3, TmOwn.mono n m a _ (by omega) (fun b hb hlt => hs b (h6 b hb).1 hlt) (fun _ h => h) h4,
      h5.mono (fun b hb hlt => hs b (h7 b hb) hlt) (fun _ h => h) (fun T y c _ hT hy => FmOwn.mono n m y c (by omega) (fun b hb hlt => hs b (h7 b (hT b hb)) hlt) (fun _ h => h) hy), fun b hb => ⟨hS b (h6 b hb).1, (h6 b hb).2⟩, fun b hb => hS b (h7 b hb)⟩
theorem FmOwn.at_ {eT eF : TypeId} : ∀ (n : Nat) {S : Nat → Prop} {w : World} (t : Fm) (cs : List Value), FmOwn eT eF n S w t cs → FmAt S n w t cs
  | 0, _, _, _, _, h => h.elim
  | n + 1, S, w, .mk op a x ps, cs, h => by
    obtain ⟨vn, va, vp, Sa, Sp, h1, h2, h3, h4, h5, h6, h7⟩ := h
    exact ⟨vn, va, vp, h1, h2, h3, TmAt.mono (SameOn.refl _ _) (fun b hb => (h6 b hb).1) n n a _ (Nat.le_refl _) (TmOwn.at_ n a _ h4),
      ListAt.mono (h5.listAt (R' := FmAt S n w) (by omega) fun T y c _ hT hy => FmAt.mono (SameOn.refl _ _) (fun b hb => h7 b (hT b hb)) n n y c (Nat.le_refl _) (FmOwn.at_ n y c hy)) (SameOn.refl _ _) h7 (fun _ _ _ h => h)⟩
theorem FmOwn.form {eT eF : TypeId} {n : Nat} {S : Nat → Prop} {w : World} {t : Fm} {v0 v1 v2 v3 v4 : Value} (h : FmOwn eT eF n S w t [v0, v1, v2, v3, v4]) : ∃ p c q d, v0 = .int .i64 t.op ∧ v1 = .string t.a.n ∧ v2 = .slice p t.a.us.length c ∧ v3 = .string t.v ∧ v4 = .slice q t.ps.length d ∧ (-9223372036854775808 ≤ t.op ∧ t.op ≤ 9223372036854775807) ∧ t.a.n.size ≤ maxLen ∧ t.a.us.length ≤ maxLen ∧ t.v.size ≤ maxLen ∧ t.ps.length ≤ maxLen := (FmOwn.at_ n t _ h).form
theorem row_new (w : World) (e : TypeId) (size n : Nat) (cur : Array Value) (hc : cur.size = n * size) (hn : n ≤ maxLen) : (w.alloc (.cells cur e)).ownsRow 0 e size (.slice (some ⟨w.heap.size, 0, none⟩) n n) n cur.toList :=
  ⟨by simpa using hc, .inr ⟨w.heap.size, n, cur, rfl, Nat.zero_le _, heap_alloc_new w _, Nat.le_refl _, hn, hc, by rw [List.take_of_length_le]; simp; omega⟩⟩
theorem OwnRow.one {α : Type} {S S' : Nat → Prop} {w : World} {e : TypeId} {size : Nat} {R : (Nat → Prop) → α → List Value → Prop} {x : α} (cs : Array Value) (hc : cs.size = size) (hR : R S x cs.toList) (hS : ∀ b, S b → b < w.heap.size) (h1 : ∀ b, S b → S' b) (h2 : S' w.heap.size) :
    OwnRow S' (w.alloc (.cells cs e)) e size R (.slice (some ⟨w.heap.size, 0, none⟩) 1 1) [x] := by
  refine ⟨by simp [maxLen], cs.toList, fun _ => S, row_new w e size 1 cs (by omega) (by simp [maxLen]), fun g hg => ?_, fun i y hy => ?_, fun i j b hi hj hij => ?_⟩
  · have : w.heap.size = g := by simpa [Value.ownBlock] using hg
    rw [← this]; exact h2
  · have hi : i < 1 := by have := (List.getElem?_eq_some_iff.1 hy).1; simpa using this
    obtain rfl : i = 0 := by omega
    obtain rfl : x = y := by simpa using hy
    rw [Nat.zero_mul, List.drop_zero, List.take_of_length_le (by simp; omega)]
    exact ⟨hR, fun b hb => ⟨h1 b hb, fun hv => by have : w.heap.size = b := by simpa [Value.ownBlock] using hv
                                                  have := hS b hb; omega⟩⟩
  · simp at hi hj; omega
theorem OwnRow.two {α : Type} {S T S' : Nat → Prop} {w : World} {e : TypeId} {size : Nat} {R : (Nat → Prop) → α → List Value → Prop} {x y : α} (cs ds : List Value) (hc : cs.length = size) (hd : ds.length = size) (hR : R S x cs) (hR2 : R T y ds) (hS : ∀ b, S b → b < w.heap.size) (hT : ∀ b, T b → b < w.heap.size) (hST : ∀ b, S b → ¬ T b)
    (h1 : ∀ b, S b → S' b) (h3 : ∀ b, T b → S' b) (h2 : S' w.heap.size) : OwnRow S' (w.alloc (.cells (cs ++ ds).toArray e)) e size R (.slice (some ⟨w.heap.size, 0, none⟩) 2 2) [x, y] := by
  refine ⟨by simp [maxLen], cs ++ ds, fun i => if i = 0 then S else T, by simpa using row_new w e size 2 (cs ++ ds).toArray (by simp; omega) (by simp [maxLen]), fun g hg => ?_, fun i z hz => ?_, fun i j b hi hj hij hb => ?_⟩
  · have : w.heap.size = g := by simpa [Value.ownBlock] using hg
    rw [← this]; exact h2
  · have hi : i < 2 := by have := (List.getElem?_eq_some_iff.1 hz).1; simpa using this
    match i, hi with
    | 0, _ =>
      obtain rfl : x = z := by simpa using hz
      rw [Nat.zero_mul, List.drop_zero, List.take_append_of_le_length (by omega), List.take_of_length_le (by omega)]
      exact ⟨hR, fun b hb => ⟨h1 b hb, fun hv => by
        have e1 : w.heap.size = b := by simpa [Value.ownBlock] using hv
        have := hS b hb; omega⟩⟩
    | 1, _ =>
      obtain rfl : y = z := by simpa using hz
      rw [Nat.one_mul, List.drop_left' hc, List.take_of_length_le (by omega)]
      exact ⟨hR2, fun b hb => ⟨h3 b hb, fun hv => by
        have e1 : w.heap.size = b := by simpa [Value.ownBlock] using hv
        have := hT b hb; omega⟩⟩
  · simp only [List.length_cons, List.length_nil] at hi hj
    change (if i = 0 then S else T) b at hb
    show ¬ (if j = 0 then S else T) b
    match i, j, hij with
    | 0, 1, _ => exact hST b hb
    | 1, 0, _ => exact fun h => hST b h hb
    | 0, 0, h => exact absurd rfl h
    | 1, 1, h => exact absurd rfl h
    | i + 2, _, _ => omega
    | _, j + 2, _ => omega
theorem OwnRow.one' {α : Type} {S S' : Nat → Prop} {w : World} {e : TypeId} {size k : Nat} {R : (Nat → Prop) → α → List Value → Prop} {x : α} (hk : w.heap.size = k) (cs : Array Value) (hc : cs.size = size) (hR : R S x cs.toList) (hS : ∀ b, S b → b < k) (h1 : ∀ b, S b → S' b) (h2 : S' k) :
    OwnRow S' (w.alloc (.cells cs e)) e size R (.slice (some ⟨k, 0, none⟩) 1 1) [x] := by subst hk; exact OwnRow.one cs hc hR hS h1 h2
theorem OwnRow.two' {α : Type} {S T S' : Nat → Prop} {w : World} {e : TypeId} {size k : Nat} {R : (Nat → Prop) → α → List Value → Prop} {x y : α} (hk : w.heap.size = k) (cs ds : List Value) (all : Array Value) (hall : all = (cs ++ ds).toArray) (hc : cs.length = size) (hd : ds.length = size) (hR : R S x cs) (hR2 : R T y ds) (hS : ∀ b, S b → b < k) (hT : ∀ b, T b → b < k) (hST : ∀ b, S b → ¬ T b)
    (h1 : ∀ b, S b → S' b) (h3 : ∀ b, T b → S' b) (h2 : S' k) : OwnRow S' (w.alloc (.cells all e)) e size R (.slice (some ⟨k, 0, none⟩) 2 2) [x, y] := by subst hk hall; exact OwnRow.two cs ds hc hd hR hR2 hS hT hST h1 h3 h2
theorem FmOwn.later {eT eF : TypeId} {n : Nat} {S : Nat → Prop} {w w' : World} {t : Fm} {cs : List Value} (hb : Below w.heap.size w w') (h : FmOwn eT eF n S w t cs) : FmOwn eT eF n S w' t cs := FmOwn.mono n n t cs (Nat.le_refl _) (SameOn.below hb) (fun _ h => h) h
end Go.Proofs.YtdklemmincejpaaGreat
namespace Go.Proofs.YtdklemmincejpaaGreat
open Go.RowKit
/-- A formula that owns its memory, as one value. -/
def FmV (m : Nat) (S : Nat → Prop) (w : World) (t : Fm) (x : Value) : Prop := ∃ v0 v1 v2 v3 v4, x = .agg #[v0, v1, v2, v3, v4] ∧ FmOwn 24 27 m S w t [v0, v1, v2, v3, v4]
def NewB (w w' : World) (b : Nat) : Prop := w.heap.size ≤ b ∧ b < w'.heap.size
theorem opF_own {m : Nat} {S : Nat → Prop} {w : World} {op : Int} {ps : List Fm} {vp : Value} (ho : -9223372036854775808 ≤ op ∧ op ≤ 9223372036854775807) (h : OwnRow S w 27 5 (fun T f c => FmOwn 24 27 (m + 1) T w f c) vp ps) :
    FmOwn 24 27 (m + 2) S w (opF op ps) [.int .i64 op, .string ⟨#[]⟩, .slice none 0 0, .string ⟨#[]⟩, vp] :=
  ⟨_, _, _, fun _ => False, S, rfl, ho, Nat.zero_le _, ⟨_, rfl, Nat.zero_le _, OwnRow.nil _ _ _ _ _⟩, h, fun _ h => h.elim, fun _ h => h⟩
set_option maxRecDepth 100000 in
set_option maxHeartbeats 800000 in
theorem not_any (m : Nat) (S : Nat → Prop) (t : Fm) (x : Value) (w : World) (h : FmV (m + 1) S w t x) (hS : ∀ b, S b → b < w.heap.size) :
    Calls Tryz.prog 62 #[x] w fun e w' => ∃ y, e = .returned y ∧ FmV (m + 2) (fun b => S b ∨ NewB w w' b) w' (opF 4 [t]) y ∧ Below w.heap.size w w' := by
  obtain ⟨v0, v1, v2, v3, v4, rfl, hf⟩ := h
  obtain ⟨p, c, q, d, rfl, rfl, rfl, rfl, rfl, -⟩ := hf.form
  have HF := Lib.hid (And.intro hf hS)
  clear hf hS
  go_enter Tryz.func62, Tryz.ntmps62
  go_wp2
  refine bodyPost_ret (v := .agg #[.int .i64 4, .string ⟨#[]⟩, .slice none 0 0, .string ⟨#[]⟩, .slice (some ⟨w.heap.size + 1 + 1, 0, none⟩) 1 1]) (by simp only [results, Tryz.results62]; go_simp) rfl ⟨_, rfl, ⟨_, _, _, _, _, rfl, opF_own (by omega) ?_⟩, by (repeat (first | with_reducible exact Below.refl _ _ | with_reducible assumption | with_reducible refine Below.al ?_ _ | with_reducible refine Below.sc ?_ (by first | exact Nat.le_refl _ | (simp; done) | (simp; omega)) _ | assumption | exact Below.refl _ _ | refine Below.dr ?_ | refine Below.drN ?_ _ | refine Below.step ?_ (by assumption)))⟩
  exact OwnRow.one' (S := S) (by simp) _ rfl (HF.out.1.later (by (repeat (first | with_reducible exact Below.refl _ _ | with_reducible assumption | with_reducible refine Below.al ?_ _ | with_reducible refine Below.sc ?_ (by first | exact Nat.le_refl _ | (simp; done) | (simp; omega)) _ | assumption | exact Below.refl _ _ | refine Below.dr ?_ | refine Below.drN ?_ _ | refine Below.step ?_ (by assumption))))) (fun b hb => by have := HF.out.2 b hb; omega) (fun b hb => .inl hb) (.inr ⟨by omega, by simp⟩)
set_option maxRecDepth 100000 in
set_option maxHeartbeats 800000 in
theorem binary_any (m : Nat) (op : Int) (ho : -9223372036854775808 ≤ op ∧ op ≤ 9223372036854775807) (S T : Nat → Prop) (t r : Fm) (x y : Value) (w : World) (h : FmV (m + 1) S w t x) (h' : FmV (m + 1) T w r y) (hS : ∀ b, S b → b < w.heap.size) (hT : ∀ b, T b → b < w.heap.size) (hST : ∀ b, S b → ¬ T b) :
    Calls Tryz.prog 99 #[.int .i64 op, x, y] w fun e w' => ∃ z, e = .returned z ∧ FmV (m + 2) (fun b => S b ∨ T b ∨ NewB w w' b) w' (opF op [t, r]) z ∧ Below w.heap.size w w' := by
  obtain ⟨v0, v1, v2, v3, v4, rfl, hf⟩ := h
  obtain ⟨p, c, q, d, rfl, rfl, rfl, rfl, rfl, -⟩ := hf.form
  obtain ⟨u0, u1, u2, u3, u4, rfl, hf'⟩ := h'
  obtain ⟨p', c', q', d', rfl, rfl, rfl, rfl, rfl, -⟩ := hf'.form
  have HF := Lib.hid (And.intro hf (And.intro hf' (And.intro hS (And.intro hT hST))))
  clear hf hS hf' hT hST
  go_enter Tryz.func99, Tryz.ntmps99
  go_wp2
  refine bodyPost_ret (v := .agg #[.int .i64 op, .string ⟨#[]⟩, .slice none 0 0, .string ⟨#[]⟩, .slice (some ⟨w.heap.size + 1 + 1 + 1, 0, none⟩) 2 2]) (by simp only [results, Tryz.results99]; go_simp) rfl ⟨_, rfl, ⟨_, _, _, _, _, rfl, opF_own ho ?_⟩, by (repeat (first | with_reducible exact Below.refl _ _ | with_reducible assumption | with_reducible refine Below.al ?_ _ | with_reducible refine Below.sc ?_ (by first | exact Nat.le_refl _ | (simp; done) | (simp; omega)) _ | assumption | exact Below.refl _ _ | refine Below.dr ?_ | refine Below.drN ?_ _ | refine Below.step ?_ (by assumption)))⟩
  obtain ⟨h1, h2, h3, h4, h5⟩ := HF.out
  exact OwnRow.two' (S := S) (T := T) (by simp) _ _ _ rfl rfl rfl (h1.later (by (repeat (first | with_reducible exact Below.refl _ _ | with_reducible assumption | with_reducible refine Below.al ?_ _ | with_reducible refine Below.sc ?_ (by first | exact Nat.le_refl _ | (simp; done) | (simp; omega)) _ | assumption | exact Below.refl _ _ | refine Below.dr ?_ | refine Below.drN ?_ _ | refine Below.step ?_ (by assumption))))) (h2.later (by (repeat (first | with_reducible exact Below.refl _ _ | with_reducible assumption | with_reducible refine Below.al ?_ _ | with_reducible refine Below.sc ?_ (by first | exact Nat.le_refl _ | (simp; done) | (simp; omega)) _ | assumption | exact Below.refl _ _ | refine Below.dr ?_ | refine Below.drN ?_ _ | refine Below.step ?_ (by assumption))))) (fun b hb => by have := h3 b hb; omega) (fun b hb => by have := h4 b hb; omega) h5 (fun b hb => .inl hb) (fun b hb => .inr (.inl hb)) (.inr (.inr ⟨by omega, by simp⟩))
set_option maxRecDepth 100000 in
set_option maxHeartbeats 800000 in
theorem quantified_any (m : Nat) (op : Int) (ho : -9223372036854775808 ≤ op ∧ op ≤ 9223372036854775807) (v : List UInt8) (hv : v.length ≤ 1000000) (S : Nat → Prop) (t : Fm) (x : Value) (w : World) (h : FmV (m + 1) S w t x) (hS : ∀ b, S b → b < w.heap.size) :
    Calls Tryz.prog 66 #[.int .i64 op, .string ⟨v.toArray⟩, x] w fun e w' => ∃ y, e = .returned y ∧ FmV (m + 2) (fun b => S b ∨ NewB w w' b) w' (quantF op v t) y ∧ Below w.heap.size w w' := by
  obtain ⟨v0, v1, v2, v3, v4, rfl, hf⟩ := h
  obtain ⟨p, c, q, d, rfl, rfl, rfl, rfl, rfl, -⟩ := hf.form
  have HF := Lib.hid (And.intro hf hS)
  clear hf hS
  go_enter Tryz.func66, Tryz.ntmps66
  go_wp2
  refine bodyPost_ret (v := .agg #[.int .i64 op, .string ⟨#[]⟩, .slice none 0 0, .string ⟨v.toArray⟩, .slice (some ⟨w.heap.size + 1 + 1, 0, none⟩) 1 1]) (by simp only [results, Tryz.results66]; go_simp) rfl ⟨_, rfl, ⟨_, _, _, _, _, rfl, ⟨_, _, _, fun _ => False, _, rfl, ho, by show v.toArray.size ≤ _; unfold maxLen; simp; omega, ⟨_, rfl, Nat.zero_le _, OwnRow.nil _ _ _ _ _⟩, ?_, fun _ h => h.elim, fun _ h => h⟩⟩, by (repeat (first | with_reducible exact Below.refl _ _ | with_reducible assumption | with_reducible refine Below.al ?_ _ | with_reducible refine Below.sc ?_ (by first | exact Nat.le_refl _ | (simp; done) | (simp; omega)) _ | assumption | exact Below.refl _ _ | refine Below.dr ?_ | refine Below.drN ?_ _ | refine Below.step ?_ (by assumption)))⟩
  exact OwnRow.one' (S := S) (by simp) _ rfl (HF.out.1.later (by (repeat (first | with_reducible exact Below.refl _ _ | with_reducible assumption | with_reducible refine Below.al ?_ _ | with_reducible refine Below.sc ?_ (by first | exact Nat.le_refl _ | (simp; done) | (simp; omega)) _ | assumption | exact Below.refl _ _ | refine Below.dr ?_ | refine Below.drN ?_ _ | refine Below.step ?_ (by assumption))))) (fun b hb => by have := HF.out.2 b hb; omega) (fun b hb => .inl hb) (.inr ⟨by omega, by simp⟩)
set_option maxRecDepth 100000 in
set_option maxHeartbeats 800000 in
theorem atomOf_any (m : Nat) (S : Nat → Prop) (t : Tm) (v0 v1 : Value) (w : World) (h : TmOwn 24 m S w t [v0, v1]) :
    Calls Tryz.prog 104 #[.agg #[v0, v1]] w fun e w' => ∃ y, e = .returned y ∧ FmV (m + 1) S w' (atomOfF t) y ∧ Below w.heap.size w w' := by
  obtain ⟨p, c, rfl, rfl, -⟩ := h.form
  have HF := Lib.hid h
  clear h
  go_enter Tryz.func104, Tryz.ntmps104
  go_wp2
  refine bodyPost_ret (v := .agg #[.int .i64 3, .string t.n, .slice p t.us.length c, .string ⟨#[]⟩, .slice none 0 0]) (by simp only [results, Tryz.results104]; go_simp) rfl ⟨_, rfl, ⟨_, _, _, _, _, rfl, ⟨_, _, _, S, fun _ => False, rfl, by omega, Nat.zero_le _, HF.out.below (by (repeat (first | with_reducible exact Below.refl _ _ | with_reducible assumption | with_reducible refine Below.al ?_ _ | with_reducible refine Below.sc ?_ (by first | exact Nat.le_refl _ | (simp; done) | (simp; omega)) _ | assumption | exact Below.refl _ _ | refine Below.dr ?_ | refine Below.drN ?_ _ | refine Below.step ?_ (by assumption)))), OwnRow.nil _ _ _ _ _, fun b hb => ⟨hb, fun h => h⟩, fun _ h => h.elim⟩⟩, by (repeat (first | with_reducible exact Below.refl _ _ | with_reducible assumption | with_reducible refine Below.al ?_ _ | with_reducible refine Below.sc ?_ (by first | exact Nat.le_refl _ | (simp; done) | (simp; omega)) _ | assumption | exact Below.refl _ _ | refine Below.dr ?_ | refine Below.drN ?_ _ | refine Below.step ?_ (by assumption)))⟩
end Go.Proofs.YtdklemmincejpaaGreat
namespace Go.Proofs.YtdklemmincejpaaGreat
open Go.RowKit
theorem pTerm_name (L : List UInt8) : ∀ (f : Nat) (p : PSt), (pTerm L f p).1.n.data.toList.length ≤ L.length
  | 0, p => by rw [pTerm]; simp [Tm.n]
  | f + 1, p => by
    have := pWord_len L p
    rw [pTerm]
    split <;> simpa [Tm.n] using this
theorem pAtom_pos (L : List UInt8) (f : Nat) (p : PSt) (hp : p.pos ≤ L.length) : p.pos ≤ (pAtom L f p).2.pos ∧ (pAtom L f p).2.pos ≤ L.length := by
  have h1 := pTerm_pos L f p hp
  rw [pAtom]
  split
  · rename_i h
    have h2 := pTake_le h h1.2
    have h3 := pTerm_pos L f (pAdv sEquals (pTerm L f p).2) h2
    simp only [pAdv] at h3 ⊢; omega
  · split
    · rename_i h
      have h2 := pTake_le h h1.2
      have h3 := pTerm_pos L f (pAdv sHoldsOf (pTerm L f p).2) h2
      have h4 := pArgs_pos L sComma f _ h3.2
      simp only [pAdv] at h3 h4 ⊢; omega
    · have h5 := pMust_pos L sHolds _ h1.2
      show p.pos ≤ (pMust L sHolds (pTerm L f p).2).pos ∧ (pMust L sHolds (pTerm L f p).2).pos ≤ L.length
      omega
theorem pEng_pos (L : List UInt8) : ∀ (f : Nat) (p : PSt), p.pos ≤ L.length → p.pos ≤ (pEng L f p).2.pos ∧ (pEng L f p).2.pos ≤ L.length
  | 0, p, hp => by rw [pEng]; exact ⟨Nat.le_refl _, hp⟩
  | f + 1, p, hp => by
    have pair : ∀ (word kw : List UInt8), pTake L kw p = true → p.pos ≤ (pEng L f (pMust L word (pEng L f (pAdv kw p)).2)).2.pos ∧ (pEng L f (pMust L word (pEng L f (pAdv kw p)).2)).2.pos ≤ L.length := fun word kw h => by
      have h2 := pTake_le h hp
      have h3 := pEng_pos L f (pAdv kw p) h2
      have h4 := pMust_pos L word _ h3.2
      have h5 := pEng_pos L f _ h4.2
      simp only [pAdv] at h3 h4 h5 ⊢; omega
    have bound : ∀ (word kw : List UInt8), pTake L kw p = true → p.pos ≤ (pEng L f (pMust L word (pWord L (pAdv kw p)).2)).2.pos ∧ (pEng L f (pMust L word (pWord L (pAdv kw p)).2)).2.pos ≤ L.length := fun word kw h => by
      have h2 := pTake_le h hp
      have h3 := pWord_pos L (pAdv kw p) h2
      have h4 := pMust_pos L word _ h3.2
      have h5 := pEng_pos L f _ h4.2
      simp only [pAdv] at h3 h4 h5 ⊢; omega
    have adv : ∀ kw : List UInt8, pTake L kw p = true → p.pos ≤ (pAdv kw p).pos ∧ (pAdv kw p).pos ≤ L.length := fun kw h => ⟨by simp only [pAdv]; omega, pTake_le h hp⟩
    have neg : pTake L sNot p = true → p.pos ≤ (pEng L f (pAdv sNot p)).2.pos ∧ (pEng L f (pAdv sNot p)).2.pos ≤ L.length := fun h => by
      have h1 := adv _ h
      have h2 := pEng_pos L f _ h1.2
      omega
    rw [pEng]
    split
    · exact adv _ ‹_›
    · split
      · exact adv _ ‹_›
      · split
        · exact neg ‹_›
        · split
          · exact pair _ _ ‹_›
          · split
            · exact pair _ _ ‹_›
            · split
              · exact pair _ _ ‹_›
              · split
                · exact bound _ _ ‹_›
                · split
                  · exact bound _ _ ‹_›
                  · exact pAtom_pos L f p hp
end Go.Proofs.YtdklemmincejpaaGreat
namespace Go.Proofs.YtdklemmincejpaaGreat
open Go.RowKit
/-- What a call of the reader leaves: a formula in new memory, its value x. -/
def FmP (m g : Nat) (s : ByteArray) (F : Fm) (p' : PSt) (w : World) (x : Value) (w' : World) : Prop := FmV m (NewB w w') w' F x ∧ PAt 57 w' g s p' ∧ w.grownBy w' (some g)
theorem TSt.initT {T TP : TypeId} {ro : Obj} {w w1 w2 : World} {g : Nat} {s : ByteArray} {p : PSt} {f : Nat} {t : Tm} {pp : Option Addr} {cc : Nat} (hg : g < w.heap.size) (hO : TmOwn T f (fun b => w.heap.size + 1 ≤ b ∧ b < w1.heap.size) w1 t [.string t.n, .slice pp t.us.length cc])
    (hg1 : (w.alloc ro).grownBy w1 (some g)) (hg2 : (w1.alloc (.cells #[.string t.n, .slice pp t.us.length cc] T)).grownBy w2 (some g)) (hP : PAt TP w2 g s p) :
    TSt T TP ro w g w.heap.size w1.heap.size s t.n.data.toList p (.slice pp t.us.length cc) t.us f w2 := by
  have h1 := hg1.size
  have h2 := hg2.size
  simp at h1 h2
  have ha := gr_trans (gr_al (gr_refl w g) _) hg1
  have hk : ∀ b, b < w1.heap.size → b ≠ g → w2.heap[b]? = w1.heap[b]? := fun b hb hne => (hg2.block b (by simp; omega) (by simp; omega)).trans (heap_alloc_old w1 _ hb)
  obtain ⟨f', rfl⟩ : ∃ f', f = f' + 1 := by
    cases f with
    | zero => exact hO.elim
    | succ f' => exact ⟨f', rfl⟩
  obtain ⟨n, us⟩ := t
  obtain ⟨va, he, hn, hrow⟩ := hO
  simp only [List.cons.injEq, and_true] at he
  obtain ⟨-, rfl⟩ := he
  refine ⟨hP, ?_, ?_, ?_, gr_trans (gr_al ha _) hg2, hg, Nat.le_refl _, by omega, by omega⟩
  · rw [ba_eq]
    exact (hg2.block w1.heap.size (by simp) (by simp; omega)).trans (heap_alloc_new w1 _)
  · exact (hk w.heap.size (by omega) (by omega)).trans ((hg1.block w.heap.size (by simp) (by simp; omega)).trans (heap_alloc_new w _))
  · exact hrow.mono (fun b hb _ => hk b hb.2 (by omega)) (fun b hb => by omega) (fun S x c _ hS hx => TmOwn.mono f' (f' + 1) x c (by omega) (fun b hb _ => hk b (hS b hb).2 (by have := hS b hb; omega)) (fun _ h => h) hx)
/-- A first argument in a slice just made. -/
theorem TSt.fresh {T TP : TypeId} {ro : Obj} {w W w1 : World} {g rb bt : Nat} {s : ByteArray} {n : List UInt8} {p p' : PSt} {v v0 v1 : Value} {xs : List Tm} {f : Nat} {t : Tm} (h : TSt T TP ro w g rb bt s n p v xs f W) (hT : TermP T g W.heap.size s f t p' TP W (.agg #[v0, v1]) w1) :
    TSt T TP ro w g rb bt s n p' (.slice (some ⟨w1.heap.size, 0, none⟩) 1 1) [t] f ((w1.alloc (.cells #[v0, v1] T)).setCell ⟨bt, 1, none⟩ (.slice (some ⟨w1.heap.size, 0, none⟩) 1 1)) := by
  obtain ⟨v0', v1', he, hO, hP, hG⟩ := hT
  simp only [Value.agg.injEq, Array.mk.injEq, List.cons.injEq, and_true] at he
  obtain ⟨rfl, rfl⟩ := he
  obtain ⟨l1, l2, l3, l4⟩ := h.lt
  have hz := hG.size
  have hk : ∀ b, b < w1.heap.size → b ≠ bt → ((w1.alloc (.cells #[v0, v1] T)).setCell ⟨bt, 1, none⟩ (.slice (some ⟨w1.heap.size, 0, none⟩) 1 1)).heap[b]? = w1.heap[b]? := fun b hb hne => (heap_setCell_other _ ⟨bt, 1, none⟩ b _ (fun e => hne e)).trans (heap_alloc_old w1 _ hb)
  have hbt : (w1.alloc (.cells #[v0, v1] T)).heap[bt]? = some (.cells #[.string ⟨n.toArray⟩, v] T (0, 0)) := (heap_alloc_old w1 _ (by omega)).trans ((hG.block bt l4 (by simp; omega)).trans h.cell)
  refine ⟨(hk g (by omega) (by omega)).trans hP, ?_, (hk rb (by omega) (by omega)).trans ((hG.block rb (by omega) (by simp; omega)).trans h.res), ?_, ?_, l1, l2, l3, by simp; omega⟩
  · have := heap_setCell_same (w1.alloc (.cells #[v0, v1] T)) bt 1 _ T (.slice (some ⟨w1.heap.size, 0, none⟩) 1 1) hbt
    simpa using this
  · have h1 := OwnRow.one (S' := fun b => rb < b ∧ b ≠ bt ∧ b < w1.heap.size + 1) (R := fun S x c => TmOwn T f S (w1.alloc (.cells #[v0, v1] T)) x c) (w := w1) (e := T) #[v0, v1] rfl (TmOwn.below ((Below.refl _ _).alloc (Nat.le_refl _) _) hO) (fun b hb => hb.2) (fun b hb => by omega) (by omega)
    refine h1.mono (fun b hb _ => heap_setCell_other _ ⟨bt, 1, none⟩ b _ (fun e => hb.2.1 e)) (fun b hb => by simpa using hb) (fun S x c _ hS hx => TmOwn.mono f f x c (Nat.le_refl _) (fun b hb _ => heap_setCell_other _ ⟨bt, 1, none⟩ b _ (fun e => (hS b hb).2.1 e)) (fun _ h => h) hx)
  · exact gr_sc (gr_al (gr_trans h.gr hG) _) (.inr (by simp; omega)) _
theorem TSt.term {T TP : TypeId} {ro : Obj} {w W : World} {g rb bt : Nat} {s : ByteArray} {n : List UInt8} {p : PSt} {v : Value} {xs : List Tm} {f : Nat} (h : TSt T TP ro w g rb bt s n p v xs f W) (hn : n.length ≤ 1000000) :
    TmOwn T (f + 1) (fun b => rb < b ∧ b ≠ bt ∧ b < W.heap.size) W (.mk ⟨n.toArray⟩ xs) [.string ⟨n.toArray⟩, v] := ⟨_, rfl, by show n.toArray.size ≤ _; unfold maxLen; simp; omega, h.row⟩
theorem cells5_cell {w : World} {g : Nat} {x0 x1 x2 x3 x4 : Value} {t : TypeId} (h : w.heap[g]? = some (.cells #[x0, x1, x2, x3, x4] t (0, 0))) : w.cell? ⟨g, 0, none⟩ = some x0 ∧ w.cell? ⟨g, 1, none⟩ = some x1 ∧ w.cell? ⟨g, 2, none⟩ = some x2 ∧ w.cell? ⟨g, 3, none⟩ = some x3 ∧ w.cell? ⟨g, 4, none⟩ = some x4 ∧ (∀ j, w.frozen? ⟨g, j, none⟩ = false) := by
  refine ⟨?_, ?_, ?_, ?_, ?_, fun j => frozen_of_row w g j _ _ h⟩
  · rw [cell_of_row w g 0 _ _ (0, 0) h]; rfl
  · rw [cell_of_row w g 1 _ _ (0, 0) h]; rfl
  · rw [cell_of_row w g 2 _ _ (0, 0) h]; rfl
  · rw [cell_of_row w g 3 _ _ (0, 0) h]; rfl
  · rw [cell_of_row w g 4 _ _ (0, 0) h]; rfl
theorem FmP.of {m g rb : Nat} {s : ByteArray} {F : Fm} {p' : PSt} {w w4 w5 : World} {S : Nat → Prop} {x : Value} (hP : PAt 57 w4 g s p') (hG : w.grownBy w4 (some g)) (hb : Below w4.heap.size w4 w5) (hV : FmV m S w5 F x) (hS : ∀ b, S b → rb < b ∧ b < w5.heap.size) (hrb : w.heap.size ≤ rb) (hg : g < rb) (a0 a1 a2 a3 a4 : Value) :
    FmP m g s F p' w x (((((w5.setCell ⟨rb, 0, none⟩ a0).setCell ⟨rb, 1, none⟩ a1).setCell ⟨rb, 2, none⟩ a2).setCell ⟨rb, 3, none⟩ a3).setCell ⟨rb, 4, none⟩ a4) := by
  have hk : ∀ b, b ≠ rb → (((((w5.setCell ⟨rb, 0, none⟩ a0).setCell ⟨rb, 1, none⟩ a1).setCell ⟨rb, 2, none⟩ a2).setCell ⟨rb, 3, none⟩ a3).setCell ⟨rb, 4, none⟩ a4).heap[b]? = w5.heap[b]? := fun b hb => by
    repeat rw [heap_setCell_other _ _ _ _ (fun e => hb e)]
  obtain ⟨v0, v1, v2, v3, v4, rfl, hO⟩ := hV
  refine ⟨⟨_, _, _, _, _, rfl, FmOwn.mono _ _ _ _ (Nat.le_refl _) (fun b hb' _ => hk b (by have := hS b hb'; omega)) (fun b hb' => ?_) hO⟩, (hk g (by omega)).trans (hP.below hb), ?_⟩
  · have := hS b hb'
    exact ⟨by omega, by simpa using this.2⟩
  · exact gr_sc (gr_sc (gr_sc (gr_sc (gr_sc (gr_below hG hb) (.inr hrb) _) (.inr hrb) _) (.inr hrb) _) (.inr hrb) _) (.inr hrb) _
set_option maxRecDepth 100000 in
set_option maxHeartbeats 3200000 in
theorem atomEnglish_one (f g : Nat) (s : ByteArray) (p : PSt) (w : World) (h : PAt 57 w g s p) (hp : p.pos ≤ s.size) (hs : s.size ≤ 1000000) (hf : s.size - p.pos < f)
    (h1 : pTake s.data.toList sEquals (pTerm s.data.toList f p).2 = false) (h2 : pTake s.data.toList sHoldsOf (pTerm s.data.toList f p).2 = false) :
    Calls Tryz.prog 67 #[.pointer (some ⟨g, 0, none⟩)] w fun e w' => ∃ x, e = .returned x ∧ FmP (f + 2) g s (pAtom s.data.toList f p).1 (pAtom s.data.toList f p).2 w x w' := by
  have H := Lib.hid h
  have hg := bsz h.lt
  have HFIN := Lib.hid (show pAtom s.data.toList f p = (atomOfF (pTerm s.data.toList f p).1, pMust s.data.toList sHolds (pTerm s.data.toList f p).2) by rw [pAtom, h1, h2]; rfl)
  have hpos := pTerm_pos s.data.toList f p (by rw [← size_list]; exact hp)
  rw [← size_list] at hpos
  have hnm := pTerm_name s.data.toList f p
  rw [← size_list, ← size_list] at hnm
  have HA := Lib.hid (And.intro h1 h2)
  clear h h1 h2
  go_enter Tryz.func67, Tryz.ntmps67
  go_wp2_with fail
  refine (term_any f g s p _ (H.out.below (by (repeat (first | with_reducible exact Below.refl _ _ | with_reducible assumption | with_reducible refine Below.al ?_ _ | with_reducible refine Below.sc ?_ (by first | exact Nat.le_refl _ | (simp; done) | (simp; omega)) _ | assumption | exact Below.refl _ _ | refine Below.dr ?_ | refine Below.drN ?_ _ | refine Below.step ?_ (by assumption))))) hp hs hf).mono ?_
  rintro e w1 ⟨x, rfl, v0, v1, rfl, hO, hP1, hg1⟩
  obtain ⟨pp, cc, rfl, rfl, -⟩ := hO.form
  generalize pTerm s.data.toList f p = r at *
  obtain ⟨t, p1⟩ := r
  simp only at hpos hO HA hP1 HFIN hnm
  have HO := Lib.hid (show TmOwn 24 f (fun b => w.heap.size + 1 ≤ b ∧ b < w1.heap.size) w1 t _ by simpa using hO)
  have HG1 := Lib.hid hg1
  have ⟨c1, f1⟩ := gcell hg1
  have hz1 := hg1.size
  (try simp at hz1)
  have HP1 := Lib.hid hP1
  clear hO hP1 hg1
  go_wp2_with fail
  refine (take_any g s _ p1 _ (HP1.out.below (by (repeat (first | with_reducible exact Below.refl _ _ | with_reducible assumption | with_reducible refine Below.al ?_ _ | with_reducible refine Below.sc ?_ (by first | exact Nat.le_refl _ | (simp; done) | (simp; omega)) _ | assumption | exact Below.refl _ _ | refine Below.dr ?_ | refine Below.drN ?_ _ | refine Below.step ?_ (by assumption))))) hpos.2 (by omega) (by decide)).mono ?_
  rw [show (⟨#[32, 101, 113, 117, 97, 108, 115, 32]⟩ : ByteArray).data.toList = sEquals from rfl, HA.out.1]
  rintro e w2 ⟨_, rfl, rfl, h2, hg2⟩
  have HTS := Lib.hid (TSt.initT (s := s) (by omega) HO.out HG1.out hg2 h2)
  clear h2
  have ⟨c2, f2⟩ := gcell hg2
  have hz2 := hg2.size
  (try simp at hz2)
  clear hg2
  go_wp2_with fail
  refine (take_any g s _ p1 _ (PAt.below HTS.out.at_ (by (repeat (first | with_reducible exact Below.refl _ _ | with_reducible assumption | with_reducible refine Below.al ?_ _ | with_reducible refine Below.sc ?_ (by first | exact Nat.le_refl _ | (simp; done) | (simp; omega)) _ | assumption | exact Below.refl _ _ | refine Below.dr ?_ | refine Below.drN ?_ _ | refine Below.step ?_ (by assumption))))) hpos.2 (by omega) (by decide)).mono ?_
  rw [show (⟨#[32, 104, 111, 108, 100, 115, 32, 111, 102, 32]⟩ : ByteArray).data.toList = sHoldsOf from rfl, HA.out.2]
  rintro e w3 ⟨_, rfl, rfl, h3, hg3⟩
  have HTS1 := Lib.hid (HTS.out.reader (p' := p1) h3 hg3)
  clear h3 hg3 c1 f1 c2 f2
  go_wp2_with fail
  refine (must_any g s _ p1 _ (PAt.below HTS1.out.at_ (by (repeat (first | with_reducible exact Below.refl _ _ | with_reducible assumption | with_reducible refine Below.al ?_ _ | with_reducible refine Below.sc ?_ (by first | exact Nat.le_refl _ | (simp; done) | (simp; omega)) _ | assumption | exact Below.refl _ _ | refine Below.dr ?_ | refine Below.drN ?_ _ | refine Below.step ?_ (by assumption))))) hpos.2 (by omega) (by decide)).mono ?_
  rw [show (⟨#[32, 104, 111, 108, 100, 115]⟩ : ByteArray).data.toList = sHolds from rfl]
  rintro e w4 ⟨_, rfl, rfl, h4, hg4⟩
  have HTS2 := Lib.hid (HTS1.out.reader h4 hg4)
  clear h4 hg4
  obtain ⟨b0, b1, -⟩ := cells2_cell HTS2.out.cell
  obtain ⟨r0, r1, r2, r3, r4, rf⟩ := cells5_cell HTS2.out.res
  have hrb := bsz (heap_lt HTS2.out.res)
  have hlt := HTS2.out.lt
  go_wp2_with fail
  refine (atomOf_any (f + 1) _ _ _ _ _ (HTS2.out.term (by rw [← size_list]; omega))).mono ?_
  rintro e w5 ⟨y, rfl, hV, hb5⟩
  have HV := Lib.hid hV
  have hq5 := hb5.size
  have ⟨c5, f5⟩ := bcell hb5
  obtain ⟨y0, y1, y2, y3, y4, rfl, hOO⟩ := hV
  obtain ⟨q1, d1, q2, d2, rfl, rfl, rfl, rfl, rfl, -⟩ := hOO.form
  clear hOO b0 b1
  go_wp2
  refine bodyPost_ret (v := .agg #[.int .i64 (atomOfF (Tm.mk ⟨t.n.data⟩ t.us)).op, .string (atomOfF (Tm.mk ⟨t.n.data⟩ t.us)).a.n, .slice q1 (atomOfF (Tm.mk ⟨t.n.data⟩ t.us)).a.us.length d1, .string (atomOfF (Tm.mk ⟨t.n.data⟩ t.us)).v, .slice q2 (atomOfF (Tm.mk ⟨t.n.data⟩ t.us)).ps.length d2]) (by simp only [results, Tryz.results67]; go_simp) rfl ⟨_, rfl, ?_⟩
  rw [HFIN.out]
  have hte : (Tm.mk ⟨t.n.data.toList.toArray⟩ t.us) = t := by obtain ⟨n, us⟩ := t; rfl
  have hv := HV.out
  rw [hte] at hv
  exact FmP.of HTS2.out.at_ HTS2.out.gr hb5 hv (fun b hb => ⟨hb.1, by omega⟩) (Nat.le_refl _) (by omega) _ _ _ _ _
set_option maxRecDepth 100000 in
set_option maxHeartbeats 3200000 in
theorem atomEnglish_of (f g : Nat) (s : ByteArray) (p : PSt) (w : World) (h : PAt 57 w g s p) (hp : p.pos ≤ s.size) (hs : s.size ≤ 1000000) (hf : s.size - p.pos < f)
    (h1 : pTake s.data.toList sEquals (pTerm s.data.toList f p).2 = false) (h2 : pTake s.data.toList sHoldsOf (pTerm s.data.toList f p).2 = true) :
    Calls Tryz.prog 67 #[.pointer (some ⟨g, 0, none⟩)] w fun e w' => ∃ x, e = .returned x ∧ FmP (f + 2) g s (pAtom s.data.toList f p).1 (pAtom s.data.toList f p).2 w x w' := by
  have H := Lib.hid h
  have hg := bsz h.lt
  have hpos := pTerm_pos s.data.toList f p (by rw [← size_list]; exact hp)
  rw [← size_list] at hpos
  have hnm := pTerm_name s.data.toList f p
  rw [← size_list, ← size_list] at hnm
  have hle := pTake_le h2 (by rw [← size_list]; exact hpos.2)
  rw [← size_list] at hle
  have hl10 : sHoldsOf.length = 10 := rfl
  have HA := Lib.hid (And.intro h1 h2)
  have HPA := Lib.hid (show pAtom s.data.toList f p = (atomOfF (.mk (pTerm s.data.toList f p).1.n ((pTerm s.data.toList f (pAdv sHoldsOf (pTerm s.data.toList f p).2)).1 :: (pArgs s.data.toList sComma f (pTerm s.data.toList f (pAdv sHoldsOf (pTerm s.data.toList f p).2)).2).1)), (pArgs s.data.toList sComma f (pTerm s.data.toList f (pAdv sHoldsOf (pTerm s.data.toList f p).2)).2).2) by rw [pAtom, h1, h2]; rfl)
  clear h h1 h2
  have IH := Lib.hid (fun (f' : Nat) (_ : f' < f + 1) => term_any f')
  go_enter Tryz.func67, Tryz.ntmps67
  go_wp2_with fail
  refine (term_any f g s p _ (H.out.below (by (repeat (first | with_reducible exact Below.refl _ _ | with_reducible assumption | with_reducible refine Below.al ?_ _ | with_reducible refine Below.sc ?_ (by first | exact Nat.le_refl _ | (simp; done) | (simp; omega)) _ | assumption | exact Below.refl _ _ | refine Below.dr ?_ | refine Below.drN ?_ _ | refine Below.step ?_ (by assumption))))) hp hs hf).mono ?_
  rintro e w1 ⟨x, rfl, v0, v1, rfl, hO, hP1, hg1⟩
  obtain ⟨pp, cc, rfl, rfl, -⟩ := hO.form
  generalize pTerm s.data.toList f p = r at *
  obtain ⟨t, p1⟩ := r
  simp only at hpos hO HA hP1 HPA hnm hle
  have HO := Lib.hid (show TmOwn 24 f (fun b => w.heap.size + 1 ≤ b ∧ b < w1.heap.size) w1 t _ by simpa using hO)
  have HG1 := Lib.hid hg1
  have ⟨c1, f1⟩ := gcell hg1
  have hz1 := hg1.size
  (try simp at hz1)
  have HP1 := Lib.hid hP1
  clear hO hP1 hg1
  go_wp2_with fail
  refine (take_any g s _ p1 _ (HP1.out.below (by (repeat (first | with_reducible exact Below.refl _ _ | with_reducible assumption | with_reducible refine Below.al ?_ _ | with_reducible refine Below.sc ?_ (by first | exact Nat.le_refl _ | (simp; done) | (simp; omega)) _ | assumption | exact Below.refl _ _ | refine Below.dr ?_ | refine Below.drN ?_ _ | refine Below.step ?_ (by assumption))))) hpos.2 (by omega) (by decide)).mono ?_
  rw [show (⟨#[32, 101, 113, 117, 97, 108, 115, 32]⟩ : ByteArray).data.toList = sEquals from rfl, HA.out.1]
  rintro e w2 ⟨_, rfl, rfl, h2, hg2⟩
  have HTS0 := Lib.hid (TSt.initT (s := s) (by omega) HO.out HG1.out hg2 h2)
  clear h2
  have ⟨c2, f2⟩ := gcell hg2
  have hz2 := hg2.size
  (try simp at hz2)
  clear hg2
  go_wp2_with fail
  refine (take_any g s _ p1 _ (PAt.below HTS0.out.at_ (by (repeat (first | with_reducible exact Below.refl _ _ | with_reducible assumption | with_reducible refine Below.al ?_ _ | with_reducible refine Below.sc ?_ (by first | exact Nat.le_refl _ | (simp; done) | (simp; omega)) _ | assumption | exact Below.refl _ _ | refine Below.dr ?_ | refine Below.drN ?_ _ | refine Below.step ?_ (by assumption))))) hpos.2 (by omega) (by decide)).mono ?_
  rw [show (⟨#[32, 104, 111, 108, 100, 115, 32, 111, 102, 32]⟩ : ByteArray).data.toList = sHoldsOf from rfl, HA.out.2]
  rintro e w3 ⟨_, rfl, rfl, h3, hg3⟩
  have HTS1 := Lib.hid (HTS0.out.reader (p' := pAdv sHoldsOf p1) h3 hg3)
  clear h3 hg3 c1 f1 c2 f2
  have hrd : (pAdv sHoldsOf p1).pos ≤ s.size ∧ s.size - (pAdv sHoldsOf p1).pos < f := by simp only [pAdv]; omega
  go_wp2_with fail
  refine (term_any f g s (pAdv sHoldsOf p1) _ (PAt.below HTS1.out.at_ (by (repeat (first | with_reducible exact Below.refl _ _ | with_reducible assumption | with_reducible refine Below.al ?_ _ | with_reducible refine Below.sc ?_ (by first | exact Nat.le_refl _ | (simp; done) | (simp; omega)) _ | assumption | exact Below.refl _ _ | refine Below.dr ?_ | refine Below.drN ?_ _ | refine Below.step ?_ (by assumption))))) hrd.1 hs hrd.2).mono ?_
  rintro e w4 ⟨x, rfl, hT4⟩
  obtain ⟨tq, htq⟩ : ∃ tq, (pTerm s.data.toList f (pAdv sHoldsOf p1)).1 = tq := ⟨_, rfl⟩
  obtain ⟨pq, hpq⟩ : ∃ pq, (pTerm s.data.toList f (pAdv sHoldsOf p1)).2 = pq := ⟨_, rfl⟩
  have hpp := pTerm_pos s.data.toList f (pAdv sHoldsOf p1) (by rw [← size_list]; exact hrd.1)
  rw [hpq, ← size_list] at hpp
  rw [htq, hpq] at hT4
  have HPA2 := Lib.hid (show pAtom s.data.toList f p = (atomOfF (.mk t.n (tq :: (pArgs s.data.toList sComma f pq).1)), (pArgs s.data.toList sComma f pq).2) by rw [HPA.out, htq, hpq])
  clear htq hpq
  simp only [pAdv] at hpp
  obtain ⟨v0, v1, rfl, hO4, hP4, hG4⟩ := hT4
  have ht4 := TSt.fresh HTS1.out ⟨v0, v1, rfl, hO4, hP4, hG4⟩
  rw [World.setCell_alloc_past _ _ _ _ (show w1.heap.size < w4.heap.size by have := hG4.size; have := HTS1.out.lt; omega)] at ht4
  have HT4 := Lib.hid ht4
  clear ht4
  obtain ⟨l1, l2, l3, l4⟩ := HTS1.out.lt
  have hz4 := hG4.size
  obtain ⟨b0, b1, bf⟩ := cells2_cell ((hG4.block w1.heap.size l4 (by simp; omega)).trans HTS1.out.cell)
  obtain ⟨pp4, cc4, rfl, rfl, -⟩ := hO4.form
  have hbt := bsz (show w1.heap.size < w4.heap.size by omega)
  have HPP := Lib.hid (And.intro hpp hrd)
  clear hO4 hP4 hG4 hpp hrd
  go_wp2
  go_loopw [] (ArgRel (.cells #[.int .i64 0, .string ⟨#[]⟩, .slice none 0 0, .string ⟨#[]⟩, .slice none 0 0] 27 (0, 0)) w g w.heap.size w1.heap.size s t.n.data.toList sComma f (tq :: (pArgs s.data.toList sComma f pq).1) (pArgs s.data.toList sComma f pq).2) (fun wr => s.size - posOf wr g)
  case atStart => exact ⟨f, pq, _, [tq], HT4.out, Nat.le_refl _, rfl, rfl, by have := HPP.out; simp only [pAdv] at this; omega, HPP.out.1.2, by have := HPP.out.1; simp; omega⟩
  case round =>
    obtain ⟨f', p', v, xs, hts, hff, hal, hpe, hfu, hpl, hxl⟩ := hrel
    have HTS2 := Lib.hid hts
    have HAL := Lib.hid (And.intro hal hpe)
    have HPO := hts.at_.posOf
    clear hts hal hpe HTS0 HTS1 HT4 b0 b1 bf
    obtain ⟨f'', rfl⟩ : ∃ q, f' = q + 1 := ⟨f' - 1, by omega⟩
    have hg' := bsz HTS2.out.at_.lt
    cases hT2 : pTake s.data.toList sComma p'
    · have HEND := Lib.hid (show pArgs s.data.toList sComma (f'' + 1) p' = ([], p') by rw [pArgs, hT2]; rfl)
      have HT2 := Lib.hid hT2
      go_wp2_with fail
      refine (take_any g s _ p' _ (PAt.below HTS2.out.at_ (by (repeat (first | with_reducible exact Below.refl _ _ | with_reducible assumption | with_reducible refine Below.al ?_ _ | with_reducible refine Below.sc ?_ (by first | exact Nat.le_refl _ | (simp; done) | (simp; omega)) _ | assumption | exact Below.refl _ _ | refine Below.dr ?_ | refine Below.drN ?_ _ | refine Below.step ?_ (by assumption))))) hpl (by omega) (by decide)).mono ?_
      rw [show (⟨#[44, 32]⟩ : ByteArray).data.toList = sComma from rfl, HT2.out]
      rintro e w6 ⟨_, rfl, rfl, h6, hg6⟩
      have HTS3 := Lib.hid (HTS2.out.reader (p' := p') h6 hg6)
      clear h6 hg6
      obtain ⟨pv, cv, hvv, -⟩ := HTS3.out.row.form
      subst hvv
      obtain ⟨b0, b1, -⟩ := cells2_cell HTS3.out.cell
      obtain ⟨r0, r1, r2, r3, r4, rf⟩ := cells5_cell HTS3.out.res
      have hrb := bsz (heap_lt HTS3.out.res)
      have hlt := HTS3.out.lt
      go_wp2_with fail
      refine (atomOf_any (f + 1) _ _ _ _ _ (HTS3.out.term (by rw [← size_list]; omega))).mono ?_
      rintro e w7 ⟨y, rfl, hV, hb7⟩
      have HV := Lib.hid hV
      have hq7 := hb7.size
      have ⟨c7, f7⟩ := bcell hb7
      obtain ⟨y0, y1, y2, y3, y4, rfl, hOO⟩ := hV
      obtain ⟨q1, d1, q2, d2, rfl, rfl, rfl, rfl, rfl, -⟩ := hOO.form
      clear hOO b0 b1
      go_wp2
      refine bodyPost_ret (v := .agg #[.int .i64 (atomOfF (Tm.mk ⟨t.n.data⟩ xs)).op, .string (atomOfF (Tm.mk ⟨t.n.data⟩ xs)).a.n, .slice q1 (atomOfF (Tm.mk ⟨t.n.data⟩ xs)).a.us.length d1, .string (atomOfF (Tm.mk ⟨t.n.data⟩ xs)).v, .slice q2 (atomOfF (Tm.mk ⟨t.n.data⟩ xs)).ps.length d2]) (by simp only [results, Tryz.results67]; go_simp) rfl ⟨_, rfl, ?_⟩
      have hal := HAL.out
      rw [HEND.out, List.append_nil] at hal
      rw [HPA2.out, ← hal.1, ← hal.2]
      exact FmP.of HTS3.out.at_ HTS3.out.gr hb7 HV.out (fun b hb => ⟨hb.1, by omega⟩) (Nat.le_refl _) (by omega) _ _ _ _ _
    · have HT2 := Lib.hid hT2
      have hle2 := pTake_le hT2 (by rw [← size_list]; exact hpl)
      rw [← size_list, show sComma.length = 2 from rfl] at hle2
      go_wp2_with fail
      refine (take_any g s _ p' _ (PAt.below HTS2.out.at_ (by (repeat (first | with_reducible exact Below.refl _ _ | with_reducible assumption | with_reducible refine Below.al ?_ _ | with_reducible refine Below.sc ?_ (by first | exact Nat.le_refl _ | (simp; done) | (simp; omega)) _ | assumption | exact Below.refl _ _ | refine Below.dr ?_ | refine Below.drN ?_ _ | refine Below.step ?_ (by assumption))))) hpl (by omega) (by decide)).mono ?_
      rw [show (⟨#[44, 32]⟩ : ByteArray).data.toList = sComma from rfl, HT2.out]
      rintro e w6 ⟨_, rfl, rfl, h6, hg6⟩
      have HTS := Lib.hid (HTS2.out.reader (p' := pAdv sComma p') h6 hg6)
      clear h6 hg6 HPP
      have HBT := Lib.hid (show w6.cell? ⟨w1.heap.size, 1, none⟩ = some v from (cells2_cell HTS.out.cell).2.1)
      have HNE := Lib.hid (show w1.heap.size ≠ g by omega)
      go_wp2
      obtain ⟨tq, htq⟩ : ∃ tq, (pTerm s.data.toList f'' (pAdv sComma p')).1 = tq := ⟨_, rfl⟩
      obtain ⟨pq, hpq⟩ : ∃ pq, (pTerm s.data.toList f'' (pAdv sComma p')).2 = pq := ⟨_, rfl⟩
      have HTQ := Lib.hid htq
      have HPQ := Lib.hid hpq
      have HRD := Lib.hid (show (pAdv sComma p').pos ≤ s.size ∧ s.size - (pAdv sComma p').pos < f'' by simp only [pAdv, show sComma.length = 2 from rfl]; omega)
      have HLEN := Lib.hid (show xs.length + 1 ≤ 1000000 by omega)
      have HSTEP := Lib.hid (show pArgs s.data.toList sComma (f'' + 1) p' = (tq :: (pArgs s.data.toList sComma f'' pq).1, (pArgs s.data.toList sComma f'' pq).2) by rw [pArgs, if_pos HT2.out, htq, hpq])
      clear htq hpq
      obtain ⟨CP, hCP0⟩ : ∃ CP : Value → World → Prop, CP = TermP 24 g w6.heap.size s f tq pq 57 w6.drew := ⟨_, rfl⟩
      have HCP := Lib.hid hCP0
      have HGR := Lib.hid (show ∀ x w', CP x w' → w6.grownBy w' (some g) from by
        rw [hCP0]; rintro x w' ⟨_, _, _, _, _, hG⟩; exact ⟨hG.os, hG.tape, hG.output, hG.size, hG.block⟩)
      have HAGG := Lib.hid (show ∀ x w', CP x w' → ∃ v0 v1, x = .agg #[v0, v1] ∧ v0.oneCell' = true ∧ v1.oneCell' = true from by
        rw [hCP0]; rintro x w' ⟨v0, v1, hx, hO, _, _⟩
        obtain ⟨pp, cc, rfl, rfl, -⟩ := hO.form
        exact ⟨_, _, hx, rfl, rfl⟩)
      clear hCP0
      refine wp_region_stages [some (.pointer (some ⟨w1.heap.size, 1, none⟩)), some v, some (.pointer (some ⟨g, 0, none⟩)), none, none, none, some (.pointer (some ⟨w1.heap.size, 1, none⟩)), none] [3, 4, 5, 7] (AppSt 24 g w1.heap.size CP v xs.length w6 3 4 5) (by kernel_rfl) (by kernel_rfl) (by first | kernel_rfl | rfl) (by rfl) rfl ?_
      refine chain_st rfl rfl (by decide) rfl (by intro j u w' hS; go_simp; first | done | exact ⟨hS, rfl⟩ | exact hS | rfl) ?_
      go_simp
      refine chain_stb (c := 5) 2 rfl rfl (by decide) rfl rfl rfl (by first | kernel_rfl | rfl) ?_ ?_
      · intro j u w' hj hS
        have hc := AppSt.cell HGR.out HBT.out HNE.out hj hS
        go_simp
        first | done | exact ⟨hS, rfl⟩ | exact hS | rfl
      go_simp
      refine chain_st rfl rfl (by decide) rfl (by intro j u w' hS; go_simp; first | done | exact ⟨hS, rfl⟩ | exact hS | rfl) ?_
      go_simp
      refine chain_first rfl rfl rfl (by decide) rfl ?_ ?_
      · intro w' hS
        obtain rfl : w' = w6.drew := hS
        go_simp
        refine (IH.out f'' (by omega) g s _ _ (PAt.below HTS.out.at_ (by (repeat (first | with_reducible exact Below.refl _ _ | with_reducible assumption | with_reducible refine Below.al ?_ _ | with_reducible refine Below.sc ?_ (by first | exact Nat.le_refl _ | (simp; done) | (simp; omega)) _ | assumption | exact Below.refl _ _ | refine Below.dr ?_ | refine Below.drN ?_ _ | refine Below.step ?_ (by assumption))))) HRD.out.1 hs HRD.out.2).mono ?_
        rintro e w'' ⟨x, he, hx⟩
        rw [HTQ.out, HPQ.out] at hx
        exact ⟨x, he, by show CP (upd _ 3 x 3) w''; rw [upd_same, HCP.out]; exact hx.mono (by omega)⟩
      intro x
      go_simp
      refine chain_next 0 rfl rfl rfl rfl (by decide) rfl (by first | kernel_rfl | rfl) ?_ ?_
      · intro w' hS
        have hS : CP (upd _ 3 x 3) w' := hS
        rw [upd_same] at hS
        obtain ⟨v0, v1, rfl, o0, o1⟩ := HAGG.out _ _ hS
        go_simp
        exact ⟨w', v0, v1, hS, by rw [upd_same], rfl⟩
      intro y
      go_simp
      refine chain_next 1 rfl rfl rfl rfl (by decide) rfl (by first | kernel_rfl | rfl) ?_ ?_
      · intro w' hS
        obtain ⟨w1', v0, v1, hcp, hy, rfl⟩ := hS
        rw [upd_same] at hy
        subst hy
        obtain ⟨v0', v1', he, o0, o1⟩ := HAGG.out _ _ hcp
        simp only [Value.agg.injEq, Array.mk.injEq, List.cons.injEq, and_true] at he
        obtain ⟨rfl, rfl⟩ := he
        have hG1 := HGR.out _ _ hcp
        obtain ⟨hm, vals, Ss, r1, r2, r3, r4⟩ := HTS.out.row
        have hlt := HTS.out.lt
        have hlen := HLEN.out
        refine each_app1 (.tmp 27) (.tmp 30) _ rfl 0 24 2 40 elemTmI v _ vals rfl w1' #[v0, v1] rfl rfl (own_same r1 fun b hb hl => hG1.block b hl (by have := r2 b hb; simp; omega)) rfl (by intro u hu; simp at hu; rcases hu with rfl | rfl <;> assumption) (by omega) (by unfold maxLen; omega) (Nat.zero_le _) ?_
        intro v' w3 happ hg3 hnr hsz
        exact ⟨w1', v0, v1, hcp, by rw [upd_same]; exact happ, hg3, by rw [upd_same]; exact hnr, hsz⟩
      intro z
      go_simp
      refine chain_st rfl rfl (by decide) rfl (by intro j u w' hS; go_simp; first | done | exact ⟨hS, rfl⟩ | exact hS | rfl) ?_
      go_simp
      refine chain_next 2 rfl rfl rfl rfl (by decide) rfl (by first | kernel_rfl | rfl) ?_ ?_
      · intro w' hS
        obtain ⟨w1', v0, v1, hcp, happ, hg3, hnr, hsz⟩ := hS
        rw [upd_same] at happ hnr
        obtain ⟨⟨q', c', rfl⟩, hbt⟩ := HTS.out.three HGR.out hcp happ hg3
        have hcell : w'.cell? ⟨w1.heap.size, 1, none⟩ = some v := by rw [cell_of_row w' _ 1 _ _ (0, 0) hbt]; rfl
        have hfro : w'.frozen? ⟨w1.heap.size, 1, none⟩ = false := frozen_of_row w' _ 1 _ _ hbt
        clear hbt
        go_simp
        refine ⟨w1', w', v0, v1, hcp, ?_, hg3, ?_, hsz, ?_⟩
        · rw [upd_other _ _ (by decide), upd_same]; exact happ
        · rw [upd_other _ _ (by decide), upd_same]; exact hnr
        · rw [upd_other _ _ (by decide), upd_same]
      intro x'
      refine flowU_nil ?_
      intro wz hz
      have HZ := Lib.hid (HTS.out.app (by have := hz; rw [HCP.out] at this; exact this) HLEN.out)
      rw [upd_other _ _ (by decide), upd_same] at HZ
      clear hz
      go_simp
      go_wp2
      have hpp := pTerm_pos s.data.toList f'' (pAdv sComma p') (by rw [← size_list]; exact HRD.out.1)
      rw [HPQ.out, ← size_list] at hpp
      simp only [pAdv, show sComma.length = 2 from rfl] at hpp
      have hal := HAL.out
      rw [HSTEP.out] at hal
      refine ⟨⟨f'', pq, z, xs ++ [tq], HZ.out, by omega, by rw [← hal.1]; simp, hal.2, by omega, hpp.2, by simp; omega⟩, ?_⟩
      rw [HZ.out.at_.posOf, HPO]
      omega
end Go.Proofs.YtdklemmincejpaaGreat
namespace Go.Proofs.YtdklemmincejpaaGreat
open Go.RowKit
theorem FmP.mono {m n g : Nat} {s : ByteArray} {F : Fm} {p' : PSt} {w w' : World} {x : Value} (hm : m ≤ n) (h : FmP m g s F p' w x w') : FmP n g s F p' w x w' := by
  obtain ⟨⟨v0, v1, v2, v3, v4, hx, hO⟩, h2⟩ := h
  exact ⟨⟨v0, v1, v2, v3, v4, hx, FmOwn.mono _ _ _ _ hm (SameOn.refl _ _) (fun _ h => h) hO⟩, h2⟩
/-- An equation's formula, before it is handed over. -/
def EqQ (m g rb : Nat) (s : ByteArray) (F : Fm) (pq : PSt) (ro : Obj) (w0 : World) (y : Value) (w : World) : Prop :=
  PAt 57 w g s pq ∧ w0.grownBy w (some g) ∧ FmV m (fun b => rb < b ∧ b < w.heap.size) w F y ∧ w.heap[rb]? = some ro
def EqSt (m g rb : Nat) (s : ByteArray) (F : Fm) (pq : PSt) (ro : Obj) (w0 : World) (CP : Value → World → Prop) (a0 a1 : Value) (W : World) : Nat → (Nat → Value) → World → Prop
  | 0, _, w => w = W.drew
  | 1, u, w => CP (u 2) w
  | 2, u, w => ∃ w1 v0 v1, CP (.agg #[v0, v1]) w1 ∧ u 3 = .slice (some ⟨w1.heap.size, 0, none⟩) 2 2 ∧ w = w1.alloc (.cells #[a0, a1, v0, v1] 24)
  | 3, u, w => ∃ w1 v0 v1, CP (.agg #[v0, v1]) w1 ∧ u 4 = .agg #[.string ⟨#[61]⟩, .slice (some ⟨w1.heap.size, 0, none⟩) 2 2] ∧ w = w1.alloc (.cells #[a0, a1, v0, v1] 24)
  | 4, u, w => EqQ m g rb s F pq ro w0 (u 5) w
  | 5, u, w => ∃ w5 y0 y1 y2 y3 y4, EqQ m g rb s F pq ro w0 (.agg #[y0, y1, y2, y3, y4]) w5 ∧ w = ((((w5.setCell ⟨rb, 0, none⟩ y0).setCell ⟨rb, 1, none⟩ y1).setCell ⟨rb, 2, none⟩ y2).setCell ⟨rb, 3, none⟩ y3).setCell ⟨rb, 4, none⟩ y4
  | _, _, _ => False
theorem EqSt.cells {m g rb bt : Nat} {s : ByteArray} {F : Fm} {pq : PSt} {ro : Obj} {w0 : World} {CP : Value → World → Prop} {a0 a1 x0 x1 : Value} {W : World} (hG : ∀ x w', CP x w' → W.grownBy w' (some g)) (h0 : W.cell? ⟨bt, 0, none⟩ = some x0) (h1 : W.cell? ⟨bt, 1, none⟩ = some x1) (hne : bt ≠ g) {j : Nat} (hj : j ≤ 1) {u : Nat → Value} {w : World}
    (h : EqSt m g rb s F pq ro w0 CP a0 a1 W j u w) : w.cell? ⟨bt, 0, none⟩ = some x0 ∧ w.cell? ⟨bt, 1, none⟩ = some x1 := by
  match j, hj, h with
  | 0, _, h => obtain rfl : w = W.drew := h; exact ⟨h0, h1⟩
  | 1, _, h => exact ⟨grown_cell (hG _ _ h) h0 (by simpa using hne), grown_cell (hG _ _ h) h1 (by simpa using hne)⟩
theorem EqQ.made {f g rb bt : Nat} {s : ByteArray} {p pq : PSt} {ro : Obj} {w0 W w1 w5 : World} {n : List UInt8} {v v0 v1 y : Value} {xs : List Tm} {tq : Tm} (h : TSt 24 57 ro w0 g rb bt s n p v xs f W) (hn : n.length ≤ 1000000) (hT : TermP 24 g W.heap.size s f tq pq 57 W.drew (.agg #[v0, v1]) w1)
    (hb : Below (w1.alloc (.cells #[.string ⟨n.toArray⟩, v, v0, v1] 24)).heap.size (w1.alloc (.cells #[.string ⟨n.toArray⟩, v, v0, v1] 24)) w5)
    (hV : FmV (f + 3) (fun b => rb < b ∧ b < w1.heap.size + 1) w5 (atomOfF (eqTm (.mk ⟨n.toArray⟩ xs) tq)) y) : EqQ (f + 3) g rb s (atomOfF (eqTm (.mk ⟨n.toArray⟩ xs) tq)) pq ro w0 y w5 := by
  obtain ⟨v0', v1', he, hO, hP, hG⟩ := hT
  obtain ⟨l1, l2, l3, l4⟩ := h.lt
  have hz : W.heap.size ≤ w1.heap.size := hG.size
  have hzb := hb.size
  simp at hzb
  have hk : ∀ b, b < w1.heap.size → w5.heap[b]? = w1.heap[b]? := fun b hlt => (hb.block b (by simp; omega)).trans (heap_alloc_old w1 _ hlt)
  have hG1 : W.grownBy w1 (some g) := ⟨hG.os, hG.tape, hG.output, hG.size, hG.block⟩
  refine ⟨(hk g (by omega)).trans hP, gr_below (gr_al (gr_trans h.gr hG1) _) hb, ?_, (hk rb (by omega)).trans ((hG1.block rb (by omega) (by simp; omega)).trans h.res)⟩
  obtain ⟨y0, y1, y2, y3, y4, rfl, hO5⟩ := hV
  exact ⟨_, _, _, _, _, rfl, FmOwn.mono _ _ _ _ (Nat.le_refl _) (SameOn.refl _ _) (fun b hb => ⟨hb.1, by omega⟩) hO5⟩
/-- The equation's term, owned, in the world in which its arguments' slice has been made. -/
theorem eq_own {f g rb bt : Nat} {s : ByteArray} {p pq : PSt} {ro : Obj} {w0 W w1 : World} {n : List UInt8} {v v0 v1 : Value} {xs : List Tm} {tq : Tm} (h : TSt 24 57 ro w0 g rb bt s n p v xs f W) (hn : n.length ≤ 1000000) (hT : TermP 24 g W.heap.size s f tq pq 57 W.drew (.agg #[v0, v1]) w1) :
    TmOwn 24 (f + 2) (fun b => rb < b ∧ b < w1.heap.size + 1) (w1.alloc (.cells #[.string ⟨n.toArray⟩, v, v0, v1] 24)) (eqTm (.mk ⟨n.toArray⟩ xs) tq) [.string ⟨#[61]⟩, .slice (some ⟨w1.heap.size, 0, none⟩) 2 2] := by
  obtain ⟨v0', v1', he, hO, hP, hG⟩ := hT
  simp only [Value.agg.injEq, Array.mk.injEq, List.cons.injEq, and_true] at he
  obtain ⟨rfl, rfl⟩ := he
  obtain ⟨l1, l2, l3, l4⟩ := h.lt
  have hz : W.heap.size ≤ w1.heap.size := hG.size
  have hG1 : W.grownBy w1 (some g) := ⟨hG.os, hG.tape, hG.output, hG.size, hG.block⟩
  have h1 := TmOwn.mono (f + 1) (f + 1) _ _ (Nat.le_refl _) (w' := w1) (fun b hb hlt => hG1.block b hlt (by simp; omega)) (fun _ h => h) (h.term hn)
  refine ⟨_, rfl, by decide, ?_⟩
  exact OwnRow.two' rfl [.string ⟨n.toArray⟩, v] [v0, v1] _ rfl rfl rfl (TmOwn.below ((Below.refl _ _).alloc (Nat.le_refl _) _) h1) (TmOwn.mono f (f + 1) _ _ (by omega) (SameOn.below ((Below.refl _ _).alloc (Nat.le_refl _) _)) (fun _ h => h) hO)
    (fun b hb => by omega) (fun b hb => hb.2) (fun b hb hb' => by omega) (fun b hb => by omega) (fun b hb => by omega) (by omega)
set_option maxRecDepth 100000 in
set_option maxHeartbeats 3200000 in
theorem atomEnglish_eq (f g : Nat) (s : ByteArray) (p : PSt) (w : World) (h : PAt 57 w g s p) (hp : p.pos ≤ s.size) (hs : s.size ≤ 1000000) (hf : s.size - p.pos < f)
    (h1 : pTake s.data.toList sEquals (pTerm s.data.toList f p).2 = true) :
    Calls Tryz.prog 67 #[.pointer (some ⟨g, 0, none⟩)] w fun e w' => ∃ x, e = .returned x ∧ FmP (f + 3) g s (pAtom s.data.toList f p).1 (pAtom s.data.toList f p).2 w x w' := by
  have H := Lib.hid h
  have hg := bsz h.lt
  have hpos := pTerm_pos s.data.toList f p (by rw [← size_list]; exact hp)
  rw [← size_list] at hpos
  have hnm := pTerm_name s.data.toList f p
  rw [← size_list, ← size_list] at hnm
  have hle := pTake_le h1 (by rw [← size_list]; exact hpos.2)
  rw [← size_list] at hle
  have hl8 : sEquals.length = 8 := rfl
  have HA := Lib.hid h1
  have HPA := Lib.hid (show pAtom s.data.toList f p = (atomOfF (eqTm (pTerm s.data.toList f p).1 (pTerm s.data.toList f (pAdv sEquals (pTerm s.data.toList f p).2)).1), (pTerm s.data.toList f (pAdv sEquals (pTerm s.data.toList f p).2)).2) by rw [pAtom, h1]; rfl)
  clear h h1
  go_enter Tryz.func67, Tryz.ntmps67
  go_wp2_with fail
  refine (term_any f g s p _ (H.out.below (by (repeat (first | with_reducible exact Below.refl _ _ | with_reducible assumption | with_reducible refine Below.al ?_ _ | with_reducible refine Below.sc ?_ (by first | exact Nat.le_refl _ | (simp; done) | (simp; omega)) _ | assumption | exact Below.refl _ _ | refine Below.dr ?_ | refine Below.drN ?_ _ | refine Below.step ?_ (by assumption))))) hp hs hf).mono ?_
  rintro e w1 ⟨x, rfl, v0, v1, rfl, hO, hP1, hg1⟩
  obtain ⟨pp, cc, rfl, rfl, -⟩ := hO.form
  generalize pTerm s.data.toList f p = r at *
  obtain ⟨t, p1⟩ := r
  simp only at hpos hO HA hP1 HPA hnm hle
  have HO := Lib.hid (show TmOwn 24 f (fun b => w.heap.size + 1 ≤ b ∧ b < w1.heap.size) w1 t _ by simpa using hO)
  have HG1 := Lib.hid hg1
  have ⟨c1, f1⟩ := gcell hg1
  have hz1 := hg1.size
  (try simp at hz1)
  have HP1 := Lib.hid hP1
  clear hO hP1 hg1
  go_wp2_with fail
  refine (take_any g s _ p1 _ (HP1.out.below (by (repeat (first | with_reducible exact Below.refl _ _ | with_reducible assumption | with_reducible refine Below.al ?_ _ | with_reducible refine Below.sc ?_ (by first | exact Nat.le_refl _ | (simp; done) | (simp; omega)) _ | assumption | exact Below.refl _ _ | refine Below.dr ?_ | refine Below.drN ?_ _ | refine Below.step ?_ (by assumption))))) hpos.2 (by omega) (by decide)).mono ?_
  rw [show (⟨#[32, 101, 113, 117, 97, 108, 115, 32]⟩ : ByteArray).data.toList = sEquals from rfl, HA.out]
  rintro e w2 ⟨_, rfl, rfl, h2, hg2⟩
  have HTS := Lib.hid (TSt.initT (s := s) (p := pAdv sEquals p1) (by omega) HO.out HG1.out hg2 h2)
  clear h2 hg2 c1 f1
  obtain ⟨hb0, hb1, -⟩ := cells2_cell HTS.out.cell
  have HB := Lib.hid (And.intro (show w2.cell? ⟨w1.heap.size, 0, none⟩ = some (.string t.n) from hb0) hb1)
  have hlt := HTS.out.lt
  clear hb0 hb1
  go_wp2
  obtain ⟨tq, htq⟩ : ∃ tq, (pTerm s.data.toList f (pAdv sEquals p1)).1 = tq := ⟨_, rfl⟩
  obtain ⟨pq, hpq⟩ : ∃ pq, (pTerm s.data.toList f (pAdv sEquals p1)).2 = pq := ⟨_, rfl⟩
  have HTQ := Lib.hid htq
  have HPQ := Lib.hid hpq
  have HRD := Lib.hid (show (pAdv sEquals p1).pos ≤ s.size ∧ s.size - (pAdv sEquals p1).pos < f by simp only [pAdv]; omega)
  have HPA2 := Lib.hid (show pAtom s.data.toList f p = (atomOfF (eqTm t tq), pq) by rw [HPA.out, htq, hpq])
  clear htq hpq
  obtain ⟨CP, hCP0⟩ : ∃ CP : Value → World → Prop, CP = TermP 24 g w2.heap.size s f tq pq 57 w2.drew := ⟨_, rfl⟩
  have HCP := Lib.hid hCP0
  have HGR := Lib.hid (show ∀ x w', CP x w' → w2.grownBy w' (some g) from by
    rw [hCP0]; rintro x w' ⟨_, _, _, _, _, hG⟩; exact ⟨hG.os, hG.tape, hG.output, hG.size, hG.block⟩)
  have HAGG := Lib.hid (show ∀ x w', CP x w' → ∃ pp cc, x = .agg #[.string tq.n, .slice pp tq.us.length cc] from by
    rw [hCP0]; rintro x w' ⟨v0, v1, hx, hO, _, _⟩
    obtain ⟨pp, cc, rfl, rfl, -⟩ := hO.form
    exact ⟨_, _, hx⟩)
  clear hCP0
  refine wp_region_stages [some (.agg #[.string t.n, .slice pp t.us.length cc]), some (.pointer (some ⟨g, 0, none⟩)), none, none, none, none, none] [2, 3, 4, 5, 6] (EqSt (f + 3) g w.heap.size s (atomOfF (eqTm t tq)) pq (.cells #[.int .i64 0, .string ⟨#[]⟩, .slice none 0 0, .string ⟨#[]⟩, .slice none 0 0] 27 (0, 0)) w CP (.string t.n) (.slice pp t.us.length cc) w2) (by kernel_rfl) (by kernel_rfl) (by first | kernel_rfl | rfl) (by rfl) rfl ?_
  refine chain_stb (c := 3) 1 rfl rfl (by decide) rfl rfl rfl (by first | kernel_rfl | rfl) ?_ ?_
  · intro j u w' hj hS
    obtain ⟨hc0, hc1⟩ := EqSt.cells HGR.out HB.out.1 HB.out.2 (by omega) hj hS
    go_simp
    first | done | exact ⟨hS, rfl⟩ | exact hS | rfl
  go_simp
  refine chain_st rfl rfl (by decide) rfl (by intro j u w' hS; go_simp; first | done | exact ⟨hS, rfl⟩ | exact hS | rfl) ?_
  go_simp
  refine chain_first rfl rfl rfl (by decide) rfl ?_ ?_
  · intro w' hS
    obtain rfl : w' = w2.drew := hS
    go_simp
    refine (term_any f g s _ _ (PAt.below HTS.out.at_ (by (repeat (first | with_reducible exact Below.refl _ _ | with_reducible assumption | with_reducible refine Below.al ?_ _ | with_reducible refine Below.sc ?_ (by first | exact Nat.le_refl _ | (simp; done) | (simp; omega)) _ | assumption | exact Below.refl _ _ | refine Below.dr ?_ | refine Below.drN ?_ _ | refine Below.step ?_ (by assumption))))) HRD.out.1 hs HRD.out.2).mono ?_
    rintro e w'' ⟨x, he, hx⟩
    rw [HTQ.out, HPQ.out] at hx
    exact ⟨x, he, by show CP (upd _ 2 x 2) w''; rw [upd_same, HCP.out]; exact hx⟩
  intro x
  go_simp
  refine chain_next 0 rfl rfl rfl rfl (by decide) rfl (by first | kernel_rfl | rfl) ?_ ?_
  · intro w' hS
    have hS : CP (upd _ 2 x 2) w' := hS
    rw [upd_same] at hS
    obtain ⟨pp4, cc4, rfl⟩ := HAGG.out _ _ hS
    go_simp
    exact ⟨w', _, _, hS, by rw [upd_same], rfl⟩
  intro y
  go_simp
  refine chain_next 1 rfl rfl rfl rfl (by decide) rfl (by first | kernel_rfl | rfl) ?_ ?_
  · intro w' hS
    obtain ⟨w3, v0, v1, hcp, hy, rfl⟩ := hS
    rw [upd_same] at hy
    subst hy
    go_simp
    exact ⟨w3, v0, v1, hcp, by rw [upd_same], rfl⟩
  intro z
  go_simp
  refine chain_next 2 rfl rfl rfl rfl (by decide) rfl (by first | kernel_rfl | rfl) ?_ ?_
  · intro w' hS
    obtain ⟨w3, v0, v1, hcp, hy, rfl⟩ := hS
    rw [upd_same] at hy
    subst hy
    have HE := Lib.hid (eq_own HTS.out (by rw [← size_list]; omega) (by rw [HCP.out] at hcp; exact hcp))
    have HCPP := Lib.hid hcp
    go_simp
    refine (atomOf_any (f + 2) _ _ _ _ _ HE.out).mono ?_
    rintro e w5 ⟨q, rfl, hV, hb5⟩
    refine ⟨q, rfl, ?_⟩
    show EqQ _ _ _ _ _ _ _ _ (upd _ 5 q 5) w5
    rw [upd_same]
    have hcp := HCPP.out
    rw [HCP.out] at hcp
    have hte : (Tm.mk ⟨t.n.data.toList.toArray⟩ t.us) = t := by obtain ⟨n, us⟩ := t; rfl
    have hq := EqQ.made HTS.out (by rw [← size_list]; omega) hcp hb5 hV
    rw [hte] at hq
    exact hq
  intro q
  go_simp
  refine chain_next 3 rfl rfl rfl rfl (by decide) rfl (by first | kernel_rfl | rfl) ?_ ?_
  · intro w' hS
    have hS : EqQ _ _ _ _ _ _ _ _ (upd _ 5 q 5) w' := hS
    rw [upd_same] at hS
    have HS := Lib.hid hS
    obtain ⟨hQ1, hQ2, ⟨y0, y1, y2, y3, y4, rfl, hO⟩, hro⟩ := hS
    obtain ⟨q1, d1, q2, d2, rfl, rfl, rfl, rfl, rfl, -⟩ := hO.form
    obtain ⟨r0, r1, r2, r3, r4, rf⟩ := cells5_cell hro
    clear hQ1 hQ2 hO hro
    go_simp
    exact ⟨w', _, _, _, _, _, HS.out, rfl⟩
  intro x'
  refine flowU_nil ?_
  intro wz hz
  obtain ⟨w5, y0, y1, y2, y3, y4, hQ, rfl⟩ := hz
  have HQ := Lib.hid hQ
  obtain ⟨hQ1, hQ2, ⟨y0', y1', y2', y3', y4', he, hO⟩, hro⟩ := hQ
  simp only [Value.agg.injEq, Array.mk.injEq, List.cons.injEq, and_true] at he
  obtain ⟨rfl, rfl, rfl, rfl, rfl⟩ := he
  obtain ⟨q1, d1, q2, d2, rfl, rfl, rfl, rfl, rfl, -⟩ := hO.form
  obtain ⟨r0, r1, r2, r3, r4, rf⟩ := cells5_cell hro
  clear hQ1 hQ2 hO hro
  go_simp
  go_wp2
  refine bodyPost_ret (v := .agg #[.int .i64 (atomOfF (eqTm t tq)).op, .string (atomOfF (eqTm t tq)).a.n, .slice q1 (atomOfF (eqTm t tq)).a.us.length d1, .string (atomOfF (eqTm t tq)).v, .slice q2 (atomOfF (eqTm t tq)).ps.length d2]) (by simp only [results, Tryz.results67]; go_simp) rfl ⟨_, rfl, ?_⟩
  rw [HPA2.out]
  exact FmP.of HQ.out.1 HQ.out.2.1 (Below.refl _ _) HQ.out.2.2.1 (fun b hb => hb) (Nat.le_refl _) (by omega) _ _ _ _ _
theorem readAtom_any (f g : Nat) (s : ByteArray) (p : PSt) (w : World) (h : PAt 57 w g s p) (hp : p.pos ≤ s.size) (hs : s.size ≤ 1000000) (hf : s.size - p.pos < f) :
    Calls Tryz.prog 67 #[.pointer (some ⟨g, 0, none⟩)] w fun e w' => ∃ x, e = .returned x ∧ FmP (f + 3) g s (pAtom s.data.toList f p).1 (pAtom s.data.toList f p).2 w x w' := by
  cases h1 : pTake s.data.toList sEquals (pTerm s.data.toList f p).2
  · cases h2 : pTake s.data.toList sHoldsOf (pTerm s.data.toList f p).2
    · exact (atomEnglish_one f g s p w h hp hs hf h1 h2).mono fun e w' ⟨x, he, hx⟩ => ⟨x, he, hx.mono (by omega)⟩
    · exact (atomEnglish_of f g s p w h hp hs hf h1 h2).mono fun e w' ⟨x, he, hx⟩ => ⟨x, he, hx.mono (by omega)⟩
  · exact atomEnglish_eq f g s p w h hp hs hf h1
end Go.Proofs.YtdklemmincejpaaGreat
