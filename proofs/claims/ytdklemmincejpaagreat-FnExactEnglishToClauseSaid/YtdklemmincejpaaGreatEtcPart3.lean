/- The order of terms: the program's and the reference's. Conditions: names as valid terms have them. -/
import Derived.Laws.OwnMore
import Derived.OwnWalk
import Derived.Deep.RegionHeld3
import Derived.Laws.Cover1
import Derived.Lib.Small
import Derived.Test.YtdklemmincejpaaGreatEtcPart1
import Derived.Test.YtdklemmincejpaaGreatEtcPart2
namespace Go.Proofs.YtdklemmincejpaaGreat
open Go.RowKit
theorem pTake_le {L t : List UInt8} {p : PSt} (h : pTake L t p = true) (hp : p.pos ≤ L.length) : p.pos + t.length ≤ L.length := by
  simp only [pTake, Bool.and_eq_true] at h
  have := (List.isPrefixOf_iff_prefix.1 h.2).length_le
  rw [List.length_drop] at this; omega
theorem pWordL_le (L : List UInt8) (p : PSt) (hp : p.pos ≤ L.length) : p.pos + (pWordL L p).length ≤ L.length := by
  have : (pWordL L p).length ≤ (L.drop p.pos).length := (List.takeWhile_sublist _).length_le
  rw [List.length_drop] at this; omega
theorem pWord_len (L : List UInt8) (p : PSt) : (pWord L p).1.length ≤ L.length := by
  have h : (pWordL L p).length ≤ (L.drop p.pos).length := (List.takeWhile_sublist _).length_le
  rw [List.length_drop] at h
  unfold pWord; split <;> simp <;> omega
theorem pWord_pos (L : List UInt8) (p : PSt) (hp : p.pos ≤ L.length) : p.pos ≤ (pWord L p).2.pos ∧ (pWord L p).2.pos ≤ L.length := by
  have := pWordL_le L p hp
  unfold pWord; split <;> (constructor <;> simp <;> omega)
theorem pMust_pos (L t : List UInt8) (p : PSt) (hp : p.pos ≤ L.length) : p.pos ≤ (pMust L t p).pos ∧ (pMust L t p).pos ≤ L.length := by
  unfold pMust
  split
  · rename_i h; have := pTake_le h hp; simp only [pAdv]; omega
  · exact ⟨Nat.le_refl _, hp⟩
mutual
theorem pTerm_pos (L : List UInt8) : ∀ (f : Nat) (p : PSt), p.pos ≤ L.length → p.pos ≤ (pTerm L f p).2.pos ∧ (pTerm L f p).2.pos ≤ L.length
  | 0, p, hp => by rw [pTerm]; exact ⟨Nat.le_refl _, hp⟩
  | f + 1, p, hp => by
    have h1 := pWord_pos L p hp
    rw [pTerm]
    split
    · rename_i ht
      have h2 := pTake_le ht h1.2
      have h3 := pTerm_pos L f (pAdv [40] (pWord L p).2) h2
      have h4 := pArgs_pos L [44] f _ h3.2
      have h5 := pMust_pos L [41] _ h4.2
      simp only [pAdv] at h3 h4 h5 ⊢
      omega
    · exact h1
theorem pArgs_pos (L sep : List UInt8) : ∀ (f : Nat) (p : PSt), p.pos ≤ L.length → p.pos ≤ (pArgs L sep f p).2.pos ∧ (pArgs L sep f p).2.pos ≤ L.length
  | 0, p, hp => by rw [pArgs]; exact ⟨Nat.le_refl _, hp⟩
  | f + 1, p, hp => by
    rw [pArgs]
    split
    · rename_i ht
      have h2 := pTake_le ht hp
      have h3 := pTerm_pos L f (pAdv sep p) h2
      have h4 := pArgs_pos L sep f _ h3.2
      simp only [pAdv] at h3 h4 ⊢
      omega
    · exact ⟨Nat.le_refl _, hp⟩
end
end Go.Proofs.YtdklemmincejpaaGreat
namespace Go.Proofs.YtdklemmincejpaaGreat
open Go.RowKit
/-- What a call of the reader leaves: a tree in new memory, its value x. -/
def TermP (T : TypeId) (g lo : Nat) (s : ByteArray) (f : Nat) (t : Tm) (p' : PSt) (TP : TypeId) (W : World) (x : Value) (w : World) : Prop :=
  ∃ v0 v1, x = .agg #[v0, v1] ∧ TmOwn T f (fun b => lo ≤ b ∧ b < w.heap.size) w t [v0, v1] ∧ PAt TP w g s p' ∧ W.grownBy w (some g)
theorem TermP.mono {T TP : TypeId} {g lo f f' : Nat} {s : ByteArray} {t : Tm} {p' : PSt} {W w : World} {x : Value} (hf : f ≤ f') (h : TermP T g lo s f t p' TP W x w) : TermP T g lo s f' t p' TP W x w := by
  obtain ⟨v0, v1, h1, h2, h3⟩ := h
  exact ⟨v0, v1, h1, TmOwn.mono f f' t _ hf (SameOn.refl _ _) (fun _ h => h) h2, h3⟩
/-- The stages of 't.Args = append(t.Args, p.term())': i, j, k, l are the numbers of the call, the slice built, the append, the store. -/
def AppSt (T : TypeId) (g bt : Nat) (CP : Value → World → Prop) (v : Value) (n : Nat) (W : World) (i j k : Nat) : Nat → (Nat → Value) → World → Prop
  | 0, _, w => w = W.drew
  | 1, u, w => CP (u i) w
  | 2, u, w => ∃ w1 v0 v1, CP (.agg #[v0, v1]) w1 ∧ u j = .slice (some ⟨w1.heap.size, 0, none⟩) 1 1 ∧ w = w1.alloc (.cells #[v0, v1] T)
  | 3, u, w => ∃ w1 v0 v1, CP (.agg #[v0, v1]) w1 ∧ (∀ b xs, w1.ownsRow b T 2 v n xs → b ≤ w1.heap.size → w.ownsRow b T 2 (u k) (n + 1) (xs ++ [v0, v1])) ∧ w1.grownBy w v.ownBlock ∧ NewRow v (u k) w1.heap.size ∧ w1.heap.size < w.heap.size
  | 4, u, w => ∃ w1 w3 v0 v1, CP (.agg #[v0, v1]) w1 ∧ (∀ b xs, w1.ownsRow b T 2 v n xs → b ≤ w1.heap.size → w3.ownsRow b T 2 (u k) (n + 1) (xs ++ [v0, v1])) ∧ w1.grownBy w3 v.ownBlock ∧ NewRow v (u k) w1.heap.size ∧ w1.heap.size < w3.heap.size ∧ w = w3.setCell ⟨bt, 1, none⟩ (u k)
  | _, _, _ => False
theorem AppSt.cell {T : TypeId} {g bt n i j k : Nat} {CP : Value → World → Prop} {v v' : Value} {W : World} (hG : ∀ x w', CP x w' → W.grownBy w' (some g)) (hc : W.cell? ⟨bt, 1, none⟩ = some v') (hne : bt ≠ g) {m : Nat} (hm : m ≤ 2) {u : Nat → Value} {w : World} (h : AppSt T g bt CP v n W i j k m u w) : w.cell? ⟨bt, 1, none⟩ = some v' := by
  match m, hm, h with
  | 0, _, h => obtain rfl : w = W.drew := h; exact hc
  | 1, _, h => exact grown_cell (hG _ _ h) hc (by simpa using hne)
  | 2, _, h =>
    obtain ⟨w1, v0, v1, h1, _, rfl⟩ := h
    have h2 := grown_cell (hG _ _ h1) hc (by simpa using hne)
    exact (((Below.refl w1.heap.size w1).alloc (Nat.le_refl _) _).cell (World.block_lt_of_cell? w1 _ h2)).trans h2
/-- The middle of a reading: block rb waits for the result, block bt is the struct in the making (a name, the arguments xs so far), the reader is in state p. -/
structure TSt (T TP : TypeId) (ro : Obj) (w : World) (g rb bt : Nat) (s : ByteArray) (n : List UInt8) (p : PSt) (v : Value) (xs : List Tm) (f : Nat) (W : World) : Prop where
  at_ : PAt TP W g s p
  cell : W.heap[bt]? = some (.cells #[.string ⟨n.toArray⟩, v] T (0, 0))
  res : W.heap[rb]? = some ro
  row : OwnRow (fun b => rb < b ∧ b ≠ bt ∧ b < W.heap.size) W T 2 (fun S x c => TmOwn T f S W x c) v xs
  gr : w.grownBy W (some g)
  lt : g < w.heap.size ∧ w.heap.size ≤ rb ∧ rb < bt ∧ bt < W.heap.size
theorem heap_lt {w : World} {b : Nat} {o : Obj} (h : w.heap[b]? = some o) : b < w.heap.size := by
  rcases Nat.lt_or_ge b w.heap.size with h' | h'
  · exact h'
  · rw [Array.getElem?_eq_none h'] at h; cases h
theorem own_lt' {w : World} {base : Nat} {e : TypeId} {size : Nat} {v : Value} {n : Nat} {xs : List Value} (h : w.ownsRow base e size v n xs) {g : Nat} (hg : v.ownBlock = some g) : g < w.heap.size := by
  rcases h.2 with ⟨rfl, _⟩ | ⟨g', cap, cur, rfl, _, hh, _⟩
  · simp [Value.ownBlock] at hg
  · have : g' = g := by simpa [Value.ownBlock] using hg
    subst this; exact heap_lt hh
theorem elemTmI : Elem Tryz.prog 22 24 2 40 := elem_of Tryz.underlying22 (z := .agg #[.string ⟨#[]⟩, .slice none 0 0]) (by kernel_rfl) rfl (by omega)
theorem TSt.three {T TP : TypeId} {ro : Obj} {w W w' : World} {g rb bt : Nat} {s : ByteArray} {n : List UInt8} {p : PSt} {v z : Value} {xs : List Tm} {f : Nat} {CP : Value → World → Prop} (h : TSt T TP ro w g rb bt s n p v xs f W) (hG : ∀ x w', CP x w' → W.grownBy w' (some g))
    {w1 : World} {v0 v1 x : Value} (hcp : CP x w1) (happ : ∀ b ys, w1.ownsRow b T 2 v xs.length ys → b ≤ w1.heap.size → w'.ownsRow b T 2 z (xs.length + 1) (ys ++ [v0, v1])) (hg3 : w1.grownBy w' v.ownBlock) :
    (∃ q c, z = .slice (some ⟨q, 0, none⟩) (xs.length + 1) c) ∧ w'.heap[bt]? = some (.cells #[.string ⟨n.toArray⟩, v] T (0, 0)) := by
  obtain ⟨l1, l2, l3, l4⟩ := h.lt
  have hG1 := hG _ _ hcp
  have hz1 := hG1.size
  obtain ⟨hm, vals, Ss, r1, r2, r3, r4⟩ := h.row
  have h1 := happ 0 vals (own_same r1 fun b hb hl => hG1.block b hl (by have := r2 b hb; simp; omega)) (Nat.zero_le _)
  refine ⟨own_form h1 (by omega), ?_⟩
  exact (hg3.block bt (by omega) (fun e => (r2 bt e.symm).2.1 rfl)).trans ((hG1.block bt l4 (by simp; omega)).trans h.cell)
theorem TSt.app {T TP : TypeId} {ro : Obj} {w W w4 : World} {g rb bt : Nat} {s : ByteArray} {n : List UInt8} {p p' : PSt} {v : Value} {xs : List Tm} {f i j k : Nat} {t : Tm} {u : Nat → Value} (h : TSt T TP ro w g rb bt s n p v xs f W)
    (hA : AppSt T g bt (TermP T g W.heap.size s f t p' TP W.drew) v xs.length W i j k 4 u w4) (hlen : xs.length + 1 ≤ 1000000) : TSt T TP ro w g rb bt s n p' (u k) (xs ++ [t]) f w4 := by
  obtain ⟨w1, w3, v0, v1, ⟨v0', v1', he, hO, hP, hG⟩, happ, hg3, hnr, hsz, rfl⟩ := hA
  simp only [Value.agg.injEq, Array.mk.injEq, List.cons.injEq, and_true] at he
  obtain ⟨rfl, rfl⟩ := he
  obtain ⟨l1, l2, l3, l4⟩ := h.lt
  have hG1 : W.grownBy w1 (some g) := ⟨hG.os, hG.tape, hG.output, hG.size, hG.block⟩
  have hz1 := hG1.size
  obtain ⟨hm, vals, Ss, r1, r2, r3, r4⟩ := h.row
  have hvb : ∀ b, v.ownBlock = some b → rb < b ∧ b ≠ bt ∧ b < W.heap.size := fun b hb => r2 b hb
  have keep : ∀ b, b < W.heap.size → b ≠ g → v.ownBlock ≠ some b → w3.heap[b]? = W.heap[b]? := fun b hb hne hv => (hg3.block b (by omega) (fun e => hv e.symm)).trans (hG1.block b hb (by simpa using hne))
  have nob : ∀ b, (b ≤ rb ∨ b = bt) → v.ownBlock ≠ some b := fun b hb e => by have := hvb b e; omega
  have hrow1 := h.row.mono (S' := fun b => rb < b ∧ b ≠ bt ∧ b < W.heap.size) (w' := w1) (R' := fun S x c => TmOwn T f S w1 x c) (fun b hb hlt => hG1.block b hlt (by simp; omega)) (fun _ h => h)
    (fun S x c _ hS hx => TmOwn.mono f f x c (Nat.le_refl _) (fun b hb hlt => hG1.block b hlt (by have := hS b hb; simp; omega)) (fun _ h => h) hx)
  have hown3 : ∀ b, (u k).ownBlock = some b → b < w3.heap.size := fun b hb => own_lt' (happ 0 vals (own_same r1 fun b' hb' hlt => hG1.block b' hlt (by have := hvb b' hb'; simp; omega)) (Nat.zero_le _)) hb
  have hrow3 := OwnRow.snoc (S' := fun b => rb < b ∧ b ≠ bt ∧ b < w3.heap.size) (R' := fun S x c => TmOwn T f S w3 x c) hrow1 hO rfl (fun vals' hv => happ 0 vals' hv (Nat.zero_le _)) hg3 hnr (by unfold maxLen; omega)
    (fun b hb hS => by omega) (fun b hb => by omega) (fun b hb => hb.2) (fun b hb => by omega) (fun b hb => by omega)
    (fun b hb => ⟨by
      rcases hnr with e | ⟨b', e, hge⟩
      · rw [e] at hb; exact (hvb b hb).1
      · rw [e] at hb; injection hb with hb; omega, by
      rcases hnr with e | ⟨b', e, hge⟩
      · rw [e] at hb; exact (hvb b hb).2.1
      · rw [e] at hb; injection hb with hb; omega, hown3 b hb⟩)
    (fun S x c hS hx => TmOwn.mono f f x c (Nat.le_refl _) (fun b hb hlt => hg3.block b hlt (fun e => (hS b hb).2 e.symm)) (fun _ h => h) hx)
  have hbt3 : w3.heap[bt]? = some (.cells #[.string ⟨n.toArray⟩, v] T (0, 0)) := (keep bt l4 (by omega) (nob bt (.inr rfl))).trans h.cell
  refine ⟨?_, ?_, ?_, ?_, ?_, l1, l2, l3, by simp; omega⟩
  · have h3 : PAt TP w3 g s p' := (hg3.block g (by omega) (fun e => nob g (.inl (by omega)) e.symm)).trans hP
    exact (heap_setCell_other w3 ⟨bt, 1, none⟩ g (u k) (by simp; omega)).trans h3
  · have := heap_setCell_same w3 bt 1 _ T (u k) hbt3
    simpa using this
  · exact (heap_setCell_other w3 ⟨bt, 1, none⟩ rb (u k) (by simp; omega)).trans ((keep rb (by omega) (by omega) (nob rb (.inl (Nat.le_refl _)))).trans h.res)
  · exact hrow3.mono (fun b hb hlt => heap_setCell_other w3 ⟨bt, 1, none⟩ b (u k) (by simp; omega)) (fun b hb => by simpa using hb)
      (fun S x c _ hS hx => TmOwn.mono f f x c (Nat.le_refl _) (fun b hb hlt => heap_setCell_other w3 ⟨bt, 1, none⟩ b (u k) (by have := hS b hb; simp; omega)) (fun _ h => h) hx)
  · have h1 := gr_trans h.gr hG1
    have h3 : w.grownBy w3 (some g) := ⟨hg3.os.trans h1.os, hg3.tape.trans h1.tape, hg3.output.trans h1.output, Nat.le_trans h1.size (Nat.le_of_lt (Nat.lt_of_le_of_lt (Nat.le_refl _) hsz)), fun b hb hne => (hg3.block b (Nat.lt_of_lt_of_le hb h1.size) (fun e => nob b (.inl (by omega)) e.symm)).trans (h1.block b hb hne)⟩
    exact gr_sc h3 (.inr (by simp; omega)) _
/-- The reader moves on. -/
theorem TSt.reader {T TP : TypeId} {ro : Obj} {w W w' : World} {g rb bt : Nat} {s : ByteArray} {n : List UInt8} {p p' : PSt} {v : Value} {xs : List Tm} {f : Nat} (h : TSt T TP ro w g rb bt s n p v xs f W) (hP : PAt TP w' g s p') (hG : W.grownBy w' (some g)) : TSt T TP ro w g rb bt s n p' v xs f w' := by
  obtain ⟨l1, l2, l3, l4⟩ := h.lt
  have hz := hG.size
  refine ⟨hP, (hG.block bt l4 (by simp; omega)).trans h.cell, (hG.block rb (by omega) (by simp; omega)).trans h.res, ?_, gr_trans h.gr hG, l1, l2, l3, by omega⟩
  exact h.row.mono (fun b hb hlt => hG.block b hlt (by simp; omega)) (fun b hb => by omega)
    (fun S x c _ hS hx => TmOwn.mono f f x c (Nat.le_refl _) (fun b hb hlt => hG.block b hlt (by have := hS b hb; simp; omega)) (fun _ h => h) hx)
theorem cells2_cell {w : World} {g : Nat} {x y : Value} {t : TypeId} (h : w.heap[g]? = some (.cells #[x, y] t (0, 0))) : w.cell? ⟨g, 0, none⟩ = some x ∧ w.cell? ⟨g, 1, none⟩ = some y ∧ (∀ j, w.frozen? ⟨g, j, none⟩ = false) := by
  refine ⟨?_, ?_, fun j => frozen_of_row w g j _ _ h⟩
  · rw [cell_of_row w g 0 _ _ (0, 0) h]; rfl
  · rw [cell_of_row w g 1 _ _ (0, 0) h]; rfl
theorem TSt.init {T TP : TypeId} {w w1 w2 : World} {g : Nat} {s : ByteArray} {n : List UInt8} {p : PSt} {f : Nat} (hg : g < w.heap.size) (hg1 : (w.alloc (.cells #[.string ⟨#[]⟩, .slice none 0 0] T)).grownBy w1 (some g))
    (hg2 : (w1.alloc (.cells #[.string ⟨n.toArray⟩, .slice none 0 0] T)).grownBy w2 (some g)) (hP : PAt TP w2 g s p) : TSt T TP (.cells #[.string ⟨#[]⟩, .slice none 0 0] T (0, 0)) w g w.heap.size w1.heap.size s n p (.slice none 0 0) [] f w2 := by
  have h1 := hg1.size
  have h2 := hg2.size
  simp at h1 h2
  have ha := gr_trans (gr_al (gr_refl w g) _) hg1
  refine ⟨hP, ?_, ?_, OwnRow.nil _ _ _ _ _, gr_trans (gr_al ha _) hg2, hg, Nat.le_refl _, by omega, by omega⟩
  · exact (hg2.block w1.heap.size (by simp) (by simp; omega)).trans (heap_alloc_new w1 _)
  · refine (hg2.block w.heap.size (by simp; omega) (by simp; omega)).trans ((hao w1 _ _ (by omega)).trans ?_)
    exact (hg1.block w.heap.size (by simp) (by simp; omega)).trans (heap_alloc_new w _)
/-- The struct is handed over. -/
theorem TSt.done {T TP : TypeId} {ro : Obj} {w W : World} {g rb bt : Nat} {s : ByteArray} {n : List UInt8} {p : PSt} {v : Value} {xs : List Tm} {f : Nat} (h : TSt T TP ro w g rb bt s n p v xs f W) (hn : n.length ≤ 1000000) (a b : Value) :
    TermP T g w.heap.size s (f + 1) (.mk ⟨n.toArray⟩ xs) p TP w (.agg #[.string ⟨n.toArray⟩, v]) ((W.setCell ⟨rb, 0, none⟩ a).setCell ⟨rb, 1, none⟩ b) := by
  obtain ⟨l1, l2, l3, l4⟩ := h.lt
  have hk : ∀ c, c ≠ rb → ((W.setCell ⟨rb, 0, none⟩ a).setCell ⟨rb, 1, none⟩ b).heap[c]? = W.heap[c]? := fun c hc => (heap_setCell_other _ ⟨rb, 1, none⟩ c b (fun e => hc e)).trans (heap_setCell_other W ⟨rb, 0, none⟩ c a (fun e => hc e))
  refine ⟨_, _, rfl, ⟨_, rfl, by show n.toArray.size ≤ _; unfold maxLen; simp; omega, ?_⟩, ?_, gr_sc (gr_sc h.gr (.inr l2) _) (.inr l2) _⟩
  · exact h.row.mono (fun c hc _ => hk c (by omega)) (fun c hc => by simp; omega)
      (fun S x c _ hS hx => TmOwn.mono f f x c (Nat.le_refl _) (fun d hd _ => hk d (by have := (hS d hd).1; omega)) (fun _ h => h) hx)
  · exact (hk g (by omega)).trans h.at_
end Go.Proofs.YtdklemmincejpaaGreat
namespace Go.Proofs.YtdklemmincejpaaGreat
open Go.RowKit
mutual
def Tm.wt : Tm → Nat | .mk n us => n.size + us.length + Tm.wts us
def Tm.wts : List Tm → Nat | [] => 0 | a :: us => a.wt + Tm.wts us
end
theorem Tm.wts_le (us : List Tm) {k : Nat} (h : k < us.length) : us[k].wt ≤ Tm.wts us := by
  induction us generalizing k with
  | nil => simp at h
  | cons a us ih =>
    cases k with
    | zero => simp [Tm.wts]
    | succ k => have := ih (k := k) (by simpa using h); simp only [List.getElem_cons_succ, Tm.wts]; omega
set_option maxRecDepth 100000 in
set_option maxHeartbeats 1600000 in
theorem eqTermS_of {B B' : Nat → Prop} (m : Nat) (ih : ∀ (t : Tm) (v0 v1 u0 u1 : Value) (w : World), TmAt B m w t [v0, v1] → TmAt B' m w t [u0, u1] →
      Calls Tryz.prog 33 #[.agg #[v0, v1], .agg #[u0, u1]] w fun e w' => e = .returned (.bool true) ∧ Below w.heap.size w w')
    (us : List Tm) (va ua : Value) (w : World) (h : ListAt B w 2 (TmAt B m w) va us) (h' : ListAt B' w 2 (TmAt B' m w) ua us) :
    Calls Tryz.prog 72 #[va, ua] w fun e w' => e = .returned (.bool true) ∧ Below w.heap.size w w' := by
  obtain ⟨p, c, rfl, hlen⟩ := h.form
  obtain ⟨p', c', rfl, -⟩ := h'.form
  unfold maxLen at hlen
  have H := Lib.hid h
  have H' := Lib.hid h'
  have IH := Lib.hid ih
  clear h h' ih
  go_enter Tryz.func72, Tryz.ntmps72
  go_wp2
  go_loopw [5] (fun i wr => ∃ k : Nat, k ≤ us.length ∧ i = .int .i64 k ∧ Below w.heap.size w wr) (fun i _ => us.length - (intOf i).toNat)
  case atStart => exact ⟨0, Nat.zero_le _, rfl, by (repeat (first | with_reducible exact Below.refl _ _ | with_reducible assumption | with_reducible refine Below.al ?_ _ | with_reducible refine Below.sc ?_ (by first | exact Nat.le_refl _ | (simp; done) | (simp; omega)) _ | assumption | exact Below.refl _ _ | refine Below.dr ?_ | refine Below.drN ?_ _ | refine Below.step ?_ (by assumption)))⟩
  case round =>
    obtain ⟨k, hk, rfl, hb⟩ := hrel
    by_cases hlt : k < us.length
    · obtain ⟨b, o, rfl, hB, x0, x1, hx0, hx1, hx⟩ := (H.out.mono (SameOn.below hb) (fun _ h => h) (fun x cs _ hx => TmAt.below hb hx)).at2 hlt
      obtain ⟨b', o', rfl, hB', y0, y1, hy0, hy1, hy⟩ := (H'.out.mono (SameOn.below hb) (fun _ h => h) (fun x cs _ hx => TmAt.below hb hx)).at2 hlt
      obtain ⟨a, ha⟩ : ∃ a, us[k] = a := ⟨_, rfl⟩
      rw [ha] at hx hy
      have HX := Lib.hid hx
      have HY := Lib.hid hy
      clear hx hy ha
      go_wp2
      obtain ⟨C, HC0⟩ := class_of (InF wr.heap.size _ [(⟨b, o + k * 2, none⟩, x0), (⟨b, o + k * 2 + 1, none⟩, x1), (⟨b', o' + k * 2, none⟩, y0), (⟨b', o' + k * 2 + 1, none⟩, y1)] [] [])
      have HC := Lib.hid HC0
      clear HC0
      refine wp_region_flow (C := C) (by kernel_rfl) (by kernel_rfl) (fun L hL => (HC.out _ _).2 (InF.start (by first | (intro _ hs; cases hs; done) | (simp only [List.forall_mem_cons]; go_simp)) (by first | (intro _ hs; cases hs; done) | (simp only [List.forall_mem_cons]; go_simp)) (by first | (intro _ hs; cases hs; done) | (simp only [List.forall_mem_cons]; go_simp)) (by first | (intro _ hs; cases hs; done) | (simp only [List.forall_mem_cons]; go_simp)) L hL)) ?_
      repeat (first | (apply flow_free rfl; (intro L w' hun hrd hC; have hC := (HC.out _ _).1 hC; have hb' := hC.below; (try have hw' : Below w.heap.size w w' := by first | exact Below.trans (by (repeat (first | with_reducible exact Below.refl _ _ | with_reducible assumption | with_reducible refine Below.al ?_ _ | with_reducible refine Below.sc ?_ (by first | exact Nat.le_refl _ | (simp; done) | (simp; omega)) _ | assumption | exact Below.refl _ _ | refine Below.dr ?_ | refine Below.drN ?_ _ | refine Below.step ?_ (by assumption)))) hb' | ((repeat (first | with_reducible exact Below.refl _ _ | with_reducible assumption | with_reducible refine Below.al ?_ _ | with_reducible refine Below.sc ?_ (by first | exact Nat.le_refl _ | (simp; done) | (simp; omega)) _ | assumption | exact Below.refl _ _ | refine Below.dr ?_ | refine Below.drN ?_ _ | refine Below.step ?_ (by assumption))); done)); have hf' := hC.cell; (try simp only [List.forall_mem_cons] at hf'); go_simp; first | exact ⟨(HC.out _ _).2 (hC.skip _ (by rfl)), rfl⟩ | (rw [if_neg]; (exact ⟨(HC.out _ _).2 (hC.skip _ (by rfl)), rfl⟩); omega) | (go_at_call 33; refine (IH.out a x0 x1 y0 y1 _ (HX.out.below hb') (HY.out.below hb')).mono ?_; rintro e w1 ⟨rfl, hb1⟩; exact ⟨rfl, (HC.out _ _).2 ((hC.next (by first | (simp; done) | (simp; omega) | omega) hb1).skip _ (by rfl))⟩)); go_simp) | (apply flow_yes; (case hw => go_simp); (intro L w' hun hrd hC; have hC := (HC.out _ _).1 hC; have hb' := hC.below; (try have hw' : Below w.heap.size w w' := by first | exact Below.trans (by (repeat (first | with_reducible exact Below.refl _ _ | with_reducible assumption | with_reducible refine Below.al ?_ _ | with_reducible refine Below.sc ?_ (by first | exact Nat.le_refl _ | (simp; done) | (simp; omega)) _ | assumption | exact Below.refl _ _ | refine Below.dr ?_ | refine Below.drN ?_ _ | refine Below.step ?_ (by assumption)))) hb' | ((repeat (first | with_reducible exact Below.refl _ _ | with_reducible assumption | with_reducible refine Below.al ?_ _ | with_reducible refine Below.sc ?_ (by first | exact Nat.le_refl _ | (simp; done) | (simp; omega)) _ | assumption | exact Below.refl _ _ | refine Below.dr ?_ | refine Below.drN ?_ _ | refine Below.step ?_ (by assumption))); done)); have hf' := hC.cell; (try simp only [List.forall_mem_cons] at hf'); go_simp; first | exact ⟨(HC.out _ _).2 (hC.skip _ (by rfl)), rfl⟩ | (rw [if_neg]; (exact ⟨(HC.out _ _).2 (hC.skip _ (by rfl)), rfl⟩); omega) | (go_at_call 33; refine (IH.out a x0 x1 y0 y1 _ (HX.out.below hb') (HY.out.below hb')).mono ?_; rintro e w1 ⟨rfl, hb1⟩; exact ⟨rfl, (HC.out _ _).2 ((hC.next (by first | (simp; done) | (simp; omega) | omega) hb1).skip _ (by rfl))⟩)); go_simp) | (apply flow_no; (case hw => (go_simp; try (intro hh; cases hh))); (intro L w' _ _ hC; exact (HC.out _ _).2 (((HC.out _ _).1 hC).skip _ (by rfl))); go_simp))
      refine flow_nil ?_
      intro L wz hL hz
      have hz := (HC.out _ _).1 hz
      have hbz := hz.below
      have hcz := hz.cell
      try simp only [List.forall_mem_cons] at hcz
      have hdz := hz.done
      try simp only [List.forall_mem_cons] at hdz
      (try have hwz : Below w.heap.size w wz := by first | exact Below.trans (by (repeat (first | with_reducible exact Below.refl _ _ | with_reducible assumption | with_reducible refine Below.al ?_ _ | with_reducible refine Below.sc ?_ (by first | exact Nat.le_refl _ | (simp; done) | (simp; omega)) _ | assumption | exact Below.refl _ _ | refine Below.dr ?_ | refine Below.drN ?_ _ | refine Below.step ?_ (by assumption)))) hbz | ((repeat (first | with_reducible exact Below.refl _ _ | with_reducible assumption | with_reducible refine Below.al ?_ _ | with_reducible refine Below.sc ?_ (by first | exact Nat.le_refl _ | (simp; done) | (simp; omega)) _ | assumption | exact Below.refl _ _ | refine Below.dr ?_ | refine Below.drN ?_ _ | refine Below.step ?_ (by assumption))); done))
      go_wp2
      refine ⟨⟨k + 1, by omega, by go_num, Below.step hb hbz⟩, by simp [intOf]; omega⟩
    · go_wp2
      go_ret
      exact ⟨rfl, hb⟩
set_option maxRecDepth 100000 in
set_option maxHeartbeats 1600000 in
theorem eqTerm_same {B B' : Nat → Prop} : ∀ (m : Nat) (t : Tm) (v0 v1 u0 u1 : Value) (w : World), TmAt B m w t [v0, v1] → TmAt B' m w t [u0, u1] →
      Calls Tryz.prog 33 #[.agg #[v0, v1], .agg #[u0, u1]] w fun e w' => e = .returned (.bool true) ∧ Below w.heap.size w w' := by
  intro m
  induction m with
  | zero => intro t v0 v1 u0 u1 w h; exact h.elim
  | succ m ih =>
    rintro ⟨s, us⟩ v0 v1 u0 u1 w ⟨va, hcs, hs, hl⟩ ⟨va', hcs', hs', hl'⟩
    simp only [List.cons.injEq, and_true] at hcs hcs'
    obtain ⟨rfl, rfl⟩ := hcs
    obtain ⟨rfl, rfl⟩ := hcs'
    have HS := Lib.hid (eqTermS_of m ih)
    have HL := Lib.hid hl
    have HL' := Lib.hid hl'
    obtain ⟨p, c, rfl, -⟩ := hl.form
    obtain ⟨p', c', rfl, -⟩ := hl'.form
    clear ih hl hl' hs hs'
    go_enter Tryz.func33, Tryz.ntmps33
    go_wp2_with fail
    refine (HS.out us _ _ _ (HL.out.mono (SameOn.below (by (repeat (first | with_reducible exact Below.refl _ _ | with_reducible assumption | with_reducible refine Below.al ?_ _ | with_reducible refine Below.sc ?_ (by first | exact Nat.le_refl _ | (simp; done) | (simp; omega)) _ | assumption | exact Below.refl _ _ | refine Below.dr ?_ | refine Below.drN ?_ _ | refine Below.step ?_ (by assumption))))) (fun _ h => h) (fun x cs _ hx => TmAt.below (by (repeat (first | with_reducible exact Below.refl _ _ | with_reducible assumption | with_reducible refine Below.al ?_ _ | with_reducible refine Below.sc ?_ (by first | exact Nat.le_refl _ | (simp; done) | (simp; omega)) _ | assumption | exact Below.refl _ _ | refine Below.dr ?_ | refine Below.drN ?_ _ | refine Below.step ?_ (by assumption)))) hx)) (HL'.out.mono (SameOn.below (by (repeat (first | with_reducible exact Below.refl _ _ | with_reducible assumption | with_reducible refine Below.al ?_ _ | with_reducible refine Below.sc ?_ (by first | exact Nat.le_refl _ | (simp; done) | (simp; omega)) _ | assumption | exact Below.refl _ _ | refine Below.dr ?_ | refine Below.drN ?_ _ | refine Below.step ?_ (by assumption))))) (fun _ h => h) (fun x cs _ hx => TmAt.below (by (repeat (first | with_reducible exact Below.refl _ _ | with_reducible assumption | with_reducible refine Below.al ?_ _ | with_reducible refine Below.sc ?_ (by first | exact Nat.le_refl _ | (simp; done) | (simp; omega)) _ | assumption | exact Below.refl _ _ | refine Below.dr ?_ | refine Below.drN ?_ _ | refine Below.step ?_ (by assumption)))) hx))).mono ?_
    rintro e w1 ⟨rfl, hb1⟩
    have ⟨cw1, fw1⟩ := bcell hb1
    have qw1 := hb1.size
    (try simp at qw1)
    (try have zw1w := bsz (show w.heap.size < w1.heap.size by omega))
    go_wp2
    go_ret
    exact ⟨rfl, by (repeat (first | with_reducible exact Below.refl _ _ | with_reducible assumption | with_reducible refine Below.al ?_ _ | with_reducible refine Below.sc ?_ (by first | exact Nat.le_refl _ | (simp; done) | (simp; omega)) _ | assumption | exact Below.refl _ _ | refine Below.dr ?_ | refine Below.drN ?_ _ | refine Below.step ?_ (by assumption)))⟩
end Go.Proofs.YtdklemmincejpaaGreat
namespace Go.Proofs.YtdklemmincejpaaGreat
open Go.RowKit
def CpRel (g n m : Nat) (us : List Tm) (w : World) (i : Value) (wr : World) : Prop :=
  ∃ (k : Nat) (xs : List Value), k ≤ n ∧ i = .int .i64 k ∧ wr.ownsRow g 24 2 (.slice (some ⟨g, 0, none⟩) n n) n xs ∧ Below w.heap.size w wr ∧
    ∀ j t, j < k → us[j]? = some t → ∃ y0 y1, xs[j * 2]? = some y0 ∧ xs[j * 2 + 1]? = some y1 ∧ TmAt (fun b => g < b) m wr t [y0, y1]
theorem listAt_row2c {α : Type} {B : Nat → Prop} {w : World} {R : α → List Value → Prop} {base g n c : Nat} {e : TypeId} {xs : List Value} {us : List α} (h : w.ownsRow base e 2 (.slice (some ⟨g, 0, none⟩) n c) n xs) (hn : n = us.length) (hm : n ≤ maxLen) (hB : B g)
    (hR : ∀ j t, us[j]? = some t → ∃ y0 y1, xs[j * 2]? = some y0 ∧ xs[j * 2 + 1]? = some y1 ∧ R t [y0, y1]) : ListAt B w 2 R (.slice (some ⟨g, 0, none⟩) n c) us := by
  subst hn
  refine ⟨_, _, rfl, hm, fun i t ht => ⟨g, 0, rfl, hB, ?_⟩⟩
  obtain ⟨y0, y1, h0, h1, hr⟩ := hR i t ht
  have hi : i < us.length := (List.getElem?_eq_some_iff.1 ht).1
  refine ⟨[y0, y1], rfl, fun j hj => ?_, hr⟩
  rw [Nat.zero_add, h.cellAt (i * 2 + j) (by omega)]
  match j, hj with
  | 0, _ => simpa using h0
  | 1, _ => simpa using h1
set_option maxRecDepth 100000 in
set_option maxHeartbeats 1600000 in
theorem copyTerms_of {B : Nat → Prop} (m : Nat) (ih : ∀ (t : Tm) (v0 v1 : Value) (w : World), TmAt B m w t [v0, v1] → t.wt ≤ 1048576 →
      Calls Tryz.prog 155 #[.agg #[v0, v1]] w fun e w' => ∃ u0 u1, e = .returned (.agg #[u0, u1]) ∧ TmAt (fun b => w.heap.size ≤ b) m w' t [u0, u1] ∧ Below w.heap.size w w')
    (us : List Tm) (va : Value) (w : World) (h : ListAt B w 2 (TmAt B m w) va us) (hw : us.length + Tm.wts us ≤ 1048576) :
    Calls Tryz.prog 178 #[va] w fun e w' => ∃ u, e = .returned u ∧ ListAt (fun b => w.heap.size ≤ b) w' 2 (TmAt (fun b => w.heap.size ≤ b) m w') u us ∧ Below w.heap.size w w' := by
  obtain ⟨p, c, rfl, -⟩ := h.form
  have H := Lib.hid h
  have IH := Lib.hid ih
  have HW := Lib.hid hw
  have hlen : us.length ≤ 1048576 := by omega
  by_cases hu0 : us.length = 0
  · obtain rfl : us = [] := List.eq_nil_of_length_eq_zero hu0
    clear h ih hw
    go_enter Tryz.func178, Tryz.ntmps178
    go_wp2
    go_ret
    exact ⟨_, rfl, ListAt.nil _ _ _ _ _ _, by (repeat (first | with_reducible exact Below.refl _ _ | with_reducible assumption | with_reducible refine Below.al ?_ _ | with_reducible refine Below.sc ?_ (by first | exact Nat.le_refl _ | (simp; done) | (simp; omega)) _ | assumption | exact Below.refl _ _ | refine Below.dr ?_ | refine Below.drN ?_ _ | refine Below.step ?_ (by assumption)))⟩
  have hu1 : ((us.length : Int) == 0) = false := by rw [beq_eq_false_iff_ne]; omega
  obtain ⟨-, i, z, hi, hz, hsz, hby, hzs, -⟩ := elemTmI
  clear h ih hw
  go_enter Tryz.func178, Tryz.ntmps178
  go_wp2_with (at_make; refine wpList_make_full _ rfl _ _ _ rfl w.heap.size 24 i z 2 Tryz.underlying22 hi hz hsz _ _ _ _ us.length rfl rfl rfl rfl (by rw [hby]; omega) (by unfold maxLen; omega) (Nat.le_refl _) ?_; intro w1 ho1 hg1)
  have hb1 : Below w.heap.size w w1 := ⟨hg1.os, hg1.tape, hg1.output, hg1.size, fun k hk => hg1.block k hk (by simp)⟩
  have HO1 := Lib.hid ho1
  clear ho1 hg1
  go_loopw [14] (CpRel w.heap.size us.length m us w) (fun i _ => us.length - (intOf i).toNat)
  case atStart => exact ⟨0, _, Nat.zero_le _, rfl, HO1.out, hb1, fun j t hj => absurd hj (Nat.not_lt_zero _)⟩
  case round =>
    obtain ⟨k, xs, hk, rfl, ho, hb, hall⟩ := hrel
    have HO := Lib.hid ho
    have HALL := Lib.hid hall
    have hxl : xs.length = us.length * 2 := ho.1
    clear ho hall HO1 hb1
    by_cases hlt : k < us.length
    · obtain ⟨b, o, rfl, hB, x0, x1, hx0, hx1, hx⟩ := (H.out.mono (SameOn.below hb) (fun _ h => h) (fun x cs _ hx => TmAt.below hb hx)).at2 hlt
      have hwt := Tm.wts_le us hlt
      obtain ⟨a, ha⟩ : ∃ a, us[k] = a := ⟨_, rfl⟩
      have HK : Hid (us[k]? = some a) := Lib.hid (by rw [List.getElem?_eq_getElem hlt, ha])
      rw [ha] at hx hwt
      have HX := Lib.hid hx
      clear hx ha
      have hgw := own_lt HO.out
      obtain ⟨pxx, cxx, rfl, rfl, -⟩ := HX.out.form
      go_wp2_with fail
      refine (IH.out a _ _ _ (HX.out.below (by (repeat (first | with_reducible exact Below.refl _ _ | with_reducible assumption | with_reducible refine Below.al ?_ _ | with_reducible refine Below.sc ?_ (by first | exact Nat.le_refl _ | (simp; done) | (simp; omega)) _ | assumption | exact Below.refl _ _ | refine Below.dr ?_ | refine Below.drN ?_ _ | refine Below.step ?_ (by assumption))))) (by have := HW.out; omega)).mono ?_
      rintro e w2 ⟨u0, u1, rfl, hu, hb2⟩
      have ⟨cw2, fw2⟩ := bcell hb2
      have qw2 := hb2.size
      (try simp at qw2)
      (try have zw2w := bsz (show w.heap.size < w2.heap.size by omega))
      have hb2w : Below wr.heap.size wr w2 := by (repeat (first | with_reducible exact Below.refl _ _ | with_reducible assumption | with_reducible refine Below.al ?_ _ | with_reducible refine Below.sc ?_ (by first | exact Nat.le_refl _ | (simp; done) | (simp; omega)) _ | assumption | exact Below.refl _ _ | refine Below.dr ?_ | refine Below.drN ?_ _ | refine Below.step ?_ (by assumption)))
      obtain ⟨pu, cu, rfl, rfl, -, -⟩ := hu.form
      have HU := Lib.hid hu
      have HO2 := Lib.hid (own_below HO.out hb2w)
      clear hu
      obtain ⟨q0, hq0⟩ : ∃ q, w2.cell? ⟨w.heap.size, k * 2, none⟩ = some q := ⟨_, (HO2.out.cellAt (k * 2) (by omega)).trans (List.getElem?_eq_getElem (by omega))⟩
      obtain ⟨q1, hq1⟩ : ∃ q, w2.cell? ⟨w.heap.size, k * 2 + 1, none⟩ = some q := ⟨_, (HO2.out.cellAt (k * 2 + 1) (by omega)).trans (List.getElem?_eq_getElem (by omega))⟩
      have hf2 := fun j => HO2.out.frozenAt j
      clear cw2 fw2
      go_wp2
      generalize Value.string a.n = u0 at *
      generalize Value.slice pu a.us.length cu = u1 at *
      have ho3 := (HO2.out.stored (k * 2) u0).1
      have ho4 := (ho3.stored (k * 2 + 1) u1).1
      have hS : SameOn (fun b => w.heap.size < b) w2 ((w2.setCell ⟨w.heap.size, k * 2, none⟩ u0).setCell ⟨w.heap.size, k * 2 + 1, none⟩ u1) := by
        intro b hbb hlb
        exact (SameOn.store _ (p := ⟨w.heap.size, k * 2 + 1, none⟩) (B := fun b => w.heap.size < b) (fun b hb e => by simp at e; omega) u1 b hbb (by simpa using hlb)).trans (SameOn.store _ (p := ⟨w.heap.size, k * 2, none⟩) (B := fun b => w.heap.size < b) (fun b hb e => by simp at e; omega) u0 b hbb hlb)
      refine ⟨⟨k + 1, _, by omega, by go_num, ho4, ?_, ?_⟩, by simp [intOf]; omega⟩
      · exact ((show Below w.heap.size w w2 by (repeat (first | with_reducible exact Below.refl _ _ | with_reducible assumption | with_reducible refine Below.al ?_ _ | with_reducible refine Below.sc ?_ (by first | exact Nat.le_refl _ | (simp; done) | (simp; omega)) _ | assumption | exact Below.refl _ _ | refine Below.dr ?_ | refine Below.drN ?_ _ | refine Below.step ?_ (by assumption)))).setCell (Nat.le_refl _) _).setCell (Nat.le_refl _) _
      · intro j t hj ht
        by_cases hjk : j = k
        · subst hjk
          rw [HK.out] at ht
          obtain rfl := Option.some.inj ht
          refine ⟨u0, u1, ?_, ?_, (HU.out.mono (B' := fun b => w.heap.size < b) (SameOn.refl _ _) (fun b hb => by simp at hb; omega) m m _ _ (Nat.le_refl _)).mono hS (fun b hb => hb) m m _ _ (Nat.le_refl _)⟩
          · rw [List.getElem?_set_ne (by omega), List.getElem?_set_self (by omega)]
          · rw [List.getElem?_set_self (by simp; omega)]
        · obtain ⟨y0, y1, e0, e1, hy⟩ := HALL.out j t (by omega) ht
          refine ⟨y0, y1, ?_, ?_, (hy.below hb2w).mono hS (fun b hb => hb) m m _ _ (Nat.le_refl _)⟩
          · rw [List.getElem?_set_ne (by omega), List.getElem?_set_ne (by omega)]; exact e0
          · rw [List.getElem?_set_ne (by omega), List.getElem?_set_ne (by omega)]; exact e1
    · obtain rfl : k = us.length := by omega
      go_wp2
      go_ret
      refine ⟨_, rfl, listAt_row2c HO.out rfl (by unfold maxLen; omega) (Nat.le_refl _) (fun j t ht => ?_), hb⟩
      obtain ⟨y0, y1, e0, e1, hy⟩ := HALL.out j t ((List.getElem?_eq_some_iff.1 ht).1) ht
      exact ⟨y0, y1, e0, e1, hy.mono (SameOn.refl _ _) (fun b hb => Nat.le_of_lt hb) m m _ _ (Nat.le_refl _)⟩
set_option maxRecDepth 100000 in
set_option maxHeartbeats 1600000 in
theorem copyTerm_any {B : Nat → Prop} : ∀ (m : Nat) (t : Tm) (v0 v1 : Value) (w : World), TmAt B m w t [v0, v1] → t.wt ≤ 1048576 →
      Calls Tryz.prog 155 #[.agg #[v0, v1]] w fun e w' => ∃ u0 u1, e = .returned (.agg #[u0, u1]) ∧ TmAt (fun b => w.heap.size ≤ b) m w' t [u0, u1] ∧ Below w.heap.size w w' := by
  intro m
  induction m with
  | zero => intro t v0 v1 w h; exact h.elim
  | succ m ih =>
    rintro ⟨s, us⟩ v0 v1 w ⟨va, hcs, hs, hl⟩ hw
    simp only [List.cons.injEq, and_true] at hcs
    obtain ⟨rfl, rfl⟩ := hcs
    rw [Tm.wt] at hw
    have HS := Lib.hid (copyTerms_of m ih)
    have HL := Lib.hid hl
    have HM := Lib.hid (And.intro hs hw)
    obtain ⟨p, c, rfl, -⟩ := hl.form
    clear ih hl hs hw
    go_enter Tryz.func155, Tryz.ntmps155
    go_wp2
    have c0 : (w.alloc (.cells #[.string s, .slice p us.length c] 24)).cell? ⟨w.heap.size, 0, none⟩ = some (.string s) := by go_simp
    obtain ⟨W, hW⟩ : ∃ W : World, W = (w.alloc (.cells #[.string s, .slice p us.length c] 24)).alloc (.cells #[.string ⟨#[]⟩, .slice none 0 0] 24) := ⟨_, rfl⟩
    have hsW : W.heap.size = w.heap.size + 2 := by rw [hW]; simp
    have hbW : Below w.heap.size w W := by rw [hW]; (repeat (first | with_reducible exact Below.refl _ _ | with_reducible assumption | with_reducible refine Below.al ?_ _ | with_reducible refine Below.sc ?_ (by first | exact Nat.le_refl _ | (simp; done) | (simp; omega)) _ | assumption | exact Below.refl _ _ | refine Below.dr ?_ | refine Below.drN ?_ _ | refine Below.step ?_ (by assumption)))
    have a0 : W.cell? ⟨w.heap.size, 0, none⟩ = some (.string s) := by rw [hW]; go_simp
    have a1 : W.cell? ⟨w.heap.size, 1, none⟩ = some (.slice p us.length c) := by rw [hW]; go_simp
    have r0 : W.cell? ⟨w.heap.size + 1, 0, none⟩ = some (.string ⟨#[]⟩) := by rw [hW]; go_simp
    have r1 : W.cell? ⟨w.heap.size + 1, 1, none⟩ = some (.slice none 0 0) := by rw [hW]; go_simp
    have rf : ∀ j, W.frozen? ⟨w.heap.size + 1, j, none⟩ = false := fun j => by rw [hW]; go_simp
    rw [← hW]
    clear hW c0
    have zW := bsz (show w.heap.size < W.heap.size by omega)
    have zW1 := bsz (show w.heap.size + 1 < W.heap.size by omega)
    go_region_held3 (fun w' => w'.cell? ⟨w.heap.size, 0, none⟩ = some (.string s) ∧ w'.cell? ⟨w.heap.size, 1, none⟩ = some (.slice p us.length c)) (first | go_keep | (refine ⟨?_, ?_⟩ <;> first | assumption | (go_simp; done) | (exact (World.cell?_of_block (hb6.block _ (by simp; omega))).trans (by first | assumption | (go_simp; done))))) (first | (go_at_call 178; refine (HS.out us _ _ (HL.out.mono (SameOn.below (by (repeat (first | with_reducible exact Below.refl _ _ | with_reducible assumption | with_reducible refine Below.al ?_ _ | with_reducible refine Below.sc ?_ (by first | exact Nat.le_refl _ | (simp; done) | (simp; omega)) _ | assumption | exact Below.refl _ _ | refine Below.dr ?_ | refine Below.drN ?_ _ | refine Below.step ?_ (by assumption))))) (fun _ h => h) (fun x cs _ hx => TmAt.below (by (repeat (first | with_reducible exact Below.refl _ _ | with_reducible assumption | with_reducible refine Below.al ?_ _ | with_reducible refine Below.sc ?_ (by first | exact Nat.le_refl _ | (simp; done) | (simp; omega)) _ | assumption | exact Below.refl _ _ | refine Below.dr ?_ | refine Below.drN ?_ _ | refine Below.step ?_ (by assumption)))) hx)) (by have := HM.out.2; omega)).mono ?_; rintro e w6 ⟨u, rfl, hu, hb6⟩; obtain ⟨pu, cu, rfl, -⟩ := hu.form; have HU := Lib.hid hu; clear hu; have hq6 := hb6.size; (try simp at hq6); have ⟨cb6, fb6⟩ := bcell hb6; have zr := bsz (show w.heap.size + 1 < w6.heap.size by omega)))
    all_goals
      go_wp2
      refine bodyPost_ret (v := .agg #[.string s, .slice pu us.length cu]) (by simp only [results, Tryz.results155]; go_simp) rfl ⟨_, _, rfl, ⟨_, rfl, HM.out.1, ?_⟩, by (repeat (first | with_reducible exact Below.refl _ _ | with_reducible assumption | with_reducible refine Below.al ?_ _ | with_reducible refine Below.sc ?_ (by first | exact Nat.le_refl _ | (simp; done) | (simp; omega)) _ | assumption | exact Below.refl _ _ | refine Below.dr ?_ | refine Below.drN ?_ _ | refine Below.step ?_ (by assumption)))⟩
      refine HU.out.mono (((SameOn.refl _ _).sc ?_ _).sc ?_ _) (fun b hb => by simp at hb; omega) (fun x cs _ hx => TmAt.mono (((SameOn.refl _ _).sc ?_ _).sc ?_ _) (fun b hb => by simp at hb; omega) m m x cs (Nat.le_refl _) hx)
      all_goals (intro b hb; simp at hb ⊢; omega)
end Go.Proofs.YtdklemmincejpaaGreat
namespace Go.Proofs.YtdklemmincejpaaGreat
open Go.RowKit
def Lit3.fm (l : Lit3) : Fm := if l.pos then atomOfF l.a else opF 4 [atomOfF l.a]
theorem alloc_new_at {W : World} {o : Obj} {k : Nat} (h : W.heap.size = k) : (W.alloc o).heap[k]? = some o := h ▸ heap_alloc_new W o
theorem opF_at {B : Nat → Prop} {m : Nat} {w : World} {op : Int} {ps : List Fm} {vp : Value} (ho : -9223372036854775808 ≤ op ∧ op ≤ 9223372036854775807) (h : ListAt B w 5 (FmAt B (m + 1) w) vp ps) :
    FmAt B (m + 2) w (opF op ps) [.int .i64 op, .string ⟨#[]⟩, .slice none 0 0, .string ⟨#[]⟩, vp] :=
  ⟨_, _, _, rfl, ho, Nat.zero_le _, ⟨_, rfl, Nat.zero_le _, ListAt.nil _ _ _ _ _ _⟩, h⟩
theorem list_one {α : Type} {B : Nat → Prop} {w : World} {R : α → List Value → Prop} {g : Nat} {x : α} {cs : Array Value} {e : TypeId} (hg : w.heap[g]? = some (.cells cs e (0, 0))) (hB : B g) (hc : cs.size = 5) (hR : R x cs.toList) : ListAt B w 5 R (.slice (some ⟨g, 0, none⟩) 1 1) [x] := by
  refine ⟨_, _, rfl, by simp [maxLen], fun i y hy => ⟨g, 0, rfl, hB, cs.toList, by simpa using hc, fun j hj => ?_, ?_⟩⟩
  · have hi : i < 1 := by have := (List.getElem?_eq_some_iff.1 hy).1; simpa using this
    obtain rfl : i = 0 := by omega
    rw [cell_of_row w g _ cs e (0, 0) hg]; simp
  · have hi : i < 1 := by have := (List.getElem?_eq_some_iff.1 hy).1; simpa using this
    obtain rfl : i = 0 := by omega
    obtain rfl : x = y := by simpa using hy
    exact hR
theorem list_two {α : Type} {B : Nat → Prop} {w : World} {R : α → List Value → Prop} {g : Nat} {x y : α} {cs ds : List Value} {all : Array Value} {e : TypeId} (hall : all = (cs ++ ds).toArray) (hg : w.heap[g]? = some (.cells all e (0, 0))) (hB : B g) (hc : cs.length = 5) (hd : ds.length = 5) (hR : R x cs) (hR2 : R y ds) : ListAt B w 5 R (.slice (some ⟨g, 0, none⟩) 2 2) [x, y] := by
  subst hall
  refine ⟨_, _, rfl, by simp [maxLen], fun i z hz => ?_⟩
  have hi : i < 2 := by have := (List.getElem?_eq_some_iff.1 hz).1; simpa using this
  match i, hi with
  | 0, _ =>
    obtain rfl : x = z := by simpa using hz
    refine ⟨g, 0, rfl, hB, cs, hc, fun j hj => ?_, hR⟩
    rw [cell_of_row w g _ _ e (0, 0) hg]
    simp [List.getElem?_append_left (show j < cs.length by omega)]
  | 1, _ =>
    obtain rfl : y = z := by simpa using hz
    refine ⟨g, 0, rfl, hB, ds, hd, fun j hj => ?_, hR2⟩
    rw [cell_of_row w g _ _ e (0, 0) hg]
    simp only [List.getElem?_toArray]
    rw [List.getElem?_append_right (by omega)]
    congr 1; omega
set_option maxRecDepth 100000 in
set_option maxHeartbeats 800000 in
theorem atomOf_at {B : Nat → Prop} (m : Nat) (t : Tm) (v0 v1 : Value) (w : World) (h : TmAt B m w t [v0, v1]) :
    Calls Tryz.prog 104 #[.agg #[v0, v1]] w fun e w' => e = .returned (.agg #[.int .i64 3, v0, v1, .string ⟨#[]⟩, .slice none 0 0]) ∧ FmAt B (m + 1) w' (atomOfF t) [.int .i64 3, v0, v1, .string ⟨#[]⟩, .slice none 0 0] ∧ Below w.heap.size w w' := by
  obtain ⟨p, c, rfl, rfl, -⟩ := h.form
  have HF := Lib.hid h
  clear h
  go_enter Tryz.func104, Tryz.ntmps104
  go_wp2
  refine bodyPost_ret (v := .agg #[.int .i64 3, .string t.n, .slice p t.us.length c, .string ⟨#[]⟩, .slice none 0 0]) (by simp only [results, Tryz.results104]; go_simp) rfl ⟨rfl, ⟨_, _, _, rfl, by omega, Nat.zero_le _, HF.out.below (by (repeat (first | with_reducible exact Below.refl _ _ | with_reducible assumption | with_reducible refine Below.al ?_ _ | with_reducible refine Below.sc ?_ (by first | exact Nat.le_refl _ | (simp; done) | (simp; omega)) _ | assumption | exact Below.refl _ _ | refine Below.dr ?_ | refine Below.drN ?_ _ | refine Below.step ?_ (by assumption)))), ListAt.nil _ _ _ _ _ _⟩, by (repeat (first | with_reducible exact Below.refl _ _ | with_reducible assumption | with_reducible refine Below.al ?_ _ | with_reducible refine Below.sc ?_ (by first | exact Nat.le_refl _ | (simp; done) | (simp; omega)) _ | assumption | exact Below.refl _ _ | refine Below.dr ?_ | refine Below.drN ?_ _ | refine Below.step ?_ (by assumption)))⟩
set_option maxRecDepth 100000 in
set_option maxHeartbeats 800000 in
theorem not_at {B : Nat → Prop} (m : Nat) (t : Fm) (v0 v1 v2 v3 v4 : Value) (w : World) (h : FmAt B (m + 1) w t [v0, v1, v2, v3, v4]) :
    Calls Tryz.prog 62 #[.agg #[v0, v1, v2, v3, v4]] w fun e w' => ∃ u0 u1 u2 u3 u4, e = .returned (.agg #[u0, u1, u2, u3, u4]) ∧ FmAt (fun b => B b ∨ w.heap.size ≤ b) (m + 2) w' (opF 4 [t]) [u0, u1, u2, u3, u4] ∧ Below w.heap.size w w' := by
  obtain ⟨p, c, q, d, rfl, rfl, rfl, rfl, rfl, -⟩ := h.form
  have HF := Lib.hid h
  clear h
  go_enter Tryz.func62, Tryz.ntmps62
  go_wp2
  refine bodyPost_ret (v := .agg #[.int .i64 4, .string ⟨#[]⟩, .slice none 0 0, .string ⟨#[]⟩, .slice (some ⟨w.heap.size + 1 + 1, 0, none⟩) 1 1]) (by simp only [results, Tryz.results62]; go_simp) rfl ⟨_, _, _, _, _, rfl, opF_at (by omega) ?_, by (repeat (first | with_reducible exact Below.refl _ _ | with_reducible assumption | with_reducible refine Below.al ?_ _ | with_reducible refine Below.sc ?_ (by first | exact Nat.le_refl _ | (simp; done) | (simp; omega)) _ | assumption | exact Below.refl _ _ | refine Below.dr ?_ | refine Below.drN ?_ _ | refine Below.step ?_ (by assumption)))⟩
  refine list_one (e := 27) (cs := #[.int .i64 t.op, .string t.a.n, .slice p t.a.us.length c, .string t.v, .slice q t.ps.length d]) ?_ (.inr (by omega)) rfl (FmAt.mono (SameOn.below (by (repeat (first | with_reducible exact Below.refl _ _ | with_reducible assumption | with_reducible refine Below.al ?_ _ | with_reducible refine Below.sc ?_ (by first | exact Nat.le_refl _ | (simp; done) | (simp; omega)) _ | assumption | exact Below.refl _ _ | refine Below.dr ?_ | refine Below.drN ?_ _ | refine Below.step ?_ (by assumption))))) (fun b hb => .inl hb) _ _ _ _ (Nat.le_refl _) HF.out)
  exact alloc_new_at (by simp)
set_option maxRecDepth 100000 in
set_option maxHeartbeats 800000 in
theorem binary_at {B : Nat → Prop} (m : Nat) (op : Int) (ho : -9223372036854775808 ≤ op ∧ op ≤ 9223372036854775807) (t r : Fm) (v0 v1 v2 v3 v4 u0 u1 u2 u3 u4 : Value) (w : World) (h : FmAt B (m + 1) w t [v0, v1, v2, v3, v4]) (h' : FmAt B (m + 1) w r [u0, u1, u2, u3, u4]) :
    Calls Tryz.prog 99 #[.int .i64 op, .agg #[v0, v1, v2, v3, v4], .agg #[u0, u1, u2, u3, u4]] w fun e w' => ∃ z0 z1 z2 z3 z4, e = .returned (.agg #[z0, z1, z2, z3, z4]) ∧ FmAt (fun b => B b ∨ w.heap.size ≤ b) (m + 2) w' (opF op [t, r]) [z0, z1, z2, z3, z4] ∧ Below w.heap.size w w' := by
  obtain ⟨p, c, q, d, rfl, rfl, rfl, rfl, rfl, -⟩ := h.form
  obtain ⟨p', c', q', d', rfl, rfl, rfl, rfl, rfl, -⟩ := h'.form
  have HF := Lib.hid h
  have HF' := Lib.hid h'
  clear h h'
  go_enter Tryz.func99, Tryz.ntmps99
  go_wp2
  refine bodyPost_ret (v := .agg #[.int .i64 op, .string ⟨#[]⟩, .slice none 0 0, .string ⟨#[]⟩, .slice (some ⟨w.heap.size + 1 + 1 + 1, 0, none⟩) 2 2]) (by simp only [results, Tryz.results99]; go_simp) rfl ⟨_, _, _, _, _, rfl, opF_at ho ?_, by (repeat (first | with_reducible exact Below.refl _ _ | with_reducible assumption | with_reducible refine Below.al ?_ _ | with_reducible refine Below.sc ?_ (by first | exact Nat.le_refl _ | (simp; done) | (simp; omega)) _ | assumption | exact Below.refl _ _ | refine Below.dr ?_ | refine Below.drN ?_ _ | refine Below.step ?_ (by assumption)))⟩
  refine list_two (e := 27) (cs := [.int .i64 t.op, .string t.a.n, .slice p t.a.us.length c, .string t.v, .slice q t.ps.length d]) (ds := [.int .i64 r.op, .string r.a.n, .slice p' r.a.us.length c', .string r.v, .slice q' r.ps.length d']) rfl ?_ (.inr (by omega)) rfl rfl (FmAt.mono (SameOn.below (by (repeat (first | with_reducible exact Below.refl _ _ | with_reducible assumption | with_reducible refine Below.al ?_ _ | with_reducible refine Below.sc ?_ (by first | exact Nat.le_refl _ | (simp; done) | (simp; omega)) _ | assumption | exact Below.refl _ _ | refine Below.dr ?_ | refine Below.drN ?_ _ | refine Below.step ?_ (by assumption))))) (fun b hb => .inl hb) _ _ _ _ (Nat.le_refl _) HF.out) (FmAt.mono (SameOn.below (by (repeat (first | with_reducible exact Below.refl _ _ | with_reducible assumption | with_reducible refine Below.al ?_ _ | with_reducible refine Below.sc ?_ (by first | exact Nat.le_refl _ | (simp; done) | (simp; omega)) _ | assumption | exact Below.refl _ _ | refine Below.dr ?_ | refine Below.drN ?_ _ | refine Below.step ?_ (by assumption))))) (fun b hb => .inl hb) _ _ _ _ (Nat.le_refl _) HF'.out)
  exact alloc_new_at (by simp)
end Go.Proofs.YtdklemmincejpaaGreat
namespace Go.Proofs.YtdklemmincejpaaGreat
open Go.RowKit
theorem upC_iff (c : UInt8) : upC c = true ↔ ¬ (c.toNat : Int) < 65 ∧ ¬ 90 < (c.toNat : Int) := by
  simp only [upC, Bool.and_eq_true, decide_eq_true_eq]; omega
theorem loC_iff (c : UInt8) : loC c = true ↔ ¬ (c.toNat : Int) < 97 ∧ ¬ 122 < (c.toNat : Int) := by
  simp only [loC, Bool.and_eq_true, decide_eq_true_eq]; omega
theorem varB_eq (s : ByteArray) : varB s.data.toList = (inB (s.size : Int) 1 4 && headTail upC smC s.data.toList) := by
  unfold varB inB; rw [← size_list]
  congr 1
  rw [Bool.eq_iff_iff]; simp; omega
theorem symB_eq (s : ByteArray) : symB s.data.toList = (inB (s.size : Int) 1 6 && headTail loC unC s.data.toList && !keyW.contains s.data.toList) := by
  unfold symB inB; rw [← size_list]
  congr 2
  rw [Bool.eq_iff_iff]; simp; omega
set_option maxHeartbeats 1600000 in
theorem l2Var_any (s : ByteArray) (w : World) (hs : s.size ≤ maxLen) :
    Calls Tryz.prog 139 #[.string s] w fun e w' => e = .returned (.bool (varB s.data.toList)) ∧ w = w' := by
  unfold maxLen at hs
  have HV := Lib.hid (varB_eq s)
  cases hB : inB (s.size : Int) 1 4
  · have HB := Lib.hid hB
    go_enter Tryz.func139, Tryz.ntmps139
    go_wp2_with (first | (go_at_call 152; refine (l1In_any _ _ _ _).mono ?_; rintro e w' ⟨rfl, rfl⟩))
    go_ret
    exact ⟨ret_bool (by rw [HV.out, HB.out]; rfl), rfl⟩
  · have HB := Lib.hid hB
    have hsz : 0 < s.size := by simp only [inB, Bool.and_eq_true, decide_eq_true_eq] at hB; omega
    have H0 := Lib.hid (headTail_take upC smC s 0 hsz)
    have HN0 := Lib.hid (headTail_no upC smC s 0 hsz)
    cases hU : upC s[0]
    · have HU := Lib.hid hU
      have hor : (s[0].toNat : Int) < 65 ∨ 90 < (s[0].toNat : Int) := by
        have := (not_congr (upC_iff s[0])).1 (by rw [hU]; simp)
        omega
      rcases hor with h1 | h1
      · go_enter Tryz.func139, Tryz.ntmps139
        go_wp2_with (first | (go_at_call 152; refine (l1In_any _ _ _ _).mono ?_; rintro e w' ⟨rfl, rfl⟩))
        go_ret
        exact ⟨ret_bool (by rw [HV.out, HN0.out (by simpa using HU.out)]; simp), rfl⟩
      · have h2 : ¬ (s[0].toNat : Int) < 65 := by omega
        go_enter Tryz.func139, Tryz.ntmps139
        go_wp2_with (first | (go_at_call 152; refine (l1In_any _ _ _ _).mono ?_; rintro e w' ⟨rfl, rfl⟩))
        go_ret
        exact ⟨ret_bool (by rw [HV.out, HN0.out (by simpa using HU.out)]; simp), rfl⟩
    · have HU := Lib.hid hU
      obtain ⟨h1, h2⟩ := (upC_iff s[0]).1 hU
      go_enter Tryz.func139, Tryz.ntmps139
      go_wp2_with (first | (go_at_call 152; refine (l1In_any _ _ _ _).mono ?_; rintro e w' ⟨rfl, rfl⟩))
      go_loop [3] (fun i => ∃ k : Nat, 1 ≤ k ∧ k ≤ s.size ∧ i = .int .i64 k ∧ headTail upC smC (s.data.toList.take k) = true) (fun i => s.size - (intOf i).toNat)
      case atStart => exact ⟨1, by omega, by omega, rfl, by rw [H0.out]; simp [HU.out, headTail]⟩
      case round =>
        obtain ⟨k, hk1, hk, rfl, hp⟩ := hrel
        have HP := Lib.hid hp; clear hp
        by_cases hlt : k < s.size
        · have HT := Lib.hid (headTail_take upC smC s k hlt)
          have HN := Lib.hid (headTail_no upC smC s k hlt)
          have hk0 : ¬ k = 0 := by omega
          cases hL : smC s[k]
          all_goals
            have HL := Lib.hid hL
            go_wp2_with (first | (go_at_call 153; refine (l2Small_any _ _).mono ?_; rintro e w' ⟨rfl, rfl⟩))
          · go_ret
            exact ⟨ret_bool (by rw [HV.out, HN.out (by rw [if_neg hk0, HL.out])]; simp), rfl⟩
          · refine ⟨⟨k + 1, by omega, by omega, by go_num, ?_⟩, by simp [intOf]; omega⟩
            rw [HT.out, HP.out, if_neg hk0, HL.out]; rfl
        · go_wp2
          go_ret
          exact ⟨ret_bool (by have := HP.out; rw [take_all _ _ (by omega)] at this; rw [HV.out, this, HB.out]; rfl), rfl⟩
/-- The switch over the keywords, as the walk spells its tests. -/
theorem key_no {s : ByteArray} (h : keyW.contains s.data.toList = false) : ∀ l ∈ keyW, (s.toList == l) = false := by
  intro l hl
  rw [beq_eq_false_iff_ne, ByteArray.toList_eq]
  rintro rfl
  rw [← Bool.not_eq_true, List.contains_iff_mem] at h
  exact h hl
theorem key_yes {s : ByteArray} (h : keyW.contains s.data.toList = true) : s.toList ∈ keyW := by
  rw [ByteArray.toList_eq]; exact List.contains_iff_mem.1 h
set_option maxHeartbeats 1600000 in
theorem l2Symbol_any (s : ByteArray) (w : World) (hs : s.size ≤ maxLen) :
    Calls Tryz.prog 117 #[.string s] w fun e w' => e = .returned (.bool (symB s.data.toList)) ∧ w = w' := by
  unfold maxLen at hs
  have HV := Lib.hid (symB_eq s)
  cases hB : inB (s.size : Int) 1 6
  · have HB := Lib.hid hB
    go_enter Tryz.func117, Tryz.ntmps117
    go_wp2_with (first | (go_at_call 152; refine (l1In_any _ _ _ _).mono ?_; rintro e w' ⟨rfl, rfl⟩))
    go_ret
    exact ⟨ret_bool (by rw [HV.out, HB.out]; rfl), rfl⟩
  · have HB := Lib.hid hB
    have hsz : 0 < s.size := by simp only [inB, Bool.and_eq_true, decide_eq_true_eq] at hB; omega
    have H0 := Lib.hid (headTail_take loC unC s 0 hsz)
    have HN0 := Lib.hid (headTail_no loC unC s 0 hsz)
    cases hU : loC s[0]
    · have HU := Lib.hid hU
      have hor : (s[0].toNat : Int) < 97 ∨ 122 < (s[0].toNat : Int) := by
        have := (not_congr (loC_iff s[0])).1 (by rw [hU]; simp)
        omega
      rcases hor with h1 | h1
      · go_enter Tryz.func117, Tryz.ntmps117
        go_wp2_with (first | (go_at_call 152; refine (l1In_any _ _ _ _).mono ?_; rintro e w' ⟨rfl, rfl⟩))
        go_ret
        exact ⟨ret_bool (by rw [HV.out, HN0.out (by simpa using HU.out)]; simp), rfl⟩
      · have h2 : ¬ (s[0].toNat : Int) < 97 := by omega
        go_enter Tryz.func117, Tryz.ntmps117
        go_wp2_with (first | (go_at_call 152; refine (l1In_any _ _ _ _).mono ?_; rintro e w' ⟨rfl, rfl⟩))
        go_ret
        exact ⟨ret_bool (by rw [HV.out, HN0.out (by simpa using HU.out)]; simp), rfl⟩
    · have HU := Lib.hid hU
      obtain ⟨h1, h2⟩ := (loC_iff s[0]).1 hU
      cases hK : keyW.contains s.data.toList
      · have HK := Lib.hid hK
        have k0 : (s.toList == [116, 114, 117, 101]) = false := key_no HK.out _ (by decide)
        have k1 : (s.toList == [102, 97, 108, 115, 101]) = false := key_no HK.out _ (by decide)
        have k2 : (s.toList == [116, 114, 117, 116, 104]) = false := key_no HK.out _ (by decide)
        have k3 : (s.toList == [98, 111, 116, 104]) = false := key_no HK.out _ (by decide)
        have k4 : (s.toList == [101, 105, 116, 104, 101, 114]) = false := key_no HK.out _ (by decide)
        have k5 : (s.toList == [105, 102]) = false := key_no HK.out _ (by decide)
        have k6 : (s.toList == [97, 108, 108]) = false := key_no HK.out _ (by decide)
        have k7 : (s.toList == [115, 111, 109, 101]) = false := key_no HK.out _ (by decide)
        go_enter Tryz.func117, Tryz.ntmps117
        go_wp2_with (first | (go_at_call 152; refine (l1In_any _ _ _ _).mono ?_; rintro e w' ⟨rfl, rfl⟩))
        go_loop [3] (fun i => ∃ k : Nat, 1 ≤ k ∧ k ≤ s.size ∧ i = .int .i64 k ∧ headTail loC unC (s.data.toList.take k) = true) (fun i => s.size - (intOf i).toNat)
        case atStart => exact ⟨1, by omega, by omega, rfl, by rw [H0.out]; simp [HU.out, headTail]⟩
        case round =>
          obtain ⟨k, hk1, hk, rfl, hp⟩ := hrel
          have HP := Lib.hid hp; clear hp
          by_cases hlt : k < s.size
          · have HT := Lib.hid (headTail_take loC unC s k hlt)
            have HN := Lib.hid (headTail_no loC unC s k hlt)
            have hk0 : ¬ k = 0 := by omega
            have HUN := Lib.hid (show unC s[k] = (smC s[k] || (s[k] == 95)) from rfl)
            cases hL : smC s[k]
            · have HL := Lib.hid hL
              by_cases h9 : s[k] = 95
              · have H9 := Lib.hid h9
                have h91 : ((s[k].toNat : Int) != 95) = false := by rw [h9]; rfl
                clear h9
                go_wp2_with (first | (go_at_call 153; refine (l2Small_any _ _).mono ?_; rintro e w' ⟨rfl, rfl⟩))
                refine ⟨⟨k + 1, by omega, by omega, by go_num, ?_⟩, by simp [intOf]; omega⟩
                rw [HT.out, HP.out, if_neg hk0, HUN.out, H9.out]; rfl
              · have H9 := Lib.hid (show (s[k] == 95) = false by simpa using h9)
                have h91 : ((s[k].toNat : Int) != 95) = true := by
                  have h9n : ¬ (s[k].toNat : Int) = 95 := fun e => h9 (UInt8.toNat_inj.1 (show s[k].toNat = 95 by omega))
                  simpa using h9n
                clear h9
                go_wp2_with (first | (go_at_call 153; refine (l2Small_any _ _).mono ?_; rintro e w' ⟨rfl, rfl⟩))
                go_ret
                exact ⟨ret_bool (by rw [HV.out, HN.out (by rw [if_neg hk0, HUN.out, HL.out, H9.out]; rfl)]; simp), rfl⟩
            · have HL := Lib.hid hL
              go_wp2_with (first | (go_at_call 153; refine (l2Small_any _ _).mono ?_; rintro e w' ⟨rfl, rfl⟩))
              refine ⟨⟨k + 1, by omega, by omega, by go_num, ?_⟩, by simp [intOf]; omega⟩
              rw [HT.out, HP.out, if_neg hk0, HUN.out, HL.out]; rfl
          · go_wp2
            go_ret
            exact ⟨ret_bool (by have := HP.out; rw [take_all _ _ (by omega)] at this; rw [HV.out, this, HB.out, HK.out]; rfl), rfl⟩
      · have HK := Lib.hid hK
        have hmem := key_yes hK
        simp only [keyW, List.mem_cons, List.not_mem_nil, or_false] at hmem
        rcases hmem with h | h | h | h | h | h | h | h
        all_goals
          go_enter Tryz.func117, Tryz.ntmps117
          go_wp2_with (first | (go_at_call 152; refine (l1In_any _ _ _ _).mono ?_; rintro e w' ⟨rfl, rfl⟩))
          go_ret
          exact ⟨ret_bool (by rw [HV.out, HK.out]; simp), rfl⟩
end Go.Proofs.YtdklemmincejpaaGreat
namespace Go.Proofs.YtdklemmincejpaaGreat
open Go.RowKit
/-- The order of texts, as a number. -/
def textCmp (x y : List UInt8) : Int := if Op.bytesLess x y then -1 else if x == y then 0 else 1
theorem bytesLess_self : ∀ x : List UInt8, Op.bytesLess x x = false
  | [] => by simp [Op.bytesLess]
  | a :: x => by simp [Op.bytesLess, bytesLess_self x]
theorem textCmp_self (x : List UInt8) : textCmp x x = 0 := by simp [textCmp, bytesLess_self]
theorem textCmp_ne {x y : List UInt8} (h : x ≠ y) : textCmp x y ≠ 0 := by
  unfold textCmp
  split
  · omega
  · rw [if_neg (by simpa using h)]; omega
def lead (l : List UInt8) : Bool := match l with | [] => false | c :: _ => upC c
mutual
/-- A term's names begin with a capital exactly if they are variables'. -/
def Tm.ord : Tm → Bool | .mk n us => !n.data.toList.isEmpty && lead n.data.toList == varB n.data.toList && Tm.ords us
def Tm.ords : List Tm → Bool | [] => true | a :: us => a.ord && Tm.ords us
end
mutual
def Tm.cmp : Tm → Tm → Int
  | .mk n us, .mk k vs =>
    if varB n.data.toList && !varB k.data.toList then -1
    else if varB k.data.toList && !varB n.data.toList then 1
    else if textCmp n.data.toList k.data.toList ≠ 0 then textCmp n.data.toList k.data.toList
    else if us.length < vs.length then -1 else if vs.length < us.length then 1 else Tm.cmps us vs
def Tm.cmps : List Tm → List Tm → Int
  | [], [] => 0
  | [], _ :: _ => -1
  | _ :: _, [] => 1
  | a :: us, b :: vs => if a.cmp b ≠ 0 then a.cmp b else Tm.cmps us vs
end
theorem varB_lead {l : List UInt8} (h : varB l = true) : lead l = true := by
  simp only [varB, Bool.and_eq_true, decide_eq_true_eq] at h
  cases l with
  | nil => simp at h
  | cons c r => have := h.2; simp only [headTail, Bool.and_eq_true] at this; exact this.1
theorem symB_lead {l : List UInt8} (h : symB l = true) : lead l = false ∧ varB l = false ∧ l ≠ [] := by
  simp only [symB, Bool.and_eq_true, decide_eq_true_eq] at h
  obtain ⟨⟨⟨h1, h2⟩, h3⟩, h4⟩ := h
  cases l with
  | nil => simp at h1
  | cons c r =>
    simp only [headTail, Bool.and_eq_true] at h3
    have hc : upC c = false := by
      have := h3.1
      rw [Bool.eq_false_iff]
      intro h'
      simp only [upC, loC, Bool.and_eq_true, decide_eq_true_eq] at h' this
      omega
    refine ⟨hc, ?_, by simp⟩
    rw [Bool.eq_false_iff]
    intro hv
    have := varB_lead hv
    rw [show lead (c :: r) = upC c from rfl, hc] at this
    cases this
theorem varB_ne {l : List UInt8} (h : varB l = true) : l ≠ [] := by rintro rfl; simp [varB] at h
mutual
theorem Tm.ord_nodes : ∀ t : Tm, t.nodes = true → t.ord = true
  | .mk n us, h => by
    rw [Tm.nodes] at h
    rw [Tm.ord]
    split at h
    · rename_i hv
      obtain rfl : us = [] := by simpa using h
      have hne : ¬ n.data = #[] := fun e => varB_ne hv (by rw [e])
      simp [hv, varB_lead hv, Tm.ords, hne]
    · rename_i hv
      simp only [Bool.and_eq_true] at h
      have hs := symB_lead h.1.1
      have := Tm.ords_nodes us h.2
      have hne : ¬ n.data = #[] := fun e => hs.2.2 (by rw [e])
      simp [hs.1, hs.2.1, this, hne]
theorem Tm.ords_nodes : ∀ us : List Tm, Tm.nodess us = true → Tm.ords us = true
  | [], _ => rfl
  | a :: us, h => by
    rw [Tm.nodess, Bool.and_eq_true] at h
    rw [Tm.ords, Bool.and_eq_true]
    exact ⟨Tm.ord_nodes a h.1, Tm.ords_nodes us h.2⟩
end
theorem Tm.ord_atom {t : Tm} (h : t.atom = true) : t.ord = true := by
  obtain ⟨n, us⟩ := t
  rw [Tm.atom] at h
  split at h
  · rename_i hq
    simp only [Bool.and_eq_true] at h
    have hn : n.data.toList = [61] := by simpa [isEq, Tm.n] using hq
    rw [Tm.ord, hn]
    have := Tm.ords_nodes us h.2
    rw [this]; rfl
  · simp only [Bool.and_eq_true, Tm.good] at h
    exact Tm.ord_nodes _ h.2.2
theorem Tm.cmps_drop {us vs : List Tm} {i : Nat} (h1 : i < us.length) (h2 : i < vs.length) : Tm.cmps (us.drop i) (vs.drop i) = if us[i].cmp vs[i] ≠ 0 then us[i].cmp vs[i] else Tm.cmps (us.drop (i + 1)) (vs.drop (i + 1)) := by
  rw [List.drop_eq_getElem_cons h1, List.drop_eq_getElem_cons h2, Tm.cmps]
theorem Tm.ords_at {us : List Tm} {i : Nat} (h : Tm.ords us = true) (hi : i < us.length) : us[i].ord = true := by
  induction us generalizing i with
  | nil => simp at hi
  | cons a us ih =>
    rw [Tm.ords, Bool.and_eq_true] at h
    cases i with
    | zero => exact h.1
    | succ i => exact ih h.2 (by simpa using hi)
set_option maxRecDepth 100000 in
theorem isNaNs_any (s : ByteArray) (w : World) : Calls Tryz.prog 179 #[.string s] w fun e w' => e = .returned (.bool false) ∧ w = w' := by
  go_enter Tryz.func179, Tryz.ntmps179
  go_wp2
  refine bodyPost_ret (v := .bool false) (by simp only [results, Tryz.results179]; go_simp) rfl ⟨rfl, rfl⟩
set_option maxRecDepth 100000 in
theorem compareS_any (s t : ByteArray) (w : World) : Calls Tryz.prog 164 #[.string s, .string t] w fun e w' => e = .returned (.int .i64 (textCmp s.data.toList t.data.toList)) ∧ w = w' := by
  go_enter Tryz.func164, Tryz.ntmps164
  go_wp2_with (first | (go_at_call 179; refine (isNaNs_any _ _).mono ?_; rintro e w' ⟨rfl, rfl⟩))
  all_goals go_ret
  all_goals
    refine ⟨ret_int ?_, rfl⟩
    rw [textCmp]
    simp_all [ByteArray.toList_eq]
/-- The first that is not zero. -/
def orI (x y : Int) : Int := if x ≠ 0 then x else y
def OrRel (x y : Int) (w : World) (i : Value) (wr : World) : Prop := wr = w ∧ (i = .int .i64 0 ∨ (i = .int .i64 1 ∧ x = 0) ∨ (i = .int .i64 2 ∧ x = 0 ∧ y = 0))
set_option maxRecDepth 100000 in
theorem or2_any (x y : Int) (g c : Nat) (w : World) (h0 : w.cell? ⟨g, 0, none⟩ = some (.int .i64 x)) (h1 : w.cell? ⟨g, 1, none⟩ = some (.int .i64 y)) :
    Calls Tryz.prog 129 #[.slice (some ⟨g, 0, none⟩) 2 c] w fun e w' => e = .returned (.int .i64 (orI x y)) ∧ Below w.heap.size w w' := by
  go_enter Tryz.func129, Tryz.ntmps129
  go_wp2
  go_loopw [8] (OrRel x y w) (fun i _ => 2 - (intOf i).toNat)
  case atStart => exact ⟨rfl, .inl rfl⟩
  case round =>
    obtain ⟨rfl, rfl | ⟨rfl, rfl⟩ | ⟨rfl, rfl, rfl⟩⟩ := hrel
    · by_cases hx : x = 0
      · subst hx
        go_wp2
        exact ⟨⟨rfl, .inr (.inl ⟨rfl, rfl⟩)⟩, by simp [intOf]⟩
      · have hx' : (x == 0) = false := by simpa using hx
        have hx2 : (x != 0) = true := by rw [bne, hx']; rfl
        go_wp2
        go_ret
        exact ⟨ret_int (by simp [orI, hx]), Below.refl _ _⟩
    · by_cases hy : y = 0
      · subst hy
        go_wp2
        exact ⟨⟨rfl, .inr (.inr ⟨rfl, rfl, rfl⟩)⟩, by simp [intOf]⟩
      · have hx' : (y == 0) = false := by simpa using hy
        have hx2 : (y != 0) = true := by rw [bne, hx']; rfl
        go_wp2
        go_ret
        exact ⟨ret_int (by simp [orI]), Below.refl _ _⟩
    · go_wp2
      go_ret
      exact ⟨ret_int (by simp [orI]), Below.refl _ _⟩
set_option maxRecDepth 100000 in
theorem l2Text_any (s t : ByteArray) (w : World) : Calls Tryz.prog 154 #[.string s, .string t] w fun e w' => e = .returned (.int .i64 (textCmp s.data.toList t.data.toList)) ∧ w = w' := by
  go_enter Tryz.func154, Tryz.ntmps154
  go_wp2
  all_goals go_ret
  all_goals
    refine ⟨ret_int ?_, rfl⟩
    rw [textCmp]
    simp_all [ByteArray.toList_eq]
set_option maxRecDepth 100000 in
theorem isVar_any {B : Nat → Prop} (m : Nat) (t : Tm) (v0 v1 : Value) (w : World) (h : TmAt B m w t [v0, v1]) (ho : t.ord = true) :
    Calls Tryz.prog 163 #[.agg #[v0, v1]] w fun e w' => e = .returned (.bool (varB t.n.data.toList)) ∧ Below w.heap.size w w' := by
  obtain ⟨p, c, rfl, rfl, -⟩ := h.form
  obtain ⟨n, us⟩ := t
  rw [Tm.ord] at ho
  simp only [Bool.and_eq_true, beq_iff_eq] at ho
  simp only [Tm.n, Tm.us]
  clear h
  have hn : 0 < n.size := by
    rw [size_list]
    refine List.length_pos_iff.2 (fun e => ?_)
    have := ho.1.1; rw [e] at this; simp at this
  have hn' : (0 : Int) < n.size := by omega
  have HV := Lib.hid (show upC n[0] = varB n.data.toList by
    rw [← ho.1.2]
    have e : n.data.toList = n[0] :: n.data.toList.tail := by
      cases hl : n.data.toList with
      | nil => rw [size_list, hl] at hn; simp at hn
      | cons c r =>
        have : n.data.toList[0]? = some n[0] := by rw [List.getElem?_eq_getElem (by rw [← size_list]; exact hn)]; rfl
        rw [hl] at this; simp at this; rw [this]; rfl
    rw [e]; rfl)
  go_enter Tryz.func163, Tryz.ntmps163
  go_wp2_with (first | (go_at_call 101; refine (isUpper_any _ _).mono ?_; rintro e w' ⟨rfl, rfl⟩))
  go_ret
  exact ⟨ret_bool HV.out, by (repeat (first | with_reducible exact Below.refl _ _ | with_reducible assumption | with_reducible refine Below.al ?_ _ | with_reducible refine Below.sc ?_ (by first | exact Nat.le_refl _ | (simp; done) | (simp; omega)) _ | assumption | exact Below.refl _ _ | refine Below.dr ?_ | refine Below.drN ?_ _ | refine Below.step ?_ (by assumption)))⟩
end Go.Proofs.YtdklemmincejpaaGreat
namespace Go.Proofs.YtdklemmincejpaaGreat
open Go.RowKit
def flagI (b : Bool) : Int := if b then 1 else 0
/-- The order of literals. -/
def Lit3.cmp (a b : Lit3) : Int := orI (a.a.cmp b.a) (Lib.compareInt (flagI a.pos) (flagI b.pos))
def ascP : Option Lit3 → Lit3 → Bool | none, _ => true | some q, l => decide (q.cmp l < 0)
/-- All atoms are valid, and the literals ascend behind p. -/
def Cls.okF : Option Lit3 → List Lit3 → Bool
  | _, [] => true
  | p, l :: ls => l.a.atom && ascP p l && Cls.okF (some l) ls
def Cls.good (c : List Lit3) : Bool := decide (c.length ≤ 8) && Cls.okF none c
def prevAt (c : List Lit3) : Nat → Option Lit3 | 0 => none | k + 1 => c[k]?
theorem okF_drop {c : List Lit3} {k : Nat} (h : k < c.length) : Cls.okF (prevAt c k) (c.drop k) = (c[k].a.atom && ascP (prevAt c k) c[k] && Cls.okF (prevAt c (k + 1)) (c.drop (k + 1))) := by
  rw [List.drop_eq_getElem_cons h, Cls.okF, show prevAt c (k + 1) = some c[k] from List.getElem?_eq_getElem h]
theorem prevAt_pos {c : List Lit3} {k : Nat} (h : k < c.length) (hk : 0 < k) : prevAt c k = some (c[k - 1]'(by omega)) := by
  obtain ⟨j, rfl⟩ : ∃ j, k = j + 1 := ⟨k - 1, by omega⟩
  exact List.getElem?_eq_getElem (by omega)
theorem cmp_flags (p q : Bool) : Lib.compareInt (flagI p) (flagI q) = if !p && q then -1 else if p && !q then 1 else 0 := by cases p <;> cases q <;> rfl
end Go.Proofs.YtdklemmincejpaaGreat
namespace Go.Proofs.YtdklemmincejpaaGreat
open Go.RowKit
theorem cmps_end {us vs : List Tm} (h : vs.length ≤ us.length) : Tm.cmps (us.drop us.length) (vs.drop us.length) = 0 := by
  rw [List.drop_length, List.drop_eq_nil_of_le h, Tm.cmps]
theorem cmps_short {us vs : List Tm} (h : us.length < vs.length) : Tm.cmps (us.drop us.length) (vs.drop us.length) = -1 := by
  rw [List.drop_length, List.drop_eq_getElem_cons h, Tm.cmps]
theorem cmps_long {us vs : List Tm} {i : Nat} (h : i < us.length) (h2 : vs.length ≤ i) : Tm.cmps (us.drop i) (vs.drop i) = 1 := by
  rw [List.drop_eq_nil_of_le h2, List.drop_eq_getElem_cons h, Tm.cmps]
def CmpC (B : Nat → Prop) (m : Nat) : Prop := ∀ (a b : Tm) (v0 v1 u0 u1 : Value) (w : World), TmAt B m w a [v0, v1] → TmAt B m w b [u0, u1] → a.ord = true → b.ord = true →
  Calls Tryz.prog 130 #[.agg #[v0, v1], .agg #[u0, u1]] w fun e w' => e = .returned (.int .i64 (a.cmp b)) ∧ Below w.heap.size w w'
def CmpRel (us vs : List Tm) (w : World) (i : Value) (wr : World) : Prop := ∃ k : Nat, k ≤ us.length ∧ k ≤ vs.length ∧ i = .int .i64 k ∧ Tm.cmps us vs = Tm.cmps (us.drop k) (vs.drop k) ∧ Below w.heap.size w wr
set_option maxRecDepth 100000 in
set_option maxHeartbeats 1600000 in
theorem compareFunc_any {B : Nat → Prop} (m : Nat) (HC0 : CmpC B m) (us vs : List Tm) (hu : Tm.ords us = true) (hv : Tm.ords vs = true) (va vb : Value) (w : World) (h : ListAt B w 2 (TmAt B m w) va us) (h' : ListAt B w 2 (TmAt B m w) vb vs) :
    Calls Tryz.prog 165 #[va, vb, .func (.func 130) #[] #[]] w fun e w' => e = .returned (.int .i64 (Tm.cmps us vs)) ∧ Below w.heap.size w w' := by
  obtain ⟨p, c, rfl, hlen⟩ := h.form
  obtain ⟨q, d, rfl, hlen'⟩ := h'.form
  unfold maxLen at hlen hlen'
  have HU := Lib.hid h
  have HV := Lib.hid h'
  have HC := Lib.hid HC0
  clear h h' HC0
  go_enter Tryz.func165, Tryz.ntmps165
  go_wp2
  go_loopw [13] (CmpRel us vs w) (fun i _ => us.length - (intOf i).toNat)
  case atStart => exact ⟨0, Nat.zero_le _, Nat.zero_le _, rfl, rfl, by (repeat (first | with_reducible exact Below.refl _ _ | with_reducible assumption | with_reducible refine Below.al ?_ _ | with_reducible refine Below.sc ?_ (by first | exact Nat.le_refl _ | (simp; done) | (simp; omega)) _ | assumption | exact Below.refl _ _ | refine Below.dr ?_ | refine Below.drN ?_ _ | refine Below.step ?_ (by assumption)))⟩
  case round =>
    obtain ⟨k, hk, hk2, rfl, he, hb⟩ := hrel
    have HE := Lib.hid he
    clear he
    by_cases hlt : k < us.length
    · by_cases hlt2 : k < vs.length
      · have hor := Tm.ords_at hu hlt
        have hor2 := Tm.ords_at hv hlt2
        have hd := Tm.cmps_drop hlt hlt2
        obtain ⟨b2, o2, hq2, hB2, y0, y1, hy0, hy1, hy⟩ := (HV.out.mono (SameOn.below hb) (fun _ h => h) (fun x cs _ hx => TmAt.below hb hx)).at2 hlt2
        subst hq2
        obtain ⟨a2, ha2⟩ : ∃ a2, vs[k] = a2 := ⟨_, rfl⟩
        rw [ha2] at hor2 hd hy
        obtain ⟨b, o, rfl, hB, x0, x1, hx0, hx1, hx⟩ := (HU.out.mono (SameOn.below hb) (fun _ h => h) (fun x cs _ hx => TmAt.below hb hx)).at2 hlt
        have hD := hd
        have hO := hor
        obtain ⟨a, ha⟩ : ∃ a, us[k] = a := ⟨_, rfl⟩
        rw [ha] at hx
        rw [ha] at hD
        rw [ha] at hO
        have HX := Lib.hid hx
        have HD := Lib.hid hD
        have HO := Lib.hid hO
        clear hx ha hD hO
        have zb := bsz (World.block_lt_of_cell? _ _ hx0)
        have HY := Lib.hid hy
        clear hy ha2
        obtain ⟨pa, ca, rfl, rfl, -⟩ := HX.out.form
        obtain ⟨pb, cb, rfl, rfl, -⟩ := HY.out.form
        have zb2 := bsz (World.block_lt_of_cell? _ _ hy0)
        go_wp2_with fail
        refine (HC.out a a2 _ _ _ _ _ (TmAt.below (by (repeat (first | with_reducible exact Below.refl _ _ | with_reducible assumption | with_reducible refine Below.al ?_ _ | with_reducible refine Below.sc ?_ (by first | exact Nat.le_refl _ | (simp; done) | (simp; omega)) _ | assumption | exact Below.refl _ _ | refine Below.dr ?_ | refine Below.drN ?_ _ | refine Below.step ?_ (by assumption)))) HX.out) (TmAt.below (by (repeat (first | with_reducible exact Below.refl _ _ | with_reducible assumption | with_reducible refine Below.al ?_ _ | with_reducible refine Below.sc ?_ (by first | exact Nat.le_refl _ | (simp; done) | (simp; omega)) _ | assumption | exact Below.refl _ _ | refine Below.dr ?_ | refine Below.drN ?_ _ | refine Below.step ?_ (by assumption)))) HY.out) HO.out hor2).mono ?_
        rintro e w1 ⟨rfl, hb1⟩
        cases hz : (a.cmp a2 == 0)
        · have hz' : (a.cmp a2 != 0) = true := by rw [bne, hz]; rfl
          have hz2 : ¬ a.cmp a2 = 0 := by simpa using hz
          go_wp2
          go_ret
          exact ⟨ret_int (by rw [HE.out, HD.out, if_pos hz2]), by (repeat (first | with_reducible exact Below.refl _ _ | with_reducible assumption | with_reducible refine Below.al ?_ _ | with_reducible refine Below.sc ?_ (by first | exact Nat.le_refl _ | (simp; done) | (simp; omega)) _ | assumption | exact Below.refl _ _ | refine Below.dr ?_ | refine Below.drN ?_ _ | refine Below.step ?_ (by assumption)))⟩
        · have hz' : (a.cmp a2 != 0) = false := by rw [bne, hz]; rfl
          have hz2 : a.cmp a2 = 0 := by simpa using hz
          go_wp2
          refine ⟨⟨k + 1, by omega, by omega, by go_num, by rw [HE.out, HD.out, if_neg (by simpa using hz2)], by (repeat (first | with_reducible exact Below.refl _ _ | with_reducible assumption | with_reducible refine Below.al ?_ _ | with_reducible refine Below.sc ?_ (by first | exact Nat.le_refl _ | (simp; done) | (simp; omega)) _ | assumption | exact Below.refl _ _ | refine Below.dr ?_ | refine Below.drN ?_ _ | refine Below.step ?_ (by assumption)))⟩, by simp [intOf]; omega⟩
      · obtain ⟨b, o, rfl, hB, x0, x1, hx0, hx1, hx⟩ := (HU.out.mono (SameOn.below hb) (fun _ h => h) (fun x cs _ hx => TmAt.below hb hx)).at2 hlt
        obtain ⟨a, ha⟩ : ∃ a, us[k] = a := ⟨_, rfl⟩
        rw [ha] at hx
        have HX := Lib.hid hx
        clear hx ha 
        have zb := bsz (World.block_lt_of_cell? _ _ hx0)
        obtain ⟨pa, ca, rfl, rfl, -⟩ := HX.out.form
        have hge : (vs.length : Int) ≤ k := by omega
        go_wp2
        go_ret
        exact ⟨ret_int (by rw [HE.out, cmps_long hlt (by omega)]), by (repeat (first | with_reducible exact Below.refl _ _ | with_reducible assumption | with_reducible refine Below.al ?_ _ | with_reducible refine Below.sc ?_ (by first | exact Nat.le_refl _ | (simp; done) | (simp; omega)) _ | assumption | exact Below.refl _ _ | refine Below.dr ?_ | refine Below.drN ?_ _ | refine Below.step ?_ (by assumption)))⟩
    · obtain rfl : k = us.length := by omega
      by_cases hlt2 : us.length < vs.length
      · have hlt3 : (us.length : Int) < vs.length := by omega
        go_wp2
        go_ret
        exact ⟨ret_int (by rw [HE.out, cmps_short hlt2]), by (repeat (first | with_reducible exact Below.refl _ _ | with_reducible assumption | with_reducible refine Below.al ?_ _ | with_reducible refine Below.sc ?_ (by first | exact Nat.le_refl _ | (simp; done) | (simp; omega)) _ | assumption | exact Below.refl _ _ | refine Below.dr ?_ | refine Below.drN ?_ _ | refine Below.step ?_ (by assumption)))⟩
      · have hlt3 : ¬ (us.length : Int) < vs.length := by omega
        go_wp2
        go_ret
        exact ⟨ret_int (by rw [HE.out, cmps_end (by omega)]), by (repeat (first | with_reducible exact Below.refl _ _ | with_reducible assumption | with_reducible refine Below.al ?_ _ | with_reducible refine Below.sc ?_ (by first | exact Nat.le_refl _ | (simp; done) | (simp; omega)) _ | assumption | exact Below.refl _ _ | refine Below.dr ?_ | refine Below.drN ?_ _ | refine Below.step ?_ (by assumption)))⟩
theorem Tm.cmp_eq (a b : Tm) : a.cmp b = if varB a.n.data.toList && !varB b.n.data.toList then -1 else if varB b.n.data.toList && !varB a.n.data.toList then 1
    else if textCmp a.n.data.toList b.n.data.toList ≠ 0 then textCmp a.n.data.toList b.n.data.toList else if a.us.length < b.us.length then -1 else if b.us.length < a.us.length then 1 else Tm.cmps a.us b.us := by
  obtain ⟨n, us⟩ := a; obtain ⟨k, vs⟩ := b; rw [Tm.cmp]; rfl
theorem cmp_or (t : Int) (la lb : Nat) (x : Int) : (if t ≠ 0 then t else if la < lb then -1 else if lb < la then 1 else x) = if orI t (Lib.compareInt la lb) ≠ 0 then orI t (Lib.compareInt la lb) else x := by
  unfold orI Lib.compareInt
  by_cases ht : t = 0
  · by_cases h1 : la < lb
    · simp [ht, h1]
    · by_cases h2 : lb < la
      · simp [ht, h1, h2]
      · simp [ht, h1, h2]
  · simp [ht]
theorem Tm.ord_us {a : Tm} (h : a.ord = true) : Tm.ords a.us = true := by obtain ⟨n, us⟩ := a; rw [Tm.ord, Bool.and_eq_true] at h; exact h.2
theorem TmAt.sub' {B : Nat → Prop} {w : World} {n : Nat} {t : Tm} {v0 v1 : Value} (h : TmAt B (n + 1) w t [v0, v1]) : ListAt B w 2 (TmAt B n w) v1 t.us := by
  obtain ⟨s, us⟩ := t
  obtain ⟨va, h1, h2, h3⟩ := h
  simp only [List.cons.injEq, and_true] at h1
  obtain ⟨-, rfl⟩ := h1
  exact h3
set_option maxRecDepth 100000 in
set_option maxHeartbeats 3200000 in
theorem compareTerms_any {B : Nat → Prop} : ∀ m : Nat, CmpC B m := by
  intro m
  induction m with
  | zero => intro a b v0 v1 u0 u1 w h; exact h.elim
  | succ m ih =>
    intro a b v0 v1 u0 u1 w ha hb hoa hob
    obtain ⟨p, c, rfl, rfl, -, hla⟩ := ha.form
    obtain ⟨q, d, rfl, rfl, -, hlb⟩ := hb.form
    unfold maxLen at hla hlb
    have HA := Lib.hid ha
    have HB := Lib.hid hb
    have IH := Lib.hid (compareFunc_any m ih a.us b.us (Tm.ord_us hoa) (Tm.ord_us hob))
    have HCE := Lib.hid (Tm.cmp_eq a b)
    clear ha hb ih
    go_enter Tryz.func130, Tryz.ntmps130
    go_wp2
    obtain ⟨W, hW⟩ : ∃ W : World, W = (w.alloc (.cells #[.string a.n, .slice p a.us.length c] 24)).alloc (.cells #[.string b.n, .slice q b.us.length d] 24) := ⟨_, rfl⟩
    have hsW : W.heap.size = w.heap.size + 2 := by rw [hW]; simp
    have hbW : Below w.heap.size w W := by rw [hW]; (repeat (first | with_reducible exact Below.refl _ _ | with_reducible assumption | with_reducible refine Below.al ?_ _ | with_reducible refine Below.sc ?_ (by first | exact Nat.le_refl _ | (simp; done) | (simp; omega)) _ | assumption | exact Below.refl _ _ | refine Below.dr ?_ | refine Below.drN ?_ _ | refine Below.step ?_ (by assumption)))
    have a0 : W.cell? ⟨w.heap.size, 0, none⟩ = some (.string a.n) := by rw [hW]; go_simp
    have a1 : W.cell? ⟨w.heap.size, 1, none⟩ = some (.slice p a.us.length c) := by rw [hW]; go_simp
    have b0 : W.cell? ⟨w.heap.size + 1, 0, none⟩ = some (.string b.n) := by rw [hW]; go_simp
    have b1 : W.cell? ⟨w.heap.size + 1, 1, none⟩ = some (.slice q b.us.length d) := by rw [hW]; go_simp
    rw [← hW]
    clear hW
    have zW := bsz (show w.heap.size < W.heap.size by omega)
    have zW1 := bsz (show w.heap.size + 1 < W.heap.size by omega)
    obtain ⟨C, HC0⟩ := class_of (InF W.heap.size _ [(⟨w.heap.size, 0, none⟩, .string a.n), (⟨w.heap.size, 1, none⟩, .slice p a.us.length c), (⟨w.heap.size + 1, 0, none⟩, .string b.n), (⟨w.heap.size + 1, 1, none⟩, .slice q b.us.length d)] [] [])
    have HC := Lib.hid HC0
    clear HC0
    refine wp_region_flow (C := C) (by kernel_rfl) (by kernel_rfl) (fun L hL => (HC.out _ _).2 (InF.start (by first | (intro _ hs; cases hs; done) | (simp only [List.forall_mem_cons]; go_simp)) (by first | (intro _ hs; cases hs; done) | (simp only [List.forall_mem_cons]; go_simp)) (by first | (intro _ hs; cases hs; done) | (simp only [List.forall_mem_cons]; go_simp)) (by first | (intro _ hs; cases hs; done) | (simp only [List.forall_mem_cons]; go_simp)) L hL)) ?_
    repeat (first | (apply flow_free rfl; (intro L w' hun hrd hC; have hC := (HC.out _ _).1 hC; have hb' := hC.below; (try have hw' : Below w.heap.size w w' := by first | exact Below.trans (by (repeat (first | with_reducible exact Below.refl _ _ | with_reducible assumption | with_reducible refine Below.al ?_ _ | with_reducible refine Below.sc ?_ (by first | exact Nat.le_refl _ | (simp; done) | (simp; omega)) _ | assumption | exact Below.refl _ _ | refine Below.dr ?_ | refine Below.drN ?_ _ | refine Below.step ?_ (by assumption)))) hb' | ((repeat (first | with_reducible exact Below.refl _ _ | with_reducible assumption | with_reducible refine Below.al ?_ _ | with_reducible refine Below.sc ?_ (by first | exact Nat.le_refl _ | (simp; done) | (simp; omega)) _ | assumption | exact Below.refl _ _ | refine Below.dr ?_ | refine Below.drN ?_ _ | refine Below.step ?_ (by assumption))); done)); have hf' := hC.cell; (try simp only [List.forall_mem_cons] at hf'); go_simp; first | exact ⟨(HC.out _ _).2 (hC.skip _ (by rfl)), rfl⟩ | (rw [if_neg]; (exact ⟨(HC.out _ _).2 (hC.skip _ (by rfl)), rfl⟩); omega) | (go_at_call 163; (with_reducible refine (isVar_any (m + 1) a _ _ _ (TmAt.below hw' HA.out) hoa).mono ?_); rintro e w1 ⟨rfl, hb1⟩; exact ⟨rfl, (HC.out _ _).2 ((hC.next (by first | (simp; done) | (simp; omega) | omega) hb1).skip _ (by rfl))⟩) | (go_at_call 163; (with_reducible refine (isVar_any (m + 1) b _ _ _ (TmAt.below hw' HB.out) hob).mono ?_); rintro e w1 ⟨rfl, hb1⟩; exact ⟨rfl, (HC.out _ _).2 ((hC.next (by first | (simp; done) | (simp; omega) | omega) hb1).skip _ (by rfl))⟩)); go_simp) | (apply flow_yes; (case hw => go_simp); (intro L w' hun hrd hC; have hC := (HC.out _ _).1 hC; have hb' := hC.below; (try have hw' : Below w.heap.size w w' := by first | exact Below.trans (by (repeat (first | with_reducible exact Below.refl _ _ | with_reducible assumption | with_reducible refine Below.al ?_ _ | with_reducible refine Below.sc ?_ (by first | exact Nat.le_refl _ | (simp; done) | (simp; omega)) _ | assumption | exact Below.refl _ _ | refine Below.dr ?_ | refine Below.drN ?_ _ | refine Below.step ?_ (by assumption)))) hb' | ((repeat (first | with_reducible exact Below.refl _ _ | with_reducible assumption | with_reducible refine Below.al ?_ _ | with_reducible refine Below.sc ?_ (by first | exact Nat.le_refl _ | (simp; done) | (simp; omega)) _ | assumption | exact Below.refl _ _ | refine Below.dr ?_ | refine Below.drN ?_ _ | refine Below.step ?_ (by assumption))); done)); have hf' := hC.cell; (try simp only [List.forall_mem_cons] at hf'); go_simp; first | exact ⟨(HC.out _ _).2 (hC.skip _ (by rfl)), rfl⟩ | (rw [if_neg]; (exact ⟨(HC.out _ _).2 (hC.skip _ (by rfl)), rfl⟩); omega) | (go_at_call 163; (with_reducible refine (isVar_any (m + 1) a _ _ _ (TmAt.below hw' HA.out) hoa).mono ?_); rintro e w1 ⟨rfl, hb1⟩; exact ⟨rfl, (HC.out _ _).2 ((hC.next (by first | (simp; done) | (simp; omega) | omega) hb1).skip _ (by rfl))⟩) | (go_at_call 163; (with_reducible refine (isVar_any (m + 1) b _ _ _ (TmAt.below hw' HB.out) hob).mono ?_); rintro e w1 ⟨rfl, hb1⟩; exact ⟨rfl, (HC.out _ _).2 ((hC.next (by first | (simp; done) | (simp; omega) | omega) hb1).skip _ (by rfl))⟩)); go_simp) | (apply flow_no; (case hw => (go_simp; try (intro hh; cases hh))); (intro L w' _ _ hC; exact (HC.out _ _).2 (((HC.out _ _).1 hC).skip _ (by rfl))); go_simp))
    refine flow_nil ?_
    intro L wz hL hz
    have hz := (HC.out _ _).1 hz
    have hbz := hz.below
    have hcz := hz.cell
    try simp only [List.forall_mem_cons] at hcz
    have hdz := hz.done
    try simp only [List.forall_mem_cons] at hdz
    (try have hwz : Below w.heap.size w wz := by first | exact Below.trans (by (repeat (first | with_reducible exact Below.refl _ _ | with_reducible assumption | with_reducible refine Below.al ?_ _ | with_reducible refine Below.sc ?_ (by first | exact Nat.le_refl _ | (simp; done) | (simp; omega)) _ | assumption | exact Below.refl _ _ | refine Below.dr ?_ | refine Below.drN ?_ _ | refine Below.step ?_ (by assumption)))) hbz | ((repeat (first | with_reducible exact Below.refl _ _ | with_reducible assumption | with_reducible refine Below.al ?_ _ | with_reducible refine Below.sc ?_ (by first | exact Nat.le_refl _ | (simp; done) | (simp; omega)) _ | assumption | exact Below.refl _ _ | refine Below.dr ?_ | refine Below.drN ?_ _ | refine Below.step ?_ (by assumption))); done))
    cases hva : varB a.n.data.toList <;> cases hvb : varB b.n.data.toList
    case true.false =>
      go_wp2
      go_ret
      exact ⟨ret_int (by rw [HCE.out, hva, hvb]; rfl), by (repeat (first | with_reducible exact Below.refl _ _ | with_reducible assumption | with_reducible refine Below.al ?_ _ | with_reducible refine Below.sc ?_ (by first | exact Nat.le_refl _ | (simp; done) | (simp; omega)) _ | assumption | exact Below.refl _ _ | refine Below.dr ?_ | refine Below.drN ?_ _ | refine Below.step ?_ (by assumption)))⟩
    case false.true =>
      go_wp2
      go_ret
      exact ⟨ret_int (by rw [HCE.out, hva, hvb]; rfl), by (repeat (first | with_reducible exact Below.refl _ _ | with_reducible assumption | with_reducible refine Below.al ?_ _ | with_reducible refine Below.sc ?_ (by first | exact Nat.le_refl _ | (simp; done) | (simp; omega)) _ | assumption | exact Below.refl _ _ | refine Below.dr ?_ | refine Below.drN ?_ _ | refine Below.step ?_ (by assumption)))⟩
    all_goals
      have HCE2 := Lib.hid (show a.cmp b = if textCmp a.n.data.toList b.n.data.toList ≠ 0 then textCmp a.n.data.toList b.n.data.toList else if a.us.length < b.us.length then -1 else if b.us.length < a.us.length then 1 else Tm.cmps a.us b.us by rw [HCE.out, hva, hvb]; rfl)
      clear hva hvb
      go_wp2
      obtain ⟨g0, g1, k0, k1⟩ := hcz
      have hwq : Below w.heap.size w wz := by first | exact hwz | (repeat (first | with_reducible exact Below.refl _ _ | with_reducible assumption | with_reducible refine Below.al ?_ _ | with_reducible refine Below.sc ?_ (by first | exact Nat.le_refl _ | (simp; done) | (simp; omega)) _ | assumption | exact Below.refl _ _ | refine Below.dr ?_ | refine Below.drN ?_ _ | refine Below.step ?_ (by assumption)))
      have zq := bsz (show w.heap.size < wz.heap.size by have := hbz.size; omega)
      have zq1 := bsz (show w.heap.size + 1 < wz.heap.size by have := hbz.size; omega)
      clear a0 a1 b0 b1 hdz
      go_region_held3 (fun w' => w'.cell? ⟨w.heap.size, 0, none⟩ = some (.string a.n) ∧ w'.cell? ⟨w.heap.size, 1, none⟩ = some (.slice p a.us.length c) ∧ w'.cell? ⟨w.heap.size + 1, 0, none⟩ = some (.string b.n) ∧ w'.cell? ⟨w.heap.size + 1, 1, none⟩ = some (.slice q b.us.length d)) (first | go_keep | (refine ⟨?_, ?_, ?_, ?_⟩ <;> first | assumption | (go_simp; done) | exact (World.cell?_of_block (hb7.block _ (by simp; omega))).trans (by first | assumption | (go_simp; done)))) (first | (go_at_call 164; refine (compareS_any _ _ _).mono ?_; rintro e w6 ⟨rfl, rfl⟩) | (go_at_call 131; refine (Tryz.cmp_Compare_int _ _ _).mono ?_; rintro e w6 ⟨rfl, rfl⟩) | (go_at_call 129; refine (or2_any (textCmp a.n.data.toList b.n.data.toList) (Lib.compareInt a.us.length b.us.length) _ _ _ (by go_simp) (by go_simp)).mono ?_; rintro e w7 ⟨rfl, hb7⟩))
      have ⟨cb7, fb7⟩ := bcell hb7
      have hq7 := hb7.size
      simp at hq7
      have hqz := hbz.size
      have zr := bsz (show w.heap.size < w7.heap.size by omega)
      have zr1 := bsz (show w.heap.size + 1 < w7.heap.size by omega)
      have HCE3 := Lib.hid (HCE2.out.trans (cmp_or _ _ _ _))
      generalize orI (textCmp a.n.data.toList b.n.data.toList) (Lib.compareInt (a.us.length : Nat) (b.us.length : Nat)) = r at *
      have hw7 : Below w.heap.size w w7 := by (repeat (first | with_reducible exact Below.refl _ _ | with_reducible assumption | with_reducible refine Below.al ?_ _ | with_reducible refine Below.sc ?_ (by first | exact Nat.le_refl _ | (simp; done) | (simp; omega)) _ | assumption | exact Below.refl _ _ | refine Below.dr ?_ | refine Below.drN ?_ _ | refine Below.step ?_ (by assumption)))
      cases hz : (r == 0)
      · have hz' : (r != 0) = true := by rw [bne, hz]; rfl
        have hz2 : ¬ r = 0 := by simpa using hz
        go_wp2
        go_ret
        exact ⟨ret_int (by rw [HCE3.out, if_pos hz2]), hw7⟩
      · have hz' : (r != 0) = false := by rw [bne, hz]; rfl
        have hz2 : r = 0 := by simpa using hz
        go_wp2_with fail
        refine (IH.out _ _ _ (TmAt.sub' (TmAt.below hw7 HA.out)) (TmAt.sub' (TmAt.below hw7 HB.out))).mono ?_
        rintro e w8 ⟨rfl, hb8⟩
        go_wp2
        go_ret
        exact ⟨ret_int (by rw [HCE3.out, if_neg (by simpa using hz2)]), Below.trans hw7 (hb8.mono hw7.size)⟩
end Go.Proofs.YtdklemmincejpaaGreat
