import Derived.Test.YtmbkjdkjemlfkaaGreatDoorDfPart5
namespace Go.Proofs.YtmbkjdkjemlfkaaGreatDoor
open Go.RowKit
def AppSt (T : TypeId) (_g bt : Nat) (CP : Value → World → Prop) (v : Value) (n : Nat) (W : World) (i j k : Nat) : Nat → (Nat → Value) → World → Prop
  | 0, _, w => w = W.drew
  | 1, u, w => CP (u i) w
  | 2, u, w => ∃ w1 v0 v1, CP (.agg #[v0, v1]) w1 ∧ u j = .slice (some ⟨w1.heap.size, 0, none⟩) 1 1 ∧ w = w1.alloc (.cells #[v0, v1] T)
  | 3, u, w => ∃ w1 v0 v1, CP (.agg #[v0, v1]) w1 ∧ (∀ b xs, w1.ownsRow b T 2 v n xs → b ≤ w1.heap.size → w.ownsRow b T 2 (u k) (n + 1) (xs ++ [v0, v1])) ∧ w1.grownBy w v.ownBlock ∧ NewRow v (u k) w1.heap.size ∧ w1.heap.size < w.heap.size
  | 4, u, w => ∃ w1 w3 v0 v1, CP (.agg #[v0, v1]) w1 ∧ (∀ b xs, w1.ownsRow b T 2 v n xs → b ≤ w1.heap.size → w3.ownsRow b T 2 (u k) (n + 1) (xs ++ [v0, v1])) ∧ w1.grownBy w3 v.ownBlock ∧ NewRow v (u k) w1.heap.size ∧ w1.heap.size < w3.heap.size ∧ w = w3.setCell ⟨bt, 1, none⟩ (u k)
  | _, _, _ => False
theorem AppSt.cell {T : TypeId} {g bt n i j k : Nat} {CP : Value → World → Prop} {v v' : Value} {W : World} (hG : ∀ x w', CP x w' → W.grownBy w' (some g)) (hc : W.cell? ⟨bt, 1, none⟩ = some v') (hne : bt ≠ g) {m : Nat} (hm : m ≤ 2) {u : Nat → Value} {w : World} (h : AppSt T g bt CP v n W i j k m u w) : w.cell? ⟨bt, 1, none⟩ = some v' := by
  match m, hm, h with
  | 0, _, h => obtain rfl : w = W.drew := h; exact hc
  | 1, _, h => exact grown_cell (hG _ _ h) hc (by simpa using hne)
  | 2, _, h =>
    obtain ⟨w1, v0, v1, h1, _, rfl⟩ := h
    have h2 := grown_cell (hG _ _ h1) hc (by simpa using hne)
    exact (((Below.refl w1.heap.size w1).alloc (Nat.le_refl _) _).cell (World.block_lt_of_cell? w1 _ h2)).trans h2
theorem heap_lt {w : World} {b : Nat} {o : Obj} (h : w.heap[b]? = some o) : b < w.heap.size := by
  rcases Nat.lt_or_ge b w.heap.size with h' | h'
  · exact h'
  · rw [Array.getElem?_eq_none h'] at h; cases h
theorem own_lt' {w : World} {base : Nat} {e : TypeId} {size : Nat} {v : Value} {n : Nat} {xs : List Value} (h : w.ownsRow base e size v n xs) {g : Nat} (hg : v.ownBlock = some g) : g < w.heap.size := by
  rcases h.2 with ⟨rfl, _⟩ | ⟨g', cap, cur, rfl, _, hh, _⟩
  · simp [Value.ownBlock] at hg
  · have : g' = g := by simpa [Value.ownBlock] using hg
    subst this; exact heap_lt hh
theorem elemTmI : Elem Tryz.prog 24 26 2 40 := elem_of Tryz.underlying24 (z := .agg #[.string ⟨#[]⟩, .slice none 0 0]) (by kernel_rfl) rfl (by omega)
theorem cells2_cell {w : World} {g : Nat} {x y : Value} {t : TypeId} (h : w.heap[g]? = some (.cells #[x, y] t (0, 0))) : w.cell? ⟨g, 0, none⟩ = some x ∧ w.cell? ⟨g, 1, none⟩ = some y ∧ (∀ j, w.frozen? ⟨g, j, none⟩ = false) := by
  refine ⟨?_, ?_, fun j => frozen_of_row w g j _ _ h⟩
  · rw [cell_of_row w g 0 _ _ (0, 0) h]; rfl
  · rw [cell_of_row w g 1 _ _ (0, 0) h]; rfl
theorem own_unique {w : World} {base : Nat} {e : TypeId} {size : Nat} {v : Value} {n : Nat} {xs ys : List Value} (h : w.ownsRow base e size v n xs) (h' : w.ownsRow base e size v n ys) : xs = ys := by
  obtain ⟨l1, h1⟩ := h
  obtain ⟨l2, h2⟩ := h'
  rcases h1 with ⟨rfl, h0⟩ | ⟨g, cap, cur, rfl, hb, hh, h3, h4, h5, h6⟩
  · subst h0
    rw [Nat.zero_mul] at l1 l2
    rw [List.eq_nil_of_length_eq_zero l1, List.eq_nil_of_length_eq_zero l2]
  · rcases h2 with ⟨hv, _⟩ | ⟨g', cap', cur', hv, _, hh', _, _, _, h6'⟩
    · cases hv
    · simp only [Value.slice.injEq, Option.some.injEq, Addr.mk.injEq] at hv
      obtain ⟨⟨rfl, -⟩, -, rfl⟩ := hv
      rw [hh] at hh'
      simp only [Option.some.injEq, Obj.cells.injEq] at hh'
      rw [← h6, ← h6', hh'.1]
structure LSt (T : TypeId) (rb bt : Nat) (n : ByteArray) (w : World) (f : Nat) (v : Value) (us : List Tm) (W : World) : Prop where
  res : W.heap[rb]? = some (.cells #[.string ⟨#[]⟩, .slice none 0 0] T (0, 0))
  cell : W.heap[bt]? = some (.cells #[.string n, v] T (0, 0))
  row : OwnRow (fun b => bt < b ∧ b < W.heap.size) W T 2 (fun S x c => TmOwn T f S W x c) v us
  bel : Below w.heap.size w W
  lt : w.heap.size ≤ rb ∧ rb < bt ∧ bt < W.heap.size
theorem LSt.later {T : TypeId} {rb bt : Nat} {n : ByteArray} {w W W' : World} {f : Nat} {v : Value} {us : List Tm} (h : LSt T rb bt n w f v us W) (hb : Below W.heap.size W W') : LSt T rb bt n w f v us W' := by
  have hz := hb.size
  obtain ⟨l1, l2, l3⟩ := h.lt
  exact ⟨(hb.block _ (by omega)).trans h.res, (hb.block _ l3).trans h.cell, h.row.mono (SameOn.below hb) (fun b h => ⟨h.1, by omega⟩) (fun S x c _ _ hx => TmOwn.below hb hx), ⟨hb.os.trans h.bel.os, hb.tape.trans h.bel.tape, hb.output.trans h.bel.output, Nat.le_trans h.bel.size hb.size, fun b hlt => (hb.block b (Nat.lt_of_lt_of_le hlt h.bel.size)).trans (h.bel.block b hlt)⟩, l1, l2, by omega⟩
theorem LSt.app {T : TypeId} {rb bt : Nat} {n : ByteArray} {w W W2 w3 : World} {f : Nat} {v v' v0 v1 : Value} {us : List Tm} {a : Tm} (h : LSt T rb bt n w f v us W) (hb : Below W.heap.size W W2) (hO : TmOwn T f (fun b => W.heap.size ≤ b ∧ b < W2.heap.size) W2 a [v0, v1])
    {vals : List Value} (hv : W2.ownsRow 0 T 2 v us.length vals) (happ : w3.ownsRow 0 T 2 v' (us.length + 1) (vals ++ [v0, v1])) (hg : W2.grownBy w3 v.ownBlock) (hnr : NewRow v v' W2.heap.size) (hlen : us.length + 1 ≤ 1048576) :
    LSt T rb bt n w f v' (us ++ [a]) (w3.setCell ⟨bt, 1, none⟩ v') := by
  have H2 := h.later hb
  obtain ⟨l1, l2, l3⟩ := h.lt
  obtain ⟨-, -, l4⟩ := H2.lt
  have hz := hb.size
  have hz3 := hg.size
  obtain ⟨hm, vals0, Ss, r1, r2, r3, r4⟩ := h.row
  have hvb : ∀ b, v.ownBlock = some b → bt < b ∧ b < W.heap.size := fun b hb => r2 b hb
  have nob : ∀ b, b ≤ bt → v.ownBlock ≠ some b := fun b hb e => by have := hvb b e; omega
  have hnew : ∀ b, v'.ownBlock = some b → bt < b ∧ b < w3.heap.size := fun b hb => ⟨by
    rcases hnr with e | ⟨b', e, hge⟩
    · rw [e] at hb; exact (hvb b hb).1
    · rw [e] at hb; injection hb with hb; omega, own_lt' happ hb⟩
  have hrow := OwnRow.snoc (S' := fun b => bt < b ∧ b < w3.heap.size) (R' := fun S x c => TmOwn T f S w3 x c)
    (h.row.mono (S' := fun b => bt < b ∧ b < W.heap.size) (w' := W2) (R' := fun S x c => TmOwn T f S W2 x c) (SameOn.below hb) (fun _ h => h) (fun S x c _ _ hx => TmOwn.below hb hx)) hO rfl
    (fun vs hvs => by rw [own_unique hvs hv]; exact happ) hg hnr (by unfold maxLen; omega) (fun b hb hS => by omega) (fun b hb => by omega) (fun b hb => hb.2) (fun b hb => by omega) (fun b hb => by omega) hnew
    (fun S x c hS hx => TmOwn.mono f f x c (Nat.le_refl _) (fun b hb hlt => hg.block b hlt (fun e => (hS b hb).2 e.symm)) (fun _ h => h) hx)
  have hbt3 : w3.heap[bt]? = some (.cells #[.string n, v] T (0, 0)) := (hg.block bt l4 (fun e => nob bt (Nat.le_refl _) e.symm)).trans H2.cell
  refine ⟨?_, ?_, ?_, ?_, l1, l2, by simp; omega⟩
  · exact (heap_setCell_other w3 ⟨bt, 1, none⟩ rb v' (by simp; omega)).trans ((hg.block rb (by omega) (fun e => nob rb (by omega) e.symm)).trans H2.res)
  · have := heap_setCell_same w3 bt 1 _ T v' hbt3
    simpa using this
  · exact hrow.mono (fun b hb hlt => heap_setCell_other w3 ⟨bt, 1, none⟩ b v' (by simp; omega)) (fun b hb => by simpa using hb)
      (fun S x c _ hS hx => TmOwn.mono f f x c (Nat.le_refl _) (fun b hb hlt => heap_setCell_other w3 ⟨bt, 1, none⟩ b v' (by have := hS b hb; simp; omega)) (fun _ h => h) hx)
  · have hb2 := H2.bel
    exact ⟨hg.os.trans hb2.os, hg.tape.trans hb2.tape, hg.output.trans hb2.output, by have := hb2.size; simp; omega, fun b hlt => (heap_setCell_other w3 ⟨bt, 1, none⟩ b v' (by simp; omega)).trans ((hg.block b (by have := hb2.size; omega) (fun e => nob b (by omega) e.symm)).trans (hb2.block b hlt))⟩
def GotTm (T : TypeId) (f : Nat) (r : Option (Tm × Nat)) (w : World) (x : Value) (w' : World) : Prop :=
  Below w.heap.size w w' ∧ ∃ (s : ByteArray) (p : Option Addr) (k c : Nat) (z : Int), x = .tuple #[.agg #[.string s, .slice p k c], .int .i64 z] ∧ match r with
    | none => z = -1
    | some (t, j) => z = (j : Nat) ∧ TmOwn T f (fun b => w.heap.size ≤ b ∧ b < w'.heap.size) w' t [.string s, .slice p k c]
theorem LSt.done {T : TypeId} {rb bt : Nat} {n : ByteArray} {w W : World} {f : Nat} {p : Option Addr} {k c : Nat} {us : List Tm} (h : LSt T rb bt n w f (.slice p k c) us W) (hn : n.size ≤ maxLen) (a b : Value) (j : Nat) :
    GotTm T (f + 1) (some (.mk n us, j)) w (.tuple #[.agg #[.string n, .slice p k c], .int .i64 (j : Nat)]) ((W.setCell ⟨rb, 0, none⟩ a).setCell ⟨rb, 1, none⟩ b) := by
  obtain ⟨l1, l2, l3⟩ := h.lt
  have hk : ∀ c, c ≠ rb → ((W.setCell ⟨rb, 0, none⟩ a).setCell ⟨rb, 1, none⟩ b).heap[c]? = W.heap[c]? := fun c hc => (heap_setCell_other _ ⟨rb, 1, none⟩ c b (fun e => hc e)).trans (heap_setCell_other W ⟨rb, 0, none⟩ c a (fun e => hc e))
  have hb := h.bel
  refine ⟨⟨hb.os, hb.tape, hb.output, by simpa using hb.size, fun c hc => (hk c (by omega)).trans (hb.block c hc)⟩, _, _, _, _, _, rfl, rfl, _, rfl, hn, ?_⟩
  exact h.row.mono (fun c hc _ => hk c (by omega)) (fun c hc => by simp; omega)
      (fun S x c _ hS hx => TmOwn.mono f f x c (Nat.le_refl _) (fun d hd _ => hk d (by have := (hS d hd).1; omega)) (fun _ h => h) hx)
theorem LSt.init {T : TypeId} {n : ByteArray} {w wr : World} {f : Nat} (hbr : Below (w.alloc (.cells #[.string ⟨#[]⟩, .slice Option.none 0 0] T)).heap.size (w.alloc (.cells #[.string ⟨#[]⟩, .slice Option.none 0 0] T)) wr) :
    LSt T w.heap.size wr.heap.size n w f (.slice Option.none 0 0) [] (wr.alloc (.cells #[.string n, .slice Option.none 0 0] T)) := by
  have hz := hbr.size
  simp at hz
  refine ⟨(hao wr _ _ (by omega)).trans ((hbr.block _ (by simp)).trans (heap_alloc_new w _)), heap_alloc_new wr _, OwnRow.nil _ _ _ _ _, ⟨hbr.os, hbr.tape, hbr.output, by simp; omega, fun b hlt => (hao wr _ _ (by omega)).trans ((hbr.block b (by simp; omega)).trans (hao w _ _ hlt))⟩, Nat.le_refl _, by omega, by simp⟩
theorem LSt.three {T : TypeId} {rb bt : Nat} {n : ByteArray} {w W w3 : World} {f : Nat} {v v' : Value} {us : List Tm} {ys : List Value} (h : LSt T rb bt n w f v us W) (happ : w3.ownsRow 0 T 2 v' (us.length + 1) ys) (hg : W.grownBy w3 v.ownBlock) :
    (∃ q c, v' = .slice (some ⟨q, 0, Option.none⟩) (us.length + 1) c) ∧ w3.heap[bt]? = some (.cells #[.string n, v] T (0, 0)) ∧ w3.heap[rb]? = some (.cells #[.string ⟨#[]⟩, .slice Option.none 0 0] T (0, 0)) := by
  obtain ⟨l1, l2, l3⟩ := h.lt
  obtain ⟨hm, vals, Ss, r1, r2, r3, r4⟩ := h.row
  exact ⟨own_form happ (by omega), (hg.block bt l3 (fun e => by have := (r2 bt e.symm).1; omega)).trans h.cell, (hg.block rb (by omega) (fun e => by have := (r2 rb e.symm).1; omega)).trans h.res⟩
theorem AppSt.keep {T : TypeId} {g bt n i j k : Nat} {CP : Value → World → Prop} {v : Value} {W : World} (hG : ∀ x w', CP x w' → W.grownBy w' (some g)) {c : Nat} (hc : c < W.heap.size) (hne : c ≠ g) (hv : v.ownBlock ≠ some c) (hbt : c ≠ bt) {m : Nat} {u : Nat → Value} {w : World} (h : AppSt T g bt CP v n W i j k m u w) : w.heap[c]? = W.heap[c]? := by
  have h1 : ∀ x w1, CP x w1 → w1.heap[c]? = W.heap[c]? ∧ c < w1.heap.size := fun x w1 h => ⟨(hG _ _ h).block c hc (by simpa using hne), Nat.lt_of_lt_of_le hc (hG _ _ h).size⟩
  match m, h with
  | 0, h => obtain rfl : w = W.drew := h; rfl
  | 1, h => exact (h1 _ _ h).1
  | 2, h =>
    obtain ⟨w1, v0, v1, h2, _, rfl⟩ := h
    exact (hao w1 _ _ (h1 _ _ h2).2).trans (h1 _ _ h2).1
  | 3, h =>
    obtain ⟨w1, v0, v1, h2, -, hg, -⟩ := h
    exact (hg.block c (h1 _ _ h2).2 (fun e => hv e.symm)).trans (h1 _ _ h2).1
  | 4, h =>
    obtain ⟨w1, w3, v0, v1, h2, -, hg, -, -, rfl⟩ := h
    exact (heap_setCell_other w3 ⟨bt, 1, Option.none⟩ c _ (fun e => hbt e)).trans ((hg.block c (h1 _ _ h2).2 (fun e => hv e.symm)).trans (h1 _ _ h2).1)
theorem LSt.out {T : TypeId} {rb bt : Nat} {n : ByteArray} {w W : World} {f : Nat} {p : Option Addr} {k c : Nat} {us : List Tm} (h : LSt T rb bt n w f (.slice p k c) us W) (hn : n.size ≤ maxLen) (a b : Value) :
    Below w.heap.size w ((W.setCell ⟨rb, 0, Option.none⟩ a).setCell ⟨rb, 1, Option.none⟩ b) ∧ TmOwn T (f + 1) (fun q => w.heap.size ≤ q ∧ q < ((W.setCell ⟨rb, 0, Option.none⟩ a).setCell ⟨rb, 1, Option.none⟩ b).heap.size) ((W.setCell ⟨rb, 0, Option.none⟩ a).setCell ⟨rb, 1, Option.none⟩ b) (.mk n us) [.string n, .slice p k c] := by
  obtain ⟨hb, s, p', k', c', z, he, hz, hO⟩ := LSt.done h hn a b 0
  simp only [Value.tuple.injEq, Array.mk.injEq, List.cons.injEq, Value.agg.injEq, Value.string.injEq, Value.slice.injEq, and_true] at he
  obtain ⟨⟨rfl, rfl, rfl, rfl⟩, -⟩ := he
  exact ⟨hb, hO⟩
section
variable {α : Type} (R : (Nat → Prop) → World → α → List Value → Prop)
def KeepR : Prop := ∀ (S S' : Nat → Prop) (w w' : World) (x : α) (cs : List Value), SameOn S w w' → (∀ b, S b → S' b) → R S w x cs → R S' w' x cs
end
def AppG (eT : TypeId) (sz bt ci : Nat) (CP : Value → World → Prop) (v : Value) (n : Nat) (W : World) (i j k : Nat) : Nat → (Nat → Value) → World → Prop
  | 0, _, w => w = W.drew
  | 1, u, w => CP (u i) w
  | 2, u, w => ∃ w1 cs, CP (.agg cs) w1 ∧ u j = .slice (some ⟨w1.heap.size, 0, none⟩) 1 1 ∧ w = w1.alloc (.cells cs eT)
  | 3, u, w => ∃ w1 cs, CP (.agg cs) w1 ∧ (∀ b xs, w1.ownsRow b eT sz v n xs → b ≤ w1.heap.size → w.ownsRow b eT sz (u k) (n + 1) (xs ++ cs.toList)) ∧ w1.grownBy w v.ownBlock ∧ NewRow v (u k) w1.heap.size ∧ w1.heap.size < w.heap.size
  | 4, u, w => ∃ w1 w3 cs, CP (.agg cs) w1 ∧ (∀ b xs, w1.ownsRow b eT sz v n xs → b ≤ w1.heap.size → w3.ownsRow b eT sz (u k) (n + 1) (xs ++ cs.toList)) ∧ w1.grownBy w3 v.ownBlock ∧ NewRow v (u k) w1.heap.size ∧ w1.heap.size < w3.heap.size ∧ w = w3.setCell ⟨bt, ci, none⟩ (u k)
  | _, _, _ => False
theorem AppG.cell {eT : TypeId} {sz g bt ci n i j k : Nat} {CP : Value → World → Prop} {v v' : Value} {W : World} (hG : ∀ x w', CP x w' → W.grownBy w' (some g)) {c o : Nat} (hc : W.cell? ⟨c, o, none⟩ = some v') (hne : c ≠ g) {m : Nat} (hm : m ≤ 2) {u : Nat → Value} {w : World} (h : AppG eT sz bt ci CP v n W i j k m u w) : w.cell? ⟨c, o, none⟩ = some v' := by
  match m, hm, h with
  | 0, _, h => obtain rfl : w = W.drew := h; exact hc
  | 1, _, h => exact grown_cell (hG _ _ h) hc (by simpa using hne)
  | 2, _, h =>
    obtain ⟨w1, cs, h1, _, rfl⟩ := h
    have h2 := grown_cell (hG _ _ h1) hc (by simpa using hne)
    exact (((Below.refl w1.heap.size w1).alloc (Nat.le_refl _) _).cell (World.block_lt_of_cell? w1 _ h2)).trans h2
def SetsTo (mk : Value → Obj) (ci : Nat) : Prop := ∀ (w : World) (bt : Nat) (v v' : Value), w.heap[bt]? = some (mk v) → (w.setCell ⟨bt, ci, none⟩ v').heap[bt]? = some (mk v')
theorem own_take {w : World} {base : Nat} {e : TypeId} {size n c k : Nat} {p : Option Addr} {vals : List Value} (h : w.ownsRow base e size (.slice p n c) n vals) (hk : k ≤ n) (h0 : 0 < n) : w.ownsRow base e size (.slice p k c) k (vals.take (k * size)) := by
  have hks : k * size ≤ n * size := Nat.mul_le_mul_right _ hk
  rcases h.2 with ⟨hv, h1⟩ | ⟨g, cap, cur, hv, h1, h2, h3, h4, h5, h6⟩
  · omega
  · simp only [Value.slice.injEq, true_and] at hv
    obtain ⟨rfl, rfl⟩ := hv
    refine ⟨by rw [List.length_take, h.1]; omega, .inr ⟨g, c, cur, rfl, h1, h2, by omega, h4, h5, ?_⟩⟩
    rw [← h6, List.take_take, Nat.min_eq_left hks]
theorem own_len' {w : World} {base : Nat} {e : TypeId} {size : Nat} {v : Value} {n : Nat} {xs : List Value} (h : w.ownsRow base e size v n xs) : n ≤ maxLen := by
  rcases h.2 with ⟨_, rfl⟩ | ⟨g, cap, cur, _, _, _, h1, h2, _⟩
  · exact Nat.zero_le _
  · exact Nat.le_trans h1 h2
theorem OwnRow.room {α : Type} {S : Nat → Prop} {w : World} {e : TypeId} {size c : Nat} {p : Option Addr} {R : (Nat → Prop) → α → List Value → Prop} {xs : List α} (h : OwnRow S w e size R (.slice p xs.length c) xs) : xs.length ≤ c := by
  obtain ⟨hm, vals, Ss, h1, _⟩ := h
  rcases h1.2 with ⟨hv, h2⟩ | ⟨g, cap, cur, hv, _, _, h3, _⟩
  · omega
  · simp only [Value.slice.injEq, true_and] at hv
    obtain ⟨rfl, rfl⟩ := hv
    exact h3
theorem OwnRow.take {α : Type} {S : Nat → Prop} {w : World} {e : TypeId} {size c k : Nat} {p : Option Addr} {R : (Nat → Prop) → α → List Value → Prop} {xs : List α} (h : OwnRow S w e size R (.slice p xs.length c) xs) (hk : k ≤ xs.length) (h0 : 0 < xs.length) : OwnRow S w e size R (.slice p k c) (xs.take k) := by
  obtain ⟨hm, vals, Ss, h1, h2, h3, h4⟩ := h
  have hl : (xs.take k).length = k := by rw [List.length_take]; omega
  have hob : (Value.slice p k c).ownBlock = (Value.slice p xs.length c).ownBlock := by cases p <;> rfl
  refine ⟨by omega, vals.take (k * size), Ss, by rw [hl]; exact own_take h1 hk h0, fun g hg => h2 g (hob ▸ hg), fun i x hx => ?_, fun i j b hi hj hne hb => h4 i j b (by omega) (by omega) hne hb⟩
  have hi : i < k := by have := (List.getElem?_eq_some_iff.1 hx).1; omega
  rw [List.getElem?_take, if_pos hi] at hx
  obtain ⟨k1, k2⟩ := h3 i x hx
  refine ⟨?_, fun b hb => ⟨(k2 b hb).1, fun e => (k2 b hb).2 (hob ▸ e)⟩⟩
  have h5 : (i + 1) * size ≤ k * size := Nat.mul_le_mul_right _ hi
  rw [Nat.succ_mul] at h5
  have : ((vals.take (k * size)).drop (i * size)).take size = (vals.drop (i * size)).take size := by
    rw [List.drop_take, List.take_take, Nat.min_eq_left (by omega)]
  rw [this]; exact k1
theorem Cur.own {w w' : World} {g m : Nat} {v : Value} (h : Cur w g m) (hg : w.grownBy w' v.ownBlock) (hv : ∀ b, v.ownBlock = some b → g < b) : Cur w' g m := by
  have hlt := h.lt
  obtain ⟨u, a, s, h1, h2, h3, h4, h5, code, h6, h7⟩ := h
  exact ⟨u, a, s, (hg.block g hlt (fun e => by have := hv g e.symm; omega)).trans h1, h2, h3, h4, h5, code, h6, h7.mono (fun b hb hlt => hg.block b hlt (fun e => by have := hv b e.symm; omega)) (fun _ h => h) (fun _ _ _ h => h)⟩
structure NSt {α : Type} (R : (Nat → Prop) → World → α → List Value → Prop) (eT : TypeId) (sz : Nat) (mk : Value → Obj) (X : Nat → Prop) (w : World) (g m bt : Nat) (v : Value) (xs : List α) (W : World) : Prop where
  cur : Cur W g m
  cell : W.heap[bt]? = some (mk v)
  row : OwnRow (fun b => w.heap.size ≤ b ∧ b < W.heap.size ∧ ¬ X b) W eT sz (fun S x c => R S W x c) v xs
  gr : w.grownBy W (some g)
  lt : g < w.heap.size ∧ w.heap.size ≤ bt
  x : X bt ∧ ∀ b, X b → b < W.heap.size
section
variable {α : Type} {R : (Nat → Prop) → World → α → List Value → Prop} {eT : TypeId} {sz : Nat} {mk : Value → Obj} {X : Nat → Prop} {w W W' W2 w3 : World} {g m m' bt ci : Nat} {v v' : Value} {xs : List α} {a : α}
theorem NSt.later (hR : KeepR R) (h : NSt R eT sz mk X w g m bt v xs W) (hG : W.grownBy W' (some g)) (hC : Cur W' g m') : NSt R eT sz mk X w g m' bt v xs W' := by
  obtain ⟨l1, l2⟩ := h.lt
  have hz := hG.size
  refine ⟨hC, (hG.block bt (heap_lt h.cell) (by simp; omega)).trans h.cell, ?_, gr_trans h.gr hG, h.lt, h.x.1, fun b hb => by have := h.x.2 b hb; omega⟩
  exact h.row.mono (fun b hb hlt => hG.block b hlt (by simp; omega)) (fun b hb => ⟨hb.1, by omega, hb.2.2⟩)
    (fun S x c _ hS hx => hR _ _ _ _ _ _ (fun b hb hlt => hG.block b hlt (by have := hS b hb; simp; omega)) (fun _ h => h) hx)
theorem NSt.below (hR : KeepR R) (h : NSt R eT sz mk X w g m bt v xs W) (hb : Below W.heap.size W W') : NSt R eT sz mk X w g m bt v xs W' :=
  h.later hR (gr_below (gr_refl W g) hb) (h.cur.below hb)
theorem NSt.own (h : NSt R eT sz mk X w g m bt v xs W) : ∃ vals, W.ownsRow 0 eT sz v xs.length vals := by
  obtain ⟨_, vals, _, h1, _⟩ := h.row
  exact ⟨vals, h1⟩
theorem NSt.vb (h : NSt R eT sz mk X w g m bt v xs W) : ∀ b, v.ownBlock = some b → w.heap.size ≤ b ∧ b < W.heap.size ∧ ¬ X b := by
  obtain ⟨_, vals, _, _, h1, _⟩ := h.row
  exact h1
theorem NSt.form (h : NSt R eT sz mk X w g m bt v xs W) : ∃ p c, v = .slice p xs.length c ∧ xs.length ≤ maxLen := h.row.form
theorem NSt.three (h : NSt R eT sz mk X w g m bt v xs W) {vals : List Value} {n : Nat} (hn : 0 < n) (happ : w3.ownsRow 0 eT sz v' n vals) (hg : W.grownBy w3 v.ownBlock) :
    (∃ q c, v' = .slice (some ⟨q, 0, none⟩) n c) ∧ ∀ b, X b → w3.heap[b]? = W.heap[b]? :=
  ⟨own_form happ hn, fun b hb => hg.block b (h.x.2 b hb) (fun e => (h.vb b e.symm).2.2 hb)⟩
theorem NSt.app (hR : KeepR R) (hmk : SetsTo mk ci) {cs : List Value} {Sa : Nat → Prop} (h : NSt R eT sz mk X w g m bt v xs W) (hG : W.grownBy W2 (some g)) (hC : Cur W2 g m') (hO : R Sa W2 a cs) (hSa : ∀ b, Sa b → W.heap.size ≤ b ∧ b < W2.heap.size) (hcs : cs.length = sz)
    {vals : List Value} (hv : W2.ownsRow 0 eT sz v xs.length vals) (happ : w3.ownsRow 0 eT sz v' (xs.length + 1) (vals ++ cs)) (hg : W2.grownBy w3 v.ownBlock) (hnr : NewRow v v' W2.heap.size) (hlen : xs.length + 1 ≤ 1048576) :
    NSt R eT sz mk X w g m' bt v' (xs ++ [a]) (w3.setCell ⟨bt, ci, none⟩ v') := by
  have H2 := h.later hR hG hC
  obtain ⟨l1, l2⟩ := h.lt
  have hz := hG.size
  have hz3 := hg.size
  have hz0 := h.gr.size
  have hvb := h.vb
  have hxl := h.x.2
  have hnew : ∀ b, v'.ownBlock = some b → w.heap.size ≤ b ∧ b < w3.heap.size ∧ ¬ X b := fun b hb => by
    have hlt := own_lt' happ hb
    rcases hnr with e | ⟨b', e, hge⟩
    · rw [e] at hb; have := hvb b hb; exact ⟨this.1, hlt, this.2.2⟩
    · rw [e] at hb; injection hb with hb; exact ⟨by omega, hlt, fun hx => by have := hxl b hx; omega⟩
  have hrow := OwnRow.snoc (S' := fun b => w.heap.size ≤ b ∧ b < w3.heap.size ∧ ¬ X b) (R' := fun S x c => R S w3 x c)
    (h.row.mono (S' := fun b => w.heap.size ≤ b ∧ b < W.heap.size ∧ ¬ X b) (w' := W2) (R' := fun S x c => R S W2 x c) (fun b hb hlt => hG.block b hlt (by simp; omega)) (fun _ h => h) (fun S x c _ hS hx => hR _ _ _ _ _ _ (fun b hb hlt => hG.block b hlt (by have := hS b hb; simp; omega)) (fun _ h => h) hx)) hO hcs
    (fun vs hvs => by rw [own_unique hvs hv]; exact happ) hg hnr (by unfold maxLen; omega) (fun b hb hS => by have := hSa b hb; omega) (fun b hb => by omega) (fun b hb => (hSa b hb).2) (fun b hb => ⟨hb.1, by omega, hb.2.2⟩) (fun b hb => ⟨by have := hSa b hb; omega, by have := hSa b hb; omega, fun hx => by have := hSa b hb; have := hxl b hx; omega⟩) hnew
    (fun S x c hS hx => hR _ _ _ _ _ _ (fun b hb hlt => hg.block b hlt (fun e => (hS b hb).2 e.symm)) (fun _ h => h) hx)
  have hxk := (H2.three (v' := v') (n := xs.length + 1) (by omega) happ hg).2
  have hbt3 : w3.heap[bt]? = some (mk v) := (hxk bt h.x.1).trans H2.cell
  refine ⟨?_, hmk w3 bt v v' hbt3, ?_, ?_, h.lt, h.x.1, fun b hb => by have := hxl b hb; simp; omega⟩
  · exact (hC.own hg (fun b hb => by have := hvb b hb; omega)).sc (by show g < bt; omega) _
  · exact hrow.mono (fun b hb hlt => heap_setCell_other w3 ⟨bt, ci, none⟩ b v' (fun e => by have e' : b = bt := e; exact hb.2.2 (e' ▸ h.x.1))) (fun b hb => by simpa using hb)
      (fun S x c _ hS hx => hR _ _ _ _ _ _ (fun b hb hlt => heap_setCell_other w3 ⟨bt, ci, none⟩ b v' (fun e => by have e' : b = bt := e; exact (hS b hb).2.2 (e' ▸ h.x.1))) (fun _ h => h) hx)
  · have h2 := H2.gr
    exact gr_sc ⟨hg.os.trans h2.os, hg.tape.trans h2.tape, hg.output.trans h2.output, Nat.le_trans h2.size hg.size, fun b hb hne => (hg.block b (by omega) (fun e => by have := hvb b e.symm; omega)).trans (h2.block b hb hne)⟩ (.inr (by show w.heap.size ≤ bt; omega)) _
theorem NSt.cut (hR : KeepR R) (hmk : SetsTo mk ci) {p : Option Addr} {c k : Nat} (h : NSt R eT sz mk X w g m bt (.slice p xs.length c) xs W) (hk : k ≤ xs.length) (h0 : 0 < xs.length) : NSt R eT sz mk X w g m bt (.slice p k c) (xs.take k) (W.setCell ⟨bt, ci, none⟩ (.slice p k c)) := by
  obtain ⟨l1, l2⟩ := h.lt
  refine ⟨h.cur.sc (by show g < bt; omega) _, hmk W bt _ _ h.cell, ?_, gr_sc h.gr (.inr l2) _, h.lt, h.x.1, fun b hb => by simpa using h.x.2 b hb⟩
  exact (h.row.take hk h0).mono (fun b hb hlt => heap_setCell_other W ⟨bt, ci, none⟩ b _ (fun e => by have e' : b = bt := e; exact hb.2.2 (e' ▸ h.x.1))) (fun b hb => by simpa using hb)
      (fun S x c _ hS hx => hR _ _ _ _ _ _ (fun b hb hlt => heap_setCell_other W ⟨bt, ci, none⟩ b _ (fun e => by have e' : b = bt := e; exact (hS b hb).2.2 (e' ▸ h.x.1))) (fun _ h => h) hx)
theorem NSt.kept (h : NSt R eT sz mk X w g m bt v xs W) (hg : W.grownBy w3 v.ownBlock) {b : Nat} (hb : X b) (hne : b ≠ bt) : (w3.setCell ⟨bt, ci, none⟩ v').heap[b]? = W.heap[b]? :=
  (heap_setCell_other w3 ⟨bt, ci, none⟩ b v' (fun e => hne e)).trans (hg.block b (h.x.2 b hb) (fun e => (h.vb b e.symm).2.2 hb))
theorem NSt.new {w0 : World} (hc : Cur w0 g m) (hg : w.grownBy w0 (some g)) (hl : g < w.heap.size) (hX : X w0.heap.size ∧ ∀ b, X b → b ≤ w0.heap.size) (cs : Array Value) (T : TypeId) (hmk : mk (.slice none 0 0) = .cells cs T (0, 0)) : NSt R eT sz mk X w g m w0.heap.size (.slice none 0 0) ([] : List α) (w0.alloc (.cells cs T)) :=
  ⟨hc.al _, by rw [heap_alloc_new, hmk], OwnRow.nil _ _ _ _ _, gr_al hg _, ⟨hl, hg.size⟩, hX.1, fun b hb => by have := hX.2 b hb; simp; omega⟩
end
theorem setsName (s : Value) (T : TypeId) : SetsTo (fun v => .cells #[s, v] T (0, 0)) 1 := fun w bt v v' h => by simpa using heap_setCell_same w bt 1 _ T v' h
end Go.Proofs.YtmbkjdkjemlfkaaGreatDoor
