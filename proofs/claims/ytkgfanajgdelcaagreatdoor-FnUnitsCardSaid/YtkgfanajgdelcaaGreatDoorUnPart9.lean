import Derived.Test.YtkgfanajgdelcaaGreatDoorUnPart8
namespace Go.Proofs.YtkgfanajgdelcaaGreatDoor
open Go.RowKit
def OwnRow {α : Type} (S : Nat → Prop) (w : World) (e : TypeId) (size : Nat) (R : (Nat → Prop) → α → List Value → Prop) (v : Value) (xs : List α) : Prop :=
  xs.length ≤ maxLen ∧ ∃ (vals : List Value) (Ss : Nat → Nat → Prop), w.ownsRow 0 e size v xs.length vals ∧ (∀ g, v.ownBlock = some g → S g) ∧
    (∀ i x, xs[i]? = some x → R (Ss i) x ((vals.drop (i * size)).take size) ∧ ∀ b, Ss i b → S b ∧ v.ownBlock ≠ some b) ∧
    ∀ i j b, i < xs.length → j < xs.length → i ≠ j → Ss i b → ¬ Ss j b
theorem own_same {w w' : World} {base : Nat} {e : TypeId} {size : Nat} {v : Value} {n : Nat} {xs : List Value} (h : w.ownsRow base e size v n xs) (hs : ∀ g, v.ownBlock = some g → g < w.heap.size → w'.heap[g]? = w.heap[g]?) : w'.ownsRow base e size v n xs := by
  refine ⟨h.1, ?_⟩
  rcases h.2 with h2 | ⟨g, cap, cur, rfl, hb, hh, h3⟩
  · exact .inl h2
  · have hlt : g < w.heap.size := by
      rcases Nat.lt_or_ge g w.heap.size with h' | h'
      · exact h'
      · rw [Array.getElem?_eq_none h'] at hh; cases hh
    exact .inr ⟨g, cap, cur, rfl, hb, (hs g rfl hlt).trans hh, h3⟩
theorem OwnRow.mono {α : Type} {S S' : Nat → Prop} {w w' : World} {e : TypeId} {size : Nat} {R R' : (Nat → Prop) → α → List Value → Prop} {v : Value} {xs : List α} (h : OwnRow S w e size R v xs) (hs : SameOn S w w') (hS : ∀ b, S b → S' b)
    (hR : ∀ T x cs, x ∈ xs → (∀ b, T b → S b) → R T x cs → R' T x cs) : OwnRow S' w' e size R' v xs := by
  obtain ⟨hm, vals, Ss, h1, h2, h3, h4⟩ := h
  refine ⟨hm, vals, Ss, own_same h1 (fun g hg hlt => hs g (h2 g hg) hlt), fun g hg => hS g (h2 g hg), fun i x hx => ⟨hR _ _ _ (List.mem_of_getElem? hx) (fun b hb => ((h3 i x hx).2 b hb).1) (h3 i x hx).1, fun b hb => ⟨hS b ((h3 i x hx).2 b hb).1, ((h3 i x hx).2 b hb).2⟩⟩, h4⟩
theorem OwnRow.listAt {α : Type} {S : Nat → Prop} {w : World} {e : TypeId} {size : Nat} (hz : 0 < size) {R : (Nat → Prop) → α → List Value → Prop} {R' : α → List Value → Prop} {v : Value} {xs : List α} (h : OwnRow S w e size R v xs)
    (hR : ∀ T x cs, x ∈ xs → (∀ b, T b → S b) → R T x cs → R' x cs) : ListAt S w size R' v xs := by
  obtain ⟨hm, vals, Ss, h1, h2, h3, _⟩ := h
  rcases h1.2 with ⟨rfl, h0⟩ | ⟨g, cap, cur, rfl, _⟩
  · obtain rfl : xs = [] := List.eq_nil_of_length_eq_zero h0
    exact ListAt.nil _ _ _ _ _ _
  · refine ⟨_, _, rfl, hm, fun i x hx => ⟨g, 0, rfl, h2 g rfl, (vals.drop (i * size)).take size, ?_, fun j hj => ?_, hR _ _ _ (List.mem_of_getElem? hx) (fun b hb => ((h3 i x hx).2 b hb).1) (h3 i x hx).1⟩⟩
    · have hi : i < xs.length := (List.getElem?_eq_some_iff.1 hx).1
      have h5 : (i + 1) * size ≤ xs.length * size := Nat.mul_le_mul_right _ hi
      rw [Nat.succ_mul] at h5
      rw [List.length_take, List.length_drop, h1.1]; omega
    · have hi : i < xs.length := (List.getElem?_eq_some_iff.1 hx).1
      have h5 : (i + 1) * size ≤ xs.length * size := Nat.mul_le_mul_right _ hi
      rw [Nat.succ_mul] at h5
      rw [Nat.zero_add, h1.cellAt (i * size + j) (by omega), List.getElem?_take, if_pos hj, List.getElem?_drop]
theorem OwnRow.form {α : Type} {S : Nat → Prop} {w : World} {e : TypeId} {size : Nat} {R : (Nat → Prop) → α → List Value → Prop} {v : Value} {xs : List α} (h : OwnRow S w e size R v xs) : ∃ p c, v = .slice p xs.length c ∧ xs.length ≤ maxLen := by
  obtain ⟨hm, vals, Ss, h1, _⟩ := h
  rcases h1.2 with ⟨rfl, h0⟩ | ⟨g, cap, cur, rfl, _⟩
  · exact ⟨none, 0, by rw [h0], hm⟩
  · exact ⟨_, _, rfl, hm⟩
theorem OwnRow.nil {α : Type} (S : Nat → Prop) (w : World) (e : TypeId) (size : Nat) (R : (Nat → Prop) → α → List Value → Prop) : OwnRow S w e size R (.slice none 0 0) [] :=
  ⟨Nat.zero_le _, [], fun _ _ => False, ⟨by simp, .inl ⟨rfl, rfl⟩⟩, fun g hg => by simp [Value.ownBlock] at hg, fun i x hx => by simp at hx, fun i j b hi => by simp at hi⟩
theorem OwnRow.snoc {α : Type} {S Sx S' : Nat → Prop} {w w' : World} {e : TypeId} {size : Nat} {R R' : (Nat → Prop) → α → List Value → Prop} {v v' : Value} {xs : List α} {x : α} {cs : List Value} (h : OwnRow S w e size R v xs) (hx : R Sx x cs) (hl : cs.length = size)
    (hown : ∀ vals : List Value, w.ownsRow 0 e size v xs.length vals → w'.ownsRow 0 e size v' (xs.length + 1) (vals ++ cs)) (_ : w.grownBy w' v.ownBlock) (hn : NewRow v v' w.heap.size) (hm : xs.length + 1 ≤ maxLen)
    (hSx : ∀ b, Sx b → ¬ S b) (hSlt : ∀ b, S b → b < w.heap.size) (hSxlt : ∀ b, Sx b → b < w.heap.size) (h1 : ∀ b, S b → S' b) (h2 : ∀ b, Sx b → S' b) (h3 : ∀ g, v'.ownBlock = some g → S' g)
    (hR : ∀ T y c, (∀ b, T b → b < w.heap.size ∧ v.ownBlock ≠ some b) → R T y c → R' T y c) : OwnRow S' w' e size R' v' (xs ++ [x]) := by
  obtain ⟨_, vals, Ss, g1, g2, g3, g4⟩ := h
  have hvl : vals.length = xs.length * size := g1.1
  have hxne : ∀ b, Sx b → v.ownBlock ≠ some b := fun b hb e => hSx b hb (g2 b e)
  have hne : ∀ b, b < w.heap.size → v.ownBlock ≠ some b → v'.ownBlock ≠ some b := fun b hlt hv e => by
    rcases hn with hn | ⟨g, hn, hge⟩
    · rw [hn] at e; exact hv e
    · rw [hn] at e; injection e with e; omega
  refine ⟨by simpa using hm, vals ++ cs, fun i => if i = xs.length then Sx else Ss i, by simpa using hown vals g1, h3, fun i y hy => ?_, fun i j b hi hj hij hb => ?_⟩
  · have hi : i < xs.length + 1 := by have := (List.getElem?_eq_some_iff.1 hy).1; simpa using this
    by_cases e : i = xs.length
    · subst e
      rw [List.getElem?_append_right (Nat.le_refl _), Nat.sub_self] at hy
      obtain rfl : x = y := by simpa using hy
      show R' (if xs.length = xs.length then Sx else _) _ _ ∧ ∀ b, (if xs.length = xs.length then Sx else _) b → _
      rw [if_pos rfl, ← hvl, List.drop_left, List.take_of_length_le (by omega)]
      exact ⟨hR _ _ _ (fun b hb => ⟨hSxlt b hb, hxne b hb⟩) hx, fun b hb => ⟨h2 b hb, hne b (hSxlt b hb) (hxne b hb)⟩⟩
    · have hlt : i < xs.length := by omega
      rw [List.getElem?_append_left hlt] at hy
      have h5 : (i + 1) * size ≤ xs.length * size := Nat.mul_le_mul_right _ hlt
      rw [Nat.succ_mul] at h5
      obtain ⟨k1, k2⟩ := g3 i y hy
      show R' (if i = xs.length then Sx else Ss i) _ _ ∧ ∀ b, (if i = xs.length then Sx else Ss i) b → _
      rw [if_neg e, List.drop_append_of_le_length (by omega), List.take_append_of_le_length (by rw [List.length_drop]; omega)]
      exact ⟨hR _ _ _ (fun b hb => ⟨hSlt b (k2 b hb).1, (k2 b hb).2⟩) k1, fun b hb => ⟨h1 b (k2 b hb).1, hne b (hSlt b (k2 b hb).1) (k2 b hb).2⟩⟩
  · simp only [List.length_append, List.length_cons, List.length_nil] at hi hj
    change (if i = xs.length then Sx else Ss i) b at hb
    show ¬ (if j = xs.length then Sx else Ss j) b
    by_cases ei : i = xs.length
    · rw [if_pos ei] at hb
      have hj' : j < xs.length := by omega
      rw [if_neg (by omega)]
      exact fun hjb => hSx b hb ((g3 j _ (List.getElem?_eq_getElem hj')).2 b hjb).1
    · rw [if_neg ei] at hb
      have hi' : i < xs.length := by omega
      by_cases ej : j = xs.length
      · rw [if_pos ej]
        exact fun hjb => hSx b hjb ((g3 i _ (List.getElem?_eq_getElem hi')).2 b hb).1
      · rw [if_neg ej]
        exact g4 i j b hi' (by omega) hij hb
def TmOwn (e : TypeId) : Nat → (Nat → Prop) → World → Tm → List Value → Prop
  | 0, _, _, _, _ => False
  | n + 1, S, w, .mk s us, cs => ∃ va, cs = [.string s, va] ∧ s.size ≤ maxLen ∧ OwnRow S w e 2 (fun T t c => TmOwn e n T w t c) va us
theorem TmOwn.mono {e : TypeId} : ∀ (n m : Nat) {S S' : Nat → Prop} {w w' : World} (t : Tm) (cs : List Value), n ≤ m → SameOn S w w' → (∀ b, S b → S' b) → TmOwn e n S w t cs → TmOwn e m S' w' t cs
  | 0, _, _, _, _, _, _, _, _, _, _, h => h.elim
  | n + 1, 0, _, _, _, _, _, _, hm, _, _, _ => by omega
  | n + 1, m + 1, S, S', w, w', .mk s us, cs, hm, hs, hS, h => by
    obtain ⟨va, h1, h2, h3⟩ := h
    exact ⟨va, h1, h2, h3.mono hs hS fun T x c _ hT hx => TmOwn.mono n m x c (by omega) (fun b hb hlt => hs b (hT b hb) hlt) (fun _ h => h) hx⟩
theorem TmOwn.at_ {e : TypeId} : ∀ (n : Nat) {S : Nat → Prop} {w : World} (t : Tm) (cs : List Value), TmOwn e n S w t cs → TmAt S n w t cs
  | 0, _, _, _, _, h => h.elim
  | n + 1, S, w, .mk s us, cs, h => by
    obtain ⟨va, h1, h2, h3⟩ := h
    exact ⟨va, h1, h2, h3.listAt (by omega) fun T x c _ hT hx => TmAt.mono (SameOn.refl _ _) hT n n x c (Nat.le_refl _) (TmOwn.at_ n x c hx)⟩
theorem TmOwn.below {e : TypeId} {n : Nat} {S : Nat → Prop} {w w' : World} {t : Tm} {cs : List Value} (hb : Below w.heap.size w w') (h : TmOwn e n S w t cs) : TmOwn e n S w' t cs := TmOwn.mono n n t cs (Nat.le_refl _) (SameOn.below hb) (fun _ h => h) h
theorem TmOwn.form {e : TypeId} {n : Nat} {S : Nat → Prop} {w : World} {t : Tm} {v0 v1 : Value} (h : TmOwn e n S w t [v0, v1]) : ∃ p c, v0 = .string t.n ∧ v1 = .slice p t.us.length c ∧ t.n.size ≤ maxLen ∧ t.us.length ≤ maxLen := (TmOwn.at_ n t _ h).form
def TermP (T : TypeId) (g lo : Nat) (s : ByteArray) (f : Nat) (t : Tm) (p' : PSt) (TP : TypeId) (W : World) (x : Value) (w : World) : Prop :=
  ∃ v0 v1, x = .agg #[v0, v1] ∧ TmOwn T f (fun b => lo ≤ b ∧ b < w.heap.size) w t [v0, v1] ∧ PAt TP w g s p' ∧ W.grownBy w (some g)
theorem TermP.mono {T TP : TypeId} {g lo f f' : Nat} {s : ByteArray} {t : Tm} {p' : PSt} {W w : World} {x : Value} (hf : f ≤ f') (h : TermP T g lo s f t p' TP W x w) : TermP T g lo s f' t p' TP W x w := by
  obtain ⟨v0, v1, h1, h2, h3⟩ := h
  exact ⟨v0, v1, h1, TmOwn.mono f f' t _ hf (SameOn.refl _ _) (fun _ h => h) h2, h3⟩
def AppSt (T : TypeId) (_g bt : Nat) (CP : Value → World → Prop) (v : Value) (n : Nat) (W : World) (i j k : Nat) : Nat → (Nat → Value) → World → Prop
  | 0, _, w => w = W.drew
  | 1, u, w => CP (u i) w
  | 2, u, w => ∃ w1 v0 v1, CP (.agg #[v0, v1]) w1 ∧ u j = .slice (some ⟨w1.heap.size, 0, none⟩) 1 1 ∧ w = w1.alloc (.cells #[v0, v1] T)
  | 3, u, w => ∃ w1 v0 v1, CP (.agg #[v0, v1]) w1 ∧ (∀ b xs, w1.ownsRow b T 2 v n xs → b ≤ w1.heap.size → w.ownsRow b T 2 (u k) (n + 1) (xs ++ [v0, v1])) ∧ w1.grownBy w v.ownBlock ∧ NewRow v (u k) w1.heap.size ∧ w1.heap.size < w.heap.size
  | 4, u, w => ∃ w1 w3 v0 v1, CP (.agg #[v0, v1]) w1 ∧ (∀ b xs, w1.ownsRow b T 2 v n xs → b ≤ w1.heap.size → w3.ownsRow b T 2 (u k) (n + 1) (xs ++ [v0, v1])) ∧ w1.grownBy w3 v.ownBlock ∧ NewRow v (u k) w1.heap.size ∧ w1.heap.size < w3.heap.size ∧ w = w3.setCell ⟨bt, 1, none⟩ (u k)
  | _, _, _ => False
theorem AppSt.cell {T : TypeId} {g bt n i j k : Nat} {CP : Value → World → Prop} {v v' : Value} {W : World} (hG : ∀ x w', CP x w' → W.grownBy w' (some g)) (hc : W.cell? ⟨bt, 1, none⟩ = some v') (hne : bt ≠ g) {m : Nat} (hm : m ≤ 2) {u : Nat → Value} {w : World} (h : AppSt T g bt CP v n W i j k m u w) : w.cell? ⟨bt, 1, none⟩ = some v' := by
  match m, hm, h with
  | 0, _, h => obtain rfl : w = W.drew := h; exact hc
  | 1, _, h => exact grown_cell (hG _ _ h) hc (by simpa using hne)
  | 2, _, h =>
    obtain ⟨w1, v0, v1, h1, _, rfl⟩ := h
    have h2 := grown_cell (hG _ _ h1) hc (by simpa using hne)
    exact (((Below.refl w1.heap.size w1).alloc (Nat.le_refl _) _).cell (World.block_lt_of_cell? w1 _ h2)).trans h2
structure TSt (T TP : TypeId) (ro : Obj) (w : World) (g rb bt : Nat) (s : ByteArray) (n : List UInt8) (p : PSt) (v : Value) (xs : List Tm) (f : Nat) (W : World) : Prop where
  at_ : PAt TP W g s p
  cell : W.heap[bt]? = some (.cells #[.string ⟨n.toArray⟩, v] T (0, 0))
  res : W.heap[rb]? = some ro
  row : OwnRow (fun b => rb < b ∧ b ≠ bt ∧ b < W.heap.size) W T 2 (fun S x c => TmOwn T f S W x c) v xs
  gr : w.grownBy W (some g)
  lt : g < w.heap.size ∧ w.heap.size ≤ rb ∧ rb < bt ∧ bt < W.heap.size
theorem heap_lt {w : World} {b : Nat} {o : Obj} (h : w.heap[b]? = some o) : b < w.heap.size := by
  rcases Nat.lt_or_ge b w.heap.size with h' | h'
  · exact h'
  · rw [Array.getElem?_eq_none h'] at h; cases h
theorem own_lt' {w : World} {base : Nat} {e : TypeId} {size : Nat} {v : Value} {n : Nat} {xs : List Value} (h : w.ownsRow base e size v n xs) {g : Nat} (hg : v.ownBlock = some g) : g < w.heap.size := by
  rcases h.2 with ⟨rfl, _⟩ | ⟨g', cap, cur, rfl, _, hh, _⟩
  · simp [Value.ownBlock] at hg
  · have : g' = g := by simpa [Value.ownBlock] using hg
    subst this; exact heap_lt hh
theorem elemTmI : Elem Tryz.prog 39 41 2 40 := elem_of Tryz.underlying39 (z := .agg #[.string ⟨#[]⟩, .slice none 0 0]) (by kernel_rfl) rfl (by omega)
theorem TSt.three {T TP : TypeId} {ro : Obj} {w W w' : World} {g rb bt : Nat} {s : ByteArray} {n : List UInt8} {p : PSt} {v z : Value} {xs : List Tm} {f : Nat} {CP : Value → World → Prop} (h : TSt T TP ro w g rb bt s n p v xs f W) (hG : ∀ x w', CP x w' → W.grownBy w' (some g))
    {w1 : World} {v0 v1 x : Value} (hcp : CP x w1) (happ : ∀ b ys, w1.ownsRow b T 2 v xs.length ys → b ≤ w1.heap.size → w'.ownsRow b T 2 z (xs.length + 1) (ys ++ [v0, v1])) (hg3 : w1.grownBy w' v.ownBlock) :
    (∃ q c, z = .slice (some ⟨q, 0, none⟩) (xs.length + 1) c) ∧ w'.heap[bt]? = some (.cells #[.string ⟨n.toArray⟩, v] T (0, 0)) := by
  obtain ⟨l1, l2, l3, l4⟩ := h.lt
  have hG1 := hG _ _ hcp
  have hz1 := hG1.size
  obtain ⟨hm, vals, Ss, r1, r2, r3, r4⟩ := h.row
  have h1 := happ 0 vals (own_same r1 fun b hb hl => hG1.block b hl (by have := r2 b hb; simp; omega)) (Nat.zero_le _)
  refine ⟨own_form h1 (by omega), ?_⟩
  exact (hg3.block bt (by omega) (fun e => (r2 bt e.symm).2.1 rfl)).trans ((hG1.block bt l4 (by simp; omega)).trans h.cell)
theorem TSt.app {T TP : TypeId} {ro : Obj} {w W w4 : World} {g rb bt : Nat} {s : ByteArray} {n : List UInt8} {p p' : PSt} {v : Value} {xs : List Tm} {f i j k : Nat} {t : Tm} {u : Nat → Value} (h : TSt T TP ro w g rb bt s n p v xs f W)
    (hA : AppSt T g bt (TermP T g W.heap.size s f t p' TP W.drew) v xs.length W i j k 4 u w4) (hlen : xs.length + 1 ≤ 1000000) : TSt T TP ro w g rb bt s n p' (u k) (xs ++ [t]) f w4 := by
  obtain ⟨w1, w3, v0, v1, ⟨v0', v1', he, hO, hP, hG⟩, happ, hg3, hnr, hsz, rfl⟩ := hA
  simp only [Value.agg.injEq, Array.mk.injEq, List.cons.injEq, and_true] at he
  obtain ⟨rfl, rfl⟩ := he
  obtain ⟨l1, l2, l3, l4⟩ := h.lt
  have hG1 : W.grownBy w1 (some g) := ⟨hG.os, hG.tape, hG.output, hG.size, hG.block⟩
  have hz1 := hG1.size
  obtain ⟨hm, vals, Ss, r1, r2, r3, r4⟩ := h.row
  have hvb : ∀ b, v.ownBlock = some b → rb < b ∧ b ≠ bt ∧ b < W.heap.size := fun b hb => r2 b hb
  have keep : ∀ b, b < W.heap.size → b ≠ g → v.ownBlock ≠ some b → w3.heap[b]? = W.heap[b]? := fun b hb hne hv => (hg3.block b (by omega) (fun e => hv e.symm)).trans (hG1.block b hb (by simpa using hne))
  have nob : ∀ b, (b ≤ rb ∨ b = bt) → v.ownBlock ≠ some b := fun b hb e => by have := hvb b e; omega
  have hrow1 := h.row.mono (S' := fun b => rb < b ∧ b ≠ bt ∧ b < W.heap.size) (w' := w1) (R' := fun S x c => TmOwn T f S w1 x c) (fun b hb hlt => hG1.block b hlt (by simp; omega)) (fun _ h => h)
    (fun S x c _ hS hx => TmOwn.mono f f x c (Nat.le_refl _) (fun b hb hlt => hG1.block b hlt (by have := hS b hb; simp; omega)) (fun _ h => h) hx)
  have hown3 : ∀ b, (u k).ownBlock = some b → b < w3.heap.size := fun b hb => own_lt' (happ 0 vals (own_same r1 fun b' hb' hlt => hG1.block b' hlt (by have := hvb b' hb'; simp; omega)) (Nat.zero_le _)) hb
  have hrow3 := OwnRow.snoc (S' := fun b => rb < b ∧ b ≠ bt ∧ b < w3.heap.size) (R' := fun S x c => TmOwn T f S w3 x c) hrow1 hO rfl (fun vals' hv => happ 0 vals' hv (Nat.zero_le _)) hg3 hnr (by unfold maxLen; omega)
    (fun b hb hS => by omega) (fun b hb => by omega) (fun b hb => hb.2) (fun b hb => by omega) (fun b hb => by omega)
    (fun b hb => ⟨by
      rcases hnr with e | ⟨b', e, hge⟩
      · rw [e] at hb; exact (hvb b hb).1
      · rw [e] at hb; injection hb with hb; omega, by
      rcases hnr with e | ⟨b', e, hge⟩
      · rw [e] at hb; exact (hvb b hb).2.1
      · rw [e] at hb; injection hb with hb; omega, hown3 b hb⟩)
    (fun S x c hS hx => TmOwn.mono f f x c (Nat.le_refl _) (fun b hb hlt => hg3.block b hlt (fun e => (hS b hb).2 e.symm)) (fun _ h => h) hx)
  have hbt3 : w3.heap[bt]? = some (.cells #[.string ⟨n.toArray⟩, v] T (0, 0)) := (keep bt l4 (by omega) (nob bt (.inr rfl))).trans h.cell
  refine ⟨?_, ?_, ?_, ?_, ?_, l1, l2, l3, by simp; omega⟩
  · have h3 : PAt TP w3 g s p' := (hg3.block g (by omega) (fun e => nob g (.inl (by omega)) e.symm)).trans hP
    exact (heap_setCell_other w3 ⟨bt, 1, none⟩ g (u k) (by simp; omega)).trans h3
  · have := heap_setCell_same w3 bt 1 _ T (u k) hbt3
    simpa using this
  · exact (heap_setCell_other w3 ⟨bt, 1, none⟩ rb (u k) (by simp; omega)).trans ((keep rb (by omega) (by omega) (nob rb (.inl (Nat.le_refl _)))).trans h.res)
  · exact hrow3.mono (fun b hb hlt => heap_setCell_other w3 ⟨bt, 1, none⟩ b (u k) (by simp; omega)) (fun b hb => by simpa using hb)
      (fun S x c _ hS hx => TmOwn.mono f f x c (Nat.le_refl _) (fun b hb hlt => heap_setCell_other w3 ⟨bt, 1, none⟩ b (u k) (by have := hS b hb; simp; omega)) (fun _ h => h) hx)
  · have h1 := gr_trans h.gr hG1
    have h3 : w.grownBy w3 (some g) := ⟨hg3.os.trans h1.os, hg3.tape.trans h1.tape, hg3.output.trans h1.output, Nat.le_trans h1.size (Nat.le_of_lt (Nat.lt_of_le_of_lt (Nat.le_refl _) hsz)), fun b hb hne => (hg3.block b (Nat.lt_of_lt_of_le hb h1.size) (fun e => nob b (.inl (by omega)) e.symm)).trans (h1.block b hb hne)⟩
    exact gr_sc h3 (.inr (by simp; omega)) _
theorem TSt.reader {T TP : TypeId} {ro : Obj} {w W w' : World} {g rb bt : Nat} {s : ByteArray} {n : List UInt8} {p p' : PSt} {v : Value} {xs : List Tm} {f : Nat} (h : TSt T TP ro w g rb bt s n p v xs f W) (hP : PAt TP w' g s p') (hG : W.grownBy w' (some g)) : TSt T TP ro w g rb bt s n p' v xs f w' := by
  obtain ⟨l1, l2, l3, l4⟩ := h.lt
  have hz := hG.size
  refine ⟨hP, (hG.block bt l4 (by simp; omega)).trans h.cell, (hG.block rb (by omega) (by simp; omega)).trans h.res, ?_, gr_trans h.gr hG, l1, l2, l3, by omega⟩
  exact h.row.mono (fun b hb hlt => hG.block b hlt (by simp; omega)) (fun b hb => by omega)
    (fun S x c _ hS hx => TmOwn.mono f f x c (Nat.le_refl _) (fun b hb hlt => hG.block b hlt (by have := hS b hb; simp; omega)) (fun _ h => h) hx)
theorem cells2_cell {w : World} {g : Nat} {x y : Value} {t : TypeId} (h : w.heap[g]? = some (.cells #[x, y] t (0, 0))) : w.cell? ⟨g, 0, none⟩ = some x ∧ w.cell? ⟨g, 1, none⟩ = some y ∧ (∀ j, w.frozen? ⟨g, j, none⟩ = false) := by
  refine ⟨?_, ?_, fun j => frozen_of_row w g j _ _ h⟩
  · rw [cell_of_row w g 0 _ _ (0, 0) h]; rfl
  · rw [cell_of_row w g 1 _ _ (0, 0) h]; rfl
theorem TSt.init {T TP : TypeId} {w w1 w2 : World} {g : Nat} {s : ByteArray} {n : List UInt8} {p : PSt} {f : Nat} (hg : g < w.heap.size) (hg1 : (w.alloc (.cells #[.string ⟨#[]⟩, .slice none 0 0] T)).grownBy w1 (some g))
    (hg2 : (w1.alloc (.cells #[.string ⟨n.toArray⟩, .slice none 0 0] T)).grownBy w2 (some g)) (hP : PAt TP w2 g s p) : TSt T TP (.cells #[.string ⟨#[]⟩, .slice none 0 0] T (0, 0)) w g w.heap.size w1.heap.size s n p (.slice none 0 0) [] f w2 := by
  have h1 := hg1.size
  have h2 := hg2.size
  simp at h1 h2
  have ha := gr_trans (gr_al (gr_refl w g) _) hg1
  refine ⟨hP, ?_, ?_, OwnRow.nil _ _ _ _ _, gr_trans (gr_al ha _) hg2, hg, Nat.le_refl _, by omega, by omega⟩
  · exact (hg2.block w1.heap.size (by simp) (by simp; omega)).trans (heap_alloc_new w1 _)
  · refine (hg2.block w.heap.size (by simp; omega) (by simp; omega)).trans ((hao w1 _ _ (by omega)).trans ?_)
    exact (hg1.block w.heap.size (by simp) (by simp; omega)).trans (heap_alloc_new w _)
theorem TSt.done {T TP : TypeId} {ro : Obj} {w W : World} {g rb bt : Nat} {s : ByteArray} {n : List UInt8} {p : PSt} {v : Value} {xs : List Tm} {f : Nat} (h : TSt T TP ro w g rb bt s n p v xs f W) (hn : n.length ≤ 1000000) (a b : Value) :
    TermP T g w.heap.size s (f + 1) (.mk ⟨n.toArray⟩ xs) p TP w (.agg #[.string ⟨n.toArray⟩, v]) ((W.setCell ⟨rb, 0, none⟩ a).setCell ⟨rb, 1, none⟩ b) := by
  obtain ⟨l1, l2, l3, l4⟩ := h.lt
  have hk : ∀ c, c ≠ rb → ((W.setCell ⟨rb, 0, none⟩ a).setCell ⟨rb, 1, none⟩ b).heap[c]? = W.heap[c]? := fun c hc => (heap_setCell_other _ ⟨rb, 1, none⟩ c b (fun e => hc e)).trans (heap_setCell_other W ⟨rb, 0, none⟩ c a (fun e => hc e))
  refine ⟨_, _, rfl, ⟨_, rfl, by show n.toArray.size ≤ _; unfold maxLen; simp; omega, ?_⟩, ?_, gr_sc (gr_sc h.gr (.inr l2) _) (.inr l2) _⟩
  · exact h.row.mono (fun c hc _ => hk c (by omega)) (fun c hc => by simp; omega)
      (fun S x c _ hS hx => TmOwn.mono f f x c (Nat.le_refl _) (fun d hd _ => hk d (by have := (hS d hd).1; omega)) (fun _ h => h) hx)
  · exact (hk g (by omega)).trans h.at_
theorem own_unique {w : World} {base : Nat} {e : TypeId} {size : Nat} {v : Value} {n : Nat} {xs ys : List Value} (h : w.ownsRow base e size v n xs) (h' : w.ownsRow base e size v n ys) : xs = ys := by
  obtain ⟨l1, h1⟩ := h
  obtain ⟨l2, h2⟩ := h'
  rcases h1 with ⟨rfl, h0⟩ | ⟨g, cap, cur, rfl, hb, hh, h3, h4, h5, h6⟩
  · subst h0
    rw [Nat.zero_mul] at l1 l2
    rw [List.eq_nil_of_length_eq_zero l1, List.eq_nil_of_length_eq_zero l2]
  · rcases h2 with ⟨hv, _⟩ | ⟨g', cap', cur', hv, _, hh', _, _, _, h6'⟩
    · cases hv
    · simp only [Value.slice.injEq, Option.some.injEq, Addr.mk.injEq] at hv
      obtain ⟨⟨rfl, -⟩, -, rfl⟩ := hv
      rw [hh] at hh'
      simp only [Option.some.injEq, Obj.cells.injEq] at hh'
      rw [← h6, ← h6', hh'.1]
structure LSt (T : TypeId) (rb bt : Nat) (n : ByteArray) (w : World) (f : Nat) (v : Value) (us : List Tm) (W : World) : Prop where
  res : W.heap[rb]? = some (.cells #[.string ⟨#[]⟩, .slice none 0 0] T (0, 0))
  cell : W.heap[bt]? = some (.cells #[.string n, v] T (0, 0))
  row : OwnRow (fun b => bt < b ∧ b < W.heap.size) W T 2 (fun S x c => TmOwn T f S W x c) v us
  bel : Below w.heap.size w W
  lt : w.heap.size ≤ rb ∧ rb < bt ∧ bt < W.heap.size
theorem LSt.later {T : TypeId} {rb bt : Nat} {n : ByteArray} {w W W' : World} {f : Nat} {v : Value} {us : List Tm} (h : LSt T rb bt n w f v us W) (hb : Below W.heap.size W W') : LSt T rb bt n w f v us W' := by
  have hz := hb.size
  obtain ⟨l1, l2, l3⟩ := h.lt
  exact ⟨(hb.block _ (by omega)).trans h.res, (hb.block _ l3).trans h.cell, h.row.mono (SameOn.below hb) (fun b h => ⟨h.1, by omega⟩) (fun S x c _ _ hx => TmOwn.below hb hx), ⟨hb.os.trans h.bel.os, hb.tape.trans h.bel.tape, hb.output.trans h.bel.output, Nat.le_trans h.bel.size hb.size, fun b hlt => (hb.block b (Nat.lt_of_lt_of_le hlt h.bel.size)).trans (h.bel.block b hlt)⟩, l1, l2, by omega⟩
theorem LSt.app {T : TypeId} {rb bt : Nat} {n : ByteArray} {w W W2 w3 : World} {f : Nat} {v v' v0 v1 : Value} {us : List Tm} {a : Tm} (h : LSt T rb bt n w f v us W) (hb : Below W.heap.size W W2) (hO : TmOwn T f (fun b => W.heap.size ≤ b ∧ b < W2.heap.size) W2 a [v0, v1])
    {vals : List Value} (hv : W2.ownsRow 0 T 2 v us.length vals) (happ : w3.ownsRow 0 T 2 v' (us.length + 1) (vals ++ [v0, v1])) (hg : W2.grownBy w3 v.ownBlock) (hnr : NewRow v v' W2.heap.size) (hlen : us.length + 1 ≤ 1048576) :
    LSt T rb bt n w f v' (us ++ [a]) (w3.setCell ⟨bt, 1, none⟩ v') := by
  have H2 := h.later hb
  obtain ⟨l1, l2, l3⟩ := h.lt
  obtain ⟨-, -, l4⟩ := H2.lt
  have hz := hb.size
  have hz3 := hg.size
  obtain ⟨hm, vals0, Ss, r1, r2, r3, r4⟩ := h.row
  have hvb : ∀ b, v.ownBlock = some b → bt < b ∧ b < W.heap.size := fun b hb => r2 b hb
  have nob : ∀ b, b ≤ bt → v.ownBlock ≠ some b := fun b hb e => by have := hvb b e; omega
  have hnew : ∀ b, v'.ownBlock = some b → bt < b ∧ b < w3.heap.size := fun b hb => ⟨by
    rcases hnr with e | ⟨b', e, hge⟩
    · rw [e] at hb; exact (hvb b hb).1
    · rw [e] at hb; injection hb with hb; omega, own_lt' happ hb⟩
  have hrow := OwnRow.snoc (S' := fun b => bt < b ∧ b < w3.heap.size) (R' := fun S x c => TmOwn T f S w3 x c)
    (h.row.mono (S' := fun b => bt < b ∧ b < W.heap.size) (w' := W2) (R' := fun S x c => TmOwn T f S W2 x c) (SameOn.below hb) (fun _ h => h) (fun S x c _ _ hx => TmOwn.below hb hx)) hO rfl
    (fun vs hvs => by rw [own_unique hvs hv]; exact happ) hg hnr (by unfold maxLen; omega) (fun b hb hS => by omega) (fun b hb => by omega) (fun b hb => hb.2) (fun b hb => by omega) (fun b hb => by omega) hnew
    (fun S x c hS hx => TmOwn.mono f f x c (Nat.le_refl _) (fun b hb hlt => hg.block b hlt (fun e => (hS b hb).2 e.symm)) (fun _ h => h) hx)
  have hbt3 : w3.heap[bt]? = some (.cells #[.string n, v] T (0, 0)) := (hg.block bt l4 (fun e => nob bt (Nat.le_refl _) e.symm)).trans H2.cell
  refine ⟨?_, ?_, ?_, ?_, l1, l2, by simp; omega⟩
  · exact (heap_setCell_other w3 ⟨bt, 1, none⟩ rb v' (by simp; omega)).trans ((hg.block rb (by omega) (fun e => nob rb (by omega) e.symm)).trans H2.res)
  · have := heap_setCell_same w3 bt 1 _ T v' hbt3
    simpa using this
  · exact hrow.mono (fun b hb hlt => heap_setCell_other w3 ⟨bt, 1, none⟩ b v' (by simp; omega)) (fun b hb => by simpa using hb)
      (fun S x c _ hS hx => TmOwn.mono f f x c (Nat.le_refl _) (fun b hb hlt => heap_setCell_other w3 ⟨bt, 1, none⟩ b v' (by have := hS b hb; simp; omega)) (fun _ h => h) hx)
  · have hb2 := H2.bel
    exact ⟨hg.os.trans hb2.os, hg.tape.trans hb2.tape, hg.output.trans hb2.output, by have := hb2.size; simp; omega, fun b hlt => (heap_setCell_other w3 ⟨bt, 1, none⟩ b v' (by simp; omega)).trans ((hg.block b (by have := hb2.size; omega) (fun e => nob b (by omega) e.symm)).trans (hb2.block b hlt))⟩
def GotTm (T : TypeId) (f : Nat) (r : Option (Tm × Nat)) (w : World) (x : Value) (w' : World) : Prop :=
  Below w.heap.size w w' ∧ ∃ (s : ByteArray) (p : Option Addr) (k c : Nat) (z : Int), x = .tuple #[.agg #[.string s, .slice p k c], .int .i64 z] ∧ match r with
    | none => z = -1
    | some (t, j) => z = (j : Nat) ∧ TmOwn T f (fun b => w.heap.size ≤ b ∧ b < w'.heap.size) w' t [.string s, .slice p k c]
theorem LSt.done {T : TypeId} {rb bt : Nat} {n : ByteArray} {w W : World} {f : Nat} {p : Option Addr} {k c : Nat} {us : List Tm} (h : LSt T rb bt n w f (.slice p k c) us W) (hn : n.size ≤ maxLen) (a b : Value) (j : Nat) :
    GotTm T (f + 1) (some (.mk n us, j)) w (.tuple #[.agg #[.string n, .slice p k c], .int .i64 (j : Nat)]) ((W.setCell ⟨rb, 0, none⟩ a).setCell ⟨rb, 1, none⟩ b) := by
  obtain ⟨l1, l2, l3⟩ := h.lt
  have hk : ∀ c, c ≠ rb → ((W.setCell ⟨rb, 0, none⟩ a).setCell ⟨rb, 1, none⟩ b).heap[c]? = W.heap[c]? := fun c hc => (heap_setCell_other _ ⟨rb, 1, none⟩ c b (fun e => hc e)).trans (heap_setCell_other W ⟨rb, 0, none⟩ c a (fun e => hc e))
  have hb := h.bel
  refine ⟨⟨hb.os, hb.tape, hb.output, by simpa using hb.size, fun c hc => (hk c (by omega)).trans (hb.block c hc)⟩, _, _, _, _, _, rfl, rfl, _, rfl, hn, ?_⟩
  exact h.row.mono (fun c hc _ => hk c (by omega)) (fun c hc => by simp; omega)
      (fun S x c _ hS hx => TmOwn.mono f f x c (Nat.le_refl _) (fun d hd _ => hk d (by have := (hS d hd).1; omega)) (fun _ h => h) hx)
theorem LSt.none {T : TypeId} {rb bt : Nat} {n : ByteArray} {w W : World} {f f' : Nat} {p : Option Addr} {k c : Nat} {us : List Tm} (h : LSt T rb bt n w f (.slice p k c) us W) (a b : Value) :
    GotTm T f' none w (.tuple #[.agg #[.string n, .slice p k c], .int .i64 (-1)]) ((W.setCell ⟨rb, 0, none⟩ a).setCell ⟨rb, 1, none⟩ b) := by
  obtain ⟨l1, l2, l3⟩ := h.lt
  have hb := h.bel
  exact ⟨⟨hb.os, hb.tape, hb.output, by simpa using hb.size, fun c hc => ((heap_setCell_other _ ⟨rb, 1, Option.none⟩ c b (by simp; omega)).trans (heap_setCell_other W ⟨rb, 0, Option.none⟩ c a (by simp; omega))).trans (hb.block c hc)⟩, _, _, _, _, _, rfl, rfl⟩
theorem LSt.init {T : TypeId} {n : ByteArray} {w wr : World} {f : Nat} (hbr : Below (w.alloc (.cells #[.string ⟨#[]⟩, .slice Option.none 0 0] T)).heap.size (w.alloc (.cells #[.string ⟨#[]⟩, .slice Option.none 0 0] T)) wr) :
    LSt T w.heap.size wr.heap.size n w f (.slice Option.none 0 0) [] (wr.alloc (.cells #[.string n, .slice Option.none 0 0] T)) := by
  have hz := hbr.size
  simp at hz
  refine ⟨(hao wr _ _ (by omega)).trans ((hbr.block _ (by simp)).trans (heap_alloc_new w _)), heap_alloc_new wr _, OwnRow.nil _ _ _ _ _, ⟨hbr.os, hbr.tape, hbr.output, by simp; omega, fun b hlt => (hao wr _ _ (by omega)).trans ((hbr.block b (by simp; omega)).trans (hao w _ _ hlt))⟩, Nat.le_refl _, by omega, by simp⟩
theorem LSt.three {T : TypeId} {rb bt : Nat} {n : ByteArray} {w W w3 : World} {f : Nat} {v v' : Value} {us : List Tm} {ys : List Value} (h : LSt T rb bt n w f v us W) (happ : w3.ownsRow 0 T 2 v' (us.length + 1) ys) (hg : W.grownBy w3 v.ownBlock) :
    (∃ q c, v' = .slice (some ⟨q, 0, Option.none⟩) (us.length + 1) c) ∧ w3.heap[bt]? = some (.cells #[.string n, v] T (0, 0)) ∧ w3.heap[rb]? = some (.cells #[.string ⟨#[]⟩, .slice Option.none 0 0] T (0, 0)) := by
  obtain ⟨l1, l2, l3⟩ := h.lt
  obtain ⟨hm, vals, Ss, r1, r2, r3, r4⟩ := h.row
  exact ⟨own_form happ (by omega), (hg.block bt l3 (fun e => by have := (r2 bt e.symm).1; omega)).trans h.cell, (hg.block rb (by omega) (fun e => by have := (r2 rb e.symm).1; omega)).trans h.res⟩
theorem byte_40 (c : UInt8) : ((c.toNat : Int) == 40) = (c == 40) := by
  rw [Bool.eq_iff_iff, beq_iff_eq, beq_iff_eq]
  exact ⟨fun e => UInt8.toNat_inj.1 (show c.toNat = 40 by omega), fun e => by subst e; rfl⟩
theorem byte_41 (c : UInt8) : ((c.toNat : Int) == 41) = (c == 41) := by
  rw [Bool.eq_iff_iff, beq_iff_eq, beq_iff_eq]
  exact ⟨fun e => UInt8.toNat_inj.1 (show c.toNat = 41 by omega), fun e => by subst e; rfl⟩
theorem byte_44 (c : UInt8) : ((c.toNat : Int) == 44) = (c == 44) := by
  rw [Bool.eq_iff_iff, beq_iff_eq, beq_iff_eq]
  exact ⟨fun e => UInt8.toNat_inj.1 (show c.toNat = 44 by omega), fun e => by subst e; rfl⟩
theorem extract_le (s : ByteArray) (k j : Nat) (h : s.size ≤ 1000000) : (s.extract k j).size ≤ maxLen := by
  rw [size_list, extract_list, List.length_drop, List.length_take, ← size_list]; unfold maxLen; omega
theorem list_at (s : ByteArray) (j : Nat) (h : j < s.size) : s.data.toList[j]? = some s[j] := by
  rw [List.getElem?_eq_getElem (by rw [← size_list]; exact h)]; rfl
end Go.Proofs.YtkgfanajgdelcaaGreatDoor
