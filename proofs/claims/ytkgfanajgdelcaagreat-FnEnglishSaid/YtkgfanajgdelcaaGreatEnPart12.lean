import Derived.Test.YtkgfanajgdelcaaGreatEnPart5
import Derived.Test.YtkgfanajgdelcaaGreatEnPart11
namespace Go.Proofs.YtkgfanajgdelcaaGreat
set_option maxRecDepth 100000
open Go.RowKit
def OwnRow {α : Type} (S : Nat → Prop) (w : World) (e : TypeId) (size : Nat) (R : (Nat → Prop) → α → List Value → Prop) (v : Value) (xs : List α) : Prop :=
  xs.length ≤ maxLen ∧ ∃ (vals : List Value) (Ss : Nat → Nat → Prop), w.ownsRow 0 e size v xs.length vals ∧ (∀ g, v.ownBlock = some g → S g) ∧
    (∀ i x, xs[i]? = some x → R (Ss i) x ((vals.drop (i * size)).take size) ∧ ∀ b, Ss i b → S b ∧ v.ownBlock ≠ some b) ∧
    ∀ i j b, i < xs.length → j < xs.length → i ≠ j → Ss i b → ¬ Ss j b
theorem own_same {w w' : World} {base : Nat} {e : TypeId} {size : Nat} {v : Value} {n : Nat} {xs : List Value} (h : w.ownsRow base e size v n xs) (hs : ∀ g, v.ownBlock = some g → g < w.heap.size → w'.heap[g]? = w.heap[g]?) : w'.ownsRow base e size v n xs := by
  refine ⟨h.1, ?_⟩
  rcases h.2 with h2 | ⟨g, cap, cur, rfl, hb, hh, h3⟩
  · exact .inl h2
  · have hlt : g < w.heap.size := by
      rcases Nat.lt_or_ge g w.heap.size with h' | h'
      · exact h'
      · rw [Array.getElem?_eq_none h'] at hh; cases hh
    exact .inr ⟨g, cap, cur, rfl, hb, (hs g rfl hlt).trans hh, h3⟩
theorem OwnRow.mono {α : Type} {S S' : Nat → Prop} {w w' : World} {e : TypeId} {size : Nat} {R R' : (Nat → Prop) → α → List Value → Prop} {v : Value} {xs : List α} (h : OwnRow S w e size R v xs) (hs : SameOn S w w') (hS : ∀ b, S b → S' b)
    (hR : ∀ T x cs, x ∈ xs → (∀ b, T b → S b) → R T x cs → R' T x cs) : OwnRow S' w' e size R' v xs := by
  obtain ⟨hm, vals, Ss, h1, h2, h3, h4⟩ := h
  refine ⟨hm, vals, Ss, own_same h1 (fun g hg hlt => hs g (h2 g hg) hlt), fun g hg => hS g (h2 g hg), fun i x hx => ⟨hR _ _ _ (List.mem_of_getElem? hx) (fun b hb => ((h3 i x hx).2 b hb).1) (h3 i x hx).1, fun b hb => ⟨hS b ((h3 i x hx).2 b hb).1, ((h3 i x hx).2 b hb).2⟩⟩, h4⟩
theorem OwnRow.listAt {α : Type} {S : Nat → Prop} {w : World} {e : TypeId} {size : Nat} (hz : 0 < size) {R : (Nat → Prop) → α → List Value → Prop} {R' : α → List Value → Prop} {v : Value} {xs : List α} (h : OwnRow S w e size R v xs)
    (hR : ∀ T x cs, x ∈ xs → (∀ b, T b → S b) → R T x cs → R' x cs) : ListAt S w size R' v xs := by
  obtain ⟨hm, vals, Ss, h1, h2, h3, _⟩ := h
  rcases h1.2 with ⟨rfl, h0⟩ | ⟨g, cap, cur, rfl, _⟩
  · obtain rfl : xs = [] := List.eq_nil_of_length_eq_zero h0
    exact ListAt.nil _ _ _ _ _ _
  · refine ⟨_, _, rfl, hm, fun i x hx => ⟨g, 0, rfl, h2 g rfl, (vals.drop (i * size)).take size, ?_, fun j hj => ?_, hR _ _ _ (List.mem_of_getElem? hx) (fun b hb => ((h3 i x hx).2 b hb).1) (h3 i x hx).1⟩⟩
    · have hi : i < xs.length := (List.getElem?_eq_some_iff.1 hx).1
      have h5 : (i + 1) * size ≤ xs.length * size := Nat.mul_le_mul_right _ hi
      rw [Nat.succ_mul] at h5
      rw [List.length_take, List.length_drop, h1.1]; omega
    · have hi : i < xs.length := (List.getElem?_eq_some_iff.1 hx).1
      have h5 : (i + 1) * size ≤ xs.length * size := Nat.mul_le_mul_right _ hi
      rw [Nat.succ_mul] at h5
      rw [Nat.zero_add, h1.cellAt (i * size + j) (by omega), List.getElem?_take, if_pos hj, List.getElem?_drop]
theorem OwnRow.form {α : Type} {S : Nat → Prop} {w : World} {e : TypeId} {size : Nat} {R : (Nat → Prop) → α → List Value → Prop} {v : Value} {xs : List α} (h : OwnRow S w e size R v xs) : ∃ p c, v = .slice p xs.length c ∧ xs.length ≤ maxLen := by
  obtain ⟨hm, vals, Ss, h1, _⟩ := h
  rcases h1.2 with ⟨rfl, h0⟩ | ⟨g, cap, cur, rfl, _⟩
  · exact ⟨none, 0, by rw [h0], hm⟩
  · exact ⟨_, _, rfl, hm⟩
theorem OwnRow.nil {α : Type} (S : Nat → Prop) (w : World) (e : TypeId) (size : Nat) (R : (Nat → Prop) → α → List Value → Prop) : OwnRow S w e size R (.slice none 0 0) [] :=
  ⟨Nat.zero_le _, [], fun _ _ => False, ⟨by simp, .inl ⟨rfl, rfl⟩⟩, fun g hg => by simp [Value.ownBlock] at hg, fun i x hx => by simp at hx, fun i j b hi => by simp at hi⟩
theorem OwnRow.snoc {α : Type} {S Sx S' : Nat → Prop} {w w' : World} {e : TypeId} {size : Nat} {R R' : (Nat → Prop) → α → List Value → Prop} {v v' : Value} {xs : List α} {x : α} {cs : List Value} (h : OwnRow S w e size R v xs) (hx : R Sx x cs) (hl : cs.length = size)
    (hown : ∀ vals : List Value, w.ownsRow 0 e size v xs.length vals → w'.ownsRow 0 e size v' (xs.length + 1) (vals ++ cs)) (_ : w.grownBy w' v.ownBlock) (hn : NewRow v v' w.heap.size) (hm : xs.length + 1 ≤ maxLen)
    (hSx : ∀ b, Sx b → ¬ S b) (hSlt : ∀ b, S b → b < w.heap.size) (hSxlt : ∀ b, Sx b → b < w.heap.size) (h1 : ∀ b, S b → S' b) (h2 : ∀ b, Sx b → S' b) (h3 : ∀ g, v'.ownBlock = some g → S' g)
    (hR : ∀ T y c, (∀ b, T b → b < w.heap.size ∧ v.ownBlock ≠ some b) → R T y c → R' T y c) : OwnRow S' w' e size R' v' (xs ++ [x]) := by
  obtain ⟨_, vals, Ss, g1, g2, g3, g4⟩ := h
  have hvl : vals.length = xs.length * size := g1.1
  have hxne : ∀ b, Sx b → v.ownBlock ≠ some b := fun b hb e => hSx b hb (g2 b e)
  have hne : ∀ b, b < w.heap.size → v.ownBlock ≠ some b → v'.ownBlock ≠ some b := fun b hlt hv e => by
    rcases hn with hn | ⟨g, hn, hge⟩
    · rw [hn] at e; exact hv e
    · rw [hn] at e; injection e with e; omega
  refine ⟨by simpa using hm, vals ++ cs, fun i => if i = xs.length then Sx else Ss i, by simpa using hown vals g1, h3, fun i y hy => ?_, fun i j b hi hj hij hb => ?_⟩
  · have hi : i < xs.length + 1 := by have := (List.getElem?_eq_some_iff.1 hy).1; simpa using this
    by_cases e : i = xs.length
    · subst e
      rw [List.getElem?_append_right (Nat.le_refl _), Nat.sub_self] at hy
      obtain rfl : x = y := by simpa using hy
      show R' (if xs.length = xs.length then Sx else _) _ _ ∧ ∀ b, (if xs.length = xs.length then Sx else _) b → _
      rw [if_pos rfl, ← hvl, List.drop_left, List.take_of_length_le (by omega)]
      exact ⟨hR _ _ _ (fun b hb => ⟨hSxlt b hb, hxne b hb⟩) hx, fun b hb => ⟨h2 b hb, hne b (hSxlt b hb) (hxne b hb)⟩⟩
    · have hlt : i < xs.length := by omega
      rw [List.getElem?_append_left hlt] at hy
      have h5 : (i + 1) * size ≤ xs.length * size := Nat.mul_le_mul_right _ hlt
      rw [Nat.succ_mul] at h5
      obtain ⟨k1, k2⟩ := g3 i y hy
      show R' (if i = xs.length then Sx else Ss i) _ _ ∧ ∀ b, (if i = xs.length then Sx else Ss i) b → _
      rw [if_neg e, List.drop_append_of_le_length (by omega), List.take_append_of_le_length (by rw [List.length_drop]; omega)]
      exact ⟨hR _ _ _ (fun b hb => ⟨hSlt b (k2 b hb).1, (k2 b hb).2⟩) k1, fun b hb => ⟨h1 b (k2 b hb).1, hne b (hSlt b (k2 b hb).1) (k2 b hb).2⟩⟩
  · simp only [List.length_append, List.length_cons, List.length_nil] at hi hj
    change (if i = xs.length then Sx else Ss i) b at hb
    show ¬ (if j = xs.length then Sx else Ss j) b
    by_cases ei : i = xs.length
    · rw [if_pos ei] at hb
      have hj' : j < xs.length := by omega
      rw [if_neg (by omega)]
      exact fun hjb => hSx b hb ((g3 j _ (List.getElem?_eq_getElem hj')).2 b hjb).1
    · rw [if_neg ei] at hb
      have hi' : i < xs.length := by omega
      by_cases ej : j = xs.length
      · rw [if_pos ej]
        exact fun hjb => hSx b hjb ((g3 i _ (List.getElem?_eq_getElem hi')).2 b hb).1
      · rw [if_neg ej]
        exact g4 i j b hi' (by omega) hij hb
def TmOwn (e : TypeId) : Nat → (Nat → Prop) → World → Tm → List Value → Prop
  | 0, _, _, _, _ => False
  | n + 1, S, w, .mk s us, cs => ∃ va, cs = [.string s, va] ∧ s.size ≤ maxLen ∧ OwnRow S w e 2 (fun T t c => TmOwn e n T w t c) va us
theorem TmOwn.mono {e : TypeId} : ∀ (n m : Nat) {S S' : Nat → Prop} {w w' : World} (t : Tm) (cs : List Value), n ≤ m → SameOn S w w' → (∀ b, S b → S' b) → TmOwn e n S w t cs → TmOwn e m S' w' t cs
  | 0, _, _, _, _, _, _, _, _, _, _, h => h.elim
  | n + 1, 0, _, _, _, _, _, _, hm, _, _, _ => by omega
  | n + 1, m + 1, S, S', w, w', .mk s us, cs, hm, hs, hS, h => by
    obtain ⟨va, h1, h2, h3⟩ := h
    exact ⟨va, h1, h2, h3.mono hs hS fun T x c _ hT hx => TmOwn.mono n m x c (by omega) (fun b hb hlt => hs b (hT b hb) hlt) (fun _ h => h) hx⟩
theorem TmOwn.at_ {e : TypeId} : ∀ (n : Nat) {S : Nat → Prop} {w : World} (t : Tm) (cs : List Value), TmOwn e n S w t cs → TmAt S n w t cs
  | 0, _, _, _, _, h => h.elim
  | n + 1, S, w, .mk s us, cs, h => by
    obtain ⟨va, h1, h2, h3⟩ := h
    exact ⟨va, h1, h2, h3.listAt (by omega) fun T x c _ hT hx => TmAt.mono (SameOn.refl _ _) hT n n x c (Nat.le_refl _) (TmOwn.at_ n x c hx)⟩
theorem TmOwn.below {e : TypeId} {n : Nat} {S : Nat → Prop} {w w' : World} {t : Tm} {cs : List Value} (hb : Below w.heap.size w w') (h : TmOwn e n S w t cs) : TmOwn e n S w' t cs := TmOwn.mono n n t cs (Nat.le_refl _) (SameOn.below hb) (fun _ h => h) h
theorem TmOwn.form {e : TypeId} {n : Nat} {S : Nat → Prop} {w : World} {t : Tm} {v0 v1 : Value} (h : TmOwn e n S w t [v0, v1]) : ∃ p c, v0 = .string t.n ∧ v1 = .slice p t.us.length c ∧ t.n.size ≤ maxLen ∧ t.us.length ≤ maxLen := (TmOwn.at_ n t _ h).form
def FmOwn (eT eF : TypeId) : Nat → (Nat → Prop) → World → Fm → List Value → Prop
  | 0, _, _, _, _ => False
  | n + 1, S, w, .mk op a x ps, cs => ∃ (vn va vp : Value) (Sa Sp : Nat → Prop), cs = [.int .i64 op, vn, va, .string x, vp] ∧ (-9223372036854775808 ≤ op ∧ op ≤ 9223372036854775807) ∧ x.size ≤ maxLen ∧ TmOwn eT n Sa w a [vn, va] ∧
      OwnRow Sp w eF 5 (fun T f c => FmOwn eT eF n T w f c) vp ps ∧ (∀ b, Sa b → S b ∧ ¬ Sp b) ∧ ∀ b, Sp b → S b
theorem FmOwn.mono {eT eF : TypeId} : ∀ (n m : Nat) {S S' : Nat → Prop} {w w' : World} (t : Fm) (cs : List Value), n ≤ m → SameOn S w w' → (∀ b, S b → S' b) → FmOwn eT eF n S w t cs → FmOwn eT eF m S' w' t cs
  | 0, _, _, _, _, _, _, _, _, _, _, h => h.elim
  | n + 1, 0, _, _, _, _, _, _, hm, _, _, _ => by omega
  | n + 1, m + 1, S, S', w, w', .mk op a x ps, cs, hm, hs, hS, h => by
    obtain ⟨vn, va, vp, Sa, Sp, h1, h2, h3, h4, h5, h6, h7⟩ := h
    exact ⟨vn, va, vp, Sa, Sp, h1, h2, h3, TmOwn.mono n m a _ (by omega) (fun b hb hlt => hs b (h6 b hb).1 hlt) (fun _ h => h) h4,
      h5.mono (fun b hb hlt => hs b (h7 b hb) hlt) (fun _ h => h) (fun T y c _ hT hy => FmOwn.mono n m y c (by omega) (fun b hb hlt => hs b (h7 b (hT b hb)) hlt) (fun _ h => h) hy), fun b hb => ⟨hS b (h6 b hb).1, (h6 b hb).2⟩, fun b hb => hS b (h7 b hb)⟩
theorem FmOwn.at_ {eT eF : TypeId} : ∀ (n : Nat) {S : Nat → Prop} {w : World} (t : Fm) (cs : List Value), FmOwn eT eF n S w t cs → FmAt S n w t cs
  | 0, _, _, _, _, h => h.elim
  | n + 1, S, w, .mk op a x ps, cs, h => by
    obtain ⟨vn, va, vp, Sa, Sp, h1, h2, h3, h4, h5, h6, h7⟩ := h
    exact ⟨vn, va, vp, h1, h2, h3, TmAt.mono (SameOn.refl _ _) (fun b hb => (h6 b hb).1) n n a _ (Nat.le_refl _) (TmOwn.at_ n a _ h4),
      ListAt.mono (h5.listAt (R' := FmAt S n w) (by omega) fun T y c _ hT hy => FmAt.mono (SameOn.refl _ _) (fun b hb => h7 b (hT b hb)) n n y c (Nat.le_refl _) (FmOwn.at_ n y c hy)) (SameOn.refl _ _) h7 (fun _ _ _ h => h)⟩
theorem FmOwn.form {eT eF : TypeId} {n : Nat} {S : Nat → Prop} {w : World} {t : Fm} {v0 v1 v2 v3 v4 : Value} (h : FmOwn eT eF n S w t [v0, v1, v2, v3, v4]) : ∃ p c q d, v0 = .int .i64 t.op ∧ v1 = .string t.a.n ∧ v2 = .slice p t.a.us.length c ∧ v3 = .string t.v ∧ v4 = .slice q t.ps.length d ∧ (-9223372036854775808 ≤ t.op ∧ t.op ≤ 9223372036854775807) ∧ t.a.n.size ≤ maxLen ∧ t.a.us.length ≤ maxLen ∧ t.v.size ≤ maxLen ∧ t.ps.length ≤ maxLen := (FmOwn.at_ n t _ h).form
theorem row_new (w : World) (e : TypeId) (size n : Nat) (cur : Array Value) (hc : cur.size = n * size) (hn : n ≤ maxLen) : (w.alloc (.cells cur e)).ownsRow 0 e size (.slice (some ⟨w.heap.size, 0, none⟩) n n) n cur.toList :=
  ⟨by simpa using hc, .inr ⟨w.heap.size, n, cur, rfl, Nat.zero_le _, heap_alloc_new w _, Nat.le_refl _, hn, hc, by rw [List.take_of_length_le]; simp; omega⟩⟩
theorem OwnRow.one {α : Type} {S S' : Nat → Prop} {w : World} {e : TypeId} {size : Nat} {R : (Nat → Prop) → α → List Value → Prop} {x : α} (cs : Array Value) (hc : cs.size = size) (hR : R S x cs.toList) (hS : ∀ b, S b → b < w.heap.size) (h1 : ∀ b, S b → S' b) (h2 : S' w.heap.size) :
    OwnRow S' (w.alloc (.cells cs e)) e size R (.slice (some ⟨w.heap.size, 0, none⟩) 1 1) [x] := by
  refine ⟨by simp [maxLen], cs.toList, fun _ => S, row_new w e size 1 cs (by omega) (by simp [maxLen]), fun g hg => ?_, fun i y hy => ?_, fun i j b hi hj hij => ?_⟩
  · have : w.heap.size = g := by simpa [Value.ownBlock] using hg
    rw [← this]; exact h2
  · have hi : i < 1 := by have := (List.getElem?_eq_some_iff.1 hy).1; simpa using this
    obtain rfl : i = 0 := by omega
    obtain rfl : x = y := by simpa using hy
    rw [Nat.zero_mul, List.drop_zero, List.take_of_length_le (by simp; omega)]
    exact ⟨hR, fun b hb => ⟨h1 b hb, fun hv => by have : w.heap.size = b := by simpa [Value.ownBlock] using hv
                                                  have := hS b hb; omega⟩⟩
  · simp at hi hj; omega
theorem OwnRow.two {α : Type} {S T S' : Nat → Prop} {w : World} {e : TypeId} {size : Nat} {R : (Nat → Prop) → α → List Value → Prop} {x y : α} (cs ds : List Value) (hc : cs.length = size) (hd : ds.length = size) (hR : R S x cs) (hR2 : R T y ds) (hS : ∀ b, S b → b < w.heap.size) (hT : ∀ b, T b → b < w.heap.size) (hST : ∀ b, S b → ¬ T b)
    (h1 : ∀ b, S b → S' b) (h3 : ∀ b, T b → S' b) (h2 : S' w.heap.size) : OwnRow S' (w.alloc (.cells (cs ++ ds).toArray e)) e size R (.slice (some ⟨w.heap.size, 0, none⟩) 2 2) [x, y] := by
  refine ⟨by simp [maxLen], cs ++ ds, fun i => if i = 0 then S else T, by simpa using row_new w e size 2 (cs ++ ds).toArray (by simp; omega) (by simp [maxLen]), fun g hg => ?_, fun i z hz => ?_, fun i j b hi hj hij hb => ?_⟩
  · have : w.heap.size = g := by simpa [Value.ownBlock] using hg
    rw [← this]; exact h2
  · have hi : i < 2 := by have := (List.getElem?_eq_some_iff.1 hz).1; simpa using this
    match i, hi with
    | 0, _ =>
      obtain rfl : x = z := by simpa using hz
      rw [Nat.zero_mul, List.drop_zero, List.take_append_of_le_length (by omega), List.take_of_length_le (by omega)]
      exact ⟨hR, fun b hb => ⟨h1 b hb, fun hv => by
        have e1 : w.heap.size = b := by simpa [Value.ownBlock] using hv
        have := hS b hb; omega⟩⟩
    | 1, _ =>
      obtain rfl : y = z := by simpa using hz
      rw [Nat.one_mul, List.drop_left' hc, List.take_of_length_le (by omega)]
      exact ⟨hR2, fun b hb => ⟨h3 b hb, fun hv => by
        have e1 : w.heap.size = b := by simpa [Value.ownBlock] using hv
        have := hT b hb; omega⟩⟩
  · simp only [List.length_cons, List.length_nil] at hi hj
    change (if i = 0 then S else T) b at hb
    show ¬ (if j = 0 then S else T) b
    match i, j, hij with
    | 0, 1, _ => exact hST b hb
    | 1, 0, _ => exact fun h => hST b h hb
    | 0, 0, h => exact absurd rfl h
    | 1, 1, h => exact absurd rfl h
    | i + 2, _, _ => omega
    | _, j + 2, _ => omega
theorem OwnRow.one' {α : Type} {S S' : Nat → Prop} {w : World} {e : TypeId} {size k : Nat} {R : (Nat → Prop) → α → List Value → Prop} {x : α} (hk : w.heap.size = k) (cs : Array Value) (hc : cs.size = size) (hR : R S x cs.toList) (hS : ∀ b, S b → b < k) (h1 : ∀ b, S b → S' b) (h2 : S' k) :
    OwnRow S' (w.alloc (.cells cs e)) e size R (.slice (some ⟨k, 0, none⟩) 1 1) [x] := by subst hk; exact OwnRow.one cs hc hR hS h1 h2
theorem OwnRow.two' {α : Type} {S T S' : Nat → Prop} {w : World} {e : TypeId} {size k : Nat} {R : (Nat → Prop) → α → List Value → Prop} {x y : α} (hk : w.heap.size = k) (cs ds : List Value) (all : Array Value) (hall : all = (cs ++ ds).toArray) (hc : cs.length = size) (hd : ds.length = size) (hR : R S x cs) (hR2 : R T y ds) (hS : ∀ b, S b → b < k) (hT : ∀ b, T b → b < k) (hST : ∀ b, S b → ¬ T b)
    (h1 : ∀ b, S b → S' b) (h3 : ∀ b, T b → S' b) (h2 : S' k) : OwnRow S' (w.alloc (.cells all e)) e size R (.slice (some ⟨k, 0, none⟩) 2 2) [x, y] := by subst hk hall; exact OwnRow.two cs ds hc hd hR hR2 hS hT hST h1 h3 h2
theorem FmOwn.later {eT eF : TypeId} {n : Nat} {S : Nat → Prop} {w w' : World} {t : Fm} {cs : List Value} (hb : Below w.heap.size w w') (h : FmOwn eT eF n S w t cs) : FmOwn eT eF n S w' t cs := FmOwn.mono n n t cs (Nat.le_refl _) (SameOn.below hb) (fun _ h => h) h
def FmV (m : Nat) (S : Nat → Prop) (w : World) (t : Fm) (x : Value) : Prop := ∃ v0 v1 v2 v3 v4, x = .agg #[v0, v1, v2, v3, v4] ∧ FmOwn 26 29 m S w t [v0, v1, v2, v3, v4]
def NewB (w w' : World) (b : Nat) : Prop := w.heap.size ≤ b ∧ b < w'.heap.size
theorem opF_own {m : Nat} {S : Nat → Prop} {w : World} {op : Int} {ps : List Fm} {vp : Value} (ho : -9223372036854775808 ≤ op ∧ op ≤ 9223372036854775807) (h : OwnRow S w 29 5 (fun T f c => FmOwn 26 29 (m + 1) T w f c) vp ps) :
    FmOwn 26 29 (m + 2) S w (opF op ps) [.int .i64 op, .string ⟨#[]⟩, .slice none 0 0, .string ⟨#[]⟩, vp] :=
  ⟨_, _, _, fun _ => False, S, rfl, ho, Nat.zero_le _, ⟨_, rfl, Nat.zero_le _, OwnRow.nil _ _ _ _ _⟩, h, fun _ h => h.elim, fun _ h => h⟩
set_option maxHeartbeats 800000 in
theorem not_any (m : Nat) (S : Nat → Prop) (t : Fm) (x : Value) (w : World) (h : FmV (m + 1) S w t x) (hS : ∀ b, S b → b < w.heap.size) :
    Calls Tryz.prog 37 #[x] w fun e w' => ∃ y, e = .returned y ∧ FmV (m + 2) (fun b => S b ∨ NewB w w' b) w' (opF 4 [t]) y ∧ Below w.heap.size w w' := by
  obtain ⟨v0, v1, v2, v3, v4, rfl, hf⟩ := h
  obtain ⟨p, c, q, d, rfl, rfl, rfl, rfl, rfl, -⟩ := hf.form
  have HF := Lib.hid (And.intro hf hS)
  clear hf hS
  go_enter Tryz.func37, Tryz.ntmps37
  go_wp2
  refine bodyPost_ret (v := .agg #[.int .i64 4, .string ⟨#[]⟩, .slice none 0 0, .string ⟨#[]⟩, .slice (some ⟨w.heap.size + 1 + 1, 0, none⟩) 1 1]) (by simp only [results, Tryz.results37]; go_simp) rfl ⟨_, rfl, ⟨_, _, _, _, _, rfl, opF_own (by omega) ?_⟩, by exact bel⟩
  exact OwnRow.one' (S := S) (by simp) _ rfl (HF.out.1.later (by exact bel)) (fun b hb => by have := HF.out.2 b hb; omega) (fun b hb => .inl hb) (.inr ⟨by omega, by simp⟩)
set_option maxHeartbeats 800000 in
theorem binary_any (m : Nat) (op : Int) (ho : -9223372036854775808 ≤ op ∧ op ≤ 9223372036854775807) (S T : Nat → Prop) (t r : Fm) (x y : Value) (w : World) (h : FmV (m + 1) S w t x) (h' : FmV (m + 1) T w r y) (hS : ∀ b, S b → b < w.heap.size) (hT : ∀ b, T b → b < w.heap.size) (hST : ∀ b, S b → ¬ T b) :
    Calls Tryz.prog 71 #[.int .i64 op, x, y] w fun e w' => ∃ z, e = .returned z ∧ FmV (m + 2) (fun b => S b ∨ T b ∨ NewB w w' b) w' (opF op [t, r]) z ∧ Below w.heap.size w w' := by
  obtain ⟨v0, v1, v2, v3, v4, rfl, hf⟩ := h
  obtain ⟨p, c, q, d, rfl, rfl, rfl, rfl, rfl, -⟩ := hf.form
  obtain ⟨u0, u1, u2, u3, u4, rfl, hf'⟩ := h'
  obtain ⟨p', c', q', d', rfl, rfl, rfl, rfl, rfl, -⟩ := hf'.form
  have HF := Lib.hid (And.intro hf (And.intro hf' (And.intro hS (And.intro hT hST))))
  clear hf hS hf' hT hST
  go_enter Tryz.func71, Tryz.ntmps71
  go_wp2
  refine bodyPost_ret (v := .agg #[.int .i64 op, .string ⟨#[]⟩, .slice none 0 0, .string ⟨#[]⟩, .slice (some ⟨w.heap.size + 1 + 1 + 1, 0, none⟩) 2 2]) (by simp only [results, Tryz.results71]; go_simp) rfl ⟨_, rfl, ⟨_, _, _, _, _, rfl, opF_own ho ?_⟩, by exact bel⟩
  obtain ⟨h1, h2, h3, h4, h5⟩ := HF.out
  exact OwnRow.two' (S := S) (T := T) (by simp) _ _ _ rfl rfl rfl (h1.later (by exact bel)) (h2.later (by exact bel)) (fun b hb => by have := h3 b hb; omega) (fun b hb => by have := h4 b hb; omega) h5 (fun b hb => .inl hb) (fun b hb => .inr (.inl hb)) (.inr (.inr ⟨by omega, by simp⟩))
set_option maxHeartbeats 800000 in
theorem quantified_any (m : Nat) (op : Int) (ho : -9223372036854775808 ≤ op ∧ op ≤ 9223372036854775807) (v : List UInt8) (hv : v.length ≤ 1000000) (S : Nat → Prop) (t : Fm) (x : Value) (w : World) (h : FmV (m + 1) S w t x) (hS : ∀ b, S b → b < w.heap.size) :
    Calls Tryz.prog 41 #[.int .i64 op, .string ⟨v.toArray⟩, x] w fun e w' => ∃ y, e = .returned y ∧ FmV (m + 2) (fun b => S b ∨ NewB w w' b) w' (quantF op v t) y ∧ Below w.heap.size w w' := by
  obtain ⟨v0, v1, v2, v3, v4, rfl, hf⟩ := h
  obtain ⟨p, c, q, d, rfl, rfl, rfl, rfl, rfl, -⟩ := hf.form
  have HF := Lib.hid (And.intro hf hS)
  clear hf hS
  go_enter Tryz.func41, Tryz.ntmps41
  go_wp2
  refine bodyPost_ret (v := .agg #[.int .i64 op, .string ⟨#[]⟩, .slice none 0 0, .string ⟨v.toArray⟩, .slice (some ⟨w.heap.size + 1 + 1, 0, none⟩) 1 1]) (by simp only [results, Tryz.results41]; go_simp) rfl ⟨_, rfl, ⟨_, _, _, _, _, rfl, ⟨_, _, _, fun _ => False, _, rfl, ho, by show v.toArray.size ≤ _; unfold maxLen; simp; omega, ⟨_, rfl, Nat.zero_le _, OwnRow.nil _ _ _ _ _⟩, ?_, fun _ h => h.elim, fun _ h => h⟩⟩, by exact bel⟩
  exact OwnRow.one' (S := S) (by simp) _ rfl (HF.out.1.later (by exact bel)) (fun b hb => by have := HF.out.2 b hb; omega) (fun b hb => .inl hb) (.inr ⟨by omega, by simp⟩)
set_option maxHeartbeats 800000 in
theorem atomOf_any (m : Nat) (S : Nat → Prop) (t : Tm) (v0 v1 : Value) (w : World) (h : TmOwn 26 m S w t [v0, v1]) :
    Calls Tryz.prog 76 #[.agg #[v0, v1]] w fun e w' => ∃ y, e = .returned y ∧ FmV (m + 1) S w' (atomOfF t) y ∧ Below w.heap.size w w' := by
  obtain ⟨p, c, rfl, rfl, -⟩ := h.form
  have HF := Lib.hid h
  clear h
  go_enter Tryz.func76, Tryz.ntmps76
  go_wp2
  refine bodyPost_ret (v := .agg #[.int .i64 3, .string t.n, .slice p t.us.length c, .string ⟨#[]⟩, .slice none 0 0]) (by simp only [results, Tryz.results76]; go_simp) rfl ⟨_, rfl, ⟨_, _, _, _, _, rfl, ⟨_, _, _, S, fun _ => False, rfl, by omega, Nat.zero_le _, HF.out.below (by exact bel), OwnRow.nil _ _ _ _ _, fun b hb => ⟨hb, fun h => h⟩, fun _ h => h.elim⟩⟩, by exact bel⟩
end Go.Proofs.YtkgfanajgdelcaaGreat
