import Derived.OwnWalk
import Derived.Test.YtmbkjdkjemlfkaaGreatDoorDfPart2
import Derived.Test.YtmbkjdkjemlfkaaGreatDoorDfPart3
namespace Go.Proofs.YtmbkjdkjemlfkaaGreatDoor
set_option maxRecDepth 100000
open Go.RowKit
def OwnRow {α : Type} (S : Nat → Prop) (w : World) (e : TypeId) (size : Nat) (R : (Nat → Prop) → α → List Value → Prop) (v : Value) (xs : List α) : Prop :=
  xs.length ≤ maxLen ∧ ∃ (vals : List Value) (Ss : Nat → Nat → Prop), w.ownsRow 0 e size v xs.length vals ∧ (∀ g, v.ownBlock = some g → S g) ∧
    (∀ i x, xs[i]? = some x → R (Ss i) x ((vals.drop (i * size)).take size) ∧ ∀ b, Ss i b → S b ∧ v.ownBlock ≠ some b) ∧
    ∀ i j b, i < xs.length → j < xs.length → i ≠ j → Ss i b → ¬ Ss j b
theorem own_same {w w' : World} {base : Nat} {e : TypeId} {size : Nat} {v : Value} {n : Nat} {xs : List Value} (h : w.ownsRow base e size v n xs) (hs : ∀ g, v.ownBlock = some g → g < w.heap.size → w'.heap[g]? = w.heap[g]?) : w'.ownsRow base e size v n xs := by
  refine ⟨h.1, ?_⟩
  rcases h.2 with h2 | ⟨g, cap, cur, rfl, hb, hh, h3⟩
  · exact .inl h2
  · have hlt : g < w.heap.size := by
      rcases Nat.lt_or_ge g w.heap.size with h' | h'
      · exact h'
      · rw [Array.getElem?_eq_none h'] at hh; cases hh
    exact .inr ⟨g, cap, cur, rfl, hb, (hs g rfl hlt).trans hh, h3⟩
theorem OwnRow.mono {α : Type} {S S' : Nat → Prop} {w w' : World} {e : TypeId} {size : Nat} {R R' : (Nat → Prop) → α → List Value → Prop} {v : Value} {xs : List α} (h : OwnRow S w e size R v xs) (hs : SameOn S w w') (hS : ∀ b, S b → S' b)
    (hR : ∀ T x cs, x ∈ xs → (∀ b, T b → S b) → R T x cs → R' T x cs) : OwnRow S' w' e size R' v xs := by
  obtain ⟨hm, vals, Ss, h1, h2, h3, h4⟩ := h
  refine ⟨hm, vals, Ss, own_same h1 (fun g hg hlt => hs g (h2 g hg) hlt), fun g hg => hS g (h2 g hg), fun i x hx => ⟨hR _ _ _ (List.mem_of_getElem? hx) (fun b hb => ((h3 i x hx).2 b hb).1) (h3 i x hx).1, fun b hb => ⟨hS b ((h3 i x hx).2 b hb).1, ((h3 i x hx).2 b hb).2⟩⟩, h4⟩
theorem OwnRow.listAt {α : Type} {S : Nat → Prop} {w : World} {e : TypeId} {size : Nat} (hz : 0 < size) {R : (Nat → Prop) → α → List Value → Prop} {R' : α → List Value → Prop} {v : Value} {xs : List α} (h : OwnRow S w e size R v xs)
    (hR : ∀ T x cs, x ∈ xs → (∀ b, T b → S b) → R T x cs → R' x cs) : ListAt S w size R' v xs := by
  obtain ⟨hm, vals, Ss, h1, h2, h3, _⟩ := h
  rcases h1.2 with ⟨rfl, h0⟩ | ⟨g, cap, cur, rfl, _⟩
  · obtain rfl : xs = [] := List.eq_nil_of_length_eq_zero h0
    exact ListAt.nil _ _ _ _ _ _
  · refine ⟨_, _, rfl, hm, fun i x hx => ⟨g, 0, rfl, h2 g rfl, (vals.drop (i * size)).take size, ?_, fun j hj => ?_, hR _ _ _ (List.mem_of_getElem? hx) (fun b hb => ((h3 i x hx).2 b hb).1) (h3 i x hx).1⟩⟩
    · have hi : i < xs.length := (List.getElem?_eq_some_iff.1 hx).1
      have h5 : (i + 1) * size ≤ xs.length * size := Nat.mul_le_mul_right _ hi
      rw [Nat.succ_mul] at h5
      rw [List.length_take, List.length_drop, h1.1]; omega
    · have hi : i < xs.length := (List.getElem?_eq_some_iff.1 hx).1
      have h5 : (i + 1) * size ≤ xs.length * size := Nat.mul_le_mul_right _ hi
      rw [Nat.succ_mul] at h5
      rw [Nat.zero_add, h1.cellAt (i * size + j) (by omega), List.getElem?_take, if_pos hj, List.getElem?_drop]
theorem OwnRow.form {α : Type} {S : Nat → Prop} {w : World} {e : TypeId} {size : Nat} {R : (Nat → Prop) → α → List Value → Prop} {v : Value} {xs : List α} (h : OwnRow S w e size R v xs) : ∃ p c, v = .slice p xs.length c ∧ xs.length ≤ maxLen := by
  obtain ⟨hm, vals, Ss, h1, _⟩ := h
  rcases h1.2 with ⟨rfl, h0⟩ | ⟨g, cap, cur, rfl, _⟩
  · exact ⟨none, 0, by rw [h0], hm⟩
  · exact ⟨_, _, rfl, hm⟩
theorem OwnRow.nil {α : Type} (S : Nat → Prop) (w : World) (e : TypeId) (size : Nat) (R : (Nat → Prop) → α → List Value → Prop) : OwnRow S w e size R (.slice none 0 0) [] :=
  ⟨Nat.zero_le _, [], fun _ _ => False, ⟨by simp, .inl ⟨rfl, rfl⟩⟩, fun g hg => by simp [Value.ownBlock] at hg, fun i x hx => by simp at hx, fun i j b hi => by simp at hi⟩
theorem OwnRow.snoc {α : Type} {S Sx S' : Nat → Prop} {w w' : World} {e : TypeId} {size : Nat} {R R' : (Nat → Prop) → α → List Value → Prop} {v v' : Value} {xs : List α} {x : α} {cs : List Value} (h : OwnRow S w e size R v xs) (hx : R Sx x cs) (hl : cs.length = size)
    (hown : ∀ vals : List Value, w.ownsRow 0 e size v xs.length vals → w'.ownsRow 0 e size v' (xs.length + 1) (vals ++ cs)) (_ : w.grownBy w' v.ownBlock) (hn : NewRow v v' w.heap.size) (hm : xs.length + 1 ≤ maxLen)
    (hSx : ∀ b, Sx b → ¬ S b) (hSlt : ∀ b, S b → b < w.heap.size) (hSxlt : ∀ b, Sx b → b < w.heap.size) (h1 : ∀ b, S b → S' b) (h2 : ∀ b, Sx b → S' b) (h3 : ∀ g, v'.ownBlock = some g → S' g)
    (hR : ∀ T y c, (∀ b, T b → b < w.heap.size ∧ v.ownBlock ≠ some b) → R T y c → R' T y c) : OwnRow S' w' e size R' v' (xs ++ [x]) := by
  obtain ⟨_, vals, Ss, g1, g2, g3, g4⟩ := h
  have hvl : vals.length = xs.length * size := g1.1
  have hxne : ∀ b, Sx b → v.ownBlock ≠ some b := fun b hb e => hSx b hb (g2 b e)
  have hne : ∀ b, b < w.heap.size → v.ownBlock ≠ some b → v'.ownBlock ≠ some b := fun b hlt hv e => by
    rcases hn with hn | ⟨g, hn, hge⟩
    · rw [hn] at e; exact hv e
    · rw [hn] at e; injection e with e; omega
  refine ⟨by simpa using hm, vals ++ cs, fun i => if i = xs.length then Sx else Ss i, by simpa using hown vals g1, h3, fun i y hy => ?_, fun i j b hi hj hij hb => ?_⟩
  · have hi : i < xs.length + 1 := by have := (List.getElem?_eq_some_iff.1 hy).1; simpa using this
    by_cases e : i = xs.length
    · subst e
      rw [List.getElem?_append_right (Nat.le_refl _), Nat.sub_self] at hy
      obtain rfl : x = y := by simpa using hy
      show R' (if xs.length = xs.length then Sx else _) _ _ ∧ ∀ b, (if xs.length = xs.length then Sx else _) b → _
      rw [if_pos rfl, ← hvl, List.drop_left, List.take_of_length_le (by omega)]
      exact ⟨hR _ _ _ (fun b hb => ⟨hSxlt b hb, hxne b hb⟩) hx, fun b hb => ⟨h2 b hb, hne b (hSxlt b hb) (hxne b hb)⟩⟩
    · have hlt : i < xs.length := by omega
      rw [List.getElem?_append_left hlt] at hy
      have h5 : (i + 1) * size ≤ xs.length * size := Nat.mul_le_mul_right _ hlt
      rw [Nat.succ_mul] at h5
      obtain ⟨k1, k2⟩ := g3 i y hy
      show R' (if i = xs.length then Sx else Ss i) _ _ ∧ ∀ b, (if i = xs.length then Sx else Ss i) b → _
      rw [if_neg e, List.drop_append_of_le_length (by omega), List.take_append_of_le_length (by rw [List.length_drop]; omega)]
      exact ⟨hR _ _ _ (fun b hb => ⟨hSlt b (k2 b hb).1, (k2 b hb).2⟩) k1, fun b hb => ⟨h1 b (k2 b hb).1, hne b (hSlt b (k2 b hb).1) (k2 b hb).2⟩⟩
  · simp only [List.length_append, List.length_cons, List.length_nil] at hi hj
    change (if i = xs.length then Sx else Ss i) b at hb
    show ¬ (if j = xs.length then Sx else Ss j) b
    by_cases ei : i = xs.length
    · rw [if_pos ei] at hb
      have hj' : j < xs.length := by omega
      rw [if_neg (by omega)]
      exact fun hjb => hSx b hb ((g3 j _ (List.getElem?_eq_getElem hj')).2 b hjb).1
    · rw [if_neg ei] at hb
      have hi' : i < xs.length := by omega
      by_cases ej : j = xs.length
      · rw [if_pos ej]
        exact fun hjb => hSx b hjb ((g3 i _ (List.getElem?_eq_getElem hi')).2 b hb).1
      · rw [if_neg ej]
        exact g4 i j b hi' (by omega) hij hb
def TmOwn (e : TypeId) : Nat → (Nat → Prop) → World → Tm → List Value → Prop
  | 0, _, _, _, _ => False
  | n + 1, S, w, .mk s us, cs => ∃ va, cs = [.string s, va] ∧ s.size ≤ maxLen ∧ OwnRow S w e 2 (fun T t c => TmOwn e n T w t c) va us
theorem TmOwn.mono {e : TypeId} : ∀ (n m : Nat) {S S' : Nat → Prop} {w w' : World} (t : Tm) (cs : List Value), n ≤ m → SameOn S w w' → (∀ b, S b → S' b) → TmOwn e n S w t cs → TmOwn e m S' w' t cs
  | 0, _, _, _, _, _, _, _, _, _, _, h => h.elim
  | n + 1, 0, _, _, _, _, _, _, hm, _, _, _ => by omega
  | n + 1, m + 1, S, S', w, w', .mk s us, cs, hm, hs, hS, h => by
    obtain ⟨va, h1, h2, h3⟩ := h
    exact ⟨va, h1, h2, h3.mono hs hS fun T x c _ hT hx => TmOwn.mono n m x c (by omega) (fun b hb hlt => hs b (hT b hb) hlt) (fun _ h => h) hx⟩
theorem TmOwn.at_ {e : TypeId} : ∀ (n : Nat) {S : Nat → Prop} {w : World} (t : Tm) (cs : List Value), TmOwn e n S w t cs → TmAt S n w t cs
  | 0, _, _, _, _, h => h.elim
  | n + 1, S, w, .mk s us, cs, h => by
    obtain ⟨va, h1, h2, h3⟩ := h
    exact ⟨va, h1, h2, h3.listAt (by omega) fun T x c _ hT hx => TmAt.mono (SameOn.refl _ _) hT n n x c (Nat.le_refl _) (TmOwn.at_ n x c hx)⟩
theorem TmOwn.below {e : TypeId} {n : Nat} {S : Nat → Prop} {w w' : World} {t : Tm} {cs : List Value} (hb : Below w.heap.size w w') (h : TmOwn e n S w t cs) : TmOwn e n S w' t cs := TmOwn.mono n n t cs (Nat.le_refl _) (SameOn.below hb) (fun _ h => h) h
theorem TmOwn.form {e : TypeId} {n : Nat} {S : Nat → Prop} {w : World} {t : Tm} {v0 v1 : Value} (h : TmOwn e n S w t [v0, v1]) : ∃ p c, v0 = .string t.n ∧ v1 = .slice p t.us.length c ∧ t.n.size ≤ maxLen ∧ t.us.length ≤ maxLen := (TmOwn.at_ n t _ h).form
def FmOwn (eT eF : TypeId) : Nat → (Nat → Prop) → World → Fm → List Value → Prop
  | 0, _, _, _, _ => False
  | n + 1, S, w, .mk op a x ps, cs => ∃ (vn va vp : Value) (Sa Sp : Nat → Prop), cs = [.int .i64 op, vn, va, .string x, vp] ∧ (-9223372036854775808 ≤ op ∧ op ≤ 9223372036854775807) ∧ x.size ≤ maxLen ∧ TmOwn eT n Sa w a [vn, va] ∧
      OwnRow Sp w eF 5 (fun T f c => FmOwn eT eF n T w f c) vp ps ∧ (∀ b, Sa b → S b ∧ ¬ Sp b) ∧ ∀ b, Sp b → S b
theorem FmOwn.mono {eT eF : TypeId} : ∀ (n m : Nat) {S S' : Nat → Prop} {w w' : World} (t : Fm) (cs : List Value), n ≤ m → SameOn S w w' → (∀ b, S b → S' b) → FmOwn eT eF n S w t cs → FmOwn eT eF m S' w' t cs
  | 0, _, _, _, _, _, _, _, _, _, _, h => h.elim
  | n + 1, 0, _, _, _, _, _, _, hm, _, _, _ => by omega
  | n + 1, m + 1, S, S', w, w', .mk op a x ps, cs, hm, hs, hS, h => by
    obtain ⟨vn, va, vp, Sa, Sp, h1, h2, h3, h4, h5, h6, h7⟩ := h
    exact ⟨vn, va, vp, Sa, Sp, h1, h2, h3, TmOwn.mono n m a _ (by omega) (fun b hb hlt => hs b (h6 b hb).1 hlt) (fun _ h => h) h4,
      h5.mono (fun b hb hlt => hs b (h7 b hb) hlt) (fun _ h => h) (fun T y c _ hT hy => FmOwn.mono n m y c (by omega) (fun b hb hlt => hs b (h7 b (hT b hb)) hlt) (fun _ h => h) hy), fun b hb => ⟨hS b (h6 b hb).1, (h6 b hb).2⟩, fun b hb => hS b (h7 b hb)⟩
theorem FmOwn.at_ {eT eF : TypeId} : ∀ (n : Nat) {S : Nat → Prop} {w : World} (t : Fm) (cs : List Value), FmOwn eT eF n S w t cs → FmAt S n w t cs
  | 0, _, _, _, _, h => h.elim
  | n + 1, S, w, .mk op a x ps, cs, h => by
    obtain ⟨vn, va, vp, Sa, Sp, h1, h2, h3, h4, h5, h6, h7⟩ := h
    exact ⟨vn, va, vp, h1, h2, h3, TmAt.mono (SameOn.refl _ _) (fun b hb => (h6 b hb).1) n n a _ (Nat.le_refl _) (TmOwn.at_ n a _ h4),
      ListAt.mono (h5.listAt (R' := FmAt S n w) (by omega) fun T y c _ hT hy => FmAt.mono (SameOn.refl _ _) (fun b hb => h7 b (hT b hb)) n n y c (Nat.le_refl _) (FmOwn.at_ n y c hy)) (SameOn.refl _ _) h7 (fun _ _ _ h => h)⟩
theorem FmOwn.form {eT eF : TypeId} {n : Nat} {S : Nat → Prop} {w : World} {t : Fm} {v0 v1 v2 v3 v4 : Value} (h : FmOwn eT eF n S w t [v0, v1, v2, v3, v4]) : ∃ p c q d, v0 = .int .i64 t.op ∧ v1 = .string t.a.n ∧ v2 = .slice p t.a.us.length c ∧ v3 = .string t.v ∧ v4 = .slice q t.ps.length d ∧ (-9223372036854775808 ≤ t.op ∧ t.op ≤ 9223372036854775807) ∧ t.a.n.size ≤ maxLen ∧ t.a.us.length ≤ maxLen ∧ t.v.size ≤ maxLen ∧ t.ps.length ≤ maxLen := (FmOwn.at_ n t _ h).form
theorem row_new (w : World) (e : TypeId) (size n : Nat) (cur : Array Value) (hc : cur.size = n * size) (hn : n ≤ maxLen) : (w.alloc (.cells cur e)).ownsRow 0 e size (.slice (some ⟨w.heap.size, 0, none⟩) n n) n cur.toList :=
  ⟨by simpa using hc, .inr ⟨w.heap.size, n, cur, rfl, Nat.zero_le _, heap_alloc_new w _, Nat.le_refl _, hn, hc, by rw [List.take_of_length_le]; simp; omega⟩⟩
theorem OwnRow.one {α : Type} {S S' : Nat → Prop} {w : World} {e : TypeId} {size : Nat} {R : (Nat → Prop) → α → List Value → Prop} {x : α} (cs : Array Value) (hc : cs.size = size) (hR : R S x cs.toList) (hS : ∀ b, S b → b < w.heap.size) (h1 : ∀ b, S b → S' b) (h2 : S' w.heap.size) :
    OwnRow S' (w.alloc (.cells cs e)) e size R (.slice (some ⟨w.heap.size, 0, none⟩) 1 1) [x] := by
  refine ⟨by simp [maxLen], cs.toList, fun _ => S, row_new w e size 1 cs (by omega) (by simp [maxLen]), fun g hg => ?_, fun i y hy => ?_, fun i j b hi hj hij => ?_⟩
  · have : w.heap.size = g := by simpa [Value.ownBlock] using hg
    rw [← this]; exact h2
  · have hi : i < 1 := by have := (List.getElem?_eq_some_iff.1 hy).1; simpa using this
    obtain rfl : i = 0 := by omega
    obtain rfl : x = y := by simpa using hy
    rw [Nat.zero_mul, List.drop_zero, List.take_of_length_le (by simp; omega)]
    exact ⟨hR, fun b hb => ⟨h1 b hb, fun hv => by have : w.heap.size = b := by simpa [Value.ownBlock] using hv
                                                  have := hS b hb; omega⟩⟩
  · simp at hi hj; omega
theorem OwnRow.two {α : Type} {S T S' : Nat → Prop} {w : World} {e : TypeId} {size : Nat} {R : (Nat → Prop) → α → List Value → Prop} {x y : α} (cs ds : List Value) (hc : cs.length = size) (hd : ds.length = size) (hR : R S x cs) (hR2 : R T y ds) (hS : ∀ b, S b → b < w.heap.size) (hT : ∀ b, T b → b < w.heap.size) (hST : ∀ b, S b → ¬ T b)
    (h1 : ∀ b, S b → S' b) (h3 : ∀ b, T b → S' b) (h2 : S' w.heap.size) : OwnRow S' (w.alloc (.cells (cs ++ ds).toArray e)) e size R (.slice (some ⟨w.heap.size, 0, none⟩) 2 2) [x, y] := by
  refine ⟨by simp [maxLen], cs ++ ds, fun i => if i = 0 then S else T, by simpa using row_new w e size 2 (cs ++ ds).toArray (by simp; omega) (by simp [maxLen]), fun g hg => ?_, fun i z hz => ?_, fun i j b hi hj hij hb => ?_⟩
  · have : w.heap.size = g := by simpa [Value.ownBlock] using hg
    rw [← this]; exact h2
  · have hi : i < 2 := by have := (List.getElem?_eq_some_iff.1 hz).1; simpa using this
    match i, hi with
    | 0, _ =>
      obtain rfl : x = z := by simpa using hz
      rw [Nat.zero_mul, List.drop_zero, List.take_append_of_le_length (by omega), List.take_of_length_le (by omega)]
      exact ⟨hR, fun b hb => ⟨h1 b hb, fun hv => by
        have e1 : w.heap.size = b := by simpa [Value.ownBlock] using hv
        have := hS b hb; omega⟩⟩
    | 1, _ =>
      obtain rfl : y = z := by simpa using hz
      rw [Nat.one_mul, List.drop_left' hc, List.take_of_length_le (by omega)]
      exact ⟨hR2, fun b hb => ⟨h3 b hb, fun hv => by
        have e1 : w.heap.size = b := by simpa [Value.ownBlock] using hv
        have := hT b hb; omega⟩⟩
  · simp only [List.length_cons, List.length_nil] at hi hj
    change (if i = 0 then S else T) b at hb
    show ¬ (if j = 0 then S else T) b
    match i, j, hij with
    | 0, 1, _ => exact hST b hb
    | 1, 0, _ => exact fun h => hST b h hb
    | 0, 0, h => exact absurd rfl h
    | 1, 1, h => exact absurd rfl h
    | i + 2, _, _ => omega
    | _, j + 2, _ => omega
theorem OwnRow.one' {α : Type} {S S' : Nat → Prop} {w : World} {e : TypeId} {size k : Nat} {R : (Nat → Prop) → α → List Value → Prop} {x : α} (hk : w.heap.size = k) (cs : Array Value) (hc : cs.size = size) (hR : R S x cs.toList) (hS : ∀ b, S b → b < k) (h1 : ∀ b, S b → S' b) (h2 : S' k) :
    OwnRow S' (w.alloc (.cells cs e)) e size R (.slice (some ⟨k, 0, none⟩) 1 1) [x] := by subst hk; exact OwnRow.one cs hc hR hS h1 h2
theorem OwnRow.two' {α : Type} {S T S' : Nat → Prop} {w : World} {e : TypeId} {size k : Nat} {R : (Nat → Prop) → α → List Value → Prop} {x y : α} (hk : w.heap.size = k) (cs ds : List Value) (all : Array Value) (hall : all = (cs ++ ds).toArray) (hc : cs.length = size) (hd : ds.length = size) (hR : R S x cs) (hR2 : R T y ds) (hS : ∀ b, S b → b < k) (hT : ∀ b, T b → b < k) (hST : ∀ b, S b → ¬ T b)
    (h1 : ∀ b, S b → S' b) (h3 : ∀ b, T b → S' b) (h2 : S' k) : OwnRow S' (w.alloc (.cells all e)) e size R (.slice (some ⟨k, 0, none⟩) 2 2) [x, y] := by subst hk hall; exact OwnRow.two cs ds hc hd hR hR2 hS hT hST h1 h3 h2
def upC (c : UInt8) : Bool := decide (65 ≤ c.toNat) && decide (c.toNat ≤ 90)
def loC (c : UInt8) : Bool := decide (97 ≤ c.toNat) && decide (c.toNat ≤ 122)
def diC (c : UInt8) : Bool := decide (48 ≤ c.toNat) && decide (c.toNat ≤ 57)
def smC (c : UInt8) : Bool := loC c || diC c
def unC (c : UInt8) : Bool := smC c || c == 95
def headTail (p q : UInt8 → Bool) : List UInt8 → Bool
  | [] => true
  | c :: l => p c && l.all q
theorem headTail_snoc (p q : UInt8 → Bool) (l : List UInt8) (c : UInt8) : headTail p q (l ++ [c]) = (headTail p q l && (if l.isEmpty then p c else q c)) := by
  cases l with
  | nil => simp [headTail]
  | cons x l => simp [headTail, Bool.and_assoc]
def varB (l : List UInt8) : Bool := decide (1 ≤ l.length) && decide (l.length ≤ 4) && headTail upC smC l
def keyW : List (List UInt8) := [[116, 114, 117, 101], [102, 97, 108, 115, 101], [116, 114, 117, 116, 104], [98, 111, 116, 104], [101, 105, 116, 104, 101, 114], [105, 102], [97, 108, 108], [115, 111, 109, 101]]
def symB (l : List UInt8) : Bool := decide (1 ≤ l.length) && decide (l.length ≤ 6) && headTail loC unC l && !keyW.contains l
mutual
def Tm.sz : Tm → Nat | .mk _ us => 1 + Tm.szs us
def Tm.szs : List Tm → Nat | [] => 0 | a :: us => a.sz + Tm.szs us
end
mutual
def Tm.dp : Tm → Nat | .mk _ us => Tm.dps us + 1
def Tm.dps : List Tm → Nat | [] => 0 | a :: us => max a.dp (Tm.dps us)
end
mutual
def Tm.nodes : Tm → Bool | .mk n us => if varB n.data.toList then us.isEmpty else symB n.data.toList && decide (us.length ≤ 4) && Tm.nodess us
def Tm.nodess : List Tm → Bool | [] => true | a :: us => a.nodes && Tm.nodess us
end
mutual
def Tm.szI : Tm → Nat | .mk _ us => Tm.szIs 1 us
def Tm.szIs : Nat → List Tm → Nat | n, [] => n | n, a :: us => if 30 < n then n else Tm.szIs (n + a.szI) us
end
mutual
def Tm.many : Tm → Nat → Nat | .mk _ us, m => Tm.manys 1 us m
def Tm.manys : Nat → List Tm → Nat → Nat | n, [], _ => n | n, a :: us, m => if n ≤ m then Tm.manys (n + a.many (m - n)) us m else n
end
mutual
theorem Tm.szI_law : ∀ t : Tm, t.szI ≤ t.sz ∧ (t.szI ≤ 30 → t.szI = t.sz) ∧ 1 ≤ t.szI
  | .mk _ us => by have := Tm.szIs_law 1 us; rw [Tm.szI, Tm.sz]; omega
theorem Tm.szIs_law : ∀ (n : Nat) (us : List Tm), Tm.szIs n us ≤ n + Tm.szs us ∧ (Tm.szIs n us ≤ 30 → Tm.szIs n us = n + Tm.szs us) ∧ n ≤ Tm.szIs n us
  | n, [] => by simp [Tm.szIs, Tm.szs]
  | n, a :: us => by
    have h1 := Tm.szI_law a
    have h2 := Tm.szIs_law (n + a.szI) us
    rw [Tm.szIs, Tm.szs]
    split <;> omega
end
mutual
theorem Tm.many_law : ∀ (t : Tm) (m : Nat), t.many m ≤ t.sz ∧ (t.many m ≤ m → t.many m = t.sz) ∧ 1 ≤ t.many m
  | .mk _ us, m => by have := Tm.manys_law 1 us m; rw [Tm.many, Tm.sz]; omega
theorem Tm.manys_law : ∀ (n : Nat) (us : List Tm) (m : Nat), Tm.manys n us m ≤ n + Tm.szs us ∧ (Tm.manys n us m ≤ m → Tm.manys n us m = n + Tm.szs us) ∧ n ≤ Tm.manys n us m
  | n, [], m => by simp [Tm.manys, Tm.szs]
  | n, a :: us, m => by
    have h1 := Tm.many_law a (m - n)
    have h2 := Tm.manys_law (n + a.many (m - n)) us m
    rw [Tm.manys, Tm.szs]
    split <;> omega
end
mutual
theorem Tm.dp_le : ∀ t : Tm, t.dp ≤ t.sz
  | .mk _ us => by have := Tm.dps_le us; rw [Tm.dp, Tm.sz]; omega
theorem Tm.dps_le : ∀ us : List Tm, Tm.dps us ≤ Tm.szs us
  | [] => by simp [Tm.dps, Tm.szs]
  | a :: us => by have := Tm.dp_le a; have := Tm.dps_le us; rw [Tm.dps, Tm.szs]; omega
end
theorem Tm.szI_iff (t : Tm) : decide (t.szI ≤ 30) = decide (t.sz ≤ 30) := by rw [decide_eq_decide]; have := t.szI_law; omega
theorem Tm.many_iff (t : Tm) : decide (t.many 30 ≤ 30) = decide (t.sz ≤ 30) := by rw [decide_eq_decide]; have := t.many_law 30; omega
def Tm.small (t : Tm) : Bool := decide (t.sz ≤ 30) && decide (t.dp ≤ 8)
def Tm.good (t : Tm) : Bool := t.small && t.nodes
def isEq (n : ByteArray) : Bool := n.data.toList == [61]
def Tm.atom (t : Tm) : Bool :=
  if isEq t.n then decide (t.us.length = 2) && t.small && Tm.nodess t.us else symB t.n.data.toList && t.good
mutual
def Fm.sz : Fm → Nat | .mk _ _ _ ps => 1 + Fm.szs ps
def Fm.szs : List Fm → Nat | [] => 0 | a :: us => a.sz + Fm.szs us
end
mutual
def Fm.szI : Fm → Nat | .mk _ _ _ ps => Fm.szIs 1 ps
def Fm.szIs : Nat → List Fm → Nat | n, [] => n | n, a :: us => if 40 < n then n else Fm.szIs (n + a.szI) us
end
mutual
def Fm.many : Fm → Nat → Nat | .mk _ _ _ ps, m => Fm.manys 1 ps m
def Fm.manys : Nat → List Fm → Nat → Nat | n, [], _ => n | n, a :: us, m => if n ≤ m then Fm.manys (n + a.many (m - n)) us m else n
end
mutual
theorem Fm.szI_law : ∀ t : Fm, t.szI ≤ t.sz ∧ (t.szI ≤ 40 → t.szI = t.sz) ∧ 1 ≤ t.szI
  | .mk _ _ _ us => by have := Fm.szIs_law 1 us; rw [Fm.szI, Fm.sz]; omega
theorem Fm.szIs_law : ∀ (n : Nat) (us : List Fm), Fm.szIs n us ≤ n + Fm.szs us ∧ (Fm.szIs n us ≤ 40 → Fm.szIs n us = n + Fm.szs us) ∧ n ≤ Fm.szIs n us
  | n, [] => by simp [Fm.szIs, Fm.szs]
  | n, a :: us => by
    have h1 := Fm.szI_law a
    have h2 := Fm.szIs_law (n + a.szI) us
    rw [Fm.szIs, Fm.szs]
    split <;> omega
end
mutual
theorem Fm.many_law : ∀ (t : Fm) (m : Nat), t.many m ≤ t.sz ∧ (t.many m ≤ m → t.many m = t.sz) ∧ 1 ≤ t.many m
  | .mk _ _ _ us, m => by have := Fm.manys_law 1 us m; rw [Fm.many, Fm.sz]; omega
theorem Fm.manys_law : ∀ (n : Nat) (us : List Fm) (m : Nat), Fm.manys n us m ≤ n + Fm.szs us ∧ (Fm.manys n us m ≤ m → Fm.manys n us m = n + Fm.szs us) ∧ n ≤ Fm.manys n us m
  | n, [], m => by simp [Fm.manys, Fm.szs]
  | n, a :: us, m => by
    have h1 := Fm.many_law a (m - n)
    have h2 := Fm.manys_law (n + a.many (m - n)) us m
    rw [Fm.manys, Fm.szs]
    split <;> omega
end
theorem Fm.szI_iff (t : Fm) : decide (t.szI ≤ 40) = decide (t.sz ≤ 40) := by rw [decide_eq_decide]; have := t.szI_law; omega
theorem Fm.many_iff (t : Fm) : decide (t.many 40 ≤ 40) = decide (t.sz ≤ 40) := by rw [decide_eq_decide]; have := t.many_law 40; omega
def Tm.none (t : Tm) : Bool := t.n.data.toList.isEmpty && t.us.isEmpty
def arity (op : Int) : Option Nat := if op = 1 ∨ op = 2 ∨ op = 3 then some 0 else if op = 4 ∨ op = 8 ∨ op = 9 then some 1 else if op = 5 ∨ op = 6 ∨ op = 7 then some 2 else none
def isQ (op : Int) : Bool := op == 8 || op == 9
def Fm.form1 (f : Fm) : Bool :=
  (arity f.op == some f.ps.length) && (if isQ f.op then varB f.v.data.toList else f.v.data.toList.isEmpty) && (if f.op = 3 then f.a.atom else f.a.none)
mutual
def Fm.form : Fm → Bool | .mk op a v ps => Fm.form1 (.mk op a v ps) && Fm.forms ps
def Fm.forms : List Fm → Bool | [] => true | f :: fs => f.form && Fm.forms fs
end
def Fm.good (f : Fm) : Bool := decide (f.sz ≤ 40) && f.form
/-! ### Texts -/
def tm0 : Tm := .mk ⟨#[]⟩ []
def atomOfF (t : Tm) : Fm := .mk 3 t ⟨#[]⟩ []
def opF (op : Int) (ps : List Fm) : Fm := .mk op tm0 ⟨#[]⟩ ps
def quantF (op : Int) (v : List UInt8) (f : Fm) : Fm := .mk op tm0 ⟨v.toArray⟩ [f]
/-! ### What is written is read back -/
def NewB (w w' : World) (b : Nat) : Prop := w.heap.size ≤ b ∧ b < w'.heap.size
mutual
def Tm.wt : Tm → Nat | .mk n us => n.size + us.length + Tm.wts us
def Tm.wts : List Tm → Nat | [] => 0 | a :: us => a.wt + Tm.wts us
end
theorem Tm.wts_le (us : List Tm) {k : Nat} (h : k < us.length) : us[k].wt ≤ Tm.wts us := by
  induction us generalizing k with
  | nil => simp at h
  | cons a us ih =>
    cases k with
    | zero => simp [Tm.wts]
    | succ k => have := ih (k := k) (by simpa using h); simp only [List.getElem_cons_succ, Tm.wts]; omega
def StepO (g m k : Nat) (p : World → Value → Prop) (w : World) (e : Ending) (w' : World) : Prop :=
  ∃ v, e = .returned v ∧ p w' v ∧ Cur w' g (m + k) ∧ w.grownBy w' (some g)
def GT (n W : Nat) (S : Nat → Prop) (w : World) (v : Value) : Prop :=
  ∃ (t : Tm) (va : Value), v = .agg #[.string t.n, va] ∧ TmOwn 26 n S w t [.string t.n, va] ∧ t.wt ≤ W
theorem GT.mono {n n' W W' : Nat} {S S' : Nat → Prop} {w w' : World} {v : Value} (h : GT n W S w v) (hn : n ≤ n') (hW : W ≤ W') (hs : SameOn S w w') (hS : ∀ b, S b → S' b) : GT n' W' S' w' v := by
  obtain ⟨t, va, h1, h2, h3⟩ := h
  exact ⟨t, va, h1, TmOwn.mono n n' t _ hn hs hS h2, Nat.le_trans h3 hW⟩
theorem sameOn_grown {S : Nat → Prop} {w w' : World} {g : Nat} (hg : w.grownBy w' (some g)) (hS : ∀ b, S b → b ≠ g) : SameOn S w w' := fun b hb hlt => hg.block b hlt (by simpa using hS b hb)
theorem GT.leaf {W : Nat} (S : Nat → Prop) (w : World) (s : ByteArray) (h : s.size ≤ W) (hm : W ≤ maxLen) : GT 1 W S w (.agg #[.string s, .slice none 0 0]) :=
  ⟨.mk s [], .slice none 0 0, rfl, ⟨_, rfl, Nat.le_trans h hm, OwnRow.nil _ _ _ _ _⟩, by simpa [Tm.wt, Tm.wts] using h⟩
theorem GT.one {n W W' : Nat} {S S' : Nat → Prop} {w : World} {v0 v1 : Value} {s : ByteArray} {k : Nat} (h : GT n W S w (.agg #[v0, v1])) (hk : w.heap.size = k) (hs : s.size ≤ maxLen) (hS : ∀ b, S b → b < k) (h1 : ∀ b, S b → S' b) (h2 : S' k) (hW : s.size + 1 + W ≤ W') :
    GT (n + 1) W' S' (w.alloc (.cells #[v0, v1] 26)) (.agg #[.string s, .slice (some ⟨k, 0, none⟩) 1 1]) := by
  obtain ⟨t, va, h3, h4, h5⟩ := h
  obtain ⟨rfl, rfl⟩ : v0 = .string t.n ∧ v1 = va := by simpa using h3
  refine ⟨.mk s [t], _, rfl, ⟨_, rfl, hs, OwnRow.one' hk _ rfl (TmOwn.mono n n t _ (Nat.le_refl _) (SameOn.below ((Below.refl _ _).alloc (Nat.le_refl _) _)) (fun _ h => h) h4) hS h1 h2⟩, ?_⟩
  simp only [Tm.wt, Tm.wts, List.length_cons, List.length_nil]; omega
theorem GT.two {n W W' : Nat} {S T S' : Nat → Prop} {w : World} {v0 v1 u0 u1 : Value} {s : ByteArray} {k : Nat} (h : GT n W S w (.agg #[v0, v1])) (hu : GT n W T w (.agg #[u0, u1])) (hk : w.heap.size = k) (hs : s.size ≤ maxLen) (hS : ∀ b, S b → b < k) (hT : ∀ b, T b → b < k) (hST : ∀ b, S b → ¬ T b)
    (h1 : ∀ b, S b → S' b) (h3 : ∀ b, T b → S' b) (h2 : S' k) (hW : s.size + 2 + W + W ≤ W') :
    GT (n + 1) W' S' (w.alloc (.cells #[v0, v1, u0, u1] 26)) (.agg #[.string s, .slice (some ⟨k, 0, none⟩) 2 2]) := by
  obtain ⟨t, va, e3, h4, h5⟩ := h
  obtain ⟨rfl, rfl⟩ : v0 = .string t.n ∧ v1 = va := by simpa using e3
  obtain ⟨t2, vb, e3, g4, g5⟩ := hu
  obtain ⟨rfl, rfl⟩ : u0 = .string t2.n ∧ u1 = vb := by simpa using e3
  have hb := SameOn.below (B := S) ((Below.refl w.heap.size w).alloc (Nat.le_refl _) (.cells #[.string t.n, v1, .string t2.n, u1] 26))
  have hb2 := SameOn.below (B := T) ((Below.refl w.heap.size w).alloc (Nat.le_refl _) (.cells #[.string t.n, v1, .string t2.n, u1] 26))
  refine ⟨.mk s [t, t2], _, rfl, ⟨_, rfl, hs, OwnRow.two' hk [.string t.n, v1] [.string t2.n, u1] _ rfl rfl rfl (TmOwn.mono n n t _ (Nat.le_refl _) hb (fun _ h => h) h4) (TmOwn.mono n n t2 _ (Nat.le_refl _) hb2 (fun _ h => h) g4) hS hT hST h1 h3 h2⟩, ?_⟩
  simp only [Tm.wt, Tm.wts, List.length_cons, List.length_nil]; omega
theorem GT.form {n W : Nat} {S : Nat → Prop} {w : World} {v : Value} (h : GT n W S w v) : ∃ (s : ByteArray) (p : Option Addr) (k c : Nat), v = .agg #[.string s, .slice p k c] ∧ s.size ≤ W ∧ k ≤ W ∧ W = W := by
  obtain ⟨t, va, rfl, h2, h3⟩ := h
  obtain ⟨p, c, h4, rfl, -⟩ := h2.form
  refine ⟨_, _, _, _, rfl, ?_, ?_, rfl⟩
  · cases t; simp only [Tm.wt, Tm.n] at *; omega
  · cases t; simp only [Tm.wt, Tm.us] at *; omega
set_option maxHeartbeats 1600000 in
theorem grown_any (g : Nat) : ∀ (f m : Nat) (d : Int) (w : World), Cur w g m → m + 4 * 2 ^ (f + 1) ≤ 1000000000 → -1000 ≤ d → d ≤ f + 1 → f ≤ 20 →
    Calls Tryz.prog 135 #[.pointer (some ⟨g, 0, none⟩), .int .i64 d] w (StepO g m (4 * 2 ^ (f + 1) - 4) (fun w' v => GT (f + 1) (4 * 2 ^ f - 3) (NewB w w') w' v) w) := by
  intro f
  induction f with
  | zero =>
    intro m d w h hm hd0 hd1 hf
    have hlt := h.lt
    have H := Lib.hid h
    clear h
    simp only [Nat.zero_add, Nat.pow_one] at hm
    have hd : d ≤ 1 := by omega
    go_enter Tryz.func135, Tryz.ntmps135
    go_wp2_with fail
    refine (of_lit g m 1 7 (w.heap.size + 1) _ _ _ (by rfl) (by simp) (H.out.al _) (by omega) (by decide) (by decide) (by intro v hv; simp at hv; rcases hv with rfl | rfl | rfl | rfl | rfl | rfl | rfl <;> exact ⟨_, rfl, by decide⟩)).mono ?_
    rintro e w1 ⟨_, rfl, ⟨s1, rfl, hs1⟩, hc1, hg1⟩
    have HC1 := Lib.hid hc1
    clear hc1
    have ⟨c1, f1⟩ := gcell hg1
    have hz1 := hg1.size
    (try simp at hz1)
    have hA := gr_trans (gr_al (gr_al (gr_refl w g) _) _) hg1
    have ⟨r0, r1, rf⟩ := row2_at ((hg1.block w.heap.size (by simp; omega) (by simp; omega)).trans ((hao _ _ _ (by simp)).trans (heap_alloc_new w _)))
    have z01 := bsz (show w.heap.size < w1.heap.size by omega)
    have HA := Lib.hid hA
    clear c1 f1 hg1 hA
    go_wp2_with fail
    refine bodyPost_ret (v := .agg #[.string s1, .slice none 0 0]) (by simp only [results, Tryz.results135]; go_simp) rfl ⟨_, rfl, GT.leaf _ _ _ hs1 (by decide), ?_, ?_⟩
    · exact ((HC1.out.more (by omega) (by omega)).sc hlt _).sc hlt _
    · exact gr_sc (gr_sc HA.out (.inr (Nat.le_refl _)) _) (.inr (Nat.le_refl _)) _
  | succ f ih =>
    intro m d w h hm hd0 hd1 hf
    have hlt := h.lt
    have H := Lib.hid h
    have IH := Lib.hid ih
    have hne : w.heap.size ≠ g := by omega
    have hp1 : 4 * 2 ^ (f + 1 + 1) = 8 * 2 ^ (f + 1) := by rw [Nat.pow_succ]; omega
    have hp2 : 4 * 2 ^ (f + 1) = 8 * 2 ^ f := by rw [Nat.pow_succ]; omega
    have hp3 : 1 ≤ 2 ^ f := Nat.one_le_two_pow
    have hp4 : 2 ^ f ≤ 2 ^ 20 := Nat.pow_le_pow_right (by omega) (by omega)
    have hp5 : 2 ^ (f + 1) = 2 * 2 ^ f := by rw [Nat.pow_succ]; omega
    rw [hp1] at hm ⊢
    rw [hp2]
    clear h ih
    generalize 2 ^ (f + 1) = Q at *
    generalize 2 ^ f = P at *
    by_cases hd : d ≤ 1
    · go_enter Tryz.func135, Tryz.ntmps135
      go_wp2_with fail
      refine (of_lit g m 1 7 (w.heap.size + 1) _ _ _ (by rfl) (by simp) (H.out.al _) (by omega) (by decide) (by decide) (by intro v hv; simp at hv; rcases hv with rfl | rfl | rfl | rfl | rfl | rfl | rfl <;> exact ⟨_, rfl, by decide⟩)).mono ?_
      rintro e w1 ⟨_, rfl, ⟨s1, rfl, hs1⟩, hc1, hg1⟩
      have HC1 := Lib.hid hc1
      clear hc1
      have ⟨c1, f1⟩ := gcell hg1
      have hz1 := hg1.size
      (try simp at hz1)
      have hA := gr_trans (gr_al (gr_al (gr_refl w g) _) _) hg1
      have ⟨r0, r1, rf⟩ := row2_at ((hg1.block w.heap.size (by simp; omega) (by simp; omega)).trans ((hao _ _ _ (by simp)).trans (heap_alloc_new w _)))
      have z01 := bsz (show w.heap.size < w1.heap.size by omega)
      have HA := Lib.hid hA
      clear c1 f1 hg1 hA
      go_wp2_with fail
      refine bodyPost_ret (v := .agg #[.string s1, .slice none 0 0]) (by simp only [results, Tryz.results135]; go_simp) rfl ⟨_, rfl, (GT.leaf (W := 1) _ _ _ hs1 (by decide)).mono (by omega) (by omega) (SameOn.refl _ _) (fun _ h => h), ?_, ?_⟩
      · exact ((HC1.out.more (by omega) (by omega)).sc hlt _).sc hlt _
      · exact gr_sc (gr_sc HA.out (.inr (Nat.le_refl _)) _) (.inr (Nat.le_refl _)) _
    · go_enter Tryz.func135, Tryz.ntmps135
      go_wp2_with fail
      refine (one_any g m 3 _ (H.out.al _) (by omega) (by omega) (by omega)).mono ?_
      rintro e w1 ⟨_, rfl, ⟨b1, rfl⟩, hc1, hg1⟩
      have HC1 := Lib.hid hc1
      clear hc1
      have ⟨c1, f1⟩ := gcell hg1
      have hz1 := hg1.size
      (try simp at hz1)
      have hA1 := gr_trans (gr_al (gr_refl w g) _) hg1
      cases b1
      · go_wp2_with fail
        refine (one_any g (m + 2) 2 _ HC1.out (by omega) (by omega) (by omega)).mono ?_
        rintro e w2 ⟨_, rfl, ⟨b2, rfl⟩, hc2, hg2⟩
        have HC2 := Lib.hid hc2
        clear hc2
        have ⟨c2, f2⟩ := gcell hg2
        have hz2 := hg2.size
        (try simp at hz2)
        have hA2 := gr_trans hA1 hg2
        cases b2
        · go_wp2_with fail
          refine (IH.out (m + 4) (d - 1) _ HC2.out (by omega) (by omega) (by omega) (by omega)).mono ?_
          rintro e w3 ⟨_, rfl, ht3, hc3, hg3⟩
          have HC3 := Lib.hid hc3
          clear hc3
          have ⟨c3, f3⟩ := gcell hg3
          have hz3 := hg3.size
          (try simp at hz3)
          obtain ⟨s3, p3, k3, e3, rfl, -⟩ := ht3.form
          have HT3 := Lib.hid ht3
          have hA3 := gr_trans hA2 hg3
          clear ht3
          go_wp2_with fail
          refine (IH.out (m + 4 + (4 * Q - 4)) (d - 1) _ HC3.out (by omega) (by omega) (by omega) (by omega)).mono ?_
          rintro e w4 ⟨_, rfl, ht4, hc4, hg4⟩
          have HC4 := Lib.hid hc4
          clear hc4
          have ⟨c4, f4⟩ := gcell hg4
          have hz4 := hg4.size
          (try simp at hz4)
          obtain ⟨s4, p4, k4, e4, rfl, -⟩ := ht4.form
          have hA4 := gr_trans hA3 hg4
          have ⟨r0, r1, rf⟩ := row2_at (((gr_trans (gr_trans (gr_trans hg1 hg2) hg3) hg4).block w.heap.size (by simp) (by simpa using hne)).trans (heap_alloc_new w _))
          have HT3' := Lib.hid (HT3.out.mono (Nat.le_refl _) (Nat.le_refl _) (sameOn_grown hg4 (fun b hb => by have := hb.1; omega)) (fun _ h => h))
          have HT4 := Lib.hid ht4
          have z01 := bsz (show w.heap.size < w4.heap.size by omega)
          have HA := Lib.hid hA4
          have HZ := Lib.hid (show w.heap.size < w2.heap.size ∧ w2.heap.size ≤ w3.heap.size ∧ w3.heap.size ≤ w4.heap.size by omega)
          clear hA1 hA2 hA3 hA4 hg1 hg2 hg3 hg4 c1 f1 c2 f2 c3 f3 c4 f4 HT3 ht4
          go_wp2_with fail
          have hN : (⟨#[103]⟩ : ByteArray).size = 1 := rfl
          refine bodyPost_ret (v := .agg #[.string ⟨#[103]⟩, .slice (some ⟨w4.heap.size, 0, none⟩) 2 2]) (by simp only [results, Tryz.results135]; go_simp) rfl ⟨_, rfl, GT.two (S := NewB w2 w3) (T := NewB w3 w4) (HT3'.out.mono (Nat.le_refl _) (Nat.le_refl _) (((SameOn.refl _ _).sc ?_ _).sc ?_ _) (fun _ h => h)) (HT4.out.mono (Nat.le_refl _) (Nat.le_refl _) (((SameOn.refl _ _).sc ?_ _).sc ?_ _) (fun _ h => h)) (by simp) (by decide) ?_ ?_ ?_ ?_ ?_ ?_ (by omega), ?_, ?_⟩
          all_goals first
            | exact ((((HC4.out.more (by omega) (by omega)).sc hlt _).sc hlt _).al _)
            | exact gr_al (gr_sc (gr_sc HA.out (.inr (Nat.le_refl _)) _) (.inr (Nat.le_refl _)) _) _
            | (intro b hb e; have := HZ.out; unfold NewB at hb; simp at e; omega)
            | (intro b hb; have := HZ.out; unfold NewB at hb ⊢; simp; omega)
            | (have := HZ.out; unfold NewB; simp; omega)
            | (intro b hb; exact hb.2)
            | (intro b hb; have := hb.2; have := HZ.out; omega)
            | (intro b hb hb'; have := hb.2; have := hb'.1; omega)
        · go_wp2_with fail
          refine (IH.out (m + 4) (d - 1) _ HC2.out (by omega) (by omega) (by omega) (by omega)).mono ?_
          rintro e w3 ⟨_, rfl, ht3, hc3, hg3⟩
          have HC3 := Lib.hid hc3
          clear hc3
          have ⟨c3, f3⟩ := gcell hg3
          have hz3 := hg3.size
          (try simp at hz3)
          obtain ⟨s3, p3, k3, e3, rfl, -⟩ := ht3.form
          have hA3 := gr_trans hA2 hg3
          have ⟨r0, r1, rf⟩ := row2_at (((gr_trans (gr_trans hg1 hg2) hg3).block w.heap.size (by simp) (by simpa using hne)).trans (heap_alloc_new w _))
          have HT4 := Lib.hid ht3
          have z01 := bsz (show w.heap.size < w3.heap.size by omega)
          have HA := Lib.hid hA3
          have HZ := Lib.hid (show w.heap.size < w2.heap.size ∧ w2.heap.size ≤ w3.heap.size by omega)
          clear hA1 hA2 hA3 hg1 hg2 hg3 c1 f1 c2 f2 c3 f3 ht3
          go_wp2_with fail
          have hN : (⟨#[102]⟩ : ByteArray).size = 1 := rfl
          refine bodyPost_ret (v := .agg #[.string ⟨#[102]⟩, .slice (some ⟨w3.heap.size, 0, none⟩) 1 1]) (by simp only [results, Tryz.results135]; go_simp) rfl ⟨_, rfl, GT.one (S := NewB w2 w3) (HT4.out.mono (Nat.le_refl _) (Nat.le_refl _) (((SameOn.refl _ _).sc ?_ _).sc ?_ _) (fun _ h => h)) (by simp) (by decide) ?_ ?_ ?_ (by omega), ?_, ?_⟩
          all_goals first
            | exact ((((HC3.out.more (by omega) (by omega)).sc hlt _).sc hlt _).al _)
            | exact gr_al (gr_sc (gr_sc HA.out (.inr (Nat.le_refl _)) _) (.inr (Nat.le_refl _)) _) _
            | (intro b hb e; have := HZ.out; unfold NewB at hb; simp at e; omega)
            | (intro b hb; have := HZ.out; unfold NewB at hb ⊢; simp; omega)
            | (have := HZ.out; unfold NewB; simp; omega)
            | (intro b hb; exact hb.2)
      · go_wp2_with fail
        refine (of_lit g (m + 2) 1 7 w1.heap.size _ _ _ (by rfl) (by simp) HC1.out (by omega) (by decide) (by decide) (by intro v hv; simp at hv; rcases hv with rfl | rfl | rfl | rfl | rfl | rfl | rfl <;> exact ⟨_, rfl, by decide⟩)).mono ?_
        rintro e w2 ⟨_, rfl, ⟨s1, rfl, hs1⟩, hc2, hg2⟩
        have HC2 := Lib.hid hc2
        clear hc2
        have ⟨c2, f2⟩ := gcell hg2
        have hz2 := hg2.size
        (try simp at hz2)
        have hA2 := gr_trans (gr_al hA1 _) hg2
        have ⟨r0, r1, rf⟩ := row2_at (((gr_trans (gr_al hg1 _) hg2).block w.heap.size (by simp) (by simpa using hne)).trans (heap_alloc_new w _))
        have z01 := bsz (show w.heap.size < w2.heap.size by omega)
        have HA := Lib.hid hA2
        clear c1 f1 c2 f2 hg1 hg2 hA1 hA2
        go_wp2_with fail
        refine bodyPost_ret (v := .agg #[.string s1, .slice none 0 0]) (by simp only [results, Tryz.results135]; go_simp) rfl ⟨_, rfl, (GT.leaf (W := 1) _ _ _ hs1 (by decide)).mono (by omega) (by omega) (SameOn.refl _ _) (fun _ h => h), ?_, ?_⟩
        · exact ((HC2.out.more (by omega) (by omega)).sc hlt _).sc hlt _
        · exact gr_sc (gr_sc HA.out (.inr (Nat.le_refl _)) _) (.inr (Nat.le_refl _)) _
end Go.Proofs.YtmbkjdkjemlfkaaGreatDoor
