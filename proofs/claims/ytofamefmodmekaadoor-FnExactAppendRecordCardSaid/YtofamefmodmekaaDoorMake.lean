/- A region that draws its order and holds one allocation next to calls: the walk in the text's order serves every order. No conditions; no program is named. -/
import Derived.Test.YtofamefmodmekaaDoorFlow
namespace Go.Proofs.YtofamefmodmekaaDoor
open Go.RowKit
/- A region with ONE operation (number k0) whose value hangs on the order (an allocation): the class knows the value; whatever stands behind k0 in the text must wait for it. -/
section
variable {P : Program} {ops : Array Oper} {md : Region.Mode} {D : Value → Array Bool → World → Prop} {k0 : Nat}
/-- What operation k0 comes to: some value u, in a world of u's class. -/
def makesUpon (E : Value → World → Prop) : Result Next → Prop
  | .ok (.value u) w' => E u w'
  | _ => False
attribute [go_sem] makesUpon
def flowMake (P : Program) (md : Region.Mode) (ops : Array Oper) (D : Value → Array Bool → World → Prop) (k0 : Nat) (Q : Value → Act → Prop) : Nat → List Oper → Act → Prop
  | _, [], _ => False
  | k, o :: rest, a =>
    (k = k0 ∧ o.guard = none ∧ (∀ (a : Act) x L w, L.getD k0 true = false → D x L w → makesUpon (fun u w' => D u (L.setIfInBounds k0 true) w') ((execOp a.eval o).run P w)) ∧ ∀ u, flow (Goes P md ops (D u)) (Q u) (k + 1) rest (a.put o.dst u)) ∨
    (k < k0 ∧ ∃ v, (∀ x, Goes P md ops (D x) o k v a) ∧ flowMake P md ops D k0 Q (k + 1) rest (a.put o.dst v))
def Gm (P : Program) (md : Region.Mode) (ops : Array Oper) (D : Value → Array Bool → World → Prop) (k0 : Nat) (u : Value) (base : Nat → Value) (o : Oper) (i : Nat) (v : Value) (a : Act) : Prop :=
  (i < k0 → v = base i) ∧ (i = k0 → v = u) ∧ (i ≠ k0 → Goes P md ops (D u) o i v a)
theorem Gm.byEval {u : Value} {base : Nat → Value} : ByEval ops (Gm P md ops D k0 u base) := by
  intro o i v a a' ⟨h1, h2, h3⟩ he hw
  exact ⟨h1, h2, fun h => Goes.byEval _ _ _ _ _ (h3 h) he hw⟩
theorem flow_of_make {Q : Value → Act → Prop} : ∀ (l : List Oper) (k : Nat) (a : Act), flowMake P md ops D k0 Q k l a → ∃ base : Nat → Value, ∀ u, flow (Gm P md ops D k0 u base) (Q u) k l a
  | [], _, _, h => h.elim
  | o :: rest, k, a, h => by
    rcases h with ⟨rfl, _, _, h⟩ | ⟨hk, v, h1, h2⟩
    · refine ⟨fun _ => undef, fun u => ⟨u, ⟨fun h => absurd h (by omega), fun _ => rfl, fun h => absurd rfl h⟩, flow_imp rest (k + 1) _ ?_ (h u)⟩⟩
      intro o i v a hi hg
      exact ⟨fun h => absurd h (by omega), fun h => absurd h (by omega), fun _ => hg⟩
    · obtain ⟨base, hb⟩ := flow_of_make rest (k + 1) _ h2
      refine ⟨fun i => if i = k then v else base i, fun u => ⟨v, ⟨fun _ => by simp, fun h => absurd h (by omega), fun _ => h1 u⟩, flow_imp rest (k + 1) _ ?_ (hb u)⟩⟩
      intro o i v a hi ⟨g1, g2, g3⟩
      exact ⟨fun h => by show v = (if i = k then _ else base i); rw [if_neg (by omega)]; exact g1 h, g2, g3⟩
theorem make_at {Q : Value → Act → Prop} : ∀ (l : List Oper) (k : Nat) (a : Act), k ≤ k0 → flowMake P md ops D k0 Q k l a → ∃ o, l[k0 - k]? = some o ∧ o.guard = none ∧ ∀ (a : Act) x L w, L.getD k0 true = false → D x L w → makesUpon (fun u w' => D u (L.setIfInBounds k0 true) w') ((execOp a.eval o).run P w)
  | [], _, _, _, h => h.elim
  | o :: rest, k, a, hk, h => by
    rcases h with ⟨rfl, h1, h2, _⟩ | ⟨hk, v, _, h2⟩
    · exact ⟨o, by simp, h1, h2⟩
    · obtain ⟨o', h3, h4⟩ := make_at rest (k + 1) _ hk h2
      refine ⟨o', ?_, h4⟩
      have : k0 - k = (k0 - (k + 1)) + 1 := by omega
      rw [this]; simpa using h3
theorem flowAny_made {u : Value} {base : Nat → Value} {Q : Array Bool → Act → Prop} : ∀ (fuel : Nat) (listed : Array Bool) (a : Act), listed.getD k0 true = true → flowAny md ops (Gm P md ops D k0 u base) Q fuel listed a → flowAny md ops (Goes P md ops (D u)) Q fuel listed a
  | 0, _, _, _, h => h
  | fuel + 1, listed, a, h0, h => by
    refine ⟨h.1, fun i hi => ?_⟩
    obtain ⟨o, v, ho, hg, hK⟩ := h.2 i hi
    have hun := (mem_ready.1 hi).1
    have hne : i ≠ k0 := fun e => by rw [e, h0] at hun; cases hun
    refine ⟨o, v, ho, hg.2.2 hne, flowAny_made fuel _ _ ?_ hK⟩
    rw [getD_set_ne true hne]; exact h0
theorem wpAny_of_make {base : Nat → Value} {Q : Value → Array Bool → Act → Prop} {Q' : Exit → Act → World → Prop} (hQ : ∀ u L a w, D u L w → Q u L a → Q' .normal a w) (hQ0 : ∀ u L a, Q u L a → L.getD k0 true = true)
    (hD : ∀ x y L w, L.getD k0 true = false → D x L w → D y L w) (hlate : ∀ j o, ops[j]? = some o → k0 < j → ∃ e ∈ o.after, Region.binds md e = true ∧ e.on = k0)
    {oa : Oper} (hoa : ops[k0]? = some oa) (hga : oa.guard = none) (hma : ∀ (a : Act) x L w, L.getD k0 true = false → D x L w → makesUpon (fun u w' => D u (L.setIfInBounds k0 true) w') ((execOp a.eval oa).run P w)) (x : Value) :
    ∀ (fuel : Nat) (listed : Array Bool) (a : Act) (w : World), listed.getD k0 true = false → D x listed w → (∀ u, flowAny md ops (Gm P md ops D k0 u base) (Q u) fuel listed a) → wpAny P md ops Q' fuel listed a w
  | 0, listed, a, w, h0, hw, h => by
    have := hQ0 _ _ _ (h x).2
    rw [h0] at this; cases this
  | fuel + 1, listed, a, w, h0, hw, h => by
    refine ⟨fun hr => ?_, fun i hi => ?_⟩
    · have := hQ0 _ _ _ ((h x).1 hr)
      rw [h0] at this; cases this
    by_cases hik : i = k0
    · subst hik
      unfold wpOp
      simp only [hoa]
      rw [if_pos (by simp [Region.wanted, hga])]
      refine .inl ?_
      have h3 := hma a x listed w h0 hw
      unfold Oper.wp
      generalize (execOp a.eval oa).run P w = r at *
      cases r with
      | ok n w' =>
        cases n <;> simp only [makesUpon] at h3 <;> simp only [Oper.upon]
        case value u =>
          obtain ⟨o, v, ho, hg, hK⟩ := (h u).2 i hi
          obtain rfl : oa = o := Option.some.inj (hoa.symm.trans ho)
          obtain rfl : v = u := hg.2.1 rfl
          have hlt : i < listed.size := by
            rcases Nat.lt_or_ge i listed.size with h' | h'
            · exact h'
            · simp [Array.getElem?_eq_none h'] at h0
          exact wpAny_of_flow (fun L a w => hQ v L a w) fuel _ _ _ h3 (flowAny_made fuel _ _ (by simp [hlt]) hK)
      | halt x w' => simp only [makesUpon] at h3
    · obtain ⟨hun, oj, hoj, hall⟩ := mem_ready.1 hi
      have hlt : i < k0 := by
        rcases Nat.lt_or_ge i k0 with h' | h'
        · exact h'
        · obtain ⟨e, he, hb, hon⟩ := hlate i oj hoj (by omega)
          have h1 := hall e he hb
          rw [hon] at h1
          rcases Nat.lt_or_ge k0 listed.size with h' | h'
          · simp [h'] at h0 h1; rw [h0] at h1; cases h1
          · simp [Array.getElem?_eq_none h'] at h1
      obtain ⟨o, v, ho, hg, _⟩ := (h x).2 i hi
      refine wpOp_of_flowOp (C := D x) (K := fun a' => ∀ u, flowAny md ops (Gm P md ops D k0 u base) (Q u) fuel (listed.setIfInBounds i true) a') hi hw
        (fun a' w' hw' hK => wpAny_of_make hQ hQ0 hD hlate hoa hga hma x fuel _ a' w' (by rw [getD_set_ne true hik]; exact h0) hw' hK) ⟨o, v, ho, hg.2.2 hik, fun u => ?_⟩
      obtain ⟨o', v', ho', hg', hK'⟩ := (h u).2 i hi
      obtain rfl : o = o' := Option.some.inj (ho.symm.trans ho')
      obtain rfl : v = v' := (hg.1 hlt).trans (hg'.1 hlt).symm
      exact hK'
/-- Everything behind k0 in the text has an edge on it. -/
def lateB (l : List Oper) (k0 : Nat) : Bool := (l.drop (k0 + 1)).all fun o => o.after.any fun e => Region.binds .any e && e.on == k0
theorem wp_region_make {id : Nat} {Q : Exit → Act → World → Prop} {a : Act} {w : World} {l : List Oper} (k0 : Nat) (hm : P.follows .mixedOrders = true) (hB : Region.lexB .any l.toArray = true) (hL : lateB l k0 = true) (hk : k0 < l.length)
    (hD : ∀ x y L w, L.getD k0 true = false → D x L w → D y L w)
    (hC : D undef (Array.replicate l.length false) { w with drawn := w.drawn + 1 })
    (h : flowMake P .any l.toArray D k0 (fun u a' => ∀ L w', (∀ i, i < l.length → L.getD i false = true) → D u L w' → Q .normal a' w') 0 l a) : (Code.region id l.toArray true).wp P Q a w := by
  simp only [Region.lexB, Bool.and_eq_true] at hB
  obtain ⟨base, hb⟩ := flow_of_make l 0 a h
  obtain ⟨oa, h1, h2, h3⟩ := make_at l 0 a (Nat.zero_le _) h
  have hlate : ∀ (j : Nat) (o : Oper), l.toArray[j]? = some o → k0 < j → ∃ e ∈ o.after, Region.binds .any e = true ∧ e.on = k0 := by
    intro j o ho hj
    have hm : o ∈ l.drop (k0 + 1) := by
      refine List.mem_of_getElem? (i := j - (k0 + 1)) ?_
      rw [List.getElem?_drop, show k0 + 1 + (j - (k0 + 1)) = j by omega]
      simpa using ho
    have h4 := List.all_eq_true.1 hL o hm
    obtain ⟨e, he, hb⟩ := Array.any_eq_true'.1 h4
    rw [Bool.and_eq_true, beq_iff_eq] at hb
    exact ⟨e, he, hb.1, hb.2⟩
  refine wp_region_any hm (wpAny_of_make (D := D) (k0 := k0) (base := base) (Q := fun u L a => (∀ i, i < l.toArray.size → L.getD i false = true) ∧ ∀ L w', (∀ i, i < l.length → L.getD i false = true) → D u L w' → Q .normal a w')
    (fun u L a w' hw' h => h.2 L w' (by simpa using h.1) hw') ?_ hD hlate (by simpa using h1) h2 h3 undef _ _ _ _ ?_ hC fun u => ?_)
  · intro u L a hq
    have := hq.1 k0 (by simpa using hk)
    rcases Nat.lt_or_ge k0 L.size with h' | h'
    · simp [h'] at this ⊢; exact this
    · simp [Array.getElem?_eq_none h'] at this
  · simp [hk]
  · have := flowAny_lex (G := Gm P .any l.toArray D k0 u base) (md := .any) Gm.byEval hB.1 l 0 (Array.replicate l.length false) a (by simp) (by simp) (by simp) (fun i hi => absurd hi (by omega)) (by simpa using hB.2) (hb u)
    simpa using this
theorem make_step {Q : Value → Act → Prop} {k : Nat} {o : Oper} {rest : List Oper} {a : Act} (hk : k < k0) (hg : o.guard = none) (v : Value)
    (h1 : ∀ x L w, L.getD k true = false → Behind md o L → D x L w → goesUpon P (D x (L.setIfInBounds k true)) v ((execOp a.eval o).run P w)) (h2 : flowMake P md ops D k0 Q (k + 1) rest (a.put o.dst v)) : flowMake P md ops D k0 Q k (o :: rest) a :=
  .inr ⟨hk, v, fun x => .inl ⟨by simp [Region.wanted, hg], h1 x⟩, h2⟩
theorem make_here {Q : Value → Act → Prop} {o : Oper} {rest : List Oper} {a : Act} (hg : o.guard = none)
    (h1 : ∀ (a : Act) x L w, L.getD k0 true = false → D x L w → makesUpon (fun u w' => D u (L.setIfInBounds k0 true) w') ((execOp a.eval o).run P w)) (h2 : ∀ u, flow (Goes P md ops (D u)) (Q u) (k0 + 1) rest (a.put o.dst u)) : flowMake P md ops D k0 Q k0 (o :: rest) a :=
  .inl ⟨rfl, hg, h1, h2⟩
end
/-- THE CLASS of a region with one allocation (number k0; its cells' number n) that one store (number ks) fills with 'vals': the class above, and what is known of the new block, whose pointer is u. -/
structure InM (B : Nat) (W : World) (cells : List (Addr × Value)) (k0 ks n : Nat) (vals : List Value) (u : Value) (L : Array Bool) (w' : World) : Prop where
  inf : InF B W cells [] [] L w'
  ord : L.getD ks true = true → L.getD k0 true = true
  made : L.getD k0 true = true → ∃ b, u = .pointer (some ⟨b, 0, none⟩) ∧ B ≤ b ∧ (∀ q ∈ cells, q.1.block ≠ b) ∧ (∀ j, j < n → ∃ x, w'.cell? ⟨b, j, none⟩ = some x) ∧ (∀ j, w'.frozen? ⟨b, j, none⟩ = false) ∧
    (L.getD ks true = true → ∀ j, j < n → w'.cell? ⟨b, j, none⟩ = vals[j]?)
section
variable {B : Nat} {W w' w1 : World} {cells : List (Addr × Value)} {k0 ks n : Nat} {vals : List Value} {u : Value} {L : Array Bool}
theorem getD_set_other {L : Array Bool} {k i : Nat} (h : k ≠ i) : (L.setIfInBounds k true).getD i true = L.getD i true := getD_set_ne true h
theorem InM.any (x y : Value) (h0 : L.getD k0 true = false) (h : InM B W cells k0 ks n vals x L w') : InM B W cells k0 ks n vals y L w' :=
  ⟨h.inf, h.ord, fun e => by rw [h0] at e; cases e⟩
theorem InM.start (h1 : ∀ p ∈ cells, W.cell? p.1 = some p.2) (L : Array Bool) (hL : ∀ i, L.getD i false = false) (hk : k0 < L.size) (hs : ks < L.size) :
    InM B W cells k0 ks n vals undef L { W with drawn := W.drawn + 1 } := by
  have e0 : L.getD k0 true = false := by have := hL k0; simp [hk] at this ⊢; exact this
  have es : L.getD ks true = false := by have := hL ks; simp [hs] at this ⊢; exact this
  exact ⟨InF.start h1 (fun _ h => by cases h) (fun _ h => by cases h) (fun _ h => by cases h) L hL, (fun e => by rw [es] at e; cases e), (fun e => by rw [e0] at e; cases e)⟩
theorem InM.skip (h : InM B W cells k0 ks n vals u L w') (k : Nat) (hk : k ≠ k0) (hs : k ≠ ks) : InM B W cells k0 ks n vals u (L.setIfInBounds k true) w' :=
  ⟨h.inf.skip k rfl, (fun e => by rw [getD_set_other hk]; rw [getD_set_other hs] at e; exact h.ord e), (fun e => by
    rw [getD_set_other hk] at e
    rw [getD_set_other hs]; exact h.made e)⟩
theorem InM.next (h : InM B W cells k0 ks n vals u L w') (hB : B ≤ W.heap.size) (hb : Below w'.heap.size w' w1) (hn : 0 < n) : InM B W cells k0 ks n vals u L w1 :=
  ⟨h.inf.next hB hb, h.ord, fun e => by
    obtain ⟨b, rfl, h1, h2, h3, h4, h5⟩ := h.made e
    obtain ⟨x0, hx0⟩ := h3 0 hn
    have hlt : b < w'.heap.size := World.block_lt_of_cell? w' _ hx0
    refine ⟨b, rfl, h1, h2, fun j hj => ?_, fun j => (hb.frozen (p := ⟨b, j, none⟩) hlt).trans (h4 j), fun e j hj => (hb.cell (p := ⟨b, j, none⟩) hlt).trans (h5 e j hj)⟩
    obtain ⟨x, hx⟩ := h3 j hj
    exact ⟨x, (hb.cell (p := ⟨b, j, none⟩) hlt).trans hx⟩⟩
theorem InM.alloc (h : InM B W cells k0 ks n vals u L w') (hB : B ≤ W.heap.size) (h0 : L.getD k0 true = false) (hne : k0 ≠ ks) (cs : Array Value) (t : TypeId) (hcs : cs.size = n) (y : Value) (hy : y = .pointer (some ⟨w'.heap.size, 0, none⟩)) :
    InM B W cells k0 ks n vals y (L.setIfInBounds k0 true) (w'.alloc (.cells cs t)) := by
  have hks : L.getD ks true = false := by cases e : L.getD ks true with
    | false => rfl
    | true => have := h.ord e; rw [h0] at this; cases this
  have hf := (h.inf.next hB ((Below.refl w'.heap.size w').alloc (Nat.le_refl _) (.cells cs t))).skip k0 rfl
  refine ⟨hf, fun e => ?_, fun _ => ⟨w'.heap.size, hy, Nat.le_trans hB h.inf.below.size, fun q hq e => ?_, fun j hj => ?_, fun j => ?_, fun e => ?_⟩⟩
  · rw [getD_set_other hne, hks] at e; cases e
  · have := World.block_lt_of_cell? w' _ (h.inf.cell q hq)
    omega
  · refine ⟨cs[j]'(by omega), ?_⟩
    rw [World.cell?_alloc_new]
    exact Array.getElem?_eq_getElem _
  · simp
  · rw [getD_set_other hne, hks] at e; cases e
end
theorem getD_one {L : Array Bool} {i : Nat} (h : L.getD i false = true) : L.getD i true = true := by
  rcases Nat.lt_or_ge i L.size with h' | h'
  · simp [h'] at h ⊢; exact h
  · simp [Array.getElem?_eq_none h'] at h
theorem class_of3 (D : Value → Array Bool → World → Prop) : ∃ C : Value → Array Bool → World → Prop, ∀ u L w, C u L w ↔ D u L w := ⟨D, fun _ _ _ => Iff.rfl⟩
section
variable {B : Nat} {W w' w1 : World} {cells : List (Addr × Value)} {k0 ks n : Nat} {vals : List Value} {L : Array Bool} {b : Nat}
/-- A store into the new block, by the operation ks that is not yet behind. -/
theorem InM.put (h : InM B W cells k0 ks n vals (.pointer (some ⟨b, 0, none⟩)) L w') (h0 : L.getD k0 true = true) (hs : L.getD ks true = false) (j : Nat) (hj : j < n) (x : Value) :
    InM B W cells k0 ks n vals (.pointer (some ⟨b, 0, none⟩)) L (w'.setCell ⟨b, j, none⟩ x) := by
  obtain ⟨b', hb', h1, h2, h3, h4, h5⟩ := h.made h0
  obtain rfl : b = b' := by simpa using hb'
  refine ⟨⟨h.inf.below.setCell h1 x, fun q hq => (World.cell?_setCell_other w' _ _ x (fun e => h2 q hq (by rw [← e]))).trans (h.inf.cell q hq), (fun _ h => by cases h), (fun _ h => by cases h), (fun _ h => by cases h), (fun _ h => by cases h)⟩, h.ord, fun _ => ⟨b, rfl, h1, h2, fun i hi => ?_, fun i => (World.frozen?_setCell _ _ _ _).trans (h4 i), fun e => by rw [hs] at e; cases e⟩⟩
  by_cases e : i = j
  · subst e
    obtain ⟨y, hy⟩ := h3 i hi
    exact ⟨x, World.cell?_setCell_same' w' _ x (by rw [hy]; rfl)⟩
  · obtain ⟨y, hy⟩ := h3 i hi
    exact ⟨y, (World.cell?_setCell_other w' _ _ x (fun e' => e (by injection e' with _ e'; exact e'.symm))).trans hy⟩
theorem InM.mark (h : InM B W cells k0 ks n vals (.pointer (some ⟨b, 0, none⟩)) L w') (h0 : L.getD k0 true = true) (hne : k0 ≠ ks) (hv : ∀ j, j < n → w'.cell? ⟨b, j, none⟩ = vals[j]?) :
    InM B W cells k0 ks n vals (.pointer (some ⟨b, 0, none⟩)) (L.setIfInBounds ks true) w' := by
  obtain ⟨b', hb', h1, h2, h3, h4, h5⟩ := h.made h0
  obtain rfl : b = b' := by simpa using hb'
  exact ⟨h.inf.skip ks rfl, fun _ => by rw [getD_set_other (Ne.symm hne)]; exact h0, fun _ => ⟨b, rfl, h1, h2, h3, h4, fun _ => hv⟩⟩
end
end Go.Proofs.YtofamefmodmekaaDoor
