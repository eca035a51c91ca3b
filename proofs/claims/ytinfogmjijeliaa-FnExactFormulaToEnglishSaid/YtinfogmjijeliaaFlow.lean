/- A region that draws its order: one walk in the text's order serves every order, where each operation, whatever has been carried out before it, yields one value and keeps a class of worlds that may tell which stores have been made. No conditions; no program is named. -/
import Derived.Test.YtinfogmjijeliaaLib
namespace Go.Proofs.Ytinfogmjijeliaa
open Go.RowKit
/-- Every operation that must be behind o is. -/
def Behind (md : Region.Mode) (o : Oper) (L : Array Bool) : Prop := ∀ e ∈ o.after, Region.binds md e = true → L.getD e.on false = true
section
variable {P : Program} {ops : Array Oper} {md : Region.Mode} {C : Array Bool → World → Prop}
/-- What an operation's run must come to: the value v (a call's result, or nothing, v being 'undef'), in a world of the class D. -/
def goesUpon (P : Program) (D : World → Prop) (v : Value) : Result Next → Prop
  | .ok (.value u) w' => D w' ∧ u = v
  | .ok .skip w' => D w' ∧ v = undef
  | .ok (.enter f args) w' => Calls P f args w' (fun e w'' => e = .returned v ∧ D w'')
  | _ => False
attribute [go_sem] goesUpon
/-- Operation o, number i, in state a: one value, in every world of the class, whichever operations are behind it. -/
def Goes (P : Program) (md : Region.Mode) (ops : Array Oper) (C : Array Bool → World → Prop) (o : Oper) (i : Nat) (v : Value) (a : Act) : Prop :=
  (Region.wanted o (yielded ops a.tmps) = true ∧ ∀ L w, L.getD i true = false → Behind md o L → C L w → goesUpon P (C (L.setIfInBounds i true)) v ((execOp a.eval o).run P w)) ∨
  (Region.wanted o (yielded ops a.tmps) = false ∧ v = undef ∧ ∀ L w, L.getD i true = false → Behind md o L → C L w → C (L.setIfInBounds i true) w)
/-- What is said of an operation hangs on its operands alone. -/
def ByEval (ops : Array Oper) (G : Oper → Nat → Value → Act → Prop) : Prop :=
  ∀ (o : Oper) (i : Nat) (v : Value) (a a' : Act), G o i v a → execOp a'.eval o = execOp a.eval o → Region.wanted o (yielded ops a'.tmps) = Region.wanted o (yielded ops a.tmps) → G o i v a'
theorem Goes.byEval : ByEval ops (Goes P md ops C) := by
  intro o i v a a' hy he hw
  unfold Goes at *
  rw [he, hw]
  exact hy
variable {G : Oper → Nat → Value → Act → Prop}
def flowOp (ops : Array Oper) (G : Oper → Nat → Value → Act → Prop) (i : Nat) (K : Act → Prop) (a : Act) : Prop :=
  ∃ o v, ops[i]? = some o ∧ G o i v a ∧ K (a.put o.dst v)
theorem flowOp_mono {i : Nat} {a : Act} {K K' : Act → Prop} (h : ∀ a, K a → K' a) (hh : flowOp ops G i K a) : flowOp ops G i K' a :=
  let ⟨o, v, h1, h2, h3⟩ := hh
  ⟨o, v, h1, h2, h _ h3⟩
/-- Whatever order is picked from here on. -/
def flowAny (md : Region.Mode) (ops : Array Oper) (G : Oper → Nat → Value → Act → Prop) (Q : Array Bool → Act → Prop) : Nat → Array Bool → Act → Prop
  | 0, listed, a => Region.ready md ops listed = [] ∧ Q listed a
  | fuel + 1, listed, a =>
    (Region.ready md ops listed = [] → Q listed a) ∧
    ∀ i ∈ Region.ready md ops listed, flowOp ops G i (flowAny md ops G Q fuel (listed.setIfInBounds i true)) a
theorem wpOp_of_flowOp {i : Nat} {a : Act} {K : Act → Prop} {K' : Act → World → Prop} {Q' : Exit → Act → World → Prop} {w : World} {listed : Array Bool} (hi : i ∈ Region.ready md ops listed) (hC : C listed w)
    (h : ∀ a w', C (listed.setIfInBounds i true) w' → K a → K' a w') (hh : flowOp ops (Goes P md ops C) i K a) : wpOp P ops Q' i K' a w := by
  obtain ⟨hun, oj, hoj, hall⟩ := mem_ready.1 hi
  obtain ⟨o, v, ho, hy, hK⟩ := hh
  obtain rfl : oj = o := Option.some.inj (hoj.symm.trans ho)
  have hbe : Behind md oj listed := fun e he hb => by simpa using hall e he hb
  unfold wpOp
  simp only [ho]
  rcases hy with ⟨hw, hv⟩ | ⟨hw, rfl, hk⟩
  · rw [if_pos hw]
    refine .inl ?_
    have h3 := hv listed w hun hbe hC
    unfold Oper.wp
    generalize (execOp a.eval oj).run P w = r at *
    cases r with
    | ok n w' =>
      cases n <;> simp only [goesUpon] at h3 <;> simp only [Oper.upon]
      case value u => obtain ⟨e1, rfl⟩ := h3; exact h _ _ e1 hK
      case skip => obtain ⟨e1, rfl⟩ := h3; exact h _ _ e1 hK
      case enter f args => exact h3.mono fun e w'' ⟨he, hw''⟩ => by subst he; exact h _ _ hw'' hK
    | halt x w' => simp only [goesUpon] at h3
  · rw [if_neg (by simp [hw])]
    exact h _ _ (hk listed w hun hbe hC) hK
theorem wpAny_of_flow {Q : Array Bool → Act → Prop} {Q' : Exit → Act → World → Prop} (hQ : ∀ L a w, C L w → Q L a → Q' .normal a w) : ∀ (fuel : Nat) (listed : Array Bool) (a : Act) (w : World), C listed w →
    flowAny md ops (Goes P md ops C) Q fuel listed a → wpAny P md ops Q' fuel listed a w
  | 0, _, _, _, hw, h => ⟨h.1, hQ _ _ _ hw h.2⟩
  | fuel + 1, _, _, _, hw, h => ⟨fun h0 => hQ _ _ _ hw (h.1 h0), fun i hi => wpOp_of_flowOp hi hw (fun a' w' hw' => wpAny_of_flow hQ fuel _ a' w' hw') (h.2 i hi)⟩
theorem flowOp_put {i j : Nat} {oi oj : Oper} {v : Value} (hG : ByEval ops G) (hj : ops[j]? = some oj) (hap : oi.apart ops oj = true)
    (hsi : ∀ cs b, oi.op ≠ .select cs b) (hsj : ∀ cs b, oj.op ≠ .select cs b) {K : Act → Prop} {a : Act}
    (hy : G oi i v a) (h : flowOp ops G j K (a.put oi.dst v)) :
    flowOp ops G j (fun a' => G oi i v a' ∧ K (a'.put oi.dst v)) a := by
  obtain ⟨h1, h2, h3⟩ := Oper.apart_spec hap
  obtain ⟨o, u, ho, hu, hK⟩ := h
  obtain rfl : oj = o := Option.some.inj (hj.symm.trans ho)
  exact ⟨oj, u, hj, hG _ _ _ _ _ hu (execOp_put oj hsj a oi.dst v h1).symm (wanted_put oj a oi.dst v h1).symm, hG _ _ _ _ _ hy (execOp_put oi hsi a oj.dst u h3) (wanted_put oi a oj.dst u h3),
    by rw [← Act.put_comm a v u h2]; exact hK⟩
theorem flowAny_first (hG : ByEval ops G) {Q : Array Bool → Act → Prop} {i : Nat} {oi : Oper} {v : Value} (hi : ops[i]? = some oi) (hsel : ∀ (j : Nat) (o : Oper) cs b, ops[j]? = some o → o.op ≠ .select cs b) :
    ∀ (fuel : Nat) (listed : Array Bool) (a : Act),
      (∀ j oj, ops[j]? = some oj → j ≠ i → listed.getD j true = false → (∀ e ∈ oj.after, Region.binds md e = true → e.on ≠ i) → oi.apart ops oj = true) →
      i ∈ Region.ready md ops listed → G oi i v a →
      flowAny md ops G Q fuel (listed.setIfInBounds i true) (a.put oi.dst v) → flowAny md ops G Q (fuel + 1) listed a := by
  intro fuel
  induction fuel with
  | zero =>
    intro listed a _ hr hy H
    refine ⟨fun h => (by rw [h] at hr; cases hr), fun j hj => ?_⟩
    by_cases hji : j = i
    · subst hji; exact ⟨oi, v, hi, hy, H⟩
    · have := ready_mono hj hji
      rw [H.1] at this
      cases this
  | succ fuel ih =>
    intro listed a hfree hr hy H
    refine ⟨fun h => (by rw [h] at hr; cases hr), fun j hj => ?_⟩
    by_cases hji : j = i
    · subst hji; exact ⟨oi, v, hi, hy, H⟩
    · have h1 := H.2 j (ready_mono hj hji)
      obtain ⟨hjun, oj, hoj, hall⟩ := mem_ready.1 hj
      have hnot : ∀ e ∈ oj.after, Region.binds md e = true → e.on ≠ i := fun e he hb heq => by
        have h1 := hall e he hb
        have h0 := (mem_ready.1 hr).1
        rw [heq] at h1
        rcases Nat.lt_or_ge i listed.size with h' | h'
        · simp [h'] at h0 h1; rw [h0] at h1; cases h1
        · simp [Array.getElem?_eq_none h'] at h1
      have h2 := flowOp_put hG hoj (hfree j oj hoj hji hjun hnot) (fun cs b => hsel i oi cs b hi) (fun cs b => hsel j oj cs b hoj) hy h1
      have hfree' : ∀ k ok, ops[k]? = some ok → k ≠ i → (listed.setIfInBounds j true).getD k true = false →
          (∀ e ∈ ok.after, Region.binds md e = true → e.on ≠ i) → oi.apart ops ok = true := fun k ok hk hki hun hno => by
        refine hfree k ok hk hki ?_ hno
        by_cases hjk : j = k
        · subst hjk; exact hjun
        · rw [getD_set_ne true hjk] at hun; exact hun
      refine flowOp_mono (fun a' h3 => ih (listed.setIfInBounds j true) a' hfree' (ready_mono hr (Ne.symm hji)) h3.1 ?_) h2
      rw [Array.setIfInBounds_comm _ _ hji]
      exact h3.2
/-- The walk in the text's order. -/
def flow (G : Oper → Nat → Value → Act → Prop) (Q : Act → Prop) : Nat → List Oper → Act → Prop
  | _, [], a => Q a
  | k, o :: rest, a => ∃ v, G o k v a ∧ flow G Q (k + 1) rest (a.put o.dst v)
theorem flow_imp {G' : Oper → Nat → Value → Act → Prop} {Q : Act → Prop} : ∀ (l : List Oper) (k : Nat) (a : Act), (∀ o i v a, k ≤ i → G o i v a → G' o i v a) → flow G Q k l a → flow G' Q k l a
  | [], _, _, _, h => h
  | _ :: rest, k, _, hi, ⟨v, h1, h2⟩ => ⟨v, hi _ _ _ _ (Nat.le_refl _) h1, flow_imp rest (k + 1) _ (fun o i v a hk => hi o i v a (by omega)) h2⟩
theorem flowAny_lex (hG : ByEval ops G) {Q : Act → Prop} (hs : Region.noSelect ops = true) : ∀ (l : List Oper) (k : Nat) (listed : Array Bool) (a : Act), (∀ j, l[j]? = ops[k + j]?) → listed.size = ops.size → k + l.length = ops.size → (∀ i, i < k → listed.getD i false = true) →
    Region.lexFrom md ops l.length k listed = true → flow G Q k l a → flowAny md ops G (fun L a => (∀ i, i < ops.size → L.getD i false = true) ∧ Q a) l.length listed a
  | [], k, _, _, _, _, hk, hall, hB, h => ⟨by simpa [Region.lexFrom] using hB, fun i hi => hall i (by simp at hk; omega), h⟩
  | o :: l, k, listed, a, hl, hz, hk, hall, hB, h => by
    have h0 : ops[k]? = some o := by simpa using (hl 0).symm
    simp only [List.length_cons, Region.lexFrom, Bool.and_eq_true] at hB
    obtain ⟨⟨hr, hf⟩, hB'⟩ := hB
    obtain ⟨v, hy, hK⟩ := h
    have hlt : k < listed.size := by simp only [List.length_cons] at hk; omega
    exact flowAny_first hG h0 (Region.noSelect_spec hs) l.length listed a (Region.free_spec h0 hf) (by simpa using hr) hy
      (flowAny_lex hG hs l (k + 1) _ _ (fun j => by have := hl (j + 1); simpa [Nat.add_assoc, Nat.add_comm 1 j] using this) (by simpa using hz) (by simp only [List.length_cons] at hk; omega)
        (fun i hi => by
          by_cases hik : i = k
          · subst hik; simp [hlt]
          · rw [getD_set_ne false (Ne.symm hik)]; exact hall i (by omega)) hB' hK)
theorem getD_replicate_none (m j : Nat) : (Array.replicate m false).getD j false = false := by
  rcases Nat.lt_or_ge j m with h | h
  · simp [h]
  · simp [h]
theorem wp_region_flow {id : Nat} {Q : Exit → Act → World → Prop} {a : Act} {w : World} {l : List Oper} (hm : P.follows .mixedOrders = true) (hB : Region.lexB .any l.toArray = true)
    (hC : ∀ L : Array Bool, (∀ i, L.getD i false = false) → C L { w with drawn := w.drawn + 1 })
    (h : flow (Goes P .any l.toArray C) (fun a' => ∀ L w', (∀ i, i < l.length → L.getD i false = true) → C L w' → Q .normal a' w') 0 l a) : (Code.region id l.toArray true).wp P Q a w := by
  simp only [Region.lexB, Bool.and_eq_true] at hB
  refine wp_region_any hm (wpAny_of_flow (Q := fun L a => (∀ i, i < l.toArray.size → L.getD i false = true) ∧ ∀ L w', (∀ i, i < l.length → L.getD i false = true) → C L w' → Q .normal a w')
    (fun L a w' hw' h => h.2 L w' (by simpa using h.1) hw') _ _ _ _ (hC _ (fun i => getD_replicate_none _ _)) ?_)
  have := flowAny_lex (G := Goes P .any l.toArray C) (md := .any) Goes.byEval hB.1 l 0 (Array.replicate l.length false) a (by simp) (by simp) (by simp) (fun i hi => absurd hi (by omega)) (by simpa using hB.2) h
  simpa using this
theorem flow_nil {Q : Act → Prop} {k : Nat} {a : Act} (h : Q a) : flow G Q k [] a := h
theorem flow_yes {Q : Act → Prop} {k : Nat} {o : Oper} {rest : List Oper} {a : Act} (hw : Region.wanted o (yielded ops a.tmps) = true) (v : Value)
    (h1 : ∀ L w, L.getD k true = false → Behind md o L → C L w → goesUpon P (C (L.setIfInBounds k true)) v ((execOp a.eval o).run P w)) (h2 : flow (Goes P md ops C) Q (k + 1) rest (a.put o.dst v)) : flow (Goes P md ops C) Q k (o :: rest) a :=
  ⟨v, .inl ⟨hw, h1⟩, h2⟩
theorem flow_free {Q : Act → Prop} {k : Nat} {o : Oper} {rest : List Oper} {a : Act} (hg : o.guard = none) (v : Value)
    (h1 : ∀ L w, L.getD k true = false → Behind md o L → C L w → goesUpon P (C (L.setIfInBounds k true)) v ((execOp a.eval o).run P w)) (h2 : flow (Goes P md ops C) Q (k + 1) rest (a.put o.dst v)) : flow (Goes P md ops C) Q k (o :: rest) a :=
  flow_yes (by simp [Region.wanted, hg]) v h1 h2
theorem flow_no {Q : Act → Prop} {k : Nat} {o : Oper} {rest : List Oper} {a : Act} (hw : Region.wanted o (yielded ops a.tmps) = false)
    (h1 : ∀ L w, L.getD k true = false → Behind md o L → C L w → C (L.setIfInBounds k true) w) (h2 : flow (Goes P md ops C) Q (k + 1) rest (a.put o.dst undef)) : flow (Goes P md ops C) Q k (o :: rest) a :=
  ⟨undef, .inr ⟨hw, rfl, h1⟩, h2⟩
end
theorem class_of (D : Array Bool → World → Prop) : ∃ C : Array Bool → World → Prop, ∀ L w, C L w ↔ D L w := ⟨D, fun _ _ => Iff.rfl⟩
theorem getD_set_false {L : Array Bool} {k i : Nat} (h : (L.setIfInBounds k true).getD i true = false) : L.getD i true = false := by
  by_cases e : k = i
  · subst e
    rcases Nat.lt_or_ge k L.size with h' | h'
    · simp [h'] at h
    · simp [Array.getElem?_eq_none h'] at h
  · rw [getD_set_ne true e] at h; exact h
/-- THE CLASS: below block B nothing has turned since W; the cells of the first list hold what it says; of the second list (an operation's number, a cell, what that operation stores there) each cell is there, is not frozen, and holds its value once the operation is behind; of the third list (a load's number, a cell, what it finds there) each cell holds its value as long as the load is not behind. -/
structure InF (B : Nat) (W : World) (cells : List (Addr × Value)) (sts olds : List (Nat × Addr × Value)) (L : Array Bool) (w' : World) : Prop where
  below : Below B W w'
  cell : ∀ p ∈ cells, w'.cell? p.1 = some p.2
  at_ : ∀ s ∈ sts, ∃ u, w'.cell? s.2.1 = some u
  fro : ∀ s ∈ sts, w'.frozen? s.2.1 = false
  done : ∀ s ∈ sts, L.getD s.1 false = true → w'.cell? s.2.1 = some s.2.2
  old : ∀ s ∈ olds, L.getD s.1 true = false → w'.cell? s.2.1 = some s.2.2
section
variable {B : Nat} {W w' w1 : World} {cells : List (Addr × Value)} {sts olds : List (Nat × Addr × Value)} {L : Array Bool}
theorem InF.start (h1 : ∀ p ∈ cells, W.cell? p.1 = some p.2) (h2 : ∀ s ∈ sts, ∃ u, W.cell? s.2.1 = some u) (h3 : ∀ s ∈ sts, W.frozen? s.2.1 = false) (h4 : ∀ s ∈ olds, W.cell? s.2.1 = some s.2.2) (L : Array Bool) (hL : ∀ i, L.getD i false = false) :
    InF B W cells sts olds L { W with drawn := W.drawn + 1 } :=
  ⟨⟨rfl, rfl, rfl, Nat.le_refl _, fun _ _ => rfl⟩, fun p hp => h1 p hp, fun s hs => h2 s hs, fun s hs => h3 s hs, (fun s _ h => by rw [hL] at h; cases h), fun s hs _ => h4 s hs⟩
theorem InF.skip (h : InF B W cells sts olds L w') (k : Nat) (hk : sts.all (fun s => s.1 != k) = true) : InF B W cells sts olds (L.setIfInBounds k true) w' :=
  ⟨h.below, h.cell, h.at_, h.fro, fun s hs hd => h.done s hs (by
    have : s.1 ≠ k := by simpa using List.all_eq_true.1 hk s hs
    rw [getD_set_ne false (Ne.symm this)] at hd; exact hd), fun s hs hd => h.old s hs (getD_set_false hd)⟩
theorem InF.next (h : InF B W cells sts olds L w') (hB : B ≤ W.heap.size) (hb : Below w'.heap.size w' w1) : InF B W cells sts olds L w1 :=
  ⟨h.below.trans (hb.mono (Nat.le_trans hB h.below.size)), fun p hp => (hb.cell (World.block_lt_of_cell? w' _ (h.cell p hp))).trans (h.cell p hp),
    fun s hs => by obtain ⟨u, hu⟩ := h.at_ s hs; exact ⟨u, (hb.cell (World.block_lt_of_cell? w' _ hu)).trans hu⟩,
    fun s hs => by obtain ⟨u, hu⟩ := h.at_ s hs; exact (hb.frozen (World.block_lt_of_cell? w' _ hu)).trans (h.fro s hs),
    fun s hs hd => (hb.cell (World.block_lt_of_cell? w' _ (h.done s hs hd))).trans (h.done s hs hd),
    fun s hs hd => (hb.cell (World.block_lt_of_cell? w' _ (h.old s hs hd))).trans (h.old s hs hd)⟩
/-- A store into one of the second list's cells. -/
theorem InF.store (h : InF B W cells sts olds L w') (k : Nat) (p : Addr) (u : Value) (hB : B ≤ p.block) (hsp : p.spot = none) (hc : ∀ q ∈ cells, q.1 ≠ p) (hs : ∀ s ∈ sts, s.2.1 = p → s.1 = k ∧ s.2.2 = u) (hat : ∃ s ∈ sts, s.2.1 = p)
    (ho : ∀ q ∈ olds, q.2.1 = p → L.getD q.1 true = true := by intro _ h; cases h) : InF B W cells sts olds L (w'.setCell p u) := by
  obtain ⟨s0, hs0, rfl⟩ := hat
  obtain ⟨u0, hu0⟩ := h.at_ s0 hs0
  have hcur : (w'.setCell s0.2.1 u).cell? s0.2.1 = some u := World.cell?_setCell_same' w' _ u (by rw [hu0]; rfl)
  refine ⟨h.below.setCell hB u, fun q hq => (World.cell?_setCell_other w' _ _ u (fun e => hc q hq e.symm)).trans (h.cell q hq), fun s hs' => ?_, fun s hs' => (World.frozen?_setCell _ _ _ _).trans (h.fro s hs'), fun s hs' hd => ?_, fun s hs' hd => ?_⟩
  · by_cases e : s.2.1 = s0.2.1
    · rw [e]; exact ⟨u, hcur⟩
    · obtain ⟨x, hx⟩ := h.at_ s hs'
      exact ⟨x, (World.cell?_setCell_other w' _ _ u (fun e' => e e'.symm)).trans hx⟩
  · by_cases e : s.2.1 = s0.2.1
    · rw [e, (hs s hs' e).2]; exact hcur
    · exact (World.cell?_setCell_other w' _ _ u (fun e' => e e'.symm)).trans (h.done s hs' hd)
  · by_cases e : s.2.1 = s0.2.1
    · have := ho s hs' e
      rw [this] at hd; cases hd
    · exact (World.cell?_setCell_other w' _ _ u (fun e' => e e'.symm)).trans (h.old s hs' hd)
theorem InF.mark (h : InF B W cells sts olds L w') (k : Nat) (hm : ∀ s ∈ sts, s.1 = k → w'.cell? s.2.1 = some s.2.2) : InF B W cells sts olds (L.setIfInBounds k true) w' :=
  ⟨h.below, h.cell, h.at_, h.fro, (fun s hs hd => by
    by_cases e : s.1 = k
    · exact hm s hs e
    · rw [getD_set_ne false (Ne.symm e)] at hd; exact h.done s hs hd), fun s hs hd => h.old s hs (getD_set_false hd)⟩
end
end Go.Proofs.Ytinfogmjijeliaa
