/- Lists of texts and units as data; the laws' own functions on them: size, copy, equality. Conditions: sizes. -/
import Derived.Test.YtcegllnljaapiaaGreatRows
import Derived.Test.YtcegllnljaapiaaGreatShelf
import Derived.WalkKit
import Derived.ProofKit
import Derived.WalkSpells
import Derived.Lib.Hide
import Derived.Deep.Light
import Derived.Deep.QuietTactic
import Derived.BigQuiet
import Derived.Deep.RegionHeld3
import Derived.IntWalk
import Derived.Lib.LaidTab
import Derived.WalkSmall
import Derived.Lib.ItoaMem
import Derived.Maps.AppendAt
import Derived.Laws.OwnMore
import Derived.OwnWalk
namespace Go.Proofs.YtcegllnljaapiaaGreat
open Go.RowKit
/-- An allocation leaves the older blocks. -/
theorem hao (w : World) (o : Obj) (k : Nat) (h : k < w.heap.size) : (w.alloc o).heap[k]? = w.heap[k]? := Below.heap_alloc w o k h
theorem ret_bool {a b : Bool} (h : a = b) : Ending.returned (.bool a) = .returned (.bool b) := by rw [h]
theorem ret_int {k : IntKind} {a b : Int} (h : a = b) : Ending.returned (.int k a) = .returned (.int k b) := by rw [h]
theorem ret_str {a b : List UInt8} (h : a = b) : Ending.returned (.string ⟨a.toArray⟩) = .returned (.string ⟨b.toArray⟩) := by rw [h]
theorem ret_strs {s : ByteArray} {l : List UInt8} (h : s.data.toList = l) : Ending.returned (.string s) = .returned (.string ⟨l.toArray⟩) := by subst h; rfl
theorem str_eq {s : ByteArray} {l : List UInt8} (h : s.data.toList = l) : s = ⟨l.toArray⟩ := by subst h; rfl
theorem size_list (s : ByteArray) : s.size = s.data.toList.length := rfl
theorem bcell {W w1 : World} (hb : Below W.heap.size W w1) : (∀ b o, b < W.heap.size → w1.cell? ⟨b, o, none⟩ = W.cell? ⟨b, o, none⟩) ∧ (∀ b o, b < W.heap.size → w1.frozen? ⟨b, o, none⟩ = W.frozen? ⟨b, o, none⟩) :=
  ⟨fun b o h => hb.cell (p := ⟨b, o, none⟩) h, fun b o h => hb.frozen (p := ⟨b, o, none⟩) h⟩
/-- A block number below a heap's size, in the spellings that the walk meets. -/
theorem bsz {n m : Nat} (h : n < m) : n < m ∧ n ≤ m ∧ n < m + 1 ∧ n ≤ m + 1 ∧ n < m + 2 ∧ n < m + 3 ∧ n < m + 4 := by omega
theorem below_drewN {B : Nat} {a w : World} (h : Below B a w) (n : Nat) : Below B a (w.drewN n) := ⟨h.os, h.tape, h.output, h.size, h.block⟩
theorem same_below {P : Program} {f : FuncId} {args : Array Value} {w : World} {x : Ending} (h : Calls P f args w fun e w' => e = x ∧ w = w') : Calls P f args w fun e w' => e = x ∧ Below w.heap.size w w' :=
  h.mono fun _ _ ⟨h1, h2⟩ => ⟨h1, h2 ▸ Below.refl _ _⟩
theorem Below.step {a w w1 : World} (h : Below a.heap.size a w) (hb : Below w.heap.size w w1) : Below a.heap.size a w1 := h.trans (hb.mono h.size)
theorem Below.al {a w : World} (h : Below a.heap.size a w) (o : Obj) : Below a.heap.size a (w.alloc o) := h.alloc h.size o
theorem Below.sc {a w : World} (h : Below a.heap.size a w) {p : Addr} (hp : a.heap.size ≤ p.block) (u : Value) : Below a.heap.size a (w.setCell p u) := h.setCell hp u
theorem Below.dr {a w : World} (h : Below a.heap.size a w) : Below a.heap.size a w.drew := h.drew
theorem Below.drN {a w : World} (h : Below a.heap.size a w) (n : Nat) : Below a.heap.size a (w.drewN n) := below_drewN h n
theorem take_snoc (s : ByteArray) (k : Nat) (h : k < s.size) : s.data.toList.take (k + 1) = s.data.toList.take k ++ [s[k]] := by
  rw [List.take_succ_eq_append_getElem (by simpa using h)]; rfl
theorem take_all (s : ByteArray) (k : Nat) (h : s.size ≤ k) : s.data.toList.take k = s.data.toList := List.take_of_length_le (by rw [← size_list]; exact h)
theorem toList_append (s t : ByteArray) : (s ++ t).toList = s.toList ++ t.toList := by
  rw [ByteArray.toList_eq, ByteArray.toList_eq, ByteArray.toList_eq]; simp
theorem extract_list (s : ByteArray) (f k : Nat) : (s.extract f k).data.toList = (s.data.toList.take k).drop f := by
  rw [Lib.extract_data, List.drop_take]
theorem toList_extract (s : ByteArray) (a b : Nat) : (s.extract a b).toList = (s.toList.take b).drop a := by
  rw [ByteArray.toList_eq, ByteArray.toList_eq, extract_list]
attribute [go_sem] toList_append toList_extract
/-! A region that draws its order, whose operations read and whose callees may make memory: one walk, in every world that keeps the old blocks. -/
section
variable {P : Program} {ops : Array Oper} {C : World → Prop} {Q : Act → Prop} {a : Act} {o : Oper} {rest : List Oper}
end
end Go.Proofs.YtcegllnljaapiaaGreat
namespace Go.Proofs.YtcegllnljaapiaaGreat
open Go.RowKit
/-- Every operation that must be behind o is. -/
def Behind (md : Region.Mode) (o : Oper) (L : Array Bool) : Prop := ∀ e ∈ o.after, Region.binds md e = true → L.getD e.on false = true
section
variable {P : Program} {ops : Array Oper} {md : Region.Mode} {C : Array Bool → World → Prop}
/-- What an operation's run must come to: the value v (a call's result, or nothing, v being 'undef'), in a world of the class D. -/
def goesUpon (P : Program) (D : World → Prop) (v : Value) : Result Next → Prop
  | .ok (.value u) w' => D w' ∧ u = v
  | .ok .skip w' => D w' ∧ v = undef
  | .ok (.enter f args) w' => Calls P f args w' (fun e w'' => e = .returned v ∧ D w'')
  | _ => False
attribute [go_sem] goesUpon
/-- Operation o, number i, in state a: one value, in every world of the class, whichever operations are behind it. -/
def Goes (P : Program) (md : Region.Mode) (ops : Array Oper) (C : Array Bool → World → Prop) (o : Oper) (i : Nat) (v : Value) (a : Act) : Prop :=
  (Region.wanted o (yielded ops a.tmps) = true ∧ ∀ L w, L.getD i true = false → Behind md o L → C L w → goesUpon P (C (L.setIfInBounds i true)) v ((execOp a.eval o).run P w)) ∨
  (Region.wanted o (yielded ops a.tmps) = false ∧ v = undef ∧ ∀ L w, L.getD i true = false → Behind md o L → C L w → C (L.setIfInBounds i true) w)
/-- What is said of an operation hangs on its operands alone. -/
def ByEval (ops : Array Oper) (G : Oper → Nat → Value → Act → Prop) : Prop :=
  ∀ (o : Oper) (i : Nat) (v : Value) (a a' : Act), G o i v a → execOp a'.eval o = execOp a.eval o → Region.wanted o (yielded ops a'.tmps) = Region.wanted o (yielded ops a.tmps) → G o i v a'
theorem Goes.byEval : ByEval ops (Goes P md ops C) := by
  intro o i v a a' hy he hw
  unfold Goes at *
  rw [he, hw]
  exact hy
variable {G : Oper → Nat → Value → Act → Prop}
def flowOp (ops : Array Oper) (G : Oper → Nat → Value → Act → Prop) (i : Nat) (K : Act → Prop) (a : Act) : Prop :=
  ∃ o v, ops[i]? = some o ∧ G o i v a ∧ K (a.put o.dst v)
theorem flowOp_mono {i : Nat} {a : Act} {K K' : Act → Prop} (h : ∀ a, K a → K' a) (hh : flowOp ops G i K a) : flowOp ops G i K' a :=
  let ⟨o, v, h1, h2, h3⟩ := hh
  ⟨o, v, h1, h2, h _ h3⟩
/-- Whatever order is picked from here on. -/
def flowAny (md : Region.Mode) (ops : Array Oper) (G : Oper → Nat → Value → Act → Prop) (Q : Array Bool → Act → Prop) : Nat → Array Bool → Act → Prop
  | 0, listed, a => Region.ready md ops listed = [] ∧ Q listed a
  | fuel + 1, listed, a =>
    (Region.ready md ops listed = [] → Q listed a) ∧
    ∀ i ∈ Region.ready md ops listed, flowOp ops G i (flowAny md ops G Q fuel (listed.setIfInBounds i true)) a
theorem wpOp_of_flowOp {i : Nat} {a : Act} {K : Act → Prop} {K' : Act → World → Prop} {Q' : Exit → Act → World → Prop} {w : World} {listed : Array Bool} (hi : i ∈ Region.ready md ops listed) (hC : C listed w)
    (h : ∀ a w', C (listed.setIfInBounds i true) w' → K a → K' a w') (hh : flowOp ops (Goes P md ops C) i K a) : wpOp P ops Q' i K' a w := by
  obtain ⟨hun, oj, hoj, hall⟩ := mem_ready.1 hi
  obtain ⟨o, v, ho, hy, hK⟩ := hh
  obtain rfl : oj = o := Option.some.inj (hoj.symm.trans ho)
  have hbe : Behind md oj listed := fun e he hb => by simpa using hall e he hb
  unfold wpOp
  simp only [ho]
  rcases hy with ⟨hw, hv⟩ | ⟨hw, rfl, hk⟩
  · rw [if_pos hw]
    refine .inl ?_
    have h3 := hv listed w hun hbe hC
    unfold Oper.wp
    generalize (execOp a.eval oj).run P w = r at *
    cases r with
    | ok n w' =>
      cases n <;> simp only [goesUpon] at h3 <;> simp only [Oper.upon]
      case value u => obtain ⟨e1, rfl⟩ := h3; exact h _ _ e1 hK
      case skip => obtain ⟨e1, rfl⟩ := h3; exact h _ _ e1 hK
      case enter f args => exact h3.mono fun e w'' ⟨he, hw''⟩ => by subst he; exact h _ _ hw'' hK
    | halt x w' => simp only [goesUpon] at h3
  · rw [if_neg (by simp [hw])]
    exact h _ _ (hk listed w hun hbe hC) hK
theorem wpAny_of_flow {Q : Array Bool → Act → Prop} {Q' : Exit → Act → World → Prop} (hQ : ∀ L a w, C L w → Q L a → Q' .normal a w) : ∀ (fuel : Nat) (listed : Array Bool) (a : Act) (w : World), C listed w →
    flowAny md ops (Goes P md ops C) Q fuel listed a → wpAny P md ops Q' fuel listed a w
  | 0, _, _, _, hw, h => ⟨h.1, hQ _ _ _ hw h.2⟩
  | fuel + 1, _, _, _, hw, h => ⟨fun h0 => hQ _ _ _ hw (h.1 h0), fun i hi => wpOp_of_flowOp hi hw (fun a' w' hw' => wpAny_of_flow hQ fuel _ a' w' hw') (h.2 i hi)⟩
theorem flowOp_put {i j : Nat} {oi oj : Oper} {v : Value} (hG : ByEval ops G) (hj : ops[j]? = some oj) (hap : oi.apart ops oj = true)
    (hsi : ∀ cs b, oi.op ≠ .select cs b) (hsj : ∀ cs b, oj.op ≠ .select cs b) {K : Act → Prop} {a : Act}
    (hy : G oi i v a) (h : flowOp ops G j K (a.put oi.dst v)) :
    flowOp ops G j (fun a' => G oi i v a' ∧ K (a'.put oi.dst v)) a := by
  obtain ⟨h1, h2, h3⟩ := Oper.apart_spec hap
  obtain ⟨o, u, ho, hu, hK⟩ := h
  obtain rfl : oj = o := Option.some.inj (hj.symm.trans ho)
  exact ⟨oj, u, hj, hG _ _ _ _ _ hu (execOp_put oj hsj a oi.dst v h1).symm (wanted_put oj a oi.dst v h1).symm, hG _ _ _ _ _ hy (execOp_put oi hsi a oj.dst u h3) (wanted_put oi a oj.dst u h3),
    by rw [← Act.put_comm a v u h2]; exact hK⟩
theorem flowAny_first (hG : ByEval ops G) {Q : Array Bool → Act → Prop} {i : Nat} {oi : Oper} {v : Value} (hi : ops[i]? = some oi) (hsel : ∀ (j : Nat) (o : Oper) cs b, ops[j]? = some o → o.op ≠ .select cs b) :
    ∀ (fuel : Nat) (listed : Array Bool) (a : Act),
      (∀ j oj, ops[j]? = some oj → j ≠ i → listed.getD j true = false → (∀ e ∈ oj.after, Region.binds md e = true → e.on ≠ i) → oi.apart ops oj = true) →
      i ∈ Region.ready md ops listed → G oi i v a →
      flowAny md ops G Q fuel (listed.setIfInBounds i true) (a.put oi.dst v) → flowAny md ops G Q (fuel + 1) listed a := by
  intro fuel
  induction fuel with
  | zero =>
    intro listed a _ hr hy H
    refine ⟨fun h => (by rw [h] at hr; cases hr), fun j hj => ?_⟩
    by_cases hji : j = i
    · subst hji; exact ⟨oi, v, hi, hy, H⟩
    · have := ready_mono hj hji
      rw [H.1] at this
      cases this
  | succ fuel ih =>
    intro listed a hfree hr hy H
    refine ⟨fun h => (by rw [h] at hr; cases hr), fun j hj => ?_⟩
    by_cases hji : j = i
    · subst hji; exact ⟨oi, v, hi, hy, H⟩
    · have h1 := H.2 j (ready_mono hj hji)
      obtain ⟨hjun, oj, hoj, hall⟩ := mem_ready.1 hj
      have hnot : ∀ e ∈ oj.after, Region.binds md e = true → e.on ≠ i := fun e he hb heq => by
        have h1 := hall e he hb
        have h0 := (mem_ready.1 hr).1
        rw [heq] at h1
        rcases Nat.lt_or_ge i listed.size with h' | h'
        · simp [h'] at h0 h1; rw [h0] at h1; cases h1
        · simp [Array.getElem?_eq_none h'] at h1
      have h2 := flowOp_put hG hoj (hfree j oj hoj hji hjun hnot) (fun cs b => hsel i oi cs b hi) (fun cs b => hsel j oj cs b hoj) hy h1
      have hfree' : ∀ k ok, ops[k]? = some ok → k ≠ i → (listed.setIfInBounds j true).getD k true = false →
          (∀ e ∈ ok.after, Region.binds md e = true → e.on ≠ i) → oi.apart ops ok = true := fun k ok hk hki hun hno => by
        refine hfree k ok hk hki ?_ hno
        by_cases hjk : j = k
        · subst hjk; exact hjun
        · rw [getD_set_ne true hjk] at hun; exact hun
      refine flowOp_mono (fun a' h3 => ih (listed.setIfInBounds j true) a' hfree' (ready_mono hr (Ne.symm hji)) h3.1 ?_) h2
      rw [Array.setIfInBounds_comm _ _ hji]
      exact h3.2
/-- The walk in the text's order. -/
def flow (G : Oper → Nat → Value → Act → Prop) (Q : Act → Prop) : Nat → List Oper → Act → Prop
  | _, [], a => Q a
  | k, o :: rest, a => ∃ v, G o k v a ∧ flow G Q (k + 1) rest (a.put o.dst v)
theorem flowAny_lex (hG : ByEval ops G) {Q : Act → Prop} (hs : Region.noSelect ops = true) : ∀ (l : List Oper) (k : Nat) (listed : Array Bool) (a : Act), (∀ j, l[j]? = ops[k + j]?) → listed.size = ops.size → k + l.length = ops.size → (∀ i, i < k → listed.getD i false = true) →
    Region.lexFrom md ops l.length k listed = true → flow G Q k l a → flowAny md ops G (fun L a => (∀ i, i < ops.size → L.getD i false = true) ∧ Q a) l.length listed a
  | [], k, _, _, _, _, hk, hall, hB, h => ⟨by simpa [Region.lexFrom] using hB, fun i hi => hall i (by simp at hk; omega), h⟩
  | o :: l, k, listed, a, hl, hz, hk, hall, hB, h => by
    have h0 : ops[k]? = some o := by simpa using (hl 0).symm
    simp only [List.length_cons, Region.lexFrom, Bool.and_eq_true] at hB
    obtain ⟨⟨hr, hf⟩, hB'⟩ := hB
    obtain ⟨v, hy, hK⟩ := h
    have hlt : k < listed.size := by simp only [List.length_cons] at hk; omega
    exact flowAny_first hG h0 (Region.noSelect_spec hs) l.length listed a (Region.free_spec h0 hf) (by simpa using hr) hy
      (flowAny_lex hG hs l (k + 1) _ _ (fun j => by have := hl (j + 1); simpa [Nat.add_assoc, Nat.add_comm 1 j] using this) (by simpa using hz) (by simp only [List.length_cons] at hk; omega)
        (fun i hi => by
          by_cases hik : i = k
          · subst hik; simp [hlt]
          · rw [getD_set_ne false (Ne.symm hik)]; exact hall i (by omega)) hB' hK)
theorem getD_replicate_none (m j : Nat) : (Array.replicate m false).getD j false = false := by
  rcases Nat.lt_or_ge j m with h | h
  · simp [h]
  · simp [h]
theorem wp_region_flow {id : Nat} {Q : Exit → Act → World → Prop} {a : Act} {w : World} {l : List Oper} (hm : P.follows .mixedOrders = true) (hB : Region.lexB .any l.toArray = true)
    (hC : ∀ L : Array Bool, (∀ i, L.getD i false = false) → C L { w with drawn := w.drawn + 1 })
    (h : flow (Goes P .any l.toArray C) (fun a' => ∀ L w', (∀ i, i < l.length → L.getD i false = true) → C L w' → Q .normal a' w') 0 l a) : (Code.region id l.toArray true).wp P Q a w := by
  simp only [Region.lexB, Bool.and_eq_true] at hB
  refine wp_region_any hm (wpAny_of_flow (Q := fun L a => (∀ i, i < l.toArray.size → L.getD i false = true) ∧ ∀ L w', (∀ i, i < l.length → L.getD i false = true) → C L w' → Q .normal a w')
    (fun L a w' hw' h => h.2 L w' (by simpa using h.1) hw') _ _ _ _ (hC _ (fun i => getD_replicate_none _ _)) ?_)
  have := flowAny_lex (G := Goes P .any l.toArray C) (md := .any) Goes.byEval hB.1 l 0 (Array.replicate l.length false) a (by simp) (by simp) (by simp) (fun i hi => absurd hi (by omega)) (by simpa using hB.2) h
  simpa using this
theorem flow_nil {Q : Act → Prop} {k : Nat} {a : Act} (h : Q a) : flow G Q k [] a := h
theorem flow_yes {Q : Act → Prop} {k : Nat} {o : Oper} {rest : List Oper} {a : Act} (hw : Region.wanted o (yielded ops a.tmps) = true) (v : Value)
    (h1 : ∀ L w, L.getD k true = false → Behind md o L → C L w → goesUpon P (C (L.setIfInBounds k true)) v ((execOp a.eval o).run P w)) (h2 : flow (Goes P md ops C) Q (k + 1) rest (a.put o.dst v)) : flow (Goes P md ops C) Q k (o :: rest) a :=
  ⟨v, .inl ⟨hw, h1⟩, h2⟩
theorem flow_free {Q : Act → Prop} {k : Nat} {o : Oper} {rest : List Oper} {a : Act} (hg : o.guard = none) (v : Value)
    (h1 : ∀ L w, L.getD k true = false → Behind md o L → C L w → goesUpon P (C (L.setIfInBounds k true)) v ((execOp a.eval o).run P w)) (h2 : flow (Goes P md ops C) Q (k + 1) rest (a.put o.dst v)) : flow (Goes P md ops C) Q k (o :: rest) a :=
  flow_yes (by simp [Region.wanted, hg]) v h1 h2
theorem flow_no {Q : Act → Prop} {k : Nat} {o : Oper} {rest : List Oper} {a : Act} (hw : Region.wanted o (yielded ops a.tmps) = false)
    (h1 : ∀ L w, L.getD k true = false → Behind md o L → C L w → C (L.setIfInBounds k true) w) (h2 : flow (Goes P md ops C) Q (k + 1) rest (a.put o.dst undef)) : flow (Goes P md ops C) Q k (o :: rest) a :=
  ⟨undef, .inr ⟨hw, rfl, h1⟩, h2⟩
end
theorem class_of (D : Array Bool → World → Prop) : ∃ C : Array Bool → World → Prop, ∀ L w, C L w ↔ D L w := ⟨D, fun _ _ => Iff.rfl⟩
theorem getD_set_false {L : Array Bool} {k i : Nat} (h : (L.setIfInBounds k true).getD i true = false) : L.getD i true = false := by
  by_cases e : k = i
  · subst e
    rcases Nat.lt_or_ge k L.size with h' | h'
    · simp [h'] at h
    · simp [] at h
  · rw [getD_set_ne true e] at h; exact h
/-- THE CLASS: below block B nothing has turned since W; the cells of the first list hold what it says; of the second list (an operation's number, a cell, what that operation stores there) each cell is there, is not frozen, and holds its value once the operation is behind; of the third list (a load's number, a cell, what it finds there) each cell holds its value as long as the load is not behind. -/
structure InF (B : Nat) (W : World) (cells : List (Addr × Value)) (sts olds : List (Nat × Addr × Value)) (L : Array Bool) (w' : World) : Prop where
  below : Below B W w'
  cell : ∀ p ∈ cells, w'.cell? p.1 = some p.2
  at_ : ∀ s ∈ sts, ∃ u, w'.cell? s.2.1 = some u
  fro : ∀ s ∈ sts, w'.frozen? s.2.1 = false
  done : ∀ s ∈ sts, L.getD s.1 false = true → w'.cell? s.2.1 = some s.2.2
  old : ∀ s ∈ olds, L.getD s.1 true = false → w'.cell? s.2.1 = some s.2.2
section
variable {B : Nat} {W w' w1 : World} {cells : List (Addr × Value)} {sts olds : List (Nat × Addr × Value)} {L : Array Bool}
theorem InF.start (h1 : ∀ p ∈ cells, W.cell? p.1 = some p.2) (h2 : ∀ s ∈ sts, ∃ u, W.cell? s.2.1 = some u) (h3 : ∀ s ∈ sts, W.frozen? s.2.1 = false) (h4 : ∀ s ∈ olds, W.cell? s.2.1 = some s.2.2) (L : Array Bool) (hL : ∀ i, L.getD i false = false) :
    InF B W cells sts olds L { W with drawn := W.drawn + 1 } :=
  ⟨⟨rfl, rfl, rfl, Nat.le_refl _, fun _ _ => rfl⟩, fun p hp => h1 p hp, fun s hs => h2 s hs, fun s hs => h3 s hs, (fun s _ h => by rw [hL] at h; cases h), fun s hs _ => h4 s hs⟩
theorem InF.skip (h : InF B W cells sts olds L w') (k : Nat) (hk : sts.all (fun s => s.1 != k) = true) : InF B W cells sts olds (L.setIfInBounds k true) w' :=
  ⟨h.below, h.cell, h.at_, h.fro, fun s hs hd => h.done s hs (by
    have : s.1 ≠ k := by simpa using List.all_eq_true.1 hk s hs
    rw [getD_set_ne false (Ne.symm this)] at hd; exact hd), fun s hs hd => h.old s hs (getD_set_false hd)⟩
theorem InF.next (h : InF B W cells sts olds L w') (hB : B ≤ W.heap.size) (hb : Below w'.heap.size w' w1) : InF B W cells sts olds L w1 :=
  ⟨h.below.trans (hb.mono (Nat.le_trans hB h.below.size)), fun p hp => (hb.cell (World.block_lt_of_cell? w' _ (h.cell p hp))).trans (h.cell p hp),
    fun s hs => by obtain ⟨u, hu⟩ := h.at_ s hs; exact ⟨u, (hb.cell (World.block_lt_of_cell? w' _ hu)).trans hu⟩,
    fun s hs => by obtain ⟨u, hu⟩ := h.at_ s hs; exact (hb.frozen (World.block_lt_of_cell? w' _ hu)).trans (h.fro s hs),
    fun s hs hd => (hb.cell (World.block_lt_of_cell? w' _ (h.done s hs hd))).trans (h.done s hs hd),
    fun s hs hd => (hb.cell (World.block_lt_of_cell? w' _ (h.old s hs hd))).trans (h.old s hs hd)⟩
end
end Go.Proofs.YtcegllnljaapiaaGreat
namespace Go.Proofs.YtcegllnljaapiaaGreat
open Go.RowKit
section
variable {P : Program} {ops : Array Oper} {md : Region.Mode} {vs : List (Option Value)} {D : (Nat → Value) → Array Bool → World → Prop}
def upd (u : Nat → Value) (k : Nat) (x : Value) : Nat → Value := fun i => if i = k then x else u i
theorem upd_same (u : Nat → Value) (k : Nat) (x : Value) : upd u k x k = x := if_pos rfl
theorem upd_other (u : Nat → Value) {k i : Nat} (x : Value) (h : i ≠ k) : upd u k x i = u i := if_neg h
/-- Is operation i one whose value is known beforehand? -/
def stB (vs : List (Option Value)) (i : Nat) : Bool := (vs.getD i none).isSome
def baseV (vs : List (Option Value)) (i : Nat) : Value := (vs.getD i none).getD undef
theorem baseV0 (v : Value) (l : List (Option Value)) : baseV (some v :: l) 0 = v := rfl
theorem baseV1 (x : Option Value) (v : Value) (l : List (Option Value)) : baseV (x :: some v :: l) 1 = v := rfl
theorem baseV2 (x y : Option Value) (v : Value) (l : List (Option Value)) : baseV (x :: y :: some v :: l) 2 = v := rfl
theorem baseV3 (x y z : Option Value) (v : Value) (l : List (Option Value)) : baseV (x :: y :: z :: some v :: l) 3 = v := rfl
theorem baseV4 (x y z a : Option Value) (v : Value) (l : List (Option Value)) : baseV (x :: y :: z :: a :: some v :: l) 4 = v := rfl
theorem baseV5 (x y z a b : Option Value) (v : Value) (l : List (Option Value)) : baseV (x :: y :: z :: a :: b :: some v :: l) 5 = v := rfl
theorem baseV6 (x y z a b c : Option Value) (v : Value) (l : List (Option Value)) : baseV (x :: y :: z :: a :: b :: c :: some v :: l) 6 = v := rfl
theorem baseV7 (x y z a b c d : Option Value) (v : Value) (l : List (Option Value)) : baseV (x :: y :: z :: a :: b :: c :: d :: some v :: l) 7 = v := rfl
theorem baseV8 (x y z a b c d e : Option Value) (v : Value) (l : List (Option Value)) : baseV (x :: y :: z :: a :: b :: c :: d :: e :: some v :: l) 8 = v := rfl
attribute [go_sem] baseV0 baseV1 baseV2 baseV3 baseV4 baseV5 baseV6 baseV7 baseV8
/-- What an operation of the chain comes to: some value x. -/
def eachUpon (P : Program) (E : Value → World → Prop) : Result Next → Prop
  | .ok (.value x) w' => E x w'
  | .ok .skip w' => E undef w'
  | .ok (.enter f args) w' => Calls P f args w' (fun e w'' => ∃ x, e = .returned x ∧ E x w'')
  | _ => False
attribute [go_sem] eachUpon
def GS (P : Program) (md : Region.Mode) (ops : Array Oper) (vs : List (Option Value)) (D : (Nat → Value) → Array Bool → World → Prop) (o : Oper) (i : Nat) (a : Act) : Prop := ∀ u, Goes P md ops (D u) o i (baseV vs i) a
def GU (P : Program) (md : Region.Mode) (ops : Array Oper) (D : (Nat → Value) → Array Bool → World → Prop) (o : Oper) (i : Nat) (a : Act) (u : Nat → Value) : Prop :=
  Region.wanted o (yielded ops a.tmps) = true ∧ ∀ L w, L.getD i true = false → Behind md o L → D u L w → eachUpon P (fun x w' => D (upd u i x) (L.setIfInBounds i true) w') ((execOp a.eval o).run P w)
theorem GS.eval {o : Oper} {i : Nat} {a a' : Act} (h : GS P md ops vs D o i a) (he : execOp a'.eval o = execOp a.eval o) (hw : Region.wanted o (yielded ops a'.tmps) = Region.wanted o (yielded ops a.tmps)) : GS P md ops vs D o i a' :=
  fun u => Goes.byEval _ _ _ _ _ (h u) he hw
theorem GU.eval {o : Oper} {i : Nat} {a a' : Act} {u : Nat → Value} (h : GU P md ops D o i a u) (he : execOp a'.eval o = execOp a.eval o) (hw : Region.wanted o (yielded ops a'.tmps) = Region.wanted o (yielded ops a.tmps)) : GU P md ops D o i a' u := by
  unfold GU at *
  rw [he, hw]; exact h
def opU (P : Program) (md : Region.Mode) (ops : Array Oper) (vs : List (Option Value)) (D : (Nat → Value) → Array Bool → World → Prop) (i : Nat) (K : Act → (Nat → Value) → Prop) (a : Act) (u : Nat → Value) : Prop :=
  ∃ o, ops[i]? = some o ∧ ((stB vs i = true ∧ GS P md ops vs D o i a ∧ K (a.put o.dst (baseV vs i)) u) ∨ (stB vs i = false ∧ GU P md ops D o i a u ∧ ∀ x, K (a.put o.dst x) (upd u i x)))
def anyU (P : Program) (md : Region.Mode) (ops : Array Oper) (vs : List (Option Value)) (D : (Nat → Value) → Array Bool → World → Prop) (Q : Array Bool → Act → (Nat → Value) → Prop) : Nat → Array Bool → Act → (Nat → Value) → Prop
  | 0, L, a, u => Region.ready md ops L = [] ∧ Q L a u
  | fuel + 1, L, a, u => (Region.ready md ops L = [] → Q L a u) ∧ ∀ i ∈ Region.ready md ops L, opU P md ops vs D i (anyU P md ops vs D Q fuel (L.setIfInBounds i true)) a u
theorem wpAny_of_anyU {Q : Array Bool → Act → (Nat → Value) → Prop} {Q' : Exit → Act → World → Prop} (hQ : ∀ L a u w, D u L w → Q L a u → Q' .normal a w) : ∀ (fuel : Nat) (L : Array Bool) (a : Act) (u : Nat → Value) (w : World), D u L w →
    anyU P md ops vs D Q fuel L a u → wpAny P md ops Q' fuel L a w
  | 0, _, _, _, _, hw, h => ⟨h.1, hQ _ _ _ _ hw h.2⟩
  | fuel + 1, L, a, u, w, hw, h => by
    refine ⟨fun h0 => hQ _ _ _ _ hw (h.1 h0), fun i hi => ?_⟩
    obtain ⟨o, ho, ⟨hs, hg, hK⟩ | ⟨hs, hg, hK⟩⟩ := h.2 i hi
    · exact wpOp_of_flowOp (C := D u) (K := fun a' => anyU P md ops vs D Q fuel (L.setIfInBounds i true) a' u) hi hw (fun a' w' hw' hK => wpAny_of_anyU hQ fuel _ a' u w' hw' hK) ⟨o, _, ho, hg u, hK⟩
    · obtain ⟨hun, oj, hoj, hall⟩ := mem_ready.1 hi
      obtain rfl : oj = o := Option.some.inj (hoj.symm.trans ho)
      have hbe : Behind md oj L := fun e he hb => by simpa using hall e he hb
      have h3 := hg.2 L w hun hbe hw
      unfold wpOp
      simp only [ho]
      rw [if_pos hg.1]
      refine .inl ?_
      unfold Oper.wp
      generalize (execOp a.eval oj).run P w = r at *
      cases r with
      | ok n w' =>
        cases n <;> simp only [eachUpon] at h3 <;> simp only [Oper.upon]
        case value x => exact wpAny_of_anyU hQ fuel _ _ _ _ h3 (hK x)
        case skip => exact wpAny_of_anyU hQ fuel _ _ _ _ h3 (hK undef)
        case enter f args => exact h3.mono fun e w'' ⟨x, he, hw''⟩ => by subst he; exact wpAny_of_anyU hQ fuel _ _ _ _ hw'' (hK x)
      | halt x w' => simp only [eachUpon] at h3
/-- Whatever is behind has all behind it that must be. -/
def Closed (md : Region.Mode) (ops : Array Oper) (L : Array Bool) : Prop := ∀ c oc, ops[c]? = some oc → L.getD c false = true → Behind md oc L
theorem getD_tf {L : Array Bool} {i : Nat} (h : L.getD i true = false) : L.getD i false = false := by
  rcases Nat.lt_or_ge i L.size with h' | h'
  · simp [h'] at h ⊢; exact h
  · simp [Array.getElem?_eq_none h']
theorem set_mono {L : Array Bool} {i j : Nat} (h : L.getD i false = true) : (L.setIfInBounds j true).getD i false = true := by
  by_cases e : j = i
  · subst e
    have hlt : j < L.size := by
      rcases Nat.lt_or_ge j L.size with h' | h'
      · exact h'
      · simp [Array.getElem?_eq_none h'] at h
    simp [hlt]
  · rw [getD_set_ne false e]; exact h
theorem Closed.set {L : Array Bool} {j : Nat} (h : Closed md ops L) (hj : j ∈ Region.ready md ops L) : Closed md ops (L.setIfInBounds j true) := by
  intro c oc hc hl e he hb
  obtain ⟨_, oj, hoj, hall⟩ := mem_ready.1 hj
  by_cases e1 : j = c
  · subst e1
    obtain rfl : oj = oc := Option.some.inj (hoj.symm.trans hc)
    exact set_mono (by simpa using hall e he hb)
  · rw [getD_set_ne false e1] at hl
    exact set_mono (h c oc hc hl e he hb)
/-- Each operation of the chain waits for the chain's earlier ones. -/
def chainB (l : List Oper) (vs : List (Option Value)) : Bool :=
  (List.range l.length).all fun j => stB vs j || (List.range j).all fun i => stB vs i || ((l[j]?.map fun o => o.after.any fun e => Region.binds .any e && decide (i ≤ e.on) && decide (e.on < j) && !stB vs e.on).getD false)
def Chained (md : Region.Mode) (ops : Array Oper) (vs : List (Option Value)) : Prop :=
  ∀ j oj i, ops[j]? = some oj → i < j → stB vs j = false → stB vs i = false → ∃ e ∈ oj.after, Region.binds md e = true ∧ i ≤ e.on ∧ e.on < j ∧ stB vs e.on = false
theorem Chained.of {l : List Oper} (h : chainB l vs = true) : Chained .any l.toArray vs := by
  intro j oj i hj hij hsj hsi
  have hjl : j < l.length := by
    have := (Array.getElem?_eq_some_iff.1 hj).1
    simpa using this
  have h1 := List.all_eq_true.1 h j (List.mem_range.2 hjl)
  rw [hsj, Bool.false_or] at h1
  have h2 := List.all_eq_true.1 h1 i (List.mem_range.2 hij)
  rw [hsi, Bool.false_or] at h2
  have hl : l[j]? = some oj := by simpa using hj
  rw [hl] at h2
  obtain ⟨e, he, hb⟩ := Array.any_eq_true'.1 (show (oj.after.any _) = true from h2)
  simp only [Bool.and_eq_true, decide_eq_true_eq, Bool.not_eq_true'] at hb
  exact ⟨e, he, hb.1.1.1, hb.1.1.2, hb.1.2, hb.2⟩
theorem chain_listed {L : Array Bool} (hc : Chained md ops vs) (hL : Closed md ops L) {i : Nat} (hi : stB vs i = false) (hsz : L.size = ops.size) : ∀ c, i ≤ c → stB vs c = false → L.getD c false = true → L.getD i false = true := by
  intro c
  induction c using Nat.strongRecOn with
  | _ c ih =>
    intro hic hs hl
    by_cases e : i = c
    · subst e; exact hl
    · have hlt : c < L.size := by
        rcases Nat.lt_or_ge c L.size with h' | h'
        · exact h'
        · simp [Array.getElem?_eq_none h'] at hl
      have hoc : ops[c]? = some (ops[c]'(by omega)) := Array.getElem?_eq_getElem (by omega)
      obtain ⟨e, he, hb, h1, h2, h3⟩ := hc c _ i hoc (by omega) hs hi
      exact ih e.on h2 h1 h3 (hL c _ hoc hl e he hb)
theorem no_other {L : Array Bool} (hc : Chained md ops vs) (hL : Closed md ops L) (hsz : L.size = ops.size) {i j : Nat} (hi : stB vs i = false) (hun : L.getD i true = false) (hall : ∀ k, k < i → L.getD k false = true) (hj : j ∈ Region.ready md ops L) (hne : j ≠ i) : stB vs j = true := by
  rcases hs : stB vs j with _ | _
  · exfalso
    obtain ⟨hju, oj, hoj, hb⟩ := mem_ready.1 hj
    have hij : i < j := by
      rcases Nat.lt_or_ge j i with h' | h'
      · have := hall j h'
        rw [getD_tf hju] at this; cases this
      · omega
    obtain ⟨e, he, hbe, h1, h2, h3⟩ := hc j oj i hoj hij hs hi
    have := chain_listed hc hL hi hsz e.on h1 h3 (by simpa using hb e he hbe)
    rw [getD_tf hun] at this; cases this
  · rfl
theorem anyU_firstS {Q : Array Bool → Act → (Nat → Value) → Prop} {i : Nat} {oi : Oper} (hi : ops[i]? = some oi) (hst : stB vs i = true) (hsel : ∀ (j : Nat) (o : Oper) cs b, ops[j]? = some o → o.op ≠ .select cs b) :
    ∀ (fuel : Nat) (L : Array Bool) (a : Act) (u : Nat → Value),
      (∀ j oj, ops[j]? = some oj → j ≠ i → L.getD j true = false → (∀ e ∈ oj.after, Region.binds md e = true → e.on ≠ i) → oi.apart ops oj = true) →
      i ∈ Region.ready md ops L → GS P md ops vs D oi i a →
      anyU P md ops vs D Q fuel (L.setIfInBounds i true) (a.put oi.dst (baseV vs i)) u → anyU P md ops vs D Q (fuel + 1) L a u := by
  intro fuel
  induction fuel with
  | zero =>
    intro L a u _ hr hy H
    refine ⟨fun h => (by rw [h] at hr; cases hr), fun j hj => ?_⟩
    by_cases hji : j = i
    · subst hji; exact ⟨oi, hi, .inl ⟨hst, hy, H⟩⟩
    · have := ready_mono hj hji
      rw [H.1] at this
      cases this
  | succ fuel ih =>
    intro L a u hfree hr hy H
    refine ⟨fun h => (by rw [h] at hr; cases hr), fun j hj => ?_⟩
    by_cases hji : j = i
    · subst hji; exact ⟨oi, hi, .inl ⟨hst, hy, H⟩⟩
    · obtain ⟨hjun, oj, hoj, hall⟩ := mem_ready.1 hj
      have hnot : ∀ e ∈ oj.after, Region.binds md e = true → e.on ≠ i := fun e he hb heq => by
        have h1 := hall e he hb
        have h0 := (mem_ready.1 hr).1
        rw [heq] at h1
        rw [getD_tf h0] at h1; cases h1
      obtain ⟨p1, p2, p3⟩ := Oper.apart_spec (hfree j oj hoj hji hjun hnot)
      have hfree' : ∀ k ok, ops[k]? = some ok → k ≠ i → (L.setIfInBounds j true).getD k true = false →
          (∀ e ∈ ok.after, Region.binds md e = true → e.on ≠ i) → oi.apart ops ok = true := fun k ok hk hki hun hno => by
        refine hfree k ok hk hki ?_ hno
        by_cases hjk : j = k
        · subst hjk; exact hjun
        · rw [getD_set_ne true hjk] at hun; exact hun
      obtain ⟨o, ho, hcase⟩ := H.2 j (ready_mono hj hji)
      obtain rfl : oj = o := Option.some.inj (hoj.symm.trans ho)
      have hej := execOp_put oj (fun cs b => hsel j oj cs b hoj) a oi.dst (baseV vs i) p1
      have hwj := wanted_put (ops := ops) oj a oi.dst (baseV vs i) p1
      rcases hcase with ⟨hs, hg, hK⟩ | ⟨hs, hg, hK⟩
      · refine ⟨oj, hoj, .inl ⟨hs, hg.eval hej.symm hwj.symm, ih (L.setIfInBounds j true) _ u hfree' (ready_mono hr (Ne.symm hji)) (hy.eval (execOp_put oi (fun cs b => hsel i oi cs b hi) a oj.dst _ p3) (wanted_put oi a oj.dst _ p3)) ?_⟩⟩
        rw [Array.setIfInBounds_comm _ _ hji, ← Act.put_comm a _ _ p2]; exact hK
      · refine ⟨oj, hoj, .inr ⟨hs, hg.eval hej.symm hwj.symm, fun x => ih (L.setIfInBounds j true) _ _ hfree' (ready_mono hr (Ne.symm hji)) (hy.eval (execOp_put oi (fun cs b => hsel i oi cs b hi) a oj.dst x p3) (wanted_put oi a oj.dst x p3)) ?_⟩⟩
        rw [Array.setIfInBounds_comm _ _ hji, ← Act.put_comm a _ _ p2]; exact hK x
theorem anyU_firstU {Q : Array Bool → Act → (Nat → Value) → Prop} {i : Nat} {oi : Oper} (hi : ops[i]? = some oi) (hst : stB vs i = false) (hc : Chained md ops vs) (hsel : ∀ (j : Nat) (o : Oper) cs b, ops[j]? = some o → o.op ≠ .select cs b) :
    ∀ (fuel : Nat) (L : Array Bool) (a : Act) (u : Nat → Value), Closed md ops L → L.size = ops.size → (∀ k, k < i → L.getD k false = true) →
      (∀ j oj, ops[j]? = some oj → j ≠ i → L.getD j true = false → (∀ e ∈ oj.after, Region.binds md e = true → e.on ≠ i) → oi.apart ops oj = true) →
      i ∈ Region.ready md ops L → GU P md ops D oi i a u →
      (∀ x, anyU P md ops vs D Q fuel (L.setIfInBounds i true) (a.put oi.dst x) (upd u i x)) → anyU P md ops vs D Q (fuel + 1) L a u := by
  intro fuel
  induction fuel with
  | zero =>
    intro L a u _ _ _ _ hr hy H
    refine ⟨fun h => (by rw [h] at hr; cases hr), fun j hj => ?_⟩
    by_cases hji : j = i
    · subst hji; exact ⟨oi, hi, .inr ⟨hst, hy, H⟩⟩
    · have := ready_mono hj hji
      rw [(H undef).1] at this
      cases this
  | succ fuel ih =>
    intro L a u hcl hsz hlow hfree hr hy H
    refine ⟨fun h => (by rw [h] at hr; cases hr), fun j hj => ?_⟩
    by_cases hji : j = i
    · subst hji; exact ⟨oi, hi, .inr ⟨hst, hy, H⟩⟩
    · obtain ⟨hjun, oj, hoj, hall⟩ := mem_ready.1 hj
      have hsj := no_other hc hcl hsz hst (mem_ready.1 hr).1 hlow hj hji
      have hnot : ∀ e ∈ oj.after, Region.binds md e = true → e.on ≠ i := fun e he hb heq => by
        have h1 := hall e he hb
        have h0 := (mem_ready.1 hr).1
        rw [heq] at h1
        rw [getD_tf h0] at h1; cases h1
      obtain ⟨p1, p2, p3⟩ := Oper.apart_spec (hfree j oj hoj hji hjun hnot)
      have hfree' : ∀ k ok, ops[k]? = some ok → k ≠ i → (L.setIfInBounds j true).getD k true = false →
          (∀ e ∈ ok.after, Region.binds md e = true → e.on ≠ i) → oi.apart ops ok = true := fun k ok hk hki hun hno => by
        refine hfree k ok hk hki ?_ hno
        by_cases hjk : j = k
        · subst hjk; exact hjun
        · rw [getD_set_ne true hjk] at hun; exact hun
      have hx : ∀ x, GS P md ops vs D oj j a ∧ anyU P md ops vs D Q fuel ((L.setIfInBounds i true).setIfInBounds j true) ((a.put oi.dst x).put oj.dst (baseV vs j)) (upd u i x) := fun x => by
        obtain ⟨o, ho, hcase⟩ := (H x).2 j (ready_mono hj hji)
        obtain rfl : oj = o := Option.some.inj (hoj.symm.trans ho)
        rcases hcase with ⟨hs, hg, hK⟩ | ⟨hs, hg, hK⟩
        · exact ⟨hg.eval (execOp_put oj (fun cs b => hsel j oj cs b hoj) a oi.dst x p1).symm (wanted_put (ops := ops) oj a oi.dst x p1).symm, hK⟩
        · rw [hs] at hsj; cases hsj
      refine ⟨oj, hoj, .inl ⟨hsj, (hx undef).1, ih (L.setIfInBounds j true) _ u (hcl.set hj) (by simpa using hsz) (fun k hk => set_mono (hlow k hk)) hfree' (ready_mono hr (Ne.symm hji)) (hy.eval (execOp_put oi (fun cs b => hsel i oi cs b hi) a oj.dst _ p3) (wanted_put oi a oj.dst _ p3)) fun x => ?_⟩⟩
      rw [Array.setIfInBounds_comm _ _ hji, ← Act.put_comm a _ _ p2]; exact (hx x).2
/-- The walk in the text's order. -/
def flowU (P : Program) (md : Region.Mode) (ops : Array Oper) (vs : List (Option Value)) (D : (Nat → Value) → Array Bool → World → Prop) (Q : Act → (Nat → Value) → Prop) : Nat → List Oper → Act → (Nat → Value) → Prop
  | _, [], a, u => Q a u
  | k, o :: rest, a, u => (stB vs k = true ∧ GS P md ops vs D o k a ∧ flowU P md ops vs D Q (k + 1) rest (a.put o.dst (baseV vs k)) u) ∨ (stB vs k = false ∧ GU P md ops D o k a u ∧ ∀ x, flowU P md ops vs D Q (k + 1) rest (a.put o.dst x) (upd u k x))
theorem anyU_lex (hc : Chained md ops vs) {Q : Act → (Nat → Value) → Prop} (hs : Region.noSelect ops = true) : ∀ (l : List Oper) (k : Nat) (L : Array Bool) (a : Act) (u : Nat → Value), (∀ j, l[j]? = ops[k + j]?) → L.size = ops.size → k + l.length = ops.size → (∀ i, i < k → L.getD i false = true) → Closed md ops L →
    Region.lexFrom md ops l.length k L = true → flowU P md ops vs D Q k l a u → anyU P md ops vs D (fun L a u => (∀ i, i < ops.size → L.getD i false = true) ∧ Q a u) l.length L a u
  | [], k, _, _, _, _, _, hk, hall, _, hB, h => ⟨by simpa [Region.lexFrom] using hB, fun i hi => hall i (by simp at hk; omega), h⟩
  | o :: l, k, L, a, u, hl, hz, hk, hall, hcl, hB, h => by
    have h0 : ops[k]? = some o := by simpa using (hl 0).symm
    simp only [List.length_cons, Region.lexFrom, Bool.and_eq_true] at hB
    obtain ⟨⟨hr, hf⟩, hB'⟩ := hB
    have hlt : k < L.size := by simp only [List.length_cons] at hk; omega
    have hrk : k ∈ Region.ready md ops L := by simpa using hr
    have next : ∀ a u, flowU P md ops vs D Q (k + 1) l a u → anyU P md ops vs D (fun L a u => (∀ i, i < ops.size → L.getD i false = true) ∧ Q a u) l.length (L.setIfInBounds k true) a u := fun a u hK =>
      anyU_lex hc hs l (k + 1) _ _ u (fun j => by have := hl (j + 1); simpa [Nat.add_assoc, Nat.add_comm 1 j] using this) (by simpa using hz) (by simp only [List.length_cons] at hk; omega)
        (fun i hi => by
          by_cases hik : i = k
          · subst hik; simp [hlt]
          · rw [getD_set_ne false (Ne.symm hik)]; exact hall i (by omega)) (hcl.set hrk) hB' hK
    rcases h with ⟨hst, hy, hK⟩ | ⟨hst, hy, hK⟩
    · exact anyU_firstS h0 hst (Region.noSelect_spec hs) l.length L a u (Region.free_spec h0 hf) hrk hy (next _ _ hK)
    · exact anyU_firstU h0 hst hc (Region.noSelect_spec hs) l.length L a u hcl hz hall (Region.free_spec h0 hf) hrk hy (fun x => next _ _ (hK x))
theorem wp_region_chain {id : Nat} {Q : Exit → Act → World → Prop} {a : Act} {w : World} {l : List Oper} (vs : List (Option Value)) (D : (Nat → Value) → Array Bool → World → Prop) (hm : P.follows .mixedOrders = true) (hB : Region.lexB .any l.toArray = true) (hch : chainB l vs = true)
    (hC : ∀ L : Array Bool, (∀ i, L.getD i false = false) → D (fun _ => undef) L { w with drawn := w.drawn + 1 })
    (h : flowU P .any l.toArray vs D (fun a' u => ∀ L w', (∀ i, i < l.length → L.getD i false = true) → D u L w' → Q .normal a' w') 0 l a (fun _ => undef)) : (Code.region id l.toArray true).wp P Q a w := by
  simp only [Region.lexB, Bool.and_eq_true] at hB
  refine wp_region_any hm (wpAny_of_anyU (vs := vs) (D := D) (Q := fun L a u => (∀ i, i < l.toArray.size → L.getD i false = true) ∧ ∀ L w', (∀ i, i < l.length → L.getD i false = true) → D u L w' → Q .normal a w')
    (fun L a u w' hw' h => h.2 L w' (by simpa using h.1) hw') _ _ _ (fun _ => undef) _ (hC _ (fun i => getD_replicate_none _ _)) ?_)
  have := anyU_lex (Chained.of hch) hB.1 l 0 (Array.replicate l.length false) a (fun _ => undef) (by simp) (by simp) (by simp) (fun i hi => absurd hi (by omega)) (fun c oc _ hl => by rw [getD_replicate_none] at hl; cases hl) (by simpa using hB.2) h
  simpa using this
theorem flowU_st {Q : Act → (Nat → Value) → Prop} {k : Nat} {o : Oper} {rest : List Oper} {a : Act} {u : Nat → Value} (hs : stB vs k = true) (hg : o.guard = none)
    (h1 : ∀ u L w, L.getD k true = false → Behind md o L → D u L w → goesUpon P (D u (L.setIfInBounds k true)) (baseV vs k) ((execOp a.eval o).run P w)) (h2 : flowU P md ops vs D Q (k + 1) rest (a.put o.dst (baseV vs k)) u) : flowU P md ops vs D Q k (o :: rest) a u :=
  .inl ⟨hs, fun u => .inl ⟨by simp [Region.wanted, hg], h1 u⟩, h2⟩
theorem flowU_ch {Q : Act → (Nat → Value) → Prop} {k : Nat} {o : Oper} {rest : List Oper} {a : Act} {u : Nat → Value} (hs : stB vs k = false) (hg : o.guard = none)
    (h1 : ∀ L w, L.getD k true = false → Behind md o L → D u L w → eachUpon P (fun x w' => D (upd u k x) (L.setIfInBounds k true) w') ((execOp a.eval o).run P w)) (h2 : ∀ x, flowU P md ops vs D Q (k + 1) rest (a.put o.dst x) (upd u k x)) : flowU P md ops vs D Q k (o :: rest) a u :=
  .inr ⟨hs, ⟨by simp [Region.wanted, hg], h1⟩, h2⟩
theorem flowU_imp {Q Q' : Act → (Nat → Value) → Prop} : ∀ (l : List Oper) (k : Nat) (a : Act) (u : Nat → Value), (∀ a u, Q a u → Q' a u) → flowU P md ops vs D Q k l a u → flowU P md ops vs D Q' k l a u
  | [], _, _, _, hq, h => hq _ _ h
  | o :: rest, k, a, u, hq, h => by
    rcases h with ⟨h1, h2, h3⟩ | ⟨h1, h2, h3⟩
    · exact .inl ⟨h1, h2, flowU_imp rest (k + 1) _ _ hq h3⟩
    · exact .inr ⟨h1, h2, fun x => flowU_imp rest (k + 1) _ _ hq (h3 x)⟩
theorem flowU_nil {Q : Act → (Nat → Value) → Prop} {k : Nat} {a : Act} {u : Nat → Value} (h : Q a u) : flowU P md ops vs D Q k [] a u := h
end
end Go.Proofs.YtcegllnljaapiaaGreat
namespace Go.Proofs.YtcegllnljaapiaaGreat
open Go.RowKit
section
variable {P : Program} {ops : Array Oper} {md : Region.Mode} {vs : List (Option Value)} {D : (Nat → Value) → Array Bool → World → Prop}
theorem upd_comm (u : Nat → Value) {i j : Nat} (x y : Value) (h : i ≠ j) : upd (upd u i x) j y = upd (upd u j y) i x := by
  funext k
  unfold upd
  by_cases h1 : k = j
  · by_cases h2 : k = i
    · exact absurd (h2.symm.trans h1) h
    · rw [if_pos h1, if_neg h2, if_pos h1]
  · rw [if_neg h1]
    by_cases h2 : k = i
    · rw [if_pos h2, if_pos h2]
    · rw [if_neg h2, if_neg h2, if_neg h1]
def GV (P : Program) (md : Region.Mode) (ops : Array Oper) (D : (Nat → Value) → Array Bool → World → Prop) (o : Oper) (i : Nat) (a : Act) (u : Nat → Value) : Prop :=
  Region.wanted o (yielded ops a.tmps) = true ∧ ∀ u', (∀ e ∈ o.after, Region.binds md e = true → u' e.on = u e.on) → ∀ L w, L.getD i true = false → Behind md o L → D u' L w → eachUpon P (fun x w' => D (upd u' i x) (L.setIfInBounds i true) w') ((execOp a.eval o).run P w)
theorem GV.eval {o : Oper} {i : Nat} {a a' : Act} {u u' : Nat → Value} (h : GV P md ops D o i a u) (he : execOp a'.eval o = execOp a.eval o) (hw : Region.wanted o (yielded ops a'.tmps) = Region.wanted o (yielded ops a.tmps)) (hu : ∀ e ∈ o.after, Region.binds md e = true → u' e.on = u e.on) : GV P md ops D o i a' u' := by
  unfold GV at *
  rw [he, hw]
  exact ⟨h.1, fun v hv => h.2 v fun e h1 h2 => (hv e h1 h2).trans (hu e h1 h2)⟩
def opV (P : Program) (md : Region.Mode) (ops : Array Oper) (vs : List (Option Value)) (D : (Nat → Value) → Array Bool → World → Prop) (i : Nat) (K : Act → (Nat → Value) → Prop) (a : Act) (u : Nat → Value) : Prop :=
  ∃ o, ops[i]? = some o ∧ ((stB vs i = true ∧ GS P md ops vs D o i a ∧ K (a.put o.dst (baseV vs i)) u) ∨ (stB vs i = false ∧ GV P md ops D o i a u ∧ ∀ x, K (a.put o.dst x) (upd u i x)))
def anyV (P : Program) (md : Region.Mode) (ops : Array Oper) (vs : List (Option Value)) (D : (Nat → Value) → Array Bool → World → Prop) (Q : Array Bool → Act → (Nat → Value) → Prop) : Nat → Array Bool → Act → (Nat → Value) → Prop
  | 0, L, a, u => Region.ready md ops L = [] ∧ Q L a u
  | fuel + 1, L, a, u => (Region.ready md ops L = [] → Q L a u) ∧ ∀ i ∈ Region.ready md ops L, opV P md ops vs D i (anyV P md ops vs D Q fuel (L.setIfInBounds i true)) a u
theorem wpAny_of_anyV {Q : Array Bool → Act → (Nat → Value) → Prop} {Q' : Exit → Act → World → Prop} (hQ : ∀ L a u w, D u L w → Q L a u → Q' .normal a w) : ∀ (fuel : Nat) (L : Array Bool) (a : Act) (u : Nat → Value) (w : World), D u L w →
    anyV P md ops vs D Q fuel L a u → wpAny P md ops Q' fuel L a w
  | 0, _, _, _, _, hw, h => ⟨h.1, hQ _ _ _ _ hw h.2⟩
  | fuel + 1, L, a, u, w, hw, h => by
    refine ⟨fun h0 => hQ _ _ _ _ hw (h.1 h0), fun i hi => ?_⟩
    obtain ⟨o, ho, ⟨hs, hg, hK⟩ | ⟨hs, hg, hK⟩⟩ := h.2 i hi
    · exact wpOp_of_flowOp (C := D u) (K := fun a' => anyV P md ops vs D Q fuel (L.setIfInBounds i true) a' u) hi hw (fun a' w' hw' hK => wpAny_of_anyV hQ fuel _ a' u w' hw' hK) ⟨o, _, ho, hg u, hK⟩
    · obtain ⟨hun, oj, hoj, hall⟩ := mem_ready.1 hi
      obtain rfl : oj = o := Option.some.inj (hoj.symm.trans ho)
      have hbe : Behind md oj L := fun e he hb => by simpa using hall e he hb
      have h3 := hg.2 u (fun _ _ _ => rfl) L w hun hbe hw
      unfold wpOp
      simp only [ho]
      rw [if_pos hg.1]
      refine .inl ?_
      unfold Oper.wp
      generalize (execOp a.eval oj).run P w = r at *
      cases r with
      | ok n w' =>
        cases n <;> simp only [eachUpon] at h3 <;> simp only [Oper.upon]
        case value x => exact wpAny_of_anyV hQ fuel _ _ _ _ h3 (hK x)
        case skip => exact wpAny_of_anyV hQ fuel _ _ _ _ h3 (hK undef)
        case enter f args => exact h3.mono fun e w'' ⟨x, he, hw''⟩ => by subst he; exact wpAny_of_anyV hQ fuel _ _ _ _ hw'' (hK x)
      | halt x w' => simp only [eachUpon] at h3
theorem anyV_firstS {Q : Array Bool → Act → (Nat → Value) → Prop} {i : Nat} {oi : Oper} (hi : ops[i]? = some oi) (hst : stB vs i = true) (hsel : ∀ (j : Nat) (o : Oper) cs b, ops[j]? = some o → o.op ≠ .select cs b) :
    ∀ (fuel : Nat) (L : Array Bool) (a : Act) (u : Nat → Value),
      (∀ j oj, ops[j]? = some oj → j ≠ i → L.getD j true = false → (∀ e ∈ oj.after, Region.binds md e = true → e.on ≠ i) → oi.apart ops oj = true) →
      i ∈ Region.ready md ops L → GS P md ops vs D oi i a →
      anyV P md ops vs D Q fuel (L.setIfInBounds i true) (a.put oi.dst (baseV vs i)) u → anyV P md ops vs D Q (fuel + 1) L a u := by
  intro fuel
  induction fuel with
  | zero =>
    intro L a u _ hr hy H
    refine ⟨fun h => (by rw [h] at hr; cases hr), fun j hj => ?_⟩
    by_cases hji : j = i
    · subst hji; exact ⟨oi, hi, .inl ⟨hst, hy, H⟩⟩
    · have := ready_mono hj hji
      rw [H.1] at this
      cases this
  | succ fuel ih =>
    intro L a u hfree hr hy H
    refine ⟨fun h => (by rw [h] at hr; cases hr), fun j hj => ?_⟩
    by_cases hji : j = i
    · subst hji; exact ⟨oi, hi, .inl ⟨hst, hy, H⟩⟩
    · obtain ⟨hjun, oj, hoj, hall⟩ := mem_ready.1 hj
      have hnot : ∀ e ∈ oj.after, Region.binds md e = true → e.on ≠ i := fun e he hb heq => by
        have h1 := hall e he hb
        have h0 := (mem_ready.1 hr).1
        rw [heq] at h1
        rw [getD_tf h0] at h1; cases h1
      obtain ⟨p1, p2, p3⟩ := Oper.apart_spec (hfree j oj hoj hji hjun hnot)
      have hfree' : ∀ k ok, ops[k]? = some ok → k ≠ i → (L.setIfInBounds j true).getD k true = false →
          (∀ e ∈ ok.after, Region.binds md e = true → e.on ≠ i) → oi.apart ops ok = true := fun k ok hk hki hun hno => by
        refine hfree k ok hk hki ?_ hno
        by_cases hjk : j = k
        · subst hjk; exact hjun
        · rw [getD_set_ne true hjk] at hun; exact hun
      obtain ⟨o, ho, hcase⟩ := H.2 j (ready_mono hj hji)
      obtain rfl : oj = o := Option.some.inj (hoj.symm.trans ho)
      have hej := execOp_put oj (fun cs b => hsel j oj cs b hoj) a oi.dst (baseV vs i) p1
      have hwj := wanted_put (ops := ops) oj a oi.dst (baseV vs i) p1
      rcases hcase with ⟨hs, hg, hK⟩ | ⟨hs, hg, hK⟩
      · refine ⟨oj, hoj, .inl ⟨hs, hg.eval hej.symm hwj.symm, ih (L.setIfInBounds j true) _ u hfree' (ready_mono hr (Ne.symm hji)) (hy.eval (execOp_put oi (fun cs b => hsel i oi cs b hi) a oj.dst _ p3) (wanted_put oi a oj.dst _ p3)) ?_⟩⟩
        rw [Array.setIfInBounds_comm _ _ hji, ← Act.put_comm a _ _ p2]; exact hK
      · refine ⟨oj, hoj, .inr ⟨hs, hg.eval hej.symm hwj.symm (fun _ _ _ => rfl), fun x => ih (L.setIfInBounds j true) _ _ hfree' (ready_mono hr (Ne.symm hji)) (hy.eval (execOp_put oi (fun cs b => hsel i oi cs b hi) a oj.dst x p3) (wanted_put oi a oj.dst x p3)) ?_⟩⟩
        rw [Array.setIfInBounds_comm _ _ hji, ← Act.put_comm a _ _ p2]; exact hK x
theorem anyV_firstV {Q : Array Bool → Act → (Nat → Value) → Prop} {i : Nat} {oi : Oper} (hi : ops[i]? = some oi) (hst : stB vs i = false) (hsel : ∀ (j : Nat) (o : Oper) cs b, ops[j]? = some o → o.op ≠ .select cs b) :
    ∀ (fuel : Nat) (L : Array Bool) (a : Act) (u : Nat → Value),
      (∀ j oj, ops[j]? = some oj → j ≠ i → L.getD j true = false → (∀ e ∈ oj.after, Region.binds md e = true → e.on ≠ i) → oi.apart ops oj = true) →
      i ∈ Region.ready md ops L → GV P md ops D oi i a u →
      (∀ x, anyV P md ops vs D Q fuel (L.setIfInBounds i true) (a.put oi.dst x) (upd u i x)) → anyV P md ops vs D Q (fuel + 1) L a u := by
  intro fuel
  induction fuel with
  | zero =>
    intro L a u _ hr hy H
    refine ⟨fun h => (by rw [h] at hr; cases hr), fun j hj => ?_⟩
    by_cases hji : j = i
    · subst hji; exact ⟨oi, hi, .inr ⟨hst, hy, H⟩⟩
    · have := ready_mono hj hji
      rw [(H undef).1] at this
      cases this
  | succ fuel ih =>
    intro L a u hfree hr hy H
    refine ⟨fun h => (by rw [h] at hr; cases hr), fun j hj => ?_⟩
    by_cases hji : j = i
    · subst hji; exact ⟨oi, hi, .inr ⟨hst, hy, H⟩⟩
    · obtain ⟨hjun, oj, hoj, hall⟩ := mem_ready.1 hj
      have hnot : ∀ e ∈ oj.after, Region.binds md e = true → e.on ≠ i := fun e he hb heq => by
        have h1 := hall e he hb
        have h0 := (mem_ready.1 hr).1
        rw [heq] at h1
        rw [getD_tf h0] at h1; cases h1
      have hnoti : ∀ e ∈ oi.after, Region.binds md e = true → e.on ≠ j := fun e he hb heq => by
        obtain ⟨_, oi', hoi', hall'⟩ := mem_ready.1 hr
        obtain rfl : oi = oi' := Option.some.inj (hi.symm.trans hoi')
        have h1 := hall' e he hb
        rw [heq] at h1
        rw [getD_tf hjun] at h1; cases h1
      obtain ⟨p1, p2, p3⟩ := Oper.apart_spec (hfree j oj hoj hji hjun hnot)
      have hfree' : ∀ k ok, ops[k]? = some ok → k ≠ i → (L.setIfInBounds j true).getD k true = false →
          (∀ e ∈ ok.after, Region.binds md e = true → e.on ≠ i) → oi.apart ops ok = true := fun k ok hk hki hun hno => by
        refine hfree k ok hk hki ?_ hno
        by_cases hjk : j = k
        · subst hjk; exact hjun
        · rw [getD_set_ne true hjk] at hun; exact hun
      have hej : ∀ x, execOp (a.put oi.dst x).eval oj = execOp a.eval oj := fun x => execOp_put oj (fun cs b => hsel j oj cs b hoj) a oi.dst x p1
      have hwj : ∀ x, Region.wanted oj (yielded ops (a.put oi.dst x).tmps) = Region.wanted oj (yielded ops a.tmps) := fun x => wanted_put (ops := ops) oj a oi.dst x p1
      have hei : ∀ y, execOp (a.put oj.dst y).eval oi = execOp a.eval oi := fun y => execOp_put oi (fun cs b => hsel i oi cs b hi) a oj.dst y p3
      have hwi : ∀ y, Region.wanted oi (yielded ops (a.put oj.dst y).tmps) = Region.wanted oi (yielded ops a.tmps) := fun y => wanted_put (ops := ops) oi a oj.dst y p3
      cases hsj : stB vs j with
      | true =>
        have hx : ∀ x, GS P md ops vs D oj j a ∧ anyV P md ops vs D Q fuel ((L.setIfInBounds i true).setIfInBounds j true) ((a.put oi.dst x).put oj.dst (baseV vs j)) (upd u i x) := fun x => by
          obtain ⟨o, ho, hcase⟩ := (H x).2 j (ready_mono hj hji)
          obtain rfl : oj = o := Option.some.inj (hoj.symm.trans ho)
          rcases hcase with ⟨hs, hg, hK⟩ | ⟨hs, hg, hK⟩
          · exact ⟨hg.eval (hej x).symm (hwj x).symm, hK⟩
          · rw [hs] at hsj; cases hsj
        refine ⟨oj, hoj, .inl ⟨hsj, (hx undef).1, ih (L.setIfInBounds j true) _ u hfree' (ready_mono hr (Ne.symm hji)) (hy.eval (hei _) (hwi _) (fun _ _ _ => rfl)) fun x => ?_⟩⟩
        rw [Array.setIfInBounds_comm _ _ hji, ← Act.put_comm a _ _ p2]; exact (hx x).2
      | false =>
        have hx : ∀ x, GV P md ops D oj j a u ∧ ∀ y, anyV P md ops vs D Q fuel ((L.setIfInBounds i true).setIfInBounds j true) ((a.put oi.dst x).put oj.dst y) (upd (upd u i x) j y) := fun x => by
          obtain ⟨o, ho, hcase⟩ := (H x).2 j (ready_mono hj hji)
          obtain rfl : oj = o := Option.some.inj (hoj.symm.trans ho)
          rcases hcase with ⟨hs, hg, hK⟩ | ⟨hs, hg, hK⟩
          · rw [hs] at hsj; cases hsj
          · exact ⟨hg.eval (hej x).symm (hwj x).symm (fun e h1 h2 => (upd_other u x (hnot e h1 h2)).symm), hK⟩
        refine ⟨oj, hoj, .inr ⟨hsj, (hx undef).1, fun y => ih (L.setIfInBounds j true) _ _ hfree' (ready_mono hr (Ne.symm hji)) (hy.eval (hei y) (hwi y) (fun e h1 h2 => upd_other u y (hnoti e h1 h2))) fun x => ?_⟩⟩
        rw [Array.setIfInBounds_comm _ _ hji, ← Act.put_comm a _ _ p2, ← upd_comm u x y (Ne.symm hji)]; exact (hx x).2 y
/-- The walk in the text's order. -/
def flowV (P : Program) (md : Region.Mode) (ops : Array Oper) (vs : List (Option Value)) (D : (Nat → Value) → Array Bool → World → Prop) (Q : Act → (Nat → Value) → Prop) : Nat → List Oper → Act → (Nat → Value) → Prop
  | _, [], a, u => Q a u
  | k, o :: rest, a, u => (stB vs k = true ∧ GS P md ops vs D o k a ∧ flowV P md ops vs D Q (k + 1) rest (a.put o.dst (baseV vs k)) u) ∨ (stB vs k = false ∧ GV P md ops D o k a u ∧ ∀ x, flowV P md ops vs D Q (k + 1) rest (a.put o.dst x) (upd u k x))
theorem anyV_lex {Q : Act → (Nat → Value) → Prop} (hs : Region.noSelect ops = true) : ∀ (l : List Oper) (k : Nat) (L : Array Bool) (a : Act) (u : Nat → Value), (∀ j, l[j]? = ops[k + j]?) → L.size = ops.size → k + l.length = ops.size → (∀ i, i < k → L.getD i false = true) →
    Region.lexFrom md ops l.length k L = true → flowV P md ops vs D Q k l a u → anyV P md ops vs D (fun L a u => (∀ i, i < ops.size → L.getD i false = true) ∧ Q a u) l.length L a u
  | [], k, _, _, _, _, _, hk, hall, hB, h => ⟨by simpa [Region.lexFrom] using hB, fun i hi => hall i (by simp at hk; omega), h⟩
  | o :: l, k, L, a, u, hl, hz, hk, hall, hB, h => by
    have h0 : ops[k]? = some o := by simpa using (hl 0).symm
    simp only [List.length_cons, Region.lexFrom, Bool.and_eq_true] at hB
    obtain ⟨⟨hr, hf⟩, hB'⟩ := hB
    have hlt : k < L.size := by simp only [List.length_cons] at hk; omega
    have hrk : k ∈ Region.ready md ops L := by simpa using hr
    have next : ∀ a u, flowV P md ops vs D Q (k + 1) l a u → anyV P md ops vs D (fun L a u => (∀ i, i < ops.size → L.getD i false = true) ∧ Q a u) l.length (L.setIfInBounds k true) a u := fun a u hK =>
      anyV_lex hs l (k + 1) _ _ u (fun j => by have := hl (j + 1); simpa [Nat.add_assoc, Nat.add_comm 1 j] using this) (by simpa using hz) (by simp only [List.length_cons] at hk; omega)
        (fun i hi => by
          by_cases hik : i = k
          · subst hik; simp [hlt]
          · rw [getD_set_ne false (Ne.symm hik)]; exact hall i (by omega)) hB' hK
    rcases h with ⟨hst, hy, hK⟩ | ⟨hst, hy, hK⟩
    · exact anyV_firstS h0 hst (Region.noSelect_spec hs) l.length L a u (Region.free_spec h0 hf) hrk hy (next _ _ hK)
    · exact anyV_firstV h0 hst (Region.noSelect_spec hs) l.length L a u (Region.free_spec h0 hf) hrk hy (fun x => next _ _ (hK x))
theorem wp_region_any3 {id : Nat} {Q : Exit → Act → World → Prop} {a : Act} {w : World} {l : List Oper} (vs : List (Option Value)) (D : (Nat → Value) → Array Bool → World → Prop) (hm : P.follows .mixedOrders = true) (hB : Region.lexB .any l.toArray = true)
    (hC : ∀ L : Array Bool, (∀ i, L.getD i false = false) → D (fun _ => undef) L w.drew)
    (h : flowV P .any l.toArray vs D (fun a' u => ∀ L w', (∀ i, i < l.length → L.getD i false = true) → D u L w' → Q .normal a' w') 0 l a (fun _ => undef)) : (Code.region id l.toArray true).wp P Q a w := by
  simp only [Region.lexB, Bool.and_eq_true] at hB
  refine wp_region_any hm (wpAny_of_anyV (vs := vs) (D := D) (Q := fun L a u => (∀ i, i < l.toArray.size → L.getD i false = true) ∧ ∀ L w', (∀ i, i < l.length → L.getD i false = true) → D u L w' → Q .normal a w')
    (fun L a u w' hw' h => h.2 L w' (by simpa using h.1) hw') _ _ _ (fun _ => undef) _ (hC _ (fun i => getD_replicate_none _ _)) ?_)
  have := anyV_lex hB.1 l 0 (Array.replicate l.length false) a (fun _ => undef) (by simp) (by simp) (by simp) (fun i hi => absurd hi (by omega)) (by simpa using hB.2) h
  simpa using this
theorem flowV_st {Q : Act → (Nat → Value) → Prop} {k : Nat} {o : Oper} {rest : List Oper} {a : Act} {u : Nat → Value} (hs : stB vs k = true) (hg : o.guard = none)
    (h1 : ∀ u L w, L.getD k true = false → Behind md o L → D u L w → goesUpon P (D u (L.setIfInBounds k true)) (baseV vs k) ((execOp a.eval o).run P w)) (h2 : flowV P md ops vs D Q (k + 1) rest (a.put o.dst (baseV vs k)) u) : flowV P md ops vs D Q k (o :: rest) a u :=
  .inl ⟨hs, fun u => .inl ⟨by simp [Region.wanted, hg], h1 u⟩, h2⟩
theorem flowV_ch {Q : Act → (Nat → Value) → Prop} {k : Nat} {o : Oper} {rest : List Oper} {a : Act} {u : Nat → Value} (hs : stB vs k = false) (hg : o.guard = none)
    (h1 : ∀ u', (∀ e ∈ o.after, Region.binds md e = true → u' e.on = u e.on) → ∀ L w, L.getD k true = false → Behind md o L → D u' L w → eachUpon P (fun x w' => D (upd u' k x) (L.setIfInBounds k true) w') ((execOp a.eval o).run P w)) (h2 : ∀ x, flowV P md ops vs D Q (k + 1) rest (a.put o.dst x) (upd u k x)) : flowV P md ops vs D Q k (o :: rest) a u :=
  .inr ⟨hs, ⟨by simp [Region.wanted, hg], h1⟩, h2⟩
theorem flowV_nil {Q : Act → (Nat → Value) → Prop} {k : Nat} {a : Act} {u : Nat → Value} (h : Q a u) : flowV P md ops vs D Q k [] a u := h
end
end Go.Proofs.YtcegllnljaapiaaGreat
namespace Go.Proofs.YtcegllnljaapiaaGreat
open Go.RowKit
/-- The element type e of the slice type t: its size in cells and in bytes. -/
def Elem (P : Program) (t e : TypeId) (size bytes : Nat) : Prop :=
  P.underlying t = some (.slice e) ∧ ∃ i z, P.info? e = some i ∧ i.zero = some z ∧ i.size = size ∧ i.bytes = bytes ∧ z.cells.size = size ∧ 0 < size
theorem elem_of {P : Program} {t e : TypeId} {z : Value} {size bytes : Nat} (ht : P.underlying t = some (.slice e)) (h : (P.info? e).map (fun i => (i.zero, i.size, i.bytes)) = some (some z, size, bytes))
    (hz : z.cells.size = size) (hs : 0 < size) : Elem P t e size bytes := by
  obtain ⟨i, h1, h2, h3, h4⟩ := info_parts h
  exact ⟨ht, i, z, h1, h2, h3, h4, hz, hs⟩
/-- Where the value v' of an append to v (in a world with H blocks) lies: v's own row, or a new block. -/
def NewRow (v v' : Value) (H : Nat) : Prop := v'.ownBlock = v.ownBlock ∨ ∃ g, v'.ownBlock = some g ∧ H ≤ g
section
variable {P : Program}
theorem wpList_app1 {w : World} {ops : Array Oper} {rest : List Oper} {o : Oper} {a : Act} {Q : Exit → Act → World → Prop} (hgd : o.guard = none) (s x : Operand) (t : TypeId)
    (ho : o.op = .call { callee := .builtin .append, args := #[s, x], argTypes := #[t, t] })
    (base : Nat) (e : TypeId) (size bytes : Nat) (hE : Elem P t e size bytes)
    (v : Value) (n : Nat) (xs : List Value) (hs : a.eval s = v) (wr : World) (cs : Array Value) (hw : w = wr.alloc (.cells cs e)) (H : Nat) (hH : wr.heap.size = H) (hx : a.eval x = .slice (some ⟨H, 0, none⟩) 1 1)
    (hown : wr.ownsRow base e size v n xs) (hcs : cs.size = size) (h1 : ∀ u ∈ cs.toList, u.oneCell' = true)
    (hbytes : (n + 1) * bytes ≤ 140737488355328) (h63 : n + 1 ≤ maxLen) (hbase : base ≤ wr.heap.size)
    (h : ∀ v' w', w'.ownsRow base e size v' (n + 1) (xs ++ cs.toList) → wr.grownBy w' v.ownBlock → NewRow v v' wr.heap.size → wr.heap.size < w'.heap.size → wpList P ops Q rest (a.put o.dst v') w') : wpList P ops Q (o :: rest) a w := by
  obtain ⟨ht, i, z, hi, hz, hsz, hby, hzs, hpos⟩ := hE
  subst hw hH
  have hnews : ∀ j u, cs.toList[j]? = some u → (wr.alloc (.cells cs e)).cell? ((⟨wr.heap.size, 0, none⟩ : Addr).add j) = some u := by
    intro j u hu
    have hb := heap_alloc_new wr (.cells cs e)
    have : ((⟨wr.heap.size, 0, none⟩ : Addr).add j) = ⟨wr.heap.size, j, none⟩ := by unfold Addr.add; split <;> simp_all
    rw [this, cell_of_row _ _ j cs e (0, 0) hb]
    simpa using hu
  obtain ⟨v', w', hrun, h2, h3, _, h5⟩ := run_append_own_at (P := P) (wr.alloc (.cells cs e)) base t o.type e i z size bytes ht hi hz hsz hby hzs hpos v n xs (hown.alloc _) ⟨wr.heap.size, 0, none⟩ 1 1 cs.toList (by rw [Array.length_toList, hcs, Nat.one_mul]) hnews h1 h63 hbytes (Nat.le_trans hbase (by simp))
  refine wpList_plain hgd fun _ hK => ?_
  unfold Oper.wp execOp
  simp only [ho, resolve, invoke, builtin, Sem.run_bind, Sem.run_pure, Result.andThen_ok, List.map_toArray, List.map_cons, List.map_nil, hs, hx, hrun]
  refine hK _ _ (h v' w' h2 ⟨h3.os, h3.tape, h3.output, Nat.le_trans (by simp) h3.size, fun k hk hne => (h3.block k (by simp; omega) hne).trans (Below.heap_alloc wr _ k hk)⟩ ?_ ?_)
  · rcases h5 with h5 | h5
    · exact .inl h5
    · exact .inr ⟨_, h5, by simp⟩
  · have := h3.size
    simp at this; omega
end
theorem row_empty (w : World) (base : Nat) (e : TypeId) (size : Nat) (hb : base ≤ w.heap.size) : (w.alloc (.cells #[] e)).ownsRow base e size (.slice (some ⟨w.heap.size, 0, none⟩) 0 0) 0 [] :=
  ⟨by simp, .inr ⟨w.heap.size, 0, #[], rfl, hb, heap_alloc_new w _, Nat.le_refl _, by simp [maxLen], by simp, by simp⟩⟩
theorem own_base {w : World} {base : Nat} {e : TypeId} {size : Nat} {v : Value} {n : Nat} {xs : List Value} (h : w.ownsRow base e size v n xs) : ∀ k, v.ownBlock = some k → base ≤ k := by
  intro k hk
  rcases h.2 with ⟨rfl, _⟩ | ⟨g, cap, cur, rfl, hb, _⟩
  · simp [Value.ownBlock] at hk
  · have : g = k := by simpa [Value.ownBlock] using hk
    omega
def strV (l : List (List UInt8)) : List Value := l.map fun s => Value.string ⟨s.toArray⟩
theorem strV_snoc (l : List (List UInt8)) (s : List UInt8) : strV (l ++ [s]) = strV l ++ [Value.string ⟨s.toArray⟩] := by simp [strV]
theorem elemStr : Elem Tryz.prog 73 9 1 16 := elem_of Tryz.underlying73 (z := .string ⟨#[]⟩) (by kernel_rfl) rfl (by omega)
end Go.Proofs.YtcegllnljaapiaaGreat
namespace Go.Proofs.YtcegllnljaapiaaGreat
open Go.RowKit
theorem own_form {w : World} {base : Nat} {e : TypeId} {size : Nat} {v : Value} {n : Nat} {xs : List Value} (h : w.ownsRow base e size v n xs) (hn : 0 < n) : ∃ g cap, v = .slice (some ⟨g, 0, none⟩) n cap := by
  rcases h.2 with ⟨_, h0⟩ | ⟨g, cap, cur, hv, _⟩
  · omega
  · exact ⟨g, cap, hv⟩
theorem own_below {w w' : World} {base : Nat} {e : TypeId} {size : Nat} {v : Value} {n : Nat} {xs : List Value} (h : w.ownsRow base e size v n xs) (hb : Below w.heap.size w w') : w'.ownsRow base e size v n xs :=
  h.kept (row := none) ⟨hb.os, hb.tape, hb.output, hb.size, fun k hk _ => hb.block k hk⟩ (by cases hv : v.ownBlock <;> simp)
theorem grown_cell {w w' : World} {row : Option Nat} (hg : w.grownBy w' row) {g o : Nat} {v : Value} (hc : w.cell? ⟨g, o, none⟩ = some v) (hne : some g ≠ row) : w'.cell? ⟨g, o, none⟩ = some v :=
  (World.cell?_of_block (hg.block g (World.block_lt_of_cell? w _ hc) hne)).trans hc
theorem own_lt {w : World} {base : Nat} {e : TypeId} {size : Nat} {n : Nat} {xs : List Value} {g c : Nat} (h : w.ownsRow base e size (.slice (some ⟨g, 0, none⟩) n c) n xs) : g < w.heap.size := by
  rcases h.2 with ⟨h, _⟩ | ⟨g', cap, cur, hv, _, hh, _⟩
  · cases h
  · injection hv with hv
    injection hv with hv
    injection hv with hv
    subst hv
    rcases Nat.lt_or_ge g w.heap.size with hlt | hge
    · exact hlt
    · rw [Array.getElem?_eq_none hge] at hh; cases hh
theorem own_lower {w : World} {base b : Nat} {e : TypeId} {size : Nat} {v : Value} {n : Nat} {xs : List Value} (h : w.ownsRow base e size v n xs) (hb : b ≤ base) : w.ownsRow b e size v n xs := by
  refine ⟨h.1, ?_⟩
  rcases h.2 with h2 | ⟨g, cap, cur, hv, hg, h3⟩
  · exact .inl h2
  · exact .inr ⟨g, cap, cur, hv, Nat.le_trans hb hg, h3⟩
end Go.Proofs.YtcegllnljaapiaaGreat
namespace Go.Proofs.YtcegllnljaapiaaGreat
open Go.RowKit
inductive Tm where
  | mk (n : ByteArray) (us : List Tm)
inductive Fm where
  | mk (op : Int) (a : Tm) (v : ByteArray) (ps : List Fm)
def Tm.n : Tm → ByteArray | .mk n _ => n
def Tm.us : Tm → List Tm | .mk _ us => us
def Fm.op : Fm → Int | .mk o _ _ _ => o
def Fm.a : Fm → Tm | .mk _ a _ _ => a
def Fm.v : Fm → ByteArray | .mk _ _ v _ => v
def Fm.ps : Fm → List Fm | .mk _ _ _ ps => ps
/-- A slice whose elements (each of so many cells) read us the list's; its block, where it has elements, meets B. -/
def ListAt {α : Type} (B : Nat → Prop) (w : World) (size : Nat) (R : α → List Value → Prop) (v : Value) (xs : List α) : Prop :=
  ∃ (p : Option Addr) (c : Nat), v = .slice p xs.length c ∧ xs.length ≤ maxLen ∧
    ∀ i x, xs[i]? = some x → ∃ b o, p = some ⟨b, o, none⟩ ∧ B b ∧ ∃ cs : List Value, cs.length = size ∧ (∀ j, j < size → w.cell? ⟨b, o + i * size + j, none⟩ = cs[j]?) ∧ R x cs
/-- The blocks that meet B are us they were. -/
def SameOn (B : Nat → Prop) (w w' : World) : Prop := ∀ b, B b → b < w.heap.size → w'.heap[b]? = w.heap[b]?
theorem SameOn.below {B : Nat → Prop} {w w' : World} (hb : Below w.heap.size w w') : SameOn B w w' := fun b _ h => hb.block b h
theorem SameOn.refl (B : Nat → Prop) (w : World) : SameOn B w w := fun _ _ _ => rfl
theorem SameOn.sc {B : Nat → Prop} {w w1 : World} (h : SameOn B w w1) {p : Addr} (hp : ∀ b, B b → b ≠ p.block) (u : Value) : SameOn B w (w1.setCell p u) := fun b hb hlt => (heap_setCell_other w1 p b u (fun e => hp b hb e)).trans (h b hb hlt)
theorem SameOn.al {B : Nat → Prop} {w w1 : World} (h : SameOn B w w1) (hz : w.heap.size ≤ w1.heap.size) (o : Obj) : SameOn B w (w1.alloc o) := fun b hb hlt => (hao w1 o _ (Nat.lt_of_lt_of_le hlt hz)).trans (h b hb hlt)
theorem SameOn.be {B : Nat → Prop} {w w1 w2 : World} (h : SameOn B w w1) (hz : w.heap.size ≤ w1.heap.size) (hb : Below w1.heap.size w1 w2) : SameOn B w w2 := fun b hb' hlt => (hb.block b (Nat.lt_of_lt_of_le hlt hz)).trans (h b hb' hlt)
theorem ListAt.mono {α : Type} {B B' : Nat → Prop} {w w' : World} {size : Nat} {R R' : α → List Value → Prop} {v : Value} {xs : List α} (h : ListAt B w size R v xs) (hs : SameOn B w w') (hB : ∀ b, B b → B' b) (hR : ∀ x cs, x ∈ xs → R x cs → R' x cs) : ListAt B' w' size R' v xs := by
  obtain ⟨p, c, h1, h2, h3⟩ := h
  refine ⟨p, c, h1, h2, fun i x hx => ?_⟩
  obtain ⟨b, o, h4, h0, cs, h5, h6, h7⟩ := h3 i x hx
  refine ⟨b, o, h4, hB b h0, cs, h5, fun j hj => ?_, hR x cs (List.mem_of_getElem? hx) h7⟩
  have := h6 j hj
  rw [List.getElem?_eq_getElem (by omega)] at this ⊢
  exact (World.cell?_of_block (a := ⟨b, o + i * size + j, none⟩) (hs b h0 (World.block_lt_of_cell? w _ this))).trans this
theorem ListAt.nil {α : Type} (B : Nat → Prop) (w : World) (size : Nat) (R : α → List Value → Prop) (p : Option Addr) (c : Nat) : ListAt B w size R (.slice p 0 c) [] := ⟨p, c, rfl, Nat.zero_le _, fun i x h => by simp at h⟩
theorem ListAt.form {α : Type} {B : Nat → Prop} {w : World} {size : Nat} {R : α → List Value → Prop} {v : Value} {xs : List α} (h : ListAt B w size R v xs) : ∃ p c, v = .slice p xs.length c ∧ xs.length ≤ maxLen := by
  obtain ⟨p, c, h1, h2, _⟩ := h; exact ⟨p, c, h1, h2⟩
def TmAt (B : Nat → Prop) : Nat → World → Tm → List Value → Prop
  | 0, _, _, _ => False
  | n + 1, w, .mk s us, cs => ∃ va, cs = [.string s, va] ∧ s.size ≤ maxLen ∧ ListAt B w 2 (fun t c => TmAt B n w t c) va us
theorem TmAt.mono {B B' : Nat → Prop} {w w' : World} (hs : SameOn B w w') (hB : ∀ b, B b → B' b) : ∀ (n m : Nat) (t : Tm) (cs : List Value), n ≤ m → TmAt B n w t cs → TmAt B' m w' t cs
  | 0, _, _, _, _, h => h.elim
  | n + 1, 0, _, _, hm, _ => by omega
  | n + 1, m + 1, .mk s us, cs, hm, h => by
    obtain ⟨va, h1, h2, h3⟩ := h
    exact ⟨va, h1, h2, h3.mono hs hB (fun x cs _ hx => TmAt.mono hs hB n m x cs (by omega) hx)⟩
theorem TmAt.below {B : Nat → Prop} {w w' : World} (hb : Below w.heap.size w w') {n : Nat} {t : Tm} {cs : List Value} (h : TmAt B n w t cs) : TmAt B n w' t cs := TmAt.mono (SameOn.below hb) (fun _ h => h) n n t cs (Nat.le_refl _) h
theorem TmAt.form {B : Nat → Prop} {w : World} : ∀ {n : Nat} {t : Tm} {v0 v1 : Value}, TmAt B n w t [v0, v1] → ∃ p c, v0 = .string t.n ∧ v1 = .slice p t.us.length c ∧ t.n.size ≤ maxLen ∧ t.us.length ≤ maxLen
  | 0, _, _, _, h => h.elim
  | n + 1, .mk s us, v0, v1, h => by
    obtain ⟨va, h1, h2, h3⟩ := h
    simp only [List.cons.injEq, and_true] at h1
    obtain ⟨rfl, rfl⟩ := h1
    obtain ⟨p, c, rfl, h4⟩ := h3.form
    exact ⟨p, c, rfl, rfl, h2, h4⟩
def FmAt (B : Nat → Prop) : Nat → World → Fm → List Value → Prop
  | 0, _, _, _ => False
  | n + 1, w, .mk op a x ps, cs => ∃ vn va vp, cs = [.int .i64 op, vn, va, .string x, vp] ∧ (-9223372036854775808 ≤ op ∧ op ≤ 9223372036854775807) ∧ x.size ≤ maxLen ∧ TmAt B n w a [vn, va] ∧ ListAt B w 5 (fun f c => FmAt B n w f c) vp ps
theorem FmAt.mono {B B' : Nat → Prop} {w w' : World} (hs : SameOn B w w') (hB : ∀ b, B b → B' b) : ∀ (n m : Nat) (t : Fm) (cs : List Value), n ≤ m → FmAt B n w t cs → FmAt B' m w' t cs
  | 0, _, _, _, _, h => h.elim
  | n + 1, 0, _, _, hm, _ => by omega
  | n + 1, m + 1, .mk op a x ps, cs, hm, h => by
    obtain ⟨vn, va, vp, h1, h2, h3, h4, h5⟩ := h
    exact ⟨vn, va, vp, h1, h2, h3, h4.mono hs hB n m _ _ (by omega), h5.mono hs hB (fun x cs _ hx => FmAt.mono hs hB n m x cs (by omega) hx)⟩
theorem FmAt.below {B : Nat → Prop} {w w' : World} (hb : Below w.heap.size w w') {n : Nat} {t : Fm} {cs : List Value} (h : FmAt B n w t cs) : FmAt B n w' t cs := FmAt.mono (SameOn.below hb) (fun _ h => h) n n t cs (Nat.le_refl _) h
theorem TmAt.args {B : Nat → Prop} {w : World} : ∀ {n : Nat} {t : Tm} {v0 v1 : Value}, TmAt B n w t [v0, v1] → ListAt B w 2 (TmAt B n w) v1 t.us
  | 0, _, _, _, h => h.elim
  | n + 1, .mk s us, v0, v1, h => by
    obtain ⟨va, h1, h2, h3⟩ := h
    simp only [List.cons.injEq, and_true] at h1
    obtain ⟨rfl, rfl⟩ := h1
    exact h3.mono (SameOn.refl _ _) (fun _ h => h) (fun x cs _ hx => TmAt.mono (SameOn.refl _ _) (fun _ h => h) n (n + 1) x cs (by omega) hx)
theorem FmAt.form {B : Nat → Prop} {w : World} : ∀ {n : Nat} {t : Fm} {v0 v1 v2 v3 v4 : Value}, FmAt B n w t [v0, v1, v2, v3, v4] → ∃ p c q d, v0 = .int .i64 t.op ∧ v1 = .string t.a.n ∧ v2 = .slice p t.a.us.length c ∧ v3 = .string t.v ∧ v4 = .slice q t.ps.length d ∧ (-9223372036854775808 ≤ t.op ∧ t.op ≤ 9223372036854775807) ∧ t.a.n.size ≤ maxLen ∧ t.a.us.length ≤ maxLen ∧ t.v.size ≤ maxLen ∧ t.ps.length ≤ maxLen
  | 0, _, _, _, _, _, _, h => h.elim
  | n + 1, .mk op a x ps, v0, v1, v2, v3, v4, h => by
    obtain ⟨vn, va, vp, h1, h2, h3, h4, h5⟩ := h
    simp only [List.cons.injEq, and_true] at h1
    obtain ⟨rfl, rfl, rfl, rfl, rfl⟩ := h1
    obtain ⟨p, c, rfl, rfl, h6, h7⟩ := h4.form
    obtain ⟨q, d, rfl, h8⟩ := h5.form
    exact ⟨p, c, q, d, rfl, rfl, rfl, rfl, rfl, h2, h6, h7, h3, h8⟩
/-! ### What of a list's element lies in memory -/
theorem ListAt.at1 {α : Type} {B : Nat → Prop} {w : World} {R : α → List Value → Prop} {p : Option Addr} {n c : Nat} {xs : List α} (h : ListAt B w 1 R (.slice p n c) xs) {i : Nat} (hi : i < xs.length) :
    ∃ b o, p = some ⟨b, o, none⟩ ∧ B b ∧ ∃ x0, w.cell? ⟨b, o + i, none⟩ = some x0 ∧ R xs[i] [x0] := by
  obtain ⟨p', c', h1, h2, h3⟩ := h
  injection h1 with e1 e2 e3
  subst e1
  obtain ⟨b, o, h4, h0, cs, h5, h6, h7⟩ := h3 i xs[i] (List.getElem?_eq_getElem hi)
  match cs, h5 with
  | [x0], _ => exact ⟨b, o, h4, h0, x0, (by have := h6 0 (by omega); rw [Nat.mul_one] at this; exact this), h7⟩
theorem ListAt.at2 {α : Type} {B : Nat → Prop} {w : World} {R : α → List Value → Prop} {p : Option Addr} {n c : Nat} {xs : List α} (h : ListAt B w 2 R (.slice p n c) xs) {i : Nat} (hi : i < xs.length) :
    ∃ b o, p = some ⟨b, o, none⟩ ∧ B b ∧ ∃ x0 x1, w.cell? ⟨b, o + i * 2, none⟩ = some x0 ∧ w.cell? ⟨b, o + i * 2 + 1, none⟩ = some x1 ∧ R xs[i] [x0, x1] := by
  obtain ⟨p', c', h1, h2, h3⟩ := h
  injection h1 with e1 e2 e3
  subst e1
  obtain ⟨b, o, h4, h0, cs, h5, h6, h7⟩ := h3 i xs[i] (List.getElem?_eq_getElem hi)
  match cs, h5 with
  | [x0, x1], _ => exact ⟨b, o, h4, h0, x0, x1, h6 0 (by omega), h6 1 (by omega), h7⟩
theorem ListAt.at4 {α : Type} {B : Nat → Prop} {w : World} {R : α → List Value → Prop} {p : Option Addr} {n c : Nat} {xs : List α} (h : ListAt B w 4 R (.slice p n c) xs) {i : Nat} (hi : i < xs.length) :
    ∃ b o, p = some ⟨b, o, none⟩ ∧ B b ∧ ∃ x0 x1 x2 x3, w.cell? ⟨b, o + i * 4, none⟩ = some x0 ∧ w.cell? ⟨b, o + i * 4 + 1, none⟩ = some x1 ∧ w.cell? ⟨b, o + i * 4 + 2, none⟩ = some x2 ∧ w.cell? ⟨b, o + i * 4 + 3, none⟩ = some x3 ∧ R xs[i] [x0, x1, x2, x3] := by
  obtain ⟨p', c', h1, h2, h3⟩ := h
  injection h1 with e1 e2 e3
  subst e1
  obtain ⟨b, o, h4, h0, cs, h5, h6, h7⟩ := h3 i xs[i] (List.getElem?_eq_getElem hi)
  match cs, h5 with
  | [x0, x1, x2, x3], _ => exact ⟨b, o, h4, h0, x0, x1, x2, x3, h6 0 (by omega), h6 1 (by omega), h6 2 (by omega), h6 3 (by omega), h7⟩
theorem ListAt.at5 {α : Type} {B : Nat → Prop} {w : World} {R : α → List Value → Prop} {p : Option Addr} {n c : Nat} {xs : List α} (h : ListAt B w 5 R (.slice p n c) xs) {i : Nat} (hi : i < xs.length) :
    ∃ b o, p = some ⟨b, o, none⟩ ∧ B b ∧ ∃ x0 x1 x2 x3 x4, w.cell? ⟨b, o + i * 5, none⟩ = some x0 ∧ w.cell? ⟨b, o + i * 5 + 1, none⟩ = some x1 ∧ w.cell? ⟨b, o + i * 5 + 2, none⟩ = some x2 ∧ w.cell? ⟨b, o + i * 5 + 3, none⟩ = some x3 ∧ w.cell? ⟨b, o + i * 5 + 4, none⟩ = some x4 ∧ R xs[i] [x0, x1, x2, x3, x4] := by
  obtain ⟨p', c', h1, h2, h3⟩ := h
  injection h1 with e1 e2 e3
  subst e1
  obtain ⟨b, o, h4, h0, cs, h5, h6, h7⟩ := h3 i xs[i] (List.getElem?_eq_getElem hi)
  match cs, h5 with
  | [x0, x1, x2, x3, x4], _ => exact ⟨b, o, h4, h0, x0, x1, x2, x3, x4, h6 0 (by omega), h6 1 (by omega), h6 2 (by omega), h6 3 (by omega), h6 4 (by omega), h7⟩
end Go.Proofs.YtcegllnljaapiaaGreat
namespace Go.Proofs.YtcegllnljaapiaaGreat
open Go.RowKit
def upC (c : UInt8) : Bool := decide (65 ≤ c.toNat) && decide (c.toNat ≤ 90)
def loC (c : UInt8) : Bool := decide (97 ≤ c.toNat) && decide (c.toNat ≤ 122)
def diC (c : UInt8) : Bool := decide (48 ≤ c.toNat) && decide (c.toNat ≤ 57)
def smC (c : UInt8) : Bool := loC c || diC c
def unC (c : UInt8) : Bool := smC c || c == 95
def headTail (p q : UInt8 → Bool) : List UInt8 → Bool
  | [] => true
  | c :: l => p c && l.all q
theorem headTail_snoc (p q : UInt8 → Bool) (l : List UInt8) (c : UInt8) : headTail p q (l ++ [c]) = (headTail p q l && (if l.isEmpty then p c else q c)) := by
  cases l with
  | nil => simp [headTail]
  | cons x l => simp [headTail, Bool.and_assoc]
def varB (l : List UInt8) : Bool := decide (1 ≤ l.length) && decide (l.length ≤ 4) && headTail upC smC l
def keyW : List (List UInt8) := [[116, 114, 117, 101], [102, 97, 108, 115, 101], [116, 114, 117, 116, 104], [98, 111, 116, 104], [101, 105, 116, 104, 101, 114], [105, 102], [97, 108, 108], [115, 111, 109, 101]]
def symB (l : List UInt8) : Bool := decide (1 ≤ l.length) && decide (l.length ≤ 6) && headTail loC unC l && !keyW.contains l
mutual
def Tm.sz : Tm → Nat | .mk _ us => 1 + Tm.szs us
def Tm.szs : List Tm → Nat | [] => 0 | a :: us => a.sz + Tm.szs us
end
mutual
def Tm.dp : Tm → Nat | .mk _ us => Tm.dps us + 1
def Tm.dps : List Tm → Nat | [] => 0 | a :: us => max a.dp (Tm.dps us)
end
mutual
def Tm.nodes : Tm → Bool | .mk n us => if varB n.data.toList then us.isEmpty else symB n.data.toList && decide (us.length ≤ 4) && Tm.nodess us
def Tm.nodess : List Tm → Bool | [] => true | a :: us => a.nodes && Tm.nodess us
end
mutual
def Tm.szI : Tm → Nat | .mk _ us => Tm.szIs 1 us
def Tm.szIs : Nat → List Tm → Nat | n, [] => n | n, a :: us => if 30 < n then n else Tm.szIs (n + a.szI) us
end
mutual
def Tm.many : Tm → Nat → Nat | .mk _ us, m => Tm.manys 1 us m
def Tm.manys : Nat → List Tm → Nat → Nat | n, [], _ => n | n, a :: us, m => if n ≤ m then Tm.manys (n + a.many (m - n)) us m else n
end
mutual
theorem Tm.szI_law : ∀ t : Tm, t.szI ≤ t.sz ∧ (t.szI ≤ 30 → t.szI = t.sz) ∧ 1 ≤ t.szI
  | .mk _ us => by have := Tm.szIs_law 1 us; rw [Tm.szI, Tm.sz]; omega
theorem Tm.szIs_law : ∀ (n : Nat) (us : List Tm), Tm.szIs n us ≤ n + Tm.szs us ∧ (Tm.szIs n us ≤ 30 → Tm.szIs n us = n + Tm.szs us) ∧ n ≤ Tm.szIs n us
  | n, [] => by simp [Tm.szIs, Tm.szs]
  | n, a :: us => by
    have h1 := Tm.szI_law a
    have h2 := Tm.szIs_law (n + a.szI) us
    rw [Tm.szIs, Tm.szs]
    split <;> omega
end
mutual
theorem Tm.many_law : ∀ (t : Tm) (m : Nat), t.many m ≤ t.sz ∧ (t.many m ≤ m → t.many m = t.sz) ∧ 1 ≤ t.many m
  | .mk _ us, m => by have := Tm.manys_law 1 us m; rw [Tm.many, Tm.sz]; omega
theorem Tm.manys_law : ∀ (n : Nat) (us : List Tm) (m : Nat), Tm.manys n us m ≤ n + Tm.szs us ∧ (Tm.manys n us m ≤ m → Tm.manys n us m = n + Tm.szs us) ∧ n ≤ Tm.manys n us m
  | n, [], m => by simp [Tm.manys, Tm.szs]
  | n, a :: us, m => by
    have h1 := Tm.many_law a (m - n)
    have h2 := Tm.manys_law (n + a.many (m - n)) us m
    rw [Tm.manys, Tm.szs]
    split <;> omega
end
mutual
theorem Tm.dp_le : ∀ t : Tm, t.dp ≤ t.sz
  | .mk _ us => by have := Tm.dps_le us; rw [Tm.dp, Tm.sz]; omega
theorem Tm.dps_le : ∀ us : List Tm, Tm.dps us ≤ Tm.szs us
  | [] => by simp [Tm.dps, Tm.szs]
  | a :: us => by have := Tm.dp_le a; have := Tm.dps_le us; rw [Tm.dps, Tm.szs]; omega
end
theorem Tm.szI_iff (t : Tm) : decide (t.szI ≤ 30) = decide (t.sz ≤ 30) := by rw [decide_eq_decide]; have := t.szI_law; omega
theorem Tm.many_iff (t : Tm) : decide (t.many 30 ≤ 30) = decide (t.sz ≤ 30) := by rw [decide_eq_decide]; have := t.many_law 30; omega
def Tm.small (t : Tm) : Bool := decide (t.sz ≤ 30) && decide (t.dp ≤ 8)
def Tm.good (t : Tm) : Bool := t.small && t.nodes
def isEq (n : ByteArray) : Bool := n.data.toList == [61]
def Tm.atom (t : Tm) : Bool :=
  if isEq t.n then decide (t.us.length = 2) && t.small && Tm.nodess t.us else symB t.n.data.toList && t.good
mutual
def Fm.sz : Fm → Nat | .mk _ _ _ ps => 1 + Fm.szs ps
def Fm.szs : List Fm → Nat | [] => 0 | a :: us => a.sz + Fm.szs us
end
mutual
def Fm.szI : Fm → Nat | .mk _ _ _ ps => Fm.szIs 1 ps
def Fm.szIs : Nat → List Fm → Nat | n, [] => n | n, a :: us => if 40 < n then n else Fm.szIs (n + a.szI) us
end
mutual
def Fm.many : Fm → Nat → Nat | .mk _ _ _ ps, m => Fm.manys 1 ps m
def Fm.manys : Nat → List Fm → Nat → Nat | n, [], _ => n | n, a :: us, m => if n ≤ m then Fm.manys (n + a.many (m - n)) us m else n
end
mutual
theorem Fm.szI_law : ∀ t : Fm, t.szI ≤ t.sz ∧ (t.szI ≤ 40 → t.szI = t.sz) ∧ 1 ≤ t.szI
  | .mk _ _ _ us => by have := Fm.szIs_law 1 us; rw [Fm.szI, Fm.sz]; omega
theorem Fm.szIs_law : ∀ (n : Nat) (us : List Fm), Fm.szIs n us ≤ n + Fm.szs us ∧ (Fm.szIs n us ≤ 40 → Fm.szIs n us = n + Fm.szs us) ∧ n ≤ Fm.szIs n us
  | n, [] => by simp [Fm.szIs, Fm.szs]
  | n, a :: us => by
    have h1 := Fm.szI_law a
    have h2 := Fm.szIs_law (n + a.szI) us
    rw [Fm.szIs, Fm.szs]
    split <;> omega
end
mutual
theorem Fm.many_law : ∀ (t : Fm) (m : Nat), t.many m ≤ t.sz ∧ (t.many m ≤ m → t.many m = t.sz) ∧ 1 ≤ t.many m
  | .mk _ _ _ us, m => by have := Fm.manys_law 1 us m; rw [Fm.many, Fm.sz]; omega
theorem Fm.manys_law : ∀ (n : Nat) (us : List Fm) (m : Nat), Fm.manys n us m ≤ n + Fm.szs us ∧ (Fm.manys n us m ≤ m → Fm.manys n us m = n + Fm.szs us) ∧ n ≤ Fm.manys n us m
  | n, [], m => by simp [Fm.manys, Fm.szs]
  | n, a :: us, m => by
    have h1 := Fm.many_law a (m - n)
    have h2 := Fm.manys_law (n + a.many (m - n)) us m
    rw [Fm.manys, Fm.szs]
    split <;> omega
end
theorem Fm.szI_iff (t : Fm) : decide (t.szI ≤ 40) = decide (t.sz ≤ 40) := by rw [decide_eq_decide]; have := t.szI_law; omega
theorem Fm.many_iff (t : Fm) : decide (t.many 40 ≤ 40) = decide (t.sz ≤ 40) := by rw [decide_eq_decide]; have := t.many_law 40; omega
def Tm.none (t : Tm) : Bool := t.n.data.toList.isEmpty && t.us.isEmpty
/-- How many parts an operator has; none if it is no operator. -/
def arity (op : Int) : Option Nat := if op = 1 ∨ op = 2 ∨ op = 3 then some 0 else if op = 4 ∨ op = 8 ∨ op = 9 then some 1 else if op = 5 ∨ op = 6 ∨ op = 7 then some 2 else none
def isQ (op : Int) : Bool := op == 8 || op == 9
def Fm.form1 (f : Fm) : Bool :=
  (arity f.op == some f.ps.length) && (if isQ f.op then varB f.v.data.toList else f.v.data.toList.isEmpty) && (if f.op = 3 then f.a.atom else f.a.none)
mutual
def Fm.form : Fm → Bool | .mk op a v ps => Fm.form1 (.mk op a v ps) && Fm.forms ps
def Fm.forms : List Fm → Bool | [] => true | f :: fs => f.form && Fm.forms fs
end
def Fm.good (f : Fm) : Bool := decide (f.sz ≤ 40) && f.form
/-! ### Texts -/
def joinB (sep : List UInt8) : List (List UInt8) → List UInt8
  | [] => []
  | [a] => a
  | a :: b :: l => a ++ sep ++ joinB sep (b :: l)
mutual
def Tm.fmt : Tm → List UInt8
  | .mk n us => if n.data.toList = [61] then (match Tm.fmtL us with | a :: b :: _ => a ++ [32, 61, 32] ++ b | _ => []) else match us with | [] => n.data.toList | _ :: _ => n.data.toList ++ [40] ++ joinB [44] (Tm.fmtL us) ++ [41]
def Tm.fmtL : List Tm → List (List UInt8)
  | [] => []
  | a :: us => a.fmt :: Tm.fmtL us
end
end Go.Proofs.YtcegllnljaapiaaGreat
namespace Go.Proofs.YtcegllnljaapiaaGreat
open Go.RowKit
/-- What is left of an allowance. -/
def szR (left : Int) (k : Nat) : Int := if (k : Int) ≤ left then left - k else -1
mutual
def Tm.wt : Tm → Nat | .mk n us => n.size + us.length + Tm.wts us
def Tm.wts : List Tm → Nat | [] => 0 | a :: us => a.wt + Tm.wts us
end
end Go.Proofs.YtcegllnljaapiaaGreat
namespace Go.Proofs.YtcegllnljaapiaaGreat
open Go.RowKit
def StrAt (s : ByteArray) (cs : List Value) : Prop := cs = [.string s] ∧ s.size ≤ maxLen
def StrsAt (B : Nat → Prop) (w : World) (v : Value) (xs : List ByteArray) : Prop := ListAt B w 1 StrAt v xs
def wtS : List ByteArray → Nat | [] => 0 | a :: us => a.size + wtS us
theorem wtS_drop (us : List ByteArray) {k : Nat} (h : k < us.length) : wtS (us.drop k) = us[k].size + wtS (us.drop (k + 1)) := by rw [List.drop_eq_getElem_cons h, wtS]
theorem wtS_le : ∀ (us : List ByteArray), ∀ s ∈ us, s.size ≤ wtS us
  | [], _, h => by simp at h
  | a :: us, s, h => by
    rw [wtS]
    rcases List.mem_cons.1 h with rfl | h
    · omega
    · have := wtS_le us s h; omega
theorem StrsAt.mono {B B' : Nat → Prop} {w w' : World} {v : Value} {xs : List ByteArray} (hs : SameOn B w w') (hB : ∀ b, B b → B' b) (h : StrsAt B w v xs) : StrsAt B' w' v xs := ListAt.mono h hs hB (fun _ _ _ h => h)
theorem StrsAt.below {B : Nat → Prop} {w w' : World} {v : Value} {xs : List ByteArray} (hb : Below w.heap.size w w') (h : StrsAt B w v xs) : StrsAt B w' v xs := h.mono (SameOn.below hb) (fun _ h => h)
theorem StrsAt.form {B : Nat → Prop} {w : World} {v : Value} {xs : List ByteArray} (h : StrsAt B w v xs) : ∃ p c, v = .slice p xs.length c ∧ xs.length ≤ maxLen := ListAt.form h
theorem StrsAt.at_ {B : Nat → Prop} {w : World} {p : Option Addr} {n c : Nat} {xs : List ByteArray} (h : StrsAt B w (.slice p n c) xs) {i : Nat} (hi : i < xs.length) : ∃ b o, p = some ⟨b, o, none⟩ ∧ B b ∧ w.cell? ⟨b, o + i, none⟩ = some (.string xs[i]) ∧ xs[i].size ≤ maxLen := by
  obtain ⟨b, o, h1, h2, x, h3, h4, h5⟩ := ListAt.at1 h hi
  simp only [List.cons.injEq, and_true] at h4
  subst h4
  exact ⟨b, o, h1, h2, h3, h5⟩
structure Un where
  name : ByteArray
  incs : List ByteArray
  axs : List ByteArray
  goal : ByteArray
def Un.wt (u : Un) : Nat := u.name.size + (u.incs.length + wtS u.incs) + (u.axs.length + wtS u.axs) + u.goal.size
def UnAt (B : Nat → Prop) (w : World) (u : Un) (cs : List Value) : Prop := ∃ va vb, cs = [.string u.name, va, vb, .string u.goal] ∧ u.name.size ≤ maxLen ∧ u.goal.size ≤ maxLen ∧ StrsAt B w va u.incs ∧ StrsAt B w vb u.axs
theorem UnAt.mono {B B' : Nat → Prop} {w w' : World} {u : Un} {cs : List Value} (hs : SameOn B w w') (hB : ∀ b, B b → B' b) (h : UnAt B w u cs) : UnAt B' w' u cs := by
  obtain ⟨va, vb, h1, h2, h3, h4, h5⟩ := h
  exact ⟨va, vb, h1, h2, h3, h4.mono hs hB, h5.mono hs hB⟩
theorem UnAt.below {B : Nat → Prop} {w w' : World} {u : Un} {cs : List Value} (hb : Below w.heap.size w w') (h : UnAt B w u cs) : UnAt B w' u cs := h.mono (SameOn.below hb) (fun _ h => h)
theorem UnAt.form {B : Nat → Prop} {w : World} {u : Un} {v0 v1 v2 v3 : Value} (h : UnAt B w u [v0, v1, v2, v3]) : ∃ p c q d, v0 = .string u.name ∧ v1 = .slice p u.incs.length c ∧ v2 = .slice q u.axs.length d ∧ v3 = .string u.goal ∧ u.name.size ≤ maxLen ∧ u.goal.size ≤ maxLen ∧ u.incs.length ≤ maxLen ∧ u.axs.length ≤ maxLen ∧ StrsAt B w (.slice p u.incs.length c) u.incs ∧ StrsAt B w (.slice q u.axs.length d) u.axs := by
  obtain ⟨va, vb, h1, h2, h3, h4, h5⟩ := h
  obtain ⟨p, c, rfl, l1⟩ := h4.form
  obtain ⟨q, d, rfl, l2⟩ := h5.form
  simp only [List.cons.injEq, and_true] at h1
  obtain ⟨rfl, rfl, rfl, rfl⟩ := h1
  exact ⟨p, c, q, d, rfl, rfl, rfl, rfl, h2, h3, l1, l2, h4, h5⟩
set_option maxRecDepth 100000 in
set_option maxHeartbeats 1600000 in
theorem szStringS_any {B : Nat → Prop} (us : List ByteArray) (va : Value) (left : Int) (w : World) (h : StrsAt B w va us) (h0 : 0 ≤ left) (h1 : left ≤ 1048576) :
    Calls Tryz.prog 83 #[va, .int .i64 left] w fun e w' => e = .returned (.int .i64 (szR left (us.length + wtS us))) ∧ Below w.heap.size w w' := by
  obtain ⟨p, c, rfl, hlen⟩ := h.form
  unfold maxLen at hlen
  have H := Lib.hid h
  clear h
  by_cases hl : (us.length : Int) ≤ left
  · go_enter Tryz.func83, Tryz.ntmps83
    go_wp2
    go_loopw [1, 5] (fun l i wr => ∃ k done : Nat, k ≤ us.length ∧ i = .int .i64 k ∧ done + wtS (us.drop k) = wtS us ∧ l = .int .i64 (left - us.length - done) ∧ (done : Int) ≤ left - us.length ∧ Below w.heap.size w wr) (fun _ i _ => us.length - (intOf i).toNat)
    case atStart => exact ⟨0, 0, Nat.zero_le _, rfl, by simp, by simp, by omega, by (repeat (first | with_reducible exact Below.refl _ _ | with_reducible assumption | with_reducible refine Below.al ?_ _ | with_reducible refine Below.sc ?_ (by first | exact Nat.le_refl _ | (simp; done) | (simp; omega)) _ | assumption | exact Below.refl _ _ | refine Below.dr ?_ | refine Below.drN ?_ _ | refine Below.step ?_ (by assumption)))⟩
    case round =>
      obtain ⟨k, done, hk, rfl, hd, rfl, hdl, hb⟩ := hrel
      have HD := Lib.hid hd
      clear hd
      by_cases hlt : k < us.length
      · obtain ⟨b, o, rfl, hB, hx0, hxs⟩ := (H.out.below hb).at_ hlt
        unfold maxLen at hxs
        have HW := Lib.hid (wtS_drop us hlt)
        obtain ⟨a, ha⟩ : ∃ a, us[k] = a := ⟨_, rfl⟩
        rw [ha] at hx0 hxs HW
        clear ha
        by_cases hw : (a.size : Int) ≤ left - us.length - done
        · go_wp2
          have h1 := HD.out
          have h2 := HW.out
          refine ⟨⟨k + 1, done + a.size, by omega, by go_num, by omega, ?_, by omega, by (repeat (first | with_reducible exact Below.refl _ _ | with_reducible assumption | with_reducible refine Below.al ?_ _ | with_reducible refine Below.sc ?_ (by first | exact Nat.le_refl _ | (simp; done) | (simp; omega)) _ | assumption | exact Below.refl _ _ | refine Below.dr ?_ | refine Below.drN ?_ _ | refine Below.step ?_ (by assumption)))⟩, by simp [intOf]; omega⟩
          exact congrArg (Value.int .i64) (by omega)
        · go_wp2
          go_ret
          have h1 := HD.out
          have h2 := HW.out
          exact ⟨ret_int (by rw [szR, if_neg (by omega)]), by (repeat (first | with_reducible exact Below.refl _ _ | with_reducible assumption | with_reducible refine Below.al ?_ _ | with_reducible refine Below.sc ?_ (by first | exact Nat.le_refl _ | (simp; done) | (simp; omega)) _ | assumption | exact Below.refl _ _ | refine Below.dr ?_ | refine Below.drN ?_ _ | refine Below.step ?_ (by assumption)))⟩
      · obtain rfl : k = us.length := by omega
        have hd := HD.out
        rw [List.drop_length, wtS] at hd
        have HD2 := Lib.hid hd
        clear hd
        go_wp2
        go_ret
        have h1 := HD2.out
        exact ⟨ret_int (by rw [szR, if_pos (by omega)]; omega), by (repeat (first | with_reducible exact Below.refl _ _ | with_reducible assumption | with_reducible refine Below.al ?_ _ | with_reducible refine Below.sc ?_ (by first | exact Nat.le_refl _ | (simp; done) | (simp; omega)) _ | assumption | exact Below.refl _ _ | refine Below.dr ?_ | refine Below.drN ?_ _ | refine Below.step ?_ (by assumption)))⟩
  · go_enter Tryz.func83, Tryz.ntmps83
    go_wp2
    go_ret
    exact ⟨ret_int (by rw [szR, if_neg (by omega)]), by (repeat (first | with_reducible exact Below.refl _ _ | with_reducible assumption | with_reducible refine Below.al ?_ _ | with_reducible refine Below.sc ?_ (by first | exact Nat.le_refl _ | (simp; done) | (simp; omega)) _ | assumption | exact Below.refl _ _ | refine Below.dr ?_ | refine Below.drN ?_ _ | refine Below.step ?_ (by assumption)))⟩
set_option maxRecDepth 100000 in
set_option maxHeartbeats 1600000 in
theorem eqStringS_same {B B' : Nat → Prop} (us : List ByteArray) (va ua : Value) (w : World) (h : StrsAt B w va us) (h' : StrsAt B' w ua us) :
    Calls Tryz.prog 101 #[va, ua] w fun e w' => e = .returned (.bool true) ∧ Below w.heap.size w w' := by
  obtain ⟨p, c, rfl, hlen⟩ := h.form
  obtain ⟨p', c', rfl, -⟩ := h'.form
  unfold maxLen at hlen
  have H := Lib.hid h
  have H' := Lib.hid h'
  clear h h'
  go_enter Tryz.func101, Tryz.ntmps101
  go_wp2
  go_loopw [5] (fun i wr => ∃ k : Nat, k ≤ us.length ∧ i = .int .i64 k ∧ Below w.heap.size w wr) (fun i _ => us.length - (intOf i).toNat)
  case atStart => exact ⟨0, Nat.zero_le _, rfl, by (repeat (first | with_reducible exact Below.refl _ _ | with_reducible assumption | with_reducible refine Below.al ?_ _ | with_reducible refine Below.sc ?_ (by first | exact Nat.le_refl _ | (simp; done) | (simp; omega)) _ | assumption | exact Below.refl _ _ | refine Below.dr ?_ | refine Below.drN ?_ _ | refine Below.step ?_ (by assumption)))⟩
  case round =>
    obtain ⟨k, hk, rfl, hb⟩ := hrel
    by_cases hlt : k < us.length
    · obtain ⟨b, o, rfl, hB, hx0, hxs⟩ := (H.out.below hb).at_ hlt
      obtain ⟨b', o', rfl, hB', hy0, hys⟩ := (H'.out.below hb).at_ hlt
      obtain ⟨a, ha⟩ : ∃ a, us[k] = a := ⟨_, rfl⟩
      rw [ha] at hx0 hy0
      clear ha hxs hys
      have zb := bsz (World.block_lt_of_cell? _ _ hx0)
      have zb' := bsz (World.block_lt_of_cell? _ _ hy0)
      go_wp2
      obtain ⟨C, HC0⟩ := class_of (InF wr.heap.size _ [(⟨b, o + k, none⟩, .string a), (⟨b', o' + k, none⟩, .string a)] [] [])
      have HC := Lib.hid HC0
      clear HC0
      refine wp_region_flow (C := C) (by kernel_rfl) (by kernel_rfl) (fun L hL => (HC.out _ _).2 (InF.start (by first | (intro _ hs; cases hs; done) | (simp only [List.forall_mem_cons]; go_simp)) (by first | (intro _ hs; cases hs; done) | (simp only [List.forall_mem_cons]; go_simp)) (by first | (intro _ hs; cases hs; done) | (simp only [List.forall_mem_cons]; go_simp)) (by first | (intro _ hs; cases hs; done) | (simp only [List.forall_mem_cons]; go_simp)) L hL)) ?_
      repeat (first | (apply flow_free rfl; (intro L w' hun hrd hC; have hC := (HC.out _ _).1 hC; have hb' := hC.below; (try have hw' : Below w.heap.size w w' := by first | exact Below.trans (by (repeat (first | with_reducible exact Below.refl _ _ | with_reducible assumption | with_reducible refine Below.al ?_ _ | with_reducible refine Below.sc ?_ (by first | exact Nat.le_refl _ | (simp; done) | (simp; omega)) _ | assumption | exact Below.refl _ _ | refine Below.dr ?_ | refine Below.drN ?_ _ | refine Below.step ?_ (by assumption)))) hb' | ((repeat (first | with_reducible exact Below.refl _ _ | with_reducible assumption | with_reducible refine Below.al ?_ _ | with_reducible refine Below.sc ?_ (by first | exact Nat.le_refl _ | (simp; done) | (simp; omega)) _ | assumption | exact Below.refl _ _ | refine Below.dr ?_ | refine Below.drN ?_ _ | refine Below.step ?_ (by assumption))); done)); have hf' := hC.cell; (try simp only [List.forall_mem_cons] at hf'); go_simp; first | exact ⟨(HC.out _ _).2 (hC.skip _ (by rfl)), rfl⟩ | (rw [if_neg]; (exact ⟨(HC.out _ _).2 (hC.skip _ (by rfl)), rfl⟩); omega) | fail); go_simp) | (apply flow_yes; (case hw => go_simp); (intro L w' hun hrd hC; have hC := (HC.out _ _).1 hC; have hb' := hC.below; (try have hw' : Below w.heap.size w w' := by first | exact Below.trans (by (repeat (first | with_reducible exact Below.refl _ _ | with_reducible assumption | with_reducible refine Below.al ?_ _ | with_reducible refine Below.sc ?_ (by first | exact Nat.le_refl _ | (simp; done) | (simp; omega)) _ | assumption | exact Below.refl _ _ | refine Below.dr ?_ | refine Below.drN ?_ _ | refine Below.step ?_ (by assumption)))) hb' | ((repeat (first | with_reducible exact Below.refl _ _ | with_reducible assumption | with_reducible refine Below.al ?_ _ | with_reducible refine Below.sc ?_ (by first | exact Nat.le_refl _ | (simp; done) | (simp; omega)) _ | assumption | exact Below.refl _ _ | refine Below.dr ?_ | refine Below.drN ?_ _ | refine Below.step ?_ (by assumption))); done)); have hf' := hC.cell; (try simp only [List.forall_mem_cons] at hf'); go_simp; first | exact ⟨(HC.out _ _).2 (hC.skip _ (by rfl)), rfl⟩ | (rw [if_neg]; (exact ⟨(HC.out _ _).2 (hC.skip _ (by rfl)), rfl⟩); omega) | fail); go_simp) | (apply flow_no; (case hw => (go_simp; try (intro hh; cases hh))); (intro L w' _ _ hC; exact (HC.out _ _).2 (((HC.out _ _).1 hC).skip _ (by rfl))); go_simp))
      refine flow_nil ?_
      intro L wz hL hz
      have hz := (HC.out _ _).1 hz
      have hbz := hz.below
      have hcz := hz.cell
      try simp only [List.forall_mem_cons] at hcz
      have hdz := hz.done
      try simp only [List.forall_mem_cons] at hdz
      (try have hwz : Below w.heap.size w wz := by first | exact Below.trans (by (repeat (first | with_reducible exact Below.refl _ _ | with_reducible assumption | with_reducible refine Below.al ?_ _ | with_reducible refine Below.sc ?_ (by first | exact Nat.le_refl _ | (simp; done) | (simp; omega)) _ | assumption | exact Below.refl _ _ | refine Below.dr ?_ | refine Below.drN ?_ _ | refine Below.step ?_ (by assumption)))) hbz | ((repeat (first | with_reducible exact Below.refl _ _ | with_reducible assumption | with_reducible refine Below.al ?_ _ | with_reducible refine Below.sc ?_ (by first | exact Nat.le_refl _ | (simp; done) | (simp; omega)) _ | assumption | exact Below.refl _ _ | refine Below.dr ?_ | refine Below.drN ?_ _ | refine Below.step ?_ (by assumption))); done))
      go_wp2
      exact ⟨⟨k + 1, by omega, by go_num, Below.step hb hbz⟩, by simp [intOf]; omega⟩
    · go_wp2
      go_ret
      exact ⟨rfl, by (repeat (first | with_reducible exact Below.refl _ _ | with_reducible assumption | with_reducible refine Below.al ?_ _ | with_reducible refine Below.sc ?_ (by first | exact Nat.le_refl _ | (simp; done) | (simp; omega)) _ | assumption | exact Below.refl _ _ | refine Below.dr ?_ | refine Below.drN ?_ _ | refine Below.step ?_ (by assumption)))⟩
theorem elemStrL : Elem Tryz.prog 73 9 1 16 := elem_of Tryz.underlying73 (z := .string ⟨#[]⟩) (by kernel_rfl) rfl (by omega)
end Go.Proofs.YtcegllnljaapiaaGreat
