/- Names of variables and symbols, both sides. Conditions: sizes. -/
import Derived.Test.YtkgfanajgdelcaaGreatDoorRows
import Derived.Test.YtkgfanajgdelcaaGreatDoorUnPartShelf
import Derived.WalkKit
import Derived.ProofKit
import Derived.WalkSpells
import Derived.Lib.Hide
import Derived.Deep.Light
import Derived.Deep.QuietTactic
import Derived.BigQuiet
import Derived.Deep.RegionHeld3
import Derived.IntWalk
import Derived.Lib.LaidTab
import Derived.WalkSmall
import Derived.Lib.ItoaMem
import Derived.Maps.AppendAt
import Derived.Laws.OwnMore
import Derived.OwnWalk
namespace Go.Proofs.YtkgfanajgdelcaaGreatDoor
open Go.RowKit
theorem hao (w : World) (o : Obj) (k : Nat) (h : k < w.heap.size) : (w.alloc o).heap[k]? = w.heap[k]? := Below.heap_alloc w o k h
theorem ret_bool {a b : Bool} (h : a = b) : Ending.returned (.bool a) = .returned (.bool b) := by rw [h]
theorem ret_int {k : IntKind} {a b : Int} (h : a = b) : Ending.returned (.int k a) = .returned (.int k b) := by rw [h]
theorem ret_str {a b : List UInt8} (h : a = b) : Ending.returned (.string ⟨a.toArray⟩) = .returned (.string ⟨b.toArray⟩) := by rw [h]
theorem ret_strs {s : ByteArray} {l : List UInt8} (h : s.data.toList = l) : Ending.returned (.string s) = .returned (.string ⟨l.toArray⟩) := by subst h; rfl
theorem str_eq {s : ByteArray} {l : List UInt8} (h : s.data.toList = l) : s = ⟨l.toArray⟩ := by subst h; rfl
theorem size_list (s : ByteArray) : s.size = s.data.toList.length := rfl
theorem bytes_append (a b : List UInt8) : (⟨a.toArray⟩ : ByteArray) ++ ⟨b.toArray⟩ = ⟨(a ++ b).toArray⟩ := by
  apply ByteArray.ext; simp
theorem bytes_append' (s t : ByteArray) : s ++ t = ⟨(s.data.toList ++ t.data.toList).toArray⟩ := bytes_append s.data.toList t.data.toList
theorem bcell {W w1 : World} (hb : Below W.heap.size W w1) : (∀ b o, b < W.heap.size → w1.cell? ⟨b, o, none⟩ = W.cell? ⟨b, o, none⟩) ∧ (∀ b o, b < W.heap.size → w1.frozen? ⟨b, o, none⟩ = W.frozen? ⟨b, o, none⟩) :=
  ⟨fun b o h => hb.cell (p := ⟨b, o, none⟩) h, fun b o h => hb.frozen (p := ⟨b, o, none⟩) h⟩
theorem bsz {n m : Nat} (h : n < m) : n < m ∧ n ≤ m ∧ n < m + 1 ∧ n ≤ m + 1 ∧ n < m + 2 ∧ n < m + 3 ∧ n < m + 4 := by omega
theorem below_drewN {B : Nat} {a w : World} (h : Below B a w) (n : Nat) : Below B a (w.drewN n) := ⟨h.os, h.tape, h.output, h.size, h.block⟩
theorem same_below {P : Program} {f : FuncId} {args : Array Value} {w : World} {x : Ending} (h : Calls P f args w fun e w' => e = x ∧ w = w') : Calls P f args w fun e w' => e = x ∧ Below w.heap.size w w' :=
  h.mono fun _ _ ⟨h1, h2⟩ => ⟨h1, h2 ▸ Below.refl _ _⟩
theorem Below.step {a w w1 : World} (h : Below a.heap.size a w) (hb : Below w.heap.size w w1) : Below a.heap.size a w1 := h.trans (hb.mono h.size)
theorem Below.al {a w : World} (h : Below a.heap.size a w) (o : Obj) : Below a.heap.size a (w.alloc o) := h.alloc h.size o
theorem Below.sc {a w : World} (h : Below a.heap.size a w) {p : Addr} (hp : a.heap.size ≤ p.block) (u : Value) : Below a.heap.size a (w.setCell p u) := h.setCell hp u
theorem Below.dr {a w : World} (h : Below a.heap.size a w) : Below a.heap.size a w.drew := h.drew
theorem Below.drN {a w : World} (h : Below a.heap.size a w) (n : Nat) : Below a.heap.size a (w.drewN n) := below_drewN h n
theorem bR (B : Nat) (w : World) : Below B w w := Below.refl B w
theorem bA {a w : World} (h : Below a.heap.size a w) (o : Obj) : Below a.heap.size a (w.alloc o) := Below.al h o
theorem bS {a w : World} (h : Below a.heap.size a w) {p : Addr} (hp : a.heap.size ≤ p.block) (u : Value) : Below a.heap.size a (w.setCell p u) := Below.sc h hp u
theorem bD {a w : World} (h : Below a.heap.size a w) : Below a.heap.size a w.drew := Below.dr h
theorem bN {a w : World} (h : Below a.heap.size a w) (n : Nat) : Below a.heap.size a (w.drewN n) := Below.drN h n
theorem bT {a w w1 : World} (h : Below a.heap.size a w) (hb : Below w.heap.size w w1) : Below a.heap.size a w1 := Below.step h hb
theorem bel {B : Nat} {a w : World} (h : Below B a w := by (repeat (first | with_reducible (first | exact bR _ _ | assumption | refine bA ?_ _ | refine bS ?_ (by first | exact Nat.le_refl _ | (simp; done) | (simp; omega)) _) | assumption | exact bR _ _ | refine bD ?_ | refine bN ?_ _ | refine bT ?_ (by assumption)))) : Below B a w := h
theorem wrap64_byte (c : UInt8) : wrap64 (c.toNat : Int) = (c.toNat : Int) := by have := c.toNat_lt; exact IntWalk.wrap64_in _ (by omega)
theorem take_snoc (s : ByteArray) (k : Nat) (h : k < s.size) : s.data.toList.take (k + 1) = s.data.toList.take k ++ [s[k]] := by
  rw [List.take_succ_eq_append_getElem (by simpa using h)]; rfl
theorem take_all (s : ByteArray) (k : Nat) (h : s.size ≤ k) : s.data.toList.take k = s.data.toList := List.take_of_length_le (by rw [← size_list]; exact h)
theorem toList_append (s t : ByteArray) : (s ++ t).toList = s.toList ++ t.toList := by
  rw [ByteArray.toList_eq, ByteArray.toList_eq, ByteArray.toList_eq]; simp
theorem extract_list (s : ByteArray) (f k : Nat) : (s.extract f k).data.toList = (s.data.toList.take k).drop f := by
  rw [Lib.extract_data, List.drop_take]
theorem toList_extract (s : ByteArray) (a b : Nat) : (s.extract a b).toList = (s.toList.take b).drop a := by
  rw [ByteArray.toList_eq, ByteArray.toList_eq, extract_list]
attribute [go_sem] toList_append toList_extract
theorem byte_eq_t {c b : UInt8} (h : ((c.toNat : Int) == (b.toNat : Int)) = true) : (c == b) = true := by
  have : (c.toNat : Int) = b.toNat := by simpa using h
  have : c = b := UInt8.toNat_inj.1 (by omega)
  simp [this]
theorem byte_eq_f {c b : UInt8} (h : ((c.toNat : Int) == (b.toNat : Int)) = false) : (c == b) = false := by
  have : ¬ (c.toNat : Int) = b.toNat := by simpa using h
  rw [beq_eq_false_iff_ne]; rintro rfl; exact this rfl
theorem empt_t {c : ByteArray} (h : c.data.toList.isEmpty = true) : c.toList.isEmpty = true ∧ c.toList = [] := by
  rw [ByteArray.toList_eq]; exact ⟨h, by simpa using h⟩
theorem empt_f {c : ByteArray} (h : c.data.toList.isEmpty = false) : c.toList.isEmpty = false ∧ ¬ c.toList = [] := by
  rw [ByteArray.toList_eq]; exact ⟨h, by simpa using h⟩
def hasB (l : List UInt8) (b : UInt8) : Bool := l.any (· == b)
/-! A region that draws its order, whose operations read and whose callees may make memory: one walk, in every world that keeps the old blocks. -/
section
variable {P : Program} {ops : Array Oper} {C : World → Prop} {Q : Act → Prop} {a : Act} {o : Oper} {rest : List Oper}
end
open Go.RowKit
def Behind (md : Region.Mode) (o : Oper) (L : Array Bool) : Prop := ∀ e ∈ o.after, Region.binds md e = true → L.getD e.on false = true
section
variable {P : Program} {ops : Array Oper} {md : Region.Mode} {C : Array Bool → World → Prop}
def goesUpon (P : Program) (D : World → Prop) (v : Value) : Result Next → Prop
  | .ok (.value u) w' => D w' ∧ u = v
  | .ok .skip w' => D w' ∧ v = undef
  | .ok (.enter f args) w' => Calls P f args w' (fun e w'' => e = .returned v ∧ D w'')
  | _ => False
attribute [go_sem] goesUpon
def Goes (P : Program) (md : Region.Mode) (ops : Array Oper) (C : Array Bool → World → Prop) (o : Oper) (i : Nat) (v : Value) (a : Act) : Prop :=
  (Region.wanted o (yielded ops a.tmps) = true ∧ ∀ L w, L.getD i true = false → Behind md o L → C L w → goesUpon P (C (L.setIfInBounds i true)) v ((execOp a.eval o).run P w)) ∨
  (Region.wanted o (yielded ops a.tmps) = false ∧ v = undef ∧ ∀ L w, L.getD i true = false → Behind md o L → C L w → C (L.setIfInBounds i true) w)
def ByEval (ops : Array Oper) (G : Oper → Nat → Value → Act → Prop) : Prop :=
  ∀ (o : Oper) (i : Nat) (v : Value) (a a' : Act), G o i v a → execOp a'.eval o = execOp a.eval o → Region.wanted o (yielded ops a'.tmps) = Region.wanted o (yielded ops a.tmps) → G o i v a'
theorem Goes.byEval : ByEval ops (Goes P md ops C) := by
  intro o i v a a' hy he hw
  unfold Goes at *
  rw [he, hw]
  exact hy
variable {G : Oper → Nat → Value → Act → Prop}
def flowOp (ops : Array Oper) (G : Oper → Nat → Value → Act → Prop) (i : Nat) (K : Act → Prop) (a : Act) : Prop :=
  ∃ o v, ops[i]? = some o ∧ G o i v a ∧ K (a.put o.dst v)
theorem flowOp_mono {i : Nat} {a : Act} {K K' : Act → Prop} (h : ∀ a, K a → K' a) (hh : flowOp ops G i K a) : flowOp ops G i K' a :=
  let ⟨o, v, h1, h2, h3⟩ := hh
  ⟨o, v, h1, h2, h _ h3⟩
def flowAny (md : Region.Mode) (ops : Array Oper) (G : Oper → Nat → Value → Act → Prop) (Q : Array Bool → Act → Prop) : Nat → Array Bool → Act → Prop
  | 0, listed, a => Region.ready md ops listed = [] ∧ Q listed a
  | fuel + 1, listed, a =>
    (Region.ready md ops listed = [] → Q listed a) ∧
    ∀ i ∈ Region.ready md ops listed, flowOp ops G i (flowAny md ops G Q fuel (listed.setIfInBounds i true)) a
theorem wpOp_of_flowOp {i : Nat} {a : Act} {K : Act → Prop} {K' : Act → World → Prop} {Q' : Exit → Act → World → Prop} {w : World} {listed : Array Bool} (hi : i ∈ Region.ready md ops listed) (hC : C listed w)
    (h : ∀ a w', C (listed.setIfInBounds i true) w' → K a → K' a w') (hh : flowOp ops (Goes P md ops C) i K a) : wpOp P ops Q' i K' a w := by
  obtain ⟨hun, oj, hoj, hall⟩ := mem_ready.1 hi
  obtain ⟨o, v, ho, hy, hK⟩ := hh
  obtain rfl : oj = o := Option.some.inj (hoj.symm.trans ho)
  have hbe : Behind md oj listed := fun e he hb => by simpa using hall e he hb
  unfold wpOp
  simp only [ho]
  rcases hy with ⟨hw, hv⟩ | ⟨hw, rfl, hk⟩
  · rw [if_pos hw]
    refine .inl ?_
    have h3 := hv listed w hun hbe hC
    unfold Oper.wp
    generalize (execOp a.eval oj).run P w = r at *
    cases r with
    | ok n w' =>
      cases n <;> simp only [goesUpon] at h3 <;> simp only [Oper.upon]
      case value u => obtain ⟨e1, rfl⟩ := h3; exact h _ _ e1 hK
      case skip => obtain ⟨e1, rfl⟩ := h3; exact h _ _ e1 hK
      case enter f args => exact h3.mono fun e w'' ⟨he, hw''⟩ => by subst he; exact h _ _ hw'' hK
    | halt x w' => simp only [goesUpon] at h3
  · rw [if_neg (by simp [hw])]
    exact h _ _ (hk listed w hun hbe hC) hK
theorem wpAny_of_flow {Q : Array Bool → Act → Prop} {Q' : Exit → Act → World → Prop} (hQ : ∀ L a w, C L w → Q L a → Q' .normal a w) : ∀ (fuel : Nat) (listed : Array Bool) (a : Act) (w : World), C listed w →
    flowAny md ops (Goes P md ops C) Q fuel listed a → wpAny P md ops Q' fuel listed a w
  | 0, _, _, _, hw, h => ⟨h.1, hQ _ _ _ hw h.2⟩
  | fuel + 1, _, _, _, hw, h => ⟨fun h0 => hQ _ _ _ hw (h.1 h0), fun i hi => wpOp_of_flowOp hi hw (fun a' w' hw' => wpAny_of_flow hQ fuel _ a' w' hw') (h.2 i hi)⟩
theorem flowOp_put {i j : Nat} {oi oj : Oper} {v : Value} (hG : ByEval ops G) (hj : ops[j]? = some oj) (hap : oi.apart ops oj = true)
    (hsi : ∀ cs b, oi.op ≠ .select cs b) (hsj : ∀ cs b, oj.op ≠ .select cs b) {K : Act → Prop} {a : Act}
    (hy : G oi i v a) (h : flowOp ops G j K (a.put oi.dst v)) :
    flowOp ops G j (fun a' => G oi i v a' ∧ K (a'.put oi.dst v)) a := by
  obtain ⟨h1, h2, h3⟩ := Oper.apart_spec hap
  obtain ⟨o, u, ho, hu, hK⟩ := h
  obtain rfl : oj = o := Option.some.inj (hj.symm.trans ho)
  exact ⟨oj, u, hj, hG _ _ _ _ _ hu (execOp_put oj hsj a oi.dst v h1).symm (wanted_put oj a oi.dst v h1).symm, hG _ _ _ _ _ hy (execOp_put oi hsi a oj.dst u h3) (wanted_put oi a oj.dst u h3),
    by rw [← Act.put_comm a v u h2]; exact hK⟩
theorem flowAny_first (hG : ByEval ops G) {Q : Array Bool → Act → Prop} {i : Nat} {oi : Oper} {v : Value} (hi : ops[i]? = some oi) (hsel : ∀ (j : Nat) (o : Oper) cs b, ops[j]? = some o → o.op ≠ .select cs b) :
    ∀ (fuel : Nat) (listed : Array Bool) (a : Act),
      (∀ j oj, ops[j]? = some oj → j ≠ i → listed.getD j true = false → (∀ e ∈ oj.after, Region.binds md e = true → e.on ≠ i) → oi.apart ops oj = true) →
      i ∈ Region.ready md ops listed → G oi i v a →
      flowAny md ops G Q fuel (listed.setIfInBounds i true) (a.put oi.dst v) → flowAny md ops G Q (fuel + 1) listed a := by
  intro fuel
  induction fuel with
  | zero =>
    intro listed a _ hr hy H
    refine ⟨fun h => (by rw [h] at hr; cases hr), fun j hj => ?_⟩
    by_cases hji : j = i
    · subst hji; exact ⟨oi, v, hi, hy, H⟩
    · have := ready_mono hj hji
      rw [H.1] at this
      cases this
  | succ fuel ih =>
    intro listed a hfree hr hy H
    refine ⟨fun h => (by rw [h] at hr; cases hr), fun j hj => ?_⟩
    by_cases hji : j = i
    · subst hji; exact ⟨oi, v, hi, hy, H⟩
    · have h1 := H.2 j (ready_mono hj hji)
      obtain ⟨hjun, oj, hoj, hall⟩ := mem_ready.1 hj
      have hnot : ∀ e ∈ oj.after, Region.binds md e = true → e.on ≠ i := fun e he hb heq => by
        have h1 := hall e he hb
        have h0 := (mem_ready.1 hr).1
        rw [heq] at h1
        rcases Nat.lt_or_ge i listed.size with h' | h'
        · simp [h'] at h0 h1; rw [h0] at h1; cases h1
        · simp [Array.getElem?_eq_none h'] at h1
      have h2 := flowOp_put hG hoj (hfree j oj hoj hji hjun hnot) (fun cs b => hsel i oi cs b hi) (fun cs b => hsel j oj cs b hoj) hy h1
      have hfree' : ∀ k ok, ops[k]? = some ok → k ≠ i → (listed.setIfInBounds j true).getD k true = false →
          (∀ e ∈ ok.after, Region.binds md e = true → e.on ≠ i) → oi.apart ops ok = true := fun k ok hk hki hun hno => by
        refine hfree k ok hk hki ?_ hno
        by_cases hjk : j = k
        · subst hjk; exact hjun
        · rw [getD_set_ne true hjk] at hun; exact hun
      refine flowOp_mono (fun a' h3 => ih (listed.setIfInBounds j true) a' hfree' (ready_mono hr (Ne.symm hji)) h3.1 ?_) h2
      rw [Array.setIfInBounds_comm _ _ hji]
      exact h3.2
def flow (G : Oper → Nat → Value → Act → Prop) (Q : Act → Prop) : Nat → List Oper → Act → Prop
  | _, [], a => Q a
  | k, o :: rest, a => ∃ v, G o k v a ∧ flow G Q (k + 1) rest (a.put o.dst v)
theorem flowAny_lex (hG : ByEval ops G) {Q : Act → Prop} (hs : Region.noSelect ops = true) : ∀ (l : List Oper) (k : Nat) (listed : Array Bool) (a : Act), (∀ j, l[j]? = ops[k + j]?) → listed.size = ops.size → k + l.length = ops.size → (∀ i, i < k → listed.getD i false = true) →
    Region.lexFrom md ops l.length k listed = true → flow G Q k l a → flowAny md ops G (fun L a => (∀ i, i < ops.size → L.getD i false = true) ∧ Q a) l.length listed a
  | [], k, _, _, _, _, hk, hall, hB, h => ⟨by simpa [Region.lexFrom] using hB, fun i hi => hall i (by simp at hk; omega), h⟩
  | o :: l, k, listed, a, hl, hz, hk, hall, hB, h => by
    have h0 : ops[k]? = some o := by simpa using (hl 0).symm
    simp only [List.length_cons, Region.lexFrom, Bool.and_eq_true] at hB
    obtain ⟨⟨hr, hf⟩, hB'⟩ := hB
    obtain ⟨v, hy, hK⟩ := h
    have hlt : k < listed.size := by simp only [List.length_cons] at hk; omega
    exact flowAny_first hG h0 (Region.noSelect_spec hs) l.length listed a (Region.free_spec h0 hf) (by simpa using hr) hy
      (flowAny_lex hG hs l (k + 1) _ _ (fun j => by have := hl (j + 1); simpa [Nat.add_assoc, Nat.add_comm 1 j] using this) (by simpa using hz) (by simp only [List.length_cons] at hk; omega)
        (fun i hi => by
          by_cases hik : i = k
          · subst hik; simp [hlt]
          · rw [getD_set_ne false (Ne.symm hik)]; exact hall i (by omega)) hB' hK)
theorem getD_replicate_none (m j : Nat) : (Array.replicate m false).getD j false = false := by
  rcases Nat.lt_or_ge j m with h | h
  · simp [h]
  · simp [h]
theorem wp_region_flow {id : Nat} {Q : Exit → Act → World → Prop} {a : Act} {w : World} {l : List Oper} (hm : P.follows .mixedOrders = true) (hB : Region.lexB .any l.toArray = true)
    (hC : ∀ L : Array Bool, (∀ i, L.getD i false = false) → C L { w with drawn := w.drawn + 1 })
    (h : flow (Goes P .any l.toArray C) (fun a' => ∀ L w', (∀ i, i < l.length → L.getD i false = true) → C L w' → Q .normal a' w') 0 l a) : (Code.region id l.toArray true).wp P Q a w := by
  simp only [Region.lexB, Bool.and_eq_true] at hB
  refine wp_region_any hm (wpAny_of_flow (Q := fun L a => (∀ i, i < l.toArray.size → L.getD i false = true) ∧ ∀ L w', (∀ i, i < l.length → L.getD i false = true) → C L w' → Q .normal a w')
    (fun L a w' hw' h => h.2 L w' (by simpa using h.1) hw') _ _ _ _ (hC _ (fun i => getD_replicate_none _ _)) ?_)
  have := flowAny_lex (G := Goes P .any l.toArray C) (md := .any) Goes.byEval hB.1 l 0 (Array.replicate l.length false) a (by simp) (by simp) (by simp) (fun i hi => absurd hi (by omega)) (by simpa using hB.2) h
  simpa using this
theorem flow_nil {Q : Act → Prop} {k : Nat} {a : Act} (h : Q a) : flow G Q k [] a := h
theorem flow_yes {Q : Act → Prop} {k : Nat} {o : Oper} {rest : List Oper} {a : Act} (hw : Region.wanted o (yielded ops a.tmps) = true) (v : Value)
    (h1 : ∀ L w, L.getD k true = false → Behind md o L → C L w → goesUpon P (C (L.setIfInBounds k true)) v ((execOp a.eval o).run P w)) (h2 : flow (Goes P md ops C) Q (k + 1) rest (a.put o.dst v)) : flow (Goes P md ops C) Q k (o :: rest) a :=
  ⟨v, .inl ⟨hw, h1⟩, h2⟩
theorem flow_free {Q : Act → Prop} {k : Nat} {o : Oper} {rest : List Oper} {a : Act} (hg : o.guard = none) (v : Value)
    (h1 : ∀ L w, L.getD k true = false → Behind md o L → C L w → goesUpon P (C (L.setIfInBounds k true)) v ((execOp a.eval o).run P w)) (h2 : flow (Goes P md ops C) Q (k + 1) rest (a.put o.dst v)) : flow (Goes P md ops C) Q k (o :: rest) a :=
  flow_yes (by simp [Region.wanted, hg]) v h1 h2
theorem flow_no {Q : Act → Prop} {k : Nat} {o : Oper} {rest : List Oper} {a : Act} (hw : Region.wanted o (yielded ops a.tmps) = false)
    (h1 : ∀ L w, L.getD k true = false → Behind md o L → C L w → C (L.setIfInBounds k true) w) (h2 : flow (Goes P md ops C) Q (k + 1) rest (a.put o.dst undef)) : flow (Goes P md ops C) Q k (o :: rest) a :=
  ⟨undef, .inr ⟨hw, rfl, h1⟩, h2⟩
end
theorem class_of (D : Array Bool → World → Prop) : ∃ C : Array Bool → World → Prop, ∀ L w, C L w ↔ D L w := ⟨D, fun _ _ => Iff.rfl⟩
theorem getD_set_false {L : Array Bool} {k i : Nat} (h : (L.setIfInBounds k true).getD i true = false) : L.getD i true = false := by
  by_cases e : k = i
  · subst e
    rcases Nat.lt_or_ge k L.size with h' | h'
    · simp [h'] at h
    · simp [] at h
  · rw [getD_set_ne true e] at h; exact h
structure InF (B : Nat) (W : World) (cells : List (Addr × Value)) (sts olds : List (Nat × Addr × Value)) (L : Array Bool) (w' : World) : Prop where
  below : Below B W w'
  cell : ∀ p ∈ cells, w'.cell? p.1 = some p.2
  at_ : ∀ s ∈ sts, ∃ u, w'.cell? s.2.1 = some u
  fro : ∀ s ∈ sts, w'.frozen? s.2.1 = false
  done : ∀ s ∈ sts, L.getD s.1 false = true → w'.cell? s.2.1 = some s.2.2
  old : ∀ s ∈ olds, L.getD s.1 true = false → w'.cell? s.2.1 = some s.2.2
section
variable {B : Nat} {W w' w1 : World} {cells : List (Addr × Value)} {sts olds : List (Nat × Addr × Value)} {L : Array Bool}
theorem InF.start (h1 : ∀ p ∈ cells, W.cell? p.1 = some p.2) (h2 : ∀ s ∈ sts, ∃ u, W.cell? s.2.1 = some u) (h3 : ∀ s ∈ sts, W.frozen? s.2.1 = false) (h4 : ∀ s ∈ olds, W.cell? s.2.1 = some s.2.2) (L : Array Bool) (hL : ∀ i, L.getD i false = false) :
    InF B W cells sts olds L { W with drawn := W.drawn + 1 } :=
  ⟨⟨rfl, rfl, rfl, Nat.le_refl _, fun _ _ => rfl⟩, fun p hp => h1 p hp, fun s hs => h2 s hs, fun s hs => h3 s hs, (fun s _ h => by rw [hL] at h; cases h), fun s hs _ => h4 s hs⟩
theorem InF.skip (h : InF B W cells sts olds L w') (k : Nat) (hk : sts.all (fun s => s.1 != k) = true) : InF B W cells sts olds (L.setIfInBounds k true) w' :=
  ⟨h.below, h.cell, h.at_, h.fro, fun s hs hd => h.done s hs (by
    have : s.1 ≠ k := by simpa using List.all_eq_true.1 hk s hs
    rw [getD_set_ne false (Ne.symm this)] at hd; exact hd), fun s hs hd => h.old s hs (getD_set_false hd)⟩
theorem InF.next (h : InF B W cells sts olds L w') (hB : B ≤ W.heap.size) (hb : Below w'.heap.size w' w1) : InF B W cells sts olds L w1 :=
  ⟨h.below.trans (hb.mono (Nat.le_trans hB h.below.size)), fun p hp => (hb.cell (World.block_lt_of_cell? w' _ (h.cell p hp))).trans (h.cell p hp),
    fun s hs => by obtain ⟨u, hu⟩ := h.at_ s hs; exact ⟨u, (hb.cell (World.block_lt_of_cell? w' _ hu)).trans hu⟩,
    fun s hs => by obtain ⟨u, hu⟩ := h.at_ s hs; exact (hb.frozen (World.block_lt_of_cell? w' _ hu)).trans (h.fro s hs),
    fun s hs hd => (hb.cell (World.block_lt_of_cell? w' _ (h.done s hs hd))).trans (h.done s hs hd),
    fun s hs hd => (hb.cell (World.block_lt_of_cell? w' _ (h.old s hs hd))).trans (h.old s hs hd)⟩
end
open Go.RowKit
def Elem (P : Program) (t e : TypeId) (size bytes : Nat) : Prop :=
  P.underlying t = some (.slice e) ∧ ∃ i z, P.info? e = some i ∧ i.zero = some z ∧ i.size = size ∧ i.bytes = bytes ∧ z.cells.size = size ∧ 0 < size
theorem elem_of {P : Program} {t e : TypeId} {z : Value} {size bytes : Nat} (ht : P.underlying t = some (.slice e)) (h : (P.info? e).map (fun i => (i.zero, i.size, i.bytes)) = some (some z, size, bytes))
    (hz : z.cells.size = size) (hs : 0 < size) : Elem P t e size bytes := by
  obtain ⟨i, h1, h2, h3, h4⟩ := info_parts h
  exact ⟨ht, i, z, h1, h2, h3, h4, hz, hs⟩
def NewRow (v v' : Value) (H : Nat) : Prop := v'.ownBlock = v.ownBlock ∨ ∃ g, v'.ownBlock = some g ∧ H ≤ g
section
variable {P : Program}
theorem wpList_app1 {w : World} {ops : Array Oper} {rest : List Oper} {o : Oper} {a : Act} {Q : Exit → Act → World → Prop} (hgd : o.guard = none) (s x : Operand) (t : TypeId)
    (ho : o.op = .call { callee := .builtin .append, args := #[s, x], argTypes := #[t, t] })
    (base : Nat) (e : TypeId) (size bytes : Nat) (hE : Elem P t e size bytes)
    (v : Value) (n : Nat) (xs : List Value) (hs : a.eval s = v) (wr : World) (cs : Array Value) (hw : w = wr.alloc (.cells cs e)) (H : Nat) (hH : wr.heap.size = H) (hx : a.eval x = .slice (some ⟨H, 0, none⟩) 1 1)
    (hown : wr.ownsRow base e size v n xs) (hcs : cs.size = size) (h1 : ∀ u ∈ cs.toList, u.oneCell' = true)
    (hbytes : (n + 1) * bytes ≤ 140737488355328) (h63 : n + 1 ≤ maxLen) (hbase : base ≤ wr.heap.size)
    (h : ∀ v' w', w'.ownsRow base e size v' (n + 1) (xs ++ cs.toList) → wr.grownBy w' v.ownBlock → NewRow v v' wr.heap.size → wr.heap.size < w'.heap.size → wpList P ops Q rest (a.put o.dst v') w') : wpList P ops Q (o :: rest) a w := by
  obtain ⟨ht, i, z, hi, hz, hsz, hby, hzs, hpos⟩ := hE
  subst hw hH
  have hnews : ∀ j u, cs.toList[j]? = some u → (wr.alloc (.cells cs e)).cell? ((⟨wr.heap.size, 0, none⟩ : Addr).add j) = some u := by
    intro j u hu
    have hb := heap_alloc_new wr (.cells cs e)
    have : ((⟨wr.heap.size, 0, none⟩ : Addr).add j) = ⟨wr.heap.size, j, none⟩ := by unfold Addr.add; split <;> simp_all
    rw [this, cell_of_row _ _ j cs e (0, 0) hb]
    simpa using hu
  obtain ⟨v', w', hrun, h2, h3, _, h5⟩ := run_append_own_at (P := P) (wr.alloc (.cells cs e)) base t o.type e i z size bytes ht hi hz hsz hby hzs hpos v n xs (hown.alloc _) ⟨wr.heap.size, 0, none⟩ 1 1 cs.toList (by rw [Array.length_toList, hcs, Nat.one_mul]) hnews h1 h63 hbytes (Nat.le_trans hbase (by simp))
  refine wpList_plain hgd fun _ hK => ?_
  unfold Oper.wp execOp
  simp only [ho, resolve, invoke, builtin, Sem.run_bind, Sem.run_pure, Result.andThen_ok, List.map_toArray, List.map_cons, List.map_nil, hs, hx, hrun]
  refine hK _ _ (h v' w' h2 ⟨h3.os, h3.tape, h3.output, Nat.le_trans (by simp) h3.size, fun k hk hne => (h3.block k (by simp; omega) hne).trans (Below.heap_alloc wr _ k hk)⟩ ?_ ?_)
  · rcases h5 with h5 | h5
    · exact .inl h5
    · exact .inr ⟨_, h5, by simp⟩
  · have := h3.size
    simp at this; omega
end
theorem row_empty (w : World) (base : Nat) (e : TypeId) (size : Nat) (hb : base ≤ w.heap.size) : (w.alloc (.cells #[] e)).ownsRow base e size (.slice (some ⟨w.heap.size, 0, none⟩) 0 0) 0 [] :=
  ⟨by simp, .inr ⟨w.heap.size, 0, #[], rfl, hb, heap_alloc_new w _, Nat.le_refl _, by simp [maxLen], by simp, by simp⟩⟩
theorem own_base {w : World} {base : Nat} {e : TypeId} {size : Nat} {v : Value} {n : Nat} {xs : List Value} (h : w.ownsRow base e size v n xs) : ∀ k, v.ownBlock = some k → base ≤ k := by
  intro k hk
  rcases h.2 with ⟨rfl, _⟩ | ⟨g, cap, cur, rfl, hb, _⟩
  · simp [Value.ownBlock] at hk
  · have : g = k := by simpa [Value.ownBlock] using hk
    omega
def strV (l : List (List UInt8)) : List Value := l.map fun s => Value.string ⟨s.toArray⟩
theorem strV_snoc (l : List (List UInt8)) (s : List UInt8) : strV (l ++ [s]) = strV l ++ [Value.string ⟨s.toArray⟩] := by simp [strV]
theorem elemStr : Elem Tryz.prog 26 9 1 16 := elem_of Tryz.underlying26 (z := .string ⟨#[]⟩) (by kernel_rfl) rfl (by omega)
def splitSt (b : UInt8) : List (List UInt8) × List UInt8 → UInt8 → List (List UInt8) × List UInt8 := fun st c => if c == b then (st.1 ++ [st.2], []) else (st.1, st.2 ++ [c])
def splitP (l : List UInt8) (b : UInt8) : List (List UInt8) × List UInt8 := l.foldl (splitSt b) ([], [])
def splitF (l : List UInt8) (b : UInt8) : List (List UInt8) := (splitP l b).1 ++ [(splitP l b).2]
theorem splitP_snoc (l : List UInt8) (c b : UInt8) : splitP (l ++ [c]) b = splitSt b (splitP l b) c := by simp [splitP]
theorem splitP_len (l : List UInt8) (b : UInt8) : (splitP l b).1.length ≤ l.length := by
  have : ∀ (l : List UInt8) (st : List (List UInt8) × List UInt8), (l.foldl (splitSt b) st).1.length ≤ st.1.length + l.length := by
    intro l; induction l with
    | nil => intro st; simp
    | cons c l ih => intro st; have := ih (splitSt b st c); simp only [List.foldl_cons, List.length_cons]; unfold splitSt at this ⊢; split at this <;> simp_all <;> omega
  simpa [splitP] using this l ([], [])
theorem split_yes (s : ByteArray) (k : Nat) (b : UInt8) (h : k < s.size) (hc : (s[k] == b) = true) : splitP (s.data.toList.take (k + 1)) b = ((splitP (s.data.toList.take k) b).1 ++ [(splitP (s.data.toList.take k) b).2], []) := by
  rw [take_snoc s k h, splitP_snoc, splitSt, if_pos hc]
theorem split_no (s : ByteArray) (k : Nat) (b : UInt8) (h : k < s.size) (hc : (s[k] == b) = false) : splitP (s.data.toList.take (k + 1)) b = ((splitP (s.data.toList.take k) b).1, (splitP (s.data.toList.take k) b).2 ++ [s[k]]) := by
  rw [take_snoc s k h, splitP_snoc, splitSt, if_neg (by simp [hc])]
theorem drop_snoc (s : ByteArray) (f k : Nat) (h : k < s.size) (hf : f ≤ k) : (s.data.toList.take (k + 1)).drop f = (s.data.toList.take k).drop f ++ [s[k]] := by
  rw [take_snoc s k h, List.drop_append_of_le_length (by rw [List.length_take, ← size_list]; omega)]
def SplitPost (l : List (List UInt8)) (w : World) (e : Ending) (w' : World) : Prop :=
  ∃ v, e = .returned v ∧ w'.ownsRow w.heap.size 9 1 v l.length (strV l) ∧ Below w.heap.size w w'
def SplitRel (s : ByteArray) (b : UInt8) (w : World) (out from_ i : Value) (wr : World) : Prop :=
  ∃ k f : Nat, k ≤ s.size ∧ f ≤ k ∧ i = .int .i64 k ∧ from_ = .int .i64 f ∧ (splitP (s.data.toList.take k) b).2 = (s.data.toList.take k).drop f ∧
      wr.ownsRow w.heap.size 9 1 out (splitP (s.data.toList.take k) b).1.length (strV (splitP (s.data.toList.take k) b).1) ∧ Below w.heap.size w wr
set_option maxHeartbeats 400000 in
theorem l1Split_any (s : ByteArray) (b : UInt8) (w : World) (hs : s.size ≤ 1000000000) :
    Calls Tryz.prog 67 #[.string s, .int .u8 b.toNat] w (SplitPost (splitF s.data.toList b) w) := by
  go_enter Tryz.func67, Tryz.ntmps67
  go_wp2
  go_loopw [5, 6, 7] (SplitRel s b w) (fun _ _ i _ => s.size - (intOf i).toNat)
  case atStart => exact ⟨0, 0, Nat.zero_le _, Nat.le_refl _, rfl, rfl, rfl, row_empty _ _ _ _ (Nat.le_refl _), (Below.refl _ _).alloc (Nat.le_refl _) _⟩
  case round =>
    obtain ⟨k, f, hk, hf, rfl, rfl, hcur, hown, hb⟩ := hrel
    have HC := Lib.hid hcur; clear hcur
    have hle : (splitP (s.data.toList.take k) b).1.length ≤ k := Nat.le_trans (splitP_len _ b) (List.length_take_le _ _)
    have hl1 : ((splitP (s.data.toList.take k) b).1.length + 1) * 16 ≤ 140737488355328 := by omega
    have hl2 : (splitP (s.data.toList.take k) b).1.length + 1 ≤ maxLen := by unfold maxLen; omega
    have HO := Lib.hid hown; clear hown
    by_cases hlt : k < s.size
    · go_wp2_with (at_builtin; refine wpList_app1 rfl (.tmp 20) (.tmp 25) _ rfl w.heap.size 9 1 16 elemStr _ _ _ rfl wr #[.string (s.extract f k)] rfl _ (by simp) rfl HO.out rfl (by simp [Value.oneCell']) hl1 hl2 hb.size ?_; intro v1 w1 hown1 hg1 hnr1 hlt1)
      · have hc := byte_eq_t ‹_›
        go_light
        refine ⟨⟨k + 1, k + 1, ?_⟩, by simp [intOf]; omega⟩
        rw [split_yes s k b hlt hc]
        refine ⟨by omega, by omega, by go_num, by go_num, ?_, ?_, hb.grown hg1 hb.size (own_base HO.out)⟩
        · rw [List.drop_eq_nil_of_le (List.length_take_le _ _)]
        · rw [strV_snoc, List.length_append, HC.out, ← extract_list]; exact hown1
      · have hc := byte_eq_f ‹_›
        go_light
        refine ⟨⟨k + 1, f, ?_⟩, by simp [intOf]; omega⟩
        rw [split_no s k b hlt hc]
        exact ⟨by omega, by omega, by go_num, rfl, by rw [drop_snoc s f k hlt hf, HC.out], HO.out, hb⟩
    · have hke : k = s.size := by omega
      subst hke
      have hx : s.data.toList.take s.size = s.data.toList := take_all _ _ (by omega)
      have hx1 : (splitP s.data.toList b).2 = (s.data.toList.take s.size).drop f := by rw [← HC.out, hx]
      have HX := Lib.hid hx
      have HX1 := Lib.hid hx1
      clear hx hx1
      go_wp2_with (at_builtin; refine wpList_app1 rfl (.tmp 29) (.tmp 33) _ rfl w.heap.size 9 1 16 elemStr _ _ _ rfl wr #[.string (s.extract f s.size)] rfl _ (by simp) rfl HO.out rfl (by simp [Value.oneCell']) hl1 hl2 hb.size ?_; intro v1 w1 hown1 hg1 hnr1 hlt1)
      go_ret
      refine ⟨v1, rfl, ?_, hb.grown hg1 hb.size (own_base HO.out)⟩
      rw [splitF, strV_snoc, List.length_append, HX1.out, ← extract_list]
      rw [HX.out] at hown1
      exact hown1
open Go.RowKit
theorem own_form {w : World} {base : Nat} {e : TypeId} {size : Nat} {v : Value} {n : Nat} {xs : List Value} (h : w.ownsRow base e size v n xs) (hn : 0 < n) : ∃ g cap, v = .slice (some ⟨g, 0, none⟩) n cap := by
  rcases h.2 with ⟨_, h0⟩ | ⟨g, cap, cur, hv, _⟩
  · omega
  · exact ⟨g, cap, hv⟩
theorem own_below {w w' : World} {base : Nat} {e : TypeId} {size : Nat} {v : Value} {n : Nat} {xs : List Value} (h : w.ownsRow base e size v n xs) (hb : Below w.heap.size w w') : w'.ownsRow base e size v n xs :=
  h.kept (row := none) ⟨hb.os, hb.tape, hb.output, hb.size, fun k hk _ => hb.block k hk⟩ (by cases hv : v.ownBlock <;> simp)
theorem grown_cell {w w' : World} {row : Option Nat} (hg : w.grownBy w' row) {g o : Nat} {v : Value} (hc : w.cell? ⟨g, o, none⟩ = some v) (hne : some g ≠ row) : w'.cell? ⟨g, o, none⟩ = some v :=
  (World.cell?_of_block (hg.block g (World.block_lt_of_cell? w _ hc) hne)).trans hc
theorem own_lt {w : World} {base : Nat} {e : TypeId} {size : Nat} {n : Nat} {xs : List Value} {g c : Nat} (h : w.ownsRow base e size (.slice (some ⟨g, 0, none⟩) n c) n xs) : g < w.heap.size := by
  rcases h.2 with ⟨h, _⟩ | ⟨g', cap, cur, hv, _, hh, _⟩
  · cases h
  · injection hv with hv
    injection hv with hv
    injection hv with hv
    subst hv
    rcases Nat.lt_or_ge g w.heap.size with hlt | hge
    · exact hlt
    · rw [Array.getElem?_eq_none hge] at hh; cases hh
theorem own_lower {w : World} {base b : Nat} {e : TypeId} {size : Nat} {v : Value} {n : Nat} {xs : List Value} (h : w.ownsRow base e size v n xs) (hb : b ≤ base) : w.ownsRow b e size v n xs := by
  refine ⟨h.1, ?_⟩
  rcases h.2 with h2 | ⟨g, cap, cur, hv, hg, h3⟩
  · exact .inl h2
  · exact .inr ⟨g, cap, cur, hv, Nat.le_trans hb hg, h3⟩
open Go.RowKit
inductive Tm where
  | mk (n : ByteArray) (us : List Tm)
inductive Fm where
  | mk (op : Int) (a : Tm) (v : ByteArray) (ps : List Fm)
def Tm.n : Tm → ByteArray | .mk n _ => n
def Tm.us : Tm → List Tm | .mk _ us => us
def Fm.op : Fm → Int | .mk o _ _ _ => o
def Fm.a : Fm → Tm | .mk _ a _ _ => a
def Fm.v : Fm → ByteArray | .mk _ _ v _ => v
def Fm.ps : Fm → List Fm | .mk _ _ _ ps => ps
def ListAt {α : Type} (B : Nat → Prop) (w : World) (size : Nat) (R : α → List Value → Prop) (v : Value) (xs : List α) : Prop :=
  ∃ (p : Option Addr) (c : Nat), v = .slice p xs.length c ∧ xs.length ≤ maxLen ∧
    ∀ i x, xs[i]? = some x → ∃ b o, p = some ⟨b, o, none⟩ ∧ B b ∧ ∃ cs : List Value, cs.length = size ∧ (∀ j, j < size → w.cell? ⟨b, o + i * size + j, none⟩ = cs[j]?) ∧ R x cs
def SameOn (B : Nat → Prop) (w w' : World) : Prop := ∀ b, B b → b < w.heap.size → w'.heap[b]? = w.heap[b]?
theorem SameOn.below {B : Nat → Prop} {w w' : World} (hb : Below w.heap.size w w') : SameOn B w w' := fun b _ h => hb.block b h
theorem SameOn.refl (B : Nat → Prop) (w : World) : SameOn B w w := fun _ _ _ => rfl
theorem SameOn.store {B : Nat → Prop} (w : World) {p : Addr} (hp : ∀ b, B b → b ≠ p.block) (u : Value) : SameOn B w (w.setCell p u) := fun b hb _ => heap_setCell_other w p b u (fun e => hp b hb e)
theorem ListAt.mono {α : Type} {B B' : Nat → Prop} {w w' : World} {size : Nat} {R R' : α → List Value → Prop} {v : Value} {xs : List α} (h : ListAt B w size R v xs) (hs : SameOn B w w') (hB : ∀ b, B b → B' b) (hR : ∀ x cs, x ∈ xs → R x cs → R' x cs) : ListAt B' w' size R' v xs := by
  obtain ⟨p, c, h1, h2, h3⟩ := h
  refine ⟨p, c, h1, h2, fun i x hx => ?_⟩
  obtain ⟨b, o, h4, h0, cs, h5, h6, h7⟩ := h3 i x hx
  refine ⟨b, o, h4, hB b h0, cs, h5, fun j hj => ?_, hR x cs (List.mem_of_getElem? hx) h7⟩
  have := h6 j hj
  rw [List.getElem?_eq_getElem (by omega)] at this ⊢
  exact (World.cell?_of_block (a := ⟨b, o + i * size + j, none⟩) (hs b h0 (World.block_lt_of_cell? w _ this))).trans this
theorem ListAt.nil {α : Type} (B : Nat → Prop) (w : World) (size : Nat) (R : α → List Value → Prop) (p : Option Addr) (c : Nat) : ListAt B w size R (.slice p 0 c) [] := ⟨p, c, rfl, Nat.zero_le _, fun i x h => by simp at h⟩
theorem ListAt.form {α : Type} {B : Nat → Prop} {w : World} {size : Nat} {R : α → List Value → Prop} {v : Value} {xs : List α} (h : ListAt B w size R v xs) : ∃ p c, v = .slice p xs.length c ∧ xs.length ≤ maxLen := by
  obtain ⟨p, c, h1, h2, _⟩ := h; exact ⟨p, c, h1, h2⟩
def TmAt (B : Nat → Prop) : Nat → World → Tm → List Value → Prop
  | 0, _, _, _ => False
  | n + 1, w, .mk s us, cs => ∃ va, cs = [.string s, va] ∧ s.size ≤ maxLen ∧ ListAt B w 2 (fun t c => TmAt B n w t c) va us
theorem TmAt.mono {B B' : Nat → Prop} {w w' : World} (hs : SameOn B w w') (hB : ∀ b, B b → B' b) : ∀ (n m : Nat) (t : Tm) (cs : List Value), n ≤ m → TmAt B n w t cs → TmAt B' m w' t cs
  | 0, _, _, _, _, h => h.elim
  | n + 1, 0, _, _, hm, _ => by omega
  | n + 1, m + 1, .mk s us, cs, hm, h => by
    obtain ⟨va, h1, h2, h3⟩ := h
    exact ⟨va, h1, h2, h3.mono hs hB (fun x cs _ hx => TmAt.mono hs hB n m x cs (by omega) hx)⟩
theorem TmAt.below {B : Nat → Prop} {w w' : World} (hb : Below w.heap.size w w') {n : Nat} {t : Tm} {cs : List Value} (h : TmAt B n w t cs) : TmAt B n w' t cs := TmAt.mono (SameOn.below hb) (fun _ h => h) n n t cs (Nat.le_refl _) h
theorem TmAt.form {B : Nat → Prop} {w : World} : ∀ {n : Nat} {t : Tm} {v0 v1 : Value}, TmAt B n w t [v0, v1] → ∃ p c, v0 = .string t.n ∧ v1 = .slice p t.us.length c ∧ t.n.size ≤ maxLen ∧ t.us.length ≤ maxLen
  | 0, _, _, _, h => h.elim
  | n + 1, .mk s us, v0, v1, h => by
    obtain ⟨va, h1, h2, h3⟩ := h
    simp only [List.cons.injEq, and_true] at h1
    obtain ⟨rfl, rfl⟩ := h1
    obtain ⟨p, c, rfl, h4⟩ := h3.form
    exact ⟨p, c, rfl, rfl, h2, h4⟩
def FmAt (B : Nat → Prop) : Nat → World → Fm → List Value → Prop
  | 0, _, _, _ => False
  | n + 1, w, .mk op a x ps, cs => ∃ vn va vp, cs = [.int .i64 op, vn, va, .string x, vp] ∧ (-9223372036854775808 ≤ op ∧ op ≤ 9223372036854775807) ∧ x.size ≤ maxLen ∧ TmAt B n w a [vn, va] ∧ ListAt B w 5 (fun f c => FmAt B n w f c) vp ps
theorem FmAt.mono {B B' : Nat → Prop} {w w' : World} (hs : SameOn B w w') (hB : ∀ b, B b → B' b) : ∀ (n m : Nat) (t : Fm) (cs : List Value), n ≤ m → FmAt B n w t cs → FmAt B' m w' t cs
  | 0, _, _, _, _, h => h.elim
  | n + 1, 0, _, _, hm, _ => by omega
  | n + 1, m + 1, .mk op a x ps, cs, hm, h => by
    obtain ⟨vn, va, vp, h1, h2, h3, h4, h5⟩ := h
    exact ⟨vn, va, vp, h1, h2, h3, h4.mono hs hB n m _ _ (by omega), h5.mono hs hB (fun x cs _ hx => FmAt.mono hs hB n m x cs (by omega) hx)⟩
theorem FmAt.below {B : Nat → Prop} {w w' : World} (hb : Below w.heap.size w w') {n : Nat} {t : Fm} {cs : List Value} (h : FmAt B n w t cs) : FmAt B n w' t cs := FmAt.mono (SameOn.below hb) (fun _ h => h) n n t cs (Nat.le_refl _) h
theorem TmAt.args {B : Nat → Prop} {w : World} : ∀ {n : Nat} {t : Tm} {v0 v1 : Value}, TmAt B n w t [v0, v1] → ListAt B w 2 (TmAt B n w) v1 t.us
  | 0, _, _, _, h => h.elim
  | n + 1, .mk s us, v0, v1, h => by
    obtain ⟨va, h1, h2, h3⟩ := h
    simp only [List.cons.injEq, and_true] at h1
    obtain ⟨rfl, rfl⟩ := h1
    exact h3.mono (SameOn.refl _ _) (fun _ h => h) (fun x cs _ hx => TmAt.mono (SameOn.refl _ _) (fun _ h => h) n (n + 1) x cs (by omega) hx)
theorem FmAt.form {B : Nat → Prop} {w : World} : ∀ {n : Nat} {t : Fm} {v0 v1 v2 v3 v4 : Value}, FmAt B n w t [v0, v1, v2, v3, v4] → ∃ p c q d, v0 = .int .i64 t.op ∧ v1 = .string t.a.n ∧ v2 = .slice p t.a.us.length c ∧ v3 = .string t.v ∧ v4 = .slice q t.ps.length d ∧ (-9223372036854775808 ≤ t.op ∧ t.op ≤ 9223372036854775807) ∧ t.a.n.size ≤ maxLen ∧ t.a.us.length ≤ maxLen ∧ t.v.size ≤ maxLen ∧ t.ps.length ≤ maxLen
  | 0, _, _, _, _, _, _, h => h.elim
  | n + 1, .mk op a x ps, v0, v1, v2, v3, v4, h => by
    obtain ⟨vn, va, vp, h1, h2, h3, h4, h5⟩ := h
    simp only [List.cons.injEq, and_true] at h1
    obtain ⟨rfl, rfl, rfl, rfl, rfl⟩ := h1
    obtain ⟨p, c, rfl, rfl, h6, h7⟩ := h4.form
    obtain ⟨q, d, rfl, h8⟩ := h5.form
    exact ⟨p, c, q, d, rfl, rfl, rfl, rfl, rfl, h2, h6, h7, h3, h8⟩
/-! ### What of a list's element lies in memory -/
theorem ListAt.at1 {α : Type} {B : Nat → Prop} {w : World} {R : α → List Value → Prop} {p : Option Addr} {n c : Nat} {xs : List α} (h : ListAt B w 1 R (.slice p n c) xs) {i : Nat} (hi : i < xs.length) :
    ∃ b o, p = some ⟨b, o, none⟩ ∧ B b ∧ ∃ x0, w.cell? ⟨b, o + i, none⟩ = some x0 ∧ R xs[i] [x0] := by
  obtain ⟨p', c', h1, h2, h3⟩ := h
  injection h1 with e1 e2 e3
  subst e1
  obtain ⟨b, o, h4, h0, cs, h5, h6, h7⟩ := h3 i xs[i] (List.getElem?_eq_getElem hi)
  match cs, h5 with
  | [x0], _ => exact ⟨b, o, h4, h0, x0, (by have := h6 0 (by omega); rw [Nat.mul_one] at this; exact this), h7⟩
theorem ListAt.at2 {α : Type} {B : Nat → Prop} {w : World} {R : α → List Value → Prop} {p : Option Addr} {n c : Nat} {xs : List α} (h : ListAt B w 2 R (.slice p n c) xs) {i : Nat} (hi : i < xs.length) :
    ∃ b o, p = some ⟨b, o, none⟩ ∧ B b ∧ ∃ x0 x1, w.cell? ⟨b, o + i * 2, none⟩ = some x0 ∧ w.cell? ⟨b, o + i * 2 + 1, none⟩ = some x1 ∧ R xs[i] [x0, x1] := by
  obtain ⟨p', c', h1, h2, h3⟩ := h
  injection h1 with e1 e2 e3
  subst e1
  obtain ⟨b, o, h4, h0, cs, h5, h6, h7⟩ := h3 i xs[i] (List.getElem?_eq_getElem hi)
  match cs, h5 with
  | [x0, x1], _ => exact ⟨b, o, h4, h0, x0, x1, h6 0 (by omega), h6 1 (by omega), h7⟩
theorem ListAt.at4 {α : Type} {B : Nat → Prop} {w : World} {R : α → List Value → Prop} {p : Option Addr} {n c : Nat} {xs : List α} (h : ListAt B w 4 R (.slice p n c) xs) {i : Nat} (hi : i < xs.length) :
    ∃ b o, p = some ⟨b, o, none⟩ ∧ B b ∧ ∃ x0 x1 x2 x3, w.cell? ⟨b, o + i * 4, none⟩ = some x0 ∧ w.cell? ⟨b, o + i * 4 + 1, none⟩ = some x1 ∧ w.cell? ⟨b, o + i * 4 + 2, none⟩ = some x2 ∧ w.cell? ⟨b, o + i * 4 + 3, none⟩ = some x3 ∧ R xs[i] [x0, x1, x2, x3] := by
  obtain ⟨p', c', h1, h2, h3⟩ := h
  injection h1 with e1 e2 e3
  subst e1
  obtain ⟨b, o, h4, h0, cs, h5, h6, h7⟩ := h3 i xs[i] (List.getElem?_eq_getElem hi)
  match cs, h5 with
  | [x0, x1, x2, x3], _ => exact ⟨b, o, h4, h0, x0, x1, x2, x3, h6 0 (by omega), h6 1 (by omega), h6 2 (by omega), h6 3 (by omega), h7⟩
theorem ListAt.at5 {α : Type} {B : Nat → Prop} {w : World} {R : α → List Value → Prop} {p : Option Addr} {n c : Nat} {xs : List α} (h : ListAt B w 5 R (.slice p n c) xs) {i : Nat} (hi : i < xs.length) :
    ∃ b o, p = some ⟨b, o, none⟩ ∧ B b ∧ ∃ x0 x1 x2 x3 x4, w.cell? ⟨b, o + i * 5, none⟩ = some x0 ∧ w.cell? ⟨b, o + i * 5 + 1, none⟩ = some x1 ∧ w.cell? ⟨b, o + i * 5 + 2, none⟩ = some x2 ∧ w.cell? ⟨b, o + i * 5 + 3, none⟩ = some x3 ∧ w.cell? ⟨b, o + i * 5 + 4, none⟩ = some x4 ∧ R xs[i] [x0, x1, x2, x3, x4] := by
  obtain ⟨p', c', h1, h2, h3⟩ := h
  injection h1 with e1 e2 e3
  subst e1
  obtain ⟨b, o, h4, h0, cs, h5, h6, h7⟩ := h3 i xs[i] (List.getElem?_eq_getElem hi)
  match cs, h5 with
  | [x0, x1, x2, x3, x4], _ => exact ⟨b, o, h4, h0, x0, x1, x2, x3, x4, h6 0 (by omega), h6 1 (by omega), h6 2 (by omega), h6 3 (by omega), h6 4 (by omega), h7⟩
open Go.RowKit
def upC (c : UInt8) : Bool := decide (65 ≤ c.toNat) && decide (c.toNat ≤ 90)
def loC (c : UInt8) : Bool := decide (97 ≤ c.toNat) && decide (c.toNat ≤ 122)
def diC (c : UInt8) : Bool := decide (48 ≤ c.toNat) && decide (c.toNat ≤ 57)
def smC (c : UInt8) : Bool := loC c || diC c
def unC (c : UInt8) : Bool := smC c || c == 95
def headTail (p q : UInt8 → Bool) : List UInt8 → Bool
  | [] => true
  | c :: l => p c && l.all q
theorem headTail_snoc (p q : UInt8 → Bool) (l : List UInt8) (c : UInt8) : headTail p q (l ++ [c]) = (headTail p q l && (if l.isEmpty then p c else q c)) := by
  cases l with
  | nil => simp [headTail]
  | cons x l => simp [headTail, Bool.and_assoc]
def varB (l : List UInt8) : Bool := decide (1 ≤ l.length) && decide (l.length ≤ 4) && headTail upC smC l
def keyW : List (List UInt8) := [[116, 114, 117, 101], [102, 97, 108, 115, 101], [116, 114, 117, 116, 104], [98, 111, 116, 104], [101, 105, 116, 104, 101, 114], [105, 102], [97, 108, 108], [115, 111, 109, 101]]
def symB (l : List UInt8) : Bool := decide (1 ≤ l.length) && decide (l.length ≤ 6) && headTail loC unC l && !keyW.contains l
mutual
def Tm.sz : Tm → Nat | .mk _ us => 1 + Tm.szs us
def Tm.szs : List Tm → Nat | [] => 0 | a :: us => a.sz + Tm.szs us
end
mutual
def Tm.dp : Tm → Nat | .mk _ us => Tm.dps us + 1
def Tm.dps : List Tm → Nat | [] => 0 | a :: us => max a.dp (Tm.dps us)
end
mutual
def Tm.nodes : Tm → Bool | .mk n us => if varB n.data.toList then us.isEmpty else symB n.data.toList && decide (us.length ≤ 4) && Tm.nodess us
def Tm.nodess : List Tm → Bool | [] => true | a :: us => a.nodes && Tm.nodess us
end
mutual
def Tm.szI : Tm → Nat | .mk _ us => Tm.szIs 1 us
def Tm.szIs : Nat → List Tm → Nat | n, [] => n | n, a :: us => if 30 < n then n else Tm.szIs (n + a.szI) us
end
mutual
def Tm.many : Tm → Nat → Nat | .mk _ us, m => Tm.manys 1 us m
def Tm.manys : Nat → List Tm → Nat → Nat | n, [], _ => n | n, a :: us, m => if n ≤ m then Tm.manys (n + a.many (m - n)) us m else n
end
mutual
theorem Tm.szI_law : ∀ t : Tm, t.szI ≤ t.sz ∧ (t.szI ≤ 30 → t.szI = t.sz) ∧ 1 ≤ t.szI
  | .mk _ us => by have := Tm.szIs_law 1 us; rw [Tm.szI, Tm.sz]; omega
theorem Tm.szIs_law : ∀ (n : Nat) (us : List Tm), Tm.szIs n us ≤ n + Tm.szs us ∧ (Tm.szIs n us ≤ 30 → Tm.szIs n us = n + Tm.szs us) ∧ n ≤ Tm.szIs n us
  | n, [] => by simp [Tm.szIs, Tm.szs]
  | n, a :: us => by
    have h1 := Tm.szI_law a
    have h2 := Tm.szIs_law (n + a.szI) us
    rw [Tm.szIs, Tm.szs]
    split <;> omega
end
mutual
theorem Tm.many_law : ∀ (t : Tm) (m : Nat), t.many m ≤ t.sz ∧ (t.many m ≤ m → t.many m = t.sz) ∧ 1 ≤ t.many m
  | .mk _ us, m => by have := Tm.manys_law 1 us m; rw [Tm.many, Tm.sz]; omega
theorem Tm.manys_law : ∀ (n : Nat) (us : List Tm) (m : Nat), Tm.manys n us m ≤ n + Tm.szs us ∧ (Tm.manys n us m ≤ m → Tm.manys n us m = n + Tm.szs us) ∧ n ≤ Tm.manys n us m
  | n, [], m => by simp [Tm.manys, Tm.szs]
  | n, a :: us, m => by
    have h1 := Tm.many_law a (m - n)
    have h2 := Tm.manys_law (n + a.many (m - n)) us m
    rw [Tm.manys, Tm.szs]
    split <;> omega
end
mutual
theorem Tm.dp_le : ∀ t : Tm, t.dp ≤ t.sz
  | .mk _ us => by have := Tm.dps_le us; rw [Tm.dp, Tm.sz]; omega
theorem Tm.dps_le : ∀ us : List Tm, Tm.dps us ≤ Tm.szs us
  | [] => by simp [Tm.dps, Tm.szs]
  | a :: us => by have := Tm.dp_le a; have := Tm.dps_le us; rw [Tm.dps, Tm.szs]; omega
end
theorem Tm.szI_iff (t : Tm) : decide (t.szI ≤ 30) = decide (t.sz ≤ 30) := by rw [decide_eq_decide]; have := t.szI_law; omega
theorem Tm.many_iff (t : Tm) : decide (t.many 30 ≤ 30) = decide (t.sz ≤ 30) := by rw [decide_eq_decide]; have := t.many_law 30; omega
def Tm.small (t : Tm) : Bool := decide (t.sz ≤ 30) && decide (t.dp ≤ 8)
def Tm.good (t : Tm) : Bool := t.small && t.nodes
def isEq (n : ByteArray) : Bool := n.data.toList == [61]
def Tm.atom (t : Tm) : Bool :=
  if isEq t.n then decide (t.us.length = 2) && t.small && Tm.nodess t.us else symB t.n.data.toList && t.good
mutual
def Fm.sz : Fm → Nat | .mk _ _ _ ps => 1 + Fm.szs ps
def Fm.szs : List Fm → Nat | [] => 0 | a :: us => a.sz + Fm.szs us
end
mutual
def Fm.szI : Fm → Nat | .mk _ _ _ ps => Fm.szIs 1 ps
def Fm.szIs : Nat → List Fm → Nat | n, [] => n | n, a :: us => if 40 < n then n else Fm.szIs (n + a.szI) us
end
mutual
def Fm.many : Fm → Nat → Nat | .mk _ _ _ ps, m => Fm.manys 1 ps m
def Fm.manys : Nat → List Fm → Nat → Nat | n, [], _ => n | n, a :: us, m => if n ≤ m then Fm.manys (n + a.many (m - n)) us m else n
end
mutual
theorem Fm.szI_law : ∀ t : Fm, t.szI ≤ t.sz ∧ (t.szI ≤ 40 → t.szI = t.sz) ∧ 1 ≤ t.szI
  | .mk _ _ _ us => by have := Fm.szIs_law 1 us; rw [Fm.szI, Fm.sz]; omega
theorem Fm.szIs_law : ∀ (n : Nat) (us : List Fm), Fm.szIs n us ≤ n + Fm.szs us ∧ (Fm.szIs n us ≤ 40 → Fm.szIs n us = n + Fm.szs us) ∧ n ≤ Fm.szIs n us
  | n, [] => by simp [Fm.szIs, Fm.szs]
  | n, a :: us => by
    have h1 := Fm.szI_law a
    have h2 := Fm.szIs_law (n + a.szI) us
    rw [Fm.szIs, Fm.szs]
    split <;> omega
end
mutual
theorem Fm.many_law : ∀ (t : Fm) (m : Nat), t.many m ≤ t.sz ∧ (t.many m ≤ m → t.many m = t.sz) ∧ 1 ≤ t.many m
  | .mk _ _ _ us, m => by have := Fm.manys_law 1 us m; rw [Fm.many, Fm.sz]; omega
theorem Fm.manys_law : ∀ (n : Nat) (us : List Fm) (m : Nat), Fm.manys n us m ≤ n + Fm.szs us ∧ (Fm.manys n us m ≤ m → Fm.manys n us m = n + Fm.szs us) ∧ n ≤ Fm.manys n us m
  | n, [], m => by simp [Fm.manys, Fm.szs]
  | n, a :: us, m => by
    have h1 := Fm.many_law a (m - n)
    have h2 := Fm.manys_law (n + a.many (m - n)) us m
    rw [Fm.manys, Fm.szs]
    split <;> omega
end
theorem Fm.szI_iff (t : Fm) : decide (t.szI ≤ 40) = decide (t.sz ≤ 40) := by rw [decide_eq_decide]; have := t.szI_law; omega
theorem Fm.many_iff (t : Fm) : decide (t.many 40 ≤ 40) = decide (t.sz ≤ 40) := by rw [decide_eq_decide]; have := t.many_law 40; omega
def Tm.none (t : Tm) : Bool := t.n.data.toList.isEmpty && t.us.isEmpty
def arity (op : Int) : Option Nat := if op = 1 ∨ op = 2 ∨ op = 3 then some 0 else if op = 4 ∨ op = 8 ∨ op = 9 then some 1 else if op = 5 ∨ op = 6 ∨ op = 7 then some 2 else none
def isQ (op : Int) : Bool := op == 8 || op == 9
def Fm.form1 (f : Fm) : Bool :=
  (arity f.op == some f.ps.length) && (if isQ f.op then varB f.v.data.toList else f.v.data.toList.isEmpty) && (if f.op = 3 then f.a.atom else f.a.none)
mutual
def Fm.form : Fm → Bool | .mk op a v ps => Fm.form1 (.mk op a v ps) && Fm.forms ps
def Fm.forms : List Fm → Bool | [] => true | f :: fs => f.form && Fm.forms fs
end
def Fm.good (f : Fm) : Bool := decide (f.sz ≤ 40) && f.form
/-! ### Texts -/
def joinB (sep : List UInt8) : List (List UInt8) → List UInt8
  | [] => []
  | [a] => a
  | a :: b :: l => a ++ sep ++ joinB sep (b :: l)
mutual
def Tm.fmt : Tm → List UInt8
  | .mk n us => if n.data.toList = [61] then (match Tm.fmtL us with | a :: b :: _ => a ++ [32, 61, 32] ++ b | _ => []) else match us with | [] => n.data.toList | _ :: _ => n.data.toList ++ [40] ++ joinB [44] (Tm.fmtL us) ++ [41]
def Tm.fmtL : List Tm → List (List UInt8)
  | [] => []
  | a :: us => a.fmt :: Tm.fmtL us
end
open Go.RowKit
mutual
def Tm.wt : Tm → Nat | .mk n us => n.size + us.length + Tm.wts us
def Tm.wts : List Tm → Nat | [] => 0 | a :: us => a.wt + Tm.wts us
end
open Go.RowKit
def StrAt (s : ByteArray) (cs : List Value) : Prop := cs = [.string s] ∧ s.size ≤ maxLen
def StrsAt (B : Nat → Prop) (w : World) (v : Value) (xs : List ByteArray) : Prop := ListAt B w 1 StrAt v xs
def wtS : List ByteArray → Nat | [] => 0 | a :: us => a.size + wtS us
theorem wtS_le : ∀ (us : List ByteArray), ∀ s ∈ us, s.size ≤ wtS us
  | [], _, h => by simp at h
  | a :: us, s, h => by
    rw [wtS]
    rcases List.mem_cons.1 h with rfl | h
    · omega
    · have := wtS_le us s h; omega
theorem StrsAt.mono {B B' : Nat → Prop} {w w' : World} {v : Value} {xs : List ByteArray} (hs : SameOn B w w') (hB : ∀ b, B b → B' b) (h : StrsAt B w v xs) : StrsAt B' w' v xs := ListAt.mono h hs hB (fun _ _ _ h => h)
theorem StrsAt.below {B : Nat → Prop} {w w' : World} {v : Value} {xs : List ByteArray} (hb : Below w.heap.size w w') (h : StrsAt B w v xs) : StrsAt B w' v xs := h.mono (SameOn.below hb) (fun _ h => h)
theorem StrsAt.form {B : Nat → Prop} {w : World} {v : Value} {xs : List ByteArray} (h : StrsAt B w v xs) : ∃ p c, v = .slice p xs.length c ∧ xs.length ≤ maxLen := ListAt.form h
theorem StrsAt.at_ {B : Nat → Prop} {w : World} {p : Option Addr} {n c : Nat} {xs : List ByteArray} (h : StrsAt B w (.slice p n c) xs) {i : Nat} (hi : i < xs.length) : ∃ b o, p = some ⟨b, o, none⟩ ∧ B b ∧ w.cell? ⟨b, o + i, none⟩ = some (.string xs[i]) ∧ xs[i].size ≤ maxLen := by
  obtain ⟨b, o, h1, h2, x, h3, h4, h5⟩ := ListAt.at1 h hi
  simp only [List.cons.injEq, and_true] at h4
  subst h4
  exact ⟨b, o, h1, h2, h3, h5⟩
structure Un where
  name : ByteArray
  incs : List ByteArray
  axs : List ByteArray
  goal : ByteArray
def Un.wt (u : Un) : Nat := u.name.size + (u.incs.length + wtS u.incs) + (u.axs.length + wtS u.axs) + u.goal.size
def UnAt (B : Nat → Prop) (w : World) (u : Un) (cs : List Value) : Prop := ∃ va vb, cs = [.string u.name, va, vb, .string u.goal] ∧ u.name.size ≤ maxLen ∧ u.goal.size ≤ maxLen ∧ StrsAt B w va u.incs ∧ StrsAt B w vb u.axs
theorem UnAt.mono {B B' : Nat → Prop} {w w' : World} {u : Un} {cs : List Value} (hs : SameOn B w w') (hB : ∀ b, B b → B' b) (h : UnAt B w u cs) : UnAt B' w' u cs := by
  obtain ⟨va, vb, h1, h2, h3, h4, h5⟩ := h
  exact ⟨va, vb, h1, h2, h3, h4.mono hs hB, h5.mono hs hB⟩
theorem UnAt.below {B : Nat → Prop} {w w' : World} {u : Un} {cs : List Value} (hb : Below w.heap.size w w') (h : UnAt B w u cs) : UnAt B w' u cs := h.mono (SameOn.below hb) (fun _ h => h)
theorem UnAt.form {B : Nat → Prop} {w : World} {u : Un} {v0 v1 v2 v3 : Value} (h : UnAt B w u [v0, v1, v2, v3]) : ∃ p c q d, v0 = .string u.name ∧ v1 = .slice p u.incs.length c ∧ v2 = .slice q u.axs.length d ∧ v3 = .string u.goal ∧ u.name.size ≤ maxLen ∧ u.goal.size ≤ maxLen ∧ u.incs.length ≤ maxLen ∧ u.axs.length ≤ maxLen ∧ StrsAt B w (.slice p u.incs.length c) u.incs ∧ StrsAt B w (.slice q u.axs.length d) u.axs := by
  obtain ⟨va, vb, h1, h2, h3, h4, h5⟩ := h
  obtain ⟨p, c, rfl, l1⟩ := h4.form
  obtain ⟨q, d, rfl, l2⟩ := h5.form
  simp only [List.cons.injEq, and_true] at h1
  obtain ⟨rfl, rfl, rfl, rfl⟩ := h1
  exact ⟨p, c, q, d, rfl, rfl, rfl, rfl, h2, h3, l1, l2, h4, h5⟩
instance lawBA : LawfulBEq ByteArray where
  eq_of_beq {a b} h := by
    have h : ByteArray.beq a b = true := h
    exact ByteArray.ext (by simpa [ByteArray.beq] using h)
  rfl {a} := by
    show ByteArray.beq a a = true
    simp [ByteArray.beq]
def inS (l : List ByteArray) (x : ByteArray) : Bool := decide (x ∈ l)
def Un.ready (out : List ByteArray) (u : Un) : Bool := !inS out u.name && u.incs.all (inS out)
def ordF : Nat → List Un → List ByteArray → List ByteArray
  | 0, _, out => out
  | f + 1, l, out => match l.find? (Un.ready out) with
    | none => out
    | some u => ordF f l (out ++ [u.name])
def ordL (l : List Un) : List ByteArray := ordF l.length l []
theorem pigeon : ∀ (a b : List ByteArray), a.Nodup → (∀ x ∈ a, x ∈ b) → a.length ≤ b.length
  | [], _, _, _ => Nat.zero_le _
  | x :: a, b, hn, h => by
    rw [List.nodup_cons] at hn
    have hx : x ∈ b := h x (List.mem_cons_self ..)
    have := pigeon a (b.erase x) hn.2 (fun y hy => (List.mem_erase_of_ne (fun e : y = x => hn.1 (e ▸ hy))).2 (h y (List.mem_cons_of_mem _ hy)))
    rw [List.length_erase_of_mem hx] at this
    have := List.length_pos_of_mem hx
    rw [List.length_cons]; omega
structure OrdInv (l : List Un) (out : List ByteArray) : Prop where
  nd : out.Nodup
  sub : ∀ x ∈ out, x ∈ l.map Un.name
  topo : ∀ (i : Nat) (x : ByteArray), out[i]? = some x → ∃ u ∈ l, u.name = x ∧ ∀ y ∈ u.incs, y ∈ out.take i
theorem OrdInv.nil (l : List Un) : OrdInv l [] := ⟨List.nodup_nil, by simp, by simp⟩
theorem OrdInv.len {l : List Un} {out : List ByteArray} (h : OrdInv l out) : out.length ≤ l.length := by
  have := pigeon _ _ h.nd h.sub; simpa using this
theorem ready_parts {out : List ByteArray} {u : Un} (h : u.ready out = true) : u.name ∉ out ∧ ∀ y ∈ u.incs, y ∈ out := by
  rw [Un.ready, Bool.and_eq_true, Bool.not_eq_true', List.all_eq_true] at h
  exact ⟨by simpa [inS] using h.1, fun y hy => by simpa [inS] using h.2 y hy⟩
theorem OrdInv.snoc {l : List Un} {out : List ByteArray} {u : Un} (h : OrdInv l out) (hu : u ∈ l) (hr : u.ready out = true) : OrdInv l (out ++ [u.name]) := by
  obtain ⟨h1, h2⟩ := ready_parts hr
  refine ⟨?_, ?_, ?_⟩
  · rw [List.nodup_append]; exact ⟨h.nd, by simp, by simp; intro a ha e; exact h1 (e ▸ ha)⟩
  · intro x hx
    rcases List.mem_append.1 hx with hx | hx
    · exact h.sub x hx
    · rw [List.mem_singleton] at hx; subst hx; exact List.mem_map_of_mem hu
  · intro i x hx
    rcases Nat.lt_or_ge i out.length with hi | hi
    · rw [List.getElem?_append_left hi] at hx
      obtain ⟨v, hv, e, hy⟩ := h.topo i x hx
      exact ⟨v, hv, e, fun y hyy => by rw [List.take_append_of_le_length (by omega)]; exact hy y hyy⟩
    · rw [List.getElem?_append_right hi] at hx
      have hi0 : i = out.length := by
        rcases Nat.lt_or_ge out.length i with h' | h'
        · rw [List.getElem?_eq_none (by simp; omega)] at hx; cases hx
        · omega
      subst hi0
      simp at hx
      exact ⟨u, hu, hx, fun y hy => by rw [List.take_append_of_le_length (by omega), List.take_length]; exact h2 y hy⟩
theorem find_mem {l : List Un} {p : Un → Bool} {u : Un} (h : l.find? p = some u) : u ∈ l ∧ p u = true := ⟨List.mem_of_find?_eq_some h, List.find?_some h⟩
theorem ordF_inv {l : List Un} : ∀ (f : Nat) (out : List ByteArray), OrdInv l out → OrdInv l (ordF f l out)
  | 0, _, h => h
  | f + 1, out, h => by
    rw [ordF]
    cases hf : l.find? (Un.ready out) with
    | none => exact h
    | some u => exact ordF_inv f _ (h.snoc (find_mem hf).1 (find_mem hf).2)
theorem ordL_inv (l : List Un) : OrdInv l (ordL l) := ordF_inv _ _ (OrdInv.nil l)
theorem ordF_none {l : List Un} {out : List ByteArray} (f : Nat) (h : l.find? (Un.ready out) = none) : ordF f l out = out := by
  cases f with
  | zero => rfl
  | succ f => rw [ordF, h]
theorem full_none {l : List Un} {out : List ByteArray} (h : OrdInv l out) (hl : out.length = l.length) : l.find? (Un.ready out) = none := by
  cases hf : l.find? (Un.ready out) with
  | none => rfl
  | some u =>
    have := (h.snoc (find_mem hf).1 (find_mem hf).2).len
    simp at this; omega
theorem ordF_step {l : List Un} {out : List ByteArray} {u : Un} (h : l.find? (Un.ready out) = some u) (hi : OrdInv l out) : ordF (l.length - out.length) l out = ordF (l.length - (out ++ [u.name]).length) l (out ++ [u.name]) := by
  have h1 := (hi.snoc (find_mem h).1 (find_mem h).2).len
  obtain ⟨f, hf⟩ : ∃ f, l.length - out.length = f + 1 := ⟨l.length - out.length - 1, by simp at h1; omega⟩
  rw [hf, ordF, h]
  simp only
  rw [show l.length - (out ++ [u.name]).length = f by simp; omega]
theorem ordF_full {l : List Un} {out : List ByteArray} (h : OrdInv l out) (hl : out.length = l.length) : ordF (l.length - out.length) l out = out := ordF_none _ (full_none h hl)
/-! ### What a unit uses -/
def findU (l : List Un) (x : ByteArray) : Option Un := l.find? (fun u => decide (u.name = x))
def incsOf (l : List Un) (x : ByteArray) : List ByteArray := match findU l x with | none => [] | some u => u.incs
def Dist (l : List Un) : Prop := (l.map Un.name).Nodup
theorem findU_of : ∀ {l : List Un} {u : Un}, Dist l → u ∈ l → findU l u.name = some u
  | [], _, _, h => by simp at h
  | v :: l, u, hd, h => by
    rw [Dist, List.map_cons, List.nodup_cons] at hd
    rw [findU, List.find?_cons]
    by_cases e : v.name = u.name
    · rcases List.mem_cons.1 h with rfl | h
      · simp
      · exact absurd (e ▸ List.mem_map_of_mem h) hd.1
    · rw [decide_eq_false e]
      rcases List.mem_cons.1 h with rfl | h
      · exact absurd rfl e
      · exact findU_of hd.2 h
theorem findU_some {l : List Un} {x : ByteArray} {u : Un} (h : findU l x = some u) : u ∈ l ∧ u.name = x := by
  have := find_mem h
  exact ⟨this.1, by simpa using this.2⟩
theorem incs_topo {l : List Un} {R : List ByteArray} (hd : Dist l) (h : OrdInv l R) {i : Nat} {x : ByteArray} (hx : R[i]? = some x) : ∀ y ∈ incsOf l x, y ∈ R.take i := by
  obtain ⟨u, hu, e, hy⟩ := h.topo i x hx
  subst e
  rw [incsOf, findU_of hd hu]
  exact hy
theorem idx_some {R : List ByteArray} {x : ByteArray} (h : x ∈ R) : R[R.idxOf x]? = some x := by
  rw [List.getElem?_eq_getElem (List.idxOf_lt_length_of_mem h)]; simp
theorem idx_take {R : List ByteArray} {x : ByteArray} {i : Nat} (h : x ∈ R.take i) : x ∈ R ∧ R.idxOf x < i := by
  refine ⟨List.mem_of_mem_take h, ?_⟩
  have h1 := List.idxOf_lt_length_of_mem h
  have h2 : R.idxOf x = (R.take i).idxOf x := by
    conv => lhs; rw [← List.take_append_drop i R]
    rw [List.idxOf_append, if_pos h]
  rw [h2]; rw [List.length_take] at h1; omega
theorem incs_rank {l : List Un} {R : List ByteArray} (hd : Dist l) (h : OrdInv l R) {x y : ByteArray} (hx : x ∈ R) (hy : y ∈ incsOf l x) : y ∈ R ∧ R.idxOf y < R.idxOf x :=
  idx_take (incs_topo hd h (idx_some hx) y hy)
/-! ### Axioms in sight -/
theorem full_all {l : List Un} (h : (ordL l).length = l.length) : ∀ u ∈ l, u.name ∈ ordL l := by
  intro u hu
  rcases Classical.em (u.name ∈ ordL l) with h1 | h1
  · exact h1
  · have hi := ordL_inv l
    have := pigeon (u.name :: ordL l) (l.map Un.name) (List.nodup_cons.2 ⟨h1, hi.nd⟩) (by
      intro x hx
      rcases List.mem_cons.1 hx with rfl | hx
      · exact List.mem_map_of_mem hu
      · exact hi.sub x hx)
    simp at this; omega
open Go.RowKit
def wordC (c : UInt8) : Bool := loC c || upC c || diC c || c == 95
structure PSt where
  pos : Nat
  bad : Bool
def pTake (L t : List UInt8) (p : PSt) : Bool := !p.bad && t.isPrefixOf (L.drop p.pos)
def pAdv (t : List UInt8) (p : PSt) : PSt := ⟨p.pos + t.length, p.bad⟩
def pMust (L t : List UInt8) (p : PSt) : PSt := if pTake L t p then pAdv t p else ⟨p.pos, true⟩
def pWordL (L : List UInt8) (p : PSt) : List UInt8 := (L.drop p.pos).takeWhile wordC
def pWord (L : List UInt8) (p : PSt) : List UInt8 × PSt :=
  if p.bad || (pWordL L p).isEmpty then ([], ⟨p.pos + (pWordL L p).length, true⟩) else (pWordL L p, ⟨p.pos + (pWordL L p).length, p.bad⟩)
mutual
def pTerm (L : List UInt8) : Nat → PSt → Tm × PSt
  | 0, p => (.mk ⟨#[]⟩ [], p)
  | f + 1, p =>
    if pTake L [40] (pWord L p).2 then
      (.mk ⟨(pWord L p).1.toArray⟩ ((pTerm L f (pAdv [40] (pWord L p).2)).1 :: (pArgs L [44] f (pTerm L f (pAdv [40] (pWord L p).2)).2).1), pMust L [41] (pArgs L [44] f (pTerm L f (pAdv [40] (pWord L p).2)).2).2)
    else (.mk ⟨(pWord L p).1.toArray⟩ [], (pWord L p).2)
def pArgs (L sep : List UInt8) : Nat → PSt → List Tm × PSt
  | 0, p => ([], p)
  | f + 1, p =>
    if pTake L sep p then ((pTerm L f (pAdv sep p)).1 :: (pArgs L sep f (pTerm L f (pAdv sep p)).2).1, (pArgs L sep f (pTerm L f (pAdv sep p)).2).2)
    else ([], p)
end
def eqTm (a b : Tm) : Tm := .mk ⟨#[61]⟩ [a, b]
def tm0 : Tm := .mk ⟨#[]⟩ []
def atomOfF (t : Tm) : Fm := .mk 3 t ⟨#[]⟩ []
def opF (op : Int) (ps : List Fm) : Fm := .mk op tm0 ⟨#[]⟩ ps
def quantF (op : Int) (v : List UInt8) (f : Fm) : Fm := .mk op tm0 ⟨v.toArray⟩ [f]
/-! ### What is written is read back -/
theorem isPrefixOf_app (t R : List UInt8) : t.isPrefixOf (t ++ R) = true := by
  induction t with
  | nil => simp
  | cons c t ih => simp [ih]
theorem pTake_yes {L t R : List UInt8} {k : Nat} (h : L.drop k = t ++ R) : pTake L t ⟨k, false⟩ = true := by simp [pTake, h, isPrefixOf_app]
theorem drop_adv {L t R : List UInt8} {k : Nat} (h : L.drop k = t ++ R) : L.drop (k + t.length) = R := by
  rw [← List.drop_drop, h, List.drop_left]
theorem pMust_yes {L t R : List UInt8} {k : Nat} (h : L.drop k = t ++ R) : pMust L t ⟨k, false⟩ = ⟨k + t.length, false⟩ := by rw [pMust, if_pos (pTake_yes h)]; rfl
def stopC (R : List UInt8) : Prop := ∀ c, R.head? = some c → wordC c = false ∧ c ≠ 40
theorem takeWhile_app {p : UInt8 → Bool} {n R : List UInt8} (h : n.all p = true) (hR : ∀ c, R.head? = some c → p c = false) : (n ++ R).takeWhile p = n := by
  induction n with
  | nil =>
    cases R with
    | nil => rfl
    | cons c R => rw [List.nil_append, List.takeWhile_cons_of_neg]; simp [hR c rfl]
  | cons x n ih =>
    simp only [List.all_cons, Bool.and_eq_true] at h
    rw [List.cons_append, List.takeWhile_cons_of_pos h.1, ih h.2]
theorem pWord_ok {L n R : List UInt8} {k : Nat} (h : L.drop k = n ++ R) (hn : n.all wordC = true) (h0 : n ≠ []) (hR : ∀ c, R.head? = some c → wordC c = false) : pWord L ⟨k, false⟩ = (n, ⟨k + n.length, false⟩) := by
  have e : pWordL L ⟨k, false⟩ = n := by rw [pWordL]; show (L.drop k).takeWhile wordC = n; rw [h, takeWhile_app hn hR]
  rw [pWord, e, if_neg (by simpa using h0)]
theorem headTail_all {p q r : UInt8 → Bool} {l : List UInt8} (h : headTail p q l = true) (hp : ∀ c, p c = true → r c = true) (hq : ∀ c, q c = true → r c = true) : l.all r = true := by
  cases l with
  | nil => rfl
  | cons c l =>
    simp only [headTail, Bool.and_eq_true, List.all_cons, List.all_eq_true] at h ⊢
    exact ⟨hp c h.1, fun x hx => hq x (h.2 x hx)⟩
theorem varB_word {l : List UInt8} (h : varB l = true) : l.all wordC = true ∧ l ≠ [] := by
  simp only [varB, Bool.and_eq_true, decide_eq_true_eq] at h
  refine ⟨headTail_all h.2 (fun c hc => by simp [wordC, hc]) (fun c hc => ?_), fun e => by rw [e] at h; simp at h⟩
  simp only [smC, Bool.or_eq_true] at hc
  rcases hc with hc | hc <;> simp [wordC, hc]
theorem symB_word {l : List UInt8} (h : symB l = true) : l.all wordC = true ∧ l ≠ [] := by
  simp only [symB, Bool.and_eq_true, decide_eq_true_eq] at h
  refine ⟨headTail_all h.1.2 (fun c hc => by simp [wordC, hc]) (fun c hc => ?_), fun e => by rw [e] at h; simp at h⟩
  simp only [unC, smC, Bool.or_eq_true] at hc
  rcases hc with (hc | hc) | hc
  · simp [wordC, hc]
  · simp [wordC, hc]
  · simp only [wordC, hc, Bool.or_true]
theorem Tm.nodes_mk {n : ByteArray} {us : List Tm} (h : (Tm.mk n us).nodes = true) : (n.data.toList.all wordC = true ∧ n.data.toList ≠ []) ∧ Tm.nodess us = true := by
  rw [Tm.nodes] at h
  split at h
  · rename_i hv
    cases us with
    | nil => exact ⟨varB_word hv, rfl⟩
    | cons a us => simp at h
  · simp only [Bool.and_eq_true] at h
    exact ⟨symB_word h.1.1, h.2⟩
theorem word_not61 {l : List UInt8} (h : l.all wordC = true ∧ l ≠ []) : l ≠ [61] := by
  rintro rfl; exact absurd h.1 (by decide)
theorem Tm.fmt_mk {n : ByteArray} {us : List Tm} (h : n.data.toList ≠ [61]) : (Tm.mk n us).fmt = if us.isEmpty then n.data.toList else n.data.toList ++ [40] ++ joinB [44] (Tm.fmtL us) ++ [41] := by
  cases us <;> simp only [Tm.fmt, if_neg h] <;> rfl
def sepAll (sep : List UInt8) : List Tm → List UInt8
  | [] => []
  | t :: us => sep ++ t.fmt ++ sepAll sep us
theorem joinB_cons (sep : List UInt8) (a : Tm) (us : List Tm) : joinB sep (Tm.fmtL (a :: us)) = a.fmt ++ sepAll sep us := by
  induction us generalizing a with
  | nil => simp [Tm.fmtL, joinB, sepAll]
  | cons b us ih =>
    have := ih b
    rw [Tm.fmtL] at this
    rw [Tm.fmtL, Tm.fmtL, joinB, this, sepAll]
    simp [List.append_assoc]
theorem stop_sep {sep R : List UInt8} {us : List Tm} (hs : stopC sep) (h0 : sep ≠ []) (hR : stopC R) : stopC (sepAll sep us ++ R) := by
  cases us with
  | nil => exact hR
  | cons a us =>
    intro c hc
    apply hs
    cases sep with
    | nil => exact absurd rfl h0
    | cons x s => simpa [sepAll] using hc
mutual
theorem pTerm_ok {L : List UInt8} : ∀ (f : Nat) (t : Tm) (k : Nat) (R : List UInt8), t.nodes = true → L.drop k = t.fmt ++ R → stopC R → t.fmt.length < f → pTerm L f ⟨k, false⟩ = (t, ⟨k + t.fmt.length, false⟩)
  | 0, _, _, _, _, _, _, h => absurd h (by omega)
  | f + 1, .mk n us, k, R, hn, hL, hR, hf => by
    have h1 := Tm.nodes_mk hn
    have hm := Tm.fmt_mk (us := us) (word_not61 h1.1)
    cases us with
    | nil =>
      rw [if_pos (by rfl)] at hm
      rw [hm] at hL ⊢
      have hw := pWord_ok hL h1.1.1 h1.1.2 (fun c hc => (hR c hc).1)
      rw [pTerm, hw]
      have hno : pTake L [40] ⟨k + n.data.toList.length, false⟩ = false := by
        have := drop_adv hL
        simp only [pTake, this]
        cases R with
        | nil => rfl
        | cons c R => simp [List.isPrefixOf, (hR c rfl).2.symm]
      rw [hno]; rfl
    | cons a us =>
      rw [if_neg (by simp), joinB_cons] at hm
      have h2 : a.nodes = true ∧ Tm.nodess us = true := by simpa [Tm.nodess] using h1.2
      have hlen : (Tm.mk n (a :: us)).fmt.length = n.data.toList.length + 1 + a.fmt.length + (sepAll [44] us).length + 1 := by rw [hm]; simp; omega
      have e0 : L.drop k = n.data.toList ++ ([40] ++ (a.fmt ++ (sepAll [44] us ++ ([41] ++ R)))) := by rw [hL, hm]; simp [List.append_assoc]
      have hw := pWord_ok e0 h1.1.1 h1.1.2 (fun c hc => by simp at hc; subst hc; decide)
      have e1 := drop_adv e0
      have e2 := drop_adv e1
      have e3 := drop_adv e2
      have e4 := drop_adv e3
      have s41 : stopC ([41] ++ R) := by intro c hc; simp at hc; subst hc; decide
      have s44 : stopC [44] := by intro c hc; simp at hc; subst hc; decide
      have ha := pTerm_ok f a _ _ h2.1 e2 (stop_sep s44 (by simp) s41) (by omega)
      have hb := pArgs_ok f [44] us _ ([41] ++ R) h2.2 e3 s44 (by simp) s41 (by simp [List.isPrefixOf]) (by omega)
      rw [pTerm, hw, if_pos (pTake_yes e1)]
      simp only [pAdv] at ha hb ⊢
      rw [ha, hb, pMust_yes e4, hlen]
      simp only [List.length_cons, List.length_nil]
      refine Prod.ext rfl ?_
      show PSt.mk _ _ = PSt.mk _ _
      congr 1
      omega
theorem pArgs_ok {L : List UInt8} : ∀ (f : Nat) (sep : List UInt8) (us : List Tm) (k : Nat) (R : List UInt8), Tm.nodess us = true → L.drop k = sepAll sep us ++ R → stopC sep → sep ≠ [] → stopC R → sep.isPrefixOf R = false → (sepAll sep us).length < f →
    pArgs L sep f ⟨k, false⟩ = (us, ⟨k + (sepAll sep us).length, false⟩)
  | 0, _, _, _, _, _, _, _, _, _, _, h => absurd h (by omega)
  | f + 1, sep, [], k, R, hn, hL, hs, h0, hR, hp, hf => by
    rw [pArgs]
    have : pTake L sep ⟨k, false⟩ = false := by simp only [pTake, hL]; simpa [sepAll] using hp
    rw [this]; rfl
  | f + 1, sep, a :: us, k, R, hn, hL, hs, h0, hR, hp, hf => by
    have h2 : a.nodes = true ∧ Tm.nodess us = true := by simpa [Tm.nodess] using hn
    have e0 : L.drop k = sep ++ (a.fmt ++ (sepAll sep us ++ R)) := by rw [hL, sepAll]; simp [List.append_assoc]
    have e1 := drop_adv e0
    have e2 := drop_adv e1
    have hl : 0 < sep.length := List.length_pos_iff.2 h0
    rw [sepAll] at hf ⊢
    simp only [List.length_append] at hf ⊢
    have ha := pTerm_ok f a _ _ h2.1 e1 (stop_sep hs h0 hR) (by omega)
    have hb := pArgs_ok f sep us _ R h2.2 e2 hs h0 hR hp (by omega)
    rw [pArgs, if_pos (pTake_yes e0)]
    simp only [pAdv] at ha hb ⊢
    rw [ha, hb]
    refine Prod.ext rfl ?_
    show PSt.mk _ _ = PSt.mk _ _
    congr 1
    omega
end
open Go.RowKit
inductive FormC : Fm → Prop
  | tru : FormC (opF 1 [])
  | fal : FormC (opF 2 [])
  | atm (a : Tm) : a.atom = true → FormC (atomOfF a)
  | neg (g : Fm) : g.form = true → FormC (opF 4 [g])
  | bin (op : Int) (g h : Fm) : (op = 5 ∨ op = 6 ∨ op = 7) → g.form = true → h.form = true → FormC (opF op [g, h])
  | qua (op : Int) (v : List UInt8) (g : Fm) : (op = 8 ∨ op = 9) → varB v = true → g.form = true → FormC (quantF op v g)
theorem ba_nil {v : ByteArray} (h : v.data.toList.isEmpty = true) : v = ⟨#[]⟩ := by
  apply ByteArray.ext; apply Array.ext'; simpa using h
theorem ba_eq (v : ByteArray) : (⟨v.data.toList.toArray⟩ : ByteArray) = v := by apply ByteArray.ext; simp
theorem tm_none {a : Tm} (h : a.none = true) : a = tm0 := by
  obtain ⟨n, us⟩ := a
  simp only [Tm.none, Bool.and_eq_true] at h
  have h1 : n = ⟨#[]⟩ := ba_nil h.1
  have h2 : us = [] := by simpa [Tm.us] using h.2
  rw [h1, h2]; rfl
theorem len_one {α : Type} {l : List α} (h : l.length = 1) : ∃ a, l = [a] := by
  match l, h with
  | [a], _ => exact ⟨a, rfl⟩
theorem len_two {α : Type} {l : List α} (h : l.length = 2) : ∃ a b, l = [a, b] := by
  match l, h with
  | [a, b], _ => exact ⟨a, b, rfl⟩
theorem form_cases {F : Fm} (h : F.form = true) : FormC F := by
  obtain ⟨op, a, v, ps⟩ := F
  rw [Fm.form, Bool.and_eq_true] at h
  obtain ⟨h1, h2⟩ := h
  simp only [Fm.form1, Fm.op, Fm.ps, Fm.v, Fm.a, Bool.and_eq_true, beq_iff_eq] at h1
  obtain ⟨⟨h3, h4⟩, h5⟩ := h1
  unfold arity at h3
  split at h3
  · rename_i ho
    have hp : ps = [] := List.length_eq_zero_iff.1 (Option.some.inj h3).symm
    subst hp
    have h4' : v.data.toList.isEmpty = true := by rcases ho with rfl | rfl | rfl <;> exact h4
    have hv := ba_nil h4'
    subst hv
    rcases ho with rfl | rfl | rfl
    · have h6 : a.none = true := h5
      rw [tm_none h6]; exact .tru
    · have h6 : a.none = true := h5
      rw [tm_none h6]; exact .fal
    · exact .atm a h5
  · split at h3
    · rename_i ho
      obtain ⟨g, rfl⟩ : ∃ g, ps = [g] := len_one (Option.some.inj h3).symm
      have hg : g.form = true := by simpa [Fm.forms] using h2
      have h5' : a.none = true := by rcases ho with rfl | rfl | rfl <;> exact h5
      rw [tm_none h5']
      rcases ho with rfl | ho
      · have h6 : v.data.toList.isEmpty = true := h4
        rw [ba_nil h6]; exact .neg g hg
      · have h4' : varB v.data.toList = true := by rcases ho with rfl | rfl <;> exact h4
        have := FormC.qua op v.data.toList g ho h4' hg
        rw [quantF, ba_eq] at this; exact this
    · split at h3
      · rename_i ho
        obtain ⟨g, g', rfl⟩ : ∃ g g', ps = [g, g'] := len_two (Option.some.inj h3).symm
        have hg : g.form = true ∧ g'.form = true := by simpa [Fm.forms] using h2
        have h5' : a.none = true := by rcases ho with rfl | rfl | rfl <;> exact h5
        have h4' : v.data.toList.isEmpty = true := by rcases ho with rfl | rfl | rfl <;> exact h4
        rw [tm_none h5', ba_nil h4']; exact .bin op g g' ho hg.1 hg.2
      · cases h3
theorem nodes_name {n : ByteArray} {us : List Tm} (h : (Tm.mk n us).nodes = true) : varB n.data.toList = true ∨ symB n.data.toList = true := by
  rw [Tm.nodes] at h
  split at h
  · exact .inl ‹_›
  · simp only [Bool.and_eq_true] at h; exact .inr h.1.1
inductive AtomC : Tm → Prop
  | eq (a b : Tm) : a.nodes = true → b.nodes = true → AtomC (eqTm a b)
  | pred (n : ByteArray) (us : List Tm) : symB n.data.toList = true → Tm.nodess us = true → (Tm.mk n us).nodes = true → AtomC (.mk n us)
theorem atom_cases {t : Tm} (h : t.atom = true) : AtomC t := by
  obtain ⟨n, us⟩ := t
  rw [Tm.atom] at h
  split at h
  · rename_i hq
    simp only [Bool.and_eq_true, decide_eq_true_eq] at h
    have hus : us.length = 2 := h.1.1
    obtain ⟨a, b, rfl⟩ := len_two hus
    have hn : n = ⟨#[61]⟩ := by
      apply ByteArray.ext; apply Array.ext'
      simpa [isEq, Tm.n] using hq
    subst hn
    have this : Tm.nodess [a, b] = true := h.2
    simp only [Tm.nodess, Bool.and_eq_true, Bool.and_true] at this
    exact .eq a b this.1 this.2
  · simp only [Bool.and_eq_true, Tm.good, Tm.n] at h
    have hs := h.1
    have hd := h.2.2
    refine .pred n us hs ?_ hd
    exact (Tm.nodes_mk hd).2
theorem fmt_split {t : Tm} (h : t.nodes = true) (R : List UInt8) : ∃ n X, (varB n = true ∨ symB n = true) ∧ t.fmt ++ R = n ++ X ∧ ((∃ Y, X = 40 :: Y) ∨ X = R) := by
  obtain ⟨n, us⟩ := t
  have h1 := Tm.nodes_mk h
  rw [Tm.fmt_mk (word_not61 h1.1)]
  split
  · exact ⟨_, R, nodes_name h, rfl, .inr rfl⟩
  · exact ⟨_, 40 :: (joinB [44] (Tm.fmtL us) ++ ([41] ++ R)), nodes_name h, by simp [List.append_assoc], .inl ⟨_, rfl⟩⟩
theorem pTake_no {L t T : List UInt8} {k : Nat} (h : L.drop k = T) (hp : t.isPrefixOf T = false) : pTake L t ⟨k, false⟩ = false := by simp [pTake, h, hp]
open Go.RowKit
def inB (n a b : Int) : Bool := decide (a ≤ n) && decide (n ≤ b)
theorem within_any (n a b : Int) (w : World) :
    Calls Tryz.prog 130 #[.int .i64 n, .int .i64 a, .int .i64 b] w fun e w' => e = .returned (.bool (inB n a b)) ∧ w = w' := by
  by_cases h1 : a ≤ n <;> by_cases h2 : n ≤ b
  all_goals
    go_enter Tryz.func130, Tryz.ntmps130
    go_wp2
    go_ret
    exact ⟨ret_bool (by simp [inB, h1, h2]), rfl⟩
theorem l1In_any (n a b : Int) (w : World) :
    Calls Tryz.prog 136 #[.int .i64 n, .int .i64 a, .int .i64 b] w fun e w' => e = .returned (.bool (inB n a b)) ∧ w = w' := by
  by_cases h1 : a ≤ n <;> by_cases h2 : n ≤ b
  all_goals
    go_enter Tryz.func136, Tryz.ntmps136
    go_wp2
    go_ret
    exact ⟨ret_bool (by simp [inB, h1, h2]), rfl⟩
open Go.RowKit
theorem isLower_any (c : UInt8) (w : World) : Calls Tryz.prog 128 #[.int .u8 (c.toNat : Int)] w fun e w' => e = .returned (.bool (loC c)) ∧ w = w' := by
  go_enter Tryz.func128, Tryz.ntmps128
  go_wp2
  all_goals go_ret
  all_goals go_light
  all_goals refine ⟨ret_bool ?_, rfl⟩
  all_goals rw [Bool.eq_iff_iff]
  all_goals simp only [loC, decide_eq_true_eq, Bool.and_eq_true, false_iff, Bool.false_eq_true, not_and]
  all_goals omega
theorem isUpper_any (c : UInt8) (w : World) : Calls Tryz.prog 158 #[.int .u8 (c.toNat : Int)] w fun e w' => e = .returned (.bool (upC c)) ∧ w = w' := by
  go_enter Tryz.func158, Tryz.ntmps158
  go_wp2
  all_goals go_ret
  all_goals go_light
  all_goals refine ⟨ret_bool ?_, rfl⟩
  all_goals rw [Bool.eq_iff_iff]
  all_goals simp only [upC, decide_eq_true_eq, Bool.and_eq_true, false_iff, Bool.false_eq_true, not_and]
  all_goals omega
theorem isDigit_any (c : UInt8) (w : World) : Calls Tryz.prog 129 #[.int .u8 (c.toNat : Int)] w fun e w' => e = .returned (.bool (diC c)) ∧ w = w' := by
  go_enter Tryz.func129, Tryz.ntmps129
  go_wp2
  all_goals go_ret
  all_goals go_light
  all_goals refine ⟨ret_bool ?_, rfl⟩
  all_goals rw [Bool.eq_iff_iff]
  all_goals simp only [diC, decide_eq_true_eq, Bool.and_eq_true, false_iff, Bool.false_eq_true, not_and]
  all_goals omega
theorem l2Small_any (c : UInt8) (w : World) : Calls Tryz.prog 137 #[.int .u8 (c.toNat : Int)] w fun e w' => e = .returned (.bool (smC c)) ∧ w = w' := by
  go_enter Tryz.func137, Tryz.ntmps137
  go_wp2
  all_goals go_ret
  all_goals go_light
  all_goals refine ⟨ret_bool ?_, rfl⟩
  all_goals rw [Bool.eq_iff_iff]
  all_goals simp only [loC, diC, smC, decide_eq_true_eq, Bool.and_eq_true, Bool.or_eq_true, true_iff, false_iff, Bool.false_eq_true, not_and, not_or]
  all_goals omega
theorem headTail_take (p q : UInt8 → Bool) (s : ByteArray) (k : Nat) (h : k < s.size) : headTail p q (s.data.toList.take (k + 1)) = (headTail p q (s.data.toList.take k) && (if k = 0 then p s[k] else q s[k])) := by
  rw [take_snoc s k h, headTail_snoc]
  by_cases hk : k = 0
  · subst hk; simp
  · rw [if_neg hk, if_neg]
    have hl : (s.data.toList.take k).length = k := by rw [List.length_take, ← size_list]; omega
    rw [List.isEmpty_iff]
    intro e; rw [e] at hl; simp at hl; omega
theorem headTail_no (p q : UInt8 → Bool) (s : ByteArray) (k : Nat) (h : k < s.size) (h2 : (if k = 0 then p s[k] else q s[k]) = false) : headTail p q s.data.toList = false := by
  have e : s.data.toList = s.data.toList.take (k + 1) ++ s.data.toList.drop (k + 1) := (List.take_append_drop _ _).symm
  have h3 := headTail_take p q s k h
  rw [h2, Bool.and_false] at h3
  rw [e]
  generalize s.data.toList.take (k + 1) = a at *
  cases a with
  | nil => simp [headTail] at h3
  | cons x a =>
    simp only [headTail, List.cons_append, List.all_append] at h3 ⊢
    rw [← Bool.and_assoc, h3, Bool.false_and]
set_option maxHeartbeats 800000 in
theorem isVariable_any (s : ByteArray) (w : World) (hs : s.size ≤ maxLen) :
    Calls Tryz.prog 119 #[.string s] w fun e w' => e = .returned (.bool (varB s.data.toList)) ∧ w = w' := by
  unfold maxLen at hs
  have HV := Lib.hid (show varB s.data.toList = (inB (s.size : Int) 1 4 && headTail upC smC s.data.toList) by
    unfold varB inB; rw [← size_list]
    congr 1
    rw [Bool.eq_iff_iff]; simp; omega)
  go_enter Tryz.func119, Tryz.ntmps119
  go_wp2
  go_loop [6] (fun i => ∃ k : Nat, k ≤ s.size ∧ i = .int .i64 k ∧ headTail upC smC (s.data.toList.take k) = true) (fun i => s.size - (intOf i).toNat)
  case atStart => exact ⟨0, Nat.zero_le _, rfl, rfl⟩
  case round =>
    obtain ⟨k, hk, rfl, hp⟩ := hrel
    have HP := Lib.hid hp; clear hp
    by_cases hlt : k < s.size
    · have HT := Lib.hid (headTail_take upC smC s k hlt)
      have HN := Lib.hid (headTail_no upC smC s k hlt)
      by_cases hk0 : k = 0
      · subst hk0
        cases hU : upC s[0]
        all_goals
          go_wp2_with (first | (go_at_call 158; refine (isUpper_any _ _).mono ?_; rintro e w' ⟨rfl, rfl⟩) | (go_at_call 128; refine (isLower_any _ _).mono ?_; rintro e w' ⟨rfl, rfl⟩) | (go_at_call 129; refine (isDigit_any _ _).mono ?_; rintro e w' ⟨rfl, rfl⟩))
        · go_ret
          exact ⟨ret_bool (by rw [HV.out, HN.out (by simpa using hU)]; simp), rfl⟩
        · refine ⟨⟨1, by omega, by go_num, ?_⟩, by simp [intOf]; omega⟩
          rw [HT.out, HP.out]; simpa using hU
      · have hk1 : 0 < (k : Int) := by omega
        have hk2 : ((k : Int) == 0) = false := by simp; omega
        cases hL : loC s[k] <;> cases hD : diC s[k]
        all_goals
          have HLD := Lib.hid (And.intro hL hD)
          go_wp2_with (first | (go_at_call 158; refine (isUpper_any _ _).mono ?_; rintro e w' ⟨rfl, rfl⟩) | (go_at_call 128; refine (isLower_any _ _).mono ?_; rintro e w' ⟨rfl, rfl⟩) | (go_at_call 129; refine (isDigit_any _ _).mono ?_; rintro e w' ⟨rfl, rfl⟩))
        · go_ret
          exact ⟨ret_bool (by rw [HV.out, HN.out (by rw [if_neg hk0, smC, HLD.out.1, HLD.out.2]; rfl)]; simp), rfl⟩
        all_goals
          refine ⟨⟨k + 1, by omega, by go_num, ?_⟩, by simp [intOf]; omega⟩
          rw [HT.out, HP.out, if_neg hk0, smC, HLD.out.1, HLD.out.2]; rfl
    · go_wp2_with (first | (go_at_call 130; refine (within_any _ _ _ _).mono ?_; rintro e w' ⟨rfl, rfl⟩))
      go_ret
      exact ⟨ret_bool (by have := HP.out; rw [take_all _ _ (by omega)] at this; rw [HV.out, this]; simp), rfl⟩
def keyS : List ByteArray := keyW.map fun l => ⟨l.toArray⟩
theorem key_contains (x : ByteArray) : Lib.containsS (keyS.take 8) x = keyW.contains x.data.toList := by
  rw [Bool.eq_iff_iff, Lib.containsS_iff, List.contains_iff_mem, show keyS.take 8 = keyS from rfl, keyS, List.mem_map]
  constructor
  · rintro ⟨l, h, rfl⟩; exact h
  · intro h; exact ⟨_, h, rfl⟩
theorem key_cells (w : World) (t : TypeId) (j : Nat) (hj : j < keyS.length) :
    (w.alloc (.cells #[.string ⟨#[116, 114, 117, 101]⟩, .string ⟨#[102, 97, 108, 115, 101]⟩, .string ⟨#[116, 114, 117, 116, 104]⟩, .string ⟨#[98, 111, 116, 104]⟩, .string ⟨#[101, 105, 116, 104, 101, 114]⟩, .string ⟨#[105, 102]⟩, .string ⟨#[97, 108, 108]⟩, .string ⟨#[115, 111, 109, 101]⟩] t)).cell? ⟨w.heap.size, 0 + j, none⟩ = some (.string (keyS.getD j ByteArray.empty)) := by
  have hj8 : j < 8 := hj
  rw [Nat.zero_add, World.cell?_alloc_new]
  match j, hj8 with
  | 0, _ => rfl
  | 1, _ => rfl
  | 2, _ => rfl
  | 3, _ => rfl
  | 4, _ => rfl
  | 5, _ => rfl
  | 6, _ => rfl
  | 7, _ => rfl
theorem reserved_any (w : World) : Calls Tryz.prog 131 #[] w fun e w' => e = .returned (.slice (some ⟨w.heap.size, 0, none⟩) 8 8) ∧ w.alloc (.cells #[.string ⟨#[116, 114, 117, 101]⟩, .string ⟨#[102, 97, 108, 115, 101]⟩, .string ⟨#[116, 114, 117, 116, 104]⟩, .string ⟨#[98, 111, 116, 104]⟩, .string ⟨#[101, 105, 116, 104, 101, 114]⟩, .string ⟨#[105, 102]⟩, .string ⟨#[97, 108, 108]⟩, .string ⟨#[115, 111, 109, 101]⟩] 9) = w' := by
  go_enter Tryz.func131, Tryz.ntmps131
  go_wp2
  go_ret
  exact ⟨rfl, rfl⟩
set_option maxHeartbeats 1600000 in
theorem isSymbol_any (s : ByteArray) (w : World) (hs : s.size ≤ maxLen) :
    Calls Tryz.prog 71 #[.string s] w fun e w' => e = .returned (.bool (symB s.data.toList)) ∧ Below w.heap.size w w' := by
  unfold maxLen at hs
  have HV := Lib.hid (show symB s.data.toList = (inB (s.size : Int) 1 6 && headTail loC unC s.data.toList && !keyW.contains s.data.toList) by
    unfold symB inB; rw [← size_list]
    congr 2
    rw [Bool.eq_iff_iff]; simp; omega)
  go_enter Tryz.func71, Tryz.ntmps71
  go_wp2
  go_loop [6] (fun i => ∃ k : Nat, k ≤ s.size ∧ i = .int .i64 k ∧ headTail loC unC (s.data.toList.take k) = true) (fun i => s.size - (intOf i).toNat)
  case atStart => exact ⟨0, Nat.zero_le _, rfl, rfl⟩
  case round =>
    obtain ⟨k, hk, rfl, hp⟩ := hrel
    have HP := Lib.hid hp; clear hp
    by_cases hlt : k < s.size
    · have HT := Lib.hid (headTail_take loC unC s k hlt)
      have HN := Lib.hid (headTail_no loC unC s k hlt)
      by_cases hk0 : k = 0
      · subst hk0
        cases hL : loC s[0]
        all_goals
          have HL := Lib.hid hL
          go_wp2_with (first | (go_at_call 128; refine (isLower_any _ _).mono ?_; rintro e w' ⟨rfl, rfl⟩) | (go_at_call 129; refine (isDigit_any _ _).mono ?_; rintro e w' ⟨rfl, rfl⟩))
        · go_ret
          exact ⟨ret_bool (by rw [HV.out, HN.out (by simpa using HL.out)]; simp), Below.refl _ _⟩
        · refine ⟨⟨1, by omega, by go_num, ?_⟩, by simp [intOf]; omega⟩
          rw [HT.out, HP.out]; simpa using HL.out
      · have hk1 : 0 < (k : Int) := by omega
        have hk2 : ((k : Int) == 0) = false := by simp; omega
        have HU := Lib.hid (show unC s[k] = ((loC s[k] || diC s[k]) || (s[k] == 95)) from rfl)
        by_cases h9 : s[k] = 95
        · have H9 := Lib.hid h9
          have h91 : ((s[k].toNat : Int) != 95) = false := by rw [h9]; rfl
          have h92 : ((s[k].toNat : Int) == 95) = true := by rw [h9]; rfl
          clear h9
          cases hL : loC s[k] <;> cases hD : diC s[k]
          all_goals
            have HLD := Lib.hid (And.intro hL hD)
            go_wp2_with (first | (go_at_call 128; refine (isLower_any _ _).mono ?_; rintro e w' ⟨rfl, rfl⟩) | (go_at_call 129; refine (isDigit_any _ _).mono ?_; rintro e w' ⟨rfl, rfl⟩))
            refine ⟨⟨k + 1, by omega, by go_num, ?_⟩, by simp [intOf]; omega⟩
            rw [HT.out, HP.out, if_neg hk0, HU.out, HLD.out.1, HLD.out.2, H9.out]; rfl
        · have H9 := Lib.hid (show (s[k] == 95) = false by simpa using h9)
          have h9n : ¬ (s[k].toNat : Int) = 95 := fun e => h9 (UInt8.toNat_inj.1 (show s[k].toNat = 95 by omega))
          have h91 : ((s[k].toNat : Int) != 95) = true := by simpa using h9n
          have h92 : ((s[k].toNat : Int) == 95) = false := by simpa using h9n
          clear h9 h9n
          cases hL : loC s[k] <;> cases hD : diC s[k]
          all_goals
            have HLD := Lib.hid (And.intro hL hD)
            go_wp2_with (first | (go_at_call 128; refine (isLower_any _ _).mono ?_; rintro e w' ⟨rfl, rfl⟩) | (go_at_call 129; refine (isDigit_any _ _).mono ?_; rintro e w' ⟨rfl, rfl⟩))
          · go_ret
            exact ⟨ret_bool (by rw [HV.out, HN.out (by rw [if_neg hk0, HU.out, HLD.out.1, HLD.out.2, H9.out]; rfl)]; simp), Below.refl _ _⟩
          all_goals
            refine ⟨⟨k + 1, by omega, by go_num, ?_⟩, by simp [intOf]; omega⟩
            rw [HT.out, HP.out, if_neg hk0, HU.out, HLD.out.1, HLD.out.2]; rfl
    · have HF := Lib.hid (show headTail loC unC s.data.toList = true by have := HP.out; rwa [take_all _ _ (by omega)] at this)
      cases hB : inB (s.size : Int) 1 6
      all_goals
        have HB := Lib.hid hB
        go_wp2_with (first | (go_at_call 130; refine (within_any _ _ _ _).mono ?_; rintro e w' ⟨rfl, rfl⟩) | (go_at_call 131; refine (reserved_any _).mono ?_; rintro e w' ⟨rfl, rfl⟩) | (go_at_call 39; refine (Tryz.slices_Contains_string w.heap.size 0 8 8 keyS s _ (by decide) (by decide) (key_cells w _)).mono ?_; rintro e w' ⟨rfl, rfl⟩))
        go_ret
      · exact ⟨ret_bool (by rw [HV.out, HB.out]; rfl), by exact bel⟩
      · exact ⟨ret_bool (by rw [HV.out, HB.out, HF.out, key_contains]; rfl), by exact bel⟩
end Go.Proofs.YtkgfanajgdelcaaGreatDoor
