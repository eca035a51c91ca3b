/- More of rows that a call owns. No conditions. -/
import Derived.Test.YtabkdonplmlbcaaGreatDoorRows
import Derived.Test.YtabkdonplmlbcaaGreatDoorStPartShelf
import Derived.WalkKit
import Derived.ProofKit
import Derived.WalkSpells
import Derived.Lib.Hide
import Derived.Deep.Light
import Derived.Deep.QuietTactic
import Derived.BigQuiet
import Derived.Deep.RegionHeld3
import Derived.IntWalk
import Derived.Lib.LaidTab
import Derived.WalkSmall
import Derived.Lib.ItoaMem
import Derived.Maps.AppendAt
namespace Go.Proofs.YtabkdonplmlbcaaGreatDoor
open Go.RowKit
theorem hao (w : World) (o : Obj) (k : Nat) (h : k < w.heap.size) : (w.alloc o).heap[k]? = w.heap[k]? := Below.heap_alloc w o k h
theorem ret_bool {a b : Bool} (h : a = b) : Ending.returned (.bool a) = .returned (.bool b) := by rw [h]
theorem ret_int {k : IntKind} {a b : Int} (h : a = b) : Ending.returned (.int k a) = .returned (.int k b) := by rw [h]
theorem ret_str {a b : List UInt8} (h : a = b) : Ending.returned (.string ⟨a.toArray⟩) = .returned (.string ⟨b.toArray⟩) := by rw [h]
theorem ret_strs {s : ByteArray} {l : List UInt8} (h : s.data.toList = l) : Ending.returned (.string s) = .returned (.string ⟨l.toArray⟩) := by subst h; rfl
theorem str_eq {s : ByteArray} {l : List UInt8} (h : s.data.toList = l) : s = ⟨l.toArray⟩ := by subst h; rfl
theorem size_list (s : ByteArray) : s.size = s.data.toList.length := rfl
theorem bytes_append (a b : List UInt8) : (⟨a.toArray⟩ : ByteArray) ++ ⟨b.toArray⟩ = ⟨(a ++ b).toArray⟩ := by
 apply ByteArray.ext; simp
theorem bcell {W w1 : World} (hb : Below W.heap.size W w1) : (∀ b o, b < W.heap.size → w1.cell? ⟨b, o, none⟩ = W.cell? ⟨b, o, none⟩) ∧ (∀ b o, b < W.heap.size → w1.frozen? ⟨b, o, none⟩ = W.frozen? ⟨b, o, none⟩) :=
 ⟨fun b o h => hb.cell (p := ⟨b, o, none⟩) h, fun b o h => hb.frozen (p := ⟨b, o, none⟩) h⟩
theorem bsz {n m : Nat} (h : n < m) : n < m ∧ n ≤ m ∧ n < m + 1 ∧ n ≤ m + 1 ∧ n < m + 2 ∧ n < m + 3 ∧ n < m + 4 := by omega
def Drew (w w' : World) : Prop := ∃ k, w' = w.drewN k
theorem Drew.refl (w : World) : Drew w w := ⟨0, rfl⟩
theorem Drew.quiet {P : Program} {f : FuncId} {args : Array Value} {w : World} {n : Nat} {v : Value}
  (h : Calls P f args (w.drewN n) fun e w' => e = .returned v ∧ Drew (w.drewN n) w') : Calls P f args (w.drewN n) fun e w'' => e = .returned v ∧ ∃ m, w'' = w.drewN m := Calls.quiet_of h
theorem below_drewN {B : Nat} {a w : World} (h : Below B a w) (n : Nat) : Below B a (w.drewN n) := ⟨h.os, h.tape, h.output, h.size, h.block⟩
theorem Drew.below {w w' : World} (h : Drew w w') : Below w.heap.size w w' := by obtain ⟨k, rfl⟩ := h; exact below_drewN (Below.refl _ _) k
theorem drew_below {P : Program} {f : FuncId} {args : Array Value} {w : World} {x : Ending} (h : Calls P f args w fun e w' => e = x ∧ Drew w w') : Calls P f args w fun e w' => e = x ∧ Below w.heap.size w w' :=
 h.mono fun _ _ ⟨h1, h2⟩ => ⟨h1, h2.below⟩
theorem same_below {P : Program} {f : FuncId} {args : Array Value} {w : World} {x : Ending} (h : Calls P f args w fun e w' => e = x ∧ w = w') : Calls P f args w fun e w' => e = x ∧ Below w.heap.size w w' :=
 h.mono fun _ _ ⟨h1, h2⟩ => ⟨h1, h2 ▸ Below.refl _ _⟩
theorem Below.step {a w w1 : World} (h : Below a.heap.size a w) (hb : Below w.heap.size w w1) : Below a.heap.size a w1 := h.trans (hb.mono h.size)
theorem Below.al {a w : World} (h : Below a.heap.size a w) (o : Obj) : Below a.heap.size a (w.alloc o) := h.alloc h.size o
theorem Below.sc {a w : World} (h : Below a.heap.size a w) {p : Addr} (hp : a.heap.size ≤ p.block) (u : Value) : Below a.heap.size a (w.setCell p u) := h.setCell hp u
theorem Below.dr {a w : World} (h : Below a.heap.size a w) : Below a.heap.size a w.drew := h.drew
theorem Below.drN {a w : World} (h : Below a.heap.size a w) (n : Nat) : Below a.heap.size a (w.drewN n) := below_drewN h n
theorem bR (B : Nat) (w : World) : Below B w w := Below.refl B w
theorem bA {a w : World} (h : Below a.heap.size a w) (o : Obj) : Below a.heap.size a (w.alloc o) := Below.al h o
theorem bS {a w : World} (h : Below a.heap.size a w) {p : Addr} (u : Value) (hp : a.heap.size ≤ p.block := by first | exact Nat.le_refl _ | (simp; done) | (simp; omega)) : Below a.heap.size a (w.setCell p u) := Below.sc h hp u
theorem bD {a w : World} (h : Below a.heap.size a w) : Below a.heap.size a w.drew := Below.dr h
theorem bN {a w : World} (h : Below a.heap.size a w) (n : Nat) : Below a.heap.size a (w.drewN n) := Below.drN h n
theorem bT {a w w1 : World} (h : Below a.heap.size a w) (hb : Below w.heap.size w w1) : Below a.heap.size a w1 := Below.step h hb
theorem bel {B : Nat} {a w : World} (h : Below B a w := by (repeat (first | with_reducible (first | exact bR _ _ | assumption | refine bA ?_ _ | refine bS ?_ _) | assumption | exact bR _ _ | refine bD ?_ | refine bN ?_ _ | refine bT ?_ (by assumption)))) : Below B a w := h
theorem belT {w W w' : World} (h : Below w.heap.size w W := by (repeat (first | with_reducible (first | exact bR _ _ | assumption | refine bA ?_ _ | refine bS ?_ _) | assumption | exact bR _ _ | refine bD ?_ | refine bN ?_ _ | refine bT ?_ (by assumption)))) (hb : Below w.heap.size W w') : Below w.heap.size w w' := Below.trans h hb
theorem wrap64_byte (c : UInt8) : wrap64 (c.toNat : Int) = (c.toNat : Int) := by have := c.toNat_lt; exact IntWalk.wrap64_in _ (by omega)
theorem take_snoc (s : ByteArray) (k : Nat) (h : k < s.size) : s.data.toList.take (k + 1) = s.data.toList.take k ++ [s[k]] := by
 rw [List.take_succ_eq_append_getElem (by simpa using h)]; rfl
theorem take_all (s : ByteArray) (k : Nat) (h : s.size ≤ k) : s.data.toList.take k = s.data.toList := List.take_of_length_le (by rw [← size_list]; exact h)
theorem toList_append (s t : ByteArray) : (s ++ t).toList = s.toList ++ t.toList := by
 rw [ByteArray.toList_eq, ByteArray.toList_eq, ByteArray.toList_eq]; simp
theorem extract_list (s : ByteArray) (f k : Nat) : (s.extract f k).data.toList = (s.data.toList.take k).drop f := by
 rw [Lib.extract_data, List.drop_take]
theorem toList_extract (s : ByteArray) (a b : Nat) : (s.extract a b).toList = (s.toList.take b).drop a := by
 rw [ByteArray.toList_eq, ByteArray.toList_eq, extract_list]
attribute [go_sem] toList_append toList_extract
theorem byte_eq_t {c b : UInt8} (h : ((c.toNat : Int) == (b.toNat : Int)) = true) : (c == b) = true := by
 have : (c.toNat : Int) = b.toNat := by simpa using h
 have : c = b := UInt8.toNat_inj.1 (by omega)
 simp [this]
theorem byte_eq_f {c b : UInt8} (h : ((c.toNat : Int) == (b.toNat : Int)) = false) : (c == b) = false := by
 have : ¬ (c.toNat : Int) = b.toNat := by simpa using h
 rw [beq_eq_false_iff_ne]; rintro rfl; exact this rfl
theorem gPow10 : Tryz.prog.globalNamed "internal/strconv.uint64pow10" = some 2 := by kernel_rfl
structure Env (w : World) : Prop where
 maxLen : ∃ m, w.cell? ⟨3, 0, none⟩ = some (.int .i64 m)
 pow10 : Lib.TabIs Tryz.prog w "internal/strconv.uint64pow10" .u64 Lib.pow10Tab
 size : 3 < w.heap.size ∧ 2 < w.heap.size
theorem Env.below {w w' : World} (h : Env w) (hb : Below w.heap.size w w') : Env w' :=
 ⟨by obtain ⟨m, hm⟩ := h.maxLen; exact ⟨m, (hb.cell h.size.1).trans hm⟩, var?_below hb gPow10 h.size.2 h.pow10, Nat.lt_of_lt_of_le h.size.1 hb.size, Nat.lt_of_lt_of_le h.size.2 hb.size⟩
theorem below_grow (w : World) (k : Nat) (os : Array Obj) : Below w.heap.size w (Go.Sort.grow (w.drewN k) os) := ⟨rfl, rfl, rfl, by simp [Go.Sort.grow], fun i hi => by simp [Go.Sort.grow, Array.getElem?_append, hi]⟩
theorem itoa_any (n : Int) (h0 : -9223372036854775808 ≤ n) (h1 : n ≤ 9223372036854775807) (w : World) (hE : Env w) :
  Calls Tryz.prog 64 #[.int .i64 n] w fun e w' => e = .returned (.string ⟨(Lib.itoa n).toArray⟩) ∧ Below w.heap.size w w' :=
 (Tryz.strconv_Itoa n h0 h1 w hE.pow10).mono fun _ _ ⟨he, k, os, hw⟩ => ⟨he, by rw [hw]; exact below_grow w k os⟩
def Behind (md : Region.Mode) (o : Oper) (L : Array Bool) : Prop := ∀ e ∈ o.after, Region.binds md e = true → L.getD e.on false = true
section
variable {P : Program} {ops : Array Oper} {md : Region.Mode} {C : Array Bool → World → Prop}
def goesUpon (P : Program) (D : World → Prop) (v : Value) : Result Next → Prop
 | .ok (.value u) w' => D w' ∧ u = v
 | .ok .skip w' => D w' ∧ v = undef
 | .ok (.enter f args) w' => Calls P f args w' (fun e w'' => e = .returned v ∧ D w'')
 | _ => False
attribute [go_sem] goesUpon
def Goes (P : Program) (md : Region.Mode) (ops : Array Oper) (C : Array Bool → World → Prop) (o : Oper) (i : Nat) (v : Value) (a : Act) : Prop :=
 (Region.wanted o (yielded ops a.tmps) = true ∧ ∀ L w, L.getD i true = false → Behind md o L → C L w → goesUpon P (C (L.setIfInBounds i true)) v ((execOp a.eval o).run P w)) ∨
 (Region.wanted o (yielded ops a.tmps) = false ∧ v = undef ∧ ∀ L w, L.getD i true = false → Behind md o L → C L w → C (L.setIfInBounds i true) w)
def ByEval (ops : Array Oper) (G : Oper → Nat → Value → Act → Prop) : Prop :=
 ∀ (o : Oper) (i : Nat) (v : Value) (a a' : Act), G o i v a → execOp a'.eval o = execOp a.eval o → Region.wanted o (yielded ops a'.tmps) = Region.wanted o (yielded ops a.tmps) → G o i v a'
theorem Goes.byEval : ByEval ops (Goes P md ops C) := by
 intro o i v a a' hy he hw
 unfold Goes at *
 rw [he, hw]
 exact hy
variable {G : Oper → Nat → Value → Act → Prop}
def flowOp (ops : Array Oper) (G : Oper → Nat → Value → Act → Prop) (i : Nat) (K : Act → Prop) (a : Act) : Prop :=
 ∃ o v, ops[i]? = some o ∧ G o i v a ∧ K (a.put o.dst v)
theorem flowOp_mono {i : Nat} {a : Act} {K K' : Act → Prop} (h : ∀ a, K a → K' a) (hh : flowOp ops G i K a) : flowOp ops G i K' a :=
 let ⟨o, v, h1, h2, h3⟩ := hh
 ⟨o, v, h1, h2, h _ h3⟩
def flowAny (md : Region.Mode) (ops : Array Oper) (G : Oper → Nat → Value → Act → Prop) (Q : Array Bool → Act → Prop) : Nat → Array Bool → Act → Prop
 | 0, listed, a => Region.ready md ops listed = [] ∧ Q listed a
 | fuel + 1, listed, a =>
  (Region.ready md ops listed = [] → Q listed a) ∧
  ∀ i ∈ Region.ready md ops listed, flowOp ops G i (flowAny md ops G Q fuel (listed.setIfInBounds i true)) a
theorem wpOp_of_flowOp {i : Nat} {a : Act} {K : Act → Prop} {K' : Act → World → Prop} {Q' : Exit → Act → World → Prop} {w : World} {listed : Array Bool} (hi : i ∈ Region.ready md ops listed) (hC : C listed w)
  (h : ∀ a w', C (listed.setIfInBounds i true) w' → K a → K' a w') (hh : flowOp ops (Goes P md ops C) i K a) : wpOp P ops Q' i K' a w := by
 obtain ⟨hun, oj, hoj, hall⟩ := mem_ready.1 hi
 obtain ⟨o, v, ho, hy, hK⟩ := hh
 obtain rfl : oj = o := Option.some.inj (hoj.symm.trans ho)
 have hbe : Behind md oj listed := fun e he hb => by simpa using hall e he hb
 unfold wpOp
 simp only [ho]
 rcases hy with ⟨hw, hv⟩ | ⟨hw, rfl, hk⟩
 ·rw [if_pos hw]
  refine .inl ?_
  have h3 := hv listed w hun hbe hC
  unfold Oper.wp
  generalize (execOp a.eval oj).run P w = r at *
  cases r with
  | ok n w' =>
   cases n <;> simp only [goesUpon] at h3 <;> simp only [Oper.upon]
   case value u => obtain ⟨e1, rfl⟩ := h3; exact h _ _ e1 hK
   case skip => obtain ⟨e1, rfl⟩ := h3; exact h _ _ e1 hK
   case enter f args => exact h3.mono fun e w'' ⟨he, hw''⟩ => by subst he; exact h _ _ hw'' hK
  | halt x w' => simp only [goesUpon] at h3
 ·rw [if_neg (by simp [hw])]
  exact h _ _ (hk listed w hun hbe hC) hK
theorem wpAny_of_flow {Q : Array Bool → Act → Prop} {Q' : Exit → Act → World → Prop} (hQ : ∀ L a w, C L w → Q L a → Q' .normal a w) : ∀ (fuel : Nat) (listed : Array Bool) (a : Act) (w : World), C listed w →
  flowAny md ops (Goes P md ops C) Q fuel listed a → wpAny P md ops Q' fuel listed a w
 | 0, _, _, _, hw, h => ⟨h.1, hQ _ _ _ hw h.2⟩
 | fuel + 1, _, _, _, hw, h => ⟨fun h0 => hQ _ _ _ hw (h.1 h0), fun i hi => wpOp_of_flowOp hi hw (fun a' w' hw' => wpAny_of_flow hQ fuel _ a' w' hw') (h.2 i hi)⟩
theorem flowOp_put {i j : Nat} {oi oj : Oper} {v : Value} (hG : ByEval ops G) (hj : ops[j]? = some oj) (hap : oi.apart ops oj = true)
  (hsi : ∀ cs b, oi.op ≠ .select cs b) (hsj : ∀ cs b, oj.op ≠ .select cs b) {K : Act → Prop} {a : Act}
  (hy : G oi i v a) (h : flowOp ops G j K (a.put oi.dst v)) :
  flowOp ops G j (fun a' => G oi i v a' ∧ K (a'.put oi.dst v)) a := by
 obtain ⟨h1, h2, h3⟩ := Oper.apart_spec hap
 obtain ⟨o, u, ho, hu, hK⟩ := h
 obtain rfl : oj = o := Option.some.inj (hj.symm.trans ho)
 exact ⟨oj, u, hj, hG _ _ _ _ _ hu (execOp_put oj hsj a oi.dst v h1).symm (wanted_put oj a oi.dst v h1).symm, hG _ _ _ _ _ hy (execOp_put oi hsi a oj.dst u h3) (wanted_put oi a oj.dst u h3),
  by rw [← Act.put_comm a v u h2]; exact hK⟩
theorem flowAny_first (hG : ByEval ops G) {Q : Array Bool → Act → Prop} {i : Nat} {oi : Oper} {v : Value} (hi : ops[i]? = some oi) (hsel : ∀ (j : Nat) (o : Oper) cs b, ops[j]? = some o → o.op ≠ .select cs b) :
  ∀ (fuel : Nat) (listed : Array Bool) (a : Act),
   (∀ j oj, ops[j]? = some oj → j ≠ i → listed.getD j true = false → (∀ e ∈ oj.after, Region.binds md e = true → e.on ≠ i) → oi.apart ops oj = true) →
   i ∈ Region.ready md ops listed → G oi i v a →
   flowAny md ops G Q fuel (listed.setIfInBounds i true) (a.put oi.dst v) → flowAny md ops G Q (fuel + 1) listed a := by
 intro fuel
 induction fuel with
 | zero =>
  intro listed a _ hr hy H
  refine ⟨fun h => (by rw [h] at hr; cases hr), fun j hj => ?_⟩
  by_cases hji : j = i
  ·subst hji; exact ⟨oi, v, hi, hy, H⟩
  ·have := ready_mono hj hji
   rw [H.1] at this
   cases this
 | succ fuel ih =>
  intro listed a hfree hr hy H
  refine ⟨fun h => (by rw [h] at hr; cases hr), fun j hj => ?_⟩
  by_cases hji : j = i
  ·subst hji; exact ⟨oi, v, hi, hy, H⟩
  ·have h1 := H.2 j (ready_mono hj hji)
   obtain ⟨hjun, oj, hoj, hall⟩ := mem_ready.1 hj
   have hnot : ∀ e ∈ oj.after, Region.binds md e = true → e.on ≠ i := fun e he hb heq => by
    have h1 := hall e he hb
    have h0 := (mem_ready.1 hr).1
    rw [heq] at h1
    rcases Nat.lt_or_ge i listed.size with h' | h'
    ·simp [h'] at h0 h1; rw [h0] at h1; cases h1
    ·simp [Array.getElem?_eq_none h'] at h1
   have h2 := flowOp_put hG hoj (hfree j oj hoj hji hjun hnot) (fun cs b => hsel i oi cs b hi) (fun cs b => hsel j oj cs b hoj) hy h1
   have hfree' : ∀ k ok, ops[k]? = some ok → k ≠ i → (listed.setIfInBounds j true).getD k true = false →
     (∀ e ∈ ok.after, Region.binds md e = true → e.on ≠ i) → oi.apart ops ok = true := fun k ok hk hki hun hno => by
    refine hfree k ok hk hki ?_ hno
    by_cases hjk : j = k
    ·subst hjk; exact hjun
    ·rw [getD_set_ne true hjk] at hun; exact hun
   refine flowOp_mono (fun a' h3 => ih (listed.setIfInBounds j true) a' hfree' (ready_mono hr (Ne.symm hji)) h3.1 ?_) h2
   rw [Array.setIfInBounds_comm _ _ hji]
   exact h3.2
def flow (G : Oper → Nat → Value → Act → Prop) (Q : Act → Prop) : Nat → List Oper → Act → Prop
 | _, [], a => Q a
 | k, o :: rest, a => ∃ v, G o k v a ∧ flow G Q (k + 1) rest (a.put o.dst v)
theorem flowAny_lex (hG : ByEval ops G) {Q : Act → Prop} (hs : Region.noSelect ops = true) : ∀ (l : List Oper) (k : Nat) (listed : Array Bool) (a : Act), (∀ j, l[j]? = ops[k + j]?) → listed.size = ops.size → k + l.length = ops.size → (∀ i, i < k → listed.getD i false = true) →
  Region.lexFrom md ops l.length k listed = true → flow G Q k l a → flowAny md ops G (fun L a => (∀ i, i < ops.size → L.getD i false = true) ∧ Q a) l.length listed a
 | [], k, _, _, _, _, hk, hall, hB, h => ⟨by simpa [Region.lexFrom] using hB, fun i hi => hall i (by simp at hk; omega), h⟩
 | o :: l, k, listed, a, hl, hz, hk, hall, hB, h => by
  have h0 : ops[k]? = some o := by simpa using (hl 0).symm
  simp only [List.length_cons, Region.lexFrom, Bool.and_eq_true] at hB
  obtain ⟨⟨hr, hf⟩, hB'⟩ := hB
  obtain ⟨v, hy, hK⟩ := h
  have hlt : k < listed.size := by simp only [List.length_cons] at hk; omega
  exact flowAny_first hG h0 (Region.noSelect_spec hs) l.length listed a (Region.free_spec h0 hf) (by simpa using hr) hy
   (flowAny_lex hG hs l (k + 1) _ _ (fun j => by have := hl (j + 1); simpa [Nat.add_assoc, Nat.add_comm 1 j] using this) (by simpa using hz) (by simp only [List.length_cons] at hk; omega)
    (fun i hi => by
     by_cases hik : i = k
     ·subst hik; simp [hlt]
     ·rw [getD_set_ne false (Ne.symm hik)]; exact hall i (by omega)) hB' hK)
theorem getD_replicate_none (m j : Nat) : (Array.replicate m false).getD j false = false := by
 rcases Nat.lt_or_ge j m with h | h
 ·simp [h]
 ·simp [h]
theorem wp_region_flow {id : Nat} {Q : Exit → Act → World → Prop} {a : Act} {w : World} {l : List Oper} (hm : P.follows .mixedOrders = true) (hB : Region.lexB .any l.toArray = true)
  (hC : ∀ L : Array Bool, (∀ i, L.getD i false = false) → C L { w with drawn := w.drawn + 1 })
  (h : flow (Goes P .any l.toArray C) (fun a' => ∀ L w', (∀ i, i < l.length → L.getD i false = true) → C L w' → Q .normal a' w') 0 l a) : (Code.region id l.toArray true).wp P Q a w := by
 simp only [Region.lexB, Bool.and_eq_true] at hB
 refine wp_region_any hm (wpAny_of_flow (Q := fun L a => (∀ i, i < l.toArray.size → L.getD i false = true) ∧ ∀ L w', (∀ i, i < l.length → L.getD i false = true) → C L w' → Q .normal a w')
  (fun L a w' hw' h => h.2 L w' (by simpa using h.1) hw') _ _ _ _ (hC _ (fun i => getD_replicate_none _ _)) ?_)
 have := flowAny_lex (G := Goes P .any l.toArray C) (md := .any) Goes.byEval hB.1 l 0 (Array.replicate l.length false) a (by simp) (by simp) (by simp) (fun i hi => absurd hi (by omega)) (by simpa using hB.2) h
 simpa using this
theorem flow_nil {Q : Act → Prop} {k : Nat} {a : Act} (h : Q a) : flow G Q k [] a := h
theorem flow_yes {Q : Act → Prop} {k : Nat} {o : Oper} {rest : List Oper} {a : Act} (hw : Region.wanted o (yielded ops a.tmps) = true) (v : Value)
  (h1 : ∀ L w, L.getD k true = false → Behind md o L → C L w → goesUpon P (C (L.setIfInBounds k true)) v ((execOp a.eval o).run P w)) (h2 : flow (Goes P md ops C) Q (k + 1) rest (a.put o.dst v)) : flow (Goes P md ops C) Q k (o :: rest) a :=
 ⟨v, .inl ⟨hw, h1⟩, h2⟩
theorem flow_free {Q : Act → Prop} {k : Nat} {o : Oper} {rest : List Oper} {a : Act} (hg : o.guard = none) (v : Value)
  (h1 : ∀ L w, L.getD k true = false → Behind md o L → C L w → goesUpon P (C (L.setIfInBounds k true)) v ((execOp a.eval o).run P w)) (h2 : flow (Goes P md ops C) Q (k + 1) rest (a.put o.dst v)) : flow (Goes P md ops C) Q k (o :: rest) a :=
 flow_yes (by simp [Region.wanted, hg]) v h1 h2
theorem flow_no {Q : Act → Prop} {k : Nat} {o : Oper} {rest : List Oper} {a : Act} (hw : Region.wanted o (yielded ops a.tmps) = false)
  (h1 : ∀ L w, L.getD k true = false → Behind md o L → C L w → C (L.setIfInBounds k true) w) (h2 : flow (Goes P md ops C) Q (k + 1) rest (a.put o.dst undef)) : flow (Goes P md ops C) Q k (o :: rest) a :=
 ⟨undef, .inr ⟨hw, rfl, h1⟩, h2⟩
end
theorem class_of (D : Array Bool → World → Prop) : ∃ C : Array Bool → World → Prop, ∀ L w, C L w ↔ D L w := ⟨D, fun _ _ => Iff.rfl⟩
theorem getD_set_false {L : Array Bool} {k i : Nat} (h : (L.setIfInBounds k true).getD i true = false) : L.getD i true = false := by
 by_cases e : k = i
 ·subst e
  rcases Nat.lt_or_ge k L.size with h' | h'
  ·simp [h'] at h
  ·simp [] at h
 ·rw [getD_set_ne true e] at h; exact h
structure InF (B : Nat) (W : World) (cells : List (Addr × Value)) (sts olds : List (Nat × Addr × Value)) (L : Array Bool) (w' : World) : Prop where
 below : Below B W w'
 cell : ∀ p ∈ cells, w'.cell? p.1 = some p.2
 at_ : ∀ s ∈ sts, ∃ u, w'.cell? s.2.1 = some u
 fro : ∀ s ∈ sts, w'.frozen? s.2.1 = false
 done : ∀ s ∈ sts, L.getD s.1 false = true → w'.cell? s.2.1 = some s.2.2
 old : ∀ s ∈ olds, L.getD s.1 true = false → w'.cell? s.2.1 = some s.2.2
section
variable {B : Nat} {W w' w1 : World} {cells : List (Addr × Value)} {sts olds : List (Nat × Addr × Value)} {L : Array Bool}
theorem InF.start (h1 : ∀ p ∈ cells, W.cell? p.1 = some p.2) (h2 : ∀ s ∈ sts, ∃ u, W.cell? s.2.1 = some u) (h3 : ∀ s ∈ sts, W.frozen? s.2.1 = false) (h4 : ∀ s ∈ olds, W.cell? s.2.1 = some s.2.2) (L : Array Bool) (hL : ∀ i, L.getD i false = false) :
  InF B W cells sts olds L { W with drawn := W.drawn + 1 } :=
 ⟨⟨rfl, rfl, rfl, Nat.le_refl _, fun _ _ => rfl⟩, fun p hp => h1 p hp, fun s hs => h2 s hs, fun s hs => h3 s hs, (fun s _ h => by rw [hL] at h; cases h), fun s hs _ => h4 s hs⟩
theorem InF.skip (h : InF B W cells sts olds L w') (k : Nat) (hk : sts.all (fun s => s.1 != k) = true) : InF B W cells sts olds (L.setIfInBounds k true) w' :=
 ⟨h.below, h.cell, h.at_, h.fro, fun s hs hd => h.done s hs (by
  have : s.1 ≠ k := by simpa using List.all_eq_true.1 hk s hs
  rw [getD_set_ne false (Ne.symm this)] at hd; exact hd), fun s hs hd => h.old s hs (getD_set_false hd)⟩
theorem InF.next (h : InF B W cells sts olds L w') (hB : B ≤ W.heap.size) (hb : Below w'.heap.size w' w1) : InF B W cells sts olds L w1 :=
 ⟨h.below.trans (hb.mono (Nat.le_trans hB h.below.size)), fun p hp => (hb.cell (World.block_lt_of_cell? w' _ (h.cell p hp))).trans (h.cell p hp),
  fun s hs => by obtain ⟨u, hu⟩ := h.at_ s hs; exact ⟨u, (hb.cell (World.block_lt_of_cell? w' _ hu)).trans hu⟩,
  fun s hs => by obtain ⟨u, hu⟩ := h.at_ s hs; exact (hb.frozen (World.block_lt_of_cell? w' _ hu)).trans (h.fro s hs),
  fun s hs hd => (hb.cell (World.block_lt_of_cell? w' _ (h.done s hs hd))).trans (h.done s hs hd),
  fun s hs hd => (hb.cell (World.block_lt_of_cell? w' _ (h.old s hs hd))).trans (h.old s hs hd)⟩
end
section
variable {P : Program} {ops : Array Oper} {md : Region.Mode} {C : Array Bool → World → Prop} {B : Nat} {W w' w1 : World} {cells : List (Addr × Value)} {L : Array Bool}
theorem flO (HC : Hid (∀ L w', C L w' ↔ InF B W cells [] [] L w')) (h : C L w') : InF B W cells [] [] L w' ∧ Below B W w' ∧ ∀ p ∈ cells, w'.cell? p.1 = some p.2 :=
 have h := (HC.out _ _).1 h
 ⟨h, h.below, h.cell⟩
theorem flS (HC : Hid (∀ L w', C L w' ↔ InF B W cells [] [] L w')) (h : InF B W cells [] [] L w') {k : Nat} : C (L.setIfInBounds k true) w' := (HC.out _ _).2 (h.skip k rfl)
theorem flN (HC : Hid (∀ L w', C L w' ↔ InF B W cells [] [] L w')) (h : InF B W cells [] [] L w') (hB : B ≤ W.heap.size) (hb : Below w'.heap.size w' w1) {k : Nat} : C (L.setIfInBounds k true) w1 := (HC.out _ _).2 ((h.next hB hb).skip k rfl)
theorem flow_noC (HC : Hid (∀ L w', C L w' ↔ InF B W cells [] [] L w')) {Q : Act → Prop} {k : Nat} {o : Oper} {rest : List Oper} {a : Act} (hw : Region.wanted o (yielded ops a.tmps) = false) (h2 : flow (Goes P md ops C) Q (k + 1) rest (a.put o.dst undef)) : flow (Goes P md ops C) Q k (o :: rest) a :=
 flow_no hw (fun _ _ _ _ h => flS HC ((HC.out _ _).1 h)) h2
theorem wp_region_flowC {id : Nat} {Q : Exit → Act → World → Prop} {a : Act} {w : World} {l : List Oper} (B : Nat) (cells : List (Addr × Value)) (hm : P.follows .mixedOrders = true) (hB : Region.lexB .any l.toArray = true) (h1 : ∀ p ∈ cells, w.cell? p.1 = some p.2)
  (h : ∀ C : Array Bool → World → Prop, Hid (∀ L w', C L w' ↔ InF B w cells [] [] L w') → flow (Goes P .any l.toArray C) (fun a' => ∀ L w', (∀ i, i < l.length → L.getD i false = true) → C L w' → Q .normal a' w') 0 l a) : (Code.region id l.toArray true).wp P Q a w := by
 obtain ⟨C, HC⟩ := class_of (InF B w cells [] [])
 exact wp_region_flow (C := C) hm hB (fun L hL => (HC _ _).2 (InF.start h1 (fun _ hs => by cases hs) (fun _ hs => by cases hs) (fun _ hs => by cases hs) L hL)) (h C (Lib.hid HC))
end
def Elem (P : Program) (t e : TypeId) (size bytes : Nat) : Prop :=
 P.underlying t = some (.slice e) ∧ ∃ i z, P.info? e = some i ∧ i.zero = some z ∧ i.size = size ∧ i.bytes = bytes ∧ z.cells.size = size ∧ 0 < size
theorem elem_of {P : Program} {t e : TypeId} {z : Value} {size bytes : Nat} (ht : P.underlying t = some (.slice e)) (h : (P.info? e).map (fun i => (i.zero, i.size, i.bytes)) = some (some z, size, bytes))
  (hz : z.cells.size = size) (hs : 0 < size) : Elem P t e size bytes := by
 obtain ⟨i, h1, h2, h3, h4⟩ := info_parts h
 exact ⟨ht, i, z, h1, h2, h3, h4, hz, hs⟩
def NewRow (v v' : Value) (H : Nat) : Prop := v'.ownBlock = v.ownBlock ∨ ∃ g, v'.ownBlock = some g ∧ H ≤ g
section
variable {P : Program}
theorem wpList_app1 {w : World} {ops : Array Oper} {rest : List Oper} {o : Oper} {a : Act} {Q : Exit → Act → World → Prop} (hgd : o.guard = none) (s x : Operand) (t : TypeId)
  (ho : o.op = .call { callee := .builtin .append, args := #[s, x], argTypes := #[t, t] })
  (base : Nat) (e : TypeId) (size bytes : Nat) (hE : Elem P t e size bytes)
  (v : Value) (n : Nat) (xs : List Value) (hs : a.eval s = v) (wr : World) (cs : Array Value) (hw : w = wr.alloc (.cells cs e)) (H : Nat) (hH : wr.heap.size = H) (hx : a.eval x = .slice (some ⟨H, 0, none⟩) 1 1)
  (hown : wr.ownsRow base e size v n xs) (hcs : cs.size = size) (h1 : ∀ u ∈ cs.toList, u.oneCell' = true)
  (hbytes : (n + 1) * bytes ≤ 140737488355328) (h63 : n + 1 ≤ maxLen) (hbase : base ≤ wr.heap.size)
  (h : ∀ v' w', w'.ownsRow base e size v' (n + 1) (xs ++ cs.toList) → wr.grownBy w' v.ownBlock → NewRow v v' wr.heap.size → wr.heap.size < w'.heap.size → wpList P ops Q rest (a.put o.dst v') w') : wpList P ops Q (o :: rest) a w := by
 obtain ⟨ht, i, z, hi, hz, hsz, hby, hzs, hpos⟩ := hE
 subst hw hH
 have hnews : ∀ j u, cs.toList[j]? = some u → (wr.alloc (.cells cs e)).cell? ((⟨wr.heap.size, 0, none⟩ : Addr).add j) = some u := by
  intro j u hu
  have hb := heap_alloc_new wr (.cells cs e)
  have : ((⟨wr.heap.size, 0, none⟩ : Addr).add j) = ⟨wr.heap.size, j, none⟩ := by unfold Addr.add; split <;> simp_all
  rw [this, cell_of_row _ _ j cs e (0, 0) hb]
  simpa using hu
 obtain ⟨v', w', hrun, h2, h3, _, h5⟩ := run_append_own_at (P := P) (wr.alloc (.cells cs e)) base t o.type e i z size bytes ht hi hz hsz hby hzs hpos v n xs (hown.alloc _) ⟨wr.heap.size, 0, none⟩ 1 1 cs.toList (by rw [Array.length_toList, hcs, Nat.one_mul]) hnews h1 h63 hbytes (Nat.le_trans hbase (by simp))
 refine wpList_plain hgd fun _ hK => ?_
 unfold Oper.wp execOp
 simp only [ho, resolve, invoke, builtin, Sem.run_bind, Sem.run_pure, Result.andThen_ok, List.map_toArray, List.map_cons, List.map_nil, hs, hx, hrun]
 refine hK _ _ (h v' w' h2 ⟨h3.os, h3.tape, h3.output, Nat.le_trans (by simp) h3.size, fun k hk hne => (h3.block k (by simp; omega) hne).trans (Below.heap_alloc wr _ k hk)⟩ ?_ ?_)
 ·rcases h5 with h5 | h5
  ·exact .inl h5
  ·exact .inr ⟨_, h5, by simp⟩
 ·have := h3.size
  simp at this; omega
end
theorem row_empty (w : World) (base : Nat) (e : TypeId) (size : Nat) (hb : base ≤ w.heap.size) : (w.alloc (.cells #[] e)).ownsRow base e size (.slice (some ⟨w.heap.size, 0, none⟩) 0 0) 0 [] :=
 ⟨by simp, .inr ⟨w.heap.size, 0, #[], rfl, hb, heap_alloc_new w _, Nat.le_refl _, by simp [maxLen], by simp, by simp⟩⟩
theorem own_base {w : World} {base : Nat} {e : TypeId} {size : Nat} {v : Value} {n : Nat} {xs : List Value} (h : w.ownsRow base e size v n xs) : ∀ k, v.ownBlock = some k → base ≤ k := by
 intro k hk
 rcases h.2 with ⟨rfl, _⟩ | ⟨g, cap, cur, rfl, hb, _⟩
 ·simp [Value.ownBlock] at hk
 ·have : g = k := by simpa [Value.ownBlock] using hk
  omega
def strV (l : List (List UInt8)) : List Value := l.map fun s => Value.string ⟨s.toArray⟩
theorem strV_snoc (l : List (List UInt8)) (s : List UInt8) : strV (l ++ [s]) = strV l ++ [Value.string ⟨s.toArray⟩] := by simp [strV]
theorem elemStr : Elem Tryz.prog 103 9 1 16 := elem_of Tryz.underlying103 (z := .string ⟨#[]⟩) (by kernel_rfl) rfl (by omega)
def splitSt (b : UInt8) : List (List UInt8) × List UInt8 → UInt8 → List (List UInt8) × List UInt8 := fun st c => if c == b then (st.1 ++ [st.2], []) else (st.1, st.2 ++ [c])
def splitP (l : List UInt8) (b : UInt8) : List (List UInt8) × List UInt8 := l.foldl (splitSt b) ([], [])
def splitF (l : List UInt8) (b : UInt8) : List (List UInt8) := (splitP l b).1 ++ [(splitP l b).2]
theorem splitP_snoc (l : List UInt8) (c b : UInt8) : splitP (l ++ [c]) b = splitSt b (splitP l b) c := by simp [splitP]
theorem splitP_len (l : List UInt8) (b : UInt8) : (splitP l b).1.length ≤ l.length := by
 have : ∀ (l : List UInt8) (st : List (List UInt8) × List UInt8), (l.foldl (splitSt b) st).1.length ≤ st.1.length + l.length := by
  intro l; induction l with
  | nil => intro st; simp
  | cons c l ih => intro st; have := ih (splitSt b st c); simp only [List.foldl_cons, List.length_cons]; unfold splitSt at this ⊢; split at this <;> simp_all <;> omega
 simpa [splitP] using this l ([], [])
theorem split_yes (s : ByteArray) (k : Nat) (b : UInt8) (h : k < s.size) (hc : (s[k] == b) = true) : splitP (s.data.toList.take (k + 1)) b = ((splitP (s.data.toList.take k) b).1 ++ [(splitP (s.data.toList.take k) b).2], []) := by
 rw [take_snoc s k h, splitP_snoc, splitSt, if_pos hc]
theorem split_no (s : ByteArray) (k : Nat) (b : UInt8) (h : k < s.size) (hc : (s[k] == b) = false) : splitP (s.data.toList.take (k + 1)) b = ((splitP (s.data.toList.take k) b).1, (splitP (s.data.toList.take k) b).2 ++ [s[k]]) := by
 rw [take_snoc s k h, splitP_snoc, splitSt, if_neg (by simp [hc])]
theorem drop_snoc (s : ByteArray) (f k : Nat) (h : k < s.size) (hf : f ≤ k) : (s.data.toList.take (k + 1)).drop f = (s.data.toList.take k).drop f ++ [s[k]] := by
 rw [take_snoc s k h, List.drop_append_of_le_length (by rw [List.length_take, ← size_list]; omega)]
def SplitPost (l : List (List UInt8)) (w : World) (e : Ending) (w' : World) : Prop :=
 ∃ v, e = .returned v ∧ w'.ownsRow w.heap.size 9 1 v l.length (strV l) ∧ Below w.heap.size w w'
def SplitRel (s : ByteArray) (b : UInt8) (w : World) (out from_ i : Value) (wr : World) : Prop :=
 ∃ k f : Nat, k ≤ s.size ∧ f ≤ k ∧ i = .int .i64 k ∧ from_ = .int .i64 f ∧ (splitP (s.data.toList.take k) b).2 = (s.data.toList.take k).drop f ∧
   wr.ownsRow w.heap.size 9 1 out (splitP (s.data.toList.take k) b).1.length (strV (splitP (s.data.toList.take k) b).1) ∧ Below w.heap.size w wr
set_option maxHeartbeats 400000 in
theorem l1Split_any (s : ByteArray) (b : UInt8) (w : World) (hs : s.size ≤ 1000000000) :
  Calls Tryz.prog 123 #[.string s, .int .u8 b.toNat] w (SplitPost (splitF s.data.toList b) w) := by
 go_enter Tryz.func123, Tryz.ntmps123
 go_wp2
 go_loopw [5, 6, 7] (SplitRel s b w) (fun _ _ i _ => s.size - (intOf i).toNat)
 case atStart => exact ⟨0, 0, Nat.zero_le _, Nat.le_refl _, rfl, rfl, rfl, row_empty _ _ _ _ (Nat.le_refl _), (Below.refl _ _).alloc (Nat.le_refl _) _⟩
 case round =>
  obtain ⟨k, f, hk, hf, rfl, rfl, hcur, hown, hb⟩ := hrel
  have HC := Lib.hid hcur; clear hcur
  have hle : (splitP (s.data.toList.take k) b).1.length ≤ k := Nat.le_trans (splitP_len _ b) (List.length_take_le _ _)
  have hl1 : ((splitP (s.data.toList.take k) b).1.length + 1) * 16 ≤ 140737488355328 := by omega
  have hl2 : (splitP (s.data.toList.take k) b).1.length + 1 ≤ maxLen := by unfold maxLen; omega
  have HO := Lib.hid hown; clear hown
  by_cases hlt : k < s.size
  ·go_wp2_with (at_builtin; refine wpList_app1 rfl (.tmp 20) (.tmp 25) _ rfl w.heap.size 9 1 16 elemStr _ _ _ rfl wr #[.string (s.extract f k)] rfl _ (by simp) rfl HO.out rfl (by simp [Value.oneCell']) hl1 hl2 hb.size ?_; intro v1 w1 hown1 hg1 hnr1 hlt1)
   ·have hc := byte_eq_t ‹_›
    go_light
    refine ⟨⟨k + 1, k + 1, ?_⟩, by simp [intOf]; omega⟩
    rw [split_yes s k b hlt hc]
    refine ⟨by omega, by omega, by go_num, by go_num, ?_, ?_, hb.grown hg1 hb.size (own_base HO.out)⟩
    ·rw [List.drop_eq_nil_of_le (List.length_take_le _ _)]
    ·rw [strV_snoc, List.length_append, HC.out, ← extract_list]; exact hown1
   ·have hc := byte_eq_f ‹_›
    go_light
    refine ⟨⟨k + 1, f, ?_⟩, by simp [intOf]; omega⟩
    rw [split_no s k b hlt hc]
    exact ⟨by omega, by omega, by go_num, rfl, by rw [drop_snoc s f k hlt hf, HC.out], HO.out, hb⟩
  ·have hke : k = s.size := by omega
   subst hke
   have hx : s.data.toList.take s.size = s.data.toList := take_all _ _ (by omega)
   have hx1 : (splitP s.data.toList b).2 = (s.data.toList.take s.size).drop f := by rw [← HC.out, hx]
   have HX := Lib.hid hx
   have HX1 := Lib.hid hx1
   clear hx hx1
   go_wp2_with (at_builtin; refine wpList_app1 rfl (.tmp 29) (.tmp 33) _ rfl w.heap.size 9 1 16 elemStr _ _ _ rfl wr #[.string (s.extract f s.size)] rfl _ (by simp) rfl HO.out rfl (by simp [Value.oneCell']) hl1 hl2 hb.size ?_; intro v1 w1 hown1 hg1 hnr1 hlt1)
   go_ret
   refine ⟨v1, rfl, ?_, hb.grown hg1 hb.size (own_base HO.out)⟩
   rw [splitF, strV_snoc, List.length_append, HX1.out, ← extract_list]
   rw [HX.out] at hown1
   exact hown1
theorem own_form {w : World} {base : Nat} {e : TypeId} {size : Nat} {v : Value} {n : Nat} {xs : List Value} (h : w.ownsRow base e size v n xs) (hn : 0 < n) : ∃ g cap, v = .slice (some ⟨g, 0, none⟩) n cap := by
 rcases h.2 with ⟨_, h0⟩ | ⟨g, cap, cur, hv, _⟩
 ·omega
 ·exact ⟨g, cap, hv⟩
theorem own_below {w w' : World} {base : Nat} {e : TypeId} {size : Nat} {v : Value} {n : Nat} {xs : List Value} (h : w.ownsRow base e size v n xs) (hb : Below w.heap.size w w') : w'.ownsRow base e size v n xs :=
 h.kept (row := none) ⟨hb.os, hb.tape, hb.output, hb.size, fun k hk _ => hb.block k hk⟩ (by cases hv : v.ownBlock <;> simp)
theorem grown_cell {w w' : World} {row : Option Nat} (hg : w.grownBy w' row) {g o : Nat} {v : Value} (hc : w.cell? ⟨g, o, none⟩ = some v) (hne : some g ≠ row) : w'.cell? ⟨g, o, none⟩ = some v :=
 (World.cell?_of_block (hg.block g (World.block_lt_of_cell? w _ hc) hne)).trans hc
theorem own_lt {w : World} {base : Nat} {e : TypeId} {size : Nat} {n : Nat} {xs : List Value} {g c : Nat} (h : w.ownsRow base e size (.slice (some ⟨g, 0, none⟩) n c) n xs) : g < w.heap.size := by
 rcases h.2 with ⟨h, _⟩ | ⟨g', cap, cur, hv, _, hh, _⟩
 ·cases h
 ·injection hv with hv
  injection hv with hv
  injection hv with hv
  subst hv
  rcases Nat.lt_or_ge g w.heap.size with hlt | hge
  ·exact hlt
  ·rw [Array.getElem?_eq_none hge] at hh; cases hh
theorem own_lower {w : World} {base b : Nat} {e : TypeId} {size : Nat} {v : Value} {n : Nat} {xs : List Value} (h : w.ownsRow base e size v n xs) (hb : b ≤ base) : w.ownsRow b e size v n xs := by
 refine ⟨h.1, ?_⟩
 rcases h.2 with h2 | ⟨g, cap, cur, hv, hg, h3⟩
 ·exact .inl h2
 ·exact .inr ⟨g, cap, cur, hv, Nat.le_trans hb hg, h3⟩
end Go.Proofs.YtabkdonplmlbcaaGreatDoor
