import Derived.Test.YtabkdonplmlbcaaGreatDoorStPart2
namespace Go.Proofs.YtabkdonplmlbcaaGreatDoor
open Go.RowKit
section
variable {P : Program} {ops : Array Oper} {md : Region.Mode} {vs : List (Option Value)} {D : (Nat → Value) → Array Bool → World → Prop}
def upd (u : Nat → Value) (k : Nat) (x : Value) : Nat → Value := fun i => if i = k then x else u i
theorem upd_same (u : Nat → Value) (k : Nat) (x : Value) : upd u k x k = x := if_pos rfl
theorem upd_other (u : Nat → Value) {k i : Nat} (x : Value) (h : i ≠ k) : upd u k x i = u i := if_neg h
def stB (vs : List (Option Value)) (i : Nat) : Bool := (vs.getD i none).isSome
def baseV (vs : List (Option Value)) (i : Nat) : Value := (vs.getD i none).getD undef
theorem baseV0 (v : Value) (l : List (Option Value)) : baseV (some v :: l) 0 = v := rfl
theorem baseV1 (x : Option Value) (v : Value) (l : List (Option Value)) : baseV (x :: some v :: l) 1 = v := rfl
theorem baseV2 (x y : Option Value) (v : Value) (l : List (Option Value)) : baseV (x :: y :: some v :: l) 2 = v := rfl
theorem baseV3 (x y z : Option Value) (v : Value) (l : List (Option Value)) : baseV (x :: y :: z :: some v :: l) 3 = v := rfl
theorem baseV4 (x y z a : Option Value) (v : Value) (l : List (Option Value)) : baseV (x :: y :: z :: a :: some v :: l) 4 = v := rfl
theorem baseV5 (x y z a b : Option Value) (v : Value) (l : List (Option Value)) : baseV (x :: y :: z :: a :: b :: some v :: l) 5 = v := rfl
theorem baseV6 (x y z a b c : Option Value) (v : Value) (l : List (Option Value)) : baseV (x :: y :: z :: a :: b :: c :: some v :: l) 6 = v := rfl
theorem baseV7 (x y z a b c d : Option Value) (v : Value) (l : List (Option Value)) : baseV (x :: y :: z :: a :: b :: c :: d :: some v :: l) 7 = v := rfl
theorem baseV8 (x y z a b c d e : Option Value) (v : Value) (l : List (Option Value)) : baseV (x :: y :: z :: a :: b :: c :: d :: e :: some v :: l) 8 = v := rfl
attribute [go_sem] baseV0 baseV1 baseV2 baseV3 baseV4 baseV5 baseV6 baseV7 baseV8
def eachUpon (P : Program) (E : Value → World → Prop) : Result Next → Prop
 | .ok (.value x) w' => E x w'
 | .ok .skip w' => E undef w'
 | .ok (.enter f args) w' => Calls P f args w' (fun e w'' => ∃ x, e = .returned x ∧ E x w'')
 | _ => False
attribute [go_sem] eachUpon
def GS (P : Program) (md : Region.Mode) (ops : Array Oper) (vs : List (Option Value)) (D : (Nat → Value) → Array Bool → World → Prop) (o : Oper) (i : Nat) (a : Act) : Prop := ∀ u, Goes P md ops (D u) o i (baseV vs i) a
def GU (P : Program) (md : Region.Mode) (ops : Array Oper) (D : (Nat → Value) → Array Bool → World → Prop) (o : Oper) (i : Nat) (a : Act) (u : Nat → Value) : Prop :=
 Region.wanted o (yielded ops a.tmps) = true ∧ ∀ L w, L.getD i true = false → Behind md o L → D u L w → eachUpon P (fun x w' => D (upd u i x) (L.setIfInBounds i true) w') ((execOp a.eval o).run P w)
theorem GS.eval {o : Oper} {i : Nat} {a a' : Act} (h : GS P md ops vs D o i a) (he : execOp a'.eval o = execOp a.eval o) (hw : Region.wanted o (yielded ops a'.tmps) = Region.wanted o (yielded ops a.tmps)) : GS P md ops vs D o i a' :=
 fun u => Goes.byEval _ _ _ _ _ (h u) he hw
theorem GU.eval {o : Oper} {i : Nat} {a a' : Act} {u : Nat → Value} (h : GU P md ops D o i a u) (he : execOp a'.eval o = execOp a.eval o) (hw : Region.wanted o (yielded ops a'.tmps) = Region.wanted o (yielded ops a.tmps)) : GU P md ops D o i a' u := by
 unfold GU at *
 rw [he, hw]; exact h
def opU (P : Program) (md : Region.Mode) (ops : Array Oper) (vs : List (Option Value)) (D : (Nat → Value) → Array Bool → World → Prop) (i : Nat) (K : Act → (Nat → Value) → Prop) (a : Act) (u : Nat → Value) : Prop :=
 ∃ o, ops[i]? = some o ∧ ((stB vs i = true ∧ GS P md ops vs D o i a ∧ K (a.put o.dst (baseV vs i)) u) ∨ (stB vs i = false ∧ GU P md ops D o i a u ∧ ∀ x, K (a.put o.dst x) (upd u i x)))
def anyU (P : Program) (md : Region.Mode) (ops : Array Oper) (vs : List (Option Value)) (D : (Nat → Value) → Array Bool → World → Prop) (Q : Array Bool → Act → (Nat → Value) → Prop) : Nat → Array Bool → Act → (Nat → Value) → Prop
 | 0, L, a, u => Region.ready md ops L = [] ∧ Q L a u
 | fuel + 1, L, a, u => (Region.ready md ops L = [] → Q L a u) ∧ ∀ i ∈ Region.ready md ops L, opU P md ops vs D i (anyU P md ops vs D Q fuel (L.setIfInBounds i true)) a u
theorem wpAny_of_anyU {Q : Array Bool → Act → (Nat → Value) → Prop} {Q' : Exit → Act → World → Prop} (hQ : ∀ L a u w, D u L w → Q L a u → Q' .normal a w) : ∀ (fuel : Nat) (L : Array Bool) (a : Act) (u : Nat → Value) (w : World), D u L w →
  anyU P md ops vs D Q fuel L a u → wpAny P md ops Q' fuel L a w
 | 0, _, _, _, _, hw, h => ⟨h.1, hQ _ _ _ _ hw h.2⟩
 | fuel + 1, L, a, u, w, hw, h => by
  refine ⟨fun h0 => hQ _ _ _ _ hw (h.1 h0), fun i hi => ?_⟩
  obtain ⟨o, ho, ⟨hs, hg, hK⟩ | ⟨hs, hg, hK⟩⟩ := h.2 i hi
  ·exact wpOp_of_flowOp (C := D u) (K := fun a' => anyU P md ops vs D Q fuel (L.setIfInBounds i true) a' u) hi hw (fun a' w' hw' hK => wpAny_of_anyU hQ fuel _ a' u w' hw' hK) ⟨o, _, ho, hg u, hK⟩
  ·obtain ⟨hun, oj, hoj, hall⟩ := mem_ready.1 hi
   obtain rfl : oj = o := Option.some.inj (hoj.symm.trans ho)
   have hbe : Behind md oj L := fun e he hb => by simpa using hall e he hb
   have h3 := hg.2 L w hun hbe hw
   unfold wpOp
   simp only [ho]
   rw [if_pos hg.1]
   refine .inl ?_
   unfold Oper.wp
   generalize (execOp a.eval oj).run P w = r at *
   cases r with
   | ok n w' =>
    cases n <;> simp only [eachUpon] at h3 <;> simp only [Oper.upon]
    case value x => exact wpAny_of_anyU hQ fuel _ _ _ _ h3 (hK x)
    case skip => exact wpAny_of_anyU hQ fuel _ _ _ _ h3 (hK undef)
    case enter f args => exact h3.mono fun e w'' ⟨x, he, hw''⟩ => by subst he; exact wpAny_of_anyU hQ fuel _ _ _ _ hw'' (hK x)
   | halt x w' => simp only [eachUpon] at h3
def Closed (md : Region.Mode) (ops : Array Oper) (L : Array Bool) : Prop := ∀ c oc, ops[c]? = some oc → L.getD c false = true → Behind md oc L
theorem getD_tf {L : Array Bool} {i : Nat} (h : L.getD i true = false) : L.getD i false = false := by
 rcases Nat.lt_or_ge i L.size with h' | h'
 ·simp [h'] at h ⊢; exact h
 ·simp [Array.getElem?_eq_none h']
theorem set_mono {L : Array Bool} {i j : Nat} (h : L.getD i false = true) : (L.setIfInBounds j true).getD i false = true := by
 by_cases e : j = i
 ·subst e
  have hlt : j < L.size := by
   rcases Nat.lt_or_ge j L.size with h' | h'
   ·exact h'
   ·simp [Array.getElem?_eq_none h'] at h
  simp [hlt]
 ·rw [getD_set_ne false e]; exact h
theorem Closed.set {L : Array Bool} {j : Nat} (h : Closed md ops L) (hj : j ∈ Region.ready md ops L) : Closed md ops (L.setIfInBounds j true) := by
 intro c oc hc hl e he hb
 obtain ⟨_, oj, hoj, hall⟩ := mem_ready.1 hj
 by_cases e1 : j = c
 ·subst e1
  obtain rfl : oj = oc := Option.some.inj (hoj.symm.trans hc)
  exact set_mono (by simpa using hall e he hb)
 ·rw [getD_set_ne false e1] at hl
  exact set_mono (h c oc hc hl e he hb)
def chainB (l : List Oper) (vs : List (Option Value)) : Bool :=
 (List.range l.length).all fun j => stB vs j || (List.range j).all fun i => stB vs i || ((l[j]?.map fun o => o.after.any fun e => Region.binds .any e && decide (i ≤ e.on) && decide (e.on < j) && !stB vs e.on).getD false)
def Chained (md : Region.Mode) (ops : Array Oper) (vs : List (Option Value)) : Prop :=
 ∀ j oj i, ops[j]? = some oj → i < j → stB vs j = false → stB vs i = false → ∃ e ∈ oj.after, Region.binds md e = true ∧ i ≤ e.on ∧ e.on < j ∧ stB vs e.on = false
theorem Chained.of {l : List Oper} (h : chainB l vs = true) : Chained .any l.toArray vs := by
 intro j oj i hj hij hsj hsi
 have hjl : j < l.length := by
  have := (Array.getElem?_eq_some_iff.1 hj).1
  simpa using this
 have h1 := List.all_eq_true.1 h j (List.mem_range.2 hjl)
 rw [hsj, Bool.false_or] at h1
 have h2 := List.all_eq_true.1 h1 i (List.mem_range.2 hij)
 rw [hsi, Bool.false_or] at h2
 have hl : l[j]? = some oj := by simpa using hj
 rw [hl] at h2
 obtain ⟨e, he, hb⟩ := Array.any_eq_true'.1 (show (oj.after.any _) = true from h2)
 simp only [Bool.and_eq_true, decide_eq_true_eq, Bool.not_eq_true'] at hb
 exact ⟨e, he, hb.1.1.1, hb.1.1.2, hb.1.2, hb.2⟩
theorem chain_listed {L : Array Bool} (hc : Chained md ops vs) (hL : Closed md ops L) {i : Nat} (hi : stB vs i = false) (hsz : L.size = ops.size) : ∀ c, i ≤ c → stB vs c = false → L.getD c false = true → L.getD i false = true := by
 intro c
 induction c using Nat.strongRecOn with
 | _ c ih =>
  intro hic hs hl
  by_cases e : i = c
  ·subst e; exact hl
  ·have hlt : c < L.size := by
    rcases Nat.lt_or_ge c L.size with h' | h'
    ·exact h'
    ·simp [Array.getElem?_eq_none h'] at hl
   have hoc : ops[c]? = some (ops[c]'(by omega)) := Array.getElem?_eq_getElem (by omega)
   obtain ⟨e, he, hb, h1, h2, h3⟩ := hc c _ i hoc (by omega) hs hi
   exact ih e.on h2 h1 h3 (hL c _ hoc hl e he hb)
theorem no_other {L : Array Bool} (hc : Chained md ops vs) (hL : Closed md ops L) (hsz : L.size = ops.size) {i j : Nat} (hi : stB vs i = false) (hun : L.getD i true = false) (hall : ∀ k, k < i → L.getD k false = true) (hj : j ∈ Region.ready md ops L) (hne : j ≠ i) : stB vs j = true := by
 rcases hs : stB vs j with _ | _
 ·exfalso
  obtain ⟨hju, oj, hoj, hb⟩ := mem_ready.1 hj
  have hij : i < j := by
   rcases Nat.lt_or_ge j i with h' | h'
   ·have := hall j h'
    rw [getD_tf hju] at this; cases this
   ·omega
  obtain ⟨e, he, hbe, h1, h2, h3⟩ := hc j oj i hoj hij hs hi
  have := chain_listed hc hL hi hsz e.on h1 h3 (by simpa using hb e he hbe)
  rw [getD_tf hun] at this; cases this
 ·rfl
theorem anyU_firstS {Q : Array Bool → Act → (Nat → Value) → Prop} {i : Nat} {oi : Oper} (hi : ops[i]? = some oi) (hst : stB vs i = true) (hsel : ∀ (j : Nat) (o : Oper) cs b, ops[j]? = some o → o.op ≠ .select cs b) :
  ∀ (fuel : Nat) (L : Array Bool) (a : Act) (u : Nat → Value),
   (∀ j oj, ops[j]? = some oj → j ≠ i → L.getD j true = false → (∀ e ∈ oj.after, Region.binds md e = true → e.on ≠ i) → oi.apart ops oj = true) →
   i ∈ Region.ready md ops L → GS P md ops vs D oi i a →
   anyU P md ops vs D Q fuel (L.setIfInBounds i true) (a.put oi.dst (baseV vs i)) u → anyU P md ops vs D Q (fuel + 1) L a u := by
 intro fuel
 induction fuel with
 | zero =>
  intro L a u _ hr hy H
  refine ⟨fun h => (by rw [h] at hr; cases hr), fun j hj => ?_⟩
  by_cases hji : j = i
  ·subst hji; exact ⟨oi, hi, .inl ⟨hst, hy, H⟩⟩
  ·have := ready_mono hj hji
   rw [H.1] at this
   cases this
 | succ fuel ih =>
  intro L a u hfree hr hy H
  refine ⟨fun h => (by rw [h] at hr; cases hr), fun j hj => ?_⟩
  by_cases hji : j = i
  ·subst hji; exact ⟨oi, hi, .inl ⟨hst, hy, H⟩⟩
  ·obtain ⟨hjun, oj, hoj, hall⟩ := mem_ready.1 hj
   have hnot : ∀ e ∈ oj.after, Region.binds md e = true → e.on ≠ i := fun e he hb heq => by
    have h1 := hall e he hb
    have h0 := (mem_ready.1 hr).1
    rw [heq] at h1
    rw [getD_tf h0] at h1; cases h1
   obtain ⟨p1, p2, p3⟩ := Oper.apart_spec (hfree j oj hoj hji hjun hnot)
   have hfree' : ∀ k ok, ops[k]? = some ok → k ≠ i → (L.setIfInBounds j true).getD k true = false →
     (∀ e ∈ ok.after, Region.binds md e = true → e.on ≠ i) → oi.apart ops ok = true := fun k ok hk hki hun hno => by
    refine hfree k ok hk hki ?_ hno
    by_cases hjk : j = k
    ·subst hjk; exact hjun
    ·rw [getD_set_ne true hjk] at hun; exact hun
   obtain ⟨o, ho, hcase⟩ := H.2 j (ready_mono hj hji)
   obtain rfl : oj = o := Option.some.inj (hoj.symm.trans ho)
   have hej := execOp_put oj (fun cs b => hsel j oj cs b hoj) a oi.dst (baseV vs i) p1
   have hwj := wanted_put (ops := ops) oj a oi.dst (baseV vs i) p1
   rcases hcase with ⟨hs, hg, hK⟩ | ⟨hs, hg, hK⟩
   ·refine ⟨oj, hoj, .inl ⟨hs, hg.eval hej.symm hwj.symm, ih (L.setIfInBounds j true) _ u hfree' (ready_mono hr (Ne.symm hji)) (hy.eval (execOp_put oi (fun cs b => hsel i oi cs b hi) a oj.dst _ p3) (wanted_put oi a oj.dst _ p3)) ?_⟩⟩
    rw [Array.setIfInBounds_comm _ _ hji, ← Act.put_comm a _ _ p2]; exact hK
   ·refine ⟨oj, hoj, .inr ⟨hs, hg.eval hej.symm hwj.symm, fun x => ih (L.setIfInBounds j true) _ _ hfree' (ready_mono hr (Ne.symm hji)) (hy.eval (execOp_put oi (fun cs b => hsel i oi cs b hi) a oj.dst x p3) (wanted_put oi a oj.dst x p3)) ?_⟩⟩
    rw [Array.setIfInBounds_comm _ _ hji, ← Act.put_comm a _ _ p2]; exact hK x
theorem anyU_firstU {Q : Array Bool → Act → (Nat → Value) → Prop} {i : Nat} {oi : Oper} (hi : ops[i]? = some oi) (hst : stB vs i = false) (hc : Chained md ops vs) (hsel : ∀ (j : Nat) (o : Oper) cs b, ops[j]? = some o → o.op ≠ .select cs b) :
  ∀ (fuel : Nat) (L : Array Bool) (a : Act) (u : Nat → Value), Closed md ops L → L.size = ops.size → (∀ k, k < i → L.getD k false = true) →
   (∀ j oj, ops[j]? = some oj → j ≠ i → L.getD j true = false → (∀ e ∈ oj.after, Region.binds md e = true → e.on ≠ i) → oi.apart ops oj = true) →
   i ∈ Region.ready md ops L → GU P md ops D oi i a u →
   (∀ x, anyU P md ops vs D Q fuel (L.setIfInBounds i true) (a.put oi.dst x) (upd u i x)) → anyU P md ops vs D Q (fuel + 1) L a u := by
 intro fuel
 induction fuel with
 | zero =>
  intro L a u _ _ _ _ hr hy H
  refine ⟨fun h => (by rw [h] at hr; cases hr), fun j hj => ?_⟩
  by_cases hji : j = i
  ·subst hji; exact ⟨oi, hi, .inr ⟨hst, hy, H⟩⟩
  ·have := ready_mono hj hji
   rw [(H undef).1] at this
   cases this
 | succ fuel ih =>
  intro L a u hcl hsz hlow hfree hr hy H
  refine ⟨fun h => (by rw [h] at hr; cases hr), fun j hj => ?_⟩
  by_cases hji : j = i
  ·subst hji; exact ⟨oi, hi, .inr ⟨hst, hy, H⟩⟩
  ·obtain ⟨hjun, oj, hoj, hall⟩ := mem_ready.1 hj
   have hsj := no_other hc hcl hsz hst (mem_ready.1 hr).1 hlow hj hji
   have hnot : ∀ e ∈ oj.after, Region.binds md e = true → e.on ≠ i := fun e he hb heq => by
    have h1 := hall e he hb
    have h0 := (mem_ready.1 hr).1
    rw [heq] at h1
    rw [getD_tf h0] at h1; cases h1
   obtain ⟨p1, p2, p3⟩ := Oper.apart_spec (hfree j oj hoj hji hjun hnot)
   have hfree' : ∀ k ok, ops[k]? = some ok → k ≠ i → (L.setIfInBounds j true).getD k true = false →
     (∀ e ∈ ok.after, Region.binds md e = true → e.on ≠ i) → oi.apart ops ok = true := fun k ok hk hki hun hno => by
    refine hfree k ok hk hki ?_ hno
    by_cases hjk : j = k
    ·subst hjk; exact hjun
    ·rw [getD_set_ne true hjk] at hun; exact hun
   have hx : ∀ x, GS P md ops vs D oj j a ∧ anyU P md ops vs D Q fuel ((L.setIfInBounds i true).setIfInBounds j true) ((a.put oi.dst x).put oj.dst (baseV vs j)) (upd u i x) := fun x => by
    obtain ⟨o, ho, hcase⟩ := (H x).2 j (ready_mono hj hji)
    obtain rfl : oj = o := Option.some.inj (hoj.symm.trans ho)
    rcases hcase with ⟨hs, hg, hK⟩ | ⟨hs, hg, hK⟩
    ·exact ⟨hg.eval (execOp_put oj (fun cs b => hsel j oj cs b hoj) a oi.dst x p1).symm (wanted_put (ops := ops) oj a oi.dst x p1).symm, hK⟩
    ·rw [hs] at hsj; cases hsj
   refine ⟨oj, hoj, .inl ⟨hsj, (hx undef).1, ih (L.setIfInBounds j true) _ u (hcl.set hj) (by simpa using hsz) (fun k hk => set_mono (hlow k hk)) hfree' (ready_mono hr (Ne.symm hji)) (hy.eval (execOp_put oi (fun cs b => hsel i oi cs b hi) a oj.dst _ p3) (wanted_put oi a oj.dst _ p3)) fun x => ?_⟩⟩
   rw [Array.setIfInBounds_comm _ _ hji, ← Act.put_comm a _ _ p2]; exact (hx x).2
def flowU (P : Program) (md : Region.Mode) (ops : Array Oper) (vs : List (Option Value)) (D : (Nat → Value) → Array Bool → World → Prop) (Q : Act → (Nat → Value) → Prop) : Nat → List Oper → Act → (Nat → Value) → Prop
 | _, [], a, u => Q a u
 | k, o :: rest, a, u => (stB vs k = true ∧ GS P md ops vs D o k a ∧ flowU P md ops vs D Q (k + 1) rest (a.put o.dst (baseV vs k)) u) ∨ (stB vs k = false ∧ GU P md ops D o k a u ∧ ∀ x, flowU P md ops vs D Q (k + 1) rest (a.put o.dst x) (upd u k x))
theorem anyU_lex (hc : Chained md ops vs) {Q : Act → (Nat → Value) → Prop} (hs : Region.noSelect ops = true) : ∀ (l : List Oper) (k : Nat) (L : Array Bool) (a : Act) (u : Nat → Value), (∀ j, l[j]? = ops[k + j]?) → L.size = ops.size → k + l.length = ops.size → (∀ i, i < k → L.getD i false = true) → Closed md ops L →
  Region.lexFrom md ops l.length k L = true → flowU P md ops vs D Q k l a u → anyU P md ops vs D (fun L a u => (∀ i, i < ops.size → L.getD i false = true) ∧ Q a u) l.length L a u
 | [], k, _, _, _, _, _, hk, hall, _, hB, h => ⟨by simpa [Region.lexFrom] using hB, fun i hi => hall i (by simp at hk; omega), h⟩
 | o :: l, k, L, a, u, hl, hz, hk, hall, hcl, hB, h => by
  have h0 : ops[k]? = some o := by simpa using (hl 0).symm
  simp only [List.length_cons, Region.lexFrom, Bool.and_eq_true] at hB
  obtain ⟨⟨hr, hf⟩, hB'⟩ := hB
  have hlt : k < L.size := by simp only [List.length_cons] at hk; omega
  have hrk : k ∈ Region.ready md ops L := by simpa using hr
  have next : ∀ a u, flowU P md ops vs D Q (k + 1) l a u → anyU P md ops vs D (fun L a u => (∀ i, i < ops.size → L.getD i false = true) ∧ Q a u) l.length (L.setIfInBounds k true) a u := fun a u hK =>
   anyU_lex hc hs l (k + 1) _ _ u (fun j => by have := hl (j + 1); simpa [Nat.add_assoc, Nat.add_comm 1 j] using this) (by simpa using hz) (by simp only [List.length_cons] at hk; omega)
    (fun i hi => by
     by_cases hik : i = k
     ·subst hik; simp [hlt]
     ·rw [getD_set_ne false (Ne.symm hik)]; exact hall i (by omega)) (hcl.set hrk) hB' hK
  rcases h with ⟨hst, hy, hK⟩ | ⟨hst, hy, hK⟩
  ·exact anyU_firstS h0 hst (Region.noSelect_spec hs) l.length L a u (Region.free_spec h0 hf) hrk hy (next _ _ hK)
  ·exact anyU_firstU h0 hst hc (Region.noSelect_spec hs) l.length L a u hcl hz hall (Region.free_spec h0 hf) hrk hy (fun x => next _ _ (hK x))
theorem wp_region_chain {id : Nat} {Q : Exit → Act → World → Prop} {a : Act} {w : World} {l : List Oper} (vs : List (Option Value)) (D : (Nat → Value) → Array Bool → World → Prop) (hm : P.follows .mixedOrders = true) (hB : Region.lexB .any l.toArray = true) (hch : chainB l vs = true)
  (hC : ∀ L : Array Bool, (∀ i, L.getD i false = false) → D (fun _ => undef) L { w with drawn := w.drawn + 1 })
  (h : flowU P .any l.toArray vs D (fun a' u => ∀ L w', (∀ i, i < l.length → L.getD i false = true) → D u L w' → Q .normal a' w') 0 l a (fun _ => undef)) : (Code.region id l.toArray true).wp P Q a w := by
 simp only [Region.lexB, Bool.and_eq_true] at hB
 refine wp_region_any hm (wpAny_of_anyU (vs := vs) (D := D) (Q := fun L a u => (∀ i, i < l.toArray.size → L.getD i false = true) ∧ ∀ L w', (∀ i, i < l.length → L.getD i false = true) → D u L w' → Q .normal a w')
  (fun L a u w' hw' h => h.2 L w' (by simpa using h.1) hw') _ _ _ (fun _ => undef) _ (hC _ (fun i => getD_replicate_none _ _)) ?_)
 have := anyU_lex (Chained.of hch) hB.1 l 0 (Array.replicate l.length false) a (fun _ => undef) (by simp) (by simp) (by simp) (fun i hi => absurd hi (by omega)) (fun c oc _ hl => by rw [getD_replicate_none] at hl; cases hl) (by simpa using hB.2) h
 simpa using this
theorem flowU_st {Q : Act → (Nat → Value) → Prop} {k : Nat} {o : Oper} {rest : List Oper} {a : Act} {u : Nat → Value} (hs : stB vs k = true) (hg : o.guard = none)
  (h1 : ∀ u L w, L.getD k true = false → Behind md o L → D u L w → goesUpon P (D u (L.setIfInBounds k true)) (baseV vs k) ((execOp a.eval o).run P w)) (h2 : flowU P md ops vs D Q (k + 1) rest (a.put o.dst (baseV vs k)) u) : flowU P md ops vs D Q k (o :: rest) a u :=
 .inl ⟨hs, fun u => .inl ⟨by simp [Region.wanted, hg], h1 u⟩, h2⟩
theorem flowU_ch {Q : Act → (Nat → Value) → Prop} {k : Nat} {o : Oper} {rest : List Oper} {a : Act} {u : Nat → Value} (hs : stB vs k = false) (hg : o.guard = none)
  (h1 : ∀ L w, L.getD k true = false → Behind md o L → D u L w → eachUpon P (fun x w' => D (upd u k x) (L.setIfInBounds k true) w') ((execOp a.eval o).run P w)) (h2 : ∀ x, flowU P md ops vs D Q (k + 1) rest (a.put o.dst x) (upd u k x)) : flowU P md ops vs D Q k (o :: rest) a u :=
 .inr ⟨hs, ⟨by simp [Region.wanted, hg], h1⟩, h2⟩
theorem flowU_imp {Q Q' : Act → (Nat → Value) → Prop} : ∀ (l : List Oper) (k : Nat) (a : Act) (u : Nat → Value), (∀ a u, Q a u → Q' a u) → flowU P md ops vs D Q k l a u → flowU P md ops vs D Q' k l a u
 | [], _, _, _, hq, h => hq _ _ h
 | o :: rest, k, a, u, hq, h => by
  rcases h with ⟨h1, h2, h3⟩ | ⟨h1, h2, h3⟩
  ·exact .inl ⟨h1, h2, flowU_imp rest (k + 1) _ _ hq h3⟩
  ·exact .inr ⟨h1, h2, fun x => flowU_imp rest (k + 1) _ _ hq (h3 x)⟩
theorem flowU_nil {Q : Act → (Nat → Value) → Prop} {k : Nat} {a : Act} {u : Nat → Value} (h : Q a u) : flowU P md ops vs D Q k [] a u := h
end
section
variable {P : Program} {ops : Array Oper} {vs : List (Option Value)} {cs : List Nat} {St : Nat → (Nat → Value) → World → Prop}
def StageIs (cs : List Nat) (L : Array Bool) (j : Nat) : Prop := j ≤ cs.length ∧ ∀ k c, cs[k]? = some c → (k < j → L.getD c false = true) ∧ (j ≤ k → L.getD c false = false)
def DS (ops : Array Oper) (cs : List Nat) (St : Nat → (Nat → Value) → World → Prop) (u : Nat → Value) (L : Array Bool) (w : World) : Prop := Closed .any ops L ∧ ∃ j, StageIs cs L j ∧ St j u w
theorem Closed.put {L : Array Bool} {k : Nat} {o : Oper} (h : Closed .any ops L) (ho : ops[k]? = some o) (hb : Behind .any o L) : Closed .any ops (L.setIfInBounds k true) := by
 intro c oc hc hl e he hbi
 by_cases e1 : k = c
 ·subst e1
  obtain rfl : o = oc := Option.some.inj (ho.symm.trans hc)
  exact set_mono (hb e he hbi)
 ·rw [getD_set_ne false e1] at hl
  exact set_mono (h c oc hc hl e he hbi)
theorem StageIs.other {L : Array Bool} {j i : Nat} (h : StageIs cs L j) (hi : i ∉ cs) : StageIs cs (L.setIfInBounds i true) j :=
 ⟨h.1, fun k c hc => by
  have hne : i ≠ c := fun e => hi (e ▸ List.mem_of_getElem? hc)
  rw [getD_set_ne false hne]; exact h.2 k c hc⟩
theorem StageIs.next {L : Array Bool} {k c : Nat} (h : StageIs cs L k) (hc : cs[k]? = some c) (hd : cs.Nodup) (hlt : c < L.size) : StageIs cs (L.setIfInBounds c true) (k + 1) := by
 have hk : k < cs.length := (List.getElem?_eq_some_iff.1 hc).1
 refine ⟨hk, fun k' c' hc' => ?_⟩
 by_cases e : k' = k
 ·subst e
  obtain rfl : c = c' := Option.some.inj (hc.symm.trans hc')
  exact ⟨fun _ => by simp [hlt], fun h => absurd h (by omega)⟩
 ·have hne : c ≠ c' := fun e' => by
   subst e'
   exact e ((List.getElem_inj (h₀ := (List.getElem?_eq_some_iff.1 hc').1) (h₁ := hk) hd).1 ((List.getElem?_eq_some_iff.1 hc').2.trans (List.getElem?_eq_some_iff.1 hc).2.symm))
  rw [getD_set_ne false hne]
  have := h.2 k' c' hc'
  exact ⟨fun hlt => this.1 (by omega), fun hle => this.2 (by omega)⟩
theorem goesUpon_mono {D D' : World → Prop} {v : Value} {r : Result Next} (h : ∀ w, D w → D' w) (hr : goesUpon P D v r) : goesUpon P D' v r := by
 cases r with
 | ok n w' =>
  cases n <;> simp only [goesUpon] at hr ⊢
  case value u => exact ⟨h _ hr.1, hr.2⟩
  case skip => exact ⟨h _ hr.1, hr.2⟩
  case enter f args => exact hr.mono fun e w'' ⟨he, hw⟩ => ⟨he, h _ hw⟩
 | halt x w' => simp only [goesUpon] at hr
theorem eachUpon_mono {E E' : Value → World → Prop} {r : Result Next} (h : ∀ x w, E x w → E' x w) (hr : eachUpon P E r) : eachUpon P E' r := by
 cases r with
 | ok n w' =>
  cases n <;> simp only [eachUpon] at hr ⊢
  case value u => exact h _ _ hr
  case skip => exact h _ _ hr
  case enter f args => exact hr.mono fun e w'' ⟨x, he, hw⟩ => ⟨x, he, h _ _ hw⟩
 | halt x w' => simp only [eachUpon] at hr
theorem chain_start {w : World} {L : Array Bool} (hL : ∀ i, L.getD i false = false) (h : St 0 (fun _ => undef) w) : DS ops cs St (fun _ => undef) L w :=
 ⟨fun c oc _ hl => (by rw [hL] at hl; cases hl), 0, ⟨Nat.zero_le _, fun k c _ => ⟨fun h => absurd h (by omega), fun _ => hL c⟩⟩, h⟩
theorem chain_st {Q : Act → (Nat → Value) → Prop} {k : Nat} {o : Oper} {rest : List Oper} {a : Act} {u : Nat → Value} (ho : ops[k]? = some o) (hs : stB vs k = true) (hk : k ∉ cs) (hg : o.guard = none)
  (h1 : ∀ j u w, St j u w → goesUpon P (St j u) (baseV vs k) ((execOp a.eval o).run P w)) (h2 : flowU P .any ops vs (DS ops cs St) Q (k + 1) rest (a.put o.dst (baseV vs k)) u) : flowU P .any ops vs (DS ops cs St) Q k (o :: rest) a u :=
 flowU_st hs hg (fun u _ w _ hbe ⟨hcl, j, hj, hS⟩ => goesUpon_mono (fun _ hw' => ⟨hcl.put ho hbe, j, hj.other hk, hw'⟩) (h1 j u w hS)) h2
theorem chain_stb (b : Nat) {Q : Act → (Nat → Value) → Prop} {k c : Nat} {o oc : Oper} {rest : List Oper} {a : Act} {u : Nat → Value} (ho : ops[k]? = some o) (hs : stB vs k = true) (hk : k ∉ cs) (hg : o.guard = none) (hc : cs[b]? = some c) (hoc : ops[c]? = some oc) (he : (oc.after.any fun e => Region.binds .any e && e.on == k) = true)
  (h1 : ∀ j u w, j ≤ b → St j u w → goesUpon P (St j u) (baseV vs k) ((execOp a.eval o).run P w)) (h2 : flowU P .any ops vs (DS ops cs St) Q (k + 1) rest (a.put o.dst (baseV vs k)) u) : flowU P .any ops vs (DS ops cs St) Q k (o :: rest) a u :=
 flowU_st hs hg (fun u L w hun hbe ⟨hcl, j, hj, hS⟩ => by
  refine goesUpon_mono (fun w' hw' => ⟨hcl.put ho hbe, j, hj.other hk, hw'⟩) (h1 j u w ?_ hS)
  rcases Nat.lt_or_ge b j with h | h
  ·exfalso
   have h3 := (hj.2 b c hc).1 h
   obtain ⟨e, he1, he2⟩ := Array.any_eq_true'.1 he
   simp only [Bool.and_eq_true, beq_iff_eq] at he2
   have h4 := hcl c oc hoc h3 e he1 he2.1
   rw [he2.2, getD_tf hun] at h4; cases h4
  ·exact h) h2
theorem chain_first {Q : Act → (Nat → Value) → Prop} {k : Nat} {o : Oper} {rest : List Oper} {a : Act} {u : Nat → Value} (ho : ops[k]? = some o) (hs : stB vs k = false) (hk : cs[0]? = some k) (hd : cs.Nodup) (hg : o.guard = none)
  (h1 : ∀ w, St 0 u w → eachUpon P (fun x w' => St 1 (upd u k x) w') ((execOp a.eval o).run P w)) (h2 : ∀ x, flowU P .any ops vs (DS ops cs St) Q (k + 1) rest (a.put o.dst x) (upd u k x)) : flowU P .any ops vs (DS ops cs St) Q k (o :: rest) a u :=
 flowU_ch hs hg (fun L w hun hbe ⟨hcl, j, hj, hS⟩ => by
  have h0 := (hj.2 0 k hk).1
  obtain rfl : j = 0 := by
   rcases Nat.eq_zero_or_pos j with h | h
   ·exact h
   ·have := h0 h; rw [getD_tf hun] at this; cases this
  have hlt : k < L.size := by
   rcases Nat.lt_or_ge k L.size with h' | h'
   ·exact h'
   ·simp [Array.getElem?_eq_none h'] at hun
  exact eachUpon_mono (fun x w' hw' => ⟨hcl.put ho hbe, 1, hj.next hk hd hlt, hw'⟩) (h1 w hS)) h2
theorem chain_next (n : Nat) {Q : Act → (Nat → Value) → Prop} {k p : Nat} {o : Oper} {rest : List Oper} {a : Act} {u : Nat → Value} (ho : ops[k]? = some o) (hs : stB vs k = false) (hk : cs[n + 1]? = some k) (hp : cs[n]? = some p) (hd : cs.Nodup) (hg : o.guard = none) (he : (o.after.any fun e => Region.binds .any e && e.on == p) = true)
  (h1 : ∀ w, St (n + 1) u w → eachUpon P (fun x w' => St (n + 2) (upd u k x) w') ((execOp a.eval o).run P w)) (h2 : ∀ x, flowU P .any ops vs (DS ops cs St) Q (k + 1) rest (a.put o.dst x) (upd u k x)) : flowU P .any ops vs (DS ops cs St) Q k (o :: rest) a u :=
 flowU_ch hs hg (fun L w hun hbe ⟨hcl, j, hj, hS⟩ => by
  obtain ⟨e, he1, he2⟩ := Array.any_eq_true'.1 he
  simp only [Bool.and_eq_true, beq_iff_eq] at he2
  have hb := hbe e he1 he2.1
  rw [he2.2] at hb
  obtain rfl : j = n + 1 := by
   rcases Nat.lt_trichotomy j (n + 1) with h | h | h
   ·have := (hj.2 n p hp).2 (by omega); rw [this] at hb; cases hb
   ·exact h
   ·have := (hj.2 (n + 1) k hk).1 h; rw [getD_tf hun] at this; cases this
  have hlt : k < L.size := by
   rcases Nat.lt_or_ge k L.size with h' | h'
   ·exact h'
   ·simp [Array.getElem?_eq_none h'] at hun
  exact eachUpon_mono (fun x w' hw' => ⟨hcl.put ho hbe, n + 2, hj.next hk hd hlt, hw'⟩) (h1 w hS)) h2
theorem chain_end {u : Nat → Value} {L : Array Bool} {w : World} {n : Nat} (hl : ∀ i, i < n → L.getD i false = true) (hc : cs.all (fun c => decide (c < n)) = true) (h : DS ops cs St u L w) : St cs.length u w := by
 obtain ⟨_, j, hj, hS⟩ := h
 obtain rfl : j = cs.length := by
  rcases Nat.lt_or_ge j cs.length with h' | h'
  ·have h1 := (hj.2 j cs[j] (List.getElem?_eq_getElem h')).2 (Nat.le_refl _)
   have h2 := List.all_eq_true.1 hc cs[j] (List.getElem_mem h')
   rw [hl _ (by simpa using h2)] at h1; cases h1
  ·exact Nat.le_antisymm hj.1 h'
 exact hS
theorem wp_region_stages {id : Nat} {Q : Exit → Act → World → Prop} {a : Act} {w : World} {l : List Oper} (vs : List (Option Value)) (cs : List Nat) (St : Nat → (Nat → Value) → World → Prop) (hm : P.follows .mixedOrders = true) (hB : Region.lexB .any l.toArray = true) (hch : chainB l vs = true) (hcs : cs.all (fun c => decide (c < l.length)) = true)
  (h0 : St 0 (fun _ => undef) w.drew) (h : flowU P .any l.toArray vs (DS l.toArray cs St) (fun a' u => ∀ w', St cs.length u w' → Q .normal a' w') 0 l a (fun _ => undef)) : (Code.region id l.toArray true).wp P Q a w :=
 wp_region_chain vs (DS l.toArray cs St) hm hB hch (fun _ hL => chain_start hL h0) (flowU_imp l 0 a _ (fun _ _ hq _ w' hL hD => hq w' (chain_end hL hcs hD)) h)
theorem each_app1 {w : World} {o : Oper} {a : Act} {E : Value → World → Prop} (s x : Operand) (t : TypeId) (ho : o.op = .call { callee := .builtin .append, args := #[s, x], argTypes := #[t, t] })
  (base : Nat) (e : TypeId) (size bytes : Nat) (hE : Elem P t e size bytes) (v : Value) (n : Nat) (xs : List Value) (hs : a.eval s = v) (wr : World) (ce : Array Value) (hw : w = wr.alloc (.cells ce e)) (hx : a.eval x = .slice (some ⟨wr.heap.size, 0, none⟩) 1 1)
  (hown : wr.ownsRow base e size v n xs) (hcs : ce.size = size) (h1 : ∀ u ∈ ce.toList, u.oneCell' = true) (hbytes : (n + 1) * bytes ≤ 140737488355328) (h63 : n + 1 ≤ maxLen) (hbase : base ≤ wr.heap.size)
  (h : ∀ v' w', (∀ b xs', wr.ownsRow b e size v n xs' → b ≤ wr.heap.size → w'.ownsRow b e size v' (n + 1) (xs' ++ ce.toList)) → wr.grownBy w' v.ownBlock → NewRow v v' wr.heap.size → wr.heap.size < w'.heap.size → E v' w') : eachUpon P E ((execOp a.eval o).run P w) := by
 obtain ⟨ht, i, z, hi, hz, hsz, hby, hzs, hpos⟩ := hE
 subst hw
 have hnews : ∀ j u, ce.toList[j]? = some u → (wr.alloc (.cells ce e)).cell? ((⟨wr.heap.size, 0, none⟩ : Addr).add j) = some u := by
  intro j u hu
  have hb := heap_alloc_new wr (.cells ce e)
  have : ((⟨wr.heap.size, 0, none⟩ : Addr).add j) = ⟨wr.heap.size, j, none⟩ := by unfold Addr.add; split <;> simp_all
  rw [this, cell_of_row _ _ j ce e (0, 0) hb]
  simpa using hu
 have key := fun (b : Nat) (xs' : List Value) (hown : wr.ownsRow b e size v n xs') (hb : b ≤ wr.heap.size) => run_append_own_at (P := P) (wr.alloc (.cells ce e)) b t o.type e i z size bytes ht hi hz hsz hby hzs hpos v n xs' (hown.alloc _) ⟨wr.heap.size, 0, none⟩ 1 1 ce.toList (by rw [Array.length_toList, hcs, Nat.one_mul]) hnews h1 h63 hbytes (Nat.le_trans hb (by simp))
 obtain ⟨v', w', hrun, h2, h3, _, h5⟩ := key base xs hown hbase
 unfold execOp
 simp only [ho, resolve, invoke, builtin, Sem.run_bind, Sem.run_pure, Result.andThen_ok, List.map_toArray, List.map_cons, List.map_nil, hs, hx, hrun]
 refine h v' w' (fun b xs' hb hbb => ?_) ⟨h3.os, h3.tape, h3.output, Nat.le_trans (by simp) h3.size, fun k hk hne => (h3.block k (by simp; omega) hne).trans (Below.heap_alloc wr _ k hk)⟩ ?_ ?_
 ·obtain ⟨v2, w2, hrun2, g2, _⟩ := key b xs' hb hbb
  rw [hrun] at hrun2
  injection hrun2 with e1 e2
  subst e1 e2
  exact g2
 ·rcases h5 with h5 | h5
  ·exact .inl h5
  ·exact .inr ⟨_, h5, by simp⟩
 ·have := h3.size
  simp at this; omega
end
def OwnRow {α : Type} (S : Nat → Prop) (w : World) (e : TypeId) (size : Nat) (R : (Nat → Prop) → α → List Value → Prop) (v : Value) (xs : List α) : Prop :=
 xs.length ≤ maxLen ∧ ∃ (vals : List Value) (Ss : Nat → Nat → Prop), w.ownsRow 0 e size v xs.length vals ∧ (∀ g, v.ownBlock = some g → S g) ∧
  (∀ i x, xs[i]? = some x → R (Ss i) x ((vals.drop (i * size)).take size) ∧ ∀ b, Ss i b → S b ∧ v.ownBlock ≠ some b) ∧
  ∀ i j b, i < xs.length → j < xs.length → i ≠ j → Ss i b → ¬ Ss j b
theorem own_same {w w' : World} {base : Nat} {e : TypeId} {size : Nat} {v : Value} {n : Nat} {xs : List Value} (h : w.ownsRow base e size v n xs) (hs : ∀ g, v.ownBlock = some g → g < w.heap.size → w'.heap[g]? = w.heap[g]?) : w'.ownsRow base e size v n xs := by
 refine ⟨h.1, ?_⟩
 rcases h.2 with h2 | ⟨g, cap, cur, rfl, hb, hh, h3⟩
 ·exact .inl h2
 ·have hlt : g < w.heap.size := by
   rcases Nat.lt_or_ge g w.heap.size with h' | h'
   ·exact h'
   ·rw [Array.getElem?_eq_none h'] at hh; cases hh
  exact .inr ⟨g, cap, cur, rfl, hb, (hs g rfl hlt).trans hh, h3⟩
theorem OwnRow.mono {α : Type} {S S' : Nat → Prop} {w w' : World} {e : TypeId} {size : Nat} {R R' : (Nat → Prop) → α → List Value → Prop} {v : Value} {xs : List α} (h : OwnRow S w e size R v xs) (hs : SameOn S w w') (hS : ∀ b, S b → S' b)
  (hR : ∀ T x cs, x ∈ xs → (∀ b, T b → S b) → R T x cs → R' T x cs) : OwnRow S' w' e size R' v xs := by
 obtain ⟨hm, vals, Ss, h1, h2, h3, h4⟩ := h
 refine ⟨hm, vals, Ss, own_same h1 (fun g hg hlt => hs g (h2 g hg) hlt), fun g hg => hS g (h2 g hg), fun i x hx => ⟨hR _ _ _ (List.mem_of_getElem? hx) (fun b hb => ((h3 i x hx).2 b hb).1) (h3 i x hx).1, fun b hb => ⟨hS b ((h3 i x hx).2 b hb).1, ((h3 i x hx).2 b hb).2⟩⟩, h4⟩
theorem OwnRow.listAt {α : Type} {S : Nat → Prop} {w : World} {e : TypeId} {size : Nat} (hz : 0 < size) {R : (Nat → Prop) → α → List Value → Prop} {R' : α → List Value → Prop} {v : Value} {xs : List α} (h : OwnRow S w e size R v xs)
  (hR : ∀ T x cs, x ∈ xs → (∀ b, T b → S b) → R T x cs → R' x cs) : ListAt S w size R' v xs := by
 obtain ⟨hm, vals, Ss, h1, h2, h3, _⟩ := h
 rcases h1.2 with ⟨rfl, h0⟩ | ⟨g, cap, cur, rfl, _⟩
 ·obtain rfl : xs = [] := List.eq_nil_of_length_eq_zero h0
  exact ListAt.nil _ _ _ _ _ _
 ·refine ⟨_, _, rfl, hm, fun i x hx => ⟨g, 0, rfl, h2 g rfl, (vals.drop (i * size)).take size, ?_, fun j hj => ?_, hR _ _ _ (List.mem_of_getElem? hx) (fun b hb => ((h3 i x hx).2 b hb).1) (h3 i x hx).1⟩⟩
  ·have hi : i < xs.length := (List.getElem?_eq_some_iff.1 hx).1
   have h5 : (i + 1) * size ≤ xs.length * size := Nat.mul_le_mul_right _ hi
   rw [Nat.succ_mul] at h5
   rw [List.length_take, List.length_drop, h1.1]; omega
  ·have hi : i < xs.length := (List.getElem?_eq_some_iff.1 hx).1
   have h5 : (i + 1) * size ≤ xs.length * size := Nat.mul_le_mul_right _ hi
   rw [Nat.succ_mul] at h5
   rw [Nat.zero_add, h1.cellAt (i * size + j) (by omega), List.getElem?_take, if_pos hj, List.getElem?_drop]
theorem OwnRow.form {α : Type} {S : Nat → Prop} {w : World} {e : TypeId} {size : Nat} {R : (Nat → Prop) → α → List Value → Prop} {v : Value} {xs : List α} (h : OwnRow S w e size R v xs) : ∃ p c, v = .slice p xs.length c ∧ xs.length ≤ maxLen := by
 obtain ⟨hm, vals, Ss, h1, _⟩ := h
 rcases h1.2 with ⟨rfl, h0⟩ | ⟨g, cap, cur, rfl, _⟩
 ·exact ⟨none, 0, by rw [h0], hm⟩
 ·exact ⟨_, _, rfl, hm⟩
theorem OwnRow.nil {α : Type} (S : Nat → Prop) (w : World) (e : TypeId) (size : Nat) (R : (Nat → Prop) → α → List Value → Prop) : OwnRow S w e size R (.slice none 0 0) [] :=
 ⟨Nat.zero_le _, [], fun _ _ => False, ⟨by simp, .inl ⟨rfl, rfl⟩⟩, fun g hg => by simp [Value.ownBlock] at hg, fun i x hx => by simp at hx, fun i j b hi => by simp at hi⟩
theorem OwnRow.snoc {α : Type} {S Sx S' : Nat → Prop} {w w' : World} {e : TypeId} {size : Nat} {R R' : (Nat → Prop) → α → List Value → Prop} {v v' : Value} {xs : List α} {x : α} {cs : List Value} (h : OwnRow S w e size R v xs) (hx : R Sx x cs) (hl : cs.length = size)
  (hown : ∀ vals : List Value, w.ownsRow 0 e size v xs.length vals → w'.ownsRow 0 e size v' (xs.length + 1) (vals ++ cs)) (_ : w.grownBy w' v.ownBlock) (hn : NewRow v v' w.heap.size) (hm : xs.length + 1 ≤ maxLen)
  (hSx : ∀ b, Sx b → ¬ S b) (hSlt : ∀ b, S b → b < w.heap.size) (hSxlt : ∀ b, Sx b → b < w.heap.size) (h1 : ∀ b, S b → S' b) (h2 : ∀ b, Sx b → S' b) (h3 : ∀ g, v'.ownBlock = some g → S' g)
  (hR : ∀ T y c, (∀ b, T b → b < w.heap.size ∧ v.ownBlock ≠ some b) → R T y c → R' T y c) : OwnRow S' w' e size R' v' (xs ++ [x]) := by
 obtain ⟨_, vals, Ss, g1, g2, g3, g4⟩ := h
 have hvl : vals.length = xs.length * size := g1.1
 have hxne : ∀ b, Sx b → v.ownBlock ≠ some b := fun b hb e => hSx b hb (g2 b e)
 have hne : ∀ b, b < w.heap.size → v.ownBlock ≠ some b → v'.ownBlock ≠ some b := fun b hlt hv e => by
  rcases hn with hn | ⟨g, hn, hge⟩
  ·rw [hn] at e; exact hv e
  ·rw [hn] at e; injection e with e; omega
 refine ⟨by simpa using hm, vals ++ cs, fun i => if i = xs.length then Sx else Ss i, by simpa using hown vals g1, h3, fun i y hy => ?_, fun i j b hi hj hij hb => ?_⟩
 ·have hi : i < xs.length + 1 := by have := (List.getElem?_eq_some_iff.1 hy).1; simpa using this
  by_cases e : i = xs.length
  ·subst e
   rw [List.getElem?_append_right (Nat.le_refl _), Nat.sub_self] at hy
   obtain rfl : x = y := by simpa using hy
   show R' (if xs.length = xs.length then Sx else _) _ _ ∧ ∀ b, (if xs.length = xs.length then Sx else _) b → _
   rw [if_pos rfl, ← hvl, List.drop_left, List.take_of_length_le (by omega)]
   exact ⟨hR _ _ _ (fun b hb => ⟨hSxlt b hb, hxne b hb⟩) hx, fun b hb => ⟨h2 b hb, hne b (hSxlt b hb) (hxne b hb)⟩⟩
  ·have hlt : i < xs.length := by omega
   rw [List.getElem?_append_left hlt] at hy
   have h5 : (i + 1) * size ≤ xs.length * size := Nat.mul_le_mul_right _ hlt
   rw [Nat.succ_mul] at h5
   obtain ⟨k1, k2⟩ := g3 i y hy
   show R' (if i = xs.length then Sx else Ss i) _ _ ∧ ∀ b, (if i = xs.length then Sx else Ss i) b → _
   rw [if_neg e, List.drop_append_of_le_length (by omega), List.take_append_of_le_length (by rw [List.length_drop]; omega)]
   exact ⟨hR _ _ _ (fun b hb => ⟨hSlt b (k2 b hb).1, (k2 b hb).2⟩) k1, fun b hb => ⟨h1 b (k2 b hb).1, hne b (hSlt b (k2 b hb).1) (k2 b hb).2⟩⟩
 ·simp only [List.length_append, List.length_cons, List.length_nil] at hi hj
  change (if i = xs.length then Sx else Ss i) b at hb
  show ¬ (if j = xs.length then Sx else Ss j) b
  by_cases ei : i = xs.length
  ·rw [if_pos ei] at hb
   have hj' : j < xs.length := by omega
   rw [if_neg (by omega)]
   exact fun hjb => hSx b hb ((g3 j _ (List.getElem?_eq_getElem hj')).2 b hjb).1
  ·rw [if_neg ei] at hb
   have hi' : i < xs.length := by omega
   by_cases ej : j = xs.length
   ·rw [if_pos ej]
    exact fun hjb => hSx b hjb ((g3 i _ (List.getElem?_eq_getElem hi')).2 b hb).1
   ·rw [if_neg ej]
    exact g4 i j b hi' (by omega) hij hb
def TmOwn (e : TypeId) : Nat → (Nat → Prop) → World → Tm → List Value → Prop
 | 0, _, _, _, _ => False
 | n + 1, S, w, .mk s us, cs => ∃ va, cs = [.string s, va] ∧ s.size ≤ maxLen ∧ OwnRow S w e 2 (fun T t c => TmOwn e n T w t c) va us
theorem TmOwn.mono {e : TypeId} : ∀ (n m : Nat) {S S' : Nat → Prop} {w w' : World} (t : Tm) (cs : List Value), n ≤ m → SameOn S w w' → (∀ b, S b → S' b) → TmOwn e n S w t cs → TmOwn e m S' w' t cs
 | 0, _, _, _, _, _, _, _, _, _, _, h => h.elim
 | n + 1, 0, _, _, _, _, _, _, hm, _, _, _ => by omega
 | n + 1, m + 1, S, S', w, w', .mk s us, cs, hm, hs, hS, h => by
  obtain ⟨va, h1, h2, h3⟩ := h
  exact ⟨va, h1, h2, h3.mono hs hS fun T x c _ hT hx => TmOwn.mono n m x c (by omega) (fun b hb hlt => hs b (hT b hb) hlt) (fun _ h => h) hx⟩
theorem TmOwn.at_ {e : TypeId} : ∀ (n : Nat) {S : Nat → Prop} {w : World} (t : Tm) (cs : List Value), TmOwn e n S w t cs → TmAt S n w t cs
 | 0, _, _, _, _, h => h.elim
 | n + 1, S, w, .mk s us, cs, h => by
  obtain ⟨va, h1, h2, h3⟩ := h
  exact ⟨va, h1, h2, h3.listAt (by omega) fun T x c _ hT hx => TmAt.mono (SameOn.refl _ _) hT n n x c (Nat.le_refl _) (TmOwn.at_ n x c hx)⟩
theorem TmOwn.below {e : TypeId} {n : Nat} {S : Nat → Prop} {w w' : World} {t : Tm} {cs : List Value} (hb : Below w.heap.size w w') (h : TmOwn e n S w t cs) : TmOwn e n S w' t cs := TmOwn.mono n n t cs (Nat.le_refl _) (SameOn.below hb) (fun _ h => h) h
theorem TmOwn.form {e : TypeId} {n : Nat} {S : Nat → Prop} {w : World} {t : Tm} {v0 v1 : Value} (h : TmOwn e n S w t [v0, v1]) : ∃ p c, v0 = .string t.n ∧ v1 = .slice p t.us.length c ∧ t.n.size ≤ maxLen ∧ t.us.length ≤ maxLen := (TmOwn.at_ n t _ h).form
end Go.Proofs.YtabkdonplmlbcaaGreatDoor
