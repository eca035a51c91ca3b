/- The reference parses a term. Conditions: it stands inside its text. -/
import Derived.Test.YtkgfanajgdelcaaGreatDoorUnPart1
import Derived.Test.YtkgfanajgdelcaaGreatDoorUnPart2
import Derived.Test.YtkgfanajgdelcaaGreatDoorUnPart3
namespace Go.Proofs.YtkgfanajgdelcaaGreatDoor
open Go.RowKit
section
variable {P : Program} {ops : Array Oper} {md : Region.Mode} {vs : List (Option Value)} {D : (Nat → Value) → Array Bool → World → Prop}
def upd (u : Nat → Value) (k : Nat) (x : Value) : Nat → Value := fun i => if i = k then x else u i
theorem upd_same (u : Nat → Value) (k : Nat) (x : Value) : upd u k x k = x := if_pos rfl
theorem upd_other (u : Nat → Value) {k i : Nat} (x : Value) (h : i ≠ k) : upd u k x i = u i := if_neg h
def stB (vs : List (Option Value)) (i : Nat) : Bool := (vs.getD i none).isSome
def baseV (vs : List (Option Value)) (i : Nat) : Value := (vs.getD i none).getD undef
theorem baseV0 (v : Value) (l : List (Option Value)) : baseV (some v :: l) 0 = v := rfl
theorem baseV1 (x : Option Value) (v : Value) (l : List (Option Value)) : baseV (x :: some v :: l) 1 = v := rfl
theorem baseV2 (x y : Option Value) (v : Value) (l : List (Option Value)) : baseV (x :: y :: some v :: l) 2 = v := rfl
theorem baseV3 (x y z : Option Value) (v : Value) (l : List (Option Value)) : baseV (x :: y :: z :: some v :: l) 3 = v := rfl
theorem baseV4 (x y z a : Option Value) (v : Value) (l : List (Option Value)) : baseV (x :: y :: z :: a :: some v :: l) 4 = v := rfl
theorem baseV5 (x y z a b : Option Value) (v : Value) (l : List (Option Value)) : baseV (x :: y :: z :: a :: b :: some v :: l) 5 = v := rfl
theorem baseV6 (x y z a b c : Option Value) (v : Value) (l : List (Option Value)) : baseV (x :: y :: z :: a :: b :: c :: some v :: l) 6 = v := rfl
theorem baseV7 (x y z a b c d : Option Value) (v : Value) (l : List (Option Value)) : baseV (x :: y :: z :: a :: b :: c :: d :: some v :: l) 7 = v := rfl
theorem baseV8 (x y z a b c d e : Option Value) (v : Value) (l : List (Option Value)) : baseV (x :: y :: z :: a :: b :: c :: d :: e :: some v :: l) 8 = v := rfl
attribute [go_sem] baseV0 baseV1 baseV2 baseV3 baseV4 baseV5 baseV6 baseV7 baseV8
def eachUpon (P : Program) (E : Value → World → Prop) : Result Next → Prop
  | .ok (.value x) w' => E x w'
  | .ok .skip w' => E undef w'
  | .ok (.enter f args) w' => Calls P f args w' (fun e w'' => ∃ x, e = .returned x ∧ E x w'')
  | _ => False
attribute [go_sem] eachUpon
def GS (P : Program) (md : Region.Mode) (ops : Array Oper) (vs : List (Option Value)) (D : (Nat → Value) → Array Bool → World → Prop) (o : Oper) (i : Nat) (a : Act) : Prop := ∀ u, Goes P md ops (D u) o i (baseV vs i) a
def GU (P : Program) (md : Region.Mode) (ops : Array Oper) (D : (Nat → Value) → Array Bool → World → Prop) (o : Oper) (i : Nat) (a : Act) (u : Nat → Value) : Prop :=
  Region.wanted o (yielded ops a.tmps) = true ∧ ∀ L w, L.getD i true = false → Behind md o L → D u L w → eachUpon P (fun x w' => D (upd u i x) (L.setIfInBounds i true) w') ((execOp a.eval o).run P w)
theorem GS.eval {o : Oper} {i : Nat} {a a' : Act} (h : GS P md ops vs D o i a) (he : execOp a'.eval o = execOp a.eval o) (hw : Region.wanted o (yielded ops a'.tmps) = Region.wanted o (yielded ops a.tmps)) : GS P md ops vs D o i a' :=
  fun u => Goes.byEval _ _ _ _ _ (h u) he hw
theorem GU.eval {o : Oper} {i : Nat} {a a' : Act} {u : Nat → Value} (h : GU P md ops D o i a u) (he : execOp a'.eval o = execOp a.eval o) (hw : Region.wanted o (yielded ops a'.tmps) = Region.wanted o (yielded ops a.tmps)) : GU P md ops D o i a' u := by
  unfold GU at *
  rw [he, hw]; exact h
def opU (P : Program) (md : Region.Mode) (ops : Array Oper) (vs : List (Option Value)) (D : (Nat → Value) → Array Bool → World → Prop) (i : Nat) (K : Act → (Nat → Value) → Prop) (a : Act) (u : Nat → Value) : Prop :=
  ∃ o, ops[i]? = some o ∧ ((stB vs i = true ∧ GS P md ops vs D o i a ∧ K (a.put o.dst (baseV vs i)) u) ∨ (stB vs i = false ∧ GU P md ops D o i a u ∧ ∀ x, K (a.put o.dst x) (upd u i x)))
def anyU (P : Program) (md : Region.Mode) (ops : Array Oper) (vs : List (Option Value)) (D : (Nat → Value) → Array Bool → World → Prop) (Q : Array Bool → Act → (Nat → Value) → Prop) : Nat → Array Bool → Act → (Nat → Value) → Prop
  | 0, L, a, u => Region.ready md ops L = [] ∧ Q L a u
  | fuel + 1, L, a, u => (Region.ready md ops L = [] → Q L a u) ∧ ∀ i ∈ Region.ready md ops L, opU P md ops vs D i (anyU P md ops vs D Q fuel (L.setIfInBounds i true)) a u
theorem wpAny_of_anyU {Q : Array Bool → Act → (Nat → Value) → Prop} {Q' : Exit → Act → World → Prop} (hQ : ∀ L a u w, D u L w → Q L a u → Q' .normal a w) : ∀ (fuel : Nat) (L : Array Bool) (a : Act) (u : Nat → Value) (w : World), D u L w →
    anyU P md ops vs D Q fuel L a u → wpAny P md ops Q' fuel L a w
  | 0, _, _, _, _, hw, h => ⟨h.1, hQ _ _ _ _ hw h.2⟩
  | fuel + 1, L, a, u, w, hw, h => by
    refine ⟨fun h0 => hQ _ _ _ _ hw (h.1 h0), fun i hi => ?_⟩
    obtain ⟨o, ho, ⟨hs, hg, hK⟩ | ⟨hs, hg, hK⟩⟩ := h.2 i hi
    · exact wpOp_of_flowOp (C := D u) (K := fun a' => anyU P md ops vs D Q fuel (L.setIfInBounds i true) a' u) hi hw (fun a' w' hw' hK => wpAny_of_anyU hQ fuel _ a' u w' hw' hK) ⟨o, _, ho, hg u, hK⟩
    · obtain ⟨hun, oj, hoj, hall⟩ := mem_ready.1 hi
      obtain rfl : oj = o := Option.some.inj (hoj.symm.trans ho)
      have hbe : Behind md oj L := fun e he hb => by simpa using hall e he hb
      have h3 := hg.2 L w hun hbe hw
      unfold wpOp
      simp only [ho]
      rw [if_pos hg.1]
      refine .inl ?_
      unfold Oper.wp
      generalize (execOp a.eval oj).run P w = r at *
      cases r with
      | ok n w' =>
        cases n <;> simp only [eachUpon] at h3 <;> simp only [Oper.upon]
        case value x => exact wpAny_of_anyU hQ fuel _ _ _ _ h3 (hK x)
        case skip => exact wpAny_of_anyU hQ fuel _ _ _ _ h3 (hK undef)
        case enter f args => exact h3.mono fun e w'' ⟨x, he, hw''⟩ => by subst he; exact wpAny_of_anyU hQ fuel _ _ _ _ hw'' (hK x)
      | halt x w' => simp only [eachUpon] at h3
def Closed (md : Region.Mode) (ops : Array Oper) (L : Array Bool) : Prop := ∀ c oc, ops[c]? = some oc → L.getD c false = true → Behind md oc L
theorem getD_tf {L : Array Bool} {i : Nat} (h : L.getD i true = false) : L.getD i false = false := by
  rcases Nat.lt_or_ge i L.size with h' | h'
  · simp [h'] at h ⊢; exact h
  · simp [Array.getElem?_eq_none h']
theorem set_mono {L : Array Bool} {i j : Nat} (h : L.getD i false = true) : (L.setIfInBounds j true).getD i false = true := by
  by_cases e : j = i
  · subst e
    have hlt : j < L.size := by
      rcases Nat.lt_or_ge j L.size with h' | h'
      · exact h'
      · simp [Array.getElem?_eq_none h'] at h
    simp [hlt]
  · rw [getD_set_ne false e]; exact h
theorem Closed.set {L : Array Bool} {j : Nat} (h : Closed md ops L) (hj : j ∈ Region.ready md ops L) : Closed md ops (L.setIfInBounds j true) := by
  intro c oc hc hl e he hb
  obtain ⟨_, oj, hoj, hall⟩ := mem_ready.1 hj
  by_cases e1 : j = c
  · subst e1
    obtain rfl : oj = oc := Option.some.inj (hoj.symm.trans hc)
    exact set_mono (by simpa using hall e he hb)
  · rw [getD_set_ne false e1] at hl
    exact set_mono (h c oc hc hl e he hb)
def chainB (l : List Oper) (vs : List (Option Value)) : Bool :=
  (List.range l.length).all fun j => stB vs j || (List.range j).all fun i => stB vs i || ((l[j]?.map fun o => o.after.any fun e => Region.binds .any e && decide (i ≤ e.on) && decide (e.on < j) && !stB vs e.on).getD false)
def Chained (md : Region.Mode) (ops : Array Oper) (vs : List (Option Value)) : Prop :=
  ∀ j oj i, ops[j]? = some oj → i < j → stB vs j = false → stB vs i = false → ∃ e ∈ oj.after, Region.binds md e = true ∧ i ≤ e.on ∧ e.on < j ∧ stB vs e.on = false
theorem Chained.of {l : List Oper} (h : chainB l vs = true) : Chained .any l.toArray vs := by
  intro j oj i hj hij hsj hsi
  have hjl : j < l.length := by
    have := (Array.getElem?_eq_some_iff.1 hj).1
    simpa using this
  have h1 := List.all_eq_true.1 h j (List.mem_range.2 hjl)
  rw [hsj, Bool.false_or] at h1
  have h2 := List.all_eq_true.1 h1 i (List.mem_range.2 hij)
  rw [hsi, Bool.false_or] at h2
  have hl : l[j]? = some oj := by simpa using hj
  rw [hl] at h2
  obtain ⟨e, he, hb⟩ := Array.any_eq_true'.1 (show (oj.after.any _) = true from h2)
  simp only [Bool.and_eq_true, decide_eq_true_eq, Bool.not_eq_true'] at hb
  exact ⟨e, he, hb.1.1.1, hb.1.1.2, hb.1.2, hb.2⟩
theorem chain_listed {L : Array Bool} (hc : Chained md ops vs) (hL : Closed md ops L) {i : Nat} (hi : stB vs i = false) (hsz : L.size = ops.size) : ∀ c, i ≤ c → stB vs c = false → L.getD c false = true → L.getD i false = true := by
  intro c
  induction c using Nat.strongRecOn with
  | _ c ih =>
    intro hic hs hl
    by_cases e : i = c
    · subst e; exact hl
    · have hlt : c < L.size := by
        rcases Nat.lt_or_ge c L.size with h' | h'
        · exact h'
        · simp [Array.getElem?_eq_none h'] at hl
      have hoc : ops[c]? = some (ops[c]'(by omega)) := Array.getElem?_eq_getElem (by omega)
      obtain ⟨e, he, hb, h1, h2, h3⟩ := hc c _ i hoc (by omega) hs hi
      exact ih e.on h2 h1 h3 (hL c _ hoc hl e he hb)
theorem no_other {L : Array Bool} (hc : Chained md ops vs) (hL : Closed md ops L) (hsz : L.size = ops.size) {i j : Nat} (hi : stB vs i = false) (hun : L.getD i true = false) (hall : ∀ k, k < i → L.getD k false = true) (hj : j ∈ Region.ready md ops L) (hne : j ≠ i) : stB vs j = true := by
  rcases hs : stB vs j with _ | _
  · exfalso
    obtain ⟨hju, oj, hoj, hb⟩ := mem_ready.1 hj
    have hij : i < j := by
      rcases Nat.lt_or_ge j i with h' | h'
      · have := hall j h'
        rw [getD_tf hju] at this; cases this
      · omega
    obtain ⟨e, he, hbe, h1, h2, h3⟩ := hc j oj i hoj hij hs hi
    have := chain_listed hc hL hi hsz e.on h1 h3 (by simpa using hb e he hbe)
    rw [getD_tf hun] at this; cases this
  · rfl
theorem anyU_firstS {Q : Array Bool → Act → (Nat → Value) → Prop} {i : Nat} {oi : Oper} (hi : ops[i]? = some oi) (hst : stB vs i = true) (hsel : ∀ (j : Nat) (o : Oper) cs b, ops[j]? = some o → o.op ≠ .select cs b) :
    ∀ (fuel : Nat) (L : Array Bool) (a : Act) (u : Nat → Value),
      (∀ j oj, ops[j]? = some oj → j ≠ i → L.getD j true = false → (∀ e ∈ oj.after, Region.binds md e = true → e.on ≠ i) → oi.apart ops oj = true) →
      i ∈ Region.ready md ops L → GS P md ops vs D oi i a →
      anyU P md ops vs D Q fuel (L.setIfInBounds i true) (a.put oi.dst (baseV vs i)) u → anyU P md ops vs D Q (fuel + 1) L a u := by
  intro fuel
  induction fuel with
  | zero =>
    intro L a u _ hr hy H
    refine ⟨fun h => (by rw [h] at hr; cases hr), fun j hj => ?_⟩
    by_cases hji : j = i
    · subst hji; exact ⟨oi, hi, .inl ⟨hst, hy, H⟩⟩
    · have := ready_mono hj hji
      rw [H.1] at this
      cases this
  | succ fuel ih =>
    intro L a u hfree hr hy H
    refine ⟨fun h => (by rw [h] at hr; cases hr), fun j hj => ?_⟩
    by_cases hji : j = i
    · subst hji; exact ⟨oi, hi, .inl ⟨hst, hy, H⟩⟩
    · obtain ⟨hjun, oj, hoj, hall⟩ := mem_ready.1 hj
      have hnot : ∀ e ∈ oj.after, Region.binds md e = true → e.on ≠ i := fun e he hb heq => by
        have h1 := hall e he hb
        have h0 := (mem_ready.1 hr).1
        rw [heq] at h1
        rw [getD_tf h0] at h1; cases h1
      obtain ⟨p1, p2, p3⟩ := Oper.apart_spec (hfree j oj hoj hji hjun hnot)
      have hfree' : ∀ k ok, ops[k]? = some ok → k ≠ i → (L.setIfInBounds j true).getD k true = false →
          (∀ e ∈ ok.after, Region.binds md e = true → e.on ≠ i) → oi.apart ops ok = true := fun k ok hk hki hun hno => by
        refine hfree k ok hk hki ?_ hno
        by_cases hjk : j = k
        · subst hjk; exact hjun
        · rw [getD_set_ne true hjk] at hun; exact hun
      obtain ⟨o, ho, hcase⟩ := H.2 j (ready_mono hj hji)
      obtain rfl : oj = o := Option.some.inj (hoj.symm.trans ho)
      have hej := execOp_put oj (fun cs b => hsel j oj cs b hoj) a oi.dst (baseV vs i) p1
      have hwj := wanted_put (ops := ops) oj a oi.dst (baseV vs i) p1
      rcases hcase with ⟨hs, hg, hK⟩ | ⟨hs, hg, hK⟩
      · refine ⟨oj, hoj, .inl ⟨hs, hg.eval hej.symm hwj.symm, ih (L.setIfInBounds j true) _ u hfree' (ready_mono hr (Ne.symm hji)) (hy.eval (execOp_put oi (fun cs b => hsel i oi cs b hi) a oj.dst _ p3) (wanted_put oi a oj.dst _ p3)) ?_⟩⟩
        rw [Array.setIfInBounds_comm _ _ hji, ← Act.put_comm a _ _ p2]; exact hK
      · refine ⟨oj, hoj, .inr ⟨hs, hg.eval hej.symm hwj.symm, fun x => ih (L.setIfInBounds j true) _ _ hfree' (ready_mono hr (Ne.symm hji)) (hy.eval (execOp_put oi (fun cs b => hsel i oi cs b hi) a oj.dst x p3) (wanted_put oi a oj.dst x p3)) ?_⟩⟩
        rw [Array.setIfInBounds_comm _ _ hji, ← Act.put_comm a _ _ p2]; exact hK x
theorem anyU_firstU {Q : Array Bool → Act → (Nat → Value) → Prop} {i : Nat} {oi : Oper} (hi : ops[i]? = some oi) (hst : stB vs i = false) (hc : Chained md ops vs) (hsel : ∀ (j : Nat) (o : Oper) cs b, ops[j]? = some o → o.op ≠ .select cs b) :
    ∀ (fuel : Nat) (L : Array Bool) (a : Act) (u : Nat → Value), Closed md ops L → L.size = ops.size → (∀ k, k < i → L.getD k false = true) →
      (∀ j oj, ops[j]? = some oj → j ≠ i → L.getD j true = false → (∀ e ∈ oj.after, Region.binds md e = true → e.on ≠ i) → oi.apart ops oj = true) →
      i ∈ Region.ready md ops L → GU P md ops D oi i a u →
      (∀ x, anyU P md ops vs D Q fuel (L.setIfInBounds i true) (a.put oi.dst x) (upd u i x)) → anyU P md ops vs D Q (fuel + 1) L a u := by
  intro fuel
  induction fuel with
  | zero =>
    intro L a u _ _ _ _ hr hy H
    refine ⟨fun h => (by rw [h] at hr; cases hr), fun j hj => ?_⟩
    by_cases hji : j = i
    · subst hji; exact ⟨oi, hi, .inr ⟨hst, hy, H⟩⟩
    · have := ready_mono hj hji
      rw [(H undef).1] at this
      cases this
  | succ fuel ih =>
    intro L a u hcl hsz hlow hfree hr hy H
    refine ⟨fun h => (by rw [h] at hr; cases hr), fun j hj => ?_⟩
    by_cases hji : j = i
    · subst hji; exact ⟨oi, hi, .inr ⟨hst, hy, H⟩⟩
    · obtain ⟨hjun, oj, hoj, hall⟩ := mem_ready.1 hj
      have hsj := no_other hc hcl hsz hst (mem_ready.1 hr).1 hlow hj hji
      have hnot : ∀ e ∈ oj.after, Region.binds md e = true → e.on ≠ i := fun e he hb heq => by
        have h1 := hall e he hb
        have h0 := (mem_ready.1 hr).1
        rw [heq] at h1
        rw [getD_tf h0] at h1; cases h1
      obtain ⟨p1, p2, p3⟩ := Oper.apart_spec (hfree j oj hoj hji hjun hnot)
      have hfree' : ∀ k ok, ops[k]? = some ok → k ≠ i → (L.setIfInBounds j true).getD k true = false →
          (∀ e ∈ ok.after, Region.binds md e = true → e.on ≠ i) → oi.apart ops ok = true := fun k ok hk hki hun hno => by
        refine hfree k ok hk hki ?_ hno
        by_cases hjk : j = k
        · subst hjk; exact hjun
        · rw [getD_set_ne true hjk] at hun; exact hun
      have hx : ∀ x, GS P md ops vs D oj j a ∧ anyU P md ops vs D Q fuel ((L.setIfInBounds i true).setIfInBounds j true) ((a.put oi.dst x).put oj.dst (baseV vs j)) (upd u i x) := fun x => by
        obtain ⟨o, ho, hcase⟩ := (H x).2 j (ready_mono hj hji)
        obtain rfl : oj = o := Option.some.inj (hoj.symm.trans ho)
        rcases hcase with ⟨hs, hg, hK⟩ | ⟨hs, hg, hK⟩
        · exact ⟨hg.eval (execOp_put oj (fun cs b => hsel j oj cs b hoj) a oi.dst x p1).symm (wanted_put (ops := ops) oj a oi.dst x p1).symm, hK⟩
        · rw [hs] at hsj; cases hsj
      refine ⟨oj, hoj, .inl ⟨hsj, (hx undef).1, ih (L.setIfInBounds j true) _ u (hcl.set hj) (by simpa using hsz) (fun k hk => set_mono (hlow k hk)) hfree' (ready_mono hr (Ne.symm hji)) (hy.eval (execOp_put oi (fun cs b => hsel i oi cs b hi) a oj.dst _ p3) (wanted_put oi a oj.dst _ p3)) fun x => ?_⟩⟩
      rw [Array.setIfInBounds_comm _ _ hji, ← Act.put_comm a _ _ p2]; exact (hx x).2
def flowU (P : Program) (md : Region.Mode) (ops : Array Oper) (vs : List (Option Value)) (D : (Nat → Value) → Array Bool → World → Prop) (Q : Act → (Nat → Value) → Prop) : Nat → List Oper → Act → (Nat → Value) → Prop
  | _, [], a, u => Q a u
  | k, o :: rest, a, u => (stB vs k = true ∧ GS P md ops vs D o k a ∧ flowU P md ops vs D Q (k + 1) rest (a.put o.dst (baseV vs k)) u) ∨ (stB vs k = false ∧ GU P md ops D o k a u ∧ ∀ x, flowU P md ops vs D Q (k + 1) rest (a.put o.dst x) (upd u k x))
theorem anyU_lex (hc : Chained md ops vs) {Q : Act → (Nat → Value) → Prop} (hs : Region.noSelect ops = true) : ∀ (l : List Oper) (k : Nat) (L : Array Bool) (a : Act) (u : Nat → Value), (∀ j, l[j]? = ops[k + j]?) → L.size = ops.size → k + l.length = ops.size → (∀ i, i < k → L.getD i false = true) → Closed md ops L →
    Region.lexFrom md ops l.length k L = true → flowU P md ops vs D Q k l a u → anyU P md ops vs D (fun L a u => (∀ i, i < ops.size → L.getD i false = true) ∧ Q a u) l.length L a u
  | [], k, _, _, _, _, _, hk, hall, _, hB, h => ⟨by simpa [Region.lexFrom] using hB, fun i hi => hall i (by simp at hk; omega), h⟩
  | o :: l, k, L, a, u, hl, hz, hk, hall, hcl, hB, h => by
    have h0 : ops[k]? = some o := by simpa using (hl 0).symm
    simp only [List.length_cons, Region.lexFrom, Bool.and_eq_true] at hB
    obtain ⟨⟨hr, hf⟩, hB'⟩ := hB
    have hlt : k < L.size := by simp only [List.length_cons] at hk; omega
    have hrk : k ∈ Region.ready md ops L := by simpa using hr
    have next : ∀ a u, flowU P md ops vs D Q (k + 1) l a u → anyU P md ops vs D (fun L a u => (∀ i, i < ops.size → L.getD i false = true) ∧ Q a u) l.length (L.setIfInBounds k true) a u := fun a u hK =>
      anyU_lex hc hs l (k + 1) _ _ u (fun j => by have := hl (j + 1); simpa [Nat.add_assoc, Nat.add_comm 1 j] using this) (by simpa using hz) (by simp only [List.length_cons] at hk; omega)
        (fun i hi => by
          by_cases hik : i = k
          · subst hik; simp [hlt]
          · rw [getD_set_ne false (Ne.symm hik)]; exact hall i (by omega)) (hcl.set hrk) hB' hK
    rcases h with ⟨hst, hy, hK⟩ | ⟨hst, hy, hK⟩
    · exact anyU_firstS h0 hst (Region.noSelect_spec hs) l.length L a u (Region.free_spec h0 hf) hrk hy (next _ _ hK)
    · exact anyU_firstU h0 hst hc (Region.noSelect_spec hs) l.length L a u hcl hz hall (Region.free_spec h0 hf) hrk hy (fun x => next _ _ (hK x))
theorem wp_region_chain {id : Nat} {Q : Exit → Act → World → Prop} {a : Act} {w : World} {l : List Oper} (vs : List (Option Value)) (D : (Nat → Value) → Array Bool → World → Prop) (hm : P.follows .mixedOrders = true) (hB : Region.lexB .any l.toArray = true) (hch : chainB l vs = true)
    (hC : ∀ L : Array Bool, (∀ i, L.getD i false = false) → D (fun _ => undef) L { w with drawn := w.drawn + 1 })
    (h : flowU P .any l.toArray vs D (fun a' u => ∀ L w', (∀ i, i < l.length → L.getD i false = true) → D u L w' → Q .normal a' w') 0 l a (fun _ => undef)) : (Code.region id l.toArray true).wp P Q a w := by
  simp only [Region.lexB, Bool.and_eq_true] at hB
  refine wp_region_any hm (wpAny_of_anyU (vs := vs) (D := D) (Q := fun L a u => (∀ i, i < l.toArray.size → L.getD i false = true) ∧ ∀ L w', (∀ i, i < l.length → L.getD i false = true) → D u L w' → Q .normal a w')
    (fun L a u w' hw' h => h.2 L w' (by simpa using h.1) hw') _ _ _ (fun _ => undef) _ (hC _ (fun i => getD_replicate_none _ _)) ?_)
  have := anyU_lex (Chained.of hch) hB.1 l 0 (Array.replicate l.length false) a (fun _ => undef) (by simp) (by simp) (by simp) (fun i hi => absurd hi (by omega)) (fun c oc _ hl => by rw [getD_replicate_none] at hl; cases hl) (by simpa using hB.2) h
  simpa using this
theorem flowU_st {Q : Act → (Nat → Value) → Prop} {k : Nat} {o : Oper} {rest : List Oper} {a : Act} {u : Nat → Value} (hs : stB vs k = true) (hg : o.guard = none)
    (h1 : ∀ u L w, L.getD k true = false → Behind md o L → D u L w → goesUpon P (D u (L.setIfInBounds k true)) (baseV vs k) ((execOp a.eval o).run P w)) (h2 : flowU P md ops vs D Q (k + 1) rest (a.put o.dst (baseV vs k)) u) : flowU P md ops vs D Q k (o :: rest) a u :=
  .inl ⟨hs, fun u => .inl ⟨by simp [Region.wanted, hg], h1 u⟩, h2⟩
theorem flowU_ch {Q : Act → (Nat → Value) → Prop} {k : Nat} {o : Oper} {rest : List Oper} {a : Act} {u : Nat → Value} (hs : stB vs k = false) (hg : o.guard = none)
    (h1 : ∀ L w, L.getD k true = false → Behind md o L → D u L w → eachUpon P (fun x w' => D (upd u k x) (L.setIfInBounds k true) w') ((execOp a.eval o).run P w)) (h2 : ∀ x, flowU P md ops vs D Q (k + 1) rest (a.put o.dst x) (upd u k x)) : flowU P md ops vs D Q k (o :: rest) a u :=
  .inr ⟨hs, ⟨by simp [Region.wanted, hg], h1⟩, h2⟩
theorem flowU_imp {Q Q' : Act → (Nat → Value) → Prop} : ∀ (l : List Oper) (k : Nat) (a : Act) (u : Nat → Value), (∀ a u, Q a u → Q' a u) → flowU P md ops vs D Q k l a u → flowU P md ops vs D Q' k l a u
  | [], _, _, _, hq, h => hq _ _ h
  | o :: rest, k, a, u, hq, h => by
    rcases h with ⟨h1, h2, h3⟩ | ⟨h1, h2, h3⟩
    · exact .inl ⟨h1, h2, flowU_imp rest (k + 1) _ _ hq h3⟩
    · exact .inr ⟨h1, h2, fun x => flowU_imp rest (k + 1) _ _ hq (h3 x)⟩
theorem flowU_nil {Q : Act → (Nat → Value) → Prop} {k : Nat} {a : Act} {u : Nat → Value} (h : Q a u) : flowU P md ops vs D Q k [] a u := h
end
open Go.RowKit
section
variable {P : Program} {ops : Array Oper} {vs : List (Option Value)} {cs : List Nat} {St : Nat → (Nat → Value) → World → Prop}
def StageIs (cs : List Nat) (L : Array Bool) (j : Nat) : Prop := j ≤ cs.length ∧ ∀ k c, cs[k]? = some c → (k < j → L.getD c false = true) ∧ (j ≤ k → L.getD c false = false)
def DS (ops : Array Oper) (cs : List Nat) (St : Nat → (Nat → Value) → World → Prop) (u : Nat → Value) (L : Array Bool) (w : World) : Prop := Closed .any ops L ∧ ∃ j, StageIs cs L j ∧ St j u w
theorem Closed.put {L : Array Bool} {k : Nat} {o : Oper} (h : Closed .any ops L) (ho : ops[k]? = some o) (hb : Behind .any o L) : Closed .any ops (L.setIfInBounds k true) := by
  intro c oc hc hl e he hbi
  by_cases e1 : k = c
  · subst e1
    obtain rfl : o = oc := Option.some.inj (ho.symm.trans hc)
    exact set_mono (hb e he hbi)
  · rw [getD_set_ne false e1] at hl
    exact set_mono (h c oc hc hl e he hbi)
theorem StageIs.other {L : Array Bool} {j i : Nat} (h : StageIs cs L j) (hi : i ∉ cs) : StageIs cs (L.setIfInBounds i true) j :=
  ⟨h.1, fun k c hc => by
    have hne : i ≠ c := fun e => hi (e ▸ List.mem_of_getElem? hc)
    rw [getD_set_ne false hne]; exact h.2 k c hc⟩
theorem StageIs.next {L : Array Bool} {k c : Nat} (h : StageIs cs L k) (hc : cs[k]? = some c) (hd : cs.Nodup) (hlt : c < L.size) : StageIs cs (L.setIfInBounds c true) (k + 1) := by
  have hk : k < cs.length := (List.getElem?_eq_some_iff.1 hc).1
  refine ⟨hk, fun k' c' hc' => ?_⟩
  by_cases e : k' = k
  · subst e
    obtain rfl : c = c' := Option.some.inj (hc.symm.trans hc')
    exact ⟨fun _ => by simp [hlt], fun h => absurd h (by omega)⟩
  · have hne : c ≠ c' := fun e' => by
      subst e'
      exact e ((List.getElem_inj (h₀ := (List.getElem?_eq_some_iff.1 hc').1) (h₁ := hk) hd).1 ((List.getElem?_eq_some_iff.1 hc').2.trans (List.getElem?_eq_some_iff.1 hc).2.symm))
    rw [getD_set_ne false hne]
    have := h.2 k' c' hc'
    exact ⟨fun hlt => this.1 (by omega), fun hle => this.2 (by omega)⟩
theorem goesUpon_mono {D D' : World → Prop} {v : Value} {r : Result Next} (h : ∀ w, D w → D' w) (hr : goesUpon P D v r) : goesUpon P D' v r := by
  cases r with
  | ok n w' =>
    cases n <;> simp only [goesUpon] at hr ⊢
    case value u => exact ⟨h _ hr.1, hr.2⟩
    case skip => exact ⟨h _ hr.1, hr.2⟩
    case enter f args => exact hr.mono fun e w'' ⟨he, hw⟩ => ⟨he, h _ hw⟩
  | halt x w' => simp only [goesUpon] at hr
theorem eachUpon_mono {E E' : Value → World → Prop} {r : Result Next} (h : ∀ x w, E x w → E' x w) (hr : eachUpon P E r) : eachUpon P E' r := by
  cases r with
  | ok n w' =>
    cases n <;> simp only [eachUpon] at hr ⊢
    case value u => exact h _ _ hr
    case skip => exact h _ _ hr
    case enter f args => exact hr.mono fun e w'' ⟨x, he, hw⟩ => ⟨x, he, h _ _ hw⟩
  | halt x w' => simp only [eachUpon] at hr
theorem chain_start {w : World} {L : Array Bool} (hL : ∀ i, L.getD i false = false) (h : St 0 (fun _ => undef) w) : DS ops cs St (fun _ => undef) L w :=
  ⟨fun c oc _ hl => (by rw [hL] at hl; cases hl), 0, ⟨Nat.zero_le _, fun k c _ => ⟨fun h => absurd h (by omega), fun _ => hL c⟩⟩, h⟩
theorem chain_st {Q : Act → (Nat → Value) → Prop} {k : Nat} {o : Oper} {rest : List Oper} {a : Act} {u : Nat → Value} (ho : ops[k]? = some o) (hs : stB vs k = true) (hk : k ∉ cs) (hg : o.guard = none)
    (h1 : ∀ j u w, St j u w → goesUpon P (St j u) (baseV vs k) ((execOp a.eval o).run P w)) (h2 : flowU P .any ops vs (DS ops cs St) Q (k + 1) rest (a.put o.dst (baseV vs k)) u) : flowU P .any ops vs (DS ops cs St) Q k (o :: rest) a u :=
  flowU_st hs hg (fun u _ w _ hbe ⟨hcl, j, hj, hS⟩ => goesUpon_mono (fun _ hw' => ⟨hcl.put ho hbe, j, hj.other hk, hw'⟩) (h1 j u w hS)) h2
theorem chain_stb (b : Nat) {Q : Act → (Nat → Value) → Prop} {k c : Nat} {o oc : Oper} {rest : List Oper} {a : Act} {u : Nat → Value} (ho : ops[k]? = some o) (hs : stB vs k = true) (hk : k ∉ cs) (hg : o.guard = none) (hc : cs[b]? = some c) (hoc : ops[c]? = some oc) (he : (oc.after.any fun e => Region.binds .any e && e.on == k) = true)
    (h1 : ∀ j u w, j ≤ b → St j u w → goesUpon P (St j u) (baseV vs k) ((execOp a.eval o).run P w)) (h2 : flowU P .any ops vs (DS ops cs St) Q (k + 1) rest (a.put o.dst (baseV vs k)) u) : flowU P .any ops vs (DS ops cs St) Q k (o :: rest) a u :=
  flowU_st hs hg (fun u L w hun hbe ⟨hcl, j, hj, hS⟩ => by
    refine goesUpon_mono (fun w' hw' => ⟨hcl.put ho hbe, j, hj.other hk, hw'⟩) (h1 j u w ?_ hS)
    rcases Nat.lt_or_ge b j with h | h
    · exfalso
      have h3 := (hj.2 b c hc).1 h
      obtain ⟨e, he1, he2⟩ := Array.any_eq_true'.1 he
      simp only [Bool.and_eq_true, beq_iff_eq] at he2
      have h4 := hcl c oc hoc h3 e he1 he2.1
      rw [he2.2, getD_tf hun] at h4; cases h4
    · exact h) h2
theorem chain_first {Q : Act → (Nat → Value) → Prop} {k : Nat} {o : Oper} {rest : List Oper} {a : Act} {u : Nat → Value} (ho : ops[k]? = some o) (hs : stB vs k = false) (hk : cs[0]? = some k) (hd : cs.Nodup) (hg : o.guard = none)
    (h1 : ∀ w, St 0 u w → eachUpon P (fun x w' => St 1 (upd u k x) w') ((execOp a.eval o).run P w)) (h2 : ∀ x, flowU P .any ops vs (DS ops cs St) Q (k + 1) rest (a.put o.dst x) (upd u k x)) : flowU P .any ops vs (DS ops cs St) Q k (o :: rest) a u :=
  flowU_ch hs hg (fun L w hun hbe ⟨hcl, j, hj, hS⟩ => by
    have h0 := (hj.2 0 k hk).1
    obtain rfl : j = 0 := by
      rcases Nat.eq_zero_or_pos j with h | h
      · exact h
      · have := h0 h; rw [getD_tf hun] at this; cases this
    have hlt : k < L.size := by
      rcases Nat.lt_or_ge k L.size with h' | h'
      · exact h'
      · simp [Array.getElem?_eq_none h'] at hun
    exact eachUpon_mono (fun x w' hw' => ⟨hcl.put ho hbe, 1, hj.next hk hd hlt, hw'⟩) (h1 w hS)) h2
theorem chain_next (n : Nat) {Q : Act → (Nat → Value) → Prop} {k p : Nat} {o : Oper} {rest : List Oper} {a : Act} {u : Nat → Value} (ho : ops[k]? = some o) (hs : stB vs k = false) (hk : cs[n + 1]? = some k) (hp : cs[n]? = some p) (hd : cs.Nodup) (hg : o.guard = none) (he : (o.after.any fun e => Region.binds .any e && e.on == p) = true)
    (h1 : ∀ w, St (n + 1) u w → eachUpon P (fun x w' => St (n + 2) (upd u k x) w') ((execOp a.eval o).run P w)) (h2 : ∀ x, flowU P .any ops vs (DS ops cs St) Q (k + 1) rest (a.put o.dst x) (upd u k x)) : flowU P .any ops vs (DS ops cs St) Q k (o :: rest) a u :=
  flowU_ch hs hg (fun L w hun hbe ⟨hcl, j, hj, hS⟩ => by
    obtain ⟨e, he1, he2⟩ := Array.any_eq_true'.1 he
    simp only [Bool.and_eq_true, beq_iff_eq] at he2
    have hb := hbe e he1 he2.1
    rw [he2.2] at hb
    obtain rfl : j = n + 1 := by
      rcases Nat.lt_trichotomy j (n + 1) with h | h | h
      · have := (hj.2 n p hp).2 (by omega); rw [this] at hb; cases hb
      · exact h
      · have := (hj.2 (n + 1) k hk).1 h; rw [getD_tf hun] at this; cases this
    have hlt : k < L.size := by
      rcases Nat.lt_or_ge k L.size with h' | h'
      · exact h'
      · simp [Array.getElem?_eq_none h'] at hun
    exact eachUpon_mono (fun x w' hw' => ⟨hcl.put ho hbe, n + 2, hj.next hk hd hlt, hw'⟩) (h1 w hS)) h2
theorem chain_end {u : Nat → Value} {L : Array Bool} {w : World} {n : Nat} (hl : ∀ i, i < n → L.getD i false = true) (hc : cs.all (fun c => decide (c < n)) = true) (h : DS ops cs St u L w) : St cs.length u w := by
  obtain ⟨_, j, hj, hS⟩ := h
  obtain rfl : j = cs.length := by
    rcases Nat.lt_or_ge j cs.length with h' | h'
    · have h1 := (hj.2 j cs[j] (List.getElem?_eq_getElem h')).2 (Nat.le_refl _)
      have h2 := List.all_eq_true.1 hc cs[j] (List.getElem_mem h')
      rw [hl _ (by simpa using h2)] at h1; cases h1
    · exact Nat.le_antisymm hj.1 h'
  exact hS
theorem wp_region_stages {id : Nat} {Q : Exit → Act → World → Prop} {a : Act} {w : World} {l : List Oper} (vs : List (Option Value)) (cs : List Nat) (St : Nat → (Nat → Value) → World → Prop) (hm : P.follows .mixedOrders = true) (hB : Region.lexB .any l.toArray = true) (hch : chainB l vs = true) (hcs : cs.all (fun c => decide (c < l.length)) = true)
    (h0 : St 0 (fun _ => undef) w.drew) (h : flowU P .any l.toArray vs (DS l.toArray cs St) (fun a' u => ∀ w', St cs.length u w' → Q .normal a' w') 0 l a (fun _ => undef)) : (Code.region id l.toArray true).wp P Q a w :=
  wp_region_chain vs (DS l.toArray cs St) hm hB hch (fun _ hL => chain_start hL h0) (flowU_imp l 0 a _ (fun _ _ hq _ w' hL hD => hq w' (chain_end hL hcs hD)) h)
theorem each_app1 {w : World} {o : Oper} {a : Act} {E : Value → World → Prop} (s x : Operand) (t : TypeId) (ho : o.op = .call { callee := .builtin .append, args := #[s, x], argTypes := #[t, t] })
    (base : Nat) (e : TypeId) (size bytes : Nat) (hE : Elem P t e size bytes) (v : Value) (n : Nat) (xs : List Value) (hs : a.eval s = v) (wr : World) (ce : Array Value) (hw : w = wr.alloc (.cells ce e)) (hx : a.eval x = .slice (some ⟨wr.heap.size, 0, none⟩) 1 1)
    (hown : wr.ownsRow base e size v n xs) (hcs : ce.size = size) (h1 : ∀ u ∈ ce.toList, u.oneCell' = true) (hbytes : (n + 1) * bytes ≤ 140737488355328) (h63 : n + 1 ≤ maxLen) (hbase : base ≤ wr.heap.size)
    (h : ∀ v' w', (∀ b xs', wr.ownsRow b e size v n xs' → b ≤ wr.heap.size → w'.ownsRow b e size v' (n + 1) (xs' ++ ce.toList)) → wr.grownBy w' v.ownBlock → NewRow v v' wr.heap.size → wr.heap.size < w'.heap.size → E v' w') : eachUpon P E ((execOp a.eval o).run P w) := by
  obtain ⟨ht, i, z, hi, hz, hsz, hby, hzs, hpos⟩ := hE
  subst hw
  have hnews : ∀ j u, ce.toList[j]? = some u → (wr.alloc (.cells ce e)).cell? ((⟨wr.heap.size, 0, none⟩ : Addr).add j) = some u := by
    intro j u hu
    have hb := heap_alloc_new wr (.cells ce e)
    have : ((⟨wr.heap.size, 0, none⟩ : Addr).add j) = ⟨wr.heap.size, j, none⟩ := by unfold Addr.add; split <;> simp_all
    rw [this, cell_of_row _ _ j ce e (0, 0) hb]
    simpa using hu
  have key := fun (b : Nat) (xs' : List Value) (hown : wr.ownsRow b e size v n xs') (hb : b ≤ wr.heap.size) => run_append_own_at (P := P) (wr.alloc (.cells ce e)) b t o.type e i z size bytes ht hi hz hsz hby hzs hpos v n xs' (hown.alloc _) ⟨wr.heap.size, 0, none⟩ 1 1 ce.toList (by rw [Array.length_toList, hcs, Nat.one_mul]) hnews h1 h63 hbytes (Nat.le_trans hb (by simp))
  obtain ⟨v', w', hrun, h2, h3, _, h5⟩ := key base xs hown hbase
  unfold execOp
  simp only [ho, resolve, invoke, builtin, Sem.run_bind, Sem.run_pure, Result.andThen_ok, List.map_toArray, List.map_cons, List.map_nil, hs, hx, hrun]
  refine h v' w' (fun b xs' hb hbb => ?_) ⟨h3.os, h3.tape, h3.output, Nat.le_trans (by simp) h3.size, fun k hk hne => (h3.block k (by simp; omega) hne).trans (Below.heap_alloc wr _ k hk)⟩ ?_ ?_
  · obtain ⟨v2, w2, hrun2, g2, _⟩ := key b xs' hb hbb
    rw [hrun] at hrun2
    injection hrun2 with e1 e2
    subst e1 e2
    exact g2
  · rcases h5 with h5 | h5
    · exact .inl h5
    · exact .inr ⟨_, h5, by simp⟩
  · have := h3.size
    simp at this; omega
end
open Go.RowKit
def OwnRow {α : Type} (S : Nat → Prop) (w : World) (e : TypeId) (size : Nat) (R : (Nat → Prop) → α → List Value → Prop) (v : Value) (xs : List α) : Prop :=
  xs.length ≤ maxLen ∧ ∃ (vals : List Value) (Ss : Nat → Nat → Prop), w.ownsRow 0 e size v xs.length vals ∧ (∀ g, v.ownBlock = some g → S g) ∧
    (∀ i x, xs[i]? = some x → R (Ss i) x ((vals.drop (i * size)).take size) ∧ ∀ b, Ss i b → S b ∧ v.ownBlock ≠ some b) ∧
    ∀ i j b, i < xs.length → j < xs.length → i ≠ j → Ss i b → ¬ Ss j b
theorem own_same {w w' : World} {base : Nat} {e : TypeId} {size : Nat} {v : Value} {n : Nat} {xs : List Value} (h : w.ownsRow base e size v n xs) (hs : ∀ g, v.ownBlock = some g → g < w.heap.size → w'.heap[g]? = w.heap[g]?) : w'.ownsRow base e size v n xs := by
  refine ⟨h.1, ?_⟩
  rcases h.2 with h2 | ⟨g, cap, cur, rfl, hb, hh, h3⟩
  · exact .inl h2
  · have hlt : g < w.heap.size := by
      rcases Nat.lt_or_ge g w.heap.size with h' | h'
      · exact h'
      · rw [Array.getElem?_eq_none h'] at hh; cases hh
    exact .inr ⟨g, cap, cur, rfl, hb, (hs g rfl hlt).trans hh, h3⟩
theorem OwnRow.mono {α : Type} {S S' : Nat → Prop} {w w' : World} {e : TypeId} {size : Nat} {R R' : (Nat → Prop) → α → List Value → Prop} {v : Value} {xs : List α} (h : OwnRow S w e size R v xs) (hs : SameOn S w w') (hS : ∀ b, S b → S' b)
    (hR : ∀ T x cs, x ∈ xs → (∀ b, T b → S b) → R T x cs → R' T x cs) : OwnRow S' w' e size R' v xs := by
  obtain ⟨hm, vals, Ss, h1, h2, h3, h4⟩ := h
  refine ⟨hm, vals, Ss, own_same h1 (fun g hg hlt => hs g (h2 g hg) hlt), fun g hg => hS g (h2 g hg), fun i x hx => ⟨hR _ _ _ (List.mem_of_getElem? hx) (fun b hb => ((h3 i x hx).2 b hb).1) (h3 i x hx).1, fun b hb => ⟨hS b ((h3 i x hx).2 b hb).1, ((h3 i x hx).2 b hb).2⟩⟩, h4⟩
theorem OwnRow.listAt {α : Type} {S : Nat → Prop} {w : World} {e : TypeId} {size : Nat} (hz : 0 < size) {R : (Nat → Prop) → α → List Value → Prop} {R' : α → List Value → Prop} {v : Value} {xs : List α} (h : OwnRow S w e size R v xs)
    (hR : ∀ T x cs, x ∈ xs → (∀ b, T b → S b) → R T x cs → R' x cs) : ListAt S w size R' v xs := by
  obtain ⟨hm, vals, Ss, h1, h2, h3, _⟩ := h
  rcases h1.2 with ⟨rfl, h0⟩ | ⟨g, cap, cur, rfl, _⟩
  · obtain rfl : xs = [] := List.eq_nil_of_length_eq_zero h0
    exact ListAt.nil _ _ _ _ _ _
  · refine ⟨_, _, rfl, hm, fun i x hx => ⟨g, 0, rfl, h2 g rfl, (vals.drop (i * size)).take size, ?_, fun j hj => ?_, hR _ _ _ (List.mem_of_getElem? hx) (fun b hb => ((h3 i x hx).2 b hb).1) (h3 i x hx).1⟩⟩
    · have hi : i < xs.length := (List.getElem?_eq_some_iff.1 hx).1
      have h5 : (i + 1) * size ≤ xs.length * size := Nat.mul_le_mul_right _ hi
      rw [Nat.succ_mul] at h5
      rw [List.length_take, List.length_drop, h1.1]; omega
    · have hi : i < xs.length := (List.getElem?_eq_some_iff.1 hx).1
      have h5 : (i + 1) * size ≤ xs.length * size := Nat.mul_le_mul_right _ hi
      rw [Nat.succ_mul] at h5
      rw [Nat.zero_add, h1.cellAt (i * size + j) (by omega), List.getElem?_take, if_pos hj, List.getElem?_drop]
theorem OwnRow.form {α : Type} {S : Nat → Prop} {w : World} {e : TypeId} {size : Nat} {R : (Nat → Prop) → α → List Value → Prop} {v : Value} {xs : List α} (h : OwnRow S w e size R v xs) : ∃ p c, v = .slice p xs.length c ∧ xs.length ≤ maxLen := by
  obtain ⟨hm, vals, Ss, h1, _⟩ := h
  rcases h1.2 with ⟨rfl, h0⟩ | ⟨g, cap, cur, rfl, _⟩
  · exact ⟨none, 0, by rw [h0], hm⟩
  · exact ⟨_, _, rfl, hm⟩
theorem OwnRow.nil {α : Type} (S : Nat → Prop) (w : World) (e : TypeId) (size : Nat) (R : (Nat → Prop) → α → List Value → Prop) : OwnRow S w e size R (.slice none 0 0) [] :=
  ⟨Nat.zero_le _, [], fun _ _ => False, ⟨by simp, .inl ⟨rfl, rfl⟩⟩, fun g hg => by simp [Value.ownBlock] at hg, fun i x hx => by simp at hx, fun i j b hi => by simp at hi⟩
theorem OwnRow.snoc {α : Type} {S Sx S' : Nat → Prop} {w w' : World} {e : TypeId} {size : Nat} {R R' : (Nat → Prop) → α → List Value → Prop} {v v' : Value} {xs : List α} {x : α} {cs : List Value} (h : OwnRow S w e size R v xs) (hx : R Sx x cs) (hl : cs.length = size)
    (hown : ∀ vals : List Value, w.ownsRow 0 e size v xs.length vals → w'.ownsRow 0 e size v' (xs.length + 1) (vals ++ cs)) (_ : w.grownBy w' v.ownBlock) (hn : NewRow v v' w.heap.size) (hm : xs.length + 1 ≤ maxLen)
    (hSx : ∀ b, Sx b → ¬ S b) (hSlt : ∀ b, S b → b < w.heap.size) (hSxlt : ∀ b, Sx b → b < w.heap.size) (h1 : ∀ b, S b → S' b) (h2 : ∀ b, Sx b → S' b) (h3 : ∀ g, v'.ownBlock = some g → S' g)
    (hR : ∀ T y c, (∀ b, T b → b < w.heap.size ∧ v.ownBlock ≠ some b) → R T y c → R' T y c) : OwnRow S' w' e size R' v' (xs ++ [x]) := by
  obtain ⟨_, vals, Ss, g1, g2, g3, g4⟩ := h
  have hvl : vals.length = xs.length * size := g1.1
  have hxne : ∀ b, Sx b → v.ownBlock ≠ some b := fun b hb e => hSx b hb (g2 b e)
  have hne : ∀ b, b < w.heap.size → v.ownBlock ≠ some b → v'.ownBlock ≠ some b := fun b hlt hv e => by
    rcases hn with hn | ⟨g, hn, hge⟩
    · rw [hn] at e; exact hv e
    · rw [hn] at e; injection e with e; omega
  refine ⟨by simpa using hm, vals ++ cs, fun i => if i = xs.length then Sx else Ss i, by simpa using hown vals g1, h3, fun i y hy => ?_, fun i j b hi hj hij hb => ?_⟩
  · have hi : i < xs.length + 1 := by have := (List.getElem?_eq_some_iff.1 hy).1; simpa using this
    by_cases e : i = xs.length
    · subst e
      rw [List.getElem?_append_right (Nat.le_refl _), Nat.sub_self] at hy
      obtain rfl : x = y := by simpa using hy
      show R' (if xs.length = xs.length then Sx else _) _ _ ∧ ∀ b, (if xs.length = xs.length then Sx else _) b → _
      rw [if_pos rfl, ← hvl, List.drop_left, List.take_of_length_le (by omega)]
      exact ⟨hR _ _ _ (fun b hb => ⟨hSxlt b hb, hxne b hb⟩) hx, fun b hb => ⟨h2 b hb, hne b (hSxlt b hb) (hxne b hb)⟩⟩
    · have hlt : i < xs.length := by omega
      rw [List.getElem?_append_left hlt] at hy
      have h5 : (i + 1) * size ≤ xs.length * size := Nat.mul_le_mul_right _ hlt
      rw [Nat.succ_mul] at h5
      obtain ⟨k1, k2⟩ := g3 i y hy
      show R' (if i = xs.length then Sx else Ss i) _ _ ∧ ∀ b, (if i = xs.length then Sx else Ss i) b → _
      rw [if_neg e, List.drop_append_of_le_length (by omega), List.take_append_of_le_length (by rw [List.length_drop]; omega)]
      exact ⟨hR _ _ _ (fun b hb => ⟨hSlt b (k2 b hb).1, (k2 b hb).2⟩) k1, fun b hb => ⟨h1 b (k2 b hb).1, hne b (hSlt b (k2 b hb).1) (k2 b hb).2⟩⟩
  · simp only [List.length_append, List.length_cons, List.length_nil] at hi hj
    change (if i = xs.length then Sx else Ss i) b at hb
    show ¬ (if j = xs.length then Sx else Ss j) b
    by_cases ei : i = xs.length
    · rw [if_pos ei] at hb
      have hj' : j < xs.length := by omega
      rw [if_neg (by omega)]
      exact fun hjb => hSx b hb ((g3 j _ (List.getElem?_eq_getElem hj')).2 b hjb).1
    · rw [if_neg ei] at hb
      have hi' : i < xs.length := by omega
      by_cases ej : j = xs.length
      · rw [if_pos ej]
        exact fun hjb => hSx b hjb ((g3 i _ (List.getElem?_eq_getElem hi')).2 b hb).1
      · rw [if_neg ej]
        exact g4 i j b hi' (by omega) hij hb
def TmOwn (e : TypeId) : Nat → (Nat → Prop) → World → Tm → List Value → Prop
  | 0, _, _, _, _ => False
  | n + 1, S, w, .mk s us, cs => ∃ va, cs = [.string s, va] ∧ s.size ≤ maxLen ∧ OwnRow S w e 2 (fun T t c => TmOwn e n T w t c) va us
theorem TmOwn.mono {e : TypeId} : ∀ (n m : Nat) {S S' : Nat → Prop} {w w' : World} (t : Tm) (cs : List Value), n ≤ m → SameOn S w w' → (∀ b, S b → S' b) → TmOwn e n S w t cs → TmOwn e m S' w' t cs
  | 0, _, _, _, _, _, _, _, _, _, _, h => h.elim
  | n + 1, 0, _, _, _, _, _, _, hm, _, _, _ => by omega
  | n + 1, m + 1, S, S', w, w', .mk s us, cs, hm, hs, hS, h => by
    obtain ⟨va, h1, h2, h3⟩ := h
    exact ⟨va, h1, h2, h3.mono hs hS fun T x c _ hT hx => TmOwn.mono n m x c (by omega) (fun b hb hlt => hs b (hT b hb) hlt) (fun _ h => h) hx⟩
theorem TmOwn.at_ {e : TypeId} : ∀ (n : Nat) {S : Nat → Prop} {w : World} (t : Tm) (cs : List Value), TmOwn e n S w t cs → TmAt S n w t cs
  | 0, _, _, _, _, h => h.elim
  | n + 1, S, w, .mk s us, cs, h => by
    obtain ⟨va, h1, h2, h3⟩ := h
    exact ⟨va, h1, h2, h3.listAt (by omega) fun T x c _ hT hx => TmAt.mono (SameOn.refl _ _) hT n n x c (Nat.le_refl _) (TmOwn.at_ n x c hx)⟩
theorem TmOwn.below {e : TypeId} {n : Nat} {S : Nat → Prop} {w w' : World} {t : Tm} {cs : List Value} (hb : Below w.heap.size w w') (h : TmOwn e n S w t cs) : TmOwn e n S w' t cs := TmOwn.mono n n t cs (Nat.le_refl _) (SameOn.below hb) (fun _ h => h) h
theorem TmOwn.form {e : TypeId} {n : Nat} {S : Nat → Prop} {w : World} {t : Tm} {v0 v1 : Value} (h : TmOwn e n S w t [v0, v1]) : ∃ p c, v0 = .string t.n ∧ v1 = .slice p t.us.length c ∧ t.n.size ≤ maxLen ∧ t.us.length ≤ maxLen := (TmOwn.at_ n t _ h).form
open Go.RowKit
def TermP (T : TypeId) (g lo : Nat) (s : ByteArray) (f : Nat) (t : Tm) (p' : PSt) (TP : TypeId) (W : World) (x : Value) (w : World) : Prop :=
  ∃ v0 v1, x = .agg #[v0, v1] ∧ TmOwn T f (fun b => lo ≤ b ∧ b < w.heap.size) w t [v0, v1] ∧ PAt TP w g s p' ∧ W.grownBy w (some g)
theorem TermP.mono {T TP : TypeId} {g lo f f' : Nat} {s : ByteArray} {t : Tm} {p' : PSt} {W w : World} {x : Value} (hf : f ≤ f') (h : TermP T g lo s f t p' TP W x w) : TermP T g lo s f' t p' TP W x w := by
  obtain ⟨v0, v1, h1, h2, h3⟩ := h
  exact ⟨v0, v1, h1, TmOwn.mono f f' t _ hf (SameOn.refl _ _) (fun _ h => h) h2, h3⟩
def AppSt (T : TypeId) (_g bt : Nat) (CP : Value → World → Prop) (v : Value) (n : Nat) (W : World) (i j k : Nat) : Nat → (Nat → Value) → World → Prop
  | 0, _, w => w = W.drew
  | 1, u, w => CP (u i) w
  | 2, u, w => ∃ w1 v0 v1, CP (.agg #[v0, v1]) w1 ∧ u j = .slice (some ⟨w1.heap.size, 0, none⟩) 1 1 ∧ w = w1.alloc (.cells #[v0, v1] T)
  | 3, u, w => ∃ w1 v0 v1, CP (.agg #[v0, v1]) w1 ∧ (∀ b xs, w1.ownsRow b T 2 v n xs → b ≤ w1.heap.size → w.ownsRow b T 2 (u k) (n + 1) (xs ++ [v0, v1])) ∧ w1.grownBy w v.ownBlock ∧ NewRow v (u k) w1.heap.size ∧ w1.heap.size < w.heap.size
  | 4, u, w => ∃ w1 w3 v0 v1, CP (.agg #[v0, v1]) w1 ∧ (∀ b xs, w1.ownsRow b T 2 v n xs → b ≤ w1.heap.size → w3.ownsRow b T 2 (u k) (n + 1) (xs ++ [v0, v1])) ∧ w1.grownBy w3 v.ownBlock ∧ NewRow v (u k) w1.heap.size ∧ w1.heap.size < w3.heap.size ∧ w = w3.setCell ⟨bt, 1, none⟩ (u k)
  | _, _, _ => False
theorem AppSt.cell {T : TypeId} {g bt n i j k : Nat} {CP : Value → World → Prop} {v v' : Value} {W : World} (hG : ∀ x w', CP x w' → W.grownBy w' (some g)) (hc : W.cell? ⟨bt, 1, none⟩ = some v') (hne : bt ≠ g) {m : Nat} (hm : m ≤ 2) {u : Nat → Value} {w : World} (h : AppSt T g bt CP v n W i j k m u w) : w.cell? ⟨bt, 1, none⟩ = some v' := by
  match m, hm, h with
  | 0, _, h => obtain rfl : w = W.drew := h; exact hc
  | 1, _, h => exact grown_cell (hG _ _ h) hc (by simpa using hne)
  | 2, _, h =>
    obtain ⟨w1, v0, v1, h1, _, rfl⟩ := h
    have h2 := grown_cell (hG _ _ h1) hc (by simpa using hne)
    exact (((Below.refl w1.heap.size w1).alloc (Nat.le_refl _) _).cell (World.block_lt_of_cell? w1 _ h2)).trans h2
structure TSt (T TP : TypeId) (ro : Obj) (w : World) (g rb bt : Nat) (s : ByteArray) (n : List UInt8) (p : PSt) (v : Value) (xs : List Tm) (f : Nat) (W : World) : Prop where
  at_ : PAt TP W g s p
  cell : W.heap[bt]? = some (.cells #[.string ⟨n.toArray⟩, v] T (0, 0))
  res : W.heap[rb]? = some ro
  row : OwnRow (fun b => rb < b ∧ b ≠ bt ∧ b < W.heap.size) W T 2 (fun S x c => TmOwn T f S W x c) v xs
  gr : w.grownBy W (some g)
  lt : g < w.heap.size ∧ w.heap.size ≤ rb ∧ rb < bt ∧ bt < W.heap.size
theorem heap_lt {w : World} {b : Nat} {o : Obj} (h : w.heap[b]? = some o) : b < w.heap.size := by
  rcases Nat.lt_or_ge b w.heap.size with h' | h'
  · exact h'
  · rw [Array.getElem?_eq_none h'] at h; cases h
theorem own_lt' {w : World} {base : Nat} {e : TypeId} {size : Nat} {v : Value} {n : Nat} {xs : List Value} (h : w.ownsRow base e size v n xs) {g : Nat} (hg : v.ownBlock = some g) : g < w.heap.size := by
  rcases h.2 with ⟨rfl, _⟩ | ⟨g', cap, cur, rfl, _, hh, _⟩
  · simp [Value.ownBlock] at hg
  · have : g' = g := by simpa [Value.ownBlock] using hg
    subst this; exact heap_lt hh
theorem elemTmI : Elem Tryz.prog 39 41 2 40 := elem_of Tryz.underlying39 (z := .agg #[.string ⟨#[]⟩, .slice none 0 0]) (by kernel_rfl) rfl (by omega)
theorem TSt.three {T TP : TypeId} {ro : Obj} {w W w' : World} {g rb bt : Nat} {s : ByteArray} {n : List UInt8} {p : PSt} {v z : Value} {xs : List Tm} {f : Nat} {CP : Value → World → Prop} (h : TSt T TP ro w g rb bt s n p v xs f W) (hG : ∀ x w', CP x w' → W.grownBy w' (some g))
    {w1 : World} {v0 v1 x : Value} (hcp : CP x w1) (happ : ∀ b ys, w1.ownsRow b T 2 v xs.length ys → b ≤ w1.heap.size → w'.ownsRow b T 2 z (xs.length + 1) (ys ++ [v0, v1])) (hg3 : w1.grownBy w' v.ownBlock) :
    (∃ q c, z = .slice (some ⟨q, 0, none⟩) (xs.length + 1) c) ∧ w'.heap[bt]? = some (.cells #[.string ⟨n.toArray⟩, v] T (0, 0)) := by
  obtain ⟨l1, l2, l3, l4⟩ := h.lt
  have hG1 := hG _ _ hcp
  have hz1 := hG1.size
  obtain ⟨hm, vals, Ss, r1, r2, r3, r4⟩ := h.row
  have h1 := happ 0 vals (own_same r1 fun b hb hl => hG1.block b hl (by have := r2 b hb; simp; omega)) (Nat.zero_le _)
  refine ⟨own_form h1 (by omega), ?_⟩
  exact (hg3.block bt (by omega) (fun e => (r2 bt e.symm).2.1 rfl)).trans ((hG1.block bt l4 (by simp; omega)).trans h.cell)
theorem TSt.app {T TP : TypeId} {ro : Obj} {w W w4 : World} {g rb bt : Nat} {s : ByteArray} {n : List UInt8} {p p' : PSt} {v : Value} {xs : List Tm} {f i j k : Nat} {t : Tm} {u : Nat → Value} (h : TSt T TP ro w g rb bt s n p v xs f W)
    (hA : AppSt T g bt (TermP T g W.heap.size s f t p' TP W.drew) v xs.length W i j k 4 u w4) (hlen : xs.length + 1 ≤ 1000000) : TSt T TP ro w g rb bt s n p' (u k) (xs ++ [t]) f w4 := by
  obtain ⟨w1, w3, v0, v1, ⟨v0', v1', he, hO, hP, hG⟩, happ, hg3, hnr, hsz, rfl⟩ := hA
  simp only [Value.agg.injEq, Array.mk.injEq, List.cons.injEq, and_true] at he
  obtain ⟨rfl, rfl⟩ := he
  obtain ⟨l1, l2, l3, l4⟩ := h.lt
  have hG1 : W.grownBy w1 (some g) := ⟨hG.os, hG.tape, hG.output, hG.size, hG.block⟩
  have hz1 := hG1.size
  obtain ⟨hm, vals, Ss, r1, r2, r3, r4⟩ := h.row
  have hvb : ∀ b, v.ownBlock = some b → rb < b ∧ b ≠ bt ∧ b < W.heap.size := fun b hb => r2 b hb
  have keep : ∀ b, b < W.heap.size → b ≠ g → v.ownBlock ≠ some b → w3.heap[b]? = W.heap[b]? := fun b hb hne hv => (hg3.block b (by omega) (fun e => hv e.symm)).trans (hG1.block b hb (by simpa using hne))
  have nob : ∀ b, (b ≤ rb ∨ b = bt) → v.ownBlock ≠ some b := fun b hb e => by have := hvb b e; omega
  have hrow1 := h.row.mono (S' := fun b => rb < b ∧ b ≠ bt ∧ b < W.heap.size) (w' := w1) (R' := fun S x c => TmOwn T f S w1 x c) (fun b hb hlt => hG1.block b hlt (by simp; omega)) (fun _ h => h)
    (fun S x c _ hS hx => TmOwn.mono f f x c (Nat.le_refl _) (fun b hb hlt => hG1.block b hlt (by have := hS b hb; simp; omega)) (fun _ h => h) hx)
  have hown3 : ∀ b, (u k).ownBlock = some b → b < w3.heap.size := fun b hb => own_lt' (happ 0 vals (own_same r1 fun b' hb' hlt => hG1.block b' hlt (by have := hvb b' hb'; simp; omega)) (Nat.zero_le _)) hb
  have hrow3 := OwnRow.snoc (S' := fun b => rb < b ∧ b ≠ bt ∧ b < w3.heap.size) (R' := fun S x c => TmOwn T f S w3 x c) hrow1 hO rfl (fun vals' hv => happ 0 vals' hv (Nat.zero_le _)) hg3 hnr (by unfold maxLen; omega)
    (fun b hb hS => by omega) (fun b hb => by omega) (fun b hb => hb.2) (fun b hb => by omega) (fun b hb => by omega)
    (fun b hb => ⟨by
      rcases hnr with e | ⟨b', e, hge⟩
      · rw [e] at hb; exact (hvb b hb).1
      · rw [e] at hb; injection hb with hb; omega, by
      rcases hnr with e | ⟨b', e, hge⟩
      · rw [e] at hb; exact (hvb b hb).2.1
      · rw [e] at hb; injection hb with hb; omega, hown3 b hb⟩)
    (fun S x c hS hx => TmOwn.mono f f x c (Nat.le_refl _) (fun b hb hlt => hg3.block b hlt (fun e => (hS b hb).2 e.symm)) (fun _ h => h) hx)
  have hbt3 : w3.heap[bt]? = some (.cells #[.string ⟨n.toArray⟩, v] T (0, 0)) := (keep bt l4 (by omega) (nob bt (.inr rfl))).trans h.cell
  refine ⟨?_, ?_, ?_, ?_, ?_, l1, l2, l3, by simp; omega⟩
  · have h3 : PAt TP w3 g s p' := (hg3.block g (by omega) (fun e => nob g (.inl (by omega)) e.symm)).trans hP
    exact (heap_setCell_other w3 ⟨bt, 1, none⟩ g (u k) (by simp; omega)).trans h3
  · have := heap_setCell_same w3 bt 1 _ T (u k) hbt3
    simpa using this
  · exact (heap_setCell_other w3 ⟨bt, 1, none⟩ rb (u k) (by simp; omega)).trans ((keep rb (by omega) (by omega) (nob rb (.inl (Nat.le_refl _)))).trans h.res)
  · exact hrow3.mono (fun b hb hlt => heap_setCell_other w3 ⟨bt, 1, none⟩ b (u k) (by simp; omega)) (fun b hb => by simpa using hb)
      (fun S x c _ hS hx => TmOwn.mono f f x c (Nat.le_refl _) (fun b hb hlt => heap_setCell_other w3 ⟨bt, 1, none⟩ b (u k) (by have := hS b hb; simp; omega)) (fun _ h => h) hx)
  · have h1 := gr_trans h.gr hG1
    have h3 : w.grownBy w3 (some g) := ⟨hg3.os.trans h1.os, hg3.tape.trans h1.tape, hg3.output.trans h1.output, Nat.le_trans h1.size (Nat.le_of_lt (Nat.lt_of_le_of_lt (Nat.le_refl _) hsz)), fun b hb hne => (hg3.block b (Nat.lt_of_lt_of_le hb h1.size) (fun e => nob b (.inl (by omega)) e.symm)).trans (h1.block b hb hne)⟩
    exact gr_sc h3 (.inr (by simp; omega)) _
theorem TSt.reader {T TP : TypeId} {ro : Obj} {w W w' : World} {g rb bt : Nat} {s : ByteArray} {n : List UInt8} {p p' : PSt} {v : Value} {xs : List Tm} {f : Nat} (h : TSt T TP ro w g rb bt s n p v xs f W) (hP : PAt TP w' g s p') (hG : W.grownBy w' (some g)) : TSt T TP ro w g rb bt s n p' v xs f w' := by
  obtain ⟨l1, l2, l3, l4⟩ := h.lt
  have hz := hG.size
  refine ⟨hP, (hG.block bt l4 (by simp; omega)).trans h.cell, (hG.block rb (by omega) (by simp; omega)).trans h.res, ?_, gr_trans h.gr hG, l1, l2, l3, by omega⟩
  exact h.row.mono (fun b hb hlt => hG.block b hlt (by simp; omega)) (fun b hb => by omega)
    (fun S x c _ hS hx => TmOwn.mono f f x c (Nat.le_refl _) (fun b hb hlt => hG.block b hlt (by have := hS b hb; simp; omega)) (fun _ h => h) hx)
theorem cells2_cell {w : World} {g : Nat} {x y : Value} {t : TypeId} (h : w.heap[g]? = some (.cells #[x, y] t (0, 0))) : w.cell? ⟨g, 0, none⟩ = some x ∧ w.cell? ⟨g, 1, none⟩ = some y ∧ (∀ j, w.frozen? ⟨g, j, none⟩ = false) := by
  refine ⟨?_, ?_, fun j => frozen_of_row w g j _ _ h⟩
  · rw [cell_of_row w g 0 _ _ (0, 0) h]; rfl
  · rw [cell_of_row w g 1 _ _ (0, 0) h]; rfl
theorem TSt.init {T TP : TypeId} {w w1 w2 : World} {g : Nat} {s : ByteArray} {n : List UInt8} {p : PSt} {f : Nat} (hg : g < w.heap.size) (hg1 : (w.alloc (.cells #[.string ⟨#[]⟩, .slice none 0 0] T)).grownBy w1 (some g))
    (hg2 : (w1.alloc (.cells #[.string ⟨n.toArray⟩, .slice none 0 0] T)).grownBy w2 (some g)) (hP : PAt TP w2 g s p) : TSt T TP (.cells #[.string ⟨#[]⟩, .slice none 0 0] T (0, 0)) w g w.heap.size w1.heap.size s n p (.slice none 0 0) [] f w2 := by
  have h1 := hg1.size
  have h2 := hg2.size
  simp at h1 h2
  have ha := gr_trans (gr_al (gr_refl w g) _) hg1
  refine ⟨hP, ?_, ?_, OwnRow.nil _ _ _ _ _, gr_trans (gr_al ha _) hg2, hg, Nat.le_refl _, by omega, by omega⟩
  · exact (hg2.block w1.heap.size (by simp) (by simp; omega)).trans (heap_alloc_new w1 _)
  · refine (hg2.block w.heap.size (by simp; omega) (by simp; omega)).trans ((hao w1 _ _ (by omega)).trans ?_)
    exact (hg1.block w.heap.size (by simp) (by simp; omega)).trans (heap_alloc_new w _)
theorem TSt.done {T TP : TypeId} {ro : Obj} {w W : World} {g rb bt : Nat} {s : ByteArray} {n : List UInt8} {p : PSt} {v : Value} {xs : List Tm} {f : Nat} (h : TSt T TP ro w g rb bt s n p v xs f W) (hn : n.length ≤ 1000000) (a b : Value) :
    TermP T g w.heap.size s (f + 1) (.mk ⟨n.toArray⟩ xs) p TP w (.agg #[.string ⟨n.toArray⟩, v]) ((W.setCell ⟨rb, 0, none⟩ a).setCell ⟨rb, 1, none⟩ b) := by
  obtain ⟨l1, l2, l3, l4⟩ := h.lt
  have hk : ∀ c, c ≠ rb → ((W.setCell ⟨rb, 0, none⟩ a).setCell ⟨rb, 1, none⟩ b).heap[c]? = W.heap[c]? := fun c hc => (heap_setCell_other _ ⟨rb, 1, none⟩ c b (fun e => hc e)).trans (heap_setCell_other W ⟨rb, 0, none⟩ c a (fun e => hc e))
  refine ⟨_, _, rfl, ⟨_, rfl, by show n.toArray.size ≤ _; unfold maxLen; simp; omega, ?_⟩, ?_, gr_sc (gr_sc h.gr (.inr l2) _) (.inr l2) _⟩
  · exact h.row.mono (fun c hc _ => hk c (by omega)) (fun c hc => by simp; omega)
      (fun S x c _ hS hx => TmOwn.mono f f x c (Nat.le_refl _) (fun d hd _ => hk d (by have := (hS d hd).1; omega)) (fun _ h => h) hx)
  · exact (hk g (by omega)).trans h.at_
open Go.RowKit
theorem own_unique {w : World} {base : Nat} {e : TypeId} {size : Nat} {v : Value} {n : Nat} {xs ys : List Value} (h : w.ownsRow base e size v n xs) (h' : w.ownsRow base e size v n ys) : xs = ys := by
  obtain ⟨l1, h1⟩ := h
  obtain ⟨l2, h2⟩ := h'
  rcases h1 with ⟨rfl, h0⟩ | ⟨g, cap, cur, rfl, hb, hh, h3, h4, h5, h6⟩
  · subst h0
    rw [Nat.zero_mul] at l1 l2
    rw [List.eq_nil_of_length_eq_zero l1, List.eq_nil_of_length_eq_zero l2]
  · rcases h2 with ⟨hv, _⟩ | ⟨g', cap', cur', hv, _, hh', _, _, _, h6'⟩
    · cases hv
    · simp only [Value.slice.injEq, Option.some.injEq, Addr.mk.injEq] at hv
      obtain ⟨⟨rfl, -⟩, -, rfl⟩ := hv
      rw [hh] at hh'
      simp only [Option.some.injEq, Obj.cells.injEq] at hh'
      rw [← h6, ← h6', hh'.1]
structure LSt (T : TypeId) (rb bt : Nat) (n : ByteArray) (w : World) (f : Nat) (v : Value) (us : List Tm) (W : World) : Prop where
  res : W.heap[rb]? = some (.cells #[.string ⟨#[]⟩, .slice none 0 0] T (0, 0))
  cell : W.heap[bt]? = some (.cells #[.string n, v] T (0, 0))
  row : OwnRow (fun b => bt < b ∧ b < W.heap.size) W T 2 (fun S x c => TmOwn T f S W x c) v us
  bel : Below w.heap.size w W
  lt : w.heap.size ≤ rb ∧ rb < bt ∧ bt < W.heap.size
theorem LSt.later {T : TypeId} {rb bt : Nat} {n : ByteArray} {w W W' : World} {f : Nat} {v : Value} {us : List Tm} (h : LSt T rb bt n w f v us W) (hb : Below W.heap.size W W') : LSt T rb bt n w f v us W' := by
  have hz := hb.size
  obtain ⟨l1, l2, l3⟩ := h.lt
  exact ⟨(hb.block _ (by omega)).trans h.res, (hb.block _ l3).trans h.cell, h.row.mono (SameOn.below hb) (fun b h => ⟨h.1, by omega⟩) (fun S x c _ _ hx => TmOwn.below hb hx), ⟨hb.os.trans h.bel.os, hb.tape.trans h.bel.tape, hb.output.trans h.bel.output, Nat.le_trans h.bel.size hb.size, fun b hlt => (hb.block b (Nat.lt_of_lt_of_le hlt h.bel.size)).trans (h.bel.block b hlt)⟩, l1, l2, by omega⟩
theorem LSt.app {T : TypeId} {rb bt : Nat} {n : ByteArray} {w W W2 w3 : World} {f : Nat} {v v' v0 v1 : Value} {us : List Tm} {a : Tm} (h : LSt T rb bt n w f v us W) (hb : Below W.heap.size W W2) (hO : TmOwn T f (fun b => W.heap.size ≤ b ∧ b < W2.heap.size) W2 a [v0, v1])
    {vals : List Value} (hv : W2.ownsRow 0 T 2 v us.length vals) (happ : w3.ownsRow 0 T 2 v' (us.length + 1) (vals ++ [v0, v1])) (hg : W2.grownBy w3 v.ownBlock) (hnr : NewRow v v' W2.heap.size) (hlen : us.length + 1 ≤ 1048576) :
    LSt T rb bt n w f v' (us ++ [a]) (w3.setCell ⟨bt, 1, none⟩ v') := by
  have H2 := h.later hb
  obtain ⟨l1, l2, l3⟩ := h.lt
  obtain ⟨-, -, l4⟩ := H2.lt
  have hz := hb.size
  have hz3 := hg.size
  obtain ⟨hm, vals0, Ss, r1, r2, r3, r4⟩ := h.row
  have hvb : ∀ b, v.ownBlock = some b → bt < b ∧ b < W.heap.size := fun b hb => r2 b hb
  have nob : ∀ b, b ≤ bt → v.ownBlock ≠ some b := fun b hb e => by have := hvb b e; omega
  have hnew : ∀ b, v'.ownBlock = some b → bt < b ∧ b < w3.heap.size := fun b hb => ⟨by
    rcases hnr with e | ⟨b', e, hge⟩
    · rw [e] at hb; exact (hvb b hb).1
    · rw [e] at hb; injection hb with hb; omega, own_lt' happ hb⟩
  have hrow := OwnRow.snoc (S' := fun b => bt < b ∧ b < w3.heap.size) (R' := fun S x c => TmOwn T f S w3 x c)
    (h.row.mono (S' := fun b => bt < b ∧ b < W.heap.size) (w' := W2) (R' := fun S x c => TmOwn T f S W2 x c) (SameOn.below hb) (fun _ h => h) (fun S x c _ _ hx => TmOwn.below hb hx)) hO rfl
    (fun vs hvs => by rw [own_unique hvs hv]; exact happ) hg hnr (by unfold maxLen; omega) (fun b hb hS => by omega) (fun b hb => by omega) (fun b hb => hb.2) (fun b hb => by omega) (fun b hb => by omega) hnew
    (fun S x c hS hx => TmOwn.mono f f x c (Nat.le_refl _) (fun b hb hlt => hg.block b hlt (fun e => (hS b hb).2 e.symm)) (fun _ h => h) hx)
  have hbt3 : w3.heap[bt]? = some (.cells #[.string n, v] T (0, 0)) := (hg.block bt l4 (fun e => nob bt (Nat.le_refl _) e.symm)).trans H2.cell
  refine ⟨?_, ?_, ?_, ?_, l1, l2, by simp; omega⟩
  · exact (heap_setCell_other w3 ⟨bt, 1, none⟩ rb v' (by simp; omega)).trans ((hg.block rb (by omega) (fun e => nob rb (by omega) e.symm)).trans H2.res)
  · have := heap_setCell_same w3 bt 1 _ T v' hbt3
    simpa using this
  · exact hrow.mono (fun b hb hlt => heap_setCell_other w3 ⟨bt, 1, none⟩ b v' (by simp; omega)) (fun b hb => by simpa using hb)
      (fun S x c _ hS hx => TmOwn.mono f f x c (Nat.le_refl _) (fun b hb hlt => heap_setCell_other w3 ⟨bt, 1, none⟩ b v' (by have := hS b hb; simp; omega)) (fun _ h => h) hx)
  · have hb2 := H2.bel
    exact ⟨hg.os.trans hb2.os, hg.tape.trans hb2.tape, hg.output.trans hb2.output, by have := hb2.size; simp; omega, fun b hlt => (heap_setCell_other w3 ⟨bt, 1, none⟩ b v' (by simp; omega)).trans ((hg.block b (by have := hb2.size; omega) (fun e => nob b (by omega) e.symm)).trans (hb2.block b hlt))⟩
def GotTm (T : TypeId) (f : Nat) (r : Option (Tm × Nat)) (w : World) (x : Value) (w' : World) : Prop :=
  Below w.heap.size w w' ∧ ∃ (s : ByteArray) (p : Option Addr) (k c : Nat) (z : Int), x = .tuple #[.agg #[.string s, .slice p k c], .int .i64 z] ∧ match r with
    | none => z = -1
    | some (t, j) => z = (j : Nat) ∧ TmOwn T f (fun b => w.heap.size ≤ b ∧ b < w'.heap.size) w' t [.string s, .slice p k c]
theorem LSt.done {T : TypeId} {rb bt : Nat} {n : ByteArray} {w W : World} {f : Nat} {p : Option Addr} {k c : Nat} {us : List Tm} (h : LSt T rb bt n w f (.slice p k c) us W) (hn : n.size ≤ maxLen) (a b : Value) (j : Nat) :
    GotTm T (f + 1) (some (.mk n us, j)) w (.tuple #[.agg #[.string n, .slice p k c], .int .i64 (j : Nat)]) ((W.setCell ⟨rb, 0, none⟩ a).setCell ⟨rb, 1, none⟩ b) := by
  obtain ⟨l1, l2, l3⟩ := h.lt
  have hk : ∀ c, c ≠ rb → ((W.setCell ⟨rb, 0, none⟩ a).setCell ⟨rb, 1, none⟩ b).heap[c]? = W.heap[c]? := fun c hc => (heap_setCell_other _ ⟨rb, 1, none⟩ c b (fun e => hc e)).trans (heap_setCell_other W ⟨rb, 0, none⟩ c a (fun e => hc e))
  have hb := h.bel
  refine ⟨⟨hb.os, hb.tape, hb.output, by simpa using hb.size, fun c hc => (hk c (by omega)).trans (hb.block c hc)⟩, _, _, _, _, _, rfl, rfl, _, rfl, hn, ?_⟩
  exact h.row.mono (fun c hc _ => hk c (by omega)) (fun c hc => by simp; omega)
      (fun S x c _ hS hx => TmOwn.mono f f x c (Nat.le_refl _) (fun d hd _ => hk d (by have := (hS d hd).1; omega)) (fun _ h => h) hx)
theorem LSt.none {T : TypeId} {rb bt : Nat} {n : ByteArray} {w W : World} {f f' : Nat} {p : Option Addr} {k c : Nat} {us : List Tm} (h : LSt T rb bt n w f (.slice p k c) us W) (a b : Value) :
    GotTm T f' none w (.tuple #[.agg #[.string n, .slice p k c], .int .i64 (-1)]) ((W.setCell ⟨rb, 0, none⟩ a).setCell ⟨rb, 1, none⟩ b) := by
  obtain ⟨l1, l2, l3⟩ := h.lt
  have hb := h.bel
  exact ⟨⟨hb.os, hb.tape, hb.output, by simpa using hb.size, fun c hc => ((heap_setCell_other _ ⟨rb, 1, Option.none⟩ c b (by simp; omega)).trans (heap_setCell_other W ⟨rb, 0, Option.none⟩ c a (by simp; omega))).trans (hb.block c hc)⟩, _, _, _, _, _, rfl, rfl⟩
theorem LSt.init {T : TypeId} {n : ByteArray} {w wr : World} {f : Nat} (hbr : Below (w.alloc (.cells #[.string ⟨#[]⟩, .slice Option.none 0 0] T)).heap.size (w.alloc (.cells #[.string ⟨#[]⟩, .slice Option.none 0 0] T)) wr) :
    LSt T w.heap.size wr.heap.size n w f (.slice Option.none 0 0) [] (wr.alloc (.cells #[.string n, .slice Option.none 0 0] T)) := by
  have hz := hbr.size
  simp at hz
  refine ⟨(hao wr _ _ (by omega)).trans ((hbr.block _ (by simp)).trans (heap_alloc_new w _)), heap_alloc_new wr _, OwnRow.nil _ _ _ _ _, ⟨hbr.os, hbr.tape, hbr.output, by simp; omega, fun b hlt => (hao wr _ _ (by omega)).trans ((hbr.block b (by simp; omega)).trans (hao w _ _ hlt))⟩, Nat.le_refl _, by omega, by simp⟩
theorem LSt.three {T : TypeId} {rb bt : Nat} {n : ByteArray} {w W w3 : World} {f : Nat} {v v' : Value} {us : List Tm} {ys : List Value} (h : LSt T rb bt n w f v us W) (happ : w3.ownsRow 0 T 2 v' (us.length + 1) ys) (hg : W.grownBy w3 v.ownBlock) :
    (∃ q c, v' = .slice (some ⟨q, 0, Option.none⟩) (us.length + 1) c) ∧ w3.heap[bt]? = some (.cells #[.string n, v] T (0, 0)) ∧ w3.heap[rb]? = some (.cells #[.string ⟨#[]⟩, .slice Option.none 0 0] T (0, 0)) := by
  obtain ⟨l1, l2, l3⟩ := h.lt
  obtain ⟨hm, vals, Ss, r1, r2, r3, r4⟩ := h.row
  exact ⟨own_form happ (by omega), (hg.block bt l3 (fun e => by have := (r2 bt e.symm).1; omega)).trans h.cell, (hg.block rb (by omega) (fun e => by have := (r2 rb e.symm).1; omega)).trans h.res⟩
theorem byte_40 (c : UInt8) : ((c.toNat : Int) == 40) = (c == 40) := by
  rw [Bool.eq_iff_iff, beq_iff_eq, beq_iff_eq]
  exact ⟨fun e => UInt8.toNat_inj.1 (show c.toNat = 40 by omega), fun e => by subst e; rfl⟩
theorem byte_41 (c : UInt8) : ((c.toNat : Int) == 41) = (c == 41) := by
  rw [Bool.eq_iff_iff, beq_iff_eq, beq_iff_eq]
  exact ⟨fun e => UInt8.toNat_inj.1 (show c.toNat = 41 by omega), fun e => by subst e; rfl⟩
theorem byte_44 (c : UInt8) : ((c.toNat : Int) == 44) = (c == 44) := by
  rw [Bool.eq_iff_iff, beq_iff_eq, beq_iff_eq]
  exact ⟨fun e => UInt8.toNat_inj.1 (show c.toNat = 44 by omega), fun e => by subst e; rfl⟩
theorem extract_le (s : ByteArray) (k j : Nat) (h : s.size ≤ 1000000) : (s.extract k j).size ≤ maxLen := by
  rw [size_list, extract_list, List.length_drop, List.length_take, ← size_list]; unfold maxLen; omega
theorem list_at (s : ByteArray) (j : Nat) (h : j < s.size) : s.data.toList[j]? = some s[j] := by
  rw [List.getElem?_eq_getElem (by rw [← size_list]; exact h)]; rfl
open Go.RowKit
def L3C (f : Nat) : Prop := ∀ (s : ByteArray) (k : Nat) (w : World), k ≤ s.size → s.size ≤ 1000000 → s.size - k < f →
    Calls Tryz.prog 273 #[.string s, .int .i64 (k : Nat)] w fun e w' => ∃ x, e = .returned x ∧ GotTm 41 f (rTerm s.data.toList f k) w x w'
def ScanRel (s : ByteArray) (k : Nat) (W : World) (i : Value) (wr : World) : Prop := ∃ j, i = .int .i64 (j : Nat) ∧ k ≤ j ∧ j ≤ s.size ∧ (∀ i, k ≤ i → (h : i < j) → (h2 : i < s.size) → wordC s[i] = true) ∧ Below W.heap.size W wr
def LArgRel (s : ByteArray) (n : ByteArray) (f rb bt : Nat) (w : World) (res : Option (Tm × Nat)) (i : Value) (wr : World) : Prop :=
  ∃ (f' e : Nat) (v : Value) (us : List Tm), i = .int .i64 (e : Nat) ∧ LSt 41 rb bt n w f v us wr ∧ f' ≤ f ∧ rArgs s.data.toList n.data.toList f' us e = res ∧ e < s.size ∧ s.size - e < f' ∧ us.length ≤ e
set_option maxRecDepth 100000 in
set_option maxHeartbeats 3200000 in
theorem l3Read_any : ∀ f : Nat, L3C f := by
  intro f
  induction f using Nat.strongRecOn with
  | _ f0 ih =>
    intro s k w hk hs hf
    obtain ⟨f, rfl⟩ : ∃ f, f0 = f + 1 := ⟨f0 - 1, by omega⟩
    have IH := Lib.hid ih
    clear ih
    go_enter Tryz.func273, Tryz.ntmps273
    go_wp2
    go_loopw [6] (ScanRel s k (w.alloc (.cells #[.string ⟨#[]⟩, .slice none 0 0] 41))) (fun i _ => s.size - (intOf i).toNat)
    case atStart => exact ⟨k, rfl, Nat.le_refl _, hk, fun i h1 h2 => absurd h2 (by omega), Below.refl _ _⟩
    case round =>
      obtain ⟨j, rfl, hj1, hj2, hall, hbr⟩ := hrel
      obtain ⟨wa, rfl⟩ : ∃ wa, wa = wr := ⟨_, rfl⟩
      have HALL := Lib.hid hall
      have hqr := hbr.size
      simp at hqr
      have HBR := Lib.hid (show True → _ from fun _ => hbr)
      have HR := (hbr.block w.heap.size (by simp)).trans (heap_alloc_new w _)
      obtain ⟨r0, r1, rf⟩ := cells2_cell HR
      have hr1 := bsz (heap_lt HR)
      clear hall HR hbr
      by_cases hlt : j < s.size
      · have hj3 : (j : Int) < s.size := by omega
        cases hw : wordC s[j]
        · have HSTOP := Lib.hid (show ∀ h : j < s.size, wordC s[j] = false from fun _ => hw)
          have HWD := Lib.hid (show rWordL s.data.toList k = (s.data.toList.drop k).take (j - k) from wordL_at (bad := false) HALL.out hj1 hj2 HSTOP.out)
          have HLL := Lib.hid (show (rWordL s.data.toList k).length = j - k by rw [HWD.out, List.length_take, List.length_drop, ← size_list]; omega)
          by_cases hjk : j = k
          · subst hjk
            have HFIN := Lib.hid (show rTerm s.data.toList (f + 1) j = none by rw [rTerm, HWD.out]; simp)
            go_wp2_with (first | (go_at_call 272; refine (l3Word_any _ _).mono ?_; rintro e w' ⟨rfl, rfl⟩))
            refine bodyPost_ret (v := .tuple #[.agg #[.string ByteArray.empty, .slice none 0 0], .int .i64 (-1)]) (by simp only [results, Tryz.results273]; go_simp) rfl ⟨_, rfl, ?_⟩
            rw [HFIN.out]
            have := LSt.none (f' := f + 1) (LSt.init (n := ByteArray.empty) (f := 0) (HBR.out trivial)) (.string ByteArray.empty) (.slice none 0 0)
            rw [World.setCell_alloc_past _ _ _ _ (show w.heap.size < wa.heap.size by omega), World.setCell_alloc_past _ _ _ _ (by simp; omega)] at this
            exact this
          · have hk1 : ((j : Int) == (k : Int)) = false := by simp; omega
            have HNE := Lib.hid (show (rWordL s.data.toList k).isEmpty = false by
              rw [Bool.eq_false_iff]; intro e; rw [List.isEmpty_iff] at e; have := HLL.out; rw [e] at this; simp at this; omega)
            have HNM := Lib.hid (show (⟨(rWordL s.data.toList k).toArray⟩ : ByteArray) = s.extract k j by
              exact (str_eq (by rw [extract_list, HWD.out, List.drop_take])).symm)
            have HJ := Lib.hid (show k + (rWordL s.data.toList k).length = j by rw [HLL.out]; omega)
            cases h40 : ((s[j].toNat : Int) == 40)
            · have HFIN := Lib.hid (show rTerm s.data.toList (f + 1) k = some (.mk (s.extract k j) [], j) by
                rw [rTerm, HNE.out, HJ.out, HNM.out, list_at s j hlt, if_neg (by simp), if_neg (by
                  intro e; injection e with e; rw [byte_40] at h40; rw [e] at h40; simp at h40)])
              have h40' : ((s[j].toNat : Int) != 40) = true := by rw [bne, h40]; rfl
              go_wp2_with (first | (go_at_call 272; refine (l3Word_any _ _).mono ?_; rintro e w' ⟨rfl, rfl⟩))
              refine bodyPost_ret (v := .tuple #[.agg #[.string (s.extract k j), .slice none 0 0], .int .i64 (j : Nat)]) (by simp only [results, Tryz.results273]; go_simp) rfl ⟨_, rfl, ?_⟩
              rw [HFIN.out]
              have := LSt.done (f := f) (us := []) (LSt.init (HBR.out trivial)) (extract_le s k j hs) (.string (s.extract k j)) (.slice none 0 0) j
              rw [World.setCell_alloc_past _ _ _ _ (show w.heap.size < wa.heap.size by omega), World.setCell_alloc_past _ _ _ _ (by simp; omega)] at this
              exact this
            · have HFIN := Lib.hid (show rTerm s.data.toList (f + 1) k = rArgs s.data.toList (s.extract k j).data.toList f [] j by
                rw [rTerm, HNE.out, HJ.out, list_at s j hlt, if_neg (by simp), if_pos (by
                  rw [byte_40, beq_iff_eq] at h40; rw [h40]), ← HNM.out])
              have h40' : ((s[j].toNat : Int) != 40) = false := by rw [bne, h40]; rfl
              have hq40 : ((j : Int) == (s.size : Int)) = false := by simp; omega
              have HL0 := Lib.hid (LSt.init (n := s.extract k j) (f := f) (HBR.out trivial))
              clear r0 r1 rf
              go_wp2_with (first | (go_at_call 272; refine (l3Word_any _ _).mono ?_; rintro e w' ⟨rfl, rfl⟩))
              go_loopw [6] (LArgRel s (s.extract k j) f w.heap.size wa.heap.size w (rTerm s.data.toList (f + 1) k)) (fun i _ => s.size - (intOf i).toNat)
              case atStart => exact ⟨f, j, _, [], rfl, HL0.out, Nat.le_refl _, HFIN.out.symm, hlt, by omega, Nat.zero_le _⟩
              case round =>
                obtain ⟨f', e, v, us, rfl, hL, hff, hres, he, hfe, hul⟩ := hrel
                have HL := Lib.hid hL
                clear hL HFIN HL0
                obtain ⟨f'', rfl⟩ : ∃ q, f' = q + 1 := ⟨f' - 1, by omega⟩
                rw [rArgs] at hres
                go_wp2_with fail
                rw [show ((e : Int) + 1) = ((e + 1 : Nat) : Int) by omega]
                refine (IH.out f'' (by omega) s (e + 1) _ (by omega) hs (by omega)).mono ?_
                rintro e0 w1 ⟨x, rfl, hb1, s0, p0, k0, c0, z0, rfl, hgot⟩
                have hq1 := hb1.size
                have hlL := HL.out.lt
                have HL1 := Lib.hid (HL.out.later hb1)
                have HL2 := Lib.hid (HL1.out.later ((Below.refl w1.heap.size w1).alloc (Nat.le_refl _) (.cells #[.string s0, .slice p0 k0 c0] 41)))
                obtain ⟨pv, cv, hvv, -⟩ := HL.out.row.form
                subst hvv
                obtain ⟨b0, b1, bf⟩ := cells2_cell HL1.out.cell
                obtain ⟨r0, r1, rf⟩ := cells2_cell HL1.out.res
                have hz1 := bsz (show w.heap.size < w1.heap.size by omega)
                have hz2 := bsz (show wa.heap.size < w1.heap.size by omega)
                cases hr : rTerm s.data.toList f'' (e + 1) with
                | none =>
                  rw [hr] at hgot hres
                  simp only at hgot hres
                  subst hgot
                  have HRES := Lib.hid hres
                  clear hres
                  go_wp2
                  refine bodyPost_ret (v := .tuple #[.agg #[.string (s.extract k j), .slice pv us.length cv], .int .i64 (-1)]) (by simp only [results, Tryz.results273]; go_simp) rfl ⟨_, rfl, ?_⟩
                  rw [← HRES.out]
                  have := LSt.none (f' := f + 1) HL2.out (.string (s.extract k j)) (.slice pv us.length cv)
                  rw [World.setCell_alloc_past _ _ _ _ (show w.heap.size < w1.heap.size by omega), World.setCell_alloc_past _ _ _ _ (by simp; omega)] at this
                  exact this
                | some am =>
                  obtain ⟨a, m⟩ := am
                  rw [hr] at hgot hres
                  simp only at hgot hres
                  obtain ⟨rfl, hO⟩ := hgot
                  have hwt := rTerm_wt s.data.toList f'' (e + 1) a m (by rw [← size_list]; omega) hr
                  rw [← size_list] at hwt
                  have hbW : Below wr.heap.size wr (w1.alloc (.cells #[.string s0, .slice p0 k0 c0] 41)) := by exact bel
                  have HA := Lib.hid (show TmOwn 41 f (fun b => wr.heap.size ≤ b ∧ b < (w1.alloc (.cells #[.string s0, .slice p0 k0 c0] 41)).heap.size) (w1.alloc (.cells #[.string s0, .slice p0 k0 c0] 41)) a [.string s0, .slice p0 k0 c0] from
                    TmOwn.mono f'' f a _ (by omega) (SameOn.below ((Below.refl w1.heap.size w1).alloc (Nat.le_refl _) _)) (fun b hb => ⟨hb.1, by simp; omega⟩) hO)
                  clear hO
                  obtain ⟨hm, vals, Ss, hv1, -⟩ := HL2.out.row
                  have HV := Lib.hid hv1
                  clear hv1 hm
                  have hm0 : ¬ (m : Int) < 0 := by omega
                  by_cases hms : m = s.size
                  · have hms1 : ((m : Int) == (s.size : Int)) = true := by simp; omega
                    have HRES := Lib.hid (show none = rTerm s.data.toList (f + 1) k by rw [← hres, List.getElem?_eq_none (by rw [← size_list]; omega), if_neg (by simp), if_neg (by simp)])
                    clear hres
                    go_wp2
                    refine bodyPost_ret (v := .tuple #[.agg #[.string (s.extract k j), .slice pv us.length cv], .int .i64 (-1)]) (by simp only [results, Tryz.results273]; go_simp) rfl ⟨_, rfl, ?_⟩
                    rw [← HRES.out]
                    have := LSt.none (f' := f + 1) HL2.out (.string (s.extract k j)) (.slice pv us.length cv)
                    rw [World.setCell_alloc_past _ _ _ _ (show w.heap.size < w1.heap.size by omega), World.setCell_alloc_past _ _ _ _ (by simp; omega)] at this
                    exact this
                  have hms1 : ((m : Int) == (s.size : Int)) = false := by simp; omega
                  have hml : m < s.size := by omega
                  have hml1 : (m : Int) < s.size := by omega
                  rw [list_at s m hml] at hres
                  cases h44 : ((s[m].toNat : Int) == 44)
                  · have h44' : ((s[m].toNat : Int) != 44) = true := by rw [bne, h44]; rfl
                    rw [if_neg (by intro e; injection e with e; rw [byte_44, e] at h44; simp at h44)] at hres
                    cases h41 : ((s[m].toNat : Int) == 41)
                    · have h41' : ((s[m].toNat : Int) != 41) = true := by rw [bne, h41]; rfl
                      rw [if_neg (by intro e; injection e with e; rw [byte_41, e] at h41; simp at h41)] at hres
                      have HRES := Lib.hid hres
                      clear hres
                      go_wp2
                      refine bodyPost_ret (v := .tuple #[.agg #[.string (s.extract k j), .slice pv us.length cv], .int .i64 (-1)]) (by simp only [results, Tryz.results273]; go_simp) rfl ⟨_, rfl, ?_⟩
                      rw [← HRES.out]
                      have := LSt.none (f' := f + 1) HL2.out (.string (s.extract k j)) (.slice pv us.length cv)
                      rw [World.setCell_alloc_past _ _ _ _ (show w.heap.size < w1.heap.size by omega), World.setCell_alloc_past _ _ _ _ (by simp; omega)] at this
                      exact this
                    · have h41' : ((s[m].toNat : Int) != 41) = false := by rw [bne, h41]; rfl
                      rw [if_pos (by rw [byte_41, beq_iff_eq] at h41; rw [h41]), ba_eq] at hres
                      have HRES := Lib.hid hres
                      clear hres
                      go_wp2_with (at_builtin; refine wpList_app1 rfl (.tmp 73) (.tmp 75) _ rfl 0 41 2 40 elemTmI _ _ vals rfl (w1.alloc (.cells #[.string s0, .slice p0 k0 c0] 41)) #[.string s0, .slice p0 k0 c0] rfl _ (by simp) rfl HV.out rfl (by simp [Value.oneCell']) (by omega) (by unfold maxLen; omega) (Nat.zero_le _) ?_; intro v3 w3 hown3 hg3 hnr3 hlt3; obtain ⟨⟨q3, c3, rfl⟩, hbt3, hrb3⟩ := HL2.out.three hown3 hg3; obtain ⟨y0, y1, yf⟩ := cells2_cell hbt3; obtain ⟨t0, t1, tf⟩ := cells2_cell hrb3; simp only [World.size_alloc] at hlt3; have hz3 := bsz (show w.heap.size < w3.heap.size by omega); have hz4 := bsz (show wa.heap.size < w3.heap.size by omega); have HL3 := Lib.hid (HL.out.app hbW HA.out HV.out hown3 hg3 hnr3 (by omega)); clear hown3 hg3 hnr3 hbt3 hrb3)
                      refine bodyPost_ret (v := .tuple #[.agg #[.string (s.extract k j), .slice (some ⟨q3, 0, none⟩) (us.length + 1) c3], .int .i64 ((m : Int) + 1)]) (by simp only [results, Tryz.results273]; go_simp) rfl ⟨_, rfl, ?_⟩
                      rw [← HRES.out, show ((m : Int) + 1) = ((m + 1 : Nat) : Int) by omega]
                      exact LSt.done HL3.out (extract_le s k j hs) _ _ (m + 1)
                  · have h44' : ((s[m].toNat : Int) != 44) = false := by rw [bne, h44]; rfl
                    have h41 : ((s[m].toNat : Int) == 41) = false := by
                      rw [byte_44, beq_iff_eq] at h44
                      rw [byte_41, h44]; rfl
                    rw [if_pos (by rw [byte_44, beq_iff_eq] at h44; rw [h44])] at hres
                    have HRES := Lib.hid hres
                    clear hres
                    go_wp2_with (at_builtin; refine wpList_app1 rfl (.tmp 73) (.tmp 75) _ rfl 0 41 2 40 elemTmI _ _ vals rfl (w1.alloc (.cells #[.string s0, .slice p0 k0 c0] 41)) #[.string s0, .slice p0 k0 c0] rfl _ (by simp) rfl HV.out rfl (by simp [Value.oneCell']) (by omega) (by unfold maxLen; omega) (Nat.zero_le _) ?_; intro v3 w3 hown3 hg3 hnr3 hlt3; obtain ⟨⟨q3, c3, rfl⟩, hbt3, hrb3⟩ := HL2.out.three hown3 hg3; obtain ⟨y0, y1, yf⟩ := cells2_cell hbt3; obtain ⟨t0, t1, tf⟩ := cells2_cell hrb3; simp only [World.size_alloc] at hlt3; have hz3 := bsz (show w.heap.size < w3.heap.size by omega); have hz4 := bsz (show wa.heap.size < w3.heap.size by omega); have HL3 := Lib.hid (HL.out.app hbW HA.out HV.out hown3 hg3 hnr3 (by omega)); clear hown3 hg3 hnr3 hbt3 hrb3)
                    refine ⟨⟨f'', m, _, us ++ [a], rfl, HL3.out, by omega, HRES.out, hml, by omega, by simp; omega⟩, by simp [intOf]; omega⟩
        · have HW := Lib.hid hw
          go_wp2_with (first | (go_at_call 272; refine (l3Word_any _ _).mono ?_; rintro e w' ⟨rfl, rfl⟩))
          refine ⟨⟨j + 1, by go_num, by omega, by omega, fun i h1 h2 h3 => ?_, HBR.out trivial⟩, by simp [intOf]; omega⟩
          by_cases e : i = j
          · subst e; exact HW.out
          · exact HALL.out i h1 (by omega) h3
      · have HSTOP := Lib.hid (show ∀ h : j < s.size, wordC s[j] = false from fun h => absurd h hlt)
        have hj3 : ¬ (j : Int) < s.size := by omega
        have HWD := Lib.hid (show rWordL s.data.toList k = (s.data.toList.drop k).take (j - k) from wordL_at (bad := false) HALL.out hj1 hj2 HSTOP.out)
        have HLL := Lib.hid (show (rWordL s.data.toList k).length = j - k by rw [HWD.out, List.length_take, List.length_drop, ← size_list]; omega)
        by_cases hjk : j = k
        · subst hjk
          have HFIN := Lib.hid (show rTerm s.data.toList (f + 1) j = none by rw [rTerm, HWD.out]; simp)
          go_wp2
          refine bodyPost_ret (v := .tuple #[.agg #[.string ByteArray.empty, .slice none 0 0], .int .i64 (-1)]) (by simp only [results, Tryz.results273]; go_simp) rfl ⟨_, rfl, ?_⟩
          rw [HFIN.out]
          have := LSt.none (f' := f + 1) (LSt.init (n := ByteArray.empty) (f := 0) (HBR.out trivial)) (.string ByteArray.empty) (.slice none 0 0)
          rw [World.setCell_alloc_past _ _ _ _ (show w.heap.size < wa.heap.size by omega), World.setCell_alloc_past _ _ _ _ (by simp; omega)] at this
          exact this
        · have hk1 : ((j : Int) == (k : Int)) = false := by simp; omega
          have hk2 : ((j : Int) == (s.size : Int)) = true := by simp; omega
          have HFIN := Lib.hid (show rTerm s.data.toList (f + 1) k = some (.mk (s.extract k j) [], j) by
            have h1 : (rWordL s.data.toList k).isEmpty = false := by
              rw [Bool.eq_false_iff]; intro e; rw [List.isEmpty_iff] at e; have := HLL.out; rw [e] at this; simp at this; omega
            have h2 : (⟨(rWordL s.data.toList k).toArray⟩ : ByteArray) = s.extract k j := by
              exact (str_eq (by rw [extract_list, HWD.out, List.drop_take])).symm
            have h3 : k + (rWordL s.data.toList k).length = j := by rw [HLL.out]; omega
            rw [rTerm, h1, h3, h2, List.getElem?_eq_none (by rw [← size_list]; omega), if_neg (by simp), if_neg (by simp)])
          go_wp2
          refine bodyPost_ret (v := .tuple #[.agg #[.string (s.extract k j), .slice none 0 0], .int .i64 (j : Nat)]) (by simp only [results, Tryz.results273]; go_simp) rfl ⟨_, rfl, ?_⟩
          rw [HFIN.out]
          have := LSt.done (f := f) (us := []) (LSt.init (HBR.out trivial)) (extract_le s k j hs) (.string (s.extract k j)) (.slice none 0 0) j
          rw [World.setCell_alloc_past _ _ _ _ (show w.heap.size < wa.heap.size by omega), World.setCell_alloc_past _ _ _ _ (by simp; omega)] at this
          exact this
end Go.Proofs.YtkgfanajgdelcaaGreatDoor
