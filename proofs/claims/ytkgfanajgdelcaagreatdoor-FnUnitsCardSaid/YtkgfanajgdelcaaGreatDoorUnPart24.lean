import Derived.Test.YtkgfanajgdelcaaGreatDoorUnPart23
namespace Go.Proofs.YtkgfanajgdelcaaGreatDoor
open Go.RowKit
section
variable {P : Program} {ops : Array Oper} {md : Region.Mode} {vs : List (Option Value)} {D : (Nat → Value) → Array Bool → World → Prop}
theorem upd_comm (u : Nat → Value) {i j : Nat} (x y : Value) (h : i ≠ j) : upd (upd u i x) j y = upd (upd u j y) i x := by
  funext k
  unfold upd
  by_cases h1 : k = j
  · by_cases h2 : k = i
    · exact absurd (h2.symm.trans h1) h
    · rw [if_pos h1, if_neg h2, if_pos h1]
  · rw [if_neg h1]
    by_cases h2 : k = i
    · rw [if_pos h2, if_pos h2]
    · rw [if_neg h2, if_neg h2, if_neg h1]
def GV (P : Program) (md : Region.Mode) (ops : Array Oper) (D : (Nat → Value) → Array Bool → World → Prop) (o : Oper) (i : Nat) (a : Act) (u : Nat → Value) : Prop :=
  Region.wanted o (yielded ops a.tmps) = true ∧ ∀ u', (∀ e ∈ o.after, Region.binds md e = true → u' e.on = u e.on) → ∀ L w, L.getD i true = false → Behind md o L → D u' L w → eachUpon P (fun x w' => D (upd u' i x) (L.setIfInBounds i true) w') ((execOp a.eval o).run P w)
theorem GV.eval {o : Oper} {i : Nat} {a a' : Act} {u u' : Nat → Value} (h : GV P md ops D o i a u) (he : execOp a'.eval o = execOp a.eval o) (hw : Region.wanted o (yielded ops a'.tmps) = Region.wanted o (yielded ops a.tmps)) (hu : ∀ e ∈ o.after, Region.binds md e = true → u' e.on = u e.on) : GV P md ops D o i a' u' := by
  unfold GV at *
  rw [he, hw]
  exact ⟨h.1, fun v hv => h.2 v fun e h1 h2 => (hv e h1 h2).trans (hu e h1 h2)⟩
def opV (P : Program) (md : Region.Mode) (ops : Array Oper) (vs : List (Option Value)) (D : (Nat → Value) → Array Bool → World → Prop) (i : Nat) (K : Act → (Nat → Value) → Prop) (a : Act) (u : Nat → Value) : Prop :=
  ∃ o, ops[i]? = some o ∧ ((stB vs i = true ∧ GS P md ops vs D o i a ∧ K (a.put o.dst (baseV vs i)) u) ∨ (stB vs i = false ∧ GV P md ops D o i a u ∧ ∀ x, K (a.put o.dst x) (upd u i x)))
def anyV (P : Program) (md : Region.Mode) (ops : Array Oper) (vs : List (Option Value)) (D : (Nat → Value) → Array Bool → World → Prop) (Q : Array Bool → Act → (Nat → Value) → Prop) : Nat → Array Bool → Act → (Nat → Value) → Prop
  | 0, L, a, u => Region.ready md ops L = [] ∧ Q L a u
  | fuel + 1, L, a, u => (Region.ready md ops L = [] → Q L a u) ∧ ∀ i ∈ Region.ready md ops L, opV P md ops vs D i (anyV P md ops vs D Q fuel (L.setIfInBounds i true)) a u
theorem wpAny_of_anyV {Q : Array Bool → Act → (Nat → Value) → Prop} {Q' : Exit → Act → World → Prop} (hQ : ∀ L a u w, D u L w → Q L a u → Q' .normal a w) : ∀ (fuel : Nat) (L : Array Bool) (a : Act) (u : Nat → Value) (w : World), D u L w →
    anyV P md ops vs D Q fuel L a u → wpAny P md ops Q' fuel L a w
  | 0, _, _, _, _, hw, h => ⟨h.1, hQ _ _ _ _ hw h.2⟩
  | fuel + 1, L, a, u, w, hw, h => by
    refine ⟨fun h0 => hQ _ _ _ _ hw (h.1 h0), fun i hi => ?_⟩
    obtain ⟨o, ho, ⟨hs, hg, hK⟩ | ⟨hs, hg, hK⟩⟩ := h.2 i hi
    · exact wpOp_of_flowOp (C := D u) (K := fun a' => anyV P md ops vs D Q fuel (L.setIfInBounds i true) a' u) hi hw (fun a' w' hw' hK => wpAny_of_anyV hQ fuel _ a' u w' hw' hK) ⟨o, _, ho, hg u, hK⟩
    · obtain ⟨hun, oj, hoj, hall⟩ := mem_ready.1 hi
      obtain rfl : oj = o := Option.some.inj (hoj.symm.trans ho)
      have hbe : Behind md oj L := fun e he hb => by simpa using hall e he hb
      have h3 := hg.2 u (fun _ _ _ => rfl) L w hun hbe hw
      unfold wpOp
      simp only [ho]
      rw [if_pos hg.1]
      refine .inl ?_
      unfold Oper.wp
      generalize (execOp a.eval oj).run P w = r at *
      cases r with
      | ok n w' =>
        cases n <;> simp only [eachUpon] at h3 <;> simp only [Oper.upon]
        case value x => exact wpAny_of_anyV hQ fuel _ _ _ _ h3 (hK x)
        case skip => exact wpAny_of_anyV hQ fuel _ _ _ _ h3 (hK undef)
        case enter f args => exact h3.mono fun e w'' ⟨x, he, hw''⟩ => by subst he; exact wpAny_of_anyV hQ fuel _ _ _ _ hw'' (hK x)
      | halt x w' => simp only [eachUpon] at h3
theorem anyV_firstS {Q : Array Bool → Act → (Nat → Value) → Prop} {i : Nat} {oi : Oper} (hi : ops[i]? = some oi) (hst : stB vs i = true) (hsel : ∀ (j : Nat) (o : Oper) cs b, ops[j]? = some o → o.op ≠ .select cs b) :
    ∀ (fuel : Nat) (L : Array Bool) (a : Act) (u : Nat → Value),
      (∀ j oj, ops[j]? = some oj → j ≠ i → L.getD j true = false → (∀ e ∈ oj.after, Region.binds md e = true → e.on ≠ i) → oi.apart ops oj = true) →
      i ∈ Region.ready md ops L → GS P md ops vs D oi i a →
      anyV P md ops vs D Q fuel (L.setIfInBounds i true) (a.put oi.dst (baseV vs i)) u → anyV P md ops vs D Q (fuel + 1) L a u := by
  intro fuel
  induction fuel with
  | zero =>
    intro L a u _ hr hy H
    refine ⟨fun h => (by rw [h] at hr; cases hr), fun j hj => ?_⟩
    by_cases hji : j = i
    · subst hji; exact ⟨oi, hi, .inl ⟨hst, hy, H⟩⟩
    · have := ready_mono hj hji
      rw [H.1] at this
      cases this
  | succ fuel ih =>
    intro L a u hfree hr hy H
    refine ⟨fun h => (by rw [h] at hr; cases hr), fun j hj => ?_⟩
    by_cases hji : j = i
    · subst hji; exact ⟨oi, hi, .inl ⟨hst, hy, H⟩⟩
    · obtain ⟨hjun, oj, hoj, hall⟩ := mem_ready.1 hj
      have hnot : ∀ e ∈ oj.after, Region.binds md e = true → e.on ≠ i := fun e he hb heq => by
        have h1 := hall e he hb
        have h0 := (mem_ready.1 hr).1
        rw [heq] at h1
        rw [getD_tf h0] at h1; cases h1
      obtain ⟨p1, p2, p3⟩ := Oper.apart_spec (hfree j oj hoj hji hjun hnot)
      have hfree' : ∀ k ok, ops[k]? = some ok → k ≠ i → (L.setIfInBounds j true).getD k true = false →
          (∀ e ∈ ok.after, Region.binds md e = true → e.on ≠ i) → oi.apart ops ok = true := fun k ok hk hki hun hno => by
        refine hfree k ok hk hki ?_ hno
        by_cases hjk : j = k
        · subst hjk; exact hjun
        · rw [getD_set_ne true hjk] at hun; exact hun
      obtain ⟨o, ho, hcase⟩ := H.2 j (ready_mono hj hji)
      obtain rfl : oj = o := Option.some.inj (hoj.symm.trans ho)
      have hej := execOp_put oj (fun cs b => hsel j oj cs b hoj) a oi.dst (baseV vs i) p1
      have hwj := wanted_put (ops := ops) oj a oi.dst (baseV vs i) p1
      rcases hcase with ⟨hs, hg, hK⟩ | ⟨hs, hg, hK⟩
      · refine ⟨oj, hoj, .inl ⟨hs, hg.eval hej.symm hwj.symm, ih (L.setIfInBounds j true) _ u hfree' (ready_mono hr (Ne.symm hji)) (hy.eval (execOp_put oi (fun cs b => hsel i oi cs b hi) a oj.dst _ p3) (wanted_put oi a oj.dst _ p3)) ?_⟩⟩
        rw [Array.setIfInBounds_comm _ _ hji, ← Act.put_comm a _ _ p2]; exact hK
      · refine ⟨oj, hoj, .inr ⟨hs, hg.eval hej.symm hwj.symm (fun _ _ _ => rfl), fun x => ih (L.setIfInBounds j true) _ _ hfree' (ready_mono hr (Ne.symm hji)) (hy.eval (execOp_put oi (fun cs b => hsel i oi cs b hi) a oj.dst x p3) (wanted_put oi a oj.dst x p3)) ?_⟩⟩
        rw [Array.setIfInBounds_comm _ _ hji, ← Act.put_comm a _ _ p2]; exact hK x
theorem anyV_firstV {Q : Array Bool → Act → (Nat → Value) → Prop} {i : Nat} {oi : Oper} (hi : ops[i]? = some oi) (hst : stB vs i = false) (hsel : ∀ (j : Nat) (o : Oper) cs b, ops[j]? = some o → o.op ≠ .select cs b) :
    ∀ (fuel : Nat) (L : Array Bool) (a : Act) (u : Nat → Value),
      (∀ j oj, ops[j]? = some oj → j ≠ i → L.getD j true = false → (∀ e ∈ oj.after, Region.binds md e = true → e.on ≠ i) → oi.apart ops oj = true) →
      i ∈ Region.ready md ops L → GV P md ops D oi i a u →
      (∀ x, anyV P md ops vs D Q fuel (L.setIfInBounds i true) (a.put oi.dst x) (upd u i x)) → anyV P md ops vs D Q (fuel + 1) L a u := by
  intro fuel
  induction fuel with
  | zero =>
    intro L a u _ hr hy H
    refine ⟨fun h => (by rw [h] at hr; cases hr), fun j hj => ?_⟩
    by_cases hji : j = i
    · subst hji; exact ⟨oi, hi, .inr ⟨hst, hy, H⟩⟩
    · have := ready_mono hj hji
      rw [(H undef).1] at this
      cases this
  | succ fuel ih =>
    intro L a u hfree hr hy H
    refine ⟨fun h => (by rw [h] at hr; cases hr), fun j hj => ?_⟩
    by_cases hji : j = i
    · subst hji; exact ⟨oi, hi, .inr ⟨hst, hy, H⟩⟩
    · obtain ⟨hjun, oj, hoj, hall⟩ := mem_ready.1 hj
      have hnot : ∀ e ∈ oj.after, Region.binds md e = true → e.on ≠ i := fun e he hb heq => by
        have h1 := hall e he hb
        have h0 := (mem_ready.1 hr).1
        rw [heq] at h1
        rw [getD_tf h0] at h1; cases h1
      have hnoti : ∀ e ∈ oi.after, Region.binds md e = true → e.on ≠ j := fun e he hb heq => by
        obtain ⟨_, oi', hoi', hall'⟩ := mem_ready.1 hr
        obtain rfl : oi = oi' := Option.some.inj (hi.symm.trans hoi')
        have h1 := hall' e he hb
        rw [heq] at h1
        rw [getD_tf hjun] at h1; cases h1
      obtain ⟨p1, p2, p3⟩ := Oper.apart_spec (hfree j oj hoj hji hjun hnot)
      have hfree' : ∀ k ok, ops[k]? = some ok → k ≠ i → (L.setIfInBounds j true).getD k true = false →
          (∀ e ∈ ok.after, Region.binds md e = true → e.on ≠ i) → oi.apart ops ok = true := fun k ok hk hki hun hno => by
        refine hfree k ok hk hki ?_ hno
        by_cases hjk : j = k
        · subst hjk; exact hjun
        · rw [getD_set_ne true hjk] at hun; exact hun
      have hej : ∀ x, execOp (a.put oi.dst x).eval oj = execOp a.eval oj := fun x => execOp_put oj (fun cs b => hsel j oj cs b hoj) a oi.dst x p1
      have hwj : ∀ x, Region.wanted oj (yielded ops (a.put oi.dst x).tmps) = Region.wanted oj (yielded ops a.tmps) := fun x => wanted_put (ops := ops) oj a oi.dst x p1
      have hei : ∀ y, execOp (a.put oj.dst y).eval oi = execOp a.eval oi := fun y => execOp_put oi (fun cs b => hsel i oi cs b hi) a oj.dst y p3
      have hwi : ∀ y, Region.wanted oi (yielded ops (a.put oj.dst y).tmps) = Region.wanted oi (yielded ops a.tmps) := fun y => wanted_put (ops := ops) oi a oj.dst y p3
      cases hsj : stB vs j with
      | true =>
        have hx : ∀ x, GS P md ops vs D oj j a ∧ anyV P md ops vs D Q fuel ((L.setIfInBounds i true).setIfInBounds j true) ((a.put oi.dst x).put oj.dst (baseV vs j)) (upd u i x) := fun x => by
          obtain ⟨o, ho, hcase⟩ := (H x).2 j (ready_mono hj hji)
          obtain rfl : oj = o := Option.some.inj (hoj.symm.trans ho)
          rcases hcase with ⟨hs, hg, hK⟩ | ⟨hs, hg, hK⟩
          · exact ⟨hg.eval (hej x).symm (hwj x).symm, hK⟩
          · rw [hs] at hsj; cases hsj
        refine ⟨oj, hoj, .inl ⟨hsj, (hx undef).1, ih (L.setIfInBounds j true) _ u hfree' (ready_mono hr (Ne.symm hji)) (hy.eval (hei _) (hwi _) (fun _ _ _ => rfl)) fun x => ?_⟩⟩
        rw [Array.setIfInBounds_comm _ _ hji, ← Act.put_comm a _ _ p2]; exact (hx x).2
      | false =>
        have hx : ∀ x, GV P md ops D oj j a u ∧ ∀ y, anyV P md ops vs D Q fuel ((L.setIfInBounds i true).setIfInBounds j true) ((a.put oi.dst x).put oj.dst y) (upd (upd u i x) j y) := fun x => by
          obtain ⟨o, ho, hcase⟩ := (H x).2 j (ready_mono hj hji)
          obtain rfl : oj = o := Option.some.inj (hoj.symm.trans ho)
          rcases hcase with ⟨hs, hg, hK⟩ | ⟨hs, hg, hK⟩
          · rw [hs] at hsj; cases hsj
          · exact ⟨hg.eval (hej x).symm (hwj x).symm (fun e h1 h2 => (upd_other u x (hnot e h1 h2)).symm), hK⟩
        refine ⟨oj, hoj, .inr ⟨hsj, (hx undef).1, fun y => ih (L.setIfInBounds j true) _ _ hfree' (ready_mono hr (Ne.symm hji)) (hy.eval (hei y) (hwi y) (fun e h1 h2 => upd_other u y (hnoti e h1 h2))) fun x => ?_⟩⟩
        rw [Array.setIfInBounds_comm _ _ hji, ← Act.put_comm a _ _ p2, ← upd_comm u x y (Ne.symm hji)]; exact (hx x).2 y
def flowV (P : Program) (md : Region.Mode) (ops : Array Oper) (vs : List (Option Value)) (D : (Nat → Value) → Array Bool → World → Prop) (Q : Act → (Nat → Value) → Prop) : Nat → List Oper → Act → (Nat → Value) → Prop
  | _, [], a, u => Q a u
  | k, o :: rest, a, u => (stB vs k = true ∧ GS P md ops vs D o k a ∧ flowV P md ops vs D Q (k + 1) rest (a.put o.dst (baseV vs k)) u) ∨ (stB vs k = false ∧ GV P md ops D o k a u ∧ ∀ x, flowV P md ops vs D Q (k + 1) rest (a.put o.dst x) (upd u k x))
theorem anyV_lex {Q : Act → (Nat → Value) → Prop} (hs : Region.noSelect ops = true) : ∀ (l : List Oper) (k : Nat) (L : Array Bool) (a : Act) (u : Nat → Value), (∀ j, l[j]? = ops[k + j]?) → L.size = ops.size → k + l.length = ops.size → (∀ i, i < k → L.getD i false = true) →
    Region.lexFrom md ops l.length k L = true → flowV P md ops vs D Q k l a u → anyV P md ops vs D (fun L a u => (∀ i, i < ops.size → L.getD i false = true) ∧ Q a u) l.length L a u
  | [], k, _, _, _, _, _, hk, hall, hB, h => ⟨by simpa [Region.lexFrom] using hB, fun i hi => hall i (by simp at hk; omega), h⟩
  | o :: l, k, L, a, u, hl, hz, hk, hall, hB, h => by
    have h0 : ops[k]? = some o := by simpa using (hl 0).symm
    simp only [List.length_cons, Region.lexFrom, Bool.and_eq_true] at hB
    obtain ⟨⟨hr, hf⟩, hB'⟩ := hB
    have hlt : k < L.size := by simp only [List.length_cons] at hk; omega
    have hrk : k ∈ Region.ready md ops L := by simpa using hr
    have next : ∀ a u, flowV P md ops vs D Q (k + 1) l a u → anyV P md ops vs D (fun L a u => (∀ i, i < ops.size → L.getD i false = true) ∧ Q a u) l.length (L.setIfInBounds k true) a u := fun a u hK =>
      anyV_lex hs l (k + 1) _ _ u (fun j => by have := hl (j + 1); simpa [Nat.add_assoc, Nat.add_comm 1 j] using this) (by simpa using hz) (by simp only [List.length_cons] at hk; omega)
        (fun i hi => by
          by_cases hik : i = k
          · subst hik; simp [hlt]
          · rw [getD_set_ne false (Ne.symm hik)]; exact hall i (by omega)) hB' hK
    rcases h with ⟨hst, hy, hK⟩ | ⟨hst, hy, hK⟩
    · exact anyV_firstS h0 hst (Region.noSelect_spec hs) l.length L a u (Region.free_spec h0 hf) hrk hy (next _ _ hK)
    · exact anyV_firstV h0 hst (Region.noSelect_spec hs) l.length L a u (Region.free_spec h0 hf) hrk hy (fun x => next _ _ (hK x))
theorem wp_region_any3 {id : Nat} {Q : Exit → Act → World → Prop} {a : Act} {w : World} {l : List Oper} (vs : List (Option Value)) (D : (Nat → Value) → Array Bool → World → Prop) (hm : P.follows .mixedOrders = true) (hB : Region.lexB .any l.toArray = true)
    (hC : ∀ L : Array Bool, (∀ i, L.getD i false = false) → D (fun _ => undef) L w.drew)
    (h : flowV P .any l.toArray vs D (fun a' u => ∀ L w', (∀ i, i < l.length → L.getD i false = true) → D u L w' → Q .normal a' w') 0 l a (fun _ => undef)) : (Code.region id l.toArray true).wp P Q a w := by
  simp only [Region.lexB, Bool.and_eq_true] at hB
  refine wp_region_any hm (wpAny_of_anyV (vs := vs) (D := D) (Q := fun L a u => (∀ i, i < l.toArray.size → L.getD i false = true) ∧ ∀ L w', (∀ i, i < l.length → L.getD i false = true) → D u L w' → Q .normal a w')
    (fun L a u w' hw' h => h.2 L w' (by simpa using h.1) hw') _ _ _ (fun _ => undef) _ (hC _ (fun i => getD_replicate_none _ _)) ?_)
  have := anyV_lex hB.1 l 0 (Array.replicate l.length false) a (fun _ => undef) (by simp) (by simp) (by simp) (fun i hi => absurd hi (by omega)) (by simpa using hB.2) h
  simpa using this
theorem flowV_st {Q : Act → (Nat → Value) → Prop} {k : Nat} {o : Oper} {rest : List Oper} {a : Act} {u : Nat → Value} (hs : stB vs k = true) (hg : o.guard = none)
    (h1 : ∀ u L w, L.getD k true = false → Behind md o L → D u L w → goesUpon P (D u (L.setIfInBounds k true)) (baseV vs k) ((execOp a.eval o).run P w)) (h2 : flowV P md ops vs D Q (k + 1) rest (a.put o.dst (baseV vs k)) u) : flowV P md ops vs D Q k (o :: rest) a u :=
  .inl ⟨hs, fun u => .inl ⟨by simp [Region.wanted, hg], h1 u⟩, h2⟩
theorem flowV_ch {Q : Act → (Nat → Value) → Prop} {k : Nat} {o : Oper} {rest : List Oper} {a : Act} {u : Nat → Value} (hs : stB vs k = false) (hg : o.guard = none)
    (h1 : ∀ u', (∀ e ∈ o.after, Region.binds md e = true → u' e.on = u e.on) → ∀ L w, L.getD k true = false → Behind md o L → D u' L w → eachUpon P (fun x w' => D (upd u' k x) (L.setIfInBounds k true) w') ((execOp a.eval o).run P w)) (h2 : ∀ x, flowV P md ops vs D Q (k + 1) rest (a.put o.dst x) (upd u k x)) : flowV P md ops vs D Q k (o :: rest) a u :=
  .inr ⟨hs, ⟨by simp [Region.wanted, hg], h1⟩, h2⟩
theorem flowV_nil {Q : Act → (Nat → Value) → Prop} {k : Nat} {a : Act} {u : Nat → Value} (h : Q a u) : flowV P md ops vs D Q k [] a u := h
end
section
variable {α : Type} {lt : α → α → Bool}
def Asc (lt : α → α → Bool) (l : List α) : Prop := l.Pairwise fun a b => lt a b = true
structure Strict (lt : α → α → Bool) : Prop where
  irr : ∀ x, lt x x = false
  tr : ∀ x y z, lt x y = true → lt y z = true → lt x z = true
theorem Strict.asym (h : Strict lt) {x y : α} (hx : lt x y = true) : lt y x = false := by
  cases hy : lt y x with
  | false => rfl
  | true => have := h.tr _ _ _ hx hy; rw [h.irr] at this; cases this
theorem asc_eq (hs : Strict lt) : ∀ a b : List α, Asc lt a → Asc lt b → (∀ z, z ∈ a ↔ z ∈ b) → a = b
  | [], [], _, _, _ => rfl
  | [], y :: b, _, _, h => by have := (h y).2 (List.mem_cons_self ..); cases this
  | x :: a, [], _, _, h => by have := (h x).1 (List.mem_cons_self ..); cases this
  | x :: a, y :: b, ha, hb, h => by
    rw [Asc, List.pairwise_cons] at ha hb
    have hxy : x = y := by
      rcases List.mem_cons.1 ((h x).1 (List.mem_cons_self ..)) with e | h1
      · exact e
      · rcases List.mem_cons.1 ((h y).2 (List.mem_cons_self ..)) with e | h2
        · exact e.symm
        · have h3 := hb.1 x h1
          have h4 := ha.1 y h2
          rw [hs.asym h3] at h4; cases h4
    subst hxy
    congr 1
    refine asc_eq hs a b ha.2 hb.2 fun z => ⟨fun hz => ?_, fun hz => ?_⟩
    · rcases List.mem_cons.1 ((h z).1 (List.mem_cons_of_mem _ hz)) with rfl | h1
      · have := ha.1 z hz; rw [hs.irr] at this; cases this
      · exact h1
    · rcases List.mem_cons.1 ((h z).2 (List.mem_cons_of_mem _ hz)) with rfl | h1
      · have := hb.1 z hz; rw [hs.irr] at this; cases this
      · exact h1
def insG (lt : α → α → Bool) (l : List α) (x : α) : List α := l.takeWhile (fun y => lt y x) ++ x :: l.dropWhile (fun y => lt y x)
def canG (lt : α → α → Bool) (l : List α) : List α := l.foldl (insG lt) []
theorem mem_insG {l : List α} {x z : α} : z ∈ insG lt l x ↔ z = x ∨ z ∈ l := by
  rw [insG, List.mem_append, List.mem_cons]
  constructor
  · rintro (h | h | h)
    · exact .inr (List.takeWhile_subset _ h)
    · exact .inl h
    · exact .inr (List.dropWhile_subset _ h)
  · rintro (h | h)
    · exact .inr (.inl h)
    · rw [← List.takeWhile_append_dropWhile (p := fun y => lt y x) (l := l), List.mem_append] at h
      exact h.elim .inl (fun h => .inr (.inr h))
theorem insG_len (l : List α) (x : α) : (insG lt l x).length = l.length + 1 := by
  have := congrArg List.length (List.takeWhile_append_dropWhile (p := fun y => lt y x) (l := l))
  rw [List.length_append] at this
  rw [insG, List.length_append, List.length_cons]; omega
theorem mem_foldG {z : α} : ∀ (l out : List α), z ∈ l.foldl (insG lt) out ↔ z ∈ out ∨ z ∈ l
  | [], out => by simp
  | x :: l, out => by
    rw [List.foldl_cons, mem_foldG l, mem_insG, List.mem_cons]
    constructor
    · rintro ((h | h) | h)
      · exact .inr (.inl h)
      · exact .inl h
      · exact .inr (.inr h)
    · rintro (h | h | h)
      · exact .inl (.inr h)
      · exact .inl (.inl h)
      · exact .inr h
theorem mem_canG {z : α} {l : List α} : z ∈ canG lt l ↔ z ∈ l := by rw [canG, mem_foldG]; simp
theorem foldG_len : ∀ (l out : List α), (l.foldl (insG lt) out).length = out.length + l.length
  | [], out => by simp
  | x :: l, out => by rw [List.foldl_cons, foldG_len l, insG_len, List.length_cons]; omega
theorem canG_len (l : List α) : (canG lt l).length = l.length := by rw [canG, foldG_len]; simp
theorem canG_take {l : List α} {i : Nat} (h : i < l.length) : canG lt (l.take (i + 1)) = insG lt (canG lt (l.take i)) l[i] := by
  rw [List.take_succ_eq_append_getElem h, canG, List.foldl_append]; rfl
theorem asc_while (hs : Strict lt) : ∀ {l : List α} {x : α}, Asc lt l → ∀ y ∈ l.dropWhile (fun y => lt y x), lt y x = false
  | [], _, _, y, hy => by cases hy
  | a :: l, x, h, y, hy => by
    rw [Asc, List.pairwise_cons] at h
    rw [List.dropWhile_cons] at hy
    split at hy
    · exact asc_while hs h.2 y hy
    · rename_i hax
      have hax : lt a x = false := by simpa using hax
      rcases List.mem_cons.1 hy with rfl | hy
      · exact hax
      · cases hyx : lt y x with
        | false => rfl
        | true => have := hs.tr _ _ _ (h.1 y hy) hyx; rw [hax] at this; cases this
theorem insG_asc (hs : Strict lt) {l : List α} {x : α} (h : Asc lt l) (ht : ∀ y ∈ l, lt y x = true ∨ lt x y = true) : Asc lt (insG lt l x) := by
  have hsub := List.takeWhile_append_dropWhile (p := fun y => lt y x) (l := l)
  have hp : Asc lt (l.takeWhile (fun y => lt y x) ++ l.dropWhile (fun y => lt y x)) := by rw [hsub]; exact h
  rw [Asc, List.pairwise_append] at hp
  obtain ⟨h1, h2, h3⟩ := hp
  have ha : ∀ y ∈ l.takeWhile (fun y => lt y x), lt y x = true := fun y hy => by
    have := List.all_takeWhile (p := fun y => lt y x) (l := l)
    exact List.all_eq_true.1 this y hy
  rw [insG, Asc, List.pairwise_append, List.pairwise_cons]
  refine ⟨h1, ⟨fun y hy => ?_, h2⟩, fun a hm b hb => ?_⟩
  · rcases ht y (List.dropWhile_subset _ hy) with h | h
    · rw [asc_while hs ‹Asc lt l› y hy] at h; cases h
    · exact h
  · rcases List.mem_cons.1 hb with rfl | hb
    · exact ha a hm
    · exact h3 a hm b hb
theorem foldG_asc (hs : Strict lt) : ∀ (l out : List α), Asc lt out → (∀ x ∈ l, ∀ y ∈ out, lt y x = true ∨ lt x y = true) → l.Pairwise (fun a b => lt a b = true ∨ lt b a = true) → Asc lt (l.foldl (insG lt) out)
  | [], out, h, _, _ => h
  | x :: l, out, h, ht, hp => by
    rw [List.pairwise_cons] at hp
    rw [List.foldl_cons]
    refine foldG_asc hs l _ (insG_asc hs h (ht x (List.mem_cons_self ..))) (fun z hz y hy => ?_) hp.2
    rcases mem_insG.1 hy with rfl | hy
    · exact hp.1 z hz
    · exact ht z (List.mem_cons_of_mem _ hz) y hy
theorem canG_asc (hs : Strict lt) {l : List α} (hp : l.Pairwise (fun a b => lt a b = true ∨ lt b a = true)) : Asc lt (canG lt l) := foldG_asc hs l [] List.Pairwise.nil (by simp) hp
theorem insG_at (x : α) : ∀ (P : List α) (j : Nat), (∀ y ∈ P.take j, lt y x = true) → (∀ y ∈ P.drop j, lt y x = false) → insG lt P x = P.take j ++ x :: P.drop j
  | [], j, _, _ => by simp [insG]
  | p :: P, 0, _, h2 => by
    have := h2 p (by simp)
    simp [insG, this]
  | p :: P, j + 1, h1, h2 => by
    have hp := h1 p (by simp)
    have ih := insG_at x P j (fun y hy => h1 y (by rw [List.take_succ_cons]; exact List.mem_cons_of_mem _ hy)) (fun y hy => h2 y (by rw [List.drop_succ_cons]; exact hy))
    rw [insG] at ih
    rw [insG, List.takeWhile_cons, List.dropWhile_cons, hp]
    simp only [if_true, List.cons_append, List.take_succ_cons, List.drop_succ_cons]
    rw [ih]
theorem sort_stop (hs : Strict lt) {P : List α} {x : α} {j : Nat} (hP : Asc lt P) (hj : j ≤ P.length) (hd : ∀ y ∈ P.drop j, lt x y = true) (ht : ∀ y ∈ P, lt y x = true ∨ lt x y = true)
    (hstop : j = 0 ∨ ∃ h : j - 1 < P.length, lt x P[j - 1] = false) : insG lt P x = P.take j ++ x :: P.drop j := by
  refine insG_at x P j (fun y hy => ?_) (fun y hy => hs.asym (hd y hy))
  rcases hstop with rfl | ⟨hlt, hst⟩
  · simp at hy
  by_cases hj0 : j = 0
  · subst hj0; simp at hy
  have hz : lt P[j - 1] x = true := by
    rcases ht _ (List.getElem_mem hlt) with h | h
    · exact h
    · rw [hst] at h; cases h
  obtain ⟨i, hi, rfl⟩ := List.getElem_of_mem hy
  rw [List.length_take] at hi
  rw [List.getElem_take]
  by_cases he : i = j - 1
  · subst he; exact hz
  · exact hs.tr _ _ _ (List.pairwise_iff_getElem.1 hP i (j - 1) (by omega) hlt (by omega)) hz
end
theorem strictS : Strict lessB := ⟨fun _ => less_irrefl _, fun _ _ _ => less_trans _ _ _⟩
theorem triS {x y : ByteArray} (h : x ≠ y) : lessB x y = true ∨ lessB y x = true := by
  have := less_total x.data.toList y.data.toList
  rw [lessB, lessB]
  cases hy : Op.bytesLess y.data.toList x.data.toList with
  | true => exact .inr rfl
  | false =>
    rw [hy, Bool.false_or] at this
    left
    rw [this]
    simp only [Bool.not_eq_true', beq_eq_false_iff_ne]
    exact fun e => h (ByteArray.ext (Array.toList_inj.1 e.symm))
theorem nodup_tri {l : List ByteArray} (h : l.Nodup) : l.Pairwise (fun a b => lessB a b = true ∨ lessB b a = true) := h.imp fun h => triS h
def lessU (u v : Un) : Bool := lessB u.name v.name
theorem strictU : Strict lessU := ⟨fun _ => less_irrefl _, fun _ _ _ => less_trans _ _ _⟩
end Go.Proofs.YtkgfanajgdelcaaGreatDoor
