import Derived.Maps.StringElems
import Derived.Laws.Cover1
import Derived.Test.YtmbkjdkjemlfkaaGreatDoorDfPart13
namespace Go.Proofs.YtmbkjdkjemlfkaaGreatDoor
set_option maxRecDepth 100000
open Go.RowKit
section
variable {P : Program} {ops : Array Oper} {md : Region.Mode} {vs : List (Option Value)} {D : (Nat → Value) → Array Bool → World → Prop}
theorem upd_comm (u : Nat → Value) {i j : Nat} (x y : Value) (h : i ≠ j) : upd (upd u i x) j y = upd (upd u j y) i x := by
  funext k
  unfold upd
  by_cases h1 : k = j
  · by_cases h2 : k = i
    · exact absurd (h2.symm.trans h1) h
    · rw [if_pos h1, if_neg h2, if_pos h1]
  · rw [if_neg h1]
    by_cases h2 : k = i
    · rw [if_pos h2, if_pos h2]
    · rw [if_neg h2, if_neg h2, if_neg h1]
def GV (P : Program) (md : Region.Mode) (ops : Array Oper) (D : (Nat → Value) → Array Bool → World → Prop) (o : Oper) (i : Nat) (a : Act) (u : Nat → Value) : Prop :=
  Region.wanted o (yielded ops a.tmps) = true ∧ ∀ u', (∀ e ∈ o.after, Region.binds md e = true → u' e.on = u e.on) → ∀ L w, L.getD i true = false → Behind md o L → D u' L w → eachUpon P (fun x w' => D (upd u' i x) (L.setIfInBounds i true) w') ((execOp a.eval o).run P w)
theorem GV.eval {o : Oper} {i : Nat} {a a' : Act} {u u' : Nat → Value} (h : GV P md ops D o i a u) (he : execOp a'.eval o = execOp a.eval o) (hw : Region.wanted o (yielded ops a'.tmps) = Region.wanted o (yielded ops a.tmps)) (hu : ∀ e ∈ o.after, Region.binds md e = true → u' e.on = u e.on) : GV P md ops D o i a' u' := by
  unfold GV at *
  rw [he, hw]
  exact ⟨h.1, fun v hv => h.2 v fun e h1 h2 => (hv e h1 h2).trans (hu e h1 h2)⟩
def opV (P : Program) (md : Region.Mode) (ops : Array Oper) (vs : List (Option Value)) (D : (Nat → Value) → Array Bool → World → Prop) (i : Nat) (K : Act → (Nat → Value) → Prop) (a : Act) (u : Nat → Value) : Prop :=
  ∃ o, ops[i]? = some o ∧ ((stB vs i = true ∧ GS P md ops vs D o i a ∧ K (a.put o.dst (baseV vs i)) u) ∨ (stB vs i = false ∧ GV P md ops D o i a u ∧ ∀ x, K (a.put o.dst x) (upd u i x)))
def anyV (P : Program) (md : Region.Mode) (ops : Array Oper) (vs : List (Option Value)) (D : (Nat → Value) → Array Bool → World → Prop) (Q : Array Bool → Act → (Nat → Value) → Prop) : Nat → Array Bool → Act → (Nat → Value) → Prop
  | 0, L, a, u => Region.ready md ops L = [] ∧ Q L a u
  | fuel + 1, L, a, u => (Region.ready md ops L = [] → Q L a u) ∧ ∀ i ∈ Region.ready md ops L, opV P md ops vs D i (anyV P md ops vs D Q fuel (L.setIfInBounds i true)) a u
theorem wpAny_of_anyV {Q : Array Bool → Act → (Nat → Value) → Prop} {Q' : Exit → Act → World → Prop} (hQ : ∀ L a u w, D u L w → Q L a u → Q' .normal a w) : ∀ (fuel : Nat) (L : Array Bool) (a : Act) (u : Nat → Value) (w : World), D u L w →
    anyV P md ops vs D Q fuel L a u → wpAny P md ops Q' fuel L a w
  | 0, _, _, _, _, hw, h => ⟨h.1, hQ _ _ _ _ hw h.2⟩
  | fuel + 1, L, a, u, w, hw, h => by
    refine ⟨fun h0 => hQ _ _ _ _ hw (h.1 h0), fun i hi => ?_⟩
    obtain ⟨o, ho, ⟨hs, hg, hK⟩ | ⟨hs, hg, hK⟩⟩ := h.2 i hi
    · exact wpOp_of_flowOp (C := D u) (K := fun a' => anyV P md ops vs D Q fuel (L.setIfInBounds i true) a' u) hi hw (fun a' w' hw' hK => wpAny_of_anyV hQ fuel _ a' u w' hw' hK) ⟨o, _, ho, hg u, hK⟩
    · obtain ⟨hun, oj, hoj, hall⟩ := mem_ready.1 hi
      obtain rfl : oj = o := Option.some.inj (hoj.symm.trans ho)
      have hbe : Behind md oj L := fun e he hb => by simpa using hall e he hb
      have h3 := hg.2 u (fun _ _ _ => rfl) L w hun hbe hw
      unfold wpOp
      simp only [ho]
      rw [if_pos hg.1]
      refine .inl ?_
      unfold Oper.wp
      generalize (execOp a.eval oj).run P w = r at *
      cases r with
      | ok n w' =>
        cases n <;> simp only [eachUpon] at h3 <;> simp only [Oper.upon]
        case value x => exact wpAny_of_anyV hQ fuel _ _ _ _ h3 (hK x)
        case skip => exact wpAny_of_anyV hQ fuel _ _ _ _ h3 (hK undef)
        case enter f args => exact h3.mono fun e w'' ⟨x, he, hw''⟩ => by subst he; exact wpAny_of_anyV hQ fuel _ _ _ _ hw'' (hK x)
      | halt x w' => simp only [eachUpon] at h3
theorem anyV_firstS {Q : Array Bool → Act → (Nat → Value) → Prop} {i : Nat} {oi : Oper} (hi : ops[i]? = some oi) (hst : stB vs i = true) (hsel : ∀ (j : Nat) (o : Oper) cs b, ops[j]? = some o → o.op ≠ .select cs b) :
    ∀ (fuel : Nat) (L : Array Bool) (a : Act) (u : Nat → Value),
      (∀ j oj, ops[j]? = some oj → j ≠ i → L.getD j true = false → (∀ e ∈ oj.after, Region.binds md e = true → e.on ≠ i) → oi.apart ops oj = true) →
      i ∈ Region.ready md ops L → GS P md ops vs D oi i a →
      anyV P md ops vs D Q fuel (L.setIfInBounds i true) (a.put oi.dst (baseV vs i)) u → anyV P md ops vs D Q (fuel + 1) L a u := by
  intro fuel
  induction fuel with
  | zero =>
    intro L a u _ hr hy H
    refine ⟨fun h => (by rw [h] at hr; cases hr), fun j hj => ?_⟩
    by_cases hji : j = i
    · subst hji; exact ⟨oi, hi, .inl ⟨hst, hy, H⟩⟩
    · have := ready_mono hj hji
      rw [H.1] at this
      cases this
  | succ fuel ih =>
    intro L a u hfree hr hy H
    refine ⟨fun h => (by rw [h] at hr; cases hr), fun j hj => ?_⟩
    by_cases hji : j = i
    · subst hji; exact ⟨oi, hi, .inl ⟨hst, hy, H⟩⟩
    · obtain ⟨hjun, oj, hoj, hall⟩ := mem_ready.1 hj
      have hnot : ∀ e ∈ oj.after, Region.binds md e = true → e.on ≠ i := fun e he hb heq => by
        have h1 := hall e he hb
        have h0 := (mem_ready.1 hr).1
        rw [heq] at h1
        rw [getD_tf h0] at h1; cases h1
      obtain ⟨p1, p2, p3⟩ := Oper.apart_spec (hfree j oj hoj hji hjun hnot)
      have hfree' : ∀ k ok, ops[k]? = some ok → k ≠ i → (L.setIfInBounds j true).getD k true = false →
          (∀ e ∈ ok.after, Region.binds md e = true → e.on ≠ i) → oi.apart ops ok = true := fun k ok hk hki hun hno => by
        refine hfree k ok hk hki ?_ hno
        by_cases hjk : j = k
        · subst hjk; exact hjun
        · rw [getD_set_ne true hjk] at hun; exact hun
      obtain ⟨o, ho, hcase⟩ := H.2 j (ready_mono hj hji)
      obtain rfl : oj = o := Option.some.inj (hoj.symm.trans ho)
      have hej := execOp_put oj (fun cs b => hsel j oj cs b hoj) a oi.dst (baseV vs i) p1
      have hwj := wanted_put (ops := ops) oj a oi.dst (baseV vs i) p1
      rcases hcase with ⟨hs, hg, hK⟩ | ⟨hs, hg, hK⟩
      · refine ⟨oj, hoj, .inl ⟨hs, hg.eval hej.symm hwj.symm, ih (L.setIfInBounds j true) _ u hfree' (ready_mono hr (Ne.symm hji)) (hy.eval (execOp_put oi (fun cs b => hsel i oi cs b hi) a oj.dst _ p3) (wanted_put oi a oj.dst _ p3)) ?_⟩⟩
        rw [Array.setIfInBounds_comm _ _ hji, ← Act.put_comm a _ _ p2]; exact hK
      · refine ⟨oj, hoj, .inr ⟨hs, hg.eval hej.symm hwj.symm (fun _ _ _ => rfl), fun x => ih (L.setIfInBounds j true) _ _ hfree' (ready_mono hr (Ne.symm hji)) (hy.eval (execOp_put oi (fun cs b => hsel i oi cs b hi) a oj.dst x p3) (wanted_put oi a oj.dst x p3)) ?_⟩⟩
        rw [Array.setIfInBounds_comm _ _ hji, ← Act.put_comm a _ _ p2]; exact hK x
theorem anyV_firstV {Q : Array Bool → Act → (Nat → Value) → Prop} {i : Nat} {oi : Oper} (hi : ops[i]? = some oi) (hst : stB vs i = false) (hsel : ∀ (j : Nat) (o : Oper) cs b, ops[j]? = some o → o.op ≠ .select cs b) :
    ∀ (fuel : Nat) (L : Array Bool) (a : Act) (u : Nat → Value),
      (∀ j oj, ops[j]? = some oj → j ≠ i → L.getD j true = false → (∀ e ∈ oj.after, Region.binds md e = true → e.on ≠ i) → oi.apart ops oj = true) →
      i ∈ Region.ready md ops L → GV P md ops D oi i a u →
      (∀ x, anyV P md ops vs D Q fuel (L.setIfInBounds i true) (a.put oi.dst x) (upd u i x)) → anyV P md ops vs D Q (fuel + 1) L a u := by
  intro fuel
  induction fuel with
  | zero =>
    intro L a u _ hr hy H
    refine ⟨fun h => (by rw [h] at hr; cases hr), fun j hj => ?_⟩
    by_cases hji : j = i
    · subst hji; exact ⟨oi, hi, .inr ⟨hst, hy, H⟩⟩
    · have := ready_mono hj hji
      rw [(H undef).1] at this
      cases this
  | succ fuel ih =>
    intro L a u hfree hr hy H
    refine ⟨fun h => (by rw [h] at hr; cases hr), fun j hj => ?_⟩
    by_cases hji : j = i
    · subst hji; exact ⟨oi, hi, .inr ⟨hst, hy, H⟩⟩
    · obtain ⟨hjun, oj, hoj, hall⟩ := mem_ready.1 hj
      have hnot : ∀ e ∈ oj.after, Region.binds md e = true → e.on ≠ i := fun e he hb heq => by
        have h1 := hall e he hb
        have h0 := (mem_ready.1 hr).1
        rw [heq] at h1
        rw [getD_tf h0] at h1; cases h1
      have hnoti : ∀ e ∈ oi.after, Region.binds md e = true → e.on ≠ j := fun e he hb heq => by
        obtain ⟨_, oi', hoi', hall'⟩ := mem_ready.1 hr
        obtain rfl : oi = oi' := Option.some.inj (hi.symm.trans hoi')
        have h1 := hall' e he hb
        rw [heq] at h1
        rw [getD_tf hjun] at h1; cases h1
      obtain ⟨p1, p2, p3⟩ := Oper.apart_spec (hfree j oj hoj hji hjun hnot)
      have hfree' : ∀ k ok, ops[k]? = some ok → k ≠ i → (L.setIfInBounds j true).getD k true = false →
          (∀ e ∈ ok.after, Region.binds md e = true → e.on ≠ i) → oi.apart ops ok = true := fun k ok hk hki hun hno => by
        refine hfree k ok hk hki ?_ hno
        by_cases hjk : j = k
        · subst hjk; exact hjun
        · rw [getD_set_ne true hjk] at hun; exact hun
      have hej : ∀ x, execOp (a.put oi.dst x).eval oj = execOp a.eval oj := fun x => execOp_put oj (fun cs b => hsel j oj cs b hoj) a oi.dst x p1
      have hwj : ∀ x, Region.wanted oj (yielded ops (a.put oi.dst x).tmps) = Region.wanted oj (yielded ops a.tmps) := fun x => wanted_put (ops := ops) oj a oi.dst x p1
      have hei : ∀ y, execOp (a.put oj.dst y).eval oi = execOp a.eval oi := fun y => execOp_put oi (fun cs b => hsel i oi cs b hi) a oj.dst y p3
      have hwi : ∀ y, Region.wanted oi (yielded ops (a.put oj.dst y).tmps) = Region.wanted oi (yielded ops a.tmps) := fun y => wanted_put (ops := ops) oi a oj.dst y p3
      cases hsj : stB vs j with
      | true =>
        have hx : ∀ x, GS P md ops vs D oj j a ∧ anyV P md ops vs D Q fuel ((L.setIfInBounds i true).setIfInBounds j true) ((a.put oi.dst x).put oj.dst (baseV vs j)) (upd u i x) := fun x => by
          obtain ⟨o, ho, hcase⟩ := (H x).2 j (ready_mono hj hji)
          obtain rfl : oj = o := Option.some.inj (hoj.symm.trans ho)
          rcases hcase with ⟨hs, hg, hK⟩ | ⟨hs, hg, hK⟩
          · exact ⟨hg.eval (hej x).symm (hwj x).symm, hK⟩
          · rw [hs] at hsj; cases hsj
        refine ⟨oj, hoj, .inl ⟨hsj, (hx undef).1, ih (L.setIfInBounds j true) _ u hfree' (ready_mono hr (Ne.symm hji)) (hy.eval (hei _) (hwi _) (fun _ _ _ => rfl)) fun x => ?_⟩⟩
        rw [Array.setIfInBounds_comm _ _ hji, ← Act.put_comm a _ _ p2]; exact (hx x).2
      | false =>
        have hx : ∀ x, GV P md ops D oj j a u ∧ ∀ y, anyV P md ops vs D Q fuel ((L.setIfInBounds i true).setIfInBounds j true) ((a.put oi.dst x).put oj.dst y) (upd (upd u i x) j y) := fun x => by
          obtain ⟨o, ho, hcase⟩ := (H x).2 j (ready_mono hj hji)
          obtain rfl : oj = o := Option.some.inj (hoj.symm.trans ho)
          rcases hcase with ⟨hs, hg, hK⟩ | ⟨hs, hg, hK⟩
          · rw [hs] at hsj; cases hsj
          · exact ⟨hg.eval (hej x).symm (hwj x).symm (fun e h1 h2 => (upd_other u x (hnot e h1 h2)).symm), hK⟩
        refine ⟨oj, hoj, .inr ⟨hsj, (hx undef).1, fun y => ih (L.setIfInBounds j true) _ _ hfree' (ready_mono hr (Ne.symm hji)) (hy.eval (hei y) (hwi y) (fun e h1 h2 => upd_other u y (hnoti e h1 h2))) fun x => ?_⟩⟩
        rw [Array.setIfInBounds_comm _ _ hji, ← Act.put_comm a _ _ p2, ← upd_comm u x y (Ne.symm hji)]; exact (hx x).2 y
def flowV (P : Program) (md : Region.Mode) (ops : Array Oper) (vs : List (Option Value)) (D : (Nat → Value) → Array Bool → World → Prop) (Q : Act → (Nat → Value) → Prop) : Nat → List Oper → Act → (Nat → Value) → Prop
  | _, [], a, u => Q a u
  | k, o :: rest, a, u => (stB vs k = true ∧ GS P md ops vs D o k a ∧ flowV P md ops vs D Q (k + 1) rest (a.put o.dst (baseV vs k)) u) ∨ (stB vs k = false ∧ GV P md ops D o k a u ∧ ∀ x, flowV P md ops vs D Q (k + 1) rest (a.put o.dst x) (upd u k x))
theorem anyV_lex {Q : Act → (Nat → Value) → Prop} (hs : Region.noSelect ops = true) : ∀ (l : List Oper) (k : Nat) (L : Array Bool) (a : Act) (u : Nat → Value), (∀ j, l[j]? = ops[k + j]?) → L.size = ops.size → k + l.length = ops.size → (∀ i, i < k → L.getD i false = true) →
    Region.lexFrom md ops l.length k L = true → flowV P md ops vs D Q k l a u → anyV P md ops vs D (fun L a u => (∀ i, i < ops.size → L.getD i false = true) ∧ Q a u) l.length L a u
  | [], k, _, _, _, _, _, hk, hall, hB, h => ⟨by simpa [Region.lexFrom] using hB, fun i hi => hall i (by simp at hk; omega), h⟩
  | o :: l, k, L, a, u, hl, hz, hk, hall, hB, h => by
    have h0 : ops[k]? = some o := by simpa using (hl 0).symm
    simp only [List.length_cons, Region.lexFrom, Bool.and_eq_true] at hB
    obtain ⟨⟨hr, hf⟩, hB'⟩ := hB
    have hlt : k < L.size := by simp only [List.length_cons] at hk; omega
    have hrk : k ∈ Region.ready md ops L := by simpa using hr
    have next : ∀ a u, flowV P md ops vs D Q (k + 1) l a u → anyV P md ops vs D (fun L a u => (∀ i, i < ops.size → L.getD i false = true) ∧ Q a u) l.length (L.setIfInBounds k true) a u := fun a u hK =>
      anyV_lex hs l (k + 1) _ _ u (fun j => by have := hl (j + 1); simpa [Nat.add_assoc, Nat.add_comm 1 j] using this) (by simpa using hz) (by simp only [List.length_cons] at hk; omega)
        (fun i hi => by
          by_cases hik : i = k
          · subst hik; simp [hlt]
          · rw [getD_set_ne false (Ne.symm hik)]; exact hall i (by omega)) hB' hK
    rcases h with ⟨hst, hy, hK⟩ | ⟨hst, hy, hK⟩
    · exact anyV_firstS h0 hst (Region.noSelect_spec hs) l.length L a u (Region.free_spec h0 hf) hrk hy (next _ _ hK)
    · exact anyV_firstV h0 hst (Region.noSelect_spec hs) l.length L a u (Region.free_spec h0 hf) hrk hy (fun x => next _ _ (hK x))
theorem wp_region_any3 {id : Nat} {Q : Exit → Act → World → Prop} {a : Act} {w : World} {l : List Oper} (vs : List (Option Value)) (D : (Nat → Value) → Array Bool → World → Prop) (hm : P.follows .mixedOrders = true) (hB : Region.lexB .any l.toArray = true)
    (hC : ∀ L : Array Bool, (∀ i, L.getD i false = false) → D (fun _ => undef) L w.drew)
    (h : flowV P .any l.toArray vs D (fun a' u => ∀ L w', (∀ i, i < l.length → L.getD i false = true) → D u L w' → Q .normal a' w') 0 l a (fun _ => undef)) : (Code.region id l.toArray true).wp P Q a w := by
  simp only [Region.lexB, Bool.and_eq_true] at hB
  refine wp_region_any hm (wpAny_of_anyV (vs := vs) (D := D) (Q := fun L a u => (∀ i, i < l.toArray.size → L.getD i false = true) ∧ ∀ L w', (∀ i, i < l.length → L.getD i false = true) → D u L w' → Q .normal a w')
    (fun L a u w' hw' h => h.2 L w' (by simpa using h.1) hw') _ _ _ (fun _ => undef) _ (hC _ (fun i => getD_replicate_none _ _)) ?_)
  have := anyV_lex hB.1 l 0 (Array.replicate l.length false) a (fun _ => undef) (by simp) (by simp) (by simp) (fun i hi => absurd hi (by omega)) (by simpa using hB.2) h
  simpa using this
theorem flowV_st {Q : Act → (Nat → Value) → Prop} {k : Nat} {o : Oper} {rest : List Oper} {a : Act} {u : Nat → Value} (hs : stB vs k = true) (hg : o.guard = none)
    (h1 : ∀ u L w, L.getD k true = false → Behind md o L → D u L w → goesUpon P (D u (L.setIfInBounds k true)) (baseV vs k) ((execOp a.eval o).run P w)) (h2 : flowV P md ops vs D Q (k + 1) rest (a.put o.dst (baseV vs k)) u) : flowV P md ops vs D Q k (o :: rest) a u :=
  .inl ⟨hs, fun u => .inl ⟨by simp [Region.wanted, hg], h1 u⟩, h2⟩
theorem flowV_ch {Q : Act → (Nat → Value) → Prop} {k : Nat} {o : Oper} {rest : List Oper} {a : Act} {u : Nat → Value} (hs : stB vs k = false) (hg : o.guard = none)
    (h1 : ∀ u', (∀ e ∈ o.after, Region.binds md e = true → u' e.on = u e.on) → ∀ L w, L.getD k true = false → Behind md o L → D u' L w → eachUpon P (fun x w' => D (upd u' k x) (L.setIfInBounds k true) w') ((execOp a.eval o).run P w)) (h2 : ∀ x, flowV P md ops vs D Q (k + 1) rest (a.put o.dst x) (upd u k x)) : flowV P md ops vs D Q k (o :: rest) a u :=
  .inr ⟨hs, ⟨by simp [Region.wanted, hg], h1⟩, h2⟩
theorem flowV_nil {Q : Act → (Nat → Value) → Prop} {k : Nat} {a : Act} {u : Nat → Value} (h : Q a u) : flowV P md ops vs D Q k [] a u := h
end
def StrAt (s : ByteArray) (cs : List Value) : Prop := cs = [.string s] ∧ s.size ≤ maxLen
def StrsAt (B : Nat → Prop) (w : World) (v : Value) (xs : List ByteArray) : Prop := ListAt B w 1 StrAt v xs
theorem StrsAt.mono {B B' : Nat → Prop} {w w' : World} {v : Value} {xs : List ByteArray} (hs : SameOn B w w') (hB : ∀ b, B b → B' b) (h : StrsAt B w v xs) : StrsAt B' w' v xs := ListAt.mono h hs hB (fun _ _ _ h => h)
theorem StrsAt.below {B : Nat → Prop} {w w' : World} {v : Value} {xs : List ByteArray} (hb : Below w.heap.size w w') (h : StrsAt B w v xs) : StrsAt B w' v xs := h.mono (SameOn.below hb) (fun _ h => h)
theorem StrsAt.form {B : Nat → Prop} {w : World} {v : Value} {xs : List ByteArray} (h : StrsAt B w v xs) : ∃ p c, v = .slice p xs.length c ∧ xs.length ≤ maxLen := ListAt.form h
theorem StrsAt.at_ {B : Nat → Prop} {w : World} {p : Option Addr} {n c : Nat} {xs : List ByteArray} (h : StrsAt B w (.slice p n c) xs) {i : Nat} (hi : i < xs.length) : ∃ b o, p = some ⟨b, o, none⟩ ∧ B b ∧ w.cell? ⟨b, o + i, none⟩ = some (.string xs[i]) ∧ xs[i].size ≤ maxLen := by
  obtain ⟨b, o, h1, h2, x, h3, h4, h5⟩ := ListAt.at1 h hi
  simp only [List.cons.injEq, and_true] at h4
  subst h4
  exact ⟨b, o, h1, h2, h3, h5⟩
instance lawBA : LawfulBEq ByteArray where
  eq_of_beq {a b} h := by
    have h : ByteArray.beq a b = true := h
    exact ByteArray.ext (by simpa [ByteArray.beq] using h)
  rfl {a} := by
    show ByteArray.beq a a = true
    simp [ByteArray.beq]
def inS (l : List ByteArray) (x : ByteArray) : Bool := decide (x ∈ l)
/-! ### What a unit uses -/
/-! ### Axioms in sight -/
theorem tm0_wt : tm0.wt = 0 := by simp [tm0, Tm.wt, Tm.wts, ByteArray.size]
def lessB (a b : ByteArray) : Bool := Op.bytesLess a.data.toList b.data.toList
theorem less_total : ∀ x y : List UInt8, Op.bytesLess x y = !(Op.bytesLess y x || y == x)
  | [], [] => rfl
  | [], b :: y => by simp [Op.bytesLess]
  | a :: x, [] => by simp [Op.bytesLess]
  | a :: x, b :: y => by
    have ih := less_total x y
    simp only [Op.bytesLess]
    by_cases h1 : a < b
    · have h2 : ¬ b < a := fun h => by have := UInt8.lt_trans h1 h; exact absurd this (UInt8.lt_irrefl _)
      have h3 : ¬ b = a := fun h => by subst h; exact UInt8.lt_irrefl _ h1
      simp [h1, h2, h3]
    · by_cases h2 : b < a
      · have h3 : ¬ a = b := fun h => by subst h; exact UInt8.lt_irrefl _ h2
        simp [h1, h2, h3]
      · have h3 : a = b := UInt8.le_antisymm (UInt8.not_lt.1 h2) (UInt8.not_lt.1 h1)
        subst h3
        simp [UInt8.lt_irrefl, ih]
def StrOwn (e : TypeId) (S : Nat → Prop) (w : World) (us : List ByteArray) (v : Value) : Prop := OwnRow S w e 1 (fun _ s cs => StrAt s cs) v us
theorem StrOwn.at_ {e : TypeId} {S : Nat → Prop} {w : World} {us : List ByteArray} {v : Value} (h : StrOwn e S w us v) : StrsAt S w v us := OwnRow.listAt (by omega) h (fun _ _ _ _ _ hx => hx)
def strW (l : List ByteArray) : List Value := l.map Value.string
theorem strW_snoc (l : List ByteArray) (s : ByteArray) : strW (l ++ [s]) = strW l ++ [Value.string s] := by simp [strW]
theorem rowS_own {S : Nat → Prop} {w : World} {base : Nat} {e : TypeId} {v : Value} {us : List ByteArray} (h : w.ownsRow base e 1 v us.length (strW us)) (hz : ∀ s ∈ us, s.size ≤ maxLen) (hm : us.length ≤ maxLen) (hS : ∀ g, v.ownBlock = some g → S g) : StrOwn e S w us v := by
  refine ⟨hm, strW us, fun _ _ => False, own_lower h (Nat.zero_le _), hS, fun i x hx => ⟨⟨?_, hz x (List.mem_of_getElem? hx)⟩, fun b hb => hb.elim⟩, fun i j b hi hj hij hb => hb.elim⟩
  have hi := (List.getElem?_eq_some_iff.1 hx).1
  have hx' := (List.getElem?_eq_some_iff.1 hx).2
  rw [Nat.mul_one, List.drop_eq_getElem_cons (by simpa [strW] using hi), List.take_succ_cons, List.take_zero]
  simp [strW, hx']
def Apped (e : TypeId) (size : Nat) (v : Value) (n : Nat) (cs : Array Value) (W : World) (z : Value) (w : World) : Prop :=
  (∀ b xs', W.ownsRow b e size v n xs' → b ≤ W.heap.size → w.ownsRow b e size z (n + 1) (xs' ++ cs.toList)) ∧ W.grownBy w v.ownBlock ∧ NewRow v z W.heap.size ∧ W.heap.size < w.heap.size
def BoxA (e : TypeId) (size : Nat) (p : Addr) (v : Value) (n : Nat) (cs : Array Value) (W : World) (kb ka : Nat) : Nat → (Nat → Value) → World → Prop
  | 0, _, w => w = W
  | 1, u, w => w = W.alloc (.cells cs e) ∧ u kb = .slice (some ⟨W.heap.size, 0, none⟩) 1 1
  | 2, u, w => Apped e size v n cs W (u ka) w
  | _ + 3, u, w => ∃ w2, Apped e size v n cs W (u ka) w2 ∧ w = w2.setCell p (u ka)
section
variable {e : TypeId} {size : Nat} {p : Addr} {v : Value} {n : Nat} {cs : Array Value} {W : World} {kb ka : Nat}
theorem BoxA.keep {j : Nat} {u : Nat → Value} {w : World} (hj : j ≤ 2) (h : BoxA e size p v n cs W kb ka j u w) {b : Nat} (hb : b < W.heap.size) (hv : v.ownBlock ≠ some b) : w.heap[b]? = W.heap[b]? := by
  match j, hj, h with
  | 0, _, h => obtain rfl : w = W := h; rfl
  | 1, _, h => obtain ⟨rfl, _⟩ := h; exact hao W _ b hb
  | 2, _, h => exact h.2.1.block b hb (fun e => hv e.symm)
theorem BoxA.cell {j : Nat} {u : Nat → Value} {w : World} (hj : j ≤ 2) (h : BoxA e size p v n cs W kb ka j u w) {b o : Nat} {x : Value} (hv : v.ownBlock ≠ some b) (hc : W.cell? ⟨b, o, none⟩ = some x) : w.cell? ⟨b, o, none⟩ = some x :=
  (World.cell?_of_block (a := ⟨b, o, none⟩) (h.keep hj (World.block_lt_of_cell? W _ hc) hv)).trans hc
theorem BoxA.frozen {j : Nat} {u : Nat → Value} {w : World} (hj : j ≤ 2) (h : BoxA e size p v n cs W kb ka j u w) {b o : Nat} {t : TypeId} {cur : Array Value} (hv : v.ownBlock ≠ some b) (hc : W.heap[b]? = some (.cells cur t (0, 0))) : w.frozen? ⟨b, o, none⟩ = false :=
  frozen_of_row w b o cur t ((h.keep hj (heap_lt hc) hv).trans hc)
end
theorem Apped.keep {e : TypeId} {size : Nat} {v : Value} {n : Nat} {cs : Array Value} {W w : World} {z : Value} (h : Apped e size v n cs W z w) {b : Nat} (hb : b < W.heap.size) (hv : v.ownBlock ≠ some b) : w.heap[b]? = W.heap[b]? := h.2.1.block b hb (fun e => hv e.symm)
theorem Apped.fresh {e : TypeId} {size : Nat} {v : Value} {n : Nat} {cs : Array Value} {W w : World} {z : Value} (h : Apped e size v n cs W z w) {b : Nat} (hb : b < W.heap.size) (hv : v.ownBlock ≠ some b) : z.ownBlock ≠ some b := fun e => by
  rcases h.2.2.1 with h1 | ⟨g, h1, h2⟩
  · exact hv (h1 ▸ e)
  · rw [h1] at e; injection e with e; omega
theorem idxFrom_in (x : ByteArray) : ∀ (zs : List ByteArray) (i : Nat), decide (0 ≤ Lib.idxFromS zs x i) = inS zs x
  | [], i => by simp [Lib.idxFromS, inS]
  | a :: zs, i => by
    rw [Lib.idxFromS, inS]
    by_cases h : a = x
    · rw [if_pos h]; simp [h]
    · rw [if_neg h, idxFrom_in x zs (i + 1), inS]
      simp [Ne.symm h]
theorem idxOfS_in (x : ByteArray) (zs : List ByteArray) : decide (0 ≤ Lib.idxOfS zs x) = inS zs x := idxFrom_in x zs 0
theorem containsS_any {B : Nat → Prop} (us : List ByteArray) (v : Value) (x : ByteArray) (w : World) (h : StrsAt B w v us) :
    Calls Tryz.prog 67 #[v, .string x] w fun e w' => e = .returned (.bool (inS us x)) ∧ Below w.heap.size w w' := by
  obtain ⟨p, c, rfl, hlen⟩ := h.form
  unfold maxLen at hlen
  cases us with
  | nil => exact (Tryz.slices_Contains_string_empty p c x w).mono fun e w' ⟨h1, h2⟩ => ⟨h1.trans rfl, h2 ▸ Below.refl _ _⟩
  | cons a us =>
    obtain ⟨b, o, rfl, -⟩ := h.at_ (i := 0) (by simp)
    refine (Tryz.slices_Contains_string b o (a :: us).length c (a :: us) x w (Nat.le_refl _) (by omega) (fun j hj => ?_)).mono fun e w' ⟨h1, h2⟩ => ⟨h1.trans ?_, h2 ▸ Below.refl _ _⟩
    · obtain ⟨b', o', hp, -, hc, -⟩ := h.at_ hj
      simp only [Option.some.injEq, Addr.mk.injEq, and_true] at hp
      obtain ⟨rfl, rfl⟩ := hp
      rw [hc, List.getD_eq_getElem?_getD, List.getElem?_eq_getElem hj]; rfl
    · rw [List.take_length, Lib.containsS, idxOfS_in]
theorem inS_drop {us : List ByteArray} {k : Nat} (x : ByteArray) (h : k < us.length) : inS (us.drop k) x = (us[k].toList == x.toList || inS (us.drop (k + 1)) x) := by
  rw [inS, inS, List.drop_eq_getElem_cons h, decide_eq_decide.2 List.mem_cons, Bool.decide_or]
  congr 1
  rw [Bool.eq_iff_iff, decide_eq_true_iff, Lib.bytes_beq_iff]
  exact eq_comm
set_option maxHeartbeats 1600000 in
theorem l2In_any {B : Nat → Prop} (us : List ByteArray) (v : Value) (x : ByteArray) (w : World) (h : StrsAt B w v us) :
    Calls Tryz.prog 74 #[v, .string x] w fun e w' => e = .returned (.bool (inS us x)) ∧ Below w.heap.size w w' := by
  obtain ⟨p, c, rfl, hlen⟩ := h.form
  unfold maxLen at hlen
  have H := Lib.hid h
  clear h
  go_enter Tryz.func74, Tryz.ntmps74
  go_wp2
  go_loopw [5] (fun i wr => ∃ k : Nat, k ≤ us.length ∧ i = .int .i64 k ∧ inS us x = inS (us.drop k) x ∧ Below w.heap.size w wr) (fun i _ => us.length - (intOf i).toNat)
  case atStart => exact ⟨0, Nat.zero_le _, rfl, rfl, by exact bel⟩
  case round =>
    obtain ⟨k, hk, rfl, he, hb⟩ := hrel
    have HE := Lib.hid he
    clear he
    by_cases hlt : k < us.length
    · obtain ⟨b, o, rfl, hB, hx0, hxs⟩ := (H.out.below hb).at_ hlt
      have HD := Lib.hid (inS_drop x hlt)
      obtain ⟨a, ha⟩ : ∃ a, us[k] = a := ⟨_, rfl⟩
      rw [ha] at hx0 HD
      clear ha
      have zb := bsz (World.block_lt_of_cell? _ _ hx0)
      cases hN : (a.toList == x.toList)
      all_goals
        have HN := Lib.hid hN
        go_wp2
      · refine ⟨⟨k + 1, by omega, by go_num, ?_, by exact bel⟩, by simp [intOf]; omega⟩
        rw [HE.out, HD.out, HN.out]; rfl
      · go_ret
        exact ⟨ret_bool (by rw [HE.out, HD.out, HN.out]; rfl), by exact bel⟩
    · obtain rfl : k = us.length := by omega
      have he := HE.out
      rw [List.drop_length] at he
      have HE2 := Lib.hid he
      clear he
      go_wp2
      go_ret
      exact ⟨ret_bool (by rw [HE2.out]; rfl), by exact bel⟩
theorem less_trans : ∀ x y z : List UInt8, Op.bytesLess x y = true → Op.bytesLess y z = true → Op.bytesLess x z = true
  | [], [], _, h, _ => by simp [Op.bytesLess] at h
  | [], b :: y, [], _, h2 => by simp [Op.bytesLess] at h2
  | [], b :: y, c :: z, _, _ => by simp [Op.bytesLess]
  | a :: x, [], _, h, _ => by simp [Op.bytesLess] at h
  | a :: x, b :: y, [], _, h2 => by simp [Op.bytesLess] at h2
  | a :: x, b :: y, c :: z, h, h2 => by
    have ih := less_trans x y z
    simp only [Op.bytesLess, Bool.or_eq_true, Bool.and_eq_true, decide_eq_true_eq, beq_iff_eq] at h h2 ⊢
    rcases h with h | ⟨rfl, h⟩ <;> rcases h2 with h2 | ⟨rfl, h2⟩
    · exact .inl (UInt8.lt_trans h h2)
    · exact .inl h
    · exact .inl h2
    · exact .inr ⟨rfl, ih h h2⟩
theorem less_irrefl : ∀ x : List UInt8, Op.bytesLess x x = false
  | [] => rfl
  | a :: x => by simp [Op.bytesLess, UInt8.lt_irrefl, less_irrefl x]
section
variable {α : Type} {lt : α → α → Bool}
def Asc (lt : α → α → Bool) (l : List α) : Prop := l.Pairwise fun a b => lt a b = true
structure Strict (lt : α → α → Bool) : Prop where
  irr : ∀ x, lt x x = false
  tr : ∀ x y z, lt x y = true → lt y z = true → lt x z = true
theorem Strict.asym (h : Strict lt) {x y : α} (hx : lt x y = true) : lt y x = false := by
  cases hy : lt y x with
  | false => rfl
  | true => have := h.tr _ _ _ hx hy; rw [h.irr] at this; cases this
theorem asc_eq (hs : Strict lt) : ∀ a b : List α, Asc lt a → Asc lt b → (∀ z, z ∈ a ↔ z ∈ b) → a = b
  | [], [], _, _, _ => rfl
  | [], y :: b, _, _, h => by have := (h y).2 (List.mem_cons_self ..); cases this
  | x :: a, [], _, _, h => by have := (h x).1 (List.mem_cons_self ..); cases this
  | x :: a, y :: b, ha, hb, h => by
    rw [Asc, List.pairwise_cons] at ha hb
    have hxy : x = y := by
      rcases List.mem_cons.1 ((h x).1 (List.mem_cons_self ..)) with e | h1
      · exact e
      · rcases List.mem_cons.1 ((h y).2 (List.mem_cons_self ..)) with e | h2
        · exact e.symm
        · have h3 := hb.1 x h1
          have h4 := ha.1 y h2
          rw [hs.asym h3] at h4; cases h4
    subst hxy
    congr 1
    refine asc_eq hs a b ha.2 hb.2 fun z => ⟨fun hz => ?_, fun hz => ?_⟩
    · rcases List.mem_cons.1 ((h z).1 (List.mem_cons_of_mem _ hz)) with rfl | h1
      · have := ha.1 z hz; rw [hs.irr] at this; cases this
      · exact h1
    · rcases List.mem_cons.1 ((h z).2 (List.mem_cons_of_mem _ hz)) with rfl | h1
      · have := hb.1 z hz; rw [hs.irr] at this; cases this
      · exact h1
def insG (lt : α → α → Bool) (l : List α) (x : α) : List α := l.takeWhile (fun y => lt y x) ++ x :: l.dropWhile (fun y => lt y x)
theorem mem_insG {l : List α} {x z : α} : z ∈ insG lt l x ↔ z = x ∨ z ∈ l := by
  rw [insG, List.mem_append, List.mem_cons]
  constructor
  · rintro (h | h | h)
    · exact .inr (List.takeWhile_subset _ h)
    · exact .inl h
    · exact .inr (List.dropWhile_subset _ h)
  · rintro (h | h)
    · exact .inr (.inl h)
    · rw [← List.takeWhile_append_dropWhile (p := fun y => lt y x) (l := l), List.mem_append] at h
      exact h.elim .inl (fun h => .inr (.inr h))
theorem insG_len (l : List α) (x : α) : (insG lt l x).length = l.length + 1 := by
  have := congrArg List.length (List.takeWhile_append_dropWhile (p := fun y => lt y x) (l := l))
  rw [List.length_append] at this
  rw [insG, List.length_append, List.length_cons]; omega
theorem asc_while (hs : Strict lt) : ∀ {l : List α} {x : α}, Asc lt l → ∀ y ∈ l.dropWhile (fun y => lt y x), lt y x = false
  | [], _, _, y, hy => by cases hy
  | a :: l, x, h, y, hy => by
    rw [Asc, List.pairwise_cons] at h
    rw [List.dropWhile_cons] at hy
    split at hy
    · exact asc_while hs h.2 y hy
    · rename_i hax
      have hax : lt a x = false := by simpa using hax
      rcases List.mem_cons.1 hy with rfl | hy
      · exact hax
      · cases hyx : lt y x with
        | false => rfl
        | true => have := hs.tr _ _ _ (h.1 y hy) hyx; rw [hax] at this; cases this
theorem insG_asc (hs : Strict lt) {l : List α} {x : α} (h : Asc lt l) (ht : ∀ y ∈ l, lt y x = true ∨ lt x y = true) : Asc lt (insG lt l x) := by
  have hsub := List.takeWhile_append_dropWhile (p := fun y => lt y x) (l := l)
  have hp : Asc lt (l.takeWhile (fun y => lt y x) ++ l.dropWhile (fun y => lt y x)) := by rw [hsub]; exact h
  rw [Asc, List.pairwise_append] at hp
  obtain ⟨h1, h2, h3⟩ := hp
  have ha : ∀ y ∈ l.takeWhile (fun y => lt y x), lt y x = true := fun y hy => by
    have := List.all_takeWhile (p := fun y => lt y x) (l := l)
    exact List.all_eq_true.1 this y hy
  rw [insG, Asc, List.pairwise_append, List.pairwise_cons]
  refine ⟨h1, ⟨fun y hy => ?_, h2⟩, fun a hm b hb => ?_⟩
  · rcases ht y (List.dropWhile_subset _ hy) with h | h
    · rw [asc_while hs ‹Asc lt l› y hy] at h; cases h
    · exact h
  · rcases List.mem_cons.1 hb with rfl | hb
    · exact ha a hm
    · exact h3 a hm b hb
end
theorem strictS : Strict lessB := ⟨fun _ => less_irrefl _, fun _ _ _ => less_trans _ _ _⟩
theorem triS {x y : ByteArray} (h : x ≠ y) : lessB x y = true ∨ lessB y x = true := by
  have := less_total x.data.toList y.data.toList
  rw [lessB, lessB]
  cases hy : Op.bytesLess y.data.toList x.data.toList with
  | true => exact .inr rfl
  | false =>
    rw [hy, Bool.false_or] at this
    left
    rw [this]
    simp only [Bool.not_eq_true', beq_eq_false_iff_ne]
    exact fun e => h (ByteArray.ext (Array.toList_inj.1 e.symm))
theorem rowS_cell {w : World} {base n c : Nat} {e : TypeId} {p : Option Addr} {D : List ByteArray} (h : w.ownsRow base e 1 (.slice p n c) n (strW D)) (h0 : 0 < n) : ∃ g, p = some ⟨g, 0, none⟩ ∧ base ≤ g ∧ g < w.heap.size ∧ (∀ j, w.frozen? ⟨g, j, none⟩ = false) ∧ ∀ (k : Nat) (y : ByteArray), D[k]? = some y → w.cell? ⟨g, k, none⟩ = some (.string y) := by
  rcases h.2 with ⟨hv, h1⟩ | ⟨g, cap, cur, hv, h1, h2, h3, h4, h5, h6⟩
  · omega
  · simp only [Value.slice.injEq, true_and] at hv
    obtain ⟨rfl, rfl⟩ := hv
    refine ⟨g, rfl, h1, blk_lt h2, fun j => frozen_of_row w g j _ _ h2, fun k y hy => ?_⟩
    rw [cell_of_row w g k cur _ (0, 0) h2]
    have hk : (strW D)[k]? = some (.string y) := by rw [strW, List.getElem?_map, hy]; rfl
    rw [← h6, List.getElem?_take] at hk
    split at hk
    · simpa using hk
    · cases hk
end Go.Proofs.YtmbkjdkjemlfkaaGreatDoor
