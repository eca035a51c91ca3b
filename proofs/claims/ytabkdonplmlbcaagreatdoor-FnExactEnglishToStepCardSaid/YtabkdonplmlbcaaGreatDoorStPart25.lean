import Derived.Test.YtabkdonplmlbcaaGreatDoorStPart24
namespace Go.Proofs.YtabkdonplmlbcaaGreatDoor
open Go.RowKit
section
variable {W w w' : World} {X : Nat → Prop} {u : Nat → Value} {L : Array Bool}
theorem Kp.drew {X : Nat → Prop} {w w' : World} (h : Kp X w w') : Kp X w w'.drew := ⟨h.os, h.tape, h.output, h.size, h.block⟩
abbrev DetL := List (Nat × Nat × (Value → Value))
def Dets (T : DetL) (u : Nat → Value) (L : Array Bool) : Prop := ∀ t ∈ T, L.getD t.1 false = true → L.getD t.2.1 false = true ∧ u t.1 = t.2.2 (u t.2.1)
variable {T : DetL}
theorem Dets.start {u : Nat → Value} (hL : ∀ i, L.getD i false = false) : Dets T u L := fun t _ h => by rw [hL] at h; cases h
theorem heads_ne {i : Nat} (h : (T.map (·.1)).contains i = false) : ∀ t ∈ T, t.1 ≠ i := fun t ht e => by
 have : (T.map (·.1)).contains i = true := by rw [List.contains_iff_mem]; exact List.mem_map.2 ⟨t, ht, e⟩
 rw [h] at this; cases this
theorem Dets.other (h : Dets T u L) {i : Nat} (hi : (T.map (·.1)).contains i = false) : Dets T u (L.setIfInBounds i true) := fun t ht hd => by
 have hne := heads_ne hi t ht
 rw [getD_set_ne false (Ne.symm hne)] at hd
 obtain ⟨h1, h2⟩ := h t ht hd
 exact ⟨set_mono h1, h2⟩
theorem Dets.skip (h : Dets T u L) {i : Nat} (hun : L.getD i true = false) (x : Value) (hi : (T.map (·.1)).contains i = false) : Dets T (upd u i x) (L.setIfInBounds i true) := fun t ht hd => by
 have hne := heads_ne hi t ht
 rw [getD_set_ne false (Ne.symm hne)] at hd
 obtain ⟨h1, h2⟩ := h t ht hd
 have hne2 : t.2.1 ≠ i := fun e => by rw [e] at h1; have := getD_tf hun; rw [h1] at this; cases this
 exact ⟨set_mono h1, by rw [upd_other _ _ hne, upd_other _ _ hne2]; exact h2⟩
theorem Dets.det (h : Dets T u L) {i p : Nat} {φ : Value → Value} (hun : L.getD i true = false) (hp : L.getD p false = true) (x : Value) (hx : x = φ (u p)) (hT : ∀ t ∈ T, t.1 = i → t = (i, p, φ)) : Dets T (upd u i x) (L.setIfInBounds i true) := fun t ht hd => by
 have hpi : p ≠ i := fun e => by rw [e] at hp; have := getD_tf hun; rw [hp] at this; cases this
 by_cases e : t.1 = i
 ·obtain rfl := hT t ht e
  exact ⟨set_mono hp, by rw [upd_same, upd_other _ _ hpi]; exact hx⟩
 ·rw [getD_set_ne false (Ne.symm e)] at hd
  obtain ⟨h1, h2⟩ := h t ht hd
  have hne2 : t.2.1 ≠ i := fun e => by rw [e] at h1; have := getD_tf hun; rw [h1] at this; cases this
  exact ⟨set_mono h1, by rw [upd_other _ _ e, upd_other _ _ hne2]; exact h2⟩
end
abbrev Skel := List (Nat × Option Nat × List Nat)
abbrev Foots := Nat → (Nat → Value) → (Nat → Prop) → World → Prop
def LiveF (s : Nat × Option Nat × List Nat) (L : Array Bool) : Prop := L.getD s.1 true = true ∧ ∀ c, s.2.1 = some c → L.getD c true = false
structure FootsOk (S : Skel) (q : Foots) : Prop where
 stab : ∀ i u F w w', (∀ b, F b → w'.heap[b]? = w.heap[b]?) → w.heap.size ≤ w'.heap.size → (∀ b, F b → b < w.heap.size) → q i u F w → q i u F w'
 dep : ∀ s ∈ S, ∀ u u' F w, (∀ k ∈ s.2.2, u' k = u k) → q s.1 u F w → q s.1 u' F w
section
variable {ops : Array Oper}
structure InW (ops : Array Oper) (W : World) (X0 : Nat → Prop) (S : Skel) (q : Foots) (Fo : Nat → Nat → Prop) (u : Nat → Value) (L : Array Bool) (w : World) : Prop where
 cl : Closed .any ops L
 sz : L.size = ops.size
 bw : Kp X0 W w
 q : ∀ s ∈ S, LiveF s L → q s.1 u (Fo s.1) w
 fo : ∀ s ∈ S, LiveF s L → ∀ b, Fo s.1 b → (X0 b ∨ W.heap.size ≤ b) ∧ b < w.heap.size
 dj : ∀ s ∈ S, ∀ r ∈ S, LiveF s L → LiveF r L → s.1 ≠ r.1 → ∀ b, Fo s.1 b → ¬ Fo r.1 b
variable {W w w' : World} {X0 : Nat → Prop} {S : Skel} {q : Foots} {Fo : Nat → Nat → Prop} {u : Nat → Value} {L : Array Bool}
theorem Behind.anc {i n j : Nat} {o : Oper} (hc : Closed .any ops L) (ho : ops[i]? = some o) (hb : Behind .any o L) (h : Proofs.YtabkdonplmlbcaaGreatDoor.anc ops n i j = true) : L.getD j false = true := by
 cases n with
 | zero => rw [Proofs.YtabkdonplmlbcaaGreatDoor.anc] at h; cases h
 | succ n =>
  rw [Proofs.YtabkdonplmlbcaaGreatDoor.anc, ho] at h
  obtain ⟨e, he1, he2⟩ := Array.any_eq_true'.1 h
  simp only [Bool.and_eq_true, Bool.or_eq_true, beq_iff_eq] at he2
  have h3 := hb e he1 he2.1
  rcases he2.2 with rfl | h4
  ·exact h3
  ·exact hc.anc n e.on j h4 h3
theorem getD_ff {L : Array Bool} {i : Nat} (h : L.getD i false = true) : L.getD i true = true := by
 rw [Array.getD_eq_getD_getElem?] at h ⊢
 cases hx : L[i]? with
 | none => rfl
 | some v => rw [hx] at h; exact h
theorem getD_tt {L : Array Bool} {i : Nat} (h : L.getD i true = true) (hi : i < L.size) : L.getD i false = true := by
 rw [Array.getD_eq_getD_getElem?] at h ⊢
 rw [Array.getElem?_eq_getElem hi] at h ⊢
 exact h
theorem size_of_undone {L : Array Bool} {i : Nat} (h : L.getD i true = false) : i < L.size := by
 rcases Nat.lt_or_ge i L.size with h' | h'
 ·exact h'
 ·rw [Array.getD_eq_getD_getElem?, Array.getElem?_eq_none h'] at h; cases h
def skelOk (ops : Array Oper) (n : Nat) (S : Skel) : Bool :=
 decide ((S.map (·.1)).Nodup) && S.all fun s => (match s.2.1 with | none => true | some c => (decide (ops.size ≤ s.1) || anc ops n c s.1)) && s.2.2.all fun k => (k == s.1 || anc ops n s.1 k)
theorem skel_par {n : Nat} (h : skelOk ops n S = true) {s : Nat × Option Nat × List Nat} (hs : s ∈ S) {c : Nat} (hc : s.2.1 = some c) : ops.size ≤ s.1 ∨ Proofs.YtabkdonplmlbcaaGreatDoor.anc ops n c s.1 = true := by
 rw [skelOk, Bool.and_eq_true] at h
 have := List.all_eq_true.1 h.2 s hs
 rw [Bool.and_eq_true, hc] at this
 simpa using this.1
theorem skel_dep {n : Nat} (h : skelOk ops n S = true) {s : Nat × Option Nat × List Nat} (hs : s ∈ S) {k : Nat} (hk : k ∈ s.2.2) : k = s.1 ∨ Proofs.YtabkdonplmlbcaaGreatDoor.anc ops n s.1 k = true := by
 rw [skelOk, Bool.and_eq_true] at h
 have := List.all_eq_true.1 h.2 s hs
 rw [Bool.and_eq_true] at this
 simpa using List.all_eq_true.1 this.2 k hk
theorem skel_eq {n : Nat} (h : skelOk ops n S = true) {s r : Nat × Option Nat × List Nat} (hs : s ∈ S) (hr : r ∈ S) (e : s.1 = r.1) : s = r := by
 rw [skelOk, Bool.and_eq_true] at h
 have hn : (S.map (·.1)).Nodup := of_decide_eq_true h.1
 clear h
 induction S with
 | nil => cases hs
 | cons t S ih =>
  rw [List.map_cons, List.nodup_cons] at hn
  rcases List.mem_cons.1 hs with e1 | hs1
  ·rcases List.mem_cons.1 hr with e2 | hr1
   ·rw [e1, e2]
   ·exact absurd (List.mem_map.2 ⟨r, hr1, by rw [← e, e1]⟩) hn.1
  ·rcases List.mem_cons.1 hr with e2 | hr1
   ·exact absurd (List.mem_map.2 ⟨s, hs1, by rw [e, e2]⟩) hn.1
   ·exact ih hs1 hr1 hn.2
theorem InW.live_of (h : InW ops W X0 S q Fo u L w) {n i : Nat} {o : Oper} (hok : skelOk ops n S = true) (ho : ops[i]? = some o) (hb : Behind .any o L) (hun : L.getD i true = false) {s : Nat × Option Nat × List Nat} (hs : s ∈ S) (hc : s.2.1 = some i) : LiveF s L := by
 refine ⟨?_, fun c hc' => ?_⟩
 ·rcases skel_par hok hs hc with h1 | h1
  ·rw [Array.getD_eq_getD_getElem?, Array.getElem?_eq_none (by rw [h.sz]; exact h1)]; rfl
  ·exact getD_ff (Behind.anc h.cl ho hb h1)
 ·rw [hc] at hc'
  obtain rfl := Option.some.inj hc'
  exact hun
theorem set_size (L : Array Bool) (i : Nat) : (L.setIfInBounds i true).size = L.size := by simp
theorem LiveF.of_put {s : Nat × Option Nat × List Nat} {i : Nat} (h : LiveF s (L.setIfInBounds i true)) (hne : s.1 ≠ i) : LiveF s L ∧ s.2.1 ≠ some i ∨ L.size ≤ i := by
 rcases Nat.lt_or_ge i L.size with hi | hi
 ·refine .inl ⟨⟨?_, fun c hc => ?_⟩, fun hc => ?_⟩
  ·have := h.1; rwa [getD_set_ne true (Ne.symm hne)] at this
  ·have := h.2 c hc
   by_cases e : i = c
   ·subst e
    rw [Array.getD_eq_getD_getElem?, Array.getElem?_setIfInBounds_self, if_pos hi] at this
    cases this
   ·rwa [getD_set_ne true e] at this
  ·have := h.2 i hc
   rw [Array.getD_eq_getD_getElem?, Array.getElem?_setIfInBounds_self, if_pos hi] at this
   cases this
 ·exact .inr hi
theorem InW.dep_put (h : InW ops W X0 S q Fo u L w) {n i : Nat} (hok : skelOk ops n S = true) (hq : FootsOk S q) (hun : L.getD i true = false) (x : Value) {s : Nat × Option Nat × List Nat} (hs : s ∈ S) (hl : LiveF s L) {F : Nat → Prop} {w : World} (h1 : q s.1 u F w) : q s.1 (upd u i x) F w := by
 refine hq.dep s hs u _ F w (fun k hk => upd_other _ _ fun e => ?_) h1
 subst e
 rcases skel_dep hok hs hk with rfl | h2
 ·rw [hl.1] at hun; cases hun
 ·have hlt : s.1 < L.size := by
   rcases Nat.lt_or_ge s.1 L.size with h' | h'
   ·exact h'
   ·rw [h.sz] at h'
    cases n with
    | zero => rw [Proofs.YtabkdonplmlbcaaGreatDoor.anc] at h2; cases h2
    | succ n => rw [Proofs.YtabkdonplmlbcaaGreatDoor.anc, Array.getElem?_eq_none h'] at h2; cases h2
  have := h.cl.anc n s.1 k h2 (getD_tt hl.1 hlt)
  rw [getD_tf hun] at this; cases this
theorem InW.other (h : InW ops W X0 S q Fo u L w) {k : Nat} {o : Oper} (ho : ops[k]? = some o) (hb : Behind .any o L) (hun : L.getD k true = false) (hS : (S.all fun s => s.1 != k) = true) : InW ops W X0 S q Fo u (L.setIfInBounds k true) w := by
 have hne : ∀ s ∈ S, s.1 ≠ k := fun s hs => by simpa using List.all_eq_true.1 hS s hs
 have hk := size_of_undone hun
 have key : ∀ s ∈ S, LiveF s (L.setIfInBounds k true) → LiveF s L := fun s hs hl => by
  rcases hl.of_put (hne s hs) with h1 | h1
  ·exact h1.1
  ·omega
 exact ⟨h.cl.put ho hb, by rw [set_size]; exact h.sz, h.bw, fun s hs hl => h.q s hs (key s hs hl), fun s hs hl => h.fo s hs (key s hs hl), fun s hs r hr hl hm => h.dj s hs r hr (key s hs hl) (key r hr hm)⟩
theorem InW.val (h : InW ops W X0 S q Fo u L w) {n k : Nat} {o : Oper} (hok : skelOk ops n S = true) (hq : FootsOk S q) (ho : ops[k]? = some o) (hb : Behind .any o L) (hun : L.getD k true = false) (hS : (S.all fun s => s.1 != k) = true) (x : Value) : InW ops W X0 S q Fo (upd u k x) (L.setIfInBounds k true) w := by
 have h' := h.other ho hb hun hS
 have hne : ∀ s ∈ S, s.1 ≠ k := fun s hs => by simpa using List.all_eq_true.1 hS s hs
 have hk := size_of_undone hun
 refine ⟨h'.cl, h'.sz, h'.bw, fun s hs hl => ?_, h'.fo, h'.dj⟩
 rcases hl.of_put (hne s hs) with h1 | h1
 ·exact h.dep_put hok hq hun x hs h1.1 (h'.q s hs hl)
 ·omega
theorem InW.act (h : InW ops W X0 S q Fo u L w) {n i : Nat} {o : Oper} (hok : skelOk ops n S = true) (hq : FootsOk S q) (ho : ops[i]? = some o) (hb : Behind .any o L) (hun : L.getD i true = false) (x : Value) (F' : Nat → Prop) (hk : Kp (fun b => ∃ s ∈ S, s.2.1 = some i ∧ Fo s.1 b) w w')
  (hF : ∀ b, F' b → (∃ s ∈ S, s.2.1 = some i ∧ Fo s.1 b) ∨ w.heap.size ≤ b) (hF2 : ∀ b, F' b → b < w'.heap.size) (hx : ∀ s ∈ S, s.1 = i → q i (upd u i x) F' w') :
  InW ops W X0 S q (fun j => if j = i then F' else Fo j) (upd u i x) (L.setIfInBounds i true) w' := by
 have hi := size_of_undone hun
 have par : ∀ s ∈ S, s.2.1 = some i → LiveF s L := fun s hs hc => h.live_of hok ho hb hun hs hc
 have old : ∀ s ∈ S, s.1 ≠ i → LiveF s (L.setIfInBounds i true) → LiveF s L ∧ s.2.1 ≠ some i := fun s hs hne hl => by
  rcases hl.of_put hne with h1 | h1
  ·exact h1
  ·omega
 have self : ∀ s ∈ S, LiveF s L → s.1 ≠ i := fun s _ hl e => by have := hl.1; rw [e, hun] at this; cases this
 have far : ∀ s ∈ S, s.1 ≠ i → LiveF s (L.setIfInBounds i true) → ∀ b, Fo s.1 b → ¬ ∃ r ∈ S, r.2.1 = some i ∧ Fo r.1 b := fun s hs hne hl b hb' ⟨r, hr, hc, hrb⟩ => by
  obtain ⟨h1, h2⟩ := old s hs hne hl
  by_cases e : s.1 = r.1
  ·obtain rfl := skel_eq hok hs hr e
   exact h2 hc
  ·exact h.dj s hs r hr h1 (par r hr hc) e b hb' hrb
 have bwX : Kp X0 W w' := ⟨hk.os.trans h.bw.os, hk.tape.trans h.bw.tape, hk.output.trans h.bw.output, Nat.le_trans h.bw.size hk.size, fun b hb1 hnx => by
  refine (hk.block b (Nat.lt_of_lt_of_le hb1 h.bw.size) (fun ⟨s, hs, hc, hbs⟩ => ?_)).trans (h.bw.block b hb1 hnx)
  rcases (h.fo s hs (par s hs hc) b hbs).1 with h2 | h2
  ·exact hnx h2
  ·omega⟩
 have parF : ∀ b, (∃ s ∈ S, s.2.1 = some i ∧ Fo s.1 b) → (X0 b ∨ W.heap.size ≤ b) ∧ b < w.heap.size := fun b ⟨s, hs, hc, hbs⟩ => h.fo s hs (par s hs hc) b hbs
 refine ⟨h.cl.put ho hb, by rw [set_size]; exact h.sz, bwX, fun s hs hl => ?_, fun s hs hl b hbf => ?_, fun s hs r hr hl hm hne b hbs hbr => ?_⟩
 ·by_cases e : s.1 = i
  ·simp only [e, if_true]; exact hx s hs e
  ·simp only [if_neg e]
   have h1 := (old s hs e hl).1
   refine hq.stab _ _ _ w w' (fun b hbf => hk.block b (h.fo s hs h1 b hbf).2 (far s hs e hl b hbf)) hk.size (fun b hbf => (h.fo s hs h1 b hbf).2) ?_
   exact h.dep_put hok hq hun x hs h1 (h.q s hs h1)
 ·by_cases e : s.1 = i
  ·simp only [e, if_true] at hbf
   refine ⟨?_, hF2 b hbf⟩
   rcases hF b hbf with h2 | h2
   ·exact (parF b h2).1
   ·have := h.bw.size; exact .inr (by omega)
  ·simp only [if_neg e] at hbf
   have h1 := h.fo s hs (old s hs e hl).1 b hbf
   exact ⟨h1.1, Nat.lt_of_lt_of_le h1.2 hk.size⟩
 ·by_cases e : s.1 = i
  ·have er : r.1 ≠ i := fun e' => hne (e.trans e'.symm)
   simp only [e, if_true] at hbs
   simp only [if_neg er] at hbr
   rcases hF b hbs with h2 | h2
   ·exact far r hr er hm b hbr h2
   ·have := (h.fo r hr (old r hr er hm).1 b hbr).2; omega
  ·simp only [if_neg e] at hbs
   by_cases er : r.1 = i
   ·simp only [er, if_true] at hbr
    rcases hF b hbr with h2 | h2
    ·exact far s hs e hl b hbs h2
    ·have := (h.fo s hs (old s hs e hl).1 b hbs).2; omega
   ·simp only [if_neg er] at hbr
    exact h.dj s hs r hr (old s hs e hl).1 (old r hr er hm).1 hne b hbs hbr
theorem InW.start {l : List Oper} (hini : ∀ s ∈ S, ops.size ≤ s.1 → (s.2.1 = none ∨ True) ∧ q s.1 (fun _ => undef) (Fo s.1) W.drew ∧ ∀ b, Fo s.1 b → X0 b ∧ b < W.heap.size) (hdj : ∀ s ∈ S, ∀ r ∈ S, ops.size ≤ s.1 → ops.size ≤ r.1 → s.1 ≠ r.1 → ∀ b, Fo s.1 b → ¬ Fo r.1 b) (hl : ops.size = l.length) :
  InW ops W X0 S q Fo (fun _ => undef) (Array.replicate l.length false) W.drew := by
 have un : ∀ i, (Array.replicate l.length false).getD i false = false := fun i => getD_replicate_none _ _
 have ini : ∀ s ∈ S, LiveF s (Array.replicate l.length false) → ops.size ≤ s.1 := fun s _ hl' => by
  rcases Nat.lt_or_ge s.1 ops.size with h1 | h1
  ·have := getD_tt hl'.1 (by rw [Array.size_replicate]; omega)
   rw [un] at this; cases this
  ·exact h1
 exact ⟨fun c oc _ hd => (by rw [un] at hd; cases hd), by rw [Array.size_replicate]; exact hl.symm, (Kp.refl _ _).drew, fun s hs h' => (hini s hs (ini s hs h')).2.1, fun s hs h' b hb => ⟨.inl ((hini s hs (ini s hs h')).2.2 b hb).1, ((hini s hs (ini s hs h')).2.2 b hb).2⟩,
  fun s hs r hr h1 h2 hne => hdj s hs r hr (ini s hs h1) (ini r hr h2) hne⟩
theorem InW.live (h : InW ops W X0 S q Fo u L w) {n i : Nat} {s : Nat × Option Nat × List Nat} (hd : L.getD s.1 true = true) (hun : L.getD i true = false) (hc : (match s.2.1 with | none => true | some c => (c == i || Proofs.YtabkdonplmlbcaaGreatDoor.anc ops n c i)) = true) : LiveF s L := by
 refine ⟨hd, fun c hc' => ?_⟩
 rw [hc'] at hc
 simp only [Bool.or_eq_true, beq_iff_eq] at hc
 rcases hc with rfl | hc
 ·exact hun
 ·cases hx : L.getD c true with
  | false => rfl
  | true =>
   have hlt : c < L.size := by
    rcases Nat.lt_or_ge c L.size with h' | h'
    ·exact h'
    ·rw [h.sz] at h'
     cases n with
     | zero => rw [Proofs.YtabkdonplmlbcaaGreatDoor.anc] at hc; cases hc
     | succ n => rw [Proofs.YtabkdonplmlbcaaGreatDoor.anc, Array.getElem?_eq_none h'] at hc; cases hc
   have := h.cl.anc n c i hc (getD_tt hx hlt)
   rw [getD_tf hun] at this; cases this
end
theorem wp_region_any4 {P : Program} {vs : List (Option Value)} {D : (Nat → Value) → Array Bool → World → Prop} {id : Nat} {Q : Exit → Act → World → Prop} {a : Act} {w : World} {l : List Oper} (hm : P.follows .mixedOrders = true) (hB : Region.lexB .any l.toArray = true)
  (hC : D (fun _ => undef) (Array.replicate l.length false) w.drew)
  (h : flowV P .any l.toArray vs D (fun a' u => ∀ L w', (∀ i, i < l.length → L.getD i false = true) → D u L w' → Q .normal a' w') 0 l a (fun _ => undef)) : (Code.region id l.toArray true).wp P Q a w := by
 simp only [Region.lexB, Bool.and_eq_true] at hB
 refine wp_region_any hm (wpAny_of_anyV (vs := vs) (D := D) (Q := fun L a u => (∀ i, i < l.toArray.size → L.getD i false = true) ∧ ∀ L w', (∀ i, i < l.length → L.getD i false = true) → D u L w' → Q .normal a w')
  (fun L a u w' hw' h => h.2 L w' (by simpa using h.1) hw') _ _ _ (fun _ => undef) _ (by simpa using hC) ?_)
 have := anyV_lex hB.1 l 0 (Array.replicate l.length false) a (fun _ => undef) (by simp) (by simp) (by simp) (fun i hi => absurd hi (by omega)) (by simpa using hB.2) h
 simpa using this
def FtD (ops : Array Oper) (W : World) (X0 : Nat → Prop) (S : Skel) (q : Foots) (T : DetL) (u : Nat → Value) (L : Array Bool) (w : World) : Prop := (∃ Fo, InW ops W X0 S q Fo u L w) ∧ Dets T u L
theorem wp_region_foot {P : Program} {id : Nat} {Q' : Exit → Act → World → Prop} {a : Act} {w : World} {l : List Oper} (vs : List (Option Value)) (X0 : Nat → Prop) (S : Skel) (q : Foots) (T : DetL) (Fo : Nat → Nat → Prop) (hm : P.follows .mixedOrders = true) (hB : Region.lexB .any l.toArray = true)
  (hini : ∀ s ∈ S, l.length ≤ s.1 → q s.1 (fun _ => undef) (Fo s.1) w.drew ∧ ∀ b, Fo s.1 b → X0 b ∧ b < w.heap.size) (hdj : ∀ s ∈ S, ∀ r ∈ S, l.length ≤ s.1 → l.length ≤ r.1 → s.1 ≠ r.1 → ∀ b, Fo s.1 b → ¬ Fo r.1 b)
  (h : flowV P .any l.toArray vs (FtD l.toArray w X0 S q T) (fun a' u => ∀ L w', (∀ i, i < l.length → L.getD i false = true) → FtD l.toArray w X0 S q T u L w' → Q' .normal a' w') 0 l a (fun _ => undef)) : (Code.region id l.toArray true).wp P Q' a w :=
 wp_region_any4 hm hB ⟨⟨Fo, InW.start (l := l) (fun s hs h' => ⟨.inr trivial, hini s hs (by simpa using h')⟩) (fun s hs r hr h1 h2 => hdj s hs r hr (by simpa using h1) (by simpa using h2)) (by simp)⟩, Dets.start (fun i => getD_replicate_none _ _)⟩ h
section
variable {ops : Array Oper} {W w w' : World} {X0 : Nat → Prop} {S : Skel} {q : Foots} {T : DetL} {u : Nat → Value} {L : Array Bool}
theorem FtD.bw (h : FtD ops W X0 S q T u L w) : Kp X0 W w := by obtain ⟨⟨Fo, h⟩, -⟩ := h; exact h.bw
theorem FtD.other (h : FtD ops W X0 S q T u L w) {k : Nat} {o : Oper} (ho : ops[k]? = some o) (hb : Behind .any o L) (hun : L.getD k true = false) (hS : (S.all fun s => s.1 != k) = true) (hT : (T.map (·.1)).contains k = false) : FtD ops W X0 S q T u (L.setIfInBounds k true) w := by
 obtain ⟨⟨Fo, h1⟩, h2⟩ := h
 exact ⟨⟨Fo, h1.other ho hb hun hS⟩, h2.other hT⟩
theorem FtD.det (h : FtD ops W X0 S q T u L w) {n k p : Nat} {φ : Value → Value} {o : Oper} (hok : skelOk ops n S = true) (hq : FootsOk S q) (ho : ops[k]? = some o) (hb : Behind .any o L) (hun : L.getD k true = false) (hS : (S.all fun s => s.1 != k) = true) (hp : L.getD p false = true) (x : Value) (hx : x = φ (u p)) (hT : ∀ t ∈ T, t.1 = k → t = (k, p, φ)) : FtD ops W X0 S q T (upd u k x) (L.setIfInBounds k true) w := by
 obtain ⟨⟨Fo, h1⟩, h2⟩ := h
 exact ⟨⟨Fo, h1.val hok hq ho hb hun hS x⟩, h2.det hun hp x hx hT⟩
theorem FtD.done (h : FtD ops W X0 S q T u L w) {n : Nat} (hn : ops.size = n) (hL : ∀ i, i < n → L.getD i false = true) : Kp X0 W w ∧ ∃ Fo : Nat → Nat → Prop, (∀ s ∈ S, s.2.1 = none → q s.1 u (Fo s.1) w ∧ ∀ b, Fo s.1 b → (X0 b ∨ W.heap.size ≤ b) ∧ b < w.heap.size) ∧ ∀ s ∈ S, ∀ r ∈ S, s.2.1 = none → r.2.1 = none → s.1 ≠ r.1 → ∀ b, Fo s.1 b → ¬ Fo r.1 b := by
 obtain ⟨⟨Fo, h⟩, -⟩ := h
 have key : ∀ s ∈ S, s.2.1 = none → LiveF s L := fun s hs hc => ⟨by
  rcases Nat.lt_or_ge s.1 n with h1 | h1
  ·exact getD_ff (hL _ h1)
  ·rw [Array.getD_eq_getD_getElem?, Array.getElem?_eq_none (by rw [h.sz, hn]; exact h1)]; rfl, fun c hc' => by rw [hc] at hc'; cases hc'⟩
 exact ⟨h.bw, Fo, fun s hs hc => ⟨h.q s hs (key s hs hc), h.fo s hs (key s hs hc)⟩, fun s hs r hr h1 h2 => h.dj s hs r hr (key s hs h1) (key r hr h2)⟩
end
def fst2 : Value → Value | .tuple #[a, _] => a | _ => undef
def snd2 : Value → Value | .tuple #[_, b] => b | _ => undef
def StabP (Pv : Value → Value → (Nat → Prop) → World → Prop) : Prop := ∀ a b F w w', (∀ x, F x → w'.heap[x]? = w.heap[x]?) → w.heap.size ≤ w'.heap.size → Pv a b F w → Pv a b F w'
def PrF (K : Nat) (Pv : Value → Value → (Nat → Prop) → World → Prop) : Foots := fun i u F w => i = K → ∃ a b, u K = .tuple #[a, b] ∧ Pv a b F w
def prT (K : Nat) : DetL := [(K + 1, K, id), (K + 2, K + 1, fst2), (K + 3, K + 1, snd2), (K + 4, K + 2, id), (K + 5, K + 3, id)]
abbrev prS (K : Nat) : Skel := [(K, none, [K])]
theorem PrF.ok {K : Nat} {Pv : Value → Value → (Nat → Prop) → World → Prop} (hP : StabP Pv) : FootsOk (prS K) (PrF K Pv) := by
 refine ⟨fun i u F w w' hs hz hf h e => ?_, fun s hs u u' F w hu h e => ?_⟩
 ·obtain ⟨a, b, h1, h2⟩ := h e
  exact ⟨a, b, h1, hP _ _ _ _ _ hs hz h2⟩
 ·simp only [List.mem_cons, List.not_mem_nil, or_false] at hs
  subst hs
  obtain ⟨a, b, h1, h2⟩ := h e
  exact ⟨a, b, (hu K (by simp)).trans h1, h2⟩
abbrev PrD (K : Nat) (Pv : Value → Value → (Nat → Prop) → World → Prop) (ops : Array Oper) (W : World) : (Nat → Value) → Array Bool → World → Prop := FtD ops W (fun _ => False) (prS K) (PrF K Pv) (prT K)
section
variable {K : Nat} {Pv : Value → Value → (Nat → Prop) → World → Prop} {ops : Array Oper} {W w w' : World} {u : Nat → Value} {L : Array Bool} {o : Oper}
theorem PrD.call {a b : Value} (h : PrD K Pv ops W u L w) (hP : StabP Pv) (hok : skelOk ops 16 (prS K) = true) (ho : ops[K]? = some o) (hb : Behind .any o L) (hun : L.getD K true = false) (hbe : Below w.heap.size w w') (hx : Pv a b (NewB w w') w') : PrD K Pv ops W (upd u K (.tuple #[a, b])) (L.setIfInBounds K true) w' := by
 obtain ⟨⟨Fo, hI⟩, hT⟩ := h
 refine ⟨⟨_, hI.act hok (PrF.ok hP) ho hb hun _ (NewB w w') (Kp.of_below hbe) (fun b e => .inr e.1) (fun b e => e.2) (fun s _ _ => ?_)⟩, hT.skip hun _ ?_⟩
 ·intro _
  exact ⟨a, b, by rw [upd_same], hx⟩
 ·simp [prT]
theorem PrD.form (h : PrD K Pv ops W u L w) (hd : L.getD K false = true) : ∃ a b, u K = .tuple #[a, b] := by
 obtain ⟨⟨Fo, hI⟩, -⟩ := h
 have := hI.q (K, none, [K]) (by simp) ⟨getD_ff hd, fun c hc => by cases hc⟩
 obtain ⟨a, b, h1, -⟩ := this rfl
 exact ⟨a, b, h1⟩
theorem PrD.mv1 (h : PrD K Pv ops W u L w) (hP : StabP Pv) (hok : skelOk ops 16 (prS K) = true) (ho : ops[K + 1]? = some o) (hb : Behind .any o L) (hun : L.getD (K + 1) true = false) (hd : L.getD K false = true) : PrD K Pv ops W (upd u (K + 1) (u K)) (L.setIfInBounds (K + 1) true) w :=
 FtD.det (n := 16) (k := K + 1) (p := K) (φ := id) h hok (PrF.ok hP) ho hb hun (by simp) hd (u K) rfl (by intro t ht e; simp only [prT, List.mem_cons, List.not_mem_nil, or_false] at ht; rcases ht with rfl | rfl | rfl | rfl | rfl <;> first | rfl | (simp at e))
theorem PrD.form1 (h : PrD K Pv ops W u L w) (hd1 : L.getD (K + 1) false = true) : ∃ a b, u (K + 1) = .tuple #[a, b] := by
 obtain ⟨hd, e⟩ := h.2 (K + 1, K, id) (by simp [prT]) hd1
 obtain ⟨a, b, h1⟩ := h.form hd
 exact ⟨a, b, e.trans h1⟩
theorem PrD.mv2 (h : PrD K Pv ops W u L w) (hP : StabP Pv) (hok : skelOk ops 16 (prS K) = true) (ho : ops[K + 2]? = some o) (hb : Behind .any o L) (hun : L.getD (K + 2) true = false) (hd : L.getD (K + 1) false = true) : PrD K Pv ops W (upd u (K + 2) (fst2 (u (K + 1)))) (L.setIfInBounds (K + 2) true) w :=
 FtD.det (n := 16) (k := K + 2) (p := K + 1) (φ := fst2) h hok (PrF.ok hP) ho hb hun (by simp) hd _ rfl (by intro t ht e; simp only [prT, List.mem_cons, List.not_mem_nil, or_false] at ht; rcases ht with rfl | rfl | rfl | rfl | rfl <;> first | rfl | (simp at e))
theorem PrD.mv3 (h : PrD K Pv ops W u L w) (hP : StabP Pv) (hok : skelOk ops 16 (prS K) = true) (ho : ops[K + 3]? = some o) (hb : Behind .any o L) (hun : L.getD (K + 3) true = false) (hd : L.getD (K + 1) false = true) : PrD K Pv ops W (upd u (K + 3) (snd2 (u (K + 1)))) (L.setIfInBounds (K + 3) true) w :=
 FtD.det (n := 16) (k := K + 3) (p := K + 1) (φ := snd2) h hok (PrF.ok hP) ho hb hun (by simp) hd _ rfl (by intro t ht e; simp only [prT, List.mem_cons, List.not_mem_nil, or_false] at ht; rcases ht with rfl | rfl | rfl | rfl | rfl <;> first | rfl | (simp at e))
theorem PrD.mv4 (h : PrD K Pv ops W u L w) (hP : StabP Pv) (hok : skelOk ops 16 (prS K) = true) (ho : ops[K + 4]? = some o) (hb : Behind .any o L) (hun : L.getD (K + 4) true = false) (hd : L.getD (K + 2) false = true) : PrD K Pv ops W (upd u (K + 4) (u (K + 2))) (L.setIfInBounds (K + 4) true) w :=
 FtD.det (n := 16) (k := K + 4) (p := K + 2) (φ := id) h hok (PrF.ok hP) ho hb hun (by simp) hd _ rfl (by intro t ht e; simp only [prT, List.mem_cons, List.not_mem_nil, or_false] at ht; rcases ht with rfl | rfl | rfl | rfl | rfl <;> first | rfl | (simp at e))
theorem PrD.mv5 (h : PrD K Pv ops W u L w) (hP : StabP Pv) (hok : skelOk ops 16 (prS K) = true) (ho : ops[K + 5]? = some o) (hb : Behind .any o L) (hun : L.getD (K + 5) true = false) (hd : L.getD (K + 3) false = true) : PrD K Pv ops W (upd u (K + 5) (u (K + 3))) (L.setIfInBounds (K + 5) true) w :=
 FtD.det (n := 16) (k := K + 5) (p := K + 3) (φ := id) h hok (PrF.ok hP) ho hb hun (by simp) hd _ rfl (by intro t ht e; simp only [prT, List.mem_cons, List.not_mem_nil, or_false] at ht; rcases ht with rfl | rfl | rfl | rfl | rfl <;> first | rfl | (simp at e))
theorem PrD.end {n : Nat} (h : PrD K Pv ops W u L w) (hn : ops.size = n) (hL : ∀ i, i < n → L.getD i false = true) (hK : K + 5 < n) : Below W.heap.size W w ∧ ∃ a b F, u (K + 1) = .tuple #[a, b] ∧ u (K + 2) = a ∧ u (K + 3) = b ∧ u (K + 4) = a ∧ u (K + 5) = b ∧ Pv a b F w ∧ ∀ x, F x → W.heap.size ≤ x ∧ x < w.heap.size := by
 have h2 := h.2
 obtain ⟨h1, Fo, hq, -⟩ := h.done hn hL
 obtain ⟨hv, hf⟩ := hq (K, none, [K]) (by simp) rfl
 obtain ⟨a, b, e0, hp⟩ := hv rfl
 obtain ⟨-, e1⟩ := h2 (K + 1, K, id) (by simp [prT]) (hL _ (by simp; omega))
 obtain ⟨-, e2⟩ := h2 (K + 2, K + 1, fst2) (by simp [prT]) (hL _ (by simp; omega))
 obtain ⟨-, e3⟩ := h2 (K + 3, K + 1, snd2) (by simp [prT]) (hL _ (by simp; omega))
 obtain ⟨-, e4⟩ := h2 (K + 4, K + 2, id) (by simp [prT]) (hL _ (by simp; omega))
 obtain ⟨-, e5⟩ := h2 (K + 5, K + 3, id) (by simp [prT]) (hL _ (by simp; omega))
 simp only [id] at e1 e2 e3 e4 e5
 have f1 : u (K + 1) = .tuple #[a, b] := e1.trans e0
 have f2 : u (K + 2) = a := by rw [e2, f1]; rfl
 have f3 : u (K + 3) = b := by rw [e3, f1]; rfl
 exact ⟨h1.below (fun _ h => h), a, b, Fo K, f1, f2, f3, e4.trans f2, e5.trans f3, hp, fun x hx => ⟨(hf x hx).1.resolve_left (fun e => e), (hf x hx).2⟩⟩
end
end Go.Proofs.YtabkdonplmlbcaaGreatDoor
