import Derived.Test.YtmbkjdkjemlfkaaGreatDoorDfPart35
namespace Go.Proofs.YtmbkjdkjemlfkaaGreatDoor
open Go.RowKit
abbrev Skel := List (Nat × Option Nat × List Nat)
abbrev Foots := Nat → (Nat → Value) → (Nat → Prop) → World → Prop
def LiveF (s : Nat × Option Nat × List Nat) (L : Array Bool) : Prop := L.getD s.1 true = true ∧ ∀ c, s.2.1 = some c → L.getD c true = false
structure FootsOk (S : Skel) (q : Foots) : Prop where
  stab : ∀ i u F w w', (∀ b, F b → w'.heap[b]? = w.heap[b]?) → w.heap.size ≤ w'.heap.size → (∀ b, F b → b < w.heap.size) → q i u F w → q i u F w'
  dep : ∀ s ∈ S, ∀ u u' F w, (∀ k ∈ s.2.2, u' k = u k) → q s.1 u F w → q s.1 u' F w
section
variable {ops : Array Oper}
structure InW (ops : Array Oper) (W : World) (X0 : Nat → Prop) (S : Skel) (q : Foots) (Fo : Nat → Nat → Prop) (u : Nat → Value) (L : Array Bool) (w : World) : Prop where
  cl : Closed .any ops L
  sz : L.size = ops.size
  bw : Kp X0 W w
  q : ∀ s ∈ S, LiveF s L → q s.1 u (Fo s.1) w
  fo : ∀ s ∈ S, LiveF s L → ∀ b, Fo s.1 b → (X0 b ∨ W.heap.size ≤ b) ∧ b < w.heap.size
  dj : ∀ s ∈ S, ∀ r ∈ S, LiveF s L → LiveF r L → s.1 ≠ r.1 → ∀ b, Fo s.1 b → ¬ Fo r.1 b
variable {W w w' : World} {X0 : Nat → Prop} {S : Skel} {q : Foots} {Fo : Nat → Nat → Prop} {u : Nat → Value} {L : Array Bool}
theorem Behind.anc {i n j : Nat} {o : Oper} (hc : Closed .any ops L) (ho : ops[i]? = some o) (hb : Behind .any o L) (h : Proofs.YtmbkjdkjemlfkaaGreatDoor.anc ops n i j = true) : L.getD j false = true := by
  cases n with
  | zero => rw [Proofs.YtmbkjdkjemlfkaaGreatDoor.anc] at h; cases h
  | succ n =>
    rw [Proofs.YtmbkjdkjemlfkaaGreatDoor.anc, ho] at h
    obtain ⟨e, he1, he2⟩ := Array.any_eq_true'.1 h
    simp only [Bool.and_eq_true, Bool.or_eq_true, beq_iff_eq] at he2
    have h3 := hb e he1 he2.1
    rcases he2.2 with rfl | h4
    · exact h3
    · exact hc.anc n e.on j h4 h3
theorem getD_ff {L : Array Bool} {i : Nat} (h : L.getD i false = true) : L.getD i true = true := by
  rw [Array.getD_eq_getD_getElem?] at h ⊢
  cases hx : L[i]? with
  | none => rfl
  | some v => rw [hx] at h; exact h
theorem getD_tt {L : Array Bool} {i : Nat} (h : L.getD i true = true) (hi : i < L.size) : L.getD i false = true := by
  rw [Array.getD_eq_getD_getElem?] at h ⊢
  rw [Array.getElem?_eq_getElem hi] at h ⊢
  exact h
theorem size_of_undone {L : Array Bool} {i : Nat} (h : L.getD i true = false) : i < L.size := by
  rcases Nat.lt_or_ge i L.size with h' | h'
  · exact h'
  · rw [Array.getD_eq_getD_getElem?, Array.getElem?_eq_none h'] at h; cases h
def skelOk (ops : Array Oper) (n : Nat) (S : Skel) : Bool :=
  decide ((S.map (·.1)).Nodup) && S.all fun s => (match s.2.1 with | none => true | some c => (decide (ops.size ≤ s.1) || anc ops n c s.1)) && s.2.2.all fun k => (k == s.1 || anc ops n s.1 k)
theorem skel_par {n : Nat} (h : skelOk ops n S = true) {s : Nat × Option Nat × List Nat} (hs : s ∈ S) {c : Nat} (hc : s.2.1 = some c) : ops.size ≤ s.1 ∨ Proofs.YtmbkjdkjemlfkaaGreatDoor.anc ops n c s.1 = true := by
  rw [skelOk, Bool.and_eq_true] at h
  have := List.all_eq_true.1 h.2 s hs
  rw [Bool.and_eq_true, hc] at this
  simpa using this.1
theorem skel_dep {n : Nat} (h : skelOk ops n S = true) {s : Nat × Option Nat × List Nat} (hs : s ∈ S) {k : Nat} (hk : k ∈ s.2.2) : k = s.1 ∨ Proofs.YtmbkjdkjemlfkaaGreatDoor.anc ops n s.1 k = true := by
  rw [skelOk, Bool.and_eq_true] at h
  have := List.all_eq_true.1 h.2 s hs
  rw [Bool.and_eq_true] at this
  simpa using List.all_eq_true.1 this.2 k hk
theorem skel_eq {n : Nat} (h : skelOk ops n S = true) {s r : Nat × Option Nat × List Nat} (hs : s ∈ S) (hr : r ∈ S) (e : s.1 = r.1) : s = r := by
  rw [skelOk, Bool.and_eq_true] at h
  have hn : (S.map (·.1)).Nodup := of_decide_eq_true h.1
  clear h
  induction S with
  | nil => cases hs
  | cons t S ih =>
    rw [List.map_cons, List.nodup_cons] at hn
    rcases List.mem_cons.1 hs with e1 | hs1
    · rcases List.mem_cons.1 hr with e2 | hr1
      · rw [e1, e2]
      · exact absurd (List.mem_map.2 ⟨r, hr1, by rw [← e, e1]⟩) hn.1
    · rcases List.mem_cons.1 hr with e2 | hr1
      · exact absurd (List.mem_map.2 ⟨s, hs1, by rw [e, e2]⟩) hn.1
      · exact ih hs1 hr1 hn.2
theorem InW.live_of (h : InW ops W X0 S q Fo u L w) {n i : Nat} {o : Oper} (hok : skelOk ops n S = true) (ho : ops[i]? = some o) (hb : Behind .any o L) (hun : L.getD i true = false) {s : Nat × Option Nat × List Nat} (hs : s ∈ S) (hc : s.2.1 = some i) : LiveF s L := by
  refine ⟨?_, fun c hc' => ?_⟩
  · rcases skel_par hok hs hc with h1 | h1
    · rw [Array.getD_eq_getD_getElem?, Array.getElem?_eq_none (by rw [h.sz]; exact h1)]; rfl
    · exact getD_ff (Behind.anc h.cl ho hb h1)
  · rw [hc] at hc'
    obtain rfl := Option.some.inj hc'
    exact hun
theorem set_size (L : Array Bool) (i : Nat) : (L.setIfInBounds i true).size = L.size := by simp
theorem LiveF.of_put {s : Nat × Option Nat × List Nat} {i : Nat} (h : LiveF s (L.setIfInBounds i true)) (hne : s.1 ≠ i) : LiveF s L ∧ s.2.1 ≠ some i ∨ L.size ≤ i := by
  rcases Nat.lt_or_ge i L.size with hi | hi
  · refine .inl ⟨⟨?_, fun c hc => ?_⟩, fun hc => ?_⟩
    · have := h.1; rwa [getD_set_ne true (Ne.symm hne)] at this
    · have := h.2 c hc
      by_cases e : i = c
      · subst e
        rw [Array.getD_eq_getD_getElem?, Array.getElem?_setIfInBounds_self, if_pos hi] at this
        cases this
      · rwa [getD_set_ne true e] at this
    · have := h.2 i hc
      rw [Array.getD_eq_getD_getElem?, Array.getElem?_setIfInBounds_self, if_pos hi] at this
      cases this
  · exact .inr hi
theorem InW.dep_put (h : InW ops W X0 S q Fo u L w) {n i : Nat} (hok : skelOk ops n S = true) (hq : FootsOk S q) (hun : L.getD i true = false) (x : Value) {s : Nat × Option Nat × List Nat} (hs : s ∈ S) (hl : LiveF s L) {F : Nat → Prop} {w : World} (h1 : q s.1 u F w) : q s.1 (upd u i x) F w := by
  refine hq.dep s hs u _ F w (fun k hk => upd_other _ _ fun e => ?_) h1
  subst e
  rcases skel_dep hok hs hk with rfl | h2
  · rw [hl.1] at hun; cases hun
  · have hlt : s.1 < L.size := by
      rcases Nat.lt_or_ge s.1 L.size with h' | h'
      · exact h'
      · rw [h.sz] at h'
        cases n with
        | zero => rw [Proofs.YtmbkjdkjemlfkaaGreatDoor.anc] at h2; cases h2
        | succ n => rw [Proofs.YtmbkjdkjemlfkaaGreatDoor.anc, Array.getElem?_eq_none h'] at h2; cases h2
    have := h.cl.anc n s.1 k h2 (getD_tt hl.1 hlt)
    rw [getD_tf hun] at this; cases this
theorem InW.other (h : InW ops W X0 S q Fo u L w) {k : Nat} {o : Oper} (ho : ops[k]? = some o) (hb : Behind .any o L) (hun : L.getD k true = false) (hS : (S.all fun s => s.1 != k) = true) : InW ops W X0 S q Fo u (L.setIfInBounds k true) w := by
  have hne : ∀ s ∈ S, s.1 ≠ k := fun s hs => by simpa using List.all_eq_true.1 hS s hs
  have hk := size_of_undone hun
  have key : ∀ s ∈ S, LiveF s (L.setIfInBounds k true) → LiveF s L := fun s hs hl => by
    rcases hl.of_put (hne s hs) with h1 | h1
    · exact h1.1
    · omega
  exact ⟨h.cl.put ho hb, by rw [set_size]; exact h.sz, h.bw, fun s hs hl => h.q s hs (key s hs hl), fun s hs hl => h.fo s hs (key s hs hl), fun s hs r hr hl hm => h.dj s hs r hr (key s hs hl) (key r hr hm)⟩
theorem InW.val (h : InW ops W X0 S q Fo u L w) {n k : Nat} {o : Oper} (hok : skelOk ops n S = true) (hq : FootsOk S q) (ho : ops[k]? = some o) (hb : Behind .any o L) (hun : L.getD k true = false) (hS : (S.all fun s => s.1 != k) = true) (x : Value) : InW ops W X0 S q Fo (upd u k x) (L.setIfInBounds k true) w := by
  have h' := h.other ho hb hun hS
  have hne : ∀ s ∈ S, s.1 ≠ k := fun s hs => by simpa using List.all_eq_true.1 hS s hs
  have hk := size_of_undone hun
  refine ⟨h'.cl, h'.sz, h'.bw, fun s hs hl => ?_, h'.fo, h'.dj⟩
  rcases hl.of_put (hne s hs) with h1 | h1
  · exact h.dep_put hok hq hun x hs h1.1 (h'.q s hs hl)
  · omega
theorem InW.act (h : InW ops W X0 S q Fo u L w) {n i : Nat} {o : Oper} (hok : skelOk ops n S = true) (hq : FootsOk S q) (ho : ops[i]? = some o) (hb : Behind .any o L) (hun : L.getD i true = false) (x : Value) (F' : Nat → Prop) (hk : Kp (fun b => ∃ s ∈ S, s.2.1 = some i ∧ Fo s.1 b) w w')
    (hF : ∀ b, F' b → (∃ s ∈ S, s.2.1 = some i ∧ Fo s.1 b) ∨ w.heap.size ≤ b) (hF2 : ∀ b, F' b → b < w'.heap.size) (hx : ∀ s ∈ S, s.1 = i → q i (upd u i x) F' w') :
    InW ops W X0 S q (fun j => if j = i then F' else Fo j) (upd u i x) (L.setIfInBounds i true) w' := by
  have hi := size_of_undone hun
  have par : ∀ s ∈ S, s.2.1 = some i → LiveF s L := fun s hs hc => h.live_of hok ho hb hun hs hc
  have old : ∀ s ∈ S, s.1 ≠ i → LiveF s (L.setIfInBounds i true) → LiveF s L ∧ s.2.1 ≠ some i := fun s hs hne hl => by
    rcases hl.of_put hne with h1 | h1
    · exact h1
    · omega
  have self : ∀ s ∈ S, LiveF s L → s.1 ≠ i := fun s _ hl e => by have := hl.1; rw [e, hun] at this; cases this
  have far : ∀ s ∈ S, s.1 ≠ i → LiveF s (L.setIfInBounds i true) → ∀ b, Fo s.1 b → ¬ ∃ r ∈ S, r.2.1 = some i ∧ Fo r.1 b := fun s hs hne hl b hb' ⟨r, hr, hc, hrb⟩ => by
    obtain ⟨h1, h2⟩ := old s hs hne hl
    by_cases e : s.1 = r.1
    · obtain rfl := skel_eq hok hs hr e
      exact h2 hc
    · exact h.dj s hs r hr h1 (par r hr hc) e b hb' hrb
  have bwX : Kp X0 W w' := ⟨hk.os.trans h.bw.os, hk.tape.trans h.bw.tape, hk.output.trans h.bw.output, Nat.le_trans h.bw.size hk.size, fun b hb1 hnx => by
    refine (hk.block b (Nat.lt_of_lt_of_le hb1 h.bw.size) (fun ⟨s, hs, hc, hbs⟩ => ?_)).trans (h.bw.block b hb1 hnx)
    rcases (h.fo s hs (par s hs hc) b hbs).1 with h2 | h2
    · exact hnx h2
    · omega⟩
  have parF : ∀ b, (∃ s ∈ S, s.2.1 = some i ∧ Fo s.1 b) → (X0 b ∨ W.heap.size ≤ b) ∧ b < w.heap.size := fun b ⟨s, hs, hc, hbs⟩ => h.fo s hs (par s hs hc) b hbs
  refine ⟨h.cl.put ho hb, by rw [set_size]; exact h.sz, bwX, fun s hs hl => ?_, fun s hs hl b hbf => ?_, fun s hs r hr hl hm hne b hbs hbr => ?_⟩
  · by_cases e : s.1 = i
    · simp only [e, if_true]; exact hx s hs e
    · simp only [if_neg e]
      have h1 := (old s hs e hl).1
      refine hq.stab _ _ _ w w' (fun b hbf => hk.block b (h.fo s hs h1 b hbf).2 (far s hs e hl b hbf)) hk.size (fun b hbf => (h.fo s hs h1 b hbf).2) ?_
      exact h.dep_put hok hq hun x hs h1 (h.q s hs h1)
  · by_cases e : s.1 = i
    · simp only [e, if_true] at hbf
      refine ⟨?_, hF2 b hbf⟩
      rcases hF b hbf with h2 | h2
      · exact (parF b h2).1
      · have := h.bw.size; exact .inr (by omega)
    · simp only [if_neg e] at hbf
      have h1 := h.fo s hs (old s hs e hl).1 b hbf
      exact ⟨h1.1, Nat.lt_of_lt_of_le h1.2 hk.size⟩
  · by_cases e : s.1 = i
    · have er : r.1 ≠ i := fun e' => hne (e.trans e'.symm)
      simp only [e, if_true] at hbs
      simp only [if_neg er] at hbr
      rcases hF b hbs with h2 | h2
      · exact far r hr er hm b hbr h2
      · have := (h.fo r hr (old r hr er hm).1 b hbr).2; omega
    · simp only [if_neg e] at hbs
      by_cases er : r.1 = i
      · simp only [er, if_true] at hbr
        rcases hF b hbr with h2 | h2
        · exact far s hs e hl b hbs h2
        · have := (h.fo s hs (old s hs e hl).1 b hbs).2; omega
      · simp only [if_neg er] at hbr
        exact h.dj s hs r hr (old s hs e hl).1 (old r hr er hm).1 hne b hbs hbr
theorem InW.start {l : List Oper} (hini : ∀ s ∈ S, ops.size ≤ s.1 → (s.2.1 = none ∨ True) ∧ q s.1 (fun _ => undef) (Fo s.1) W.drew ∧ ∀ b, Fo s.1 b → X0 b ∧ b < W.heap.size) (hdj : ∀ s ∈ S, ∀ r ∈ S, ops.size ≤ s.1 → ops.size ≤ r.1 → s.1 ≠ r.1 → ∀ b, Fo s.1 b → ¬ Fo r.1 b) (hl : ops.size = l.length) :
    InW ops W X0 S q Fo (fun _ => undef) (Array.replicate l.length false) W.drew := by
  have un : ∀ i, (Array.replicate l.length false).getD i false = false := fun i => getD_replicate_none _ _
  have ini : ∀ s ∈ S, LiveF s (Array.replicate l.length false) → ops.size ≤ s.1 := fun s _ hl' => by
    rcases Nat.lt_or_ge s.1 ops.size with h1 | h1
    · have := getD_tt hl'.1 (by rw [Array.size_replicate]; omega)
      rw [un] at this; cases this
    · exact h1
  exact ⟨fun c oc _ hd => (by rw [un] at hd; cases hd), by rw [Array.size_replicate]; exact hl.symm, (Kp.refl _ _).drew, fun s hs h' => (hini s hs (ini s hs h')).2.1, fun s hs h' b hb => ⟨.inl ((hini s hs (ini s hs h')).2.2 b hb).1, ((hini s hs (ini s hs h')).2.2 b hb).2⟩,
    fun s hs r hr h1 h2 hne => hdj s hs r hr (ini s hs h1) (ini r hr h2) hne⟩
theorem InW.live (h : InW ops W X0 S q Fo u L w) {n i : Nat} {s : Nat × Option Nat × List Nat} (hd : L.getD s.1 true = true) (hun : L.getD i true = false) (hc : (match s.2.1 with | none => true | some c => (c == i || Proofs.YtmbkjdkjemlfkaaGreatDoor.anc ops n c i)) = true) : LiveF s L := by
  refine ⟨hd, fun c hc' => ?_⟩
  rw [hc'] at hc
  simp only [Bool.or_eq_true, beq_iff_eq] at hc
  rcases hc with rfl | hc
  · exact hun
  · cases hx : L.getD c true with
    | false => rfl
    | true =>
      have hlt : c < L.size := by
        rcases Nat.lt_or_ge c L.size with h' | h'
        · exact h'
        · rw [h.sz] at h'
          cases n with
          | zero => rw [Proofs.YtmbkjdkjemlfkaaGreatDoor.anc] at hc; cases hc
          | succ n => rw [Proofs.YtmbkjdkjemlfkaaGreatDoor.anc, Array.getElem?_eq_none h'] at hc; cases hc
      have := h.cl.anc n c i hc (getD_tt hx hlt)
      rw [getD_tf hun] at this; cases this
end
theorem wp_region_any4 {P : Program} {vs : List (Option Value)} {D : (Nat → Value) → Array Bool → World → Prop} {id : Nat} {Q : Exit → Act → World → Prop} {a : Act} {w : World} {l : List Oper} (hm : P.follows .mixedOrders = true) (hB : Region.lexB .any l.toArray = true)
    (hC : D (fun _ => undef) (Array.replicate l.length false) w.drew)
    (h : flowV P .any l.toArray vs D (fun a' u => ∀ L w', (∀ i, i < l.length → L.getD i false = true) → D u L w' → Q .normal a' w') 0 l a (fun _ => undef)) : (Code.region id l.toArray true).wp P Q a w := by
  simp only [Region.lexB, Bool.and_eq_true] at hB
  refine wp_region_any hm (wpAny_of_anyV (vs := vs) (D := D) (Q := fun L a u => (∀ i, i < l.toArray.size → L.getD i false = true) ∧ ∀ L w', (∀ i, i < l.length → L.getD i false = true) → D u L w' → Q .normal a w')
    (fun L a u w' hw' h => h.2 L w' (by simpa using h.1) hw') _ _ _ (fun _ => undef) _ (by simpa using hC) ?_)
  have := anyV_lex hB.1 l 0 (Array.replicate l.length false) a (fun _ => undef) (by simp) (by simp) (by simp) (fun i hi => absurd hi (by omega)) (by simpa using hB.2) h
  simpa using this
def FtD (ops : Array Oper) (W : World) (X0 : Nat → Prop) (S : Skel) (q : Foots) (T : DetL) (u : Nat → Value) (L : Array Bool) (w : World) : Prop := (∃ Fo, InW ops W X0 S q Fo u L w) ∧ Dets T u L
theorem wp_region_foot {P : Program} {id : Nat} {Q' : Exit → Act → World → Prop} {a : Act} {w : World} {l : List Oper} (vs : List (Option Value)) (X0 : Nat → Prop) (S : Skel) (q : Foots) (T : DetL) (Fo : Nat → Nat → Prop) (hm : P.follows .mixedOrders = true) (hB : Region.lexB .any l.toArray = true)
    (hini : ∀ s ∈ S, l.length ≤ s.1 → q s.1 (fun _ => undef) (Fo s.1) w.drew ∧ ∀ b, Fo s.1 b → X0 b ∧ b < w.heap.size) (hdj : ∀ s ∈ S, ∀ r ∈ S, l.length ≤ s.1 → l.length ≤ r.1 → s.1 ≠ r.1 → ∀ b, Fo s.1 b → ¬ Fo r.1 b)
    (h : flowV P .any l.toArray vs (FtD l.toArray w X0 S q T) (fun a' u => ∀ L w', (∀ i, i < l.length → L.getD i false = true) → FtD l.toArray w X0 S q T u L w' → Q' .normal a' w') 0 l a (fun _ => undef)) : (Code.region id l.toArray true).wp P Q' a w :=
  wp_region_any4 hm hB ⟨⟨Fo, InW.start (l := l) (fun s hs h' => ⟨.inr trivial, hini s hs (by simpa using h')⟩) (fun s hs r hr h1 h2 => hdj s hs r hr (by simpa using h1) (by simpa using h2)) (by simp)⟩, Dets.start (fun i => getD_replicate_none _ _)⟩ h
section
variable {ops : Array Oper} {W w w' : World} {X0 : Nat → Prop} {S : Skel} {q : Foots} {T : DetL} {u : Nat → Value} {L : Array Bool}
theorem FtD.bw (h : FtD ops W X0 S q T u L w) : Kp X0 W w := by obtain ⟨⟨Fo, h⟩, -⟩ := h; exact h.bw
theorem FtD.other (h : FtD ops W X0 S q T u L w) {k : Nat} {o : Oper} (ho : ops[k]? = some o) (hb : Behind .any o L) (hun : L.getD k true = false) (hS : (S.all fun s => s.1 != k) = true) (hT : (T.map (·.1)).contains k = false) : FtD ops W X0 S q T u (L.setIfInBounds k true) w := by
  obtain ⟨⟨Fo, h1⟩, h2⟩ := h
  exact ⟨⟨Fo, h1.other ho hb hun hS⟩, h2.other hT⟩
theorem FtD.det (h : FtD ops W X0 S q T u L w) {n k p : Nat} {φ : Value → Value} {o : Oper} (hok : skelOk ops n S = true) (hq : FootsOk S q) (ho : ops[k]? = some o) (hb : Behind .any o L) (hun : L.getD k true = false) (hS : (S.all fun s => s.1 != k) = true) (hp : L.getD p false = true) (x : Value) (hx : x = φ (u p)) (hT : ∀ t ∈ T, t.1 = k → t = (k, p, φ)) : FtD ops W X0 S q T (upd u k x) (L.setIfInBounds k true) w := by
  obtain ⟨⟨Fo, h1⟩, h2⟩ := h
  exact ⟨⟨Fo, h1.val hok hq ho hb hun hS x⟩, h2.det hun hp x hx hT⟩
theorem FtD.done (h : FtD ops W X0 S q T u L w) {n : Nat} (hn : ops.size = n) (hL : ∀ i, i < n → L.getD i false = true) : Kp X0 W w ∧ ∃ Fo : Nat → Nat → Prop, (∀ s ∈ S, s.2.1 = none → q s.1 u (Fo s.1) w ∧ ∀ b, Fo s.1 b → (X0 b ∨ W.heap.size ≤ b) ∧ b < w.heap.size) ∧ ∀ s ∈ S, ∀ r ∈ S, s.2.1 = none → r.2.1 = none → s.1 ≠ r.1 → ∀ b, Fo s.1 b → ¬ Fo r.1 b := by
  obtain ⟨⟨Fo, h⟩, -⟩ := h
  have key : ∀ s ∈ S, s.2.1 = none → LiveF s L := fun s hs hc => ⟨by
    rcases Nat.lt_or_ge s.1 n with h1 | h1
    · exact getD_ff (hL _ h1)
    · rw [Array.getD_eq_getD_getElem?, Array.getElem?_eq_none (by rw [h.sz, hn]; exact h1)]; rfl, fun c hc' => by rw [hc] at hc'; cases hc'⟩
  exact ⟨h.bw, Fo, fun s hs hc => ⟨h.q s hs (key s hs hc), h.fo s hs (key s hs hc)⟩, fun s hs r hr h1 h2 => h.dj s hs r hr (key s hs h1) (key r hr h2)⟩
end
def DsF (us : List ByteArray) (lo n : Nat) (R : Fm × Nat × List Dfn) : Foots
  | 1, u, F, w => w.ownsRow lo 9 1 (u 1) 0 [] ∧ ∀ b, (u 1).ownBlock = some b → F b
  | 3, u, F, w => w.ownsRow lo 9 1 (u 3) us.length (strW us) ∧ ∀ b, (u 3).ownBlock = some b → F b
  | 5, u, F, w => (∃ g, u 5 = .pointer (some ⟨g, 0, none⟩) ∧ w.heap[g]? = some (.cells (nmrS 0 (u 3)) 58 (0, 0)) ∧ lo ≤ g ∧ F g ∧ (u 3).ownBlock ≠ some g) ∧ w.ownsRow lo 9 1 (u 3) us.length (strW us) ∧ ∀ b, (u 3).ownBlock = some b → F b
  | 6, u, F, w => w.ownsRow lo 60 7 (u 6) 0 [] ∧ ∀ b, (u 6).ownBlock = some b → F b
  | 7, u, F, w => ∃ (y : FC) (lv : Value) (D : List DC), u 7 = .tuple #[.agg y.cs.toArray, lv] ∧ y.f = R.1 ∧ FmAt F n w y.f y.cs ∧ w.ownsRow lo 60 7 lv D.length (flatD D) ∧ D.map DC.d = R.2.2 ∧ ∀ b, lv.ownBlock = some b → F b
  | 11, u, F, w => ∃ kk, u 11 = .pointer (some ⟨kk, 0, none⟩) ∧ lo ≤ kk ∧ F kk ∧ w.heap[kk]? = some (.cells #[.int .i64 0, .string ⟨#[]⟩, .slice none 0 0, .string ⟨#[]⟩, .slice none 0 0] 29 (0, 0))
  | 12, u, F, w => ∃ (y : FC) (lv : Value) (D : List DC) (kk : Nat), u 7 = .tuple #[.agg y.cs.toArray, lv] ∧ u 11 = .pointer (some ⟨kk, 0, none⟩) ∧ lo ≤ kk ∧ y.f = R.1 ∧ FmAt F n w y.f y.cs ∧ w.ownsRow lo 60 7 lv D.length (flatD D) ∧ D.map DC.d = R.2.2 ∧ (∀ b, lv.ownBlock = some b → F b) ∧ F kk ∧ w.heap[kk]? = some (.cells y.cs.toArray 29 (0, 0))
  | _, _, _, _ => True
def dsS : Skel := [(1, some 3, [1]), (3, some 5, [3]), (5, some 7, [3, 5]), (6, some 7, [6]), (7, some 12, [7]), (11, some 12, [11]), (12, none, [7, 11])]
theorem DsF.ok (us : List ByteArray) (lo n : Nat) (R : Fm × Nat × List Dfn) : FootsOk dsS (DsF us lo n R) := by
  refine ⟨fun i u F w w' hs hz hf h => ?_, fun s hs u u' F w hu h => ?_⟩
  · have row : ∀ {e : TypeId} {k : Nat} {v : Value} {c : Nat} {xs : List Value}, w.ownsRow lo e k v c xs → (∀ b, v.ownBlock = some b → F b) → w'.ownsRow lo e k v c xs := fun h1 h2 => own_same h1 (fun b hb _ => hs b (h2 b hb))
    unfold DsF at h ⊢
    split at h
    · exact ⟨row h.1 h.2, h.2⟩
    · exact ⟨row h.1 h.2, h.2⟩
    · obtain ⟨⟨g, h1, h2, h3, h4, h5⟩, h6, h7⟩ := h
      exact ⟨⟨g, h1, (hs g h4).trans h2, h3, h4, h5⟩, row h6 h7, h7⟩
    · exact ⟨row h.1 h.2, h.2⟩
    · obtain ⟨y, lv, D, h1, h2, h3, h4, h5, h6⟩ := h
      exact ⟨y, lv, D, h1, h2, FmAt.mono (fun b hb _ => hs b hb) (fun _ h => h) _ _ _ _ (Nat.le_refl _) h3, row h4 h6, h5, h6⟩
    · obtain ⟨kk, h1, h2, h3, h4⟩ := h
      exact ⟨kk, h1, h2, h3, (hs kk h3).trans h4⟩
    · obtain ⟨y, lv, D, kk, h1, h2, h3, h4, h5, h6, h7, h8, h9, h10⟩ := h
      exact ⟨y, lv, D, kk, h1, h2, h3, h4, FmAt.mono (fun b hb _ => hs b hb) (fun _ h => h) _ _ _ _ (Nat.le_refl _) h5, row h6 h8, h7, h8, h9, (hs kk h9).trans h10⟩
    · trivial
  · simp only [dsS, List.mem_cons, List.not_mem_nil, or_false] at hs
    rcases hs with rfl | rfl | rfl | rfl | rfl | rfl | rfl <;> simp only [DsF, List.mem_cons, List.not_mem_nil, or_false, forall_eq_or_imp, forall_eq] at h hu ⊢
    · rw [hu]; exact h
    · rw [hu]; exact h
    · rw [hu.1, hu.2]; exact h
    · rw [hu]; exact h
    · rw [hu]; exact h
    · rw [hu]; exact h
    · rw [hu.1, hu.2]; exact h
def mkNmr : Value → Value := fun v => .agg #[.string ⟨#[100]⟩, .int .i64 0, v]
def dsT : DetL := [(4, 3, mkNmr), (8, 7, fun v => v), (9, 8, fstV), (10, 8, sndV), (13, 10, fun v => v)]
abbrev DsD (us : List ByteArray) (n : Nat) (R : Fm × Nat × List Dfn) (ops : Array Oper) (W : World) : (Nat → Value) → Array Bool → World → Prop := FtD ops W (fun _ => False) dsS (DsF us W.heap.size n R) dsT
section
variable {us : List ByteArray} {n : Nat} {R : Fm × Nat × List Dfn} {ops : Array Oper} {W w w' : World} {u : Nat → Value} {L : Array Bool} {o : Oper}
theorem DsD.s1 (h : DsD us n R ops W u L w) (hok : skelOk ops 16 dsS = true) (ho : ops[1]? = some o) (hb : Behind .any o L) (hun : L.getD 1 true = false) : DsD us n R ops W (upd u 1 (.slice (some ⟨w.heap.size, 0, none⟩) 0 0)) (L.setIfInBounds 1 true) (w.alloc (.cells #[] 9)) := by
  obtain ⟨⟨Fo, hI⟩, hT⟩ := h
  have hz := hI.bw.size
  refine ⟨⟨_, hI.act hok (DsF.ok us W.heap.size n R) ho hb hun _ (fun b => b = w.heap.size) ((Kp.refl _ _).alloc _) (fun b e => .inr (by omega)) (fun b e => by simp; omega) (fun s _ _ => ?_)⟩, hT.skip hun _ rfl⟩
  show World.ownsRow _ _ _ _ (upd u 1 _ 1) 0 [] ∧ ∀ b, (upd u 1 _ 1).ownBlock = some b → _
  rw [upd_same]
  exact ⟨row_empty w _ _ _ hz, fun b e => by simpa [Value.ownBlock] using e.symm⟩
theorem DsD.s6 (h : DsD us n R ops W u L w) (hok : skelOk ops 16 dsS = true) (ho : ops[6]? = some o) (hb : Behind .any o L) (hun : L.getD 6 true = false) : DsD us n R ops W (upd u 6 (.slice (some ⟨w.heap.size, 0, none⟩) 0 0)) (L.setIfInBounds 6 true) (w.alloc (.cells #[] 60)) := by
  obtain ⟨⟨Fo, hI⟩, hT⟩ := h
  have hz := hI.bw.size
  refine ⟨⟨_, hI.act hok (DsF.ok us W.heap.size n R) ho hb hun _ (fun b => b = w.heap.size) ((Kp.refl _ _).alloc _) (fun b e => .inr (by omega)) (fun b e => by simp; omega) (fun s _ _ => ?_)⟩, hT.skip hun _ rfl⟩
  show World.ownsRow _ _ _ _ (upd u 6 _ 6) 0 [] ∧ ∀ b, (upd u 6 _ 6).ownBlock = some b → _
  rw [upd_same]
  exact ⟨row_empty w _ _ _ hz, fun b e => by simpa [Value.ownBlock] using e.symm⟩
theorem DsD.s11 (h : DsD us n R ops W u L w) (hok : skelOk ops 16 dsS = true) (ho : ops[11]? = some o) (hb : Behind .any o L) (hun : L.getD 11 true = false) : DsD us n R ops W (upd u 11 (.pointer (some ⟨w.heap.size, 0, none⟩))) (L.setIfInBounds 11 true) (w.alloc (.cells #[.int .i64 0, .string ⟨#[]⟩, .slice none 0 0, .string ⟨#[]⟩, .slice none 0 0] 29)) := by
  obtain ⟨⟨Fo, hI⟩, hT⟩ := h
  have hz := hI.bw.size
  refine ⟨⟨_, hI.act hok (DsF.ok us W.heap.size n R) ho hb hun _ (fun b => b = w.heap.size) ((Kp.refl _ _).alloc _) (fun b e => .inr (by omega)) (fun b e => by simp; omega) (fun s _ _ => ?_)⟩, hT.skip hun _ rfl⟩
  exact ⟨w.heap.size, by rw [upd_same], hz, rfl, heap_alloc_new w _⟩
theorem DsD.r1 (h : DsD us n R ops W u L w) (hok : skelOk ops 16 dsS = true) (ho : ops[3]? = some o) (hb : Behind .any o L) (hun : L.getD 3 true = false) : w.ownsRow W.heap.size 9 1 (u 1) 0 [] := by
  obtain ⟨⟨Fo, hI⟩, -⟩ := h
  exact (hI.q (1, some 3, [1]) (by simp [dsS]) (hI.live_of hok ho hb hun (by simp [dsS]) rfl)).1
theorem DsD.s3 {v' : Value} (h : DsD us n R ops W u L w) (hok : skelOk ops 16 dsS = true) (ho : ops[3]? = some o) (hb : Behind .any o L) (hun : L.getD 3 true = false) (hg : GrS 9 W.heap.size w (u 1) us v' w') : DsD us n R ops W (upd u 3 v') (L.setIfInBounds 3 true) w' := by
  obtain ⟨⟨Fo, hI⟩, hT⟩ := h
  have h1 := (hI.q (1, some 3, [1]) (by simp [dsS]) (hI.live_of hok ho hb hun (by simp [dsS]) rfl)).2
  have h1 : ∀ b, (u 1).ownBlock = some b → Fo 1 b := h1
  have key : ∀ b, (u 1).ownBlock = some b → ∃ s ∈ dsS, s.2.1 = some 3 ∧ Fo s.1 b := fun b e => ⟨(1, some 3, [1]), by simp [dsS], rfl, h1 b e⟩
  refine ⟨⟨_, hI.act hok (DsF.ok us W.heap.size n R) ho hb hun _ (fun b => v'.ownBlock = some b) ((Kp.of_gr hg.gr).mono (fun b e => .inl (key b e))) (fun b e => ?_) (fun b e => own_lt' hg.row e) (fun s _ _ => ?_)⟩, hT.skip hun _ rfl⟩
  · rcases hg.nr with e' | ⟨b', e', hge⟩
    · exact .inl (key b (e' ▸ e))
    · rw [e'] at e; injection e with e; exact .inr (by omega)
  · show World.ownsRow _ _ _ _ (upd u 3 _ 3) _ _ ∧ ∀ b, (upd u 3 _ 3).ownBlock = some b → _
    rw [upd_same]
    exact ⟨hg.row, fun _ e => e⟩
theorem DsD.r3 (h : DsD us n R ops W u L w) {i : Nat} (hd : L.getD 3 false = true) (hun : L.getD i true = false) (hc : (5 == i || anc ops 16 5 i) = true) : w.ownsRow W.heap.size 9 1 (u 3) us.length (strW us) := by
  obtain ⟨⟨Fo, hI⟩, -⟩ := h
  exact (hI.q (3, some 5, [3]) (by simp [dsS]) (hI.live (n := 16) (getD_ff hd) hun hc)).1
theorem DsD.s5 (h : DsD us n R ops W u L w) (hok : skelOk ops 16 dsS = true) (ho : ops[5]? = some o) (hb : Behind .any o L) (hun : L.getD 5 true = false) : DsD us n R ops W (upd u 5 (.pointer (some ⟨w.heap.size, 0, none⟩))) (L.setIfInBounds 5 true) (w.alloc (.cells (nmrS 0 (u 3)) 58)) := by
  obtain ⟨⟨Fo, hI⟩, hT⟩ := h
  have hz := hI.bw.size
  obtain ⟨h1, h2⟩ : w.ownsRow W.heap.size 9 1 (u 3) us.length (strW us) ∧ ∀ b, (u 3).ownBlock = some b → Fo 3 b := hI.q (3, some 5, [3]) (by simp [dsS]) (hI.live_of hok ho hb hun (by simp [dsS]) rfl)
  refine ⟨⟨_, hI.act hok (DsF.ok us W.heap.size n R) ho hb hun _ (fun b => b = w.heap.size ∨ (u 3).ownBlock = some b) ((Kp.refl _ _).alloc _) (fun b e => ?_) (fun b e => ?_) (fun s _ _ => ?_)⟩, hT.skip hun _ rfl⟩
  · rcases e with e | e
    · exact .inr (by omega)
    · exact .inl ⟨(3, some 5, [3]), by simp [dsS], rfl, h2 b e⟩
  · rcases e with e | e
    · simp; omega
    · have := own_lt' h1 e; simp; omega
  · refine ⟨⟨w.heap.size, by rw [upd_same], ?_, hz, .inl rfl, ?_⟩, ?_, ?_⟩ <;> rw [upd_other _ _ (by decide)]
    · exact heap_alloc_new w _
    · exact fun e => by have := own_lt' h1 e; omega
    · exact own_below h1 ((Below.refl _ _).alloc (Nat.le_refl _) _)
    · exact fun b e => .inr e
def nmX (u : Nat → Value) (b : Nat) : Prop := u 5 = .pointer (some ⟨b, 0, none⟩) ∨ (u 3).ownBlock = some b ∨ (u 6).ownBlock = some b
theorem DsD.st (h : DsD us n R ops W u L w) (hok : skelOk ops 16 dsS = true) (ho : ops[7]? = some o) (hb : Behind .any o L) (hun : L.getD 7 true = false) (hs : ∀ s ∈ us, s.size ≤ maxLen) (hl : us.length ≤ maxLen) :
    ∃ g, u 5 = .pointer (some ⟨g, 0, none⟩) ∧ SSt us W.heap.size g 0 [] (u 3) (u 6) [] (nmX u) w ∧ ∀ b, nmX u b → W.heap.size ≤ b := by
  obtain ⟨⟨Fo, hI⟩, hT⟩ := h
  obtain ⟨⟨g, h1, h2, h3, h4, h5⟩, h6, h7⟩ := hI.q (5, some 7, [3, 5]) (by simp [dsS]) (hI.live_of hok ho hb hun (by simp [dsS]) rfl)
  obtain ⟨h8, h9⟩ : w.ownsRow W.heap.size 60 7 (u 6) 0 [] ∧ ∀ b, (u 6).ownBlock = some b → Fo 6 b := hI.q (6, some 7, [6]) (by simp [dsS]) (hI.live_of hok ho hb hun (by simp [dsS]) rfl)
  have dj : ∀ b, Fo 5 b → ¬ Fo 6 b := hI.dj (5, some 7, [3, 5]) (by simp [dsS]) (6, some 7, [6]) (by simp [dsS]) (hI.live_of hok ho hb hun (by simp [dsS]) rfl) (hI.live_of hok ho hb hun (by simp [dsS]) rfl) (by decide)
  have hge : ∀ b, nmX u b → b = g ∨ (u 3).ownBlock = some b ∨ (u 6).ownBlock = some b := fun b e => by
    rcases e with e | e | e
    · rw [h1] at e; exact .inl (by simpa using e.symm)
    · exact .inr (.inl e)
    · exact .inr (.inr e)
  refine ⟨g, h1, ⟨h2, ((rowS_own (S := fun b => (u 3).ownBlock = some b) h6 hs hl (fun _ h => h)).at_).mono (SameOn.refl _ _) (fun b e => ⟨.inr (.inl e), fun e' => h5 (e' ▸ e), fun e' => dj b (h7 b e) (h9 b e')⟩), by simpa [flatD] using h8, rfl, .inl h1, fun b e => .inr (.inr e), fun b e => ?_, fun e => dj g h4 (h9 g e)⟩, fun b e => ?_⟩
  · rcases hge b e with rfl | e | e
    · exact blk_lt h2
    · exact own_lt' h6 e
    · exact own_lt' h8 e
  · rcases hge b e with rfl | e | e
    · exact h3
    · exact own_base h6 b e
    · exact own_base h8 b e
theorem DsD.s7 {t : Fm} {g : Nat} {v : Value} (h : DsD us n R ops W u L w) (hok : skelOk ops 16 dsS = true) (ho : ops[7]? = some o) (hb : Behind .any o L) (hun : L.getD 7 true = false) (hR : R = dfn (inS us) vfD t false 0) (hq : SpR us W.heap.size g (u 3) n t false 0 [] (nmX u) w v w') (hk : Kp (nmX u) w w') :
    DsD us n R ops W (upd u 7 v) (L.setIfInBounds 7 true) w' := by
  obtain ⟨⟨Fo, hI⟩, hT⟩ := h
  obtain ⟨⟨g', h1, h2, h3, h4, h5⟩, h6, h7⟩ := hI.q (5, some 7, [3, 5]) (by simp [dsS]) (hI.live_of hok ho hb hun (by simp [dsS]) rfl)
  obtain ⟨h8, h9⟩ : w.ownsRow W.heap.size 60 7 (u 6) 0 [] ∧ ∀ b, (u 6).ownBlock = some b → Fo 6 b := hI.q (6, some 7, [6]) (by simp [dsS]) (hI.live_of hok ho hb hun (by simp [dsS]) rfl)
  have key : ∀ b, nmX u b → ∃ s ∈ dsS, s.2.1 = some 7 ∧ Fo s.1 b := fun b e => by
    rcases e with e | e | e
    · rw [h1] at e
      obtain rfl : g' = b := by simpa using e
      exact ⟨(5, some 7, [3, 5]), by simp [dsS], rfl, h4⟩
    · exact ⟨(5, some 7, [3, 5]), by simp [dsS], rfl, h7 b e⟩
    · exact ⟨(6, some 7, [6]), by simp [dsS], rfl, h9 b e⟩
  obtain ⟨y, X', lv, D, rfl, hy, hf, hst, hX⟩ := hq
  rw [List.nil_append] at hst
  refine ⟨⟨_, hI.act hok (DsF.ok us W.heap.size n R) ho hb hun _ (fun b => (w.heap.size ≤ b ∧ b < w'.heap.size) ∨ X' b) (hk.mono (fun b e => .inl (key b e))) (fun b e => ?_) (fun b e => ?_) (fun s _ _ => ?_)⟩, hT.skip hun _ rfl⟩
  · rcases e with e | e
    · exact .inr e.1
    · rcases hX b e with e | e
      · exact .inl (key b e)
      · exact .inr e.1
  · rcases e with e | e
    · exact e.2
    · exact hst.foot b e
  · exact ⟨y, lv, D, by rw [upd_same], by rw [hR]; exact hy, FmAt.mono (SameOn.refl _ _) (fun b hb => .inl ⟨hb.1, hb.2.1⟩) _ _ _ _ (Nat.le_refl _) hf, hst.row, by rw [hR]; exact hst.ds, fun b e => .inr (hst.xl b e)⟩
theorem DsD.tup (h : DsD us n R ops W u L w) (hd : L.getD 7 false = true) : ∃ (y : FC) (lv : Value), u 7 = .tuple #[.agg y.cs.toArray, lv] := by
  obtain ⟨⟨Fo, hI⟩, -⟩ := h
  cases h12 : L.getD 12 true with
  | false =>
    obtain ⟨y, lv, D, h1, -⟩ := hI.q (7, some 12, [7]) (by simp [dsS]) ⟨getD_ff hd, fun c hc => by obtain rfl := Option.some.inj hc; exact h12⟩
    exact ⟨y, lv, h1⟩
  | true =>
    obtain ⟨y, lv, D, kk, h1, -⟩ := hI.q (12, none, [7, 11]) (by simp [dsS]) ⟨h12, fun c hc => by cases hc⟩
    exact ⟨y, lv, h1⟩
theorem DsD.s12 (h : DsD us n R ops W u L w) (hok : skelOk ops 16 dsS = true) (ho : ops[12]? = some o) (hb : Behind .any o L) (hun : L.getD 12 true = false) : ∃ (y : FC) (lv : Value) (kk : Nat), u 7 = .tuple #[.agg y.cs.toArray, lv] ∧ u 11 = .pointer (some ⟨kk, 0, none⟩) ∧ w.heap[kk]? = some (.cells #[.int .i64 0, .string ⟨#[]⟩, .slice none 0 0, .string ⟨#[]⟩, .slice none 0 0] 29 (0, 0)) ∧
    ∀ x, DsD us n R ops W (upd u 12 x) (L.setIfInBounds 12 true) (set5C w kk (.int .i64 y.f.op) (.string y.f.a.n) (.slice y.p y.f.a.us.length y.c) (.string y.f.v) (.slice y.q y.f.ps.length y.d)) := by
  obtain ⟨⟨Fo, hI⟩, hT⟩ := h
  have l7 := hI.live_of (s := (7, some 12, [7])) hok ho hb hun (by simp [dsS]) rfl
  have l11 := hI.live_of (s := (11, some 12, [11])) hok ho hb hun (by simp [dsS]) rfl
  obtain ⟨y, lv, D, h1, h2, h3, h4, h5, h6⟩ := hI.q _ (by simp [dsS]) l7
  obtain ⟨kk, k1, k2, k3, k4⟩ := hI.q _ (by simp [dsS]) l11
  have h6 : ∀ b, lv.ownBlock = some b → Fo 7 b := h6
  have h3 : FmAt (Fo 7) n w y.f y.cs := h3
  have k3 : Fo 11 kk := k3
  have dj : ∀ b, Fo 7 b → b ≠ kk := fun b e e' => hI.dj _ (by simp [dsS]) _ (by simp [dsS]) l7 l11 (by decide) b e (e' ▸ k3)
  have hfo : ∀ b, Fo 7 b → b < w.heap.size := fun b e => (hI.fo _ (by simp [dsS]) l7 b e).2
  refine ⟨y, lv, kk, h1, k1, k4, fun x => ⟨⟨_, hI.act hok (DsF.ok us W.heap.size n R) ho hb hun x (fun b => Fo 7 b ∨ b = kk) ?_ (fun b e => .inl ?_) (fun b e => ?_) (fun s _ _ => ?_)⟩, hT.skip hun x rfl⟩⟩
  · have kx : (fun b => ∃ s ∈ dsS, s.2.1 = some 12 ∧ Fo s.1 b) kk := ⟨(11, some 12, [11]), by simp [dsS], rfl, k3⟩
    exact (((((Kp.refl _ _).sc (a := ⟨kk, 0, none⟩) (.inl kx) _).sc (a := ⟨kk, 1, none⟩) (.inl kx) _).sc (a := ⟨kk, 2, none⟩) (.inl kx) _).sc (a := ⟨kk, 3, none⟩) (.inl kx) _).sc (a := ⟨kk, 4, none⟩) (.inl kx) _
  · rcases e with e | e
    · exact ⟨(7, some 12, [7]), by simp [dsS], rfl, e⟩
    · exact ⟨(11, some 12, [11]), by simp [dsS], rfl, e ▸ k3⟩
  · have hz : (set5C w kk (.int .i64 y.f.op) (.string y.f.a.n) (.slice y.p y.f.a.us.length y.c) (.string y.f.v) (.slice y.q y.f.ps.length y.d)).heap.size = w.heap.size := by simp
    rw [hz]
    rcases e with e | e
    · exact hfo b e
    · rw [e]; exact blk_lt k4
  · refine ⟨y, lv, D, kk, by rw [upd_other _ _ (by decide)]; exact h1, by rw [upd_other _ _ (by decide)]; exact k1, k2, h2, FmAt.mono (fun b hb _ => set5C_other w _ _ _ _ _ (dj b hb)) (fun _ h => .inl h) _ _ _ _ (Nat.le_refl _) h3, own_same h4 (fun b hb _ => set5C_other w _ _ _ _ _ (dj b (h6 b hb))), h5, fun b e => .inl (h6 b e), .inr rfl, set5_cells w k4⟩
end
end Go.Proofs.YtmbkjdkjemlfkaaGreatDoor
