/- Where the program's parser of English may stand behind its steps. No conditions; no program is walked. -/
import Derived.Test.YtkgfanajgdelcaaGreatDoorUnPart1
import Derived.Test.YtkgfanajgdelcaaGreatDoorUnPart2
import Derived.Test.YtkgfanajgdelcaaGreatDoorUnPart3
namespace Go.Proofs.YtkgfanajgdelcaaGreatDoor
open Go.RowKit
section
variable {P : Program} {ops : Array Oper} {vs : List (Option Value)} {cs : List Nat} {St : Nat → (Nat → Value) → World → Prop}
/-- The first j operations of the chain are behind, the others aren't. -/
def StageIs (cs : List Nat) (L : Array Bool) (j : Nat) : Prop := j ≤ cs.length ∧ ∀ k c, cs[k]? = some c → (k < j → L.getD c false = true) ∧ (j ≤ k → L.getD c false = false)
def DS (ops : Array Oper) (cs : List Nat) (St : Nat → (Nat → Value) → World → Prop) (u : Nat → Value) (L : Array Bool) (w : World) : Prop := Closed .any ops L ∧ ∃ j, StageIs cs L j ∧ St j u w
theorem Closed.put {L : Array Bool} {k : Nat} {o : Oper} (h : Closed .any ops L) (ho : ops[k]? = some o) (hb : Behind .any o L) : Closed .any ops (L.setIfInBounds k true) := by
  intro c oc hc hl e he hbi
  by_cases e1 : k = c
  · subst e1
    obtain rfl : o = oc := Option.some.inj (ho.symm.trans hc)
    exact set_mono (hb e he hbi)
  · rw [getD_set_ne false e1] at hl
    exact set_mono (h c oc hc hl e he hbi)
theorem StageIs.other {L : Array Bool} {j i : Nat} (h : StageIs cs L j) (hi : i ∉ cs) : StageIs cs (L.setIfInBounds i true) j :=
  ⟨h.1, fun k c hc => by
    have hne : i ≠ c := fun e => hi (e ▸ List.mem_of_getElem? hc)
    rw [getD_set_ne false hne]; exact h.2 k c hc⟩
theorem StageIs.next {L : Array Bool} {k c : Nat} (h : StageIs cs L k) (hc : cs[k]? = some c) (hd : cs.Nodup) (hlt : c < L.size) : StageIs cs (L.setIfInBounds c true) (k + 1) := by
  have hk : k < cs.length := (List.getElem?_eq_some_iff.1 hc).1
  refine ⟨hk, fun k' c' hc' => ?_⟩
  by_cases e : k' = k
  · subst e
    obtain rfl : c = c' := Option.some.inj (hc.symm.trans hc')
    exact ⟨fun _ => by simp [hlt], fun h => absurd h (by omega)⟩
  · have hne : c ≠ c' := fun e' => by
      subst e'
      exact e ((List.getElem_inj (h₀ := (List.getElem?_eq_some_iff.1 hc').1) (h₁ := hk) hd).1 ((List.getElem?_eq_some_iff.1 hc').2.trans (List.getElem?_eq_some_iff.1 hc).2.symm))
    rw [getD_set_ne false hne]
    have := h.2 k' c' hc'
    exact ⟨fun hlt => this.1 (by omega), fun hle => this.2 (by omega)⟩
theorem goesUpon_mono {D D' : World → Prop} {v : Value} {r : Result Next} (h : ∀ w, D w → D' w) (hr : goesUpon P D v r) : goesUpon P D' v r := by
  cases r with
  | ok n w' =>
    cases n <;> simp only [goesUpon] at hr ⊢
    case value u => exact ⟨h _ hr.1, hr.2⟩
    case skip => exact ⟨h _ hr.1, hr.2⟩
    case enter f args => exact hr.mono fun e w'' ⟨he, hw⟩ => ⟨he, h _ hw⟩
  | halt x w' => simp only [goesUpon] at hr
theorem eachUpon_mono {E E' : Value → World → Prop} {r : Result Next} (h : ∀ x w, E x w → E' x w) (hr : eachUpon P E r) : eachUpon P E' r := by
  cases r with
  | ok n w' =>
    cases n <;> simp only [eachUpon] at hr ⊢
    case value u => exact h _ _ hr
    case skip => exact h _ _ hr
    case enter f args => exact hr.mono fun e w'' ⟨x, he, hw⟩ => ⟨x, he, h _ _ hw⟩
  | halt x w' => simp only [eachUpon] at hr
theorem chain_start {w : World} {L : Array Bool} (hL : ∀ i, L.getD i false = false) (h : St 0 (fun _ => undef) w) : DS ops cs St (fun _ => undef) L w :=
  ⟨fun c oc _ hl => (by rw [hL] at hl; cases hl), 0, ⟨Nat.zero_le _, fun k c _ => ⟨fun h => absurd h (by omega), fun _ => hL c⟩⟩, h⟩
theorem chain_st {Q : Act → (Nat → Value) → Prop} {k : Nat} {o : Oper} {rest : List Oper} {a : Act} {u : Nat → Value} (ho : ops[k]? = some o) (hs : stB vs k = true) (hk : k ∉ cs) (hg : o.guard = none)
    (h1 : ∀ j u w, St j u w → goesUpon P (St j u) (baseV vs k) ((execOp a.eval o).run P w)) (h2 : flowU P .any ops vs (DS ops cs St) Q (k + 1) rest (a.put o.dst (baseV vs k)) u) : flowU P .any ops vs (DS ops cs St) Q k (o :: rest) a u :=
  flowU_st hs hg (fun u _ w _ hbe ⟨hcl, j, hj, hS⟩ => goesUpon_mono (fun _ hw' => ⟨hcl.put ho hbe, j, hj.other hk, hw'⟩) (h1 j u w hS)) h2
/-- .. where the chain's operation number b waits for it: no stage behind that one. -/
theorem chain_stb (b : Nat) {Q : Act → (Nat → Value) → Prop} {k c : Nat} {o oc : Oper} {rest : List Oper} {a : Act} {u : Nat → Value} (ho : ops[k]? = some o) (hs : stB vs k = true) (hk : k ∉ cs) (hg : o.guard = none) (hc : cs[b]? = some c) (hoc : ops[c]? = some oc) (he : (oc.after.any fun e => Region.binds .any e && e.on == k) = true)
    (h1 : ∀ j u w, j ≤ b → St j u w → goesUpon P (St j u) (baseV vs k) ((execOp a.eval o).run P w)) (h2 : flowU P .any ops vs (DS ops cs St) Q (k + 1) rest (a.put o.dst (baseV vs k)) u) : flowU P .any ops vs (DS ops cs St) Q k (o :: rest) a u :=
  flowU_st hs hg (fun u L w hun hbe ⟨hcl, j, hj, hS⟩ => by
    refine goesUpon_mono (fun w' hw' => ⟨hcl.put ho hbe, j, hj.other hk, hw'⟩) (h1 j u w ?_ hS)
    rcases Nat.lt_or_ge b j with h | h
    · exfalso
      have h3 := (hj.2 b c hc).1 h
      obtain ⟨e, he1, he2⟩ := Array.any_eq_true'.1 he
      simp only [Bool.and_eq_true, beq_iff_eq] at he2
      have h4 := hcl c oc hoc h3 e he1 he2.1
      rw [he2.2, getD_tf hun] at h4; cases h4
    · exact h) h2
theorem chain_first {Q : Act → (Nat → Value) → Prop} {k : Nat} {o : Oper} {rest : List Oper} {a : Act} {u : Nat → Value} (ho : ops[k]? = some o) (hs : stB vs k = false) (hk : cs[0]? = some k) (hd : cs.Nodup) (hg : o.guard = none)
    (h1 : ∀ w, St 0 u w → eachUpon P (fun x w' => St 1 (upd u k x) w') ((execOp a.eval o).run P w)) (h2 : ∀ x, flowU P .any ops vs (DS ops cs St) Q (k + 1) rest (a.put o.dst x) (upd u k x)) : flowU P .any ops vs (DS ops cs St) Q k (o :: rest) a u :=
  flowU_ch hs hg (fun L w hun hbe ⟨hcl, j, hj, hS⟩ => by
    have h0 := (hj.2 0 k hk).1
    obtain rfl : j = 0 := by
      rcases Nat.eq_zero_or_pos j with h | h
      · exact h
      · have := h0 h; rw [getD_tf hun] at this; cases this
    have hlt : k < L.size := by
      rcases Nat.lt_or_ge k L.size with h' | h'
      · exact h'
      · simp [Array.getElem?_eq_none h'] at hun
    exact eachUpon_mono (fun x w' hw' => ⟨hcl.put ho hbe, 1, hj.next hk hd hlt, hw'⟩) (h1 w hS)) h2
theorem chain_next (n : Nat) {Q : Act → (Nat → Value) → Prop} {k p : Nat} {o : Oper} {rest : List Oper} {a : Act} {u : Nat → Value} (ho : ops[k]? = some o) (hs : stB vs k = false) (hk : cs[n + 1]? = some k) (hp : cs[n]? = some p) (hd : cs.Nodup) (hg : o.guard = none) (he : (o.after.any fun e => Region.binds .any e && e.on == p) = true)
    (h1 : ∀ w, St (n + 1) u w → eachUpon P (fun x w' => St (n + 2) (upd u k x) w') ((execOp a.eval o).run P w)) (h2 : ∀ x, flowU P .any ops vs (DS ops cs St) Q (k + 1) rest (a.put o.dst x) (upd u k x)) : flowU P .any ops vs (DS ops cs St) Q k (o :: rest) a u :=
  flowU_ch hs hg (fun L w hun hbe ⟨hcl, j, hj, hS⟩ => by
    obtain ⟨e, he1, he2⟩ := Array.any_eq_true'.1 he
    simp only [Bool.and_eq_true, beq_iff_eq] at he2
    have hb := hbe e he1 he2.1
    rw [he2.2] at hb
    obtain rfl : j = n + 1 := by
      rcases Nat.lt_trichotomy j (n + 1) with h | h | h
      · have := (hj.2 n p hp).2 (by omega); rw [this] at hb; cases hb
      · exact h
      · have := (hj.2 (n + 1) k hk).1 h; rw [getD_tf hun] at this; cases this
    have hlt : k < L.size := by
      rcases Nat.lt_or_ge k L.size with h' | h'
      · exact h'
      · simp [Array.getElem?_eq_none h'] at hun
    exact eachUpon_mono (fun x w' hw' => ⟨hcl.put ho hbe, n + 2, hj.next hk hd hlt, hw'⟩) (h1 w hS)) h2
theorem chain_end {u : Nat → Value} {L : Array Bool} {w : World} {n : Nat} (hl : ∀ i, i < n → L.getD i false = true) (hc : cs.all (fun c => decide (c < n)) = true) (h : DS ops cs St u L w) : St cs.length u w := by
  obtain ⟨_, j, hj, hS⟩ := h
  obtain rfl : j = cs.length := by
    rcases Nat.lt_or_ge j cs.length with h' | h'
    · have h1 := (hj.2 j cs[j] (List.getElem?_eq_getElem h')).2 (Nat.le_refl _)
      have h2 := List.all_eq_true.1 hc cs[j] (List.getElem_mem h')
      rw [hl _ (by simpa using h2)] at h1; cases h1
    · exact Nat.le_antisymm hj.1 h'
  exact hS
theorem wp_region_stages {id : Nat} {Q : Exit → Act → World → Prop} {a : Act} {w : World} {l : List Oper} (vs : List (Option Value)) (cs : List Nat) (St : Nat → (Nat → Value) → World → Prop) (hm : P.follows .mixedOrders = true) (hB : Region.lexB .any l.toArray = true) (hch : chainB l vs = true) (hcs : cs.all (fun c => decide (c < l.length)) = true)
    (h0 : St 0 (fun _ => undef) w.drew) (h : flowU P .any l.toArray vs (DS l.toArray cs St) (fun a' u => ∀ w', St cs.length u w' → Q .normal a' w') 0 l a (fun _ => undef)) : (Code.region id l.toArray true).wp P Q a w :=
  wp_region_chain vs (DS l.toArray cs St) hm hB hch (fun _ hL => chain_start hL h0) (flowU_imp l 0 a _ (fun _ _ hq _ w' hL hD => hq w' (chain_end hL hcs hD)) h)
/-- An append of one element, at the level of its run. -/
theorem each_app1 {w : World} {o : Oper} {a : Act} {E : Value → World → Prop} (s x : Operand) (t : TypeId) (ho : o.op = .call { callee := .builtin .append, args := #[s, x], argTypes := #[t, t] })
    (base : Nat) (e : TypeId) (size bytes : Nat) (hE : Elem P t e size bytes) (v : Value) (n : Nat) (xs : List Value) (hs : a.eval s = v) (wr : World) (ce : Array Value) (hw : w = wr.alloc (.cells ce e)) (hx : a.eval x = .slice (some ⟨wr.heap.size, 0, none⟩) 1 1)
    (hown : wr.ownsRow base e size v n xs) (hcs : ce.size = size) (h1 : ∀ u ∈ ce.toList, u.oneCell' = true) (hbytes : (n + 1) * bytes ≤ 140737488355328) (h63 : n + 1 ≤ maxLen) (hbase : base ≤ wr.heap.size)
    (h : ∀ v' w', (∀ b xs', wr.ownsRow b e size v n xs' → b ≤ wr.heap.size → w'.ownsRow b e size v' (n + 1) (xs' ++ ce.toList)) → wr.grownBy w' v.ownBlock → NewRow v v' wr.heap.size → wr.heap.size < w'.heap.size → E v' w') : eachUpon P E ((execOp a.eval o).run P w) := by
  obtain ⟨ht, i, z, hi, hz, hsz, hby, hzs, hpos⟩ := hE
  subst hw
  have hnews : ∀ j u, ce.toList[j]? = some u → (wr.alloc (.cells ce e)).cell? ((⟨wr.heap.size, 0, none⟩ : Addr).add j) = some u := by
    intro j u hu
    have hb := heap_alloc_new wr (.cells ce e)
    have : ((⟨wr.heap.size, 0, none⟩ : Addr).add j) = ⟨wr.heap.size, j, none⟩ := by unfold Addr.add; split <;> simp_all
    rw [this, cell_of_row _ _ j ce e (0, 0) hb]
    simpa using hu
  have key := fun (b : Nat) (xs' : List Value) (hown : wr.ownsRow b e size v n xs') (hb : b ≤ wr.heap.size) => run_append_own_at (P := P) (wr.alloc (.cells ce e)) b t o.type e i z size bytes ht hi hz hsz hby hzs hpos v n xs' (hown.alloc _) ⟨wr.heap.size, 0, none⟩ 1 1 ce.toList (by rw [Array.length_toList, hcs, Nat.one_mul]) hnews h1 h63 hbytes (Nat.le_trans hb (by simp))
  obtain ⟨v', w', hrun, h2, h3, _, h5⟩ := key base xs hown hbase
  unfold execOp
  simp only [ho, resolve, invoke, builtin, Sem.run_bind, Sem.run_pure, Result.andThen_ok, List.map_toArray, List.map_cons, List.map_nil, hs, hx, hrun]
  refine h v' w' (fun b xs' hb hbb => ?_) ⟨h3.os, h3.tape, h3.output, Nat.le_trans (by simp) h3.size, fun k hk hne => (h3.block k (by simp; omega) hne).trans (Below.heap_alloc wr _ k hk)⟩ ?_ ?_
  · obtain ⟨v2, w2, hrun2, g2, _⟩ := key b xs' hb hbb
    rw [hrun] at hrun2
    injection hrun2 with e1 e2
    subst e1 e2
    exact g2
  · rcases h5 with h5 | h5
    · exact .inl h5
    · exact .inr ⟨_, h5, by simp⟩
  · have := h3.size
    simp at this; omega
end
end Go.Proofs.YtkgfanajgdelcaaGreatDoor
namespace Go.Proofs.YtkgfanajgdelcaaGreatDoor
open Go.RowKit
/-- A row of its own, its elements' memory apart from it and from one another, all in blocks that meet S. -/
def OwnRow {α : Type} (S : Nat → Prop) (w : World) (e : TypeId) (size : Nat) (R : (Nat → Prop) → α → List Value → Prop) (v : Value) (xs : List α) : Prop :=
  xs.length ≤ maxLen ∧ ∃ (vals : List Value) (Ss : Nat → Nat → Prop), w.ownsRow 0 e size v xs.length vals ∧ (∀ g, v.ownBlock = some g → S g) ∧
    (∀ i x, xs[i]? = some x → R (Ss i) x ((vals.drop (i * size)).take size) ∧ ∀ b, Ss i b → S b ∧ v.ownBlock ≠ some b) ∧
    ∀ i j b, i < xs.length → j < xs.length → i ≠ j → Ss i b → ¬ Ss j b
theorem own_same {w w' : World} {base : Nat} {e : TypeId} {size : Nat} {v : Value} {n : Nat} {xs : List Value} (h : w.ownsRow base e size v n xs) (hs : ∀ g, v.ownBlock = some g → g < w.heap.size → w'.heap[g]? = w.heap[g]?) : w'.ownsRow base e size v n xs := by
  refine ⟨h.1, ?_⟩
  rcases h.2 with h2 | ⟨g, cap, cur, rfl, hb, hh, h3⟩
  · exact .inl h2
  · have hlt : g < w.heap.size := by
      rcases Nat.lt_or_ge g w.heap.size with h' | h'
      · exact h'
      · rw [Array.getElem?_eq_none h'] at hh; cases hh
    exact .inr ⟨g, cap, cur, rfl, hb, (hs g rfl hlt).trans hh, h3⟩
theorem OwnRow.mono {α : Type} {S S' : Nat → Prop} {w w' : World} {e : TypeId} {size : Nat} {R R' : (Nat → Prop) → α → List Value → Prop} {v : Value} {xs : List α} (h : OwnRow S w e size R v xs) (hs : SameOn S w w') (hS : ∀ b, S b → S' b)
    (hR : ∀ T x cs, x ∈ xs → (∀ b, T b → S b) → R T x cs → R' T x cs) : OwnRow S' w' e size R' v xs := by
  obtain ⟨hm, vals, Ss, h1, h2, h3, h4⟩ := h
  refine ⟨hm, vals, Ss, own_same h1 (fun g hg hlt => hs g (h2 g hg) hlt), fun g hg => hS g (h2 g hg), fun i x hx => ⟨hR _ _ _ (List.mem_of_getElem? hx) (fun b hb => ((h3 i x hx).2 b hb).1) (h3 i x hx).1, fun b hb => ⟨hS b ((h3 i x hx).2 b hb).1, ((h3 i x hx).2 b hb).2⟩⟩, h4⟩
theorem OwnRow.listAt {α : Type} {S : Nat → Prop} {w : World} {e : TypeId} {size : Nat} (hz : 0 < size) {R : (Nat → Prop) → α → List Value → Prop} {R' : α → List Value → Prop} {v : Value} {xs : List α} (h : OwnRow S w e size R v xs)
    (hR : ∀ T x cs, x ∈ xs → (∀ b, T b → S b) → R T x cs → R' x cs) : ListAt S w size R' v xs := by
  obtain ⟨hm, vals, Ss, h1, h2, h3, _⟩ := h
  rcases h1.2 with ⟨rfl, h0⟩ | ⟨g, cap, cur, rfl, _⟩
  · obtain rfl : xs = [] := List.eq_nil_of_length_eq_zero h0
    exact ListAt.nil _ _ _ _ _ _
  · refine ⟨_, _, rfl, hm, fun i x hx => ⟨g, 0, rfl, h2 g rfl, (vals.drop (i * size)).take size, ?_, fun j hj => ?_, hR _ _ _ (List.mem_of_getElem? hx) (fun b hb => ((h3 i x hx).2 b hb).1) (h3 i x hx).1⟩⟩
    · have hi : i < xs.length := (List.getElem?_eq_some_iff.1 hx).1
      have h5 : (i + 1) * size ≤ xs.length * size := Nat.mul_le_mul_right _ hi
      rw [Nat.succ_mul] at h5
      rw [List.length_take, List.length_drop, h1.1]; omega
    · have hi : i < xs.length := (List.getElem?_eq_some_iff.1 hx).1
      have h5 : (i + 1) * size ≤ xs.length * size := Nat.mul_le_mul_right _ hi
      rw [Nat.succ_mul] at h5
      rw [Nat.zero_add, h1.cellAt (i * size + j) (by omega), List.getElem?_take, if_pos hj, List.getElem?_drop]
theorem OwnRow.form {α : Type} {S : Nat → Prop} {w : World} {e : TypeId} {size : Nat} {R : (Nat → Prop) → α → List Value → Prop} {v : Value} {xs : List α} (h : OwnRow S w e size R v xs) : ∃ p c, v = .slice p xs.length c ∧ xs.length ≤ maxLen := by
  obtain ⟨hm, vals, Ss, h1, _⟩ := h
  rcases h1.2 with ⟨rfl, h0⟩ | ⟨g, cap, cur, rfl, _⟩
  · exact ⟨none, 0, by rw [h0], hm⟩
  · exact ⟨_, _, rfl, hm⟩
theorem OwnRow.nil {α : Type} (S : Nat → Prop) (w : World) (e : TypeId) (size : Nat) (R : (Nat → Prop) → α → List Value → Prop) : OwnRow S w e size R (.slice none 0 0) [] :=
  ⟨Nat.zero_le _, [], fun _ _ => False, ⟨by simp, .inl ⟨rfl, rfl⟩⟩, fun g hg => by simp [Value.ownBlock] at hg, fun i x hx => by simp at hx, fun i j b hi => by simp at hi⟩
/-- One element more. -/
theorem OwnRow.snoc {α : Type} {S Sx S' : Nat → Prop} {w w' : World} {e : TypeId} {size : Nat} {R R' : (Nat → Prop) → α → List Value → Prop} {v v' : Value} {xs : List α} {x : α} {cs : List Value} (h : OwnRow S w e size R v xs) (hx : R Sx x cs) (hl : cs.length = size)
    (hown : ∀ vals : List Value, w.ownsRow 0 e size v xs.length vals → w'.ownsRow 0 e size v' (xs.length + 1) (vals ++ cs)) (_ : w.grownBy w' v.ownBlock) (hn : NewRow v v' w.heap.size) (hm : xs.length + 1 ≤ maxLen)
    (hSx : ∀ b, Sx b → ¬ S b) (hSlt : ∀ b, S b → b < w.heap.size) (hSxlt : ∀ b, Sx b → b < w.heap.size) (h1 : ∀ b, S b → S' b) (h2 : ∀ b, Sx b → S' b) (h3 : ∀ g, v'.ownBlock = some g → S' g)
    (hR : ∀ T y c, (∀ b, T b → b < w.heap.size ∧ v.ownBlock ≠ some b) → R T y c → R' T y c) : OwnRow S' w' e size R' v' (xs ++ [x]) := by
  obtain ⟨_, vals, Ss, g1, g2, g3, g4⟩ := h
  have hvl : vals.length = xs.length * size := g1.1
  have hxne : ∀ b, Sx b → v.ownBlock ≠ some b := fun b hb e => hSx b hb (g2 b e)
  have hne : ∀ b, b < w.heap.size → v.ownBlock ≠ some b → v'.ownBlock ≠ some b := fun b hlt hv e => by
    rcases hn with hn | ⟨g, hn, hge⟩
    · rw [hn] at e; exact hv e
    · rw [hn] at e; injection e with e; omega
  refine ⟨by simpa using hm, vals ++ cs, fun i => if i = xs.length then Sx else Ss i, by simpa using hown vals g1, h3, fun i y hy => ?_, fun i j b hi hj hij hb => ?_⟩
  · have hi : i < xs.length + 1 := by have := (List.getElem?_eq_some_iff.1 hy).1; simpa using this
    by_cases e : i = xs.length
    · subst e
      rw [List.getElem?_append_right (Nat.le_refl _), Nat.sub_self] at hy
      obtain rfl : x = y := by simpa using hy
      show R' (if xs.length = xs.length then Sx else _) _ _ ∧ ∀ b, (if xs.length = xs.length then Sx else _) b → _
      rw [if_pos rfl, ← hvl, List.drop_left, List.take_of_length_le (by omega)]
      exact ⟨hR _ _ _ (fun b hb => ⟨hSxlt b hb, hxne b hb⟩) hx, fun b hb => ⟨h2 b hb, hne b (hSxlt b hb) (hxne b hb)⟩⟩
    · have hlt : i < xs.length := by omega
      rw [List.getElem?_append_left hlt] at hy
      have h5 : (i + 1) * size ≤ xs.length * size := Nat.mul_le_mul_right _ hlt
      rw [Nat.succ_mul] at h5
      obtain ⟨k1, k2⟩ := g3 i y hy
      show R' (if i = xs.length then Sx else Ss i) _ _ ∧ ∀ b, (if i = xs.length then Sx else Ss i) b → _
      rw [if_neg e, List.drop_append_of_le_length (by omega), List.take_append_of_le_length (by rw [List.length_drop]; omega)]
      exact ⟨hR _ _ _ (fun b hb => ⟨hSlt b (k2 b hb).1, (k2 b hb).2⟩) k1, fun b hb => ⟨h1 b (k2 b hb).1, hne b (hSlt b (k2 b hb).1) (k2 b hb).2⟩⟩
  · simp only [List.length_append, List.length_cons, List.length_nil] at hi hj
    change (if i = xs.length then Sx else Ss i) b at hb
    show ¬ (if j = xs.length then Sx else Ss j) b
    by_cases ei : i = xs.length
    · rw [if_pos ei] at hb
      have hj' : j < xs.length := by omega
      rw [if_neg (by omega)]
      exact fun hjb => hSx b hb ((g3 j _ (List.getElem?_eq_getElem hj')).2 b hjb).1
    · rw [if_neg ei] at hb
      have hi' : i < xs.length := by omega
      by_cases ej : j = xs.length
      · rw [if_pos ej]
        exact fun hjb => hSx b hjb ((g3 i _ (List.getElem?_eq_getElem hi')).2 b hb).1
      · rw [if_neg ej]
        exact g4 i j b hi' (by omega) hij hb
def TmOwn (e : TypeId) : Nat → (Nat → Prop) → World → Tm → List Value → Prop
  | 0, _, _, _, _ => False
  | n + 1, S, w, .mk s us, cs => ∃ va, cs = [.string s, va] ∧ s.size ≤ maxLen ∧ OwnRow S w e 2 (fun T t c => TmOwn e n T w t c) va us
theorem TmOwn.mono {e : TypeId} : ∀ (n m : Nat) {S S' : Nat → Prop} {w w' : World} (t : Tm) (cs : List Value), n ≤ m → SameOn S w w' → (∀ b, S b → S' b) → TmOwn e n S w t cs → TmOwn e m S' w' t cs
  | 0, _, _, _, _, _, _, _, _, _, _, h => h.elim
  | n + 1, 0, _, _, _, _, _, _, hm, _, _, _ => by omega
  | n + 1, m + 1, S, S', w, w', .mk s us, cs, hm, hs, hS, h => by
    obtain ⟨va, h1, h2, h3⟩ := h
    exact ⟨va, h1, h2, h3.mono hs hS fun T x c _ hT hx => TmOwn.mono n m x c (by omega) (fun b hb hlt => hs b (hT b hb) hlt) (fun _ h => h) hx⟩
theorem TmOwn.at_ {e : TypeId} : ∀ (n : Nat) {S : Nat → Prop} {w : World} (t : Tm) (cs : List Value), TmOwn e n S w t cs → TmAt S n w t cs
  | 0, _, _, _, _, h => h.elim
  | n + 1, S, w, .mk s us, cs, h => by
    obtain ⟨va, h1, h2, h3⟩ := h
    exact ⟨va, h1, h2, h3.listAt (by omega) fun T x c _ hT hx => TmAt.mono (SameOn.refl _ _) hT n n x c (Nat.le_refl _) (TmOwn.at_ n x c hx)⟩
theorem TmOwn.below {e : TypeId} {n : Nat} {S : Nat → Prop} {w w' : World} {t : Tm} {cs : List Value} (hb : Below w.heap.size w w') (h : TmOwn e n S w t cs) : TmOwn e n S w' t cs := TmOwn.mono n n t cs (Nat.le_refl _) (SameOn.below hb) (fun _ h => h) h
theorem TmOwn.form {e : TypeId} {n : Nat} {S : Nat → Prop} {w : World} {t : Tm} {v0 v1 : Value} (h : TmOwn e n S w t [v0, v1]) : ∃ p c, v0 = .string t.n ∧ v1 = .slice p t.us.length c ∧ t.n.size ≤ maxLen ∧ t.us.length ≤ maxLen := (TmOwn.at_ n t _ h).form
end Go.Proofs.YtkgfanajgdelcaaGreatDoor
namespace Go.Proofs.YtkgfanajgdelcaaGreatDoor
open Go.RowKit
/-- What a call of the reader leaves: a tree in new memory, its value x. -/
def TermP (T : TypeId) (g lo : Nat) (s : ByteArray) (f : Nat) (t : Tm) (p' : PSt) (TP : TypeId) (W : World) (x : Value) (w : World) : Prop :=
  ∃ v0 v1, x = .agg #[v0, v1] ∧ TmOwn T f (fun b => lo ≤ b ∧ b < w.heap.size) w t [v0, v1] ∧ PAt TP w g s p' ∧ W.grownBy w (some g)
theorem TermP.mono {T TP : TypeId} {g lo f f' : Nat} {s : ByteArray} {t : Tm} {p' : PSt} {W w : World} {x : Value} (hf : f ≤ f') (h : TermP T g lo s f t p' TP W x w) : TermP T g lo s f' t p' TP W x w := by
  obtain ⟨v0, v1, h1, h2, h3⟩ := h
  exact ⟨v0, v1, h1, TmOwn.mono f f' t _ hf (SameOn.refl _ _) (fun _ h => h) h2, h3⟩
/-- The stages of 't.Args = append(t.Args, p.term())': i, j, k, l are the numbers of the call, the slice built, the append, the store. -/
def AppSt (T : TypeId) (_g bt : Nat) (CP : Value → World → Prop) (v : Value) (n : Nat) (W : World) (i j k : Nat) : Nat → (Nat → Value) → World → Prop
  | 0, _, w => w = W.drew
  | 1, u, w => CP (u i) w
  | 2, u, w => ∃ w1 v0 v1, CP (.agg #[v0, v1]) w1 ∧ u j = .slice (some ⟨w1.heap.size, 0, none⟩) 1 1 ∧ w = w1.alloc (.cells #[v0, v1] T)
  | 3, u, w => ∃ w1 v0 v1, CP (.agg #[v0, v1]) w1 ∧ (∀ b xs, w1.ownsRow b T 2 v n xs → b ≤ w1.heap.size → w.ownsRow b T 2 (u k) (n + 1) (xs ++ [v0, v1])) ∧ w1.grownBy w v.ownBlock ∧ NewRow v (u k) w1.heap.size ∧ w1.heap.size < w.heap.size
  | 4, u, w => ∃ w1 w3 v0 v1, CP (.agg #[v0, v1]) w1 ∧ (∀ b xs, w1.ownsRow b T 2 v n xs → b ≤ w1.heap.size → w3.ownsRow b T 2 (u k) (n + 1) (xs ++ [v0, v1])) ∧ w1.grownBy w3 v.ownBlock ∧ NewRow v (u k) w1.heap.size ∧ w1.heap.size < w3.heap.size ∧ w = w3.setCell ⟨bt, 1, none⟩ (u k)
  | _, _, _ => False
theorem AppSt.cell {T : TypeId} {g bt n i j k : Nat} {CP : Value → World → Prop} {v v' : Value} {W : World} (hG : ∀ x w', CP x w' → W.grownBy w' (some g)) (hc : W.cell? ⟨bt, 1, none⟩ = some v') (hne : bt ≠ g) {m : Nat} (hm : m ≤ 2) {u : Nat → Value} {w : World} (h : AppSt T g bt CP v n W i j k m u w) : w.cell? ⟨bt, 1, none⟩ = some v' := by
  match m, hm, h with
  | 0, _, h => obtain rfl : w = W.drew := h; exact hc
  | 1, _, h => exact grown_cell (hG _ _ h) hc (by simpa using hne)
  | 2, _, h =>
    obtain ⟨w1, v0, v1, h1, _, rfl⟩ := h
    have h2 := grown_cell (hG _ _ h1) hc (by simpa using hne)
    exact (((Below.refl w1.heap.size w1).alloc (Nat.le_refl _) _).cell (World.block_lt_of_cell? w1 _ h2)).trans h2
/-- The middle of a reading: block rb waits for the result, block bt is the struct in the making (a name, the arguments xs so far), the reader is in state p. -/
structure TSt (T TP : TypeId) (ro : Obj) (w : World) (g rb bt : Nat) (s : ByteArray) (n : List UInt8) (p : PSt) (v : Value) (xs : List Tm) (f : Nat) (W : World) : Prop where
  at_ : PAt TP W g s p
  cell : W.heap[bt]? = some (.cells #[.string ⟨n.toArray⟩, v] T (0, 0))
  res : W.heap[rb]? = some ro
  row : OwnRow (fun b => rb < b ∧ b ≠ bt ∧ b < W.heap.size) W T 2 (fun S x c => TmOwn T f S W x c) v xs
  gr : w.grownBy W (some g)
  lt : g < w.heap.size ∧ w.heap.size ≤ rb ∧ rb < bt ∧ bt < W.heap.size
theorem heap_lt {w : World} {b : Nat} {o : Obj} (h : w.heap[b]? = some o) : b < w.heap.size := by
  rcases Nat.lt_or_ge b w.heap.size with h' | h'
  · exact h'
  · rw [Array.getElem?_eq_none h'] at h; cases h
theorem own_lt' {w : World} {base : Nat} {e : TypeId} {size : Nat} {v : Value} {n : Nat} {xs : List Value} (h : w.ownsRow base e size v n xs) {g : Nat} (hg : v.ownBlock = some g) : g < w.heap.size := by
  rcases h.2 with ⟨rfl, _⟩ | ⟨g', cap, cur, rfl, _, hh, _⟩
  · simp [Value.ownBlock] at hg
  · have : g' = g := by simpa [Value.ownBlock] using hg
    subst this; exact heap_lt hh
theorem elemTmI : Elem Tryz.prog 39 41 2 40 := elem_of Tryz.underlying39 (z := .agg #[.string ⟨#[]⟩, .slice none 0 0]) (by kernel_rfl) rfl (by omega)
theorem TSt.three {T TP : TypeId} {ro : Obj} {w W w' : World} {g rb bt : Nat} {s : ByteArray} {n : List UInt8} {p : PSt} {v z : Value} {xs : List Tm} {f : Nat} {CP : Value → World → Prop} (h : TSt T TP ro w g rb bt s n p v xs f W) (hG : ∀ x w', CP x w' → W.grownBy w' (some g))
    {w1 : World} {v0 v1 x : Value} (hcp : CP x w1) (happ : ∀ b ys, w1.ownsRow b T 2 v xs.length ys → b ≤ w1.heap.size → w'.ownsRow b T 2 z (xs.length + 1) (ys ++ [v0, v1])) (hg3 : w1.grownBy w' v.ownBlock) :
    (∃ q c, z = .slice (some ⟨q, 0, none⟩) (xs.length + 1) c) ∧ w'.heap[bt]? = some (.cells #[.string ⟨n.toArray⟩, v] T (0, 0)) := by
  obtain ⟨l1, l2, l3, l4⟩ := h.lt
  have hG1 := hG _ _ hcp
  have hz1 := hG1.size
  obtain ⟨hm, vals, Ss, r1, r2, r3, r4⟩ := h.row
  have h1 := happ 0 vals (own_same r1 fun b hb hl => hG1.block b hl (by have := r2 b hb; simp; omega)) (Nat.zero_le _)
  refine ⟨own_form h1 (by omega), ?_⟩
  exact (hg3.block bt (by omega) (fun e => (r2 bt e.symm).2.1 rfl)).trans ((hG1.block bt l4 (by simp; omega)).trans h.cell)
theorem TSt.app {T TP : TypeId} {ro : Obj} {w W w4 : World} {g rb bt : Nat} {s : ByteArray} {n : List UInt8} {p p' : PSt} {v : Value} {xs : List Tm} {f i j k : Nat} {t : Tm} {u : Nat → Value} (h : TSt T TP ro w g rb bt s n p v xs f W)
    (hA : AppSt T g bt (TermP T g W.heap.size s f t p' TP W.drew) v xs.length W i j k 4 u w4) (hlen : xs.length + 1 ≤ 1000000) : TSt T TP ro w g rb bt s n p' (u k) (xs ++ [t]) f w4 := by
  obtain ⟨w1, w3, v0, v1, ⟨v0', v1', he, hO, hP, hG⟩, happ, hg3, hnr, hsz, rfl⟩ := hA
  simp only [Value.agg.injEq, Array.mk.injEq, List.cons.injEq, and_true] at he
  obtain ⟨rfl, rfl⟩ := he
  obtain ⟨l1, l2, l3, l4⟩ := h.lt
  have hG1 : W.grownBy w1 (some g) := ⟨hG.os, hG.tape, hG.output, hG.size, hG.block⟩
  have hz1 := hG1.size
  obtain ⟨hm, vals, Ss, r1, r2, r3, r4⟩ := h.row
  have hvb : ∀ b, v.ownBlock = some b → rb < b ∧ b ≠ bt ∧ b < W.heap.size := fun b hb => r2 b hb
  have keep : ∀ b, b < W.heap.size → b ≠ g → v.ownBlock ≠ some b → w3.heap[b]? = W.heap[b]? := fun b hb hne hv => (hg3.block b (by omega) (fun e => hv e.symm)).trans (hG1.block b hb (by simpa using hne))
  have nob : ∀ b, (b ≤ rb ∨ b = bt) → v.ownBlock ≠ some b := fun b hb e => by have := hvb b e; omega
  have hrow1 := h.row.mono (S' := fun b => rb < b ∧ b ≠ bt ∧ b < W.heap.size) (w' := w1) (R' := fun S x c => TmOwn T f S w1 x c) (fun b hb hlt => hG1.block b hlt (by simp; omega)) (fun _ h => h)
    (fun S x c _ hS hx => TmOwn.mono f f x c (Nat.le_refl _) (fun b hb hlt => hG1.block b hlt (by have := hS b hb; simp; omega)) (fun _ h => h) hx)
  have hown3 : ∀ b, (u k).ownBlock = some b → b < w3.heap.size := fun b hb => own_lt' (happ 0 vals (own_same r1 fun b' hb' hlt => hG1.block b' hlt (by have := hvb b' hb'; simp; omega)) (Nat.zero_le _)) hb
  have hrow3 := OwnRow.snoc (S' := fun b => rb < b ∧ b ≠ bt ∧ b < w3.heap.size) (R' := fun S x c => TmOwn T f S w3 x c) hrow1 hO rfl (fun vals' hv => happ 0 vals' hv (Nat.zero_le _)) hg3 hnr (by unfold maxLen; omega)
    (fun b hb hS => by omega) (fun b hb => by omega) (fun b hb => hb.2) (fun b hb => by omega) (fun b hb => by omega)
    (fun b hb => ⟨by
      rcases hnr with e | ⟨b', e, hge⟩
      · rw [e] at hb; exact (hvb b hb).1
      · rw [e] at hb; injection hb with hb; omega, by
      rcases hnr with e | ⟨b', e, hge⟩
      · rw [e] at hb; exact (hvb b hb).2.1
      · rw [e] at hb; injection hb with hb; omega, hown3 b hb⟩)
    (fun S x c hS hx => TmOwn.mono f f x c (Nat.le_refl _) (fun b hb hlt => hg3.block b hlt (fun e => (hS b hb).2 e.symm)) (fun _ h => h) hx)
  have hbt3 : w3.heap[bt]? = some (.cells #[.string ⟨n.toArray⟩, v] T (0, 0)) := (keep bt l4 (by omega) (nob bt (.inr rfl))).trans h.cell
  refine ⟨?_, ?_, ?_, ?_, ?_, l1, l2, l3, by simp; omega⟩
  · have h3 : PAt TP w3 g s p' := (hg3.block g (by omega) (fun e => nob g (.inl (by omega)) e.symm)).trans hP
    exact (heap_setCell_other w3 ⟨bt, 1, none⟩ g (u k) (by simp; omega)).trans h3
  · have := heap_setCell_same w3 bt 1 _ T (u k) hbt3
    simpa using this
  · exact (heap_setCell_other w3 ⟨bt, 1, none⟩ rb (u k) (by simp; omega)).trans ((keep rb (by omega) (by omega) (nob rb (.inl (Nat.le_refl _)))).trans h.res)
  · exact hrow3.mono (fun b hb hlt => heap_setCell_other w3 ⟨bt, 1, none⟩ b (u k) (by simp; omega)) (fun b hb => by simpa using hb)
      (fun S x c _ hS hx => TmOwn.mono f f x c (Nat.le_refl _) (fun b hb hlt => heap_setCell_other w3 ⟨bt, 1, none⟩ b (u k) (by have := hS b hb; simp; omega)) (fun _ h => h) hx)
  · have h1 := gr_trans h.gr hG1
    have h3 : w.grownBy w3 (some g) := ⟨hg3.os.trans h1.os, hg3.tape.trans h1.tape, hg3.output.trans h1.output, Nat.le_trans h1.size (Nat.le_of_lt (Nat.lt_of_le_of_lt (Nat.le_refl _) hsz)), fun b hb hne => (hg3.block b (Nat.lt_of_lt_of_le hb h1.size) (fun e => nob b (.inl (by omega)) e.symm)).trans (h1.block b hb hne)⟩
    exact gr_sc h3 (.inr (by simp; omega)) _
/-- The reader moves on. -/
theorem TSt.reader {T TP : TypeId} {ro : Obj} {w W w' : World} {g rb bt : Nat} {s : ByteArray} {n : List UInt8} {p p' : PSt} {v : Value} {xs : List Tm} {f : Nat} (h : TSt T TP ro w g rb bt s n p v xs f W) (hP : PAt TP w' g s p') (hG : W.grownBy w' (some g)) : TSt T TP ro w g rb bt s n p' v xs f w' := by
  obtain ⟨l1, l2, l3, l4⟩ := h.lt
  have hz := hG.size
  refine ⟨hP, (hG.block bt l4 (by simp; omega)).trans h.cell, (hG.block rb (by omega) (by simp; omega)).trans h.res, ?_, gr_trans h.gr hG, l1, l2, l3, by omega⟩
  exact h.row.mono (fun b hb hlt => hG.block b hlt (by simp; omega)) (fun b hb => by omega)
    (fun S x c _ hS hx => TmOwn.mono f f x c (Nat.le_refl _) (fun b hb hlt => hG.block b hlt (by have := hS b hb; simp; omega)) (fun _ h => h) hx)
theorem cells2_cell {w : World} {g : Nat} {x y : Value} {t : TypeId} (h : w.heap[g]? = some (.cells #[x, y] t (0, 0))) : w.cell? ⟨g, 0, none⟩ = some x ∧ w.cell? ⟨g, 1, none⟩ = some y ∧ (∀ j, w.frozen? ⟨g, j, none⟩ = false) := by
  refine ⟨?_, ?_, fun j => frozen_of_row w g j _ _ h⟩
  · rw [cell_of_row w g 0 _ _ (0, 0) h]; rfl
  · rw [cell_of_row w g 1 _ _ (0, 0) h]; rfl
theorem TSt.init {T TP : TypeId} {w w1 w2 : World} {g : Nat} {s : ByteArray} {n : List UInt8} {p : PSt} {f : Nat} (hg : g < w.heap.size) (hg1 : (w.alloc (.cells #[.string ⟨#[]⟩, .slice none 0 0] T)).grownBy w1 (some g))
    (hg2 : (w1.alloc (.cells #[.string ⟨n.toArray⟩, .slice none 0 0] T)).grownBy w2 (some g)) (hP : PAt TP w2 g s p) : TSt T TP (.cells #[.string ⟨#[]⟩, .slice none 0 0] T (0, 0)) w g w.heap.size w1.heap.size s n p (.slice none 0 0) [] f w2 := by
  have h1 := hg1.size
  have h2 := hg2.size
  simp at h1 h2
  have ha := gr_trans (gr_al (gr_refl w g) _) hg1
  refine ⟨hP, ?_, ?_, OwnRow.nil _ _ _ _ _, gr_trans (gr_al ha _) hg2, hg, Nat.le_refl _, by omega, by omega⟩
  · exact (hg2.block w1.heap.size (by simp) (by simp; omega)).trans (heap_alloc_new w1 _)
  · refine (hg2.block w.heap.size (by simp; omega) (by simp; omega)).trans ((hao w1 _ _ (by omega)).trans ?_)
    exact (hg1.block w.heap.size (by simp) (by simp; omega)).trans (heap_alloc_new w _)
/-- The struct is handed over. -/
theorem TSt.done {T TP : TypeId} {ro : Obj} {w W : World} {g rb bt : Nat} {s : ByteArray} {n : List UInt8} {p : PSt} {v : Value} {xs : List Tm} {f : Nat} (h : TSt T TP ro w g rb bt s n p v xs f W) (hn : n.length ≤ 1000000) (a b : Value) :
    TermP T g w.heap.size s (f + 1) (.mk ⟨n.toArray⟩ xs) p TP w (.agg #[.string ⟨n.toArray⟩, v]) ((W.setCell ⟨rb, 0, none⟩ a).setCell ⟨rb, 1, none⟩ b) := by
  obtain ⟨l1, l2, l3, l4⟩ := h.lt
  have hk : ∀ c, c ≠ rb → ((W.setCell ⟨rb, 0, none⟩ a).setCell ⟨rb, 1, none⟩ b).heap[c]? = W.heap[c]? := fun c hc => (heap_setCell_other _ ⟨rb, 1, none⟩ c b (fun e => hc e)).trans (heap_setCell_other W ⟨rb, 0, none⟩ c a (fun e => hc e))
  refine ⟨_, _, rfl, ⟨_, rfl, by show n.toArray.size ≤ _; unfold maxLen; simp; omega, ?_⟩, ?_, gr_sc (gr_sc h.gr (.inr l2) _) (.inr l2) _⟩
  · exact h.row.mono (fun c hc _ => hk c (by omega)) (fun c hc => by simp; omega)
      (fun S x c _ hS hx => TmOwn.mono f f x c (Nat.le_refl _) (fun d hd _ => hk d (by have := (hS d hd).1; omega)) (fun _ h => h) hx)
  · exact (hk g (by omega)).trans h.at_
end Go.Proofs.YtkgfanajgdelcaaGreatDoor
namespace Go.Proofs.YtkgfanajgdelcaaGreatDoor
open Go.RowKit
theorem own_unique {w : World} {base : Nat} {e : TypeId} {size : Nat} {v : Value} {n : Nat} {xs ys : List Value} (h : w.ownsRow base e size v n xs) (h' : w.ownsRow base e size v n ys) : xs = ys := by
  obtain ⟨l1, h1⟩ := h
  obtain ⟨l2, h2⟩ := h'
  rcases h1 with ⟨rfl, h0⟩ | ⟨g, cap, cur, rfl, hb, hh, h3, h4, h5, h6⟩
  · subst h0
    rw [Nat.zero_mul] at l1 l2
    rw [List.eq_nil_of_length_eq_zero l1, List.eq_nil_of_length_eq_zero l2]
  · rcases h2 with ⟨hv, _⟩ | ⟨g', cap', cur', hv, _, hh', _, _, _, h6'⟩
    · cases hv
    · simp only [Value.slice.injEq, Option.some.injEq, Addr.mk.injEq] at hv
      obtain ⟨⟨rfl, -⟩, -, rfl⟩ := hv
      rw [hh] at hh'
      simp only [Option.some.injEq, Obj.cells.injEq] at hh'
      rw [← h6, ← h6', hh'.1]
/-- The middle of a parsing: block rb waits for the result, block bt is the struct in the making (a name, the arguments us so far). -/
structure LSt (T : TypeId) (rb bt : Nat) (n : ByteArray) (w : World) (f : Nat) (v : Value) (us : List Tm) (W : World) : Prop where
  res : W.heap[rb]? = some (.cells #[.string ⟨#[]⟩, .slice none 0 0] T (0, 0))
  cell : W.heap[bt]? = some (.cells #[.string n, v] T (0, 0))
  row : OwnRow (fun b => bt < b ∧ b < W.heap.size) W T 2 (fun S x c => TmOwn T f S W x c) v us
  bel : Below w.heap.size w W
  lt : w.heap.size ≤ rb ∧ rb < bt ∧ bt < W.heap.size
theorem LSt.later {T : TypeId} {rb bt : Nat} {n : ByteArray} {w W W' : World} {f : Nat} {v : Value} {us : List Tm} (h : LSt T rb bt n w f v us W) (hb : Below W.heap.size W W') : LSt T rb bt n w f v us W' := by
  have hz := hb.size
  obtain ⟨l1, l2, l3⟩ := h.lt
  exact ⟨(hb.block _ (by omega)).trans h.res, (hb.block _ l3).trans h.cell, h.row.mono (SameOn.below hb) (fun b h => ⟨h.1, by omega⟩) (fun S x c _ _ hx => TmOwn.below hb hx), ⟨hb.os.trans h.bel.os, hb.tape.trans h.bel.tape, hb.output.trans h.bel.output, Nat.le_trans h.bel.size hb.size, fun b hlt => (hb.block b (Nat.lt_of_lt_of_le hlt h.bel.size)).trans (h.bel.block b hlt)⟩, l1, l2, by omega⟩
theorem LSt.app {T : TypeId} {rb bt : Nat} {n : ByteArray} {w W W2 w3 : World} {f : Nat} {v v' v0 v1 : Value} {us : List Tm} {a : Tm} (h : LSt T rb bt n w f v us W) (hb : Below W.heap.size W W2) (hO : TmOwn T f (fun b => W.heap.size ≤ b ∧ b < W2.heap.size) W2 a [v0, v1])
    {vals : List Value} (hv : W2.ownsRow 0 T 2 v us.length vals) (happ : w3.ownsRow 0 T 2 v' (us.length + 1) (vals ++ [v0, v1])) (hg : W2.grownBy w3 v.ownBlock) (hnr : NewRow v v' W2.heap.size) (hlen : us.length + 1 ≤ 1048576) :
    LSt T rb bt n w f v' (us ++ [a]) (w3.setCell ⟨bt, 1, none⟩ v') := by
  have H2 := h.later hb
  obtain ⟨l1, l2, l3⟩ := h.lt
  obtain ⟨-, -, l4⟩ := H2.lt
  have hz := hb.size
  have hz3 := hg.size
  obtain ⟨hm, vals0, Ss, r1, r2, r3, r4⟩ := h.row
  have hvb : ∀ b, v.ownBlock = some b → bt < b ∧ b < W.heap.size := fun b hb => r2 b hb
  have nob : ∀ b, b ≤ bt → v.ownBlock ≠ some b := fun b hb e => by have := hvb b e; omega
  have hnew : ∀ b, v'.ownBlock = some b → bt < b ∧ b < w3.heap.size := fun b hb => ⟨by
    rcases hnr with e | ⟨b', e, hge⟩
    · rw [e] at hb; exact (hvb b hb).1
    · rw [e] at hb; injection hb with hb; omega, own_lt' happ hb⟩
  have hrow := OwnRow.snoc (S' := fun b => bt < b ∧ b < w3.heap.size) (R' := fun S x c => TmOwn T f S w3 x c)
    (h.row.mono (S' := fun b => bt < b ∧ b < W.heap.size) (w' := W2) (R' := fun S x c => TmOwn T f S W2 x c) (SameOn.below hb) (fun _ h => h) (fun S x c _ _ hx => TmOwn.below hb hx)) hO rfl
    (fun vs hvs => by rw [own_unique hvs hv]; exact happ) hg hnr (by unfold maxLen; omega) (fun b hb hS => by omega) (fun b hb => by omega) (fun b hb => hb.2) (fun b hb => by omega) (fun b hb => by omega) hnew
    (fun S x c hS hx => TmOwn.mono f f x c (Nat.le_refl _) (fun b hb hlt => hg.block b hlt (fun e => (hS b hb).2 e.symm)) (fun _ h => h) hx)
  have hbt3 : w3.heap[bt]? = some (.cells #[.string n, v] T (0, 0)) := (hg.block bt l4 (fun e => nob bt (Nat.le_refl _) e.symm)).trans H2.cell
  refine ⟨?_, ?_, ?_, ?_, l1, l2, by simp; omega⟩
  · exact (heap_setCell_other w3 ⟨bt, 1, none⟩ rb v' (by simp; omega)).trans ((hg.block rb (by omega) (fun e => nob rb (by omega) e.symm)).trans H2.res)
  · have := heap_setCell_same w3 bt 1 _ T v' hbt3
    simpa using this
  · exact hrow.mono (fun b hb hlt => heap_setCell_other w3 ⟨bt, 1, none⟩ b v' (by simp; omega)) (fun b hb => by simpa using hb)
      (fun S x c _ hS hx => TmOwn.mono f f x c (Nat.le_refl _) (fun b hb hlt => heap_setCell_other w3 ⟨bt, 1, none⟩ b v' (by have := hS b hb; simp; omega)) (fun _ h => h) hx)
  · have hb2 := H2.bel
    exact ⟨hg.os.trans hb2.os, hg.tape.trans hb2.tape, hg.output.trans hb2.output, by have := hb2.size; simp; omega, fun b hlt => (heap_setCell_other w3 ⟨bt, 1, none⟩ b v' (by simp; omega)).trans ((hg.block b (by have := hb2.size; omega) (fun e => nob b (by omega) e.symm)).trans (hb2.block b hlt))⟩
/-- What the parsing of a term answers. -/
def GotTm (T : TypeId) (f : Nat) (r : Option (Tm × Nat)) (w : World) (x : Value) (w' : World) : Prop :=
  Below w.heap.size w w' ∧ ∃ (s : ByteArray) (p : Option Addr) (k c : Nat) (z : Int), x = .tuple #[.agg #[.string s, .slice p k c], .int .i64 z] ∧ match r with
    | none => z = -1
    | some (t, j) => z = (j : Nat) ∧ TmOwn T f (fun b => w.heap.size ≤ b ∧ b < w'.heap.size) w' t [.string s, .slice p k c]
/-- The struct is handed over. -/
theorem LSt.done {T : TypeId} {rb bt : Nat} {n : ByteArray} {w W : World} {f : Nat} {p : Option Addr} {k c : Nat} {us : List Tm} (h : LSt T rb bt n w f (.slice p k c) us W) (hn : n.size ≤ maxLen) (a b : Value) (j : Nat) :
    GotTm T (f + 1) (some (.mk n us, j)) w (.tuple #[.agg #[.string n, .slice p k c], .int .i64 (j : Nat)]) ((W.setCell ⟨rb, 0, none⟩ a).setCell ⟨rb, 1, none⟩ b) := by
  obtain ⟨l1, l2, l3⟩ := h.lt
  have hk : ∀ c, c ≠ rb → ((W.setCell ⟨rb, 0, none⟩ a).setCell ⟨rb, 1, none⟩ b).heap[c]? = W.heap[c]? := fun c hc => (heap_setCell_other _ ⟨rb, 1, none⟩ c b (fun e => hc e)).trans (heap_setCell_other W ⟨rb, 0, none⟩ c a (fun e => hc e))
  have hb := h.bel
  refine ⟨⟨hb.os, hb.tape, hb.output, by simpa using hb.size, fun c hc => (hk c (by omega)).trans (hb.block c hc)⟩, _, _, _, _, _, rfl, rfl, _, rfl, hn, ?_⟩
  exact h.row.mono (fun c hc _ => hk c (by omega)) (fun c hc => by simp; omega)
      (fun S x c _ hS hx => TmOwn.mono f f x c (Nat.le_refl _) (fun d hd _ => hk d (by have := (hS d hd).1; omega)) (fun _ h => h) hx)
theorem LSt.none {T : TypeId} {rb bt : Nat} {n : ByteArray} {w W : World} {f f' : Nat} {p : Option Addr} {k c : Nat} {us : List Tm} (h : LSt T rb bt n w f (.slice p k c) us W) (a b : Value) :
    GotTm T f' none w (.tuple #[.agg #[.string n, .slice p k c], .int .i64 (-1)]) ((W.setCell ⟨rb, 0, none⟩ a).setCell ⟨rb, 1, none⟩ b) := by
  obtain ⟨l1, l2, l3⟩ := h.lt
  have hb := h.bel
  exact ⟨⟨hb.os, hb.tape, hb.output, by simpa using hb.size, fun c hc => ((heap_setCell_other _ ⟨rb, 1, Option.none⟩ c b (by simp; omega)).trans (heap_setCell_other W ⟨rb, 0, Option.none⟩ c a (by simp; omega))).trans (hb.block c hc)⟩, _, _, _, _, _, rfl, rfl⟩
theorem LSt.init {T : TypeId} {n : ByteArray} {w wr : World} {f : Nat} (hbr : Below (w.alloc (.cells #[.string ⟨#[]⟩, .slice Option.none 0 0] T)).heap.size (w.alloc (.cells #[.string ⟨#[]⟩, .slice Option.none 0 0] T)) wr) :
    LSt T w.heap.size wr.heap.size n w f (.slice Option.none 0 0) [] (wr.alloc (.cells #[.string n, .slice Option.none 0 0] T)) := by
  have hz := hbr.size
  simp at hz
  refine ⟨(hao wr _ _ (by omega)).trans ((hbr.block _ (by simp)).trans (heap_alloc_new w _)), heap_alloc_new wr _, OwnRow.nil _ _ _ _ _, ⟨hbr.os, hbr.tape, hbr.output, by simp; omega, fun b hlt => (hao wr _ _ (by omega)).trans ((hbr.block b (by simp; omega)).trans (hao w _ _ hlt))⟩, Nat.le_refl _, by omega, by simp⟩
theorem LSt.three {T : TypeId} {rb bt : Nat} {n : ByteArray} {w W w3 : World} {f : Nat} {v v' : Value} {us : List Tm} {ys : List Value} (h : LSt T rb bt n w f v us W) (happ : w3.ownsRow 0 T 2 v' (us.length + 1) ys) (hg : W.grownBy w3 v.ownBlock) :
    (∃ q c, v' = .slice (some ⟨q, 0, Option.none⟩) (us.length + 1) c) ∧ w3.heap[bt]? = some (.cells #[.string n, v] T (0, 0)) ∧ w3.heap[rb]? = some (.cells #[.string ⟨#[]⟩, .slice Option.none 0 0] T (0, 0)) := by
  obtain ⟨l1, l2, l3⟩ := h.lt
  obtain ⟨hm, vals, Ss, r1, r2, r3, r4⟩ := h.row
  exact ⟨own_form happ (by omega), (hg.block bt l3 (fun e => by have := (r2 bt e.symm).1; omega)).trans h.cell, (hg.block rb (by omega) (fun e => by have := (r2 rb e.symm).1; omega)).trans h.res⟩
theorem byte_40 (c : UInt8) : ((c.toNat : Int) == 40) = (c == 40) := by
  rw [Bool.eq_iff_iff, beq_iff_eq, beq_iff_eq]
  exact ⟨fun e => UInt8.toNat_inj.1 (show c.toNat = 40 by omega), fun e => by subst e; rfl⟩
theorem byte_41 (c : UInt8) : ((c.toNat : Int) == 41) = (c == 41) := by
  rw [Bool.eq_iff_iff, beq_iff_eq, beq_iff_eq]
  exact ⟨fun e => UInt8.toNat_inj.1 (show c.toNat = 41 by omega), fun e => by subst e; rfl⟩
theorem byte_44 (c : UInt8) : ((c.toNat : Int) == 44) = (c == 44) := by
  rw [Bool.eq_iff_iff, beq_iff_eq, beq_iff_eq]
  exact ⟨fun e => UInt8.toNat_inj.1 (show c.toNat = 44 by omega), fun e => by subst e; rfl⟩
theorem extract_le (s : ByteArray) (k j : Nat) (h : s.size ≤ 1000000) : (s.extract k j).size ≤ maxLen := by
  rw [size_list, extract_list, List.length_drop, List.length_take, ← size_list]; unfold maxLen; omega
theorem list_at (s : ByteArray) (j : Nat) (h : j < s.size) : s.data.toList[j]? = some s[j] := by
  rw [List.getElem?_eq_getElem (by rw [← size_list]; exact h)]; rfl
end Go.Proofs.YtkgfanajgdelcaaGreatDoor
namespace Go.Proofs.YtkgfanajgdelcaaGreatDoor
open Go.RowKit
def L3C (f : Nat) : Prop := ∀ (s : ByteArray) (k : Nat) (w : World), k ≤ s.size → s.size ≤ 1000000 → s.size - k < f →
    Calls Tryz.prog 273 #[.string s, .int .i64 (k : Nat)] w fun e w' => ∃ x, e = .returned x ∧ GotTm 41 f (rTerm s.data.toList f k) w x w'
def ScanRel (s : ByteArray) (k : Nat) (W : World) (i : Value) (wr : World) : Prop := ∃ j, i = .int .i64 (j : Nat) ∧ k ≤ j ∧ j ≤ s.size ∧ (∀ i, k ≤ i → (h : i < j) → (h2 : i < s.size) → wordC s[i] = true) ∧ Below W.heap.size W wr
def LArgRel (s : ByteArray) (n : ByteArray) (f rb bt : Nat) (w : World) (res : Option (Tm × Nat)) (i : Value) (wr : World) : Prop :=
  ∃ (f' e : Nat) (v : Value) (us : List Tm), i = .int .i64 (e : Nat) ∧ LSt 41 rb bt n w f v us wr ∧ f' ≤ f ∧ rArgs s.data.toList n.data.toList f' us e = res ∧ e < s.size ∧ s.size - e < f' ∧ us.length ≤ e
set_option maxRecDepth 100000 in
set_option maxHeartbeats 3200000 in
theorem l3Read_any : ∀ f : Nat, L3C f := by
  intro f
  induction f using Nat.strongRecOn with
  | _ f0 ih =>
    intro s k w hk hs hf
    obtain ⟨f, rfl⟩ : ∃ f, f0 = f + 1 := ⟨f0 - 1, by omega⟩
    have IH := Lib.hid ih
    clear ih
    go_enter Tryz.func273, Tryz.ntmps273
    go_wp2
    go_loopw [6] (ScanRel s k (w.alloc (.cells #[.string ⟨#[]⟩, .slice none 0 0] 41))) (fun i _ => s.size - (intOf i).toNat)
    case atStart => exact ⟨k, rfl, Nat.le_refl _, hk, fun i h1 h2 => absurd h2 (by omega), Below.refl _ _⟩
    case round =>
      obtain ⟨j, rfl, hj1, hj2, hall, hbr⟩ := hrel
      obtain ⟨wa, rfl⟩ : ∃ wa, wa = wr := ⟨_, rfl⟩
      have HALL := Lib.hid hall
      have hqr := hbr.size
      simp at hqr
      have HBR := Lib.hid (show True → _ from fun _ => hbr)
      have HR := (hbr.block w.heap.size (by simp)).trans (heap_alloc_new w _)
      obtain ⟨r0, r1, rf⟩ := cells2_cell HR
      have hr1 := bsz (heap_lt HR)
      clear hall HR hbr
      by_cases hlt : j < s.size
      · have hj3 : (j : Int) < s.size := by omega
        cases hw : wordC s[j]
        · have HSTOP := Lib.hid (show ∀ h : j < s.size, wordC s[j] = false from fun _ => hw)
          have HWD := Lib.hid (show rWordL s.data.toList k = (s.data.toList.drop k).take (j - k) from wordL_at (bad := false) HALL.out hj1 hj2 HSTOP.out)
          have HLL := Lib.hid (show (rWordL s.data.toList k).length = j - k by rw [HWD.out, List.length_take, List.length_drop, ← size_list]; omega)
          by_cases hjk : j = k
          · subst hjk
            have HFIN := Lib.hid (show rTerm s.data.toList (f + 1) j = none by rw [rTerm, HWD.out]; simp)
            go_wp2_with (first | (go_at_call 272; refine (l3Word_any _ _).mono ?_; rintro e w' ⟨rfl, rfl⟩))
            refine bodyPost_ret (v := .tuple #[.agg #[.string ByteArray.empty, .slice none 0 0], .int .i64 (-1)]) (by simp only [results, Tryz.results273]; go_simp) rfl ⟨_, rfl, ?_⟩
            rw [HFIN.out]
            have := LSt.none (f' := f + 1) (LSt.init (n := ByteArray.empty) (f := 0) (HBR.out trivial)) (.string ByteArray.empty) (.slice none 0 0)
            rw [World.setCell_alloc_past _ _ _ _ (show w.heap.size < wa.heap.size by omega), World.setCell_alloc_past _ _ _ _ (by simp; omega)] at this
            exact this
          · have hk1 : ((j : Int) == (k : Int)) = false := by simp; omega
            have HNE := Lib.hid (show (rWordL s.data.toList k).isEmpty = false by
              rw [Bool.eq_false_iff]; intro e; rw [List.isEmpty_iff] at e; have := HLL.out; rw [e] at this; simp at this; omega)
            have HNM := Lib.hid (show (⟨(rWordL s.data.toList k).toArray⟩ : ByteArray) = s.extract k j by
              exact (str_eq (by rw [extract_list, HWD.out, List.drop_take])).symm)
            have HJ := Lib.hid (show k + (rWordL s.data.toList k).length = j by rw [HLL.out]; omega)
            cases h40 : ((s[j].toNat : Int) == 40)
            · have HFIN := Lib.hid (show rTerm s.data.toList (f + 1) k = some (.mk (s.extract k j) [], j) by
                rw [rTerm, HNE.out, HJ.out, HNM.out, list_at s j hlt, if_neg (by simp), if_neg (by
                  intro e; injection e with e; rw [byte_40] at h40; rw [e] at h40; simp at h40)])
              have h40' : ((s[j].toNat : Int) != 40) = true := by rw [bne, h40]; rfl
              go_wp2_with (first | (go_at_call 272; refine (l3Word_any _ _).mono ?_; rintro e w' ⟨rfl, rfl⟩))
              refine bodyPost_ret (v := .tuple #[.agg #[.string (s.extract k j), .slice none 0 0], .int .i64 (j : Nat)]) (by simp only [results, Tryz.results273]; go_simp) rfl ⟨_, rfl, ?_⟩
              rw [HFIN.out]
              have := LSt.done (f := f) (us := []) (LSt.init (HBR.out trivial)) (extract_le s k j hs) (.string (s.extract k j)) (.slice none 0 0) j
              rw [World.setCell_alloc_past _ _ _ _ (show w.heap.size < wa.heap.size by omega), World.setCell_alloc_past _ _ _ _ (by simp; omega)] at this
              exact this
            · have HFIN := Lib.hid (show rTerm s.data.toList (f + 1) k = rArgs s.data.toList (s.extract k j).data.toList f [] j by
                rw [rTerm, HNE.out, HJ.out, list_at s j hlt, if_neg (by simp), if_pos (by
                  rw [byte_40, beq_iff_eq] at h40; rw [h40]), ← HNM.out])
              have h40' : ((s[j].toNat : Int) != 40) = false := by rw [bne, h40]; rfl
              have hq40 : ((j : Int) == (s.size : Int)) = false := by simp; omega
              have HL0 := Lib.hid (LSt.init (n := s.extract k j) (f := f) (HBR.out trivial))
              clear r0 r1 rf
              go_wp2_with (first | (go_at_call 272; refine (l3Word_any _ _).mono ?_; rintro e w' ⟨rfl, rfl⟩))
              go_loopw [6] (LArgRel s (s.extract k j) f w.heap.size wa.heap.size w (rTerm s.data.toList (f + 1) k)) (fun i _ => s.size - (intOf i).toNat)
              case atStart => exact ⟨f, j, _, [], rfl, HL0.out, Nat.le_refl _, HFIN.out.symm, hlt, by omega, Nat.zero_le _⟩
              case round =>
                obtain ⟨f', e, v, us, rfl, hL, hff, hres, he, hfe, hul⟩ := hrel
                have HL := Lib.hid hL
                clear hL HFIN HL0
                obtain ⟨f'', rfl⟩ : ∃ q, f' = q + 1 := ⟨f' - 1, by omega⟩
                rw [rArgs] at hres
                go_wp2_with fail
                rw [show ((e : Int) + 1) = ((e + 1 : Nat) : Int) by omega]
                refine (IH.out f'' (by omega) s (e + 1) _ (by omega) hs (by omega)).mono ?_
                rintro e0 w1 ⟨x, rfl, hb1, s0, p0, k0, c0, z0, rfl, hgot⟩
                have hq1 := hb1.size
                have hlL := HL.out.lt
                have HL1 := Lib.hid (HL.out.later hb1)
                have HL2 := Lib.hid (HL1.out.later ((Below.refl w1.heap.size w1).alloc (Nat.le_refl _) (.cells #[.string s0, .slice p0 k0 c0] 41)))
                obtain ⟨pv, cv, hvv, -⟩ := HL.out.row.form
                subst hvv
                obtain ⟨b0, b1, bf⟩ := cells2_cell HL1.out.cell
                obtain ⟨r0, r1, rf⟩ := cells2_cell HL1.out.res
                have hz1 := bsz (show w.heap.size < w1.heap.size by omega)
                have hz2 := bsz (show wa.heap.size < w1.heap.size by omega)
                cases hr : rTerm s.data.toList f'' (e + 1) with
                | none =>
                  rw [hr] at hgot hres
                  simp only at hgot hres
                  subst hgot
                  have HRES := Lib.hid hres
                  clear hres
                  go_wp2
                  refine bodyPost_ret (v := .tuple #[.agg #[.string (s.extract k j), .slice pv us.length cv], .int .i64 (-1)]) (by simp only [results, Tryz.results273]; go_simp) rfl ⟨_, rfl, ?_⟩
                  rw [← HRES.out]
                  have := LSt.none (f' := f + 1) HL2.out (.string (s.extract k j)) (.slice pv us.length cv)
                  rw [World.setCell_alloc_past _ _ _ _ (show w.heap.size < w1.heap.size by omega), World.setCell_alloc_past _ _ _ _ (by simp; omega)] at this
                  exact this
                | some am =>
                  obtain ⟨a, m⟩ := am
                  rw [hr] at hgot hres
                  simp only at hgot hres
                  obtain ⟨rfl, hO⟩ := hgot
                  have hwt := rTerm_wt s.data.toList f'' (e + 1) a m (by rw [← size_list]; omega) hr
                  rw [← size_list] at hwt
                  have hbW : Below wr.heap.size wr (w1.alloc (.cells #[.string s0, .slice p0 k0 c0] 41)) := by exact bel
                  have HA := Lib.hid (show TmOwn 41 f (fun b => wr.heap.size ≤ b ∧ b < (w1.alloc (.cells #[.string s0, .slice p0 k0 c0] 41)).heap.size) (w1.alloc (.cells #[.string s0, .slice p0 k0 c0] 41)) a [.string s0, .slice p0 k0 c0] from
                    TmOwn.mono f'' f a _ (by omega) (SameOn.below ((Below.refl w1.heap.size w1).alloc (Nat.le_refl _) _)) (fun b hb => ⟨hb.1, by simp; omega⟩) hO)
                  clear hO
                  obtain ⟨hm, vals, Ss, hv1, -⟩ := HL2.out.row
                  have HV := Lib.hid hv1
                  clear hv1 hm
                  have hm0 : ¬ (m : Int) < 0 := by omega
                  by_cases hms : m = s.size
                  · have hms1 : ((m : Int) == (s.size : Int)) = true := by simp; omega
                    have HRES := Lib.hid (show none = rTerm s.data.toList (f + 1) k by rw [← hres, List.getElem?_eq_none (by rw [← size_list]; omega), if_neg (by simp), if_neg (by simp)])
                    clear hres
                    go_wp2
                    refine bodyPost_ret (v := .tuple #[.agg #[.string (s.extract k j), .slice pv us.length cv], .int .i64 (-1)]) (by simp only [results, Tryz.results273]; go_simp) rfl ⟨_, rfl, ?_⟩
                    rw [← HRES.out]
                    have := LSt.none (f' := f + 1) HL2.out (.string (s.extract k j)) (.slice pv us.length cv)
                    rw [World.setCell_alloc_past _ _ _ _ (show w.heap.size < w1.heap.size by omega), World.setCell_alloc_past _ _ _ _ (by simp; omega)] at this
                    exact this
                  have hms1 : ((m : Int) == (s.size : Int)) = false := by simp; omega
                  have hml : m < s.size := by omega
                  have hml1 : (m : Int) < s.size := by omega
                  rw [list_at s m hml] at hres
                  cases h44 : ((s[m].toNat : Int) == 44)
                  · have h44' : ((s[m].toNat : Int) != 44) = true := by rw [bne, h44]; rfl
                    rw [if_neg (by intro e; injection e with e; rw [byte_44, e] at h44; simp at h44)] at hres
                    cases h41 : ((s[m].toNat : Int) == 41)
                    · have h41' : ((s[m].toNat : Int) != 41) = true := by rw [bne, h41]; rfl
                      rw [if_neg (by intro e; injection e with e; rw [byte_41, e] at h41; simp at h41)] at hres
                      have HRES := Lib.hid hres
                      clear hres
                      go_wp2
                      refine bodyPost_ret (v := .tuple #[.agg #[.string (s.extract k j), .slice pv us.length cv], .int .i64 (-1)]) (by simp only [results, Tryz.results273]; go_simp) rfl ⟨_, rfl, ?_⟩
                      rw [← HRES.out]
                      have := LSt.none (f' := f + 1) HL2.out (.string (s.extract k j)) (.slice pv us.length cv)
                      rw [World.setCell_alloc_past _ _ _ _ (show w.heap.size < w1.heap.size by omega), World.setCell_alloc_past _ _ _ _ (by simp; omega)] at this
                      exact this
                    · have h41' : ((s[m].toNat : Int) != 41) = false := by rw [bne, h41]; rfl
                      rw [if_pos (by rw [byte_41, beq_iff_eq] at h41; rw [h41]), ba_eq] at hres
                      have HRES := Lib.hid hres
                      clear hres
                      go_wp2_with (at_builtin; refine wpList_app1 rfl (.tmp 73) (.tmp 75) _ rfl 0 41 2 40 elemTmI _ _ vals rfl (w1.alloc (.cells #[.string s0, .slice p0 k0 c0] 41)) #[.string s0, .slice p0 k0 c0] rfl _ (by simp) rfl HV.out rfl (by simp [Value.oneCell']) (by omega) (by unfold maxLen; omega) (Nat.zero_le _) ?_; intro v3 w3 hown3 hg3 hnr3 hlt3; obtain ⟨⟨q3, c3, rfl⟩, hbt3, hrb3⟩ := HL2.out.three hown3 hg3; obtain ⟨y0, y1, yf⟩ := cells2_cell hbt3; obtain ⟨t0, t1, tf⟩ := cells2_cell hrb3; simp only [World.size_alloc] at hlt3; have hz3 := bsz (show w.heap.size < w3.heap.size by omega); have hz4 := bsz (show wa.heap.size < w3.heap.size by omega); have HL3 := Lib.hid (HL.out.app hbW HA.out HV.out hown3 hg3 hnr3 (by omega)); clear hown3 hg3 hnr3 hbt3 hrb3)
                      refine bodyPost_ret (v := .tuple #[.agg #[.string (s.extract k j), .slice (some ⟨q3, 0, none⟩) (us.length + 1) c3], .int .i64 ((m : Int) + 1)]) (by simp only [results, Tryz.results273]; go_simp) rfl ⟨_, rfl, ?_⟩
                      rw [← HRES.out, show ((m : Int) + 1) = ((m + 1 : Nat) : Int) by omega]
                      exact LSt.done HL3.out (extract_le s k j hs) _ _ (m + 1)
                  · have h44' : ((s[m].toNat : Int) != 44) = false := by rw [bne, h44]; rfl
                    have h41 : ((s[m].toNat : Int) == 41) = false := by
                      rw [byte_44, beq_iff_eq] at h44
                      rw [byte_41, h44]; rfl
                    rw [if_pos (by rw [byte_44, beq_iff_eq] at h44; rw [h44])] at hres
                    have HRES := Lib.hid hres
                    clear hres
                    go_wp2_with (at_builtin; refine wpList_app1 rfl (.tmp 73) (.tmp 75) _ rfl 0 41 2 40 elemTmI _ _ vals rfl (w1.alloc (.cells #[.string s0, .slice p0 k0 c0] 41)) #[.string s0, .slice p0 k0 c0] rfl _ (by simp) rfl HV.out rfl (by simp [Value.oneCell']) (by omega) (by unfold maxLen; omega) (Nat.zero_le _) ?_; intro v3 w3 hown3 hg3 hnr3 hlt3; obtain ⟨⟨q3, c3, rfl⟩, hbt3, hrb3⟩ := HL2.out.three hown3 hg3; obtain ⟨y0, y1, yf⟩ := cells2_cell hbt3; obtain ⟨t0, t1, tf⟩ := cells2_cell hrb3; simp only [World.size_alloc] at hlt3; have hz3 := bsz (show w.heap.size < w3.heap.size by omega); have hz4 := bsz (show wa.heap.size < w3.heap.size by omega); have HL3 := Lib.hid (HL.out.app hbW HA.out HV.out hown3 hg3 hnr3 (by omega)); clear hown3 hg3 hnr3 hbt3 hrb3)
                    refine ⟨⟨f'', m, _, us ++ [a], rfl, HL3.out, by omega, HRES.out, hml, by omega, by simp; omega⟩, by simp [intOf]; omega⟩
        · have HW := Lib.hid hw
          go_wp2_with (first | (go_at_call 272; refine (l3Word_any _ _).mono ?_; rintro e w' ⟨rfl, rfl⟩))
          refine ⟨⟨j + 1, by go_num, by omega, by omega, fun i h1 h2 h3 => ?_, HBR.out trivial⟩, by simp [intOf]; omega⟩
          by_cases e : i = j
          · subst e; exact HW.out
          · exact HALL.out i h1 (by omega) h3
      · have HSTOP := Lib.hid (show ∀ h : j < s.size, wordC s[j] = false from fun h => absurd h hlt)
        have hj3 : ¬ (j : Int) < s.size := by omega
        have HWD := Lib.hid (show rWordL s.data.toList k = (s.data.toList.drop k).take (j - k) from wordL_at (bad := false) HALL.out hj1 hj2 HSTOP.out)
        have HLL := Lib.hid (show (rWordL s.data.toList k).length = j - k by rw [HWD.out, List.length_take, List.length_drop, ← size_list]; omega)
        by_cases hjk : j = k
        · subst hjk
          have HFIN := Lib.hid (show rTerm s.data.toList (f + 1) j = none by rw [rTerm, HWD.out]; simp)
          go_wp2
          refine bodyPost_ret (v := .tuple #[.agg #[.string ByteArray.empty, .slice none 0 0], .int .i64 (-1)]) (by simp only [results, Tryz.results273]; go_simp) rfl ⟨_, rfl, ?_⟩
          rw [HFIN.out]
          have := LSt.none (f' := f + 1) (LSt.init (n := ByteArray.empty) (f := 0) (HBR.out trivial)) (.string ByteArray.empty) (.slice none 0 0)
          rw [World.setCell_alloc_past _ _ _ _ (show w.heap.size < wa.heap.size by omega), World.setCell_alloc_past _ _ _ _ (by simp; omega)] at this
          exact this
        · have hk1 : ((j : Int) == (k : Int)) = false := by simp; omega
          have hk2 : ((j : Int) == (s.size : Int)) = true := by simp; omega
          have HFIN := Lib.hid (show rTerm s.data.toList (f + 1) k = some (.mk (s.extract k j) [], j) by
            have h1 : (rWordL s.data.toList k).isEmpty = false := by
              rw [Bool.eq_false_iff]; intro e; rw [List.isEmpty_iff] at e; have := HLL.out; rw [e] at this; simp at this; omega
            have h2 : (⟨(rWordL s.data.toList k).toArray⟩ : ByteArray) = s.extract k j := by
              exact (str_eq (by rw [extract_list, HWD.out, List.drop_take])).symm
            have h3 : k + (rWordL s.data.toList k).length = j := by rw [HLL.out]; omega
            rw [rTerm, h1, h3, h2, List.getElem?_eq_none (by rw [← size_list]; omega), if_neg (by simp), if_neg (by simp)])
          go_wp2
          refine bodyPost_ret (v := .tuple #[.agg #[.string (s.extract k j), .slice none 0 0], .int .i64 (j : Nat)]) (by simp only [results, Tryz.results273]; go_simp) rfl ⟨_, rfl, ?_⟩
          rw [HFIN.out]
          have := LSt.done (f := f) (us := []) (LSt.init (HBR.out trivial)) (extract_le s k j hs) (.string (s.extract k j)) (.slice none 0 0) j
          rw [World.setCell_alloc_past _ _ _ _ (show w.heap.size < wa.heap.size by omega), World.setCell_alloc_past _ _ _ _ (by simp; omega)] at this
          exact this
end Go.Proofs.YtkgfanajgdelcaaGreatDoor
namespace Go.Proofs.YtkgfanajgdelcaaGreatDoor
open Go.RowKit
def sAll8 : List UInt8 := [97, 108, 108, 32]
def sSome8 : List UInt8 := [115, 111, 109, 101, 32]
def sTrue8 : List UInt8 := [116, 114, 117, 101]
def sFalse8 : List UInt8 := [102, 97, 108, 115, 101]
def sAnd8 : List UInt8 := [32, 38, 32]
def sOr8 : List UInt8 := [32, 124, 32]
def sImp8 : List UInt8 := [32, 61, 62, 32]
def sEq8 : List UInt8 := [32, 61, 32]
def sign8 (op : Int) : List UInt8 := if op = 5 then sAnd8 else if op = 6 then sOr8 else sImp8
theorem sign8_len (op : Int) : 3 ≤ (sign8 op).length ∧ (sign8 op).length ≤ 4 := by unfold sign8; split <;> (try split) <;> decide
/-- The first part is an equation. -/
def Fm.eq0 (ps : List Fm) : Bool := match ps with | f :: _ => f.a.n.data.toList == [61] | [] => false
mutual
def Fm.txt : Fm → List UInt8
  | .mk op a v ps =>
    if op = 1 then sTrue8 else if op = 2 then sFalse8 else if op = 3 then a.fmt
    else if op = 4 then (if Fm.eq0 ps then [126, 40] ++ Fm.txtN 0 ps ++ [41] else [126] ++ Fm.txtN 0 ps)
    else if op = 8 then sAll8 ++ v.data.toList ++ [46] ++ Fm.txtN 0 ps
    else if op = 9 then sSome8 ++ v.data.toList ++ [46] ++ Fm.txtN 0 ps
    else [40] ++ Fm.txtN 0 ps ++ sign8 op ++ Fm.txtN 1 ps ++ [41]
/-- The text of the n-th part. -/
def Fm.txtN : Nat → List Fm → List UInt8
  | _, [] => []
  | 0, f :: _ => f.txt
  | n + 1, _ :: fs => Fm.txtN n fs
end
/-! ### The program's parser -/
def pAtomT (L : List UInt8) (f : Nat) (p : PSt) : Tm × PSt :=
  if pTake L sEq8 (pTerm L f p).2 then (eqTm (pTerm L f p).1 (pTerm L f (pAdv sEq8 (pTerm L f p).2)).1, (pTerm L f (pAdv sEq8 (pTerm L f p).2)).2) else pTerm L f p
/-- The sign that stands there. -/
def pSign (L : List UInt8) (p : PSt) : Int := if pTake L sAnd8 p then 5 else if pTake L sOr8 p then 6 else if pTake L sImp8 p then 7 else 0
/-- An atom as a formula. -/
def atomF (t : Tm) : Fm := if t.n.data.toList = sTrue8 ∧ t.us = [] then opF 1 [] else if t.n.data.toList = sFalse8 ∧ t.us = [] then opF 2 [] else atomOfF t
mutual
def pFrm (L : List UInt8) : Nat → PSt → Fm × PSt
  | 0, p => (opF 0 [], p)
  | f + 1, p =>
    if pTake L sAll8 p then (quantF 8 (pWord L (pAdv sAll8 p)).1 (pFrm L f (pMust L [46] (pWord L (pAdv sAll8 p)).2)).1, (pFrm L f (pMust L [46] (pWord L (pAdv sAll8 p)).2)).2)
    else if pTake L sSome8 p then (quantF 9 (pWord L (pAdv sSome8 p)).1 (pFrm L f (pMust L [46] (pWord L (pAdv sSome8 p)).2)).1, (pFrm L f (pMust L [46] (pWord L (pAdv sSome8 p)).2)).2)
    else if pTake L [126] p then (opF 4 [(pFrm L f (pAdv [126] p)).1], (pFrm L f (pAdv [126] p)).2)
    else if pTake L [40] p then pInn L f (pAdv [40] p)
    else (atomF (pAtomT L (L.length + 2) p).1, (pAtomT L (L.length + 2) p).2)
def pInn (L : List UInt8) : Nat → PSt → Fm × PSt
  | 0, p => (opF 0 [], p)
  | f + 1, p =>
    if pSign L (pFrm L f p).2 = 0 then ((pFrm L f p).1, pMust L [41] (pFrm L f p).2)
    else (opF (pSign L (pFrm L f p).2) [(pFrm L f p).1, (pFrm L f (pAdv (sign8 (pSign L (pFrm L f p).2)) (pFrm L f p).2)).1], pMust L [41] (pFrm L f (pAdv (sign8 (pSign L (pFrm L f p).2)) (pFrm L f p).2)).2)
end
/-! ### What is written is read back -/
/-- What may stand behind a formula. -/
inductive GoodF : List UInt8 → Prop
  | nil : GoodF []
  | and (R : List UInt8) : GoodF (sAnd8 ++ R)
  | or (R : List UInt8) : GoodF (sOr8 ++ R)
  | imp (R : List UInt8) : GoodF (sImp8 ++ R)
  | close (R : List UInt8) : GoodF (41 :: R)
theorem GoodF.stop {R : List UInt8} (h : GoodF R) : stopC R := by
  intro c hc
  cases h with
  | nil => simp at hc
  | and R => simp [sAnd8] at hc; subst hc; decide
  | or R => simp [sOr8] at hc; subst hc; decide
  | imp R => simp [sImp8] at hc; subst hc; decide
  | close R => simp at hc; subst hc; decide
theorem GoodF.noEq {R : List UInt8} (h : GoodF R) : sEq8.isPrefixOf R = false := by
  cases h <;> rfl
/-- What may stand behind a word of a formula. -/
inductive BehindF : List UInt8 → Prop
  | open_ (R : List UInt8) : BehindF (40 :: R)
  | eq (R : List UInt8) : BehindF (sEq8 ++ R)
  | good (R : List UInt8) : GoodF R → BehindF R
theorem BehindF.stop {X : List UInt8} (h : BehindF X) : ∀ c, X.head? = some c → wordC c = false := by
  intro c hc
  cases h with
  | open_ R => simp at hc; subst hc; decide
  | eq R => simp [sEq8] at hc; subst hc; decide
  | good R h => exact (h.stop c hc).1
/-- No keyword stands there. -/
def noKw8 (T : List UInt8) : Prop := sAll8.isPrefixOf T = false ∧ sSome8.isPrefixOf T = false ∧ ([126] : List UInt8).isPrefixOf T = false ∧ ([40] : List UInt8).isPrefixOf T = false
theorem key_sym {l : List UInt8} (h : symB l = true) : l ≠ [97, 108, 108] ∧ l ≠ [115, 111, 109, 101] ∧ l ≠ sTrue8 ∧ l ≠ sFalse8 := by
  refine ⟨?_, ?_, ?_, ?_⟩ <;> (rintro rfl; exact absurd h (by decide))
theorem key_var {l : List UInt8} (h : varB l = true) : l ≠ [97, 108, 108] ∧ l ≠ [115, 111, 109, 101] ∧ l ≠ sTrue8 ∧ l ≠ sFalse8 := by
  refine ⟨?_, ?_, ?_, ?_⟩ <;> (rintro rfl; exact absurd h (by decide))
theorem kw8_word {n X : List UInt8} (h : varB n = true ∨ symB n = true) (hX : BehindF X) : noKw8 (n ++ X) := by
  have hn : n.all wordC = true ∧ n ≠ [] := by rcases h with h | h; exact varB_word h; exact symB_word h
  have hk : n ≠ [97, 108, 108] ∧ n ≠ [115, 111, 109, 101] := by rcases h with h | h; exact ⟨(key_var h).1, (key_var h).2.1⟩; exact ⟨(key_sym h).1, (key_sym h).2.1⟩
  obtain ⟨c, r, rfl⟩ : ∃ c r, n = c :: r := by cases n with
    | nil => exact absurd rfl hn.2
    | cons c r => exact ⟨c, r, rfl⟩
  have hc : wordC c = true := by have := hn.1; simp only [List.all_cons, Bool.and_eq_true] at this; exact this.1
  have gen : ∀ w rest : List UInt8, w.all wordC = true → (c :: r) ≠ w → (w ++ 32 :: rest).isPrefixOf ((c :: r) ++ X) = false := by
    intro w rest hw hne
    rw [Bool.eq_false_iff]
    intro h
    rw [List.isPrefixOf_iff_prefix] at h
    obtain ⟨Z, hZ⟩ := h
    have e1 : ((w ++ 32 :: rest) ++ Z).takeWhile wordC = w := by
      rw [List.append_assoc]; exact takeWhile_app hw (by intro c hc; simp at hc; subst hc; decide)
    have e2 : ((c :: r) ++ X).takeWhile wordC = c :: r := takeWhile_app hn.1 hX.stop
    rw [hZ, e2] at e1
    exact hne e1
  refine ⟨gen [97, 108, 108] [] (by decide) hk.1, gen [115, 111, 109, 101] [] (by decide) hk.2, ?_, ?_⟩
  · simp only [List.cons_append, List.isPrefixOf, Bool.and_eq_false_iff, beq_eq_false_iff_ne]
    left; rintro rfl; exact absurd hc (by decide)
  · simp only [List.cons_append, List.isPrefixOf, Bool.and_eq_false_iff, beq_eq_false_iff_ne]
    left; rintro rfl; exact absurd hc (by decide)
theorem fmt_eq (a b : Tm) : (eqTm a b).fmt = a.fmt ++ sEq8 ++ b.fmt := by rw [eqTm, Tm.fmt, if_pos (by rfl)]; rfl
theorem atom_noKw8 {t : Tm} (h : t.atom = true) {R : List UInt8} (hR : GoodF R) : noKw8 (t.fmt ++ R) := by
  cases atom_cases h with
  | eq a b ha hb =>
    rw [fmt_eq, List.append_assoc, List.append_assoc]
    obtain ⟨n, X, hn, he, hX⟩ := fmt_split ha (sEq8 ++ (b.fmt ++ R))
    rw [he]
    refine kw8_word hn ?_
    rcases hX with ⟨Y, rfl⟩ | rfl
    · exact .open_ _
    · exact .eq _
  | pred n us hs hu hd =>
    obtain ⟨m, X, hn, he, hX⟩ := fmt_split hd R
    rw [he]
    refine kw8_word hn ?_
    rcases hX with ⟨Y, rfl⟩ | rfl
    · exact .open_ _
    · exact .good _ hR
theorem pAtomT_ok {L : List UInt8} {f : Nat} {t : Tm} {k : Nat} {R : List UInt8} (ht : t.atom = true) (hL : L.drop k = t.fmt ++ R) (hR : GoodF R) (hf : t.fmt.length < f) : pAtomT L f ⟨k, false⟩ = (t, ⟨k + t.fmt.length, false⟩) := by
  cases atom_cases ht with
  | eq a b ha hb =>
    rw [fmt_eq] at hL hf ⊢
    have e0 : L.drop k = a.fmt ++ (sEq8 ++ (b.fmt ++ R)) := by rw [hL]; simp [List.append_assoc]
    have e1 := drop_adv e0
    have e2 := drop_adv e1
    simp only [List.length_append] at hf
    have h1 := pTerm_ok f a _ _ ha e0 (by intro c hc; simp [sEq8] at hc; subst hc; decide) (by omega)
    have h2 := pTerm_ok f b _ _ hb e2 hR.stop (by omega)
    rw [pAtomT, h1, if_pos (pTake_yes e1)]
    simp only [pAdv] at h2 ⊢
    rw [h2]
    refine Prod.ext rfl ?_
    show PSt.mk _ _ = PSt.mk _ _
    congr 1
    simp only [List.length_append]; omega
  | pred n us hs hu hd =>
    have h1 := pTerm_ok f _ _ _ hd hL hR.stop hf
    rw [pAtomT, h1, if_neg (by rw [pTake_no (drop_adv hL) hR.noEq]; simp)]
theorem atomF_of {t : Tm} (h : t.atom = true) : atomF t = atomOfF t := by
  cases atom_cases h with
  | eq a b ha hb =>
    rw [atomF, if_neg (fun h => absurd (show ([61] : List UInt8) = sTrue8 from h.1) (by decide)), if_neg (fun h => absurd (show ([61] : List UInt8) = sFalse8 from h.1) (by decide))]
  | pred n us hs hu hd =>
    have hk := key_sym hs
    rw [atomF, if_neg (fun h => hk.2.2.1 h.1), if_neg (fun h => hk.2.2.2 h.1)]
theorem txt_neg (g : Fm) : (opF 4 [g]).txt = if g.a.n.data.toList = [61] then [126, 40] ++ g.txt ++ [41] else [126] ++ g.txt := by
  rw [opF, Fm.txt]
  simp only [Fm.eq0, Fm.txtN, beq_iff_eq]
  rfl
theorem txt_atm (a : Tm) : (atomOfF a).txt = a.fmt := by rw [atomOfF, Fm.txt]; rfl
theorem txt_bin {op : Int} (h : op = 5 ∨ op = 6 ∨ op = 7) (g g' : Fm) : (opF op [g, g']).txt = [40] ++ g.txt ++ sign8 op ++ g'.txt ++ [41] := by
  rcases h with rfl | rfl | rfl <;> (rw [opF, Fm.txt]; rfl)
theorem txt_qua {op : Int} (h : op = 8 ∨ op = 9) (v : List UInt8) (g : Fm) : (quantF op v g).txt = (if op = 8 then sAll8 else sSome8) ++ v ++ [46] ++ g.txt := by
  rcases h with rfl | rfl <;> (rw [quantF, Fm.txt]; rfl)
/-- Only an atom's formula has the name of an equation. -/
theorem eq_form {g : Fm} (hg : g.form = true) (h : g.a.n.data.toList = [61]) : ∃ a b, g = atomOfF (eqTm a b) ∧ (eqTm a b).atom = true := by
  cases form_cases hg with
  | atm t ht =>
    cases atom_cases ht with
    | eq a b ha hb => exact ⟨a, b, rfl, ht⟩
    | pred n us hs hu hd =>
      have h : n.data.toList = [61] := h
      rw [h] at hs; exact absurd hs (by decide)
  | tru => exact absurd h (by decide)
  | fal => exact absurd h (by decide)
  | neg g _ => exact absurd h (by simp [opF, Fm.a, tm0, Tm.n])
  | bin op g h' _ _ _ => exact absurd h (by simp [opF, Fm.a, tm0, Tm.n])
  | qua op v g _ _ _ => exact absurd h (by simp [quantF, Fm.a, tm0, Tm.n])
theorem pFrm_atom {L : List UInt8} {f k : Nat} {T : List UInt8} (h : L.drop k = T) (hn : noKw8 T) : pFrm L (f + 1) ⟨k, false⟩ = (atomF (pAtomT L (L.length + 2) ⟨k, false⟩).1, (pAtomT L (L.length + 2) ⟨k, false⟩).2) := by
  obtain ⟨h1, h2, h3, h4⟩ := hn
  rw [pFrm, if_neg (by rw [pTake_no h h1]; simp), if_neg (by rw [pTake_no h h2]; simp), if_neg (by rw [pTake_no h h3]; simp), if_neg (by rw [pTake_no h h4]; simp)]
theorem drop_le {L T : List UInt8} {k : Nat} (h : L.drop k = T) : T.length ≤ L.length := by
  have := congrArg List.length h
  rw [List.length_drop] at this; omega
theorem pEnd {F : Fm} {p : PSt} {k n : Nat} (h : p = ⟨n, false⟩) (hn : n = k) : (F, p) = (F, (⟨k, false⟩ : PSt)) := by subst h hn; rfl
theorem pSign_op {L : List UInt8} {op : Int} {k : Nat} {R : List UInt8} (ho : op = 5 ∨ op = 6 ∨ op = 7) (h : L.drop k = sign8 op ++ R) : pSign L ⟨k, false⟩ = op := by
  rcases ho with rfl | rfl | rfl
  · have h : L.drop k = sAnd8 ++ R := h
    rw [pSign, if_pos (pTake_yes h)]
  · have h : L.drop k = sOr8 ++ R := h
    rw [pSign, if_neg (by rw [pTake_no h (by rfl)]; simp), if_pos (pTake_yes h)]
  · have h : L.drop k = sImp8 ++ R := h
    rw [pSign, if_neg (by rw [pTake_no h (by rfl)]; simp), if_neg (by rw [pTake_no h (by rfl)]; simp), if_pos (pTake_yes h)]
theorem pSign_close {L : List UInt8} {k : Nat} {R : List UInt8} (h : L.drop k = 41 :: R) : pSign L ⟨k, false⟩ = 0 := by
  rw [pSign, if_neg (by rw [pTake_no h (by rfl)]; simp), if_neg (by rw [pTake_no h (by rfl)]; simp), if_neg (by rw [pTake_no h (by rfl)]; simp)]
theorem good_sign {op : Int} (ho : op = 5 ∨ op = 6 ∨ op = 7) (R : List UInt8) : GoodF (sign8 op ++ R) := by
  rcases ho with rfl | rfl | rfl
  · exact .and R
  · exact .or R
  · exact .imp R
mutual
/-- The text of a formula that has a form is read back. -/
theorem pFrm_ok {L : List UInt8} : ∀ (f : Nat) (F : Fm) (k : Nat) (R : List UInt8), F.form = true → L.drop k = F.txt ++ R → GoodF R → F.txt.length + 1 < f → pFrm L f ⟨k, false⟩ = (F, ⟨k + F.txt.length, false⟩)
  | 0, _, _, _, _, _, _, h => absurd h (by omega)
  | f + 1, F, k, R, hF, hL, hR, hf => by
    cases form_cases hF with
    | tru =>
      have e : (opF 1 []).txt = (Tm.mk ⟨sTrue8.toArray⟩ []).fmt := by rw [opF, Fm.txt, Tm.fmt]; rfl
      have hn : (Tm.mk ⟨sTrue8.toArray⟩ []).fmt = sTrue8 := by rw [Tm.fmt]; rfl
      rw [e] at hL hf ⊢
      have hk : noKw8 ((Tm.mk ⟨sTrue8.toArray⟩ []).fmt ++ R) := by rw [hn]; exact ⟨rfl, rfl, rfl, rfl⟩
      have hL' : L.drop k = sTrue8 ++ R := by rw [hL, hn]
      have hw := pWord_ok hL' (by decide) (by decide) (fun c hc => (hR.stop c hc).1)
      have e1 := drop_adv hL'
      have h40 : pTake L [40] ⟨k + sTrue8.length, false⟩ = false := by
        refine pTake_no e1 ?_
        cases R with
        | nil => rfl
        | cons c R => simp [List.isPrefixOf, (hR.stop c rfl).2.symm]
      have ht : ∀ n, pTerm L (n + 1) ⟨k, false⟩ = (.mk ⟨sTrue8.toArray⟩ [], ⟨k + sTrue8.length, false⟩) := fun n => by rw [pTerm, hw, h40]; rfl
      rw [pFrm_atom hL hk, pAtomT, ht (L.length + 1), if_neg (by rw [pTake_no e1 hR.noEq]; simp), hn]
      rfl
    | fal =>
      have e : (opF 2 []).txt = (Tm.mk ⟨sFalse8.toArray⟩ []).fmt := by rw [opF, Fm.txt, Tm.fmt]; rfl
      have hn : (Tm.mk ⟨sFalse8.toArray⟩ []).fmt = sFalse8 := by rw [Tm.fmt]; rfl
      rw [e] at hL hf ⊢
      have hk : noKw8 ((Tm.mk ⟨sFalse8.toArray⟩ []).fmt ++ R) := by rw [hn]; exact ⟨rfl, rfl, rfl, rfl⟩
      have hL' : L.drop k = sFalse8 ++ R := by rw [hL, hn]
      have hw := pWord_ok hL' (by decide) (by decide) (fun c hc => (hR.stop c hc).1)
      have e1 := drop_adv hL'
      have h40 : pTake L [40] ⟨k + sFalse8.length, false⟩ = false := by
        refine pTake_no e1 ?_
        cases R with
        | nil => rfl
        | cons c R => simp [List.isPrefixOf, (hR.stop c rfl).2.symm]
      have ht : ∀ n, pTerm L (n + 1) ⟨k, false⟩ = (.mk ⟨sFalse8.toArray⟩ [], ⟨k + sFalse8.length, false⟩) := fun n => by rw [pTerm, hw, h40]; rfl
      rw [pFrm_atom hL hk, pAtomT, ht (L.length + 1), if_neg (by rw [pTake_no e1 hR.noEq]; simp), hn]
      rfl
    | atm a ha =>
      rw [txt_atm] at hL hf ⊢
      have hl := drop_le hL
      rw [List.length_append] at hl
      rw [pFrm_atom hL (atom_noKw8 ha hR), pAtomT_ok ha hL hR (by omega), atomF_of ha]
    | neg g hg =>
      rw [txt_neg] at hL hf ⊢
      by_cases hq : g.a.n.data.toList = [61]
      · rw [if_pos hq] at hL hf ⊢
        have e0 : L.drop k = [126] ++ ([40] ++ (g.txt ++ ([41] ++ R))) := by rw [hL]; simp [List.append_assoc]
        have e1 := drop_adv e0
        have e2 := drop_adv e1
        have e3 := drop_adv e2
        simp only [List.length_append, List.length_cons, List.length_nil] at hf e1 e2 e3
        obtain ⟨f1, rfl⟩ : ∃ q, f = q + 1 := ⟨f - 1, by omega⟩
        obtain ⟨f2, rfl⟩ : ∃ q, f1 = q + 1 := ⟨f1 - 1, by omega⟩
        have h1 := pFrm_ok f2 g _ _ hg e2 (.close R) (by omega)
        have n1 : pTake L sAll8 ⟨k, false⟩ = false := pTake_no e0 rfl
        have n2 : pTake L sSome8 ⟨k, false⟩ = false := pTake_no e0 rfl
        have m1 : pTake L sAll8 ⟨k + 1, false⟩ = false := pTake_no e1 rfl
        have m2 : pTake L sSome8 ⟨k + 1, false⟩ = false := pTake_no e1 rfl
        have m3 : pTake L [126] ⟨k + 1, false⟩ = false := pTake_no e1 rfl
        have hi : pInn L (f2 + 1) ⟨k + 1 + 1, false⟩ = (g, ⟨k + 1 + 1 + g.txt.length + 1, false⟩) := by
          rw [pInn, h1, if_pos (pSign_close e3), pMust_yes e3]; rfl
        have hin : pFrm L (f2 + 1 + 1) ⟨k + 1, false⟩ = (g, ⟨k + 1 + 1 + g.txt.length + 1, false⟩) := by
          rw [pFrm, if_neg (by rw [m1]; simp), if_neg (by rw [m2]; simp), if_neg (by rw [m3]; simp), if_pos (pTake_yes e1)]
          exact hi
        rw [pFrm, if_neg (by rw [n1]; simp), if_neg (by rw [n2]; simp), if_pos (pTake_yes e0)]
        show (opF 4 [(pFrm L (f2 + 1 + 1) ⟨k + 1, false⟩).1], (pFrm L (f2 + 1 + 1) ⟨k + 1, false⟩).2) = _
        rw [hin]
        exact pEnd rfl (by simp only [List.length_append, List.length_cons, List.length_nil]; omega)
      · rw [if_neg hq] at hL hf ⊢
        have e0 : L.drop k = [126] ++ (g.txt ++ R) := by rw [hL]; simp []
        have e1 := drop_adv e0
        simp only [List.length_append, List.length_cons, List.length_nil] at hf e1
        have h1 := pFrm_ok f g _ _ hg e1 hR (by omega)
        have n1 : pTake L sAll8 ⟨k, false⟩ = false := pTake_no e0 rfl
        have n2 : pTake L sSome8 ⟨k, false⟩ = false := pTake_no e0 rfl
        rw [pFrm, if_neg (by rw [n1]; simp), if_neg (by rw [n2]; simp), if_pos (pTake_yes e0)]
        show (opF 4 [(pFrm L f ⟨k + 1, false⟩).1], (pFrm L f ⟨k + 1, false⟩).2) = _
        have h1' : pFrm L f ⟨k + 1, false⟩ = (g, ⟨k + 1 + g.txt.length, false⟩) := h1
        rw [h1']
        exact pEnd rfl (by simp only [List.length_append, List.length_cons, List.length_nil]; omega)
    | bin op g h ho hg hh =>
      rw [txt_bin ho] at hL hf ⊢
      have e0 : L.drop k = [40] ++ (g.txt ++ (sign8 op ++ (h.txt ++ ([41] ++ R)))) := by rw [hL]; simp [List.append_assoc]
      have e1 := drop_adv e0
      have e2 := drop_adv e1
      have e3 := drop_adv e2
      have e4 := drop_adv e3
      simp only [List.length_append, List.length_cons, List.length_nil] at hf
      obtain ⟨f1, rfl⟩ : ∃ q, f = q + 1 := ⟨f - 1, by omega⟩
      have h1 := pFrm_ok f1 g _ _ hg e1 (good_sign ho _) (by omega)
      have h2 := pFrm_ok f1 h _ _ hh e3 (.close R) (by omega)
      have hs := pSign_op ho e2
      have n1 : pTake L sAll8 ⟨k, false⟩ = false := pTake_no e0 rfl
      have n2 : pTake L sSome8 ⟨k, false⟩ = false := pTake_no e0 rfl
      have n3 : pTake L [126] ⟨k, false⟩ = false := pTake_no e0 rfl
      have h0 : op ≠ 0 := by omega
      have hi : pInn L (f1 + 1) (pAdv [40] ⟨k, false⟩) = (opF op [g, h], ⟨k + 1 + g.txt.length + (sign8 op).length + h.txt.length + 1, false⟩) := by
        have h1' : pFrm L f1 (pAdv [40] ⟨k, false⟩) = (g, ⟨k + 1 + g.txt.length, false⟩) := h1
        have hs' : pSign L ⟨k + 1 + g.txt.length, false⟩ = op := hs
        have h2' : pFrm L f1 (pAdv (sign8 op) ⟨k + 1 + g.txt.length, false⟩) = (h, ⟨k + 1 + g.txt.length + (sign8 op).length + h.txt.length, false⟩) := h2
        have h3' : pMust L [41] ⟨k + 1 + g.txt.length + (sign8 op).length + h.txt.length, false⟩ = _ := pMust_yes e4
        rw [pInn, h1']
        simp only [hs']
        rw [if_neg h0, h2']
        simp only
        rw [h3']
        rfl
      rw [pFrm, if_neg (by rw [n1]; simp), if_neg (by rw [n2]; simp), if_neg (by rw [n3]; simp), if_pos (pTake_yes e0), hi]
      exact pEnd rfl (by simp only [List.length_append, List.length_cons, List.length_nil]; omega)
    | qua op v g ho hv hg =>
      rw [txt_qua ho] at hL hf ⊢
      have hw := varB_word hv
      obtain ⟨kw, hkw, hkn⟩ : ∃ kw, (if op = 8 then sAll8 else sSome8) = kw ∧ 0 < kw.length := ⟨_, rfl, by split <;> decide⟩
      rw [hkw] at hL hf ⊢
      have e0 : L.drop k = kw ++ (v ++ ([46] ++ (g.txt ++ R))) := by rw [hL]; simp [List.append_assoc]
      have e1 := drop_adv e0
      have e2 := drop_adv e1
      have e3 := drop_adv e2
      simp only [List.length_append, List.length_cons, List.length_nil] at hf
      have h1 := pWord_ok e1 hw.1 hw.2 (by intro c hc; simp at hc; subst hc; decide)
      have h2 := pMust_yes e2
      have h3 := pFrm_ok f g _ _ hg e3 hR (by omega)
      have hi : (quantF op (pWord L (pAdv kw ⟨k, false⟩)).1 (pFrm L f (pMust L [46] (pWord L (pAdv kw ⟨k, false⟩)).2)).1, (pFrm L f (pMust L [46] (pWord L (pAdv kw ⟨k, false⟩)).2)).2) = (quantF op v g, (⟨k + kw.length + v.length + 1 + g.txt.length, false⟩ : PSt)) := by
        have h1' : pWord L (pAdv kw ⟨k, false⟩) = _ := h1
        rw [h1']
        simp only
        rw [h2, h3]
        rfl
      rcases ho with rfl | rfl
      · obtain rfl : sAll8 = kw := hkw
        rw [pFrm, if_pos (pTake_yes e0), hi]
        exact pEnd rfl (by simp only [List.length_append, List.length_cons, List.length_nil]; omega)
      · obtain rfl : sSome8 = kw := hkw
        have n1 : pTake L sAll8 ⟨k, false⟩ = false := pTake_no e0 rfl
        rw [pFrm, if_neg (by rw [n1]; simp), if_pos (pTake_yes e0), hi]
        exact pEnd rfl (by simp only [List.length_append, List.length_cons, List.length_nil]; omega)
end
end Go.Proofs.YtkgfanajgdelcaaGreatDoor
namespace Go.Proofs.YtkgfanajgdelcaaGreatDoor
open Go.RowKit
/-- A piece of text stands at a place. -/
def at8 (L t : List UInt8) (k : Nat) : Bool := t.isPrefixOf (L.drop k)
def rSimp (L : List UInt8) (k : Nat) : Option (Fm × Nat) :=
  match rTerm L (L.length + 2) k with
  | none => none
  | some (a, j) =>
    if at8 L sEq8 j then (match rTerm L (L.length + 2) (j + 3) with | none => none | some (b, e) => some (atomOfF (eqTm a b), e))
    else some (atomF a, j)
def rSign (L : List UInt8) (k : Nat) : Int := if at8 L sAnd8 k then 5 else if at8 L sOr8 k then 6 else if at8 L sImp8 k then 7 else 0
/-- An equation in parentheses. -/
def rEqP (L : List UInt8) : Option (Fm × Nat) → Bool
  | none => false
  | some (p, j) => p.op == 3 && p.a.n.data.toList == [61] && at8 L [41] j
mutual
def rFrm (L : List UInt8) : Nat → Nat → Option (Fm × Nat)
  | 0, _ => none
  | f + 1, k =>
    if at8 L sAll8 k then rQua L f 8 (k + 4)
    else if at8 L sSome8 k then rQua L f 9 (k + 5)
    else if at8 L [126, 40] k then
      (if rEqP L (rSimp L (k + 2)) then (rSimp L (k + 2)).map (fun r => (opF 4 [r.1], r.2 + 1)) else (rPair L f (k + 1)).map (fun r => (opF 4 [r.1], r.2)))
    else if at8 L [126] k then (rFrm L f (k + 1)).map (fun r => (opF 4 [r.1], r.2))
    else if at8 L [40] k then rPair L f k
    else rSimp L k
def rQua (L : List UInt8) : Nat → Int → Nat → Option (Fm × Nat)
  | 0, _, _ => none
  | f + 1, op, k => if L[k + (rWordL L k).length]? = some 46 then (rFrm L f (k + (rWordL L k).length + 1)).map (fun r => (quantF op (rWordL L k) r.1, r.2)) else none
def rPair (L : List UInt8) : Nat → Nat → Option (Fm × Nat)
  | 0, _ => none
  | f + 1, k =>
    match rFrm L f (k + 1) with
    | none => none
    | some (a, j) =>
      if rSign L j = 0 then none
      else match rFrm L f (j + (sign8 (rSign L j)).length) with
        | none => none
        | some (b, e) => if L[e]? = some 41 then some (opF (rSign L j) [a, b], e + 1) else none
end
theorem at8_yes {L t R : List UInt8} {k : Nat} (h : L.drop k = t ++ R) : at8 L t k = true := by rw [at8, h]; exact isPrefixOf_app t R
theorem at8_no {L t T : List UInt8} {k : Nat} (h : L.drop k = T) (hp : t.isPrefixOf T = false) : at8 L t k = false := by rw [at8, h]; exact hp
theorem rSimp_atom {L : List UInt8} {t : Tm} {k : Nat} {R : List UInt8} (ht : t.atom = true) (hL : L.drop k = t.fmt ++ R) (hR : GoodF R) : rSimp L k = some (atomOfF t, k + t.fmt.length) := by
  have hl := drop_le hL
  rw [List.length_append] at hl
  cases atom_cases ht with
  | eq a b ha hb =>
    rw [fmt_eq] at hL hl ⊢
    have e0 : L.drop k = a.fmt ++ (sEq8 ++ (b.fmt ++ R)) := by rw [hL]; simp [List.append_assoc]
    have e1 := drop_adv e0
    have e2 := drop_adv e1
    simp only [List.length_append] at hl
    have h1 := rTerm_ok (L.length + 2) a _ _ ha e0 (by intro c hc; simp [sEq8] at hc; subst hc; decide) (by omega)
    have h2 := rTerm_ok (L.length + 2) b _ _ hb e2 hR.stop (by omega)
    rw [rSimp, h1]
    simp only
    rw [if_pos (at8_yes e1)]
    have h2' : rTerm L (L.length + 2) (k + a.fmt.length + 3) = _ := h2
    rw [h2']
    simp only [List.length_append]
    congr 2
    show k + a.fmt.length + sEq8.length + b.fmt.length = _
    omega
  | pred n us hs hu hd =>
    have h1 := rTerm_ok (L.length + 2) _ _ _ hd hL hR.stop (by omega)
    rw [rSimp, h1]
    simp only
    rw [if_neg (by rw [at8_no (drop_adv hL) hR.noEq]; simp), atomF_of ht]
theorem rSimp_word {L w R : List UInt8} {k : Nat} (hL : L.drop k = w ++ R) (hw : w.all wordC = true) (h0 : w ≠ []) (hR : stopC R) (he : sEq8.isPrefixOf R = false) : rSimp L k = some (atomF (.mk ⟨w.toArray⟩ []), k + w.length) := by
  have e1 := drop_adv hL
  have hw1 : rWordL L k = w := by rw [rWordL, hL, takeWhile_app hw (fun c hc => (hR c hc).1)]
  have hno : L[k + w.length]? ≠ some 40 := by rw [drop_get e1]; intro h; exact (hR 40 h).2 rfl
  rw [rSimp, rTerm, hw1, if_neg (by simpa using h0), if_neg hno]
  simp only
  rw [if_neg (by rw [at8_no e1 he]; simp)]
theorem rSimp_none {L : List UInt8} {c : UInt8} {R : List UInt8} {k : Nat} (hL : L.drop k = c :: R) (hc : wordC c = false) : rSimp L k = none := by
  have hw1 : rWordL L k = [] := by rw [rWordL, hL, List.takeWhile_cons_of_neg]; simp [hc]
  rw [rSimp, rTerm, hw1, if_pos (by rfl)]
theorem atomF_eq {a : Tm} (h : a.n.data.toList ≠ [61]) : ¬ ((atomF a).op = 3 ∧ (atomF a).a.n.data.toList = [61]) := by
  rw [atomF]
  split
  · rintro ⟨h1, _⟩; exact absurd h1 (by decide)
  · split
    · rintro ⟨h1, _⟩; exact absurd h1 (by decide)
    · exact fun h' => h h'.2
/-- What stands ahead of a sign is no equation ahead of a closing bracket. -/
theorem rEqP_no {L : List UInt8} {F : Fm} {k : Nat} {op : Int} {R : List UInt8} (hF : F.form = true) (ho : op = 5 ∨ op = 6 ∨ op = 7) (hL : L.drop k = F.txt ++ (sign8 op ++ R)) : rEqP L (rSimp L k) = false := by
  have hg := good_sign ho R
  have word : ∀ (w T : List UInt8), L.drop k = w ++ T → w.all wordC = true → w ≠ [] → w ≠ [61] → stopC T → sEq8.isPrefixOf T = false → rEqP L (rSimp L k) = false := by
    intro w T hL hw h0 h61 hT he
    rw [rSimp_word hL hw h0 hT he, rEqP]
    have := atomF_eq (a := .mk ⟨w.toArray⟩ []) h61
    cases h1 : ((atomF (.mk ⟨w.toArray⟩ [])).op == 3)
    · rfl
    · cases h2 : ((atomF (.mk ⟨w.toArray⟩ [])).a.n.data.toList == [61])
      · rfl
      · exact absurd ⟨by simpa using h1, by simpa using h2⟩ this
  cases form_cases hF with
  | tru => exact word sTrue8 _ (by rw [hL]; rfl) (by decide) (by decide) (by decide) hg.stop hg.noEq
  | fal => exact word sFalse8 _ (by rw [hL]; rfl) (by decide) (by decide) (by decide) hg.stop hg.noEq
  | atm a ha =>
    rw [txt_atm] at hL
    rw [rSimp_atom ha hL hg, rEqP]
    have : at8 L [41] (k + a.fmt.length) = false := at8_no (drop_adv hL) (by rcases ho with rfl | rfl | rfl <;> rfl)
    rw [this, Bool.and_false]
  | neg g hg' =>
    rw [txt_neg] at hL
    have : ∃ T, L.drop k = 126 :: T := by
      split at hL
      · exact ⟨_, by rw [hL]; rfl⟩
      · exact ⟨_, by rw [hL]; rfl⟩
    obtain ⟨T, hT⟩ := this
    rw [rSimp_none hT (by decide)]; rfl
  | bin op' g h ho' hg' hh =>
    rw [txt_bin ho'] at hL
    rw [rSimp_none (c := 40) (R := g.txt ++ (sign8 op' ++ (h.txt ++ ([41] ++ (sign8 op ++ R))))) (by rw [hL]; simp [List.append_assoc]) (by decide)]; rfl
  | qua op' v g ho' hv hg' =>
    rw [txt_qua ho'] at hL
    have hw := varB_word hv
    obtain ⟨c, v', rfl⟩ : ∃ c r, v = c :: r := by cases v with
      | nil => exact absurd rfl hw.2
      | cons c r => exact ⟨c, r, rfl⟩
    have hc : wordC c = true := by have := hw.1; simp only [List.all_cons, Bool.and_eq_true] at this; exact this.1
    have hne : c ≠ 61 := by rintro rfl; exact absurd hc (by decide)
    have hst : ∀ X, stopC (32 :: X) := by intro X c hc; simp at hc; subst hc; decide
    have hno : ∀ X, sEq8.isPrefixOf (32 :: c :: X) = false := fun X => by simp [sEq8, List.isPrefixOf, hne.symm]
    rcases ho' with rfl | rfl
    · exact word [97, 108, 108] (32 :: c :: (v' ++ ([46] ++ (g.txt ++ (sign8 op ++ R))))) (by rw [hL, if_pos rfl]; simp [sAll8, List.append_assoc]) (by decide) (by decide) (by decide) (hst _) (hno _)
    · exact word [115, 111, 109, 101] (32 :: c :: (v' ++ ([46] ++ (g.txt ++ (sign8 op ++ R))))) (by rw [hL, if_neg (by decide)]; simp [sSome8, List.append_assoc]) (by decide) (by decide) (by decide) (hst _) (hno _)
/-- A formula that is neither in parentheses nor an equation does not begin with a bracket. -/
theorem txt_head {g : Fm} (hg : g.form = true) (hq : g.a.n.data.toList ≠ [61]) (R : List UInt8) : ([40] : List UInt8).isPrefixOf (g.txt ++ R) = false ∨ ∃ op a b, g = opF op [a, b] ∧ (op = 5 ∨ op = 6 ∨ op = 7) ∧ a.form = true ∧ b.form = true := by
  cases form_cases hg with
  | tru => exact .inl rfl
  | fal => exact .inl rfl
  | atm a ha =>
    left
    rw [txt_atm]
    cases atom_cases ha with
    | eq x y hx hy => exact absurd rfl hq
    | pred n us hs hu hd =>
      obtain ⟨m, X, hm, he, hX⟩ := fmt_split hd R
      rw [he]
      have hw : m.all wordC = true ∧ m ≠ [] := by rcases hm with h | h; exact varB_word h; exact symB_word h
      cases m with
      | nil => exact absurd rfl hw.2
      | cons c r =>
        have hc : wordC c = true := by have := hw.1; simp only [List.all_cons, Bool.and_eq_true] at this; exact this.1
        simp only [List.cons_append, List.isPrefixOf, Bool.and_eq_false_iff, beq_eq_false_iff_ne]
        left; rintro rfl; exact absurd hc (by decide)
  | neg g' hg' =>
    left; rw [txt_neg]; split <;> rfl
  | bin op a b ho ha hb => exact .inr ⟨op, a, b, rfl, ho, ha, hb⟩
  | qua op v g' ho hv hg' =>
    left; rw [txt_qua ho]; rcases ho with rfl | rfl <;> rfl
theorem rSign_op {L : List UInt8} {op : Int} {k : Nat} {R : List UInt8} (ho : op = 5 ∨ op = 6 ∨ op = 7) (h : L.drop k = sign8 op ++ R) : rSign L k = op := by
  rcases ho with rfl | rfl | rfl
  · have h : L.drop k = sAnd8 ++ R := h
    rw [rSign, if_pos (at8_yes h)]
  · have h : L.drop k = sOr8 ++ R := h
    rw [rSign, if_neg (by rw [at8_no h (by rfl)]; simp), if_pos (at8_yes h)]
  · have h : L.drop k = sImp8 ++ R := h
    rw [rSign, if_neg (by rw [at8_no h (by rfl)]; simp), if_neg (by rw [at8_no h (by rfl)]; simp), if_pos (at8_yes h)]
theorem some_pr {F : Fm} {m n : Nat} (h : m = n) : some (F, m) = some (F, n) := by rw [h]
mutual
theorem rFrm_ok {L : List UInt8} : ∀ (f : Nat) (F : Fm) (k : Nat) (R : List UInt8), F.form = true → L.drop k = F.txt ++ R → GoodF R → F.txt.length + 2 < f → rFrm L f k = some (F, k + F.txt.length)
  | 0, _, _, _, _, _, _, h => absurd h (by omega)
  | f + 1, F, k, R, hF, hL, hR, hf => by
    cases form_cases hF with
    | tru =>
      have hL' : L.drop k = sTrue8 ++ R := hL
      rw [rFrm, if_neg (by rw [at8_no hL' rfl]; simp), if_neg (by rw [at8_no hL' rfl]; simp), if_neg (by rw [at8_no hL' rfl]; simp), if_neg (by rw [at8_no hL' rfl]; simp), if_neg (by rw [at8_no hL' rfl]; simp), rSimp_word hL' (by decide) (by decide) hR.stop hR.noEq]
      rfl
    | fal =>
      have hL' : L.drop k = sFalse8 ++ R := hL
      rw [rFrm, if_neg (by rw [at8_no hL' rfl]; simp), if_neg (by rw [at8_no hL' rfl]; simp), if_neg (by rw [at8_no hL' rfl]; simp), if_neg (by rw [at8_no hL' rfl]; simp), if_neg (by rw [at8_no hL' rfl]; simp), rSimp_word hL' (by decide) (by decide) hR.stop hR.noEq]
      rfl
    | atm a ha =>
      rw [txt_atm] at hL hf ⊢
      obtain ⟨h1, h2, h3, h4⟩ := atom_noKw8 ha hR
      have h5 : at8 L [126, 40] k = false := by
        rw [Bool.eq_false_iff]; intro h
        have := at8_no hL h3
        rw [at8, List.isPrefixOf_iff_prefix] at h
        rw [at8, Bool.eq_false_iff] at this
        exact this (List.isPrefixOf_iff_prefix.2 (List.IsPrefix.trans ⟨[40], rfl⟩ h))
      rw [rFrm, if_neg (by rw [at8_no hL h1]; simp), if_neg (by rw [at8_no hL h2]; simp), if_neg (by rw [h5]; simp), if_neg (by rw [at8_no hL h3]; simp), if_neg (by rw [at8_no hL h4]; simp), rSimp_atom ha hL hR]
    | neg g hg =>
      rw [txt_neg] at hL hf ⊢
      by_cases hq : g.a.n.data.toList = [61]
      · rw [if_pos hq] at hL hf ⊢
        obtain ⟨a, b, rfl, ha⟩ := eq_form hg hq
        rw [txt_atm] at hL ⊢
        have e0 : L.drop k = [126, 40] ++ ((eqTm a b).fmt ++ ([41] ++ R)) := by rw [hL]; simp [List.append_assoc]
        have e1 := drop_adv e0
        have e2 := drop_adv e1
        have hs := rSimp_atom ha e1 (.close R)
        have hs' : rSimp L (k + 2) = some (atomOfF (eqTm a b), k + 2 + (eqTm a b).fmt.length) := hs
        have hp : rEqP L (rSimp L (k + 2)) = true := by
          rw [hs', rEqP]
          have : at8 L [41] (k + 2 + (eqTm a b).fmt.length) = true := at8_yes e2
          rw [this]; rfl
        rw [rFrm, if_neg (by rw [at8_no e0 rfl]; simp), if_neg (by rw [at8_no e0 rfl]; simp), if_pos (at8_yes e0), if_pos hp, hs']
        exact some_pr (by simp only [List.length_append, List.length_cons, List.length_nil]; omega)
      · rw [if_neg hq] at hL hf ⊢
        have e0 : L.drop k = [126] ++ (g.txt ++ R) := by rw [hL]; simp []
        have e1 := drop_adv e0
        simp only [List.length_append, List.length_cons, List.length_nil] at hf
        have n1 : at8 L sAll8 k = false := at8_no e0 rfl
        have n2 : at8 L sSome8 k = false := at8_no e0 rfl
        rcases txt_head hg hq R with h40 | ⟨op, a, b, rfl, ho, ha, hb⟩
        · have n3 : at8 L [126, 40] k = false := at8_no e0 (by simpa [List.isPrefixOf] using h40)
          have h1 := rFrm_ok f g _ _ hg e1 hR (by omega)
          have h1' : rFrm L f (k + 1) = some (g, k + 1 + g.txt.length) := h1
          rw [rFrm, if_neg (by rw [n1]; simp), if_neg (by rw [n2]; simp), if_neg (by rw [n3]; simp), if_pos (at8_yes e0), h1']
          exact some_pr (by simp only [List.length_append, List.length_cons, List.length_nil]; omega)
        · have e2 := e1
          rw [txt_bin ho] at e2
          have e3 : L.drop k = [126, 40] ++ (a.txt ++ (sign8 op ++ (b.txt ++ ([41] ++ R)))) := by rw [e0, txt_bin ho]; simp [List.append_assoc]
          have e4 := drop_adv e3
          have hp : rEqP L (rSimp L (k + 2)) = false := rEqP_no ha ho e4
          have h1 := rPair_ok f op a b (k + 1) R ho ha hb e1 hR (by omega)
          rw [rFrm, if_neg (by rw [n1]; simp), if_neg (by rw [n2]; simp), if_pos (at8_yes e3), if_neg (by rw [hp]; simp), h1]
          exact some_pr (by simp only [List.length_append, List.length_cons, List.length_nil]; omega)
    | bin op g h ho hg hh =>
      have e0 := hL
      rw [txt_bin ho] at e0
      have e0 : L.drop k = [40] ++ (g.txt ++ (sign8 op ++ (h.txt ++ ([41] ++ R)))) := by rw [e0]; simp [List.append_assoc]
      have h1 := rPair_ok f op g h k R ho hg hh hL hR (by omega)
      rw [rFrm, if_neg (by rw [at8_no e0 rfl]; simp), if_neg (by rw [at8_no e0 rfl]; simp), if_neg (by rw [at8_no e0 rfl]; simp), if_neg (by rw [at8_no e0 rfl]; simp), if_pos (at8_yes e0), h1]
    | qua op v g ho hv hg =>
      rw [txt_qua ho] at hL hf ⊢
      have hw := varB_word hv
      obtain ⟨kw, hkw, hkn⟩ : ∃ kw, (if op = 8 then sAll8 else sSome8) = kw ∧ 0 < kw.length := ⟨_, rfl, by split <;> decide⟩
      rw [hkw] at hL hf ⊢
      have e0 : L.drop k = kw ++ (v ++ ([46] ++ (g.txt ++ R))) := by rw [hL]; simp [List.append_assoc]
      have e1 := drop_adv e0
      have e2 := drop_adv e1
      have e3 := drop_adv e2
      simp only [List.length_append, List.length_cons, List.length_nil] at hf e3
      have hwl : rWordL L (k + kw.length) = v := by rw [rWordL, e1, takeWhile_app hw.1 (by intro c hc; simp at hc; subst hc; decide)]
      have h46 : L[k + kw.length + v.length]? = some 46 := by rw [drop_get e2]; rfl
      obtain ⟨f1, rfl⟩ : ∃ q, f = q + 1 := ⟨f - 1, by omega⟩
      have h3 := rFrm_ok f1 g _ _ hg e3 hR (by omega)
      have hi : rQua L (f1 + 1) op (k + kw.length) = some (quantF op v g, k + kw.length + v.length + 1 + g.txt.length) := by
        rw [rQua, hwl, if_pos h46]
        have h3' : rFrm L f1 (k + kw.length + v.length + 1) = some (g, k + kw.length + v.length + 1 + g.txt.length) := h3
        rw [h3']; rfl
      rcases ho with rfl | rfl
      · obtain rfl : sAll8 = kw := hkw
        have hi' : rQua L (f1 + 1) 8 (k + 4) = _ := hi
        rw [rFrm, if_pos (at8_yes e0), hi']
        exact some_pr (by simp only [List.length_append, List.length_cons, List.length_nil]; omega)
      · obtain rfl : sSome8 = kw := hkw
        have hi' : rQua L (f1 + 1) 9 (k + 5) = _ := hi
        rw [rFrm, if_neg (by rw [at8_no e0 rfl]; simp), if_pos (at8_yes e0), hi']
        exact some_pr (by simp only [List.length_append, List.length_cons, List.length_nil]; omega)
theorem rPair_ok {L : List UInt8} : ∀ (f : Nat) (op : Int) (g h : Fm) (k : Nat) (R : List UInt8), (op = 5 ∨ op = 6 ∨ op = 7) → g.form = true → h.form = true → L.drop k = (opF op [g, h]).txt ++ R → GoodF R → (opF op [g, h]).txt.length + 1 < f → rPair L f k = some (opF op [g, h], k + (opF op [g, h]).txt.length)
  | 0, _, _, _, _, _, _, _, _, _, _, h => absurd h (by omega)
  | f + 1, op, g, h, k, R, ho, hg, hh, hL, hR, hf => by
    rw [txt_bin ho] at hL hf ⊢
    have e0 : L.drop k = [40] ++ (g.txt ++ (sign8 op ++ (h.txt ++ ([41] ++ R)))) := by rw [hL]; simp [List.append_assoc]
    have e1 := drop_adv e0
    have e2 := drop_adv e1
    have e3 := drop_adv e2
    have e4 := drop_adv e3
    simp only [List.length_append, List.length_cons, List.length_nil] at hf
    have h1 := rFrm_ok f g _ _ hg e1 (good_sign ho _) (by omega)
    have h2 := rFrm_ok f h _ _ hh e3 (.close R) (by omega)
    have hs := rSign_op ho e2
    have h41 := drop_get e4
    have h0 : op ≠ 0 := by omega
    have h1' : rFrm L f (k + 1) = some (g, k + 1 + g.txt.length) := h1
    have hs' : rSign L (k + 1 + g.txt.length) = op := hs
    have h2' : rFrm L f (k + 1 + g.txt.length + (sign8 op).length) = some (h, k + 1 + g.txt.length + (sign8 op).length + h.txt.length) := h2
    have h41' : L[k + 1 + g.txt.length + (sign8 op).length + h.txt.length]? = some 41 := h41
    rw [rPair, h1']
    simp only [hs']
    rw [if_neg h0, h2']
    simp only
    rw [if_pos h41']
    exact some_pr (by simp only [List.length_append, List.length_cons, List.length_nil]; omega)
end
end Go.Proofs.YtkgfanajgdelcaaGreatDoor
namespace Go.Proofs.YtkgfanajgdelcaaGreatDoor
open Go.RowKit
theorem pTerm_name (L : List UInt8) : ∀ (f : Nat) (p : PSt), (pTerm L f p).1.n.data.toList.length ≤ L.length
  | 0, p => by rw [pTerm]; simp [Tm.n]
  | f + 1, p => by
    have := pWord_len L p
    rw [pTerm]
    split <;> simpa [Tm.n] using this
end Go.Proofs.YtkgfanajgdelcaaGreatDoor
