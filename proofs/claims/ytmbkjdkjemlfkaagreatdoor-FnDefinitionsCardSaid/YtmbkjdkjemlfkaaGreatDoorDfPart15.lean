import Derived.Shelf.Strings.BuilderF
import Derived.Test.YtmbkjdkjemlfkaaGreatDoorDfPart14
namespace Go.Proofs.YtmbkjdkjemlfkaaGreatDoor
open Go.RowKit
section
variable {va vb v' : Value}
theorem newRow_ne {H b : Nat} {v v' : Value} (hn : NewRow v v' H) (hb : b < H) (hv : v.ownBlock ≠ some b) : v'.ownBlock ≠ some b := fun hg => by
  rcases hn with h | ⟨g, h, hge⟩
  · exact hv (h ▸ hg)
  · rw [h] at hg; injection hg with hg; omega
end
/-! ### An append of what a slice reads -/
def SrcIs (w : World) (size : Nat) (v : Value) (m : Nat) (news : List Value) : Prop :=
  (v = .slice none 0 0 ∧ m = 0 ∧ news = []) ∨ ∃ (b o c : Nat), v = .slice (some ⟨b, o, none⟩) m c ∧ news.length = m * size ∧ ∀ (j : Nat) (u : Value), news[j]? = some u → w.cell? ⟨b, o + j, none⟩ = some u
theorem run_app {P : Program} (w : World) (t ty e : TypeId) (size bytes : Nat) (hE : Elem P t e size bytes) (base : Nat) (v : Value) (n : Nat) (xs : List Value) (hown : w.ownsRow base e size v n xs) (v2 : Value) (m : Nat) (news : List Value) (hsrc : SrcIs w size v2 m news) (h1 : ∀ u ∈ news, u.oneCell' = true)
    (h63 : n + m ≤ maxLen) (hbytes : (n + m) * bytes ≤ 140737488355328) (hbase : base ≤ w.heap.size) :
    ∃ v' w', (Builtin.append_ #[t, t] ty #[v, v2]).run P w = .ok v' w' ∧ w'.ownsRow base e size v' (n + m) (xs ++ news) ∧ w.grownBy w' v.ownBlock ∧ NewRow v v' w.heap.size := by
  obtain ⟨ht, i, z, hi, hz, hsz, hby, hzs, hpos⟩ := hE
  rcases hsrc with ⟨rfl, rfl, rfl⟩ | ⟨b, o, c, rfl, hl, hc⟩
  · refine ⟨v, w, run_append_owned_none (P := P) w base t ty e i size ht hi v n xs hown, by simpa using hown, ⟨rfl, rfl, rfl, Nat.le_refl _, fun _ _ _ => rfl⟩, .inl rfl⟩
  · obtain ⟨v', w', hr, h2, h3, _, h5⟩ := run_append_own_at (P := P) w base t ty e i z size bytes ht hi hz hsz hby hzs hpos v n xs hown ⟨b, o, none⟩ m c news hl (fun j u hu => by
      have : ((⟨b, o, none⟩ : Addr).add j) = ⟨b, o + j, none⟩ := by unfold Addr.add; split <;> simp_all
      rw [this]; exact hc j u hu) h1 h63 hbytes hbase
    refine ⟨v', w', hr, h2, h3, ?_⟩
    rcases h5 with h5 | h5
    · exact .inl h5
    · exact .inr ⟨_, h5, Nat.le_refl _⟩
theorem wpList_app {P : Program} {w : World} {ops : Array Oper} {rest : List Oper} {o : Oper} {a : Act} {Q : Exit → Act → World → Prop} (hgd : o.guard = none) (s x : Operand) (t : TypeId)
    (ho : o.op = .call { callee := .builtin .append, args := #[s, x], argTypes := #[t, t] })
    (base : Nat) (e : TypeId) (size bytes : Nat) (hE : Elem P t e size bytes)
    (v : Value) (n : Nat) (xs : List Value) (hs : a.eval s = v) (v2 : Value) (m : Nat) (news : List Value) (hx : a.eval x = v2) (hsrc : SrcIs w size v2 m news)
    (hown : w.ownsRow base e size v n xs) (h1 : ∀ u ∈ news, u.oneCell' = true) (hbytes : (n + m) * bytes ≤ 140737488355328) (h63 : n + m ≤ maxLen) (hbase : base ≤ w.heap.size)
    (h : ∀ v' w', w'.ownsRow base e size v' (n + m) (xs ++ news) → w.grownBy w' v.ownBlock → NewRow v v' w.heap.size → wpList P ops Q rest (a.put o.dst v') w') : wpList P ops Q (o :: rest) a w := by
  obtain ⟨v', w', hrun, h2, h3, h4⟩ := run_app (P := P) w t o.type e size bytes hE base v n xs hown v2 m news hsrc h1 h63 hbytes hbase
  refine wpList_plain hgd fun _ hK => ?_
  unfold Oper.wp execOp
  simp only [ho, resolve, invoke, builtin, Sem.run_bind, Sem.run_pure, Result.andThen_ok, List.map_toArray, List.map_cons, List.map_nil, hs, hx, hrun]
  exact hK _ _ (h v' w' h2 h3 h4)
theorem each_app {P : Program} {w : World} {o : Oper} {a : Act} {E : Value → World → Prop} (s x : Operand) (t : TypeId) (ho : o.op = .call { callee := .builtin .append, args := #[s, x], argTypes := #[t, t] })
    (base : Nat) (e : TypeId) (size bytes : Nat) (hE : Elem P t e size bytes)
    (v : Value) (n : Nat) (xs : List Value) (hs : a.eval s = v) (v2 : Value) (m : Nat) (news : List Value) (hx : a.eval x = v2) (hsrc : SrcIs w size v2 m news)
    (hown : w.ownsRow base e size v n xs) (h1 : ∀ u ∈ news, u.oneCell' = true) (hbytes : (n + m) * bytes ≤ 140737488355328) (h63 : n + m ≤ maxLen) (hbase : base ≤ w.heap.size)
    (h : ∀ v' w', w'.ownsRow base e size v' (n + m) (xs ++ news) → w.grownBy w' v.ownBlock → NewRow v v' w.heap.size → E v' w') : eachUpon P E ((execOp a.eval o).run P w) := by
  obtain ⟨v', w', hrun, h2, h3, h4⟩ := run_app (P := P) w t o.type e size bytes hE base v n xs hown v2 m news hsrc h1 h63 hbytes hbase
  unfold execOp
  simp only [ho, resolve, invoke, builtin, Sem.run_bind, Sem.run_pure, Result.andThen_ok, List.map_toArray, List.map_cons, List.map_nil, hs, hx, hrun]
  exact h v' w' h2 h3 h4
theorem src_head {w : World} {base : Nat} {e : TypeId} {size n c k : Nat} {g : Nat} {xs : List Value} (h : w.ownsRow base e size (.slice (some ⟨g, 0, none⟩) n c) n xs) (hk : k ≤ n) (c' : Nat) : SrcIs w size (.slice (some ⟨g, 0, none⟩) k c') k (xs.take (k * size)) := by
  have hks : k * size ≤ n * size := Nat.mul_le_mul_right _ hk
  refine .inr ⟨g, 0, c', rfl, by rw [List.length_take, h.1]; omega, fun j u hu => ?_⟩
  rw [List.getElem?_take] at hu
  split at hu
  · rw [Nat.zero_add, h.cellAt j (by omega)]; exact hu
  · cases hu
theorem src_tail {w : World} {base : Nat} {e : TypeId} {size n c k : Nat} {g : Nat} {xs : List Value} (h : w.ownsRow base e size (.slice (some ⟨g, 0, none⟩) n c) n xs) (hk : k ≤ n) (c' : Nat) : SrcIs w size (.slice (some ⟨g, k * size, none⟩) (n - k) c') (n - k) (xs.drop (k * size)) := by
  have hks : k * size ≤ n * size := Nat.mul_le_mul_right _ hk
  refine .inr ⟨g, k * size, c', rfl, by rw [List.length_drop, h.1, Nat.sub_mul], fun j u hu => ?_⟩
  rw [List.getElem?_drop] at hu
  have hlt : k * size + j < xs.length := (List.getElem?_eq_some_iff.1 hu).1
  rw [h.cellAt _ (by rw [← h.1]; exact hlt)]; exact hu
theorem src_block {w : World} {size q : Nat} {cs : Array Value} {e : TypeId} (h : w.heap[q]? = some (.cells cs e (0, 0))) (hs : cs.size = size) : SrcIs w size (.slice (some ⟨q, 0, none⟩) 1 1) 1 cs.toList := by
  refine .inr ⟨q, 0, 1, rfl, by rw [Array.length_toList]; omega, fun j u hu => ?_⟩
  rw [Nat.zero_add, cell_of_row w q j cs e (0, 0) h]
  simpa using hu
theorem srcNil {w : World} {size g o c m : Nat} (hm : m = 0) : SrcIs w size (.slice (some ⟨g, o, none⟩) 0 c) m [] := by
  subst hm
  exact .inr ⟨g, o, c, rfl, by simp, fun j u h => by simp at h⟩
theorem SrcIs.below {w w' : World} {size m : Nat} {v : Value} {news : List Value} (h : SrcIs w size v m news) (hb : Below w.heap.size w w') : SrcIs w' size v m news := by
  rcases h with h | ⟨b, o, c, h1, h2, h3⟩
  · exact .inl h
  · exact .inr ⟨b, o, c, h1, h2, fun j u hu => (hb.cell (World.block_lt_of_cell? w _ (h3 j u hu))).trans (h3 j u hu)⟩
/-! ### Units with rows of their own -/
theorem after_eq {o : Oper} {u u' : Nat → Value} {p : Nat} (hu : ∀ e ∈ o.after, Region.binds .any e = true → u' e.on = u e.on) (h : (o.after.any fun e => Region.binds .any e && e.on == p) = true) : u' p = u p := by
  obtain ⟨e, he1, he2⟩ := Array.any_eq_true'.1 h
  simp only [Bool.and_eq_true, beq_iff_eq] at he2
  rw [← he2.2]; exact hu e he1 he2.1
theorem after_behind {o : Oper} {L : Array Bool} {p : Nat} (hb : Behind .any o L) (h : (o.after.any fun e => Region.binds .any e && e.on == p) = true) : L.getD p false = true := by
  obtain ⟨e, he1, he2⟩ := Array.any_eq_true'.1 h
  simp only [Bool.and_eq_true, beq_iff_eq] at he2
  rw [← he2.2]; exact hb e he1 he2.1
theorem getD_now {L : Array Bool} {k : Nat} (h : L.getD k true = false) : (L.setIfInBounds k true).getD k false = true := by
  have hlt : k < L.size := by
    rcases Nat.lt_or_ge k L.size with h' | h'
    · exact h'
    · simp [Array.getElem?_eq_none h'] at h
  simp [hlt]
structure InsD (e : TypeId) (sz : Nat) (W : World) (i n : Nat) (A B : List Value) (cs : Array Value) (u : Nat → Value) (L : Array Bool) (w : World) : Prop where
  bel : Below W.heap.size W w
  o4 : L.getD 4 false = true → L.getD 0 false = true
  o7 : L.getD 7 false = true → L.getD 4 false = true ∧ L.getD 6 false = true
  o11 : L.getD 11 false = true → L.getD 7 false = true
  o12 : L.getD 12 false = true → L.getD 11 false = true
  r0 : L.getD 0 false = true → L.getD 4 false = false → w.ownsRow W.heap.size e sz (u 0) 0 []
  r4 : L.getD 4 false = true → L.getD 7 false = false → w.ownsRow W.heap.size e sz (u 4) i A
  r6 : L.getD 6 false = true → L.getD 7 false = false → ∃ g, u 6 = .slice (some ⟨g, 0, none⟩) 1 1 ∧ w.heap[g]? = some (.cells cs e (0, 0)) ∧ (L.getD 0 false = true → L.getD 4 false = false → (u 0).ownBlock ≠ some g) ∧ (L.getD 4 false = true → (u 4).ownBlock ≠ some g)
  r7 : L.getD 7 false = true → L.getD 11 false = false → w.ownsRow W.heap.size e sz (u 7) (i + 1) (A ++ cs.toList)
  r11 : L.getD 11 false = true → w.ownsRow W.heap.size e sz (u 11) n (A ++ cs.toList ++ B)
  r12 : L.getD 12 false = true → u 12 = u 11
section
variable {e : TypeId} {sz : Nat} {W w w' : World} {i n : Nat} {A B : List Value} {cs : Array Value} {u : Nat → Value} {L : Array Bool} {v' : Value}
theorem InsD.start (hL : ∀ i, L.getD i false = false) : InsD e sz W i n A B cs (fun _ => undef) L W.drew := by
  refine ⟨(Below.refl _ _).drew, ?_, ?_, ?_, ?_, ?_, ?_, ?_, ?_, ?_, ?_⟩ <;> (intro h; exact absurd h (by rw [hL]; decide))
theorem InsD.other (h : InsD e sz W i n A B cs u L w) (k : Nat) (hk : k ∉ [0, 4, 6, 7, 11, 12]) : InsD e sz W i n A B cs u (L.setIfInBounds k true) w := by
  simp only [List.mem_cons, List.not_mem_nil, or_false, not_or] at hk
  obtain ⟨k0, k4, k6, k7, k11, k12⟩ := hk
  obtain ⟨h1, h2, h3, h4, h5, h6, h7, h8, h9, h10, h11⟩ := h
  refine ⟨h1, ?_, ?_, ?_, ?_, ?_, ?_, ?_, ?_, ?_, ?_⟩ <;> simp only [getD_set_ne false k0, getD_set_ne false k4, getD_set_ne false k6, getD_set_ne false k7, getD_set_ne false k11, getD_set_ne false k12] <;> assumption
theorem InsD.b0 (h : InsD e sz W i n A B cs u L w) (hun : L.getD 0 true = false) : InsD e sz W i n A B cs (upd u 0 (.slice (some ⟨w.heap.size, 0, none⟩) 0 0)) (L.setIfInBounds 0 true) (w.alloc (.cells #[] e)) := by
  have hb := (Below.refl w.heap.size w).alloc (Nat.le_refl _) (.cells #[] e)
  have hn := getD_tf hun
  obtain ⟨h1, h2, h3, h4, h5, h6, h7, h8, h9, h10, h11⟩ := h
  refine ⟨h1.alloc h1.size _, ?_, ?_, ?_, ?_, ?_, ?_, ?_, ?_, ?_, ?_⟩ <;> simp only [getD_set_ne false (show (0 : Nat) ≠ 4 by decide), getD_set_ne false (show (0 : Nat) ≠ 6 by decide), getD_set_ne false (show (0 : Nat) ≠ 7 by decide), getD_set_ne false (show (0 : Nat) ≠ 11 by decide), getD_set_ne false (show (0 : Nat) ≠ 12 by decide), getD_now hun, upd_same, upd_other u _ (show (4 : Nat) ≠ 0 by decide), upd_other u _ (show (6 : Nat) ≠ 0 by decide), upd_other u _ (show (7 : Nat) ≠ 0 by decide), upd_other u _ (show (11 : Nat) ≠ 0 by decide), upd_other u _ (show (12 : Nat) ≠ 0 by decide)]
  · intro _; trivial
  · exact h3
  · exact h4
  · exact h5
  · intro _ _; exact row_empty w _ e sz h1.size
  · intro a b; exact own_below (h7 a b) hb
  · intro a b
    obtain ⟨g, e1, e2, e3, e4⟩ := h8 a b
    have hg := blk_lt e2
    exact ⟨g, e1, (hb.block g hg).trans e2, fun _ _ => by simp only [Value.ownBlock, ne_eq, Option.some.injEq]; omega, e4⟩
  · intro a b; exact own_below (h9 a b) hb
  · intro a; exact own_below (h10 a) hb
  · exact h11
theorem InsD.a4 (h : InsD e sz W i n A B cs u L w) (hun : L.getD 4 true = false) (h0 : L.getD 0 false = true) (hr : w'.ownsRow W.heap.size e sz v' (0 + i) ([] ++ A)) (hg : w.grownBy w' (u 0).ownBlock) (hnr : NewRow (u 0) v' w.heap.size) : InsD e sz W i n A B cs (upd u 4 v') (L.setIfInBounds 4 true) w' := by
  have hn := getD_tf hun
  obtain ⟨h1, h2, h3, h4, h5, h6, h7, h8, h9, h10, h11⟩ := h
  have n7 : L.getD 7 false = false := by
    cases h' : L.getD 7 false with
    | false => rfl
    | true => have := (h3 h').1; rw [hn] at this; cases this
  have n11 : L.getD 11 false = false := by
    cases h' : L.getD 11 false with
    | false => rfl
    | true => have := h4 h'; rw [n7] at this; cases this
  have n12 : L.getD 12 false = false := by
    cases h' : L.getD 12 false with
    | false => rfl
    | true => have := h5 h'; rw [n11] at this; cases this
  have ho := h6 h0 hn
  rw [Nat.zero_add, List.nil_append] at hr
  refine ⟨h1.grown hg h1.size (fun k hk => own_base ho k hk), ?_, ?_, ?_, ?_, ?_, ?_, ?_, ?_, ?_, ?_⟩ <;> simp only [getD_set_ne false (show (4 : Nat) ≠ 0 by decide), getD_set_ne false (show (4 : Nat) ≠ 6 by decide), getD_set_ne false (show (4 : Nat) ≠ 7 by decide), getD_set_ne false (show (4 : Nat) ≠ 11 by decide), getD_set_ne false (show (4 : Nat) ≠ 12 by decide), getD_now hun, n7, n11, n12, upd_same, upd_other u _ (show (0 : Nat) ≠ 4 by decide), upd_other u _ (show (6 : Nat) ≠ 4 by decide), upd_other u _ (show (7 : Nat) ≠ 4 by decide), upd_other u _ (show (11 : Nat) ≠ 4 by decide), upd_other u _ (show (12 : Nat) ≠ 4 by decide)]
  · intro _; exact h0
  · intro h; cases h
  · intro h; cases h
  · intro h; cases h
  · intro _ h; cases h
  · intro _ _; exact hr
  · intro a _
    obtain ⟨g, e1, e2, e3, e4⟩ := h8 a n7
    have hgl := blk_lt e2
    refine ⟨g, e1, (hg.block g hgl (fun e => e3 h0 hn e.symm)).trans e2, fun _ h => (by cases h), fun _ => newRow_ne hnr hgl (e3 h0 hn)⟩
  · intro h; cases h
  · intro h; cases h
  · intro h; cases h
theorem InsD.b6 (h : InsD e sz W i n A B cs u L w) (hun : L.getD 6 true = false) : InsD e sz W i n A B cs (upd u 6 (.slice (some ⟨w.heap.size, 0, none⟩) 1 1)) (L.setIfInBounds 6 true) (w.alloc (.cells cs e)) := by
  have hb := (Below.refl w.heap.size w).alloc (Nat.le_refl _) (.cells cs e)
  have hn := getD_tf hun
  obtain ⟨h1, h2, h3, h4, h5, h6, h7, h8, h9, h10, h11⟩ := h
  have n7 : L.getD 7 false = false := by
    cases h' : L.getD 7 false with
    | false => rfl
    | true => have := (h3 h').2; rw [hn] at this; cases this
  refine ⟨h1.alloc h1.size _, ?_, ?_, ?_, ?_, ?_, ?_, ?_, ?_, ?_, ?_⟩ <;> simp only [getD_set_ne false (show (6 : Nat) ≠ 4 by decide), getD_set_ne false (show (6 : Nat) ≠ 0 by decide), getD_set_ne false (show (6 : Nat) ≠ 7 by decide), getD_set_ne false (show (6 : Nat) ≠ 11 by decide), getD_set_ne false (show (6 : Nat) ≠ 12 by decide), getD_now hun, upd_same, upd_other u _ (show (4 : Nat) ≠ 6 by decide), upd_other u _ (show (0 : Nat) ≠ 6 by decide), upd_other u _ (show (7 : Nat) ≠ 6 by decide), upd_other u _ (show (11 : Nat) ≠ 6 by decide), upd_other u _ (show (12 : Nat) ≠ 6 by decide)]
  · exact h2
  · intro h; rw [n7] at h; cases h
  · exact h4
  · exact h5
  · intro a b; exact own_below (h6 a b) hb
  · intro a b; exact own_below (h7 a b) hb
  · intro _ _
    exact ⟨_, rfl, heap_alloc_new w _, fun a b => (fun e => by have := own_lt' (h6 a b) e; omega), fun a => (fun e => by have := own_lt' (h7 a n7) e; omega)⟩
  · intro a b; exact own_below (h9 a b) hb
  · intro a; exact own_below (h10 a) hb
  · exact h11
theorem InsD.a7 (h : InsD e sz W i n A B cs u L w) (hun : L.getD 7 true = false) (k4 : L.getD 4 false = true) (k6 : L.getD 6 false = true) (hr : w'.ownsRow W.heap.size e sz v' (i + 1) (A ++ cs.toList)) (hg : w.grownBy w' (u 4).ownBlock) : InsD e sz W i n A B cs (upd u 7 v') (L.setIfInBounds 7 true) w' := by
  have hn := getD_tf hun
  obtain ⟨h1, h2, h3, h4, h5, h6, h7, h8, h9, h10, h11⟩ := h
  have n11 : L.getD 11 false = false := by
    cases h' : L.getD 11 false with
    | false => rfl
    | true => have := h4 h'; rw [hn] at this; cases this
  have n12 : L.getD 12 false = false := by
    cases h' : L.getD 12 false with
    | false => rfl
    | true => have := h5 h'; rw [n11] at this; cases this
  have ho := h7 k4 hn
  refine ⟨h1.grown hg h1.size (fun k hk => own_base ho k hk), ?_, ?_, ?_, ?_, ?_, ?_, ?_, ?_, ?_, ?_⟩ <;> simp only [getD_set_ne false (show (7 : Nat) ≠ 0 by decide), getD_set_ne false (show (7 : Nat) ≠ 6 by decide), getD_set_ne false (show (7 : Nat) ≠ 4 by decide), getD_set_ne false (show (7 : Nat) ≠ 11 by decide), getD_set_ne false (show (7 : Nat) ≠ 12 by decide), getD_now hun, n11, n12, k4, k6, upd_same, upd_other u _ (show (0 : Nat) ≠ 7 by decide), upd_other u _ (show (6 : Nat) ≠ 7 by decide), upd_other u _ (show (4 : Nat) ≠ 7 by decide), upd_other u _ (show (11 : Nat) ≠ 7 by decide), upd_other u _ (show (12 : Nat) ≠ 7 by decide)]
  · intro _; exact h2 k4
  · intro _; exact ⟨trivial, trivial⟩
  · intro h; cases h
  · intro h; cases h
  · intro _ h; cases h
  · intro _ h; cases h
  · intro _ h; cases h
  · intro _ _; exact hr
  · intro h; cases h
  · intro h; cases h
theorem InsD.a11 (h : InsD e sz W i n A B cs u L w) (hun : L.getD 11 true = false) (k7 : L.getD 7 false = true) (hr : w'.ownsRow W.heap.size e sz v' n (A ++ cs.toList ++ B)) (hg : w.grownBy w' (u 7).ownBlock) : InsD e sz W i n A B cs (upd u 11 v') (L.setIfInBounds 11 true) w' := by
  have hn := getD_tf hun
  obtain ⟨h1, h2, h3, h4, h5, h6, h7, h8, h9, h10, h11⟩ := h
  have n12 : L.getD 12 false = false := by
    cases h' : L.getD 12 false with
    | false => rfl
    | true => have := h5 h'; rw [hn] at this; cases this
  have ho := h9 k7 hn
  obtain ⟨k4, k6⟩ := h3 k7
  refine ⟨h1.grown hg h1.size (fun k hk => own_base ho k hk), ?_, ?_, ?_, ?_, ?_, ?_, ?_, ?_, ?_, ?_⟩ <;> simp only [getD_set_ne false (show (11 : Nat) ≠ 0 by decide), getD_set_ne false (show (11 : Nat) ≠ 6 by decide), getD_set_ne false (show (11 : Nat) ≠ 4 by decide), getD_set_ne false (show (11 : Nat) ≠ 7 by decide), getD_set_ne false (show (11 : Nat) ≠ 12 by decide), getD_now hun, n12, k4, k6, k7, upd_same, upd_other u _ (show (0 : Nat) ≠ 11 by decide), upd_other u _ (show (6 : Nat) ≠ 11 by decide), upd_other u _ (show (4 : Nat) ≠ 11 by decide), upd_other u _ (show (7 : Nat) ≠ 11 by decide), upd_other u _ (show (12 : Nat) ≠ 11 by decide)]
  · intro _; exact h2 k4
  · intro _; exact ⟨trivial, trivial⟩
  · intro _; trivial
  · intro h; cases h
  · intro _ h; cases h
  · intro _ h; cases h
  · intro _ h; cases h
  · intro _ h; cases h
  · intro _; exact hr
  · intro h; cases h
theorem InsD.m12 (h : InsD e sz W i n A B cs u L w) (hun : L.getD 12 true = false) (k11 : L.getD 11 false = true) : InsD e sz W i n A B cs (upd u 12 (u 11)) (L.setIfInBounds 12 true) w := by
  obtain ⟨h1, h2, h3, h4, h5, h6, h7, h8, h9, h10, h11⟩ := h
  refine ⟨h1, ?_, ?_, ?_, ?_, ?_, ?_, ?_, ?_, ?_, ?_⟩ <;> simp only [getD_set_ne false (show (12 : Nat) ≠ 0 by decide), getD_set_ne false (show (12 : Nat) ≠ 6 by decide), getD_set_ne false (show (12 : Nat) ≠ 4 by decide), getD_set_ne false (show (12 : Nat) ≠ 7 by decide), getD_set_ne false (show (12 : Nat) ≠ 11 by decide), getD_now hun, upd_same, upd_other u _ (show (0 : Nat) ≠ 12 by decide), upd_other u _ (show (6 : Nat) ≠ 12 by decide), upd_other u _ (show (4 : Nat) ≠ 12 by decide), upd_other u _ (show (7 : Nat) ≠ 12 by decide), upd_other u _ (show (11 : Nat) ≠ 12 by decide)] <;> first | assumption | (intro _; first | exact k11 | trivial)
end
theorem own_slice {w : World} {base n size : Nat} {e : TypeId} {v : Value} {xs : List Value} (h : w.ownsRow base e size v n xs) : ∃ p c, v = .slice p n c := by
  rcases h.2 with ⟨rfl, h0⟩ | ⟨g, cap, cur, rfl, _⟩
  · exact ⟨none, 0, by rw [h0]⟩
  · exact ⟨_, _, rfl⟩
theorem cellQ {w w' : World} {a : Addr} {v : Value} (hb : Below w.heap.size w w') (h : w.cell? a = some v) : w'.cell? a = some v := (hb.cell (World.block_lt_of_cell? w _ h)).trans h
structure FC where
  f : Fm
  p : Option Addr
  c : Nat
  q : Option Addr
  d : Nat
def FC.cs (x : FC) : List Value := [.int .i64 x.f.op, .string x.f.a.n, .slice x.p x.f.a.us.length x.c, .string x.f.v, .slice x.q x.f.ps.length x.d]
def flatF (D : List FC) : List Value := D.flatMap FC.cs
theorem flatF_len : ∀ D : List FC, (flatF D).length = D.length * 5
  | [] => rfl
  | x :: D => by
    have := flatF_len D
    rw [flatF] at this
    rw [flatF, List.flatMap_cons, List.length_append, this, List.length_cons]
    show 5 + D.length * 5 = _; omega
theorem flatF_app (A B : List FC) : flatF (A ++ B) = flatF A ++ flatF B := by simp [flatF]
theorem flatF_at {D : List FC} {k : Nat} {y : FC} (h : D[k]? = some y) {i : Nat} (hi : i < 5) : (flatF D)[k * 5 + i]? = y.cs[i]? := by
  obtain ⟨hk, hy⟩ := List.getElem?_eq_some_iff.1 h
  have e : D = D.take k ++ y :: D.drop (k + 1) := by rw [← hy, ← List.drop_eq_getElem_cons hk, List.take_append_drop]
  have hl : (flatF (D.take k)).length = k * 5 := by rw [flatF_len, List.length_take]; congr 1; omega
  rw [e, flatF_app, List.getElem?_append_right (by omega), hl, Nat.add_sub_cancel_left]
  rw [flatF, List.flatMap_cons, List.getElem?_append_left (by show i < 5; exact hi)]
theorem rowF_cell {w : World} {base n c : Nat} {e : TypeId} {p : Option Addr} {D : List FC} (h : w.ownsRow base e 5 (.slice p n c) n (flatF D)) (h0 : 0 < n) : ∃ g, p = some ⟨g, 0, none⟩ ∧ base ≤ g ∧ g < w.heap.size ∧ (∀ j, w.frozen? ⟨g, j, none⟩ = false) ∧
    ∀ (k : Nat) (y : FC), D[k]? = some y → w.cell? ⟨g, k * 5, none⟩ = some (.int .i64 y.f.op) ∧ w.cell? ⟨g, k * 5 + 1, none⟩ = some (.string y.f.a.n) ∧ w.cell? ⟨g, k * 5 + 2, none⟩ = some (.slice y.p y.f.a.us.length y.c) ∧ w.cell? ⟨g, k * 5 + 3, none⟩ = some (.string y.f.v) ∧ w.cell? ⟨g, k * 5 + 4, none⟩ = some (.slice y.q y.f.ps.length y.d) := by
  rcases h.2 with ⟨hv, h1⟩ | ⟨g, cap, cur, hv, h1, h2, h3, h4, h5, h6⟩
  · omega
  · simp only [Value.slice.injEq, true_and] at hv
    obtain ⟨rfl, rfl⟩ := hv
    refine ⟨g, rfl, h1, blk_lt h2, fun j => frozen_of_row w g j _ _ h2, fun k y hy => ?_⟩
    have key : ∀ i, i < 5 → w.cell? ⟨g, k * 5 + i, none⟩ = y.cs[i]? := fun i hi => by
      rw [cell_of_row w g (k * 5 + i) cur _ (0, 0) h2]
      have hk := flatF_at hy hi
      rw [← h6, List.getElem?_take] at hk
      split at hk
      · simpa using hk
      · rw [List.getElem?_eq_getElem (by show i < 5; exact hi)] at hk; cases hk
    exact ⟨key 0 (by omega), key 1 (by omega), key 2 (by omega), key 3 (by omega), key 4 (by omega)⟩
structure FsC (T : TypeId) (m base k : Nat) (X : Nat → Prop) (v : Value) (D : List FC) (w : World) : Prop where
  row : w.ownsRow base T 5 v D.length (flatF D)
  each : ∀ x ∈ D, FmAt (fun b => X b ∧ b < w.heap.size ∧ b ≠ k ∧ v.ownBlock ≠ some b) m w x.f x.cs
  nk : v.ownBlock ≠ some k
  len : D.length ≤ 1000000
section
variable {T : TypeId} {m base k : Nat} {X : Nat → Prop} {v v' : Value} {D : List FC} {w w' : World}
theorem FsC.keep (h : FsC T m base k X v D w) (hk : ∀ b, X b ∨ base ≤ b → b < w.heap.size → w'.heap[b]? = w.heap[b]?) (hz : w.heap.size ≤ w'.heap.size) : FsC T m base k X v D w' := by
  refine ⟨own_same h.row (fun b hb2 hlt => hk b (.inr (own_base h.row b hb2)) hlt), fun x hx => ?_, h.nk, h.len⟩
  exact FmAt.mono (fun b hb2 hlt => hk b (.inl hb2.1) hlt) (fun b hb2 => ⟨hb2.1, by have := hb2.2.1; omega, hb2.2.2⟩) _ _ _ _ (Nat.le_refl _) (h.each x hx)
theorem FsC.none (_hw : True) : FsC T m base k X (.slice none 0 0) [] w := ⟨⟨by simp [flatF], .inl ⟨rfl, rfl⟩⟩, fun x hx => by simp at hx, by simp [Value.ownBlock], by simp⟩
theorem FsC.at_ (h : FsC T m base k X v D w) : ListAt (fun b => b < w.heap.size ∧ (X b ∨ base ≤ b) ∧ b ≠ k) w 5 (FmAt (fun b => b < w.heap.size ∧ (X b ∨ base ≤ b) ∧ b ≠ k) m w) v (D.map (·.f)) := by
  obtain ⟨p, c, rfl⟩ := own_slice h.row
  have hlen := h.len
  refine ⟨p, c, by rw [List.length_map], by rw [List.length_map]; unfold maxLen; omega, fun i x hx => ?_⟩
  rw [List.getElem?_map] at hx
  cases hy : D[i]? with
  | none => rw [hy] at hx; cases hx
  | some y =>
    rw [hy] at hx
    obtain rfl : y.f = x := Option.some.inj hx
    have hi := (List.getElem?_eq_some_iff.1 hy).1
    obtain ⟨g, e, h1, h2, -, h3⟩ := rowF_cell h.row (by omega)
    obtain ⟨c0, c1, c2, c3, c4⟩ := h3 i y hy
    have hgk : g ≠ k := fun e' => h.nk (by rw [e, e']; rfl)
    refine ⟨g, 0, e, ⟨h2, .inr h1, hgk⟩, y.cs, rfl, fun j hj => ?_, FmAt.mono (SameOn.refl _ _) (fun b hb => ⟨hb.2.1, .inl hb.1, hb.2.2.1⟩) _ _ _ _ (Nat.le_refl _) (h.each y (List.mem_of_getElem? hy))⟩
    match j, hj with
    | 0, _ => rw [Nat.zero_add, Nat.add_zero]; exact c0
    | 1, _ => rw [Nat.zero_add]; exact c1
    | 2, _ => rw [Nat.zero_add]; exact c2
    | 3, _ => rw [Nat.zero_add]; exact c3
    | 4, _ => rw [Nat.zero_add]; exact c4
theorem FsC.sc (h : FsC T m base k X v D w) {a : Addr} (ha : a.block = k ∨ (¬ X a.block ∧ a.block < base)) (u : Value) : FsC T m base k X v D (w.setCell a u) := by
  refine ⟨own_same h.row (fun b hb _ => heap_setCell_other w a b u (fun e => ?_)), fun x hx => ?_, h.nk, h.len⟩
  · rcases ha with ha | ha
    · exact h.nk (by rw [hb, e, ha])
    · have := own_base h.row b hb; omega
  · exact FmAt.mono (fun b hb _ => heap_setCell_other w a b u (fun e => by
      rcases ha with ha | ha
      · exact hb.2.2.1 (by omega)
      · exact ha.1 (e ▸ hb.1))) (fun b hb => ⟨hb.1, by simpa using hb.2.1, hb.2.2⟩) _ _ _ _ (Nat.le_refl _) (h.each x hx)
theorem FsC.snoc {x : FC} {w3 : World} (h : FsC T m base k X v D w) (hx : FmAt (fun b => X b ∧ b < w.heap.size ∧ b ≠ k ∧ v.ownBlock ≠ some b) m w x.f x.cs) (hg : w.grownBy w3 v.ownBlock) (hr : w3.ownsRow base T 5 v' (D.length + 1) (flatF D ++ x.cs)) (hnr : NewRow v v' w.heap.size) (hl : D.length + 1 ≤ 1000000) (hk : k < w.heap.size) : FsC T m base k X v' (D ++ [x]) w3 := by
  have hz := hg.size
  have key : ∀ b, X b ∧ b < w.heap.size ∧ b ≠ k ∧ v.ownBlock ≠ some b → X b ∧ b < w3.heap.size ∧ b ≠ k ∧ v'.ownBlock ≠ some b := fun b ⟨h1, h2, h4, h3⟩ => ⟨h1, by omega, h4, by
    rcases hnr with e | ⟨b', e, hge⟩
    · rw [e]; exact h3
    · rw [e]; intro e2; injection e2 with e2; omega⟩
  have same : SameOn (fun b => X b ∧ b < w.heap.size ∧ b ≠ k ∧ v.ownBlock ≠ some b) w w3 := fun b hb hlt => hg.block b hlt (fun e => hb.2.2.2 e.symm)
  refine ⟨by rw [List.length_append, flatF_app]; simpa [flatF] using hr, fun y hy => ?_, ?_, by rw [List.length_append]; exact hl⟩
  · rcases List.mem_append.1 hy with hy | hy
    · exact FmAt.mono same key _ _ _ _ (Nat.le_refl _) (h.each y hy)
    · obtain rfl : y = x := by simpa using hy
      exact FmAt.mono same key _ _ _ _ (Nat.le_refl _) hx
  · rcases hnr with e | ⟨b', e, hge⟩
    · rw [e]; exact h.nk
    · rw [e]; intro e2; injection e2 with e2; omega
structure FOx (T : TypeId) (m base k : Nat) (X : Nat → Prop) (h0 h1 h2 h3 v : Value) (D : List FC) (w : World) : Prop where
  box : w.heap[k]? = some (.cells #[h0, h1, h2, h3, v] T (0, 0))
  ls : FsC T m base k X v D w
  lt : base ≤ k
variable {h0 h1 h2 h3 : Value}
theorem FOx.cells (h : FOx T m base k X h0 h1 h2 h3 v D w) : w.cell? ⟨k, 0, none⟩ = some h0 ∧ w.cell? ⟨k, 1, none⟩ = some h1 ∧ w.cell? ⟨k, 2, none⟩ = some h2 ∧ w.cell? ⟨k, 3, none⟩ = some h3 ∧ w.cell? ⟨k, 4, none⟩ = some v ∧ (∀ j, w.frozen? ⟨k, j, none⟩ = false) ∧ k < w.heap.size := by
  refine ⟨?_, ?_, ?_, ?_, ?_, fun j => frozen_of_row w k j _ _ h.box, blk_lt h.box⟩
  · rw [cell_of_row w k 0 _ _ (0, 0) h.box]; rfl
  · rw [cell_of_row w k 1 _ _ (0, 0) h.box]; rfl
  · rw [cell_of_row w k 2 _ _ (0, 0) h.box]; rfl
  · rw [cell_of_row w k 3 _ _ (0, 0) h.box]; rfl
  · rw [cell_of_row w k 4 _ _ (0, 0) h.box]; rfl
theorem FOx.app {W1 w3 : World} {x : FC} (h : FOx T m base k X h0 h1 h2 h3 v D w) (hk : ∀ b, X b ∨ base ≤ b → b < w.heap.size → W1.heap[b]? = w.heap[b]?) (hz : w.heap.size ≤ W1.heap.size) (hx : FmAt (fun b => X b ∧ b < W1.heap.size ∧ b ≠ k ∧ v.ownBlock ≠ some b) m W1 x.f x.cs)
    (happ : ∀ b xs, W1.ownsRow b T 5 v D.length xs → b ≤ W1.heap.size → w3.ownsRow b T 5 v' (D.length + 1) (xs ++ x.cs)) (hg3 : W1.grownBy w3 v.ownBlock) (hnr : NewRow v v' W1.heap.size) (hl : D.length + 1 ≤ 1000000) : FOx T m base k X h0 h1 h2 h3 v' (D ++ [x]) (w3.setCell ⟨k, 4, none⟩ v') := by
  have hkk := blk_lt h.box
  have hlk := h.lt
  have h1' := h.ls.keep hk hz
  have h3' := h1'.snoc (v' := v') hx hg3 (happ _ _ h1'.row (by omega)) hnr hl (by omega)
  refine ⟨?_, h3'.sc (.inl rfl) _, hlk⟩
  have hb3 : w3.heap[k]? = _ := (hg3.block k (by omega) (fun e => h.ls.nk e.symm)).trans ((hk k (.inr hlk) hkk).trans h.box)
  have := heap_setCell_same w3 k 4 _ _ v' hb3
  simpa using this
end
end Go.Proofs.YtmbkjdkjemlfkaaGreatDoor
