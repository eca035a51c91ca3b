import Derived.Shelf.Strings.BuilderF
import Derived.Test.YtkgfanajgdelcaaGreatEnPart36
namespace Go.Proofs.YtkgfanajgdelcaaGreat
open Go.RowKit
section
variable {va vb v' : Value}
theorem newRow_ne {H b : Nat} {v v' : Value} (hn : NewRow v v' H) (hb : b < H) (hv : v.ownBlock ≠ some b) : v'.ownBlock ≠ some b := fun hg => by
  rcases hn with h | ⟨g, h, hge⟩
  · exact hv (h ▸ hg)
  · rw [h] at hg; injection hg with hg; omega
end
/-! ### An append of what a slice reads -/
def SrcIs (w : World) (size : Nat) (v : Value) (m : Nat) (news : List Value) : Prop :=
  (v = .slice none 0 0 ∧ m = 0 ∧ news = []) ∨ ∃ (b o c : Nat), v = .slice (some ⟨b, o, none⟩) m c ∧ news.length = m * size ∧ ∀ (j : Nat) (u : Value), news[j]? = some u → w.cell? ⟨b, o + j, none⟩ = some u
theorem run_app {P : Program} (w : World) (t ty e : TypeId) (size bytes : Nat) (hE : Elem P t e size bytes) (base : Nat) (v : Value) (n : Nat) (xs : List Value) (hown : w.ownsRow base e size v n xs) (v2 : Value) (m : Nat) (news : List Value) (hsrc : SrcIs w size v2 m news) (h1 : ∀ u ∈ news, u.oneCell' = true)
    (h63 : n + m ≤ maxLen) (hbytes : (n + m) * bytes ≤ 140737488355328) (hbase : base ≤ w.heap.size) :
    ∃ v' w', (Builtin.append_ #[t, t] ty #[v, v2]).run P w = .ok v' w' ∧ w'.ownsRow base e size v' (n + m) (xs ++ news) ∧ w.grownBy w' v.ownBlock ∧ NewRow v v' w.heap.size := by
  obtain ⟨ht, i, z, hi, hz, hsz, hby, hzs, hpos⟩ := hE
  rcases hsrc with ⟨rfl, rfl, rfl⟩ | ⟨b, o, c, rfl, hl, hc⟩
  · refine ⟨v, w, run_append_owned_none (P := P) w base t ty e i size ht hi v n xs hown, by simpa using hown, ⟨rfl, rfl, rfl, Nat.le_refl _, fun _ _ _ => rfl⟩, .inl rfl⟩
  · obtain ⟨v', w', hr, h2, h3, _, h5⟩ := run_append_own_at (P := P) w base t ty e i z size bytes ht hi hz hsz hby hzs hpos v n xs hown ⟨b, o, none⟩ m c news hl (fun j u hu => by
      have : ((⟨b, o, none⟩ : Addr).add j) = ⟨b, o + j, none⟩ := by unfold Addr.add; split <;> simp_all
      rw [this]; exact hc j u hu) h1 h63 hbytes hbase
    refine ⟨v', w', hr, h2, h3, ?_⟩
    rcases h5 with h5 | h5
    · exact .inl h5
    · exact .inr ⟨_, h5, Nat.le_refl _⟩
theorem each_app {P : Program} {w : World} {o : Oper} {a : Act} {E : Value → World → Prop} (s x : Operand) (t : TypeId) (ho : o.op = .call { callee := .builtin .append, args := #[s, x], argTypes := #[t, t] })
    (base : Nat) (e : TypeId) (size bytes : Nat) (hE : Elem P t e size bytes)
    (v : Value) (n : Nat) (xs : List Value) (hs : a.eval s = v) (v2 : Value) (m : Nat) (news : List Value) (hx : a.eval x = v2) (hsrc : SrcIs w size v2 m news)
    (hown : w.ownsRow base e size v n xs) (h1 : ∀ u ∈ news, u.oneCell' = true) (hbytes : (n + m) * bytes ≤ 140737488355328) (h63 : n + m ≤ maxLen) (hbase : base ≤ w.heap.size)
    (h : ∀ v' w', w'.ownsRow base e size v' (n + m) (xs ++ news) → w.grownBy w' v.ownBlock → NewRow v v' w.heap.size → E v' w') : eachUpon P E ((execOp a.eval o).run P w) := by
  obtain ⟨v', w', hrun, h2, h3, h4⟩ := run_app (P := P) w t o.type e size bytes hE base v n xs hown v2 m news hsrc h1 h63 hbytes hbase
  unfold execOp
  simp only [ho, resolve, invoke, builtin, Sem.run_bind, Sem.run_pure, Result.andThen_ok, List.map_toArray, List.map_cons, List.map_nil, hs, hx, hrun]
  exact h v' w' h2 h3 h4
theorem src_head {w : World} {base : Nat} {e : TypeId} {size n c k : Nat} {g : Nat} {xs : List Value} (h : w.ownsRow base e size (.slice (some ⟨g, 0, none⟩) n c) n xs) (hk : k ≤ n) (c' : Nat) : SrcIs w size (.slice (some ⟨g, 0, none⟩) k c') k (xs.take (k * size)) := by
  have hks : k * size ≤ n * size := Nat.mul_le_mul_right _ hk
  refine .inr ⟨g, 0, c', rfl, by rw [List.length_take, h.1]; omega, fun j u hu => ?_⟩
  rw [List.getElem?_take] at hu
  split at hu
  · rw [Nat.zero_add, h.cellAt j (by omega)]; exact hu
  · cases hu
theorem src_tail {w : World} {base : Nat} {e : TypeId} {size n c k : Nat} {g : Nat} {xs : List Value} (h : w.ownsRow base e size (.slice (some ⟨g, 0, none⟩) n c) n xs) (hk : k ≤ n) (c' : Nat) : SrcIs w size (.slice (some ⟨g, k * size, none⟩) (n - k) c') (n - k) (xs.drop (k * size)) := by
  have hks : k * size ≤ n * size := Nat.mul_le_mul_right _ hk
  refine .inr ⟨g, k * size, c', rfl, by rw [List.length_drop, h.1, Nat.sub_mul], fun j u hu => ?_⟩
  rw [List.getElem?_drop] at hu
  have hlt : k * size + j < xs.length := (List.getElem?_eq_some_iff.1 hu).1
  rw [h.cellAt _ (by rw [← h.1]; exact hlt)]; exact hu
theorem src_block {w : World} {size q : Nat} {cs : Array Value} {e : TypeId} (h : w.heap[q]? = some (.cells cs e (0, 0))) (hs : cs.size = size) : SrcIs w size (.slice (some ⟨q, 0, none⟩) 1 1) 1 cs.toList := by
  refine .inr ⟨q, 0, 1, rfl, by rw [Array.length_toList]; omega, fun j u hu => ?_⟩
  rw [Nat.zero_add, cell_of_row w q j cs e (0, 0) h]
  simpa using hu
theorem srcNil {w : World} {size g o c m : Nat} (hm : m = 0) : SrcIs w size (.slice (some ⟨g, o, none⟩) 0 c) m [] := by
  subst hm
  exact .inr ⟨g, o, c, rfl, by simp, fun j u h => by simp at h⟩
theorem SrcIs.below {w w' : World} {size m : Nat} {v : Value} {news : List Value} (h : SrcIs w size v m news) (hb : Below w.heap.size w w') : SrcIs w' size v m news := by
  rcases h with h | ⟨b, o, c, h1, h2, h3⟩
  · exact .inl h
  · exact .inr ⟨b, o, c, h1, h2, fun j u hu => (hb.cell (World.block_lt_of_cell? w _ (h3 j u hu))).trans (h3 j u hu)⟩
/-! ### Units with rows of their own -/
theorem after_eq {o : Oper} {u u' : Nat → Value} {p : Nat} (hu : ∀ e ∈ o.after, Region.binds .any e = true → u' e.on = u e.on) (h : (o.after.any fun e => Region.binds .any e && e.on == p) = true) : u' p = u p := by
  obtain ⟨e, he1, he2⟩ := Array.any_eq_true'.1 h
  simp only [Bool.and_eq_true, beq_iff_eq] at he2
  rw [← he2.2]; exact hu e he1 he2.1
theorem after_behind {o : Oper} {L : Array Bool} {p : Nat} (hb : Behind .any o L) (h : (o.after.any fun e => Region.binds .any e && e.on == p) = true) : L.getD p false = true := by
  obtain ⟨e, he1, he2⟩ := Array.any_eq_true'.1 h
  simp only [Bool.and_eq_true, beq_iff_eq] at he2
  rw [← he2.2]; exact hb e he1 he2.1
theorem getD_now {L : Array Bool} {k : Nat} (h : L.getD k true = false) : (L.setIfInBounds k true).getD k false = true := by
  have hlt : k < L.size := by
    rcases Nat.lt_or_ge k L.size with h' | h'
    · exact h'
    · simp [Array.getElem?_eq_none h'] at h
  simp [hlt]
structure InsD (e : TypeId) (sz : Nat) (W : World) (i n : Nat) (A B : List Value) (cs : Array Value) (u : Nat → Value) (L : Array Bool) (w : World) : Prop where
  bel : Below W.heap.size W w
  o4 : L.getD 4 false = true → L.getD 0 false = true
  o7 : L.getD 7 false = true → L.getD 4 false = true ∧ L.getD 6 false = true
  o11 : L.getD 11 false = true → L.getD 7 false = true
  o12 : L.getD 12 false = true → L.getD 11 false = true
  r0 : L.getD 0 false = true → L.getD 4 false = false → w.ownsRow W.heap.size e sz (u 0) 0 []
  r4 : L.getD 4 false = true → L.getD 7 false = false → w.ownsRow W.heap.size e sz (u 4) i A
  r6 : L.getD 6 false = true → L.getD 7 false = false → ∃ g, u 6 = .slice (some ⟨g, 0, none⟩) 1 1 ∧ w.heap[g]? = some (.cells cs e (0, 0)) ∧ (L.getD 0 false = true → L.getD 4 false = false → (u 0).ownBlock ≠ some g) ∧ (L.getD 4 false = true → (u 4).ownBlock ≠ some g)
  r7 : L.getD 7 false = true → L.getD 11 false = false → w.ownsRow W.heap.size e sz (u 7) (i + 1) (A ++ cs.toList)
  r11 : L.getD 11 false = true → w.ownsRow W.heap.size e sz (u 11) n (A ++ cs.toList ++ B)
  r12 : L.getD 12 false = true → u 12 = u 11
section
variable {e : TypeId} {sz : Nat} {W w w' : World} {i n : Nat} {A B : List Value} {cs : Array Value} {u : Nat → Value} {L : Array Bool} {v' : Value}
theorem InsD.start (hL : ∀ i, L.getD i false = false) : InsD e sz W i n A B cs (fun _ => undef) L W.drew := by
  refine ⟨(Below.refl _ _).drew, ?_, ?_, ?_, ?_, ?_, ?_, ?_, ?_, ?_, ?_⟩ <;> (intro h; exact absurd h (by rw [hL]; decide))
theorem InsD.other (h : InsD e sz W i n A B cs u L w) (k : Nat) (hk : k ∉ [0, 4, 6, 7, 11, 12]) : InsD e sz W i n A B cs u (L.setIfInBounds k true) w := by
  simp only [List.mem_cons, List.not_mem_nil, or_false, not_or] at hk
  obtain ⟨k0, k4, k6, k7, k11, k12⟩ := hk
  obtain ⟨h1, h2, h3, h4, h5, h6, h7, h8, h9, h10, h11⟩ := h
  refine ⟨h1, ?_, ?_, ?_, ?_, ?_, ?_, ?_, ?_, ?_, ?_⟩ <;> simp only [getD_set_ne false k0, getD_set_ne false k4, getD_set_ne false k6, getD_set_ne false k7, getD_set_ne false k11, getD_set_ne false k12] <;> assumption
theorem InsD.b0 (h : InsD e sz W i n A B cs u L w) (hun : L.getD 0 true = false) : InsD e sz W i n A B cs (upd u 0 (.slice (some ⟨w.heap.size, 0, none⟩) 0 0)) (L.setIfInBounds 0 true) (w.alloc (.cells #[] e)) := by
  have hb := (Below.refl w.heap.size w).alloc (Nat.le_refl _) (.cells #[] e)
  have hn := getD_tf hun
  obtain ⟨h1, h2, h3, h4, h5, h6, h7, h8, h9, h10, h11⟩ := h
  refine ⟨h1.alloc h1.size _, ?_, ?_, ?_, ?_, ?_, ?_, ?_, ?_, ?_, ?_⟩ <;> simp only [getD_set_ne false (show (0 : Nat) ≠ 4 by decide), getD_set_ne false (show (0 : Nat) ≠ 6 by decide), getD_set_ne false (show (0 : Nat) ≠ 7 by decide), getD_set_ne false (show (0 : Nat) ≠ 11 by decide), getD_set_ne false (show (0 : Nat) ≠ 12 by decide), getD_now hun, upd_same, upd_other u _ (show (4 : Nat) ≠ 0 by decide), upd_other u _ (show (6 : Nat) ≠ 0 by decide), upd_other u _ (show (7 : Nat) ≠ 0 by decide), upd_other u _ (show (11 : Nat) ≠ 0 by decide), upd_other u _ (show (12 : Nat) ≠ 0 by decide)]
  · intro _; trivial
  · exact h3
  · exact h4
  · exact h5
  · intro _ _; exact row_empty w _ e sz h1.size
  · intro a b; exact own_below (h7 a b) hb
  · intro a b
    obtain ⟨g, e1, e2, e3, e4⟩ := h8 a b
    have hg := blk_lt e2
    exact ⟨g, e1, (hb.block g hg).trans e2, fun _ _ => by simp only [Value.ownBlock, ne_eq, Option.some.injEq]; omega, e4⟩
  · intro a b; exact own_below (h9 a b) hb
  · intro a; exact own_below (h10 a) hb
  · exact h11
theorem InsD.a4 (h : InsD e sz W i n A B cs u L w) (hun : L.getD 4 true = false) (h0 : L.getD 0 false = true) (hr : w'.ownsRow W.heap.size e sz v' (0 + i) ([] ++ A)) (hg : w.grownBy w' (u 0).ownBlock) (hnr : NewRow (u 0) v' w.heap.size) : InsD e sz W i n A B cs (upd u 4 v') (L.setIfInBounds 4 true) w' := by
  have hn := getD_tf hun
  obtain ⟨h1, h2, h3, h4, h5, h6, h7, h8, h9, h10, h11⟩ := h
  have n7 : L.getD 7 false = false := by
    cases h' : L.getD 7 false with
    | false => rfl
    | true => have := (h3 h').1; rw [hn] at this; cases this
  have n11 : L.getD 11 false = false := by
    cases h' : L.getD 11 false with
    | false => rfl
    | true => have := h4 h'; rw [n7] at this; cases this
  have n12 : L.getD 12 false = false := by
    cases h' : L.getD 12 false with
    | false => rfl
    | true => have := h5 h'; rw [n11] at this; cases this
  have ho := h6 h0 hn
  rw [Nat.zero_add, List.nil_append] at hr
  refine ⟨h1.grown hg h1.size (fun k hk => own_base ho k hk), ?_, ?_, ?_, ?_, ?_, ?_, ?_, ?_, ?_, ?_⟩ <;> simp only [getD_set_ne false (show (4 : Nat) ≠ 0 by decide), getD_set_ne false (show (4 : Nat) ≠ 6 by decide), getD_set_ne false (show (4 : Nat) ≠ 7 by decide), getD_set_ne false (show (4 : Nat) ≠ 11 by decide), getD_set_ne false (show (4 : Nat) ≠ 12 by decide), getD_now hun, n7, n11, n12, upd_same, upd_other u _ (show (0 : Nat) ≠ 4 by decide), upd_other u _ (show (6 : Nat) ≠ 4 by decide), upd_other u _ (show (7 : Nat) ≠ 4 by decide), upd_other u _ (show (11 : Nat) ≠ 4 by decide), upd_other u _ (show (12 : Nat) ≠ 4 by decide)]
  · intro _; exact h0
  · intro h; cases h
  · intro h; cases h
  · intro h; cases h
  · intro _ h; cases h
  · intro _ _; exact hr
  · intro a _
    obtain ⟨g, e1, e2, e3, e4⟩ := h8 a n7
    have hgl := blk_lt e2
    refine ⟨g, e1, (hg.block g hgl (fun e => e3 h0 hn e.symm)).trans e2, fun _ h => (by cases h), fun _ => newRow_ne hnr hgl (e3 h0 hn)⟩
  · intro h; cases h
  · intro h; cases h
  · intro h; cases h
theorem InsD.b6 (h : InsD e sz W i n A B cs u L w) (hun : L.getD 6 true = false) : InsD e sz W i n A B cs (upd u 6 (.slice (some ⟨w.heap.size, 0, none⟩) 1 1)) (L.setIfInBounds 6 true) (w.alloc (.cells cs e)) := by
  have hb := (Below.refl w.heap.size w).alloc (Nat.le_refl _) (.cells cs e)
  have hn := getD_tf hun
  obtain ⟨h1, h2, h3, h4, h5, h6, h7, h8, h9, h10, h11⟩ := h
  have n7 : L.getD 7 false = false := by
    cases h' : L.getD 7 false with
    | false => rfl
    | true => have := (h3 h').2; rw [hn] at this; cases this
  refine ⟨h1.alloc h1.size _, ?_, ?_, ?_, ?_, ?_, ?_, ?_, ?_, ?_, ?_⟩ <;> simp only [getD_set_ne false (show (6 : Nat) ≠ 4 by decide), getD_set_ne false (show (6 : Nat) ≠ 0 by decide), getD_set_ne false (show (6 : Nat) ≠ 7 by decide), getD_set_ne false (show (6 : Nat) ≠ 11 by decide), getD_set_ne false (show (6 : Nat) ≠ 12 by decide), getD_now hun, upd_same, upd_other u _ (show (4 : Nat) ≠ 6 by decide), upd_other u _ (show (0 : Nat) ≠ 6 by decide), upd_other u _ (show (7 : Nat) ≠ 6 by decide), upd_other u _ (show (11 : Nat) ≠ 6 by decide), upd_other u _ (show (12 : Nat) ≠ 6 by decide)]
  · exact h2
  · intro h; rw [n7] at h; cases h
  · exact h4
  · exact h5
  · intro a b; exact own_below (h6 a b) hb
  · intro a b; exact own_below (h7 a b) hb
  · intro _ _
    exact ⟨_, rfl, heap_alloc_new w _, fun a b => (fun e => by have := own_lt' (h6 a b) e; omega), fun a => (fun e => by have := own_lt' (h7 a n7) e; omega)⟩
  · intro a b; exact own_below (h9 a b) hb
  · intro a; exact own_below (h10 a) hb
  · exact h11
theorem InsD.a7 (h : InsD e sz W i n A B cs u L w) (hun : L.getD 7 true = false) (k4 : L.getD 4 false = true) (k6 : L.getD 6 false = true) (hr : w'.ownsRow W.heap.size e sz v' (i + 1) (A ++ cs.toList)) (hg : w.grownBy w' (u 4).ownBlock) : InsD e sz W i n A B cs (upd u 7 v') (L.setIfInBounds 7 true) w' := by
  have hn := getD_tf hun
  obtain ⟨h1, h2, h3, h4, h5, h6, h7, h8, h9, h10, h11⟩ := h
  have n11 : L.getD 11 false = false := by
    cases h' : L.getD 11 false with
    | false => rfl
    | true => have := h4 h'; rw [hn] at this; cases this
  have n12 : L.getD 12 false = false := by
    cases h' : L.getD 12 false with
    | false => rfl
    | true => have := h5 h'; rw [n11] at this; cases this
  have ho := h7 k4 hn
  refine ⟨h1.grown hg h1.size (fun k hk => own_base ho k hk), ?_, ?_, ?_, ?_, ?_, ?_, ?_, ?_, ?_, ?_⟩ <;> simp only [getD_set_ne false (show (7 : Nat) ≠ 0 by decide), getD_set_ne false (show (7 : Nat) ≠ 6 by decide), getD_set_ne false (show (7 : Nat) ≠ 4 by decide), getD_set_ne false (show (7 : Nat) ≠ 11 by decide), getD_set_ne false (show (7 : Nat) ≠ 12 by decide), getD_now hun, n11, n12, k4, k6, upd_same, upd_other u _ (show (0 : Nat) ≠ 7 by decide), upd_other u _ (show (6 : Nat) ≠ 7 by decide), upd_other u _ (show (4 : Nat) ≠ 7 by decide), upd_other u _ (show (11 : Nat) ≠ 7 by decide), upd_other u _ (show (12 : Nat) ≠ 7 by decide)]
  · intro _; exact h2 k4
  · intro _; exact ⟨trivial, trivial⟩
  · intro h; cases h
  · intro h; cases h
  · intro _ h; cases h
  · intro _ h; cases h
  · intro _ h; cases h
  · intro _ _; exact hr
  · intro h; cases h
  · intro h; cases h
theorem InsD.a11 (h : InsD e sz W i n A B cs u L w) (hun : L.getD 11 true = false) (k7 : L.getD 7 false = true) (hr : w'.ownsRow W.heap.size e sz v' n (A ++ cs.toList ++ B)) (hg : w.grownBy w' (u 7).ownBlock) : InsD e sz W i n A B cs (upd u 11 v') (L.setIfInBounds 11 true) w' := by
  have hn := getD_tf hun
  obtain ⟨h1, h2, h3, h4, h5, h6, h7, h8, h9, h10, h11⟩ := h
  have n12 : L.getD 12 false = false := by
    cases h' : L.getD 12 false with
    | false => rfl
    | true => have := h5 h'; rw [hn] at this; cases this
  have ho := h9 k7 hn
  obtain ⟨k4, k6⟩ := h3 k7
  refine ⟨h1.grown hg h1.size (fun k hk => own_base ho k hk), ?_, ?_, ?_, ?_, ?_, ?_, ?_, ?_, ?_, ?_⟩ <;> simp only [getD_set_ne false (show (11 : Nat) ≠ 0 by decide), getD_set_ne false (show (11 : Nat) ≠ 6 by decide), getD_set_ne false (show (11 : Nat) ≠ 4 by decide), getD_set_ne false (show (11 : Nat) ≠ 7 by decide), getD_set_ne false (show (11 : Nat) ≠ 12 by decide), getD_now hun, n12, k4, k6, k7, upd_same, upd_other u _ (show (0 : Nat) ≠ 11 by decide), upd_other u _ (show (6 : Nat) ≠ 11 by decide), upd_other u _ (show (4 : Nat) ≠ 11 by decide), upd_other u _ (show (7 : Nat) ≠ 11 by decide), upd_other u _ (show (12 : Nat) ≠ 11 by decide)]
  · intro _; exact h2 k4
  · intro _; exact ⟨trivial, trivial⟩
  · intro _; trivial
  · intro h; cases h
  · intro _ h; cases h
  · intro _ h; cases h
  · intro _ h; cases h
  · intro _ h; cases h
  · intro _; exact hr
  · intro h; cases h
theorem InsD.m12 (h : InsD e sz W i n A B cs u L w) (hun : L.getD 12 true = false) (k11 : L.getD 11 false = true) : InsD e sz W i n A B cs (upd u 12 (u 11)) (L.setIfInBounds 12 true) w := by
  obtain ⟨h1, h2, h3, h4, h5, h6, h7, h8, h9, h10, h11⟩ := h
  refine ⟨h1, ?_, ?_, ?_, ?_, ?_, ?_, ?_, ?_, ?_, ?_⟩ <;> simp only [getD_set_ne false (show (12 : Nat) ≠ 0 by decide), getD_set_ne false (show (12 : Nat) ≠ 6 by decide), getD_set_ne false (show (12 : Nat) ≠ 4 by decide), getD_set_ne false (show (12 : Nat) ≠ 7 by decide), getD_set_ne false (show (12 : Nat) ≠ 11 by decide), getD_now hun, upd_same, upd_other u _ (show (0 : Nat) ≠ 12 by decide), upd_other u _ (show (6 : Nat) ≠ 12 by decide), upd_other u _ (show (4 : Nat) ≠ 12 by decide), upd_other u _ (show (7 : Nat) ≠ 12 by decide), upd_other u _ (show (11 : Nat) ≠ 12 by decide)] <;> first | assumption | (intro _; first | exact k11 | trivial)
end
theorem own_slice {w : World} {base n size : Nat} {e : TypeId} {v : Value} {xs : List Value} (h : w.ownsRow base e size v n xs) : ∃ p c, v = .slice p n c := by
  rcases h.2 with ⟨rfl, h0⟩ | ⟨g, cap, cur, rfl, _⟩
  · exact ⟨none, 0, by rw [h0]⟩
  · exact ⟨_, _, rfl⟩
theorem cellQ {w w' : World} {a : Addr} {v : Value} (hb : Below w.heap.size w w') (h : w.cell? a = some v) : w'.cell? a = some v := (hb.cell (World.block_lt_of_cell? w _ h)).trans h
theorem own_fst {w : World} {base n size : Nat} {e : TypeId} {v : Value} {xs : List Value} (h : w.ownsRow base e size v n xs) (h0 : 0 < n) : ∃ g c, v = .slice (some ⟨g, 0, none⟩) n c := by
  rcases h.2 with ⟨rfl, h1⟩ | ⟨g, cap, cur, rfl, _⟩
  · omega
  · exact ⟨_, _, rfl⟩
structure LC where
  l : Lit3
  p : Option Addr
  c : Nat
def LC.cs (x : LC) : List Value := [.bool x.l.pos, .string x.l.a.n, .slice x.p x.l.a.us.length x.c]
def flatL (D : List LC) : List Value := D.flatMap LC.cs
theorem flatL_len : ∀ D : List LC, (flatL D).length = D.length * 3
  | [] => rfl
  | x :: D => by
    have := flatL_len D
    rw [flatL] at this
    rw [flatL, List.flatMap_cons, List.length_append, this, List.length_cons]
    show 3 + D.length * 3 = _; omega
theorem flatL_app (A B : List LC) : flatL (A ++ B) = flatL A ++ flatL B := by simp [flatL]
theorem flatL_at {D : List LC} {k : Nat} {y : LC} (h : D[k]? = some y) {i : Nat} (hi : i < 3) : (flatL D)[k * 3 + i]? = y.cs[i]? := by
  obtain ⟨hk, hy⟩ := List.getElem?_eq_some_iff.1 h
  have e : D = D.take k ++ y :: D.drop (k + 1) := by rw [← hy, ← List.drop_eq_getElem_cons hk, List.take_append_drop]
  have hl : (flatL (D.take k)).length = k * 3 := by rw [flatL_len, List.length_take]; congr 1; omega
  rw [e, flatL_app, List.getElem?_append_right (by omega), hl, Nat.add_sub_cancel_left]
  rw [flatL, List.flatMap_cons, List.getElem?_append_left (by show i < 3; exact hi)]
theorem flatL_set {D : List LC} {k : Nat} (hk : k < D.length) (y : LC) : flatL (D.set k y) = (((flatL D).set (k * 3) (.bool y.l.pos)).set (k * 3 + 1) (.string y.l.a.n)).set (k * 3 + 2) (.slice y.p y.l.a.us.length y.c) := by
  have hl : (flatL (D.take k)).length = k * 3 := by rw [flatL_len, List.length_take]; congr 1; omega
  have e : D = D.take k ++ D[k] :: D.drop (k + 1) := by rw [← List.drop_eq_getElem_cons hk, List.take_append_drop]
  have e2 : D.set k y = D.take k ++ y :: D.drop (k + 1) := by
    rw [List.set_eq_take_append_cons_drop, if_pos hk]
  have e3 : flatL D = flatL (D.take k) ++ (D[k].cs ++ flatL (D.drop (k + 1))) := by
    conv => lhs; rw [e]
    rw [flatL_app]; rfl
  rw [e2, flatL_app, e3]
  have s : ∀ (A : List Value) (i : Nat) (z : Value), (flatL (D.take k) ++ A).set (k * 3 + i) z = flatL (D.take k) ++ A.set i z := fun A i z => by
    rw [List.set_append_right _ _ (by omega), hl, Nat.add_sub_cancel_left]
  have s0 : ∀ (A : List Value) (z : Value), (flatL (D.take k) ++ A).set (k * 3) z = flatL (D.take k) ++ A.set 0 z := fun A z => by have := s A 0 z; rwa [Nat.add_zero] at this
  rw [s0, s, s]
  rfl
theorem flatL_cell (D : List LC) : ∀ u ∈ flatL D, u.oneCell' = true := by
  intro u hu
  rw [flatL, List.mem_flatMap] at hu
  obtain ⟨x, -, hx⟩ := hu
  simp only [LC.cs, List.mem_cons, List.not_mem_nil, or_false] at hx
  rcases hx with rfl | rfl | rfl <;> rfl
theorem rowL_cell {w : World} {base n c : Nat} {e : TypeId} {p : Option Addr} {D : List LC} (h : w.ownsRow base e 3 (.slice p n c) n (flatL D)) (h0 : 0 < n) : ∃ g, p = some ⟨g, 0, none⟩ ∧ base ≤ g ∧ g < w.heap.size ∧ (∀ j, w.frozen? ⟨g, j, none⟩ = false) ∧
    ∀ (k : Nat) (y : LC), D[k]? = some y → w.cell? ⟨g, k * 3, none⟩ = some (.bool y.l.pos) ∧ w.cell? ⟨g, k * 3 + 1, none⟩ = some (.string y.l.a.n) ∧ w.cell? ⟨g, k * 3 + 2, none⟩ = some (.slice y.p y.l.a.us.length y.c) := by
  rcases h.2 with ⟨hv, h1⟩ | ⟨g, cap, cur, hv, h1, h2, h3, h4, h5, h6⟩
  · omega
  · simp only [Value.slice.injEq, true_and] at hv
    obtain ⟨rfl, rfl⟩ := hv
    refine ⟨g, rfl, h1, blk_lt h2, fun j => frozen_of_row w g j _ _ h2, fun k y hy => ?_⟩
    have key : ∀ i, i < 3 → w.cell? ⟨g, k * 3 + i, none⟩ = y.cs[i]? := fun i hi => by
      rw [cell_of_row w g (k * 3 + i) cur _ (0, 0) h2]
      have hk := flatL_at hy hi
      rw [← h6, List.getElem?_take] at hk
      split at hk
      · simpa using hk
      · rw [List.getElem?_eq_getElem (by show i < 3; exact hi)] at hk; cases hk
    exact ⟨key 0 (by omega), key 1 (by omega), key 2 (by omega)⟩
theorem flatL_split (D : List LC) (m : Nat) : flatL (D.take m) = (flatL D).take (m * 3) ∧ flatL (D.drop m) = (flatL D).drop (m * 3) := by
  by_cases hm : m ≤ D.length
  · have hl : (flatL (D.take m)).length = m * 3 := by rw [flatL_len, List.length_take, Nat.min_eq_left hm]
    have e : flatL D = flatL (D.take m) ++ flatL (D.drop m) := by rw [← flatL_app, List.take_append_drop]
    rw [e]
    exact ⟨by rw [← hl, List.take_left], by rw [← hl, List.drop_left]⟩
  · rw [List.take_of_length_le (by omega), List.drop_eq_nil_of_le (by omega), List.take_of_length_le (by rw [flatL_len]; omega), List.drop_eq_nil_of_le (by rw [flatL_len]; omega)]
    exact ⟨rfl, rfl⟩
theorem srcL_head {w : World} {base : Nat} {e : TypeId} {g c k m : Nat} {D : List LC} (h : w.ownsRow base e 3 (.slice (some ⟨g, 0, none⟩) k c) k (flatL D)) (hm : m ≤ k) (c' : Nat) : SrcIs w 3 (.slice (some ⟨g, 0, none⟩) m c') m (flatL (D.take m)) := by
  rw [(flatL_split D m).1]; exact src_head h hm c'
theorem srcL_tail {w : World} {base : Nat} {e : TypeId} {g c k m : Nat} {D : List LC} (h : w.ownsRow base e 3 (.slice (some ⟨g, 0, none⟩) k c) k (flatL D)) (hm : m ≤ k) (c' : Nat) : SrcIs w 3 (.slice (some ⟨g, m * 3, none⟩) (k - m) c') (k + 1 - (m + 1)) (flatL (D.drop m)) := by
  rw [(flatL_split D m).2, show k + 1 - (m + 1) = k - m by omega]; exact src_tail h hm c'
theorem srcL_nil {w : World} {g o c k : Nat} {D : List LC} (hk : D.length = k) : SrcIs w 3 (.slice (some ⟨g, o, none⟩) 0 c) (k + 1 - (k + 1)) (flatL (D.drop k)) := by
  rw [List.drop_eq_nil_of_le (by omega)]; exact srcNil (by omega)
abbrev set3C (W : World) (b o : Nat) (u0 u1 u2 : Value) : World := ((W.setCell ⟨b, o, none⟩ u0).setCell ⟨b, o + 1, none⟩ u1).setCell ⟨b, o + 2, none⟩ u2
theorem set3_other (W : World) {b o k : Nat} (u0 u1 u2 : Value) (hk : k ≠ b) : (set3C W b o u0 u1 u2).heap[k]? = W.heap[k]? :=
  (heap_setCell_other _ ⟨b, o + 2, none⟩ k _ hk).trans ((heap_setCell_other _ ⟨b, o + 1, none⟩ k _ hk).trans (heap_setCell_other _ ⟨b, o, none⟩ k _ hk))
theorem rowL_set {w : World} {base n c g k : Nat} {e : TypeId} {D : List LC} (y : LC) (hk : k < D.length) (h : w.ownsRow base e 3 (.slice (some ⟨g, 0, none⟩) n c) n (flatL D)) : (set3C w g (k * 3) (.bool y.l.pos) (.string y.l.a.n) (.slice y.p y.l.a.us.length y.c)).ownsRow base e 3 (.slice (some ⟨g, 0, none⟩) n c) n (flatL (D.set k y)) := by
  rcases h.2 with ⟨hv, h1⟩ | ⟨g', cap, cur, hv, h1, h2, h3, h4, h5, h6⟩
  · cases hv
  · simp only [Value.slice.injEq, Option.some.injEq, Addr.mk.injEq, and_true, true_and] at hv
    obtain ⟨rfl, rfl⟩ := hv
    refine ⟨by have := h.1; rw [flatL_len] at this ⊢; rw [List.length_set]; exact this, .inr ⟨g, c, _, rfl, h1, heap_setCell_same _ g (k * 3 + 2) _ _ _ (heap_setCell_same _ g (k * 3 + 1) _ _ _ (heap_setCell_same w g (k * 3) cur _ _ h2)), h3, h4, by simpa using h5, ?_⟩⟩
    rw [Array.toList_setIfInBounds, Array.toList_setIfInBounds, Array.toList_setIfInBounds, List.take_set, List.take_set, List.take_set, h6, flatL_set hk]
structure LsC (T : TypeId) (m base k : Nat) (v : Value) (D : List LC) (w : World) : Prop where
  row : w.ownsRow base T 3 v D.length (flatL D)
  each : ∀ x ∈ D, LitAt (fun b => base ≤ b ∧ b < w.heap.size ∧ b ≠ k ∧ v.ownBlock ≠ some b) m w x.l x.cs
  nk : v.ownBlock ≠ some k
  len : D.length ≤ 1000000
section
variable {T : TypeId} {m base k : Nat} {v v' : Value} {D : List LC} {w w' : World}
theorem LsC.below (h : LsC T m base k v D w) {n : Nat} (hb : Below n w w') (hn : w.heap.size ≤ n) : LsC T m base k v D w' := by
  have hz := hb.size
  refine ⟨own_same h.row (fun b hb2 hlt => hb.block b (by omega)), fun x hx => ?_, h.nk, h.len⟩
  exact LitAt.mono (fun b hb2 hlt => hb.block b (by omega)) (fun b hb2 => ⟨hb2.1, by have := hb2.2.1; omega, hb2.2.2⟩) (Nat.le_refl _) (h.each x hx)
theorem LsC.grown (h : LsC T m base k v D w) {g : Nat} (hg : w.grownBy w' (some g)) (hgb : g < base) : LsC T m base k v D w' := by
  have hz := hg.size
  refine ⟨own_same h.row (fun b hb2 hlt => hg.block b hlt (fun e => by injection e with e; have := own_base h.row b hb2; omega)), fun x hx => ?_, h.nk, h.len⟩
  exact LitAt.mono (fun b hb2 hlt => hg.block b hlt (fun e => by injection e with e; have := hb2.1; omega)) (fun b hb2 => ⟨hb2.1, by have := hb2.2.1; omega, hb2.2.2⟩) (Nat.le_refl _) (h.each x hx)
theorem LsC.fuel (h : LsC T m base k v D w) {n : Nat} (hn : m ≤ n) : LsC T n base k v D w := ⟨h.row, fun x hx => LitAt.mono (SameOn.refl _ _) (fun _ h => h) hn (h.each x hx), h.nk, h.len⟩
theorem LsC.new (h : LsC T m base k v D w) {k' : Nat} (hk : w.heap.size ≤ k') : LsC T m base k' v D w :=
  ⟨h.row, fun x hx => LitAt.mono (SameOn.refl _ _) (fun b hb => ⟨hb.1, hb.2.1, by have := hb.2.1; omega, hb.2.2.2⟩) (Nat.le_refl _) (h.each x hx), fun e => by have := own_lt' h.row e; omega, h.len⟩
theorem LsC.nil {n : Nat} (hn : base ≤ w.heap.size) (hk : k ≠ w.heap.size) : LsC T n base k (.slice (some ⟨w.heap.size, 0, none⟩) 0 0) [] (w.alloc (.cells #[] T)) :=
  ⟨row_empty w base T 3 hn, fun x hx => by simp at hx, fun e => hk (Option.some.inj e).symm, by simp⟩
theorem LsC.at_ (h : LsC T m base k v D w) : ClsAt (fun b => base ≤ b ∧ b < w.heap.size) m w (D.map (·.l)) v := by
  obtain ⟨p, c, rfl⟩ := own_slice h.row
  show ListAt _ w 3 _ _ _
  have hlen := h.len
  refine ⟨p, c, by rw [List.length_map], by rw [List.length_map]; unfold maxLen; omega, fun i x hx => ?_⟩
  rw [List.getElem?_map] at hx
  cases hy : D[i]? with
  | none => rw [hy] at hx; cases hx
  | some y =>
    rw [hy] at hx
    obtain rfl : y.l = x := Option.some.inj hx
    have hi := (List.getElem?_eq_some_iff.1 hy).1
    obtain ⟨g, e, h1, h2, -, h3⟩ := rowL_cell h.row (by omega)
    obtain ⟨c0, c1, c2⟩ := h3 i y hy
    refine ⟨g, 0, e, ⟨h1, h2⟩, y.cs, rfl, fun j hj => ?_, LitAt.mono (SameOn.refl _ _) (fun b hb => ⟨hb.1, hb.2.1⟩) (Nat.le_refl _) (h.each y (List.mem_of_getElem? hy))⟩
    match j, hj with
    | 0, _ => rw [Nat.zero_add, Nat.add_zero]; exact c0
    | 1, _ => rw [Nat.zero_add]; exact c1
    | 2, _ => rw [Nat.zero_add]; exact c2
theorem LsC.sc (h : LsC T m base k v D w) {a : Addr} (ha : a.block < base ∨ a.block = k) (u : Value) : LsC T m base k v D (w.setCell a u) := by
  refine ⟨own_same h.row (fun b hb _ => heap_setCell_other w a b u (fun e => ?_)), fun x hx => ?_, h.nk, h.len⟩
  · rcases ha with ha | ha
    · have := own_base h.row b hb; omega
    · exact h.nk (by rw [hb, e, ha])
  · exact LitAt.mono (fun b hb _ => heap_setCell_other w a b u (fun e => by
      rcases ha with ha | ha
      · have := hb.1; omega
      · exact hb.2.2.1 (by omega))) (fun b hb => ⟨hb.1, by simpa using hb.2.1, hb.2.2⟩) (Nat.le_refl _) (h.each x hx)
theorem LsC.put {x : LC} {j : Nat} (h : LsC T m base k v D w) (hx : LitAt (fun b => base ≤ b ∧ b < w.heap.size ∧ b ≠ k) m w x.l x.cs) (hb : Below w.heap.size w w') (hr : w'.ownsRow w.heap.size T 3 v' (D.length + 1) (flatL (D.take j ++ x :: D.drop j))) (hl : D.length + 1 ≤ 1000000) (hbase : base ≤ w.heap.size) (hk : k < w.heap.size) : LsC T m base k v' (D.take j ++ x :: D.drop j) w' := by
  have hz := hb.size
  have hlen : (D.take j ++ x :: D.drop j).length = D.length + 1 := by
    have := congrArg List.length (List.take_append_drop j D)
    rw [List.length_append] at this
    rw [List.length_append, List.length_cons]; omega
  refine ⟨by rw [hlen]; exact own_lower hr hbase, fun y hy => ?_, fun e => by have := own_base hr _ e; omega, by rw [hlen]; exact hl⟩
  have key : ∀ b, base ≤ b ∧ b < w.heap.size ∧ b ≠ k → base ≤ b ∧ b < w'.heap.size ∧ b ≠ k ∧ v'.ownBlock ≠ some b := fun b hb2 => ⟨hb2.1, by omega, hb2.2.2, fun e => by have := own_base hr b e; omega⟩
  have hD : ∀ y ∈ D, LitAt (fun b => base ≤ b ∧ b < w'.heap.size ∧ b ≠ k ∧ v'.ownBlock ≠ some b) m w' y.l y.cs := fun y hy =>
    LitAt.mono (SameOn.below hb) (fun b hb2 => key b ⟨hb2.1, hb2.2.1, hb2.2.2.1⟩) (Nat.le_refl _) (h.each y hy)
  rcases List.mem_append.1 hy with hy | hy
  · exact hD y (List.mem_of_mem_take hy)
  · rcases List.mem_cons.1 hy with rfl | hy
    · exact LitAt.mono (SameOn.below hb) key (Nat.le_refl _) hx
    · exact hD y (List.mem_of_mem_drop hy)
theorem LsC.snoc {x : LC} {w3 : World} (h : LsC T m base k v D w) (hx : LitAt (fun b => base ≤ b ∧ b < w.heap.size ∧ b ≠ k ∧ v.ownBlock ≠ some b) m w x.l x.cs) (hg : w.grownBy w3 v.ownBlock) (hr : w3.ownsRow base T 3 v' (D.length + 1) (flatL D ++ x.cs)) (hnr : NewRow v v' w.heap.size) (hl : D.length + 1 ≤ 1000000) (hk : k < w.heap.size) : LsC T m base k v' (D ++ [x]) w3 := by
  have hz := hg.size
  have key : ∀ b, base ≤ b ∧ b < w.heap.size ∧ b ≠ k ∧ v.ownBlock ≠ some b → base ≤ b ∧ b < w3.heap.size ∧ b ≠ k ∧ v'.ownBlock ≠ some b := fun b ⟨h1, h2, h4, h3⟩ => ⟨h1, by omega, h4, by
    rcases hnr with e | ⟨b', e, hge⟩
    · rw [e]; exact h3
    · rw [e]; intro e2; injection e2 with e2; omega⟩
  have same : SameOn (fun b => base ≤ b ∧ b < w.heap.size ∧ b ≠ k ∧ v.ownBlock ≠ some b) w w3 := fun b hb hlt => hg.block b hlt (fun e => hb.2.2.2 e.symm)
  refine ⟨by rw [List.length_append, flatL_app]; simpa [flatL] using hr, fun y hy => ?_, ?_, by rw [List.length_append]; exact hl⟩
  · rcases List.mem_append.1 hy with hy | hy
    · exact LitAt.mono same key (Nat.le_refl _) (h.each y hy)
    · obtain rfl : y = x := by simpa using hy
      exact LitAt.mono same key (Nat.le_refl _) hx
  · rcases hnr with e | ⟨b', e, hge⟩
    · rw [e]; exact h.nk
    · rw [e]; intro e2; injection e2 with e2; omega
theorem LsC.set {g j n c : Nat} {y : LC} (h : LsC T m base k (.slice (some ⟨g, 0, none⟩) n c) D w) (hj : j < D.length) (hn : n = D.length) (hy : LitAt (fun b => base ≤ b ∧ b < w.heap.size ∧ b ≠ k ∧ g ≠ b) m w y.l y.cs) : LsC T m base k (.slice (some ⟨g, 0, none⟩) n c) (D.set j y) (set3C w g (j * 3) (.bool y.l.pos) (.string y.l.a.n) (.slice y.p y.l.a.us.length y.c)) := by
  subst hn
  have same : SameOn (fun b => base ≤ b ∧ b < w.heap.size ∧ b ≠ k ∧ (Value.slice (some ⟨g, 0, none⟩) D.length c).ownBlock ≠ some b) w (set3C w g (j * 3) (.bool y.l.pos) (.string y.l.a.n) (.slice y.p y.l.a.us.length y.c)) := fun b hb _ => set3_other w _ _ _ (fun e => hb.2.2.2 (by rw [e]; rfl))
  have sz : (set3C w g (j * 3) (.bool y.l.pos) (.string y.l.a.n) (.slice y.p y.l.a.us.length y.c)).heap.size = w.heap.size := by simp
  refine ⟨by rw [List.length_set]; exact rowL_set y hj h.row, fun z hz => ?_, h.nk, by rw [List.length_set]; exact h.len⟩
  rcases List.mem_or_eq_of_mem_set hz with hz | rfl
  · exact LitAt.mono same (fun b hb => by rw [sz]; exact hb) (Nat.le_refl _) (h.each z hz)
  · exact LitAt.mono same (fun b hb => by rw [sz]; exact hb) (Nat.le_refl _) (LitAt.mono (SameOn.refl _ _) (fun b hb => ⟨hb.1, hb.2.1, hb.2.2.1, fun e => hb.2.2.2 (Option.some.inj e)⟩) (Nat.le_refl _) hy)
end
end Go.Proofs.YtkgfanajgdelcaaGreat
