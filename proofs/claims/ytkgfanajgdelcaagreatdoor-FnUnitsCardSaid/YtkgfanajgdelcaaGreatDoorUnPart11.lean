/- Reading a unit's text: plain laws of both sides. No conditions; no program is walked. -/
import Derived.Laws.OwnMore
import Derived.Test.YtkgfanajgdelcaaGreatDoorUnPart1
import Derived.Test.YtkgfanajgdelcaaGreatDoorUnPart9
import Derived.Test.YtkgfanajgdelcaaGreatDoorUnPart10
namespace Go.Proofs.YtkgfanajgdelcaaGreatDoor
open Go.RowKit
/-! ### An append of what a slice reads -/
def SrcIs (w : World) (size : Nat) (v : Value) (m : Nat) (news : List Value) : Prop :=
  (v = .slice none 0 0 ∧ m = 0 ∧ news = []) ∨ ∃ (b o c : Nat), v = .slice (some ⟨b, o, none⟩) m c ∧ news.length = m * size ∧ ∀ (j : Nat) (u : Value), news[j]? = some u → w.cell? ⟨b, o + j, none⟩ = some u
theorem run_app {P : Program} (w : World) (t ty e : TypeId) (size bytes : Nat) (hE : Elem P t e size bytes) (base : Nat) (v : Value) (n : Nat) (xs : List Value) (hown : w.ownsRow base e size v n xs) (v2 : Value) (m : Nat) (news : List Value) (hsrc : SrcIs w size v2 m news) (h1 : ∀ u ∈ news, u.oneCell' = true)
    (h63 : n + m ≤ maxLen) (hbytes : (n + m) * bytes ≤ 140737488355328) (hbase : base ≤ w.heap.size) :
    ∃ v' w', (Builtin.append_ #[t, t] ty #[v, v2]).run P w = .ok v' w' ∧ w'.ownsRow base e size v' (n + m) (xs ++ news) ∧ w.grownBy w' v.ownBlock ∧ NewRow v v' w.heap.size := by
  obtain ⟨ht, i, z, hi, hz, hsz, hby, hzs, hpos⟩ := hE
  rcases hsrc with ⟨rfl, rfl, rfl⟩ | ⟨b, o, c, rfl, hl, hc⟩
  · refine ⟨v, w, run_append_owned_none (P := P) w base t ty e i size ht hi v n xs hown, by simpa using hown, ⟨rfl, rfl, rfl, Nat.le_refl _, fun _ _ _ => rfl⟩, .inl rfl⟩
  · obtain ⟨v', w', hr, h2, h3, _, h5⟩ := run_append_own_at (P := P) w base t ty e i z size bytes ht hi hz hsz hby hzs hpos v n xs hown ⟨b, o, none⟩ m c news hl (fun j u hu => by
      have : ((⟨b, o, none⟩ : Addr).add j) = ⟨b, o + j, none⟩ := by unfold Addr.add; split <;> simp_all
      rw [this]; exact hc j u hu) h1 h63 hbytes hbase
    refine ⟨v', w', hr, h2, h3, ?_⟩
    rcases h5 with h5 | h5
    · exact .inl h5
    · exact .inr ⟨_, h5, Nat.le_refl _⟩
theorem wpList_app {P : Program} {w : World} {ops : Array Oper} {rest : List Oper} {o : Oper} {a : Act} {Q : Exit → Act → World → Prop} (hgd : o.guard = none) (s x : Operand) (t : TypeId)
    (ho : o.op = .call { callee := .builtin .append, args := #[s, x], argTypes := #[t, t] })
    (base : Nat) (e : TypeId) (size bytes : Nat) (hE : Elem P t e size bytes)
    (v : Value) (n : Nat) (xs : List Value) (hs : a.eval s = v) (v2 : Value) (m : Nat) (news : List Value) (hx : a.eval x = v2) (hsrc : SrcIs w size v2 m news)
    (hown : w.ownsRow base e size v n xs) (h1 : ∀ u ∈ news, u.oneCell' = true) (hbytes : (n + m) * bytes ≤ 140737488355328) (h63 : n + m ≤ maxLen) (hbase : base ≤ w.heap.size)
    (h : ∀ v' w', w'.ownsRow base e size v' (n + m) (xs ++ news) → w.grownBy w' v.ownBlock → NewRow v v' w.heap.size → wpList P ops Q rest (a.put o.dst v') w') : wpList P ops Q (o :: rest) a w := by
  obtain ⟨v', w', hrun, h2, h3, h4⟩ := run_app (P := P) w t o.type e size bytes hE base v n xs hown v2 m news hsrc h1 h63 hbytes hbase
  refine wpList_plain hgd fun _ hK => ?_
  unfold Oper.wp execOp
  simp only [ho, resolve, invoke, builtin, Sem.run_bind, Sem.run_pure, Result.andThen_ok, List.map_toArray, List.map_cons, List.map_nil, hs, hx, hrun]
  exact hK _ _ (h v' w' h2 h3 h4)
theorem each_app {P : Program} {w : World} {o : Oper} {a : Act} {E : Value → World → Prop} (s x : Operand) (t : TypeId) (ho : o.op = .call { callee := .builtin .append, args := #[s, x], argTypes := #[t, t] })
    (base : Nat) (e : TypeId) (size bytes : Nat) (hE : Elem P t e size bytes)
    (v : Value) (n : Nat) (xs : List Value) (hs : a.eval s = v) (v2 : Value) (m : Nat) (news : List Value) (hx : a.eval x = v2) (hsrc : SrcIs w size v2 m news)
    (hown : w.ownsRow base e size v n xs) (h1 : ∀ u ∈ news, u.oneCell' = true) (hbytes : (n + m) * bytes ≤ 140737488355328) (h63 : n + m ≤ maxLen) (hbase : base ≤ w.heap.size)
    (h : ∀ v' w', w'.ownsRow base e size v' (n + m) (xs ++ news) → w.grownBy w' v.ownBlock → NewRow v v' w.heap.size → E v' w') : eachUpon P E ((execOp a.eval o).run P w) := by
  obtain ⟨v', w', hrun, h2, h3, h4⟩ := run_app (P := P) w t o.type e size bytes hE base v n xs hown v2 m news hsrc h1 h63 hbytes hbase
  unfold execOp
  simp only [ho, resolve, invoke, builtin, Sem.run_bind, Sem.run_pure, Result.andThen_ok, List.map_toArray, List.map_cons, List.map_nil, hs, hx, hrun]
  exact h v' w' h2 h3 h4
theorem src_head {w : World} {base : Nat} {e : TypeId} {size n c k : Nat} {g : Nat} {xs : List Value} (h : w.ownsRow base e size (.slice (some ⟨g, 0, none⟩) n c) n xs) (hk : k ≤ n) (c' : Nat) : SrcIs w size (.slice (some ⟨g, 0, none⟩) k c') k (xs.take (k * size)) := by
  have hks : k * size ≤ n * size := Nat.mul_le_mul_right _ hk
  refine .inr ⟨g, 0, c', rfl, by rw [List.length_take, h.1]; omega, fun j u hu => ?_⟩
  rw [List.getElem?_take] at hu
  split at hu
  · rw [Nat.zero_add, h.cellAt j (by omega)]; exact hu
  · cases hu
theorem src_tail {w : World} {base : Nat} {e : TypeId} {size n c k : Nat} {g : Nat} {xs : List Value} (h : w.ownsRow base e size (.slice (some ⟨g, 0, none⟩) n c) n xs) (hk : k ≤ n) (c' : Nat) : SrcIs w size (.slice (some ⟨g, k * size, none⟩) (n - k) c') (n - k) (xs.drop (k * size)) := by
  have hks : k * size ≤ n * size := Nat.mul_le_mul_right _ hk
  refine .inr ⟨g, k * size, c', rfl, by rw [List.length_drop, h.1, Nat.sub_mul], fun j u hu => ?_⟩
  rw [List.getElem?_drop] at hu
  have hlt : k * size + j < xs.length := (List.getElem?_eq_some_iff.1 hu).1
  rw [h.cellAt _ (by rw [← h.1]; exact hlt)]; exact hu
theorem src_strs {B : Nat → Prop} {w : World} {v : Value} {us : List ByteArray} (h : StrsAt B w v us) (hv : v = .slice none 0 0 ∨ ∃ b o c, v = .slice (some ⟨b, o, none⟩) us.length c) : SrcIs w 1 v us.length (strW us) := by
  rcases hv with rfl | ⟨b, o, c, rfl⟩
  · obtain ⟨p, d, he, hl, -⟩ := h
    simp only [Value.slice.injEq] at he
    obtain ⟨-, he, -⟩ := he
    obtain rfl : us = [] := List.eq_nil_of_length_eq_zero he.symm
    exact .inl ⟨rfl, rfl, rfl⟩
  · refine .inr ⟨b, o, c, rfl, by simp [strW], fun j u hu => ?_⟩
    rw [strW, List.getElem?_map] at hu
    cases hj : us[j]? with
    | none => rw [hj] at hu; cases hu
    | some s =>
      rw [hj] at hu
      obtain rfl : Value.string s = u := Option.some.inj hu
      obtain ⟨hlt, rfl⟩ := List.getElem?_eq_some_iff.1 hj
      obtain ⟨b', o', e1, -, hc, -⟩ := h.at_ hlt
      injection e1 with e1
      injection e1 with e2 e3
      subst e2 e3
      exact hc
theorem src_block {w : World} {size q : Nat} {cs : Array Value} {e : TypeId} (h : w.heap[q]? = some (.cells cs e (0, 0))) (hs : cs.size = size) : SrcIs w size (.slice (some ⟨q, 0, none⟩) 1 1) 1 cs.toList := by
  refine .inr ⟨q, 0, 1, rfl, by rw [Array.length_toList]; omega, fun j u hu => ?_⟩
  rw [Nat.zero_add, cell_of_row w q j cs e (0, 0) h]
  simpa using hu
theorem srcNil {w : World} {size g o c m : Nat} (hm : m = 0) : SrcIs w size (.slice (some ⟨g, o, none⟩) 0 c) m [] := by
  subst hm
  exact .inr ⟨g, o, c, rfl, by simp, fun j u h => by simp at h⟩
theorem SrcIs.below {w w' : World} {size m : Nat} {v : Value} {news : List Value} (h : SrcIs w size v m news) (hb : Below w.heap.size w w') : SrcIs w' size v m news := by
  rcases h with h | ⟨b, o, c, h1, h2, h3⟩
  · exact .inl h
  · exact .inr ⟨b, o, c, h1, h2, fun j u hu => (hb.cell (World.block_lt_of_cell? w _ (h3 j u hu))).trans (h3 j u hu)⟩
/-! ### Units with rows of their own -/
theorem canG_perm {α : Type} {lt : α → α → Bool} (l : List α) : (canG lt l).Perm l := by
  have ins : ∀ (out : List α) (x : α), (insG lt out x).Perm (x :: out) := fun out x => by
    have := List.takeWhile_append_dropWhile (p := fun y => lt y x) (l := out)
    rw [insG]
    refine List.perm_middle.trans ?_
    rw [this]
  have fold : ∀ (l out : List α), (l.foldl (insG lt) out).Perm (out ++ l) := fun l => by
    induction l with
    | nil => intro out; simp
    | cons x l ih =>
      intro out
      rw [List.foldl_cons]
      refine (ih _).trans (((ins out x).append_right l).trans ?_)
      exact (List.perm_middle (a := x) (l₁ := out) (l₂ := l)).symm
  have := fold l []
  rw [List.nil_append] at this
  exact this
def UC.S (x : UC) (b : Nat) : Prop := (Value.slice x.p x.u.incs.length x.c).ownBlock = some b ∨ (Value.slice x.q x.u.axs.length x.d).ownBlock = some b
structure UC.Own (e : TypeId) (base : Nat) (w : World) (x : UC) : Prop where
  ra : w.ownsRow base e 1 (.slice x.p x.u.incs.length x.c) x.u.incs.length (strW x.u.incs)
  rb : w.ownsRow base e 1 (.slice x.q x.u.axs.length x.d) x.u.axs.length (strW x.u.axs)
  ap : ∀ g, (Value.slice x.p x.u.incs.length x.c).ownBlock = some g → (Value.slice x.q x.u.axs.length x.d).ownBlock ≠ some g
theorem UC.Own.blk {e : TypeId} {base : Nat} {w : World} {x : UC} (h : x.Own e base w) {b : Nat} (hb : x.S b) : base ≤ b ∧ b < w.heap.size := by
  rcases hb with hb | hb
  · exact ⟨own_base h.ra b hb, own_lt' h.ra hb⟩
  · exact ⟨own_base h.rb b hb, own_lt' h.rb hb⟩
theorem UC.Own.same {e : TypeId} {base : Nat} {w w' : World} {x : UC} (h : x.Own e base w) (hs : ∀ b, x.S b → b < w.heap.size → w'.heap[b]? = w.heap[b]?) : x.Own e base w' :=
  ⟨own_same h.ra fun g hg hl => hs g (.inl hg) hl, own_same h.rb fun g hg hl => hs g (.inr hg) hl, h.ap⟩
theorem UC.Own.un {e : TypeId} {base : Nat} {w : World} {x : UC} (h : x.Own e base w) (hn : x.u.name.size ≤ maxLen) (hg : x.u.goal.size ≤ maxLen) (hi : ∀ s ∈ x.u.incs, s.size ≤ maxLen) (ha : ∀ s ∈ x.u.axs, s.size ≤ maxLen) : UnOwn e x.S w x.u x.cs :=
  ⟨_, _, fun b => (Value.slice x.p x.u.incs.length x.c).ownBlock = some b, fun b => (Value.slice x.q x.u.axs.length x.d).ownBlock = some b, rfl, hn, hg, rowS_own h.ra hi (own_lenU h.ra) (fun _ h => h), rowS_own h.rb ha (own_lenU h.rb) (fun _ h => h), fun _ h => .inl h, fun _ h => .inr h, h.ap⟩
structure Uns (e : TypeId) (base : Nat) (w : World) (ov : Value) (D : List UC) : Prop where
  each : ∀ x ∈ D, x.Own e base w
  far : ∀ x ∈ D, ∀ b, x.S b → ov.ownBlock ≠ some b
  pair : D.Pairwise fun x y => ∀ b, x.S b → ¬ y.S b
section
variable {e eU : TypeId} {base : Nat} {w w' : World} {ov ov' : Value} {D D' : List UC}
theorem Uns.nil (e : TypeId) (base : Nat) (w : World) (ov : Value) : Uns e base w ov [] := ⟨fun _ h => (by cases h), fun _ h => (by cases h), List.Pairwise.nil⟩
theorem Uns.perm (h : Uns e base w ov D) (hp : D'.Perm D) : Uns e base w ov D' :=
  ⟨fun x hx => h.each x (hp.mem_iff.1 hx), fun x hx => h.far x (hp.mem_iff.1 hx), (List.Perm.pairwise_iff (fun hab b h1 h2 => hab b h2 h1) hp).2 h.pair⟩
theorem Uns.grown (h : Uns e base w ov D) (hg : w.grownBy w' ov.ownBlock) (hn : NewRow ov ov' w.heap.size) : Uns e base w' ov' D :=
  ⟨fun x hx => (h.each x hx).same fun b hb hl => hg.block b hl (fun e => h.far x hx b hb e.symm), fun x hx b hb => newRow_ne hn ((h.each x hx).blk hb).2 (h.far x hx b hb), h.pair⟩
theorem Uns.below (h : Uns e base w ov D) (hb : Below w.heap.size w w') : Uns e base w' ov D :=
  ⟨fun x hx => (h.each x hx).same fun b _ hl => hb.block b hl, h.far, h.pair⟩
theorem Uns.snoc (h : Uns e base w ov D) {x : UC} (hx : x.Own e base w) (hf : ∀ b, x.S b → ov.ownBlock ≠ some b) (hd : ∀ y ∈ D, ∀ b, y.S b → ¬ x.S b) : Uns e base w ov (D ++ [x]) := by
  refine ⟨fun y hy => ?_, fun y hy => ?_, ?_⟩
  · rcases List.mem_append.1 hy with hy | hy
    · exact h.each y hy
    · obtain rfl : y = x := by simpa using hy
      exact hx
  · rcases List.mem_append.1 hy with hy | hy
    · exact h.far y hy
    · obtain rfl : y = x := by simpa using hy
      exact hf
  · rw [List.pairwise_append]
    exact ⟨h.pair, by simp, fun a ha b hb => by obtain rfl : b = x := by simpa using hb
                                                exact hd a ha⟩
theorem flatU_cut (D : List UC) {i : Nat} {x : UC} (h : D[i]? = some x) : ((flatU D).drop (i * 4)).take 4 = x.cs := by
  obtain ⟨hi, rfl⟩ := List.getElem?_eq_some_iff.1 h
  have hl : (flatU (D.take i)).length = i * 4 := by rw [flatU_len, List.length_take]; congr 1; omega
  have e : D = D.take i ++ D[i] :: D.drop (i + 1) := by rw [← List.drop_eq_getElem_cons hi, List.take_append_drop]
  have e3 : flatU D = flatU (D.take i) ++ (D[i].cs ++ flatU (D.drop (i + 1))) := by
    conv => lhs; rw [e]
    rw [flatU_app]; rfl
  rw [e3, List.drop_append_of_le_length (by omega), ← hl, List.drop_length, List.nil_append]
  rw [List.take_append_of_le_length (by show 4 ≤ 4; omega)]
  rfl
theorem Uns.own {S : Nat → Prop} {us : List Un} (h : Uns e base w ov D) (hr : w.ownsRow base eU 4 ov us.length (flatU D)) (hu : D.map UC.u = us) (hm : us.length ≤ maxLen) (hz : ∀ u ∈ us, u.wt ≤ maxLen) (hS : ∀ b, base ≤ b → b < w.heap.size → S b) : UnsOwn e eU S w us ov := by
  subst hu
  have hlt : ∀ {i : Nat} {x : UC}, D[i]? = some x → x ∈ D := fun h => List.mem_of_getElem? h
  refine ⟨hm, flatU D, fun i b => ∃ x, D[i]? = some x ∧ x.S b, own_lower hr (Nat.zero_le _), fun g hg => hS g (own_base hr g hg) (own_lt' hr hg), fun i u hi => ?_, fun i j b hi hj hij => ?_⟩
  · rw [List.getElem?_map] at hi
    cases hx : D[i]? with
    | none => rw [hx] at hi; cases hi
    | some x =>
      rw [hx] at hi
      obtain rfl : x.u = u := Option.some.inj hi
      have hw := hz x.u (List.mem_map.2 ⟨x, hlt hx, rfl⟩)
      have hw2 : x.u.wt = x.u.name.size + (x.u.incs.length + wtS x.u.incs) + (x.u.axs.length + wtS x.u.axs) + x.u.goal.size := rfl
      refine ⟨?_, fun b ⟨y, hy, hb⟩ => ?_⟩
      · rw [flatU_cut D hx]
        refine ((h.each x (hlt hx)).un (by omega) (by omega) (fun s hs => ?_) (fun s hs => ?_)).mono (SameOn.refl _ _) (fun b hb => ⟨x, hx, hb⟩)
        · have := wtS_le _ s hs; omega
        · have := wtS_le _ s hs; omega
      · obtain rfl : x = y := Option.some.inj (hx.symm.trans hy)
        have := (h.each x (hlt hx)).blk hb
        exact ⟨hS b this.1 this.2, h.far x (hlt hx) b hb⟩
  · rintro ⟨x, hx, hb⟩ ⟨y, hy, hb2⟩
    rw [List.length_map] at hi hj
    obtain ⟨_, rfl⟩ := List.getElem?_eq_some_iff.1 hx
    obtain ⟨_, rfl⟩ := List.getElem?_eq_some_iff.1 hy
    rcases Nat.lt_or_gt_of_ne hij with hlt' | hlt'
    · exact List.pairwise_iff_getElem.1 h.pair i j hi hj hlt' b hb hb2
    · exact List.pairwise_iff_getElem.1 h.pair j i hj hi hlt' b hb2 hb
end
open Go.RowKit
theorem after_eq {o : Oper} {u u' : Nat → Value} {p : Nat} (hu : ∀ e ∈ o.after, Region.binds .any e = true → u' e.on = u e.on) (h : (o.after.any fun e => Region.binds .any e && e.on == p) = true) : u' p = u p := by
  obtain ⟨e, he1, he2⟩ := Array.any_eq_true'.1 h
  simp only [Bool.and_eq_true, beq_iff_eq] at he2
  rw [← he2.2]; exact hu e he1 he2.1
theorem after_behind {o : Oper} {L : Array Bool} {p : Nat} (hb : Behind .any o L) (h : (o.after.any fun e => Region.binds .any e && e.on == p) = true) : L.getD p false = true := by
  obtain ⟨e, he1, he2⟩ := Array.any_eq_true'.1 h
  simp only [Bool.and_eq_true, beq_iff_eq] at he2
  rw [← he2.2]; exact hb e he1 he2.1
theorem getD_now {L : Array Bool} {k : Nat} (h : L.getD k true = false) : (L.setIfInBounds k true).getD k false = true := by
  have hlt : k < L.size := by
    rcases Nat.lt_or_ge k L.size with h' | h'
    · exact h'
    · simp [Array.getElem?_eq_none h'] at h
  simp [hlt]
structure InsD (e : TypeId) (sz : Nat) (W : World) (i n : Nat) (A B : List Value) (cs : Array Value) (u : Nat → Value) (L : Array Bool) (w : World) : Prop where
  bel : Below W.heap.size W w
  o4 : L.getD 4 false = true → L.getD 0 false = true
  o7 : L.getD 7 false = true → L.getD 4 false = true ∧ L.getD 6 false = true
  o11 : L.getD 11 false = true → L.getD 7 false = true
  o12 : L.getD 12 false = true → L.getD 11 false = true
  r0 : L.getD 0 false = true → L.getD 4 false = false → w.ownsRow W.heap.size e sz (u 0) 0 []
  r4 : L.getD 4 false = true → L.getD 7 false = false → w.ownsRow W.heap.size e sz (u 4) i A
  r6 : L.getD 6 false = true → L.getD 7 false = false → ∃ g, u 6 = .slice (some ⟨g, 0, none⟩) 1 1 ∧ w.heap[g]? = some (.cells cs e (0, 0)) ∧ (L.getD 0 false = true → L.getD 4 false = false → (u 0).ownBlock ≠ some g) ∧ (L.getD 4 false = true → (u 4).ownBlock ≠ some g)
  r7 : L.getD 7 false = true → L.getD 11 false = false → w.ownsRow W.heap.size e sz (u 7) (i + 1) (A ++ cs.toList)
  r11 : L.getD 11 false = true → w.ownsRow W.heap.size e sz (u 11) n (A ++ cs.toList ++ B)
  r12 : L.getD 12 false = true → u 12 = u 11
section
variable {e : TypeId} {sz : Nat} {W w w' : World} {i n : Nat} {A B : List Value} {cs : Array Value} {u : Nat → Value} {L : Array Bool} {v' : Value}
theorem InsD.start (hL : ∀ i, L.getD i false = false) : InsD e sz W i n A B cs (fun _ => undef) L W.drew := by
  refine ⟨(Below.refl _ _).drew, ?_, ?_, ?_, ?_, ?_, ?_, ?_, ?_, ?_, ?_⟩ <;> (intro h; exact absurd h (by rw [hL]; decide))
theorem InsD.other (h : InsD e sz W i n A B cs u L w) (k : Nat) (hk : k ∉ [0, 4, 6, 7, 11, 12]) : InsD e sz W i n A B cs u (L.setIfInBounds k true) w := by
  simp only [List.mem_cons, List.not_mem_nil, or_false, not_or] at hk
  obtain ⟨k0, k4, k6, k7, k11, k12⟩ := hk
  obtain ⟨h1, h2, h3, h4, h5, h6, h7, h8, h9, h10, h11⟩ := h
  refine ⟨h1, ?_, ?_, ?_, ?_, ?_, ?_, ?_, ?_, ?_, ?_⟩ <;> simp only [getD_set_ne false k0, getD_set_ne false k4, getD_set_ne false k6, getD_set_ne false k7, getD_set_ne false k11, getD_set_ne false k12] <;> assumption
theorem InsD.b0 (h : InsD e sz W i n A B cs u L w) (hun : L.getD 0 true = false) : InsD e sz W i n A B cs (upd u 0 (.slice (some ⟨w.heap.size, 0, none⟩) 0 0)) (L.setIfInBounds 0 true) (w.alloc (.cells #[] e)) := by
  have hb := (Below.refl w.heap.size w).alloc (Nat.le_refl _) (.cells #[] e)
  have hn := getD_tf hun
  obtain ⟨h1, h2, h3, h4, h5, h6, h7, h8, h9, h10, h11⟩ := h
  refine ⟨h1.alloc h1.size _, ?_, ?_, ?_, ?_, ?_, ?_, ?_, ?_, ?_, ?_⟩ <;> simp only [getD_set_ne false (show (0 : Nat) ≠ 4 by decide), getD_set_ne false (show (0 : Nat) ≠ 6 by decide), getD_set_ne false (show (0 : Nat) ≠ 7 by decide), getD_set_ne false (show (0 : Nat) ≠ 11 by decide), getD_set_ne false (show (0 : Nat) ≠ 12 by decide), getD_now hun, upd_same, upd_other u _ (show (4 : Nat) ≠ 0 by decide), upd_other u _ (show (6 : Nat) ≠ 0 by decide), upd_other u _ (show (7 : Nat) ≠ 0 by decide), upd_other u _ (show (11 : Nat) ≠ 0 by decide), upd_other u _ (show (12 : Nat) ≠ 0 by decide)]
  · intro _; trivial
  · exact h3
  · exact h4
  · exact h5
  · intro _ _; exact row_empty w _ e sz h1.size
  · intro a b; exact own_below (h7 a b) hb
  · intro a b
    obtain ⟨g, e1, e2, e3, e4⟩ := h8 a b
    have hg := blk_lt e2
    exact ⟨g, e1, (hb.block g hg).trans e2, fun _ _ => by simp only [Value.ownBlock, ne_eq, Option.some.injEq]; omega, e4⟩
  · intro a b; exact own_below (h9 a b) hb
  · intro a; exact own_below (h10 a) hb
  · exact h11
theorem InsD.a4 (h : InsD e sz W i n A B cs u L w) (hun : L.getD 4 true = false) (h0 : L.getD 0 false = true) (hr : w'.ownsRow W.heap.size e sz v' (0 + i) ([] ++ A)) (hg : w.grownBy w' (u 0).ownBlock) (hnr : NewRow (u 0) v' w.heap.size) : InsD e sz W i n A B cs (upd u 4 v') (L.setIfInBounds 4 true) w' := by
  have hn := getD_tf hun
  obtain ⟨h1, h2, h3, h4, h5, h6, h7, h8, h9, h10, h11⟩ := h
  have n7 : L.getD 7 false = false := by
    cases h' : L.getD 7 false with
    | false => rfl
    | true => have := (h3 h').1; rw [hn] at this; cases this
  have n11 : L.getD 11 false = false := by
    cases h' : L.getD 11 false with
    | false => rfl
    | true => have := h4 h'; rw [n7] at this; cases this
  have n12 : L.getD 12 false = false := by
    cases h' : L.getD 12 false with
    | false => rfl
    | true => have := h5 h'; rw [n11] at this; cases this
  have ho := h6 h0 hn
  rw [Nat.zero_add, List.nil_append] at hr
  refine ⟨h1.grown hg h1.size (fun k hk => own_base ho k hk), ?_, ?_, ?_, ?_, ?_, ?_, ?_, ?_, ?_, ?_⟩ <;> simp only [getD_set_ne false (show (4 : Nat) ≠ 0 by decide), getD_set_ne false (show (4 : Nat) ≠ 6 by decide), getD_set_ne false (show (4 : Nat) ≠ 7 by decide), getD_set_ne false (show (4 : Nat) ≠ 11 by decide), getD_set_ne false (show (4 : Nat) ≠ 12 by decide), getD_now hun, n7, n11, n12, upd_same, upd_other u _ (show (0 : Nat) ≠ 4 by decide), upd_other u _ (show (6 : Nat) ≠ 4 by decide), upd_other u _ (show (7 : Nat) ≠ 4 by decide), upd_other u _ (show (11 : Nat) ≠ 4 by decide), upd_other u _ (show (12 : Nat) ≠ 4 by decide)]
  · intro _; exact h0
  · intro h; cases h
  · intro h; cases h
  · intro h; cases h
  · intro _ h; cases h
  · intro _ _; exact hr
  · intro a _
    obtain ⟨g, e1, e2, e3, e4⟩ := h8 a n7
    have hgl := blk_lt e2
    refine ⟨g, e1, (hg.block g hgl (fun e => e3 h0 hn e.symm)).trans e2, fun _ h => (by cases h), fun _ => newRow_ne hnr hgl (e3 h0 hn)⟩
  · intro h; cases h
  · intro h; cases h
  · intro h; cases h
theorem InsD.b6 (h : InsD e sz W i n A B cs u L w) (hun : L.getD 6 true = false) : InsD e sz W i n A B cs (upd u 6 (.slice (some ⟨w.heap.size, 0, none⟩) 1 1)) (L.setIfInBounds 6 true) (w.alloc (.cells cs e)) := by
  have hb := (Below.refl w.heap.size w).alloc (Nat.le_refl _) (.cells cs e)
  have hn := getD_tf hun
  obtain ⟨h1, h2, h3, h4, h5, h6, h7, h8, h9, h10, h11⟩ := h
  have n7 : L.getD 7 false = false := by
    cases h' : L.getD 7 false with
    | false => rfl
    | true => have := (h3 h').2; rw [hn] at this; cases this
  refine ⟨h1.alloc h1.size _, ?_, ?_, ?_, ?_, ?_, ?_, ?_, ?_, ?_, ?_⟩ <;> simp only [getD_set_ne false (show (6 : Nat) ≠ 4 by decide), getD_set_ne false (show (6 : Nat) ≠ 0 by decide), getD_set_ne false (show (6 : Nat) ≠ 7 by decide), getD_set_ne false (show (6 : Nat) ≠ 11 by decide), getD_set_ne false (show (6 : Nat) ≠ 12 by decide), getD_now hun, upd_same, upd_other u _ (show (4 : Nat) ≠ 6 by decide), upd_other u _ (show (0 : Nat) ≠ 6 by decide), upd_other u _ (show (7 : Nat) ≠ 6 by decide), upd_other u _ (show (11 : Nat) ≠ 6 by decide), upd_other u _ (show (12 : Nat) ≠ 6 by decide)]
  · exact h2
  · intro h; rw [n7] at h; cases h
  · exact h4
  · exact h5
  · intro a b; exact own_below (h6 a b) hb
  · intro a b; exact own_below (h7 a b) hb
  · intro _ _
    exact ⟨_, rfl, heap_alloc_new w _, fun a b => (fun e => by have := own_lt' (h6 a b) e; omega), fun a => (fun e => by have := own_lt' (h7 a n7) e; omega)⟩
  · intro a b; exact own_below (h9 a b) hb
  · intro a; exact own_below (h10 a) hb
  · exact h11
theorem InsD.a7 (h : InsD e sz W i n A B cs u L w) (hun : L.getD 7 true = false) (k4 : L.getD 4 false = true) (k6 : L.getD 6 false = true) (hr : w'.ownsRow W.heap.size e sz v' (i + 1) (A ++ cs.toList)) (hg : w.grownBy w' (u 4).ownBlock) : InsD e sz W i n A B cs (upd u 7 v') (L.setIfInBounds 7 true) w' := by
  have hn := getD_tf hun
  obtain ⟨h1, h2, h3, h4, h5, h6, h7, h8, h9, h10, h11⟩ := h
  have n11 : L.getD 11 false = false := by
    cases h' : L.getD 11 false with
    | false => rfl
    | true => have := h4 h'; rw [hn] at this; cases this
  have n12 : L.getD 12 false = false := by
    cases h' : L.getD 12 false with
    | false => rfl
    | true => have := h5 h'; rw [n11] at this; cases this
  have ho := h7 k4 hn
  refine ⟨h1.grown hg h1.size (fun k hk => own_base ho k hk), ?_, ?_, ?_, ?_, ?_, ?_, ?_, ?_, ?_, ?_⟩ <;> simp only [getD_set_ne false (show (7 : Nat) ≠ 0 by decide), getD_set_ne false (show (7 : Nat) ≠ 6 by decide), getD_set_ne false (show (7 : Nat) ≠ 4 by decide), getD_set_ne false (show (7 : Nat) ≠ 11 by decide), getD_set_ne false (show (7 : Nat) ≠ 12 by decide), getD_now hun, n11, n12, k4, k6, upd_same, upd_other u _ (show (0 : Nat) ≠ 7 by decide), upd_other u _ (show (6 : Nat) ≠ 7 by decide), upd_other u _ (show (4 : Nat) ≠ 7 by decide), upd_other u _ (show (11 : Nat) ≠ 7 by decide), upd_other u _ (show (12 : Nat) ≠ 7 by decide)]
  · intro _; exact h2 k4
  · intro _; exact ⟨trivial, trivial⟩
  · intro h; cases h
  · intro h; cases h
  · intro _ h; cases h
  · intro _ h; cases h
  · intro _ h; cases h
  · intro _ _; exact hr
  · intro h; cases h
  · intro h; cases h
theorem InsD.a11 (h : InsD e sz W i n A B cs u L w) (hun : L.getD 11 true = false) (k7 : L.getD 7 false = true) (hr : w'.ownsRow W.heap.size e sz v' n (A ++ cs.toList ++ B)) (hg : w.grownBy w' (u 7).ownBlock) : InsD e sz W i n A B cs (upd u 11 v') (L.setIfInBounds 11 true) w' := by
  have hn := getD_tf hun
  obtain ⟨h1, h2, h3, h4, h5, h6, h7, h8, h9, h10, h11⟩ := h
  have n12 : L.getD 12 false = false := by
    cases h' : L.getD 12 false with
    | false => rfl
    | true => have := h5 h'; rw [hn] at this; cases this
  have ho := h9 k7 hn
  obtain ⟨k4, k6⟩ := h3 k7
  refine ⟨h1.grown hg h1.size (fun k hk => own_base ho k hk), ?_, ?_, ?_, ?_, ?_, ?_, ?_, ?_, ?_, ?_⟩ <;> simp only [getD_set_ne false (show (11 : Nat) ≠ 0 by decide), getD_set_ne false (show (11 : Nat) ≠ 6 by decide), getD_set_ne false (show (11 : Nat) ≠ 4 by decide), getD_set_ne false (show (11 : Nat) ≠ 7 by decide), getD_set_ne false (show (11 : Nat) ≠ 12 by decide), getD_now hun, n12, k4, k6, k7, upd_same, upd_other u _ (show (0 : Nat) ≠ 11 by decide), upd_other u _ (show (6 : Nat) ≠ 11 by decide), upd_other u _ (show (4 : Nat) ≠ 11 by decide), upd_other u _ (show (7 : Nat) ≠ 11 by decide), upd_other u _ (show (12 : Nat) ≠ 11 by decide)]
  · intro _; exact h2 k4
  · intro _; exact ⟨trivial, trivial⟩
  · intro _; trivial
  · intro h; cases h
  · intro _ h; cases h
  · intro _ h; cases h
  · intro _ h; cases h
  · intro _ h; cases h
  · intro _; exact hr
  · intro h; cases h
theorem InsD.m12 (h : InsD e sz W i n A B cs u L w) (hun : L.getD 12 true = false) (k11 : L.getD 11 false = true) : InsD e sz W i n A B cs (upd u 12 (u 11)) (L.setIfInBounds 12 true) w := by
  obtain ⟨h1, h2, h3, h4, h5, h6, h7, h8, h9, h10, h11⟩ := h
  refine ⟨h1, ?_, ?_, ?_, ?_, ?_, ?_, ?_, ?_, ?_, ?_⟩ <;> simp only [getD_set_ne false (show (12 : Nat) ≠ 0 by decide), getD_set_ne false (show (12 : Nat) ≠ 6 by decide), getD_set_ne false (show (12 : Nat) ≠ 4 by decide), getD_set_ne false (show (12 : Nat) ≠ 7 by decide), getD_set_ne false (show (12 : Nat) ≠ 11 by decide), getD_now hun, upd_same, upd_other u _ (show (0 : Nat) ≠ 12 by decide), upd_other u _ (show (6 : Nat) ≠ 12 by decide), upd_other u _ (show (4 : Nat) ≠ 12 by decide), upd_other u _ (show (7 : Nat) ≠ 12 by decide), upd_other u _ (show (11 : Nat) ≠ 12 by decide)] <;> first | assumption | (intro _; first | exact k11 | trivial)
end
open Go.RowKit
theorem insG_stop {α : Type} {lt : α → α → Bool} (x : α) : ∀ (P : List α) (j : Nat), (∀ y ∈ P.take j, lt y x = true) → (P.length ≤ j ∨ ∃ h : j < P.length, lt P[j] x = false) → insG lt P x = P.take j ++ x :: P.drop j
  | [], j, _, _ => by simp [insG]
  | p :: P, 0, _, h2 => by
    rcases h2 with h2 | ⟨_, h2⟩
    · simp at h2
    · simp only [List.getElem_cons_zero] at h2
      simp [insG, h2]
  | p :: P, j + 1, h1, h2 => by
    have hp := h1 p (by simp)
    have ih := insG_stop x P j (fun y hy => h1 y (by rw [List.take_succ_cons]; exact List.mem_cons_of_mem _ hy)) (by
      rcases h2 with h2 | ⟨h3, h2⟩
      · exact .inl (by simpa using h2)
      · exact .inr ⟨by simpa using h3, by simpa using h2⟩)
    rw [insG] at ih
    rw [insG, List.takeWhile_cons, List.dropWhile_cons, hp]
    simp only [if_true, List.cons_append, List.take_succ_cons, List.drop_succ_cons]
    rw [ih]
theorem strW_take (l : List ByteArray) (k : Nat) : strW (l.take k) = (strW l).take k := by simp [strW, List.map_take]
theorem strW_drop (l : List ByteArray) (k : Nat) : strW (l.drop k) = (strW l).drop k := by simp [strW, List.map_drop]
theorem strW_cell (l : List ByteArray) : ∀ u ∈ strW l, u.oneCell' = true := by
  intro u hu
  rw [strW, List.mem_map] at hu
  obtain ⟨s, -, rfl⟩ := hu
  rfl
theorem strW_app (a b : List ByteArray) : strW (a ++ b) = strW a ++ strW b := by simp [strW]
theorem strW_cons (a : ByteArray) (b : List ByteArray) : strW (a :: b) = Value.string a :: strW b := rfl
theorem srcS_head {w : World} {base : Nat} {e : TypeId} {g c k : Nat} {l : List ByteArray} (h : w.ownsRow base e 1 (.slice (some ⟨g, 0, none⟩) l.length c) l.length (strW l)) (hk : k ≤ l.length) (c' : Nat) : SrcIs w 1 (.slice (some ⟨g, 0, none⟩) k c') k (strW (l.take k)) := by
  have := src_head h hk c'
  rw [Nat.mul_one] at this
  rw [strW_take]; exact this
theorem srcS_tail' {w w' : World} {base : Nat} {e : TypeId} {g c k m : Nat} {l : List ByteArray} (h : w.ownsRow base e 1 (.slice (some ⟨g, 0, none⟩) l.length c) l.length (strW l)) (hk : k ≤ l.length) (c' : Nat) (hm : m = l.length - k) (hb : Below w.heap.size w w') : SrcIs w' 1 (.slice (some ⟨g, k, none⟩) (l.length - k) c') m (strW (l.drop k)) := by
  have := (src_tail h hk c').below hb
  rw [Nat.mul_one] at this
  rw [strW_drop, hm]; exact this
theorem src_all {w : World} {base : Nat} {e : TypeId} {size g n c : Nat} {xs : List Value} (h : w.ownsRow base e size (.slice (some ⟨g, 0, none⟩) n c) n xs) : SrcIs w size (.slice (some ⟨g, 0, none⟩) n c) n xs := by
  have := src_head h (Nat.le_refl n) c
  rwa [← h.1, List.take_length] at this
def PutRel (l : List ByteArray) (x : ByteArray) (w : World) (i : Value) (wr : World) : Prop := ∃ k : Nat, k ≤ l.length ∧ i = .int .i64 k ∧ (∀ y ∈ l.take k, lessB y x = true) ∧ wr = w
set_option maxRecDepth 100000 in
set_option maxHeartbeats 6400000 in
theorem l2Put_any (l : List ByteArray) (v : Value) (x : ByteArray) (w : World) (h : w.ownsRow 0 9 1 v l.length (strW l)) (hx : x ∉ l) (hl : l.length ≤ 1000000) :
    Calls Tryz.prog 79 #[v, .string x] w fun e w' => ∃ v', e = .returned v' ∧ w'.ownsRow w.heap.size 9 1 v' (l.length + 1) (strW (insG lessB l x)) ∧ Below w.heap.size w w' := by
  have H := Lib.hid h
  have HX := Lib.hid hx
  rcases h.2 with ⟨rfl, h0⟩ | ⟨g, c, cur, rfl, -, -, hnc, -⟩
  · obtain rfl : l = [] := List.eq_nil_of_length_eq_zero h0
    clear h hx
    go_enter Tryz.func79, Tryz.ntmps79
    go_wp2
    go_loopw [5] (fun i wr => i = .int .i64 ((0 : Nat) : Int) ∧ wr = w) (fun _ _ => 0)
    case atStart => exact ⟨rfl, rfl⟩
    case round =>
      obtain ⟨rfl, rfl⟩ := hrel
      go_wp2
      refine wp_region_any3 [none, some (.slice none 0 0), some (.int .i64 (0 : Nat)), some (.slice none 0 0), none, some (.string x), none, none, some (.slice none 0 0), some (.int .i64 (0 : Nat)), some (.slice none 0 0), none, none] (InsD 9 1 wr 0 (0 + 1) ([]) ([]) (#[.string x])) (by kernel_rfl) (by kernel_rfl) (fun L hL => InsD.start hL) ?_
      refine flowV_ch rfl rfl (by intro u' hu' L w' hun hbe hD; go_simp; exact hD.b0 hun) ?_
      intro x0
      go_simp
      refine flowV_st rfl rfl (by intro u' L w' hun hbe hD; go_simp; first | exact ⟨hD.other 1 (by decide), rfl⟩ | exact hD.other 1 (by decide)) ?_
      go_simp
      refine flowV_st rfl rfl (by intro u' L w' hun hbe hD; go_simp; first | exact ⟨hD.other 2 (by decide), rfl⟩ | exact hD.other 2 (by decide)) ?_
      go_simp
      refine flowV_st rfl rfl (by intro u' L w' hun hbe hD; go_simp; first | exact ⟨hD.other 3 (by decide), rfl⟩ | exact hD.other 3 (by decide)) ?_
      go_simp
      refine flowV_ch rfl rfl ?_ ?_
      · intro u' hu' L w' hun hbe hD
        have hu0 : u' 0 = x0 := (after_eq hu' (by kernel_rfl)).trans (by simp [upd])
        have h0 := after_behind hbe (p := 0) (by kernel_rfl)
        have hw := hD.bel
        refine each_app (.tmp 33) (.tmp 36) 26 rfl wr.heap.size 9 1 16 elemStr (u' 0) 0 [] (by rw [hu0]; rfl) _ 0 ([]) rfl ((.inl ⟨rfl, rfl, rfl⟩)) (hD.r0 h0 (getD_tf hun)) (by simp) (by omega) (by unfold maxLen; omega) hw.size ?_
        intro v' w2 hr hg hn
        exact hD.a4 hun h0 hr hg hn
      intro x4
      go_simp
      refine flowV_st rfl rfl (by intro u' L w' hun hbe hD; have hw := hD.bel; go_simp; first | exact ⟨hD.other 5 (by decide), rfl⟩ | exact hD.other 5 (by decide)) ?_
      go_simp
      refine flowV_ch rfl rfl (by intro u' hu' L w' hun hbe hD; go_simp; exact hD.b6 hun) ?_
      intro x6
      go_simp
      refine flowV_ch rfl rfl ?_ ?_
      · intro u' hu' L w' hun hbe hD
        have hu4 : u' 4 = x4 := (after_eq hu' (by kernel_rfl)).trans (by simp [upd])
        have hu6 : u' 6 = x6 := (after_eq hu' (by kernel_rfl)).trans (by simp [upd])
        have h4 := after_behind hbe (p := 4) (by kernel_rfl)
        have h6 := after_behind hbe (p := 6) (by kernel_rfl)
        have hw := hD.bel
        obtain ⟨q, hq, hqc, -, -⟩ := hD.r6 h6 (getD_tf hun)
        refine each_app (.tmp 37) (.tmp 39) 26 rfl wr.heap.size 9 1 16 elemStr (u' 4) 0 ([]) (by rw [hu4]; rfl) (.slice (some ⟨q, 0, none⟩) 1 1) 1 (#[.string x]).toList (by rw [← hq, hu6]; rfl) (src_block hqc (by simp)) (hD.r4 h4 (getD_tf hun)) (by simp [Value.oneCell']) (by omega) (by unfold maxLen; omega) hw.size ?_
        intro v' w2 hr hg hn
        exact hD.a7 hun h4 h6 hr hg
      intro x7
      go_simp
      refine flowV_st rfl rfl (by intro u' L w' hun hbe hD; go_simp; first | exact ⟨hD.other 8 (by decide), rfl⟩ | exact hD.other 8 (by decide)) ?_
      go_simp
      refine flowV_st rfl rfl (by intro u' L w' hun hbe hD; go_simp; first | exact ⟨hD.other 9 (by decide), rfl⟩ | exact hD.other 9 (by decide)) ?_
      go_simp
      refine flowV_st rfl rfl (by intro u' L w' hun hbe hD; go_simp; first | exact ⟨hD.other 10 (by decide), rfl⟩ | exact hD.other 10 (by decide)) ?_
      go_simp
      refine flowV_ch rfl rfl ?_ ?_
      · intro u' hu' L w' hun hbe hD
        have hu7 : u' 7 = x7 := (after_eq hu' (by kernel_rfl)).trans (by simp [upd])
        have h7 := after_behind hbe (p := 7) (by kernel_rfl)
        have hw := hD.bel
        refine each_app (.tmp 40) (.tmp 43) 26 rfl wr.heap.size 9 1 16 elemStr (u' 7) (0 + 1) (([]) ++ (#[.string x]).toList) (by rw [hu7]; rfl) _ ((0 + 1) - (0 + 1)) ([]) rfl ((.inl ⟨rfl, by simp, rfl⟩)) (hD.r7 h7 (getD_tf hun)) (by simp) (by omega) (by unfold maxLen; omega) hw.size ?_
        intro v' w2 hr hg hn
        rw [show 0 + 1 + ((0 + 1) - (0 + 1)) = (0 + 1) by omega] at hr
        exact hD.a11 hun h7 hr hg
      intro x11
      go_simp
      refine flowV_ch rfl rfl ?_ ?_
      · intro u' hu' L w' hun hbe hD
        have hu11 : u' 11 = x11 := (after_eq hu' (by kernel_rfl)).trans (by simp [upd])
        have h11 := after_behind hbe (p := 11) (by kernel_rfl)
        go_simp
        rw [← hu11]
        exact hD.m12 hun h11
      intro x12
      go_simp
      refine flowV_nil ?_
      intro L w3 hL hD
      have hx12 : x12 = x11 := by have := hD.r12 (by simpa using hL 12 (by simp)); simpa [upd] using this
      have hrow : w3.ownsRow wr.heap.size 9 1 x11 (0 + 1) (([]) ++ (#[.string x]).toList ++ ([])) := by have := hD.r11 (by simpa using hL 11 (by simp)); simpa [upd] using this
      have hbel3 := hD.bel
      subst hx12
      go_wp2
      refine bodyPost_ret (v := x12) (by simp only [results, Tryz.results79]; go_simp) rfl ⟨_, rfl, ?_, hbel3⟩
      simpa [insG, strW] using hrow
  · have hg := bsz (own_lt h)
    have hci : l.length ≤ c := hnc
    clear h hx
    go_enter Tryz.func79, Tryz.ntmps79
    go_wp2
    go_loopw [5] (PutRel l x w) (fun i _ => l.length - (intOf i).toNat)
    case atStart => exact ⟨0, Nat.zero_le _, rfl, by simp, rfl⟩
    case round =>
      obtain ⟨k, hk, rfl, hle, rfl⟩ := hrel
      have HLE := Lib.hid hle
      clear hle
      by_cases hlt : k < l.length
      · have c0 : wr.cell? ⟨g, k, none⟩ = some (.string l[k]) := by rw [H.out.cellAt k (by omega), strW, List.getElem?_map, List.getElem?_eq_getElem hlt]; rfl
        have hne : l[k] ≠ x := fun e => HX.out (e ▸ List.getElem_mem hlt)
        have HK := Lib.hid (List.take_succ_eq_append_getElem hlt)
        obtain ⟨y, hy⟩ : ∃ y, l[k] = y := ⟨_, rfl⟩
        rw [hy] at c0 hne HK
        have HY := Lib.hid hy
        have hki : (k : Int) < l.length := by omega
        have hkc : (k : Int) ≤ c := by omega
        have hkc2 : k ≤ c := by omega
        have hlc : (l.length : Int) ≤ c := by omega
        have hkl : (k : Int) ≤ l.length := by omega
        have hck : c ≠ k := by omega
        have hne2 : (y.toList == x.toList) = false := by
          rw [Bool.eq_false_iff]; intro e; exact hne ((Lib.bytes_beq_iff y x).1 e)
        clear hy hne
        have hll : Op.bytesLess y.toList x.toList = lessB y x := by rw [lessB, ByteArray.toList_eq, ByteArray.toList_eq]
        cases hL : lessB y x
        · rw [hL] at hll
          have HL := Lib.hid hL
          clear hL
          go_wp2
          refine wp_region_any3 [none, some (.slice (some ⟨g, 0, none⟩) l.length c), some (.int .i64 (k : Nat)), some (.slice (some ⟨g, 0, none⟩) k c), none, some (.string x), none, none, some (.slice (some ⟨g, 0, none⟩) l.length c), some (.int .i64 (k : Nat)), some (.slice (some ⟨g, k, none⟩) (l.length - k) (c - k)), none, none] (InsD 9 1 wr k (l.length + 1) (strW (l.take k)) (strW (l.drop k)) (#[.string x])) (by kernel_rfl) (by kernel_rfl) (fun L hL => InsD.start hL) ?_
          refine flowV_ch rfl rfl (by intro u' hu' L w' hun hbe hD; go_simp; exact hD.b0 hun) ?_
          intro x0
          go_simp
          refine flowV_st rfl rfl (by intro u' L w' hun hbe hD; go_simp; first | exact ⟨hD.other 1 (by decide), rfl⟩ | exact hD.other 1 (by decide)) ?_
          go_simp
          refine flowV_st rfl rfl (by intro u' L w' hun hbe hD; go_simp; first | exact ⟨hD.other 2 (by decide), rfl⟩ | exact hD.other 2 (by decide)) ?_
          go_simp
          refine flowV_st rfl rfl (by intro u' L w' hun hbe hD; go_simp; first | exact ⟨hD.other 3 (by decide), rfl⟩ | exact hD.other 3 (by decide)) ?_
          go_simp
          refine flowV_ch rfl rfl ?_ ?_
          · intro u' hu' L w' hun hbe hD
            have hu0 : u' 0 = x0 := (after_eq hu' (by kernel_rfl)).trans (by simp [upd])
            have h0 := after_behind hbe (p := 0) (by kernel_rfl)
            have hw := hD.bel
            refine each_app (.tmp 33) (.tmp 36) 26 rfl wr.heap.size 9 1 16 elemStr (u' 0) 0 [] (by rw [hu0]; rfl) _ k (strW (l.take k)) rfl ((srcS_head H.out (Nat.le_of_lt hlt) c).below hw) (hD.r0 h0 (getD_tf hun)) (by first | exact strW_cell _ | simp) (by omega) (by unfold maxLen; omega) hw.size ?_
            intro v' w2 hr hg hn
            exact hD.a4 hun h0 hr hg hn
          intro x4
          go_simp
          refine flowV_st rfl rfl (by intro u' L w' hun hbe hD; have hw := hD.bel; go_simp; first | exact ⟨hD.other 5 (by decide), rfl⟩ | exact hD.other 5 (by decide)) ?_
          go_simp
          refine flowV_ch rfl rfl (by intro u' hu' L w' hun hbe hD; go_simp; exact hD.b6 hun) ?_
          intro x6
          go_simp
          refine flowV_ch rfl rfl ?_ ?_
          · intro u' hu' L w' hun hbe hD
            have hu4 : u' 4 = x4 := (after_eq hu' (by kernel_rfl)).trans (by simp [upd])
            have hu6 : u' 6 = x6 := (after_eq hu' (by kernel_rfl)).trans (by simp [upd])
            have h4 := after_behind hbe (p := 4) (by kernel_rfl)
            have h6 := after_behind hbe (p := 6) (by kernel_rfl)
            have hw := hD.bel
            obtain ⟨q, hq, hqc, -, -⟩ := hD.r6 h6 (getD_tf hun)
            refine each_app (.tmp 37) (.tmp 39) 26 rfl wr.heap.size 9 1 16 elemStr (u' 4) k (strW (l.take k)) (by rw [hu4]; rfl) (.slice (some ⟨q, 0, none⟩) 1 1) 1 (#[.string x]).toList (by rw [← hq, hu6]; rfl) (src_block hqc (by simp)) (hD.r4 h4 (getD_tf hun)) (by simp [Value.oneCell']) (by omega) (by unfold maxLen; omega) hw.size ?_
            intro v' w2 hr hg hn
            exact hD.a7 hun h4 h6 hr hg
          intro x7
          go_simp
          refine flowV_st rfl rfl (by intro u' L w' hun hbe hD; go_simp; first | exact ⟨hD.other 8 (by decide), rfl⟩ | exact hD.other 8 (by decide)) ?_
          go_simp
          refine flowV_st rfl rfl (by intro u' L w' hun hbe hD; go_simp; first | exact ⟨hD.other 9 (by decide), rfl⟩ | exact hD.other 9 (by decide)) ?_
          go_simp
          refine flowV_st rfl rfl (by intro u' L w' hun hbe hD; go_simp; first | exact ⟨hD.other 10 (by decide), rfl⟩ | exact hD.other 10 (by decide)) ?_
          go_simp
          refine flowV_ch rfl rfl ?_ ?_
          · intro u' hu' L w' hun hbe hD
            have hu7 : u' 7 = x7 := (after_eq hu' (by kernel_rfl)).trans (by simp [upd])
            have h7 := after_behind hbe (p := 7) (by kernel_rfl)
            have hw := hD.bel
            refine each_app (.tmp 40) (.tmp 43) 26 rfl wr.heap.size 9 1 16 elemStr (u' 7) (k + 1) ((strW (l.take k)) ++ (#[.string x]).toList) (by rw [hu7]; rfl) _ ((l.length + 1) - (k + 1)) (strW (l.drop k)) rfl (srcS_tail' H.out (Nat.le_of_lt hlt) (c - k) (by omega) hw) (hD.r7 h7 (getD_tf hun)) (by first | exact strW_cell _ | simp) (by omega) (by unfold maxLen; omega) hw.size ?_
            intro v' w2 hr hg hn
            rw [show k + 1 + ((l.length + 1) - (k + 1)) = (l.length + 1) by omega] at hr
            exact hD.a11 hun h7 hr hg
          intro x11
          go_simp
          refine flowV_ch rfl rfl ?_ ?_
          · intro u' hu' L w' hun hbe hD
            have hu11 : u' 11 = x11 := (after_eq hu' (by kernel_rfl)).trans (by simp [upd])
            have h11 := after_behind hbe (p := 11) (by kernel_rfl)
            go_simp
            rw [← hu11]
            exact hD.m12 hun h11
          intro x12
          go_simp
          refine flowV_nil ?_
          intro L w3 hL hD
          have hx12 : x12 = x11 := by have := hD.r12 (by simpa using hL 12 (by simp)); simpa [upd] using this
          have hrow : w3.ownsRow wr.heap.size 9 1 x11 (l.length + 1) ((strW (l.take k)) ++ (#[.string x]).toList ++ (strW (l.drop k))) := by have := hD.r11 (by simpa using hL 11 (by simp)); simpa [upd] using this
          have hbel3 := hD.bel
          subst hx12
          go_wp2
          refine bodyPost_ret (v := x12) (by simp only [results, Tryz.results79]; go_simp) rfl ⟨_, rfl, ?_, hbel3⟩
          rw [insG_stop x l k HLE.out (.inr ⟨hlt, by rw [HY.out]; exact HL.out⟩), strW_app, strW_cons]
          simpa using hrow
        · rw [hL] at hll
          have HL := Lib.hid hL
          clear hL
          go_wp2
          refine ⟨⟨k + 1, by omega, by go_num, fun z hz => ?_, rfl⟩, by simp [intOf]; omega⟩
          rw [HK.out] at hz
          rcases List.mem_append.1 hz with hz | hz
          · exact HLE.out z hz
          · obtain rfl : z = y := by simpa using hz
            exact HL.out
      · obtain rfl : k = l.length := by omega
        have hkl : (l.length : Int) ≤ c := by omega
        have hkn : ¬ (l.length : Int) < l.length := by omega
        by_cases hcl : c = l.length
        · subst hcl
          go_wp2
          refine wp_region_any3 [none, some (.slice (some ⟨g, 0, none⟩) l.length l.length), some (.int .i64 (l.length : Nat)), some (.slice (some ⟨g, 0, none⟩) l.length l.length), none, some (.string x), none, none, some (.slice (some ⟨g, 0, none⟩) l.length l.length), some (.int .i64 (l.length : Nat)), some (.slice (some ⟨g, 0, none⟩) 0 0), none, none] (InsD 9 1 wr l.length (l.length + 1) (strW l) ([]) (#[.string x])) (by kernel_rfl) (by kernel_rfl) (fun L hL => InsD.start hL) ?_
          refine flowV_ch rfl rfl (by intro u' hu' L w' hun hbe hD; go_simp; exact hD.b0 hun) ?_
          intro x0
          go_simp
          refine flowV_st rfl rfl (by intro u' L w' hun hbe hD; go_simp; first | exact ⟨hD.other 1 (by decide), rfl⟩ | exact hD.other 1 (by decide)) ?_
          go_simp
          refine flowV_st rfl rfl (by intro u' L w' hun hbe hD; go_simp; first | exact ⟨hD.other 2 (by decide), rfl⟩ | exact hD.other 2 (by decide)) ?_
          go_simp
          refine flowV_st rfl rfl (by intro u' L w' hun hbe hD; go_simp; first | exact ⟨hD.other 3 (by decide), rfl⟩ | exact hD.other 3 (by decide)) ?_
          go_simp
          refine flowV_ch rfl rfl ?_ ?_
          · intro u' hu' L w' hun hbe hD
            have hu0 : u' 0 = x0 := (after_eq hu' (by kernel_rfl)).trans (by simp [upd])
            have h0 := after_behind hbe (p := 0) (by kernel_rfl)
            have hw := hD.bel
            refine each_app (.tmp 33) (.tmp 36) 26 rfl wr.heap.size 9 1 16 elemStr (u' 0) 0 [] (by rw [hu0]; rfl) _ l.length (strW l) rfl ((src_all H.out).below hw) (hD.r0 h0 (getD_tf hun)) (by first | exact strW_cell _ | simp) (by omega) (by unfold maxLen; omega) hw.size ?_
            intro v' w2 hr hg hn
            exact hD.a4 hun h0 hr hg hn
          intro x4
          go_simp
          refine flowV_st rfl rfl (by intro u' L w' hun hbe hD; have hw := hD.bel; go_simp; first | exact ⟨hD.other 5 (by decide), rfl⟩ | exact hD.other 5 (by decide)) ?_
          go_simp
          refine flowV_ch rfl rfl (by intro u' hu' L w' hun hbe hD; go_simp; exact hD.b6 hun) ?_
          intro x6
          go_simp
          refine flowV_ch rfl rfl ?_ ?_
          · intro u' hu' L w' hun hbe hD
            have hu4 : u' 4 = x4 := (after_eq hu' (by kernel_rfl)).trans (by simp [upd])
            have hu6 : u' 6 = x6 := (after_eq hu' (by kernel_rfl)).trans (by simp [upd])
            have h4 := after_behind hbe (p := 4) (by kernel_rfl)
            have h6 := after_behind hbe (p := 6) (by kernel_rfl)
            have hw := hD.bel
            obtain ⟨q, hq, hqc, -, -⟩ := hD.r6 h6 (getD_tf hun)
            refine each_app (.tmp 37) (.tmp 39) 26 rfl wr.heap.size 9 1 16 elemStr (u' 4) l.length (strW l) (by rw [hu4]; rfl) (.slice (some ⟨q, 0, none⟩) 1 1) 1 (#[.string x]).toList (by rw [← hq, hu6]; rfl) (src_block hqc (by simp)) (hD.r4 h4 (getD_tf hun)) (by simp [Value.oneCell']) (by omega) (by unfold maxLen; omega) hw.size ?_
            intro v' w2 hr hg hn
            exact hD.a7 hun h4 h6 hr hg
          intro x7
          go_simp
          refine flowV_st rfl rfl (by intro u' L w' hun hbe hD; go_simp; first | exact ⟨hD.other 8 (by decide), rfl⟩ | exact hD.other 8 (by decide)) ?_
          go_simp
          refine flowV_st rfl rfl (by intro u' L w' hun hbe hD; go_simp; first | exact ⟨hD.other 9 (by decide), rfl⟩ | exact hD.other 9 (by decide)) ?_
          go_simp
          refine flowV_st rfl rfl (by intro u' L w' hun hbe hD; go_simp; first | exact ⟨hD.other 10 (by decide), rfl⟩ | exact hD.other 10 (by decide)) ?_
          go_simp
          refine flowV_ch rfl rfl ?_ ?_
          · intro u' hu' L w' hun hbe hD
            have hu7 : u' 7 = x7 := (after_eq hu' (by kernel_rfl)).trans (by simp [upd])
            have h7 := after_behind hbe (p := 7) (by kernel_rfl)
            have hw := hD.bel
            refine each_app (.tmp 40) (.tmp 43) 26 rfl wr.heap.size 9 1 16 elemStr (u' 7) (l.length + 1) ((strW l) ++ (#[.string x]).toList) (by rw [hu7]; rfl) _ ((l.length + 1) - (l.length + 1)) ([]) rfl (srcNil (by omega)) (hD.r7 h7 (getD_tf hun)) (by first | exact strW_cell _ | simp) (by omega) (by unfold maxLen; omega) hw.size ?_
            intro v' w2 hr hg hn
            rw [show l.length + 1 + ((l.length + 1) - (l.length + 1)) = (l.length + 1) by omega] at hr
            exact hD.a11 hun h7 hr hg
          intro x11
          go_simp
          refine flowV_ch rfl rfl ?_ ?_
          · intro u' hu' L w' hun hbe hD
            have hu11 : u' 11 = x11 := (after_eq hu' (by kernel_rfl)).trans (by simp [upd])
            have h11 := after_behind hbe (p := 11) (by kernel_rfl)
            go_simp
            rw [← hu11]
            exact hD.m12 hun h11
          intro x12
          go_simp
          refine flowV_nil ?_
          intro L w3 hL hD
          have hx12 : x12 = x11 := by have := hD.r12 (by simpa using hL 12 (by simp)); simpa [upd] using this
          have hrow : w3.ownsRow wr.heap.size 9 1 x11 (l.length + 1) ((strW l) ++ (#[.string x]).toList ++ ([])) := by have := hD.r11 (by simpa using hL 11 (by simp)); simpa [upd] using this
          have hbel3 := hD.bel
          subst hx12
          go_wp2
          refine bodyPost_ret (v := x12) (by simp only [results, Tryz.results79]; go_simp) rfl ⟨_, rfl, ?_, hbel3⟩
          rw [insG_stop x l l.length HLE.out (.inl (Nat.le_refl _)), List.take_length, List.drop_length, strW_app, strW_cons]
          simpa [strW] using hrow
        · have hcl2 : ¬ l.length = c := fun e => hcl e.symm
          go_wp2
          refine wp_region_any3 [none, some (.slice (some ⟨g, 0, none⟩) l.length c), some (.int .i64 (l.length : Nat)), some (.slice (some ⟨g, 0, none⟩) l.length c), none, some (.string x), none, none, some (.slice (some ⟨g, 0, none⟩) l.length c), some (.int .i64 (l.length : Nat)), some (.slice (some ⟨g, l.length, none⟩) 0 (c - l.length)), none, none] (InsD 9 1 wr l.length (l.length + 1) (strW l) ([]) (#[.string x])) (by kernel_rfl) (by kernel_rfl) (fun L hL => InsD.start hL) ?_
          refine flowV_ch rfl rfl (by intro u' hu' L w' hun hbe hD; go_simp; exact hD.b0 hun) ?_
          intro x0
          go_simp
          refine flowV_st rfl rfl (by intro u' L w' hun hbe hD; go_simp; first | exact ⟨hD.other 1 (by decide), rfl⟩ | exact hD.other 1 (by decide)) ?_
          go_simp
          refine flowV_st rfl rfl (by intro u' L w' hun hbe hD; go_simp; first | exact ⟨hD.other 2 (by decide), rfl⟩ | exact hD.other 2 (by decide)) ?_
          go_simp
          refine flowV_st rfl rfl (by intro u' L w' hun hbe hD; go_simp; first | exact ⟨hD.other 3 (by decide), rfl⟩ | exact hD.other 3 (by decide)) ?_
          go_simp
          refine flowV_ch rfl rfl ?_ ?_
          · intro u' hu' L w' hun hbe hD
            have hu0 : u' 0 = x0 := (after_eq hu' (by kernel_rfl)).trans (by simp [upd])
            have h0 := after_behind hbe (p := 0) (by kernel_rfl)
            have hw := hD.bel
            refine each_app (.tmp 33) (.tmp 36) 26 rfl wr.heap.size 9 1 16 elemStr (u' 0) 0 [] (by rw [hu0]; rfl) _ l.length (strW l) rfl ((src_all H.out).below hw) (hD.r0 h0 (getD_tf hun)) (by first | exact strW_cell _ | simp) (by omega) (by unfold maxLen; omega) hw.size ?_
            intro v' w2 hr hg hn
            exact hD.a4 hun h0 hr hg hn
          intro x4
          go_simp
          refine flowV_st rfl rfl (by intro u' L w' hun hbe hD; have hw := hD.bel; go_simp; first | exact ⟨hD.other 5 (by decide), rfl⟩ | exact hD.other 5 (by decide)) ?_
          go_simp
          refine flowV_ch rfl rfl (by intro u' hu' L w' hun hbe hD; go_simp; exact hD.b6 hun) ?_
          intro x6
          go_simp
          refine flowV_ch rfl rfl ?_ ?_
          · intro u' hu' L w' hun hbe hD
            have hu4 : u' 4 = x4 := (after_eq hu' (by kernel_rfl)).trans (by simp [upd])
            have hu6 : u' 6 = x6 := (after_eq hu' (by kernel_rfl)).trans (by simp [upd])
            have h4 := after_behind hbe (p := 4) (by kernel_rfl)
            have h6 := after_behind hbe (p := 6) (by kernel_rfl)
            have hw := hD.bel
            obtain ⟨q, hq, hqc, -, -⟩ := hD.r6 h6 (getD_tf hun)
            refine each_app (.tmp 37) (.tmp 39) 26 rfl wr.heap.size 9 1 16 elemStr (u' 4) l.length (strW l) (by rw [hu4]; rfl) (.slice (some ⟨q, 0, none⟩) 1 1) 1 (#[.string x]).toList (by rw [← hq, hu6]; rfl) (src_block hqc (by simp)) (hD.r4 h4 (getD_tf hun)) (by simp [Value.oneCell']) (by omega) (by unfold maxLen; omega) hw.size ?_
            intro v' w2 hr hg hn
            exact hD.a7 hun h4 h6 hr hg
          intro x7
          go_simp
          refine flowV_st rfl rfl (by intro u' L w' hun hbe hD; go_simp; first | exact ⟨hD.other 8 (by decide), rfl⟩ | exact hD.other 8 (by decide)) ?_
          go_simp
          refine flowV_st rfl rfl (by intro u' L w' hun hbe hD; go_simp; first | exact ⟨hD.other 9 (by decide), rfl⟩ | exact hD.other 9 (by decide)) ?_
          go_simp
          refine flowV_st rfl rfl (by intro u' L w' hun hbe hD; go_simp; first | exact ⟨hD.other 10 (by decide), rfl⟩ | exact hD.other 10 (by decide)) ?_
          go_simp
          refine flowV_ch rfl rfl ?_ ?_
          · intro u' hu' L w' hun hbe hD
            have hu7 : u' 7 = x7 := (after_eq hu' (by kernel_rfl)).trans (by simp [upd])
            have h7 := after_behind hbe (p := 7) (by kernel_rfl)
            have hw := hD.bel
            refine each_app (.tmp 40) (.tmp 43) 26 rfl wr.heap.size 9 1 16 elemStr (u' 7) (l.length + 1) ((strW l) ++ (#[.string x]).toList) (by rw [hu7]; rfl) _ ((l.length + 1) - (l.length + 1)) ([]) rfl (srcNil (by omega)) (hD.r7 h7 (getD_tf hun)) (by first | exact strW_cell _ | simp) (by omega) (by unfold maxLen; omega) hw.size ?_
            intro v' w2 hr hg hn
            rw [show l.length + 1 + ((l.length + 1) - (l.length + 1)) = (l.length + 1) by omega] at hr
            exact hD.a11 hun h7 hr hg
          intro x11
          go_simp
          refine flowV_ch rfl rfl ?_ ?_
          · intro u' hu' L w' hun hbe hD
            have hu11 : u' 11 = x11 := (after_eq hu' (by kernel_rfl)).trans (by simp [upd])
            have h11 := after_behind hbe (p := 11) (by kernel_rfl)
            go_simp
            rw [← hu11]
            exact hD.m12 hun h11
          intro x12
          go_simp
          refine flowV_nil ?_
          intro L w3 hL hD
          have hx12 : x12 = x11 := by have := hD.r12 (by simpa using hL 12 (by simp)); simpa [upd] using this
          have hrow : w3.ownsRow wr.heap.size 9 1 x11 (l.length + 1) ((strW l) ++ (#[.string x]).toList ++ ([])) := by have := hD.r11 (by simpa using hL 11 (by simp)); simpa [upd] using this
          have hbel3 := hD.bel
          subst hx12
          go_wp2
          refine bodyPost_ret (v := x12) (by simp only [results, Tryz.results79]; go_simp) rfl ⟨_, rfl, ?_, hbel3⟩
          rw [insG_stop x l l.length HLE.out (.inl (Nat.le_refl _)), List.take_length, List.drop_length, strW_app, strW_cons]
          simpa [strW] using hrow
open Go.RowKit
def kwUnit : List UInt8 := [117, 110, 105, 116, 32]
def kwInc : List UInt8 := [105, 110, 99, 108, 117, 100, 101, 32]
def kwAx : List UInt8 := [97, 120, 105, 111, 109, 32]
def kwGoal : List UInt8 := [103, 111, 97, 108, 32]
def lineU (k : List UInt8) (s : ByteArray) : List UInt8 := k ++ s.data.toList ++ [10]
def linesU (k : List UInt8) (us : List ByteArray) : List UInt8 := us.flatMap (lineU k)
def Un.txt (u : Un) : List UInt8 := lineU kwUnit u.name ++ linesU kwInc u.incs ++ linesU kwAx u.axs ++ (if u.goal.toList == [] then [] else lineU kwGoal u.goal)
theorem linesU_len (k : List UInt8) : ∀ us : List ByteArray, (linesU k us).length = (k.length + 1) * us.length + wtS us
  | [] => by simp [linesU, wtS]
  | a :: us => by
    have := linesU_len k us
    rw [linesU] at this
    rw [linesU, List.flatMap_cons, List.length_append, this, lineU, wtS, List.length_append, List.length_append, ← size_list]
    simp only [List.length_cons, List.length_nil, Nat.mul_succ]; omega
theorem linesU_take (k : List UInt8) {us : List ByteArray} {i : Nat} (h : i < us.length) : linesU k (us.take (i + 1)) = linesU k (us.take i) ++ lineU k us[i] := by
  rw [List.take_succ_eq_append_getElem h, linesU, linesU, List.flatMap_append]; simp
theorem wtS_take : ∀ (us : List ByteArray) (i : Nat), wtS (us.take i) ≤ wtS us
  | [], i => by simp [wtS]
  | a :: us, 0 => by simp [wtS]
  | a :: us, i + 1 => by have := wtS_take us i; rw [List.take_succ_cons, wtS, wtS]; omega
theorem linesU_bd {k : List UInt8} {us : List ByteArray} {i N : Nat} (hk : k.length = N) (h : i < us.length) : (linesU k (us.take i)).length + us[i].size ≤ (N + 1) * us.length + wtS us := by
  have h1 := linesU_len k (us.take (i + 1))
  rw [linesU_take k h, List.length_append, lineU, List.length_append, List.length_append, ← size_list, hk] at h1
  have h2 := wtS_take us (i + 1)
  have h3 : (us.take (i + 1)).length ≤ us.length := by rw [List.length_take]; omega
  have h4 : (N + 1) * (us.take (i + 1)).length ≤ (N + 1) * us.length := Nat.mul_le_mul_left _ h3
  omega
theorem Un.wt_eq (u : Un) : u.wt = u.name.size + (u.incs.length + wtS u.incs) + (u.axs.length + wtS u.axs) + u.goal.size := rfl
set_option maxRecDepth 100000 in
set_option maxHeartbeats 3200000 in
theorem formatUnit_any {B : Nat → Prop} (u : Un) (v0 v1 v2 v3 : Value) (w : World) (h : UnAt B w u [v0, v1, v2, v3]) (hw : u.wt ≤ 1000000000000) :
    Calls Tryz.prog 59 #[.agg #[v0, v1, v2, v3]] w fun e w' => e = .returned (.string ⟨u.txt.toArray⟩) ∧ Below w.heap.size w w' := by
  obtain ⟨p, c, q, d, rfl, rfl, rfl, rfl, hn, hg, l1, l2, hi, ha⟩ := h.form
  unfold maxLen at l1 l2
  have HI := Lib.hid hi
  have HA := Lib.hid ha
  have HU0 := Lib.hid (show UBox u p q c d w (w.alloc (.cells #[.string u.name, .slice p u.incs.length c, .slice q u.axs.length d, .string u.goal] 34)) from ⟨(Below.refl _ _).alloc (Nat.le_refl _) _, heap_alloc_new w _⟩)
  have HW := Lib.hid u.wt_eq
  have hns : u.name.size ≤ 1000000000000 := by have := u.wt_eq; omega
  have hgs : u.goal.size ≤ 1000000000000 := by have := u.wt_eq; omega
  clear h hi ha
  go_enter Tryz.func59, Tryz.ntmps59
  go_wp2
  go_loopw [3, 15] (fun o i wr => ∃ k : Nat, k ≤ u.incs.length ∧ i = .int .i64 k ∧ o = .string ⟨(lineU kwUnit u.name ++ linesU kwInc (u.incs.take k)).toArray⟩ ∧ UBox u p q c d w wr) (fun _ i _ => u.incs.length - (intOf i).toNat)
  case atStart => exact ⟨0, Nat.zero_le _, rfl, congrArg Value.string (by apply ByteArray.ext; simp [lineU, kwUnit, linesU]), HU0.out⟩
  case round =>
    obtain ⟨k, hk, rfl, rfl, hub⟩ := hrel
    have HUB := Lib.hid hub
    have hb := hub.bel
    have hqz := hb.size
    obtain ⟨x0, x1, x2, x3⟩ := hub.cells
    have zub := bsz (heap_lt hub.cell)
    clear hub HU0
    by_cases hlt : k < u.incs.length
    · obtain ⟨b, o, rfl, hB, hx0, hxs⟩ := (HI.out.below hb).at_ hlt
      have HT := Lib.hid (linesU_take kwInc hlt)
      have hbd := linesU_bd (k := kwInc) (N := 8) rfl hlt
      obtain ⟨a, hae⟩ : ∃ a, u.incs[k] = a := ⟨_, rfl⟩
      rw [hae] at hx0 hxs HT hbd
      clear hae
      have zb := bsz (World.block_lt_of_cell? _ _ hx0)
      have hss : (lineU kwUnit u.name).length = 6 + u.name.size := by rw [lineU, List.length_append, List.length_append, ← size_list, kwUnit]; simp only [List.length_cons, List.length_nil]; omega
      have hll : (lineU kwUnit u.name ++ linesU kwInc (u.incs.take k)).length + a.size ≤ 20000000000000 := by
        rw [List.length_append, hss]
        have := HW.out
        omega
      generalize linesU kwInc (u.incs.take k) = L at *
      have hgd : ¬ 9223372036854775807 < 6 + u.name.size + L.length + (8 + a.size + 1) := by rw [List.length_append, hss] at hll; omega
      go_wp2
      refine ⟨⟨k + 1, by omega, by go_num, ?_, HUB.out⟩, by simp [intOf]; omega⟩
      rw [HT.out]
      exact congrArg Value.string (by apply ByteArray.ext; simp [lineU, kwInc])
    · obtain rfl : k = u.incs.length := by omega
      have hA : (lineU kwUnit u.name ++ linesU kwInc (u.incs.take u.incs.length)).length ≤ 10 * u.wt + 10 := by
        rw [List.take_length, List.length_append, linesU_len, lineU, List.length_append, List.length_append, ← size_list, kwUnit, kwInc]
        simp only [List.length_cons, List.length_nil]
        have := HW.out
        omega
      have HTX := Lib.hid (show u.txt = lineU kwUnit u.name ++ linesU kwInc (u.incs.take u.incs.length) ++ linesU kwAx u.axs ++ (if u.goal.toList == [] then [] else lineU kwGoal u.goal) by rw [List.take_length]; rfl)
      generalize lineU kwUnit u.name ++ linesU kwInc (u.incs.take u.incs.length) = A at *
      go_wp2
      go_loopw [3, 28] (fun o i wr => ∃ k : Nat, k ≤ u.axs.length ∧ i = .int .i64 k ∧ o = .string ⟨(A ++ linesU kwAx (u.axs.take k)).toArray⟩ ∧ UBox u p q c d w wr) (fun _ i _ => u.axs.length - (intOf i).toNat)
      case atStart => exact ⟨0, Nat.zero_le _, rfl, congrArg Value.string (by apply ByteArray.ext; simp [linesU]), HUB.out⟩
      case round =>
        clear HUB x0 x1 x2 x3 zub hb
        obtain ⟨k, hk, rfl, rfl, hub⟩ := hrel
        have HUB := Lib.hid hub
        have hb := hub.bel
        have hqz := hb.size
        obtain ⟨x0, x1, x2, x3⟩ := hub.cells
        have zub := bsz (heap_lt hub.cell)
        clear hub
        by_cases hlt : k < u.axs.length
        · obtain ⟨b, o, rfl, hB, hx0, hxs⟩ := (HA.out.below hb).at_ hlt
          have HT := Lib.hid (linesU_take kwAx hlt)
          have hbd := linesU_bd (k := kwAx) (N := 6) rfl hlt
          obtain ⟨a, hae⟩ : ∃ a, u.axs[k] = a := ⟨_, rfl⟩
          rw [hae] at hx0 hxs HT hbd
          clear hae
          have zb := bsz (World.block_lt_of_cell? _ _ hx0)
          generalize linesU kwAx (u.axs.take k) = L at *
          have hgd : ¬ 9223372036854775807 < A.length + L.length + (6 + a.size + 1) := by have := HW.out; omega
          go_wp2
          refine ⟨⟨k + 1, by omega, by go_num, ?_, HUB.out⟩, by simp [intOf]; omega⟩
          rw [HT.out]
          exact congrArg Value.string (by apply ByteArray.ext; simp [lineU, kwAx])
        · obtain rfl : k = u.axs.length := by omega
          have hL : (linesU kwAx (u.axs.take u.axs.length)).length ≤ 10 * u.wt := by
            rw [List.take_length, linesU_len, kwAx]
            simp only [List.length_cons, List.length_nil]
            have := HW.out
            omega
          have HTX2 := Lib.hid (show u.txt = A ++ linesU kwAx (u.axs.take u.axs.length) ++ (if u.goal.toList == [] then [] else lineU kwGoal u.goal) by rw [List.take_length]; exact HTX.out)
          generalize linesU kwAx (u.axs.take u.axs.length) = L at *
          have hgd : ¬ 9223372036854775807 < A.length + L.length + (5 + u.goal.size + 1) := by have := HW.out; omega
          cases h6 : (u.goal.toList == [])
          all_goals
            have H6 := Lib.hid h6
            go_wp2
            go_ret
          · exact ⟨by rw [HTX2.out, H6.out, if_neg (by simp)]; exact congrArg (fun x => Ending.returned (Value.string x)) (by apply ByteArray.ext; simp [lineU, kwGoal]), by exact bel⟩
          · exact ⟨by rw [HTX2.out, H6.out, if_pos rfl, List.append_nil]; rfl, by exact bel⟩
set_option maxRecDepth 100000 in
set_option maxHeartbeats 3200000 in
theorem l27Lines_any {B : Nat → Prop} (u : Un) (v0 v1 v2 v3 : Value) (w : World) (h : UnAt B w u [v0, v1, v2, v3]) (hw : u.wt ≤ 1000000000000) :
    Calls Tryz.prog 63 #[.agg #[v0, v1, v2, v3]] w fun e w' => e = .returned (.string ⟨u.txt.toArray⟩) ∧ Below w.heap.size w w' := by
  obtain ⟨p, c, q, d, rfl, rfl, rfl, rfl, hn, hg, l1, l2, hi, ha⟩ := h.form
  unfold maxLen at l1 l2
  have HI := Lib.hid hi
  have HA := Lib.hid ha
  have HU0 := Lib.hid (show UBox u p q c d w (w.alloc (.cells #[.string u.name, .slice p u.incs.length c, .slice q u.axs.length d, .string u.goal] 34)) from ⟨(Below.refl _ _).alloc (Nat.le_refl _) _, heap_alloc_new w _⟩)
  have HW := Lib.hid u.wt_eq
  have hns : u.name.size ≤ 1000000000000 := by have := u.wt_eq; omega
  have hgs : u.goal.size ≤ 1000000000000 := by have := u.wt_eq; omega
  clear h hi ha
  go_enter Tryz.func63, Tryz.ntmps63
  go_wp2
  go_loopw [3, 4] (fun o i wr => ∃ k : Nat, k ≤ u.incs.length ∧ i = .int .i64 k ∧ o = .string ⟨(lineU kwUnit u.name ++ linesU kwInc (u.incs.take k)).toArray⟩ ∧ UBox u p q c d w wr) (fun _ i _ => u.incs.length - (intOf i).toNat)
  case atStart => exact ⟨0, Nat.zero_le _, rfl, congrArg Value.string (by apply ByteArray.ext; simp [lineU, kwUnit, linesU]), HU0.out⟩
  case round =>
    obtain ⟨k, hk, rfl, rfl, hub⟩ := hrel
    have HUB := Lib.hid hub
    have hb := hub.bel
    have hqz := hb.size
    obtain ⟨x0, x1, x2, x3⟩ := hub.cells
    have zub := bsz (heap_lt hub.cell)
    clear hub HU0
    by_cases hlt : k < u.incs.length
    · obtain ⟨b, o, rfl, hB, hx0, hxs⟩ := (HI.out.below hb).at_ hlt
      have HT := Lib.hid (linesU_take kwInc hlt)
      have hbd := linesU_bd (k := kwInc) (N := 8) rfl hlt
      obtain ⟨a, hae⟩ : ∃ a, u.incs[k] = a := ⟨_, rfl⟩
      rw [hae] at hx0 hxs HT hbd
      clear hae
      have zb := bsz (World.block_lt_of_cell? _ _ hx0)
      have hss : (lineU kwUnit u.name).length = 6 + u.name.size := by rw [lineU, List.length_append, List.length_append, ← size_list, kwUnit]; simp only [List.length_cons, List.length_nil]; omega
      generalize linesU kwInc (u.incs.take k) = L at *
      generalize lineU kwUnit u.name = A at *
      have hgd : ¬ 9223372036854775807 < A.length + L.length + 8 := by have := HW.out; omega
      have hge : ¬ 9223372036854775807 < A.length + L.length + 8 + a.size := by have := HW.out; omega
      have hgf : ¬ 9223372036854775807 < A.length + L.length + 8 + a.size + 1 := by have := HW.out; omega
      go_wp2
      refine ⟨⟨k + 1, by omega, by go_num, ?_, HUB.out⟩, by simp [intOf]; omega⟩
      rw [HT.out]
      exact congrArg Value.string (by apply ByteArray.ext; simp [lineU, kwInc])
    · obtain rfl : k = u.incs.length := by omega
      have hA : (lineU kwUnit u.name ++ linesU kwInc (u.incs.take u.incs.length)).length ≤ 10 * u.wt + 10 := by
        rw [List.take_length, List.length_append, linesU_len, lineU, List.length_append, List.length_append, ← size_list, kwUnit, kwInc]
        simp only [List.length_cons, List.length_nil]
        have := HW.out
        omega
      have HTX := Lib.hid (show u.txt = lineU kwUnit u.name ++ linesU kwInc (u.incs.take u.incs.length) ++ linesU kwAx u.axs ++ (if u.goal.toList == [] then [] else lineU kwGoal u.goal) by rw [List.take_length]; rfl)
      generalize lineU kwUnit u.name ++ linesU kwInc (u.incs.take u.incs.length) = A at *
      go_wp2
      go_loopw [3, 5] (fun o i wr => ∃ k : Nat, k ≤ u.axs.length ∧ i = .int .i64 k ∧ o = .string ⟨(A ++ linesU kwAx (u.axs.take k)).toArray⟩ ∧ UBox u p q c d w wr) (fun _ i _ => u.axs.length - (intOf i).toNat)
      case atStart => exact ⟨0, Nat.zero_le _, rfl, congrArg Value.string (by apply ByteArray.ext; simp [linesU]), HUB.out⟩
      case round =>
        clear HUB x0 x1 x2 x3 zub hb
        obtain ⟨k, hk, rfl, rfl, hub⟩ := hrel
        have HUB := Lib.hid hub
        have hb := hub.bel
        have hqz := hb.size
        obtain ⟨x0, x1, x2, x3⟩ := hub.cells
        have zub := bsz (heap_lt hub.cell)
        clear hub
        by_cases hlt : k < u.axs.length
        · obtain ⟨b, o, rfl, hB, hx0, hxs⟩ := (HA.out.below hb).at_ hlt
          have HT := Lib.hid (linesU_take kwAx hlt)
          have hbd := linesU_bd (k := kwAx) (N := 6) rfl hlt
          obtain ⟨a, hae⟩ : ∃ a, u.axs[k] = a := ⟨_, rfl⟩
          rw [hae] at hx0 hxs HT hbd
          clear hae
          have zb := bsz (World.block_lt_of_cell? _ _ hx0)
          generalize linesU kwAx (u.axs.take k) = L at *
          have hgd : ¬ 9223372036854775807 < A.length + L.length + 6 := by have := HW.out; omega
          have hge : ¬ 9223372036854775807 < A.length + L.length + 6 + a.size := by have := HW.out; omega
          have hgf : ¬ 9223372036854775807 < A.length + L.length + 6 + a.size + 1 := by have := HW.out; omega
          go_wp2
          refine ⟨⟨k + 1, by omega, by go_num, ?_, HUB.out⟩, by simp [intOf]; omega⟩
          rw [HT.out]
          exact congrArg Value.string (by apply ByteArray.ext; simp [lineU, kwAx])
        · obtain rfl : k = u.axs.length := by omega
          have hL : (linesU kwAx (u.axs.take u.axs.length)).length ≤ 10 * u.wt := by
            rw [List.take_length, linesU_len, kwAx]
            simp only [List.length_cons, List.length_nil]
            have := HW.out
            omega
          have HTX2 := Lib.hid (show u.txt = A ++ linesU kwAx (u.axs.take u.axs.length) ++ (if u.goal.toList == [] then [] else lineU kwGoal u.goal) by rw [List.take_length]; exact HTX.out)
          generalize linesU kwAx (u.axs.take u.axs.length) = L at *
          have hgd : ¬ 9223372036854775807 < A.length + L.length + 5 := by have := HW.out; omega
          have hge : ¬ 9223372036854775807 < A.length + L.length + 5 + u.goal.size := by have := HW.out; omega
          have hgf : ¬ 9223372036854775807 < A.length + L.length + 5 + u.goal.size + 1 := by have := HW.out; omega
          cases h6 : (u.goal.toList == [])
          all_goals
            have H6 := Lib.hid h6
            go_wp2
            go_ret
          · exact ⟨by rw [HTX2.out, H6.out, if_neg (by simp)]; exact congrArg (fun x => Ending.returned (Value.string x)) (by apply ByteArray.ext; simp [lineU, kwGoal]), by exact bel⟩
          · exact ⟨by rw [HTX2.out, H6.out, if_pos rfl, List.append_nil]; rfl, by exact bel⟩
open Go.RowKit
theorem hasB_cons (a : UInt8) (b : List UInt8) (x : UInt8) : hasB (a :: b) x = ((a == x) || hasB b x) := by simp [hasB]
open Go.RowKit
def cut1 : List UInt8 → UInt8 → List UInt8 × List UInt8 × Bool
  | [], _ => ([], [], false)
  | x :: l, b => if x == b then ([], l, true) else (x :: (cut1 l b).1, (cut1 l b).2.1, (cut1 l b).2.2)
theorem cut_one (l : List UInt8) (b : UInt8) : Lib.cut l [b] = cut1 l b := by
  induction l with
  | nil => simp [Lib.cut, Lib.index, cut1]
  | cons x l ih =>
    have h1 := Lib.index_ge l [b]
    by_cases hx : (x == b) = true
    · have : x = b := by simpa using hx
      subst this
      simp [Lib.cut, Lib.index, cut1]
    · have hp : [b].isPrefixOf (x :: l) = false := by
        simp only [List.isPrefixOf, Bool.and_true, beq_eq_false_iff_ne]
        intro e; exact hx (by simp [e])
      have e : Lib.index (x :: l) [b] = if Lib.index l [b] = -1 then -1 else Lib.index l [b] + 1 := by rw [Lib.index, hp]; simp
      unfold Lib.cut at ih ⊢
      rw [cut1, ← ih, if_neg hx, e]
      by_cases h2 : Lib.index l [b] = -1
      · rw [h2]; rfl
      · rw [if_neg h2, if_pos (by omega), if_pos (by omega)]
        have e2 : (Lib.index l [b] + 1).toNat = (Lib.index l [b]).toNat + 1 := by omega
        rw [e2]
        simp []
theorem cut1_yes (a t : List UInt8) (b : UInt8) (h : hasB a b = false) : cut1 (a ++ b :: t) b = (a, t, true) := by
  induction a with
  | nil => simp [cut1]
  | cons x a ih =>
    rw [hasB_cons, Bool.or_eq_false_iff] at h
    rw [List.cons_append, cut1, if_neg (by simp [h.1]), ih h.2]
theorem cut1_found (l : List UInt8) (b : UInt8) : (cut1 l b).2.2 = true → l = (cut1 l b).1 ++ b :: (cut1 l b).2.1 := by
  induction l with
  | nil => simp [cut1]
  | cons x l ih =>
    rw [cut1]
    by_cases hx : (x == b) = true
    · rw [if_pos hx]; intro _; simpa using hx
    · rw [if_neg hx]; intro h; simp only [List.cons_append]; rw [← ih h]
theorem cut1_lost (l : List UInt8) (b : UInt8) : (cut1 l b).2.2 = false → cut1 l b = (l, [], false) := by
  induction l with
  | nil => simp [cut1]
  | cons x l ih =>
    rw [cut1]
    by_cases hx : (x == b) = true
    · rw [if_pos hx]; intro h; cases h
    · rw [if_neg hx]; intro h; simp only at h; rw [ih h]
theorem splitP_append (b : UInt8) (l : List UInt8) : ∀ st : List (List UInt8) × List UInt8, (l.foldl (splitSt b) st).1 ++ [(l.foldl (splitSt b) st).2] = st.1 ++ (match splitF l b with | [] => [] | p :: ps => (st.2 ++ p) :: ps) := by
  induction l with
  | nil => intro st; simp [splitF, splitP]
  | cons c l ih =>
    intro st
    have h3 : splitF (c :: l) b = (splitSt b ([], []) c).1 ++ (match splitF l b with | [] => [] | p :: ps => ((splitSt b ([], []) c).2 ++ p) :: ps) := by
      rw [splitF, splitP, List.foldl_cons]; exact ih _
    rw [List.foldl_cons, ih, h3]
    by_cases hc : (c == b) = true
    · simp [splitSt, hc]
    · simp only [Bool.not_eq_true] at hc
      simp only [splitSt, hc, Bool.false_eq_true, if_false, List.nil_append]
      cases splitF l b <;> simp
theorem splitF_cons (c : UInt8) (l : List UInt8) (b : UInt8) : splitF (c :: l) b = if c == b then [] :: splitF l b else match splitF l b with | [] => [] | p :: ps => (c :: p) :: ps := by
  rw [splitF, splitP, List.foldl_cons, splitP_append]
  by_cases hc : (c == b) = true
  · simp [splitSt, hc]
    cases splitF l b <;> simp
  · simp only [Bool.not_eq_true] at hc
    simp only [splitSt, hc, Bool.false_eq_true, if_false, List.nil_append]
    cases splitF l b <;> simp
theorem splitF_ne (l : List UInt8) (b : UInt8) : 0 < (splitF l b).length := by simp [splitF]
/-! ### Records -/
/-! ### Valid logs, both ways -/
open Go.RowKit
def baL (l : List UInt8) : ByteArray := ⟨l.toArray⟩
theorem baL_of (x : ByteArray) : baL x.data.toList = x := by rw [baL]
theorem baL_size (l : List UInt8) : (baL l).size = l.length := by rw [size_list]; rfl
theorem baL_list (l : List UInt8) : (baL l).data.toList = l := rfl
theorem split_cut (b : UInt8) : ∀ l : List UInt8, splitF l b = (cut1 l b).1 :: (if (cut1 l b).2.2 then splitF (cut1 l b).2.1 b else [])
  | [] => rfl
  | x :: l => by
    rw [splitF_cons, cut1]
    by_cases h : (x == b) = true
    · rw [if_pos h, if_pos h]; rfl
    · rw [if_neg h, if_neg h, split_cut b l]
theorem index_cut (b : UInt8) : ∀ l : List UInt8, Lib.indexByte l b = if (cut1 l b).2.2 then ((cut1 l b).1.length : Int) else -1
  | [] => rfl
  | x :: l => by
    rw [Lib.indexByte, cut1, index_cut b l]
    by_cases h : (x == b) = true
    · rw [if_pos h, if_pos h]; rfl
    · rw [if_neg h, if_neg h]
      cases hc : (cut1 l b).2.2
      · simp
      · have : ¬ (((cut1 l b).1.length : Int) == -1) = true := by simp <;> omega
        simp only [if_true, if_neg this]
        simp
theorem count_split (b : UInt8) : ∀ l : List UInt8, (splitF l b).length = Lib.countByte l b + 1
  | [] => rfl
  | x :: l => by
    have ih := count_split b l
    rw [splitF_cons, Lib.countByte, List.count_cons]
    rw [Lib.countByte] at ih
    by_cases h : (x == b) = true
    · rw [if_pos h, if_pos h, List.length_cons, ih]
    · rw [if_neg h, if_neg h]
      cases hs : splitF l b with
      | nil => have := splitF_ne l b; rw [hs] at this; simp at this
      | cons p ps => rw [hs] at ih; simpa using ih
theorem split_two {l : List UInt8} {b : UInt8} (h : 2 ≤ (splitF l b).length) : (cut1 l b).2.2 = true ∧ l = (cut1 l b).1 ++ b :: (cut1 l b).2.1 ∧ splitF l b = (cut1 l b).1 :: splitF (cut1 l b).2.1 b := by
  have hc := split_cut b l
  cases hf : (cut1 l b).2.2 with
  | false => rw [hc, hf] at h; simp at h
  | true => rw [hf, if_pos rfl] at hc; exact ⟨rfl, cut1_found l b hf, hc⟩
theorem split_one {l : List UInt8} {b : UInt8} (h : (splitF l b).length = 1) : splitF l b = [l] := by
  have hc := split_cut b l
  cases hf : (cut1 l b).2.2 with
  | false => rw [hf, if_neg (by simp), cut1_lost l b hf] at hc; exact hc
  | true =>
    rw [hf, if_pos rfl] at hc
    rw [hc] at h
    have := splitF_ne (cut1 l b).2.1 b
    simp at h
    rw [h] at this; simp at this
theorem split_drop {L rem : List UInt8} {b : UInt8} {k : Nat} (h : (splitF L b).drop k = splitF rem b) (hk : k + 1 < (splitF L b).length) :
    (cut1 rem b).2.2 = true ∧ rem = (cut1 rem b).1 ++ b :: (cut1 rem b).2.1 ∧ (splitF L b)[k]? = some (cut1 rem b).1 ∧ (splitF L b).drop (k + 1) = splitF (cut1 rem b).2.1 b := by
  have hl : 2 ≤ (splitF rem b).length := by rw [← h, List.length_drop]; omega
  obtain ⟨h1, h2, h3⟩ := split_two hl
  refine ⟨h1, h2, ?_, ?_⟩
  · have : ((splitF L b).drop k)[0]? = some (cut1 rem b).1 := by rw [h, h3]; rfl
    rwa [List.getElem?_drop, Nat.add_zero] at this
  · rw [← List.drop_drop, h, h3]; rfl
theorem split_last {L rem : List UInt8} {b : UInt8} {k : Nat} (h : (splitF L b).drop k = splitF rem b) (hk : k + 1 = (splitF L b).length) : (splitF L b)[k]? = some rem := by
  have hl : (splitF rem b).length = 1 := by rw [← h, List.length_drop]; omega
  have : ((splitF L b).drop k)[0]? = some rem := by rw [h, split_one hl]; rfl
  rwa [List.getElem?_drop, Nat.add_zero] at this
open Go.RowKit
def NoNl (l : List UInt8) : Prop := ∀ c ∈ l, c ≠ 10
instance (l : List UInt8) : Decidable (NoNl l) := inferInstanceAs (Decidable (∀ c ∈ l, c ≠ 10))
theorem NoNl.app {a b : List UInt8} (h : NoNl a) (h2 : NoNl b) : NoNl (a ++ b) := fun c hc => (List.mem_append.1 hc).elim (h c) (h2 c)
theorem headTail_or {p q : UInt8 → Bool} {l : List UInt8} (h : headTail p q l = true) : ∀ c ∈ l, p c = true ∨ q c = true := by
  cases l with
  | nil => simp
  | cons x l =>
    rw [headTail, Bool.and_eq_true, List.all_eq_true] at h
    intro c hc
    rcases List.mem_cons.1 hc with rfl | hc
    · exact .inl h.1
    · exact .inr (h.2 c hc)
theorem symB_nl {l : List UInt8} (h : symB l = true) : NoNl l := by
  unfold symB at h
  simp only [Bool.and_eq_true] at h
  intro c hc e
  subst e
  rcases headTail_or h.1.2 _ hc with h | h
  · exact absurd h (by decide)
  · exact absurd h (by decide)
theorem varB_nl {l : List UInt8} (h : varB l = true) : NoNl l := by
  unfold varB at h
  simp only [Bool.and_eq_true] at h
  intro c hc e
  subst e
  rcases headTail_or h.2 _ hc with h | h
  · exact absurd h (by decide)
  · exact absurd h (by decide)
theorem joinB_nl {sep : List UInt8} (hs : NoNl sep) : ∀ l : List (List UInt8), (∀ x ∈ l, NoNl x) → NoNl (joinB sep l)
  | [], _ => by intro c hc; rw [joinB] at hc; cases hc
  | [a], h => by rw [joinB]; exact h a (List.mem_cons_self ..)
  | a :: b :: l, h => by
    rw [joinB]
    exact ((h a (List.mem_cons_self ..)).app hs).app (joinB_nl hs (b :: l) (fun x hx => h x (List.mem_cons_of_mem _ hx)))
theorem fmt_nl_of {n : ByteArray} {us : List Tm} (hn : NoNl n.data.toList) (hu : ∀ x ∈ Tm.fmtL us, NoNl x) : NoNl (Tm.fmt (.mk n us)) := by
  rw [Tm.fmt.eq_def]
  dsimp only
  split
  · split
    · rename_i a b l he
      exact ((hu a (by rw [he]; simp)).app (by decide)).app (hu b (by rw [he]; simp))
    · intro c hc; cases hc
  · split
    · exact hn
    · exact ((hn.app (by decide)).app (joinB_nl (by decide) _ hu)).app (by decide)
mutual
theorem Tm.fmt_nl : ∀ t : Tm, t.nodes = true → NoNl t.fmt
  | .mk n us, h => by
    rw [Tm.nodes] at h
    split at h
    · rename_i hv
      have : us = [] := by simpa using h
      subst this
      exact fmt_nl_of (varB_nl hv) (by intro x hx; rw [Tm.fmtL] at hx; cases hx)
    · simp only [Bool.and_eq_true] at h
      exact fmt_nl_of (symB_nl h.1.1) (Tm.fmtL_nl us h.2)
theorem Tm.fmtL_nl : ∀ us : List Tm, Tm.nodess us = true → ∀ x ∈ Tm.fmtL us, NoNl x
  | [], _ => by intro x hx; rw [Tm.fmtL] at hx; cases hx
  | a :: us, h => by
    rw [Tm.nodess, Bool.and_eq_true] at h
    intro x hx
    rw [Tm.fmtL] at hx
    rcases List.mem_cons.1 hx with rfl | hx
    · exact Tm.fmt_nl a h.1
    · exact Tm.fmtL_nl us h.2 x hx
end
theorem atom_nl {t : Tm} (h : t.atom = true) : NoNl t.fmt := by
  obtain ⟨n, us⟩ := t
  rw [Tm.atom] at h
  split at h
  · rename_i he
    simp only [Bool.and_eq_true] at h
    have he : n.data.toList = [61] := by simpa [isEq, Tm.n] using he
    exact fmt_nl_of (by rw [he]; decide) (Tm.fmtL_nl us h.2)
  · simp only [Bool.and_eq_true, Tm.good] at h
    exact Tm.fmt_nl _ h.2.2
mutual
theorem Fm.txt_nl : ∀ f : Fm, f.form = true → NoNl f.txt
  | .mk op a v ps, h => by
    rw [Fm.form, Fm.form1, Bool.and_eq_true, Bool.and_eq_true, Bool.and_eq_true] at h
    obtain ⟨⟨⟨h1, h2⟩, h3⟩, h4⟩ := h
    have hp := Fm.txtN_nl ps h4
    simp only [Fm.op, Fm.v, Fm.a] at h1 h2 h3
    rw [Fm.txt]
    split
    · decide
    split
    · decide
    split
    · rename_i e; exact atom_nl (by simpa [e] using h3)
    split
    · split
      · exact (NoNl.app (by decide) (hp 0)).app (by decide)
      · exact NoNl.app (by decide) (hp 0)
    split
    · rename_i e; subst e
      exact ((NoNl.app (by decide) (varB_nl h2)).app (by decide)).app (hp 0)
    split
    · rename_i e; subst e
      exact ((NoNl.app (by decide) (varB_nl h2)).app (by decide)).app (hp 0)
    · refine (((NoNl.app (by decide) (hp 0)).app ?_).app (hp 1)).app (by decide)
      unfold sign8; split <;> (try split) <;> decide
theorem Fm.txtN_nl : ∀ (ps : List Fm), Fm.forms ps = true → ∀ n, NoNl (Fm.txtN n ps)
  | [], _, n => by intro c hc; cases n <;> rw [Fm.txtN] at hc <;> cases hc
  | f :: fs, h, n => by
    rw [Fm.forms, Bool.and_eq_true] at h
    cases n with
    | zero => rw [Fm.txtN]; exact Fm.txt_nl f h.1
    | succ n => rw [Fm.txtN]; exact Fm.txtN_nl fs h.2 n
end
theorem unitTxt_nl {s : ByteArray} (h : unitTxt s = true) : NoNl s.data.toList ∧ s.size ≤ 100 := by
  rw [unitTxt, Bool.and_eq_true, pfOk, Bool.and_eq_true, fOkL] at h
  simp only [Bool.and_eq_true] at h
  obtain ⟨⟨_, ⟨_, h1⟩, h2⟩, h3⟩ := h
  refine ⟨?_, of_decide_eq_true h3⟩
  rw [← beq_iff_eq.1 h2]
  rw [Fm.good, Bool.and_eq_true] at h1
  exact Fm.txt_nl _ h1.2
theorem namesF_sym : ∀ (p : Option ByteArray) (us : List ByteArray), namesF p us = true → ∀ x ∈ us, symB x.data.toList = true
  | _, [], _, _, hx => by cases hx
  | p, a :: us, h, x, hx => by
    rw [namesF, Bool.and_eq_true, Bool.and_eq_true] at h
    rcases List.mem_cons.1 hx with rfl | hx
    · exact h.1.1
    · exact namesF_sym (some a) us h.2 x hx
theorem sym_size {s : ByteArray} (h : symB s.data.toList = true) : s.size ≤ 6 := by
  unfold symB at h
  simp only [Bool.and_eq_true, decide_eq_true_iff] at h
  have := h.1.1.2
  rw [size_list]; exact this
structure UnP (u : Un) : Prop where
  name : NoNl u.name.data.toList ∧ u.name.size ≤ 6
  incs : ∀ x ∈ u.incs, NoNl x.data.toList ∧ x.size ≤ 6
  ilen : u.incs.length ≤ 12
  axs : ∀ x ∈ u.axs, NoNl x.data.toList ∧ x.size ≤ 100
  alen : u.axs.length ≤ 6
  goal : NoNl u.goal.data.toList ∧ u.goal.size ≤ 100
theorem Un.good_parts {u : Un} (h : u.good = true) : UnP u := by
  unfold Un.good at h
  simp only [Bool.and_eq_true, decide_eq_true_iff, Bool.or_eq_true, List.all_eq_true] at h
  obtain ⟨⟨⟨⟨⟨h1, h2⟩, h3⟩, h4⟩, h5⟩, h6⟩ := h
  refine ⟨⟨symB_nl h1, sym_size h1⟩, fun x hx => ?_, h2, fun x hx => unitTxt_nl (h5 x hx), h4, ?_⟩
  · have := namesF_sym _ _ h3 x hx; exact ⟨symB_nl this, sym_size this⟩
  · rcases h6 with h6 | h6
    · have h6 := beq_iff_eq.1 h6
      rw [size_list, h6]; exact ⟨(by intro c hc; cases hc), (by simp)⟩
    · exact unitTxt_nl h6
theorem wtS_bound {n : Nat} : ∀ us : List ByteArray, (∀ x ∈ us, x.size ≤ n) → wtS us ≤ n * us.length
  | [], _ => by simp [wtS]
  | a :: us, h => by
    have h1 := wtS_bound us (fun x hx => h x (List.mem_cons_of_mem _ hx))
    have h2 := h a (List.mem_cons_self ..)
    rw [wtS, List.length_cons, Nat.mul_succ]; omega
theorem lineU_len (k : List UInt8) (s : ByteArray) : (lineU k s).length = k.length + s.size + 1 := by rw [lineU, List.length_append, List.length_append, ← size_list]; rfl
theorem txt_size {u : Un} (h : u.good = true) : u.txt.length ≤ 4000 := by
  have hp := u.good_parts h
  have h1 := wtS_bound u.incs (fun x hx => (hp.incs x hx).2)
  have h2 := wtS_bound u.axs (fun x hx => (hp.axs x hx).2)
  have h3 := hp.ilen
  have h4 := hp.alen
  have h5 := hp.name.2
  have h6 := hp.goal.2
  have h7 : (if u.goal.toList == [] then ([] : List UInt8) else lineU kwGoal u.goal).length ≤ 106 := by
    split
    · simp
    · rw [lineU_len]; simp [kwGoal]; omega
  rw [Un.txt, List.length_append, List.length_append, List.length_append, linesU_len, linesU_len, lineU_len]
  simp [kwUnit, kwInc, kwAx]
  simp at h7
  omega
/-! ### Reading -/
def u0 : Un := ⟨⟨#[]⟩, [], [], ⟨#[]⟩⟩
def kwU : List UInt8 := [117, 110, 105, 116]
def kwI : List UInt8 := [105, 110, 99, 108, 117, 100, 101]
def kwA : List UInt8 := [97, 120, 105, 111, 109]
def kwG : List UInt8 := [103, 111, 97, 108]
def Un.putN (u : Un) (r : List UInt8) : Un := { u with name := baL r }
def Un.putI (u : Un) (r : List UInt8) : Un := { u with incs := u.incs ++ [baL r] }
def Un.putA (u : Un) (r : List UInt8) : Un := { u with axs := u.axs ++ [baL r] }
def Un.putG (u : Un) (r : List UInt8) : Un := { u with goal := baL r }
def stI (u : Un) (line : List UInt8) : Un :=
  if (cut1 line 32).1 = kwU then u.putN (cut1 line 32).2.1 else if (cut1 line 32).1 = kwI then u.putI (cut1 line 32).2.1 else
  if (cut1 line 32).1 = kwA then u.putA (cut1 line 32).2.1 else if (cut1 line 32).1 = kwG then u.putG (cut1 line 32).2.1 else u
def aft (k line : List UInt8) : Bool := k.isPrefixOf line
def onA (k : List UInt8) (f : Un → List UInt8 → Un) (u : Un) (line : List UInt8) : Un := if aft k line then f u (line.drop k.length) else u
def stS (u : Un) (line : List UInt8) : Un := onA kwGoal Un.putG (onA kwAx Un.putA (onA kwInc Un.putI (onA kwUnit Un.putN u line) line) line) line
theorem splitF_line (L : List UInt8) : ∀ a : List UInt8, NoNl a → splitF (a ++ 10 :: L) 10 = a :: splitF L 10
  | [], _ => by rw [List.nil_append, splitF_cons, if_pos (by decide)]
  | c :: a, h => by
    have h1 : (c == (10 : UInt8)) = false := beq_eq_false_iff_ne.2 (h c (List.mem_cons_self ..))
    rw [List.cons_append, splitF_cons, h1, if_neg (by decide), splitF_line L a (fun x hx => h x (List.mem_cons_of_mem _ hx))]
theorem fold_lines {σ : Type} (st : σ → List UInt8 → σ) (k rest : List UInt8) (hk : NoNl k) : ∀ (us : List ByteArray) (s : σ), (∀ x ∈ us, NoNl x.data.toList) → (splitF (linesU k us ++ rest) 10).foldl st s = (splitF rest 10).foldl st (us.foldl (fun s x => st s (k ++ x.data.toList)) s)
  | [], s, _ => by simp [linesU]
  | a :: us, s, h => by
    have e : linesU k (a :: us) ++ rest = (k ++ a.data.toList) ++ 10 :: (linesU k us ++ rest) := by simp [linesU, lineU]
    rw [e, splitF_line _ _ (hk.app (h a (List.mem_cons_self ..))), List.foldl_cons, fold_lines st k rest hk us _ (fun x hx => h x (List.mem_cons_of_mem _ hx)), List.foldl_cons]
structure Reads (st : Un → List UInt8 → Un) : Prop where
  n : ∀ u r, st u (kwUnit ++ r) = u.putN r
  i : ∀ u r, st u (kwInc ++ r) = u.putI r
  a : ∀ u r, st u (kwAx ++ r) = u.putA r
  g : ∀ u r, st u (kwGoal ++ r) = u.putG r
  z : ∀ u, st u [] = u
theorem Reads.incs {st : Un → List UInt8 → Un} (h : Reads st) : ∀ (us : List ByteArray) (u : Un), us.foldl (fun s x => st s (kwInc ++ x.data.toList)) u = { u with incs := u.incs ++ us }
  | [], u => by simp
  | a :: us, u => by rw [List.foldl_cons, h.i, h.incs us, Un.putI, baL_of]; simp
theorem Reads.axs {st : Un → List UInt8 → Un} (h : Reads st) : ∀ (us : List ByteArray) (u : Un), us.foldl (fun s x => st s (kwAx ++ x.data.toList)) u = { u with axs := u.axs ++ us }
  | [], u => by simp
  | a :: us, u => by rw [List.foldl_cons, h.a, h.axs us, Un.putA, baL_of]; simp
theorem Reads.back {st : Un → List UInt8 → Un} (h : Reads st) {u : Un} (hg : u.good = true) : (splitF u.txt 10).foldl st u0 = u := by
  have hp := u.good_parts hg
  have e : u.txt = linesU kwUnit [u.name] ++ (linesU kwInc u.incs ++ (linesU kwAx u.axs ++ (if u.goal.toList == [] then [] else lineU kwGoal u.goal))) := by
    rw [Un.txt]; simp [linesU, List.append_assoc]
  rw [e, fold_lines st _ _ (by decide) _ _ (by intro x hx; rw [List.mem_singleton] at hx; subst hx; exact hp.name.1), fold_lines st _ _ (by decide) _ _ (fun x hx => (hp.incs x hx).1), fold_lines st _ _ (by decide) _ _ (fun x hx => (hp.axs x hx).1), h.incs, h.axs, List.foldl_cons, List.foldl_nil, h.n]
  have ht : u.goal.toList = u.goal.data.toList := ByteArray.toList_eq u.goal
  by_cases hz : u.goal.toList = []
  · rw [if_pos (by rw [hz]; rfl)]
    have : splitF ([] : List UInt8) 10 = [[]] := rfl
    rw [this, List.foldl_cons, List.foldl_nil, h.z]
    have hz2 : u.goal = ⟨#[]⟩ := by apply ByteArray.ext; apply Array.toList_inj.1; rw [← ht, hz]
    obtain ⟨a, b, c, d⟩ := u
    simp only at hz2
    subst hz2
    simp [Un.putN, baL_of, u0]
  · rw [if_neg (by simpa using hz)]
    have e2 : lineU kwGoal u.goal = (kwGoal ++ u.goal.data.toList) ++ 10 :: [] := rfl
    rw [e2, splitF_line _ _ (NoNl.app (by decide) hp.goal.1)]
    have : splitF ([] : List UInt8) 10 = [[]] := rfl
    rw [this, List.foldl_cons, List.foldl_cons, List.foldl_nil, h.z, h.g]
    obtain ⟨a, b, c, d⟩ := u
    simp [Un.putN, Un.putG, baL_of, u0]
theorem stI_reads : Reads stI := by
  refine ⟨fun u r => ?_, fun u r => ?_, fun u r => ?_, fun u r => ?_, fun u => rfl⟩
  · rw [stI, show kwUnit ++ r = kwU ++ 32 :: r from rfl, cut1_yes _ _ _ (by decide)]; exact if_pos rfl
  · rw [stI, show kwInc ++ r = kwI ++ 32 :: r from rfl, cut1_yes _ _ _ (by decide)]
    exact (if_neg (show ¬ kwI = kwU by decide)).trans (if_pos rfl)
  · rw [stI, show kwAx ++ r = kwA ++ 32 :: r from rfl, cut1_yes _ _ _ (by decide)]
    exact (if_neg (show ¬ kwA = kwU by decide)).trans ((if_neg (show ¬ kwA = kwI by decide)).trans (if_pos rfl))
  · rw [stI, show kwGoal ++ r = kwG ++ 32 :: r from rfl, cut1_yes _ _ _ (by decide)]
    exact (if_neg (show ¬ kwG = kwU by decide)).trans ((if_neg (show ¬ kwG = kwI by decide)).trans ((if_neg (show ¬ kwG = kwA by decide)).trans (if_pos rfl)))
theorem stS_reads : Reads stS := by
  refine ⟨fun u r => ?_, fun u r => ?_, fun u r => ?_, fun u r => ?_, fun u => rfl⟩ <;>
    simp [stS, onA, aft, kwUnit, kwInc, kwAx, kwGoal, List.isPrefixOf]
/-! ### Weights -/
def lsum : List (List UInt8) → Nat | [] => 0 | l :: ls => (l.length + 1) + lsum ls
theorem lsum_take : ∀ (ls : List (List UInt8)) (n : Nat), lsum (ls.take n) ≤ lsum ls
  | [], n => by simp [lsum]
  | l :: ls, 0 => by simp [lsum]
  | l :: ls, n + 1 => by have := lsum_take ls n; rw [List.take_succ_cons, lsum, lsum]; omega
theorem lsum_mem : ∀ {ls : List (List UInt8)} {l : List UInt8}, l ∈ ls → l.length + 1 ≤ lsum ls
  | [], _, h => by cases h
  | m :: ls, l, h => by
    rw [lsum]
    rcases List.mem_cons.1 h with rfl | h
    · omega
    · have := lsum_mem h; omega
theorem lsum_split (b : UInt8) : ∀ l : List UInt8, lsum (splitF l b) = l.length + 1
  | [] => rfl
  | x :: l => by
    have ih := lsum_split b l
    rw [splitF_cons]
    split
    · rw [lsum, ih]; simp; omega
    · cases hs : splitF l b with
      | nil => have := splitF_ne l b; rw [hs] at this; simp at this
      | cons p ps => rw [hs, lsum] at ih; rw [lsum]; simp only [List.length_cons]; omega
theorem wtS_snoc : ∀ (us : List ByteArray) (a : ByteArray), wtS (us ++ [a]) = wtS us + a.size
  | [], a => by simp [wtS]
  | b :: us, a => by rw [List.cons_append, wtS, wtS, wtS_snoc us a]; omega
theorem wt_putN (u : Un) (r : List UInt8) : (u.putN r).wt ≤ u.wt + (r.length + 1) := by simp only [Un.putN, Un.wt, baL_size]; omega
theorem wt_putG (u : Un) (r : List UInt8) : (u.putG r).wt ≤ u.wt + (r.length + 1) := by simp only [Un.putG, Un.wt, baL_size]; omega
theorem wt_putI (u : Un) (r : List UInt8) : (u.putI r).wt ≤ u.wt + (r.length + 1) := by simp only [Un.putI, Un.wt, wtS_snoc, baL_size, List.length_append, List.length_cons, List.length_nil]; omega
theorem wt_putA (u : Un) (r : List UInt8) : (u.putA r).wt ≤ u.wt + (r.length + 1) := by simp only [Un.putA, Un.wt, wtS_snoc, baL_size, List.length_append, List.length_cons, List.length_nil]; omega
theorem cut1_le (b : UInt8) : ∀ l : List UInt8, (cut1 l b).1.length ≤ l.length ∧ (cut1 l b).2.1.length ≤ l.length
  | [] => by simp [cut1]
  | x :: l => by
    have := cut1_le b l
    rw [cut1]; split
    · simp
    · simp only [List.length_cons]; omega
theorem stI_wt (u : Un) (l : List UInt8) : (stI u l).wt ≤ u.wt + 1 * (l.length + 1) := by
  have h := (cut1_le 32 l).2
  rw [stI]
  split
  · have := wt_putN u (cut1 l 32).2.1; omega
  split
  · have := wt_putI u (cut1 l 32).2.1; omega
  split
  · have := wt_putA u (cut1 l 32).2.1; omega
  split
  · have := wt_putG u (cut1 l 32).2.1; omega
  · omega
theorem onA_wt {k : List UInt8} {f : Un → List UInt8 → Un} (hf : ∀ u r, (f u r).wt ≤ u.wt + (r.length + 1)) (u : Un) (l : List UInt8) : (onA k f u l).wt ≤ u.wt + (l.length + 1) := by
  rw [onA]; split
  · have := hf u (l.drop k.length); rw [List.length_drop] at this; omega
  · omega
theorem stS_wt (u : Un) (l : List UInt8) : (stS u l).wt ≤ u.wt + 4 * (l.length + 1) := by
  have h1 := onA_wt (k := kwUnit) wt_putN u l
  have h2 := onA_wt (k := kwInc) wt_putI (onA kwUnit Un.putN u l) l
  have h3 := onA_wt (k := kwAx) wt_putA (onA kwInc Un.putI (onA kwUnit Un.putN u l) l) l
  have h4 := onA_wt (k := kwGoal) wt_putG (onA kwAx Un.putA (onA kwInc Un.putI (onA kwUnit Un.putN u l) l) l) l
  rw [stS]; omega
theorem fold_wt {st : Un → List UInt8 → Un} {c : Nat} (h : ∀ u l, (st u l).wt ≤ u.wt + c * (l.length + 1)) : ∀ (ls : List (List UInt8)) (u : Un), (ls.foldl st u).wt ≤ u.wt + c * lsum ls
  | [], u => by simp [lsum]
  | l :: ls, u => by
    have h1 := fold_wt h ls (st u l)
    have h2 := h u l
    rw [List.foldl_cons, lsum, Nat.mul_add]; omega
theorem parI_wt (L : List UInt8) (n : Nat) : (((splitF L 10).take n).foldl stI u0).wt ≤ L.length + 1 := by
  have h1 := fold_wt stI_wt ((splitF L 10).take n) u0
  have h2 := lsum_take (splitF L 10) n
  rw [lsum_split] at h2
  have h3 : u0.wt = 0 := rfl
  omega
theorem parS_wt (L : List UInt8) (n : Nat) : (((splitF L 10).take n).foldl stS u0).wt ≤ 4 * (L.length + 1) := by
  have h1 := fold_wt stS_wt ((splitF L 10).take n) u0
  have h2 := lsum_take (splitF L 10) n
  rw [lsum_split] at h2
  have h3 : u0.wt = 0 := rfl
  omega
theorem wt_sizes {u : Un} {m : Nat} (h : u.wt ≤ m) : u.name.size ≤ m ∧ u.goal.size ≤ m ∧ (∀ s ∈ u.incs, s.size ≤ m) ∧ (∀ s ∈ u.axs, s.size ≤ m) ∧ u.incs.length ≤ m ∧ u.axs.length ≤ m := by
  rw [Un.wt] at h
  refine ⟨by omega, by omega, fun s hs => ?_, fun s hs => ?_, by omega, by omega⟩
  · have := wtS_le u.incs s hs; omega
  · have := wtS_le u.axs s hs; omega
theorem take_fold {σ α : Type} (st : σ → α → σ) (s : σ) {ls : List α} {n : Nat} (h : n < ls.length) : (ls.take (n + 1)).foldl st s = st ((ls.take n).foldl st s) ls[n] := by
  rw [List.take_succ_eq_append_getElem h, List.foldl_append]; rfl
def parI (L : List UInt8) : Un := (splitF L 10).foldl stI u0
def parS (L : List UInt8) : Un := (splitF L 10).foldl stS u0
def puOk (L : List UInt8) : Bool := (parI L).good && (parI L).txt == L
def puV (L : List UInt8) : Un := if puOk L then parI L else u0
theorem puOk_parts {L : List UInt8} (h : puOk L = true) : (parI L).good = true ∧ (parI L).txt = L := by rw [puOk, Bool.and_eq_true] at h; exact ⟨h.1, beq_iff_eq.1 h.2⟩
theorem puS_eq (L : List UInt8) : ((parS L).good && (parS L).txt == L) = puOk L := by
  rw [Bool.eq_iff_iff, puOk, Bool.and_eq_true, Bool.and_eq_true, beq_iff_eq, beq_iff_eq]
  constructor
  · rintro ⟨h1, h2⟩
    have : parI L = parS L := by have := stI_reads.back h1; rwa [h2] at this
    rw [this]; exact ⟨h1, h2⟩
  · rintro ⟨h1, h2⟩
    have : parS L = parI L := by have := stS_reads.back h1; rwa [h2] at this
    rw [this]; exact ⟨h1, h2⟩
theorem puS_same {L : List UInt8} (h : puOk L = true) : parS L = parI L := by
  obtain ⟨h1, h2⟩ := puOk_parts h
  have := stS_reads.back h1; rwa [h2] at this
theorem pu_long {L : List UInt8} (h : 4000 < L.length) : puOk L = false := by
  cases he : puOk L with
  | false => rfl
  | true =>
    obtain ⟨h1, h2⟩ := puOk_parts he
    have := txt_size h1
    rw [h2] at this; omega
end Go.Proofs.YtkgfanajgdelcaaGreatDoor
