import Derived.Test.YtkgfanajgdelcaaGreatDoorUnPart25
namespace Go.Proofs.YtkgfanajgdelcaaGreatDoor
open Go.RowKit
structure UnS (e eU : TypeId) (W0 : World) (k : Nat) (u : Un) (va vb : Value) (wr : World) : Prop where
  box : wr.heap[k]? = some (.cells #[.string u.name, va, vb, .string u.goal] eU (0, 0))
  ra : wr.ownsRow W0.heap.size e 1 va u.incs.length (strW u.incs)
  rb : wr.ownsRow W0.heap.size e 1 vb u.axs.length (strW u.axs)
  ap : ∀ g, va.ownBlock = some g → vb.ownBlock ≠ some g
  gr : W0.grownBy wr (some k)
  lt : k < W0.heap.size
theorem own_lenU {w : World} {base : Nat} {e : TypeId} {size : Nat} {v : Value} {n : Nat} {xs : List Value} (h : w.ownsRow base e size v n xs) : n ≤ maxLen := by
  rcases h.2 with ⟨_, rfl⟩ | ⟨g, cap, cur, _, _, _, h1, h2, _⟩
  · exact Nat.zero_le _
  · exact Nat.le_trans h1 h2
section
variable {e eU : TypeId} {W0 wr w2 : World} {k : Nat} {u : Un} {va vb v' : Value} {r : ByteArray}
theorem UnS.na (h : UnS e eU W0 k u va vb wr) : va.ownBlock ≠ some k := fun hg => by have := own_base h.ra k hg; have := h.lt; omega
theorem UnS.nb (h : UnS e eU W0 k u va vb wr) : vb.ownBlock ≠ some k := fun hg => by have := own_base h.rb k hg; have := h.lt; omega
theorem UnS.klt (h : UnS e eU W0 k u va vb wr) : k < wr.heap.size := Nat.lt_of_lt_of_le h.lt h.gr.size
theorem UnS.below (h : UnS e eU W0 k u va vb wr) (hb : Below wr.heap.size wr w2) : UnS e eU W0 k u va vb w2 :=
  ⟨(hb.block k h.klt).trans h.box, own_below h.ra hb, own_below h.rb hb, h.ap, ⟨hb.os.trans h.gr.os, hb.tape.trans h.gr.tape, hb.output.trans h.gr.output, Nat.le_trans h.gr.size hb.size, fun b hb' hne => (hb.block b (Nat.lt_of_lt_of_le hb' h.gr.size)).trans (h.gr.block b hb' hne)⟩, h.lt⟩
theorem own_cellSet {base n : Nat} {v : Value} {xs : List Value} {i : Nat} {x : Value} (h : wr.ownsRow base e 1 v n xs) (hne : v.ownBlock ≠ some k) : (wr.setCell ⟨k, i, none⟩ x).ownsRow base e 1 v n xs :=
  own_same h fun g hg _ => heap_setCell_other wr ⟨k, i, none⟩ g x (fun e' => hne (by rw [hg]; exact congrArg some e'))
theorem grown_set (h : W0.grownBy wr (some k)) (i : Nat) (x : Value) : W0.grownBy (wr.setCell ⟨k, i, none⟩ x) (some k) :=
  ⟨h.os, h.tape, h.output, by simpa using h.size, fun b hb hne => (heap_setCell_other wr ⟨k, i, none⟩ b x (fun e' => hne (congrArg some e'))).trans (h.block b hb hne)⟩
theorem UnS.setN (h : UnS e eU W0 k u va vb wr) (r : ByteArray) : UnS e eU W0 k { u with name := r } va vb (wr.setCell ⟨k, 0, none⟩ (.string r)) :=
  ⟨by have := heap_setCell_same wr k 0 _ _ (.string r) h.box; simpa using this, own_cellSet h.ra h.na, own_cellSet h.rb h.nb, h.ap, grown_set h.gr _ _, h.lt⟩
theorem UnS.setG (h : UnS e eU W0 k u va vb wr) (r : ByteArray) : UnS e eU W0 k { u with goal := r } va vb (wr.setCell ⟨k, 3, none⟩ (.string r)) :=
  ⟨by have := heap_setCell_same wr k 3 _ _ (.string r) h.box; simpa using this, own_cellSet h.ra h.na, own_cellSet h.rb h.nb, h.ap, grown_set h.gr _ _, h.lt⟩
theorem newRow_ne {H b : Nat} {v v' : Value} (hn : NewRow v v' H) (hb : b < H) (hv : v.ownBlock ≠ some b) : v'.ownBlock ≠ some b := fun hg => by
  rcases hn with h | ⟨g, h, hge⟩
  · exact hv (h ▸ hg)
  · rw [h] at hg; injection hg with hg; omega
theorem grown_row (h : W0.grownBy wr (some k)) {v : Value} (hv : ∀ g, v.ownBlock = some g → W0.heap.size ≤ g) (hg : wr.grownBy w2 v.ownBlock) : W0.grownBy w2 (some k) :=
  ⟨hg.os.trans h.os, hg.tape.trans h.tape, hg.output.trans h.output, Nat.le_trans h.size hg.size, fun b hb hne => (hg.block b (Nat.lt_of_lt_of_le hb h.size) (fun e' => by have := hv b e'.symm; omega)).trans (h.block b hb hne)⟩
theorem UnS.appI (h : UnS e eU W0 k u va vb wr) (ho : w2.ownsRow W0.heap.size e 1 v' (u.incs.length + 1) (strW u.incs ++ [.string r])) (hg : wr.grownBy w2 va.ownBlock) (hn : NewRow va v' wr.heap.size) : UnS e eU W0 k { u with incs := u.incs ++ [r] } v' vb (w2.setCell ⟨k, 1, none⟩ v') := by
  have hbox : w2.heap[k]? = _ := (hg.block k h.klt (fun e' => h.na e'.symm)).trans h.box
  refine ⟨by have := heap_setCell_same w2 k 1 _ _ v' hbox; simpa using this, own_cellSet (by rw [List.length_append, strW_snoc]; exact ho) (newRow_ne hn h.klt h.na), own_cellSet (own_same h.rb fun g hg' hl => hg.block g hl (fun e' => h.ap g e'.symm hg')) h.nb, fun g hg' hvb => ?_, grown_set (grown_row h.gr (own_base h.ra) hg) _ _, h.lt⟩
  exact newRow_ne hn (own_lt' h.rb hvb) (fun hva => h.ap g hva hvb) hg'
theorem UnS.appA (h : UnS e eU W0 k u va vb wr) (ho : w2.ownsRow W0.heap.size e 1 v' (u.axs.length + 1) (strW u.axs ++ [.string r])) (hg : wr.grownBy w2 vb.ownBlock) (hn : NewRow vb v' wr.heap.size) : UnS e eU W0 k { u with axs := u.axs ++ [r] } va v' (w2.setCell ⟨k, 2, none⟩ v') := by
  have hbox : w2.heap[k]? = _ := (hg.block k h.klt (fun e' => h.nb e'.symm)).trans h.box
  refine ⟨by have := heap_setCell_same w2 k 2 _ _ v' hbox; simpa using this, own_cellSet (own_same h.ra fun g hg' hl => hg.block g hl (fun e' => h.ap g hg' e'.symm)) h.na, own_cellSet (by rw [List.length_append, strW_snoc]; exact ho) (newRow_ne hn h.klt h.nb), fun g hva hg' => ?_, grown_set (grown_row h.gr (own_base h.rb) hg) _ _, h.lt⟩
  exact newRow_ne hn (own_lt' h.ra hva) (h.ap g hva) hg'
theorem UnS.form (h : UnS e eU W0 k u va vb wr) : ∃ p c q d, va = .slice p u.incs.length c ∧ vb = .slice q u.axs.length d := by
  have key : ∀ {v : Value} {n : Nat} {xs : List Value}, wr.ownsRow W0.heap.size e 1 v n xs → ∃ p c, v = .slice p n c := fun h => by
    rcases h.2 with ⟨rfl, h0⟩ | ⟨g, cap, cur, rfl, _⟩
    · exact ⟨none, 0, by rw [h0]⟩
    · exact ⟨_, _, rfl⟩
  obtain ⟨p, c, h1⟩ := key h.ra
  obtain ⟨q, d, h2⟩ := key h.rb
  exact ⟨p, c, q, d, h1, h2⟩
theorem UnS.own (h : UnS e eU W0 k u va vb wr) (hn : u.name.size ≤ maxLen) (hg : u.goal.size ≤ maxLen) (hi : ∀ s ∈ u.incs, s.size ≤ maxLen) (ha : ∀ s ∈ u.axs, s.size ≤ maxLen) : UnOwn e (NewB W0 wr) wr u [.string u.name, va, vb, .string u.goal] :=
  ⟨va, vb, fun b => va.ownBlock = some b, fun b => vb.ownBlock = some b, rfl, hn, hg, rowS_own h.ra hi (own_lenU h.ra) (fun _ h => h), rowS_own h.rb ha (own_lenU h.rb) (fun _ h => h),
    fun b hb => ⟨own_base h.ra b hb, own_lt' h.ra hb⟩, fun b hb => ⟨own_base h.rb b hb, own_lt' h.rb hb⟩, fun b h1 h2 => h.ap b h1 h2⟩
end
/-! ### An append of what a slice reads -/
def SrcIs (w : World) (size : Nat) (v : Value) (m : Nat) (news : List Value) : Prop :=
  (v = .slice none 0 0 ∧ m = 0 ∧ news = []) ∨ ∃ (b o c : Nat), v = .slice (some ⟨b, o, none⟩) m c ∧ news.length = m * size ∧ ∀ (j : Nat) (u : Value), news[j]? = some u → w.cell? ⟨b, o + j, none⟩ = some u
theorem run_app {P : Program} (w : World) (t ty e : TypeId) (size bytes : Nat) (hE : Elem P t e size bytes) (base : Nat) (v : Value) (n : Nat) (xs : List Value) (hown : w.ownsRow base e size v n xs) (v2 : Value) (m : Nat) (news : List Value) (hsrc : SrcIs w size v2 m news) (h1 : ∀ u ∈ news, u.oneCell' = true)
    (h63 : n + m ≤ maxLen) (hbytes : (n + m) * bytes ≤ 140737488355328) (hbase : base ≤ w.heap.size) :
    ∃ v' w', (Builtin.append_ #[t, t] ty #[v, v2]).run P w = .ok v' w' ∧ w'.ownsRow base e size v' (n + m) (xs ++ news) ∧ w.grownBy w' v.ownBlock ∧ NewRow v v' w.heap.size := by
  obtain ⟨ht, i, z, hi, hz, hsz, hby, hzs, hpos⟩ := hE
  rcases hsrc with ⟨rfl, rfl, rfl⟩ | ⟨b, o, c, rfl, hl, hc⟩
  · refine ⟨v, w, run_append_owned_none (P := P) w base t ty e i size ht hi v n xs hown, by simpa using hown, ⟨rfl, rfl, rfl, Nat.le_refl _, fun _ _ _ => rfl⟩, .inl rfl⟩
  · obtain ⟨v', w', hr, h2, h3, _, h5⟩ := run_append_own_at (P := P) w base t ty e i z size bytes ht hi hz hsz hby hzs hpos v n xs hown ⟨b, o, none⟩ m c news hl (fun j u hu => by
      have : ((⟨b, o, none⟩ : Addr).add j) = ⟨b, o + j, none⟩ := by unfold Addr.add; split <;> simp_all
      rw [this]; exact hc j u hu) h1 h63 hbytes hbase
    refine ⟨v', w', hr, h2, h3, ?_⟩
    rcases h5 with h5 | h5
    · exact .inl h5
    · exact .inr ⟨_, h5, Nat.le_refl _⟩
theorem wpList_app {P : Program} {w : World} {ops : Array Oper} {rest : List Oper} {o : Oper} {a : Act} {Q : Exit → Act → World → Prop} (hgd : o.guard = none) (s x : Operand) (t : TypeId)
    (ho : o.op = .call { callee := .builtin .append, args := #[s, x], argTypes := #[t, t] })
    (base : Nat) (e : TypeId) (size bytes : Nat) (hE : Elem P t e size bytes)
    (v : Value) (n : Nat) (xs : List Value) (hs : a.eval s = v) (v2 : Value) (m : Nat) (news : List Value) (hx : a.eval x = v2) (hsrc : SrcIs w size v2 m news)
    (hown : w.ownsRow base e size v n xs) (h1 : ∀ u ∈ news, u.oneCell' = true) (hbytes : (n + m) * bytes ≤ 140737488355328) (h63 : n + m ≤ maxLen) (hbase : base ≤ w.heap.size)
    (h : ∀ v' w', w'.ownsRow base e size v' (n + m) (xs ++ news) → w.grownBy w' v.ownBlock → NewRow v v' w.heap.size → wpList P ops Q rest (a.put o.dst v') w') : wpList P ops Q (o :: rest) a w := by
  obtain ⟨v', w', hrun, h2, h3, h4⟩ := run_app (P := P) w t o.type e size bytes hE base v n xs hown v2 m news hsrc h1 h63 hbytes hbase
  refine wpList_plain hgd fun _ hK => ?_
  unfold Oper.wp execOp
  simp only [ho, resolve, invoke, builtin, Sem.run_bind, Sem.run_pure, Result.andThen_ok, List.map_toArray, List.map_cons, List.map_nil, hs, hx, hrun]
  exact hK _ _ (h v' w' h2 h3 h4)
theorem each_app {P : Program} {w : World} {o : Oper} {a : Act} {E : Value → World → Prop} (s x : Operand) (t : TypeId) (ho : o.op = .call { callee := .builtin .append, args := #[s, x], argTypes := #[t, t] })
    (base : Nat) (e : TypeId) (size bytes : Nat) (hE : Elem P t e size bytes)
    (v : Value) (n : Nat) (xs : List Value) (hs : a.eval s = v) (v2 : Value) (m : Nat) (news : List Value) (hx : a.eval x = v2) (hsrc : SrcIs w size v2 m news)
    (hown : w.ownsRow base e size v n xs) (h1 : ∀ u ∈ news, u.oneCell' = true) (hbytes : (n + m) * bytes ≤ 140737488355328) (h63 : n + m ≤ maxLen) (hbase : base ≤ w.heap.size)
    (h : ∀ v' w', w'.ownsRow base e size v' (n + m) (xs ++ news) → w.grownBy w' v.ownBlock → NewRow v v' w.heap.size → E v' w') : eachUpon P E ((execOp a.eval o).run P w) := by
  obtain ⟨v', w', hrun, h2, h3, h4⟩ := run_app (P := P) w t o.type e size bytes hE base v n xs hown v2 m news hsrc h1 h63 hbytes hbase
  unfold execOp
  simp only [ho, resolve, invoke, builtin, Sem.run_bind, Sem.run_pure, Result.andThen_ok, List.map_toArray, List.map_cons, List.map_nil, hs, hx, hrun]
  exact h v' w' h2 h3 h4
theorem src_head {w : World} {base : Nat} {e : TypeId} {size n c k : Nat} {g : Nat} {xs : List Value} (h : w.ownsRow base e size (.slice (some ⟨g, 0, none⟩) n c) n xs) (hk : k ≤ n) (c' : Nat) : SrcIs w size (.slice (some ⟨g, 0, none⟩) k c') k (xs.take (k * size)) := by
  have hks : k * size ≤ n * size := Nat.mul_le_mul_right _ hk
  refine .inr ⟨g, 0, c', rfl, by rw [List.length_take, h.1]; omega, fun j u hu => ?_⟩
  rw [List.getElem?_take] at hu
  split at hu
  · rw [Nat.zero_add, h.cellAt j (by omega)]; exact hu
  · cases hu
theorem src_tail {w : World} {base : Nat} {e : TypeId} {size n c k : Nat} {g : Nat} {xs : List Value} (h : w.ownsRow base e size (.slice (some ⟨g, 0, none⟩) n c) n xs) (hk : k ≤ n) (c' : Nat) : SrcIs w size (.slice (some ⟨g, k * size, none⟩) (n - k) c') (n - k) (xs.drop (k * size)) := by
  have hks : k * size ≤ n * size := Nat.mul_le_mul_right _ hk
  refine .inr ⟨g, k * size, c', rfl, by rw [List.length_drop, h.1, Nat.sub_mul], fun j u hu => ?_⟩
  rw [List.getElem?_drop] at hu
  have hlt : k * size + j < xs.length := (List.getElem?_eq_some_iff.1 hu).1
  rw [h.cellAt _ (by rw [← h.1]; exact hlt)]; exact hu
theorem src_strs {B : Nat → Prop} {w : World} {v : Value} {us : List ByteArray} (h : StrsAt B w v us) (hv : v = .slice none 0 0 ∨ ∃ b o c, v = .slice (some ⟨b, o, none⟩) us.length c) : SrcIs w 1 v us.length (strW us) := by
  rcases hv with rfl | ⟨b, o, c, rfl⟩
  · obtain ⟨p, d, he, hl, -⟩ := h
    simp only [Value.slice.injEq] at he
    obtain ⟨-, he, -⟩ := he
    obtain rfl : us = [] := List.eq_nil_of_length_eq_zero he.symm
    exact .inl ⟨rfl, rfl, rfl⟩
  · refine .inr ⟨b, o, c, rfl, by simp [strW], fun j u hu => ?_⟩
    rw [strW, List.getElem?_map] at hu
    cases hj : us[j]? with
    | none => rw [hj] at hu; cases hu
    | some s =>
      rw [hj] at hu
      obtain rfl : Value.string s = u := Option.some.inj hu
      obtain ⟨hlt, rfl⟩ := List.getElem?_eq_some_iff.1 hj
      obtain ⟨b', o', e1, -, hc, -⟩ := h.at_ hlt
      injection e1 with e1
      injection e1 with e2 e3
      subst e2 e3
      exact hc
theorem src_block {w : World} {size q : Nat} {cs : Array Value} {e : TypeId} (h : w.heap[q]? = some (.cells cs e (0, 0))) (hs : cs.size = size) : SrcIs w size (.slice (some ⟨q, 0, none⟩) 1 1) 1 cs.toList := by
  refine .inr ⟨q, 0, 1, rfl, by rw [Array.length_toList]; omega, fun j u hu => ?_⟩
  rw [Nat.zero_add, cell_of_row w q j cs e (0, 0) h]
  simpa using hu
theorem srcNil {w : World} {size g o c m : Nat} (hm : m = 0) : SrcIs w size (.slice (some ⟨g, o, none⟩) 0 c) m [] := by
  subst hm
  exact .inr ⟨g, o, c, rfl, by simp, fun j u h => by simp at h⟩
theorem SrcIs.below {w w' : World} {size m : Nat} {v : Value} {news : List Value} (h : SrcIs w size v m news) (hb : Below w.heap.size w w') : SrcIs w' size v m news := by
  rcases h with h | ⟨b, o, c, h1, h2, h3⟩
  · exact .inl h
  · exact .inr ⟨b, o, c, h1, h2, fun j u hu => (hb.cell (World.block_lt_of_cell? w _ (h3 j u hu))).trans (h3 j u hu)⟩
/-! ### Units with rows of their own -/
theorem canG_perm {α : Type} {lt : α → α → Bool} (l : List α) : (canG lt l).Perm l := by
  have ins : ∀ (out : List α) (x : α), (insG lt out x).Perm (x :: out) := fun out x => by
    have := List.takeWhile_append_dropWhile (p := fun y => lt y x) (l := out)
    rw [insG]
    refine List.perm_middle.trans ?_
    rw [this]
  have fold : ∀ (l out : List α), (l.foldl (insG lt) out).Perm (out ++ l) := fun l => by
    induction l with
    | nil => intro out; simp
    | cons x l ih =>
      intro out
      rw [List.foldl_cons]
      refine (ih _).trans (((ins out x).append_right l).trans ?_)
      exact (List.perm_middle (a := x) (l₁ := out) (l₂ := l)).symm
  have := fold l []
  rw [List.nil_append] at this
  exact this
def UC.S (x : UC) (b : Nat) : Prop := (Value.slice x.p x.u.incs.length x.c).ownBlock = some b ∨ (Value.slice x.q x.u.axs.length x.d).ownBlock = some b
structure UC.Own (e : TypeId) (base : Nat) (w : World) (x : UC) : Prop where
  ra : w.ownsRow base e 1 (.slice x.p x.u.incs.length x.c) x.u.incs.length (strW x.u.incs)
  rb : w.ownsRow base e 1 (.slice x.q x.u.axs.length x.d) x.u.axs.length (strW x.u.axs)
  ap : ∀ g, (Value.slice x.p x.u.incs.length x.c).ownBlock = some g → (Value.slice x.q x.u.axs.length x.d).ownBlock ≠ some g
theorem UC.Own.blk {e : TypeId} {base : Nat} {w : World} {x : UC} (h : x.Own e base w) {b : Nat} (hb : x.S b) : base ≤ b ∧ b < w.heap.size := by
  rcases hb with hb | hb
  · exact ⟨own_base h.ra b hb, own_lt' h.ra hb⟩
  · exact ⟨own_base h.rb b hb, own_lt' h.rb hb⟩
theorem UC.Own.same {e : TypeId} {base : Nat} {w w' : World} {x : UC} (h : x.Own e base w) (hs : ∀ b, x.S b → b < w.heap.size → w'.heap[b]? = w.heap[b]?) : x.Own e base w' :=
  ⟨own_same h.ra fun g hg hl => hs g (.inl hg) hl, own_same h.rb fun g hg hl => hs g (.inr hg) hl, h.ap⟩
theorem UC.Own.un {e : TypeId} {base : Nat} {w : World} {x : UC} (h : x.Own e base w) (hn : x.u.name.size ≤ maxLen) (hg : x.u.goal.size ≤ maxLen) (hi : ∀ s ∈ x.u.incs, s.size ≤ maxLen) (ha : ∀ s ∈ x.u.axs, s.size ≤ maxLen) : UnOwn e x.S w x.u x.cs :=
  ⟨_, _, fun b => (Value.slice x.p x.u.incs.length x.c).ownBlock = some b, fun b => (Value.slice x.q x.u.axs.length x.d).ownBlock = some b, rfl, hn, hg, rowS_own h.ra hi (own_lenU h.ra) (fun _ h => h), rowS_own h.rb ha (own_lenU h.rb) (fun _ h => h), fun _ h => .inl h, fun _ h => .inr h, h.ap⟩
structure Uns (e : TypeId) (base : Nat) (w : World) (ov : Value) (D : List UC) : Prop where
  each : ∀ x ∈ D, x.Own e base w
  far : ∀ x ∈ D, ∀ b, x.S b → ov.ownBlock ≠ some b
  pair : D.Pairwise fun x y => ∀ b, x.S b → ¬ y.S b
section
variable {e eU : TypeId} {base : Nat} {w w' : World} {ov ov' : Value} {D D' : List UC}
theorem Uns.nil (e : TypeId) (base : Nat) (w : World) (ov : Value) : Uns e base w ov [] := ⟨fun _ h => (by cases h), fun _ h => (by cases h), List.Pairwise.nil⟩
theorem Uns.perm (h : Uns e base w ov D) (hp : D'.Perm D) : Uns e base w ov D' :=
  ⟨fun x hx => h.each x (hp.mem_iff.1 hx), fun x hx => h.far x (hp.mem_iff.1 hx), (List.Perm.pairwise_iff (fun hab b h1 h2 => hab b h2 h1) hp).2 h.pair⟩
theorem Uns.grown (h : Uns e base w ov D) (hg : w.grownBy w' ov.ownBlock) (hn : NewRow ov ov' w.heap.size) : Uns e base w' ov' D :=
  ⟨fun x hx => (h.each x hx).same fun b hb hl => hg.block b hl (fun e => h.far x hx b hb e.symm), fun x hx b hb => newRow_ne hn ((h.each x hx).blk hb).2 (h.far x hx b hb), h.pair⟩
theorem Uns.below (h : Uns e base w ov D) (hb : Below w.heap.size w w') : Uns e base w' ov D :=
  ⟨fun x hx => (h.each x hx).same fun b _ hl => hb.block b hl, h.far, h.pair⟩
theorem Uns.snoc (h : Uns e base w ov D) {x : UC} (hx : x.Own e base w) (hf : ∀ b, x.S b → ov.ownBlock ≠ some b) (hd : ∀ y ∈ D, ∀ b, y.S b → ¬ x.S b) : Uns e base w ov (D ++ [x]) := by
  refine ⟨fun y hy => ?_, fun y hy => ?_, ?_⟩
  · rcases List.mem_append.1 hy with hy | hy
    · exact h.each y hy
    · obtain rfl : y = x := by simpa using hy
      exact hx
  · rcases List.mem_append.1 hy with hy | hy
    · exact h.far y hy
    · obtain rfl : y = x := by simpa using hy
      exact hf
  · rw [List.pairwise_append]
    exact ⟨h.pair, by simp, fun a ha b hb => by obtain rfl : b = x := by simpa using hb
                                                exact hd a ha⟩
theorem flatU_cut (D : List UC) {i : Nat} {x : UC} (h : D[i]? = some x) : ((flatU D).drop (i * 4)).take 4 = x.cs := by
  obtain ⟨hi, rfl⟩ := List.getElem?_eq_some_iff.1 h
  have hl : (flatU (D.take i)).length = i * 4 := by rw [flatU_len, List.length_take]; congr 1; omega
  have e : D = D.take i ++ D[i] :: D.drop (i + 1) := by rw [← List.drop_eq_getElem_cons hi, List.take_append_drop]
  have e3 : flatU D = flatU (D.take i) ++ (D[i].cs ++ flatU (D.drop (i + 1))) := by
    conv => lhs; rw [e]
    rw [flatU_app]; rfl
  rw [e3, List.drop_append_of_le_length (by omega), ← hl, List.drop_length, List.nil_append]
  rw [List.take_append_of_le_length (by show 4 ≤ 4; omega)]
  rfl
theorem Uns.own {S : Nat → Prop} {us : List Un} (h : Uns e base w ov D) (hr : w.ownsRow base eU 4 ov us.length (flatU D)) (hu : D.map UC.u = us) (hm : us.length ≤ maxLen) (hz : ∀ u ∈ us, u.wt ≤ maxLen) (hS : ∀ b, base ≤ b → b < w.heap.size → S b) : UnsOwn e eU S w us ov := by
  subst hu
  have hlt : ∀ {i : Nat} {x : UC}, D[i]? = some x → x ∈ D := fun h => List.mem_of_getElem? h
  refine ⟨hm, flatU D, fun i b => ∃ x, D[i]? = some x ∧ x.S b, own_lower hr (Nat.zero_le _), fun g hg => hS g (own_base hr g hg) (own_lt' hr hg), fun i u hi => ?_, fun i j b hi hj hij => ?_⟩
  · rw [List.getElem?_map] at hi
    cases hx : D[i]? with
    | none => rw [hx] at hi; cases hi
    | some x =>
      rw [hx] at hi
      obtain rfl : x.u = u := Option.some.inj hi
      have hw := hz x.u (List.mem_map.2 ⟨x, hlt hx, rfl⟩)
      have hw2 : x.u.wt = x.u.name.size + (x.u.incs.length + wtS x.u.incs) + (x.u.axs.length + wtS x.u.axs) + x.u.goal.size := rfl
      refine ⟨?_, fun b ⟨y, hy, hb⟩ => ?_⟩
      · rw [flatU_cut D hx]
        refine ((h.each x (hlt hx)).un (by omega) (by omega) (fun s hs => ?_) (fun s hs => ?_)).mono (SameOn.refl _ _) (fun b hb => ⟨x, hx, hb⟩)
        · have := wtS_le _ s hs; omega
        · have := wtS_le _ s hs; omega
      · obtain rfl : x = y := Option.some.inj (hx.symm.trans hy)
        have := (h.each x (hlt hx)).blk hb
        exact ⟨hS b this.1 this.2, h.far x (hlt hx) b hb⟩
  · rintro ⟨x, hx, hb⟩ ⟨y, hy, hb2⟩
    rw [List.length_map] at hi hj
    obtain ⟨_, rfl⟩ := List.getElem?_eq_some_iff.1 hx
    obtain ⟨_, rfl⟩ := List.getElem?_eq_some_iff.1 hy
    rcases Nat.lt_or_gt_of_ne hij with hlt' | hlt'
    · exact List.pairwise_iff_getElem.1 h.pair i j hi hj hlt' b hb hb2
    · exact List.pairwise_iff_getElem.1 h.pair j i hj hi hlt' b hb2 hb
end
theorem after_eq {o : Oper} {u u' : Nat → Value} {p : Nat} (hu : ∀ e ∈ o.after, Region.binds .any e = true → u' e.on = u e.on) (h : (o.after.any fun e => Region.binds .any e && e.on == p) = true) : u' p = u p := by
  obtain ⟨e, he1, he2⟩ := Array.any_eq_true'.1 h
  simp only [Bool.and_eq_true, beq_iff_eq] at he2
  rw [← he2.2]; exact hu e he1 he2.1
theorem after_behind {o : Oper} {L : Array Bool} {p : Nat} (hb : Behind .any o L) (h : (o.after.any fun e => Region.binds .any e && e.on == p) = true) : L.getD p false = true := by
  obtain ⟨e, he1, he2⟩ := Array.any_eq_true'.1 h
  simp only [Bool.and_eq_true, beq_iff_eq] at he2
  rw [← he2.2]; exact hb e he1 he2.1
theorem getD_now {L : Array Bool} {k : Nat} (h : L.getD k true = false) : (L.setIfInBounds k true).getD k false = true := by
  have hlt : k < L.size := by
    rcases Nat.lt_or_ge k L.size with h' | h'
    · exact h'
    · simp [Array.getElem?_eq_none h'] at h
  simp [hlt]
structure InsD (e : TypeId) (sz : Nat) (W : World) (i n : Nat) (A B : List Value) (cs : Array Value) (u : Nat → Value) (L : Array Bool) (w : World) : Prop where
  bel : Below W.heap.size W w
  o4 : L.getD 4 false = true → L.getD 0 false = true
  o7 : L.getD 7 false = true → L.getD 4 false = true ∧ L.getD 6 false = true
  o11 : L.getD 11 false = true → L.getD 7 false = true
  o12 : L.getD 12 false = true → L.getD 11 false = true
  r0 : L.getD 0 false = true → L.getD 4 false = false → w.ownsRow W.heap.size e sz (u 0) 0 []
  r4 : L.getD 4 false = true → L.getD 7 false = false → w.ownsRow W.heap.size e sz (u 4) i A
  r6 : L.getD 6 false = true → L.getD 7 false = false → ∃ g, u 6 = .slice (some ⟨g, 0, none⟩) 1 1 ∧ w.heap[g]? = some (.cells cs e (0, 0)) ∧ (L.getD 0 false = true → L.getD 4 false = false → (u 0).ownBlock ≠ some g) ∧ (L.getD 4 false = true → (u 4).ownBlock ≠ some g)
  r7 : L.getD 7 false = true → L.getD 11 false = false → w.ownsRow W.heap.size e sz (u 7) (i + 1) (A ++ cs.toList)
  r11 : L.getD 11 false = true → w.ownsRow W.heap.size e sz (u 11) n (A ++ cs.toList ++ B)
  r12 : L.getD 12 false = true → u 12 = u 11
section
variable {e : TypeId} {sz : Nat} {W w w' : World} {i n : Nat} {A B : List Value} {cs : Array Value} {u : Nat → Value} {L : Array Bool} {v' : Value}
theorem InsD.start (hL : ∀ i, L.getD i false = false) : InsD e sz W i n A B cs (fun _ => undef) L W.drew := by
  refine ⟨(Below.refl _ _).drew, ?_, ?_, ?_, ?_, ?_, ?_, ?_, ?_, ?_, ?_⟩ <;> (intro h; exact absurd h (by rw [hL]; decide))
theorem InsD.other (h : InsD e sz W i n A B cs u L w) (k : Nat) (hk : k ∉ [0, 4, 6, 7, 11, 12]) : InsD e sz W i n A B cs u (L.setIfInBounds k true) w := by
  simp only [List.mem_cons, List.not_mem_nil, or_false, not_or] at hk
  obtain ⟨k0, k4, k6, k7, k11, k12⟩ := hk
  obtain ⟨h1, h2, h3, h4, h5, h6, h7, h8, h9, h10, h11⟩ := h
  refine ⟨h1, ?_, ?_, ?_, ?_, ?_, ?_, ?_, ?_, ?_, ?_⟩ <;> simp only [getD_set_ne false k0, getD_set_ne false k4, getD_set_ne false k6, getD_set_ne false k7, getD_set_ne false k11, getD_set_ne false k12] <;> assumption
theorem InsD.b0 (h : InsD e sz W i n A B cs u L w) (hun : L.getD 0 true = false) : InsD e sz W i n A B cs (upd u 0 (.slice (some ⟨w.heap.size, 0, none⟩) 0 0)) (L.setIfInBounds 0 true) (w.alloc (.cells #[] e)) := by
  have hb := (Below.refl w.heap.size w).alloc (Nat.le_refl _) (.cells #[] e)
  have hn := getD_tf hun
  obtain ⟨h1, h2, h3, h4, h5, h6, h7, h8, h9, h10, h11⟩ := h
  refine ⟨h1.alloc h1.size _, ?_, ?_, ?_, ?_, ?_, ?_, ?_, ?_, ?_, ?_⟩ <;> simp only [getD_set_ne false (show (0 : Nat) ≠ 4 by decide), getD_set_ne false (show (0 : Nat) ≠ 6 by decide), getD_set_ne false (show (0 : Nat) ≠ 7 by decide), getD_set_ne false (show (0 : Nat) ≠ 11 by decide), getD_set_ne false (show (0 : Nat) ≠ 12 by decide), getD_now hun, upd_same, upd_other u _ (show (4 : Nat) ≠ 0 by decide), upd_other u _ (show (6 : Nat) ≠ 0 by decide), upd_other u _ (show (7 : Nat) ≠ 0 by decide), upd_other u _ (show (11 : Nat) ≠ 0 by decide), upd_other u _ (show (12 : Nat) ≠ 0 by decide)]
  · intro _; trivial
  · exact h3
  · exact h4
  · exact h5
  · intro _ _; exact row_empty w _ e sz h1.size
  · intro a b; exact own_below (h7 a b) hb
  · intro a b
    obtain ⟨g, e1, e2, e3, e4⟩ := h8 a b
    have hg := blk_lt e2
    exact ⟨g, e1, (hb.block g hg).trans e2, fun _ _ => by simp only [Value.ownBlock, ne_eq, Option.some.injEq]; omega, e4⟩
  · intro a b; exact own_below (h9 a b) hb
  · intro a; exact own_below (h10 a) hb
  · exact h11
theorem InsD.a4 (h : InsD e sz W i n A B cs u L w) (hun : L.getD 4 true = false) (h0 : L.getD 0 false = true) (hr : w'.ownsRow W.heap.size e sz v' (0 + i) ([] ++ A)) (hg : w.grownBy w' (u 0).ownBlock) (hnr : NewRow (u 0) v' w.heap.size) : InsD e sz W i n A B cs (upd u 4 v') (L.setIfInBounds 4 true) w' := by
  have hn := getD_tf hun
  obtain ⟨h1, h2, h3, h4, h5, h6, h7, h8, h9, h10, h11⟩ := h
  have n7 : L.getD 7 false = false := by
    cases h' : L.getD 7 false with
    | false => rfl
    | true => have := (h3 h').1; rw [hn] at this; cases this
  have n11 : L.getD 11 false = false := by
    cases h' : L.getD 11 false with
    | false => rfl
    | true => have := h4 h'; rw [n7] at this; cases this
  have n12 : L.getD 12 false = false := by
    cases h' : L.getD 12 false with
    | false => rfl
    | true => have := h5 h'; rw [n11] at this; cases this
  have ho := h6 h0 hn
  rw [Nat.zero_add, List.nil_append] at hr
  refine ⟨h1.grown hg h1.size (fun k hk => own_base ho k hk), ?_, ?_, ?_, ?_, ?_, ?_, ?_, ?_, ?_, ?_⟩ <;> simp only [getD_set_ne false (show (4 : Nat) ≠ 0 by decide), getD_set_ne false (show (4 : Nat) ≠ 6 by decide), getD_set_ne false (show (4 : Nat) ≠ 7 by decide), getD_set_ne false (show (4 : Nat) ≠ 11 by decide), getD_set_ne false (show (4 : Nat) ≠ 12 by decide), getD_now hun, n7, n11, n12, upd_same, upd_other u _ (show (0 : Nat) ≠ 4 by decide), upd_other u _ (show (6 : Nat) ≠ 4 by decide), upd_other u _ (show (7 : Nat) ≠ 4 by decide), upd_other u _ (show (11 : Nat) ≠ 4 by decide), upd_other u _ (show (12 : Nat) ≠ 4 by decide)]
  · intro _; exact h0
  · intro h; cases h
  · intro h; cases h
  · intro h; cases h
  · intro _ h; cases h
  · intro _ _; exact hr
  · intro a _
    obtain ⟨g, e1, e2, e3, e4⟩ := h8 a n7
    have hgl := blk_lt e2
    refine ⟨g, e1, (hg.block g hgl (fun e => e3 h0 hn e.symm)).trans e2, fun _ h => (by cases h), fun _ => newRow_ne hnr hgl (e3 h0 hn)⟩
  · intro h; cases h
  · intro h; cases h
  · intro h; cases h
theorem InsD.b6 (h : InsD e sz W i n A B cs u L w) (hun : L.getD 6 true = false) : InsD e sz W i n A B cs (upd u 6 (.slice (some ⟨w.heap.size, 0, none⟩) 1 1)) (L.setIfInBounds 6 true) (w.alloc (.cells cs e)) := by
  have hb := (Below.refl w.heap.size w).alloc (Nat.le_refl _) (.cells cs e)
  have hn := getD_tf hun
  obtain ⟨h1, h2, h3, h4, h5, h6, h7, h8, h9, h10, h11⟩ := h
  have n7 : L.getD 7 false = false := by
    cases h' : L.getD 7 false with
    | false => rfl
    | true => have := (h3 h').2; rw [hn] at this; cases this
  refine ⟨h1.alloc h1.size _, ?_, ?_, ?_, ?_, ?_, ?_, ?_, ?_, ?_, ?_⟩ <;> simp only [getD_set_ne false (show (6 : Nat) ≠ 4 by decide), getD_set_ne false (show (6 : Nat) ≠ 0 by decide), getD_set_ne false (show (6 : Nat) ≠ 7 by decide), getD_set_ne false (show (6 : Nat) ≠ 11 by decide), getD_set_ne false (show (6 : Nat) ≠ 12 by decide), getD_now hun, upd_same, upd_other u _ (show (4 : Nat) ≠ 6 by decide), upd_other u _ (show (0 : Nat) ≠ 6 by decide), upd_other u _ (show (7 : Nat) ≠ 6 by decide), upd_other u _ (show (11 : Nat) ≠ 6 by decide), upd_other u _ (show (12 : Nat) ≠ 6 by decide)]
  · exact h2
  · intro h; rw [n7] at h; cases h
  · exact h4
  · exact h5
  · intro a b; exact own_below (h6 a b) hb
  · intro a b; exact own_below (h7 a b) hb
  · intro _ _
    exact ⟨_, rfl, heap_alloc_new w _, fun a b => (fun e => by have := own_lt' (h6 a b) e; omega), fun a => (fun e => by have := own_lt' (h7 a n7) e; omega)⟩
  · intro a b; exact own_below (h9 a b) hb
  · intro a; exact own_below (h10 a) hb
  · exact h11
theorem InsD.a7 (h : InsD e sz W i n A B cs u L w) (hun : L.getD 7 true = false) (k4 : L.getD 4 false = true) (k6 : L.getD 6 false = true) (hr : w'.ownsRow W.heap.size e sz v' (i + 1) (A ++ cs.toList)) (hg : w.grownBy w' (u 4).ownBlock) : InsD e sz W i n A B cs (upd u 7 v') (L.setIfInBounds 7 true) w' := by
  have hn := getD_tf hun
  obtain ⟨h1, h2, h3, h4, h5, h6, h7, h8, h9, h10, h11⟩ := h
  have n11 : L.getD 11 false = false := by
    cases h' : L.getD 11 false with
    | false => rfl
    | true => have := h4 h'; rw [hn] at this; cases this
  have n12 : L.getD 12 false = false := by
    cases h' : L.getD 12 false with
    | false => rfl
    | true => have := h5 h'; rw [n11] at this; cases this
  have ho := h7 k4 hn
  refine ⟨h1.grown hg h1.size (fun k hk => own_base ho k hk), ?_, ?_, ?_, ?_, ?_, ?_, ?_, ?_, ?_, ?_⟩ <;> simp only [getD_set_ne false (show (7 : Nat) ≠ 0 by decide), getD_set_ne false (show (7 : Nat) ≠ 6 by decide), getD_set_ne false (show (7 : Nat) ≠ 4 by decide), getD_set_ne false (show (7 : Nat) ≠ 11 by decide), getD_set_ne false (show (7 : Nat) ≠ 12 by decide), getD_now hun, n11, n12, k4, k6, upd_same, upd_other u _ (show (0 : Nat) ≠ 7 by decide), upd_other u _ (show (6 : Nat) ≠ 7 by decide), upd_other u _ (show (4 : Nat) ≠ 7 by decide), upd_other u _ (show (11 : Nat) ≠ 7 by decide), upd_other u _ (show (12 : Nat) ≠ 7 by decide)]
  · intro _; exact h2 k4
  · intro _; exact ⟨trivial, trivial⟩
  · intro h; cases h
  · intro h; cases h
  · intro _ h; cases h
  · intro _ h; cases h
  · intro _ h; cases h
  · intro _ _; exact hr
  · intro h; cases h
  · intro h; cases h
theorem InsD.a11 (h : InsD e sz W i n A B cs u L w) (hun : L.getD 11 true = false) (k7 : L.getD 7 false = true) (hr : w'.ownsRow W.heap.size e sz v' n (A ++ cs.toList ++ B)) (hg : w.grownBy w' (u 7).ownBlock) : InsD e sz W i n A B cs (upd u 11 v') (L.setIfInBounds 11 true) w' := by
  have hn := getD_tf hun
  obtain ⟨h1, h2, h3, h4, h5, h6, h7, h8, h9, h10, h11⟩ := h
  have n12 : L.getD 12 false = false := by
    cases h' : L.getD 12 false with
    | false => rfl
    | true => have := h5 h'; rw [hn] at this; cases this
  have ho := h9 k7 hn
  obtain ⟨k4, k6⟩ := h3 k7
  refine ⟨h1.grown hg h1.size (fun k hk => own_base ho k hk), ?_, ?_, ?_, ?_, ?_, ?_, ?_, ?_, ?_, ?_⟩ <;> simp only [getD_set_ne false (show (11 : Nat) ≠ 0 by decide), getD_set_ne false (show (11 : Nat) ≠ 6 by decide), getD_set_ne false (show (11 : Nat) ≠ 4 by decide), getD_set_ne false (show (11 : Nat) ≠ 7 by decide), getD_set_ne false (show (11 : Nat) ≠ 12 by decide), getD_now hun, n12, k4, k6, k7, upd_same, upd_other u _ (show (0 : Nat) ≠ 11 by decide), upd_other u _ (show (6 : Nat) ≠ 11 by decide), upd_other u _ (show (4 : Nat) ≠ 11 by decide), upd_other u _ (show (7 : Nat) ≠ 11 by decide), upd_other u _ (show (12 : Nat) ≠ 11 by decide)]
  · intro _; exact h2 k4
  · intro _; exact ⟨trivial, trivial⟩
  · intro _; trivial
  · intro h; cases h
  · intro _ h; cases h
  · intro _ h; cases h
  · intro _ h; cases h
  · intro _ h; cases h
  · intro _; exact hr
  · intro h; cases h
theorem InsD.m12 (h : InsD e sz W i n A B cs u L w) (hun : L.getD 12 true = false) (k11 : L.getD 11 false = true) : InsD e sz W i n A B cs (upd u 12 (u 11)) (L.setIfInBounds 12 true) w := by
  obtain ⟨h1, h2, h3, h4, h5, h6, h7, h8, h9, h10, h11⟩ := h
  refine ⟨h1, ?_, ?_, ?_, ?_, ?_, ?_, ?_, ?_, ?_, ?_⟩ <;> simp only [getD_set_ne false (show (12 : Nat) ≠ 0 by decide), getD_set_ne false (show (12 : Nat) ≠ 6 by decide), getD_set_ne false (show (12 : Nat) ≠ 4 by decide), getD_set_ne false (show (12 : Nat) ≠ 7 by decide), getD_set_ne false (show (12 : Nat) ≠ 11 by decide), getD_now hun, upd_same, upd_other u _ (show (0 : Nat) ≠ 12 by decide), upd_other u _ (show (6 : Nat) ≠ 12 by decide), upd_other u _ (show (4 : Nat) ≠ 12 by decide), upd_other u _ (show (7 : Nat) ≠ 12 by decide), upd_other u _ (show (11 : Nat) ≠ 12 by decide)] <;> first | assumption | (intro _; first | exact k11 | trivial)
end
end Go.Proofs.YtkgfanajgdelcaaGreatDoor
