/- Rows that a call makes itself and appends to, one element at a time. No conditions beyond the sizes. -/
import Derived.Test.YtinfogmjijeliaaLib
import Derived.Maps.AppendAt
namespace Go.Proofs.Ytinfogmjijeliaa
open Go.RowKit
/-- The element type e of the slice type t: its size in cells and in bytes. -/
def Elem (P : Program) (t e : TypeId) (size bytes : Nat) : Prop :=
  P.underlying t = some (.slice e) ∧ ∃ i z, P.info? e = some i ∧ i.zero = some z ∧ i.size = size ∧ i.bytes = bytes ∧ z.cells.size = size ∧ 0 < size
theorem elem_of {P : Program} {t e : TypeId} {z : Value} {size bytes : Nat} (ht : P.underlying t = some (.slice e)) (h : (P.info? e).map (fun i => (i.zero, i.size, i.bytes)) = some (some z, size, bytes))
    (hz : z.cells.size = size) (hs : 0 < size) : Elem P t e size bytes := by
  obtain ⟨i, h1, h2, h3, h4⟩ := info_parts h
  exact ⟨ht, i, z, h1, h2, h3, h4, hz, hs⟩
/-- Where the value v' of an append to v (in a world with H blocks) lies: v's own row, or a new block. -/
def NewRow (v v' : Value) (H : Nat) : Prop := v'.ownBlock = v.ownBlock ∨ ∃ g, v'.ownBlock = some g ∧ H ≤ g
section
variable {P : Program}
theorem wpList_app1 {w : World} {ops : Array Oper} {rest : List Oper} {o : Oper} {a : Act} {Q : Exit → Act → World → Prop} (hgd : o.guard = none) (s x : Operand) (t : TypeId)
    (ho : o.op = .call { callee := .builtin .append, args := #[s, x], argTypes := #[t, t] })
    (base : Nat) (e : TypeId) (size bytes : Nat) (hE : Elem P t e size bytes)
    (v : Value) (n : Nat) (xs : List Value) (hs : a.eval s = v) (wr : World) (cs : Array Value) (hw : w = wr.alloc (.cells cs e)) (H : Nat) (hH : wr.heap.size = H) (hx : a.eval x = .slice (some ⟨H, 0, none⟩) 1 1)
    (hown : wr.ownsRow base e size v n xs) (hcs : cs.size = size) (h1 : ∀ u ∈ cs.toList, u.oneCell' = true)
    (hbytes : (n + 1) * bytes ≤ 140737488355328) (h63 : n + 1 ≤ maxLen) (hbase : base ≤ wr.heap.size)
    (h : ∀ v' w', w'.ownsRow base e size v' (n + 1) (xs ++ cs.toList) → wr.grownBy w' v.ownBlock → NewRow v v' wr.heap.size → wr.heap.size < w'.heap.size → wpList P ops Q rest (a.put o.dst v') w') : wpList P ops Q (o :: rest) a w := by
  obtain ⟨ht, i, z, hi, hz, hsz, hby, hzs, hpos⟩ := hE
  subst hw hH
  have hnews : ∀ j u, cs.toList[j]? = some u → (wr.alloc (.cells cs e)).cell? ((⟨wr.heap.size, 0, none⟩ : Addr).add j) = some u := by
    intro j u hu
    have hb := heap_alloc_new wr (.cells cs e)
    have : ((⟨wr.heap.size, 0, none⟩ : Addr).add j) = ⟨wr.heap.size, j, none⟩ := by unfold Addr.add; split <;> simp_all
    rw [this, cell_of_row _ _ j cs e (0, 0) hb]
    simpa using hu
  obtain ⟨v', w', hrun, h2, h3, _, h5⟩ := run_append_own_at (P := P) (wr.alloc (.cells cs e)) base t o.type e i z size bytes ht hi hz hsz hby hzs hpos v n xs (hown.alloc _) ⟨wr.heap.size, 0, none⟩ 1 1 cs.toList (by rw [Array.length_toList, hcs, Nat.one_mul]) hnews h1 h63 hbytes (Nat.le_trans hbase (by simp))
  refine wpList_plain hgd fun _ hK => ?_
  unfold Oper.wp execOp
  simp only [ho, resolve, invoke, builtin, Sem.run_bind, Sem.run_pure, Result.andThen_ok, List.map_toArray, List.map_cons, List.map_nil, hs, hx, hrun]
  refine hK _ _ (h v' w' h2 ⟨h3.os, h3.tape, h3.output, Nat.le_trans (by simp) h3.size, fun k hk hne => (h3.block k (by simp; omega) hne).trans (Below.heap_alloc wr _ k hk)⟩ ?_ ?_)
  · rcases h5 with h5 | h5
    · exact .inl h5
    · exact .inr ⟨_, h5, by simp⟩
  · have := h3.size
    simp at this; omega
end
theorem row_empty (w : World) (base : Nat) (e : TypeId) (size : Nat) (hb : base ≤ w.heap.size) : (w.alloc (.cells #[] e)).ownsRow base e size (.slice (some ⟨w.heap.size, 0, none⟩) 0 0) 0 [] :=
  ⟨by simp, .inr ⟨w.heap.size, 0, #[], rfl, hb, heap_alloc_new w _, Nat.le_refl _, by simp [maxLen], by simp, by simp⟩⟩
theorem own_base {w : World} {base : Nat} {e : TypeId} {size : Nat} {v : Value} {n : Nat} {xs : List Value} (h : w.ownsRow base e size v n xs) : ∀ k, v.ownBlock = some k → base ≤ k := by
  intro k hk
  rcases h.2 with ⟨rfl, _⟩ | ⟨g, cap, cur, rfl, hb, _⟩
  · simp [Value.ownBlock] at hk
  · have : g = k := by simpa [Value.ownBlock] using hk
    omega
def strV (l : List (List UInt8)) : List Value := l.map fun s => Value.string ⟨s.toArray⟩
theorem strV_snoc (l : List (List UInt8)) (s : List UInt8) : strV (l ++ [s]) = strV l ++ [Value.string ⟨s.toArray⟩] := by simp [strV]
theorem elemStr : Elem Try.prog 51 9 1 16 := elem_of Try.underlying51 (z := .string ⟨#[]⟩) (by kernel_rfl) rfl (by omega)
/-- A text parted at a byte: the whole parts, and what stands behind the last of them. -/
def splitSt (b : UInt8) : List (List UInt8) × List UInt8 → UInt8 → List (List UInt8) × List UInt8 := fun st c => if c == b then (st.1 ++ [st.2], []) else (st.1, st.2 ++ [c])
def splitP (l : List UInt8) (b : UInt8) : List (List UInt8) × List UInt8 := l.foldl (splitSt b) ([], [])
def splitF (l : List UInt8) (b : UInt8) : List (List UInt8) := (splitP l b).1 ++ [(splitP l b).2]
theorem splitP_snoc (l : List UInt8) (c b : UInt8) : splitP (l ++ [c]) b = splitSt b (splitP l b) c := by simp [splitP]
theorem splitP_len (l : List UInt8) (b : UInt8) : (splitP l b).1.length ≤ l.length := by
  have : ∀ (l : List UInt8) (st : List (List UInt8) × List UInt8), (l.foldl (splitSt b) st).1.length ≤ st.1.length + l.length := by
    intro l; induction l with
    | nil => intro st; simp
    | cons c l ih => intro st; have := ih (splitSt b st c); simp only [List.foldl_cons, List.length_cons]; unfold splitSt at this ⊢; split at this <;> simp_all <;> omega
  simpa [splitP] using this l ([], [])
theorem split_yes (s : ByteArray) (k : Nat) (b : UInt8) (h : k < s.size) (hc : (s[k] == b) = true) : splitP (s.data.toList.take (k + 1)) b = ((splitP (s.data.toList.take k) b).1 ++ [(splitP (s.data.toList.take k) b).2], []) := by
  rw [take_snoc s k h, splitP_snoc, splitSt, if_pos hc]
theorem split_no (s : ByteArray) (k : Nat) (b : UInt8) (h : k < s.size) (hc : (s[k] == b) = false) : splitP (s.data.toList.take (k + 1)) b = ((splitP (s.data.toList.take k) b).1, (splitP (s.data.toList.take k) b).2 ++ [s[k]]) := by
  rw [take_snoc s k h, splitP_snoc, splitSt, if_neg (by simp [hc])]
theorem drop_snoc (s : ByteArray) (f k : Nat) (h : k < s.size) (hf : f ≤ k) : (s.data.toList.take (k + 1)).drop f = (s.data.toList.take k).drop f ++ [s[k]] := by
  rw [take_snoc s k h, List.drop_append_of_le_length (by rw [List.length_take, ← size_list]; omega)]
def SplitPost (l : List (List UInt8)) (w : World) (e : Ending) (w' : World) : Prop :=
  ∃ v, e = .returned v ∧ w'.ownsRow w.heap.size 9 1 v l.length (strV l) ∧ Below w.heap.size w w'
end Go.Proofs.Ytinfogmjijeliaa
