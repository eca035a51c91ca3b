/- Small lemmas that the walks of this seat share: endings, worlds, bytes of a string, the cells that the library's tables keep. No conditions. -/
import Derived.Test.YtinfogmjijeliaaRows
import Derived.Test.YtinfogmjijeliaaShelf
import Derived.WalkKit
import Derived.ProofKit
import Derived.WalkSpells
import Derived.Lib.Hide
import Derived.Deep.Light
import Derived.Deep.QuietTactic
import Derived.BigQuiet
import Derived.Deep.RegionHeld3
import Derived.IntWalk
import Derived.Lib.LaidTab
import Derived.WalkSmall
import Derived.Lib.ItoaMem
namespace Go.Proofs.Ytinfogmjijeliaa
open Go.RowKit
theorem ret_bool {a b : Bool} (h : a = b) : Ending.returned (.bool a) = .returned (.bool b) := by rw [h]
theorem ret_int {k : IntKind} {a b : Int} (h : a = b) : Ending.returned (.int k a) = .returned (.int k b) := by rw [h]
theorem ret_str {a b : List UInt8} (h : a = b) : Ending.returned (.string ⟨a.toArray⟩) = .returned (.string ⟨b.toArray⟩) := by rw [h]
theorem ret_strs {s : ByteArray} {l : List UInt8} (h : s.data.toList = l) : Ending.returned (.string s) = .returned (.string ⟨l.toArray⟩) := by subst h; rfl
theorem ret_strb {s : ByteArray} {l : List UInt8} {b c : Bool} (h : s.data.toList = l) (hb : b = c) : Ending.returned (.tuple #[.string s, .bool b]) = .returned (.tuple #[.string ⟨l.toArray⟩, .bool c]) := by subst h hb; rfl
theorem str_eq {s : ByteArray} {l : List UInt8} (h : s.data.toList = l) : s = ⟨l.toArray⟩ := by subst h; rfl
theorem size_list (s : ByteArray) : s.size = s.data.toList.length := rfl
theorem bytes_append (a b : List UInt8) : (⟨a.toArray⟩ : ByteArray) ++ ⟨b.toArray⟩ = ⟨(a ++ b).toArray⟩ := by
  apply ByteArray.ext; simp
theorem bytes_append' (s t : ByteArray) : s ++ t = ⟨(s.data.toList ++ t.data.toList).toArray⟩ := bytes_append s.data.toList t.data.toList
theorem bcell {W w1 : World} (hb : Below W.heap.size W w1) : (∀ b o, b < W.heap.size → w1.cell? ⟨b, o, none⟩ = W.cell? ⟨b, o, none⟩) ∧ (∀ b o, b < W.heap.size → w1.frozen? ⟨b, o, none⟩ = W.frozen? ⟨b, o, none⟩) :=
  ⟨fun b o h => hb.cell (p := ⟨b, o, none⟩) h, fun b o h => hb.frozen (p := ⟨b, o, none⟩) h⟩
/-- A block number below a heap's size, in the spellings that the walk meets. -/
theorem bsz {n m : Nat} (h : n < m) : n < m ∧ n ≤ m ∧ n < m + 1 ∧ n ≤ m + 1 ∧ n < m + 2 ∧ n < m + 3 ∧ n < m + 4 := by omega
/-- Nothing but draws. -/
def Drew (w w' : World) : Prop := ∃ k, w' = w.drewN k
theorem Drew.refl (w : World) : Drew w w := ⟨0, rfl⟩
theorem Drew.quiet {P : Program} {f : FuncId} {args : Array Value} {w : World} {n : Nat} {v : Value}
    (h : Calls P f args (w.drewN n) fun e w' => e = .returned v ∧ Drew (w.drewN n) w') : Calls P f args (w.drewN n) fun e w'' => e = .returned v ∧ ∃ m, w'' = w.drewN m := Calls.quiet_of h
theorem below_drewN {B : Nat} {a w : World} (h : Below B a w) (n : Nat) : Below B a (w.drewN n) := ⟨h.os, h.tape, h.output, h.size, h.block⟩
theorem Drew.below {w w' : World} (h : Drew w w') : Below w.heap.size w w' := by obtain ⟨k, rfl⟩ := h; exact below_drewN (Below.refl _ _) k
theorem drew_below {P : Program} {f : FuncId} {args : Array Value} {w : World} {x : Ending} (h : Calls P f args w fun e w' => e = x ∧ Drew w w') : Calls P f args w fun e w' => e = x ∧ Below w.heap.size w w' :=
  h.mono fun _ _ ⟨h1, h2⟩ => ⟨h1, h2.below⟩
theorem same_below {P : Program} {f : FuncId} {args : Array Value} {w : World} {x : Ending} (h : Calls P f args w fun e w' => e = x ∧ w = w') : Calls P f args w fun e w' => e = x ∧ Below w.heap.size w w' :=
  h.mono fun _ _ ⟨h1, h2⟩ => ⟨h1, h2 ▸ Below.refl _ _⟩
/-- A callee that leaves 'Below' of the world in which it was called, seen from an earlier world. -/
theorem Below.then {B : Nat} {a w w1 : World} (h : Below B a w) (hB : B ≤ w.heap.size) (hb : Below w.heap.size w w1) : Below B a w1 := h.trans (hb.mono hB)
theorem Below.step {a w w1 : World} (h : Below a.heap.size a w) (hb : Below w.heap.size w w1) : Below a.heap.size a w1 := h.trans (hb.mono h.size)
theorem Below.al {a w : World} (h : Below a.heap.size a w) (o : Obj) : Below a.heap.size a (w.alloc o) := h.alloc h.size o
theorem Below.sc {a w : World} (h : Below a.heap.size a w) {p : Addr} (hp : a.heap.size ≤ p.block) (u : Value) : Below a.heap.size a (w.setCell p u) := h.setCell hp u
theorem Below.dr {a w : World} (h : Below a.heap.size a w) : Below a.heap.size a w.drew := h.drew
theorem Below.drN {a w : World} (h : Below a.heap.size a w) (n : Nat) : Below a.heap.size a (w.drewN n) := below_drewN h n
theorem i64_of_wf {n : Int} (h : (Lit.int .i64 n).wf = true) : -9223372036854775808 ≤ n ∧ n ≤ 9223372036854775807 := by
  simpa [Lit.wf, IntKind.min, IntKind.max, IntKind.signed, IntKind.bits] using h
theorem wrap64_byte (c : UInt8) : wrap64 (c.toNat : Int) = (c.toNat : Int) := by have := c.toNat_lt; exact IntWalk.wrap64_in _ (by omega)
theorem take_snoc (s : ByteArray) (k : Nat) (h : k < s.size) : s.data.toList.take (k + 1) = s.data.toList.take k ++ [s[k]] := by
  rw [List.take_succ_eq_append_getElem (by simpa using h)]; rfl
theorem take_all (s : ByteArray) (k : Nat) (h : s.size ≤ k) : s.data.toList.take k = s.data.toList := List.take_of_length_le (by rw [← size_list]; exact h)
theorem all_snoc (p : UInt8 → Bool) (s : ByteArray) (k : Nat) (h : k < s.size) (h1 : (s.data.toList.take k).all p = true) (h2 : p s[k] = true) : (s.data.toList.take (k + 1)).all p = true := by
  rw [take_snoc s k h, List.all_append, h1]; simpa using h2
theorem all_no (p : UInt8 → Bool) (s : ByteArray) (k : Nat) (h : k < s.size) (h2 : p s[k] = false) : s.data.toList.all p = false := by
  rw [List.all_eq_false]
  exact ⟨s[k], (show s.data[k] ∈ s.data.toList by simp), by simp [h2]⟩
theorem any_yes (p : UInt8 → Bool) (s : ByteArray) (k : Nat) (h : k < s.size) (h2 : p s[k] = true) : s.data.toList.any p = true := by
  rw [List.any_eq_true]
  exact ⟨s[k], (show s.data[k] ∈ s.data.toList by simp), h2⟩
theorem any_snoc (p : UInt8 → Bool) (s : ByteArray) (k : Nat) (h : k < s.size) (h1 : (s.data.toList.take k).any p = false) (h2 : p s[k] = false) : (s.data.toList.take (k + 1)).any p = false := by
  rw [take_snoc s k h, List.any_append, h1]; simpa using h2
theorem toList_append (s t : ByteArray) : (s ++ t).toList = s.toList ++ t.toList := by
  rw [ByteArray.toList_eq, ByteArray.toList_eq, ByteArray.toList_eq]; simp
theorem extract_list (s : ByteArray) (f k : Nat) : (s.extract f k).data.toList = (s.data.toList.take k).drop f := by
  rw [Lib.extract_data, List.drop_take]
theorem toList_extract (s : ByteArray) (a b : Nat) : (s.extract a b).toList = (s.toList.take b).drop a := by
  rw [ByteArray.toList_eq, ByteArray.toList_eq, extract_list]
attribute [go_sem] toList_append toList_extract
theorem byte_eq_t {c b : UInt8} (h : ((c.toNat : Int) == (b.toNat : Int)) = true) : (c == b) = true := by
  have : (c.toNat : Int) = b.toNat := by simpa using h
  have : c = b := UInt8.toNat_inj.1 (by omega)
  simp [this]
theorem byte_eq_f {c b : UInt8} (h : ((c.toNat : Int) == (b.toNat : Int)) = false) : (c == b) = false := by
  have : ¬ (c.toNat : Int) = b.toNat := by simpa using h
  rw [beq_eq_false_iff_ne]; rintro rfl; exact this rfl
theorem empt_t {c : ByteArray} (h : c.data.toList.isEmpty = true) : c.toList.isEmpty = true ∧ c.toList = [] := by
  rw [ByteArray.toList_eq]; exact ⟨h, by simpa using h⟩
theorem empt_f {c : ByteArray} (h : c.data.toList.isEmpty = false) : c.toList.isEmpty = false ∧ ¬ c.toList = [] := by
  rw [ByteArray.toList_eq]; exact ⟨h, by simpa using h⟩
/-- Does a byte stand in a text? -/
def hasB (l : List UInt8) (b : UInt8) : Bool := l.any (· == b)

/-! A region that draws its order, whose operations read and whose callees may make memory: one walk, in every world that keeps the old blocks. -/
def InC (w : World) (cells : List (Addr × Value)) (w' : World) : Prop := Below w.heap.size w w' ∧ ∀ p ∈ cells, w'.cell? p.1 = some p.2
theorem wp_region_cells {P : Program} {id : Nat} {Q : Exit → Act → World → Prop} {a : Act} {w : World} {l : List Oper} (hm : P.follows .mixedOrders = true) (hB : Region.lexB .any l.toArray = true)
    (cells : List (Addr × Value)) (hc : ∀ p ∈ cells, w.cell? p.1 = some p.2)
    (h : wpQuiet P l.toArray (InC w cells) (fun a' => ∀ w', InC w cells w' → Q .normal a' w') l a) : (Code.region id l.toArray true).wp P Q a w :=
  wp_region_quiet (C := InC w cells) hm hB ⟨⟨rfl, rfl, rfl, Nat.le_refl _, fun _ _ => rfl⟩, fun p hp => hc p hp⟩ (by simpa using h)
theorem InC.next {w w' w1 : World} {cells : List (Addr × Value)} (h : InC w cells w') (hc : ∀ p ∈ cells, w.cell? p.1 = some p.2) (hb : Below w'.heap.size w' w1) : InC w cells w1 :=
  ⟨h.1.trans (hb.mono h.1.size), fun p hp => ((h.1.trans (hb.mono h.1.size)).cell (World.block_lt_of_cell? w _ (hc p hp))).trans (hc p hp)⟩
section
variable {P : Program} {ops : Array Oper} {C : World → Prop} {Q : Act → Prop} {a : Act} {o : Oper} {rest : List Oper}
theorem wpQuiet_yes (hw : Region.wanted o (yielded ops a.tmps) = true) (v : Value) (h1 : ∀ w, C w → o.quietAt P a C w v) (h2 : wpQuiet P ops C Q rest (a.put o.dst v)) : wpQuiet P ops C Q (o :: rest) a := by
  unfold wpQuiet; rw [if_pos hw]; exact ⟨v, h1, h2⟩
theorem wpQuiet_free (hg : o.guard = none) (v : Value) (h1 : ∀ w, C w → o.quietAt P a C w v) (h2 : wpQuiet P ops C Q rest (a.put o.dst v)) : wpQuiet P ops C Q (o :: rest) a :=
  wpQuiet_yes (by simp [Region.wanted, hg]) v h1 h2
theorem wpQuiet_no (hw : Region.wanted o (yielded ops a.tmps) = false) (h2 : wpQuiet P ops C Q rest (a.put o.dst undef)) : wpQuiet P ops C Q (o :: rest) a := by
  unfold wpQuiet; rw [if_neg (by simp [hw])]; exact h2
end

end Go.Proofs.Ytinfogmjijeliaa
