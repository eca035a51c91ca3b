import Derived.RangeFuncNested
import Derived.RangeFuncBound
import Derived.RangeFuncCalls
import Derived.RangeFuncLeaves
import Derived.Shelf.Abstract
import Derived.OwnWalkIn
import Derived.Shelf.RegionOpen
import Derived.TacticsInMore
import Derived.LoopNIn
import Derived.LoopIn
import Derived.Test.YtabkdonplmlbcaaGreatDoorStPart1
namespace Go.Proofs.YtabkdonplmlbcaaGreatDoor
set_option maxRecDepth 100000
open Go.RowKit
inductive Tm where
 | mk (n : ByteArray) (us : List Tm)
inductive Fm where
 | mk (op : Int) (a : Tm) (v : ByteArray) (ps : List Fm)
structure Lit3 where
 pos : Bool
 a : Tm
abbrev Cls := List Lit3
def Tm.n : Tm → ByteArray | .mk n _ => n
def Tm.us : Tm → List Tm | .mk _ us => us
def Fm.op : Fm → Int | .mk o _ _ _ => o
def Fm.a : Fm → Tm | .mk _ a _ _ => a
def Fm.v : Fm → ByteArray | .mk _ _ v _ => v
def Fm.ps : Fm → List Fm | .mk _ _ _ ps => ps
def ListAt {α : Type} (B : Nat → Prop) (w : World) (size : Nat) (R : α → List Value → Prop) (v : Value) (xs : List α) : Prop :=
 ∃ (p : Option Addr) (c : Nat), v = .slice p xs.length c ∧ xs.length ≤ maxLen ∧
  ∀ i x, xs[i]? = some x → ∃ b o, p = some ⟨b, o, none⟩ ∧ B b ∧ ∃ cs : List Value, cs.length = size ∧ (∀ j, j < size → w.cell? ⟨b, o + i * size + j, none⟩ = cs[j]?) ∧ R x cs
def SameOn (B : Nat → Prop) (w w' : World) : Prop := ∀ b, B b → b < w.heap.size → w'.heap[b]? = w.heap[b]?
theorem SameOn.below {B : Nat → Prop} {w w' : World} (hb : Below w.heap.size w w') : SameOn B w w' := fun b _ h => hb.block b h
theorem SameOn.refl (B : Nat → Prop) (w : World) : SameOn B w w := fun _ _ _ => rfl
theorem SameOn.store {B : Nat → Prop} (w : World) {p : Addr} (hp : ∀ b, B b → b ≠ p.block) (u : Value) : SameOn B w (w.setCell p u) := fun b hb _ => heap_setCell_other w p b u (fun e => hp b hb e)
theorem SameOn.sc {B : Nat → Prop} {w w1 : World} (h : SameOn B w w1) {p : Addr} (hp : ∀ b, B b → b ≠ p.block) (u : Value) : SameOn B w (w1.setCell p u) := fun b hb hlt => (heap_setCell_other w1 p b u (fun e => hp b hb e)).trans (h b hb hlt)
theorem SameOn.al {B : Nat → Prop} {w w1 : World} (h : SameOn B w w1) (hz : w.heap.size ≤ w1.heap.size) (o : Obj) : SameOn B w (w1.alloc o) := fun b hb hlt => (hao w1 o _ (Nat.lt_of_lt_of_le hlt hz)).trans (h b hb hlt)
theorem SameOn.be {B : Nat → Prop} {w w1 w2 : World} (h : SameOn B w w1) (hz : w.heap.size ≤ w1.heap.size) (hb : Below w1.heap.size w1 w2) : SameOn B w w2 := fun b hb' hlt => (hb.block b (Nat.lt_of_lt_of_le hlt hz)).trans (h b hb' hlt)
theorem ListAt.mono {α : Type} {B B' : Nat → Prop} {w w' : World} {size : Nat} {R R' : α → List Value → Prop} {v : Value} {xs : List α} (h : ListAt B w size R v xs) (hs : SameOn B w w') (hB : ∀ b, B b → B' b) (hR : ∀ x cs, x ∈ xs → R x cs → R' x cs) : ListAt B' w' size R' v xs := by
 obtain ⟨p, c, h1, h2, h3⟩ := h
 refine ⟨p, c, h1, h2, fun i x hx => ?_⟩
 obtain ⟨b, o, h4, h0, cs, h5, h6, h7⟩ := h3 i x hx
 refine ⟨b, o, h4, hB b h0, cs, h5, fun j hj => ?_, hR x cs (List.mem_of_getElem? hx) h7⟩
 have := h6 j hj
 rw [List.getElem?_eq_getElem (by omega)] at this ⊢
 exact (World.cell?_of_block (a := ⟨b, o + i * size + j, none⟩) (hs b h0 (World.block_lt_of_cell? w _ this))).trans this
theorem ListAt.nil {α : Type} (B : Nat → Prop) (w : World) (size : Nat) (R : α → List Value → Prop) (p : Option Addr) (c : Nat) : ListAt B w size R (.slice p 0 c) [] := ⟨p, c, rfl, Nat.zero_le _, fun i x h => by simp at h⟩
theorem ListAt.form {α : Type} {B : Nat → Prop} {w : World} {size : Nat} {R : α → List Value → Prop} {v : Value} {xs : List α} (h : ListAt B w size R v xs) : ∃ p c, v = .slice p xs.length c ∧ xs.length ≤ maxLen := by
 obtain ⟨p, c, h1, h2, _⟩ := h; exact ⟨p, c, h1, h2⟩
def TmAt (B : Nat → Prop) : Nat → World → Tm → List Value → Prop
 | 0, _, _, _ => False
 | n + 1, w, .mk s us, cs => ∃ va, cs = [.string s, va] ∧ s.size ≤ maxLen ∧ ListAt B w 2 (fun t c => TmAt B n w t c) va us
theorem TmAt.mono {B B' : Nat → Prop} {w w' : World} (hs : SameOn B w w') (hB : ∀ b, B b → B' b) : ∀ (n m : Nat) (t : Tm) (cs : List Value), n ≤ m → TmAt B n w t cs → TmAt B' m w' t cs
 | 0, _, _, _, _, h => h.elim
 | n + 1, 0, _, _, hm, _ => by omega
 | n + 1, m + 1, .mk s us, cs, hm, h => by
  obtain ⟨va, h1, h2, h3⟩ := h
  exact ⟨va, h1, h2, h3.mono hs hB (fun x cs _ hx => TmAt.mono hs hB n m x cs (by omega) hx)⟩
theorem TmAt.below {B : Nat → Prop} {w w' : World} (hb : Below w.heap.size w w') {n : Nat} {t : Tm} {cs : List Value} (h : TmAt B n w t cs) : TmAt B n w' t cs := TmAt.mono (SameOn.below hb) (fun _ h => h) n n t cs (Nat.le_refl _) h
theorem TmAt.form {B : Nat → Prop} {w : World} : ∀ {n : Nat} {t : Tm} {v0 v1 : Value}, TmAt B n w t [v0, v1] → ∃ p c, v0 = .string t.n ∧ v1 = .slice p t.us.length c ∧ t.n.size ≤ maxLen ∧ t.us.length ≤ maxLen
 | 0, _, _, _, h => h.elim
 | n + 1, .mk s us, v0, v1, h => by
  obtain ⟨va, h1, h2, h3⟩ := h
  simp only [List.cons.injEq, and_true] at h1
  obtain ⟨rfl, rfl⟩ := h1
  obtain ⟨p, c, rfl, h4⟩ := h3.form
  exact ⟨p, c, rfl, rfl, h2, h4⟩
def FmAt (B : Nat → Prop) : Nat → World → Fm → List Value → Prop
 | 0, _, _, _ => False
 | n + 1, w, .mk op a x ps, cs => ∃ vn va vp, cs = [.int .i64 op, vn, va, .string x, vp] ∧ (-9223372036854775808 ≤ op ∧ op ≤ 9223372036854775807) ∧ x.size ≤ maxLen ∧ TmAt B n w a [vn, va] ∧ ListAt B w 5 (fun f c => FmAt B n w f c) vp ps
theorem FmAt.mono {B B' : Nat → Prop} {w w' : World} (hs : SameOn B w w') (hB : ∀ b, B b → B' b) : ∀ (n m : Nat) (t : Fm) (cs : List Value), n ≤ m → FmAt B n w t cs → FmAt B' m w' t cs
 | 0, _, _, _, _, h => h.elim
 | n + 1, 0, _, _, hm, _ => by omega
 | n + 1, m + 1, .mk op a x ps, cs, hm, h => by
  obtain ⟨vn, va, vp, h1, h2, h3, h4, h5⟩ := h
  exact ⟨vn, va, vp, h1, h2, h3, h4.mono hs hB n m _ _ (by omega), h5.mono hs hB (fun x cs _ hx => FmAt.mono hs hB n m x cs (by omega) hx)⟩
theorem FmAt.below {B : Nat → Prop} {w w' : World} (hb : Below w.heap.size w w') {n : Nat} {t : Fm} {cs : List Value} (h : FmAt B n w t cs) : FmAt B n w' t cs := FmAt.mono (SameOn.below hb) (fun _ h => h) n n t cs (Nat.le_refl _) h
theorem TmAt.args {B : Nat → Prop} {w : World} : ∀ {n : Nat} {t : Tm} {v0 v1 : Value}, TmAt B n w t [v0, v1] → ListAt B w 2 (TmAt B n w) v1 t.us
 | 0, _, _, _, h => h.elim
 | n + 1, .mk s us, v0, v1, h => by
  obtain ⟨va, h1, h2, h3⟩ := h
  simp only [List.cons.injEq, and_true] at h1
  obtain ⟨rfl, rfl⟩ := h1
  exact h3.mono (SameOn.refl _ _) (fun _ h => h) (fun x cs _ hx => TmAt.mono (SameOn.refl _ _) (fun _ h => h) n (n + 1) x cs (by omega) hx)
theorem FmAt.form {B : Nat → Prop} {w : World} : ∀ {n : Nat} {t : Fm} {v0 v1 v2 v3 v4 : Value}, FmAt B n w t [v0, v1, v2, v3, v4] → ∃ p c q d, v0 = .int .i64 t.op ∧ v1 = .string t.a.n ∧ v2 = .slice p t.a.us.length c ∧ v3 = .string t.v ∧ v4 = .slice q t.ps.length d ∧ (-9223372036854775808 ≤ t.op ∧ t.op ≤ 9223372036854775807) ∧ t.a.n.size ≤ maxLen ∧ t.a.us.length ≤ maxLen ∧ t.v.size ≤ maxLen ∧ t.ps.length ≤ maxLen
 | 0, _, _, _, _, _, _, h => h.elim
 | n + 1, .mk op a x ps, v0, v1, v2, v3, v4, h => by
  obtain ⟨vn, va, vp, h1, h2, h3, h4, h5⟩ := h
  simp only [List.cons.injEq, and_true] at h1
  obtain ⟨rfl, rfl, rfl, rfl, rfl⟩ := h1
  obtain ⟨p, c, rfl, rfl, h6, h7⟩ := h4.form
  obtain ⟨q, d, rfl, h8⟩ := h5.form
  exact ⟨p, c, q, d, rfl, rfl, rfl, rfl, rfl, h2, h6, h7, h3, h8⟩
def LitAt (B : Nat → Prop) (n : Nat) (w : World) (l : Lit3) (cs : List Value) : Prop := ∃ vn va, cs = [.bool l.pos, vn, va] ∧ TmAt B n w l.a [vn, va]
theorem LitAt.mono {B B' : Nat → Prop} {w w' : World} (hs : SameOn B w w') (hB : ∀ b, B b → B' b) {n m : Nat} (hm : n ≤ m) {l : Lit3} {cs : List Value} (h : LitAt B n w l cs) : LitAt B' m w' l cs := by
 obtain ⟨vn, va, h1, h2⟩ := h; exact ⟨vn, va, h1, h2.mono hs hB n m _ _ hm⟩
def ClsAt (B : Nat → Prop) (n : Nat) (w : World) (c : Cls) (v : Value) : Prop := ListAt B w 3 (LitAt B n w) v c
theorem ClsAt.mono {B B' : Nat → Prop} {w w' : World} (hs : SameOn B w w') (hB : ∀ b, B b → B' b) {n m : Nat} (hm : n ≤ m) {c : Cls} {v : Value} (h : ClsAt B n w c v) : ClsAt B' m w' c v := ListAt.mono h hs hB fun _ _ _ hx => hx.mono hs hB hm
theorem ClsAt.below {B : Nat → Prop} {w w' : World} (hb : Below w.heap.size w w') {n : Nat} {c : Cls} {v : Value} (h : ClsAt B n w c v) : ClsAt B n w' c v := h.mono (SameOn.below hb) (fun _ h => h) (Nat.le_refl _)
theorem ListAt.at1 {α : Type} {B : Nat → Prop} {w : World} {R : α → List Value → Prop} {p : Option Addr} {n c : Nat} {xs : List α} (h : ListAt B w 1 R (.slice p n c) xs) {i : Nat} (hi : i < xs.length) :
  ∃ b o, p = some ⟨b, o, none⟩ ∧ B b ∧ ∃ x0, w.cell? ⟨b, o + i, none⟩ = some x0 ∧ R xs[i] [x0] := by
 obtain ⟨p', c', h1, h2, h3⟩ := h
 injection h1 with e1 e2 e3
 subst e1
 obtain ⟨b, o, h4, h0, cs, h5, h6, h7⟩ := h3 i xs[i] (List.getElem?_eq_getElem hi)
 match cs, h5 with
 | [x0], _ => exact ⟨b, o, h4, h0, x0, (by have := h6 0 (by omega); rw [Nat.mul_one] at this; exact this), h7⟩
theorem ListAt.at2 {α : Type} {B : Nat → Prop} {w : World} {R : α → List Value → Prop} {p : Option Addr} {n c : Nat} {xs : List α} (h : ListAt B w 2 R (.slice p n c) xs) {i : Nat} (hi : i < xs.length) :
  ∃ b o, p = some ⟨b, o, none⟩ ∧ B b ∧ ∃ x0 x1, w.cell? ⟨b, o + i * 2, none⟩ = some x0 ∧ w.cell? ⟨b, o + i * 2 + 1, none⟩ = some x1 ∧ R xs[i] [x0, x1] := by
 obtain ⟨p', c', h1, h2, h3⟩ := h
 injection h1 with e1 e2 e3
 subst e1
 obtain ⟨b, o, h4, h0, cs, h5, h6, h7⟩ := h3 i xs[i] (List.getElem?_eq_getElem hi)
 match cs, h5 with
 | [x0, x1], _ => exact ⟨b, o, h4, h0, x0, x1, h6 0 (by omega), h6 1 (by omega), h7⟩
theorem ListAt.at3 {α : Type} {B : Nat → Prop} {w : World} {R : α → List Value → Prop} {p : Option Addr} {n c : Nat} {xs : List α} (h : ListAt B w 3 R (.slice p n c) xs) {i : Nat} (hi : i < xs.length) :
  ∃ b o, p = some ⟨b, o, none⟩ ∧ B b ∧ ∃ x0 x1 x2, w.cell? ⟨b, o + i * 3, none⟩ = some x0 ∧ w.cell? ⟨b, o + i * 3 + 1, none⟩ = some x1 ∧ w.cell? ⟨b, o + i * 3 + 2, none⟩ = some x2 ∧ R xs[i] [x0, x1, x2] := by
 obtain ⟨p', c', h1, h2, h3⟩ := h
 injection h1 with e1 e2 e3
 subst e1
 obtain ⟨b, o, h4, h0, cs, h5, h6, h7⟩ := h3 i xs[i] (List.getElem?_eq_getElem hi)
 match cs, h5 with
 | [x0, x1, x2], _ => exact ⟨b, o, h4, h0, x0, x1, x2, h6 0 (by omega), h6 1 (by omega), h6 2 (by omega), h7⟩
theorem ListAt.at5 {α : Type} {B : Nat → Prop} {w : World} {R : α → List Value → Prop} {p : Option Addr} {n c : Nat} {xs : List α} (h : ListAt B w 5 R (.slice p n c) xs) {i : Nat} (hi : i < xs.length) :
  ∃ b o, p = some ⟨b, o, none⟩ ∧ B b ∧ ∃ x0 x1 x2 x3 x4, w.cell? ⟨b, o + i * 5, none⟩ = some x0 ∧ w.cell? ⟨b, o + i * 5 + 1, none⟩ = some x1 ∧ w.cell? ⟨b, o + i * 5 + 2, none⟩ = some x2 ∧ w.cell? ⟨b, o + i * 5 + 3, none⟩ = some x3 ∧ w.cell? ⟨b, o + i * 5 + 4, none⟩ = some x4 ∧ R xs[i] [x0, x1, x2, x3, x4] := by
 obtain ⟨p', c', h1, h2, h3⟩ := h
 injection h1 with e1 e2 e3
 subst e1
 obtain ⟨b, o, h4, h0, cs, h5, h6, h7⟩ := h3 i xs[i] (List.getElem?_eq_getElem hi)
 match cs, h5 with
 | [x0, x1, x2, x3, x4], _ => exact ⟨b, o, h4, h0, x0, x1, x2, x3, x4, h6 0 (by omega), h6 1 (by omega), h6 2 (by omega), h6 3 (by omega), h6 4 (by omega), h7⟩
open Go.RowKit Go.Shelf
def BoxN (W : World) (b : Nat) (t : TypeId) (cs : Array Value) : Prop := W.heap[b]? = some (.cells cs t (0, 0))
theorem BoxN.lt {W : World} {b : Nat} {t : TypeId} {cs : Array Value} (h : BoxN W b t cs) : b < W.heap.size := (Array.getElem?_eq_some_iff.1 h).1
theorem BoxN.cell {W : World} {b : Nat} {t : TypeId} {cs : Array Value} (h : BoxN W b t cs) (i : Nat) : W.cell? ⟨b, i, none⟩ = cs[i]? := by simp [World.cell?, show W.heap[b]? = _ from h]
theorem BoxN.frozen {W : World} {b : Nat} {t : TypeId} {cs : Array Value} (h : BoxN W b t cs) (i : Nat) : W.frozen? ⟨b, i, none⟩ = false := by simp [World.frozen?, show W.heap[b]? = _ from h]
theorem BoxN.kept {W W' : World} {row : Option Nat} {b : Nat} {t : TypeId} {cs : Array Value} (h : BoxN W b t cs) (hg : W.grownBy W' row) (hne : some b ≠ row) : BoxN W' b t cs := (hg.block b h.lt hne).trans h
theorem BoxN.below {W W' : World} {n b : Nat} {t : TypeId} {cs : Array Value} (h : BoxN W b t cs) (hb : Below n W W') (hl : b < n) : BoxN W' b t cs := (hb.block b hl).trans h
theorem BoxN.set {W : World} {b : Nat} {t : TypeId} {cs : Array Value} (h : BoxN W b t cs) (i : Nat) (v : Value) : BoxN (W.setCell ⟨b, i, none⟩ v) b t (cs.setIfInBounds i v) := by
 obtain ⟨hlt, hk⟩ := Array.getElem?_eq_some_iff.1 h
 show (W.heap.modify b _)[b]? = _
 rw [Array.getElem?_eq_getElem (by rw [Array.size_modify]; exact hlt), Array.getElem_modify_self, hk]
 rfl
theorem BoxN.al {W : World} {b : Nat} {t : TypeId} {cs : Array Value} (h : BoxN W b t cs) (o : Obj) : BoxN (W.alloc o) b t cs := h.kept (World.grownBy_alloc W o none) (by simp)
theorem boxN_own {β : Type} (b : Nat) (t : TypeId) (f : β → Array Value) : Own (fun s W => BoxN W b t (f s)) := fun s X Y row hs hg hrow =>
 hs.kept hg (fun e' => by obtain ⟨o, ho, hc⟩ := hrow b e'.symm; rw [show X.heap[b]? = _ from hs] at ho; cases ho; cases hc)
theorem keepsFrom_below {B : Nat} {X Y : World} (h : Below X.heap.size X Y) : KeepsFrom B X Y := ⟨h.size, fun k _ _ hk _ => (h.block k (Array.getElem?_eq_some_iff.1 hk).1).trans hk⟩
abbrev set5W (W : World) (b : Nat) (u0 u1 u2 u3 u4 : Value) : World := ((((W.setCell ⟨b, 0, none⟩ u0).setCell ⟨b, 1, none⟩ u1).setCell ⟨b, 2, none⟩ u2).setCell ⟨b, 3, none⟩ u3).setCell ⟨b, 4, none⟩ u4
theorem BoxN.set5 {W : World} {b : Nat} {t : TypeId} {c0 c1 c2 c3 c4 : Value} (h : BoxN W b t #[c0, c1, c2, c3, c4]) (u0 u1 u2 u3 u4 : Value) : BoxN (set5W W b u0 u1 u2 u3 u4) b t #[u0, u1, u2, u3, u4] :=
 ((((h.set 0 u0).set 1 u1).set 2 u2).set 3 u3).set 4 u4
theorem set5_other (W : World) {b k : Nat} (u0 u1 u2 u3 u4 : Value) (hk : k ≠ b) : (set5W W b u0 u1 u2 u3 u4).heap[k]? = W.heap[k]? :=
 (heap_setCell_other _ ⟨b, 4, none⟩ k _ hk).trans ((heap_setCell_other _ ⟨b, 3, none⟩ k _ hk).trans ((heap_setCell_other _ ⟨b, 2, none⟩ k _ hk).trans ((heap_setCell_other _ ⟨b, 1, none⟩ k _ hk).trans (heap_setCell_other _ ⟨b, 0, none⟩ k _ hk))))
theorem set5_keeps (W : World) (b : Nat) (u0 u1 u2 u3 u4 : Value) : KeepsOthers W (set5W W b u0 u1 u2 u3 u4) :=
 ((((KeepsOthers.setCell _ _ _).trans (KeepsOthers.setCell _ _ _)).trans (KeepsOthers.setCell _ _ _)).trans (KeepsOthers.setCell _ _ _)).trans (KeepsOthers.setCell _ _ _)
theorem set5_below {n : Nat} (W : World) {b : Nat} (u0 u1 u2 u3 u4 : Value) (hn : n ≤ b) : Below n W (set5W W b u0 u1 u2 u3 u4) :=
 (((((Below.refl n W).setCell (p := ⟨b, 0, none⟩) hn _).setCell (p := ⟨b, 1, none⟩) hn _).setCell (p := ⟨b, 2, none⟩) hn _).setCell (p := ⟨b, 3, none⟩) hn _).setCell (p := ⟨b, 4, none⟩) hn _
open Go.RowKit Go.Shelf
attribute [local go_sem] Oper.semAt_some
def KbAt (n₀ Bs : Nat) (W W' : World) : Prop := Below n₀ W W' ∧ (Bs < W.heap.size → W'.heap[Bs]? = W.heap[Bs]?)
theorem KbAt.refl (n₀ Bs : Nat) (W : World) : KbAt n₀ Bs W W := ⟨Below.refl _ _, fun _ => rfl⟩
theorem KbAt.trans {n₀ Bs : Nat} {X Y Z : World} (h : KbAt n₀ Bs X Y) (k : KbAt n₀ Bs Y Z) : KbAt n₀ Bs X Z := ⟨h.1.trans k.1, fun hl => (k.2 (Nat.lt_of_lt_of_le hl h.1.size)).trans (h.2 hl)⟩
set_option maxHeartbeats 2000000 in
theorem back1_in {α : Type} (ix : α → Int) (c0 c1 c2 : α → Value) (F : Fence) (n : Nat) (hF : F.fn 152) (hro : F.round = none) (hn : 1 ≤ n) (l Bs n₀ : Nat) (p : Option Addr) (cap : Nat) (zs : List α) (hlen : zs.length ≤ 1048576) (hix : ∀ k (h : k < zs.length), ix zs[k] = k) (J Jx : List α → World → Prop)
  (hY : ∀ pre x W, J pre W → pre.length < zs.length → YieldAt F (n - 1) Tryz.prog l #[.int .i64 (ix x), .agg #[c0 x, c1 x, c2 x]] W fun e W' =>
   (e = .returned (.bool true) ∧ J (pre ++ [x]) W' ∧ KbAt n₀ Bs W W') ∨ (e = .returned (.bool false) ∧ Jx (pre ++ [x]) W'))
  (W : World) (hBs : W.cell? ⟨Bs, 0, none⟩ = some (.slice p zs.length cap))
  (hc : ∀ k (h : k < zs.length), ∃ b o, p = some ⟨b, o, none⟩ ∧ b < n₀ ∧ W.cell? ⟨b, o + k * 3, none⟩ = some (c0 zs[k]) ∧ W.cell? ⟨b, o + k * 3 + 1, none⟩ = some (c1 zs[k]) ∧ W.cell? ⟨b, o + k * 3 + 2, none⟩ = some (c2 zs[k])) (h0 : J [] W) :
  CallsIn F n Tryz.prog 152 #[.func (.yield l) #[] #[], .pointer (some ⟨Bs, 0, none⟩)] W fun e W' => (∃ v, e = .returned v) ∧
   ((∃ ys, ys = zs.reverse ∧ J ys W') ∨ (∃ pre, True ∧ Jx pre W')) := by
 have HC := Lib.hid hc
 have HIX := Lib.hid hix
 have hBl := World.block_lt_of_cell? _ _ hBs
 clear hc hix
 refine callsIn_of_wp Tryz.func152 rfl hF ?_ hro
 simp only [Tryz.ntmps152, List.size_toArray, List.length_cons, List.length_nil, Nat.reduceAdd, Nat.reduceSub, Array.replicate_succ, Array.replicate_zero, List.push_toArray, List.append_toArray, List.nil_append, List.cons_append]
 have hwr : IntKind.i64.wrap ((zs.length : Int) - 1) = (zs.length : Int) - 1 := IntWalk.i64_in _ (by omega)
 gi_wp2
 gi_loopw [3] (fun i wr => ∃ k : Nat, k ≤ zs.length ∧ i = .int .i64 ((k : Int) - 1) ∧ J (zs.drop k).reverse wr ∧ KbAt n₀ Bs W wr)
  (fun i _ => (intOf i + 1).toNat)
 case atStart => exact ⟨zs.length, Nat.le_refl _, rfl, by simpa using h0, KbAt.refl _ _ _⟩
 case round =>
  obtain ⟨k, hk, rfl, hJs, hnx⟩ := hrel
  have hBr : wr.cell? ⟨Bs, 0, none⟩ = some (.slice p zs.length cap) := (World.cell?_of_block (hnx.2 hBl)).trans hBs
  cases k with
  | zero =>
   gi_wp2
   go_end0
   exact ⟨⟨_, rfl⟩, .inl ⟨_, rfl, by simpa using hJs⟩⟩
  | succ k =>
   obtain ⟨b, o, rfl, hb, hx0, hx1, hx2⟩ := HC.out k (by omega)
   have hy0 := (hnx.1.cell (p := ⟨b, o + k * 3, none⟩) hb).trans hx0
   have hy1 := (hnx.1.cell (p := ⟨b, o + k * 3 + 1, none⟩) hb).trans hx1
   have hy2 := (hnx.1.cell (p := ⟨b, o + k * 3 + 2, none⟩) hb).trans hx2
   have hdr : (zs.drop (k + 1)).reverse ++ [zs[k]] = (zs.drop k).reverse := by rw [List.drop_eq_getElem_cons (by omega : k < zs.length), List.reverse_cons]
   obtain ⟨fn, tmps, assign, body, hy, hR⟩ := hY _ zs[k] wr hJs (by simp; omega)
   rw [HIX.out k (by omega)] at hy
   have hki : ((k + 1 : Nat) : Int) - 1 = k := by omega
   rw [hki]
   have hkl : (k : Int) < zs.length := by omega
   have hk0 : (0 : Int) ≤ k := by omega
   have hwk : IntKind.i64.wrap ((k : Int) - 1) = (k : Int) - 1 := IntWalk.i64_in _ (by omega)
   gi_wp2
   refine hR.mono ?_
   rintro e W3 (⟨rfl, hJ3, hk3⟩ | ⟨rfl, hJx3⟩)
   ·gi_wp2
    go_roundw
    case rel => exact ⟨k, by omega, rfl, by rw [← hdr]; exact hJ3, hnx.trans hk3⟩
    case measure => simp [intOf]
   ·gi_wp2
    refine bodyPost_ret (results_none rfl _ _ _) rfl ?_
    exact ⟨⟨_, rfl⟩, .inr ⟨_, trivial, hJx3⟩⟩
set_option maxHeartbeats 1000000 in
theorem back_in (F : Fence) (n : Nat) (hF : F.fn 111) (hro : F.round = none) (a : Option Addr) (len cap : Nat) (w : World) :
  CallsIn F n Tryz.prog 111 #[.slice a len cap] w fun e w' => e = .returned (.func (.func 152) #[] #[.pointer (some ⟨w.heap.size, 0, none⟩)]) ∧ w' = w.alloc (.cells #[.slice a len cap] 23) := by
 refine callsIn_of_wp Tryz.func111 rfl hF ?_ hro
 simp only [Tryz.ntmps111, List.size_toArray, List.length_cons, List.length_nil, Nat.reduceAdd, Nat.reduceSub, Array.replicate_succ, Array.replicate_zero, List.push_toArray, List.append_toArray, List.nil_append, List.cons_append]
 gi_wp2
 go_ret
 exact ⟨rfl, rfl⟩
theorem back_stops {α : Type} (ix : α → Int) (c0 c1 c2 : α → Value) (F : Fence) (n : Nat) (hF : F.fn 152) (hro : F.round = none) (hn : 1 ≤ n) (Bs n₀ : Nat) (p : Option Addr) (cap : Nat) (zs : List α) (hlen : zs.length ≤ 1048576) (hix : ∀ k (h : k < zs.length), ix zs[k] = k) (w : World) (hn₀ : n₀ ≤ w.heap.size) (hBs : w.cell? ⟨Bs, 0, none⟩ = some (.slice p zs.length cap))
  (hc : ∀ k (h : k < zs.length), ∃ b o, p = some ⟨b, o, none⟩ ∧ b < n₀ ∧ w.cell? ⟨b, o + k * 3, none⟩ = some (c0 zs[k]) ∧ w.cell? ⟨b, o + k * 3 + 1, none⟩ = some (c1 zs[k]) ∧ w.cell? ⟨b, o + k * 3 + 2, none⟩ = some (c2 zs[k])) :
  SeqStopsK F n Tryz.prog 152 #[.pointer (some ⟨Bs, 0, none⟩)] (fun x : α => #[Value.int .i64 (ix x), .agg #[c0 x, c1 x, c2 x]]) (KbAt n₀ Bs) (fun ys => ys = zs.reverse) (fun _ => True) zs.length w := fun l J Jx W hW _ _ hY h0 =>
 back1_in ix c0 c1 c2 F n hF hro hn l Bs n₀ p cap zs hlen hix J Jx hY W ((hW.cell (p := ⟨Bs, 0, none⟩) (World.block_lt_of_cell? _ _ hBs)).trans hBs) (fun k h => by
  obtain ⟨b, o, e, hb, h0, h1, h2⟩ := hc k h
  exact ⟨b, o, e, hb, (hW.cell (p := ⟨b, _, none⟩) (Nat.lt_of_lt_of_le hb hn₀)).trans h0, (hW.cell (p := ⟨b, _, none⟩) (Nat.lt_of_lt_of_le hb hn₀)).trans h1, (hW.cell (p := ⟨b, _, none⟩) (Nat.lt_of_lt_of_le hb hn₀)).trans h2⟩) h0
end Go.Proofs.YtabkdonplmlbcaaGreatDoor
