/- Terms, formulas, literals, clauses us data, and how they lie in memory. No conditions; no program is named. -/
import Derived.Test.YtinfogmjijeliaaFlow
import Derived.Test.YtinfogmjijeliaaOwn2
namespace Go.Proofs.Ytinfogmjijeliaa
open Go.RowKit
inductive Tm where
  | mk (n : ByteArray) (us : List Tm)
inductive Fm where
  | mk (op : Int) (a : Tm) (v : ByteArray) (ps : List Fm)
structure Lit3 where
  pos : Bool
  a : Tm
abbrev Cls := List Lit3
def Tm.n : Tm → ByteArray | .mk n _ => n
def Tm.us : Tm → List Tm | .mk _ us => us
def Fm.op : Fm → Int | .mk o _ _ _ => o
def Fm.a : Fm → Tm | .mk _ a _ _ => a
def Fm.v : Fm → ByteArray | .mk _ _ v _ => v
def Fm.ps : Fm → List Fm | .mk _ _ _ ps => ps
/-- A slice whose elements (each of so many cells) read us the list's; its block, where it has elements, meets B. -/
def ListAt {α : Type} (B : Nat → Prop) (w : World) (size : Nat) (R : α → List Value → Prop) (v : Value) (xs : List α) : Prop :=
  ∃ (p : Option Addr) (c : Nat), v = .slice p xs.length c ∧ xs.length ≤ maxLen ∧
    ∀ i x, xs[i]? = some x → ∃ b o, p = some ⟨b, o, none⟩ ∧ B b ∧ ∃ cs : List Value, cs.length = size ∧ (∀ j, j < size → w.cell? ⟨b, o + i * size + j, none⟩ = cs[j]?) ∧ R x cs
/-- The blocks that meet B are us they were. -/
def SameOn (B : Nat → Prop) (w w' : World) : Prop := ∀ b, B b → b < w.heap.size → w'.heap[b]? = w.heap[b]?
theorem SameOn.below {B : Nat → Prop} {w w' : World} (hb : Below w.heap.size w w') : SameOn B w w' := fun b _ h => hb.block b h
theorem SameOn.refl (B : Nat → Prop) (w : World) : SameOn B w w := fun _ _ _ => rfl
theorem SameOn.store {B : Nat → Prop} (w : World) {p : Addr} (hp : ∀ b, B b → b ≠ p.block) (u : Value) : SameOn B w (w.setCell p u) := fun b hb _ => heap_setCell_other w p b u (fun e => hp b hb e)
theorem SameOn.sc {B : Nat → Prop} {w w1 : World} (h : SameOn B w w1) {p : Addr} (hp : ∀ b, B b → b ≠ p.block) (u : Value) : SameOn B w (w1.setCell p u) := fun b hb hlt => (heap_setCell_other w1 p b u (fun e => hp b hb e)).trans (h b hb hlt)
theorem SameOn.al {B : Nat → Prop} {w w1 : World} (h : SameOn B w w1) (hz : w.heap.size ≤ w1.heap.size) (o : Obj) : SameOn B w (w1.alloc o) := fun b hb hlt => (heap_alloc_old w1 o (Nat.lt_of_lt_of_le hlt hz)).trans (h b hb hlt)
theorem SameOn.dr {B : Nat → Prop} {w w1 : World} (h : SameOn B w w1) : SameOn B w w1.drew := h
theorem SameOn.be {B : Nat → Prop} {w w1 w2 : World} (h : SameOn B w w1) (hz : w.heap.size ≤ w1.heap.size) (hb : Below w1.heap.size w1 w2) : SameOn B w w2 := fun b hb' hlt => (hb.block b (Nat.lt_of_lt_of_le hlt hz)).trans (h b hb' hlt)
theorem ListAt.mono {α : Type} {B B' : Nat → Prop} {w w' : World} {size : Nat} {R R' : α → List Value → Prop} {v : Value} {xs : List α} (h : ListAt B w size R v xs) (hs : SameOn B w w') (hB : ∀ b, B b → B' b) (hR : ∀ x cs, x ∈ xs → R x cs → R' x cs) : ListAt B' w' size R' v xs := by
  obtain ⟨p, c, h1, h2, h3⟩ := h
  refine ⟨p, c, h1, h2, fun i x hx => ?_⟩
  obtain ⟨b, o, h4, h0, cs, h5, h6, h7⟩ := h3 i x hx
  refine ⟨b, o, h4, hB b h0, cs, h5, fun j hj => ?_, hR x cs (List.mem_of_getElem? hx) h7⟩
  have := h6 j hj
  rw [List.getElem?_eq_getElem (by omega)] at this ⊢
  exact (World.cell?_of_block (a := ⟨b, o + i * size + j, none⟩) (hs b h0 (World.block_lt_of_cell? w _ this))).trans this
theorem ListAt.nil {α : Type} (B : Nat → Prop) (w : World) (size : Nat) (R : α → List Value → Prop) (p : Option Addr) (c : Nat) : ListAt B w size R (.slice p 0 c) [] := ⟨p, c, rfl, Nat.zero_le _, fun i x h => by simp at h⟩
theorem ListAt.form {α : Type} {B : Nat → Prop} {w : World} {size : Nat} {R : α → List Value → Prop} {v : Value} {xs : List α} (h : ListAt B w size R v xs) : ∃ p c, v = .slice p xs.length c ∧ xs.length ≤ maxLen := by
  obtain ⟨p, c, h1, h2, _⟩ := h; exact ⟨p, c, h1, h2⟩
def TmAt (B : Nat → Prop) : Nat → World → Tm → List Value → Prop
  | 0, _, _, _ => False
  | n + 1, w, .mk s us, cs => ∃ va, cs = [.string s, va] ∧ s.size ≤ maxLen ∧ ListAt B w 2 (fun t c => TmAt B n w t c) va us
theorem TmAt.mono {B B' : Nat → Prop} {w w' : World} (hs : SameOn B w w') (hB : ∀ b, B b → B' b) : ∀ (n m : Nat) (t : Tm) (cs : List Value), n ≤ m → TmAt B n w t cs → TmAt B' m w' t cs
  | 0, _, _, _, _, h => h.elim
  | n + 1, 0, _, _, hm, _ => by omega
  | n + 1, m + 1, .mk s us, cs, hm, h => by
    obtain ⟨va, h1, h2, h3⟩ := h
    exact ⟨va, h1, h2, h3.mono hs hB (fun x cs _ hx => TmAt.mono hs hB n m x cs (by omega) hx)⟩
theorem TmAt.below {B : Nat → Prop} {w w' : World} (hb : Below w.heap.size w w') {n : Nat} {t : Tm} {cs : List Value} (h : TmAt B n w t cs) : TmAt B n w' t cs := TmAt.mono (SameOn.below hb) (fun _ h => h) n n t cs (Nat.le_refl _) h
theorem TmAt.form {B : Nat → Prop} {w : World} : ∀ {n : Nat} {t : Tm} {v0 v1 : Value}, TmAt B n w t [v0, v1] → ∃ p c, v0 = .string t.n ∧ v1 = .slice p t.us.length c ∧ t.n.size ≤ maxLen ∧ t.us.length ≤ maxLen
  | 0, _, _, _, h => h.elim
  | n + 1, .mk s us, v0, v1, h => by
    obtain ⟨va, h1, h2, h3⟩ := h
    simp only [List.cons.injEq, and_true] at h1
    obtain ⟨rfl, rfl⟩ := h1
    obtain ⟨p, c, rfl, h4⟩ := h3.form
    exact ⟨p, c, rfl, rfl, h2, h4⟩
def FmAt (B : Nat → Prop) : Nat → World → Fm → List Value → Prop
  | 0, _, _, _ => False
  | n + 1, w, .mk op a x ps, cs => ∃ vn va vp, cs = [.int .i64 op, vn, va, .string x, vp] ∧ (-9223372036854775808 ≤ op ∧ op ≤ 9223372036854775807) ∧ x.size ≤ maxLen ∧ TmAt B n w a [vn, va] ∧ ListAt B w 5 (fun f c => FmAt B n w f c) vp ps
theorem FmAt.mono {B B' : Nat → Prop} {w w' : World} (hs : SameOn B w w') (hB : ∀ b, B b → B' b) : ∀ (n m : Nat) (t : Fm) (cs : List Value), n ≤ m → FmAt B n w t cs → FmAt B' m w' t cs
  | 0, _, _, _, _, h => h.elim
  | n + 1, 0, _, _, hm, _ => by omega
  | n + 1, m + 1, .mk op a x ps, cs, hm, h => by
    obtain ⟨vn, va, vp, h1, h2, h3, h4, h5⟩ := h
    exact ⟨vn, va, vp, h1, h2, h3, h4.mono hs hB n m _ _ (by omega), h5.mono hs hB (fun x cs _ hx => FmAt.mono hs hB n m x cs (by omega) hx)⟩
theorem FmAt.below {B : Nat → Prop} {w w' : World} (hb : Below w.heap.size w w') {n : Nat} {t : Fm} {cs : List Value} (h : FmAt B n w t cs) : FmAt B n w' t cs := FmAt.mono (SameOn.below hb) (fun _ h => h) n n t cs (Nat.le_refl _) h
theorem TmAt.args {B : Nat → Prop} {w : World} : ∀ {n : Nat} {t : Tm} {v0 v1 : Value}, TmAt B n w t [v0, v1] → ListAt B w 2 (TmAt B n w) v1 t.us
  | 0, _, _, _, h => h.elim
  | n + 1, .mk s us, v0, v1, h => by
    obtain ⟨va, h1, h2, h3⟩ := h
    simp only [List.cons.injEq, and_true] at h1
    obtain ⟨rfl, rfl⟩ := h1
    exact h3.mono (SameOn.refl _ _) (fun _ h => h) (fun x cs _ hx => TmAt.mono (SameOn.refl _ _) (fun _ h => h) n (n + 1) x cs (by omega) hx)
theorem FmAt.mk {B : Nat → Prop} {n : Nat} {w : World} {op : Int} {a : Tm} {x : ByteArray} {ps : List Fm} {vn va vp : Value} (h1 : -9223372036854775808 ≤ op ∧ op ≤ 9223372036854775807) (h2 : x.size ≤ maxLen) (h3 : TmAt B n w a [vn, va]) (h4 : ListAt B w 5 (fun f c => FmAt B n w f c) vp ps) :
    FmAt B (n + 1) w (.mk op a x ps) [.int .i64 op, vn, va, .string x, vp] := ⟨vn, va, vp, rfl, h1, h2, h3, h4⟩
theorem TmAt.mk {B : Nat → Prop} {n : Nat} {w : World} {s : ByteArray} {us : List Tm} {va : Value} (h1 : s.size ≤ maxLen) (h2 : ListAt B w 2 (fun t c => TmAt B n w t c) va us) : TmAt B (n + 1) w (.mk s us) [.string s, va] := ⟨va, rfl, h1, h2⟩
theorem FmAt.form {B : Nat → Prop} {w : World} : ∀ {n : Nat} {t : Fm} {v0 v1 v2 v3 v4 : Value}, FmAt B n w t [v0, v1, v2, v3, v4] → ∃ p c q d, v0 = .int .i64 t.op ∧ v1 = .string t.a.n ∧ v2 = .slice p t.a.us.length c ∧ v3 = .string t.v ∧ v4 = .slice q t.ps.length d ∧ (-9223372036854775808 ≤ t.op ∧ t.op ≤ 9223372036854775807) ∧ t.a.n.size ≤ maxLen ∧ t.a.us.length ≤ maxLen ∧ t.v.size ≤ maxLen ∧ t.ps.length ≤ maxLen
  | 0, _, _, _, _, _, _, h => h.elim
  | n + 1, .mk op a x ps, v0, v1, v2, v3, v4, h => by
    obtain ⟨vn, va, vp, h1, h2, h3, h4, h5⟩ := h
    simp only [List.cons.injEq, and_true] at h1
    obtain ⟨rfl, rfl, rfl, rfl, rfl⟩ := h1
    obtain ⟨p, c, rfl, rfl, h6, h7⟩ := h4.form
    obtain ⟨q, d, rfl, h8⟩ := h5.form
    exact ⟨p, c, q, d, rfl, rfl, rfl, rfl, rfl, h2, h6, h7, h3, h8⟩
def LitAt (B : Nat → Prop) (n : Nat) (w : World) (l : Lit3) (cs : List Value) : Prop := ∃ vn va, cs = [.bool l.pos, vn, va] ∧ TmAt B n w l.a [vn, va]
theorem LitAt.mono {B B' : Nat → Prop} {w w' : World} (hs : SameOn B w w') (hB : ∀ b, B b → B' b) {n m : Nat} (hm : n ≤ m) {l : Lit3} {cs : List Value} (h : LitAt B n w l cs) : LitAt B' m w' l cs := by
  obtain ⟨vn, va, h1, h2⟩ := h; exact ⟨vn, va, h1, h2.mono hs hB n m _ _ hm⟩
def ClsAt (B : Nat → Prop) (n : Nat) (w : World) (c : Cls) (v : Value) : Prop := ListAt B w 3 (LitAt B n w) v c
theorem ClsAt.mono {B B' : Nat → Prop} {w w' : World} (hs : SameOn B w w') (hB : ∀ b, B b → B' b) {n m : Nat} (hm : n ≤ m) {c : Cls} {v : Value} (h : ClsAt B n w c v) : ClsAt B' m w' c v := ListAt.mono h hs hB fun _ _ _ hx => hx.mono hs hB hm
theorem ClsAt.below {B : Nat → Prop} {w w' : World} (hb : Below w.heap.size w w') {n : Nat} {c : Cls} {v : Value} (h : ClsAt B n w c v) : ClsAt B n w' c v := h.mono (SameOn.below hb) (fun _ h => h) (Nat.le_refl _)
/-! ### What of a list's element lies in memory -/
theorem ListAt.at1 {α : Type} {B : Nat → Prop} {w : World} {R : α → List Value → Prop} {p : Option Addr} {n c : Nat} {xs : List α} (h : ListAt B w 1 R (.slice p n c) xs) {i : Nat} (hi : i < xs.length) :
    ∃ b o, p = some ⟨b, o, none⟩ ∧ B b ∧ ∃ x0, w.cell? ⟨b, o + i, none⟩ = some x0 ∧ R xs[i] [x0] := by
  obtain ⟨p', c', h1, h2, h3⟩ := h
  injection h1 with e1 e2 e3
  subst e1
  obtain ⟨b, o, h4, h0, cs, h5, h6, h7⟩ := h3 i xs[i] (List.getElem?_eq_getElem hi)
  match cs, h5 with
  | [x0], _ => exact ⟨b, o, h4, h0, x0, (by have := h6 0 (by omega); rw [Nat.mul_one] at this; exact this), h7⟩
theorem ListAt.at2 {α : Type} {B : Nat → Prop} {w : World} {R : α → List Value → Prop} {p : Option Addr} {n c : Nat} {xs : List α} (h : ListAt B w 2 R (.slice p n c) xs) {i : Nat} (hi : i < xs.length) :
    ∃ b o, p = some ⟨b, o, none⟩ ∧ B b ∧ ∃ x0 x1, w.cell? ⟨b, o + i * 2, none⟩ = some x0 ∧ w.cell? ⟨b, o + i * 2 + 1, none⟩ = some x1 ∧ R xs[i] [x0, x1] := by
  obtain ⟨p', c', h1, h2, h3⟩ := h
  injection h1 with e1 e2 e3
  subst e1
  obtain ⟨b, o, h4, h0, cs, h5, h6, h7⟩ := h3 i xs[i] (List.getElem?_eq_getElem hi)
  match cs, h5 with
  | [x0, x1], _ => exact ⟨b, o, h4, h0, x0, x1, h6 0 (by omega), h6 1 (by omega), h7⟩
theorem ListAt.at3 {α : Type} {B : Nat → Prop} {w : World} {R : α → List Value → Prop} {p : Option Addr} {n c : Nat} {xs : List α} (h : ListAt B w 3 R (.slice p n c) xs) {i : Nat} (hi : i < xs.length) :
    ∃ b o, p = some ⟨b, o, none⟩ ∧ B b ∧ ∃ x0 x1 x2, w.cell? ⟨b, o + i * 3, none⟩ = some x0 ∧ w.cell? ⟨b, o + i * 3 + 1, none⟩ = some x1 ∧ w.cell? ⟨b, o + i * 3 + 2, none⟩ = some x2 ∧ R xs[i] [x0, x1, x2] := by
  obtain ⟨p', c', h1, h2, h3⟩ := h
  injection h1 with e1 e2 e3
  subst e1
  obtain ⟨b, o, h4, h0, cs, h5, h6, h7⟩ := h3 i xs[i] (List.getElem?_eq_getElem hi)
  match cs, h5 with
  | [x0, x1, x2], _ => exact ⟨b, o, h4, h0, x0, x1, x2, h6 0 (by omega), h6 1 (by omega), h6 2 (by omega), h7⟩
theorem ListAt.at4 {α : Type} {B : Nat → Prop} {w : World} {R : α → List Value → Prop} {p : Option Addr} {n c : Nat} {xs : List α} (h : ListAt B w 4 R (.slice p n c) xs) {i : Nat} (hi : i < xs.length) :
    ∃ b o, p = some ⟨b, o, none⟩ ∧ B b ∧ ∃ x0 x1 x2 x3, w.cell? ⟨b, o + i * 4, none⟩ = some x0 ∧ w.cell? ⟨b, o + i * 4 + 1, none⟩ = some x1 ∧ w.cell? ⟨b, o + i * 4 + 2, none⟩ = some x2 ∧ w.cell? ⟨b, o + i * 4 + 3, none⟩ = some x3 ∧ R xs[i] [x0, x1, x2, x3] := by
  obtain ⟨p', c', h1, h2, h3⟩ := h
  injection h1 with e1 e2 e3
  subst e1
  obtain ⟨b, o, h4, h0, cs, h5, h6, h7⟩ := h3 i xs[i] (List.getElem?_eq_getElem hi)
  match cs, h5 with
  | [x0, x1, x2, x3], _ => exact ⟨b, o, h4, h0, x0, x1, x2, x3, h6 0 (by omega), h6 1 (by omega), h6 2 (by omega), h6 3 (by omega), h7⟩
theorem ListAt.at5 {α : Type} {B : Nat → Prop} {w : World} {R : α → List Value → Prop} {p : Option Addr} {n c : Nat} {xs : List α} (h : ListAt B w 5 R (.slice p n c) xs) {i : Nat} (hi : i < xs.length) :
    ∃ b o, p = some ⟨b, o, none⟩ ∧ B b ∧ ∃ x0 x1 x2 x3 x4, w.cell? ⟨b, o + i * 5, none⟩ = some x0 ∧ w.cell? ⟨b, o + i * 5 + 1, none⟩ = some x1 ∧ w.cell? ⟨b, o + i * 5 + 2, none⟩ = some x2 ∧ w.cell? ⟨b, o + i * 5 + 3, none⟩ = some x3 ∧ w.cell? ⟨b, o + i * 5 + 4, none⟩ = some x4 ∧ R xs[i] [x0, x1, x2, x3, x4] := by
  obtain ⟨p', c', h1, h2, h3⟩ := h
  injection h1 with e1 e2 e3
  subst e1
  obtain ⟨b, o, h4, h0, cs, h5, h6, h7⟩ := h3 i xs[i] (List.getElem?_eq_getElem hi)
  match cs, h5 with
  | [x0, x1, x2, x3, x4], _ => exact ⟨b, o, h4, h0, x0, x1, x2, x3, x4, h6 0 (by omega), h6 1 (by omega), h6 2 (by omega), h6 3 (by omega), h6 4 (by omega), h7⟩
end Go.Proofs.Ytinfogmjijeliaa
