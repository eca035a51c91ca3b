import Derived.Laws.OwnMore
import Derived.OwnWalk
import Derived.Test.YtkgfanajgdelcaaGreatDoorUnPart1
namespace Go.Proofs.YtkgfanajgdelcaaGreatDoor
open Go.RowKit
inductive Tm where
  | mk (n : ByteArray) (us : List Tm)
inductive Fm where
  | mk (op : Int) (a : Tm) (v : ByteArray) (ps : List Fm)
def Tm.n : Tm → ByteArray | .mk n _ => n
def Tm.us : Tm → List Tm | .mk _ us => us
def Fm.op : Fm → Int | .mk o _ _ _ => o
def Fm.a : Fm → Tm | .mk _ a _ _ => a
def Fm.v : Fm → ByteArray | .mk _ _ v _ => v
def Fm.ps : Fm → List Fm | .mk _ _ _ ps => ps
def ListAt {α : Type} (B : Nat → Prop) (w : World) (size : Nat) (R : α → List Value → Prop) (v : Value) (xs : List α) : Prop :=
  ∃ (p : Option Addr) (c : Nat), v = .slice p xs.length c ∧ xs.length ≤ maxLen ∧
    ∀ i x, xs[i]? = some x → ∃ b o, p = some ⟨b, o, none⟩ ∧ B b ∧ ∃ cs : List Value, cs.length = size ∧ (∀ j, j < size → w.cell? ⟨b, o + i * size + j, none⟩ = cs[j]?) ∧ R x cs
def SameOn (B : Nat → Prop) (w w' : World) : Prop := ∀ b, B b → b < w.heap.size → w'.heap[b]? = w.heap[b]?
theorem SameOn.below {B : Nat → Prop} {w w' : World} (hb : Below w.heap.size w w') : SameOn B w w' := fun b _ h => hb.block b h
theorem SameOn.refl (B : Nat → Prop) (w : World) : SameOn B w w := fun _ _ _ => rfl
theorem SameOn.store {B : Nat → Prop} (w : World) {p : Addr} (hp : ∀ b, B b → b ≠ p.block) (u : Value) : SameOn B w (w.setCell p u) := fun b hb _ => heap_setCell_other w p b u (fun e => hp b hb e)
theorem ListAt.mono {α : Type} {B B' : Nat → Prop} {w w' : World} {size : Nat} {R R' : α → List Value → Prop} {v : Value} {xs : List α} (h : ListAt B w size R v xs) (hs : SameOn B w w') (hB : ∀ b, B b → B' b) (hR : ∀ x cs, x ∈ xs → R x cs → R' x cs) : ListAt B' w' size R' v xs := by
  obtain ⟨p, c, h1, h2, h3⟩ := h
  refine ⟨p, c, h1, h2, fun i x hx => ?_⟩
  obtain ⟨b, o, h4, h0, cs, h5, h6, h7⟩ := h3 i x hx
  refine ⟨b, o, h4, hB b h0, cs, h5, fun j hj => ?_, hR x cs (List.mem_of_getElem? hx) h7⟩
  have := h6 j hj
  rw [List.getElem?_eq_getElem (by omega)] at this ⊢
  exact (World.cell?_of_block (a := ⟨b, o + i * size + j, none⟩) (hs b h0 (World.block_lt_of_cell? w _ this))).trans this
theorem ListAt.nil {α : Type} (B : Nat → Prop) (w : World) (size : Nat) (R : α → List Value → Prop) (p : Option Addr) (c : Nat) : ListAt B w size R (.slice p 0 c) [] := ⟨p, c, rfl, Nat.zero_le _, fun i x h => by simp at h⟩
theorem ListAt.form {α : Type} {B : Nat → Prop} {w : World} {size : Nat} {R : α → List Value → Prop} {v : Value} {xs : List α} (h : ListAt B w size R v xs) : ∃ p c, v = .slice p xs.length c ∧ xs.length ≤ maxLen := by
  obtain ⟨p, c, h1, h2, _⟩ := h; exact ⟨p, c, h1, h2⟩
def TmAt (B : Nat → Prop) : Nat → World → Tm → List Value → Prop
  | 0, _, _, _ => False
  | n + 1, w, .mk s us, cs => ∃ va, cs = [.string s, va] ∧ s.size ≤ maxLen ∧ ListAt B w 2 (fun t c => TmAt B n w t c) va us
theorem TmAt.mono {B B' : Nat → Prop} {w w' : World} (hs : SameOn B w w') (hB : ∀ b, B b → B' b) : ∀ (n m : Nat) (t : Tm) (cs : List Value), n ≤ m → TmAt B n w t cs → TmAt B' m w' t cs
  | 0, _, _, _, _, h => h.elim
  | n + 1, 0, _, _, hm, _ => by omega
  | n + 1, m + 1, .mk s us, cs, hm, h => by
    obtain ⟨va, h1, h2, h3⟩ := h
    exact ⟨va, h1, h2, h3.mono hs hB (fun x cs _ hx => TmAt.mono hs hB n m x cs (by omega) hx)⟩
theorem TmAt.below {B : Nat → Prop} {w w' : World} (hb : Below w.heap.size w w') {n : Nat} {t : Tm} {cs : List Value} (h : TmAt B n w t cs) : TmAt B n w' t cs := TmAt.mono (SameOn.below hb) (fun _ h => h) n n t cs (Nat.le_refl _) h
theorem TmAt.form {B : Nat → Prop} {w : World} : ∀ {n : Nat} {t : Tm} {v0 v1 : Value}, TmAt B n w t [v0, v1] → ∃ p c, v0 = .string t.n ∧ v1 = .slice p t.us.length c ∧ t.n.size ≤ maxLen ∧ t.us.length ≤ maxLen
  | 0, _, _, _, h => h.elim
  | n + 1, .mk s us, v0, v1, h => by
    obtain ⟨va, h1, h2, h3⟩ := h
    simp only [List.cons.injEq, and_true] at h1
    obtain ⟨rfl, rfl⟩ := h1
    obtain ⟨p, c, rfl, h4⟩ := h3.form
    exact ⟨p, c, rfl, rfl, h2, h4⟩
def FmAt (B : Nat → Prop) : Nat → World → Fm → List Value → Prop
  | 0, _, _, _ => False
  | n + 1, w, .mk op a x ps, cs => ∃ vn va vp, cs = [.int .i64 op, vn, va, .string x, vp] ∧ (-9223372036854775808 ≤ op ∧ op ≤ 9223372036854775807) ∧ x.size ≤ maxLen ∧ TmAt B n w a [vn, va] ∧ ListAt B w 5 (fun f c => FmAt B n w f c) vp ps
theorem FmAt.mono {B B' : Nat → Prop} {w w' : World} (hs : SameOn B w w') (hB : ∀ b, B b → B' b) : ∀ (n m : Nat) (t : Fm) (cs : List Value), n ≤ m → FmAt B n w t cs → FmAt B' m w' t cs
  | 0, _, _, _, _, h => h.elim
  | n + 1, 0, _, _, hm, _ => by omega
  | n + 1, m + 1, .mk op a x ps, cs, hm, h => by
    obtain ⟨vn, va, vp, h1, h2, h3, h4, h5⟩ := h
    exact ⟨vn, va, vp, h1, h2, h3, h4.mono hs hB n m _ _ (by omega), h5.mono hs hB (fun x cs _ hx => FmAt.mono hs hB n m x cs (by omega) hx)⟩
theorem FmAt.below {B : Nat → Prop} {w w' : World} (hb : Below w.heap.size w w') {n : Nat} {t : Fm} {cs : List Value} (h : FmAt B n w t cs) : FmAt B n w' t cs := FmAt.mono (SameOn.below hb) (fun _ h => h) n n t cs (Nat.le_refl _) h
theorem TmAt.args {B : Nat → Prop} {w : World} : ∀ {n : Nat} {t : Tm} {v0 v1 : Value}, TmAt B n w t [v0, v1] → ListAt B w 2 (TmAt B n w) v1 t.us
  | 0, _, _, _, h => h.elim
  | n + 1, .mk s us, v0, v1, h => by
    obtain ⟨va, h1, h2, h3⟩ := h
    simp only [List.cons.injEq, and_true] at h1
    obtain ⟨rfl, rfl⟩ := h1
    exact h3.mono (SameOn.refl _ _) (fun _ h => h) (fun x cs _ hx => TmAt.mono (SameOn.refl _ _) (fun _ h => h) n (n + 1) x cs (by omega) hx)
theorem FmAt.form {B : Nat → Prop} {w : World} : ∀ {n : Nat} {t : Fm} {v0 v1 v2 v3 v4 : Value}, FmAt B n w t [v0, v1, v2, v3, v4] → ∃ p c q d, v0 = .int .i64 t.op ∧ v1 = .string t.a.n ∧ v2 = .slice p t.a.us.length c ∧ v3 = .string t.v ∧ v4 = .slice q t.ps.length d ∧ (-9223372036854775808 ≤ t.op ∧ t.op ≤ 9223372036854775807) ∧ t.a.n.size ≤ maxLen ∧ t.a.us.length ≤ maxLen ∧ t.v.size ≤ maxLen ∧ t.ps.length ≤ maxLen
  | 0, _, _, _, _, _, _, h => h.elim
  | n + 1, .mk op a x ps, v0, v1, v2, v3, v4, h => by
    obtain ⟨vn, va, vp, h1, h2, h3, h4, h5⟩ := h
    simp only [List.cons.injEq, and_true] at h1
    obtain ⟨rfl, rfl, rfl, rfl, rfl⟩ := h1
    obtain ⟨p, c, rfl, rfl, h6, h7⟩ := h4.form
    obtain ⟨q, d, rfl, h8⟩ := h5.form
    exact ⟨p, c, q, d, rfl, rfl, rfl, rfl, rfl, h2, h6, h7, h3, h8⟩
/-! ### What of a list's element lies in memory -/
theorem ListAt.at1 {α : Type} {B : Nat → Prop} {w : World} {R : α → List Value → Prop} {p : Option Addr} {n c : Nat} {xs : List α} (h : ListAt B w 1 R (.slice p n c) xs) {i : Nat} (hi : i < xs.length) :
    ∃ b o, p = some ⟨b, o, none⟩ ∧ B b ∧ ∃ x0, w.cell? ⟨b, o + i, none⟩ = some x0 ∧ R xs[i] [x0] := by
  obtain ⟨p', c', h1, h2, h3⟩ := h
  injection h1 with e1 e2 e3
  subst e1
  obtain ⟨b, o, h4, h0, cs, h5, h6, h7⟩ := h3 i xs[i] (List.getElem?_eq_getElem hi)
  match cs, h5 with
  | [x0], _ => exact ⟨b, o, h4, h0, x0, (by have := h6 0 (by omega); rw [Nat.mul_one] at this; exact this), h7⟩
theorem ListAt.at2 {α : Type} {B : Nat → Prop} {w : World} {R : α → List Value → Prop} {p : Option Addr} {n c : Nat} {xs : List α} (h : ListAt B w 2 R (.slice p n c) xs) {i : Nat} (hi : i < xs.length) :
    ∃ b o, p = some ⟨b, o, none⟩ ∧ B b ∧ ∃ x0 x1, w.cell? ⟨b, o + i * 2, none⟩ = some x0 ∧ w.cell? ⟨b, o + i * 2 + 1, none⟩ = some x1 ∧ R xs[i] [x0, x1] := by
  obtain ⟨p', c', h1, h2, h3⟩ := h
  injection h1 with e1 e2 e3
  subst e1
  obtain ⟨b, o, h4, h0, cs, h5, h6, h7⟩ := h3 i xs[i] (List.getElem?_eq_getElem hi)
  match cs, h5 with
  | [x0, x1], _ => exact ⟨b, o, h4, h0, x0, x1, h6 0 (by omega), h6 1 (by omega), h7⟩
theorem ListAt.at4 {α : Type} {B : Nat → Prop} {w : World} {R : α → List Value → Prop} {p : Option Addr} {n c : Nat} {xs : List α} (h : ListAt B w 4 R (.slice p n c) xs) {i : Nat} (hi : i < xs.length) :
    ∃ b o, p = some ⟨b, o, none⟩ ∧ B b ∧ ∃ x0 x1 x2 x3, w.cell? ⟨b, o + i * 4, none⟩ = some x0 ∧ w.cell? ⟨b, o + i * 4 + 1, none⟩ = some x1 ∧ w.cell? ⟨b, o + i * 4 + 2, none⟩ = some x2 ∧ w.cell? ⟨b, o + i * 4 + 3, none⟩ = some x3 ∧ R xs[i] [x0, x1, x2, x3] := by
  obtain ⟨p', c', h1, h2, h3⟩ := h
  injection h1 with e1 e2 e3
  subst e1
  obtain ⟨b, o, h4, h0, cs, h5, h6, h7⟩ := h3 i xs[i] (List.getElem?_eq_getElem hi)
  match cs, h5 with
  | [x0, x1, x2, x3], _ => exact ⟨b, o, h4, h0, x0, x1, x2, x3, h6 0 (by omega), h6 1 (by omega), h6 2 (by omega), h6 3 (by omega), h7⟩
theorem ListAt.at5 {α : Type} {B : Nat → Prop} {w : World} {R : α → List Value → Prop} {p : Option Addr} {n c : Nat} {xs : List α} (h : ListAt B w 5 R (.slice p n c) xs) {i : Nat} (hi : i < xs.length) :
    ∃ b o, p = some ⟨b, o, none⟩ ∧ B b ∧ ∃ x0 x1 x2 x3 x4, w.cell? ⟨b, o + i * 5, none⟩ = some x0 ∧ w.cell? ⟨b, o + i * 5 + 1, none⟩ = some x1 ∧ w.cell? ⟨b, o + i * 5 + 2, none⟩ = some x2 ∧ w.cell? ⟨b, o + i * 5 + 3, none⟩ = some x3 ∧ w.cell? ⟨b, o + i * 5 + 4, none⟩ = some x4 ∧ R xs[i] [x0, x1, x2, x3, x4] := by
  obtain ⟨p', c', h1, h2, h3⟩ := h
  injection h1 with e1 e2 e3
  subst e1
  obtain ⟨b, o, h4, h0, cs, h5, h6, h7⟩ := h3 i xs[i] (List.getElem?_eq_getElem hi)
  match cs, h5 with
  | [x0, x1, x2, x3, x4], _ => exact ⟨b, o, h4, h0, x0, x1, x2, x3, x4, h6 0 (by omega), h6 1 (by omega), h6 2 (by omega), h6 3 (by omega), h6 4 (by omega), h7⟩
def upC (c : UInt8) : Bool := decide (65 ≤ c.toNat) && decide (c.toNat ≤ 90)
def loC (c : UInt8) : Bool := decide (97 ≤ c.toNat) && decide (c.toNat ≤ 122)
def diC (c : UInt8) : Bool := decide (48 ≤ c.toNat) && decide (c.toNat ≤ 57)
def smC (c : UInt8) : Bool := loC c || diC c
def unC (c : UInt8) : Bool := smC c || c == 95
def headTail (p q : UInt8 → Bool) : List UInt8 → Bool
  | [] => true
  | c :: l => p c && l.all q
theorem headTail_snoc (p q : UInt8 → Bool) (l : List UInt8) (c : UInt8) : headTail p q (l ++ [c]) = (headTail p q l && (if l.isEmpty then p c else q c)) := by
  cases l with
  | nil => simp [headTail]
  | cons x l => simp [headTail, Bool.and_assoc]
def varB (l : List UInt8) : Bool := decide (1 ≤ l.length) && decide (l.length ≤ 4) && headTail upC smC l
def keyW : List (List UInt8) := [[116, 114, 117, 101], [102, 97, 108, 115, 101], [116, 114, 117, 116, 104], [98, 111, 116, 104], [101, 105, 116, 104, 101, 114], [105, 102], [97, 108, 108], [115, 111, 109, 101]]
def symB (l : List UInt8) : Bool := decide (1 ≤ l.length) && decide (l.length ≤ 6) && headTail loC unC l && !keyW.contains l
mutual
def Tm.sz : Tm → Nat | .mk _ us => 1 + Tm.szs us
def Tm.szs : List Tm → Nat | [] => 0 | a :: us => a.sz + Tm.szs us
end
mutual
def Tm.dp : Tm → Nat | .mk _ us => Tm.dps us + 1
def Tm.dps : List Tm → Nat | [] => 0 | a :: us => max a.dp (Tm.dps us)
end
mutual
def Tm.nodes : Tm → Bool | .mk n us => if varB n.data.toList then us.isEmpty else symB n.data.toList && decide (us.length ≤ 4) && Tm.nodess us
def Tm.nodess : List Tm → Bool | [] => true | a :: us => a.nodes && Tm.nodess us
end
mutual
def Tm.szI : Tm → Nat | .mk _ us => Tm.szIs 1 us
def Tm.szIs : Nat → List Tm → Nat | n, [] => n | n, a :: us => if 30 < n then n else Tm.szIs (n + a.szI) us
end
mutual
def Tm.many : Tm → Nat → Nat | .mk _ us, m => Tm.manys 1 us m
def Tm.manys : Nat → List Tm → Nat → Nat | n, [], _ => n | n, a :: us, m => if n ≤ m then Tm.manys (n + a.many (m - n)) us m else n
end
mutual
theorem Tm.szI_law : ∀ t : Tm, t.szI ≤ t.sz ∧ (t.szI ≤ 30 → t.szI = t.sz) ∧ 1 ≤ t.szI
  | .mk _ us => by have := Tm.szIs_law 1 us; rw [Tm.szI, Tm.sz]; omega
theorem Tm.szIs_law : ∀ (n : Nat) (us : List Tm), Tm.szIs n us ≤ n + Tm.szs us ∧ (Tm.szIs n us ≤ 30 → Tm.szIs n us = n + Tm.szs us) ∧ n ≤ Tm.szIs n us
  | n, [] => by simp [Tm.szIs, Tm.szs]
  | n, a :: us => by
    have h1 := Tm.szI_law a
    have h2 := Tm.szIs_law (n + a.szI) us
    rw [Tm.szIs, Tm.szs]
    split <;> omega
end
mutual
theorem Tm.many_law : ∀ (t : Tm) (m : Nat), t.many m ≤ t.sz ∧ (t.many m ≤ m → t.many m = t.sz) ∧ 1 ≤ t.many m
  | .mk _ us, m => by have := Tm.manys_law 1 us m; rw [Tm.many, Tm.sz]; omega
theorem Tm.manys_law : ∀ (n : Nat) (us : List Tm) (m : Nat), Tm.manys n us m ≤ n + Tm.szs us ∧ (Tm.manys n us m ≤ m → Tm.manys n us m = n + Tm.szs us) ∧ n ≤ Tm.manys n us m
  | n, [], m => by simp [Tm.manys, Tm.szs]
  | n, a :: us, m => by
    have h1 := Tm.many_law a (m - n)
    have h2 := Tm.manys_law (n + a.many (m - n)) us m
    rw [Tm.manys, Tm.szs]
    split <;> omega
end
mutual
theorem Tm.dp_le : ∀ t : Tm, t.dp ≤ t.sz
  | .mk _ us => by have := Tm.dps_le us; rw [Tm.dp, Tm.sz]; omega
theorem Tm.dps_le : ∀ us : List Tm, Tm.dps us ≤ Tm.szs us
  | [] => by simp [Tm.dps, Tm.szs]
  | a :: us => by have := Tm.dp_le a; have := Tm.dps_le us; rw [Tm.dps, Tm.szs]; omega
end
theorem Tm.szI_iff (t : Tm) : decide (t.szI ≤ 30) = decide (t.sz ≤ 30) := by rw [decide_eq_decide]; have := t.szI_law; omega
theorem Tm.many_iff (t : Tm) : decide (t.many 30 ≤ 30) = decide (t.sz ≤ 30) := by rw [decide_eq_decide]; have := t.many_law 30; omega
def Tm.small (t : Tm) : Bool := decide (t.sz ≤ 30) && decide (t.dp ≤ 8)
def Tm.good (t : Tm) : Bool := t.small && t.nodes
def isEq (n : ByteArray) : Bool := n.data.toList == [61]
def Tm.atom (t : Tm) : Bool :=
  if isEq t.n then decide (t.us.length = 2) && t.small && Tm.nodess t.us else symB t.n.data.toList && t.good
mutual
def Fm.sz : Fm → Nat | .mk _ _ _ ps => 1 + Fm.szs ps
def Fm.szs : List Fm → Nat | [] => 0 | a :: us => a.sz + Fm.szs us
end
mutual
def Fm.szI : Fm → Nat | .mk _ _ _ ps => Fm.szIs 1 ps
def Fm.szIs : Nat → List Fm → Nat | n, [] => n | n, a :: us => if 40 < n then n else Fm.szIs (n + a.szI) us
end
mutual
def Fm.many : Fm → Nat → Nat | .mk _ _ _ ps, m => Fm.manys 1 ps m
def Fm.manys : Nat → List Fm → Nat → Nat | n, [], _ => n | n, a :: us, m => if n ≤ m then Fm.manys (n + a.many (m - n)) us m else n
end
mutual
theorem Fm.szI_law : ∀ t : Fm, t.szI ≤ t.sz ∧ (t.szI ≤ 40 → t.szI = t.sz) ∧ 1 ≤ t.szI
  | .mk _ _ _ us => by have := Fm.szIs_law 1 us; rw [Fm.szI, Fm.sz]; omega
theorem Fm.szIs_law : ∀ (n : Nat) (us : List Fm), Fm.szIs n us ≤ n + Fm.szs us ∧ (Fm.szIs n us ≤ 40 → Fm.szIs n us = n + Fm.szs us) ∧ n ≤ Fm.szIs n us
  | n, [] => by simp [Fm.szIs, Fm.szs]
  | n, a :: us => by
    have h1 := Fm.szI_law a
    have h2 := Fm.szIs_law (n + a.szI) us
    rw [Fm.szIs, Fm.szs]
    split <;> omega
end
mutual
theorem Fm.many_law : ∀ (t : Fm) (m : Nat), t.many m ≤ t.sz ∧ (t.many m ≤ m → t.many m = t.sz) ∧ 1 ≤ t.many m
  | .mk _ _ _ us, m => by have := Fm.manys_law 1 us m; rw [Fm.many, Fm.sz]; omega
theorem Fm.manys_law : ∀ (n : Nat) (us : List Fm) (m : Nat), Fm.manys n us m ≤ n + Fm.szs us ∧ (Fm.manys n us m ≤ m → Fm.manys n us m = n + Fm.szs us) ∧ n ≤ Fm.manys n us m
  | n, [], m => by simp [Fm.manys, Fm.szs]
  | n, a :: us, m => by
    have h1 := Fm.many_law a (m - n)
    have h2 := Fm.manys_law (n + a.many (m - n)) us m
    rw [Fm.manys, Fm.szs]
    split <;> omega
end
theorem Fm.szI_iff (t : Fm) : decide (t.szI ≤ 40) = decide (t.sz ≤ 40) := by rw [decide_eq_decide]; have := t.szI_law; omega
theorem Fm.many_iff (t : Fm) : decide (t.many 40 ≤ 40) = decide (t.sz ≤ 40) := by rw [decide_eq_decide]; have := t.many_law 40; omega
def Tm.none (t : Tm) : Bool := t.n.data.toList.isEmpty && t.us.isEmpty
def arity (op : Int) : Option Nat := if op = 1 ∨ op = 2 ∨ op = 3 then some 0 else if op = 4 ∨ op = 8 ∨ op = 9 then some 1 else if op = 5 ∨ op = 6 ∨ op = 7 then some 2 else none
def isQ (op : Int) : Bool := op == 8 || op == 9
def Fm.form1 (f : Fm) : Bool :=
  (arity f.op == some f.ps.length) && (if isQ f.op then varB f.v.data.toList else f.v.data.toList.isEmpty) && (if f.op = 3 then f.a.atom else f.a.none)
mutual
def Fm.form : Fm → Bool | .mk op a v ps => Fm.form1 (.mk op a v ps) && Fm.forms ps
def Fm.forms : List Fm → Bool | [] => true | f :: fs => f.form && Fm.forms fs
end
def Fm.good (f : Fm) : Bool := decide (f.sz ≤ 40) && f.form
/-! ### Texts -/
def joinB (sep : List UInt8) : List (List UInt8) → List UInt8
  | [] => []
  | [a] => a
  | a :: b :: l => a ++ sep ++ joinB sep (b :: l)
mutual
def Tm.fmt : Tm → List UInt8
  | .mk n us => if n.data.toList = [61] then (match Tm.fmtL us with | a :: b :: _ => a ++ [32, 61, 32] ++ b | _ => []) else match us with | [] => n.data.toList | _ :: _ => n.data.toList ++ [40] ++ joinB [44] (Tm.fmtL us) ++ [41]
def Tm.fmtL : List Tm → List (List UInt8)
  | [] => []
  | a :: us => a.fmt :: Tm.fmtL us
end
mutual
def Tm.wt : Tm → Nat | .mk n us => n.size + us.length + Tm.wts us
def Tm.wts : List Tm → Nat | [] => 0 | a :: us => a.wt + Tm.wts us
end
def StrAt (s : ByteArray) (cs : List Value) : Prop := cs = [.string s] ∧ s.size ≤ maxLen
def StrsAt (B : Nat → Prop) (w : World) (v : Value) (xs : List ByteArray) : Prop := ListAt B w 1 StrAt v xs
def wtS : List ByteArray → Nat | [] => 0 | a :: us => a.size + wtS us
theorem wtS_le : ∀ (us : List ByteArray), ∀ s ∈ us, s.size ≤ wtS us
  | [], _, h => by simp at h
  | a :: us, s, h => by
    rw [wtS]
    rcases List.mem_cons.1 h with rfl | h
    · omega
    · have := wtS_le us s h; omega
theorem StrsAt.mono {B B' : Nat → Prop} {w w' : World} {v : Value} {xs : List ByteArray} (hs : SameOn B w w') (hB : ∀ b, B b → B' b) (h : StrsAt B w v xs) : StrsAt B' w' v xs := ListAt.mono h hs hB (fun _ _ _ h => h)
theorem StrsAt.below {B : Nat → Prop} {w w' : World} {v : Value} {xs : List ByteArray} (hb : Below w.heap.size w w') (h : StrsAt B w v xs) : StrsAt B w' v xs := h.mono (SameOn.below hb) (fun _ h => h)
theorem StrsAt.form {B : Nat → Prop} {w : World} {v : Value} {xs : List ByteArray} (h : StrsAt B w v xs) : ∃ p c, v = .slice p xs.length c ∧ xs.length ≤ maxLen := ListAt.form h
theorem StrsAt.at_ {B : Nat → Prop} {w : World} {p : Option Addr} {n c : Nat} {xs : List ByteArray} (h : StrsAt B w (.slice p n c) xs) {i : Nat} (hi : i < xs.length) : ∃ b o, p = some ⟨b, o, none⟩ ∧ B b ∧ w.cell? ⟨b, o + i, none⟩ = some (.string xs[i]) ∧ xs[i].size ≤ maxLen := by
  obtain ⟨b, o, h1, h2, x, h3, h4, h5⟩ := ListAt.at1 h hi
  simp only [List.cons.injEq, and_true] at h4
  subst h4
  exact ⟨b, o, h1, h2, h3, h5⟩
structure Un where
  name : ByteArray
  incs : List ByteArray
  axs : List ByteArray
  goal : ByteArray
def Un.wt (u : Un) : Nat := u.name.size + (u.incs.length + wtS u.incs) + (u.axs.length + wtS u.axs) + u.goal.size
def UnAt (B : Nat → Prop) (w : World) (u : Un) (cs : List Value) : Prop := ∃ va vb, cs = [.string u.name, va, vb, .string u.goal] ∧ u.name.size ≤ maxLen ∧ u.goal.size ≤ maxLen ∧ StrsAt B w va u.incs ∧ StrsAt B w vb u.axs
theorem UnAt.mono {B B' : Nat → Prop} {w w' : World} {u : Un} {cs : List Value} (hs : SameOn B w w') (hB : ∀ b, B b → B' b) (h : UnAt B w u cs) : UnAt B' w' u cs := by
  obtain ⟨va, vb, h1, h2, h3, h4, h5⟩ := h
  exact ⟨va, vb, h1, h2, h3, h4.mono hs hB, h5.mono hs hB⟩
theorem UnAt.below {B : Nat → Prop} {w w' : World} {u : Un} {cs : List Value} (hb : Below w.heap.size w w') (h : UnAt B w u cs) : UnAt B w' u cs := h.mono (SameOn.below hb) (fun _ h => h)
theorem UnAt.form {B : Nat → Prop} {w : World} {u : Un} {v0 v1 v2 v3 : Value} (h : UnAt B w u [v0, v1, v2, v3]) : ∃ p c q d, v0 = .string u.name ∧ v1 = .slice p u.incs.length c ∧ v2 = .slice q u.axs.length d ∧ v3 = .string u.goal ∧ u.name.size ≤ maxLen ∧ u.goal.size ≤ maxLen ∧ u.incs.length ≤ maxLen ∧ u.axs.length ≤ maxLen ∧ StrsAt B w (.slice p u.incs.length c) u.incs ∧ StrsAt B w (.slice q u.axs.length d) u.axs := by
  obtain ⟨va, vb, h1, h2, h3, h4, h5⟩ := h
  obtain ⟨p, c, rfl, l1⟩ := h4.form
  obtain ⟨q, d, rfl, l2⟩ := h5.form
  simp only [List.cons.injEq, and_true] at h1
  obtain ⟨rfl, rfl, rfl, rfl⟩ := h1
  exact ⟨p, c, q, d, rfl, rfl, rfl, rfl, h2, h3, l1, l2, h4, h5⟩
instance lawBA : LawfulBEq ByteArray where
  eq_of_beq {a b} h := by
    have h : ByteArray.beq a b = true := h
    exact ByteArray.ext (by simpa [ByteArray.beq] using h)
  rfl {a} := by
    show ByteArray.beq a a = true
    simp [ByteArray.beq]
def inS (l : List ByteArray) (x : ByteArray) : Bool := decide (x ∈ l)
def Un.ready (out : List ByteArray) (u : Un) : Bool := !inS out u.name && u.incs.all (inS out)
def ordF : Nat → List Un → List ByteArray → List ByteArray
  | 0, _, out => out
  | f + 1, l, out => match l.find? (Un.ready out) with
    | none => out
    | some u => ordF f l (out ++ [u.name])
def ordL (l : List Un) : List ByteArray := ordF l.length l []
theorem pigeon : ∀ (a b : List ByteArray), a.Nodup → (∀ x ∈ a, x ∈ b) → a.length ≤ b.length
  | [], _, _, _ => Nat.zero_le _
  | x :: a, b, hn, h => by
    rw [List.nodup_cons] at hn
    have hx : x ∈ b := h x (List.mem_cons_self ..)
    have := pigeon a (b.erase x) hn.2 (fun y hy => (List.mem_erase_of_ne (fun e : y = x => hn.1 (e ▸ hy))).2 (h y (List.mem_cons_of_mem _ hy)))
    rw [List.length_erase_of_mem hx] at this
    have := List.length_pos_of_mem hx
    rw [List.length_cons]; omega
structure OrdInv (l : List Un) (out : List ByteArray) : Prop where
  nd : out.Nodup
  sub : ∀ x ∈ out, x ∈ l.map Un.name
  topo : ∀ (i : Nat) (x : ByteArray), out[i]? = some x → ∃ u ∈ l, u.name = x ∧ ∀ y ∈ u.incs, y ∈ out.take i
theorem OrdInv.nil (l : List Un) : OrdInv l [] := ⟨List.nodup_nil, by simp, by simp⟩
theorem OrdInv.len {l : List Un} {out : List ByteArray} (h : OrdInv l out) : out.length ≤ l.length := by
  have := pigeon _ _ h.nd h.sub; simpa using this
theorem ready_parts {out : List ByteArray} {u : Un} (h : u.ready out = true) : u.name ∉ out ∧ ∀ y ∈ u.incs, y ∈ out := by
  rw [Un.ready, Bool.and_eq_true, Bool.not_eq_true', List.all_eq_true] at h
  exact ⟨by simpa [inS] using h.1, fun y hy => by simpa [inS] using h.2 y hy⟩
theorem OrdInv.snoc {l : List Un} {out : List ByteArray} {u : Un} (h : OrdInv l out) (hu : u ∈ l) (hr : u.ready out = true) : OrdInv l (out ++ [u.name]) := by
  obtain ⟨h1, h2⟩ := ready_parts hr
  refine ⟨?_, ?_, ?_⟩
  · rw [List.nodup_append]; exact ⟨h.nd, by simp, by simp; intro a ha e; exact h1 (e ▸ ha)⟩
  · intro x hx
    rcases List.mem_append.1 hx with hx | hx
    · exact h.sub x hx
    · rw [List.mem_singleton] at hx; subst hx; exact List.mem_map_of_mem hu
  · intro i x hx
    rcases Nat.lt_or_ge i out.length with hi | hi
    · rw [List.getElem?_append_left hi] at hx
      obtain ⟨v, hv, e, hy⟩ := h.topo i x hx
      exact ⟨v, hv, e, fun y hyy => by rw [List.take_append_of_le_length (by omega)]; exact hy y hyy⟩
    · rw [List.getElem?_append_right hi] at hx
      have hi0 : i = out.length := by
        rcases Nat.lt_or_ge out.length i with h' | h'
        · rw [List.getElem?_eq_none (by simp; omega)] at hx; cases hx
        · omega
      subst hi0
      simp at hx
      exact ⟨u, hu, hx, fun y hy => by rw [List.take_append_of_le_length (by omega), List.take_length]; exact h2 y hy⟩
theorem find_mem {l : List Un} {p : Un → Bool} {u : Un} (h : l.find? p = some u) : u ∈ l ∧ p u = true := ⟨List.mem_of_find?_eq_some h, List.find?_some h⟩
theorem ordF_inv {l : List Un} : ∀ (f : Nat) (out : List ByteArray), OrdInv l out → OrdInv l (ordF f l out)
  | 0, _, h => h
  | f + 1, out, h => by
    rw [ordF]
    cases hf : l.find? (Un.ready out) with
    | none => exact h
    | some u => exact ordF_inv f _ (h.snoc (find_mem hf).1 (find_mem hf).2)
theorem ordL_inv (l : List Un) : OrdInv l (ordL l) := ordF_inv _ _ (OrdInv.nil l)
theorem ordF_none {l : List Un} {out : List ByteArray} (f : Nat) (h : l.find? (Un.ready out) = none) : ordF f l out = out := by
  cases f with
  | zero => rfl
  | succ f => rw [ordF, h]
theorem full_none {l : List Un} {out : List ByteArray} (h : OrdInv l out) (hl : out.length = l.length) : l.find? (Un.ready out) = none := by
  cases hf : l.find? (Un.ready out) with
  | none => rfl
  | some u =>
    have := (h.snoc (find_mem hf).1 (find_mem hf).2).len
    simp at this; omega
theorem ordF_step {l : List Un} {out : List ByteArray} {u : Un} (h : l.find? (Un.ready out) = some u) (hi : OrdInv l out) : ordF (l.length - out.length) l out = ordF (l.length - (out ++ [u.name]).length) l (out ++ [u.name]) := by
  have h1 := (hi.snoc (find_mem h).1 (find_mem h).2).len
  obtain ⟨f, hf⟩ : ∃ f, l.length - out.length = f + 1 := ⟨l.length - out.length - 1, by simp at h1; omega⟩
  rw [hf, ordF, h]
  simp only
  rw [show l.length - (out ++ [u.name]).length = f by simp; omega]
theorem ordF_full {l : List Un} {out : List ByteArray} (h : OrdInv l out) (hl : out.length = l.length) : ordF (l.length - out.length) l out = out := ordF_none _ (full_none h hl)
/-! ### What a unit uses -/
def findU (l : List Un) (x : ByteArray) : Option Un := l.find? (fun u => decide (u.name = x))
def incsOf (l : List Un) (x : ByteArray) : List ByteArray := match findU l x with | none => [] | some u => u.incs
def Dist (l : List Un) : Prop := (l.map Un.name).Nodup
theorem findU_of : ∀ {l : List Un} {u : Un}, Dist l → u ∈ l → findU l u.name = some u
  | [], _, _, h => by simp at h
  | v :: l, u, hd, h => by
    rw [Dist, List.map_cons, List.nodup_cons] at hd
    rw [findU, List.find?_cons]
    by_cases e : v.name = u.name
    · rcases List.mem_cons.1 h with rfl | h
      · simp
      · exact absurd (e ▸ List.mem_map_of_mem h) hd.1
    · rw [decide_eq_false e]
      rcases List.mem_cons.1 h with rfl | h
      · exact absurd rfl e
      · exact findU_of hd.2 h
theorem findU_some {l : List Un} {x : ByteArray} {u : Un} (h : findU l x = some u) : u ∈ l ∧ u.name = x := by
  have := find_mem h
  exact ⟨this.1, by simpa using this.2⟩
theorem incs_topo {l : List Un} {R : List ByteArray} (hd : Dist l) (h : OrdInv l R) {i : Nat} {x : ByteArray} (hx : R[i]? = some x) : ∀ y ∈ incsOf l x, y ∈ R.take i := by
  obtain ⟨u, hu, e, hy⟩ := h.topo i x hx
  subst e
  rw [incsOf, findU_of hd hu]
  exact hy
theorem idx_some {R : List ByteArray} {x : ByteArray} (h : x ∈ R) : R[R.idxOf x]? = some x := by
  rw [List.getElem?_eq_getElem (List.idxOf_lt_length_of_mem h)]; simp
theorem idx_take {R : List ByteArray} {x : ByteArray} {i : Nat} (h : x ∈ R.take i) : x ∈ R ∧ R.idxOf x < i := by
  refine ⟨List.mem_of_mem_take h, ?_⟩
  have h1 := List.idxOf_lt_length_of_mem h
  have h2 : R.idxOf x = (R.take i).idxOf x := by
    conv => lhs; rw [← List.take_append_drop i R]
    rw [List.idxOf_append, if_pos h]
  rw [h2]; rw [List.length_take] at h1; omega
theorem incs_rank {l : List Un} {R : List ByteArray} (hd : Dist l) (h : OrdInv l R) {x y : ByteArray} (hx : x ∈ R) (hy : y ∈ incsOf l x) : y ∈ R ∧ R.idxOf y < R.idxOf x :=
  idx_take (incs_topo hd h (idx_some hx) y hy)
/-! ### Axioms in sight -/
theorem full_all {l : List Un} (h : (ordL l).length = l.length) : ∀ u ∈ l, u.name ∈ ordL l := by
  intro u hu
  rcases Classical.em (u.name ∈ ordL l) with h1 | h1
  · exact h1
  · have hi := ordL_inv l
    have := pigeon (u.name :: ordL l) (l.map Un.name) (List.nodup_cons.2 ⟨h1, hi.nd⟩) (by
      intro x hx
      rcases List.mem_cons.1 hx with rfl | hx
      · exact List.mem_map_of_mem hu
      · exact hi.sub x hx)
    simp at this; omega
def wordC (c : UInt8) : Bool := loC c || upC c || diC c || c == 95
structure PSt where
  pos : Nat
  bad : Bool
def pTake (L t : List UInt8) (p : PSt) : Bool := !p.bad && t.isPrefixOf (L.drop p.pos)
def pAdv (t : List UInt8) (p : PSt) : PSt := ⟨p.pos + t.length, p.bad⟩
def pMust (L t : List UInt8) (p : PSt) : PSt := if pTake L t p then pAdv t p else ⟨p.pos, true⟩
def pWordL (L : List UInt8) (p : PSt) : List UInt8 := (L.drop p.pos).takeWhile wordC
def pWord (L : List UInt8) (p : PSt) : List UInt8 × PSt :=
  if p.bad || (pWordL L p).isEmpty then ([], ⟨p.pos + (pWordL L p).length, true⟩) else (pWordL L p, ⟨p.pos + (pWordL L p).length, p.bad⟩)
mutual
def pTerm (L : List UInt8) : Nat → PSt → Tm × PSt
  | 0, p => (.mk ⟨#[]⟩ [], p)
  | f + 1, p =>
    if pTake L [40] (pWord L p).2 then
      (.mk ⟨(pWord L p).1.toArray⟩ ((pTerm L f (pAdv [40] (pWord L p).2)).1 :: (pArgs L [44] f (pTerm L f (pAdv [40] (pWord L p).2)).2).1), pMust L [41] (pArgs L [44] f (pTerm L f (pAdv [40] (pWord L p).2)).2).2)
    else (.mk ⟨(pWord L p).1.toArray⟩ [], (pWord L p).2)
def pArgs (L sep : List UInt8) : Nat → PSt → List Tm × PSt
  | 0, p => ([], p)
  | f + 1, p =>
    if pTake L sep p then ((pTerm L f (pAdv sep p)).1 :: (pArgs L sep f (pTerm L f (pAdv sep p)).2).1, (pArgs L sep f (pTerm L f (pAdv sep p)).2).2)
    else ([], p)
end
def eqTm (a b : Tm) : Tm := .mk ⟨#[61]⟩ [a, b]
def tm0 : Tm := .mk ⟨#[]⟩ []
def atomOfF (t : Tm) : Fm := .mk 3 t ⟨#[]⟩ []
def opF (op : Int) (ps : List Fm) : Fm := .mk op tm0 ⟨#[]⟩ ps
def quantF (op : Int) (v : List UInt8) (f : Fm) : Fm := .mk op tm0 ⟨v.toArray⟩ [f]
/-! ### What is written is read back -/
theorem isPrefixOf_app (t R : List UInt8) : t.isPrefixOf (t ++ R) = true := by
  induction t with
  | nil => simp
  | cons c t ih => simp [ih]
theorem pTake_yes {L t R : List UInt8} {k : Nat} (h : L.drop k = t ++ R) : pTake L t ⟨k, false⟩ = true := by simp [pTake, h, isPrefixOf_app]
theorem drop_adv {L t R : List UInt8} {k : Nat} (h : L.drop k = t ++ R) : L.drop (k + t.length) = R := by
  rw [← List.drop_drop, h, List.drop_left]
theorem pMust_yes {L t R : List UInt8} {k : Nat} (h : L.drop k = t ++ R) : pMust L t ⟨k, false⟩ = ⟨k + t.length, false⟩ := by rw [pMust, if_pos (pTake_yes h)]; rfl
def stopC (R : List UInt8) : Prop := ∀ c, R.head? = some c → wordC c = false ∧ c ≠ 40
theorem takeWhile_app {p : UInt8 → Bool} {n R : List UInt8} (h : n.all p = true) (hR : ∀ c, R.head? = some c → p c = false) : (n ++ R).takeWhile p = n := by
  induction n with
  | nil =>
    cases R with
    | nil => rfl
    | cons c R => rw [List.nil_append, List.takeWhile_cons_of_neg]; simp [hR c rfl]
  | cons x n ih =>
    simp only [List.all_cons, Bool.and_eq_true] at h
    rw [List.cons_append, List.takeWhile_cons_of_pos h.1, ih h.2]
theorem pWord_ok {L n R : List UInt8} {k : Nat} (h : L.drop k = n ++ R) (hn : n.all wordC = true) (h0 : n ≠ []) (hR : ∀ c, R.head? = some c → wordC c = false) : pWord L ⟨k, false⟩ = (n, ⟨k + n.length, false⟩) := by
  have e : pWordL L ⟨k, false⟩ = n := by rw [pWordL]; show (L.drop k).takeWhile wordC = n; rw [h, takeWhile_app hn hR]
  rw [pWord, e, if_neg (by simpa using h0)]
theorem headTail_all {p q r : UInt8 → Bool} {l : List UInt8} (h : headTail p q l = true) (hp : ∀ c, p c = true → r c = true) (hq : ∀ c, q c = true → r c = true) : l.all r = true := by
  cases l with
  | nil => rfl
  | cons c l =>
    simp only [headTail, Bool.and_eq_true, List.all_cons, List.all_eq_true] at h ⊢
    exact ⟨hp c h.1, fun x hx => hq x (h.2 x hx)⟩
theorem varB_word {l : List UInt8} (h : varB l = true) : l.all wordC = true ∧ l ≠ [] := by
  simp only [varB, Bool.and_eq_true, decide_eq_true_eq] at h
  refine ⟨headTail_all h.2 (fun c hc => by simp [wordC, hc]) (fun c hc => ?_), fun e => by rw [e] at h; simp at h⟩
  simp only [smC, Bool.or_eq_true] at hc
  rcases hc with hc | hc <;> simp [wordC, hc]
theorem symB_word {l : List UInt8} (h : symB l = true) : l.all wordC = true ∧ l ≠ [] := by
  simp only [symB, Bool.and_eq_true, decide_eq_true_eq] at h
  refine ⟨headTail_all h.1.2 (fun c hc => by simp [wordC, hc]) (fun c hc => ?_), fun e => by rw [e] at h; simp at h⟩
  simp only [unC, smC, Bool.or_eq_true] at hc
  rcases hc with (hc | hc) | hc
  · simp [wordC, hc]
  · simp [wordC, hc]
  · simp only [wordC, hc, Bool.or_true]
theorem Tm.nodes_mk {n : ByteArray} {us : List Tm} (h : (Tm.mk n us).nodes = true) : (n.data.toList.all wordC = true ∧ n.data.toList ≠ []) ∧ Tm.nodess us = true := by
  rw [Tm.nodes] at h
  split at h
  · rename_i hv
    cases us with
    | nil => exact ⟨varB_word hv, rfl⟩
    | cons a us => simp at h
  · simp only [Bool.and_eq_true] at h
    exact ⟨symB_word h.1.1, h.2⟩
theorem word_not61 {l : List UInt8} (h : l.all wordC = true ∧ l ≠ []) : l ≠ [61] := by
  rintro rfl; exact absurd h.1 (by decide)
theorem Tm.fmt_mk {n : ByteArray} {us : List Tm} (h : n.data.toList ≠ [61]) : (Tm.mk n us).fmt = if us.isEmpty then n.data.toList else n.data.toList ++ [40] ++ joinB [44] (Tm.fmtL us) ++ [41] := by
  cases us <;> simp only [Tm.fmt, if_neg h] <;> rfl
def sepAll (sep : List UInt8) : List Tm → List UInt8
  | [] => []
  | t :: us => sep ++ t.fmt ++ sepAll sep us
theorem joinB_cons (sep : List UInt8) (a : Tm) (us : List Tm) : joinB sep (Tm.fmtL (a :: us)) = a.fmt ++ sepAll sep us := by
  induction us generalizing a with
  | nil => simp [Tm.fmtL, joinB, sepAll]
  | cons b us ih =>
    have := ih b
    rw [Tm.fmtL] at this
    rw [Tm.fmtL, Tm.fmtL, joinB, this, sepAll]
    simp [List.append_assoc]
theorem stop_sep {sep R : List UInt8} {us : List Tm} (hs : stopC sep) (h0 : sep ≠ []) (hR : stopC R) : stopC (sepAll sep us ++ R) := by
  cases us with
  | nil => exact hR
  | cons a us =>
    intro c hc
    apply hs
    cases sep with
    | nil => exact absurd rfl h0
    | cons x s => simpa [sepAll] using hc
mutual
theorem pTerm_ok {L : List UInt8} : ∀ (f : Nat) (t : Tm) (k : Nat) (R : List UInt8), t.nodes = true → L.drop k = t.fmt ++ R → stopC R → t.fmt.length < f → pTerm L f ⟨k, false⟩ = (t, ⟨k + t.fmt.length, false⟩)
  | 0, _, _, _, _, _, _, h => absurd h (by omega)
  | f + 1, .mk n us, k, R, hn, hL, hR, hf => by
    have h1 := Tm.nodes_mk hn
    have hm := Tm.fmt_mk (us := us) (word_not61 h1.1)
    cases us with
    | nil =>
      rw [if_pos (by rfl)] at hm
      rw [hm] at hL ⊢
      have hw := pWord_ok hL h1.1.1 h1.1.2 (fun c hc => (hR c hc).1)
      rw [pTerm, hw]
      have hno : pTake L [40] ⟨k + n.data.toList.length, false⟩ = false := by
        have := drop_adv hL
        simp only [pTake, this]
        cases R with
        | nil => rfl
        | cons c R => simp [List.isPrefixOf, (hR c rfl).2.symm]
      rw [hno]; rfl
    | cons a us =>
      rw [if_neg (by simp), joinB_cons] at hm
      have h2 : a.nodes = true ∧ Tm.nodess us = true := by simpa [Tm.nodess] using h1.2
      have hlen : (Tm.mk n (a :: us)).fmt.length = n.data.toList.length + 1 + a.fmt.length + (sepAll [44] us).length + 1 := by rw [hm]; simp; omega
      have e0 : L.drop k = n.data.toList ++ ([40] ++ (a.fmt ++ (sepAll [44] us ++ ([41] ++ R)))) := by rw [hL, hm]; simp [List.append_assoc]
      have hw := pWord_ok e0 h1.1.1 h1.1.2 (fun c hc => by simp at hc; subst hc; decide)
      have e1 := drop_adv e0
      have e2 := drop_adv e1
      have e3 := drop_adv e2
      have e4 := drop_adv e3
      have s41 : stopC ([41] ++ R) := by intro c hc; simp at hc; subst hc; decide
      have s44 : stopC [44] := by intro c hc; simp at hc; subst hc; decide
      have ha := pTerm_ok f a _ _ h2.1 e2 (stop_sep s44 (by simp) s41) (by omega)
      have hb := pArgs_ok f [44] us _ ([41] ++ R) h2.2 e3 s44 (by simp) s41 (by simp [List.isPrefixOf]) (by omega)
      rw [pTerm, hw, if_pos (pTake_yes e1)]
      simp only [pAdv] at ha hb ⊢
      rw [ha, hb, pMust_yes e4, hlen]
      simp only [List.length_cons, List.length_nil]
      refine Prod.ext rfl ?_
      show PSt.mk _ _ = PSt.mk _ _
      congr 1
      omega
theorem pArgs_ok {L : List UInt8} : ∀ (f : Nat) (sep : List UInt8) (us : List Tm) (k : Nat) (R : List UInt8), Tm.nodess us = true → L.drop k = sepAll sep us ++ R → stopC sep → sep ≠ [] → stopC R → sep.isPrefixOf R = false → (sepAll sep us).length < f →
    pArgs L sep f ⟨k, false⟩ = (us, ⟨k + (sepAll sep us).length, false⟩)
  | 0, _, _, _, _, _, _, _, _, _, _, h => absurd h (by omega)
  | f + 1, sep, [], k, R, hn, hL, hs, h0, hR, hp, hf => by
    rw [pArgs]
    have : pTake L sep ⟨k, false⟩ = false := by simp only [pTake, hL]; simpa [sepAll] using hp
    rw [this]; rfl
  | f + 1, sep, a :: us, k, R, hn, hL, hs, h0, hR, hp, hf => by
    have h2 : a.nodes = true ∧ Tm.nodess us = true := by simpa [Tm.nodess] using hn
    have e0 : L.drop k = sep ++ (a.fmt ++ (sepAll sep us ++ R)) := by rw [hL, sepAll]; simp [List.append_assoc]
    have e1 := drop_adv e0
    have e2 := drop_adv e1
    have hl : 0 < sep.length := List.length_pos_iff.2 h0
    rw [sepAll] at hf ⊢
    simp only [List.length_append] at hf ⊢
    have ha := pTerm_ok f a _ _ h2.1 e1 (stop_sep hs h0 hR) (by omega)
    have hb := pArgs_ok f sep us _ R h2.2 e2 hs h0 hR hp (by omega)
    rw [pArgs, if_pos (pTake_yes e0)]
    simp only [pAdv] at ha hb ⊢
    rw [ha, hb]
    refine Prod.ext rfl ?_
    show PSt.mk _ _ = PSt.mk _ _
    congr 1
    omega
end
end Go.Proofs.YtkgfanajgdelcaaGreatDoor
