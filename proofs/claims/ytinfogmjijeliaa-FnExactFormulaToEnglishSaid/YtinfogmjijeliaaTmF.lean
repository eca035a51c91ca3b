/- Plain laws of names, terms and formulas: sizes, forms, texts; the program's way and the reference's. No conditions; no program is walked. -/
import Derived.Test.YtinfogmjijeliaaTree
namespace Go.Proofs.Ytinfogmjijeliaa
open Go.RowKit
def upC (c : UInt8) : Bool := decide (65 ≤ c.toNat) && decide (c.toNat ≤ 90)
def loC (c : UInt8) : Bool := decide (97 ≤ c.toNat) && decide (c.toNat ≤ 122)
def diC (c : UInt8) : Bool := decide (48 ≤ c.toNat) && decide (c.toNat ≤ 57)
def smC (c : UInt8) : Bool := loC c || diC c
def unC (c : UInt8) : Bool := smC c || c == 95
def headTail (p q : UInt8 → Bool) : List UInt8 → Bool
  | [] => true
  | c :: l => p c && l.all q
theorem headTail_snoc (p q : UInt8 → Bool) (l : List UInt8) (c : UInt8) : headTail p q (l ++ [c]) = (headTail p q l && (if l.isEmpty then p c else q c)) := by
  cases l with
  | nil => simp [headTail]
  | cons x l => simp [headTail, Bool.and_assoc]
def varB (l : List UInt8) : Bool := decide (1 ≤ l.length) && decide (l.length ≤ 4) && headTail upC smC l
def keyW : List (List UInt8) := [[116, 114, 117, 101], [102, 97, 108, 115, 101], [116, 114, 117, 116, 104], [98, 111, 116, 104], [101, 105, 116, 104, 101, 114], [105, 102], [97, 108, 108], [115, 111, 109, 101]]
def symB (l : List UInt8) : Bool := decide (1 ≤ l.length) && decide (l.length ≤ 6) && headTail loC unC l && !keyW.contains l
mutual
def Tm.sz : Tm → Nat | .mk _ us => 1 + Tm.szs us
def Tm.szs : List Tm → Nat | [] => 0 | a :: us => a.sz + Tm.szs us
end
mutual
def Tm.dp : Tm → Nat | .mk _ us => Tm.dps us + 1
def Tm.dps : List Tm → Nat | [] => 0 | a :: us => max a.dp (Tm.dps us)
end
mutual
def Tm.nodes : Tm → Bool | .mk n us => if varB n.data.toList then us.isEmpty else symB n.data.toList && decide (us.length ≤ 4) && Tm.nodess us
def Tm.nodess : List Tm → Bool | [] => true | a :: us => a.nodes && Tm.nodess us
end
mutual
def Tm.szI : Tm → Nat | .mk _ us => Tm.szIs 1 us
def Tm.szIs : Nat → List Tm → Nat | n, [] => n | n, a :: us => if 30 < n then n else Tm.szIs (n + a.szI) us
end
mutual
def Tm.many : Tm → Nat → Nat | .mk _ us, m => Tm.manys 1 us m
def Tm.manys : Nat → List Tm → Nat → Nat | n, [], _ => n | n, a :: us, m => if n ≤ m then Tm.manys (n + a.many (m - n)) us m else n
end
mutual
theorem Tm.szI_law : ∀ t : Tm, t.szI ≤ t.sz ∧ (t.szI ≤ 30 → t.szI = t.sz) ∧ 1 ≤ t.szI
  | .mk _ us => by have := Tm.szIs_law 1 us; rw [Tm.szI, Tm.sz]; omega
theorem Tm.szIs_law : ∀ (n : Nat) (us : List Tm), Tm.szIs n us ≤ n + Tm.szs us ∧ (Tm.szIs n us ≤ 30 → Tm.szIs n us = n + Tm.szs us) ∧ n ≤ Tm.szIs n us
  | n, [] => by simp [Tm.szIs, Tm.szs]
  | n, a :: us => by
    have h1 := Tm.szI_law a
    have h2 := Tm.szIs_law (n + a.szI) us
    rw [Tm.szIs, Tm.szs]
    split <;> omega
end
mutual
theorem Tm.many_law : ∀ (t : Tm) (m : Nat), t.many m ≤ t.sz ∧ (t.many m ≤ m → t.many m = t.sz) ∧ 1 ≤ t.many m
  | .mk _ us, m => by have := Tm.manys_law 1 us m; rw [Tm.many, Tm.sz]; omega
theorem Tm.manys_law : ∀ (n : Nat) (us : List Tm) (m : Nat), Tm.manys n us m ≤ n + Tm.szs us ∧ (Tm.manys n us m ≤ m → Tm.manys n us m = n + Tm.szs us) ∧ n ≤ Tm.manys n us m
  | n, [], m => by simp [Tm.manys, Tm.szs]
  | n, a :: us, m => by
    have h1 := Tm.many_law a (m - n)
    have h2 := Tm.manys_law (n + a.many (m - n)) us m
    rw [Tm.manys, Tm.szs]
    split <;> omega
end
mutual
theorem Tm.dp_le : ∀ t : Tm, t.dp ≤ t.sz
  | .mk _ us => by have := Tm.dps_le us; rw [Tm.dp, Tm.sz]; omega
theorem Tm.dps_le : ∀ us : List Tm, Tm.dps us ≤ Tm.szs us
  | [] => by simp [Tm.dps, Tm.szs]
  | a :: us => by have := Tm.dp_le a; have := Tm.dps_le us; rw [Tm.dps, Tm.szs]; omega
end
theorem Tm.szI_iff (t : Tm) : decide (t.szI ≤ 30) = decide (t.sz ≤ 30) := by rw [decide_eq_decide]; have := t.szI_law; omega
theorem Tm.many_iff (t : Tm) : decide (t.many 30 ≤ 30) = decide (t.sz ≤ 30) := by rw [decide_eq_decide]; have := t.many_law 30; omega
def Tm.small (t : Tm) : Bool := decide (t.sz ≤ 30) && decide (t.dp ≤ 8)
def Tm.good (t : Tm) : Bool := t.small && t.nodes
def isEq (n : ByteArray) : Bool := n.data.toList == [61]
def Tm.atom (t : Tm) : Bool :=
  if isEq t.n then decide (t.us.length = 2) && t.small && Tm.nodess t.us else symB t.n.data.toList && t.good
mutual
def Fm.sz : Fm → Nat | .mk _ _ _ ps => 1 + Fm.szs ps
def Fm.szs : List Fm → Nat | [] => 0 | a :: us => a.sz + Fm.szs us
end
mutual
def Fm.szI : Fm → Nat | .mk _ _ _ ps => Fm.szIs 1 ps
def Fm.szIs : Nat → List Fm → Nat | n, [] => n | n, a :: us => if 40 < n then n else Fm.szIs (n + a.szI) us
end
mutual
def Fm.many : Fm → Nat → Nat | .mk _ _ _ ps, m => Fm.manys 1 ps m
def Fm.manys : Nat → List Fm → Nat → Nat | n, [], _ => n | n, a :: us, m => if n ≤ m then Fm.manys (n + a.many (m - n)) us m else n
end
mutual
theorem Fm.szI_law : ∀ t : Fm, t.szI ≤ t.sz ∧ (t.szI ≤ 40 → t.szI = t.sz) ∧ 1 ≤ t.szI
  | .mk _ _ _ us => by have := Fm.szIs_law 1 us; rw [Fm.szI, Fm.sz]; omega
theorem Fm.szIs_law : ∀ (n : Nat) (us : List Fm), Fm.szIs n us ≤ n + Fm.szs us ∧ (Fm.szIs n us ≤ 40 → Fm.szIs n us = n + Fm.szs us) ∧ n ≤ Fm.szIs n us
  | n, [] => by simp [Fm.szIs, Fm.szs]
  | n, a :: us => by
    have h1 := Fm.szI_law a
    have h2 := Fm.szIs_law (n + a.szI) us
    rw [Fm.szIs, Fm.szs]
    split <;> omega
end
mutual
theorem Fm.many_law : ∀ (t : Fm) (m : Nat), t.many m ≤ t.sz ∧ (t.many m ≤ m → t.many m = t.sz) ∧ 1 ≤ t.many m
  | .mk _ _ _ us, m => by have := Fm.manys_law 1 us m; rw [Fm.many, Fm.sz]; omega
theorem Fm.manys_law : ∀ (n : Nat) (us : List Fm) (m : Nat), Fm.manys n us m ≤ n + Fm.szs us ∧ (Fm.manys n us m ≤ m → Fm.manys n us m = n + Fm.szs us) ∧ n ≤ Fm.manys n us m
  | n, [], m => by simp [Fm.manys, Fm.szs]
  | n, a :: us, m => by
    have h1 := Fm.many_law a (m - n)
    have h2 := Fm.manys_law (n + a.many (m - n)) us m
    rw [Fm.manys, Fm.szs]
    split <;> omega
end
theorem Fm.szI_iff (t : Fm) : decide (t.szI ≤ 40) = decide (t.sz ≤ 40) := by rw [decide_eq_decide]; have := t.szI_law; omega
theorem Fm.many_iff (t : Fm) : decide (t.many 40 ≤ 40) = decide (t.sz ≤ 40) := by rw [decide_eq_decide]; have := t.many_law 40; omega
def Tm.none (t : Tm) : Bool := t.n.data.toList.isEmpty && t.us.isEmpty
/-- How many parts an operator has; none if it is no operator. -/
def arity (op : Int) : Option Nat := if op = 1 ∨ op = 2 ∨ op = 3 then some 0 else if op = 4 ∨ op = 8 ∨ op = 9 then some 1 else if op = 5 ∨ op = 6 ∨ op = 7 then some 2 else none
def isQ (op : Int) : Bool := op == 8 || op == 9
def Fm.form1 (f : Fm) : Bool :=
  (arity f.op == some f.ps.length) && (if isQ f.op then varB f.v.data.toList else f.v.data.toList.isEmpty) && (if f.op = 3 then f.a.atom else f.a.none)
mutual
def Fm.form : Fm → Bool | .mk op a v ps => Fm.form1 (.mk op a v ps) && Fm.forms ps
def Fm.forms : List Fm → Bool | [] => true | f :: fs => f.form && Fm.forms fs
end
def Fm.good (f : Fm) : Bool := decide (f.sz ≤ 40) && f.form
/-! ### Texts -/
def joinB (sep : List UInt8) : List (List UInt8) → List UInt8
  | [] => []
  | [a] => a
  | a :: b :: l => a ++ sep ++ joinB sep (b :: l)
mutual
def Tm.fmt : Tm → List UInt8
  | .mk n us => if n.data.toList = [61] then (match Tm.fmtL us with | a :: b :: _ => a ++ [32, 61, 32] ++ b | _ => []) else match us with | [] => n.data.toList | _ :: _ => n.data.toList ++ [40] ++ joinB [44] (Tm.fmtL us) ++ [41]
def Tm.fmtL : List Tm → List (List UInt8)
  | [] => []
  | a :: us => a.fmt :: Tm.fmtL us
end
end Go.Proofs.Ytinfogmjijeliaa
