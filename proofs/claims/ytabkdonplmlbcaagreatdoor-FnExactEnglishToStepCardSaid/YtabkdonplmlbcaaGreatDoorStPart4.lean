import Derived.Test.YtabkdonplmlbcaaGreatDoorStPart3
namespace Go.Proofs.YtabkdonplmlbcaaGreatDoor
set_option maxRecDepth 100000
open Go.RowKit
def FmOwn (eT eF : TypeId) : Nat → (Nat → Prop) → World → Fm → List Value → Prop
 | 0, _, _, _, _ => False
 | n + 1, S, w, .mk op a x ps, cs => ∃ (vn va vp : Value) (Sa Sp : Nat → Prop), cs = [.int .i64 op, vn, va, .string x, vp] ∧ (-9223372036854775808 ≤ op ∧ op ≤ 9223372036854775807) ∧ x.size ≤ maxLen ∧ TmOwn eT n Sa w a [vn, va] ∧
   OwnRow Sp w eF 5 (fun T f c => FmOwn eT eF n T w f c) vp ps ∧ (∀ b, Sa b → S b ∧ ¬ Sp b) ∧ ∀ b, Sp b → S b
theorem FmOwn.mono {eT eF : TypeId} : ∀ (n m : Nat) {S S' : Nat → Prop} {w w' : World} (t : Fm) (cs : List Value), n ≤ m → SameOn S w w' → (∀ b, S b → S' b) → FmOwn eT eF n S w t cs → FmOwn eT eF m S' w' t cs
 | 0, _, _, _, _, _, _, _, _, _, _, h => h.elim
 | n + 1, 0, _, _, _, _, _, _, hm, _, _, _ => by omega
 | n + 1, m + 1, S, S', w, w', .mk op a x ps, cs, hm, hs, hS, h => by
  obtain ⟨vn, va, vp, Sa, Sp, h1, h2, h3, h4, h5, h6, h7⟩ := h
  exact ⟨vn, va, vp, Sa, Sp, h1, h2, h3, TmOwn.mono n m a _ (by omega) (fun b hb hlt => hs b (h6 b hb).1 hlt) (fun _ h => h) h4,
   h5.mono (fun b hb hlt => hs b (h7 b hb) hlt) (fun _ h => h) (fun T y c _ hT hy => FmOwn.mono n m y c (by omega) (fun b hb hlt => hs b (h7 b (hT b hb)) hlt) (fun _ h => h) hy), fun b hb => ⟨hS b (h6 b hb).1, (h6 b hb).2⟩, fun b hb => hS b (h7 b hb)⟩
theorem FmOwn.at_ {eT eF : TypeId} : ∀ (n : Nat) {S : Nat → Prop} {w : World} (t : Fm) (cs : List Value), FmOwn eT eF n S w t cs → FmAt S n w t cs
 | 0, _, _, _, _, h => h.elim
 | n + 1, S, w, .mk op a x ps, cs, h => by
  obtain ⟨vn, va, vp, Sa, Sp, h1, h2, h3, h4, h5, h6, h7⟩ := h
  exact ⟨vn, va, vp, h1, h2, h3, TmAt.mono (SameOn.refl _ _) (fun b hb => (h6 b hb).1) n n a _ (Nat.le_refl _) (TmOwn.at_ n a _ h4),
   ListAt.mono (h5.listAt (R' := FmAt S n w) (by omega) fun T y c _ hT hy => FmAt.mono (SameOn.refl _ _) (fun b hb => h7 b (hT b hb)) n n y c (Nat.le_refl _) (FmOwn.at_ n y c hy)) (SameOn.refl _ _) h7 (fun _ _ _ h => h)⟩
theorem FmOwn.form {eT eF : TypeId} {n : Nat} {S : Nat → Prop} {w : World} {t : Fm} {v0 v1 v2 v3 v4 : Value} (h : FmOwn eT eF n S w t [v0, v1, v2, v3, v4]) : ∃ p c q d, v0 = .int .i64 t.op ∧ v1 = .string t.a.n ∧ v2 = .slice p t.a.us.length c ∧ v3 = .string t.v ∧ v4 = .slice q t.ps.length d ∧ (-9223372036854775808 ≤ t.op ∧ t.op ≤ 9223372036854775807) ∧ t.a.n.size ≤ maxLen ∧ t.a.us.length ≤ maxLen ∧ t.v.size ≤ maxLen ∧ t.ps.length ≤ maxLen := (FmOwn.at_ n t _ h).form
theorem row_new (w : World) (e : TypeId) (size n : Nat) (cur : Array Value) (hc : cur.size = n * size) (hn : n ≤ maxLen) : (w.alloc (.cells cur e)).ownsRow 0 e size (.slice (some ⟨w.heap.size, 0, none⟩) n n) n cur.toList :=
 ⟨by simpa using hc, .inr ⟨w.heap.size, n, cur, rfl, Nat.zero_le _, heap_alloc_new w _, Nat.le_refl _, hn, hc, by rw [List.take_of_length_le]; simp; omega⟩⟩
theorem OwnRow.one {α : Type} {S S' : Nat → Prop} {w : World} {e : TypeId} {size : Nat} {R : (Nat → Prop) → α → List Value → Prop} {x : α} (cs : Array Value) (hc : cs.size = size) (hR : R S x cs.toList) (hS : ∀ b, S b → b < w.heap.size) (h1 : ∀ b, S b → S' b) (h2 : S' w.heap.size) :
  OwnRow S' (w.alloc (.cells cs e)) e size R (.slice (some ⟨w.heap.size, 0, none⟩) 1 1) [x] := by
 refine ⟨by simp [maxLen], cs.toList, fun _ => S, row_new w e size 1 cs (by omega) (by simp [maxLen]), fun g hg => ?_, fun i y hy => ?_, fun i j b hi hj hij => ?_⟩
 ·have : w.heap.size = g := by simpa [Value.ownBlock] using hg
  rw [← this]; exact h2
 ·have hi : i < 1 := by have := (List.getElem?_eq_some_iff.1 hy).1; simpa using this
  obtain rfl : i = 0 := by omega
  obtain rfl : x = y := by simpa using hy
  rw [Nat.zero_mul, List.drop_zero, List.take_of_length_le (by simp; omega)]
  exact ⟨hR, fun b hb => ⟨h1 b hb, fun hv => by have : w.heap.size = b := by simpa [Value.ownBlock] using hv
                                                have := hS b hb; omega⟩⟩
 ·simp at hi hj; omega
theorem OwnRow.two {α : Type} {S T S' : Nat → Prop} {w : World} {e : TypeId} {size : Nat} {R : (Nat → Prop) → α → List Value → Prop} {x y : α} (cs ds : List Value) (hc : cs.length = size) (hd : ds.length = size) (hR : R S x cs) (hR2 : R T y ds) (hS : ∀ b, S b → b < w.heap.size) (hT : ∀ b, T b → b < w.heap.size) (hST : ∀ b, S b → ¬ T b)
  (h1 : ∀ b, S b → S' b) (h3 : ∀ b, T b → S' b) (h2 : S' w.heap.size) : OwnRow S' (w.alloc (.cells (cs ++ ds).toArray e)) e size R (.slice (some ⟨w.heap.size, 0, none⟩) 2 2) [x, y] := by
 refine ⟨by simp [maxLen], cs ++ ds, fun i => if i = 0 then S else T, by simpa using row_new w e size 2 (cs ++ ds).toArray (by simp; omega) (by simp [maxLen]), fun g hg => ?_, fun i z hz => ?_, fun i j b hi hj hij hb => ?_⟩
 ·have : w.heap.size = g := by simpa [Value.ownBlock] using hg
  rw [← this]; exact h2
 ·have hi : i < 2 := by have := (List.getElem?_eq_some_iff.1 hz).1; simpa using this
  match i, hi with
  | 0, _ =>
   obtain rfl : x = z := by simpa using hz
   rw [Nat.zero_mul, List.drop_zero, List.take_append_of_le_length (by omega), List.take_of_length_le (by omega)]
   exact ⟨hR, fun b hb => ⟨h1 b hb, fun hv => by
    have e1 : w.heap.size = b := by simpa [Value.ownBlock] using hv
    have := hS b hb; omega⟩⟩
  | 1, _ =>
   obtain rfl : y = z := by simpa using hz
   rw [Nat.one_mul, List.drop_left' hc, List.take_of_length_le (by omega)]
   exact ⟨hR2, fun b hb => ⟨h3 b hb, fun hv => by
    have e1 : w.heap.size = b := by simpa [Value.ownBlock] using hv
    have := hT b hb; omega⟩⟩
 ·simp only [List.length_cons, List.length_nil] at hi hj
  change (if i = 0 then S else T) b at hb
  show ¬ (if j = 0 then S else T) b
  match i, j, hij with
  | 0, 1, _ => exact hST b hb
  | 1, 0, _ => exact fun h => hST b h hb
  | 0, 0, h => exact absurd rfl h
  | 1, 1, h => exact absurd rfl h
  | i + 2, _, _ => omega
  | _, j + 2, _ => omega
theorem OwnRow.one' {α : Type} {S S' : Nat → Prop} {w : World} {e : TypeId} {size k : Nat} {R : (Nat → Prop) → α → List Value → Prop} {x : α} (hk : w.heap.size = k) (cs : Array Value) (hc : cs.size = size) (hR : R S x cs.toList) (hS : ∀ b, S b → b < k) (h1 : ∀ b, S b → S' b) (h2 : S' k) :
  OwnRow S' (w.alloc (.cells cs e)) e size R (.slice (some ⟨k, 0, none⟩) 1 1) [x] := by subst hk; exact OwnRow.one cs hc hR hS h1 h2
theorem OwnRow.two' {α : Type} {S T S' : Nat → Prop} {w : World} {e : TypeId} {size k : Nat} {R : (Nat → Prop) → α → List Value → Prop} {x y : α} (hk : w.heap.size = k) (cs ds : List Value) (all : Array Value) (hall : all = (cs ++ ds).toArray) (hc : cs.length = size) (hd : ds.length = size) (hR : R S x cs) (hR2 : R T y ds) (hS : ∀ b, S b → b < k) (hT : ∀ b, T b → b < k) (hST : ∀ b, S b → ¬ T b)
  (h1 : ∀ b, S b → S' b) (h3 : ∀ b, T b → S' b) (h2 : S' k) : OwnRow S' (w.alloc (.cells all e)) e size R (.slice (some ⟨k, 0, none⟩) 2 2) [x, y] := by subst hk hall; exact OwnRow.two cs ds hc hd hR hR2 hS hT hST h1 h3 h2
theorem FmOwn.later {eT eF : TypeId} {n : Nat} {S : Nat → Prop} {w w' : World} {t : Fm} {cs : List Value} (hb : Below w.heap.size w w') (h : FmOwn eT eF n S w t cs) : FmOwn eT eF n S w' t cs := FmOwn.mono n n t cs (Nat.le_refl _) (SameOn.below hb) (fun _ h => h) h
def upC (c : UInt8) : Bool := decide (65 ≤ c.toNat) && decide (c.toNat ≤ 90)
def loC (c : UInt8) : Bool := decide (97 ≤ c.toNat) && decide (c.toNat ≤ 122)
def diC (c : UInt8) : Bool := decide (48 ≤ c.toNat) && decide (c.toNat ≤ 57)
def smC (c : UInt8) : Bool := loC c || diC c
def unC (c : UInt8) : Bool := smC c || c == 95
def headTail (p q : UInt8 → Bool) : List UInt8 → Bool
 | [] => true
 | c :: l => p c && l.all q
theorem headTail_snoc (p q : UInt8 → Bool) (l : List UInt8) (c : UInt8) : headTail p q (l ++ [c]) = (headTail p q l && (if l.isEmpty then p c else q c)) := by
 cases l with
 | nil => simp [headTail]
 | cons x l => simp [headTail, Bool.and_assoc]
def varB (l : List UInt8) : Bool := decide (1 ≤ l.length) && decide (l.length ≤ 4) && headTail upC smC l
def keyW : List (List UInt8) := [[116, 114, 117, 101], [102, 97, 108, 115, 101], [116, 114, 117, 116, 104], [98, 111, 116, 104], [101, 105, 116, 104, 101, 114], [105, 102], [97, 108, 108], [115, 111, 109, 101]]
def symB (l : List UInt8) : Bool := decide (1 ≤ l.length) && decide (l.length ≤ 6) && headTail loC unC l && !keyW.contains l
mutual
def Tm.sz : Tm → Nat | .mk _ us => 1 + Tm.szs us
def Tm.szs : List Tm → Nat | [] => 0 | a :: us => a.sz + Tm.szs us
end
mutual
def Tm.dp : Tm → Nat | .mk _ us => Tm.dps us + 1
def Tm.dps : List Tm → Nat | [] => 0 | a :: us => max a.dp (Tm.dps us)
end
mutual
def Tm.nodes : Tm → Bool | .mk n us => if varB n.data.toList then us.isEmpty else symB n.data.toList && decide (us.length ≤ 4) && Tm.nodess us
def Tm.nodess : List Tm → Bool | [] => true | a :: us => a.nodes && Tm.nodess us
end
mutual
def Tm.szI : Tm → Nat | .mk _ us => Tm.szIs 1 us
def Tm.szIs : Nat → List Tm → Nat | n, [] => n | n, a :: us => if 30 < n then n else Tm.szIs (n + a.szI) us
end
mutual
def Tm.many : Tm → Nat → Nat | .mk _ us, m => Tm.manys 1 us m
def Tm.manys : Nat → List Tm → Nat → Nat | n, [], _ => n | n, a :: us, m => if n ≤ m then Tm.manys (n + a.many (m - n)) us m else n
end
mutual
theorem Tm.szI_law : ∀ t : Tm, t.szI ≤ t.sz ∧ (t.szI ≤ 30 → t.szI = t.sz) ∧ 1 ≤ t.szI
 | .mk _ us => by have := Tm.szIs_law 1 us; rw [Tm.szI, Tm.sz]; omega
theorem Tm.szIs_law : ∀ (n : Nat) (us : List Tm), Tm.szIs n us ≤ n + Tm.szs us ∧ (Tm.szIs n us ≤ 30 → Tm.szIs n us = n + Tm.szs us) ∧ n ≤ Tm.szIs n us
 | n, [] => by simp [Tm.szIs, Tm.szs]
 | n, a :: us => by
  have h1 := Tm.szI_law a
  have h2 := Tm.szIs_law (n + a.szI) us
  rw [Tm.szIs, Tm.szs]
  split <;> omega
end
mutual
theorem Tm.many_law : ∀ (t : Tm) (m : Nat), t.many m ≤ t.sz ∧ (t.many m ≤ m → t.many m = t.sz) ∧ 1 ≤ t.many m
 | .mk _ us, m => by have := Tm.manys_law 1 us m; rw [Tm.many, Tm.sz]; omega
theorem Tm.manys_law : ∀ (n : Nat) (us : List Tm) (m : Nat), Tm.manys n us m ≤ n + Tm.szs us ∧ (Tm.manys n us m ≤ m → Tm.manys n us m = n + Tm.szs us) ∧ n ≤ Tm.manys n us m
 | n, [], m => by simp [Tm.manys, Tm.szs]
 | n, a :: us, m => by
  have h1 := Tm.many_law a (m - n)
  have h2 := Tm.manys_law (n + a.many (m - n)) us m
  rw [Tm.manys, Tm.szs]
  split <;> omega
end
mutual
theorem Tm.dp_le : ∀ t : Tm, t.dp ≤ t.sz
 | .mk _ us => by have := Tm.dps_le us; rw [Tm.dp, Tm.sz]; omega
theorem Tm.dps_le : ∀ us : List Tm, Tm.dps us ≤ Tm.szs us
 | [] => by simp [Tm.dps, Tm.szs]
 | a :: us => by have := Tm.dp_le a; have := Tm.dps_le us; rw [Tm.dps, Tm.szs]; omega
end
theorem Tm.szI_iff (t : Tm) : decide (t.szI ≤ 30) = decide (t.sz ≤ 30) := by rw [decide_eq_decide]; have := t.szI_law; omega
theorem Tm.many_iff (t : Tm) : decide (t.many 30 ≤ 30) = decide (t.sz ≤ 30) := by rw [decide_eq_decide]; have := t.many_law 30; omega
def Tm.small (t : Tm) : Bool := decide (t.sz ≤ 30) && decide (t.dp ≤ 8)
def Tm.good (t : Tm) : Bool := t.small && t.nodes
def isEq (n : ByteArray) : Bool := n.data.toList == [61]
def Tm.atom (t : Tm) : Bool :=
 if isEq t.n then decide (t.us.length = 2) && t.small && Tm.nodess t.us else symB t.n.data.toList && t.good
mutual
def Fm.sz : Fm → Nat | .mk _ _ _ ps => 1 + Fm.szs ps
def Fm.szs : List Fm → Nat | [] => 0 | a :: us => a.sz + Fm.szs us
end
mutual
def Fm.szI : Fm → Nat | .mk _ _ _ ps => Fm.szIs 1 ps
def Fm.szIs : Nat → List Fm → Nat | n, [] => n | n, a :: us => if 40 < n then n else Fm.szIs (n + a.szI) us
end
mutual
theorem Fm.szI_law : ∀ t : Fm, t.szI ≤ t.sz ∧ (t.szI ≤ 40 → t.szI = t.sz) ∧ 1 ≤ t.szI
 | .mk _ _ _ us => by have := Fm.szIs_law 1 us; rw [Fm.szI, Fm.sz]; omega
theorem Fm.szIs_law : ∀ (n : Nat) (us : List Fm), Fm.szIs n us ≤ n + Fm.szs us ∧ (Fm.szIs n us ≤ 40 → Fm.szIs n us = n + Fm.szs us) ∧ n ≤ Fm.szIs n us
 | n, [] => by simp [Fm.szIs, Fm.szs]
 | n, a :: us => by
  have h1 := Fm.szI_law a
  have h2 := Fm.szIs_law (n + a.szI) us
  rw [Fm.szIs, Fm.szs]
  split <;> omega
end
theorem Fm.szI_iff (t : Fm) : decide (t.szI ≤ 40) = decide (t.sz ≤ 40) := by rw [decide_eq_decide]; have := t.szI_law; omega
def Tm.none (t : Tm) : Bool := t.n.data.toList.isEmpty && t.us.isEmpty
def arity (op : Int) : Option Nat := if op = 1 ∨ op = 2 ∨ op = 3 then some 0 else if op = 4 ∨ op = 8 ∨ op = 9 then some 1 else if op = 5 ∨ op = 6 ∨ op = 7 then some 2 else none
def isQ (op : Int) : Bool := op == 8 || op == 9
def Fm.form1 (f : Fm) : Bool :=
 (arity f.op == some f.ps.length) && (if isQ f.op then varB f.v.data.toList else f.v.data.toList.isEmpty) && (if f.op = 3 then f.a.atom else f.a.none)
mutual
def Fm.form : Fm → Bool | .mk op a v ps => Fm.form1 (.mk op a v ps) && Fm.forms ps
def Fm.forms : List Fm → Bool | [] => true | f :: fs => f.form && Fm.forms fs
end
def Fm.good (f : Fm) : Bool := decide (f.sz ≤ 40) && f.form
def joinB (sep : List UInt8) : List (List UInt8) → List UInt8
 | [] => []
 | [a] => a
 | a :: b :: l => a ++ sep ++ joinB sep (b :: l)
mutual
def Tm.fmt : Tm → List UInt8
 | .mk n us => if n.data.toList = [61] then (match Tm.fmtL us with | a :: b :: _ => a ++ [32, 61, 32] ++ b | _ => []) else match us with | [] => n.data.toList | _ :: _ => n.data.toList ++ [40] ++ joinB [44] (Tm.fmtL us) ++ [41]
def Tm.fmtL : List Tm → List (List UInt8)
 | [] => []
 | a :: us => a.fmt :: Tm.fmtL us
end
def sEquals : List UInt8 := [32, 101, 113, 117, 97, 108, 115, 32]
def sHolds : List UInt8 := [32, 104, 111, 108, 100, 115]
def sHoldsOf : List UInt8 := [32, 104, 111, 108, 100, 115, 32, 111, 102, 32]
def sComma : List UInt8 := [44, 32]
def sTruth : List UInt8 := [116, 114, 117, 116, 104, 32, 104, 111, 108, 100, 115]
def sFalsity : List UInt8 := [102, 97, 108, 115, 105, 116, 121, 32, 104, 111, 108, 100, 115]
def sNot : List UInt8 := [105, 116, 32, 105, 115, 32, 110, 111, 116, 32, 116, 104, 101, 32, 99, 97, 115, 101, 32, 116, 104, 97, 116, 32]
def sBoth : List UInt8 := [98, 111, 116, 104, 32]
def sAnd : List UInt8 := [32, 97, 110, 100, 32]
def sEither : List UInt8 := [101, 105, 116, 104, 101, 114, 32]
def sOr : List UInt8 := [32, 111, 114, 32]
def sIf : List UInt8 := [105, 102, 32]
def sThen : List UInt8 := [32, 116, 104, 101, 110, 32]
def sEvery : List UInt8 := [102, 111, 114, 32, 101, 118, 101, 114, 121, 32]
def sThere : List UInt8 := [116, 104, 101, 114, 101, 32, 105, 115, 32]
def sSuch : List UInt8 := [32, 115, 117, 99, 104, 32, 116, 104, 97, 116, 32]
def Tm.eng (t : Tm) : List UInt8 :=
 if t.n.data.toList = [61] then (match Tm.fmtL t.us with | a :: b :: _ => a ++ sEquals ++ b | _ => [])
 else if t.us.isEmpty then t.n.data.toList ++ sHolds
 else t.n.data.toList ++ sHoldsOf ++ joinB sComma (Tm.fmtL t.us)
mutual
def Fm.eng : Fm → List UInt8
 | .mk op a v ps =>
  if op = 1 then sTruth else if op = 2 then sFalsity else if op = 3 then a.eng
  else if op = 4 then sNot ++ Fm.engN 0 ps
  else if op = 5 then sBoth ++ Fm.engN 0 ps ++ sAnd ++ Fm.engN 1 ps
  else if op = 6 then sEither ++ Fm.engN 0 ps ++ sOr ++ Fm.engN 1 ps
  else if op = 7 then sIf ++ Fm.engN 0 ps ++ sThen ++ Fm.engN 1 ps
  else if op = 8 then sEvery ++ v.data.toList ++ sComma ++ Fm.engN 0 ps
  else sThere ++ v.data.toList ++ sSuch ++ Fm.engN 0 ps
def Fm.engN : Nat → List Fm → List UInt8
 | _, [] => []
 | 0, f :: _ => f.eng
 | n + 1, _ :: fs => Fm.engN n fs
end
def wordC (c : UInt8) : Bool := loC c || upC c || diC c || c == 95
structure PSt where
 pos : Nat
 bad : Bool
def pTake (L t : List UInt8) (p : PSt) : Bool := !p.bad && t.isPrefixOf (L.drop p.pos)
def pAdv (t : List UInt8) (p : PSt) : PSt := ⟨p.pos + t.length, p.bad⟩
def pMust (L t : List UInt8) (p : PSt) : PSt := if pTake L t p then pAdv t p else ⟨p.pos, true⟩
def pWordL (L : List UInt8) (p : PSt) : List UInt8 := (L.drop p.pos).takeWhile wordC
def pWord (L : List UInt8) (p : PSt) : List UInt8 × PSt :=
 if p.bad || (pWordL L p).isEmpty then ([], ⟨p.pos + (pWordL L p).length, true⟩) else (pWordL L p, ⟨p.pos + (pWordL L p).length, p.bad⟩)
mutual
def pTerm (L : List UInt8) : Nat → PSt → Tm × PSt
 | 0, p => (.mk ⟨#[]⟩ [], p)
 | f + 1, p =>
  if pTake L [40] (pWord L p).2 then
   (.mk ⟨(pWord L p).1.toArray⟩ ((pTerm L f (pAdv [40] (pWord L p).2)).1 :: (pArgs L [44] f (pTerm L f (pAdv [40] (pWord L p).2)).2).1), pMust L [41] (pArgs L [44] f (pTerm L f (pAdv [40] (pWord L p).2)).2).2)
  else (.mk ⟨(pWord L p).1.toArray⟩ [], (pWord L p).2)
def pArgs (L sep : List UInt8) : Nat → PSt → List Tm × PSt
 | 0, p => ([], p)
 | f + 1, p =>
  if pTake L sep p then ((pTerm L f (pAdv sep p)).1 :: (pArgs L sep f (pTerm L f (pAdv sep p)).2).1, (pArgs L sep f (pTerm L f (pAdv sep p)).2).2)
  else ([], p)
end
def eqTm (a b : Tm) : Tm := .mk ⟨#[61]⟩ [a, b]
def tm0 : Tm := .mk ⟨#[]⟩ []
def atomOfF (t : Tm) : Fm := .mk 3 t ⟨#[]⟩ []
def opF (op : Int) (ps : List Fm) : Fm := .mk op tm0 ⟨#[]⟩ ps
def quantF (op : Int) (v : List UInt8) (f : Fm) : Fm := .mk op tm0 ⟨v.toArray⟩ [f]
def pAtom (L : List UInt8) (f : Nat) (p : PSt) : Fm × PSt :=
 if pTake L sEquals (pTerm L f p).2 then
  (atomOfF (eqTm (pTerm L f p).1 (pTerm L f (pAdv sEquals (pTerm L f p).2)).1), (pTerm L f (pAdv sEquals (pTerm L f p).2)).2)
 else if pTake L sHoldsOf (pTerm L f p).2 then
  (atomOfF (.mk (pTerm L f p).1.n ((pTerm L f (pAdv sHoldsOf (pTerm L f p).2)).1 :: (pArgs L sComma f (pTerm L f (pAdv sHoldsOf (pTerm L f p).2)).2).1)), (pArgs L sComma f (pTerm L f (pAdv sHoldsOf (pTerm L f p).2)).2).2)
 else (atomOfF (pTerm L f p).1, pMust L sHolds (pTerm L f p).2)
def pEng (L : List UInt8) : Nat → PSt → Fm × PSt
 | 0, p => (opF 0 [], p)
 | f + 1, p =>
  let pair := fun (op : Int) (word : List UInt8) (q : PSt) => (opF op [(pEng L f q).1, (pEng L f (pMust L word (pEng L f q).2)).1], (pEng L f (pMust L word (pEng L f q).2)).2)
  let bound := fun (op : Int) (word : List UInt8) (q : PSt) => (quantF op (pWord L q).1 (pEng L f (pMust L word (pWord L q).2)).1, (pEng L f (pMust L word (pWord L q).2)).2)
  if pTake L sTruth p then (opF 1 [], pAdv sTruth p)
  else if pTake L sFalsity p then (opF 2 [], pAdv sFalsity p)
  else if pTake L sNot p then (opF 4 [(pEng L f (pAdv sNot p)).1], (pEng L f (pAdv sNot p)).2)
  else if pTake L sBoth p then pair 5 sAnd (pAdv sBoth p)
  else if pTake L sEither p then pair 6 sOr (pAdv sEither p)
  else if pTake L sIf p then pair 7 sThen (pAdv sIf p)
  else if pTake L sEvery p then bound 8 sComma (pAdv sEvery p)
  else if pTake L sThere p then bound 9 sSuch (pAdv sThere p)
  else pAtom L f p
theorem isPrefixOf_app (t R : List UInt8) : t.isPrefixOf (t ++ R) = true := by
 induction t with
 | nil => simp
 | cons c t ih => simp [ih]
theorem pTake_yes {L t R : List UInt8} {k : Nat} (h : L.drop k = t ++ R) : pTake L t ⟨k, false⟩ = true := by simp [pTake, h, isPrefixOf_app]
theorem drop_adv {L t R : List UInt8} {k : Nat} (h : L.drop k = t ++ R) : L.drop (k + t.length) = R := by
 rw [← List.drop_drop, h, List.drop_left]
theorem pMust_yes {L t R : List UInt8} {k : Nat} (h : L.drop k = t ++ R) : pMust L t ⟨k, false⟩ = ⟨k + t.length, false⟩ := by rw [pMust, if_pos (pTake_yes h)]; rfl
def stopC (R : List UInt8) : Prop := ∀ c, R.head? = some c → wordC c = false ∧ c ≠ 40
theorem takeWhile_app {p : UInt8 → Bool} {n R : List UInt8} (h : n.all p = true) (hR : ∀ c, R.head? = some c → p c = false) : (n ++ R).takeWhile p = n := by
 induction n with
 | nil =>
  cases R with
  | nil => rfl
  | cons c R => rw [List.nil_append, List.takeWhile_cons_of_neg]; simp [hR c rfl]
 | cons x n ih =>
  simp only [List.all_cons, Bool.and_eq_true] at h
  rw [List.cons_append, List.takeWhile_cons_of_pos h.1, ih h.2]
theorem pWord_ok {L n R : List UInt8} {k : Nat} (h : L.drop k = n ++ R) (hn : n.all wordC = true) (h0 : n ≠ []) (hR : ∀ c, R.head? = some c → wordC c = false) : pWord L ⟨k, false⟩ = (n, ⟨k + n.length, false⟩) := by
 have e : pWordL L ⟨k, false⟩ = n := by rw [pWordL]; show (L.drop k).takeWhile wordC = n; rw [h, takeWhile_app hn hR]
 rw [pWord, e, if_neg (by simpa using h0)]
theorem headTail_all {p q r : UInt8 → Bool} {l : List UInt8} (h : headTail p q l = true) (hp : ∀ c, p c = true → r c = true) (hq : ∀ c, q c = true → r c = true) : l.all r = true := by
 cases l with
 | nil => rfl
 | cons c l =>
  simp only [headTail, Bool.and_eq_true, List.all_cons, List.all_eq_true] at h ⊢
  exact ⟨hp c h.1, fun x hx => hq x (h.2 x hx)⟩
theorem varB_word {l : List UInt8} (h : varB l = true) : l.all wordC = true ∧ l ≠ [] := by
 simp only [varB, Bool.and_eq_true, decide_eq_true_eq] at h
 refine ⟨headTail_all h.2 (fun c hc => by simp [wordC, hc]) (fun c hc => ?_), fun e => by rw [e] at h; simp at h⟩
 simp only [smC, Bool.or_eq_true] at hc
 rcases hc with hc | hc <;> simp [wordC, hc]
theorem symB_word {l : List UInt8} (h : symB l = true) : l.all wordC = true ∧ l ≠ [] := by
 simp only [symB, Bool.and_eq_true, decide_eq_true_eq] at h
 refine ⟨headTail_all h.1.2 (fun c hc => by simp [wordC, hc]) (fun c hc => ?_), fun e => by rw [e] at h; simp at h⟩
 simp only [unC, smC, Bool.or_eq_true] at hc
 rcases hc with (hc | hc) | hc
 ·simp [wordC, hc]
 ·simp [wordC, hc]
 ·simp only [wordC, hc, Bool.or_true]
theorem Tm.nodes_mk {n : ByteArray} {us : List Tm} (h : (Tm.mk n us).nodes = true) : (n.data.toList.all wordC = true ∧ n.data.toList ≠ []) ∧ Tm.nodess us = true := by
 rw [Tm.nodes] at h
 split at h
 ·rename_i hv
  cases us with
  | nil => exact ⟨varB_word hv, rfl⟩
  | cons a us => simp at h
 ·simp only [Bool.and_eq_true] at h
  exact ⟨symB_word h.1.1, h.2⟩
theorem word_not61 {l : List UInt8} (h : l.all wordC = true ∧ l ≠ []) : l ≠ [61] := by
 rintro rfl; exact absurd h.1 (by decide)
theorem Tm.fmt_mk {n : ByteArray} {us : List Tm} (h : n.data.toList ≠ [61]) : (Tm.mk n us).fmt = if us.isEmpty then n.data.toList else n.data.toList ++ [40] ++ joinB [44] (Tm.fmtL us) ++ [41] := by
 cases us <;> simp only [Tm.fmt, if_neg h] <;> rfl
def sepAll (sep : List UInt8) : List Tm → List UInt8
 | [] => []
 | t :: us => sep ++ t.fmt ++ sepAll sep us
theorem joinB_cons (sep : List UInt8) (a : Tm) (us : List Tm) : joinB sep (Tm.fmtL (a :: us)) = a.fmt ++ sepAll sep us := by
 induction us generalizing a with
 | nil => simp [Tm.fmtL, joinB, sepAll]
 | cons b us ih =>
  have := ih b
  rw [Tm.fmtL] at this
  rw [Tm.fmtL, Tm.fmtL, joinB, this, sepAll]
  simp [List.append_assoc]
theorem stop_sep {sep R : List UInt8} {us : List Tm} (hs : stopC sep) (h0 : sep ≠ []) (hR : stopC R) : stopC (sepAll sep us ++ R) := by
 cases us with
 | nil => exact hR
 | cons a us =>
  intro c hc
  apply hs
  cases sep with
  | nil => exact absurd rfl h0
  | cons x s => simpa [sepAll] using hc
mutual
theorem pTerm_ok {L : List UInt8} : ∀ (f : Nat) (t : Tm) (k : Nat) (R : List UInt8), t.nodes = true → L.drop k = t.fmt ++ R → stopC R → t.fmt.length < f → pTerm L f ⟨k, false⟩ = (t, ⟨k + t.fmt.length, false⟩)
 | 0, _, _, _, _, _, _, h => absurd h (by omega)
 | f + 1, .mk n us, k, R, hn, hL, hR, hf => by
  have h1 := Tm.nodes_mk hn
  have hm := Tm.fmt_mk (us := us) (word_not61 h1.1)
  cases us with
  | nil =>
   rw [if_pos (by rfl)] at hm
   rw [hm] at hL ⊢
   have hw := pWord_ok hL h1.1.1 h1.1.2 (fun c hc => (hR c hc).1)
   rw [pTerm, hw]
   have hno : pTake L [40] ⟨k + n.data.toList.length, false⟩ = false := by
    have := drop_adv hL
    simp only [pTake, this]
    cases R with
    | nil => rfl
    | cons c R => simp [List.isPrefixOf, (hR c rfl).2.symm]
   rw [hno]; rfl
  | cons a us =>
   rw [if_neg (by simp), joinB_cons] at hm
   have h2 : a.nodes = true ∧ Tm.nodess us = true := by simpa [Tm.nodess] using h1.2
   have hlen : (Tm.mk n (a :: us)).fmt.length = n.data.toList.length + 1 + a.fmt.length + (sepAll [44] us).length + 1 := by rw [hm]; simp; omega
   have e0 : L.drop k = n.data.toList ++ ([40] ++ (a.fmt ++ (sepAll [44] us ++ ([41] ++ R)))) := by rw [hL, hm]; simp [List.append_assoc]
   have hw := pWord_ok e0 h1.1.1 h1.1.2 (fun c hc => by simp at hc; subst hc; decide)
   have e1 := drop_adv e0
   have e2 := drop_adv e1
   have e3 := drop_adv e2
   have e4 := drop_adv e3
   have s41 : stopC ([41] ++ R) := by intro c hc; simp at hc; subst hc; decide
   have s44 : stopC [44] := by intro c hc; simp at hc; subst hc; decide
   have ha := pTerm_ok f a _ _ h2.1 e2 (stop_sep s44 (by simp) s41) (by omega)
   have hb := pArgs_ok f [44] us _ ([41] ++ R) h2.2 e3 s44 (by simp) s41 (by simp [List.isPrefixOf]) (by omega)
   rw [pTerm, hw, if_pos (pTake_yes e1)]
   simp only [pAdv] at ha hb ⊢
   rw [ha, hb, pMust_yes e4, hlen]
   simp only [List.length_cons, List.length_nil]
   refine Prod.ext rfl ?_
   show PSt.mk _ _ = PSt.mk _ _
   congr 1
   omega
theorem pArgs_ok {L : List UInt8} : ∀ (f : Nat) (sep : List UInt8) (us : List Tm) (k : Nat) (R : List UInt8), Tm.nodess us = true → L.drop k = sepAll sep us ++ R → stopC sep → sep ≠ [] → stopC R → sep.isPrefixOf R = false → (sepAll sep us).length < f →
  pArgs L sep f ⟨k, false⟩ = (us, ⟨k + (sepAll sep us).length, false⟩)
 | 0, _, _, _, _, _, _, _, _, _, _, h => absurd h (by omega)
 | f + 1, sep, [], k, R, hn, hL, hs, h0, hR, hp, hf => by
  rw [pArgs]
  have : pTake L sep ⟨k, false⟩ = false := by simp only [pTake, hL]; simpa [sepAll] using hp
  rw [this]; rfl
 | f + 1, sep, a :: us, k, R, hn, hL, hs, h0, hR, hp, hf => by
  have h2 : a.nodes = true ∧ Tm.nodess us = true := by simpa [Tm.nodess] using hn
  have e0 : L.drop k = sep ++ (a.fmt ++ (sepAll sep us ++ R)) := by rw [hL, sepAll]; simp [List.append_assoc]
  have e1 := drop_adv e0
  have e2 := drop_adv e1
  have hl : 0 < sep.length := List.length_pos_iff.2 h0
  rw [sepAll] at hf ⊢
  simp only [List.length_append] at hf ⊢
  have ha := pTerm_ok f a _ _ h2.1 e1 (stop_sep hs h0 hR) (by omega)
  have hb := pArgs_ok f sep us _ R h2.2 e2 hs h0 hR hp (by omega)
  rw [pArgs, if_pos (pTake_yes e0)]
  simp only [pAdv] at ha hb ⊢
  rw [ha, hb]
  refine Prod.ext rfl ?_
  show PSt.mk _ _ = PSt.mk _ _
  congr 1
  omega
end
def FmV (m : Nat) (S : Nat → Prop) (w : World) (t : Fm) (x : Value) : Prop := ∃ v0 v1 v2 v3 v4, x = .agg #[v0, v1, v2, v3, v4] ∧ FmOwn 64 67 m S w t [v0, v1, v2, v3, v4]
def NewB (w w' : World) (b : Nat) : Prop := w.heap.size ≤ b ∧ b < w'.heap.size
theorem opF_own {m : Nat} {S : Nat → Prop} {w : World} {op : Int} {ps : List Fm} {vp : Value} (ho : -9223372036854775808 ≤ op ∧ op ≤ 9223372036854775807) (h : OwnRow S w 67 5 (fun T f c => FmOwn 64 67 (m + 1) T w f c) vp ps) :
  FmOwn 64 67 (m + 2) S w (opF op ps) [.int .i64 op, .string ⟨#[]⟩, .slice none 0 0, .string ⟨#[]⟩, vp] :=
 ⟨_, _, _, fun _ => False, S, rfl, ho, Nat.zero_le _, ⟨_, rfl, Nat.zero_le _, OwnRow.nil _ _ _ _ _⟩, h, fun _ h => h.elim, fun _ h => h⟩
set_option maxHeartbeats 800000 in
theorem not_any (m : Nat) (S : Nat → Prop) (t : Fm) (x : Value) (w : World) (h : FmV (m + 1) S w t x) (hS : ∀ b, S b → b < w.heap.size) :
  Calls Tryz.prog 101 #[x] w fun e w' => ∃ y, e = .returned y ∧ FmV (m + 2) (fun b => S b ∨ NewB w w' b) w' (opF 4 [t]) y ∧ Below w.heap.size w w' := by
 obtain ⟨v0, v1, v2, v3, v4, rfl, hf⟩ := h
 obtain ⟨p, c, q, d, rfl, rfl, rfl, rfl, rfl, -⟩ := hf.form
 have HF := Lib.hid (And.intro hf hS)
 clear hf hS
 go_enter Tryz.func101, Tryz.ntmps101
 go_wp2
 refine bodyPost_ret (v := .agg #[.int .i64 4, .string ⟨#[]⟩, .slice none 0 0, .string ⟨#[]⟩, .slice (some ⟨w.heap.size + 1 + 1, 0, none⟩) 1 1]) (by simp only [results, Tryz.results101]; go_simp) rfl ⟨_, rfl, ⟨_, _, _, _, _, rfl, opF_own (by omega) ?_⟩, by exact bel⟩
 exact OwnRow.one' (S := S) (by simp) _ rfl (HF.out.1.later (by exact bel)) (fun b hb => by have := HF.out.2 b hb; omega) (fun b hb => .inl hb) (.inr ⟨by omega, by simp⟩)
set_option maxHeartbeats 800000 in
theorem binary_any (m : Nat) (op : Int) (ho : -9223372036854775808 ≤ op ∧ op ≤ 9223372036854775807) (S T : Nat → Prop) (t r : Fm) (x y : Value) (w : World) (h : FmV (m + 1) S w t x) (h' : FmV (m + 1) T w r y) (hS : ∀ b, S b → b < w.heap.size) (hT : ∀ b, T b → b < w.heap.size) (hST : ∀ b, S b → ¬ T b) :
  Calls Tryz.prog 112 #[.int .i64 op, x, y] w fun e w' => ∃ z, e = .returned z ∧ FmV (m + 2) (fun b => S b ∨ T b ∨ NewB w w' b) w' (opF op [t, r]) z ∧ Below w.heap.size w w' := by
 obtain ⟨v0, v1, v2, v3, v4, rfl, hf⟩ := h
 obtain ⟨p, c, q, d, rfl, rfl, rfl, rfl, rfl, -⟩ := hf.form
 obtain ⟨u0, u1, u2, u3, u4, rfl, hf'⟩ := h'
 obtain ⟨p', c', q', d', rfl, rfl, rfl, rfl, rfl, -⟩ := hf'.form
 have HF := Lib.hid (And.intro hf (And.intro hf' (And.intro hS (And.intro hT hST))))
 clear hf hS hf' hT hST
 go_enter Tryz.func112, Tryz.ntmps112
 go_wp2
 refine bodyPost_ret (v := .agg #[.int .i64 op, .string ⟨#[]⟩, .slice none 0 0, .string ⟨#[]⟩, .slice (some ⟨w.heap.size + 1 + 1 + 1, 0, none⟩) 2 2]) (by simp only [results, Tryz.results112]; go_simp) rfl ⟨_, rfl, ⟨_, _, _, _, _, rfl, opF_own ho ?_⟩, by exact bel⟩
 obtain ⟨h1, h2, h3, h4, h5⟩ := HF.out
 exact OwnRow.two' (S := S) (T := T) (by simp) _ _ _ rfl rfl rfl (h1.later (by exact bel)) (h2.later (by exact bel)) (fun b hb => by have := h3 b hb; omega) (fun b hb => by have := h4 b hb; omega) h5 (fun b hb => .inl hb) (fun b hb => .inr (.inl hb)) (.inr (.inr ⟨by omega, by simp⟩))
set_option maxHeartbeats 800000 in
theorem quantified_any (m : Nat) (op : Int) (ho : -9223372036854775808 ≤ op ∧ op ≤ 9223372036854775807) (v : List UInt8) (hv : v.length ≤ 1000000) (S : Nat → Prop) (t : Fm) (x : Value) (w : World) (h : FmV (m + 1) S w t x) (hS : ∀ b, S b → b < w.heap.size) :
  Calls Tryz.prog 104 #[.int .i64 op, .string ⟨v.toArray⟩, x] w fun e w' => ∃ y, e = .returned y ∧ FmV (m + 2) (fun b => S b ∨ NewB w w' b) w' (quantF op v t) y ∧ Below w.heap.size w w' := by
 obtain ⟨v0, v1, v2, v3, v4, rfl, hf⟩ := h
 obtain ⟨p, c, q, d, rfl, rfl, rfl, rfl, rfl, -⟩ := hf.form
 have HF := Lib.hid (And.intro hf hS)
 clear hf hS
 go_enter Tryz.func104, Tryz.ntmps104
 go_wp2
 refine bodyPost_ret (v := .agg #[.int .i64 op, .string ⟨#[]⟩, .slice none 0 0, .string ⟨v.toArray⟩, .slice (some ⟨w.heap.size + 1 + 1, 0, none⟩) 1 1]) (by simp only [results, Tryz.results104]; go_simp) rfl ⟨_, rfl, ⟨_, _, _, _, _, rfl, ⟨_, _, _, fun _ => False, _, rfl, ho, by show v.toArray.size ≤ _; unfold maxLen; simp; omega, ⟨_, rfl, Nat.zero_le _, OwnRow.nil _ _ _ _ _⟩, ?_, fun _ h => h.elim, fun _ h => h⟩⟩, by exact bel⟩
 exact OwnRow.one' (S := S) (by simp) _ rfl (HF.out.1.later (by exact bel)) (fun b hb => by have := HF.out.2 b hb; omega) (fun b hb => .inl hb) (.inr ⟨by omega, by simp⟩)
set_option maxHeartbeats 800000 in
theorem atomOf_any (m : Nat) (S : Nat → Prop) (t : Tm) (v0 v1 : Value) (w : World) (h : TmOwn 64 m S w t [v0, v1]) :
  Calls Tryz.prog 142 #[.agg #[v0, v1]] w fun e w' => ∃ y, e = .returned y ∧ FmV (m + 1) S w' (atomOfF t) y ∧ Below w.heap.size w w' := by
 obtain ⟨p, c, rfl, rfl, -⟩ := h.form
 have HF := Lib.hid h
 clear h
 go_enter Tryz.func142, Tryz.ntmps142
 go_wp2
 refine bodyPost_ret (v := .agg #[.int .i64 3, .string t.n, .slice p t.us.length c, .string ⟨#[]⟩, .slice none 0 0]) (by simp only [results, Tryz.results142]; go_simp) rfl ⟨_, rfl, ⟨_, _, _, _, _, rfl, ⟨_, _, _, S, fun _ => False, rfl, by omega, Nat.zero_le _, HF.out.below (by exact bel), OwnRow.nil _ _ _ _ _, fun b hb => ⟨hb, fun h => h⟩, fun _ h => h.elim⟩⟩, by exact bel⟩
end Go.Proofs.YtabkdonplmlbcaaGreatDoor
