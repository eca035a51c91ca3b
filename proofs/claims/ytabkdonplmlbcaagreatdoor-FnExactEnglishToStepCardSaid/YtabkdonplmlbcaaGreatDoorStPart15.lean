import Derived.Lib.IndexMore
import Derived.Lib.AtoiTie
import Derived.Test.YtabkdonplmlbcaaGreatDoorStPart14
namespace Go.Proofs.YtabkdonplmlbcaaGreatDoor
open Go.RowKit
structure Stp where
 rule : Int
 ps : List Int
 wh : List Int
 c : List Lit3
def StpAt (B : Nat → Prop) (m : Nat) (w : World) (s : Stp) (cs : List Value) : Prop :=
 ∃ va vb vc, cs = [.int .i64 s.rule, va, vb, vc] ∧ i64B s.rule ∧ IntsAt B w va s.ps ∧ IntsAt B w vb s.wh ∧ ClsAt B m w s.c vc
theorem StpAt.mono {B B' : Nat → Prop} {m m' : Nat} {w w' : World} {s : Stp} {cs : List Value} (hs : SameOn B w w') (hB : ∀ b, B b → B' b) (hm : m ≤ m') (h : StpAt B m w s cs) : StpAt B' m' w' s cs := by
 obtain ⟨va, vb, vc, h1, h2, h3, h4, h5⟩ := h
 exact ⟨va, vb, vc, h1, h2, h3.mono hs hB, h4.mono hs hB, h5.mono hs hB hm⟩
theorem StpAt.below {B : Nat → Prop} {m : Nat} {w w' : World} {s : Stp} {cs : List Value} (hb : Below w.heap.size w w') (h : StpAt B m w s cs) : StpAt B m w' s cs := h.mono (SameOn.below hb) (fun _ h => h) (Nat.le_refl _)
theorem ClsAt.form' {B : Nat → Prop} {m : Nat} {w : World} {c : List Lit3} {v : Value} (h : ClsAt B m w c v) : ∃ p d, v = .slice p c.length d ∧ c.length ≤ maxLen := (show ListAt B w 3 (LitAt B m w) v c from h).form
theorem StpAt.form {B : Nat → Prop} {m : Nat} {w : World} {s : Stp} {v0 v1 v2 v3 : Value} (h : StpAt B m w s [v0, v1, v2, v3]) :
  ∃ p c q d r e, v0 = .int .i64 s.rule ∧ v1 = .slice p s.ps.length c ∧ v2 = .slice q s.wh.length d ∧ v3 = .slice r s.c.length e ∧ i64B s.rule ∧ s.ps.length ≤ maxLen ∧ s.wh.length ≤ maxLen ∧ s.c.length ≤ maxLen ∧ IntsAt B w v1 s.ps ∧ IntsAt B w v2 s.wh ∧ ClsAt B m w s.c v3 := by
 obtain ⟨va, vb, vc, h1, h2, h3, h4, h5⟩ := h
 simp only [List.cons.injEq, and_true] at h1
 obtain ⟨rfl, rfl, rfl, rfl⟩ := h1
 obtain ⟨p, c, rfl, l1⟩ := h3.form
 obtain ⟨q, d, rfl, l2⟩ := h4.form
 obtain ⟨r, e, rfl, l3⟩ := h5.form'
 exact ⟨p, c, q, d, r, e, rfl, rfl, rfl, rfl, h2, l1, l2, l3, h3, h4, h5⟩
theorem ListAt.rest {α : Type} {B : Nat → Prop} {w : World} {size : Nat} {R : α → List Value → Prop} {b o n c n' c' : Nat} {xs : List α} (h : ListAt B w size R (.slice (some ⟨b, o, none⟩) n c) xs) (k : Nat) (hn : n' = xs.length - k) : ListAt B w size R (.slice (some ⟨b, o + k * size, none⟩) n' c') (xs.drop k) := by
 obtain ⟨p', c1, h1, h2, h3⟩ := h
 injection h1 with e1 e2 e3
 subst e1 hn
 refine ⟨_, _, by rw [List.length_drop], by rw [List.length_drop]; omega, fun i x hx => ?_⟩
 rw [List.getElem?_drop] at hx
 obtain ⟨b', o', h4, h0, cs, h5, h6, h7⟩ := h3 _ x hx
 injection h4 with e
 injection e with e1 e2
 subst e1 e2
 refine ⟨b, _, rfl, h0, cs, h5, fun j hj => ?_, h7⟩
 rw [← h6 j hj]
 congr 2
 rw [Nat.add_mul]; omega
def in99 (n : Int) : Bool := inB n 0 99
def posB (l : List Int) : Bool := decide (l.length ≤ 8) && l.all (fun n => inB n 0 3)
def Stp.nums (s : Stp) : Bool :=
 if s.rule = 1 then decide (s.ps.length = 0) && decide (s.wh.length = 1)
 else if s.rule = 2 then decide (s.ps.length = 2) && decide (s.wh.length = 2)
 else if s.rule = 3 then decide (s.ps.length = 1) && decide (s.wh.length = 2)
 else if s.rule = 4 then decide (s.ps.length = 2) && decide (3 < s.wh.length) && inB (s.wh.getD 1 0) 0 1 && posB (s.wh.drop 3)
 else if s.rule = 5 then decide (s.ps.length = 1) && decide (s.wh.length = 1)
 else if s.rule = 6 then decide (2 ≤ s.ps.length) && decide (s.ps.length ≤ 11) && decide (s.wh.length = 0)
 else false
def Stp.numsR (s : Stp) : Bool :=
 if s.rule = 1 then decide (s.ps.length = 0) && decide (s.wh.length = 1)
 else if s.rule = 2 then decide (s.ps.length = 2) && decide (s.wh.length = 2)
 else if s.rule = 3 then decide (s.ps.length = 1) && decide (s.wh.length = 2)
 else if s.rule = 5 then decide (s.ps.length = 1) && decide (s.wh.length = 1)
 else if s.rule = 6 then decide (2 ≤ s.ps.length) && decide (s.ps.length ≤ 11) && decide (s.wh.length = 0)
 else if s.rule = 4 then decide (s.ps.length = 2) && decide (3 < s.wh.length) && in99 (s.wh.getD 0 0) && inB (s.wh.getD 1 0) 0 1 && in99 (s.wh.getD 2 0) && posB (s.wh.drop 3)
 else false
def numsB (l : List Int) : Bool := l.all in99 && decide (l.length ≤ 12)
def Stp.shape (s : Stp) (k : Int) : Bool := s.ps.all (fun n => inB n 0 (k - 1)) && (numsB s.wh || decide (s.rule = 4)) && s.numsR
def Stp.shp (s : Stp) (k : Int) : Bool := s.nums && s.ps.all (fun n => inB n 0 (k - 1)) && s.wh.all in99
theorem inB_sub {n a b a' b' : Int} (h : inB n a b = true) (ha : a' ≤ a) (hb : b ≤ b') : inB n a' b' = true := by
 simp only [inB, Bool.and_eq_true, decide_eq_true_eq] at *; omega
theorem Stp.shape_eq (s : Stp) (k : Int) : s.shape k = s.shp k := by
 obtain ⟨r, ps, wh, c⟩ := s
 simp only [Stp.shape, Stp.shp, Stp.nums, Stp.numsR]
 by_cases h4 : r = 4
 ·subst h4
  simp only [decide_true, Bool.or_true, Bool.and_true, show ¬ (4 : Int) = 1 by decide, show ¬ (4 : Int) = 2 by decide, show ¬ (4 : Int) = 3 by decide, show ¬ (4 : Int) = 5 by decide, show ¬ (4 : Int) = 6 by decide, if_true, if_false]
  match wh with
  | [] => simp
  | [_] => simp
  | [_, _] => simp
  | a :: b :: d :: l =>
   simp only [List.getD_cons_zero, List.getD_cons_succ, List.drop_succ_cons, List.drop_zero, List.all_cons]
   cases hb : inB b 0 1
   ·simp
   have hb2 : in99 b = true := inB_sub hb (by omega) (by omega)
   cases hp : posB l
   ·simp
   have hp2 : l.all in99 = true := by
    simp only [posB, Bool.and_eq_true, List.all_eq_true] at hp
    exact List.all_eq_true.2 fun x hx => inB_sub (hp.2 x hx) (by omega) (by omega)
   rw [hb2, hp2]
   cases in99 a <;> cases in99 d <;> cases ps.all (fun n => inB n 0 (k - 1)) <;> simp
 ·simp only [h4, decide_false, Bool.or_false, if_false]
  cases ps.all (fun n => inB n 0 (k - 1))
  ·simp
  simp only [Bool.true_and, Bool.and_true]
  have hn : ∀ (n : Nat) (X : Bool), n ≤ 12 → (numsB wh && (X && decide (wh.length = n))) = (X && decide (wh.length = n) && wh.all in99) := fun n X hn => by
   by_cases hl : wh.length = n
   ·rw [numsB, decide_eq_true (show wh.length ≤ 12 by omega), decide_eq_true hl]; cases X <;> simp
   ·rw [decide_eq_false hl]; simp
  split
  ·exact hn 1 _ (by omega)
  split
  ·exact hn 2 _ (by omega)
  split
  ·exact hn 2 _ (by omega)
  split
  ·exact hn 1 _ (by omega)
  split
  ·exact hn 0 _ (by omega)
  simp
def Stp.good (s : Stp) (k : Int) : Bool := inB k 0 59 && s.shp k && Cls.good s.c
theorem lenI2 {l : List Int} (h : l.length = 2) : ∃ a b, l = [a, b] := by
 match l, h with
 | [a, b], _ => exact ⟨a, b, rfl⟩
theorem lenI1 {l : List Int} (h : l.length = 1) : ∃ a, l = [a] := by
 match l, h with
 | [a], _ => exact ⟨a, rfl⟩
theorem Stp.nums_cases {s : Stp} (h : s.nums = true) :
  (s.rule = 1 ∧ s.ps = [] ∧ ∃ a, s.wh = [a]) ∨ (s.rule = 2 ∧ (∃ p q, s.ps = [p, q]) ∧ ∃ a b, s.wh = [a, b]) ∨ (s.rule = 3 ∧ (∃ p, s.ps = [p]) ∧ ∃ a b, s.wh = [a, b]) ∨
  (s.rule = 4 ∧ (∃ p q, s.ps = [p, q]) ∧ ∃ a b d l, s.wh = a :: b :: d :: l ∧ l ≠ [] ∧ (b = 0 ∨ b = 1) ∧ posB l = true) ∨ (s.rule = 5 ∧ (∃ p, s.ps = [p]) ∧ ∃ a, s.wh = [a]) ∨ (s.rule = 6 ∧ (∃ p l, s.ps = p :: l ∧ l ≠ [] ∧ l.length ≤ 10) ∧ s.wh = []) := by
 rw [Stp.nums] at h
 split at h
 ·simp only [Bool.and_eq_true, decide_eq_true_eq] at h
  exact .inl ⟨by assumption, List.eq_nil_of_length_eq_zero h.1, lenI1 h.2⟩
 split at h
 ·simp only [Bool.and_eq_true, decide_eq_true_eq] at h
  exact .inr (.inl ⟨by assumption, lenI2 h.1, lenI2 h.2⟩)
 split at h
 ·simp only [Bool.and_eq_true, decide_eq_true_eq] at h
  exact .inr (.inr (.inl ⟨by assumption, lenI1 h.1, lenI2 h.2⟩))
 split at h
 ·simp only [Bool.and_eq_true, decide_eq_true_eq] at h
  obtain ⟨⟨⟨h1, h2⟩, h3⟩, h4⟩ := h
  refine .inr (.inr (.inr (.inl ⟨by assumption, lenI2 h1, ?_⟩)))
  match hw : s.wh, h2 with
  | a :: b :: d :: e :: l, _ =>
   rw [hw] at h3 h4
   refine ⟨a, b, d, e :: l, rfl, by simp, ?_, h4⟩
   simp only [List.getD_cons_succ, List.getD_cons_zero, inB, Bool.and_eq_true, decide_eq_true_eq] at h3
   omega
 split at h
 ·simp only [Bool.and_eq_true, decide_eq_true_eq] at h
  exact .inr (.inr (.inr (.inr (.inl ⟨by assumption, lenI1 h.1, lenI1 h.2⟩))))
 split at h
 ·simp only [Bool.and_eq_true, decide_eq_true_eq] at h
  obtain ⟨⟨h1, h2⟩, h3⟩ := h
  refine .inr (.inr (.inr (.inr (.inr ⟨by assumption, ?_, List.eq_nil_of_length_eq_zero h3⟩))))
  match hw : s.ps, h1, h2 with
  | a :: b :: l, h1, h2 => exact ⟨a, b :: l, rfl, by simp, by simpa using h2⟩
 ·cases h
theorem beqN0 (n : Nat) : ((n : Int) == 0) = decide (n = 0) := by rw [Bool.eq_iff_iff, beq_iff_eq, decide_eq_true_iff]; omega
theorem beqN1 (n : Nat) : ((n : Int) == 1) = decide (n = 1) := by rw [Bool.eq_iff_iff, beq_iff_eq, decide_eq_true_iff]; omega
theorem beqN2 (n : Nat) : ((n : Int) == 2) = decide (n = 2) := by rw [Bool.eq_iff_iff, beq_iff_eq, decide_eq_true_iff]; omega
theorem leN2 (n : Nat) : decide ((2 : Int) ≤ n) = decide (2 ≤ n) := by rw [decide_eq_decide]; omega
theorem leN11 (n : Nat) : decide ((n : Int) ≤ 11) = decide (n ≤ 11) := by rw [decide_eq_decide]; omega
def cnt (n : Int) : List UInt8 := Lib.itoa (n + 1)
def sByAx : List UInt8 := [66, 121, 32, 97, 120, 105, 111, 109, 32]
def sFrom : List UInt8 := [70, 114, 111, 109, 32]
def sResL : List UInt8 := [32, 98, 121, 32, 114, 101, 115, 111, 108, 118, 105, 110, 103, 32, 108, 105, 116, 101, 114, 97, 108, 32]
def sWithL : List UInt8 := [32, 119, 105, 116, 104, 32, 108, 105, 116, 101, 114, 97, 108, 32]
def sMerge : List UInt8 := [32, 98, 121, 32, 109, 101, 114, 103, 105, 110, 103, 32, 108, 105, 116, 101, 114, 97, 108, 115, 32]
def sRepl : List UInt8 := [32, 98, 121, 32, 114, 101, 112, 108, 97, 99, 105, 110, 103, 32, 105, 110, 32, 108, 105, 116, 101, 114, 97, 108, 32]
def sAt : List UInt8 := [32, 97, 116, 32]
def sRead : List UInt8 := [32, 114, 101, 97, 100, 32, 102, 114, 111, 109, 32, 116, 104, 101, 32]
def sLeft : List UInt8 := [108, 101, 102, 116]
def sRight : List UInt8 := [114, 105, 103, 104, 116]
def sRem : List UInt8 := [32, 98, 121, 32, 114, 101, 109, 111, 118, 105, 110, 103, 32, 108, 105, 116, 101, 114, 97, 108, 32]
def sRew : List UInt8 := [32, 98, 121, 32, 114, 101, 119, 114, 105, 116, 105, 110, 103, 32, 119, 105, 116, 104, 32]
def posT (l : List Int) : List UInt8 := if l = [] then [45] else joinB [46] (l.map Lib.itoa)
def Stp.org (s : Stp) : List UInt8 :=
 if s.rule = 1 then sByAx ++ cnt (s.wh.getD 0 0)
 else if s.rule = 2 then sFrom ++ cnt (s.ps.getD 0 0) ++ sAnd ++ cnt (s.ps.getD 1 0) ++ sResL ++ cnt (s.wh.getD 0 0) ++ sWithL ++ cnt (s.wh.getD 1 0)
 else if s.rule = 3 then sFrom ++ cnt (s.ps.getD 0 0) ++ sMerge ++ cnt (s.wh.getD 0 0) ++ sAnd ++ cnt (s.wh.getD 1 0)
 else if s.rule = 4 then sFrom ++ cnt (s.ps.getD 0 0) ++ sAnd ++ cnt (s.ps.getD 1 0) ++ sRepl ++ cnt (s.wh.getD 2 0) ++ sAt ++ posT (s.wh.drop 3) ++ sWithL ++ cnt (s.wh.getD 0 0) ++ sRead ++ (if s.wh.getD 1 0 = 1 then sRight else sLeft)
 else if s.rule = 5 then sFrom ++ cnt (s.ps.getD 0 0) ++ sRem ++ cnt (s.wh.getD 0 0)
 else sFrom ++ cnt (s.ps.getD 0 0) ++ sRew ++ joinB sComma ((s.ps.drop 1).map cnt)
def Stp.eng (s : Stp) (k : Int) : List UInt8 := cnt k ++ [46, 32] ++ s.org ++ sComma ++ Cls.eng s.c ++ [46]
def Stp.engG (s : Stp) (k : Int) : List UInt8 := if s.good k then s.eng k else []
theorem cnt_len {n : Int} (h0 : 0 ≤ n) (h1 : n ≤ 99) : (cnt n).length ≤ 20 := itoa_len (n + 1) (by omega) (by omega)
theorem joinB_bd {sep : List UInt8} (L : Nat) : ∀ l : List (List UInt8), (∀ x ∈ l, x.length ≤ L) → (joinB sep l).length ≤ (L + sep.length) * l.length
 | [], _ => by simp [joinB]
 | [a], h => by
  have := h a (by simp)
  rw [joinB]; simp; omega
 | a :: b :: l, h => by
  have h1 := h a (by simp)
  have h2 := joinB_bd (sep := sep) L (b :: l) (fun x hx => h x (List.mem_cons_of_mem _ hx))
  rw [joinB, List.length_append, List.length_append, List.length_cons, Nat.mul_succ]
  omega
theorem posT_len {l : List Int} (h : posB l = true) : (posT l).length ≤ 168 := by
 simp only [posB, Bool.and_eq_true, decide_eq_true_eq, List.all_eq_true] at h
 rw [posT]
 split
 ·decide
 ·have := joinB_bd (sep := [46]) 20 (l.map Lib.itoa) (fun x hx => by
   obtain ⟨y, hy, rfl⟩ := List.mem_map.1 hx
   have h2 := h.2 y hy
   simp only [inB, Bool.and_eq_true, decide_eq_true_eq] at h2
   exact itoa_len y (by omega) (by omega))
  rw [List.length_map] at this
  simp only [List.length_cons, List.length_nil] at this
  omega
theorem rewT_len {l : List Int} (h : ∀ x ∈ l, 0 ≤ x ∧ x ≤ 99) (hl : l.length ≤ 10) : (joinB sComma (l.map cnt)).length ≤ 220 := by
 have := joinB_bd (sep := sComma) 20 (l.map cnt) (fun x hx => by
  obtain ⟨y, hy, rfl⟩ := List.mem_map.1 hx
  exact cnt_len (h y hy).1 (h y hy).2)
 rw [List.length_map] at this
 simp only [sComma, List.length_cons, List.length_nil] at this ⊢
 omega
theorem Stp.org_len {s : Stp} (hg : s.nums = true) (hp : ∀ x ∈ s.ps, 0 ≤ x ∧ x ≤ 99) (hw : ∀ x ∈ s.wh, 0 ≤ x ∧ x ≤ 99) : s.org.length ≤ 2000 := by
 have hc := Stp.nums_cases hg
 obtain ⟨ru, ps, wh, cl⟩ := s
 simp only at hc hp hw
 rcases hc with ⟨rfl, rfl, a, rfl⟩ | ⟨rfl, ⟨x, y, rfl⟩, a, z, rfl⟩ | ⟨rfl, ⟨x, rfl⟩, a, z, rfl⟩ | ⟨rfl, ⟨x, y, rfl⟩, a, z, t, l, rfl, hl0, hz, hpl⟩ | ⟨rfl, ⟨x, rfl⟩, a, rfl⟩ | ⟨rfl, ⟨x, l, rfl, hl0, hl10⟩, rfl⟩
 ·have la := cnt_len (n := a) (hw a (by simp)).1 (hw a (by simp)).2
  simp [Stp.org, sByAx]; omega
 ·have la := cnt_len (n := a) (hw a (by simp)).1 (hw a (by simp)).2
  have lz := cnt_len (n := z) (hw z (by simp)).1 (hw z (by simp)).2
  have lx := cnt_len (n := x) (hp x (by simp)).1 (hp x (by simp)).2
  have ly := cnt_len (n := y) (hp y (by simp)).1 (hp y (by simp)).2
  simp [Stp.org, sFrom, sAnd, sResL, sWithL]; omega
 ·have la := cnt_len (n := a) (hw a (by simp)).1 (hw a (by simp)).2
  have lz := cnt_len (n := z) (hw z (by simp)).1 (hw z (by simp)).2
  have lx := cnt_len (n := x) (hp x (by simp)).1 (hp x (by simp)).2
  simp [Stp.org, sFrom, sAnd, sMerge]; omega
 ·have la := cnt_len (n := a) (hw a (by simp)).1 (hw a (by simp)).2
  have lt := cnt_len (n := t) (hw t (by simp)).1 (hw t (by simp)).2
  have lx := cnt_len (n := x) (hp x (by simp)).1 (hp x (by simp)).2
  have ly := cnt_len (n := y) (hp y (by simp)).1 (hp y (by simp)).2
  have lp := posT_len hpl
  have ls : (if z = 1 then sRight else sLeft).length ≤ 5 := by split <;> decide
  simp [Stp.org, sFrom, sAnd, sRepl, sAt, sWithL, sRead]; omega
 ·have la := cnt_len (n := a) (hw a (by simp)).1 (hw a (by simp)).2
  have lx := cnt_len (n := x) (hp x (by simp)).1 (hp x (by simp)).2
  simp [Stp.org, sFrom, sRem]; omega
 ·have lx := cnt_len (n := x) (hp x (by simp)).1 (hp x (by simp)).2
  have lr := rewT_len (fun y hy => hp y (List.mem_cons_of_mem _ hy)) hl10
  simp [Stp.org, sFrom, sRew]; omega
theorem Cls.eng_len {c : List Lit3} (h8 : c.length ≤ 8) (ha : ∀ l ∈ c, l.a.atom = true) (hw : Cls.wts c ≤ 1048576) : (Cls.eng c).length ≤ 40000000 := by
 unfold Cls.eng
 split
 ·decide
 ·exact disj_len (by omega) h8 ha hw
def cut1 : List UInt8 → UInt8 → List UInt8 × List UInt8 × Bool
 | [], _ => ([], [], false)
 | x :: l, b => if x == b then ([], l, true) else (x :: (cut1 l b).1, (cut1 l b).2.1, (cut1 l b).2.2)
theorem cut1_found (l : List UInt8) (b : UInt8) : (cut1 l b).2.2 = true → l = (cut1 l b).1 ++ b :: (cut1 l b).2.1 := by
 induction l with
 | nil => simp [cut1]
 | cons x l ih =>
  rw [cut1]
  by_cases hx : (x == b) = true
  ·rw [if_pos hx]; intro _; simpa using hx
  ·rw [if_neg hx]; intro h; simp only [List.cons_append]; rw [← ih h]
theorem cut1_lost (l : List UInt8) (b : UInt8) : (cut1 l b).2.2 = false → cut1 l b = (l, [], false) := by
 induction l with
 | nil => simp [cut1]
 | cons x l ih =>
  rw [cut1]
  by_cases hx : (x == b) = true
  ·rw [if_pos hx]; intro h; cases h
  ·rw [if_neg hx]; intro h; simp only at h; rw [ih h]
theorem splitP_append (b : UInt8) (l : List UInt8) : ∀ st : List (List UInt8) × List UInt8, (l.foldl (splitSt b) st).1 ++ [(l.foldl (splitSt b) st).2] = st.1 ++ (match splitF l b with | [] => [] | p :: ps => (st.2 ++ p) :: ps) := by
 induction l with
 | nil => intro st; simp [splitF, splitP]
 | cons c l ih =>
  intro st
  have h3 : splitF (c :: l) b = (splitSt b ([], []) c).1 ++ (match splitF l b with | [] => [] | p :: ps => ((splitSt b ([], []) c).2 ++ p) :: ps) := by
   rw [splitF, splitP, List.foldl_cons]; exact ih _
  rw [List.foldl_cons, ih, h3]
  by_cases hc : (c == b) = true
  ·simp [splitSt, hc]
  ·simp only [Bool.not_eq_true] at hc
   simp only [splitSt, hc, Bool.false_eq_true, if_false, List.nil_append]
   cases splitF l b <;> simp
theorem splitF_cons (c : UInt8) (l : List UInt8) (b : UInt8) : splitF (c :: l) b = if c == b then [] :: splitF l b else match splitF l b with | [] => [] | p :: ps => (c :: p) :: ps := by
 rw [splitF, splitP, List.foldl_cons, splitP_append]
 by_cases hc : (c == b) = true
 ·simp [splitSt, hc]
  cases splitF l b <;> simp
 ·simp only [Bool.not_eq_true] at hc
  simp only [splitSt, hc, Bool.false_eq_true, if_false, List.nil_append]
  cases splitF l b <;> simp
theorem splitF_ne (l : List UInt8) (b : UInt8) : 0 < (splitF l b).length := by simp [splitF]
def baL (l : List UInt8) : ByteArray := ⟨l.toArray⟩
theorem baL_of (x : ByteArray) : baL x.data.toList = x := by rw [baL]
theorem baL_size (l : List UInt8) : (baL l).size = l.length := by rw [size_list]; rfl
theorem baL_list (l : List UInt8) : (baL l).data.toList = l := rfl
theorem split_cut (b : UInt8) : ∀ l : List UInt8, splitF l b = (cut1 l b).1 :: (if (cut1 l b).2.2 then splitF (cut1 l b).2.1 b else [])
 | [] => rfl
 | x :: l => by
  rw [splitF_cons, cut1]
  by_cases h : (x == b) = true
  ·rw [if_pos h, if_pos h]; rfl
  ·rw [if_neg h, if_neg h, split_cut b l]
theorem index_cut (b : UInt8) : ∀ l : List UInt8, Lib.indexByte l b = if (cut1 l b).2.2 then ((cut1 l b).1.length : Int) else -1
 | [] => rfl
 | x :: l => by
  rw [Lib.indexByte, cut1, index_cut b l]
  by_cases h : (x == b) = true
  ·rw [if_pos h, if_pos h]; rfl
  ·rw [if_neg h, if_neg h]
   cases hc : (cut1 l b).2.2
   ·simp
   ·have : ¬ (((cut1 l b).1.length : Int) == -1) = true := by simp <;> omega
    simp only [if_true, if_neg this]
    simp
theorem count_split (b : UInt8) : ∀ l : List UInt8, (splitF l b).length = Lib.countByte l b + 1
 | [] => rfl
 | x :: l => by
  have ih := count_split b l
  rw [splitF_cons, Lib.countByte, List.count_cons]
  rw [Lib.countByte] at ih
  by_cases h : (x == b) = true
  ·rw [if_pos h, if_pos h, List.length_cons, ih]
  ·rw [if_neg h, if_neg h]
   cases hs : splitF l b with
   | nil => have := splitF_ne l b; rw [hs] at this; simp at this
   | cons p ps => rw [hs] at ih; simpa using ih
theorem split_two {l : List UInt8} {b : UInt8} (h : 2 ≤ (splitF l b).length) : (cut1 l b).2.2 = true ∧ l = (cut1 l b).1 ++ b :: (cut1 l b).2.1 ∧ splitF l b = (cut1 l b).1 :: splitF (cut1 l b).2.1 b := by
 have hc := split_cut b l
 cases hf : (cut1 l b).2.2 with
 | false => rw [hc, hf] at h; simp at h
 | true => rw [hf, if_pos rfl] at hc; exact ⟨rfl, cut1_found l b hf, hc⟩
theorem split_one {l : List UInt8} {b : UInt8} (h : (splitF l b).length = 1) : splitF l b = [l] := by
 have hc := split_cut b l
 cases hf : (cut1 l b).2.2 with
 | false => rw [hf, if_neg (by simp), cut1_lost l b hf] at hc; exact hc
 | true =>
  rw [hf, if_pos rfl] at hc
  rw [hc] at h
  have := splitF_ne (cut1 l b).2.1 b
  simp at h
  rw [h] at this; simp at this
theorem split_drop {L rem : List UInt8} {b : UInt8} {k : Nat} (h : (splitF L b).drop k = splitF rem b) (hk : k + 1 < (splitF L b).length) :
  (cut1 rem b).2.2 = true ∧ rem = (cut1 rem b).1 ++ b :: (cut1 rem b).2.1 ∧ (splitF L b)[k]? = some (cut1 rem b).1 ∧ (splitF L b).drop (k + 1) = splitF (cut1 rem b).2.1 b := by
 have hl : 2 ≤ (splitF rem b).length := by rw [← h, List.length_drop]; omega
 obtain ⟨h1, h2, h3⟩ := split_two hl
 refine ⟨h1, h2, ?_, ?_⟩
 ·have : ((splitF L b).drop k)[0]? = some (cut1 rem b).1 := by rw [h, h3]; rfl
  rwa [List.getElem?_drop, Nat.add_zero] at this
 ·rw [← List.drop_drop, h, h3]; rfl
theorem split_last {L rem : List UInt8} {b : UInt8} {k : Nat} (h : (splitF L b).drop k = splitF rem b) (hk : k + 1 = (splitF L b).length) : (splitF L b)[k]? = some rem := by
 have hl : (splitF rem b).length = 1 := by rw [← h, List.length_drop]; omega
 have : ((splitF L b).drop k)[0]? = some rem := by rw [h, split_one hl]; rfl
 rwa [List.getElem?_drop, Nat.add_zero] at this
theorem decFrom_app : ∀ (a b : List UInt8) (n : Nat), Lib.decFrom n (a ++ b) = (Lib.decFrom n a).bind fun m => Lib.decFrom m b
 | [], b, n => rfl
 | c :: a, b, n => by
  rw [List.cons_append, Lib.decFrom, Lib.decFrom]
  cases Lib.digitVal c with
  | none => rfl
  | some d => exact decFrom_app a b _
theorem digB_val {d : Nat} (h : d < 10) : Lib.digitVal (digB d) = some d := by
 have : d = 0 ∨ d = 1 ∨ d = 2 ∨ d = 3 ∨ d = 4 ∨ d = 5 ∨ d = 6 ∨ d = 7 ∨ d = 8 ∨ d = 9 := by omega
 rcases this with rfl | rfl | rfl | rfl | rfl | rfl | rfl | rfl | rfl | rfl <;> rfl
theorem digB_di {d : Nat} (h : d < 10) : diC (digB d) = true := by
 have : d = 0 ∨ d = 1 ∨ d = 2 ∨ d = 3 ∨ d = 4 ∨ d = 5 ∨ d = 6 ∨ d = 7 ∨ d = 8 ∨ d = 9 := by omega
 rcases this with rfl | rfl | rfl | rfl | rfl | rfl | rfl | rfl | rfl | rfl <;> rfl
theorem dec_itoa : ∀ (m n : Nat), n < m → Lib.decFrom 0 (Lib.itoa (n : Int)) = some n ∧ Lib.itoa (n : Int) ≠ [] ∧ (Lib.itoa (n : Int)).all diC = true ∧ (n < 1000000 → (Lib.itoa (n : Int)).length ≤ 6)
 | 0, _, h => by omega
 | m + 1, n, h => by
  by_cases h10 : n < 10
  ·rw [itoa_small n (by omega) (by omega)]
   refine ⟨?_, by simp, ?_, by simp⟩
   ·rw [Lib.decFrom, digB_val (by omega)]; simp [Lib.decFrom]
   ·simp only [List.all_cons, List.all_nil, Bool.and_true]; exact digB_di (by omega)
  ·rw [itoa_step n (by omega)]
   have e : ((n : Int) / 10) = ((n / 10 : Nat) : Int) := by omega
   obtain ⟨i1, i2, i3, -⟩ := dec_itoa m (n / 10) (by omega)
   have hd : ((n : Int) % 10).toNat < 10 := by omega
   rw [e]
   refine ⟨?_, by simp, ?_, fun h6 => ?_⟩
   ·rw [decFrom_app, i1]
    show Lib.decFrom _ [digB _] = _
    rw [Lib.decFrom, digB_val hd]
    simp only [Lib.decFrom, Option.some.injEq]; omega
   ·rw [List.all_append, i3]; simp [digB_di hd]
   ·rw [← e, ← itoa_step n (by omega)]
    exact itoa_le6 _ h6
 where
 itoa_le6 (n : Nat) (h : n < 1000000) : (Lib.itoa (n : Int)).length ≤ 6 := by
  have : ∀ (d n : Nat), n < 10 ^ (d + 1) → (Lib.itoa (n : Int)).length ≤ d + 1 := by
   intro d
   induction d with
   | zero => intro n hn; rw [itoa_small n (by omega) (by simp at hn; omega)]; simp
   | succ d ih =>
    intro n hn
    by_cases h10 : n < 10
    ·rw [itoa_small n (by omega) (by omega)]; simp
    ·rw [itoa_step n (by omega), show ((n : Int) / 10) = ((n / 10 : Nat) : Int) by omega, List.length_append]
     have := ih (n / 10) (by rw [Nat.pow_succ] at hn; omega)
     simp only [List.length_cons, List.length_nil]; omega
  exact this 5 n (by omega)
theorem itoaN {n : Nat} : Lib.decFrom 0 (Lib.itoa (n : Int)) = some n ∧ Lib.itoa (n : Int) ≠ [] ∧ (Lib.itoa (n : Int)).all diC = true ∧ (n < 1000000 → (Lib.itoa (n : Int)).length ≤ 6) := dec_itoa (n + 1) n (by omega)
theorem all_noC {l : List UInt8} (h : l.all diC = true) {c : UInt8} (hc : diC c = false) : ∀ x ∈ l, x ≠ c := fun x hx e => by
 have := List.all_eq_true.1 h x hx
 rw [e, hc] at this; cases this
theorem atoi_nat {l : List UInt8} (h0 : l ≠ []) (h : l.all diC = true) : Lib.atoi l = (Lib.decFrom 0 l).map fun (m : Nat) => (m : Int) := by
 match l, h0 with
 | c :: r, _ =>
  have hc : diC c = true := by simp at h; exact h.1
  have h1 : (c == 45) = false := by rw [beq_eq_false_iff_ne]; rintro rfl; cases hc
  have h2 : (c == 43) = false := by rw [beq_eq_false_iff_ne]; rintro rfl; cases hc
  rw [Lib.atoi, h1, h2]
  rfl
theorem atoi_itoa (n : Int) : Lib.atoi (Lib.itoa n) = some n := by
 by_cases h : n < 0
 ·obtain ⟨m, hm⟩ : ∃ m : Nat, -n = (m : Int) := ⟨(-n).toNat, by omega⟩
  obtain ⟨h1, h2, h3, -⟩ := itoaN (n := m)
  rw [itoa_neg n h, hm, Lib.atoi]
  show (Lib.decNat _).map _ = _
  rw [Lib.decNat, if_neg (by simpa using h2), h1]
  simp only [Option.map_some, Option.some.injEq]; omega
 ·obtain ⟨m, rfl⟩ : ∃ m : Nat, n = (m : Int) := ⟨n.toNat, by omega⟩
  obtain ⟨h1, h2, h3, -⟩ := itoaN (n := m)
  rw [atoi_nat h2 h3, h1]; rfl
def rdInt (l : List UInt8) : Option Int := match Lib.atoi l with
 | some n => if inB n (-999999) 999999 && (Lib.itoa n == l) then some n else none
 | none => none
theorem rdInt_of {l : List UInt8} {n : Int} (h : rdInt l = some n) : -999999 ≤ n ∧ n ≤ 999999 ∧ Lib.itoa n = l := by
 unfold rdInt at h
 split at h
 ·split at h
  ·rename_i hb
   simp only [inB, Bool.and_eq_true, decide_eq_true_eq, beq_iff_eq] at hb
   injection h with h
   subst h
   exact ⟨hb.1.1, hb.1.2, hb.2⟩
  ·cases h
 ·cases h
theorem rdInt_itoa {n : Int} (h0 : -999999 ≤ n) (h1 : n ≤ 999999) : rdInt (Lib.itoa n) = some n := by
 rw [rdInt, atoi_itoa]
 simp [inB, h0, h1]
theorem rdInt_len {l : List UInt8} {n : Int} (h : rdInt l = some n) : l.length ≤ 7 := by
 obtain ⟨h1, h2, rfl⟩ := rdInt_of h
 by_cases h0 : n < 0
 ·obtain ⟨m, hm⟩ : ∃ m : Nat, -n = (m : Int) := ⟨(-n).toNat, by omega⟩
  have := (itoaN (n := m)).2.2.2 (by omega)
  rw [itoa_neg n h0, hm, List.length_cons]; omega
 ·obtain ⟨m, rfl⟩ : ∃ m : Nat, n = (m : Int) := ⟨n.toNat, by omega⟩
  have := (itoaN (n := m)).2.2.2 (by omega)
  omega
def rdTail (l : List UInt8) : List UInt8 := if decide (1 < l.length) && (l.head? == some 45) then l.tail else l
theorem rdTail_cons (c : UInt8) (r : List UInt8) : rdTail (c :: r) = if r ≠ [] ∧ c = 45 then r else c :: r := by
 rw [rdTail]
 cases r with
 | nil => simp
 | cons d r => simp
def rdRef (l : List UInt8) : Option Int :=
 if 1 ≤ (rdTail l).length ∧ (rdTail l).length ≤ 6 then match Lib.decFrom 0 (rdTail l) with
  | some v => if Lib.itoa (if (rdTail l).length < l.length then -(v : Int) else v) = l then some (if (rdTail l).length < l.length then -(v : Int) else v) else none
  | none => none
 else none
theorem decFrom_lt6 : ∀ (l : List UInt8) (k acc v : Nat), acc < 10 ^ k → Lib.decFrom acc l = some v → v < 10 ^ (k + l.length)
 | [], k, acc, v, h, hd => by rw [Lib.decFrom] at hd; injection hd with hd; subst hd; simpa using h
 | c :: r, k, acc, v, h, hd => by
  rw [Lib.decFrom] at hd
  cases hc : Lib.digitVal c with
  | none => rw [hc] at hd; cases hd
  | some d =>
   rw [hc] at hd
   have hd9 : d ≤ 9 := by unfold Lib.digitVal at hc; split at hc <;> simp at hc; omega
   have := decFrom_lt6 r (k + 1) (acc * 10 + d) v (by rw [Nat.pow_succ]; omega) hd
   rw [List.length_cons, show k + (r.length + 1) = k + 1 + r.length by omega]
   exact this
theorem rdRef_eq (l : List UInt8) : rdRef l = rdInt l := by
 cases hr : rdInt l with
 | some n =>
  obtain ⟨h1, h2, h3⟩ := rdInt_of hr
  by_cases h0 : n < 0
  ·obtain ⟨m, hm⟩ : ∃ m : Nat, -n = (m : Int) := ⟨(-n).toNat, by omega⟩
   obtain ⟨i1, i2, i3, i4⟩ := itoaN (n := m)
   have hl : l = 45 :: Lib.itoa (m : Int) := by rw [← h3, itoa_neg n h0, hm]
   have ht : rdTail l = Lib.itoa (m : Int) := by rw [hl, rdTail_cons, if_pos ⟨i2, rfl⟩]
   have hp : 0 < (Lib.itoa (m : Int)).length := List.length_pos_iff.2 i2
   have hlt : (rdTail l).length < l.length := by rw [ht, hl]; simp
   rw [rdRef, if_pos (by rw [ht]; exact ⟨hp, i4 (by omega)⟩), ht, i1]
   simp only [ht] at hlt
   simp only [if_pos hlt]
   rw [show -(m : Int) = n by omega, if_pos h3]
  ·obtain ⟨m, rfl⟩ : ∃ m : Nat, n = (m : Int) := ⟨n.toNat, by omega⟩
   obtain ⟨i1, i2, i3, i4⟩ := itoaN (n := m)
   have hp : 0 < (Lib.itoa (m : Int)).length := List.length_pos_iff.2 i2
   have ht : rdTail l = l := by
    rw [← h3]
    match hi : Lib.itoa (m : Int), i2 with
    | c :: r, _ =>
     rw [rdTail_cons, if_neg]
     rintro ⟨-, rfl⟩
     rw [hi] at i3; simp at i3; exact absurd i3.1 (by decide)
   rw [rdRef, ht, if_pos (by rw [← h3]; exact ⟨hp, i4 (by omega)⟩)]
   rw [← h3, i1]
   simp
 | none =>
  rw [rdRef]
  split
  ·rename_i hlen
   cases hd : Lib.decFrom 0 (rdTail l) with
   | none => rfl
   | some v =>
    have hv := decFrom_lt6 _ 0 0 v (by simp) hd
    have hp : 10 ^ (0 + (rdTail l).length) ≤ 10 ^ 6 := Nat.pow_le_pow_right (by decide) (by omega)
    have e6 : (10 : Nat) ^ 6 = 1000000 := by decide
    simp only
    generalize hm : (if (rdTail l).length < l.length then -(v : Int) else v) = m
    have hm1 : -999999 ≤ m ∧ m ≤ 999999 := by subst hm; split <;> omega
    by_cases hi : Lib.itoa m = l
    ·rw [← hi, rdInt_itoa hm1.1 hm1.2] at hr
     cases hr
    ·rw [if_neg hi]
  ·rfl
def rdAll : List (List UInt8) → Option (List Int)
 | [] => some []
 | a :: l => match rdInt a with | none => none | some n => (rdAll l).map (n :: ·)
theorem rdAll_snoc : ∀ (ws : List (List UInt8)) (a : List UInt8), rdAll (ws ++ [a]) = (rdAll ws).bind fun l => (rdInt a).map fun n => l ++ [n]
 | [], a => by cases h : rdInt a <;> simp [rdAll, h]
 | b :: ws, a => by
  rw [List.cons_append, rdAll, rdAll]
  cases rdInt b with
  | none => rfl
  | some n =>
   simp only
   rw [rdAll_snoc ws a]
   cases rdAll ws with
   | none => rfl
   | some l => cases rdInt a <;> simp
theorem rdAll_none {ws : List (List UInt8)} {a : List UInt8} (h : a ∈ ws) (hr : rdInt a = none) : rdAll ws = none := by
 induction ws with
 | nil => cases h
 | cons b ws ih =>
  rw [rdAll]
  rcases List.mem_cons.1 h with rfl | h
  ·rw [hr]
  ·cases rdInt b with
   | none => rfl
   | some n => simp only; rw [ih h]; rfl
theorem rdAll_back : ∀ {ws : List (List UInt8)} {l : List Int}, rdAll ws = some l → l.map Lib.itoa = ws ∧ (∀ n ∈ l, -999999 ≤ n ∧ n ≤ 999999)
 | [], l, h => by rw [rdAll] at h; injection h with h; subst h; exact ⟨rfl, by simp⟩
 | a :: ws, l, h => by
  rw [rdAll] at h
  cases ha : rdInt a with
  | none => rw [ha] at h; cases h
  | some n =>
   rw [ha] at h
   cases hw : rdAll ws with
   | none => rw [hw] at h; cases h
   | some l' =>
    rw [hw] at h
    simp only [Option.map_some, Option.some.injEq] at h
    subst h
    obtain ⟨h1, h2⟩ := rdAll_back hw
    obtain ⟨h3, h4, h5⟩ := rdInt_of ha
    refine ⟨by rw [List.map_cons, h5, h1], fun x hx => ?_⟩
    rcases List.mem_cons.1 hx with rfl | hx
    ·exact ⟨h3, h4⟩
    ·exact h2 x hx
theorem rdAll_itoa : ∀ (l : List Int), (∀ n ∈ l, -999999 ≤ n ∧ n ≤ 999999) → rdAll (l.map Lib.itoa) = some l
 | [], _ => rfl
 | n :: l, h => by
  rw [List.map_cons, rdAll, rdInt_itoa (h n (by simp)).1 (h n (by simp)).2]
  simp only
  rw [rdAll_itoa l (fun x hx => h x (List.mem_cons_of_mem _ hx))]
  rfl
theorem splitF_app (b : UInt8) (L : List UInt8) : ∀ a : List UInt8, (∀ x ∈ a, x ≠ b) → splitF (a ++ b :: L) b = a :: splitF L b
 | [], _ => by
  rw [List.nil_append, splitF_cons, if_pos (by simp)]
 | c :: a, h => by
  have ih := splitF_app b L a (fun x hx => h x (List.mem_cons_of_mem _ hx))
  rw [List.cons_append, splitF_cons, if_neg (by simpa using h c (by simp)), ih]
theorem splitF_none (b : UInt8) : ∀ a : List UInt8, (∀ x ∈ a, x ≠ b) → splitF a b = [a]
 | [], _ => rfl
 | c :: a, h => by
  have ih := splitF_none b a (fun x hx => h x (List.mem_cons_of_mem _ hx))
  rw [splitF_cons, if_neg (by simpa using h c (by simp)), ih]
theorem splitF_join (b : UInt8) : ∀ ls : List (List UInt8), ls ≠ [] → (∀ l ∈ ls, ∀ x ∈ l, x ≠ b) → splitF (joinB [b] ls) b = ls
 | [], h, _ => absurd rfl h
 | [a], _, h => by rw [joinB]; exact splitF_none b a (h a (by simp))
 | a :: c :: ls, _, h => by
  have ih := splitF_join b (c :: ls) (by simp) (fun l hl => h l (List.mem_cons_of_mem _ hl))
  rw [joinB, List.append_assoc, List.singleton_append, splitF_app b _ a (h a (by simp)), ih]
theorem joinF_split (b : UInt8) : ∀ l : List UInt8, joinB [b] (splitF l b) = l
 | [] => rfl
 | c :: l => by
  have ih := joinF_split b l
  have hne := splitF_ne l b
  rw [splitF_cons]
  match hs : splitF l b, hne with
  | p :: ps, _ =>
   rw [hs] at ih
   split
   ·rename_i he
    have he : c = b := by simpa using he
    subst he
    rw [joinB, ih]; rfl
   ·simp only
    cases ps with
    | nil => rw [joinB] at ih ⊢; rw [ih]
    | cons q ps => rw [joinB] at ih ⊢; rw [← ih]; simp
def rdPos (l : List UInt8) : Option (List Int) := if l = [45] then some [] else match rdAll (splitF l 46) with
 | some x => if posB x then some x else none
 | none => none
theorem posB_dec {l : List Int} (h : posB l = true) : ∀ n ∈ l, 0 ≤ n ∧ n ≤ 3 := by
 simp only [posB, Bool.and_eq_true, decide_eq_true_eq, List.all_eq_true] at h
 intro n hn
 have := h.2 n hn
 simp only [inB, Bool.and_eq_true, decide_eq_true_eq] at this
 exact this
theorem itoa_di {n : Int} (h : 0 ≤ n) : Lib.itoa n ≠ [] ∧ (Lib.itoa n).all diC = true := by
 obtain ⟨m, rfl⟩ : ∃ m : Nat, n = (m : Int) := ⟨n.toNat, by omega⟩
 exact ⟨itoaN.2.1, itoaN.2.2.1⟩
def posC (c : UInt8) : Bool := diC c || c == 46
theorem join_posC : ∀ (ls : List (List UInt8)), (∀ l ∈ ls, l.all diC = true) → (joinB [46] ls).all posC = true
 | [], _ => rfl
 | [a], h => by
  rw [joinB, List.all_eq_true]
  intro x hx
  rw [posC, List.all_eq_true.1 (h a (by simp)) x hx]; rfl
 | a :: c :: ls, h => by
  have ih := join_posC (c :: ls) (fun l hl => h l (List.mem_cons_of_mem _ hl))
  rw [joinB, List.all_append, List.all_append, ih]
  have : a.all posC = true := by
   rw [List.all_eq_true]
   intro x hx
   rw [posC, List.all_eq_true.1 (h a (by simp)) x hx]; rfl
  rw [this]; rfl
theorem rdPos_posT {l : List Int} (h0 : l ≠ []) (h : posB l = true) : rdPos (posT l) = some l ∧ (posT l).all posC = true ∧ posT l ≠ [] := by
 have hd := posB_dec h
 have hall : ∀ x ∈ l.map Lib.itoa, x.all diC = true := fun x hx => by
  obtain ⟨y, hy, rfl⟩ := List.mem_map.1 hx
  exact (itoa_di (hd y hy).1).2
 have hp := join_posC _ hall
 rw [posT, if_neg h0]
 have hne : joinB [46] (l.map Lib.itoa) ≠ [] := posT_ne' l h0 (fun x hx => (itoa_di (hd x hx).1).1)
 refine ⟨?_, hp, hne⟩
 rw [rdPos, if_neg, splitF_join 46 _ (by simpa using h0) (fun x hx => all_noC (hall x hx) (by decide)), rdAll_itoa l (fun n hn => by have := hd n hn; omega)]
 ·simp only; rw [if_pos h]
 ·intro e
  rw [e] at hp; cases hp
 where
 posT_ne' : ∀ (l : List Int), l ≠ [] → (∀ x ∈ l, Lib.itoa x ≠ []) → joinB [46] (l.map Lib.itoa) ≠ []
  | [], h, _ => absurd rfl h
  | [a], _, h => by simpa [joinB] using h a (by simp)
  | a :: b :: l, _, h => by
   rw [List.map_cons, List.map_cons, joinB]
   simp
end Go.Proofs.YtabkdonplmlbcaaGreatDoor
