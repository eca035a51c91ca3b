import Derived.Lib.Strings
import Derived.Test.YtabkdonplmlbcaaGreatDoorStPart15
import Derived.Test.YtabkdonplmlbcaaGreatDoorStPart16
namespace Go.Proofs.YtabkdonplmlbcaaGreatDoor
set_option maxRecDepth 100000
open Go.RowKit
def sDot : List UInt8 := [46, 32]
def sRdR : List UInt8 := [32, 114, 101, 97, 100, 32, 102, 114, 111, 109, 32, 116, 104, 101, 32, 114, 105, 103, 104, 116]
def sRdL : List UInt8 := [32, 114, 101, 97, 100, 32, 102, 114, 111, 109, 32, 116, 104, 101, 32, 108, 101, 102, 116]
def digs (L : List UInt8) (p : PSt) : List UInt8 := (L.drop p.pos).takeWhile diC
def iNum (L : List UInt8) (p : PSt) : Int × PSt := ((rdInt (digs L p)).getD 0 - 1, ⟨p.pos + (digs L p).length, p.bad || (rdInt (digs L p)).isNone⟩)
def rDig (L : List UInt8) (p : PSt) : List UInt8 := if p.bad then [] else digs L p
def rNum (L : List UInt8) (p : PSt) : Int × PSt := ((rdInt (rDig L p)).getD 0, ⟨p.pos + (rDig L p).length, p.bad || (rdInt (rDig L p)).isNone⟩)
def iPlc (L : List UInt8) (p : PSt) : List UInt8 := (L.drop p.pos).takeWhile posC
def iPos (L : List UInt8) (p : PSt) : List Int × PSt := ((rdPos (iPlc L p)).getD [], ⟨p.pos + (iPlc L p).length, p.bad || (rdPos (iPlc L p)).isNone⟩)
def rPlc (L : List UInt8) (p : PSt) : List UInt8 := if p.bad then [] else (L.drop p.pos).takeWhile (fun c => c != 32)
def rPos (L : List UInt8) (p : PSt) : List Int × PSt := ((rdPos (rPlc L p)).getD [], ⟨p.pos + (rPlc L p).length, p.bad || (rdPos (rPlc L p)).isNone⟩)
def iRes (L : List UInt8) (x y : Int) (p : PSt) : Stp × PSt :=
 let b := iNum L p
 let c := iNum L (pMust L sWithL b.2)
 (⟨2, [x, y], [b.1, c.1], []⟩, c.2)
def iSup (L : List UInt8) (x y : Int) (p : PSt) : Stp × PSt :=
 let b := iNum L (pMust L sRepl p)
 let q := iPos L (pMust L sAt b.2)
 let c := iNum L (pMust L sWithL q.2)
 let m := pMust L sRead c.2
 if pTake L sLeft m then (⟨4, [x, y], c.1 :: 0 :: b.1 :: q.1, []⟩, pAdv sLeft m) else (⟨4, [x, y], c.1 :: 1 :: b.1 :: q.1, []⟩, pMust L sRight m)
def iBin (L : List UInt8) (x : Int) (p : PSt) : Stp × PSt :=
 let a := iNum L p
 if pTake L sResL a.2 then iRes L x a.1 (pAdv sResL a.2) else iSup L x a.1 a.2
def moreC (L : List UInt8) (p : PSt) : Bool := pTake L sComma p && (decide (p.pos + 2 < L.length) && diC (L.getD (p.pos + 2) 0))
def iMore (L : List UInt8) : Nat → PSt → List Int × PSt
 | 0, p => ([], p)
 | f + 1, p => if moreC L p then
   let q := iNum L (pMust L sComma p)
   let r := iMore L f q.2
   (q.1 :: r.1, r.2)
  else ([], p)
def iUn (L : List UInt8) (x : Int) (p : PSt) : Stp × PSt :=
 if pTake L sMerge p then
  let a := iNum L (pAdv sMerge p)
  let b := iNum L (pMust L sAnd a.2)
  (⟨3, [x], [a.1, b.1], []⟩, b.2)
 else if pTake L sRem p then
  let a := iNum L (pAdv sRem p)
  (⟨5, [x], [a.1], []⟩, a.2)
 else
  let a := iNum L (pMust L sRew p)
  let r := iMore L (L.length + 1) a.2
  (⟨6, x :: a.1 :: r.1, [], []⟩, r.2)
def iOrg (L : List UInt8) (p : PSt) : Stp × PSt :=
 if pTake L sByAx p then
  let a := iNum L (pAdv sByAx p)
  (⟨1, [], [a.1], []⟩, a.2)
 else
  let a := iNum L (pMust L sFrom p)
  if pTake L sAnd a.2 then iBin L a.1 (pAdv sAnd a.2) else iUn L a.1 a.2
def iStp (L : List UInt8) : Int × Stp × PSt :=
 let k := iNum L ⟨0, false⟩
 let o := iOrg L (pMust L sDot k.2)
 (k.1, o.1, pMust L sComma o.2)
def rMore (L : List UInt8) : Nat → PSt → List Int × PSt
 | 0, p => ([], p)
 | f + 1, p => if moreC L p then
   let q := rNum L (pAdv sComma p)
   let r := rMore L f q.2
   ((q.1 - 1) :: r.1, r.2)
  else ([], p)
def rTwo (L : List UInt8) (rule : Int) (ps : List Int) (sep : List UInt8) (p : PSt) : Stp × PSt :=
 let b := rNum L p
 let c := rNum L (pMust L sep b.2)
 (⟨rule, ps, [b.1 - 1, c.1 - 1], []⟩, c.2)
def rSup (L : List UInt8) (ps : List Int) (p : PSt) : Stp × PSt :=
 let b := rNum L p
 let q := rPos L (pMust L sAt b.2)
 let c := rNum L (pMust L sWithL q.2)
 if pTake L sRdR c.2 then (⟨4, ps, (c.1 - 1) :: 1 :: (b.1 - 1) :: q.1, []⟩, pAdv sRdR c.2) else (⟨4, ps, (c.1 - 1) :: 0 :: (b.1 - 1) :: q.1, []⟩, pMust L sRdL c.2)
def rRest (L : List UInt8) (ps : List Int) (p : PSt) : Stp × PSt :=
 if pTake L sResL p then rTwo L 2 ps sWithL (pAdv sResL p)
 else if pTake L sMerge p then rTwo L 3 ps sAnd (pAdv sMerge p)
 else if pTake L sRem p then
  let a := rNum L (pAdv sRem p)
  (⟨5, ps, [a.1 - 1], []⟩, a.2)
 else if pTake L sRepl p then rSup L ps (pAdv sRepl p)
 else
  let a := rNum L (pMust L sRew p)
  let r := rMore L (10 - ps.length) a.2
  (⟨6, ps ++ (a.1 - 1) :: r.1, [], []⟩, r.2)
def rOrg (L : List UInt8) (p : PSt) : Stp × PSt :=
 if pTake L sByAx p then
  let a := rNum L (pAdv sByAx p)
  (⟨1, [], [a.1 - 1], []⟩, a.2)
 else
  let a := rNum L (pMust L sFrom p)
  if pTake L sAnd a.2 then
   let b := rNum L (pAdv sAnd a.2)
   rRest L [a.1 - 1, b.1 - 1] b.2
  else rRest L [a.1 - 1] a.2
def rStp (L : List UInt8) : Int × Stp × PSt :=
 let k := rNum L ⟨0, false⟩
 let o := rOrg L (pMust L sDot k.2)
 (k.1 - 1, o.1, pMust L sComma o.2)
def noDig (R : List UInt8) : Prop := ∀ c, R.head? = some c → diC c = false
theorem noDig_app (t R : List UInt8) (h : t ≠ [] ∧ (t.head?.any diC) = false) : noDig (t ++ R) := by
 intro c hc
 match t, h with
 | d :: t, h =>
  simp only [List.cons_append, List.head?_cons, Option.some.injEq] at hc
  subst hc
  simpa using h.2
theorem digs_ok {L R : List UInt8} {k : Nat} {b : Bool} {n : Int} (h0 : 0 ≤ n) (hL : L.drop k = cnt n ++ R) (hR : noDig R) : digs L ⟨k, b⟩ = cnt n := by
 rw [digs, hL]
 exact takeWhile_app (itoa_di (by omega)).2 hR
theorem iNum_ok {L R : List UInt8} {k : Nat} {n : Int} (h : 0 ≤ n ∧ n ≤ 99) (hL : L.drop k = cnt n ++ R) (hR : noDig R) : iNum L ⟨k, false⟩ = (n, ⟨k + (cnt n).length, false⟩) := by
 rw [iNum, digs_ok h.1 hL hR, cnt, rdInt_itoa (by omega) (by omega)]
 simp
theorem rNum_ok {L R : List UInt8} {k : Nat} {n : Int} (h : 0 ≤ n ∧ n ≤ 99) (hL : L.drop k = cnt n ++ R) (hR : noDig R) : rNum L ⟨k, false⟩ = (n + 1, ⟨k + (cnt n).length, false⟩) := by
 rw [rNum, rDig, if_neg (by simp), digs_ok h.1 hL hR, cnt, rdInt_itoa (by omega) (by omega)]
 simp
theorem iPos_ok {L R : List UInt8} {k : Nat} {l : List Int} (h0 : l ≠ []) (h : posB l = true) (hL : L.drop k = posT l ++ R) (hR : ∀ c, R.head? = some c → posC c = false) : iPos L ⟨k, false⟩ = (l, ⟨k + (posT l).length, false⟩) := by
 obtain ⟨h1, h2, -⟩ := rdPos_posT h0 h
 have e : iPlc L ⟨k, false⟩ = posT l := by rw [iPlc, hL]; exact takeWhile_app h2 hR
 rw [iPos, e, h1]; simp
theorem rPos_ok {L R : List UInt8} {k : Nat} {l : List Int} (h0 : l ≠ []) (h : posB l = true) (hL : L.drop k = posT l ++ 32 :: R) : rPos L ⟨k, false⟩ = (l, ⟨k + (posT l).length, false⟩) := by
 obtain ⟨h1, h2, -⟩ := rdPos_posT h0 h
 have e : rPlc L ⟨k, false⟩ = posT l := by
  rw [rPlc, if_neg (by simp), hL]
  refine takeWhile_app ?_ (fun c hc => by simp at hc; subst hc; rfl)
  rw [List.all_eq_true]
  intro x hx
  have := List.all_eq_true.1 h2 x hx
  rw [bne_iff_ne]; rintro rfl; revert this; decide
 rw [rPos, e, h1]; simp
theorem prod_st {α : Type} {a : α} {j k : Nat} (h : j = k) : (a, (⟨j, false⟩ : PSt)) = (a, ⟨k, false⟩) := by rw [h]
def moreT : List Int → List UInt8
 | [] => []
 | n :: l => sComma ++ (cnt n ++ moreT l)
theorem joinB_more (n : Int) : ∀ l : List Int, joinB sComma ((n :: l).map cnt) = cnt n ++ moreT l
 | [] => by simp [joinB, moreT]
 | m :: l => by
  have ih := joinB_more m l
  rw [List.map_cons] at ih
  rw [List.map_cons, List.map_cons, joinB, ih, moreT]; simp [List.append_assoc]
theorem getD_drop0 {L X : List UInt8} {k : Nat} {c : UInt8} (h : L.drop k = c :: X) : L.getD k 0 = c := by
 have h1 : (L.drop k)[0]? = some c := by rw [h]; rfl
 rw [List.getElem?_drop] at h1
 rw [List.getD_eq_getElem?_getD, show k = k + 0 from rfl, h1]; rfl
theorem moreC_yes {L X : List UInt8} {k : Nat} {c : UInt8} (h : L.drop k = sComma ++ c :: X) (hc : diC c = true) : moreC L ⟨k, false⟩ = true := by
 have hl : (L.drop k).length = 2 + (X.length + 1) := by rw [h]; simp [sComma]; omega
 rw [List.length_drop] at hl
 have hg : L.getD (k + 2) 0 = c := by
  have := drop_adv h
  exact getD_drop0 this
 rw [moreC, pTake_yes h]
 simp only [hg, hc, Bool.and_true, Bool.true_and, decide_eq_true_eq]
 omega
theorem moreC_no {L X : List UInt8} {k : Nat} (h : L.drop k = sComma ++ X) (hX : noDig X) (h0 : X ≠ []) : moreC L ⟨k, false⟩ = false := by
 match X, h0 with
 | c :: X, _ =>
  have hc : diC c = false := hX c rfl
  have hg : L.getD (k + 2) 0 = c := by
   have := drop_adv h
   exact getD_drop0 this
  rw [moreC]
  simp only [hg, hc, Bool.and_false]
theorem cnt_cons {n : Int} (h : 0 ≤ n) : ∃ c r, cnt n = c :: r ∧ diC c = true := by
 obtain ⟨h1, h2⟩ := itoa_di (n := n + 1) (by omega)
 match hc : cnt n with
 | [] => exact absurd hc h1
 | c :: r => refine ⟨c, r, rfl, ?_⟩; rw [cnt] at hc; rw [hc] at h2; simp at h2; exact h2.1
theorem noDig_more {l : List Int} {X : List UInt8} : noDig (moreT l ++ (sComma ++ X)) := by
 cases l with
 | nil => exact noDig_app sComma X (by decide)
 | cons n l => rw [moreT, List.append_assoc]; exact noDig_app _ _ (by decide)
theorem iMore_ok {L X : List UInt8} (hX : noDig X) (h0 : X ≠ []) : ∀ (l : List Int) (f k : Nat), (∀ n ∈ l, 0 ≤ n ∧ n ≤ 99) → l.length < f → L.drop k = moreT l ++ (sComma ++ X) → iMore L f ⟨k, false⟩ = (l, ⟨k + (moreT l).length, false⟩)
 | _, 0, _, _, h, _ => by omega
 | [], f + 1, k, _, _, hL => by
  rw [iMore, if_neg (by rw [moreC_no hL hX h0]; simp)]; rfl
 | n :: l, f + 1, k, hn, hf, hL => by
  rw [moreT] at hL
  have e0 : L.drop k = sComma ++ (cnt n ++ (moreT l ++ (sComma ++ X))) := by rw [hL]; simp [List.append_assoc]
  have e1 := drop_adv e0
  have e2 := drop_adv e1
  obtain ⟨c, r, hc, hd⟩ := cnt_cons (hn n (by simp)).1
  have hm : moreC L ⟨k, false⟩ = true := moreC_yes (X := r ++ (moreT l ++ (sComma ++ X))) (by rw [e0, hc]; rfl) hd
  have h1 := pMust_yes e0
  have h2 := iNum_ok (hn n (by simp)) e1 noDig_more
  have h3 := iMore_ok hX h0 l f _ (fun x hx => hn x (List.mem_cons_of_mem _ hx)) (by simp at hf; omega) e2
  rw [iMore, if_pos hm]
  simp only [h1, h2, h3]
  refine prod_st ?_
  rw [moreT, List.length_append, List.length_append]; omega
theorem rMore_ok {L X : List UInt8} (hX : noDig X) (h0 : X ≠ []) : ∀ (l : List Int) (f k : Nat), (∀ n ∈ l, 0 ≤ n ∧ n ≤ 99) → l.length ≤ f → L.drop k = moreT l ++ (sComma ++ X) → rMore L f ⟨k, false⟩ = (l, ⟨k + (moreT l).length, false⟩)
 | [], 0, k, _, _, hL => rfl
 | n :: l, 0, _, _, h, _ => by simp at h
 | [], f + 1, k, _, _, hL => by
  rw [rMore, if_neg (by rw [moreC_no hL hX h0]; simp)]; rfl
 | n :: l, f + 1, k, hn, hf, hL => by
  rw [moreT] at hL
  have e0 : L.drop k = sComma ++ (cnt n ++ (moreT l ++ (sComma ++ X))) := by rw [hL]; simp [List.append_assoc]
  have e1 := drop_adv e0
  have e2 := drop_adv e1
  obtain ⟨c, r, hc, hd⟩ := cnt_cons (hn n (by simp)).1
  have hm : moreC L ⟨k, false⟩ = true := moreC_yes (X := r ++ (moreT l ++ (sComma ++ X))) (by rw [e0, hc]; rfl) hd
  have h2 := rNum_ok (hn n (by simp)) e1 noDig_more
  have h3 := rMore_ok hX h0 l f _ (fun x hx => hn x (List.mem_cons_of_mem _ hx)) (by simp at hf; omega) e2
  rw [rMore, if_pos hm]
  simp only [pAdv, h2, h3]
  rw [show n + 1 - 1 = n by omega]
  refine prod_st ?_
  rw [moreT, List.length_append, List.length_append]; omega
def n99 (n : Int) : Prop := 0 ≤ n ∧ n ≤ 99
theorem iOrg_ok {L X : List UInt8} {j : Nat} {s : Stp} (hX : noDig X) (h0 : X ≠ []) (hg : s.nums = true) (hp : ∀ n ∈ s.ps, n99 n) (hw : ∀ n ∈ s.wh, n99 n) (hlen : s.ps.length ≤ L.length) (hL : L.drop j = s.org ++ (sComma ++ X)) : iOrg L ⟨j, false⟩ = (⟨s.rule, s.ps, s.wh, []⟩, ⟨j + s.org.length, false⟩) := by
 have hc := Stp.nums_cases hg
 obtain ⟨ru, ps, wh, cl⟩ := s
 simp only at hc hp hw
 have nS : ∀ R, noDig (sAnd ++ R) := fun R => noDig_app _ _ (by decide)
 have nC : noDig (sComma ++ X) := noDig_app _ _ (by decide)
 rcases hc with ⟨rfl, rfl, a, rfl⟩ | ⟨rfl, ⟨x, y, rfl⟩, a, z, rfl⟩ | ⟨rfl, ⟨x, rfl⟩, a, z, rfl⟩ | ⟨rfl, ⟨x, y, rfl⟩, a, z, t, l, rfl, hl0, hz, hpl⟩ | ⟨rfl, ⟨x, rfl⟩, a, rfl⟩ | ⟨rfl, ⟨x, l, rfl, hl0, hl10⟩, rfl⟩
 ·have ha := hw a (by simp)
  have e0 : L.drop j = sByAx ++ (cnt a ++ (sComma ++ X)) := by rw [hL]; simp [Stp.org, List.append_assoc]
  have e1 := drop_adv e0
  have h1 := iNum_ok ha e1 nC
  simp only [iOrg, pTake_yes e0, pAdv, h1, if_true]
  refine prod_st ?_
  simp [Stp.org]; omega
 ·have hx := hp x (by simp)
  have hy := hp y (by simp)
  have ha := hw a (by simp)
  have hz := hw z (by simp)
  have e0 : L.drop j = sFrom ++ (cnt x ++ (sAnd ++ (cnt y ++ (sResL ++ (cnt a ++ (sWithL ++ (cnt z ++ (sComma ++ X)))))))) := by rw [hL]; simp [Stp.org, List.append_assoc]
  have e1 := drop_adv e0
  have e2 := drop_adv e1
  have e3 := drop_adv e2
  have e4 := drop_adv e3
  have e5 := drop_adv e4
  have e6 := drop_adv e5
  have e7 := drop_adv e6
  have hn : pTake L sByAx ⟨j, false⟩ = false := pTake_no e0 rfl
  have h1 := pMust_yes e0
  have h2 := iNum_ok hx e1 (noDig_app _ _ (by decide))
  have h3 := pTake_yes e2
  have h4 := iNum_ok hy e3 (noDig_app _ _ (by decide))
  have h5 := pTake_yes e4
  have h6 := iNum_ok ha e5 (noDig_app _ _ (by decide))
  have h7 := pMust_yes e6
  have h8 := iNum_ok hz e7 nC
  simp only [iOrg, hn, h1, h2, h3, pAdv, if_true, iBin, h4, h5, iRes, h6, h7, h8, Bool.false_eq_true, if_false]
  refine prod_st ?_
  simp [Stp.org]; omega
 ·have hx := hp x (by simp)
  have ha := hw a (by simp)
  have hz := hw z (by simp)
  have e0 : L.drop j = sFrom ++ (cnt x ++ (sMerge ++ (cnt a ++ (sAnd ++ (cnt z ++ (sComma ++ X)))))) := by rw [hL]; simp [Stp.org, List.append_assoc]
  have e1 := drop_adv e0
  have e2 := drop_adv e1
  have e3 := drop_adv e2
  have e4 := drop_adv e3
  have e5 := drop_adv e4
  have hn : pTake L sByAx ⟨j, false⟩ = false := pTake_no e0 rfl
  have h1 := pMust_yes e0
  have h2 := iNum_ok hx e1 (noDig_app _ _ (by decide))
  have h3 : pTake L sAnd _ = false := pTake_no e2 rfl
  have h4 := pTake_yes e2
  have h5 := iNum_ok ha e3 (noDig_app _ _ (by decide))
  have h6 := pMust_yes e4
  have h7 := iNum_ok hz e5 nC
  simp only [iOrg, hn, h1, h2, h3, pAdv, if_true, iUn, h4, h5, h6, h7, Bool.false_eq_true, if_false]
  refine prod_st ?_
  simp [Stp.org]; omega
 ·have hx := hp x (by simp)
  have hy := hp y (by simp)
  have ha := hw a (by simp)
  have ht := hw t (by simp)
  obtain ⟨sd, hsd⟩ : ∃ sd, sd = (if z = 1 then sRight else sLeft) := ⟨_, rfl⟩
  have e0 : L.drop j = sFrom ++ (cnt x ++ (sAnd ++ (cnt y ++ (sRepl ++ (cnt t ++ (sAt ++ (posT l ++ (sWithL ++ (cnt a ++ (sRead ++ (sd ++ (sComma ++ X)))))))))))) := by rw [hL, hsd]; simp [Stp.org, List.append_assoc]
  have e1 := drop_adv e0
  have e2 := drop_adv e1
  have e3 := drop_adv e2
  have e4 := drop_adv e3
  have e5 := drop_adv e4
  have e6 := drop_adv e5
  have e7 := drop_adv e6
  have e8 := drop_adv e7
  have e9 := drop_adv e8
  have e10 := drop_adv e9
  have e11 := drop_adv e10
  have hn : pTake L sByAx ⟨j, false⟩ = false := pTake_no e0 rfl
  have h1 := pMust_yes e0
  have h2 := iNum_ok hx e1 (noDig_app _ _ (by decide))
  have h3 := pTake_yes e2
  have h4 := iNum_ok hy e3 (noDig_app _ _ (by decide))
  have h5 : pTake L sResL _ = false := pTake_no e4 rfl
  have h6 := pMust_yes e4
  have h7 := iNum_ok ht e5 (noDig_app _ _ (by decide))
  have h8 := pMust_yes e6
  have h9 := iPos_ok hl0 hpl e7 (fun c hc => by simp [sWithL] at hc; subst hc; rfl)
  have h10 := pMust_yes e8
  have h11 := iNum_ok ha e9 (noDig_app _ _ (by decide))
  have h12 := pMust_yes e10
  simp only [iOrg, hn, h1, h2, h3, pAdv, if_true, iBin, h4, h5, iSup, h6, h7, h8, h9, h10, h11, h12, Bool.false_eq_true, if_false]
  rcases hz with rfl | rfl
  ·obtain rfl : sd = sLeft := hsd
   have h13 := pTake_yes e11
   simp only [h13, if_true]
   refine prod_st ?_
   simp [Stp.org]; omega
  ·obtain rfl : sd = sRight := hsd
   have h13 : pTake L sLeft _ = false := pTake_no e11 rfl
   have h14 := pMust_yes e11
   simp only [h13, h14, Bool.false_eq_true, if_false]
   refine prod_st ?_
   simp [Stp.org]; omega
 ·have hx := hp x (by simp)
  have ha := hw a (by simp)
  have e0 : L.drop j = sFrom ++ (cnt x ++ (sRem ++ (cnt a ++ (sComma ++ X)))) := by rw [hL]; simp [Stp.org, List.append_assoc]
  have e1 := drop_adv e0
  have e2 := drop_adv e1
  have e3 := drop_adv e2
  have hn : pTake L sByAx ⟨j, false⟩ = false := pTake_no e0 rfl
  have h1 := pMust_yes e0
  have h2 := iNum_ok hx e1 (noDig_app _ _ (by decide))
  have h3 : pTake L sAnd _ = false := pTake_no e2 rfl
  have h4 : pTake L sMerge _ = false := pTake_no e2 rfl
  have h5 := pTake_yes e2
  have h6 := iNum_ok ha e3 nC
  simp only [iOrg, hn, h1, h2, h3, pAdv, if_true, iUn, h4, h5, h6, Bool.false_eq_true, if_false]
  refine prod_st ?_
  simp [Stp.org]; omega
 ·have hx := hp x (by simp)
  match l, hl0 with
  | y :: l, _ =>
   have hy := hp y (by simp)
   have e0 : L.drop j = sFrom ++ (cnt x ++ (sRew ++ (cnt y ++ (moreT l ++ (sComma ++ X))))) := by
    rw [hL]; simp only [Stp.org, List.drop_succ_cons, List.drop_zero, joinB_more]; simp [List.append_assoc]
   have e1 := drop_adv e0
   have e2 := drop_adv e1
   have e3 := drop_adv e2
   have e4 := drop_adv e3
   have hn : pTake L sByAx ⟨j, false⟩ = false := pTake_no e0 rfl
   have h1 := pMust_yes e0
   have h2 := iNum_ok hx e1 (noDig_app _ _ (by decide))
   have h3 : pTake L sAnd _ = false := pTake_no e2 rfl
   have h4 : pTake L sMerge _ = false := pTake_no e2 rfl
   have h5 : pTake L sRem _ = false := pTake_no e2 rfl
   have h6 := pMust_yes e2
   have h7 := iNum_ok hy e3 noDig_more
   have h8 := iMore_ok hX h0 l (L.length + 1) _ (fun n hn => hp n (by simp [hn])) (by simp at hlen; omega) e4
   simp only [iOrg, hn, h1, h2, h3, pAdv, iUn, h4, h5, h6, h7, h8, Bool.false_eq_true, if_false]
   refine prod_st ?_
   simp only [Stp.org, List.drop_succ_cons, List.drop_zero, joinB_more]; simp; omega
theorem rOrg_ok {L X : List UInt8} {j : Nat} {s : Stp} (hX : noDig X) (h0 : X ≠ []) (hg : s.nums = true) (hp : ∀ n ∈ s.ps, n99 n) (hw : ∀ n ∈ s.wh, n99 n) (hL : L.drop j = s.org ++ (sComma ++ X)) : rOrg L ⟨j, false⟩ = (⟨s.rule, s.ps, s.wh, []⟩, ⟨j + s.org.length, false⟩) := by
 have hc := Stp.nums_cases hg
 obtain ⟨ru, ps, wh, cl⟩ := s
 simp only at hc hp hw
 have nC : noDig (sComma ++ X) := noDig_app _ _ (by decide)
 have e1s : ∀ n : Int, n + 1 - 1 = n := fun n => by omega
 rcases hc with ⟨rfl, rfl, a, rfl⟩ | ⟨rfl, ⟨x, y, rfl⟩, a, z, rfl⟩ | ⟨rfl, ⟨x, rfl⟩, a, z, rfl⟩ | ⟨rfl, ⟨x, y, rfl⟩, a, z, t, l, rfl, hl0, hz, hpl⟩ | ⟨rfl, ⟨x, rfl⟩, a, rfl⟩ | ⟨rfl, ⟨x, l, rfl, hl0, hl10⟩, rfl⟩
 ·have ha := hw a (by simp)
  have e0 : L.drop j = sByAx ++ (cnt a ++ (sComma ++ X)) := by rw [hL]; simp [Stp.org, List.append_assoc]
  have e1 := drop_adv e0
  have h1 := rNum_ok ha e1 nC
  simp only [rOrg, pTake_yes e0, pAdv, h1, if_true, e1s]
  refine prod_st ?_
  simp [Stp.org]; omega
 ·have hx := hp x (by simp)
  have hy := hp y (by simp)
  have ha := hw a (by simp)
  have hz := hw z (by simp)
  have e0 : L.drop j = sFrom ++ (cnt x ++ (sAnd ++ (cnt y ++ (sResL ++ (cnt a ++ (sWithL ++ (cnt z ++ (sComma ++ X)))))))) := by rw [hL]; simp [Stp.org, List.append_assoc]
  have e1 := drop_adv e0
  have e2 := drop_adv e1
  have e3 := drop_adv e2
  have e4 := drop_adv e3
  have e5 := drop_adv e4
  have e6 := drop_adv e5
  have e7 := drop_adv e6
  have hn : pTake L sByAx ⟨j, false⟩ = false := pTake_no e0 rfl
  have h1 := pMust_yes e0
  have h2 := rNum_ok hx e1 (noDig_app _ _ (by decide))
  have h3 := pTake_yes e2
  have h4 := rNum_ok hy e3 (noDig_app _ _ (by decide))
  have h5 := pTake_yes e4
  have h6 := rNum_ok ha e5 (noDig_app _ _ (by decide))
  have h7 := pMust_yes e6
  have h8 := rNum_ok hz e7 nC
  simp only [rOrg, hn, h1, h2, h3, pAdv, if_true, rRest, h4, h5, rTwo, h6, h7, h8, Bool.false_eq_true, if_false, e1s]
  refine prod_st ?_
  simp [Stp.org]; omega
 ·have hx := hp x (by simp)
  have ha := hw a (by simp)
  have hz := hw z (by simp)
  have e0 : L.drop j = sFrom ++ (cnt x ++ (sMerge ++ (cnt a ++ (sAnd ++ (cnt z ++ (sComma ++ X)))))) := by rw [hL]; simp [Stp.org, List.append_assoc]
  have e1 := drop_adv e0
  have e2 := drop_adv e1
  have e3 := drop_adv e2
  have e4 := drop_adv e3
  have e5 := drop_adv e4
  have hn : pTake L sByAx ⟨j, false⟩ = false := pTake_no e0 rfl
  have h1 := pMust_yes e0
  have h2 := rNum_ok hx e1 (noDig_app _ _ (by decide))
  have h3 : pTake L sAnd _ = false := pTake_no e2 rfl
  have h3' : pTake L sResL _ = false := pTake_no e2 rfl
  have h4 := pTake_yes e2
  have h5 := rNum_ok ha e3 (noDig_app _ _ (by decide))
  have h6 := pMust_yes e4
  have h7 := rNum_ok hz e5 nC
  simp only [rOrg, hn, h1, h2, h3, h3', pAdv, if_true, rRest, rTwo, h4, h5, h6, h7, Bool.false_eq_true, if_false, e1s]
  refine prod_st ?_
  simp [Stp.org]; omega
 ·have hx := hp x (by simp)
  have hy := hp y (by simp)
  have ha := hw a (by simp)
  have ht := hw t (by simp)
  obtain ⟨sd, hsd⟩ : ∃ sd, sd = sRead ++ (if z = 1 then sRight else sLeft) := ⟨_, rfl⟩
  have hs32 : ∃ r, sd = 32 :: r := by rw [hsd]; exact ⟨_, rfl⟩
  obtain ⟨sr, hsr⟩ := hs32
  have e0 : L.drop j = sFrom ++ (cnt x ++ (sAnd ++ (cnt y ++ (sRepl ++ (cnt t ++ (sAt ++ (posT l ++ (sWithL ++ (cnt a ++ (sd ++ (sComma ++ X))))))))))) := by rw [hL, hsd]; simp [Stp.org, List.append_assoc]
  have e1 := drop_adv e0
  have e2 := drop_adv e1
  have e3 := drop_adv e2
  have e4 := drop_adv e3
  have e5 := drop_adv e4
  have e6 := drop_adv e5
  have e7 := drop_adv e6
  have e8 := drop_adv e7
  have e9 := drop_adv e8
  have e10 := drop_adv e9
  have hn : pTake L sByAx ⟨j, false⟩ = false := pTake_no e0 rfl
  have h1 := pMust_yes e0
  have h2 := rNum_ok hx e1 (noDig_app _ _ (by decide))
  have h3 := pTake_yes e2
  have h4 := rNum_ok hy e3 (noDig_app _ _ (by decide))
  have h5 : pTake L sResL _ = false := pTake_no e4 rfl
  have h5' : pTake L sMerge _ = false := pTake_no e4 rfl
  have h5'' : pTake L sRem _ = false := pTake_no e4 rfl
  have h6 := pTake_yes e4
  have h7 := rNum_ok ht e5 (noDig_app _ _ (by decide))
  have h8 := pMust_yes e6
  have h9 := rPos_ok hl0 hpl e7
  have h10 := pMust_yes e8
  have h11 := rNum_ok ha e9 (by rw [hsr, List.cons_append]; exact noDig_app [32] _ (by decide))
  simp only [rOrg, hn, h1, h2, h3, pAdv, if_true, rRest, h4, h5, h5', h5'', rSup, h6, h7, h8, h9, h10, h11, Bool.false_eq_true, if_false, e1s]
  rcases hz with rfl | rfl
  ·obtain rfl : sd = sRdL := hsd
   have h13 : pTake L sRdR _ = false := pTake_no e10 rfl
   have h14 := pMust_yes e10
   simp only [h13, h14, Bool.false_eq_true, if_false]
   refine prod_st ?_
   simp [Stp.org, sRdL, sRead, sLeft]; omega
  ·obtain rfl : sd = sRdR := hsd
   have h13 := pTake_yes e10
   simp only [h13, if_true]
   refine prod_st ?_
   simp [Stp.org, sRdR, sRead, sRight]; omega
 ·have hx := hp x (by simp)
  have ha := hw a (by simp)
  have e0 : L.drop j = sFrom ++ (cnt x ++ (sRem ++ (cnt a ++ (sComma ++ X)))) := by rw [hL]; simp [Stp.org, List.append_assoc]
  have e1 := drop_adv e0
  have e2 := drop_adv e1
  have e3 := drop_adv e2
  have hn : pTake L sByAx ⟨j, false⟩ = false := pTake_no e0 rfl
  have h1 := pMust_yes e0
  have h2 := rNum_ok hx e1 (noDig_app _ _ (by decide))
  have h3 : pTake L sAnd _ = false := pTake_no e2 rfl
  have h4 : pTake L sMerge _ = false := pTake_no e2 rfl
  have h4' : pTake L sResL _ = false := pTake_no e2 rfl
  have h5 := pTake_yes e2
  have h6 := rNum_ok ha e3 nC
  simp only [rOrg, hn, h1, h2, h3, pAdv, if_true, rRest, h4, h4', h5, h6, Bool.false_eq_true, if_false, e1s]
  refine prod_st ?_
  simp [Stp.org]; omega
 ·have hx := hp x (by simp)
  match l, hl0 with
  | y :: l, _ =>
   have hy := hp y (by simp)
   have e0 : L.drop j = sFrom ++ (cnt x ++ (sRew ++ (cnt y ++ (moreT l ++ (sComma ++ X))))) := by
    rw [hL]; simp only [Stp.org, List.drop_succ_cons, List.drop_zero, joinB_more]; simp [List.append_assoc]
   have e1 := drop_adv e0
   have e2 := drop_adv e1
   have e3 := drop_adv e2
   have e4 := drop_adv e3
   have hn : pTake L sByAx ⟨j, false⟩ = false := pTake_no e0 rfl
   have h1 := pMust_yes e0
   have h2 := rNum_ok hx e1 (noDig_app _ _ (by decide))
   have h3 : pTake L sAnd _ = false := pTake_no e2 rfl
   have h4 : pTake L sMerge _ = false := pTake_no e2 rfl
   have h4' : pTake L sResL _ = false := pTake_no e2 rfl
   have h5 : pTake L sRem _ = false := pTake_no e2 rfl
   have h5' : pTake L sRepl _ = false := pTake_no e2 rfl
   have h6 := pMust_yes e2
   have h7 := rNum_ok hy e3 noDig_more
   have h8 := rMore_ok hX h0 l 9 _ (fun n hn => hp n (by simp [hn])) (by simp at hl10; omega) e4
   simp only [rOrg, hn, h1, h2, h3, pAdv, rRest, h4, h4', h5, h5', h6, h7, List.length_cons, List.length_nil, show (10 - (0 + 1)) = 9 from rfl, h8, Bool.false_eq_true, if_false, e1s]
   refine prod_st ?_
   simp only [Stp.org, List.drop_succ_cons, List.drop_zero, joinB_more]; simp; omega
def hdC (R : List UInt8) : Prop := R ≠ [] ∧ noDig R
theorem hdC_app {n : List UInt8} (h : varB n = true ∨ symB n = true) (X : List UInt8) : hdC (n ++ X) := by
 match n, h with
 | [], h => rcases h with h | h <;> simp [varB, symB] at h
 | c :: r, h =>
  refine ⟨by simp, fun d hd => ?_⟩
  simp only [List.cons_append, List.head?_cons, Option.some.injEq] at hd
  subst hd
  have hc : upC c = true ∨ loC c = true := by
   rcases h with h | h
   ·simp only [varB, headTail, Bool.and_eq_true] at h; exact .inl h.2.1
   ·simp only [symB, headTail, Bool.and_eq_true] at h; exact .inr h.1.2.1
  simp only [upC, loC, Bool.and_eq_true, decide_eq_true_eq] at hc
  simp only [diC, Bool.and_eq_false_iff, decide_eq_false_iff_not]
  omega
theorem hdC_lit (t R : List UInt8) (h : t ≠ [] ∧ (t.head?.any diC) = false) : hdC (t ++ R) := ⟨by simp [h.1], noDig_app t R h⟩
theorem atom_hd {t : Tm} (h : t.atom = true) (R : List UInt8) : hdC (t.eng ++ R) := by
 cases atom_cases h with
 | eq a b ha hb =>
  rw [eng_eq, List.append_assoc, List.append_assoc]
  obtain ⟨n, X, hn, he, -⟩ := fmt_split ha (sEquals ++ (b.fmt ++ R))
  rw [he]; exact hdC_app hn X
 | pred n us hs hu hd =>
  rw [eng_pred hs]
  split
  ·rw [List.append_assoc]; exact hdC_app (.inr hs) _
  ·rw [List.append_assoc, List.append_assoc]; exact hdC_app (.inr hs) _
theorem cls_hd {c : List Lit3} (hg : Cls.good c = true) (R : List UInt8) : hdC (Cls.eng c ++ R) := by
 by_cases h0 : c.length = 0
 ·obtain rfl : c = [] := List.eq_nil_of_length_eq_zero h0
  exact hdC_lit sContr R (by decide)
 ·have ha := (good_atoms hg).2
  rw [Cls.eng, if_neg h0]
  match c, h0, ha with
  | [l], _, ha =>
   rw [disj_one, fm_eng]
   split
   ·exact atom_hd (ha l (by simp)) R
   ·rw [List.append_assoc]; exact hdC_lit _ _ (by decide)
  | l :: a :: c, _, _ => rw [disj_cons, eng_or, List.append_assoc, List.append_assoc, List.append_assoc]; exact hdC_lit _ _ (by decide)
theorem trim_dot (l : List UInt8) : Lib.trimSuffix (l ++ [46]) [46] = l := by
 rw [Lib.trimSuffix, if_pos (by simp [Lib.hasSuffix])]
 simp
def iClT (L : List UInt8) (p : PSt) : ByteArray := baL (Lib.trimSuffix (L.drop p.pos) [46])
def iS (L : List UInt8) : Stp := ⟨(iStp L).2.1.rule, (iStp L).2.1.ps, (iStp L).2.1.wh, iC (iClT L (iStp L).2.2)⟩
def iSk (L : List UInt8) : Int := (iStp L).1
def iSok (L : List UInt8) : Bool := !(iStp L).2.2.bad && (iOk (iClT L (iStp L).2.2) && ((iS L).good (iSk L) && ((iS L).eng (iSk L) == L)))
def EngSt (L : List UInt8) (s : Stp) (k : Int) : Prop := L.length ≤ 12000 ∧ s.good k = true ∧ s.eng k = L
theorem good_bd {s : Stp} {k : Int} (h : s.good k = true) : n99 k ∧ s.nums = true ∧ (∀ n ∈ s.ps, n99 n) ∧ (∀ n ∈ s.wh, n99 n) ∧ Cls.good s.c = true ∧ k ≤ 59 := by
 simp only [Stp.good, Stp.shp, Bool.and_eq_true, inB, decide_eq_true_eq, List.all_eq_true, in99] at h
 obtain ⟨⟨hk, ⟨hn, hp⟩, hw⟩, hc⟩ := h
 exact ⟨⟨by omega, by omega⟩, hn, fun n hn => by have := hp n hn; exact ⟨by omega, by omega⟩, fun n hn => hw n hn, hc, by omega⟩
theorem eng_split {s : Stp} {k : Int} : s.eng k = cnt k ++ (sDot ++ (s.org ++ (sComma ++ (Cls.eng s.c ++ [46])))) := by
 rw [Stp.eng]; simp [sDot, List.append_assoc]
theorem eng_len {s : Stp} {k : Int} (h : s.good k = true) : s.ps.length ≤ (s.eng k).length := by
 obtain ⟨hk, hn, hp, hw, hg, -⟩ := good_bd h
 rw [eng_split]
 simp only [List.length_append]
 obtain ⟨ru, ps, wh, cl⟩ := s
 rcases Stp.nums_cases hn with ⟨-, e, -⟩ | ⟨-, ⟨x, y, e⟩, -⟩ | ⟨-, ⟨x, e⟩, -⟩ | ⟨-, ⟨x, y, e⟩, -⟩ | ⟨-, ⟨x, e⟩, -⟩ | ⟨hr, ⟨x, l, e, -, hl⟩, -⟩
 all_goals simp only at e
 all_goals subst e
 ·simp
 ·simp [sDot, sComma]; omega
 ·simp [sDot]; omega
 ·simp [sDot, sComma]; omega
 ·simp [sDot]; omega
 ·simp only at hr
  subst hr
  simp [Stp.org, sFrom, sRew]; omega
theorem iStp_ok {L : List UInt8} {s : Stp} {k : Int} (h : EngSt L s k) : ∃ m, iStp L = (k, ⟨s.rule, s.ps, s.wh, []⟩, ⟨m, false⟩) ∧ L.drop m = Cls.eng s.c ++ [46] := by
 obtain ⟨hl, hg, he⟩ := h
 obtain ⟨hk, hn, hp, hw, hc, -⟩ := good_bd hg
 have hX := cls_hd hc [46]
 have e0 : L.drop 0 = cnt k ++ (sDot ++ (s.org ++ (sComma ++ (Cls.eng s.c ++ [46])))) := by rw [← he, eng_split]; rfl
 have e1 := drop_adv e0
 have e2 := drop_adv e1
 have e3 := drop_adv e2
 have e4 := drop_adv e3
 have h1 := iNum_ok hk e0 (noDig_app _ _ (by decide))
 have h2 := pMust_yes e1
 have h3 := iOrg_ok hX.2 hX.1 hn hp hw (by rw [← he]; exact eng_len hg) e2
 have h4 := pMust_yes e3
 exact ⟨_, by simp only [iStp, h1, h2, h3, h4], e4⟩
theorem eng_cls_len {s : Stp} {k : Int} : (Cls.eng s.c).length ≤ (s.eng k).length := by rw [eng_split]; simp only [List.length_append]; omega
theorem iS_of {L : List UInt8} (hl : L.length ≤ 12000) (h : iSok L = true) : EngSt L (iS L) (iSk L) := by
 simp only [iSok, Bool.and_eq_true, beq_iff_eq] at h
 exact ⟨hl, h.2.2.1, h.2.2.2⟩
theorem iS_yes {L : List UInt8} {s : Stp} {k : Int} (h : EngSt L s k) : iSok L = true ∧ iS L = s ∧ iSk L = k := by
 obtain ⟨m, h1, h2⟩ := iStp_ok h
 obtain ⟨hl, hg, he⟩ := h
 have hc := (good_bd hg).2.2.2.2.1
 have ht : iClT L (iStp L).2.2 = baL (Cls.eng s.c) := by rw [iClT, h1]; simp only; rw [h2, trim_dot]
 have hE : EngOf (baL (Cls.eng s.c)) s.c := ⟨by rw [baL_size]; have := eng_cls_len (s := s) (k := k); rw [he] at this; omega, hc, rfl⟩
 obtain ⟨i1, i2⟩ := iOk_yes hE
 have hs : iS L = s := by rw [iS, ht, i2, h1]
 have hk : iSk L = k := by rw [iSk, h1]
 refine ⟨?_, hs, hk⟩
 rw [iSok, hs, hk, ht, i1, hg, he, h1]
 simp
def rClS (L : List UInt8) (p : PSt) : List Lit3 × PSt := if p.bad then ([], p) else rCls L p
def rEnd (L : List UInt8) : PSt := pMust L [46] (rClS L (rStp L).2.2).2
def rS (L : List UInt8) : Stp := ⟨(rStp L).2.1.rule, (rStp L).2.1.ps, (rStp L).2.1.wh, (rClS L (rStp L).2.2).1⟩
def rSk (L : List UInt8) : Int := (rStp L).1
def rSok (L : List UInt8) : Bool := !(rEnd L).bad && ((rEnd L).pos == L.length && (inB (rSk L) 0 59 && ((rS L).shape (rSk L) && (Cls.good (rS L).c && ((rS L).eng (rSk L) == L)))))
theorem rStp_ok {L : List UInt8} {s : Stp} {k : Int} (h : EngSt L s k) : ∃ m, rStp L = (k, ⟨s.rule, s.ps, s.wh, []⟩, ⟨m, false⟩) ∧ L.drop m = Cls.eng s.c ++ [46] := by
 obtain ⟨hl, hg, he⟩ := h
 obtain ⟨hk, hn, hp, hw, hc, -⟩ := good_bd hg
 have hX := cls_hd hc [46]
 have e0 : L.drop 0 = cnt k ++ (sDot ++ (s.org ++ (sComma ++ (Cls.eng s.c ++ [46])))) := by rw [← he, eng_split]; rfl
 have e1 := drop_adv e0
 have e2 := drop_adv e1
 have e3 := drop_adv e2
 have e4 := drop_adv e3
 have h1 := rNum_ok hk e0 (noDig_app _ _ (by decide))
 have h2 := pMust_yes e1
 have h3 := rOrg_ok hX.2 hX.1 hn hp hw e2
 have h4 := pMust_yes e3
 exact ⟨_, by simp only [rStp, h1, h2, h3, h4, show k + 1 - 1 = k by omega], e4⟩
theorem rS_of {L : List UInt8} (hl : L.length ≤ 12000) (h : rSok L = true) : EngSt L (rS L) (rSk L) := by
 simp only [rSok, Bool.and_eq_true, beq_iff_eq] at h
 refine ⟨hl, ?_, h.2.2.2.2.2⟩
 rw [Stp.good, ← Stp.shape_eq, h.2.2.1, h.2.2.2.1, h.2.2.2.2.1]; rfl
theorem rS_yes {L : List UInt8} {s : Stp} {k : Int} (h : EngSt L s k) : rSok L = true ∧ rS L = s ∧ rSk L = k := by
 obtain ⟨m, h1, h2⟩ := rStp_ok h
 obtain ⟨hl, hg, he⟩ := h
 have hc := (good_bd hg).2.2.2.2.1
 have hcl := rCls_ok hc h2 (.dot [])
 have e5 := drop_adv h2
 have hcs : rClS L (rStp L).2.2 = (s.c, ⟨m + (Cls.eng s.c).length, false⟩) := by rw [rClS, h1]; simp only; rw [if_neg (by simp), hcl]
 have hs : rS L = s := by rw [rS, hcs, h1]
 have hk : rSk L = k := by rw [rSk, h1]
 have hen : rEnd L = ⟨m + (Cls.eng s.c).length + 1, false⟩ := by
  rw [rEnd, hcs]
  exact pMust_yes (L := L) (t := [46]) (R := []) (by rw [e5]; rfl)
 have hlen : m + (Cls.eng s.c).length + 1 = L.length := by
  have := congrArg List.length h2
  rw [List.length_drop, List.length_append] at this
  simp only [List.length_cons, List.length_nil] at this
  omega
 have hgd := hg
 rw [Stp.good, ← Stp.shape_eq, Bool.and_eq_true, Bool.and_eq_true] at hgd
 refine ⟨?_, hs, hk⟩
 rw [rSok, hs, hk, hen, hgd.1.1, hgd.1.2, hgd.2, he, hlen]
 simp
theorem sidesS {L : List UInt8} (hl : L.length ≤ 12000) : iSok L = rSok L ∧ (iSok L = true → iS L = rS L ∧ iSk L = rSk L) := by
 cases hi : iSok L
 ·cases hr : rSok L
  ·exact ⟨rfl, fun h => by cases h⟩
  ·have := (iS_yes (rS_of hl hr)).1
   rw [hi] at this; cases this
 ·have h := rS_yes (iS_of hl hi)
  exact ⟨h.1.symm, fun _ => ⟨h.2.1.symm, h.2.2.symm⟩⟩
set_option maxHeartbeats 1600000 in
theorem eqLiteral_same {B B' : Nat → Prop} (m : Nat) (l : Lit3) (v0 v1 v2 u0 u1 u2 : Value) (w : World) (h : LitAt B m w l [v0, v1, v2]) (h' : LitAt B' m w l [u0, u1, u2]) :
  Calls Tryz.prog 82 #[.agg #[v0, v1, v2], .agg #[u0, u1, u2]] w fun e w' => e = .returned (.bool true) ∧ Below w.heap.size w w' := by
 obtain ⟨p, c, rfl, rfl, rfl, ht⟩ := h.form
 obtain ⟨p', c', rfl, rfl, rfl, ht'⟩ := h'.form
 have HT := Lib.hid ht
 have HT' := Lib.hid ht'
 clear h ht h' ht'
 have hpp : (l.pos != l.pos) = false := by simp
 go_enter Tryz.func82, Tryz.ntmps82
 go_wp2_with fail
 refine (eqTerm_same m l.a _ _ _ _ _ (HT.out.below (by exact bel)) (HT'.out.below (by exact bel))).mono ?_
 rintro e w1 ⟨rfl, hb1⟩
 have ⟨cw1, fw1⟩ := bcell hb1
 have qw1 := hb1.size
 (try simp at qw1)
 (try have zw1w := bsz (show w.heap.size < w1.heap.size by omega))
 go_wp2
 go_ret
 exact ⟨rfl, by exact bel⟩
set_option maxHeartbeats 1600000 in
theorem eqLiteralS_same {B B' : Nat → Prop} (m : Nat) (us : List Lit3) (va ua : Value) (w : World) (h : ListAt B w 3 (LitAt B m w) va us) (h' : ListAt B' w 3 (LitAt B' m w) ua us) :
  Calls Tryz.prog 48 #[va, ua] w fun e w' => e = .returned (.bool true) ∧ Below w.heap.size w w' := by
 obtain ⟨p, c, rfl, hlen⟩ := h.form
 obtain ⟨p', c', rfl, -⟩ := h'.form
 unfold maxLen at hlen
 have H := Lib.hid h
 have H' := Lib.hid h'
 clear h h'
 go_enter Tryz.func48, Tryz.ntmps48
 go_wp2
 go_loopw [5] (fun i wr => ∃ k : Nat, k ≤ us.length ∧ i = .int .i64 k ∧ Below w.heap.size w wr) (fun i _ => us.length - (intOf i).toNat)
 case atStart => exact ⟨0, Nat.zero_le _, rfl, by exact bel⟩
 case round =>
  obtain ⟨k, hk, rfl, hb⟩ := hrel
  by_cases hlt : k < us.length
  ·obtain ⟨b, o, rfl, hB, x0, x1, x2, hx0, hx1, hx2, hx⟩ := (H.out.mono (SameOn.below hb) (fun _ h => h) (fun x cs _ hx => LitAt.below hb hx)).at3 hlt
   obtain ⟨b', o', rfl, hB', y0, y1, y2, hy0, hy1, hy2, hy⟩ := (H'.out.mono (SameOn.below hb) (fun _ h => h) (fun x cs _ hx => LitAt.below hb hx)).at3 hlt
   obtain ⟨a, ha⟩ : ∃ a, us[k] = a := ⟨_, rfl⟩
   rw [ha] at hx hy
   have HX := Lib.hid hx
   have HY := Lib.hid hy
   clear hx hy ha
   go_wp2
   refine wp_region_flowC wr.heap.size [(⟨b, o + k * 3, none⟩, x0), (⟨b, o + k * 3 + 1, none⟩, x1), (⟨b, o + k * 3 + 2, none⟩, x2), (⟨b', o' + k * 3, none⟩, y0), (⟨b', o' + k * 3 + 1, none⟩, y1), (⟨b', o' + k * 3 + 2, none⟩, y2)] (by kernel_rfl) (by kernel_rfl) (by first | (intro _ hs; cases hs; done) | (simp only [List.forall_mem_cons]; go_simp)) fun C HC => ?_
   repeat (first | ((first | apply flow_free rfl | (apply flow_yes; (case hw => go_simp))); (intro L w' hun hrd hC; have ⟨hC, hb', hf'⟩ := flO HC hC; (try simp only [List.forall_mem_cons] at hf'); go_simp; first | exact ⟨flS HC hC, rfl⟩ | (rw [if_neg]; (exact ⟨flS HC hC, rfl⟩); omega) | (go_at_call 82; refine (eqLiteral_same m a x0 x1 x2 y0 y1 y2 _ (LitAt.below hb' HX.out) (LitAt.below hb' HY.out)).mono ?_; rintro e w1 ⟨rfl, hb1⟩; exact ⟨rfl, flN HC hC (by first | (simp; done) | (simp; omega) | omega) hb1⟩)); go_simp) | (apply flow_noC HC; (case hw => (go_simp; try (intro hh; cases hh))); go_simp))
   refine flow_nil ?_
   intro L wz hL hz
   have ⟨_, hbz, hcz⟩ := flO HC hz
   try simp only [List.forall_mem_cons] at hcz
   go_wp2
   refine ⟨⟨k + 1, by omega, by go_num, Below.step hb hbz⟩, by simp [intOf]; omega⟩
  ·go_wp2
   go_ret
   exact ⟨rfl, hb⟩
set_option maxHeartbeats 1600000 in
theorem eqClause_same {B B' : Nat → Prop} (m : Nat) (us : List Lit3) (v u : Value) (w : World) (h : ClsAt B m w us v) (h' : ClsAt B' m w us u) :
  Calls Tryz.prog 19 #[.agg #[v], .agg #[u]] w fun e w' => e = .returned (.bool true) ∧ Below w.heap.size w w' := by
 obtain ⟨p, c, rfl, -⟩ := (show ListAt B w 3 (LitAt B m w) v us from h).form
 obtain ⟨p', c', rfl, -⟩ := (show ListAt B' w 3 (LitAt B' m w) u us from h').form
 have H := Lib.hid h
 have H' := Lib.hid h'
 clear h h'
 go_enter Tryz.func19, Tryz.ntmps19
 go_wp2_with fail
 refine (eqLiteralS_same m us _ _ _ (ClsAt.below (by exact bel) H.out) (ClsAt.below (by exact bel) H'.out)).mono ?_
 rintro e w1 ⟨rfl, hb1⟩
 have ⟨cw1, fw1⟩ := bcell hb1
 have qw1 := hb1.size
 (try simp at qw1)
 (try have zw1w := bsz (show w.heap.size < w1.heap.size by omega))
 go_wp2
 go_ret
 exact ⟨rfl, by exact bel⟩
def Stp.wt (s : Stp) : Nat := s.ps.length + s.wh.length + (s.c.length + Cls.wts s.c)
set_option maxHeartbeats 1600000 in
theorem eqStep_same {B B' : Nat → Prop} (m : Nat) (s : Stp) (v0 v1 v2 v3 u0 u1 u2 u3 : Value) (w : World) (h : StpAt B m w s [v0, v1, v2, v3]) (h' : StpAt B' m w s [u0, u1, u2, u3]) :
  Calls Tryz.prog 6 #[.agg #[v0, v1, v2, v3], .agg #[u0, u1, u2, u3]] w fun e w' => e = .returned (.bool true) ∧ Below w.heap.size w w' := by
 obtain ⟨p, c, q, d, r, g, rfl, rfl, rfl, rfl, -, l1, l2, l3, ha, hb, hc⟩ := h.form
 obtain ⟨p', c', q', d', r', g', rfl, rfl, rfl, rfl, -, -, -, -, ha', hb', hc'⟩ := h'.form
 have HA := Lib.hid ha
 have HB := Lib.hid hb
 have HC := Lib.hid hc
 have HA' := Lib.hid ha'
 have HB' := Lib.hid hb'
 have HC' := Lib.hid hc'
 clear h ha hb hc h' ha' hb' hc'
 go_enter Tryz.func6, Tryz.ntmps6
 skip
 go_wp2_with fail
 refine (eqIntS_same s.ps _ _ _ (HA.out.below (by exact bel)) (HA'.out.below (by exact bel))).mono ?_
 rintro e w1 ⟨rfl, hb1⟩
 have ⟨cw1, fw1⟩ := bcell hb1
 have qw1 := hb1.size
 (try simp at qw1)
 (try have zw1w := bsz (show w.heap.size < w1.heap.size by omega))
 (try have zw1_0 := bsz (show w.heap.size + 1 < w1.heap.size by omega))
 go_wp2_with fail
 refine (eqIntS_same s.wh _ _ _ (HB.out.below (by exact bel)) (HB'.out.below (by exact bel))).mono ?_
 rintro e w2 ⟨rfl, hb2⟩
 have ⟨cw2, fw2⟩ := bcell hb2
 have qw2 := hb2.size
 (try simp at qw2)
 (try have zw2w := bsz (show w.heap.size < w2.heap.size by omega))
 (try have zw2w1 := bsz (show w1.heap.size < w2.heap.size by omega))
 (try have zw2_0 := bsz (show w.heap.size + 1 < w2.heap.size by omega))
 go_wp2_with fail
 refine (eqClause_same m s.c _ _ _ (ClsAt.below (by exact bel) HC.out) (ClsAt.below (by exact bel) HC'.out)).mono ?_
 rintro e w3 ⟨rfl, hb3⟩
 have ⟨cw3, fw3⟩ := bcell hb3
 have qw3 := hb3.size
 (try simp at qw3)
 (try have zw3w := bsz (show w.heap.size < w3.heap.size by omega))
 (try have zw3w1 := bsz (show w1.heap.size < w3.heap.size by omega))
 (try have zw3w2 := bsz (show w2.heap.size < w3.heap.size by omega))
 (try have zw3_0 := bsz (show w.heap.size + 1 < w3.heap.size by omega))
 go_wp2
 go_ret
 exact ⟨rfl, by exact bel⟩
end Go.Proofs.YtabkdonplmlbcaaGreatDoor
