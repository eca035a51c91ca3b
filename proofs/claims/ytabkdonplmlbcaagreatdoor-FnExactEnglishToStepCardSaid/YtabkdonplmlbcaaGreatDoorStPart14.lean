import Derived.Laws.IdiomStrings
import Derived.Test.YtabkdonplmlbcaaGreatDoorStPart13
namespace Go.Proofs.YtabkdonplmlbcaaGreatDoor
set_option maxRecDepth 100000
open Go.RowKit
theorem atomOfF_form (a : Tm) : (atomOfF a).form = a.atom := by simp [atomOfF, Fm.form, Fm.forms, Fm.form1, arity, isQ, Fm.op, Fm.a, Fm.v, Fm.ps]
theorem tm0_none : tm0.none = true := rfl
theorem neg_form (g : Fm) : (opF 4 [g]).form = g.form := by simp [opF, Fm.form, Fm.forms, Fm.form1, arity, isQ, Fm.op, Fm.a, Fm.v, Fm.ps, tm0_none]
theorem or_form (g h : Fm) : (opF 6 [g, h]).form = (g.form && h.form) := by simp [opF, Fm.form, Fm.forms, Fm.form1, arity, isQ, Fm.op, Fm.a, Fm.v, Fm.ps, tm0_none]
theorem Lit3.fm_form (l : Lit3) (h : l.a.atom = true) : l.fm.form = true := by
 rw [Lit3.fm]; split
 ·rw [atomOfF_form, h]
 ·rw [neg_form, atomOfF_form, h]
theorem size_nil : (⟨#[]⟩ : ByteArray).size = 0 := rfl
theorem Lit3.fm_wt (l : Lit3) : l.fm.wt ≤ l.a.wt + 1 := by
 rw [Lit3.fm]; split <;> simp [opF, atomOfF, Fm.wt, Fm.wts, tm0, Tm.wt, Tm.wts, size_nil] <;> omega
theorem or_wt (g h : Fm) : (opF 6 [g, h]).wt = 2 + g.wt + h.wt := by simp [opF, Fm.wt, Fm.wts, tm0, Tm.wt, Tm.wts, size_nil]; omega
def Cls.wts : List Lit3 → Nat | [] => 0 | l :: ls => l.a.wt + Cls.wts ls
theorem Cls.wts_le (c : List Lit3) : ∀ l ∈ c, l.a.wt ≤ Cls.wts c := by
 induction c with
 | nil => simp
 | cons a c ih =>
  intro l hl
  rw [Cls.wts]
  rcases List.mem_cons.1 hl with rfl | h
  ·omega
  ·have := ih l h; omega
theorem Cls.wts_drop_le : ∀ (c : List Lit3) (k : Nat), Cls.wts (c.drop k) ≤ Cls.wts c
 | [], k => by simp
 | a :: c, 0 => by simp
 | a :: c, k + 1 => by have := Cls.wts_drop_le c k; rw [List.drop_succ_cons, Cls.wts]; omega
theorem disj_one (l : Lit3) : disj [l] = l.fm := rfl
theorem disj_cons (l a : Lit3) (c : List Lit3) : disj (l :: a :: c) = opF 6 [l.fm, disj (a :: c)] := by
 have h : ∀ (x y : Lit3) (ys : List Lit3), disj (x :: (y :: ys)) = opF 6 [x.fm, disj (y :: ys)] := by
  intro x y ys
  rw [disj_of (c := x :: (y :: ys)) (by simp), disj_of (c := y :: ys) (by simp)]
  have e1 : (x :: (y :: ys)).length - 1 = ((y :: ys).length - 1) + 1 := by simp
  simp only [e1, List.take_succ_cons, List.reverse_cons, List.getElem_cons_succ, disF_snoc]
 exact h l a c
theorem disj_drop {c : List Lit3} {k : Nat} (h : k + 1 < c.length) : disj (c.drop k) = opF 6 [(c[k]'(by omega)).fm, disj (c.drop (k + 1))] := by
 rw [List.drop_eq_getElem_cons (by omega : k < c.length), List.drop_eq_getElem_cons h, disj_cons]
theorem disj_form : ∀ (c : List Lit3), 0 < c.length → (∀ l ∈ c, l.a.atom = true) → (disj c).form = true
 | [], h, _ => absurd h (by simp)
 | [l], _, h => by rw [disj_one]; exact l.fm_form (h l (by simp))
 | l :: a :: c, _, h => by rw [disj_cons, or_form, l.fm_form (h l (by simp)), disj_form (a :: c) (by simp) (fun x hx => h x (List.mem_cons_of_mem _ hx))]; rfl
theorem disj_wt : ∀ (c : List Lit3), 0 < c.length → (disj c).wt ≤ Cls.wts c + 3 * c.length
 | [], h => absurd h (by simp)
 | [l], _ => by have := l.fm_wt; rw [disj_one, Cls.wts, Cls.wts]; simp; omega
 | l :: a :: c, _ => by
  have h1 := l.fm_wt
  have h2 := disj_wt (a :: c) (by simp)
  rw [disj_cons, or_wt, Cls.wts]; simp only [List.length_cons] at h2 ⊢; omega
theorem okF_atoms : ∀ (c : List Lit3) (p : Option Lit3), Cls.okF p c = true → ∀ l ∈ c, l.a.atom = true
 | [], _, _ => by simp
 | a :: c, p, h => by
  rw [Cls.okF, Bool.and_eq_true, Bool.and_eq_true] at h
  intro l hl
  rcases List.mem_cons.1 hl with rfl | h'
  ·exact h.1.1
  ·exact okF_atoms c _ h.2 l h'
theorem good_atoms {c : List Lit3} (h : Cls.good c = true) : c.length ≤ 8 ∧ ∀ l ∈ c, l.a.atom = true := by
 rw [Cls.good, Bool.and_eq_true] at h
 exact ⟨of_decide_eq_true h.1, okF_atoms c none h.2⟩
def sContr : List UInt8 := [97, 32, 99, 111, 110, 116, 114, 97, 100, 105, 99, 116, 105, 111, 110]
def Cls.eng (c : List Lit3) : List UInt8 := if c.length = 0 then sContr else (disj c).eng
theorem disj_len {c : List Lit3} (h0 : 0 < c.length) (h8 : c.length ≤ 8) (ha : ∀ l ∈ c, l.a.atom = true) (hw : Cls.wts c ≤ 1048576) : (disj c).eng.length ≤ 40000000 := by
 have h1 := Fm.eng_wt _ (disj c) (Nat.le_refl _) (disj_form c h0 ha)
 have h2 := disj_wt c h0
 omega
theorem fm_len {l : Lit3} (ha : l.a.atom = true) (hw : l.a.wt ≤ 1048576) : l.fm.eng.length ≤ 40000000 := by
 have h1 := Fm.eng_wt _ l.fm (Nat.le_refl _) (l.fm_form ha)
 have h2 := l.fm_wt
 omega
def markL (n : Nat) : List UInt8 := if _ : n = 0 then [] else markL (n / 10) ++ [UInt8.ofNat (48 + n % 10)]
termination_by n
theorem markL_zero : markL 0 = [] := by rw [markL]; rfl
theorem markL_pos {n : Nat} (h : n ≠ 0) : markL n = markL (n / 10) ++ [UInt8.ofNat (48 + n % 10)] := by rw [markL, dif_neg h]
theorem markL_len (n : Nat) : (markL n).length ≤ n := by
 induction n using Nat.strongRecOn with
 | _ n ih =>
  by_cases h : n = 0
  ·subst h; rw [markL_zero]; exact Nat.le_refl _
  ·rw [markL_pos h, List.length_append]
   have := ih (n / 10) (by omega)
   simp; omega
def markB (n : Nat) : ByteArray := ⟨(109 :: markL n).toArray⟩
theorem digit_conv (w : World) (v : Int) (x : UInt8) (hv : v = x.toNat) :
  (convert 125 9 (.slice (some ⟨w.heap.size, 0, none⟩) 1 1)).run Tryz.prog (w.alloc (.cells #[.int .u8 v] 5)) = .ok (.string ⟨#[x]⟩) (w.alloc (.cells #[.int .u8 v] 5)) := by
 subst hv
 have h := run_convert_bytes_back (P := Tryz.prog) (w.alloc (.cells #[.int .u8 x.toNat] 5)) 125 9 5 ⟨w.heap.size, 0, none⟩ 1 [x] Tryz.underlying125 Tryz.underlying5 Tryz.underlying9 ?_
 ·exact h
 ·intro j hj
  have hj0 : j = 0 := by simpa using hj
  subst hj0
  have e : (⟨w.heap.size, 0, none⟩ : Addr).add 0 = ⟨w.heap.size, 0, none⟩ := by unfold Addr.add; simp
  rw [e, World.cell?_alloc_new]; rfl
theorem digit_val (k : Nat) : 48 + (k : Int) % 10 = ((UInt8.ofNat (48 + k % 10)).toNat : Int) := by
 rw [UInt8.toNat_ofNat']; omega
def MarkRel (n : Nat) (w : World) (d i : Value) (wr : World) : Prop :=
 ∃ (k : Nat) (l : List UInt8), k ≤ n ∧ i = .int .i64 k ∧ d = .string ⟨l.toArray⟩ ∧ markL k ++ l = markL n ∧ Below w.heap.size w wr
set_option maxHeartbeats 800000 in
theorem markText_any (n : Nat) (w : World) (h0 : 0 < n) (h1 : n ≤ 100000000) :
  Calls Tryz.prog 83 #[.int .i64 n] w fun e w' => e = .returned (.string (markB n)) ∧ Below w.heap.size w w' := by
 have hn : ¬ (n : Int) ≤ 0 := by omega
 go_enter Tryz.func83, Tryz.ntmps83
 go_wp2
 go_loopw [3, 0] (MarkRel n w) (fun _ i _ => (intOf i).toNat)
 case atStart => exact ⟨n, [], Nat.le_refl _, rfl, rfl, by simp, Below.refl _ _⟩
 case round =>
  obtain ⟨k, l, hk, rfl, rfl, hl, hb⟩ := hrel
  have HL := Lib.hid hl
  clear hl
  by_cases hk0 : 0 < (k : Int)
  ·have kd := fun (w : World) => digit_conv w (48 + (k : Int) % 10) _ (digit_val k)
   have hll : ¬ 9223372036854775807 < 1 + l.length := by
    have h2 := congrArg List.length HL.out
    have h3 := markL_len n
    simp only [List.length_append] at h2; omega
   go_wp2
   refine ⟨⟨k / 10, (48 + UInt8.ofNat (k % 10)) :: l, by omega, by simp, ?_, ?_, ?_⟩, by simp [intOf]; omega⟩
   ·exact congrArg Value.string (by apply ByteArray.ext; simp)
   ·rw [← HL.out, markL_pos (n := k) (by omega), List.append_assoc]
    exact congrArg _ (congrArg (· :: l) (by rw [UInt8.ofNat_add]; rfl))
   ·exact hb.alloc hb.size _
  ·have hk1 : k = 0 := by omega
   subst hk1
   have hll : ¬ 9223372036854775807 < 1 + l.length := by
    have h2 := congrArg List.length HL.out
    have h3 := markL_len n
    simp only [List.length_append] at h2; omega
   go_wp2
   go_ret
   refine ⟨congrArg Ending.returned (congrArg Value.string ?_), hb⟩
   have h2 := HL.out
   rw [markL_zero, List.nil_append] at h2
   rw [markB, ← h2]; apply ByteArray.ext; simp
mutual
def Tm.Mkd : Tm → Nat → Nat → Prop
 | .mk n vs, k, k' => n = markB k ∧ Tm.Mkds vs (k + 1) k'
def Tm.Mkds : List Tm → Nat → Nat → Prop
 | [], k, k' => k = k'
 | a :: us, k, k' => ∃ j, a.Mkd k j ∧ Tm.Mkds us j k'
end
mutual
def Tm.ct : Tm → Nat | .mk _ vs => 1 + Tm.cts vs
def Tm.cts : List Tm → Nat | [] => 0 | a :: us => a.ct + Tm.cts us
end
mutual
theorem Tm.Mkd.le : ∀ (a : Tm) (k k' : Nat), a.Mkd k k' → k < k'
 | .mk n vs, k, k', h => by rw [Tm.Mkd] at h; have := Tm.Mkds.le vs (k + 1) k' h.2; omega
theorem Tm.Mkds.le : ∀ (us : List Tm) (k k' : Nat), Tm.Mkds us k k' → k ≤ k'
 | [], k, k', h => by rw [Tm.Mkds] at h; omega
 | a :: us, k, k', h => by
  rw [Tm.Mkds] at h
  obtain ⟨j, h1, h2⟩ := h
  have := Tm.Mkd.le a k j h1
  have := Tm.Mkds.le us j k' h2
  omega
end
theorem Tm.Mkds.snoc : ∀ (us : List Tm) (a : Tm) (k j k' : Nat), Tm.Mkds us k j → a.Mkd j k' → Tm.Mkds (us ++ [a]) k k'
 | [], a, k, j, k', h, ha => by rw [Tm.Mkds] at h; subst h; exact ⟨k', ha, rfl⟩
 | b :: us, a, k, j, k', h, ha => by
  rw [Tm.Mkds] at h
  obtain ⟨i, h1, h2⟩ := h
  exact ⟨i, h1, Tm.Mkds.snoc us a i j k' h2 ha⟩
theorem Tm.Mkds.drop {us : List Tm} {i k k' : Nat} (h : Tm.Mkds (us.drop i) k k') (hi : i < us.length) : ∃ j, us[i].Mkd k j ∧ Tm.Mkds (us.drop (i + 1)) j k' := by
 rw [List.drop_eq_getElem_cons hi, Tm.Mkds] at h; exact h
theorem Tm.cts_drop {us : List Tm} {i : Nat} (hi : i < us.length) : Tm.cts (us.drop i) = us[i].ct + Tm.cts (us.drop (i + 1)) := by rw [List.drop_eq_getElem_cons hi, Tm.cts]
theorem Tm.Mkd.of {n : ByteArray} {vs : List Tm} {k k' : Nat} (h : n = markB k) (h2 : Tm.Mkds vs (k + 1) k') : (Tm.mk n vs).Mkd k k' := by rw [Tm.Mkd]; exact ⟨h, h2⟩
structure Kept (S : Nat → Prop) (w w' : World) : Prop where
 os : w'.os = w.os
 tape : w'.tape = w.tape
 output : w'.output = w.output
 size : w.heap.size ≤ w'.heap.size
 block : ∀ b, b < w.heap.size → ¬ S b → w'.heap[b]? = w.heap[b]?
theorem Kept.refl (S : Nat → Prop) (w : World) : Kept S w w := ⟨rfl, rfl, rfl, Nat.le_refl _, fun _ _ _ => rfl⟩
theorem Kept.trans {S : Nat → Prop} {w w1 w2 : World} (h : Kept S w w1) (h2 : Kept S w1 w2) : Kept S w w2 :=
 ⟨h2.os.trans h.os, h2.tape.trans h.tape, h2.output.trans h.output, Nat.le_trans h.size h2.size, fun b hb hs => (h2.block b (Nat.lt_of_lt_of_le hb h.size) hs).trans (h.block b hb hs)⟩
theorem Kept.below {S : Nat → Prop} {w w1 w2 : World} (h : Kept S w w1) (h2 : Below w1.heap.size w1 w2) : Kept S w w2 :=
 ⟨h2.os.trans h.os, h2.tape.trans h.tape, h2.output.trans h.output, Nat.le_trans h.size h2.size, fun b hb hs => (h2.block b (Nat.lt_of_lt_of_le hb h.size)).trans (h.block b hb hs)⟩
theorem Kept.set {S : Nat → Prop} {w w1 : World} (h : Kept S w w1) {g : Nat} (hg : S g) (j : Nat) (v : Value) : Kept S w (w1.setCell ⟨g, j, none⟩ v) :=
 ⟨h.os, h.tape, h.output, by simpa using h.size, fun b hb hs => (heap_setCell_other w1 ⟨g, j, none⟩ b v (fun e => hs (by have e' : b = g := e; rw [e']; exact hg))).trans (h.block b hb hs)⟩
theorem Kept.mono {S S' : Nat → Prop} {w w1 : World} (h : Kept S w w1) (hS : ∀ b, S b → S' b) : Kept S' w w1 := ⟨h.os, h.tape, h.output, h.size, fun b hb hs => h.block b hb (fun e => hs (hS b e))⟩
theorem blk_lt {w : World} {b : Nat} {o : Obj} (h : w.heap[b]? = some o) : b < w.heap.size := by
 rcases Nat.lt_or_ge b w.heap.size with h' | h'
 ·exact h'
 ·rw [Array.getElem?_eq_none h'] at h; cases h
theorem markB_size (q : Nat) (h : q ≤ 100000000) : (markB q).size ≤ maxLen := by
 have := markL_len q
 simp only [markB, ByteArray.size, List.size_toArray, List.length_cons]
 unfold maxLen; omega
def Patch (cur cur' : Array Value) (o : Nat) (cs : List Value) : Prop := cur'.size = cur.size ∧ (∀ j, j < cs.length → cur'[o + j]? = cs[j]?) ∧ ∀ k, (k < o ∨ o + cs.length ≤ k) → cur'[k]? = cur[k]?
theorem Patch.refl {cur : Array Value} {o : Nat} {cs : List Value} (h : ∀ j, j < cs.length → cur[o + j]? = cs[j]?) : Patch cur cur o cs := ⟨rfl, h, fun _ _ => rfl⟩
theorem Patch.set {cur cur' : Array Value} {o : Nat} {cs : List Value} (h : Patch cur cur' o cs) {j : Nat} (hj : j < cs.length) (hb : o + cs.length ≤ cur.size) (v : Value) : Patch cur (cur'.setIfInBounds (o + j) v) o (cs.set j v) := by
 obtain ⟨h1, h2, h3⟩ := h
 refine ⟨by simpa using h1, fun i hi => ?_, fun k hk => ?_⟩
 ·rw [List.length_set] at hi
  by_cases e : j = i
  ·subst e
   rw [Array.getElem?_setIfInBounds_self_of_lt (by omega), List.getElem?_set_self hj]
  ·rw [Array.getElem?_setIfInBounds_ne (by omega), List.getElem?_set_ne e, h2 i hi]
 ·rw [List.length_set] at hk
  rw [Array.getElem?_setIfInBounds_ne (by omega), h3 k hk]
theorem OwnRow.elem {α : Type} {S : Nat → Prop} {w : World} {e : TypeId} {size : Nat} {R : (Nat → Prop) → α → List Value → Prop} {v : Value} {xs : List α} {i : Nat} {x : α} (h : OwnRow S w e size R v xs) (hi : xs[i]? = some x) :
  ∃ (g cap : Nat) (cs : List Value) (Si : Nat → Prop) (cur : Array Value), v = .slice (some ⟨g, 0, none⟩) xs.length cap ∧ S g ∧ w.heap[g]? = some (.cells cur e (0, 0)) ∧ cs.length = size ∧ i * size + size ≤ cur.size ∧ (∀ j, j < size → cur[i * size + j]? = cs[j]?) ∧ R Si x cs ∧ (∀ b, Si b → S b ∧ b ≠ g) ∧
   ∀ (w' : World) (x' : α) (cs' : List Value) (cur' : Array Value) (R' : (Nat → Prop) → α → List Value → Prop), cs'.length = size → w'.heap[g]? = some (.cells cur' e (0, 0)) → Patch cur cur' (i * size) cs' → R' Si x' cs' → (∀ T y c, (∀ b, T b → S b ∧ b ≠ g ∧ ¬ Si b) → R T y c → R' T y c) → OwnRow S w' e size R' v (xs.set i x') := by
 obtain ⟨hm, vals, Ss, h1, h2, h3, h4⟩ := h
 have hlt : i < xs.length := (List.getElem?_eq_some_iff.1 hi).1
 rcases h1.2 with ⟨rfl, h0⟩ | ⟨g, cap, cur, rfl, _, hh, hc1, hc2, hc3, hc4⟩
 ·omega
 have h5 : (i + 1) * size ≤ xs.length * size := Nat.mul_le_mul_right _ hlt
 rw [Nat.succ_mul] at h5
 have h6 : xs.length * size ≤ cap * size := Nat.mul_le_mul_right _ hc1
 have hvl : vals.length = xs.length * size := h1.1
 have hcv : ∀ k, k < xs.length * size → cur[k]? = vals[k]? := fun k hk => by
  rw [← hc4, List.getElem?_take, if_pos hk]; simp
 refine ⟨g, cap, (vals.drop (i * size)).take size, Ss i, cur, rfl, h2 g rfl, hh, by rw [List.length_take, List.length_drop]; omega, by omega, fun j hj => ?_, (h3 i x hi).1, fun b hb => ⟨((h3 i x hi).2 b hb).1, fun e => ((h3 i x hi).2 b hb).2 (by rw [e]; rfl)⟩, ?_⟩
 ·rw [hcv _ (by omega), List.getElem?_take, if_pos hj, List.getElem?_drop]
 ·intro w' x' cs' cur' R' hl hh' hp hx' hR
  have hcur' : ∀ k, k < xs.length * size → (cur'.toList.take (xs.length * size))[k]? = cur'[k]? := fun k hk => by rw [List.getElem?_take, if_pos hk]; simp
  have e1 : cur'.toList.length = cap * size := (Array.length_toList (xs := cur')).trans (hp.1.trans hc3)
  have hlen' : (cur'.toList.take (xs.length * size)).length = (xs.set i x').length * size := by rw [List.length_take, e1, List.length_set]; omega
  refine ⟨by simpa using hm, cur'.toList.take (xs.length * size), Ss, ⟨hlen', .inr ⟨g, cap, cur', by rw [List.length_set], Nat.zero_le _, hh', by rw [List.length_set]; exact hc1, hc2, by rw [hp.1]; exact hc3, by rw [List.length_set]⟩⟩, h2, fun j y hy => ?_, fun j j' b hj hj' hne => h4 j j' b (by simpa using hj) (by simpa using hj') hne⟩
  have hj : j < xs.length := by have := (List.getElem?_eq_some_iff.1 hy).1; simpa using this
  have h7 : (j + 1) * size ≤ xs.length * size := Nat.mul_le_mul_right _ hj
  rw [Nat.succ_mul] at h7
  by_cases ej : i = j
  ·subst ej
   rw [List.getElem?_set_self hlt] at hy
   obtain rfl : x' = y := Option.some.inj hy
   refine ⟨?_, (h3 i x hi).2⟩
   have : ((cur'.toList.take (xs.length * size)).drop (i * size)).take size = cs' := by
    apply List.ext_getElem?
    intro k
    rw [List.getElem?_take]
    split
    ·rename_i hk
     rw [List.getElem?_drop, hcur' _ (by omega), hp.2.1 k (by omega)]
    ·rw [List.getElem?_eq_none (by omega)]
   rw [this]; exact hx'
  ·rw [List.getElem?_set_ne ej] at hy
   obtain ⟨k1, k2⟩ := h3 j y hy
   refine ⟨?_, k2⟩
   have : ((cur'.toList.take (xs.length * size)).drop (j * size)).take size = (vals.drop (j * size)).take size := by
    apply List.ext_getElem?
    intro k
    rw [List.getElem?_take, List.getElem?_take]
    split
    ·rename_i hk
     have hside : j * size + k < i * size ∨ i * size + size ≤ j * size + k := by
      rcases Nat.lt_or_ge j i with hlt2 | hge
      ·have h8 : (j + 1) * size ≤ i * size := Nat.mul_le_mul_right _ hlt2
       rw [Nat.succ_mul] at h8; omega
      ·have h8 : (i + 1) * size ≤ j * size := Nat.mul_le_mul_right _ (by omega)
       rw [Nat.succ_mul] at h8; omega
     rw [List.getElem?_drop, List.getElem?_drop, hcur' _ (by omega), hp.2.2 _ (by omega), hcv _ (by omega)]
    ·rfl
   rw [this]
   exact hR _ _ _ (fun b hb => ⟨(k2 b hb).1, fun e => (k2 b hb).2 (by rw [e]; rfl), fun e => h4 i j b hlt hj ej e hb⟩) k1
structure FillRow {α : Type} (S : Nat → Prop) (w : World) (e : TypeId) (size : Nat) (R : (Nat → Prop) → World → α → List Value → Prop) (g n k : Nat) (us : List α) : Prop where
 own : S g
 row : ∃ cur : Array Value, w.heap[g]? = some (.cells cur e (0, 0)) ∧ cur.size = n * size ∧ ∃ Ss : Nat → Nat → Prop,
  (∀ j x, j < k → us[j]? = some x → ∃ cs : List Value, cs.length = size ∧ (∀ i, i < size → cur[j * size + i]? = cs[i]?) ∧ R (Ss j) w x cs ∧ ∀ b, Ss j b → S b ∧ b ≠ g ∧ b < w.heap.size) ∧
  ∀ i j b, i < k → j < k → i ≠ j → Ss i b → ¬ Ss j b
theorem FillRow.start {α : Type} {S : Nat → Prop} {w : World} {e : TypeId} {size base g n : Nat} {R : (Nat → Prop) → World → α → List Value → Prop} {xs : List Value} {us : List α} (hS : S g) (h : w.ownsRow base e size (.slice (some ⟨g, 0, none⟩) n n) n xs) : FillRow S w e size R g n 0 us := by
 refine ⟨hS, ?_⟩
 rcases h.2 with ⟨h0, _⟩ | ⟨g', cap, cur, hv, _, hh, _, _, hc, _⟩
 ·cases h0
 ·simp only [Value.slice.injEq, Option.some.injEq, Addr.mk.injEq, and_true, true_and] at hv
  obtain ⟨rfl, rfl⟩ := hv
  exact ⟨cur, hh, hc, fun _ _ => False, fun j x hj => absurd hj (Nat.not_lt_zero _), fun i j b hi => absurd hi (Nat.not_lt_zero _)⟩
theorem FillRow.later {α : Type} {S : Nat → Prop} {w w1 : World} {e : TypeId} {size g n k : Nat} {R : (Nat → Prop) → World → α → List Value → Prop} {us : List α} (h : FillRow S w e size R g n k us) (hb : Below w.heap.size w w1)
  (hm : ∀ T x cs, (∀ b, T b → b < w.heap.size) → R T w x cs → R T w1 x cs) : FillRow S w1 e size R g n k us := by
 obtain ⟨hS, cur, hh, hc, Ss, h1, h2⟩ := h
 refine ⟨hS, cur, (hb.block g (blk_lt hh)).trans hh, hc, Ss, fun j x hj hx => ?_, h2⟩
 obtain ⟨cs, a1, a2, a3, a4⟩ := h1 j x hj hx
 exact ⟨cs, a1, a2, hm _ _ _ (fun b hb => (a4 b hb).2.2) a3, fun b hb' => ⟨(a4 b hb').1, (a4 b hb').2.1, Nat.lt_of_lt_of_le (a4 b hb').2.2 hb.size⟩⟩
theorem FillRow.wider {α : Type} {S S' : Nat → Prop} {w : World} {e : TypeId} {size g n k : Nat} {R : (Nat → Prop) → World → α → List Value → Prop} {us : List α} (h : FillRow S w e size R g n k us) (hS : ∀ b, S b → S' b) : FillRow S' w e size R g n k us := by
 obtain ⟨h0, cur, hh, hc, Ss, h1, h2⟩ := h
 refine ⟨hS _ h0, cur, hh, hc, Ss, fun j x hj hx => ?_, h2⟩
 obtain ⟨cs, a1, a2, a3, a4⟩ := h1 j x hj hx
 exact ⟨cs, a1, a2, a3, fun b hb => ⟨hS _ (a4 b hb).1, (a4 b hb).2⟩⟩
theorem FillRow.lt {α : Type} {S : Nat → Prop} {w : World} {e : TypeId} {size g n k : Nat} {R : (Nat → Prop) → World → α → List Value → Prop} {us : List α} (h : FillRow S w e size R g n k us) : g < w.heap.size := by
 obtain ⟨_, _, hh, _⟩ := h; exact blk_lt hh
theorem FillRow.cell {α : Type} {S : Nat → Prop} {w : World} {e : TypeId} {size g n k : Nat} {R : (Nat → Prop) → World → α → List Value → Prop} {us : List α} (h : FillRow S w e size R g n k us) (j : Nat) (hj : j < n * size) : (∃ q, w.cell? ⟨g, j, none⟩ = some q) ∧ w.frozen? ⟨g, j, none⟩ = false := by
 obtain ⟨_, cur, hh, hc, _⟩ := h
 exact ⟨⟨cur[j], (cell_of_row w g j cur _ (0, 0) hh).trans (Array.getElem?_eq_getElem (by omega))⟩, frozen_of_row w g j _ _ hh⟩
theorem FillRow.put {α : Type} {S T : Nat → Prop} {w w1 w2 : World} {e : TypeId} {size g n k : Nat} {R : (Nat → Prop) → World → α → List Value → Prop} {us : List α} {x : α} {cs : List Value} (h : FillRow S w e size R g n k us) (hk : k < n) (hx : us[k]? = some x)
  (hb : Below w.heap.size w w1) (hl : cs.length = size) (hR : R T w2 x cs) (hT : ∀ b, T b → S b ∧ b ≠ g ∧ w.heap.size ≤ b ∧ b < w2.heap.size)
  (hp : ∀ cur : Array Value, w1.heap[g]? = some (.cells cur e (0, 0)) → k * size + size ≤ cur.size → ∃ cur', w2.heap[g]? = some (.cells cur' e (0, 0)) ∧ Patch cur cur' (k * size) cs)
  (hsz : w1.heap.size ≤ w2.heap.size) (hm : ∀ T x cs, (∀ b, T b → b < w.heap.size ∧ b ≠ g) → R T w x cs → R T w2 x cs) : FillRow S w2 e size R g n (k + 1) us := by
 obtain ⟨hS, cur, hh, hc, Ss, h1, h2⟩ := h
 have hg := blk_lt hh
 have h5 : (k + 1) * size ≤ n * size := Nat.mul_le_mul_right _ hk
 rw [Nat.succ_mul] at h5
 obtain ⟨cur', hh', hpt⟩ := hp cur ((hb.block g hg).trans hh) (by omega)
 have hws := hb.size
 refine ⟨hS, cur', hh', hpt.1.trans hc, fun j => if j = k then T else Ss j, fun j y hj hy => ?_, fun i j b hi hj hij hbi => ?_⟩
 ·by_cases e : j = k
  ·subst e
   rw [hx] at hy
   obtain rfl := Option.some.inj hy
   simp only [if_pos]
   exact ⟨cs, hl, fun i hi => hpt.2.1 i (by omega), hR, fun b hb' => ⟨(hT b hb').1, (hT b hb').2.1, (hT b hb').2.2.2⟩⟩
  ·obtain ⟨ds, a1, a2, a3, a4⟩ := h1 j y (by omega) hy
   simp only [if_neg e]
   refine ⟨ds, a1, fun i hi => ?_, hm _ _ _ (fun b hb' => ⟨(a4 b hb').2.2, (a4 b hb').2.1⟩) a3, fun b hb' => ⟨(a4 b hb').1, (a4 b hb').2.1, by have := (a4 b hb').2.2; omega⟩⟩
   have h6 : (j + 1) * size ≤ k * size := Nat.mul_le_mul_right _ (by omega)
   rw [Nat.succ_mul] at h6
   rw [hpt.2.2 _ (.inl (by omega))]; exact a2 i hi
 ·by_cases e : i = k
  ·have ej : ¬ j = k := by omega
   simp only [if_pos e] at hbi
   simp only [if_neg ej]
   intro hbj
   rcases Nat.lt_or_ge j us.length with hlt | hge
   ·obtain ⟨ds, _, _, _, a4⟩ := h1 j us[j] (by omega) (List.getElem?_eq_getElem hlt)
    have := (a4 b hbj).2.2
    have := (hT b hbi).2.2.1
    omega
   ·have := (List.getElem?_eq_some_iff.1 hx).1; omega
  ·simp only [if_neg e] at hbi
   by_cases ej : j = k
   ·simp only [if_pos ej]
    intro hbj
    rcases Nat.lt_or_ge i us.length with hlt | hge
    ·obtain ⟨ds, _, _, _, a4⟩ := h1 i us[i] (by omega) (List.getElem?_eq_getElem hlt)
     have := (a4 b hbi).2.2
     have := (hT b hbj).2.2.1
     omega
    ·have := (List.getElem?_eq_some_iff.1 hx).1; omega
   ·simp only [if_neg ej]
    exact h2 i j b (by omega) (by omega) hij hbi
theorem FillRow.done {α : Type} {S : Nat → Prop} {w : World} {e : TypeId} {size g : Nat} {R : (Nat → Prop) → World → α → List Value → Prop} {us : List α} (h : FillRow S w e size R g us.length us.length us) (hm : us.length ≤ maxLen) : OwnRow S w e size (fun T x cs => R T w x cs) (.slice (some ⟨g, 0, none⟩) us.length us.length) us := by
 obtain ⟨hS, cur, hh, hc, Ss, h1, h2⟩ := h
 refine ⟨hm, cur.toList, Ss, ⟨by simpa using hc, .inr ⟨g, us.length, cur, rfl, Nat.zero_le _, hh, Nat.le_refl _, hm, hc, by rw [List.take_of_length_le (by simp [hc])]⟩⟩, fun g' hg' => ?_, fun i x hx => ?_, h2⟩
 ·have : g = g' := by simpa [Value.ownBlock] using hg'
  exact this ▸ hS
 ·have hi := (List.getElem?_eq_some_iff.1 hx).1
  obtain ⟨cs, a1, a2, a3, a4⟩ := h1 i x hi hx
  have h6 : (i + 1) * size ≤ us.length * size := Nat.mul_le_mul_right _ hi
  rw [Nat.succ_mul] at h6
  have : (cur.toList.drop (i * size)).take size = cs := by
   apply List.ext_getElem?
   intro j
   rw [List.getElem?_take]
   split
   ·rename_i hj
    rw [List.getElem?_drop, Array.getElem?_toList]; exact a2 j hj
   ·rw [List.getElem?_eq_none (by omega)]
  rw [this]
  exact ⟨a3, fun b hb => ⟨(a4 b hb).1, fun e => (a4 b hb).2.1 (by simpa [Value.ownBlock] using e.symm)⟩⟩
def i64B (n : Int) : Prop := -9223372036854775808 ≤ n ∧ n ≤ 9223372036854775807
def IntAt (n : Int) (cs : List Value) : Prop := cs = [.int .i64 n] ∧ i64B n
def IntsAt (B : Nat → Prop) (w : World) (v : Value) (xs : List Int) : Prop := ListAt B w 1 IntAt v xs
theorem IntsAt.mono {B B' : Nat → Prop} {w w' : World} {v : Value} {xs : List Int} (hs : SameOn B w w') (hB : ∀ b, B b → B' b) (h : IntsAt B w v xs) : IntsAt B' w' v xs := ListAt.mono h hs hB (fun _ _ _ h => h)
theorem IntsAt.below {B : Nat → Prop} {w w' : World} {v : Value} {xs : List Int} (hb : Below w.heap.size w w') (h : IntsAt B w v xs) : IntsAt B w' v xs := h.mono (SameOn.below hb) (fun _ h => h)
theorem IntsAt.form {B : Nat → Prop} {w : World} {v : Value} {xs : List Int} (h : IntsAt B w v xs) : ∃ p c, v = .slice p xs.length c ∧ xs.length ≤ maxLen := ListAt.form h
theorem IntsAt.at_ {B : Nat → Prop} {w : World} {p : Option Addr} {n c : Nat} {xs : List Int} (h : IntsAt B w (.slice p n c) xs) {i : Nat} (hi : i < xs.length) : ∃ b o, p = some ⟨b, o, none⟩ ∧ B b ∧ w.cell? ⟨b, o + i, none⟩ = some (.int .i64 xs[i]) ∧ i64B xs[i] := by
 obtain ⟨b, o, h1, h2, x, h3, h4, h5⟩ := ListAt.at1 h hi
 simp only [List.cons.injEq, and_true] at h4
 subst h4
 exact ⟨b, o, h1, h2, h3, h5⟩
def IntOwn (e : TypeId) (S : Nat → Prop) (w : World) (us : List Int) (v : Value) : Prop := OwnRow S w e 1 (fun _ s cs => IntAt s cs) v us
theorem IntOwn.mono {e : TypeId} {S S' : Nat → Prop} {w w' : World} {us : List Int} {v : Value} (hs : SameOn S w w') (hS : ∀ b, S b → S' b) (h : IntOwn e S w us v) : IntOwn e S' w' us v := OwnRow.mono h hs hS (fun _ _ _ _ _ hx => hx)
theorem IntOwn.at_ {e : TypeId} {S : Nat → Prop} {w : World} {us : List Int} {v : Value} (h : IntOwn e S w us v) : IntsAt S w v us := OwnRow.listAt (by omega) h (fun _ _ _ _ _ hx => hx)
theorem IntOwn.later {e : TypeId} {S : Nat → Prop} {w w' : World} {us : List Int} {v : Value} (hb : Below w.heap.size w w') (h : IntOwn e S w us v) : IntOwn e S w' us v := h.mono (SameOn.below hb) (fun _ h => h)
theorem IntOwn.kept {e : TypeId} {S K : Nat → Prop} {w w' : World} {us : List Int} {v : Value} (h : IntOwn e S w us v) (hk : Kept K w w') (hd : ∀ b, S b → ¬ K b) : IntOwn e S w' us v := h.mono (fun b hb hlt => hk.block b hlt (hd b hb)) (fun _ h => h)
def marksI (k n : Nat) : List Int := (List.range n).map fun i => ((k + i : Nat) : Int)
theorem marksI_len (k n : Nat) : (marksI k n).length = n := by simp [marksI]
theorem marksI_snoc (k n : Nat) : marksI k (n + 1) = marksI k n ++ [((k + n : Nat) : Int)] := by simp [marksI, List.range_succ]
theorem marksI_at {k n j : Nat} (h : j < n) : (marksI k n)[j]? = some (((k + j : Nat) : Int)) := by simp [marksI, h]
set_option maxHeartbeats 1600000 in
theorem eqIntS_same {B B' : Nat → Prop} (us : List Int) (va ua : Value) (w : World) (h : IntsAt B w va us) (h' : IntsAt B' w ua us) :
  Calls Tryz.prog 18 #[va, ua] w fun e w' => e = .returned (.bool true) ∧ Below w.heap.size w w' := by
 obtain ⟨p, c, rfl, hlen⟩ := h.form
 obtain ⟨p', c', rfl, -⟩ := h'.form
 unfold maxLen at hlen
 have H := Lib.hid h
 have H' := Lib.hid h'
 clear h h'
 go_enter Tryz.func18, Tryz.ntmps18
 go_wp2
 go_loopw [5] (fun i wr => ∃ k : Nat, k ≤ us.length ∧ i = .int .i64 k ∧ Below w.heap.size w wr) (fun i _ => us.length - (intOf i).toNat)
 case atStart => exact ⟨0, Nat.zero_le _, rfl, by exact bel⟩
 case round =>
  obtain ⟨k, hk, rfl, hb⟩ := hrel
  by_cases hlt : k < us.length
  ·obtain ⟨b, o, rfl, hB, hx0, hxs⟩ := (H.out.below hb).at_ hlt
   obtain ⟨b', o', rfl, hB', hy0, hys⟩ := (H'.out.below hb).at_ hlt
   obtain ⟨a, ha⟩ : ∃ a, us[k] = a := ⟨_, rfl⟩
   rw [ha] at hx0 hy0
   clear ha hxs hys
   have zb := bsz (World.block_lt_of_cell? _ _ hx0)
   have zb' := bsz (World.block_lt_of_cell? _ _ hy0)
   go_wp2
   refine wp_region_flowC wr.heap.size [(⟨b, o + k, none⟩, .int .i64 a), (⟨b', o' + k, none⟩, .int .i64 a)] (by kernel_rfl) (by kernel_rfl) (by first | (intro _ hs; cases hs; done) | (simp only [List.forall_mem_cons]; go_simp)) fun C HC => ?_
   repeat (first | ((first | apply flow_free rfl | (apply flow_yes; (case hw => go_simp))); (intro L w' hun hrd hC; have ⟨hC, hb', hf'⟩ := flO HC hC; (try simp only [List.forall_mem_cons] at hf'); go_simp; first | exact ⟨flS HC hC, rfl⟩ | (rw [if_neg]; (exact ⟨flS HC hC, rfl⟩); omega) | fail); go_simp) | (apply flow_noC HC; (case hw => (go_simp; try (intro hh; cases hh))); go_simp))
   refine flow_nil ?_
   intro L wz hL hz
   have ⟨_, hbz, hcz⟩ := flO HC hz
   try simp only [List.forall_mem_cons] at hcz
   go_wp2
   exact ⟨⟨k + 1, by omega, by go_num, Below.step hb hbz⟩, by simp [intOf]; omega⟩
  ·go_wp2
   go_ret
   exact ⟨rfl, by exact bel⟩
def MarkIRel (S : Nat → Prop) (us : List Int) (v : Value) (k : Nat) (w : World) (kv i : Value) (wr : World) : Prop :=
 ∃ j : Nat, i = .int .i64 (j : Nat) ∧ kv = .int .i64 ((k + j : Nat) : Int) ∧ j ≤ us.length ∧ IntOwn 3 S wr (marksI k j ++ us.drop j) v ∧ Kept S w wr
set_option maxHeartbeats 1600000 in
theorem markIntS_any (S : Nat → Prop) (us : List Int) (v : Value) (k : Nat) (w : World) (h : IntOwn 3 S w us v) (hb : k + us.length ≤ 100000000) :
 Calls Tryz.prog 20 #[v, .int .i64 (k : Nat)] w fun e w' => e = .returned (.int .i64 ((k + us.length : Nat) : Int)) ∧ IntOwn 3 S w' (marksI k us.length) v ∧ Kept S w w' := by
 obtain ⟨p, c, rfl, hlen⟩ := OwnRow.form h
 unfold maxLen at hlen
 have H := Lib.hid h
 clear h
 go_enter Tryz.func20, Tryz.ntmps20
 go_wp2
 go_loopw [1, 5] (MarkIRel S us (.slice p us.length c) k w) (fun _ i _ => us.length - (intOf i).toNat)
 case atStart => exact ⟨0, rfl, rfl, Nat.zero_le _, H.out, Kept.refl _ _⟩
 case round =>
  obtain ⟨j, rfl, rfl, hju, hrow, hkp⟩ := hrel
  have HKP := Lib.hid hkp
  clear hkp
  by_cases hlt : j < us.length
  ·have hx : (marksI k j ++ us.drop j)[j]? = some us[j] := by rw [List.getElem?_append_right (by rw [marksI_len]; omega), marksI_len, Nat.sub_self, List.getElem?_drop, Nat.add_zero, List.getElem?_eq_getElem hlt]
   obtain ⟨g, cap, cs, Si, cur, hv, hSg, hh, hcl, hsz, hcs, hR, hSi, hclose⟩ := OwnRow.elem hrow hx
   have HCL := Lib.hid hclose
   clear hrow hclose hx
   have hset : ∀ y, (marksI k j ++ us.drop j).set j y = (marksI k j ++ [y]) ++ us.drop (j + 1) := fun y => by
    rw [List.set_append_right _ _ (by rw [marksI_len]; omega), marksI_len, Nat.sub_self, List.append_assoc, List.singleton_append]
    have e := List.drop_eq_getElem_cons hlt
    rw [e]; rfl
   have HSET := Lib.hid hset
   clear hset
   generalize us[j] = a at *
   obtain ⟨rfl, -⟩ := hR
   simp only [Value.slice.injEq] at hv
   obtain ⟨rfl, -, rfl⟩ := hv
   have HHH := Lib.hid hh
   have c0 : wr.cell? ⟨g, j, none⟩ = some (.int .i64 a) := by have := (cell_of_row wr g (j * 1 + 0) cur _ (0, 0) hh).trans (hcs 0 (by omega)); simpa using this
   have cf : ∀ i, wr.frozen? ⟨g, i, none⟩ = false := fun i => frozen_of_row wr g i _ _ hh
   have hgl := bsz (blk_lt hh)
   clear hh
   go_wp2
   refine ⟨⟨j + 1, by go_num, by go_num, by omega, ?_, ?_⟩, by simp [intOf]; omega⟩
   ·rw [marksI_snoc, ← HSET.out]
    have hpt : Patch cur (cur.setIfInBounds (j * 1 + 0) (.int .i64 ((k + j : Nat) : Int))) (j * 1) [.int .i64 ((k + j : Nat) : Int)] := Patch.set (cs := [.int .i64 a]) (Patch.refl hcs) (j := 0) (by simp) hsz _
    refine HCL.out _ ((k + j : Nat) : Int) [.int .i64 ((k + j : Nat) : Int)] (cur.setIfInBounds (j * 1 + 0) (.int .i64 ((k + j : Nat) : Int))) _ rfl ?_ hpt ⟨rfl, by unfold i64B; omega⟩ (fun T y c hT hy => hy)
    have := heap_setCell_same wr g j cur _ (.int .i64 ((k + j : Nat) : Int)) HHH.out
    rw [Nat.mul_one, Nat.add_zero]
    simpa using this
   ·exact HKP.out.trans ((Kept.refl S wr).set hSg _ _)
  ·obtain rfl : j = us.length := by omega
   rw [List.drop_length, List.append_nil] at hrow
   have HRW := Lib.hid hrow
   clear hrow
   go_wp2
   go_ret
   exact ⟨rfl, HRW.out, HKP.out⟩
set_option maxHeartbeats 1600000 in
theorem heldIntS_any {B : Nat → Prop} (n : Nat) (v : Value) (k : Nat) (w : World) (h : IntsAt B w v (marksI k n)) (hb0 : k + n ≤ 100000000) :
 Calls Tryz.prog 22 #[v, .int .i64 (k : Nat)] w fun e w' => e = .returned (.int .i64 ((k + n : Nat) : Int)) ∧ Below w.heap.size w w' := by
 obtain ⟨p, c, rfl, hlen⟩ := h.form
 unfold maxLen at hlen
 rw [marksI_len] at h hlen ⊢
 have HL := Lib.hid h
 clear h
 go_enter Tryz.func22, Tryz.ntmps22
 go_wp2
 go_loopw [1, 5] (fun kv i wr => ∃ j : Nat, i = .int .i64 (j : Nat) ∧ kv = .int .i64 ((k + j : Nat) : Int) ∧ j ≤ n ∧ Below w.heap.size w wr) (fun _ i _ => n - (intOf i).toNat)
 case atStart => exact ⟨0, rfl, rfl, Nat.zero_le _, by exact bel⟩
 case round =>
  obtain ⟨j, rfl, rfl, hju, hb⟩ := hrel
  by_cases hlt : j < n
  ·have hl := HL.out.below hb
   obtain ⟨b, o, rfl, hB, hx0, -⟩ := IntsAt.at_ hl (i := j) (by rw [marksI_len]; exact hlt)
   have hxe : (marksI k n)[j]'(by rw [marksI_len]; exact hlt) = ((k + j : Nat) : Int) := by have := marksI_at (k := k) hlt; rw [List.getElem?_eq_getElem (by rw [marksI_len]; exact hlt)] at this; exact Option.some.inj this
   rw [hxe] at hx0
   clear hxe hl
   have zb := bsz (World.block_lt_of_cell? _ _ hx0)
   go_wp2
   exact ⟨⟨j + 1, by go_num, by go_num, by omega, by exact bel⟩, by simp [intOf]; omega⟩
  ·obtain rfl : j = n := by omega
   go_wp2
   go_ret
   exact ⟨rfl, by exact bel⟩
end Go.Proofs.YtabkdonplmlbcaaGreatDoor
