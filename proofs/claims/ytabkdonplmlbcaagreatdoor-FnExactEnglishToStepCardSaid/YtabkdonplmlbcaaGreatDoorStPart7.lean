import Derived.Laws.Cover1
import Derived.Lib.Small
import Derived.Test.YtabkdonplmlbcaaGreatDoorStPart6
namespace Go.Proofs.YtabkdonplmlbcaaGreatDoor
set_option maxRecDepth 100000
open Go.RowKit
def CpRel (g n m : Nat) (us : List Tm) (w : World) (i : Value) (wr : World) : Prop :=
 ∃ (k : Nat) (xs : List Value), k ≤ n ∧ i = .int .i64 k ∧ wr.ownsRow g 64 2 (.slice (some ⟨g, 0, none⟩) n n) n xs ∧ Below w.heap.size w wr ∧
  ∀ j t, j < k → us[j]? = some t → ∃ y0 y1, xs[j * 2]? = some y0 ∧ xs[j * 2 + 1]? = some y1 ∧ TmAt (fun b => g < b) m wr t [y0, y1]
theorem listAt_row2c {α : Type} {B : Nat → Prop} {w : World} {R : α → List Value → Prop} {base g n c : Nat} {e : TypeId} {xs : List Value} {us : List α} (h : w.ownsRow base e 2 (.slice (some ⟨g, 0, none⟩) n c) n xs) (hn : n = us.length) (hm : n ≤ maxLen) (hB : B g)
  (hR : ∀ j t, us[j]? = some t → ∃ y0 y1, xs[j * 2]? = some y0 ∧ xs[j * 2 + 1]? = some y1 ∧ R t [y0, y1]) : ListAt B w 2 R (.slice (some ⟨g, 0, none⟩) n c) us := by
 subst hn
 refine ⟨_, _, rfl, hm, fun i t ht => ⟨g, 0, rfl, hB, ?_⟩⟩
 obtain ⟨y0, y1, h0, h1, hr⟩ := hR i t ht
 have hi : i < us.length := (List.getElem?_eq_some_iff.1 ht).1
 refine ⟨[y0, y1], rfl, fun j hj => ?_, hr⟩
 rw [Nat.zero_add, h.cellAt (i * 2 + j) (by omega)]
 match j, hj with
 | 0, _ => simpa using h0
 | 1, _ => simpa using h1
set_option maxHeartbeats 1600000 in
theorem copyTerms_of {B : Nat → Prop} (m : Nat) (ih : ∀ (t : Tm) (v0 v1 : Value) (w : World), TmAt B m w t [v0, v1] → t.wt ≤ 1048576 →
   Calls Tryz.prog 151 #[.agg #[v0, v1]] w fun e w' => ∃ u0 u1, e = .returned (.agg #[u0, u1]) ∧ TmAt (fun b => w.heap.size ≤ b) m w' t [u0, u1] ∧ Below w.heap.size w w')
  (us : List Tm) (va : Value) (w : World) (h : ListAt B w 2 (TmAt B m w) va us) (hw : us.length + Tm.wts us ≤ 1048576) :
  Calls Tryz.prog 178 #[va] w fun e w' => ∃ u, e = .returned u ∧ ListAt (fun b => w.heap.size ≤ b) w' 2 (TmAt (fun b => w.heap.size ≤ b) m w') u us ∧ Below w.heap.size w w' := by
 obtain ⟨p, c, rfl, -⟩ := h.form
 have H := Lib.hid h
 have IH := Lib.hid ih
 have HW := Lib.hid hw
 have hlen : us.length ≤ 1048576 := by omega
 by_cases hu0 : us.length = 0
 ·obtain rfl : us = [] := List.eq_nil_of_length_eq_zero hu0
  clear h ih hw
  go_enter Tryz.func178, Tryz.ntmps178
  go_wp2
  go_ret
  exact ⟨_, rfl, ListAt.nil _ _ _ _ _ _, by exact bel⟩
 have hu1 : ((us.length : Int) == 0) = false := by rw [beq_eq_false_iff_ne]; omega
 obtain ⟨-, i, z, hi, hz, hsz, hby, hzs, -⟩ := elemTmI
 clear h ih hw
 go_enter Tryz.func178, Tryz.ntmps178
 go_wp2_with (at_make; refine wpList_make_full _ rfl _ _ _ rfl w.heap.size 64 i z 2 Tryz.underlying62 hi hz hsz _ _ _ _ us.length rfl rfl rfl rfl (by rw [hby]; omega) (by unfold maxLen; omega) (Nat.le_refl _) ?_; intro w1 ho1 hg1)
 have hb1 : Below w.heap.size w w1 := ⟨hg1.os, hg1.tape, hg1.output, hg1.size, fun k hk => hg1.block k hk (by simp)⟩
 have HO1 := Lib.hid ho1
 clear ho1 hg1
 go_loopw [14] (CpRel w.heap.size us.length m us w) (fun i _ => us.length - (intOf i).toNat)
 case atStart => exact ⟨0, _, Nat.zero_le _, rfl, HO1.out, hb1, fun j t hj => absurd hj (Nat.not_lt_zero _)⟩
 case round =>
  obtain ⟨k, xs, hk, rfl, ho, hb, hall⟩ := hrel
  have HO := Lib.hid ho
  have HALL := Lib.hid hall
  have hxl : xs.length = us.length * 2 := ho.1
  clear ho hall HO1 hb1
  by_cases hlt : k < us.length
  ·obtain ⟨b, o, rfl, hB, x0, x1, hx0, hx1, hx⟩ := (H.out.mono (SameOn.below hb) (fun _ h => h) (fun x cs _ hx => TmAt.below hb hx)).at2 hlt
   have hwt := Tm.wts_le us hlt
   obtain ⟨a, ha⟩ : ∃ a, us[k] = a := ⟨_, rfl⟩
   have HK : Hid (us[k]? = some a) := Lib.hid (by rw [List.getElem?_eq_getElem hlt, ha])
   rw [ha] at hx hwt
   have HX := Lib.hid hx
   clear hx ha
   have hgw := own_lt HO.out
   obtain ⟨pxx, cxx, rfl, rfl, -⟩ := HX.out.form
   go_wp2_with fail
   refine (IH.out a _ _ _ (HX.out.below (by exact bel)) (by have := HW.out; omega)).mono ?_
   rintro e w2 ⟨u0, u1, rfl, hu, hb2⟩
   have ⟨cw2, fw2⟩ := bcell hb2
   have qw2 := hb2.size
   (try simp at qw2)
   (try have zw2w := bsz (show w.heap.size < w2.heap.size by omega))
   have hb2w : Below wr.heap.size wr w2 := by exact bel
   obtain ⟨pu, cu, rfl, rfl, -, -⟩ := hu.form
   have HU := Lib.hid hu
   have HO2 := Lib.hid (own_below HO.out hb2w)
   clear hu
   obtain ⟨q0, hq0⟩ : ∃ q, w2.cell? ⟨w.heap.size, k * 2, none⟩ = some q := ⟨_, (HO2.out.cellAt (k * 2) (by omega)).trans (List.getElem?_eq_getElem (by omega))⟩
   obtain ⟨q1, hq1⟩ : ∃ q, w2.cell? ⟨w.heap.size, k * 2 + 1, none⟩ = some q := ⟨_, (HO2.out.cellAt (k * 2 + 1) (by omega)).trans (List.getElem?_eq_getElem (by omega))⟩
   have hf2 := fun j => HO2.out.frozenAt j
   clear cw2 fw2
   go_wp2
   generalize Value.string a.n = u0 at *
   generalize Value.slice pu a.us.length cu = u1 at *
   have ho3 := (HO2.out.stored (k * 2) u0).1
   have ho4 := (ho3.stored (k * 2 + 1) u1).1
   have hS : SameOn (fun b => w.heap.size < b) w2 ((w2.setCell ⟨w.heap.size, k * 2, none⟩ u0).setCell ⟨w.heap.size, k * 2 + 1, none⟩ u1) := by
    intro b hbb hlb
    exact (SameOn.store _ (p := ⟨w.heap.size, k * 2 + 1, none⟩) (B := fun b => w.heap.size < b) (fun b hb e => by simp at e; omega) u1 b hbb (by simpa using hlb)).trans (SameOn.store _ (p := ⟨w.heap.size, k * 2, none⟩) (B := fun b => w.heap.size < b) (fun b hb e => by simp at e; omega) u0 b hbb hlb)
   refine ⟨⟨k + 1, _, by omega, by go_num, ho4, ?_, ?_⟩, by simp [intOf]; omega⟩
   ·exact ((show Below w.heap.size w w2 by exact bel).setCell (Nat.le_refl _) _).setCell (Nat.le_refl _) _
   ·intro j t hj ht
    by_cases hjk : j = k
    ·subst hjk
     rw [HK.out] at ht
     obtain rfl := Option.some.inj ht
     refine ⟨u0, u1, ?_, ?_, (HU.out.mono (B' := fun b => w.heap.size < b) (SameOn.refl _ _) (fun b hb => by simp at hb; omega) m m _ _ (Nat.le_refl _)).mono hS (fun b hb => hb) m m _ _ (Nat.le_refl _)⟩
     ·rw [List.getElem?_set_ne (by omega), List.getElem?_set_self (by omega)]
     ·rw [List.getElem?_set_self (by simp; omega)]
    ·obtain ⟨y0, y1, e0, e1, hy⟩ := HALL.out j t (by omega) ht
     refine ⟨y0, y1, ?_, ?_, (hy.below hb2w).mono hS (fun b hb => hb) m m _ _ (Nat.le_refl _)⟩
     ·rw [List.getElem?_set_ne (by omega), List.getElem?_set_ne (by omega)]; exact e0
     ·rw [List.getElem?_set_ne (by omega), List.getElem?_set_ne (by omega)]; exact e1
  ·obtain rfl : k = us.length := by omega
   go_wp2
   go_ret
   refine ⟨_, rfl, listAt_row2c HO.out rfl (by unfold maxLen; omega) (Nat.le_refl _) (fun j t ht => ?_), hb⟩
   obtain ⟨y0, y1, e0, e1, hy⟩ := HALL.out j t ((List.getElem?_eq_some_iff.1 ht).1) ht
   exact ⟨y0, y1, e0, e1, hy.mono (SameOn.refl _ _) (fun b hb => Nat.le_of_lt hb) m m _ _ (Nat.le_refl _)⟩
set_option maxHeartbeats 1600000 in
theorem copyTerm_any {B : Nat → Prop} : ∀ (m : Nat) (t : Tm) (v0 v1 : Value) (w : World), TmAt B m w t [v0, v1] → t.wt ≤ 1048576 →
   Calls Tryz.prog 151 #[.agg #[v0, v1]] w fun e w' => ∃ u0 u1, e = .returned (.agg #[u0, u1]) ∧ TmAt (fun b => w.heap.size ≤ b) m w' t [u0, u1] ∧ Below w.heap.size w w' := by
 intro m
 induction m with
 | zero => intro t v0 v1 w h; exact h.elim
 | succ m ih =>
  rintro ⟨s, us⟩ v0 v1 w ⟨va, hcs, hs, hl⟩ hw
  simp only [List.cons.injEq, and_true] at hcs
  obtain ⟨rfl, rfl⟩ := hcs
  rw [Tm.wt] at hw
  have HS := Lib.hid (copyTerms_of m ih)
  have HL := Lib.hid hl
  have HM := Lib.hid (And.intro hs hw)
  obtain ⟨p, c, rfl, -⟩ := hl.form
  clear ih hl hs hw
  go_enter Tryz.func151, Tryz.ntmps151
  go_wp2
  have c0 : (w.alloc (.cells #[.string s, .slice p us.length c] 64)).cell? ⟨w.heap.size, 0, none⟩ = some (.string s) := by go_simp
  obtain ⟨W, hW⟩ : ∃ W : World, W = (w.alloc (.cells #[.string s, .slice p us.length c] 64)).alloc (.cells #[.string ⟨#[]⟩, .slice none 0 0] 64) := ⟨_, rfl⟩
  have hsW : W.heap.size = w.heap.size + 2 := by rw [hW]; simp
  have hbW : Below w.heap.size w W := by rw [hW]; exact bel
  have a0 : W.cell? ⟨w.heap.size, 0, none⟩ = some (.string s) := by rw [hW]; go_simp
  have a1 : W.cell? ⟨w.heap.size, 1, none⟩ = some (.slice p us.length c) := by rw [hW]; go_simp
  have r0 : W.cell? ⟨w.heap.size + 1, 0, none⟩ = some (.string ⟨#[]⟩) := by rw [hW]; go_simp
  have r1 : W.cell? ⟨w.heap.size + 1, 1, none⟩ = some (.slice none 0 0) := by rw [hW]; go_simp
  have rf : ∀ j, W.frozen? ⟨w.heap.size + 1, j, none⟩ = false := fun j => by rw [hW]; go_simp
  rw [← hW]
  clear hW c0
  have zW := bsz (show w.heap.size < W.heap.size by omega)
  have zW1 := bsz (show w.heap.size + 1 < W.heap.size by omega)
  go_region_held3 (fun w' => w'.cell? ⟨w.heap.size, 0, none⟩ = some (.string s) ∧ w'.cell? ⟨w.heap.size, 1, none⟩ = some (.slice p us.length c)) (first | go_keep | (refine ⟨?_, ?_⟩ <;> first | assumption | (go_simp; done) | (exact (World.cell?_of_block (hb6.block _ (by simp; omega))).trans (by first | assumption | (go_simp; done))))) (first | (go_at_call 178; refine (HS.out us _ _ (HL.out.mono (SameOn.below (by exact bel)) (fun _ h => h) (fun x cs _ hx => TmAt.below (by exact bel) hx)) (by have := HM.out.2; omega)).mono ?_; rintro e w6 ⟨u, rfl, hu, hb6⟩; obtain ⟨pu, cu, rfl, -⟩ := hu.form; have HU := Lib.hid hu; clear hu; have hq6 := hb6.size; (try simp at hq6); have ⟨cb6, fb6⟩ := bcell hb6; have zr := bsz (show w.heap.size + 1 < w6.heap.size by omega)))
  all_goals
   go_wp2
   refine bodyPost_ret (v := .agg #[.string s, .slice pu us.length cu]) (by simp only [results, Tryz.results151]; go_simp) rfl ⟨_, _, rfl, ⟨_, rfl, HM.out.1, ?_⟩, by exact bel⟩
   refine HU.out.mono (((SameOn.refl _ _).sc ?_ _).sc ?_ _) (fun b hb => by simp at hb; omega) (fun x cs _ hx => TmAt.mono (((SameOn.refl _ _).sc ?_ _).sc ?_ _) (fun b hb => by simp at hb; omega) m m x cs (Nat.le_refl _) hx)
   all_goals (intro b hb; simp at hb ⊢; omega)
def Lit3.fm (l : Lit3) : Fm := if l.pos then atomOfF l.a else opF 4 [atomOfF l.a]
theorem alloc_new_at {W : World} {o : Obj} {k : Nat} (h : W.heap.size = k) : (W.alloc o).heap[k]? = some o := h ▸ heap_alloc_new W o
theorem opF_at {B : Nat → Prop} {m : Nat} {w : World} {op : Int} {ps : List Fm} {vp : Value} (ho : -9223372036854775808 ≤ op ∧ op ≤ 9223372036854775807) (h : ListAt B w 5 (FmAt B (m + 1) w) vp ps) :
  FmAt B (m + 2) w (opF op ps) [.int .i64 op, .string ⟨#[]⟩, .slice none 0 0, .string ⟨#[]⟩, vp] :=
 ⟨_, _, _, rfl, ho, Nat.zero_le _, ⟨_, rfl, Nat.zero_le _, ListAt.nil _ _ _ _ _ _⟩, h⟩
theorem list_one {α : Type} {B : Nat → Prop} {w : World} {R : α → List Value → Prop} {g : Nat} {x : α} {cs : Array Value} {e : TypeId} (hg : w.heap[g]? = some (.cells cs e (0, 0))) (hB : B g) (hc : cs.size = 5) (hR : R x cs.toList) : ListAt B w 5 R (.slice (some ⟨g, 0, none⟩) 1 1) [x] := by
 refine ⟨_, _, rfl, by simp [maxLen], fun i y hy => ⟨g, 0, rfl, hB, cs.toList, by simpa using hc, fun j hj => ?_, ?_⟩⟩
 ·have hi : i < 1 := by have := (List.getElem?_eq_some_iff.1 hy).1; simpa using this
  obtain rfl : i = 0 := by omega
  rw [cell_of_row w g _ cs e (0, 0) hg]; simp
 ·have hi : i < 1 := by have := (List.getElem?_eq_some_iff.1 hy).1; simpa using this
  obtain rfl : i = 0 := by omega
  obtain rfl : x = y := by simpa using hy
  exact hR
theorem list_two {α : Type} {B : Nat → Prop} {w : World} {R : α → List Value → Prop} {g : Nat} {x y : α} {cs ds : List Value} {all : Array Value} {e : TypeId} (hall : all = (cs ++ ds).toArray) (hg : w.heap[g]? = some (.cells all e (0, 0))) (hB : B g) (hc : cs.length = 5) (hd : ds.length = 5) (hR : R x cs) (hR2 : R y ds) : ListAt B w 5 R (.slice (some ⟨g, 0, none⟩) 2 2) [x, y] := by
 subst hall
 refine ⟨_, _, rfl, by simp [maxLen], fun i z hz => ?_⟩
 have hi : i < 2 := by have := (List.getElem?_eq_some_iff.1 hz).1; simpa using this
 match i, hi with
 | 0, _ =>
  obtain rfl : x = z := by simpa using hz
  refine ⟨g, 0, rfl, hB, cs, hc, fun j hj => ?_, hR⟩
  rw [cell_of_row w g _ _ e (0, 0) hg]
  simp [List.getElem?_append_left (show j < cs.length by omega)]
 | 1, _ =>
  obtain rfl : y = z := by simpa using hz
  refine ⟨g, 0, rfl, hB, ds, hd, fun j hj => ?_, hR2⟩
  rw [cell_of_row w g _ _ e (0, 0) hg]
  simp only [List.getElem?_toArray]
  rw [List.getElem?_append_right (by omega)]
  congr 1; omega
set_option maxHeartbeats 800000 in
theorem atomOf_at {B : Nat → Prop} (m : Nat) (t : Tm) (v0 v1 : Value) (w : World) (h : TmAt B m w t [v0, v1]) :
  Calls Tryz.prog 142 #[.agg #[v0, v1]] w fun e w' => e = .returned (.agg #[.int .i64 3, v0, v1, .string ⟨#[]⟩, .slice none 0 0]) ∧ FmAt B (m + 1) w' (atomOfF t) [.int .i64 3, v0, v1, .string ⟨#[]⟩, .slice none 0 0] ∧ Below w.heap.size w w' := by
 obtain ⟨p, c, rfl, rfl, -⟩ := h.form
 have HF := Lib.hid h
 clear h
 go_enter Tryz.func142, Tryz.ntmps142
 go_wp2
 refine bodyPost_ret (v := .agg #[.int .i64 3, .string t.n, .slice p t.us.length c, .string ⟨#[]⟩, .slice none 0 0]) (by simp only [results, Tryz.results142]; go_simp) rfl ⟨rfl, ⟨_, _, _, rfl, by omega, Nat.zero_le _, HF.out.below (by exact bel), ListAt.nil _ _ _ _ _ _⟩, by exact bel⟩
set_option maxHeartbeats 800000 in
theorem not_at {B : Nat → Prop} (m : Nat) (t : Fm) (v0 v1 v2 v3 v4 : Value) (w : World) (h : FmAt B (m + 1) w t [v0, v1, v2, v3, v4]) :
  Calls Tryz.prog 101 #[.agg #[v0, v1, v2, v3, v4]] w fun e w' => ∃ u0 u1 u2 u3 u4, e = .returned (.agg #[u0, u1, u2, u3, u4]) ∧ FmAt (fun b => B b ∨ w.heap.size ≤ b) (m + 2) w' (opF 4 [t]) [u0, u1, u2, u3, u4] ∧ Below w.heap.size w w' := by
 obtain ⟨p, c, q, d, rfl, rfl, rfl, rfl, rfl, -⟩ := h.form
 have HF := Lib.hid h
 clear h
 go_enter Tryz.func101, Tryz.ntmps101
 go_wp2
 refine bodyPost_ret (v := .agg #[.int .i64 4, .string ⟨#[]⟩, .slice none 0 0, .string ⟨#[]⟩, .slice (some ⟨w.heap.size + 1 + 1, 0, none⟩) 1 1]) (by simp only [results, Tryz.results101]; go_simp) rfl ⟨_, _, _, _, _, rfl, opF_at (by omega) ?_, by exact bel⟩
 refine list_one (e := 67) (cs := #[.int .i64 t.op, .string t.a.n, .slice p t.a.us.length c, .string t.v, .slice q t.ps.length d]) ?_ (.inr (by omega)) rfl (FmAt.mono (SameOn.below (by exact bel)) (fun b hb => .inl hb) _ _ _ _ (Nat.le_refl _) HF.out)
 exact alloc_new_at (by simp)
set_option maxHeartbeats 800000 in
theorem binary_at {B : Nat → Prop} (m : Nat) (op : Int) (ho : -9223372036854775808 ≤ op ∧ op ≤ 9223372036854775807) (t r : Fm) (v0 v1 v2 v3 v4 u0 u1 u2 u3 u4 : Value) (w : World) (h : FmAt B (m + 1) w t [v0, v1, v2, v3, v4]) (h' : FmAt B (m + 1) w r [u0, u1, u2, u3, u4]) :
  Calls Tryz.prog 112 #[.int .i64 op, .agg #[v0, v1, v2, v3, v4], .agg #[u0, u1, u2, u3, u4]] w fun e w' => ∃ z0 z1 z2 z3 z4, e = .returned (.agg #[z0, z1, z2, z3, z4]) ∧ FmAt (fun b => B b ∨ w.heap.size ≤ b) (m + 2) w' (opF op [t, r]) [z0, z1, z2, z3, z4] ∧ Below w.heap.size w w' := by
 obtain ⟨p, c, q, d, rfl, rfl, rfl, rfl, rfl, -⟩ := h.form
 obtain ⟨p', c', q', d', rfl, rfl, rfl, rfl, rfl, -⟩ := h'.form
 have HF := Lib.hid h
 have HF' := Lib.hid h'
 clear h h'
 go_enter Tryz.func112, Tryz.ntmps112
 go_wp2
 refine bodyPost_ret (v := .agg #[.int .i64 op, .string ⟨#[]⟩, .slice none 0 0, .string ⟨#[]⟩, .slice (some ⟨w.heap.size + 1 + 1 + 1, 0, none⟩) 2 2]) (by simp only [results, Tryz.results112]; go_simp) rfl ⟨_, _, _, _, _, rfl, opF_at ho ?_, by exact bel⟩
 refine list_two (e := 67) (cs := [.int .i64 t.op, .string t.a.n, .slice p t.a.us.length c, .string t.v, .slice q t.ps.length d]) (ds := [.int .i64 r.op, .string r.a.n, .slice p' r.a.us.length c', .string r.v, .slice q' r.ps.length d']) rfl ?_ (.inr (by omega)) rfl rfl (FmAt.mono (SameOn.below (by exact bel)) (fun b hb => .inl hb) _ _ _ _ (Nat.le_refl _) HF.out) (FmAt.mono (SameOn.below (by exact bel)) (fun b hb => .inl hb) _ _ _ _ (Nat.le_refl _) HF'.out)
 exact alloc_new_at (by simp)
theorem upC_iff (c : UInt8) : upC c = true ↔ ¬ (c.toNat : Int) < 65 ∧ ¬ 90 < (c.toNat : Int) := by
 simp only [upC, Bool.and_eq_true, decide_eq_true_eq]; omega
theorem loC_iff (c : UInt8) : loC c = true ↔ ¬ (c.toNat : Int) < 97 ∧ ¬ 122 < (c.toNat : Int) := by
 simp only [loC, Bool.and_eq_true, decide_eq_true_eq]; omega
theorem varB_eq (s : ByteArray) : varB s.data.toList = (inB (s.size : Int) 1 4 && headTail upC smC s.data.toList) := by
 unfold varB inB; rw [← size_list]
 congr 1
 rw [Bool.eq_iff_iff]; simp; omega
theorem symB_eq (s : ByteArray) : symB s.data.toList = (inB (s.size : Int) 1 6 && headTail loC unC s.data.toList && !keyW.contains s.data.toList) := by
 unfold symB inB; rw [← size_list]
 congr 2
 rw [Bool.eq_iff_iff]; simp; omega
set_option maxHeartbeats 1600000 in
theorem l2Var_any (s : ByteArray) (w : World) (hs : s.size ≤ maxLen) :
  Calls Tryz.prog 127 #[.string s] w fun e w' => e = .returned (.bool (varB s.data.toList)) ∧ w = w' := by
 unfold maxLen at hs
 have HV := Lib.hid (varB_eq s)
 cases hB : inB (s.size : Int) 1 4
 ·have HB := Lib.hid hB
  go_enter Tryz.func127, Tryz.ntmps127
  go_wp2_with (first | (go_at_call 28; refine (l1In_any _ _ _ _).mono ?_; rintro e w' ⟨rfl, rfl⟩))
  go_ret
  exact ⟨ret_bool (by rw [HV.out, HB.out]; rfl), rfl⟩
 ·have HB := Lib.hid hB
  have hsz : 0 < s.size := by simp only [inB, Bool.and_eq_true, decide_eq_true_eq] at hB; omega
  have H0 := Lib.hid (headTail_take upC smC s 0 hsz)
  have HN0 := Lib.hid (headTail_no upC smC s 0 hsz)
  cases hU : upC s[0]
  ·have HU := Lib.hid hU
   have hor : (s[0].toNat : Int) < 65 ∨ 90 < (s[0].toNat : Int) := by
    have := (not_congr (upC_iff s[0])).1 (by rw [hU]; simp)
    omega
   rcases hor with h1 | h1
   ·go_enter Tryz.func127, Tryz.ntmps127
    go_wp2_with (first | (go_at_call 28; refine (l1In_any _ _ _ _).mono ?_; rintro e w' ⟨rfl, rfl⟩))
    go_ret
    exact ⟨ret_bool (by rw [HV.out, HN0.out (by simpa using HU.out)]; simp), rfl⟩
   ·have h2 : ¬ (s[0].toNat : Int) < 65 := by omega
    go_enter Tryz.func127, Tryz.ntmps127
    go_wp2_with (first | (go_at_call 28; refine (l1In_any _ _ _ _).mono ?_; rintro e w' ⟨rfl, rfl⟩))
    go_ret
    exact ⟨ret_bool (by rw [HV.out, HN0.out (by simpa using HU.out)]; simp), rfl⟩
  ·have HU := Lib.hid hU
   obtain ⟨h1, h2⟩ := (upC_iff s[0]).1 hU
   go_enter Tryz.func127, Tryz.ntmps127
   go_wp2_with (first | (go_at_call 28; refine (l1In_any _ _ _ _).mono ?_; rintro e w' ⟨rfl, rfl⟩))
   go_loop [3] (fun i => ∃ k : Nat, 1 ≤ k ∧ k ≤ s.size ∧ i = .int .i64 k ∧ headTail upC smC (s.data.toList.take k) = true) (fun i => s.size - (intOf i).toNat)
   case atStart => exact ⟨1, by omega, by omega, rfl, by rw [H0.out]; simp [HU.out, headTail]⟩
   case round =>
    obtain ⟨k, hk1, hk, rfl, hp⟩ := hrel
    have HP := Lib.hid hp; clear hp
    by_cases hlt : k < s.size
    ·have HT := Lib.hid (headTail_take upC smC s k hlt)
     have HN := Lib.hid (headTail_no upC smC s k hlt)
     have hk0 : ¬ k = 0 := by omega
     cases hL : smC s[k]
     all_goals
      have HL := Lib.hid hL
      go_wp2_with (first | (go_at_call 128; refine (l2Small_any _ _).mono ?_; rintro e w' ⟨rfl, rfl⟩))
     ·go_ret
      exact ⟨ret_bool (by rw [HV.out, HN.out (by rw [if_neg hk0, HL.out])]; simp), rfl⟩
     ·refine ⟨⟨k + 1, by omega, by omega, by go_num, ?_⟩, by simp [intOf]; omega⟩
      rw [HT.out, HP.out, if_neg hk0, HL.out]; rfl
    ·go_wp2
     go_ret
     exact ⟨ret_bool (by have := HP.out; rw [take_all _ _ (by omega)] at this; rw [HV.out, this, HB.out]; rfl), rfl⟩
theorem key_no {s : ByteArray} (h : keyW.contains s.data.toList = false) : ∀ l ∈ keyW, (s.toList == l) = false := by
 intro l hl
 rw [beq_eq_false_iff_ne, ByteArray.toList_eq]
 rintro rfl
 rw [← Bool.not_eq_true, List.contains_iff_mem] at h
 exact h hl
theorem key_yes {s : ByteArray} (h : keyW.contains s.data.toList = true) : s.toList ∈ keyW := by
 rw [ByteArray.toList_eq]; exact List.contains_iff_mem.1 h
set_option maxHeartbeats 1600000 in
theorem l2Symbol_any (s : ByteArray) (w : World) (hs : s.size ≤ maxLen) :
  Calls Tryz.prog 90 #[.string s] w fun e w' => e = .returned (.bool (symB s.data.toList)) ∧ w = w' := by
 unfold maxLen at hs
 have HV := Lib.hid (symB_eq s)
 cases hB : inB (s.size : Int) 1 6
 ·have HB := Lib.hid hB
  go_enter Tryz.func90, Tryz.ntmps90
  go_wp2_with (first | (go_at_call 28; refine (l1In_any _ _ _ _).mono ?_; rintro e w' ⟨rfl, rfl⟩))
  go_ret
  exact ⟨ret_bool (by rw [HV.out, HB.out]; rfl), rfl⟩
 ·have HB := Lib.hid hB
  have hsz : 0 < s.size := by simp only [inB, Bool.and_eq_true, decide_eq_true_eq] at hB; omega
  have H0 := Lib.hid (headTail_take loC unC s 0 hsz)
  have HN0 := Lib.hid (headTail_no loC unC s 0 hsz)
  cases hU : loC s[0]
  ·have HU := Lib.hid hU
   have hor : (s[0].toNat : Int) < 97 ∨ 122 < (s[0].toNat : Int) := by
    have := (not_congr (loC_iff s[0])).1 (by rw [hU]; simp)
    omega
   rcases hor with h1 | h1
   ·go_enter Tryz.func90, Tryz.ntmps90
    go_wp2_with (first | (go_at_call 28; refine (l1In_any _ _ _ _).mono ?_; rintro e w' ⟨rfl, rfl⟩))
    go_ret
    exact ⟨ret_bool (by rw [HV.out, HN0.out (by simpa using HU.out)]; simp), rfl⟩
   ·have h2 : ¬ (s[0].toNat : Int) < 97 := by omega
    go_enter Tryz.func90, Tryz.ntmps90
    go_wp2_with (first | (go_at_call 28; refine (l1In_any _ _ _ _).mono ?_; rintro e w' ⟨rfl, rfl⟩))
    go_ret
    exact ⟨ret_bool (by rw [HV.out, HN0.out (by simpa using HU.out)]; simp), rfl⟩
  ·have HU := Lib.hid hU
   obtain ⟨h1, h2⟩ := (loC_iff s[0]).1 hU
   cases hK : keyW.contains s.data.toList
   ·have HK := Lib.hid hK
    have k0 : (s.toList == [116, 114, 117, 101]) = false := key_no HK.out _ (by decide)
    have k1 : (s.toList == [102, 97, 108, 115, 101]) = false := key_no HK.out _ (by decide)
    have k2 : (s.toList == [116, 114, 117, 116, 104]) = false := key_no HK.out _ (by decide)
    have k3 : (s.toList == [98, 111, 116, 104]) = false := key_no HK.out _ (by decide)
    have k4 : (s.toList == [101, 105, 116, 104, 101, 114]) = false := key_no HK.out _ (by decide)
    have k5 : (s.toList == [105, 102]) = false := key_no HK.out _ (by decide)
    have k6 : (s.toList == [97, 108, 108]) = false := key_no HK.out _ (by decide)
    have k7 : (s.toList == [115, 111, 109, 101]) = false := key_no HK.out _ (by decide)
    go_enter Tryz.func90, Tryz.ntmps90
    go_wp2_with (first | (go_at_call 28; refine (l1In_any _ _ _ _).mono ?_; rintro e w' ⟨rfl, rfl⟩))
    go_loop [3] (fun i => ∃ k : Nat, 1 ≤ k ∧ k ≤ s.size ∧ i = .int .i64 k ∧ headTail loC unC (s.data.toList.take k) = true) (fun i => s.size - (intOf i).toNat)
    case atStart => exact ⟨1, by omega, by omega, rfl, by rw [H0.out]; simp [HU.out, headTail]⟩
    case round =>
     obtain ⟨k, hk1, hk, rfl, hp⟩ := hrel
     have HP := Lib.hid hp; clear hp
     by_cases hlt : k < s.size
     ·have HT := Lib.hid (headTail_take loC unC s k hlt)
      have HN := Lib.hid (headTail_no loC unC s k hlt)
      have hk0 : ¬ k = 0 := by omega
      have HUN := Lib.hid (show unC s[k] = (smC s[k] || (s[k] == 95)) from rfl)
      cases hL : smC s[k]
      ·have HL := Lib.hid hL
       by_cases h9 : s[k] = 95
       ·have H9 := Lib.hid h9
        have h91 : ((s[k].toNat : Int) != 95) = false := by rw [h9]; rfl
        clear h9
        go_wp2_with (first | (go_at_call 128; refine (l2Small_any _ _).mono ?_; rintro e w' ⟨rfl, rfl⟩))
        refine ⟨⟨k + 1, by omega, by omega, by go_num, ?_⟩, by simp [intOf]; omega⟩
        rw [HT.out, HP.out, if_neg hk0, HUN.out, H9.out]; rfl
       ·have H9 := Lib.hid (show (s[k] == 95) = false by simpa using h9)
        have h91 : ((s[k].toNat : Int) != 95) = true := by
         have h9n : ¬ (s[k].toNat : Int) = 95 := fun e => h9 (UInt8.toNat_inj.1 (show s[k].toNat = 95 by omega))
         simpa using h9n
        clear h9
        go_wp2_with (first | (go_at_call 128; refine (l2Small_any _ _).mono ?_; rintro e w' ⟨rfl, rfl⟩))
        go_ret
        exact ⟨ret_bool (by rw [HV.out, HN.out (by rw [if_neg hk0, HUN.out, HL.out, H9.out]; rfl)]; simp), rfl⟩
      ·have HL := Lib.hid hL
       go_wp2_with (first | (go_at_call 128; refine (l2Small_any _ _).mono ?_; rintro e w' ⟨rfl, rfl⟩))
       refine ⟨⟨k + 1, by omega, by omega, by go_num, ?_⟩, by simp [intOf]; omega⟩
       rw [HT.out, HP.out, if_neg hk0, HUN.out, HL.out]; rfl
     ·go_wp2
      go_ret
      exact ⟨ret_bool (by have := HP.out; rw [take_all _ _ (by omega)] at this; rw [HV.out, this, HB.out, HK.out]; rfl), rfl⟩
   ·have HK := Lib.hid hK
    have hmem := key_yes hK
    simp only [keyW, List.mem_cons, List.not_mem_nil, or_false] at hmem
    rcases hmem with h | h | h | h | h | h | h | h
    all_goals
     go_enter Tryz.func90, Tryz.ntmps90
     go_wp2_with (first | (go_at_call 28; refine (l1In_any _ _ _ _).mono ?_; rintro e w' ⟨rfl, rfl⟩))
     go_ret
     exact ⟨ret_bool (by rw [HV.out, HK.out]; simp), rfl⟩
def textCmp (x y : List UInt8) : Int := if Op.bytesLess x y then -1 else if x == y then 0 else 1
theorem bytesLess_self : ∀ x : List UInt8, Op.bytesLess x x = false
 | [] => by simp [Op.bytesLess]
 | a :: x => by simp [Op.bytesLess, bytesLess_self x]
theorem textCmp_self (x : List UInt8) : textCmp x x = 0 := by simp [textCmp, bytesLess_self]
theorem textCmp_ne {x y : List UInt8} (h : x ≠ y) : textCmp x y ≠ 0 := by
 unfold textCmp
 split
 ·omega
 ·rw [if_neg (by simpa using h)]; omega
def lead (l : List UInt8) : Bool := match l with | [] => false | c :: _ => upC c
mutual
def Tm.ord : Tm → Bool | .mk n us => !n.data.toList.isEmpty && lead n.data.toList == varB n.data.toList && Tm.ords us
def Tm.ords : List Tm → Bool | [] => true | a :: us => a.ord && Tm.ords us
end
mutual
def Tm.cmp : Tm → Tm → Int
 | .mk n us, .mk k vs =>
  if varB n.data.toList && !varB k.data.toList then -1
  else if varB k.data.toList && !varB n.data.toList then 1
  else if textCmp n.data.toList k.data.toList ≠ 0 then textCmp n.data.toList k.data.toList
  else if us.length < vs.length then -1 else if vs.length < us.length then 1 else Tm.cmps us vs
def Tm.cmps : List Tm → List Tm → Int
 | [], [] => 0
 | [], _ :: _ => -1
 | _ :: _, [] => 1
 | a :: us, b :: vs => if a.cmp b ≠ 0 then a.cmp b else Tm.cmps us vs
end
theorem varB_lead {l : List UInt8} (h : varB l = true) : lead l = true := by
 simp only [varB, Bool.and_eq_true, decide_eq_true_eq] at h
 cases l with
 | nil => simp at h
 | cons c r => have := h.2; simp only [headTail, Bool.and_eq_true] at this; exact this.1
theorem symB_lead {l : List UInt8} (h : symB l = true) : lead l = false ∧ varB l = false ∧ l ≠ [] := by
 simp only [symB, Bool.and_eq_true, decide_eq_true_eq] at h
 obtain ⟨⟨⟨h1, h2⟩, h3⟩, h4⟩ := h
 cases l with
 | nil => simp at h1
 | cons c r =>
  simp only [headTail, Bool.and_eq_true] at h3
  have hc : upC c = false := by
   have := h3.1
   rw [Bool.eq_false_iff]
   intro h'
   simp only [upC, loC, Bool.and_eq_true, decide_eq_true_eq] at h' this
   omega
  refine ⟨hc, ?_, by simp⟩
  rw [Bool.eq_false_iff]
  intro hv
  have := varB_lead hv
  rw [show lead (c :: r) = upC c from rfl, hc] at this
  cases this
theorem varB_ne {l : List UInt8} (h : varB l = true) : l ≠ [] := by rintro rfl; simp [varB] at h
mutual
theorem Tm.ord_nodes : ∀ t : Tm, t.nodes = true → t.ord = true
 | .mk n us, h => by
  rw [Tm.nodes] at h
  rw [Tm.ord]
  split at h
  ·rename_i hv
   obtain rfl : us = [] := by simpa using h
   have hne : ¬ n.data = #[] := fun e => varB_ne hv (by rw [e])
   simp [hv, varB_lead hv, Tm.ords, hne]
  ·rename_i hv
   simp only [Bool.and_eq_true] at h
   have hs := symB_lead h.1.1
   have := Tm.ords_nodes us h.2
   have hne : ¬ n.data = #[] := fun e => hs.2.2 (by rw [e])
   simp [hs.1, hs.2.1, this, hne]
theorem Tm.ords_nodes : ∀ us : List Tm, Tm.nodess us = true → Tm.ords us = true
 | [], _ => rfl
 | a :: us, h => by
  rw [Tm.nodess, Bool.and_eq_true] at h
  rw [Tm.ords, Bool.and_eq_true]
  exact ⟨Tm.ord_nodes a h.1, Tm.ords_nodes us h.2⟩
end
theorem Tm.ord_atom {t : Tm} (h : t.atom = true) : t.ord = true := by
 obtain ⟨n, us⟩ := t
 rw [Tm.atom] at h
 split at h
 ·rename_i hq
  simp only [Bool.and_eq_true] at h
  have hn : n.data.toList = [61] := by simpa [isEq, Tm.n] using hq
  rw [Tm.ord, hn]
  have := Tm.ords_nodes us h.2
  rw [this]; rfl
 ·simp only [Bool.and_eq_true, Tm.good] at h
  exact Tm.ord_nodes _ h.2.2
theorem Tm.cmps_drop {us vs : List Tm} {i : Nat} (h1 : i < us.length) (h2 : i < vs.length) : Tm.cmps (us.drop i) (vs.drop i) = if us[i].cmp vs[i] ≠ 0 then us[i].cmp vs[i] else Tm.cmps (us.drop (i + 1)) (vs.drop (i + 1)) := by
 rw [List.drop_eq_getElem_cons h1, List.drop_eq_getElem_cons h2, Tm.cmps]
theorem Tm.ords_at {us : List Tm} {i : Nat} (h : Tm.ords us = true) (hi : i < us.length) : us[i].ord = true := by
 induction us generalizing i with
 | nil => simp at hi
 | cons a us ih =>
  rw [Tm.ords, Bool.and_eq_true] at h
  cases i with
  | zero => exact h.1
  | succ i => exact ih h.2 (by simpa using hi)
theorem isNaNs_any (s : ByteArray) (w : World) : Calls Tryz.prog 185 #[.string s] w fun e w' => e = .returned (.bool false) ∧ w = w' := by
 go_enter Tryz.func185, Tryz.ntmps185
 go_wp2
 refine bodyPost_ret (v := .bool false) (by simp only [results, Tryz.results185]; go_simp) rfl ⟨rfl, rfl⟩
theorem compareS_any (s t : ByteArray) (w : World) : Calls Tryz.prog 158 #[.string s, .string t] w fun e w' => e = .returned (.int .i64 (textCmp s.data.toList t.data.toList)) ∧ w = w' := by
 go_enter Tryz.func158, Tryz.ntmps158
 go_wp2_with (first | (go_at_call 185; refine (isNaNs_any _ _).mono ?_; rintro e w' ⟨rfl, rfl⟩))
 all_goals go_ret
 all_goals
  refine ⟨ret_int ?_, rfl⟩
  rw [textCmp]
  simp_all [ByteArray.toList_eq]
def orI (x y : Int) : Int := if x ≠ 0 then x else y
def OrRel (x y : Int) (w : World) (i : Value) (wr : World) : Prop := wr = w ∧ (i = .int .i64 0 ∨ (i = .int .i64 1 ∧ x = 0) ∨ (i = .int .i64 2 ∧ x = 0 ∧ y = 0))
theorem or2_any (x y : Int) (g c : Nat) (w : World) (h0 : w.cell? ⟨g, 0, none⟩ = some (.int .i64 x)) (h1 : w.cell? ⟨g, 1, none⟩ = some (.int .i64 y)) :
  Calls Tryz.prog 115 #[.slice (some ⟨g, 0, none⟩) 2 c] w fun e w' => e = .returned (.int .i64 (orI x y)) ∧ Below w.heap.size w w' := by
 go_enter Tryz.func115, Tryz.ntmps115
 go_wp2
 go_loopw [8] (OrRel x y w) (fun i _ => 2 - (intOf i).toNat)
 case atStart => exact ⟨rfl, .inl rfl⟩
 case round =>
  obtain ⟨rfl, rfl | ⟨rfl, rfl⟩ | ⟨rfl, rfl, rfl⟩⟩ := hrel
  ·by_cases hx : x = 0
   ·subst hx
    go_wp2
    exact ⟨⟨rfl, .inr (.inl ⟨rfl, rfl⟩)⟩, by simp [intOf]⟩
   ·have hx' : (x == 0) = false := by simpa using hx
    have hx2 : (x != 0) = true := by rw [bne, hx']; rfl
    go_wp2
    go_ret
    exact ⟨ret_int (by simp [orI, hx]), Below.refl _ _⟩
  ·by_cases hy : y = 0
   ·subst hy
    go_wp2
    exact ⟨⟨rfl, .inr (.inr ⟨rfl, rfl, rfl⟩)⟩, by simp [intOf]⟩
   ·have hx' : (y == 0) = false := by simpa using hy
    have hx2 : (y != 0) = true := by rw [bne, hx']; rfl
    go_wp2
    go_ret
    exact ⟨ret_int (by simp [orI]), Below.refl _ _⟩
  ·go_wp2
   go_ret
   exact ⟨ret_int (by simp [orI]), Below.refl _ _⟩
theorem l2Text_any (s t : ByteArray) (w : World) : Calls Tryz.prog 129 #[.string s, .string t] w fun e w' => e = .returned (.int .i64 (textCmp s.data.toList t.data.toList)) ∧ w = w' := by
 go_enter Tryz.func129, Tryz.ntmps129
 go_wp2
 all_goals go_ret
 all_goals
  refine ⟨ret_int ?_, rfl⟩
  rw [textCmp]
  simp_all [ByteArray.toList_eq]
theorem isVar_any {B : Nat → Prop} (m : Nat) (t : Tm) (v0 v1 : Value) (w : World) (h : TmAt B m w t [v0, v1]) (ho : t.ord = true) :
  Calls Tryz.prog 157 #[.agg #[v0, v1]] w fun e w' => e = .returned (.bool (varB t.n.data.toList)) ∧ Below w.heap.size w w' := by
 obtain ⟨p, c, rfl, rfl, -⟩ := h.form
 obtain ⟨n, us⟩ := t
 rw [Tm.ord] at ho
 simp only [Bool.and_eq_true, beq_iff_eq] at ho
 simp only [Tm.n, Tm.us]
 clear h
 have hn : 0 < n.size := by
  rw [size_list]
  refine List.length_pos_iff.2 (fun e => ?_)
  have := ho.1.1; rw [e] at this; simp at this
 have hn' : (0 : Int) < n.size := by omega
 have HV := Lib.hid (show upC n[0] = varB n.data.toList by
  rw [← ho.1.2]
  have e : n.data.toList = n[0] :: n.data.toList.tail := by
   cases hl : n.data.toList with
   | nil => rw [size_list, hl] at hn; simp at hn
   | cons c r =>
    have : n.data.toList[0]? = some n[0] := by rw [List.getElem?_eq_getElem (by rw [← size_list]; exact hn)]; rfl
    rw [hl] at this; simp at this; rw [this]; rfl
  rw [e]; rfl)
 go_enter Tryz.func157, Tryz.ntmps157
 go_wp2_with (first | (go_at_call 140; refine (isUpper_any _ _).mono ?_; rintro e w' ⟨rfl, rfl⟩))
 go_ret
 exact ⟨ret_bool HV.out, by exact bel⟩
def flagI (b : Bool) : Int := if b then 1 else 0
def Lit3.cmp (a b : Lit3) : Int := orI (a.a.cmp b.a) (Lib.compareInt (flagI a.pos) (flagI b.pos))
def ascP : Option Lit3 → Lit3 → Bool | none, _ => true | some q, l => decide (q.cmp l < 0)
def Cls.okF : Option Lit3 → List Lit3 → Bool
 | _, [] => true
 | p, l :: ls => l.a.atom && ascP p l && Cls.okF (some l) ls
def Cls.good (c : List Lit3) : Bool := decide (c.length ≤ 8) && Cls.okF none c
def prevAt (c : List Lit3) : Nat → Option Lit3 | 0 => none | k + 1 => c[k]?
theorem okF_drop {c : List Lit3} {k : Nat} (h : k < c.length) : Cls.okF (prevAt c k) (c.drop k) = (c[k].a.atom && ascP (prevAt c k) c[k] && Cls.okF (prevAt c (k + 1)) (c.drop (k + 1))) := by
 rw [List.drop_eq_getElem_cons h, Cls.okF, show prevAt c (k + 1) = some c[k] from List.getElem?_eq_getElem h]
theorem prevAt_pos {c : List Lit3} {k : Nat} (h : k < c.length) (hk : 0 < k) : prevAt c k = some (c[k - 1]'(by omega)) := by
 obtain ⟨j, rfl⟩ : ∃ j, k = j + 1 := ⟨k - 1, by omega⟩
 exact List.getElem?_eq_getElem (by omega)
theorem cmp_flags (p q : Bool) : Lib.compareInt (flagI p) (flagI q) = if !p && q then -1 else if p && !q then 1 else 0 := by cases p <;> cases q <;> rfl
end Go.Proofs.YtabkdonplmlbcaaGreatDoor
