import Derived.Lib.Join
import Derived.Test.YtabkdonplmlbcaaGreatDoorStPart11
namespace Go.Proofs.YtabkdonplmlbcaaGreatDoor
set_option maxRecDepth 100000
open Go.RowKit
theorem join_eq (sep : List UInt8) : ∀ l : List (List UInt8), Lib.join l sep = joinB sep l
 | [] => rfl
 | [a] => by rw [Lib.join_one]; rfl
 | a :: b :: l => by
  rw [joinB, ← join_eq sep (b :: l), Lib.join_cons, Lib.join_cons, Lib.joinTail]
  simp [Lib.joinTail, List.append_assoc]
theorem strs_map (l : List (List UInt8)) : (l.map (fun x => (⟨x.toArray⟩ : ByteArray))).map (·.data.toList) = l := by
 induction l with
 | nil => rfl
 | cons a l ih => rw [List.map_cons, List.map_cons, ih]
theorem join_own {base : Nat} {v : Value} {l : List (List UInt8)} (sp : List UInt8) (w : World) (h : w.ownsRow base 9 1 v l.length (strV l)) (hl : l.length ≤ 1000000) (hlen : (joinB sp l).length ≤ 140737488355328) :
  Calls Tryz.prog 81 #[v, .string ⟨sp.toArray⟩] w fun e w' => e = .returned (.string ⟨(joinB sp l).toArray⟩) ∧ Below w.heap.size w w' := by
 cases l with
 | nil =>
  rcases h.2 with ⟨rfl, _⟩ | ⟨g, cap, cur, rfl, _⟩
  ·exact (Tryz.strings_Join_none _ _ _ _).mono fun e w' ⟨he, hw⟩ => ⟨he, hw ▸ Below.refl _ _⟩
  ·exact (Tryz.strings_Join_none _ _ _ _).mono fun e w' ⟨he, hw⟩ => ⟨he, hw ▸ Below.refl _ _⟩
 | cons a l =>
  obtain ⟨g, cap, rfl⟩ := own_form h (by simp)
  have hlt := own_lt h
  have hcap : (a :: l).length ≤ cap := by
   rcases h.2 with ⟨h, _⟩ | ⟨g', cap', cur, hv, _, _, hc, _⟩
   ·cases h
   ·injection hv with e1 e2 e3; subst e3; exact hc
  have := Tryz.strings_Join g 0 cap ((a :: l).map (fun x => (⟨x.toArray⟩ : ByteArray))) ⟨sp.toArray⟩ w (fun j x hx => by
   rw [Nat.zero_add]
   have hj : j < (a :: l).length := by have := (List.getElem?_eq_some_iff.1 hx).1; simpa using this
   rw [h.cellAt j (by omega), strV, List.getElem?_map]
   rw [List.getElem?_map] at hx
   cases hq : (a :: l)[j]? with
   | none => rw [hq] at hx; cases hx
   | some y => rw [hq] at hx; simp only [Option.map_some, Option.some.injEq] at hx; subst hx; rfl) hlt (by simp at hl ⊢; omega) (by simpa using hcap) (by rw [strs_map, join_eq]; exact hlen)
  rw [strs_map, join_eq, List.length_map] at this
  exact this
theorem fmtL_map : ∀ us : List Tm, Tm.fmtL us = us.map Tm.fmt
 | [] => rfl
 | a :: us => by rw [Tm.fmtL, fmtL_map us]; rfl
theorem fmtL_len (us : List Tm) : (Tm.fmtL us).length = us.length := by rw [fmtL_map, List.length_map]
theorem fmtL_at {us : List Tm} {k : Nat} (h : k < us.length) : (Tm.fmtL us)[k]'(by rw [fmtL_len]; exact h) = us[k].fmt := by simp [fmtL_map]
theorem joinB_mem {sep : List UInt8} : ∀ {l : List (List UInt8)} {a : List UInt8}, a ∈ l → a.length ≤ (joinB sep l).length
 | [b], a, h => by simp at h; subst h; exact Nat.le_refl _
 | b :: c :: l, a, h => by
  rw [joinB]
  simp only [List.length_append]
  rcases List.mem_cons.1 h with rfl | h
  ·omega
  ·have := joinB_mem (sep := sep) h; omega
theorem fmt_arg {us : List Tm} {k : Nat} (h : k < us.length) (sep : List UInt8) : (us[k]).fmt.length ≤ (joinB sep (Tm.fmtL us)).length := by
 refine joinB_mem ?_
 rw [fmtL_map]
 exact List.mem_map_of_mem (List.getElem_mem h)
theorem nodess_arg {us : List Tm} (hn : Tm.nodess us = true) {k : Nat} (h : k < us.length) : (us[k]).nodes = true := by
 induction us generalizing k with
 | nil => simp at h
 | cons a us ih =>
  rw [Tm.nodess, Bool.and_eq_true] at hn
  cases k with
  | zero => exact hn.1
  | succ k => exact ih hn.2 (by simpa using h)
theorem nodes_len {n : ByteArray} {us : List Tm} (h : (Tm.mk n us).nodes = true) : us.length ≤ 4 := by
 rw [Tm.nodes] at h
 split at h
 ·cases us <;> simp at h ⊢
 ·simp only [Bool.and_eq_true, decide_eq_true_eq] at h; exact h.1.2
theorem nodes_noEq {t : Tm} (h : t.nodes = true) : isEq t.n = false := by
 obtain ⟨n, us⟩ := t
 have := word_not61 (Tm.nodes_mk h).1
 simpa [isEq, Tm.n] using this
def TextsRel (l : List (List UInt8)) (g : Nat) (u : Value) (w : World) (out i : Value) (wr : World) : Prop :=
 ∃ k : Nat, k ≤ l.length ∧ i = .int .i64 k ∧ wr.ownsRow (g + 1) 9 1 out k (strV (l.take k)) ∧ wr.cell? ⟨g, 0, none⟩ = some u ∧ Below w.heap.size w wr
theorem strV_take {l : List (List UInt8)} {k : Nat} (h : k < l.length) : strV (l.take (k + 1)) = strV (l.take k) ++ [.string ⟨(l[k]).toArray⟩] := by
 rw [List.take_succ_eq_append_getElem h, strV_snoc]
set_option maxHeartbeats 1600000 in
theorem formatTerm_any {B : Nat → Prop} : ∀ (m : Nat) (t : Tm) (v0 v1 : Value) (w : World), TmAt B m w t [v0, v1] → t.nodes = true → t.fmt.length ≤ 1000000000000 →
   Calls Tryz.prog 150 #[.agg #[v0, v1]] w fun e w' => e = .returned (.string ⟨t.fmt.toArray⟩) ∧ Below w.heap.size w w' := by
 intro m
 induction m with
 | zero => intro t v0 v1 w h; exact h.elim
 | succ m ih =>
  rintro ⟨s, us⟩ v0 v1 w ⟨va, hcs, hs, hl⟩ hn hz
  simp only [List.cons.injEq, and_true] at hcs
  obtain ⟨rfl, rfl⟩ := hcs
  obtain ⟨p, c, rfl, -⟩ := hl.form
  have hlen := nodes_len hn
  have HQ := Lib.hid (nodes_noEq hn)
  have HM := Lib.hid (Tm.fmt_mk (us := us) (word_not61 (Tm.nodes_mk hn).1))
  have HN := Lib.hid (Tm.nodes_mk hn).2
  have IH := Lib.hid ih
  have HL := Lib.hid hl
  clear ih hl hn
  by_cases h0 : us = []
  ·subst h0
   go_enter Tryz.func150, Tryz.ntmps150
   go_wp2_with fail
   refine (isEquality_any _ _ _).mono ?_
   rintro e w1 ⟨rfl, hb1⟩
   have ⟨cw1, fw1⟩ := bcell hb1
   have qw1 := hb1.size
   (try simp at qw1)
   (try have zw1w := bsz (show w.heap.size < w1.heap.size by omega))
   rw [show isEq s = false from HQ.out]
   go_wp2
   go_ret
   exact ⟨ret_strs (by rw [HM.out]; rfl), by exact bel⟩
  ·have hm := HM.out
   have hie : us.isEmpty = false := by
    cases us with
    | nil => exact absurd rfl h0
    | cons a l => rfl
   rw [hie, if_neg (by decide)] at hm
   have hfm : (Tm.mk s us).fmt.length = s.size + 1 + (joinB [44] (Tm.fmtL us)).length + 1 := by rw [hm]; simp; omega
   have hjl : s.size + 1 + (joinB [44] (Tm.fmtL us)).length + 1 ≤ 1000000000000 := by omega
   have HM2 := Lib.hid hm
   have hl0 : 0 < us.length := List.length_pos_iff.2 h0
   clear hfm hz hm HM hie
   go_enter Tryz.func150, Tryz.ntmps150
   go_wp2_with fail
   refine (isEquality_any _ _ _).mono ?_
   rintro e w1 ⟨rfl, hb1⟩
   have ⟨cw1, fw1⟩ := bcell hb1
   have qw1 := hb1.size
   (try simp at qw1)
   (try have zw1w := bsz (show w.heap.size < w1.heap.size by omega))
   rw [show isEq s = false from HQ.out]
   go_wp2
   go_loopw [3, 30] (TextsRel (Tm.fmtL us) w.heap.size (.string s) w) (fun _ i _ => us.length - (intOf i).toNat)
   case atStart => exact ⟨0, Nat.zero_le _, rfl, row_empty _ _ _ _ (by omega), by go_simp, by exact bel⟩
   case round =>
    obtain ⟨k, hk, rfl, ho, hc, hb⟩ := hrel
    have HO := Lib.hid ho
    rw [fmtL_len] at hk
    have hqr := hb.size
    have hgr : w.heap.size < wr.heap.size := World.block_lt_of_cell? _ _ hc
    clear ho
    by_cases hlt : k < us.length
    ·obtain ⟨b, o, rfl, hB, x0, x1, hx0, hx1, hx⟩ := (HL.out.mono (SameOn.below hb) (fun _ h => h) (fun x cs _ hx => TmAt.below hb hx)).at2 hlt
     have hS := fmtL_at hlt
     have hF := fmt_arg hlt [44]
     have hN := nodess_arg HN.out hlt
     obtain ⟨a, ha⟩ : ∃ a, us[k] = a := ⟨_, rfl⟩
     rw [ha] at hx
     rw [ha] at hS
     rw [ha] at hF
     rw [ha] at hN
     have HX := Lib.hid hx
     have HS := Lib.hid hS
     have HF := Lib.hid hF
     have HN := Lib.hid hN
     clear hx ha hS hF hN
     have zb := bsz (World.block_lt_of_cell? _ _ hx0)
     obtain ⟨pa, ca, rfl, rfl, -, -⟩ := HX.out.form
     have hfl : a.fmt.length ≤ 1000000000000 := by have := HF.out; omega
     go_wp2_with fail
     refine (IH.out a _ _ _ (HX.out.below (by exact bel)) HN.out hfl).mono ?_
     rintro e w2 ⟨rfl, hb2⟩
     have ⟨cw2, fw2⟩ := bcell hb2
     have qw2 := hb2.size
     (try simp at qw2)
     (try have zw2w := bsz (show w.heap.size < w2.heap.size by omega))
     (try have zw2w1 := bsz (show w1.heap.size < w2.heap.size by omega))
     have HO1 := Lib.hid (own_below HO.out (show Below wr.heap.size wr w2 by exact bel))
     have HC1 := Lib.hid ((show Below wr.heap.size wr w2 by exact bel).cell hgr |>.trans hc)
     have hb3 : Below w.heap.size w w2 := by exact bel
     clear hc
     go_wp2_with (at_builtin; refine wpList_app1 rfl (.tmp 34) (.tmp 37) _ rfl (w.heap.size + 1) 9 1 16 elemStr _ _ _ rfl w2 #[.string ⟨a.fmt.toArray⟩] rfl _ (by simp) rfl HO1.out rfl (by simp [Value.oneCell']) (by omega) (by unfold maxLen; omega) (by omega) ?_; intro v1 w3 hown1 hg1 hnr1 hlt1)
     refine ⟨⟨v1, _, _, ⟨k + 1, by rw [fmtL_len]; omega, by go_num, ?_, ?_, hb3.grown hg1 (by omega) (fun k hk => by have := own_base HO1.out k hk; omega)⟩, rfl, rfl, rfl⟩, by simp [intOf]; omega⟩
     ·rw [strV_take (by rw [fmtL_len]; omega), HS.out]; exact hown1
     ·exact grown_cell hg1 HC1.out (fun e => by have := own_base HO1.out _ e.symm; omega)
    ·obtain rfl : k = us.length := by omega
     have ho := HO.out
     rw [← fmtL_len, List.take_length] at ho
     have HO2 := Lib.hid ho
     clear ho HO
     go_wp2
     refine wp_region_flowC wr.heap.size [(⟨w.heap.size, 0, none⟩, .string s)] (by kernel_rfl) (by kernel_rfl) (by first | (intro _ hs; cases hs; done) | (simp only [List.forall_mem_cons]; go_simp)) fun C HC => ?_
     repeat (first | ((first | apply flow_free rfl | (apply flow_yes; (case hw => go_simp))); (intro L w' hun hrd hC; have ⟨hC, hb', hf'⟩ := flO HC hC; (try simp only [List.forall_mem_cons] at hf'); go_simp; first | exact ⟨flS HC hC, rfl⟩ | (rw [if_neg]; (exact ⟨flS HC hC, rfl⟩); omega) | (go_at_call 81; refine (join_own [44] _ (own_below HO2.out hb') (by rw [fmtL_len]; omega) (by omega)).mono ?_; rintro e w1 ⟨rfl, hb1⟩; exact ⟨rfl, flN HC hC (by first | (simp; done) | (simp; omega) | omega) hb1⟩)); go_simp) | (apply flow_noC HC; (case hw => (go_simp; try (intro hh; cases hh))); go_simp))
     refine flow_nil ?_
     intro L wz hL hz
     have ⟨_, hbz, hcz⟩ := flO HC hz
     try simp only [List.forall_mem_cons] at hcz
     go_wp2
     go_ret
     exact ⟨ret_strs (by rw [HM2.out]; simp), by exact bel⟩
theorem joinB_snoc (sep : List UInt8) : ∀ (l : List (List UInt8)) (a : List UInt8), l ≠ [] → joinB sep (l ++ [a]) = joinB sep l ++ sep ++ a
 | [b], a, _ => rfl
 | b :: c :: l, a, _ => by
  have := joinB_snoc sep (c :: l) a (by simp)
  rw [List.cons_append] at this
  rw [List.cons_append, List.cons_append, joinB, this, joinB]
  simp only [List.append_assoc]
def accT (hd sep : List UInt8) (l : List (List UInt8)) (k : Nat) : List UInt8 := if k = 0 then [] else hd ++ joinB sep (l.take k)
theorem accT_zero (hd sep : List UInt8) (l : List (List UInt8)) : accT hd sep l 0 = [] := rfl
theorem accT_one (hd sep : List UInt8) (l : List (List UInt8)) (h : 0 < l.length) : accT hd sep l 1 = hd ++ l[0] := by
 rw [accT, if_neg (by omega)]
 cases l with
 | nil => simp at h
 | cons a l => rfl
theorem accT_succ (hd sep : List UInt8) (l : List (List UInt8)) {k : Nat} (hk : k ≠ 0) (h : k < l.length) : accT hd sep l (k + 1) = accT hd sep l k ++ sep ++ l[k] := by
 rw [accT, if_neg (by omega), accT, if_neg hk, List.take_succ_eq_append_getElem h, joinB_snoc]
 ·simp only [List.append_assoc]
 ·intro e
  have := congrArg List.length e
  rw [List.length_take, List.length_nil] at this
  omega
theorem accT_all (hd sep : List UInt8) (l : List (List UInt8)) (h : 0 < l.length) : accT hd sep l l.length = hd ++ joinB sep l := by
 rw [accT, if_neg (by omega), List.take_length]
theorem joinB_take (sep : List UInt8) : ∀ (l : List (List UInt8)) (k : Nat), (joinB sep (l.take k)).length ≤ (joinB sep l).length
 | [], k => by simp
 | [a], 0 => by simp [joinB]
 | [a], k + 1 => by simp
 | a :: b :: l, 0 => by simp [joinB]
 | a :: b :: l, 1 => by simp [joinB]
 | a :: b :: l, k + 2 => by
  have := joinB_take sep (b :: l) (k + 1)
  rw [List.take_succ_cons] at this
  rw [List.take_succ_cons, List.take_succ_cons, joinB, joinB]
  simp only [List.length_append]
  omega
theorem accT_len (hd sep : List UInt8) (l : List (List UInt8)) (k : Nat) : (accT hd sep l k).length ≤ hd.length + (joinB sep l).length := by
 unfold accT
 split
 ·simp
 ·have := joinB_take sep l k
  simp only [List.length_append]; omega
set_option maxHeartbeats 1600000 in
theorem l3Term_any {B : Nat → Prop} : ∀ (m : Nat) (t : Tm) (v0 v1 : Value) (w : World), TmAt B m w t [v0, v1] → t.nodes = true → t.fmt.length ≤ 1000000000000 →
   Calls Tryz.prog 166 #[.agg #[v0, v1]] w fun e w' => e = .returned (.string ⟨t.fmt.toArray⟩) ∧ Below w.heap.size w w' := by
 intro m
 induction m with
 | zero => intro t v0 v1 w h; exact h.elim
 | succ m ih =>
  rintro ⟨s, us⟩ v0 v1 w ⟨va, hcs, hs, hl⟩ hn hz
  simp only [List.cons.injEq, and_true] at hcs
  obtain ⟨rfl, rfl⟩ := hcs
  obtain ⟨p, c, rfl, -⟩ := hl.form
  have hlen := nodes_len hn
  have hq := isEq_list (nodes_noEq hn)
  simp only [Tm.n] at hq
  have HM := Lib.hid (Tm.fmt_mk (us := us) (word_not61 (Tm.nodes_mk hn).1))
  have HN := Lib.hid (Tm.nodes_mk hn).2
  have hfm : us ≠ [] → (Tm.mk s us).fmt = s.data.toList ++ [40] ++ joinB [44] (Tm.fmtL us) ++ [41] := fun h => by
   rw [HM.out, if_neg (by simpa using h)]
  have HF := Lib.hid hfm
  have hjl : s.size + 1 + (joinB [44] (Tm.fmtL us)).length + 1 ≤ 1000000000002 := by
   by_cases h : us = []
   ·subst h; rw [HM.out] at hz; simp [Tm.fmtL, joinB] at hz ⊢; omega
   ·rw [hfm h] at hz; simp at hz ⊢; omega
  have IH := Lib.hid ih
  have HL := Lib.hid hl
  clear ih hl hn hz hfm
  go_enter Tryz.func166, Tryz.ntmps166
  go_wp2
  obtain ⟨W, hW⟩ : ∃ W : World, W = w.alloc (.cells #[.string s, .slice p us.length c] 64) := ⟨_, rfl⟩
  have hwb : W.cell? ⟨w.heap.size, 1, none⟩ = some (.slice p us.length c) := by rw [hW]; go_simp
  have hbW : Below w.heap.size w W := by rw [hW]; exact bel
  rw [← hW]
  clear hW
  go_loopw [3, 4] (fun x i wr => ∃ k : Nat, k ≤ us.length ∧ i = .int .i64 k ∧ x = .string ⟨(s.data.toList ++ accT [40] [44] (Tm.fmtL us) k).toArray⟩ ∧ Below W.heap.size W wr) (fun _ i _ => us.length - (intOf i).toNat)
  case atStart => exact ⟨0, Nat.zero_le _, rfl, by rw [accT_zero, List.append_nil], Below.refl _ _⟩
  case round =>
   obtain ⟨k, hk, rfl, rfl, hbr⟩ := hrel
   have hb := Below.step hbW hbr
   have hwr := (hbr.cell (World.block_lt_of_cell? W _ hwb)).trans hwb
   have hal := accT_len [40] [44] (Tm.fmtL us) k
   simp only [List.length_cons, List.length_nil] at hal
   by_cases hlt : k < us.length
   ·obtain ⟨b, o, rfl, hB, x0, x1, hx0, hx1, hx⟩ := (HL.out.mono (SameOn.below hb) (fun _ h => h) (fun x cs _ hx => TmAt.below hb hx)).at2 hlt
    have hS := fmtL_at hlt
    have hF := fmt_arg hlt [44]
    have hN := nodess_arg HN.out hlt
    obtain ⟨a, ha⟩ : ∃ a, us[k] = a := ⟨_, rfl⟩
    rw [ha] at hx
    rw [ha] at hS
    rw [ha] at hF
    rw [ha] at hN
    have HX := Lib.hid hx
    have HS := Lib.hid hS
    have HF := Lib.hid hF
    have HN := Lib.hid hN
    clear hx ha hS hF hN
    have zb := bsz (World.block_lt_of_cell? _ _ hx0)
    obtain ⟨pa, ca, rfl, rfl, -, -⟩ := HX.out.form
    have hfl : a.fmt.length ≤ 1000000000000 := by have := HF.out; omega
    by_cases hk0 : k = 0
    ·have hk1 : ((k : Int) == 0) = true := by simp; omega
     have HA0 := Lib.hid (show accT [40] [44] (Tm.fmtL us) k = [] by rw [hk0]; rfl)
     have HA := Lib.hid (show accT [40] [44] (Tm.fmtL us) (k + 1) = [40] ++ (Tm.fmtL us)[k]'(by rw [fmtL_len]; exact hlt) by subst hk0; exact accT_one [40] [44] (Tm.fmtL us) (by rw [fmtL_len]; exact hlt))
     generalize accT [40] [44] (Tm.fmtL us) k = x at *
     clear hk0
     go_wp2_with fail
     refine (IH.out a _ _ _ (HX.out.below (by exact bel)) HN.out hfl).mono ?_
     rintro e w1 ⟨rfl, hb1⟩
     have ⟨cw1, fw1⟩ := bcell hb1
     have qw1 := hb1.size
     (try simp at qw1)
     (try have zw1w := bsz (show w.heap.size < w1.heap.size by omega))
     go_wp2
     refine ⟨⟨k + 1, by omega, by go_num, ?_, Below.step hbr hb1⟩, by simp [intOf]; omega⟩
     rw [HA.out, HS.out, HA0.out]
     exact congrArg Value.string (by apply ByteArray.ext; simp)
    ·have hk1 : ((k : Int) == 0) = false := by simp; omega
     have HA := Lib.hid (accT_succ [40] [44] (Tm.fmtL us) hk0 (by rw [fmtL_len]; exact hlt))
     generalize accT [40] [44] (Tm.fmtL us) k = x at *
     go_wp2_with fail
     refine (IH.out a _ _ _ (HX.out.below (by exact bel)) HN.out hfl).mono ?_
     rintro e w1 ⟨rfl, hb1⟩
     have ⟨cw1, fw1⟩ := bcell hb1
     have qw1 := hb1.size
     (try simp at qw1)
     (try have zw1w := bsz (show w.heap.size < w1.heap.size by omega))
     go_wp2
     refine ⟨⟨k + 1, by omega, by go_num, ?_, Below.step hbr hb1⟩, by simp [intOf]; omega⟩
     rw [HA.out, HS.out]
     exact congrArg Value.string (by apply ByteArray.ext; simp)
   ·obtain rfl : k = us.length := by omega
    by_cases h0 : us = []
    ·subst h0
     go_wp2
     go_ret
     exact ⟨ret_str (by rw [HM.out]; simp [accT]), hb⟩
    ·have hl0 : 0 < (us.length : Int) := by have := List.length_pos_iff.2 h0; omega
     have HA := Lib.hid (show accT [40] [44] (Tm.fmtL us) us.length = [40] ++ joinB [44] (Tm.fmtL us) by
      have := accT_all [40] [44] (Tm.fmtL us) (by rw [fmtL_len]; omega)
      rw [fmtL_len] at this; exact this)
     have HF0 := Lib.hid (HF.out h0)
     generalize accT [40] [44] (Tm.fmtL us) us.length = x at *
     go_wp2
     go_ret
     exact ⟨ret_strs (by rw [HF0.out, HA.out]; simp), hb⟩
theorem TmAt.pair {B : Nat → Prop} {m : Nat} {w : World} {a b : Tm} {p : Option Addr} {c : Nat} (h : ListAt B w 2 (TmAt B m w) (.slice p 2 c) [a, b]) :
  ∃ g o pa ca pb cb, p = some ⟨g, o, none⟩ ∧ w.cell? ⟨g, o, none⟩ = some (.string a.n) ∧ w.cell? ⟨g, o + 1, none⟩ = some (.slice pa a.us.length ca) ∧ w.cell? ⟨g, o + 2, none⟩ = some (.string b.n) ∧ w.cell? ⟨g, o + 3, none⟩ = some (.slice pb b.us.length cb) ∧
   TmAt B m w a [.string a.n, .slice pa a.us.length ca] ∧ TmAt B m w b [.string b.n, .slice pb b.us.length cb] := by
 obtain ⟨g, o, rfl, _, x0, x1, hx0, hx1, hx⟩ := h.at2 (i := 0) (by simp)
 obtain ⟨g', o', he, _, y0, y1, hy0, hy1, hy⟩ := h.at2 (i := 1) (by simp)
 simp only [Option.some.injEq, Addr.mk.injEq, and_true] at he
 obtain ⟨rfl, rfl⟩ := he
 obtain ⟨pa, ca, rfl, rfl, -, -⟩ := hx.form
 obtain ⟨pb, cb, rfl, rfl, -, -⟩ := hy.form
 exact ⟨g, o, pa, ca, pb, cb, rfl, by simpa using hx0, by simpa using hx1, by simpa using hy0, by simpa using hy1, hx, hy⟩
set_option maxHeartbeats 1600000 in
theorem atomEnglish_any {B : Nat → Prop} (m : Nat) (t : Tm) (v0 v1 : Value) (w : World) (h : TmAt B m w t [v0, v1]) (hn : t.atom = true) (hz : t.eng.length ≤ 1000000000000) :
   Calls Tryz.prog 109 #[.agg #[v0, v1]] w fun e w' => e = .returned (.string ⟨t.eng.toArray⟩) ∧ Below w.heap.size w w' := by
 have hl := h.args
 obtain ⟨p, c, rfl, rfl, -, -⟩ := h.form
 clear h
 cases atom_cases hn with
 | eq a b ha hb =>
  have hl2 : ListAt B w 2 (TmAt B m w) (.slice p 2 c) [a, b] := hl
  obtain ⟨g, o, pa, ca, pb, cb, rfl, hx0, hx1, hx2, hx3, hta, htb⟩ := TmAt.pair hl2
  have HE := Lib.hid (eng_eq a b)
  have hz2 : a.fmt.length + b.fmt.length + 8 ≤ 1000000000000 := by rw [eng_eq] at hz; simp [sEquals] at hz; omega
  have HA := Lib.hid (And.intro hta ha)
  have HB := Lib.hid (And.intro htb hb)
  clear hl hl2 hn hta htb ha hb hz
  show Calls Tryz.prog 109 #[.agg #[.string ⟨#[61]⟩, .slice (some ⟨g, o, none⟩) 2 c]] w _
  go_enter Tryz.func109, Tryz.ntmps109
  go_wp2_with fail
  refine (isEquality_any _ _ _).mono ?_
  rintro e w1 ⟨rfl, hb1⟩
  have ⟨cw1, fw1⟩ := bcell hb1
  have qw1 := hb1.size
  (try simp at qw1)
  (try have zw1w := bsz (show w.heap.size < w1.heap.size by omega))
  rw [show isEq ⟨#[61]⟩ = true from rfl]
  go_wp2
  have zg := bsz (World.block_lt_of_cell? _ _ hx0)
  refine wp_region_flowC w1.heap.size [(⟨w.heap.size, 1, none⟩, .slice (some ⟨g, o, none⟩) 2 c), (⟨g, o, none⟩, .string a.n), (⟨g, o + 1, none⟩, .slice pa a.us.length ca), (⟨g, o + 2, none⟩, .string b.n), (⟨g, o + 3, none⟩, .slice pb b.us.length cb)] (by kernel_rfl) (by kernel_rfl) (by first | (intro _ hs; cases hs; done) | (simp only [List.forall_mem_cons]; go_simp)) fun C HC => ?_
  repeat (first | ((first | apply flow_free rfl | (apply flow_yes; (case hw => go_simp))); (intro L w' hun hrd hC; have ⟨hC, hb', hf'⟩ := flO HC hC; (try have hw' : Below w.heap.size w w' := by first | exact belT (hb := hb') | exact bel); (try simp only [List.forall_mem_cons] at hf'); go_simp; first | exact ⟨flS HC hC, rfl⟩ | (rw [if_neg]; (exact ⟨flS HC hC, rfl⟩); omega) | (go_at_call 150; (with_reducible refine (formatTerm_any m a _ _ _ (HA.out.1.below hw') HA.out.2 (by omega)).mono ?_); rintro e w1 ⟨rfl, hb1⟩; exact ⟨rfl, (HC.out _ _).2 ((hC.next (by first | (simp; done) | (simp; omega) | omega) hb1).skip _ (by rfl))⟩) | (go_at_call 150; (with_reducible refine (formatTerm_any m b _ _ _ (HB.out.1.below hw') HB.out.2 (by omega)).mono ?_); rintro e w1 ⟨rfl, hb1⟩; exact ⟨rfl, (HC.out _ _).2 ((hC.next (by first | (simp; done) | (simp; omega) | omega) hb1).skip _ (by rfl))⟩)); go_simp) | (apply flow_noC HC; (case hw => (go_simp; try (intro hh; cases hh))); go_simp))
  refine flow_nil ?_
  intro L wz hL hz
  have ⟨_, hbz, hcz⟩ := flO HC hz
  try simp only [List.forall_mem_cons] at hcz
  go_wp2
  go_ret
  exact ⟨ret_strs (by rw [HE.out]; simp [sEquals]), by exact bel⟩
 | pred n us hs hu hd =>
  have hlen := nodes_len hd
  have HQ := Lib.hid (nodes_noEq hd)
  have HE := Lib.hid (eng_pred (us := us) hs)
  have HL := Lib.hid (show ListAt B w 2 (TmAt B m w) (.slice p us.length c) us from hl)
  have HN := Lib.hid hu
  clear hl hn hs hu hd
  show Calls Tryz.prog 109 #[.agg #[.string n, .slice p us.length c]] w _
  by_cases h0 : us = []
  ·have hz2 : n.size + 6 ≤ 1000000000000 := by rw [HE.out, h0] at hz; simp [sHolds, ← size_list] at hz; omega
   subst h0
   clear hz
   go_enter Tryz.func109, Tryz.ntmps109
   go_wp2_with fail
   refine (isEquality_any _ _ _).mono ?_
   rintro e w1 ⟨rfl, hb1⟩
   have ⟨cw1, fw1⟩ := bcell hb1
   have qw1 := hb1.size
   (try simp at qw1)
   (try have zw1w := bsz (show w.heap.size < w1.heap.size by omega))
   rw [show isEq n = false from HQ.out]
   go_wp2
   go_ret
   exact ⟨ret_strs (by rw [HE.out]; simp [sHolds]), by exact bel⟩
  ·have hm := HE.out
   have hie : us.isEmpty = false := by
    cases us with
    | nil => exact absurd rfl h0
    | cons a l => rfl
   rw [hie, if_neg (by decide)] at hm
   have hjl : n.size + 10 + (joinB sComma (Tm.fmtL us)).length ≤ 1000000000000 := by rw [hm] at hz; simp [sHoldsOf, ← size_list] at hz ⊢; omega
   have HM2 := Lib.hid hm
   have hl0 : 0 < us.length := List.length_pos_iff.2 h0
   clear hz hm hie HE
   go_enter Tryz.func109, Tryz.ntmps109
   go_wp2_with fail
   refine (isEquality_any _ _ _).mono ?_
   rintro e w1 ⟨rfl, hb1⟩
   have ⟨cw1, fw1⟩ := bcell hb1
   have qw1 := hb1.size
   (try simp at qw1)
   (try have zw1w := bsz (show w.heap.size < w1.heap.size by omega))
   rw [show isEq n = false from HQ.out]
   go_wp2
   go_loopw [3, 33] (TextsRel (Tm.fmtL us) w.heap.size (.string n) w) (fun _ i _ => us.length - (intOf i).toNat)
   case atStart => exact ⟨0, Nat.zero_le _, rfl, row_empty _ _ _ _ (by omega), by go_simp, by exact bel⟩
   case round =>
    obtain ⟨k, hk, rfl, ho, hc, hb⟩ := hrel
    have HO := Lib.hid ho
    rw [fmtL_len] at hk
    have hqr := hb.size
    have hgr : w.heap.size < wr.heap.size := World.block_lt_of_cell? _ _ hc
    clear ho
    by_cases hlt : k < us.length
    ·obtain ⟨b, o, rfl, hB, x0, x1, hx0, hx1, hx⟩ := (HL.out.mono (SameOn.below hb) (fun _ h => h) (fun x cs _ hx => TmAt.below hb hx)).at2 hlt
     have hS := fmtL_at hlt
     have hF := fmt_arg hlt sComma
     have hN := nodess_arg HN.out hlt
     obtain ⟨a, ha⟩ : ∃ a, us[k] = a := ⟨_, rfl⟩
     rw [ha] at hx
     rw [ha] at hS
     rw [ha] at hF
     rw [ha] at hN
     have HX := Lib.hid hx
     have HS := Lib.hid hS
     have HF := Lib.hid hF
     have HN := Lib.hid hN
     clear hx ha hS hF hN
     have zb := bsz (World.block_lt_of_cell? _ _ hx0)
     obtain ⟨pa, ca, rfl, rfl, -, -⟩ := HX.out.form
     have hfl : a.fmt.length ≤ 1000000000000 := by have := HF.out; omega
     go_wp2_with fail
     refine (formatTerm_any m a _ _ _ (HX.out.below (by exact bel)) HN.out hfl).mono ?_
     rintro e wq ⟨rfl, hbq⟩
     have ⟨cwq, fwq⟩ := bcell hbq
     have qwq := hbq.size
     (try simp at qwq)
     have HO1 := Lib.hid (own_below HO.out (show Below wr.heap.size wr wq by exact bel))
     have HC1 := Lib.hid ((show Below wr.heap.size wr wq by exact bel).cell hgr |>.trans hc)
     have hb3 : Below w.heap.size w wq := by exact bel
     clear hc
     go_wp2_with (at_builtin; refine wpList_app1 rfl (.tmp 37) (.tmp 40) _ rfl (w.heap.size + 1) 9 1 16 elemStr _ _ _ rfl wq #[.string ⟨a.fmt.toArray⟩] rfl _ (by simp) rfl HO1.out rfl (by simp [Value.oneCell']) (by omega) (by unfold maxLen; omega) (by omega) ?_; intro v1 wz hown1 hg1 hnr1 hlt1)
     refine ⟨⟨v1, _, _, ⟨k + 1, by rw [fmtL_len]; omega, by go_num, ?_, ?_, hb3.grown hg1 (by omega) (fun k hk => by have := own_base HO1.out k hk; omega)⟩, rfl, rfl, rfl⟩, by simp [intOf]; omega⟩
     ·rw [strV_take (by rw [fmtL_len]; omega), HS.out]; exact hown1
     ·exact grown_cell hg1 HC1.out (fun e => by have := own_base HO1.out _ e.symm; omega)
    ·obtain rfl : k = us.length := by omega
     have ho := HO.out
     rw [← fmtL_len, List.take_length] at ho
     have HO2 := Lib.hid ho
     clear ho HO
     go_wp2
     refine wp_region_flowC wr.heap.size [(⟨w.heap.size, 0, none⟩, .string n)] (by kernel_rfl) (by kernel_rfl) (by first | (intro _ hs; cases hs; done) | (simp only [List.forall_mem_cons]; go_simp)) fun C HC => ?_
     repeat (first | ((first | apply flow_free rfl | (apply flow_yes; (case hw => go_simp))); (intro L w' hun hrd hC; have ⟨hC, hb', hf'⟩ := flO HC hC; (try simp only [List.forall_mem_cons] at hf'); go_simp; first | exact ⟨flS HC hC, rfl⟩ | (rw [if_neg]; (exact ⟨flS HC hC, rfl⟩); omega) | (go_at_call 81; refine (join_own sComma _ (own_below HO2.out hb') (by rw [fmtL_len]; omega) (by omega)).mono ?_; rintro e w1 ⟨rfl, hb1⟩; exact ⟨rfl, flN HC hC (by first | (simp; done) | (simp; omega) | omega) hb1⟩)); go_simp) | (apply flow_noC HC; (case hw => (go_simp; try (intro hh; cases hh))); go_simp))
     refine flow_nil ?_
     intro L wz hL hz
     have ⟨_, hbz, hcz⟩ := flO HC hz
     try simp only [List.forall_mem_cons] at hcz
     go_wp2
     go_ret
     exact ⟨ret_strs (by rw [HM2.out]; simp [sHoldsOf]), by exact bel⟩
set_option maxHeartbeats 1600000 in
theorem l26Atom_any {B : Nat → Prop} (m : Nat) (t : Tm) (v0 v1 : Value) (w : World) (h : TmAt B m w t [v0, v1]) (hn : t.atom = true) (hz : t.eng.length ≤ 1000000000000) :
   Calls Tryz.prog 130 #[.agg #[v0, v1]] w fun e w' => e = .returned (.string ⟨t.eng.toArray⟩) ∧ Below w.heap.size w w' := by
 have hl := h.args
 obtain ⟨p, c, rfl, rfl, -, -⟩ := h.form
 clear h
 cases atom_cases hn with
 | eq a b ha hb =>
  have hl2 : ListAt B w 2 (TmAt B m w) (.slice p 2 c) [a, b] := hl
  obtain ⟨g, o, pa, ca, pb, cb, rfl, hx0, hx1, hx2, hx3, hta, htb⟩ := TmAt.pair hl2
  have HE := Lib.hid (eng_eq a b)
  have hz2 : a.fmt.length + b.fmt.length + 8 ≤ 1000000000000 := by rw [eng_eq] at hz; simp [sEquals] at hz; omega
  have HA := Lib.hid (And.intro hta ha)
  have HB := Lib.hid (And.intro htb hb)
  clear hl hl2 hn hta htb ha hb hz
  show Calls Tryz.prog 130 #[.agg #[.string ⟨#[61]⟩, .slice (some ⟨g, o, none⟩) 2 c]] w _
  go_enter Tryz.func130, Tryz.ntmps130
  go_wp2
  have zg := bsz (World.block_lt_of_cell? _ _ hx0)
  obtain ⟨W, hW⟩ : ∃ W : World, W = w.alloc (.cells #[.string ⟨#[61]⟩, .slice (some ⟨g, o, none⟩) 2 c] 64) := ⟨_, rfl⟩
  have hwb : W.cell? ⟨w.heap.size, 1, none⟩ = some (.slice (some ⟨g, o, none⟩) 2 c) := by rw [hW]; go_simp
  have hbW : Below w.heap.size w W := by rw [hW]; exact bel
  rw [← hW]
  clear hW
  have ⟨cW, fW⟩ := bcell hbW
  refine wp_region_flowC W.heap.size [(⟨w.heap.size, 1, none⟩, .slice (some ⟨g, o, none⟩) 2 c), (⟨g, o, none⟩, .string a.n), (⟨g, o + 1, none⟩, .slice pa a.us.length ca), (⟨g, o + 2, none⟩, .string b.n), (⟨g, o + 3, none⟩, .slice pb b.us.length cb)] (by kernel_rfl) (by kernel_rfl) (by first | (intro _ hs; cases hs; done) | (simp only [List.forall_mem_cons]; go_simp)) fun C HC => ?_
  repeat (first | ((first | apply flow_free rfl | (apply flow_yes; (case hw => go_simp))); (intro L w' hun hrd hC; have ⟨hC, hb', hf'⟩ := flO HC hC; (try have hw' : Below w.heap.size w w' := by first | exact belT (hb := hb') | exact bel); (try simp only [List.forall_mem_cons] at hf'); go_simp; first | exact ⟨flS HC hC, rfl⟩ | (rw [if_neg]; (exact ⟨flS HC hC, rfl⟩); omega) | (go_at_call 166; (with_reducible refine (l3Term_any m a _ _ _ (HA.out.1.below hw') HA.out.2 (by omega)).mono ?_); rintro e w1 ⟨rfl, hb1⟩; exact ⟨rfl, (HC.out _ _).2 ((hC.next (by first | (simp; done) | (simp; omega) | omega) hb1).skip _ (by rfl))⟩) | (go_at_call 166; (with_reducible refine (l3Term_any m b _ _ _ (HB.out.1.below hw') HB.out.2 (by omega)).mono ?_); rintro e w1 ⟨rfl, hb1⟩; exact ⟨rfl, (HC.out _ _).2 ((hC.next (by first | (simp; done) | (simp; omega) | omega) hb1).skip _ (by rfl))⟩)); go_simp) | (apply flow_noC HC; (case hw => (go_simp; try (intro hh; cases hh))); go_simp))
  refine flow_nil ?_
  intro L wz hL hz
  have ⟨_, hbz, hcz⟩ := flO HC hz
  try simp only [List.forall_mem_cons] at hcz
  go_wp2
  go_ret
  exact ⟨ret_strs (by rw [HE.out]; simp [sEquals]), by exact bel⟩
 | pred n us hs hu hd =>
  have hlen := nodes_len hd
  have hq := isEq_list (nodes_noEq hd)
  simp only [Tm.n] at hq
  have HE := Lib.hid (eng_pred (us := us) hs)
  have HL := Lib.hid (show ListAt B w 2 (TmAt B m w) (.slice p us.length c) us from hl)
  have HN := Lib.hid hu
  clear hl hn hs hu hd
  show Calls Tryz.prog 130 #[.agg #[.string n, .slice p us.length c]] w _
  by_cases h0 : us = []
  ·have hz2 : n.size + 6 ≤ 1000000000000 := by rw [HE.out, h0] at hz; simp [sHolds] at hz; omega
   subst h0
   clear hz
   go_enter Tryz.func130, Tryz.ntmps130
   go_wp2
   go_ret
   exact ⟨ret_strs (by rw [HE.out]; simp [sHolds]), by exact bel⟩
  ·have hm := HE.out
   have hie : us.isEmpty = false := by
    cases us with
    | nil => exact absurd rfl h0
    | cons a l => rfl
   rw [hie, if_neg (by decide)] at hm
   have hjl : n.size + 10 + (joinB sComma (Tm.fmtL us)).length ≤ 1000000000000 := by rw [hm] at hz; simp [sHoldsOf] at hz ⊢; omega
   have HM2 := Lib.hid hm
   have hl0 : 0 < us.length := List.length_pos_iff.2 h0
   have hl1 : ((us.length : Int) == 0) = false := by simp; omega
   clear hz hm hie HE
   go_enter Tryz.func130, Tryz.ntmps130
   go_wp2
   obtain ⟨W, hW⟩ : ∃ W : World, W = w.alloc (.cells #[.string n, .slice p us.length c] 64) := ⟨_, rfl⟩
   have hwb : W.cell? ⟨w.heap.size, 1, none⟩ = some (.slice p us.length c) := by rw [hW]; go_simp
   have hbW : Below w.heap.size w W := by rw [hW]; exact bel
   rw [← hW]
   clear hW
   go_loopw [3, 4] (fun x i wr => ∃ k : Nat, k ≤ us.length ∧ i = .int .i64 k ∧ x = .string ⟨(n.data.toList ++ sHoldsOf ++ accT [] sComma (Tm.fmtL us) k).toArray⟩ ∧ Below W.heap.size W wr) (fun _ i _ => us.length - (intOf i).toNat)
   case atStart => exact ⟨0, Nat.zero_le _, rfl, by rw [accT_zero]; exact congrArg Value.string (by apply ByteArray.ext; simp [sHoldsOf]), Below.refl _ _⟩
   case round =>
    obtain ⟨k, hk, rfl, rfl, hbr⟩ := hrel
    have hb := Below.step hbW hbr
    have hwr := (hbr.cell (World.block_lt_of_cell? W _ hwb)).trans hwb
    have hal := accT_len [] sComma (Tm.fmtL us) k
    simp only [List.length_nil] at hal
    have hsl : sHoldsOf.length = 10 := rfl
    have HSL := Lib.hid hsl
    have hnl : (n.data.toList ++ sHoldsOf ++ accT [] sComma (Tm.fmtL us) k).length ≤ n.size + 10 + (joinB sComma (Tm.fmtL us)).length := by simp only [List.length_append, hsl]; rw [← size_list]; omega
    by_cases hlt : k < us.length
    ·obtain ⟨b, o, rfl, hB, x0, x1, hx0, hx1, hx⟩ := (HL.out.mono (SameOn.below hb) (fun _ h => h) (fun x cs _ hx => TmAt.below hb hx)).at2 hlt
     have hS := fmtL_at hlt
     have hF := fmt_arg hlt sComma
     have hN := nodess_arg HN.out hlt
     obtain ⟨a, ha⟩ : ∃ a, us[k] = a := ⟨_, rfl⟩
     rw [ha] at hx
     rw [ha] at hS
     rw [ha] at hF
     rw [ha] at hN
     have HX := Lib.hid hx
     have HS := Lib.hid hS
     have HF := Lib.hid hF
     have HN := Lib.hid hN
     clear hx ha hS hF hN
     have zb := bsz (World.block_lt_of_cell? _ _ hx0)
     obtain ⟨pa, ca, rfl, rfl, -, -⟩ := HX.out.form
     have hfl : a.fmt.length ≤ 1000000000000 := by have := HF.out; omega
     by_cases hk0 : k = 0
     ·have hk1 : ¬ 0 < (k : Int) := by omega
      have HA0 := Lib.hid (show accT [] sComma (Tm.fmtL us) k = [] by rw [hk0]; rfl)
      have HA := Lib.hid (show accT [] sComma (Tm.fmtL us) (k + 1) = [] ++ (Tm.fmtL us)[k]'(by rw [fmtL_len]; exact hlt) by subst hk0; exact accT_one [] sComma (Tm.fmtL us) (by rw [fmtL_len]; exact hlt))
      generalize hq : n.data.toList ++ sHoldsOf ++ accT [] sComma (Tm.fmtL us) k = x at *
      have HX0 := Lib.hid hq
      clear hk0 hq hsl
      go_wp2_with fail
      refine (l3Term_any m a _ _ _ (HX.out.below (by exact bel)) HN.out hfl).mono ?_
      rintro e w1 ⟨rfl, hb1⟩
      have ⟨cw1, fw1⟩ := bcell hb1
      have qw1 := hb1.size
      (try simp at qw1)
      (try have zw1w := bsz (show w.heap.size < w1.heap.size by omega))
      go_wp2
      refine ⟨⟨k + 1, by omega, by go_num, ?_, Below.step hbr hb1⟩, by simp [intOf]; omega⟩
      rw [HA.out, HS.out, ← HX0.out, HA0.out]
      exact congrArg Value.string (by apply ByteArray.ext; simp)
     ·have hk1 : 0 < (k : Int) := by omega
      have HA := Lib.hid (accT_succ [] sComma (Tm.fmtL us) hk0 (by rw [fmtL_len]; exact hlt))
      generalize hq : n.data.toList ++ sHoldsOf ++ accT [] sComma (Tm.fmtL us) k = x at *
      have HX0 := Lib.hid hq
      clear hk0 hq hsl
      go_wp2_with fail
      refine (l3Term_any m a _ _ _ (HX.out.below (by exact bel)) HN.out hfl).mono ?_
      rintro e w1 ⟨rfl, hb1⟩
      have ⟨cw1, fw1⟩ := bcell hb1
      have qw1 := hb1.size
      (try simp at qw1)
      (try have zw1w := bsz (show w.heap.size < w1.heap.size by omega))
      go_wp2
      refine ⟨⟨k + 1, by omega, by go_num, ?_, Below.step hbr hb1⟩, by simp [intOf]; omega⟩
      rw [HA.out, HS.out, ← HX0.out]
      exact congrArg Value.string (by apply ByteArray.ext; simp [sComma])
    ·obtain rfl : k = us.length := by omega
     have HA := Lib.hid (show accT [] sComma (Tm.fmtL us) us.length = [] ++ joinB sComma (Tm.fmtL us) by
      have := accT_all [] sComma (Tm.fmtL us) (by rw [fmtL_len]; omega)
      rw [fmtL_len] at this; exact this)
     generalize accT [] sComma (Tm.fmtL us) us.length = x at *
     clear hsl
     go_wp2
     go_ret
     exact ⟨ret_str (by rw [HM2.out, HA.out]; simp), hb⟩
end Go.Proofs.YtabkdonplmlbcaaGreatDoor
