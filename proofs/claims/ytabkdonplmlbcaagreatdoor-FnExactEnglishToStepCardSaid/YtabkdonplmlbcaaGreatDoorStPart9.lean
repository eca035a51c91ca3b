import Derived.Test.YtabkdonplmlbcaaGreatDoorStPart8
namespace Go.Proofs.YtabkdonplmlbcaaGreatDoor
set_option maxRecDepth 100000
open Go.RowKit
theorem isEmpty_int {α : Type} (us : List α) : us.isEmpty = ((us.length : Int) == 0) := by cases us <;> simp; omega
set_option maxHeartbeats 1600000 in
theorem l2Nodes_any {B : Nat → Prop} : ∀ (m : Nat) (t : Tm) (v0 v1 : Value) (w : World), TmAt B m w t [v0, v1] →
   Calls Tryz.prog 89 #[.agg #[v0, v1]] w fun e w' => e = .returned (.bool t.nodes) ∧ Below w.heap.size w w' := by
 intro m
 induction m with
 | zero => intro t v0 v1 w h; exact h.elim
 | succ m ih =>
  rintro ⟨s, us⟩ v0 v1 w ⟨va, hcs, hs, hl⟩
  simp only [List.cons.injEq, and_true] at hcs
  obtain ⟨rfl, rfl⟩ := hcs
  obtain ⟨p, c, rfl, hlen⟩ := hl.form
  unfold maxLen at hlen
  have IH := Lib.hid ih
  have HL := Lib.hid hl
  have HS := Lib.hid hs
  have HN := Lib.hid (show (Tm.mk s us).nodes = if varB s.data.toList then us.isEmpty else symB s.data.toList && decide (us.length ≤ 4) && Tm.nodess us from rfl)
  clear ih hl hs
  cases hv : varB s.data.toList
  ·have HV := Lib.hid hv
   cases hy : symB s.data.toList
   ·have HY := Lib.hid hy
    go_enter Tryz.func89, Tryz.ntmps89
    go_wp2_with (first | (go_at_call 127; refine (l2Var_any _ _ HS.out).mono ?_; rintro e w' ⟨rfl, rfl⟩) | (go_at_call 90; refine (l2Symbol_any _ _ HS.out).mono ?_; rintro e w' ⟨rfl, rfl⟩))
    go_ret
    exact ⟨ret_bool (by rw [HN.out, HV.out, HY.out]; rfl), by exact bel⟩
   ·have HY := Lib.hid hy
    by_cases h4 : 4 < (us.length : Int)
    ·have H4 := Lib.hid (show decide (us.length ≤ 4) = false by simp; omega)
     go_enter Tryz.func89, Tryz.ntmps89
     go_wp2_with (first | (go_at_call 127; refine (l2Var_any _ _ HS.out).mono ?_; rintro e w' ⟨rfl, rfl⟩) | (go_at_call 90; refine (l2Symbol_any _ _ HS.out).mono ?_; rintro e w' ⟨rfl, rfl⟩))
     go_ret
     exact ⟨ret_bool (by rw [HN.out, HV.out, HY.out, H4.out]; rfl), by exact bel⟩
    ·have H4 := Lib.hid (show decide (us.length ≤ 4) = true by simp; omega)
     go_enter Tryz.func89, Tryz.ntmps89
     go_wp2_with (first | (go_at_call 127; refine (l2Var_any _ _ HS.out).mono ?_; rintro e w' ⟨rfl, rfl⟩) | (go_at_call 90; refine (l2Symbol_any _ _ HS.out).mono ?_; rintro e w' ⟨rfl, rfl⟩))
     obtain ⟨W, hW⟩ : ∃ W, W = w.alloc (.cells #[.string s, .slice p us.length c] 64) := ⟨_, rfl⟩
     have hw0 : W.cell? ⟨w.heap.size, 1, none⟩ = some (.slice p us.length c) := by rw [hW]; go_simp
     have hbW : Below w.heap.size w W := by rw [hW]; exact bel
     rw [← hW]
     clear hW
     go_loopw [3] (fun i wr => ∃ k : Nat, k ≤ us.length ∧ i = .int .i64 k ∧ Tm.nodess us = Tm.nodess (us.drop k) ∧ Below W.heap.size W wr) (fun i _ => us.length - (intOf i).toNat)
     case atStart => exact ⟨0, Nat.zero_le _, rfl, rfl, Below.refl _ _⟩
     case round =>
      obtain ⟨k, hk, rfl, he, hbr⟩ := hrel
      have HE := Lib.hid he
      clear he
      have hb := Below.step hbW hbr
      have hw1 : wr.cell? ⟨w.heap.size, 1, none⟩ = some (.slice p us.length c) := (hbr.cell (World.block_lt_of_cell? W _ hw0)).trans hw0
      by_cases hlt : k < us.length
      ·obtain ⟨b, o, rfl, hB, x0, x1, hx0, hx1, hx⟩ := (HL.out.mono (SameOn.below hb) (fun _ h => h) (fun x cs _ hx => TmAt.below hb hx)).at2 hlt
       obtain ⟨pa, ca, rfl, rfl, -, -⟩ := hx.form
       have HD := Lib.hid (Tm.nodess_drop us hlt)
       obtain ⟨a, ha⟩ : ∃ a, us[k] = a := ⟨_, rfl⟩
       rw [ha] at hx HD hx0 hx1
       have HX := Lib.hid hx
       clear hx ha
       cases hN : a.nodes
       all_goals
        have HA := Lib.hid hN
        go_wp2_with fail
        refine (IH.out a _ _ _ HX.out).mono ?_
        rintro e w1 ⟨rfl, hb1⟩
        have ⟨cw1, fw1⟩ := bcell hb1
        have qw1 := hb1.size
        (try simp at qw1)
        (try have zw1w := bsz (show w.heap.size < w1.heap.size by omega))
        have hbb := Below.step hbr hb1
        have hbw := Below.step hb hb1
        rw [HA.out]
        go_wp2
       ·go_ret
        exact ⟨ret_bool (by rw [HN.out, HV.out, HY.out, H4.out, HE.out, HD.out, HA.out]; rfl), hbw⟩
       ·refine ⟨⟨k + 1, by omega, by go_num, ?_, hbb⟩, by simp [intOf]; omega⟩
        rw [HE.out, HD.out, HA.out]; rfl
      ·obtain rfl : k = us.length := by omega
       have he := HE.out
       rw [List.drop_length, Tm.nodess] at he
       have HE2 := Lib.hid he
       clear he
       go_wp2
       go_ret
       exact ⟨ret_bool (by rw [HN.out, HV.out, HY.out, H4.out, HE2.out]; rfl), hb⟩
  ·have HV := Lib.hid hv
   have HE := Lib.hid (isEmpty_int us)
   go_enter Tryz.func89, Tryz.ntmps89
   go_wp2_with (first | (go_at_call 127; refine (l2Var_any _ _ HS.out).mono ?_; rintro e w' ⟨rfl, rfl⟩))
   go_ret
   exact ⟨ret_bool (by rw [HN.out, HV.out, if_pos rfl, HE.out]), by exact bel⟩
theorem isSmall_any {B : Nat → Prop} (m : Nat) (t : Tm) (v0 v1 : Value) (w : World) (h : TmAt B m w t [v0, v1]) (hz : t.sz ≤ 100000000) :
   Calls Tryz.prog 153 #[.agg #[v0, v1]] w fun e w' => e = .returned (.bool t.small) ∧ Below w.heap.size w w' := by
 obtain ⟨p, c, rfl, rfl, -, -⟩ := h.form
 have H := Lib.hid h
 have HT := Lib.hid (show t.small = (decide (t.szI ≤ 30) && decide (t.dp ≤ 8)) by rw [Tm.small, Tm.szI_iff])
 clear h
 by_cases h1 : (t.szI : Int) ≤ 30
 ·have H1 := Lib.hid (show decide (t.szI ≤ 30) = true by simp; omega)
  have HD := Lib.hid (show decide (t.dp ≤ 8) = decide ((t.dp : Int) ≤ 8) by rw [decide_eq_decide]; omega)
  go_enter Tryz.func153, Tryz.ntmps153
  go_wp2_with (first | (go_at_call 179; refine (size_any m t _ _ _ (H.out.below (by exact bel)) hz).mono ?_; rintro e w1 ⟨rfl, hb1⟩; have ⟨cw1, fw1⟩ := bcell hb1; have qw1 := hb1.size; (try simp at qw1); (try have zw1w := bsz (show w.heap.size < w1.heap.size by omega))) | (go_at_call 180; refine (depth_any m t _ _ _ (H.out.below (by exact bel)) hz).mono ?_; rintro e w2 ⟨rfl, hb2⟩; have ⟨cw2, fw2⟩ := bcell hb2; have qw2 := hb2.size; (try simp at qw2); (try have zw2w := bsz (show w.heap.size < w2.heap.size by omega)); (try have zw2w1 := bsz (show w1.heap.size < w2.heap.size by omega))))
  go_ret
  exact ⟨ret_bool (by rw [HT.out, H1.out, HD.out]; rfl), by exact bel⟩
 ·have H1 := Lib.hid (show decide (t.szI ≤ 30) = false by simp; omega)
  go_enter Tryz.func153, Tryz.ntmps153
  go_wp2_with (first | (go_at_call 179; refine (size_any m t _ _ _ (H.out.below (by exact bel)) hz).mono ?_; rintro e w1 ⟨rfl, hb1⟩; have ⟨cw1, fw1⟩ := bcell hb1; have qw1 := hb1.size; (try simp at qw1); (try have zw1w := bsz (show w.heap.size < w1.heap.size by omega))))
  go_ret
  exact ⟨ret_bool (by rw [HT.out, H1.out]; rfl), by exact bel⟩
theorem l2Fits_any {B : Nat → Prop} (m : Nat) (t : Tm) (v0 v1 : Value) (w : World) (h : TmAt B m w t [v0, v1]) (hz : t.sz ≤ 100000000) :
   Calls Tryz.prog 88 #[.agg #[v0, v1]] w fun e w' => e = .returned (.bool t.small) ∧ Below w.heap.size w w' := by
 obtain ⟨p, c, rfl, rfl, -, -⟩ := h.form
 have H := Lib.hid h
 have HT := Lib.hid (show t.small = (decide (t.many 30 ≤ 30) && decide (t.dp ≤ 8)) by rw [Tm.small, Tm.many_iff])
 clear h
 by_cases h1 : (t.many 30 : Int) ≤ 30
 ·have H1 := Lib.hid (show decide (t.many 30 ≤ 30) = true by simp; omega)
  have HD := Lib.hid (show decide (t.dp ≤ 8) = decide ((t.dp : Int) ≤ 8) by rw [decide_eq_decide]; omega)
  go_enter Tryz.func88, Tryz.ntmps88
  go_wp2_with (first | (go_at_call 125; refine (l2Many_any m t _ _ 30 _ _ (H.out.below (by exact bel)) hz (by rfl) (by decide)).mono ?_; rintro e w1 ⟨rfl, hb1⟩; have ⟨cw1, fw1⟩ := bcell hb1; have qw1 := hb1.size; (try simp at qw1); (try have zw1w := bsz (show w.heap.size < w1.heap.size by omega))) | (go_at_call 126; refine (l2Depth_any m t _ _ _ (H.out.below (by exact bel)) hz).mono ?_; rintro e w2 ⟨rfl, hb2⟩; have ⟨cw2, fw2⟩ := bcell hb2; have qw2 := hb2.size; (try simp at qw2); (try have zw2w := bsz (show w.heap.size < w2.heap.size by omega)); (try have zw2w1 := bsz (show w1.heap.size < w2.heap.size by omega))))
  go_ret
  exact ⟨ret_bool (by rw [HT.out, H1.out, HD.out]; rfl), by exact bel⟩
 ·have H1 := Lib.hid (show decide (t.many 30 ≤ 30) = false by simp; omega)
  go_enter Tryz.func88, Tryz.ntmps88
  go_wp2_with (first | (go_at_call 125; refine (l2Many_any m t _ _ 30 _ _ (H.out.below (by exact bel)) hz (by rfl) (by decide)).mono ?_; rintro e w1 ⟨rfl, hb1⟩; have ⟨cw1, fw1⟩ := bcell hb1; have qw1 := hb1.size; (try simp at qw1); (try have zw1w := bsz (show w.heap.size < w1.heap.size by omega))))
  go_ret
  exact ⟨ret_bool (by rw [HT.out, H1.out]; rfl), by exact bel⟩
theorem isValidTerm_any {B : Nat → Prop} (m : Nat) (t : Tm) (v0 v1 : Value) (w : World) (h : TmAt B m w t [v0, v1]) (hz : t.sz ≤ 100000000) :
   Calls Tryz.prog 156 #[.agg #[v0, v1]] w fun e w' => e = .returned (.bool t.good) ∧ Below w.heap.size w w' := by
 obtain ⟨p, c, rfl, rfl, -, -⟩ := h.form
 have H := Lib.hid h
 have HT := Lib.hid (show t.good = (t.small && t.nodes) from rfl)
 clear h
 cases h1 : t.small
 all_goals
  have H1 := Lib.hid h1
  go_enter Tryz.func156, Tryz.ntmps156
  go_wp2_with (first | (go_at_call 153; refine (isSmall_any m t _ _ _ (H.out.below (by exact bel)) hz).mono ?_; rintro e w1 ⟨rfl, hb1⟩; have ⟨cw1, fw1⟩ := bcell hb1; have qw1 := hb1.size; (try simp at qw1); (try have zw1w := bsz (show w.heap.size < w1.heap.size by omega))) | (go_at_call 154; refine (hasNames_any m t _ _ _ (H.out.below (by exact bel))).mono ?_; rintro e w2 ⟨rfl, hb2⟩; have ⟨cw2, fw2⟩ := bcell hb2; have qw2 := hb2.size; (try simp at qw2); (try have zw2w := bsz (show w.heap.size < w2.heap.size by omega)); (try have zw2w1 := bsz (show w1.heap.size < w2.heap.size by omega))))
  go_ret
  exact ⟨ret_bool (by rw [HT.out, H1.out]; rfl), by exact bel⟩
theorem l2Good_any {B : Nat → Prop} (m : Nat) (t : Tm) (v0 v1 : Value) (w : World) (h : TmAt B m w t [v0, v1]) (hz : t.sz ≤ 100000000) :
   Calls Tryz.prog 91 #[.agg #[v0, v1]] w fun e w' => e = .returned (.bool t.good) ∧ Below w.heap.size w w' := by
 obtain ⟨p, c, rfl, rfl, -, -⟩ := h.form
 have H := Lib.hid h
 have HT := Lib.hid (show t.good = (t.small && t.nodes) from rfl)
 clear h
 cases h1 : t.small
 all_goals
  have H1 := Lib.hid h1
  go_enter Tryz.func91, Tryz.ntmps91
  go_wp2_with (first | (go_at_call 88; refine (l2Fits_any m t _ _ _ (H.out.below (by exact bel)) hz).mono ?_; rintro e w1 ⟨rfl, hb1⟩; have ⟨cw1, fw1⟩ := bcell hb1; have qw1 := hb1.size; (try simp at qw1); (try have zw1w := bsz (show w.heap.size < w1.heap.size by omega))) | (go_at_call 89; refine (l2Nodes_any m t _ _ _ (H.out.below (by exact bel))).mono ?_; rintro e w2 ⟨rfl, hb2⟩; have ⟨cw2, fw2⟩ := bcell hb2; have qw2 := hb2.size; (try simp at qw2); (try have zw2w := bsz (show w.heap.size < w2.heap.size by omega)); (try have zw2w1 := bsz (show w1.heap.size < w2.heap.size by omega))))
  go_ret
  exact ⟨ret_bool (by rw [HT.out, H1.out]; rfl), by exact bel⟩
theorem Tm.atom_eq {t : Tm} (h : isEq t.n = true) : t.atom = (decide (t.us.length = 2) && t.small && Tm.nodess t.us) := by rw [Tm.atom, if_pos h]
theorem Tm.atom_no {t : Tm} (h : isEq t.n = false) : t.atom = (symB t.n.data.toList && t.good) := by rw [Tm.atom, if_neg (by simp [h])]
theorem isEq_list {s : ByteArray} {b : Bool} (h : isEq s = b) : (s.toList == [61]) = b := by rw [ByteArray.toList_eq]; exact h
theorem isEquality_any (s : ByteArray) (v : Value) (w : World) : Calls Tryz.prog 149 #[.agg #[.string s, v]] w fun e w' => e = .returned (.bool (isEq s)) ∧ Below w.heap.size w w' := by
 cases h : isEq s
 all_goals
  have h2 := isEq_list h
  go_enter Tryz.func149, Tryz.ntmps149
  go_wp2
  go_ret
  exact ⟨rfl, by exact bel⟩
set_option maxHeartbeats 400000 in
theorem isValidAtom_any {B : Nat → Prop} (m : Nat) (t : Tm) (v0 v1 : Value) (w : World) (h : TmAt B m w t [v0, v1]) (hz : t.sz ≤ 100000000) :
   Calls Tryz.prog 114 #[.agg #[v0, v1]] w fun e w' => e = .returned (.bool t.atom) ∧ Below w.heap.size w w' := by
 have H := Lib.hid h
 obtain ⟨p, c, rfl, rfl, hs, hlen⟩ := h.form
 have HL := Lib.hid h.args
 have HS := Lib.hid hs
 unfold maxLen at hlen
 clear h hs
 cases hq : isEq t.n
 ·have HQ := Lib.hid hq
  have HA := Lib.hid (Tm.atom_no hq)
  cases hy : symB t.n.data.toList
  all_goals
   have HY := Lib.hid hy
   go_enter Tryz.func114, Tryz.ntmps114
   go_wp2_with fail
   refine (isEquality_any _ _ _).mono ?_
   rintro e w1 ⟨rfl, hb1⟩
   have ⟨cw1, fw1⟩ := bcell hb1
   have qw1 := hb1.size
   (try simp at qw1)
   (try have zw1w := bsz (show w.heap.size < w1.heap.size by omega))
   rw [HQ.out]
   go_wp2_with fail
   refine (isSymbol_any _ _ HS.out).mono ?_
   rintro e w2 ⟨rfl, hb2⟩
   have ⟨cw2, fw2⟩ := bcell hb2
   have qw2 := hb2.size
   (try simp at qw2)
   (try have zw2w := bsz (show w.heap.size < w2.heap.size by omega))
   (try have zw2w1 := bsz (show w1.heap.size < w2.heap.size by omega))
   rw [HY.out]
  ·go_wp2
   go_ret
   exact ⟨ret_bool (by rw [HA.out, HY.out]; rfl), by exact bel⟩
  ·go_wp2_with fail
   refine (isValidTerm_any m t _ _ _ (H.out.below (by exact bel)) hz).mono ?_
   rintro e w3 ⟨rfl, hb3⟩
   have ⟨cw3, fw3⟩ := bcell hb3
   have qw3 := hb3.size
   (try simp at qw3)
   (try have zw3w := bsz (show w.heap.size < w3.heap.size by omega))
   (try have zw3w1 := bsz (show w1.heap.size < w3.heap.size by omega))
   (try have zw3w2 := bsz (show w2.heap.size < w3.heap.size by omega))
   go_wp2
   go_ret
   exact ⟨ret_bool (by rw [HA.out, HY.out]; rfl), by exact bel⟩
 ·have HQ := Lib.hid hq
  have HA := Lib.hid (Tm.atom_eq hq)
  by_cases h2 : t.us.length = 2
  ·have h2i : ((t.us.length : Int) == 2) = true := by simp; omega
   have H2 := Lib.hid (show decide (t.us.length = 2) = true by simpa using h2)
   have H' := Lib.hid (show TmAt B m w t [.string t.n, .slice p 2 c] by
    have e := H.out
    rw [h2] at e
    exact e)
   cases hsm : t.small
   ·have HSM := Lib.hid hsm
    go_enter Tryz.func114, Tryz.ntmps114
    go_wp2_with fail
    refine (isEquality_any _ _ _).mono ?_
    rintro e w1 ⟨rfl, hb1⟩
    have ⟨cw1, fw1⟩ := bcell hb1
    have qw1 := hb1.size
    (try simp at qw1)
    (try have zw1w := bsz (show w.heap.size < w1.heap.size by omega))
    go_wp2_with fail
    refine (isSmall_any m t _ _ _ (H'.out.below (by exact bel)) hz).mono ?_
    rintro e w2 ⟨rfl, hb2⟩
    have ⟨cw2, fw2⟩ := bcell hb2
    have qw2 := hb2.size
    (try simp at qw2)
    (try have zw2w := bsz (show w.heap.size < w2.heap.size by omega))
    (try have zw2w1 := bsz (show w1.heap.size < w2.heap.size by omega))
    rw [HSM.out]
    go_wp2
    go_ret
    exact ⟨ret_bool (by rw [HA.out, HSM.out]; simp), by exact bel⟩
   ·have HSM := Lib.hid hsm
    have hl0 : 0 < t.us.length := by omega
    have hl1 : 1 < t.us.length := by omega
    obtain ⟨b, o, rfl, hB, x0, x1, hx0, hx1, hx⟩ := HL.out.at2 hl0
    obtain ⟨b', o', he, hB', y0, y1, hy0, hy1, hy⟩ := HL.out.at2 hl1
    simp only [Option.some.injEq, Addr.mk.injEq, and_true] at he
    obtain ⟨rfl, rfl⟩ := he
    simp only [Nat.zero_mul, Nat.one_mul, Nat.add_zero, Nat.add_assoc, Nat.reduceAdd] at hx0 hx1 hy0 hy1
    have hbw : b < w.heap.size := World.block_lt_of_cell? _ _ hx0
    have zbw := bsz hbw
    have HN := Lib.hid (show Tm.nodess t.us = (t.us[0].nodes && t.us[1].nodes) by
     have e0 := Tm.nodess_drop t.us hl0
     have e1 := Tm.nodess_drop t.us hl1
     rw [List.drop_zero] at e0
     rw [e0, e1, List.drop_eq_nil_of_le (by omega), Tm.nodess, Bool.and_true])
    obtain ⟨a0, ha0⟩ : ∃ a, t.us[0] = a := ⟨_, rfl⟩
    obtain ⟨a1, ha1⟩ : ∃ a, t.us[1] = a := ⟨_, rfl⟩
    rw [ha0] at hx
    rw [ha1] at hy
    rw [ha0, ha1] at HN
    clear ha0 ha1
    obtain ⟨p0, c0, rfl, rfl, -, -⟩ := hx.form
    obtain ⟨p1, c1, rfl, rfl, -, -⟩ := hy.form
    have HX := Lib.hid hx
    have HY := Lib.hid hy
    clear hx hy
    cases hn0 : a0.nodes
    all_goals
     have HN0 := Lib.hid hn0
     go_enter Tryz.func114, Tryz.ntmps114
     go_wp2_with fail
     refine (isEquality_any _ _ _).mono ?_
     rintro e w1 ⟨rfl, hb1⟩
     have ⟨cw1, fw1⟩ := bcell hb1
     have qw1 := hb1.size
     (try simp at qw1)
     (try have zw1w := bsz (show w.heap.size < w1.heap.size by omega))
     go_wp2_with fail
     refine (isSmall_any m t _ _ _ (H'.out.below (by exact bel)) hz).mono ?_
     rintro e w2 ⟨rfl, hb2⟩
     have ⟨cw2, fw2⟩ := bcell hb2
     have qw2 := hb2.size
     (try simp at qw2)
     (try have zw2w := bsz (show w.heap.size < w2.heap.size by omega))
     (try have zw2w1 := bsz (show w1.heap.size < w2.heap.size by omega))
     rw [HSM.out]
     have zb1 := bsz (show b < w1.heap.size by omega)
     have zb2 := bsz (show b < w2.heap.size by omega)
     go_wp2_with fail
     refine (hasNames_any m a0 _ _ _ (HX.out.below (by exact bel))).mono ?_
     rintro e w3 ⟨rfl, hb3⟩
     have ⟨cw3, fw3⟩ := bcell hb3
     have qw3 := hb3.size
     (try simp at qw3)
     (try have zw3w := bsz (show w.heap.size < w3.heap.size by omega))
     (try have zw3w1 := bsz (show w1.heap.size < w3.heap.size by omega))
     (try have zw3w2 := bsz (show w2.heap.size < w3.heap.size by omega))
     rw [HN0.out]
    ·go_wp2
     go_ret
     exact ⟨ret_bool (by rw [HA.out, H2.out, HSM.out, HN.out, HN0.out]; rfl), by exact bel⟩
    ·go_wp2_with fail
     refine (hasNames_any m a1 _ _ _ (HY.out.below (by exact bel))).mono ?_
     rintro e w4 ⟨rfl, hb4⟩
     have ⟨cw4, fw4⟩ := bcell hb4
     have qw4 := hb4.size
     (try simp at qw4)
     (try have zw4w := bsz (show w.heap.size < w4.heap.size by omega))
     (try have zw4w1 := bsz (show w1.heap.size < w4.heap.size by omega))
     (try have zw4w2 := bsz (show w2.heap.size < w4.heap.size by omega))
     (try have zw4w3 := bsz (show w3.heap.size < w4.heap.size by omega))
     go_wp2
     go_ret
     exact ⟨ret_bool (by rw [HA.out, H2.out, HSM.out, HN.out, HN0.out]; rfl), by exact bel⟩
  ·have h2i : ((t.us.length : Int) == 2) = false := by simp; omega
   have H2 := Lib.hid (show decide (t.us.length = 2) = false by simpa using h2)
   go_enter Tryz.func114, Tryz.ntmps114
   go_wp2_with fail
   refine (isEquality_any _ _ _).mono ?_
   rintro e w1 ⟨rfl, hb1⟩
   have ⟨cw1, fw1⟩ := bcell hb1
   have qw1 := hb1.size
   (try simp at qw1)
   (try have zw1w := bsz (show w.heap.size < w1.heap.size by omega))
   go_wp2
   go_ret
   exact ⟨ret_bool (by rw [HA.out, H2.out]; rfl), by exact bel⟩
set_option maxHeartbeats 400000 in
theorem l2Atom_any {B : Nat → Prop} (m : Nat) (t : Tm) (v0 v1 : Value) (w : World) (h : TmAt B m w t [v0, v1]) (hz : t.sz ≤ 100000000) :
   Calls Tryz.prog 58 #[.agg #[v0, v1]] w fun e w' => e = .returned (.bool t.atom) ∧ Below w.heap.size w w' := by
 have H := Lib.hid h
 obtain ⟨p, c, rfl, rfl, hs, hlen⟩ := h.form
 have HL := Lib.hid h.args
 have HS := Lib.hid hs
 unfold maxLen at hlen
 clear h hs
 cases hq : isEq t.n
 ·have HQ := isEq_list hq
  have HA := Lib.hid (Tm.atom_no hq)
  cases hy : symB t.n.data.toList
  all_goals
   have HY := Lib.hid hy
   go_enter Tryz.func58, Tryz.ntmps58
   go_wp2_with fail
   refine (l2Symbol_any _ _ HS.out).mono ?_
   rintro e w' ⟨rfl, rfl⟩
   rw [HY.out]
  ·go_wp2
   go_ret
   exact ⟨ret_bool (by rw [HA.out, HY.out]; rfl), by exact bel⟩
  ·go_wp2_with fail
   refine (l2Good_any m t _ _ _ (H.out.below (by exact bel)) hz).mono ?_
   rintro e w1 ⟨rfl, hb1⟩
   have ⟨cw1, fw1⟩ := bcell hb1
   have qw1 := hb1.size
   (try simp at qw1)
   (try have zw1w := bsz (show w.heap.size < w1.heap.size by omega))
   go_wp2
   go_ret
   exact ⟨ret_bool (by rw [HA.out, HY.out]; rfl), by exact bel⟩
 ·have HQ := isEq_list hq
  have HA := Lib.hid (Tm.atom_eq hq)
  by_cases h2 : t.us.length = 2
  ·have h2i : ((t.us.length : Int) == 2) = true := by simp; omega
   have H2 := Lib.hid (show decide (t.us.length = 2) = true by simpa using h2)
   have H' := Lib.hid (show TmAt B m w t [.string t.n, .slice p 2 c] by
    have e := H.out
    rw [h2] at e
    exact e)
   cases hsm : t.small
   ·have HSM := Lib.hid hsm
    go_enter Tryz.func58, Tryz.ntmps58
    go_wp2_with fail
    refine (l2Fits_any m t _ _ _ (H'.out.below (by exact bel)) hz).mono ?_
    rintro e w1 ⟨rfl, hb1⟩
    have ⟨cw1, fw1⟩ := bcell hb1
    have qw1 := hb1.size
    (try simp at qw1)
    (try have zw1w := bsz (show w.heap.size < w1.heap.size by omega))
    rw [HSM.out]
    go_wp2
    go_ret
    exact ⟨ret_bool (by rw [HA.out, HSM.out]; simp), by exact bel⟩
   ·have HSM := Lib.hid hsm
    have hl0 : 0 < t.us.length := by omega
    have hl1 : 1 < t.us.length := by omega
    obtain ⟨b, o, rfl, hB, x0, x1, hx0, hx1, hx⟩ := HL.out.at2 hl0
    obtain ⟨b', o', he, hB', y0, y1, hy0, hy1, hy⟩ := HL.out.at2 hl1
    simp only [Option.some.injEq, Addr.mk.injEq, and_true] at he
    obtain ⟨rfl, rfl⟩ := he
    simp only [Nat.zero_mul, Nat.one_mul, Nat.add_zero, Nat.add_assoc, Nat.reduceAdd] at hx0 hx1 hy0 hy1
    have hbw : b < w.heap.size := World.block_lt_of_cell? _ _ hx0
    have zbw := bsz hbw
    skip
    have HN := Lib.hid (show Tm.nodess t.us = (t.us[0].nodes && t.us[1].nodes) by
     have e0 := Tm.nodess_drop t.us hl0
     have e1 := Tm.nodess_drop t.us hl1
     rw [List.drop_zero] at e0
     rw [e0, e1, List.drop_eq_nil_of_le (by omega), Tm.nodess, Bool.and_true])
    obtain ⟨a0, ha0⟩ : ∃ a, t.us[0] = a := ⟨_, rfl⟩
    obtain ⟨a1, ha1⟩ : ∃ a, t.us[1] = a := ⟨_, rfl⟩
    rw [ha0] at hx
    rw [ha1] at hy
    rw [ha0, ha1] at HN
    clear ha0 ha1
    obtain ⟨p0, c0, rfl, rfl, -, -⟩ := hx.form
    obtain ⟨p1, c1, rfl, rfl, -, -⟩ := hy.form
    have HX := Lib.hid hx
    have HY := Lib.hid hy
    clear hx hy
    cases hn0 : a0.nodes
    all_goals
     have HN0 := Lib.hid hn0
     go_enter Tryz.func58, Tryz.ntmps58
     go_wp2_with fail
     refine (l2Fits_any m t _ _ _ (H'.out.below (by exact bel)) hz).mono ?_
     rintro e w1 ⟨rfl, hb1⟩
     have ⟨cw1, fw1⟩ := bcell hb1
     have qw1 := hb1.size
     (try simp at qw1)
     (try have zw1w := bsz (show w.heap.size < w1.heap.size by omega))
     (try have zw1b := bsz (show b < w1.heap.size by omega))
     rw [HSM.out]
     go_wp2_with fail
     refine (l2Nodes_any m a0 _ _ _ (HX.out.below (by exact bel))).mono ?_
     rintro e w2 ⟨rfl, hb2⟩
     have ⟨cw2, fw2⟩ := bcell hb2
     have qw2 := hb2.size
     (try simp at qw2)
     (try have zw2w := bsz (show w.heap.size < w2.heap.size by omega))
     (try have zw2w1 := bsz (show w1.heap.size < w2.heap.size by omega))
     (try have zw2b := bsz (show b < w2.heap.size by omega))
     rw [HN0.out]
    ·go_wp2
     go_ret
     exact ⟨ret_bool (by rw [HA.out, H2.out, HSM.out, HN.out, HN0.out]; rfl), by exact bel⟩
    ·go_wp2_with fail
     refine (l2Nodes_any m a1 _ _ _ (HY.out.below (by exact bel))).mono ?_
     rintro e w1 ⟨rfl, hb1⟩
     have ⟨cw1, fw1⟩ := bcell hb1
     have qw1 := hb1.size
     (try simp at qw1)
     (try have zw1w := bsz (show w.heap.size < w1.heap.size by omega))
     (try have zw1b := bsz (show b < w1.heap.size by omega))
     go_wp2
     go_ret
     exact ⟨ret_bool (by rw [HA.out, H2.out, HSM.out, HN.out, HN0.out]; rfl), by exact bel⟩
  ·have h2i : ((t.us.length : Int) == 2) = false := by simp; omega
   have H2 := Lib.hid (show decide (t.us.length = 2) = false by simpa using h2)
   go_enter Tryz.func58, Tryz.ntmps58
   go_wp2
   go_ret
   exact ⟨ret_bool (by rw [HA.out, H2.out]; rfl), by exact bel⟩
end Go.Proofs.YtabkdonplmlbcaaGreatDoor
