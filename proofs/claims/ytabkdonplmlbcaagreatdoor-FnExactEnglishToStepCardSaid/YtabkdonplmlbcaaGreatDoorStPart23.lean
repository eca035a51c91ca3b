import Derived.Test.YtabkdonplmlbcaaGreatDoorStPart17
import Derived.Test.YtabkdonplmlbcaaGreatDoorStPart22
namespace Go.Proofs.YtabkdonplmlbcaaGreatDoor
set_option maxRecDepth 100000
open Go.RowKit
theorem not_any_allI (us : List Int) (P : Int → Bool) : (!us.any fun x => !P x) = us.all P := by
 induction us with
 | nil => rfl
 | cons a us ih => rw [List.any_cons, List.all_cons, ← ih]; cases P a <;> simp
theorem any_not_allI (us : List Int) (P : Int → Bool) : (us.any fun x => !P x) = !us.all P := by rw [← not_any_allI, Bool.not_not]
theorem count_any (n : Int) (w : World) (h0 : 0 ≤ n) (h1 : n ≤ 1000) (hE : Env w) : Calls Tryz.prog 46 #[.int .i64 n] w fun e w' => e = .returned (.string ⟨(cnt n).toArray⟩) ∧ Below w.heap.size w w' := by
 have HE := Lib.hid hE
 clear hE
 go_enter Tryz.func46, Tryz.ntmps46
 go_wp2_with fail
 refine (itoa_any (n + 1) (by omega) (by omega) _ HE.out).mono ?_
 rintro e w1 ⟨rfl, hb1⟩
 go_wp2
 go_ret
 exact ⟨rfl, hb1⟩
theorem isPosition1_any (n : Int) (w : World) : Calls Tryz.prog 113 #[.int .i64 n] w fun e w' => e = .returned (.bool (!inB n 0 3)) ∧ Below w.heap.size w w' := by
 go_enter Tryz.func113, Tryz.ntmps113
 go_wp2_with (first | (go_at_call 40; refine (within_any _ _ _ _).mono ?_; rintro e w' ⟨rfl, rfl⟩))
 go_ret
 exact ⟨rfl, by exact bel⟩
set_option maxHeartbeats 1600000 in
theorem idxPos {B : Nat → Prop} (P : Int → Bool) (us : List Int) (va : Value) (w : World) (HC : ∀ (a : Int) (w' : World), a ∈ us → i64B a → Below w.heap.size w w' → Calls Tryz.prog 113 #[.int .i64 a] w' fun e w'' => e = .returned (.bool (P a)) ∧ Below w'.heap.size w' w'')
  (h : IntsAt B w va us) : Calls Tryz.prog 77 #[va, .func (.func 113) #[] #[]] w (FirstI (firstI P 0 us) w) := by
 obtain ⟨p, c, rfl, hlen⟩ := h.form
 unfold maxLen at hlen
 have H := Lib.hid h
 have HN1 := Lib.hid HC
 clear h HC
 go_enter Tryz.func77, Tryz.ntmps77
 go_wp2
 go_loopw [8] (fun i wr => ∃ k : Nat, k ≤ us.length ∧ i = .int .i64 k ∧ firstI P 0 us = firstI P k (us.drop k) ∧ Below w.heap.size w wr) (fun i _ => us.length - (intOf i).toNat)
 case atStart => exact ⟨0, Nat.zero_le _, rfl, rfl, by exact bel⟩
 case round =>
  obtain ⟨k, hk, rfl, he, hb⟩ := hrel
  have HE := Lib.hid he
  clear he
  by_cases hlt : k < us.length
  ·obtain ⟨b, o, rfl, hB, hx0, hxs⟩ := (H.out.below hb).at_ hlt
   have HD := Lib.hid (firstI_drop P hlt)
   have hm := List.getElem_mem hlt
   obtain ⟨a, ha⟩ : ∃ a, us[k] = a := ⟨_, rfl⟩
   rw [ha] at hx0 hxs HD hm
   clear ha
   have zb := bsz (World.block_lt_of_cell? _ _ hx0)
   cases hN : P a
   all_goals
    have HN := Lib.hid hN
    go_wp2_with fail
    refine (HN1.out a _ hm hxs (by exact bel)).mono ?_
    rintro e w1 ⟨rfl, hb1⟩
    have ⟨cw1, fw1⟩ := bcell hb1
    have qw1 := hb1.size
    (try simp at qw1)
    (try have zw1w := bsz (show w.heap.size < w1.heap.size by omega))
    rw [HN.out]
    go_wp2
   ·refine ⟨⟨k + 1, by omega, by go_num, ?_, by exact bel⟩, by simp [intOf]; omega⟩
    rw [HE.out, HD.out, HN.out]; rfl
   ·go_ret
    exact ⟨_, rfl, by rw [HE.out, HD.out, HN.out]; rfl, by exact bel⟩
  ·obtain rfl : k = us.length := by omega
   have he := HE.out
   rw [List.drop_length] at he
   have HE2 := Lib.hid he
   clear he
   go_wp2
   go_ret
   exact ⟨-1, rfl, by rw [HE2.out]; rfl, by exact bel⟩
theorem containsPos {B : Nat → Prop} (P : Int → Bool) (us : List Int) (va : Value) (w : World) (HC : ∀ (a : Int) (w' : World), a ∈ us → i64B a → Below w.heap.size w w' → Calls Tryz.prog 113 #[.int .i64 a] w' fun e w'' => e = .returned (.bool (P a)) ∧ Below w'.heap.size w' w'')
  (h : IntsAt B w va us) : Calls Tryz.prog 43 #[va, .func (.func 113) #[] #[]] w fun e w' => e = .returned (.bool (us.any P)) ∧ Below w.heap.size w w' := by
 have HX := Lib.hid (fun (w' : World) (hb : Below w.heap.size w w') => idxPos (B := B) P us va w' (fun a w2 ha hi hb2 => HC a w2 ha hi (Below.step hb hb2)) (h.below hb))
 clear h HC
 go_enter Tryz.func43, Tryz.ntmps43
 go_wp2_with fail
 refine (HX.out _ (by exact bel)).mono ?_
 rintro e w1 ⟨r, rfl, hr, hb1⟩
 have HR := Lib.hid (show decide (0 ≤ r) = us.any P by rw [hr, atI_neg, firstI_any])
 clear hr
 go_wp2
 go_ret
 exact ⟨ret_bool HR.out, by exact bel⟩
set_option maxHeartbeats 1600000 in
theorem isPosition_any {B : Nat → Prop} (l : List Int) (v : Value) (w : World) (h : IntsAt B w v l) : Calls Tryz.prog 74 #[v] w fun e w' => e = .returned (.bool (posB l)) ∧ Below w.heap.size w w' := by
 obtain ⟨p, c, rfl, hlen⟩ := h.form
 unfold maxLen at hlen
 have H := Lib.hid h
 have HP := Lib.hid (show posB l = (decide (l.length ≤ 8) && !(l.any fun n => !inB n 0 3)) by rw [posB, not_any_allI])
 clear h
 by_cases h8 : l.length ≤ 8
 ·have h8i : (l.length : Int) ≤ 8 := by omega
  have H8 := Lib.hid h8
  go_enter Tryz.func74, Tryz.ntmps74
  go_wp2_with fail
  refine (containsPos (fun n => !inB n 0 3) l _ _ (fun a w' _ _ _ => isPosition1_any a w') (H.out.below (by exact bel))).mono ?_
  rintro e w1 ⟨rfl, hb1⟩
  have ⟨cw1, fw1⟩ := bcell hb1
  have qw1 := hb1.size
  (try simp at qw1)
  (try have zw1w := bsz (show w.heap.size < w1.heap.size by omega))
  go_wp2
  go_ret
  exact ⟨ret_bool (by rw [HP.out, decide_eq_true H8.out, Bool.true_and]), by exact bel⟩
 ·have h8i : ¬ (l.length : Int) ≤ 8 := by omega
  have H8 := Lib.hid h8
  go_enter Tryz.func74, Tryz.ntmps74
  go_wp2
  go_ret
  exact ⟨ret_bool (by rw [HP.out, decide_eq_false H8.out, Bool.false_and]), by exact bel⟩
set_option maxHeartbeats 3200000 in
theorem hasNumbers_any {B : Nat → Prop} (m : Nat) (s : Stp) (p q : Option Addr) (c d : Nat) (v3 : Value) (w : World) (h : StpAt B m w s [.int .i64 s.rule, .slice p s.ps.length c, .slice q s.wh.length d, v3]) (hd : s.wh.length ≤ d) :
  Calls Tryz.prog 41 #[.agg #[.int .i64 s.rule, .slice p s.ps.length c, .slice q s.wh.length d, v3]] w fun e w' => e = .returned (.bool s.nums) ∧ Below w.heap.size w w' := by
 obtain ⟨_, _, _, _, r, g, -, -, -, rfl, hr, l1, l2, l3, ha, hb, hc⟩ := h.form
 obtain ⟨ru, ps, wh, cl⟩ := s
 simp only at l1 l2 l3 ha hb hc hd hr ⊢
 unfold maxLen at l1 l2 l3
 have HB := Lib.hid hb
 clear h ha hb hc
 go_enter Tryz.func41, Tryz.ntmps41
 go_wp2
 obtain ⟨W, hW⟩ : ∃ W : World, W = w.alloc (.cells #[.int .i64 ru, .slice p ps.length c, .slice q wh.length d, .slice r cl.length g] 27) := ⟨_, rfl⟩
 have k0 : W.cell? ⟨w.heap.size, 0, none⟩ = some (.int .i64 ru) := by rw [hW]; go_simp
 have k1 : W.cell? ⟨w.heap.size, 1, none⟩ = some (.slice p ps.length c) := by rw [hW]; go_simp
 have k2 : W.cell? ⟨w.heap.size, 2, none⟩ = some (.slice q wh.length d) := by rw [hW]; go_simp
 have k3 : W.cell? ⟨w.heap.size, 3, none⟩ = some (.slice r cl.length g) := by rw [hW]; go_simp
 have HSW := Lib.hid (show W.heap.size = w.heap.size + 1 by rw [hW]; simp)
 have hbW : Below w.heap.size w W := by rw [hW]; exact bel
 rw [← hW]
 clear hW
 have zW := bsz (World.block_lt_of_cell? _ _ k0)
 refine wp_region_flowC W.heap.size [(⟨w.heap.size, 0, none⟩, .int .i64 ru), (⟨w.heap.size, 1, none⟩, .slice p ps.length c), (⟨w.heap.size, 2, none⟩, .slice q wh.length d)] (by kernel_rfl) (by kernel_rfl) (by first | (intro _ hs; cases hs; done) | (simp only [List.forall_mem_cons]; go_simp)) fun C HC => ?_
 repeat (first | ((first | apply flow_free rfl | (apply flow_yes; (case hw => go_simp))); (intro L w' hun hrd hC; have ⟨hC, hb', hf'⟩ := flO HC hC; (try simp only [List.forall_mem_cons] at hf'); go_simp; first | exact ⟨flS HC hC, rfl⟩ | (rw [if_neg]; (exact ⟨flS HC hC, rfl⟩); omega) | fail); go_simp) | (apply flow_noC HC; (case hw => (go_simp; try (intro hh; cases hh))); go_simp))
 refine flow_nil ?_
 intro L wz hL hz
 have ⟨_, hbz, hcz⟩ := flO HC hz
 try simp only [List.forall_mem_cons] at hcz
 have z0 := (hbz.cell (p := ⟨w.heap.size, 0, none⟩) zW.1).trans k0
 have z2 := (hbz.cell (p := ⟨w.heap.size, 2, none⟩) zW.1).trans k2
 have hbw := Below.step hbW hbz
 have zz := bsz (World.block_lt_of_cell? _ _ z0)
 clear k0 k1 k2 k3 hcz
 by_cases r1 : ru = 1
 ·subst r1
  go_wp2
  all_goals (go_ret; exact ⟨ret_bool (by simp_all [Stp.nums, beqN0, beqN1, beqN2] <;> (intros; omega)), by exact bel⟩)
 by_cases r2 : ru = 2
 ·subst r2
  go_wp2
  all_goals (go_ret; exact ⟨ret_bool (by simp_all [Stp.nums, beqN0, beqN1, beqN2] <;> (intros; omega)), by exact bel⟩)
 by_cases r3 : ru = 3
 ·subst r3
  go_wp2
  all_goals (go_ret; exact ⟨ret_bool (by simp_all [Stp.nums, beqN0, beqN1, beqN2] <;> (intros; omega)), by exact bel⟩)
 by_cases r4 : ru = 4
 ·subst r4
  by_cases p2 : ps.length = 2
  case neg =>
   have HN := Lib.hid (show Stp.nums ⟨4, ps, wh, cl⟩ = false by simp [Stp.nums, p2])
   have p2i : ((ps.length : Int) == 2) = false := by rw [beq_eq_false_iff_ne]; omega
   go_wp2
   go_ret
   exact ⟨ret_bool (by rw [HN.out]), by exact bel⟩
  have p2i : ((ps.length : Int) == 2) = true := by rw [beq_iff_eq]; omega
  by_cases w3 : 3 < wh.length
  case neg =>
   have HN := Lib.hid (show Stp.nums ⟨4, ps, wh, cl⟩ = false by simp [Stp.nums, w3])
   have w3i : ¬ (3 : Int) < wh.length := by omega
   go_wp2
   go_ret
   exact ⟨ret_bool (by rw [HN.out]), by exact bel⟩
  have w3i : (3 : Int) < wh.length := by omega
  have HN := Lib.hid (show Stp.nums ⟨4, ps, wh, cl⟩ = (inB (wh.getD 1 0) 0 1 && posB (wh.drop 3)) by simp [Stp.nums, p2, w3])
  obtain ⟨b, o, rfl, hB, hx1, -⟩ := (HB.out.below hbw).at_ (show 1 < wh.length by omega)
  have HG := Lib.hid (show wh.getD 1 0 = wh[1] by rw [List.getD_eq_getElem?_getD, List.getElem?_eq_getElem (by omega)]; rfl)
  obtain ⟨a, hae⟩ : ∃ a, wh[1] = a := ⟨_, rfl⟩
  rw [hae] at hx1 HG
  have HR := Lib.hid (ListAt.rest HB.out 3 (n' := wh.length - 3) (c' := d - 3) rfl)
  have zb := bsz (World.block_lt_of_cell? _ _ hx1)
  have hd3 : ¬ d = 3 := by omega
  have hd3a : (3 : Int) ≤ wh.length := by omega
  have hd3b : (wh.length : Int) ≤ d := by omega
  clear hae p2 w3
  cases hq : inB a 0 1
  ·have HQ := Lib.hid hq
   go_wp2_with (first | (go_at_call 40; refine (within_any _ _ _ _).mono ?_; rintro e w' ⟨rfl, rfl⟩; rw [HQ.out]))
   go_ret
   exact ⟨ret_bool (by rw [HN.out, HG.out, HQ.out]; rfl), by exact bel⟩
  ·have HQ := Lib.hid hq
   go_wp2_with (first | (go_at_call 40; refine (within_any _ _ _ _).mono ?_; rintro e w' ⟨rfl, rfl⟩; rw [HQ.out]))
   refine (isPosition_any (wh.drop 3) _ _ ((show IntsAt B w _ (wh.drop 3) from HR.out).below (by exact bel))).mono ?_
   rintro e w5 ⟨rfl, hb5⟩
   go_wp2
   go_ret
   exact ⟨ret_bool (by rw [HN.out, HG.out, HQ.out]; rfl), by exact bel⟩
 by_cases r5 : ru = 5
 ·subst r5
  go_wp2
  all_goals (go_ret; exact ⟨ret_bool (by simp_all [Stp.nums, beqN0, beqN1, beqN2] <;> (intros; omega)), by exact bel⟩)
 by_cases r6 : ru = 6
 ·subst r6
  go_wp2_with (first | (go_at_call 40; refine (within_any _ _ _ _).mono ?_; rintro e w' ⟨rfl, rfl⟩))
  all_goals (go_ret; exact ⟨ret_bool (by simp_all [Stp.nums, inB, beqN0, beqN1, beqN2, leN2, leN11] <;> (intros; omega)), by exact bel⟩)
 have e1 : (ru == 1) = false := by simp [r1]
 have e2 : (ru == 2) = false := by simp [r2]
 have e3 : (ru == 3) = false := by simp [r3]
 have e4 : (ru == 4) = false := by simp [r4]
 have e5 : (ru == 5) = false := by simp [r5]
 have e6 : (ru == 6) = false := by simp [r6]
 have HN := Lib.hid (show Stp.nums ⟨ru, ps, wh, cl⟩ = false by simp [Stp.nums, r1, r2, r3, r4, r5, r6])
 clear r1 r2 r3 r4 r5 r6
 go_wp2
 go_ret
 exact ⟨ret_bool (by rw [HN.out]), by exact bel⟩
def NumsRel (us : List Int) (tx : Int → List UInt8) (base : Nat) (w : World) (out i : Value) (wr : World) : Prop :=
 ∃ k : Nat, k ≤ us.length ∧ i = .int .i64 k ∧ wr.ownsRow base 9 1 out k (strV ((us.map tx).take k)) ∧ Below w.heap.size w wr
theorem nums_take {us : List Int} {tx : Int → List UInt8} {k : Nat} (h : k < us.length) : strV ((us.map tx).take (k + 1)) = strV ((us.map tx).take k) ++ [.string ⟨(tx us[k]).toArray⟩] := by
 rw [strV_take (by rw [List.length_map]; exact h), List.getElem_map]
theorem joinB_numsLen {us : List Int} {tx : Int → List UInt8} {sep : List UInt8} (h : ∀ x ∈ us, (tx x).length ≤ 20) (hs : sep.length ≤ 10) (hl : us.length ≤ 1000000) : (joinB sep (us.map tx)).length ≤ 140737488355328 := by
 have := joinB_bd (sep := sep) 20 (us.map tx) (fun x hx => by obtain ⟨y, hy, rfl⟩ := List.mem_map.1 hx; exact h y hy)
 rw [List.length_map] at this
 have h2 : (20 + sep.length) * us.length ≤ 30 * us.length := Nat.mul_le_mul_right _ (by omega)
 omega
set_option maxHeartbeats 1600000 in
theorem formatPosition_any {B : Nat → Prop} (us : List Int) (v : Value) (w : World) (h : IntsAt B w v us) (h0 : us ≠ []) (hx : ∀ x ∈ us, 0 ≤ x ∧ x ≤ 1000) (hl : us.length ≤ 1000) (hE : Env w) :
  Calls Tryz.prog 80 #[v] w fun e w' => e = .returned (.string ⟨(posT us).toArray⟩) ∧ Below w.heap.size w w' := by
 obtain ⟨p, c, rfl, -⟩ := h.form
 have H := Lib.hid h
 have HX := Lib.hid hx
 have HE := Lib.hid hE
 have HP := Lib.hid (show posT us = joinB [46] (us.map Lib.itoa) from if_neg h0)
 have hpos := List.length_pos_iff.2 h0
 have hnz : ((us.length : Int) == 0) = false := by rw [beq_eq_false_iff_ne]; omega
 have HJ := Lib.hid (joinB_numsLen (us := us) (tx := Lib.itoa) (sep := [46]) (fun x hx' => by have := hx x hx'; exact itoa_len x (by omega) (by omega)) (by decide) (by omega))
 clear h hx hE h0
 go_enter Tryz.func80, Tryz.ntmps80
 go_wp2
 go_loopw [3, 12] (NumsRel us Lib.itoa w.heap.size w) (fun _ i _ => us.length - (intOf i).toNat)
 case atStart => exact ⟨0, Nat.zero_le _, rfl, row_empty _ _ _ _ (by omega), by exact bel⟩
 case round =>
  obtain ⟨k, hk, rfl, ho, hb⟩ := hrel
  have HO := Lib.hid ho
  have hqr := hb.size
  clear ho
  by_cases hlt : k < us.length
  ·obtain ⟨b, o, rfl, hB, hx0, -⟩ := (H.out.below hb).at_ hlt
   have hxb := HX.out _ (List.getElem_mem hlt)
   have HT := Lib.hid (nums_take (tx := Lib.itoa) hlt)
   obtain ⟨a, ha⟩ : ∃ a, us[k] = a := ⟨_, rfl⟩
   rw [ha] at hx0 hxb HT
   have zb := bsz (World.block_lt_of_cell? _ _ hx0)
   clear ha
   go_wp2_with fail
   refine (itoa_any a (by omega) (by omega) _ (HE.out.below hb)).mono ?_
   rintro e w2 ⟨rfl, hb2⟩
   have hq2 := hb2.size
   have HO1 := Lib.hid (own_below HO.out hb2)
   have hb3 : Below w.heap.size w w2 := Below.step hb hb2
   go_wp2_with (at_builtin; refine wpList_app1 rfl (.tmp 16) (.tmp 19) _ rfl w.heap.size 9 1 16 elemStr _ _ _ rfl w2 #[.string ⟨(Lib.itoa a).toArray⟩] rfl _ (by simp) rfl HO1.out rfl (by simp [Value.oneCell']) (by omega) (by unfold maxLen; omega) (by omega) ?_; intro v1 w3 hown1 hg1 hnr1 hlt1)
   refine ⟨⟨k + 1, by omega, by go_num, ?_, hb3.grown hg1 (by omega) (fun k hk => by have := own_base HO1.out k hk; omega)⟩, by simp [intOf]; omega⟩
   rw [HT.out]; exact hown1
  ·obtain rfl : k = us.length := by omega
   have ho := HO.out
   rw [show us.length = (us.map Lib.itoa).length by rw [List.length_map], List.take_length] at ho
   have HO2 := Lib.hid ho
   clear ho HO
   go_wp2_with fail
   refine (join_own [46] _ HO2.out (by rw [List.length_map]; omega) HJ.out).mono ?_
   rintro e w2 ⟨rfl, hb2⟩
   go_wp2
   go_ret
   exact ⟨ret_str (by rw [HP.out]), Below.step hb hb2⟩
theorem parent_any (g b o c k n : Nat) (i : Int) (x : Int) (w : World) (hE : Env w) (hg : w.cell? ⟨g, 1, none⟩ = some (.slice (some ⟨b, o, none⟩) n c)) (hx : w.cell? ⟨b, o + k, none⟩ = some (.int .i64 x)) (hi : i = k) (hk : k < n) (_hn : n ≤ 1000000) (h0 : 0 ≤ x) (h1 : x ≤ 1000) :
  Calls Tryz.prog 78 #[.int .i64 i, .pointer (some ⟨g, 0, none⟩)] w fun e w' => e = .returned (.string ⟨(cnt x).toArray⟩) ∧ Below w.heap.size w w' := by
 subst hi
 have HE := Lib.hid hE
 have hki : (k : Int) < n := by omega
 have zg := bsz (World.block_lt_of_cell? _ _ hg)
 clear hE
 go_enter Tryz.func78, Tryz.ntmps78
 go_wp2_with fail
 refine (count_any x _ h0 h1 HE.out).mono ?_
 rintro e w1 ⟨rfl, hb1⟩
 go_wp2
 go_ret
 exact ⟨rfl, hb1⟩
theorem where_any (g b o c k n : Nat) (i : Int) (x : Int) (w : World) (hE : Env w) (hg : w.cell? ⟨g, 2, none⟩ = some (.slice (some ⟨b, o, none⟩) n c)) (hx : w.cell? ⟨b, o + k, none⟩ = some (.int .i64 x)) (hi : i = k) (hk : k < n) (_hn : n ≤ 1000000) (h0 : 0 ≤ x) (h1 : x ≤ 1000) :
  Calls Tryz.prog 79 #[.int .i64 i, .pointer (some ⟨g, 0, none⟩)] w fun e w' => e = .returned (.string ⟨(cnt x).toArray⟩) ∧ Below w.heap.size w w' := by
 subst hi
 have HE := Lib.hid hE
 have hki : (k : Int) < n := by omega
 have zg := bsz (World.block_lt_of_cell? _ _ hg)
 clear hE
 go_enter Tryz.func79, Tryz.ntmps79
 go_wp2_with fail
 refine (count_any x _ h0 h1 HE.out).mono ?_
 rintro e w1 ⟨rfl, hb1⟩
 go_wp2
 go_ret
 exact ⟨rfl, hb1⟩
def SplRel (s : ByteArray) (b : UInt8) (US : List ByteArray) (w : World) (sv i : Value) (wr : World) : Prop :=
 ∃ (k : Nat) (rem : ByteArray), k + 1 ≤ US.length ∧ i = .int .i64 k ∧ sv = .string rem ∧ rem.size ≤ s.size ∧ (splitF s.data.toList b).drop k = splitF rem.data.toList b ∧
  FillRow (NewB w wr) wr 9 1 (fun _ _ s cs => StrAt s cs) w.heap.size US.length k US ∧ Below w.heap.size w wr
theorem wrap_nat0 {m : Nat} (h : m ≤ 1000000000) : wrap64 (m : Int) = m := IntWalk.wrap64_in _ (by omega)
theorem wrap_nat1 {m : Nat} (h : m ≤ 1000000000) : wrap64 ((m : Int) + 1) = ((m + 1 : Nat) : Int) := by rw [IntWalk.wrap64_in _ (by omega)]; omega
theorem extract_pre {rem : ByteArray} {a t : List UInt8} {b : UInt8} (h : rem.data.toList = a ++ b :: t) : rem.extract 0 a.length = baL a := by
 apply ByteArray.ext
 apply Array.toList_inj.1
 rw [extract_list, h]
 simp [baL]
theorem extract_suf {rem : ByteArray} {a t : List UInt8} {b : UInt8} (h : rem.data.toList = a ++ b :: t) : rem.extract (a.length + 1) rem.size = baL t := by
 apply ByteArray.ext
 apply Array.toList_inj.1
 rw [extract_list, take_all _ _ (by omega), h]
 simp [baL]
set_option maxHeartbeats 3200000 in
theorem genSplit_any (s : ByteArray) (b : UInt8) (w : World) (hs : s.size ≤ 1000000000) :
  Calls Tryz.prog 138 #[.string s, .string ⟨#[b]⟩, .int .i64 0, .int .i64 (-1)] w fun e w' => ∃ g, e = .returned (.slice (some ⟨g, 0, none⟩) ((splitF s.data.toList b).map baL).length ((splitF s.data.toList b).map baL).length) ∧
   StrOwn 9 (NewB w w') w' ((splitF s.data.toList b).map baL) (.slice (some ⟨g, 0, none⟩) ((splitF s.data.toList b).map baL).length ((splitF s.data.toList b).map baL).length) ∧ Below w.heap.size w w' := by
 have hsep : ((⟨#[b]⟩ : ByteArray).toList == []) = false := by rw [ByteArray.toList_eq]; rfl
 have hbs : (⟨#[b]⟩ : ByteArray).size = 1 := rfl
 obtain ⟨US, hUS⟩ : ∃ US, (splitF s.data.toList b).map baL = US := ⟨_, rfl⟩
 have hlen : US.length = Lib.countByte s.data.toList b + 1 := by rw [← hUS, List.length_map, count_split]
 have hcl : Lib.countByte s.data.toList b ≤ s.size := by rw [Lib.countByte, size_list]; exact List.count_le_length
 have HAT := Lib.hid (fun k => show US[k]? = ((splitF s.data.toList b)[k]?).map baL by rw [← hUS, List.getElem?_map])
 have hsl : (splitF s.data.toList b).length = US.length := by rw [← hUS, List.length_map]
 rw [hUS]
 have HSL := Lib.hid hsl
 obtain ⟨N, hN⟩ : ∃ N, Lib.countByte s.data.toList b = N := ⟨_, rfl⟩
 rw [hN] at hlen hcl
 obtain ⟨-, i, z, hi, hz, hsz, hby, hzs, -⟩ := elemStr
 have HLN := Lib.hid hlen
 have hmin : ¬ ((s.size : Int) + 1 < (N : Int) + 1) := by omega
 have hmin2 : min ((N : Int) + 1) ((s.size : Int) + 1) = (N : Int) + 1 := by omega
 clear hUS hsl
 go_enter Tryz.func138, Tryz.ntmps138
 go_wp2_with fail
 refine (Tryz.strings_Count_one s b w).mono ?_
 rintro e w1 ⟨rfl, rfl⟩
 rw [hN]
 go_wp2_with (at_make; refine wpList_make_full _ rfl _ _ _ rfl w1.heap.size 9 i z 1 Tryz.underlying103 hi hz hsz _ _ _ _ (N + 1) rfl rfl rfl rfl (by rw [hby]; omega) (by unfold maxLen; omega) (Nat.le_refl _) ?_; intro w2 ho2 hg2)
 have hb1 : Below w1.heap.size w1 w2 := ⟨hg2.os, hg2.tape, hg2.output, hg2.size, fun k hk => hg2.block k hk (by simp)⟩
 have HF1 := Lib.hid (show FillRow (NewB w1 w2) w2 9 1 (fun _ _ s cs => StrAt s cs) w1.heap.size US.length 0 US from FillRow.start ⟨Nat.le_refl _, own_lt ho2⟩ (by rw [hlen]; exact ho2))
 clear ho2 hg2
 go_loopw [0, 10] (SplRel s b US w1) (fun _ i _ => US.length - (intOf i).toNat)
 case atStart => exact ⟨0, s, by omega, rfl, rfl, Nat.le_refl _, rfl, HF1.out, hb1⟩
 case round =>
  obtain ⟨k, rem, hk, rfl, rfl, hrs, hdr, hf, hb⟩ := hrel
  have HF := Lib.hid hf
  have hgw := hf.lt
  have hgb := bsz hgw
  clear hf HF1 hb1
  by_cases hlt : k < N
  ·obtain ⟨hfd, hre, hat, hdr2⟩ := split_drop hdr (by rw [HSL.out]; omega)
   have hix := index_cut b rem.data.toList
   rw [hfd, if_pos rfl] at hix
   have hle : (cut1 rem.data.toList b).1.length + 1 + (cut1 rem.data.toList b).2.1.length = rem.size := by
    have := congrArg List.length hre
    rw [← size_list, List.length_append, List.length_cons] at this; omega
   have HPR := Lib.hid (extract_pre hre)
   have HSU := Lib.hid (extract_suf hre)
   have HK : Hid (US[k]? = some (baL (cut1 rem.data.toList b).1)) := Lib.hid (by rw [HAT.out, hat]; rfl)
   have HDR := Lib.hid hdr2
   have HIX := Lib.hid hix
   clear hat hdr hdr2 hfd hre hix
   generalize (cut1 rem.data.toList b).1 = pa at *
   generalize (cut1 rem.data.toList b).2.1 = pb at *
   have hcz := HF.out.cell k (by omega)
   obtain ⟨⟨q0, hq0⟩, hf0⟩ := hcz
   have hki : (k : Int) < N := by omega
   obtain ⟨m, hm⟩ : ∃ m, pa.length = m := ⟨_, rfl⟩
   rw [hm] at HIX HPR HSU hle
   have HM := Lib.hid hm
   clear hm
   have hp1 : ¬ ((m : Int) < 0) := by omega
   have hp2 : (0 : Int) ≤ (m : Int) := by omega
   have hp3 : m ≤ rem.size := by omega
   have hp4 : m + 1 ≤ rem.size := by omega
   have HLE := Lib.hid hle
   clear hle
   go_wp2_with fail
   refine ((Tryz.strings_Index_one rem b wr).mono (fun e w' (h : e = _ ∧ w' = wr) => (show e = .returned (.int .i64 (m : Int)) ∧ Below wr.heap.size wr w' from ⟨h.1.trans (by rw [HIX.out]), h.2 ▸ Below.refl _ _⟩))).mono ?_
   rintro e w3 ⟨rfl, hb3⟩
   have hq3 := (hb3.cell hgw).trans hq0
   have hf3 := (hb3.frozen hgw).trans hf0
   have hgb3 := bsz (World.block_lt_of_cell? _ _ hq3)
   have HALL := Lib.hid (And.intro hlen (And.intro hcl (And.intro hrs (And.intro hlt (And.intro hs (And.intro hb hb3))))))
   have hk1 : (k : Int) < (N : Int) + 1 := by omega
   have hmb : m ≤ 1000000000 := by omega
   have hw1 := wrap_nat0 hmb
   have hw2 := wrap_nat1 hmb
   clear hmb hq0 hf0 hs hsep hbs hi hz hsz hby hzs hcl hlen hN hmin hmin2 hlt hgw hgb hrs hb hb3 hk hki
   go_wp2
   rw [show rem.extract (m + 1) rem.size = baL pb from HSU.out, show rem.extract 0 m = baL pa from HPR.out]
   obtain ⟨hlen, hcl, hrs, hlt, hs, hb, hb3⟩ := HALL.out
   have hbz : Below w1.heap.size w1 w3 := Below.step hb hb3
   have hm2 := HM.out
   have hle2 := HLE.out
   have hpz : (baL pa).size ≤ maxLen := by rw [baL_size, hm2]; unfold maxLen; clear hw1 hw2; omega
   clear hw1 hw2
   have hkb : k ≤ 1000000000 := by omega
   refine ⟨⟨k + 1, baL pb, by omega, congrArg (Value.int .i64) (wrap_nat1 hkb), rfl, by rw [baL_size]; omega, HDR.out, ?_, hbz.setCell (Nat.le_refl _) _⟩, by rw [wrap_nat1 hkb]; simp [intOf]; omega⟩
   refine FillRow.put (T := fun _ => False) ((HF.out.later hb3 (fun T x cs _ hx => hx)).wider (fun b hb => ⟨hb.1, by have := hb.2; have := hb3.size; simp; omega⟩)) (by omega) HK.out (Below.refl _ _) rfl ⟨rfl, hpz⟩ (fun _ h => h.elim) (fun cur hc hz => ⟨_, heap_setCell_same w3 _ k cur _ (.string (baL pa)) hc, ?_⟩) (by simp) (fun _ _ _ _ hx => hx)
   have := Patch.set (cur := cur) (cur' := cur) (o := k * 1) (cs := [q0]) ⟨rfl, fun j hj => ?_, fun _ _ => rfl⟩ (j := 0) (by simp) hz (.string (baL pa))
   ·simpa using this
   ·obtain rfl : j = 0 := by simpa using hj
    have h1 := (cell_of_row w3 _ k cur _ (0, 0) hc).symm.trans hq3
    simpa using h1
  ·obtain rfl : k = N := by omega
   have HL := Lib.hid (split_last hdr (by rw [HSL.out]; omega))
   have HK : Hid (US[k]? = some (baL rem.data.toList)) := Lib.hid (by rw [HAT.out, HL.out]; rfl)
   have hcz := HF.out.cell k (by omega)
   obtain ⟨⟨q0, hq0⟩, hf0⟩ := hcz
   go_wp2
   go_ret
   refine ⟨w1.heap.size, by first | rfl | (rw [hlen]; rfl), ?_, hb.setCell (Nat.le_refl _) _⟩
   clear hmin hmin2
   have hrz : rem.size ≤ maxLen := by unfold maxLen; omega
   have hput : FillRow (NewB w1 (wr.setCell ⟨w1.heap.size, k, none⟩ (.string rem))) (wr.setCell ⟨w1.heap.size, k, none⟩ (.string rem)) 9 1 (fun _ _ s cs => StrAt s cs) w1.heap.size US.length (k + 1) US := by
    refine FillRow.put (T := fun _ => False) (HF.out.wider (fun b hb => ⟨hb.1, by simpa using hb.2⟩)) (by omega) HK.out (Below.refl _ _) rfl ⟨by rw [baL_of], by rw [baL_of]; exact hrz⟩ (fun _ h => h.elim) (fun cur hc hz => ⟨_, heap_setCell_same wr _ k cur _ (.string rem) hc, ?_⟩) (by simp) (fun _ _ _ _ hx => hx)
    have := Patch.set (cur := cur) (cur' := cur) (o := k * 1) (cs := [q0]) ⟨rfl, fun j hj => ?_, fun _ _ => rfl⟩ (j := 0) (by simp) hz (.string rem)
    ·simpa using this
    ·obtain rfl : j = 0 := by simpa using hj
     have h1 := (cell_of_row wr _ k cur _ (0, 0) hc).symm.trans hq0
     simpa using h1
   rw [← hlen] at hput
   exact hput.done (by unfold maxLen; omega)
theorem strSplit_any (s : ByteArray) (b : UInt8) (w : World) (hs : s.size ≤ 1000000000) :
  Calls Tryz.prog 100 #[.string s, .string ⟨#[b]⟩] w fun e w' => ∃ g, e = .returned (.slice (some ⟨g, 0, none⟩) ((splitF s.data.toList b).map baL).length ((splitF s.data.toList b).map baL).length) ∧
   StrOwn 9 (NewB w w') w' ((splitF s.data.toList b).map baL) (.slice (some ⟨g, 0, none⟩) ((splitF s.data.toList b).map baL).length ((splitF s.data.toList b).map baL).length) ∧ Below w.heap.size w w' := by
 have HG := Lib.hid (genSplit_any s b w hs)
 obtain ⟨US, hUS⟩ : ∃ US, (splitF s.data.toList b).map baL = US := ⟨_, rfl⟩
 rw [hUS] at HG ⊢
 clear hUS
 go_enter Tryz.func100, Tryz.ntmps100
 go_wp2_with fail
 refine HG.out.mono ?_
 rintro e w1 ⟨g, rfl, h1, hb1⟩
 have H1 := Lib.hid h1
 clear h1
 go_wp2
 go_ret
 exact ⟨g, rfl, H1.out, hb1⟩
structure Kp (X : Nat → Prop) (w w' : World) : Prop where
 os : w'.os = w.os
 tape : w'.tape = w.tape
 output : w'.output = w.output
 size : w.heap.size ≤ w'.heap.size
 block : ∀ b, b < w.heap.size → ¬ X b → w'.heap[b]? = w.heap[b]?
theorem Kp.refl (X : Nat → Prop) (w : World) : Kp X w w := ⟨rfl, rfl, rfl, Nat.le_refl _, fun _ _ _ => rfl⟩
theorem Kp.of_below {X : Nat → Prop} {w w' : World} (h : Below w.heap.size w w') : Kp X w w' := ⟨h.os, h.tape, h.output, h.size, fun b hb _ => h.block b hb⟩
theorem Kp.below {w w' : World} {X : Nat → Prop} (h : Kp X w w') (hX : ∀ b, ¬ X b) : Below w.heap.size w w' := ⟨h.os, h.tape, h.output, h.size, fun b hb => h.block b hb (hX b)⟩
theorem Kp.trans {X X1 : Nat → Prop} {w w1 w2 : World} (h : Kp X w w1) (h1 : Kp X1 w1 w2) (hX : ∀ b, X1 b → X b ∨ w.heap.size ≤ b) : Kp X w w2 :=
 ⟨h1.os.trans h.os, h1.tape.trans h.tape, h1.output.trans h.output, Nat.le_trans h.size h1.size, fun b hb hn => (h1.block b (Nat.lt_of_lt_of_le hb h.size) (fun e => (hX b e).elim hn (fun e => by omega))).trans (h.block b hb hn)⟩
theorem Kp.be {X : Nat → Prop} {w w1 w2 : World} (h : Kp X w w1) (h1 : Below w1.heap.size w1 w2) : Kp X w w2 := h.trans (Kp.of_below (X := fun _ => False) h1) (fun _ e => e.elim)
theorem Kp.mono {X X' : Nat → Prop} {w w' : World} (h : Kp X w w') (hX : ∀ b, X b → X' b ∨ w.heap.size ≤ b) : Kp X' w w' := ⟨h.os, h.tape, h.output, h.size, fun b hb hn => h.block b hb (fun e => (hX b e).elim hn (fun e => by omega))⟩
theorem Kp.of_gr {w w' : World} {o : Option Nat} (h : w.grownBy w' o) : Kp (fun b => o = some b) w w' := ⟨h.os, h.tape, h.output, h.size, fun b hb hn => h.block b hb (fun e => hn e.symm)⟩
theorem Kp.sc {X : Nat → Prop} {w w' : World} (h : Kp X w w') {a : Addr} (ha : X a.block ∨ w.heap.size ≤ a.block) (u : Value) : Kp X w (w'.setCell a u) :=
 ⟨h.os, h.tape, h.output, by simpa using h.size, fun b hb hn => (heap_setCell_other w' a b u (fun e => ha.elim (fun e2 => hn (e ▸ e2)) (fun e2 => by omega))).trans (h.block b hb hn)⟩
theorem Kp.alloc {X : Nat → Prop} {w w' : World} (h : Kp X w w') (o : Obj) : Kp X w (w'.alloc o) := h.be ((Below.refl _ _).alloc (Nat.le_refl _) o)
end Go.Proofs.YtabkdonplmlbcaaGreatDoor
