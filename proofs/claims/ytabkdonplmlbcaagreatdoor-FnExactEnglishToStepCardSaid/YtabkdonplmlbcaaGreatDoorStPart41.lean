import Derived.Test.YtabkdonplmlbcaaGreatDoorStPart34
namespace Go.Proofs.YtabkdonplmlbcaaGreatDoor
set_option maxRecDepth 100000
open Go.RowKit
theorem itoa_ne4 {n : Int} (h0 : 0 ≤ n) (h1 : n ≤ 3) : Lib.itoa n ≠ [] := by
 have h4 : (Lib.itoa 0 == []) = false ∧ (Lib.itoa 1 == []) = false ∧ (Lib.itoa 2 == []) = false ∧ (Lib.itoa 3 == []) = false := by refine ⟨?_, ?_, ?_, ?_⟩ <;> kernel_rfl
 simp only [beq_eq_false_iff_ne] at h4
 rcases (by omega : n = 0 ∨ n = 1 ∨ n = 2 ∨ n = 3) with rfl | rfl | rfl | rfl
 ·exact h4.1
 ·exact h4.2.1
 ·exact h4.2.2.1
 ·exact h4.2.2.2
theorem posT_ne {l : List Int} (h0 : l ≠ []) (h : ∀ x ∈ l, 0 ≤ x ∧ x ≤ 3) : joinB [46] (l.map Lib.itoa) ≠ [] := by
 intro e
 cases l with
 | nil => exact h0 rfl
 | cons a l =>
  have h1 := joinB_mem (sep := [46]) (l := (a :: l).map Lib.itoa) (a := Lib.itoa a) (by simp)
  rw [e] at h1
  have h2 := h a (by simp)
  exact itoa_ne4 h2.1 h2.2 (List.eq_nil_of_length_eq_zero (by simpa using h1))
theorem ints_atR {B : Nat → Prop} {w : World} {p : Option Addr} {n c : Nat} {us : List Int} (h : IntsAt B w (.slice p n c) us) (h0 : 0 < us.length) : ∃ b o, p = some ⟨b, o, none⟩ ∧ ∀ (i : Nat) (hi : i < us.length), w.cell? ⟨b, o + i, none⟩ = some (.int .i64 us[i]) := by
 obtain ⟨b, o, rfl, -, -⟩ := h.at_ h0
 refine ⟨b, o, rfl, fun i hi => ?_⟩
 obtain ⟨b', o', he, -, hx, -⟩ := h.at_ hi
 simp only [Option.some.injEq, Addr.mk.injEq, and_true] at he
 obtain ⟨rfl, rfl⟩ := he
 exact hx
set_option maxHeartbeats 1600000 in
theorem l3Position_any {B : Nat → Prop} (us : List Int) (v : Value) (w : World) (h : IntsAt B w v us) (h0 : us ≠ []) (hx : ∀ x ∈ us, 0 ≤ x ∧ x ≤ 3) (hl : us.length ≤ 8) :
  Calls Tryz.prog 93 #[v] w fun e w' => e = .returned (.string ⟨(posT us).toArray⟩) ∧ Below w.heap.size w w' := by
 obtain ⟨p, c, rfl, -⟩ := h.form
 have H := Lib.hid h
 have HX := Lib.hid hx
 have HP := Lib.hid (show posT us = joinB [46] (us.map Lib.itoa) from if_neg h0)
 have HNE := Lib.hid (posT_ne h0 hx)
 have hpos := List.length_pos_iff.2 h0
 have hjl : (joinB [46] (us.map Lib.itoa)).length ≤ 168 := by
  have := joinB_bd (sep := [46]) 20 (us.map Lib.itoa) (fun x hx' => by
   obtain ⟨y, hy, rfl⟩ := List.mem_map.1 hx'
   have h2 := hx y hy
   exact itoa_len y (by omega) (by omega))
  rw [List.length_map] at this
  simp only [List.length_cons, List.length_nil] at this
  omega
 clear h hx h0
 go_enter Tryz.func93, Tryz.ntmps93
 go_wp2
 go_loopw [3, 4] (fun x i wr => ∃ k : Nat, k ≤ us.length ∧ i = .int .i64 k ∧ x = .string ⟨(accT [] [46] (us.map Lib.itoa) k).toArray⟩ ∧ Below w.heap.size w wr) (fun _ i _ => us.length - (intOf i).toNat)
 case atStart => exact ⟨0, Nat.zero_le _, rfl, by rw [accT_zero], by exact bel⟩
 case round =>
  obtain ⟨k, hk, rfl, rfl, hb⟩ := hrel
  have hal := accT_len [] [46] (us.map Lib.itoa) k
  simp only [List.length_nil, Nat.zero_add] at hal
  by_cases hlt : k < us.length
  ·obtain ⟨b, o, rfl, hB, hx0, -⟩ := (H.out.below hb).at_ hlt
   have hxb := HX.out _ (List.getElem_mem hlt)
   have hgm : (us.map Lib.itoa)[k]'(by rw [List.length_map]; exact hlt) = Lib.itoa us[k] := List.getElem_map _
   have hme := joinB_mem (sep := [46]) (List.getElem_mem (l := us.map Lib.itoa) (n := k) (by rw [List.length_map]; exact hlt))
   have HS := Lib.hid hgm
   rw [hgm] at hme
   obtain ⟨a, ha⟩ : ∃ a, us[k] = a := ⟨_, rfl⟩
   rw [ha] at hx0 hxb HS hme
   have zb := bsz (World.block_lt_of_cell? _ _ hx0)
   clear ha hgm
   by_cases hk0 : k = 0
   ·have HA := Lib.hid (show accT [] [46] (us.map Lib.itoa) (k + 1) = [] ++ (us.map Lib.itoa)[k]'(by rw [List.length_map]; exact hlt) by subst hk0; exact accT_one [] [46] (us.map Lib.itoa) (by rw [List.length_map]; exact hlt))
    have HA0 := Lib.hid (show accT [] [46] (us.map Lib.itoa) k = [] by rw [hk0]; rfl)
    have hk1 : ¬ 0 < (k : Int) := by omega
    generalize hq : accT [] [46] (us.map Lib.itoa) k = x at *
    clear hk0
    go_wp2_with fail
    refine (drew_below (l1Num_any a _ (by omega) (by omega))).mono ?_
    rintro e w2 ⟨rfl, hb2⟩
    go_wp2
    refine ⟨⟨k + 1, by omega, by go_num, ?_, Below.step hb hb2⟩, by simp [intOf]; omega⟩
    rw [HA.out, HS.out, HA0.out]
    exact congrArg Value.string (by apply ByteArray.ext; simp)
   ·have HA := Lib.hid (accT_succ [] [46] (us.map Lib.itoa) hk0 (by rw [List.length_map]; exact hlt))
    have hk1 : 0 < (k : Int) := by omega
    generalize hq : accT [] [46] (us.map Lib.itoa) k = x at *
    clear hk0
    go_wp2_with fail
    refine (drew_below (l1Num_any a _ (by omega) (by omega))).mono ?_
    rintro e w2 ⟨rfl, hb2⟩
    go_wp2
    refine ⟨⟨k + 1, by omega, by go_num, ?_, Below.step hb hb2⟩, by simp [intOf]; omega⟩
    rw [HA.out, HS.out]
    exact congrArg Value.string (by apply ByteArray.ext; simp)
  ·obtain rfl : k = us.length := by omega
   have HA := Lib.hid (show accT [] [46] (us.map Lib.itoa) us.length = joinB [46] (us.map Lib.itoa) by
    have := accT_all [] [46] (us.map Lib.itoa) (by rw [List.length_map]; exact hpos)
    rw [List.length_map] at this; exact this)
   have hne : ((accT [] [46] (us.map Lib.itoa) us.length) == []) = false := by rw [HA.out, beq_eq_false_iff_ne]; exact HNE.out
   have hne2 : ¬ (accT [] [46] (us.map Lib.itoa) us.length) = [] := by rw [HA.out]; exact HNE.out
   generalize accT [] [46] (us.map Lib.itoa) us.length = x at *
   go_wp2
   go_ret
   exact ⟨ret_str (by rw [HP.out, HA.out]), hb⟩
set_option maxHeartbeats 6400000 in
theorem l26Origin_any {B : Nat → Prop} (m : Nat) (s : Stp) (p q : Option Addr) (c d : Nat) (v3 : Value) (w : World) (h : StpAt B m w s [.int .i64 s.rule, .slice p s.ps.length c, .slice q s.wh.length d, v3]) (hg : s.nums = true) (hp : ∀ x ∈ s.ps, 0 ≤ x ∧ x ≤ 99) (hw : ∀ x ∈ s.wh, 0 ≤ x ∧ x ≤ 99) (hc : s.ps.length ≤ c) (hd : s.wh.length ≤ d) :
  Calls Tryz.prog 61 #[.agg #[.int .i64 s.rule, .slice p s.ps.length c, .slice q s.wh.length d, v3]] w fun e w' => e = .returned (.string ⟨s.org.toArray⟩) ∧ Below w.heap.size w w' := by
 obtain ⟨_, _, _, _, r, g, -, -, -, rfl, hr, l1, l2, l3, ha, hb, hcl⟩ := h.form
 have HC := Lib.hid (Stp.nums_cases hg)
 obtain ⟨ru, ps, wh, cl⟩ := s
 simp only at l1 l2 l3 ha hb hc hd hr HC hp hw ⊢
 have HA := Lib.hid ha
 have HB := Lib.hid hb
 clear h ha hb hcl hg l1 l2 l3 hr
 rcases HC.out with ⟨rfl, rfl, a, rfl⟩ | ⟨rfl, ⟨x, y, rfl⟩, a, z, rfl⟩ | ⟨rfl, ⟨x, rfl⟩, a, z, rfl⟩ | ⟨rfl, ⟨x, y, rfl⟩, a, z, t, l, rfl, hl0, hz, hpl⟩ | ⟨rfl, ⟨x, rfl⟩, a, rfl⟩ | ⟨rfl, ⟨x, l, rfl, hl0, hl10⟩, rfl⟩
 ·obtain ⟨b, o, rfl, hy⟩ := ints_atR HB.out (by simp)
  have y0 : w.cell? ⟨b, o + 0, none⟩ = some (.int .i64 a) := hy 0 (by simp)
  have xA := hw a (by simp)
  have lA : (Lib.itoa (a + 1)).length ≤ 20 := cnt_len xA.1 xA.2
  simp only [List.length_cons, List.length_nil, Nat.zero_add] at hc hd ⊢
  clear hp hw hy HC HA HB
  rw [Nat.add_zero] at y0
  (try have zb := bsz (World.block_lt_of_cell? _ _ y0))
  (try have zb1 := bsz (World.block_lt_of_cell? _ _ x0))
  go_enter Tryz.func61, Tryz.ntmps61
  go_wp2_with fail
  obtain ⟨W, hW⟩ : ∃ W : World, W = w.alloc (.cells #[.int .i64 1, .slice p 0 c, .slice (some ⟨b, o, none⟩) 1 d, .slice r cl.length g] 27) := ⟨_, rfl⟩
  have k0 : W.cell? ⟨w.heap.size, 0, none⟩ = some (.int .i64 1) := by rw [hW]; go_simp
  have k1 : W.cell? ⟨w.heap.size, 1, none⟩ = some (.slice p 0 c) := by rw [hW]; go_simp
  have k2 : W.cell? ⟨w.heap.size, 2, none⟩ = some (.slice (some ⟨b, o, none⟩) 1 d) := by rw [hW]; go_simp
  have k3 : W.cell? ⟨w.heap.size, 3, none⟩ = some (.slice r cl.length g) := by rw [hW]; go_simp
  have HSW := Lib.hid (show W.heap.size = w.heap.size + 1 by rw [hW]; simp)
  have hbW : Below w.heap.size w W := by rw [hW]; exact bel
  rw [← hW]
  clear hW
  have zW := bsz (World.block_lt_of_cell? _ _ k0)
  refine (drew_below (l1Num_any (a + 1) _ (by omega) (by omega))).mono ?_
  rintro e w1 ⟨rfl, hb1⟩
  go_wp2
  go_ret
  exact ⟨ret_strs (by simp [Stp.org, cnt, sByAx, sFrom, sAnd, sResL, sWithL, sMerge, sRepl, sAt, sRead, sLeft, sRight, sRem, sRew]), by exact bel⟩
 ·obtain ⟨b1, o1, rfl, hx⟩ := ints_atR HA.out (by simp)
  have x0 : w.cell? ⟨b1, o1 + 0, none⟩ = some (.int .i64 x) := hx 0 (by simp)
  have x1 : w.cell? ⟨b1, o1 + 1, none⟩ = some (.int .i64 y) := hx 1 (by simp)
  obtain ⟨b, o, rfl, hy⟩ := ints_atR HB.out (by simp)
  have y0 : w.cell? ⟨b, o + 0, none⟩ = some (.int .i64 a) := hy 0 (by simp)
  have y1 : w.cell? ⟨b, o + 1, none⟩ = some (.int .i64 z) := hy 1 (by simp)
  have xA := hw a (by simp)
  have lA : (Lib.itoa (a + 1)).length ≤ 20 := cnt_len xA.1 xA.2
  have bZ := hw z (by simp)
  have lZ : (Lib.itoa (z + 1)).length ≤ 20 := cnt_len bZ.1 bZ.2
  have bX := hp x (by simp)
  have lX : (Lib.itoa (x + 1)).length ≤ 20 := cnt_len bX.1 bX.2
  have bY := hp y (by simp)
  have lY : (Lib.itoa (y + 1)).length ≤ 20 := cnt_len bY.1 bY.2
  simp only [List.length_cons, List.length_nil, Nat.zero_add] at hc hd ⊢
  clear hp hw hy hx HC HA HB
  rw [Nat.add_zero] at x0 y0
  (try have zb := bsz (World.block_lt_of_cell? _ _ y0))
  (try have zb1 := bsz (World.block_lt_of_cell? _ _ x0))
  go_enter Tryz.func61, Tryz.ntmps61
  go_wp2_with fail
  obtain ⟨W, hW⟩ : ∃ W : World, W = w.alloc (.cells #[.int .i64 2, .slice (some ⟨b1, o1, none⟩) 2 c, .slice (some ⟨b, o, none⟩) 2 d, .slice r cl.length g] 27) := ⟨_, rfl⟩
  have k0 : W.cell? ⟨w.heap.size, 0, none⟩ = some (.int .i64 2) := by rw [hW]; go_simp
  have k1 : W.cell? ⟨w.heap.size, 1, none⟩ = some (.slice (some ⟨b1, o1, none⟩) 2 c) := by rw [hW]; go_simp
  have k2 : W.cell? ⟨w.heap.size, 2, none⟩ = some (.slice (some ⟨b, o, none⟩) 2 d) := by rw [hW]; go_simp
  have k3 : W.cell? ⟨w.heap.size, 3, none⟩ = some (.slice r cl.length g) := by rw [hW]; go_simp
  have HSW := Lib.hid (show W.heap.size = w.heap.size + 1 by rw [hW]; simp)
  have hbW : Below w.heap.size w W := by rw [hW]; exact bel
  rw [← hW]
  clear hW
  have zW := bsz (World.block_lt_of_cell? _ _ k0)
  have x0W := cellR hbW x0
  have x1W := cellR hbW x1
  have y0W := cellR hbW y0
  have y1W := cellR hbW y1
  clear x0 x1 y0 y1
  refine (drew_below (l1Num_any (x + 1) _ (by omega) (by omega))).mono ?_
  rintro e w1 ⟨rfl, hb1⟩
  have i0 := cellR hb1 k0
  clear k0
  have i1 := cellR hb1 k1
  clear k1
  have i2 := cellR hb1 k2
  clear k2
  have x1V := cellR hb1 x1W
  clear x1W
  have y0V := cellR hb1 y0W
  clear y0W
  have y1V := cellR hb1 y1W
  clear y1W
  have zzw1 := bsz (World.block_lt_of_cell? _ _ i0)
  go_wp2_with fail
  refine (drew_below (l1Num_any (y + 1) _ (by omega) (by omega))).mono ?_
  rintro e w2 ⟨rfl, hb2⟩
  have j0 := cellR hb2 i0
  clear i0
  have j2 := cellR hb2 i2
  clear i2
  have y0U := cellR hb2 y0V
  clear y0V
  have y1U := cellR hb2 y1V
  clear y1V
  have zzw2 := bsz (World.block_lt_of_cell? _ _ j0)
  have wra : IntKind.i64.wrap (a + 1) = a + 1 := IntWalk.i64_in _ (by omega)
  have wrz : IntKind.i64.wrap (z + 1) = z + 1 := IntWalk.i64_in _ (by omega)
  go_wp2
  refine wp_region_flowC w2.heap.size [(⟨w.heap.size, 2, none⟩, .slice (some ⟨b, o, none⟩) 2 d), (⟨b, o, none⟩, .int .i64 a), (⟨b, o + 1, none⟩, .int .i64 z)] (by kernel_rfl) (by kernel_rfl) (by first | (intro _ hs; cases hs; done) | (simp only [List.forall_mem_cons]; go_simp)) fun C HC => ?_
  repeat (first | ((first | apply flow_free rfl | (apply flow_yes; (case hw => go_simp))); (intro L w' hun hrd hC; have ⟨hC, hb', hf'⟩ := flO HC hC; (try simp only [List.forall_mem_cons] at hf'); go_simp; first | exact ⟨flS HC hC, rfl⟩ | (rw [if_neg]; (exact ⟨flS HC hC, rfl⟩); omega) | (go_at_call 60; (with_reducible refine (drew_below (l1Num_any (a + 1) _ (by omega) (by omega))).mono ?_); rintro e w1 ⟨rfl, hb1⟩; exact ⟨rfl, (HC.out _ _).2 ((hC.next (by first | (simp; done) | (simp; omega) | omega) hb1).skip _ (by rfl))⟩) | (go_at_call 60; (with_reducible refine (drew_below (l1Num_any (z + 1) _ (by omega) (by omega))).mono ?_); rintro e w1 ⟨rfl, hb1⟩; exact ⟨rfl, (HC.out _ _).2 ((hC.next (by first | (simp; done) | (simp; omega) | omega) hb1).skip _ (by rfl))⟩)); go_simp) | (apply flow_noC HC; (case hw => (go_simp; try (intro hh; cases hh))); go_simp))
  refine flow_nil ?_
  intro L wz hL hz
  have ⟨_, hbz, hcz⟩ := flO HC hz
  try simp only [List.forall_mem_cons] at hcz
  go_wp2
  go_ret
  exact ⟨ret_strs (by simp [Stp.org, cnt, sByAx, sFrom, sAnd, sResL, sWithL, sMerge, sRepl, sAt, sRead, sLeft, sRight, sRem, sRew]), Below.step (Below.step (Below.step hbW hb1) hb2) hbz⟩
 ·obtain ⟨b1, o1, rfl, hx⟩ := ints_atR HA.out (by simp)
  have x0 : w.cell? ⟨b1, o1 + 0, none⟩ = some (.int .i64 x) := hx 0 (by simp)
  obtain ⟨b, o, rfl, hy⟩ := ints_atR HB.out (by simp)
  have y0 : w.cell? ⟨b, o + 0, none⟩ = some (.int .i64 a) := hy 0 (by simp)
  have y1 : w.cell? ⟨b, o + 1, none⟩ = some (.int .i64 z) := hy 1 (by simp)
  have xA := hw a (by simp)
  have lA : (Lib.itoa (a + 1)).length ≤ 20 := cnt_len xA.1 xA.2
  have bZ := hw z (by simp)
  have lZ : (Lib.itoa (z + 1)).length ≤ 20 := cnt_len bZ.1 bZ.2
  have bX := hp x (by simp)
  have lX : (Lib.itoa (x + 1)).length ≤ 20 := cnt_len bX.1 bX.2
  simp only [List.length_cons, List.length_nil, Nat.zero_add] at hc hd ⊢
  clear hp hw hy hx HC HA HB
  rw [Nat.add_zero] at x0 y0
  (try have zb := bsz (World.block_lt_of_cell? _ _ y0))
  (try have zb1 := bsz (World.block_lt_of_cell? _ _ x0))
  go_enter Tryz.func61, Tryz.ntmps61
  go_wp2_with fail
  obtain ⟨W, hW⟩ : ∃ W : World, W = w.alloc (.cells #[.int .i64 3, .slice (some ⟨b1, o1, none⟩) 1 c, .slice (some ⟨b, o, none⟩) 2 d, .slice r cl.length g] 27) := ⟨_, rfl⟩
  have k0 : W.cell? ⟨w.heap.size, 0, none⟩ = some (.int .i64 3) := by rw [hW]; go_simp
  have k1 : W.cell? ⟨w.heap.size, 1, none⟩ = some (.slice (some ⟨b1, o1, none⟩) 1 c) := by rw [hW]; go_simp
  have k2 : W.cell? ⟨w.heap.size, 2, none⟩ = some (.slice (some ⟨b, o, none⟩) 2 d) := by rw [hW]; go_simp
  have k3 : W.cell? ⟨w.heap.size, 3, none⟩ = some (.slice r cl.length g) := by rw [hW]; go_simp
  have HSW := Lib.hid (show W.heap.size = w.heap.size + 1 by rw [hW]; simp)
  have hbW : Below w.heap.size w W := by rw [hW]; exact bel
  rw [← hW]
  clear hW
  have zW := bsz (World.block_lt_of_cell? _ _ k0)
  have x0W := cellR hbW x0
  have y0W := cellR hbW y0
  have y1W := cellR hbW y1
  clear x0 y0 y1
  refine (drew_below (l1Num_any (x + 1) _ (by omega) (by omega))).mono ?_
  rintro e w1 ⟨rfl, hb1⟩
  have i0 := cellR hb1 k0
  clear k0
  have i2 := cellR hb1 k2
  clear k2
  have y0V := cellR hb1 y0W
  clear y0W
  have y1V := cellR hb1 y1W
  clear y1W
  have zzw1 := bsz (World.block_lt_of_cell? _ _ i0)
  have wra : IntKind.i64.wrap (a + 1) = a + 1 := IntWalk.i64_in _ (by omega)
  have wrz : IntKind.i64.wrap (z + 1) = z + 1 := IntWalk.i64_in _ (by omega)
  go_wp2
  refine wp_region_flowC w1.heap.size [(⟨w.heap.size, 2, none⟩, .slice (some ⟨b, o, none⟩) 2 d), (⟨b, o, none⟩, .int .i64 a), (⟨b, o + 1, none⟩, .int .i64 z)] (by kernel_rfl) (by kernel_rfl) (by first | (intro _ hs; cases hs; done) | (simp only [List.forall_mem_cons]; go_simp)) fun C HC => ?_
  repeat (first | ((first | apply flow_free rfl | (apply flow_yes; (case hw => go_simp))); (intro L w' hun hrd hC; have ⟨hC, hb', hf'⟩ := flO HC hC; (try simp only [List.forall_mem_cons] at hf'); go_simp; first | exact ⟨flS HC hC, rfl⟩ | (rw [if_neg]; (exact ⟨flS HC hC, rfl⟩); omega) | (go_at_call 60; (with_reducible refine (drew_below (l1Num_any (a + 1) _ (by omega) (by omega))).mono ?_); rintro e w1 ⟨rfl, hb1⟩; exact ⟨rfl, (HC.out _ _).2 ((hC.next (by first | (simp; done) | (simp; omega) | omega) hb1).skip _ (by rfl))⟩) | (go_at_call 60; (with_reducible refine (drew_below (l1Num_any (z + 1) _ (by omega) (by omega))).mono ?_); rintro e w1 ⟨rfl, hb1⟩; exact ⟨rfl, (HC.out _ _).2 ((hC.next (by first | (simp; done) | (simp; omega) | omega) hb1).skip _ (by rfl))⟩)); go_simp) | (apply flow_noC HC; (case hw => (go_simp; try (intro hh; cases hh))); go_simp))
  refine flow_nil ?_
  intro L wz hL hz
  have ⟨_, hbz, hcz⟩ := flO HC hz
  try simp only [List.forall_mem_cons] at hcz
  go_wp2
  go_ret
  exact ⟨ret_strs (by simp [Stp.org, cnt, sByAx, sFrom, sAnd, sResL, sWithL, sMerge, sRepl, sAt, sRead, sLeft, sRight, sRem, sRew]), Below.step (Below.step hbW hb1) hbz⟩
 ·obtain ⟨b1, o1, rfl, hx⟩ := ints_atR HA.out (by simp)
  have x0 : w.cell? ⟨b1, o1 + 0, none⟩ = some (.int .i64 x) := hx 0 (by simp)
  have x1 : w.cell? ⟨b1, o1 + 1, none⟩ = some (.int .i64 y) := hx 1 (by simp)
  obtain ⟨b, o, rfl, hy⟩ := ints_atR HB.out (by simp)
  have y0 : w.cell? ⟨b, o + 0, none⟩ = some (.int .i64 a) := hy 0 (by simp)
  have y1 : w.cell? ⟨b, o + 1, none⟩ = some (.int .i64 z) := hy 1 (by simp)
  have y2 : w.cell? ⟨b, o + 2, none⟩ = some (.int .i64 t) := hy 2 (by simp)
  have xA := hw a (by simp)
  have lA : (Lib.itoa (a + 1)).length ≤ 20 := cnt_len xA.1 xA.2
  have xT := hw t (by simp)
  have lT : (Lib.itoa (t + 1)).length ≤ 20 := cnt_len xT.1 xT.2
  have bX := hp x (by simp)
  have lX : (Lib.itoa (x + 1)).length ≤ 20 := cnt_len bX.1 bX.2
  have bY := hp y (by simp)
  have lY : (Lib.itoa (y + 1)).length ≤ 20 := cnt_len bY.1 bY.2
  have lpl := posT_len hpl
  have h8 : l.length ≤ 8 := by simp only [posB, Bool.and_eq_true, decide_eq_true_eq] at hpl; exact hpl.1
  have HR := Lib.hid (show IntsAt B w (.slice (some ⟨b, o + 3, none⟩) l.length (d - 3)) l from ListAt.rest HB.out 3 (by simp))
  have HLB := Lib.hid (show ∀ n ∈ l, 0 ≤ n ∧ n ≤ 3 from fun n hn => by have := List.all_eq_true.1 (Bool.and_eq_true_iff.1 hpl).2 n hn; simpa [inB] using this)
  have HL0 := Lib.hid hl0
  have hlp := List.length_pos_iff.2 hl0
  simp only [List.length_cons, List.length_nil, Nat.zero_add] at hc hd ⊢
  have hd3 : ¬ d = 3 := by omega
  have hd3a : (3 : Int) ≤ (l.length : Int) + 1 + 1 + 1 := by omega
  have hd3b : (l.length : Int) + 1 + 1 + 1 ≤ d := by omega
  have hd3c : (0 : Int) < (l.length : Int) + 1 + 1 + 1 := by omega
  have hd3d : (1 : Int) < (l.length : Int) + 1 + 1 + 1 := by omega
  have hd3e : (2 : Int) < (l.length : Int) + 1 + 1 + 1 := by omega
  clear hp hw hy hx HC HA HB hpl hl0
  rw [Nat.add_zero] at x0 y0
  rcases hz with rfl | rfl
  all_goals
   (try have zb := bsz (World.block_lt_of_cell? _ _ y0))
   (try have zb1 := bsz (World.block_lt_of_cell? _ _ x0))
   go_enter Tryz.func61, Tryz.ntmps61
   go_wp2_with fail
   obtain ⟨W, hW⟩ : ∃ W : World, W = w.alloc (.cells #[.int .i64 4, .slice (some ⟨b1, o1, none⟩) 2 c, .slice (some ⟨b, o, none⟩) (l.length + 1 + 1 + 1) d, .slice r cl.length g] 27) := ⟨_, rfl⟩
   have k0 : W.cell? ⟨w.heap.size, 0, none⟩ = some (.int .i64 4) := by rw [hW]; go_simp
   have k1 : W.cell? ⟨w.heap.size, 1, none⟩ = some (.slice (some ⟨b1, o1, none⟩) 2 c) := by rw [hW]; go_simp
   have k2 : W.cell? ⟨w.heap.size, 2, none⟩ = some (.slice (some ⟨b, o, none⟩) (l.length + 1 + 1 + 1) d) := by rw [hW]; go_simp
   have k3 : W.cell? ⟨w.heap.size, 3, none⟩ = some (.slice r cl.length g) := by rw [hW]; go_simp
   have HSW := Lib.hid (show W.heap.size = w.heap.size + 1 by rw [hW]; simp)
   have hbW : Below w.heap.size w W := by rw [hW]; exact bel
   rw [← hW]
   clear hW
   have zW := bsz (World.block_lt_of_cell? _ _ k0)
   have x0W := cellR hbW x0
   have x1W := cellR hbW x1
   have y0W := cellR hbW y0
   have y1W := cellR hbW y1
   have y2W := cellR hbW y2
   clear x0 x1 y0 y1 y2
   refine (drew_below (l1Num_any (x + 1) _ (by omega) (by omega))).mono ?_
   rintro e w1 ⟨rfl, hb1⟩
   have i0 := cellR hb1 k0
   clear k0
   have i1 := cellR hb1 k1
   clear k1
   have i2 := cellR hb1 k2
   clear k2
   have x1V := cellR hb1 x1W
   clear x1W
   have y0V := cellR hb1 y0W
   clear y0W
   have y1V := cellR hb1 y1W
   clear y1W
   have y2V := cellR hb1 y2W
   clear y2W
   have zzw1 := bsz (World.block_lt_of_cell? _ _ i0)
   go_wp2_with fail
   refine (drew_below (l1Num_any (y + 1) _ (by omega) (by omega))).mono ?_
   rintro e w2 ⟨rfl, hb2⟩
   have j0 := cellR hb2 i0
   clear i0
   have j2 := cellR hb2 i2
   clear i2
   have y0U := cellR hb2 y0V
   clear y0V
   have y1U := cellR hb2 y1V
   clear y1V
   have y2U := cellR hb2 y2V
   clear y2V
   have zzw2 := bsz (World.block_lt_of_cell? _ _ j0)
   have hbw2 : Below w.heap.size w w2 := Below.step (Below.step hbW hb1) hb2
   have wra : IntKind.i64.wrap (a + 1) = a + 1 := IntWalk.i64_in _ (by omega)
   have wrt : IntKind.i64.wrap (t + 1) = t + 1 := IntWalk.i64_in _ (by omega)
   go_wp2
   refine wp_region_flowC w2.heap.size [(⟨w.heap.size, 2, none⟩, .slice (some ⟨b, o, none⟩) (l.length + 1 + 1 + 1) d), (⟨b, o, none⟩, .int .i64 a), (⟨b, o + 2, none⟩, .int .i64 t)] (by kernel_rfl) (by kernel_rfl) (by first | (intro _ hs; cases hs; done) | (simp only [List.forall_mem_cons]; go_simp)) fun C HC => ?_
   repeat (first | ((first | apply flow_free rfl | (apply flow_yes; (case hw => go_simp))); (intro L w' hun hrd hC; have ⟨hC, hb', hf'⟩ := flO HC hC; (try simp only [List.forall_mem_cons] at hf'); go_simp; first | exact ⟨flS HC hC, rfl⟩ | (rw [if_neg]; (exact ⟨flS HC hC, rfl⟩); omega) | (go_at_call 60; (with_reducible refine (drew_below (l1Num_any (a + 1) _ (by omega) (by omega))).mono ?_); rintro e w1 ⟨rfl, hb1⟩; exact ⟨rfl, (HC.out _ _).2 ((hC.next (by first | (simp; done) | (simp; omega) | omega) hb1).skip _ (by rfl))⟩) | (go_at_call 60; (with_reducible refine (drew_below (l1Num_any (t + 1) _ (by omega) (by omega))).mono ?_); rintro e w1 ⟨rfl, hb1⟩; exact ⟨rfl, (HC.out _ _).2 ((hC.next (by first | (simp; done) | (simp; omega) | omega) hb1).skip _ (by rfl))⟩) | (go_at_call 93; refine (l3Position_any l _ _ (HR.out.below (Below.step hbw2 hb')) HL0.out HLB.out (by omega)).mono ?_; rintro e w1 ⟨rfl, hb1⟩; exact ⟨rfl, flN HC hC (by first | (simp; done) | (simp; omega) | omega) hb1⟩)); go_simp) | (apply flow_noC HC; (case hw => (go_simp; try (intro hh; cases hh))); go_simp))
   refine flow_nil ?_
   intro L wz hL hz
   have ⟨_, hbz, hcz⟩ := flO HC hz
   try simp only [List.forall_mem_cons] at hcz
   go_wp2
   go_ret
   exact ⟨ret_strs (by simp [Stp.org, cnt, sByAx, sFrom, sAnd, sResL, sWithL, sMerge, sRepl, sAt, sRead, sLeft, sRight, sRem, sRew]), Below.step hbw2 hbz⟩
 ·obtain ⟨b1, o1, rfl, hx⟩ := ints_atR HA.out (by simp)
  have x0 : w.cell? ⟨b1, o1 + 0, none⟩ = some (.int .i64 x) := hx 0 (by simp)
  obtain ⟨b, o, rfl, hy⟩ := ints_atR HB.out (by simp)
  have y0 : w.cell? ⟨b, o + 0, none⟩ = some (.int .i64 a) := hy 0 (by simp)
  have xA := hw a (by simp)
  have lA : (Lib.itoa (a + 1)).length ≤ 20 := cnt_len xA.1 xA.2
  have bX := hp x (by simp)
  have lX : (Lib.itoa (x + 1)).length ≤ 20 := cnt_len bX.1 bX.2
  simp only [List.length_cons, List.length_nil, Nat.zero_add] at hc hd ⊢
  clear hp hw hy hx HC HA HB
  rw [Nat.add_zero] at x0 y0
  (try have zb := bsz (World.block_lt_of_cell? _ _ y0))
  (try have zb1 := bsz (World.block_lt_of_cell? _ _ x0))
  go_enter Tryz.func61, Tryz.ntmps61
  go_wp2_with fail
  obtain ⟨W, hW⟩ : ∃ W : World, W = w.alloc (.cells #[.int .i64 5, .slice (some ⟨b1, o1, none⟩) 1 c, .slice (some ⟨b, o, none⟩) 1 d, .slice r cl.length g] 27) := ⟨_, rfl⟩
  have k0 : W.cell? ⟨w.heap.size, 0, none⟩ = some (.int .i64 5) := by rw [hW]; go_simp
  have k1 : W.cell? ⟨w.heap.size, 1, none⟩ = some (.slice (some ⟨b1, o1, none⟩) 1 c) := by rw [hW]; go_simp
  have k2 : W.cell? ⟨w.heap.size, 2, none⟩ = some (.slice (some ⟨b, o, none⟩) 1 d) := by rw [hW]; go_simp
  have k3 : W.cell? ⟨w.heap.size, 3, none⟩ = some (.slice r cl.length g) := by rw [hW]; go_simp
  have HSW := Lib.hid (show W.heap.size = w.heap.size + 1 by rw [hW]; simp)
  have hbW : Below w.heap.size w W := by rw [hW]; exact bel
  rw [← hW]
  clear hW
  have zW := bsz (World.block_lt_of_cell? _ _ k0)
  have x0W := cellR hbW x0
  have y0W := cellR hbW y0
  clear x0 y0
  refine (drew_below (l1Num_any (x + 1) _ (by omega) (by omega))).mono ?_
  rintro e w1 ⟨rfl, hb1⟩
  have i0 := cellR hb1 k0
  clear k0
  have i2 := cellR hb1 k2
  clear k2
  have y0V := cellR hb1 y0W
  clear y0W
  have zzw1 := bsz (World.block_lt_of_cell? _ _ i0)
  go_wp2_with fail
  refine (drew_below (l1Num_any (a + 1) _ (by omega) (by omega))).mono ?_
  rintro e w2 ⟨rfl, hb2⟩
  go_wp2
  go_ret
  exact ⟨ret_strs (by simp [Stp.org, cnt, sByAx, sFrom, sAnd, sResL, sWithL, sMerge, sRepl, sAt, sRead, sLeft, sRight, sRem, sRew]), by exact bel⟩
 ·obtain ⟨b1, o1, rfl, hx⟩ := ints_atR HA.out (by simp)
  have x0 : w.cell? ⟨b1, o1 + 0, none⟩ = some (.int .i64 x) := hx 0 (by simp)
  have bX := hp x (by simp)
  have lX : (Lib.itoa (x + 1)).length ≤ 20 := cnt_len bX.1 bX.2
  have HLB := Lib.hid (show ∀ n ∈ l, 0 ≤ n ∧ n ≤ 99 from fun n hn => hp n (by simp [hn]))
  have lrw := rewT_len HLB.out hl10
  have HLX := Lib.hid (show ∀ (i : Nat) (hi : i < l.length), w.cell? ⟨b1, o1 + (i + 1), none⟩ = some (.int .i64 l[i]) from fun i hi => hx (i + 1) (by simpa using hi))
  have hlp := List.length_pos_iff.2 hl0
  simp only [List.length_cons, List.length_nil, Nat.zero_add] at hc hd ⊢
  have HT6 := Lib.hid (show Stp.org ⟨6, x :: l, [], cl⟩ = sFrom ++ Lib.itoa (x + 1) ++ sRew ++ joinB sComma (l.map cnt) from rfl)
  clear hp hw hx HC HA HB hl0
  rw [Nat.add_zero] at x0
  have zb1 := bsz (World.block_lt_of_cell? _ _ x0)
  have hq0 : (0 : Int) < (l.length : Int) + 1 := by omega
  go_enter Tryz.func61, Tryz.ntmps61
  go_wp2_with fail
  obtain ⟨W, hW⟩ : ∃ W : World, W = w.alloc (.cells #[.int .i64 6, .slice (some ⟨b1, o1, none⟩) (l.length + 1) c, .slice q 0 d, .slice r cl.length g] 27) := ⟨_, rfl⟩
  have k0 : W.cell? ⟨w.heap.size, 0, none⟩ = some (.int .i64 6) := by rw [hW]; go_simp
  have k1 : W.cell? ⟨w.heap.size, 1, none⟩ = some (.slice (some ⟨b1, o1, none⟩) (l.length + 1) c) := by rw [hW]; go_simp
  have k2 : W.cell? ⟨w.heap.size, 2, none⟩ = some (.slice q 0 d) := by rw [hW]; go_simp
  have k3 : W.cell? ⟨w.heap.size, 3, none⟩ = some (.slice r cl.length g) := by rw [hW]; go_simp
  have HSW := Lib.hid (show W.heap.size = w.heap.size + 1 by rw [hW]; simp)
  have hbW : Below w.heap.size w W := by rw [hW]; exact bel
  rw [← hW]
  clear hW
  have zW := bsz (World.block_lt_of_cell? _ _ k0)
  refine (drew_below (l1Num_any (x + 1) _ (by omega) (by omega))).mono ?_
  rintro e w1 ⟨rfl, hb1⟩
  have i0 := cellR hb1 k0
  have i1 := cellR hb1 k1
  have zz1 := bsz (World.block_lt_of_cell? _ _ i0)
  have hbw1 := Below.step hbW hb1
  have HI1 := Lib.hid i1
  clear k0 k1 k2 k3
  go_wp2
  clear i0 i1 zz1
  go_loopw [3, 5] (fun y i wr => ∃ j : Nat, j ≤ l.length ∧ i = .int .i64 ((j : Int) + 1) ∧ y = .string ⟨(sFrom ++ Lib.itoa (x + 1) ++ sRew ++ accT [] sComma (l.map cnt) j).toArray⟩ ∧ Below w1.heap.size w1 wr) (fun _ i _ => l.length + 1 - (intOf i).toNat)
  case atStart => exact ⟨0, Nat.zero_le _, rfl, congrArg Value.string (by rw [accT_zero]; apply ByteArray.ext; simp [sFrom, sRew]), Below.refl _ _⟩
  case round =>
   obtain ⟨j, hj, rfl, rfl, hb⟩ := hrel
   have hbo := Below.step hbw1 hb
   have i1 := cellR hb HI1.out
   have zr := bsz (World.block_lt_of_cell? _ _ i1)
   have hal := accT_len [] sComma (l.map cnt) j
   simp only [List.length_nil, Nat.zero_add] at hal
   have hsl : (sFrom ++ Lib.itoa (x + 1) ++ sRew ++ accT [] sComma (l.map cnt) j).length ≤ 300 := by simp only [List.length_append, show sFrom.length = 5 from rfl, show sRew.length = 19 from rfl]; omega
   by_cases hlt : j < l.length
   ·have hx0 := cellR hbo (HLX.out j hlt)
    have hxb := HLB.out _ (List.getElem_mem hlt)
    have hgm : (l.map cnt)[j]'(by rw [List.length_map]; exact hlt) = Lib.itoa (l[j] + 1) := List.getElem_map _
    have HS := Lib.hid hgm
    obtain ⟨a, ha⟩ : ∃ a, l[j] = a := ⟨_, rfl⟩
    rw [ha] at hx0 hxb HS
    have zb := bsz (World.block_lt_of_cell? _ _ hx0)
    have lA : (Lib.itoa (a + 1)).length ≤ 20 := cnt_len hxb.1 hxb.2
    have hji : (j : Int) + 1 < (l.length : Int) + 1 := by omega
    have hjt : ((j : Int) + 1).toNat = j + 1 := by omega
    have hj0 : 0 ≤ (j : Int) + 1 := by omega
    clear ha hgm
    by_cases hk0 : j = 0
    ·have HA := Lib.hid (show accT [] sComma (l.map cnt) (j + 1) = [] ++ (l.map cnt)[j]'(by rw [List.length_map]; exact hlt) by subst hk0; exact accT_one [] sComma (l.map cnt) (by rw [List.length_map]; exact hlt))
     have HA0 := Lib.hid (show accT [] sComma (l.map cnt) j = [] by rw [hk0]; rfl)
     have hk1 : ¬ 1 < (j : Int) + 1 := by omega
     generalize hq : sFrom ++ Lib.itoa (x + 1) ++ sRew ++ accT [] sComma (l.map cnt) j = y at *
     have HQ := Lib.hid hq
     clear hk0 hq
     go_wp2_with fail
     refine (drew_below (l1Num_any (a + 1) _ (by omega) (by omega))).mono ?_
     rintro e w2 ⟨rfl, hb2⟩
     go_wp2
     refine ⟨⟨j + 1, by omega, by go_num, ?_, Below.step hb hb2⟩, by simp [intOf]; omega⟩
     rw [HA.out, HS.out, ← HQ.out, HA0.out]
     exact congrArg Value.string (by apply ByteArray.ext; simp)
    ·have HA := Lib.hid (accT_succ [] sComma (l.map cnt) hk0 (by rw [List.length_map]; exact hlt))
     have hk1 : 1 < (j : Int) + 1 := by omega
     generalize hq : sFrom ++ Lib.itoa (x + 1) ++ sRew ++ accT [] sComma (l.map cnt) j = y at *
     have HQ := Lib.hid hq
     clear hk0 hq
     go_wp2_with fail
     refine (drew_below (l1Num_any (a + 1) _ (by omega) (by omega))).mono ?_
     rintro e w2 ⟨rfl, hb2⟩
     go_wp2
     refine ⟨⟨j + 1, by omega, by go_num, ?_, Below.step hb hb2⟩, by simp [intOf]; omega⟩
     rw [HA.out, HS.out, ← HQ.out]
     exact congrArg Value.string (by apply ByteArray.ext; simp [sComma])
   ·obtain rfl : j = l.length := by omega
    have hji : ¬ (l.length : Int) + 1 < (l.length : Int) + 1 := by omega
    have HA := Lib.hid (show accT [] sComma (l.map cnt) l.length = joinB sComma (l.map cnt) by
     have := accT_all [] sComma (l.map cnt) (by rw [List.length_map]; exact hlp)
     rw [List.length_map] at this; exact this)
    generalize hq : sFrom ++ Lib.itoa (x + 1) ++ sRew ++ accT [] sComma (l.map cnt) l.length = y at *
    have HQ := Lib.hid hq
    clear hq
    go_wp2
    go_ret
    exact ⟨ret_str (by rw [HT6.out, ← HQ.out, HA.out]), hbo⟩
set_option maxHeartbeats 1600000 in
theorem l26Step_any {B : Nat → Prop} (m : Nat) (s : Stp) (p q r : Option Addr) (c d g : Nat) (k : Int) (w : World) (h : StpAt B m w s [.int .i64 s.rule, .slice p s.ps.length c, .slice q s.wh.length d, .slice r s.c.length g]) (hn : s.nums = true) (hp : ∀ x ∈ s.ps, 0 ≤ x ∧ x ≤ 99) (hw : ∀ x ∈ s.wh, 0 ≤ x ∧ x ≤ 99) (hc : s.ps.length ≤ c) (hd : s.wh.length ≤ d) (hk : 0 ≤ k ∧ k ≤ 59) (hca : s.c.length ≤ 8 ∧ ∀ l ∈ s.c, l.a.atom = true) (hz : Cls.wts s.c ≤ 1048576) :
  Calls Tryz.prog 31 #[.agg #[.int .i64 s.rule, .slice p s.ps.length c, .slice q s.wh.length d, .slice r s.c.length g], .int .i64 k] w fun e w' => e = .returned (.string ⟨(s.eng k).toArray⟩) ∧ Below w.heap.size w w' := by
 obtain ⟨_, _, _, _, _, _, -, -, -, -, -, -, -, -, -, -, hcl⟩ := h.form
 have H := Lib.hid h
 have HC := Lib.hid hcl
 have HO := Lib.hid (And.intro hn (And.intro hp (And.intro hw (And.intro hc hd))))
 have HCA := Lib.hid hca
 have lo := Stp.org_len hn hp hw
 have lk : (Lib.itoa (k + 1)).length ≤ 20 := cnt_len hk.1 (show k ≤ 99 by omega)
 have le := Cls.eng_len hca.1 hca.2 hz
 have HL := Lib.hid (fun (w' : World) (hw' : Below w.heap.size w w') => l26Clause_any m s.c (.slice r s.c.length g) w' (ClsAt.below hw' HC.out) HCA.out.1 HCA.out.2 hz)
 have HG := Lib.hid (fun (w' : World) (hw' : Below w.heap.size w w') => l26Origin_any m s p q c d (.slice r s.c.length g) w' (H.out.below hw') HO.out.1 HO.out.2.1 HO.out.2.2.1 HO.out.2.2.2.1 HO.out.2.2.2.2)
 clear h hcl hn hp hw hc hd hca
 have wrk : IntKind.i64.wrap (k + 1) = k + 1 := IntWalk.i64_in _ (by omega)
 go_enter Tryz.func31, Tryz.ntmps31
 go_wp2
 obtain ⟨W, hW⟩ : ∃ W : World, W = w.alloc (.cells #[.int .i64 s.rule, .slice p s.ps.length c, .slice q s.wh.length d, .slice r s.c.length g] 27) := ⟨_, rfl⟩
 have k0 : W.cell? ⟨w.heap.size, 0, none⟩ = some (.int .i64 s.rule) := by rw [hW]; go_simp
 have k1 : W.cell? ⟨w.heap.size, 1, none⟩ = some (.slice p s.ps.length c) := by rw [hW]; go_simp
 have k2 : W.cell? ⟨w.heap.size, 2, none⟩ = some (.slice q s.wh.length d) := by rw [hW]; go_simp
 have k3 : W.cell? ⟨w.heap.size, 3, none⟩ = some (.slice r s.c.length g) := by rw [hW]; go_simp
 have HSW := Lib.hid (show W.heap.size = w.heap.size + 1 by rw [hW]; simp)
 have hbW : Below w.heap.size w W := by rw [hW]; exact bel
 rw [← hW]
 clear hW
 have zW := bsz (World.block_lt_of_cell? _ _ k0)
 refine wp_region_flowC W.heap.size [(⟨w.heap.size, 0, none⟩, .int .i64 s.rule), (⟨w.heap.size, 1, none⟩, .slice p s.ps.length c), (⟨w.heap.size, 2, none⟩, .slice q s.wh.length d), (⟨w.heap.size, 3, none⟩, .slice r s.c.length g)] (by kernel_rfl) (by kernel_rfl) (by first | (intro _ hs; cases hs; done) | (simp only [List.forall_mem_cons]; go_simp)) fun C HC => ?_
 repeat (first | ((first | apply flow_free rfl | (apply flow_yes; (case hw => go_simp))); (intro L w' hun hrd hC; have ⟨hC, hb', hf'⟩ := flO HC hC; (try have hw' : Below w.heap.size w w' := by first | exact belT (hb := hb') | exact bel); (try simp only [List.forall_mem_cons] at hf'); go_simp; first | exact ⟨flS HC hC, rfl⟩ | (rw [if_neg]; (exact ⟨flS HC hC, rfl⟩); omega) | (go_at_call 60; refine (drew_below (l1Num_any (k + 1) _ (by omega) (by omega))).mono ?_; rintro e w1 ⟨rfl, hb1⟩; exact ⟨rfl, flN HC hC (by first | (simp; done) | (simp; omega) | omega) hb1⟩) | (go_at_call 61; refine (HG.out _ hw').mono ?_; rintro e w1 ⟨rfl, hb1⟩; exact ⟨rfl, flN HC hC (by first | (simp; done) | (simp; omega) | omega) hb1⟩) | (go_at_call 62; refine (HL.out _ hw').mono ?_; rintro e w1 ⟨rfl, hb1⟩; exact ⟨rfl, flN HC hC (by first | (simp; done) | (simp; omega) | omega) hb1⟩)); go_simp) | (apply flow_noC HC; (case hw => (go_simp; try (intro hh; cases hh))); go_simp))
 refine flow_nil ?_
 intro L wz hL hz
 have ⟨_, hbz, hcz⟩ := flO HC hz
 try simp only [List.forall_mem_cons] at hcz
 go_wp2
 go_ret
 exact ⟨ret_strs (by simp [Stp.eng, cnt, sComma]), Below.step hbW hbz⟩
end Go.Proofs.YtabkdonplmlbcaaGreatDoor
