/- StepToEnglish: the law's walk. Conditions: sizes; tables. -/
import Derived.Test.YtcegllnljaapiaaGreatDoorAste5
import Derived.Test.YtcegllnljaapiaaGreatDoorAste7
import Derived.Test.YtcegllnljaapiaaGreatDoorAste9
namespace Go.Proofs.YtcegllnljaapiaaGreatDoor
open Go.RowKit
theorem all_dropI {l : List Int} (P : Int → Bool) {k : Nat} (h : k < l.length) : (l.drop k).all P = (P l[k] && (l.drop (k + 1)).all P) := by rw [List.drop_eq_getElem_cons h, List.all_cons]
def in03 (n : Int) : Bool := inB n 0 3
theorem posB_eq (l : List Int) : posB l = (l.all in03 && decide (l.length ≤ 8)) := by rw [posB, Bool.and_comm]; rfl
set_option maxRecDepth 100000 in
set_option maxHeartbeats 1600000 in
theorem l13Numbers_any {B : Nat → Prop} (l : List Int) (v : Value) (w : World) (h : IntsAt B w v l) : Calls Tryz.prog 122 #[v] w fun e w' => e = .returned (.bool (l.all in99 && decide (l.length ≤ 12))) ∧ Below w.heap.size w w' := by
  obtain ⟨p, c, rfl, hlen⟩ := h.form
  unfold maxLen at hlen
  have H := Lib.hid h
  clear h
  go_enter Tryz.func122, Tryz.ntmps122
  go_wp2
  go_loopw [3] (fun i wr => ∃ k : Nat, k ≤ l.length ∧ i = .int .i64 k ∧ l.all in99 = (l.drop k).all in99 ∧ Below w.heap.size w wr) (fun i _ => l.length - (intOf i).toNat)
  case atStart => exact ⟨0, Nat.zero_le _, rfl, rfl, by (repeat (first | with_reducible exact Below.refl _ _ | with_reducible assumption | with_reducible refine Below.al ?_ _ | with_reducible refine Below.sc ?_ (by first | exact Nat.le_refl _ | (simp; done) | (simp; omega)) _ | assumption | exact Below.refl _ _ | refine Below.dr ?_ | refine Below.drN ?_ _ | refine Below.step ?_ (by assumption)))⟩
  case round =>
    obtain ⟨k, hk, rfl, he, hb⟩ := hrel
    have HE := Lib.hid he
    clear he
    by_cases hlt : k < l.length
    · obtain ⟨b, o, rfl, hB, hx0, -⟩ := (H.out.below hb).at_ hlt
      have HD := Lib.hid (all_dropI in99 hlt)
      obtain ⟨a, ha⟩ : ∃ a, l[k] = a := ⟨_, rfl⟩
      rw [ha] at hx0 HD
      clear ha
      have zb := bsz (World.block_lt_of_cell? _ _ hx0)
      cases hN : in99 a
      all_goals
        have HN := Lib.hid hN
        go_wp2_with fail
        refine (l1In_any _ _ _ _).mono ?_
        rintro e w' ⟨rfl, rfl⟩
        rw [show inB a 0 _ = _ from HN.out]
        go_wp2
      · go_ret
        exact ⟨ret_bool (by rw [HE.out, HD.out, HN.out]; rfl), hb⟩
      · refine ⟨⟨k + 1, by omega, by go_num, ?_, hb⟩, by simp [intOf]; omega⟩
        rw [HE.out, HD.out, HN.out]; rfl
    · obtain rfl : k = l.length := by omega
      rw [List.drop_length] at HE
      have HE2 := Lib.hid (show l.all in99 = true from HE.out)
      go_wp2
      go_ret
      exact ⟨ret_bool (by rw [HE2.out, Bool.true_and, decide_eq_decide]; omega), hb⟩
set_option maxRecDepth 100000 in
set_option maxHeartbeats 1600000 in
theorem l3Place_any {B : Nat → Prop} (l : List Int) (v : Value) (w : World) (h : IntsAt B w v l) : Calls Tryz.prog 123 #[v] w fun e w' => e = .returned (.bool (l.all in03 && decide (l.length ≤ 8))) ∧ Below w.heap.size w w' := by
  obtain ⟨p, c, rfl, hlen⟩ := h.form
  unfold maxLen at hlen
  have H := Lib.hid h
  clear h
  go_enter Tryz.func123, Tryz.ntmps123
  go_wp2
  go_loopw [3] (fun i wr => ∃ k : Nat, k ≤ l.length ∧ i = .int .i64 k ∧ l.all in03 = (l.drop k).all in03 ∧ Below w.heap.size w wr) (fun i _ => l.length - (intOf i).toNat)
  case atStart => exact ⟨0, Nat.zero_le _, rfl, rfl, by (repeat (first | with_reducible exact Below.refl _ _ | with_reducible assumption | with_reducible refine Below.al ?_ _ | with_reducible refine Below.sc ?_ (by first | exact Nat.le_refl _ | (simp; done) | (simp; omega)) _ | assumption | exact Below.refl _ _ | refine Below.dr ?_ | refine Below.drN ?_ _ | refine Below.step ?_ (by assumption)))⟩
  case round =>
    obtain ⟨k, hk, rfl, he, hb⟩ := hrel
    have HE := Lib.hid he
    clear he
    by_cases hlt : k < l.length
    · obtain ⟨b, o, rfl, hB, hx0, -⟩ := (H.out.below hb).at_ hlt
      have HD := Lib.hid (all_dropI in03 hlt)
      obtain ⟨a, ha⟩ : ∃ a, l[k] = a := ⟨_, rfl⟩
      rw [ha] at hx0 HD
      clear ha
      have zb := bsz (World.block_lt_of_cell? _ _ hx0)
      cases hN : in03 a
      all_goals
        have HN := Lib.hid hN
        go_wp2_with fail
        refine (l1In_any _ _ _ _).mono ?_
        rintro e w' ⟨rfl, rfl⟩
        rw [show inB a 0 _ = _ from HN.out]
        go_wp2
      · go_ret
        exact ⟨ret_bool (by rw [HE.out, HD.out, HN.out]; rfl), hb⟩
      · refine ⟨⟨k + 1, by omega, by go_num, ?_, hb⟩, by simp [intOf]; omega⟩
        rw [HE.out, HD.out, HN.out]; rfl
    · obtain rfl : k = l.length := by omega
      rw [List.drop_length] at HE
      have HE2 := Lib.hid (show l.all in03 = true from HE.out)
      go_wp2
      go_ret
      exact ⟨ret_bool (by rw [HE2.out, Bool.true_and, decide_eq_decide]; omega), hb⟩
theorem cellR {w w' : World} {a : Addr} {v : Value} (hb : Below w.heap.size w w') (h : w.cell? a = some v) : w'.cell? a = some v := (hb.cell (World.block_lt_of_cell? w _ h)).trans h
set_option maxRecDepth 100000 in
set_option maxHeartbeats 6400000 in
theorem l26Shape_any {B : Nat → Prop} (m : Nat) (s : Stp) (p q : Option Addr) (c d : Nat) (v3 : Value) (k : Int) (w : World) (h : StpAt B m w s [.int .i64 s.rule, .slice p s.ps.length c, .slice q s.wh.length d, v3]) (hd : s.wh.length ≤ d) (hk : 0 ≤ k ∧ k ≤ 59) :
    Calls Tryz.prog 49 #[.agg #[.int .i64 s.rule, .slice p s.ps.length c, .slice q s.wh.length d, v3], .int .i64 k] w fun e w' => e = .returned (.bool (s.shape k)) ∧ Below w.heap.size w w' := by
  obtain ⟨_, _, _, _, r, g, -, -, -, rfl, hr, l1, l2, l3, ha, hb, hc⟩ := h.form
  obtain ⟨ru, ps, wh, cl⟩ := s
  simp only at l1 l2 l3 ha hb hc hd hr ⊢
  unfold maxLen at l1 l2 l3
  have HA := Lib.hid ha
  have HB := Lib.hid hb
  have HS := Lib.hid (show Stp.shape ⟨ru, ps, wh, cl⟩ k = (ps.all (fun n => inB n 0 (k - 1)) && (numsB wh || decide (ru = 4)) && Stp.numsR ⟨ru, ps, wh, cl⟩) from rfl)
  clear h ha hb hc
  go_enter Tryz.func49, Tryz.ntmps49
  go_wp2
  obtain ⟨W, hW⟩ : ∃ W : World, W = w.alloc (.cells #[.int .i64 ru, .slice p ps.length c, .slice q wh.length d, .slice r cl.length g] 51) := ⟨_, rfl⟩
  have k0 : W.cell? ⟨w.heap.size, 0, none⟩ = some (.int .i64 ru) := by rw [hW]; go_simp
  have k1 : W.cell? ⟨w.heap.size, 1, none⟩ = some (.slice p ps.length c) := by rw [hW]; go_simp
  have k2 : W.cell? ⟨w.heap.size, 2, none⟩ = some (.slice q wh.length d) := by rw [hW]; go_simp
  have k3 : W.cell? ⟨w.heap.size, 3, none⟩ = some (.slice r cl.length g) := by rw [hW]; go_simp
  have HSW := Lib.hid (show W.heap.size = w.heap.size + 1 by rw [hW]; simp)
  have hbW : Below w.heap.size w W := by rw [hW]; (repeat (first | with_reducible exact Below.refl _ _ | with_reducible assumption | with_reducible refine Below.al ?_ _ | with_reducible refine Below.sc ?_ (by first | exact Nat.le_refl _ | (simp; done) | (simp; omega)) _ | assumption | exact Below.refl _ _ | refine Below.dr ?_ | refine Below.drN ?_ _ | refine Below.step ?_ (by assumption)))
  rw [← hW]
  clear hW
  have zW := bsz (World.block_lt_of_cell? _ _ k0)
  obtain ⟨C, HC0⟩ := class_of (InF W.heap.size _ [(⟨w.heap.size, 0, none⟩, .int .i64 ru), (⟨w.heap.size, 1, none⟩, .slice p ps.length c), (⟨w.heap.size, 2, none⟩, .slice q wh.length d)] [] [])
  have HC := Lib.hid HC0
  clear HC0
  refine wp_region_flow (C := C) (by kernel_rfl) (by kernel_rfl) (fun L hL => (HC.out _ _).2 (InF.start (by first | (intro _ hs; cases hs; done) | (simp only [List.forall_mem_cons]; go_simp)) (by first | (intro _ hs; cases hs; done) | (simp only [List.forall_mem_cons]; go_simp)) (by first | (intro _ hs; cases hs; done) | (simp only [List.forall_mem_cons]; go_simp)) (by first | (intro _ hs; cases hs; done) | (simp only [List.forall_mem_cons]; go_simp)) L hL)) ?_
  repeat (first | (apply flow_free rfl; (intro L w' hun hrd hC; have hC := (HC.out _ _).1 hC; have hb' := hC.below; (try have hw' : Below w.heap.size w w' := by first | exact Below.trans (by (repeat (first | with_reducible exact Below.refl _ _ | with_reducible assumption | with_reducible refine Below.al ?_ _ | with_reducible refine Below.sc ?_ (by first | exact Nat.le_refl _ | (simp; done) | (simp; omega)) _ | assumption | exact Below.refl _ _ | refine Below.dr ?_ | refine Below.drN ?_ _ | refine Below.step ?_ (by assumption)))) hb' | ((repeat (first | with_reducible exact Below.refl _ _ | with_reducible assumption | with_reducible refine Below.al ?_ _ | with_reducible refine Below.sc ?_ (by first | exact Nat.le_refl _ | (simp; done) | (simp; omega)) _ | assumption | exact Below.refl _ _ | refine Below.dr ?_ | refine Below.drN ?_ _ | refine Below.step ?_ (by assumption))); done)); have hf' := hC.cell; (try simp only [List.forall_mem_cons] at hf'); go_simp; first | exact ⟨(HC.out _ _).2 (hC.skip _ (by rfl)), rfl⟩ | (rw [if_neg]; (exact ⟨(HC.out _ _).2 (hC.skip _ (by rfl)), rfl⟩); omega) | fail); go_simp) | (apply flow_yes; (case hw => go_simp); (intro L w' hun hrd hC; have hC := (HC.out _ _).1 hC; have hb' := hC.below; (try have hw' : Below w.heap.size w w' := by first | exact Below.trans (by (repeat (first | with_reducible exact Below.refl _ _ | with_reducible assumption | with_reducible refine Below.al ?_ _ | with_reducible refine Below.sc ?_ (by first | exact Nat.le_refl _ | (simp; done) | (simp; omega)) _ | assumption | exact Below.refl _ _ | refine Below.dr ?_ | refine Below.drN ?_ _ | refine Below.step ?_ (by assumption)))) hb' | ((repeat (first | with_reducible exact Below.refl _ _ | with_reducible assumption | with_reducible refine Below.al ?_ _ | with_reducible refine Below.sc ?_ (by first | exact Nat.le_refl _ | (simp; done) | (simp; omega)) _ | assumption | exact Below.refl _ _ | refine Below.dr ?_ | refine Below.drN ?_ _ | refine Below.step ?_ (by assumption))); done)); have hf' := hC.cell; (try simp only [List.forall_mem_cons] at hf'); go_simp; first | exact ⟨(HC.out _ _).2 (hC.skip _ (by rfl)), rfl⟩ | (rw [if_neg]; (exact ⟨(HC.out _ _).2 (hC.skip _ (by rfl)), rfl⟩); omega) | fail); go_simp) | (apply flow_no; (case hw => (go_simp; try (intro hh; cases hh))); (intro L w' _ _ hC; exact (HC.out _ _).2 (((HC.out _ _).1 hC).skip _ (by rfl))); go_simp))
  refine flow_nil ?_
  intro L wz hL hz
  have hz := (HC.out _ _).1 hz
  have hbz := hz.below
  have hcz := hz.cell
  try simp only [List.forall_mem_cons] at hcz
  have hdz := hz.done
  try simp only [List.forall_mem_cons] at hdz
  (try have hwz : Below w.heap.size w wz := by first | exact Below.trans (by (repeat (first | with_reducible exact Below.refl _ _ | with_reducible assumption | with_reducible refine Below.al ?_ _ | with_reducible refine Below.sc ?_ (by first | exact Nat.le_refl _ | (simp; done) | (simp; omega)) _ | assumption | exact Below.refl _ _ | refine Below.dr ?_ | refine Below.drN ?_ _ | refine Below.step ?_ (by assumption)))) hbz | ((repeat (first | with_reducible exact Below.refl _ _ | with_reducible assumption | with_reducible refine Below.al ?_ _ | with_reducible refine Below.sc ?_ (by first | exact Nat.le_refl _ | (simp; done) | (simp; omega)) _ | assumption | exact Below.refl _ _ | refine Below.dr ?_ | refine Below.drN ?_ _ | refine Below.step ?_ (by assumption))); done))
  have k0' := cellR hbz k0
  have k1' := cellR hbz k1
  have k2' := cellR hbz k2
  have hbw := Below.step hbW hbz
  have HKZ := Lib.hid (And.intro k0' (And.intro k1' k2'))
  clear k0 k1 k2 k3 hcz k0' k1' k2'
  go_wp2
  go_loopw [7] (fun i wr => ∃ j : Nat, j ≤ ps.length ∧ i = .int .i64 j ∧ ps.all (fun n => inB n 0 (k - 1)) = (ps.drop j).all (fun n => inB n 0 (k - 1)) ∧ Below wz.heap.size wz wr) (fun i _ => ps.length - (intOf i).toNat)
  case atStart => exact ⟨0, Nat.zero_le _, rfl, rfl, Below.refl _ _⟩
  case round =>
    obtain ⟨j, hj, rfl, he, hbr⟩ := hrel
    have HEE := Lib.hid he
    have hbo := Below.step hbw hbr
    have k0 := cellR hbr HKZ.out.1
    have k1 := cellR hbr HKZ.out.2.1
    have k2 := cellR hbr HKZ.out.2.2
    have zr := bsz (World.block_lt_of_cell? _ _ k0)
    clear he
    by_cases hlt : j < ps.length
    · obtain ⟨b, o, rfl, hB, hx0, -⟩ := (HA.out.below hbo).at_ hlt
      have HD := Lib.hid (all_dropI (fun n => inB n 0 (k - 1)) hlt)
      obtain ⟨a, ha⟩ : ∃ a, ps[j] = a := ⟨_, rfl⟩
      rw [ha] at hx0 HD
      clear ha
      have zb := bsz (World.block_lt_of_cell? _ _ hx0)
      cases hN : inB a 0 (k - 1)
      all_goals
        have HN := Lib.hid hN
        go_wp2_with fail
        refine (l1In_any _ _ _ _).mono ?_
        rintro e w' ⟨rfl, rfl⟩
        rw [HN.out]
        go_wp2
      · go_ret
        exact ⟨ret_bool (by rw [HS.out, HEE.out, HD.out, HN.out]; rfl), by (repeat (first | with_reducible exact Below.refl _ _ | with_reducible assumption | with_reducible refine Below.al ?_ _ | with_reducible refine Below.sc ?_ (by first | exact Nat.le_refl _ | (simp; done) | (simp; omega)) _ | assumption | exact Below.refl _ _ | refine Below.dr ?_ | refine Below.drN ?_ _ | refine Below.step ?_ (by assumption)))⟩
      · refine ⟨⟨j + 1, by omega, by go_num, ?_, hbr⟩, by simp [intOf]; omega⟩
        rw [HEE.out, HD.out, HN.out]; rfl
    · obtain rfl : j = ps.length := by omega
      rw [List.drop_length] at HEE
      have HS2 := Lib.hid (show Stp.shape ⟨ru, ps, wh, cl⟩ k = ((numsB wh || decide (ru = 4)) && Stp.numsR ⟨ru, ps, wh, cl⟩) by rw [HS.out, HEE.out]; rfl)
      go_wp2_with fail
      refine (l13Numbers_any wh _ _ (HB.out.below hbo)).mono ?_
      rintro e w3 ⟨rfl, hb3⟩
      rw [show (wh.all in99 && decide (wh.length ≤ 12)) = numsB wh from rfl]
      have i0 := cellR hb3 k0
      have i1 := cellR hb3 k1
      have i2 := cellR hb3 k2
      have z3 := bsz (World.block_lt_of_cell? _ _ i0)
      have hbo3 := Below.step hbo hb3
      clear k0 k1 k2
      by_cases r4 : ru = 4
      · subst r4
        have HN0 := Lib.hid (show Stp.shape ⟨4, ps, wh, cl⟩ k = Stp.numsR ⟨4, ps, wh, cl⟩ by rw [HS2.out]; simp)
        cases numsB wh
        all_goals
          by_cases p2 : ps.length = 2
          case neg =>
            have HN := Lib.hid (show Stp.numsR ⟨4, ps, wh, cl⟩ = false by simp [Stp.numsR, p2])
            have p2i : ((ps.length : Int) == 2) = false := by rw [beq_eq_false_iff_ne]; omega
            go_wp2
            go_ret
            exact ⟨ret_bool (by rw [HN0.out, HN.out]), by (repeat (first | with_reducible exact Below.refl _ _ | with_reducible assumption | with_reducible refine Below.al ?_ _ | with_reducible refine Below.sc ?_ (by first | exact Nat.le_refl _ | (simp; done) | (simp; omega)) _ | assumption | exact Below.refl _ _ | refine Below.dr ?_ | refine Below.drN ?_ _ | refine Below.step ?_ (by assumption)))⟩
          have p2i : ((ps.length : Int) == 2) = true := by rw [beq_iff_eq]; omega
          by_cases w3 : 3 < wh.length
          case neg =>
            have HN := Lib.hid (show Stp.numsR ⟨4, ps, wh, cl⟩ = false by simp [Stp.numsR, w3])
            have w3i : ¬ (3 : Int) < wh.length := by omega
            go_wp2
            go_ret
            exact ⟨ret_bool (by rw [HN0.out, HN.out]), by (repeat (first | with_reducible exact Below.refl _ _ | with_reducible assumption | with_reducible refine Below.al ?_ _ | with_reducible refine Below.sc ?_ (by first | exact Nat.le_refl _ | (simp; done) | (simp; omega)) _ | assumption | exact Below.refl _ _ | refine Below.dr ?_ | refine Below.drN ?_ _ | refine Below.step ?_ (by assumption)))⟩
          have w3i : (3 : Int) < wh.length := by omega
          have HN := Lib.hid (show Stp.numsR ⟨4, ps, wh, cl⟩ = (in99 (wh.getD 0 0) && inB (wh.getD 1 0) 0 1 && in99 (wh.getD 2 0) && posB (wh.drop 3)) by simp [Stp.numsR, p2, w3])
          have hB2 := HB.out.below hbo3
          obtain ⟨b, o, rfl, -, hx0, -⟩ := hB2.at_ (show 0 < wh.length by omega)
          obtain ⟨b', o', he', -, hx1, -⟩ := hB2.at_ (show 1 < wh.length by omega)
          simp only [Option.some.injEq, Addr.mk.injEq, and_true] at he'
          obtain ⟨rfl, rfl⟩ := he'
          obtain ⟨b', o', he', -, hx2, -⟩ := hB2.at_ (show 2 < wh.length by omega)
          simp only [Option.some.injEq, Addr.mk.injEq, and_true] at he'
          obtain ⟨rfl, rfl⟩ := he'
          have HG := Lib.hid (show wh.getD 0 0 = wh[0] ∧ wh.getD 1 0 = wh[1] ∧ wh.getD 2 0 = wh[2] by refine ⟨?_, ?_, ?_⟩ <;> (rw [List.getD_eq_getElem?_getD, List.getElem?_eq_getElem (by omega)]; rfl))
          obtain ⟨a0, hae0⟩ : ∃ a, wh[0] = a := ⟨_, rfl⟩
          obtain ⟨a1, hae1⟩ : ∃ a, wh[1] = a := ⟨_, rfl⟩
          obtain ⟨a2, hae2⟩ : ∃ a, wh[2] = a := ⟨_, rfl⟩
          rw [hae0] at hx0 HG
          rw [hae1] at hx1 HG
          rw [hae2] at hx2 HG
          rw [Nat.add_zero] at hx0
          have HR := Lib.hid (ListAt.rest HB.out 3 (n' := wh.length - 3) (c' := d - 3) rfl)
          have zb := bsz (World.block_lt_of_cell? _ _ hx1)
          have hd3 : ¬ d = 3 := by omega
          have hd3a : (3 : Int) ≤ wh.length := by omega
          have hd3b : (wh.length : Int) ≤ d := by omega
          have hw0 : (0 : Int) < wh.length := by omega
          have hw1 : (1 : Int) < wh.length := by omega
          have hw2 : (2 : Int) < wh.length := by omega
          clear hae0 hae1 hae2 p2 w3 hB2
          go_wp2_with fail
          refine (l1In_any _ _ _ _).mono ?_
          rintro e w' ⟨rfl, rfl⟩
          rw [show inB a0 0 99 = in99 a0 from rfl]
          cases q0 : in99 a0
          case false =>
            have Q0 := Lib.hid q0
            clear q0
            go_wp2
            go_ret
            exact ⟨ret_bool (by rw [HN0.out, HN.out, HG.out.1, Q0.out]; rfl), by (repeat (first | with_reducible exact Below.refl _ _ | with_reducible assumption | with_reducible refine Below.al ?_ _ | with_reducible refine Below.sc ?_ (by first | exact Nat.le_refl _ | (simp; done) | (simp; omega)) _ | assumption | exact Below.refl _ _ | refine Below.dr ?_ | refine Below.drN ?_ _ | refine Below.step ?_ (by assumption)))⟩
          have Q0 := Lib.hid q0
          clear q0
          go_wp2_with fail
          refine (l1In_any _ _ _ _).mono ?_
          rintro e w' ⟨rfl, rfl⟩
          cases q1 : inB a1 0 1
          case false =>
            have Q1 := Lib.hid q1
            clear q1
            go_wp2
            go_ret
            exact ⟨ret_bool (by rw [HN0.out, HN.out, HG.out.2.1, Q1.out]; simp), by (repeat (first | with_reducible exact Below.refl _ _ | with_reducible assumption | with_reducible refine Below.al ?_ _ | with_reducible refine Below.sc ?_ (by first | exact Nat.le_refl _ | (simp; done) | (simp; omega)) _ | assumption | exact Below.refl _ _ | refine Below.dr ?_ | refine Below.drN ?_ _ | refine Below.step ?_ (by assumption)))⟩
          have Q1 := Lib.hid q1
          clear q1
          go_wp2_with fail
          refine (l1In_any _ _ _ _).mono ?_
          rintro e w' ⟨rfl, rfl⟩
          rw [show inB a2 0 99 = in99 a2 from rfl]
          cases q2 : in99 a2
          case false =>
            have Q2 := Lib.hid q2
            clear q2
            go_wp2
            go_ret
            exact ⟨ret_bool (by rw [HN0.out, HN.out, HG.out.2.2, Q2.out]; simp), by (repeat (first | with_reducible exact Below.refl _ _ | with_reducible assumption | with_reducible refine Below.al ?_ _ | with_reducible refine Below.sc ?_ (by first | exact Nat.le_refl _ | (simp; done) | (simp; omega)) _ | assumption | exact Below.refl _ _ | refine Below.dr ?_ | refine Below.drN ?_ _ | refine Below.step ?_ (by assumption)))⟩
          have Q2 := Lib.hid q2
          clear q2
          go_wp2_with fail
          refine (l3Place_any (wh.drop 3) _ _ ((show IntsAt B w _ (wh.drop 3) from HR.out).below (by (repeat (first | with_reducible exact Below.refl _ _ | with_reducible assumption | with_reducible refine Below.al ?_ _ | with_reducible refine Below.sc ?_ (by first | exact Nat.le_refl _ | (simp; done) | (simp; omega)) _ | assumption | exact Below.refl _ _ | refine Below.dr ?_ | refine Below.drN ?_ _ | refine Below.step ?_ (by assumption)))))).mono ?_
          rintro e w5 ⟨rfl, hb5⟩
          go_wp2
          go_ret
          exact ⟨ret_bool (by rw [HN0.out, HN.out, HG.out.1, HG.out.2.1, HG.out.2.2, Q0.out, Q1.out, Q2.out, posB_eq, show decide ((wh.drop 3).length ≤ 8) = decide (wh.length ≤ 11) by rw [List.length_drop, decide_eq_decide]; omega]; simp), by (repeat (first | with_reducible exact Below.refl _ _ | with_reducible assumption | with_reducible refine Below.al ?_ _ | with_reducible refine Below.sc ?_ (by first | exact Nat.le_refl _ | (simp; done) | (simp; omega)) _ | assumption | exact Below.refl _ _ | refine Below.dr ?_ | refine Below.drN ?_ _ | refine Below.step ?_ (by assumption)))⟩
      · have r4i : (ru != 4) = true := by simp [r4]
        cases hnb : numsB wh
        · have HN := Lib.hid (show Stp.shape ⟨ru, ps, wh, cl⟩ k = false by rw [HS2.out, hnb, decide_eq_false r4]; rfl)
          clear hnb
          go_wp2
          go_ret
          exact ⟨ret_bool (by rw [HN.out]), by (repeat (first | with_reducible exact Below.refl _ _ | with_reducible assumption | with_reducible refine Below.al ?_ _ | with_reducible refine Below.sc ?_ (by first | exact Nat.le_refl _ | (simp; done) | (simp; omega)) _ | assumption | exact Below.refl _ _ | refine Below.dr ?_ | refine Below.drN ?_ _ | refine Below.step ?_ (by assumption)))⟩
        have HN0 := Lib.hid (show Stp.shape ⟨ru, ps, wh, cl⟩ k = Stp.numsR ⟨ru, ps, wh, cl⟩ by rw [HS2.out, hnb]; rfl)
        clear hnb
        by_cases r1 : ru = 1
        · subst r1
          go_wp2
          all_goals (go_ret; exact ⟨ret_bool (by rw [HN0.out]; simp_all [Stp.numsR, beqN1] <;> (intros; omega)), by (repeat (first | with_reducible exact Below.refl _ _ | with_reducible assumption | with_reducible refine Below.al ?_ _ | with_reducible refine Below.sc ?_ (by first | exact Nat.le_refl _ | (simp; done) | (simp; omega)) _ | assumption | exact Below.refl _ _ | refine Below.dr ?_ | refine Below.drN ?_ _ | refine Below.step ?_ (by assumption)))⟩)
        by_cases r2 : ru = 2
        · subst r2
          go_wp2
          all_goals (go_ret; exact ⟨ret_bool (by rw [HN0.out]; simp_all [Stp.numsR, beqN2] <;> (intros; omega)), by (repeat (first | with_reducible exact Below.refl _ _ | with_reducible assumption | with_reducible refine Below.al ?_ _ | with_reducible refine Below.sc ?_ (by first | exact Nat.le_refl _ | (simp; done) | (simp; omega)) _ | assumption | exact Below.refl _ _ | refine Below.dr ?_ | refine Below.drN ?_ _ | refine Below.step ?_ (by assumption)))⟩)
        by_cases r3 : ru = 3
        · subst r3
          go_wp2
          all_goals (go_ret; exact ⟨ret_bool (by rw [HN0.out]; simp_all [Stp.numsR, beqN2] <;> (intros; omega)), by (repeat (first | with_reducible exact Below.refl _ _ | with_reducible assumption | with_reducible refine Below.al ?_ _ | with_reducible refine Below.sc ?_ (by first | exact Nat.le_refl _ | (simp; done) | (simp; omega)) _ | assumption | exact Below.refl _ _ | refine Below.dr ?_ | refine Below.drN ?_ _ | refine Below.step ?_ (by assumption)))⟩)
        by_cases r5 : ru = 5
        · subst r5
          go_wp2
          all_goals (go_ret; exact ⟨ret_bool (by rw [HN0.out]; simp_all [Stp.numsR, beqN1] <;> (intros; omega)), by (repeat (first | with_reducible exact Below.refl _ _ | with_reducible assumption | with_reducible refine Below.al ?_ _ | with_reducible refine Below.sc ?_ (by first | exact Nat.le_refl _ | (simp; done) | (simp; omega)) _ | assumption | exact Below.refl _ _ | refine Below.dr ?_ | refine Below.drN ?_ _ | refine Below.step ?_ (by assumption)))⟩)
        by_cases r6 : ru = 6
        · subst r6
          go_wp2_with (first | (go_at_call 48; refine (l1In_any _ _ _ _).mono ?_; rintro e w' ⟨rfl, rfl⟩))
          all_goals (go_ret; exact ⟨ret_bool (by rw [HN0.out]; simp_all [Stp.numsR, inB, beqN0, leN2, leN11] <;> (intros; omega)), by (repeat (first | with_reducible exact Below.refl _ _ | with_reducible assumption | with_reducible refine Below.al ?_ _ | with_reducible refine Below.sc ?_ (by first | exact Nat.le_refl _ | (simp; done) | (simp; omega)) _ | assumption | exact Below.refl _ _ | refine Below.dr ?_ | refine Below.drN ?_ _ | refine Below.step ?_ (by assumption)))⟩)
        have e1 : (ru == 1) = false := by simp [r1]
        have e2 : (ru == 2) = false := by simp [r2]
        have e3 : (ru == 3) = false := by simp [r3]
        have e4 : (ru == 4) = false := by simp [r4]
        have e5 : (ru == 5) = false := by simp [r5]
        have e6 : (ru == 6) = false := by simp [r6]
        have HN := Lib.hid (show Stp.numsR ⟨ru, ps, wh, cl⟩ = false by simp [Stp.numsR, r1, r2, r3, r4, r5, r6])
        clear r1 r2 r3 r4 r5 r6
        go_wp2
        go_ret
        exact ⟨ret_bool (by rw [HN0.out, HN.out]), by (repeat (first | with_reducible exact Below.refl _ _ | with_reducible assumption | with_reducible refine Below.al ?_ _ | with_reducible refine Below.sc ?_ (by first | exact Nat.le_refl _ | (simp; done) | (simp; omega)) _ | assumption | exact Below.refl _ _ | refine Below.dr ?_ | refine Below.drN ?_ _ | refine Below.step ?_ (by assumption)))⟩
end Go.Proofs.YtcegllnljaapiaaGreatDoor
namespace Go.Proofs.YtcegllnljaapiaaGreatDoor
open Go.RowKit
theorem itoa_ne4 {n : Int} (h0 : 0 ≤ n) (h1 : n ≤ 3) : Lib.itoa n ≠ [] := by
  have h4 : (Lib.itoa 0 == []) = false ∧ (Lib.itoa 1 == []) = false ∧ (Lib.itoa 2 == []) = false ∧ (Lib.itoa 3 == []) = false := by refine ⟨?_, ?_, ?_, ?_⟩ <;> kernel_rfl
  simp only [beq_eq_false_iff_ne] at h4
  rcases (by omega : n = 0 ∨ n = 1 ∨ n = 2 ∨ n = 3) with rfl | rfl | rfl | rfl
  · exact h4.1
  · exact h4.2.1
  · exact h4.2.2.1
  · exact h4.2.2.2
theorem posT_ne {l : List Int} (h0 : l ≠ []) (h : ∀ x ∈ l, 0 ≤ x ∧ x ≤ 3) : joinB [46] (l.map Lib.itoa) ≠ [] := by
  intro e
  cases l with
  | nil => exact h0 rfl
  | cons a l =>
    have h1 := joinB_mem (sep := [46]) (l := (a :: l).map Lib.itoa) (a := Lib.itoa a) (by simp)
    rw [e] at h1
    have h2 := h a (by simp)
    exact itoa_ne4 h2.1 h2.2 (List.eq_nil_of_length_eq_zero (by simpa using h1))
/-- The first cells of a list in memory. -/
theorem ints_atR {B : Nat → Prop} {w : World} {p : Option Addr} {n c : Nat} {us : List Int} (h : IntsAt B w (.slice p n c) us) (h0 : 0 < us.length) : ∃ b o, p = some ⟨b, o, none⟩ ∧ ∀ (i : Nat) (hi : i < us.length), w.cell? ⟨b, o + i, none⟩ = some (.int .i64 us[i]) := by
  obtain ⟨b, o, rfl, -, -⟩ := h.at_ h0
  refine ⟨b, o, rfl, fun i hi => ?_⟩
  obtain ⟨b', o', he, -, hx, -⟩ := h.at_ hi
  simp only [Option.some.injEq, Addr.mk.injEq, and_true] at he
  obtain ⟨rfl, rfl⟩ := he
  exact hx
set_option maxRecDepth 100000 in
set_option maxHeartbeats 1600000 in
theorem l3Position_any {B : Nat → Prop} (us : List Int) (v : Value) (w : World) (h : IntsAt B w v us) (h0 : us ≠ []) (hx : ∀ x ∈ us, 0 ≤ x ∧ x ≤ 3) (hl : us.length ≤ 8) :
    Calls Tryz.prog 191 #[v] w fun e w' => e = .returned (.string ⟨(posT us).toArray⟩) ∧ Below w.heap.size w w' := by
  obtain ⟨p, c, rfl, -⟩ := h.form
  have H := Lib.hid h
  have HX := Lib.hid hx
  have HP := Lib.hid (show posT us = joinB [46] (us.map Lib.itoa) from if_neg h0)
  have HNE := Lib.hid (posT_ne h0 hx)
  have hpos := List.length_pos_iff.2 h0
  have hjl : (joinB [46] (us.map Lib.itoa)).length ≤ 168 := by
    have := joinB_bd (sep := [46]) 20 (us.map Lib.itoa) (fun x hx' => by
      obtain ⟨y, hy, rfl⟩ := List.mem_map.1 hx'
      have h2 := hx y hy
      exact itoa_len y (by omega) (by omega))
    rw [List.length_map] at this
    simp only [List.length_cons, List.length_nil] at this
    omega
  clear h hx h0
  go_enter Tryz.func191, Tryz.ntmps191
  go_wp2
  go_loopw [3, 4] (fun x i wr => ∃ k : Nat, k ≤ us.length ∧ i = .int .i64 k ∧ x = .string ⟨(accT [] [46] (us.map Lib.itoa) k).toArray⟩ ∧ Below w.heap.size w wr) (fun _ i _ => us.length - (intOf i).toNat)
  case atStart => exact ⟨0, Nat.zero_le _, rfl, by rw [accT_zero], by (repeat (first | with_reducible exact Below.refl _ _ | with_reducible assumption | with_reducible refine Below.al ?_ _ | with_reducible refine Below.sc ?_ (by first | exact Nat.le_refl _ | (simp; done) | (simp; omega)) _ | assumption | exact Below.refl _ _ | refine Below.dr ?_ | refine Below.drN ?_ _ | refine Below.step ?_ (by assumption)))⟩
  case round =>
    obtain ⟨k, hk, rfl, rfl, hb⟩ := hrel
    have hal := accT_len [] [46] (us.map Lib.itoa) k
    simp only [List.length_nil, Nat.zero_add] at hal
    by_cases hlt : k < us.length
    · obtain ⟨b, o, rfl, hB, hx0, -⟩ := (H.out.below hb).at_ hlt
      have hxb := HX.out _ (List.getElem_mem hlt)
      have hgm : (us.map Lib.itoa)[k]'(by rw [List.length_map]; exact hlt) = Lib.itoa us[k] := List.getElem_map _
      have hme := joinB_mem (sep := [46]) (List.getElem_mem (l := us.map Lib.itoa) (n := k) (by rw [List.length_map]; exact hlt))
      have HS := Lib.hid hgm
      rw [hgm] at hme
      obtain ⟨a, ha⟩ : ∃ a, us[k] = a := ⟨_, rfl⟩
      rw [ha] at hx0 hxb HS hme
      have zb := bsz (World.block_lt_of_cell? _ _ hx0)
      clear ha hgm
      by_cases hk0 : k = 0
      · have HA := Lib.hid (show accT [] [46] (us.map Lib.itoa) (k + 1) = [] ++ (us.map Lib.itoa)[k]'(by rw [List.length_map]; exact hlt) by subst hk0; exact accT_one [] [46] (us.map Lib.itoa) (by rw [List.length_map]; exact hlt))
        have HA0 := Lib.hid (show accT [] [46] (us.map Lib.itoa) k = [] by rw [hk0]; rfl)
        have hk1 : ¬ 0 < (k : Int) := by omega
        generalize hq : accT [] [46] (us.map Lib.itoa) k = x at *
        clear hk0
        go_wp2_with fail
        refine (drew_below (l1Num_any a _ (by omega) (by omega))).mono ?_
        rintro e w2 ⟨rfl, hb2⟩
        go_wp2
        refine ⟨⟨k + 1, by omega, by go_num, ?_, Below.step hb hb2⟩, by simp [intOf]; omega⟩
        rw [HA.out, HS.out, HA0.out]
        exact congrArg Value.string (by apply ByteArray.ext; simp)
      · have HA := Lib.hid (accT_succ [] [46] (us.map Lib.itoa) hk0 (by rw [List.length_map]; exact hlt))
        have hk1 : 0 < (k : Int) := by omega
        generalize hq : accT [] [46] (us.map Lib.itoa) k = x at *
        clear hk0
        go_wp2_with fail
        refine (drew_below (l1Num_any a _ (by omega) (by omega))).mono ?_
        rintro e w2 ⟨rfl, hb2⟩
        go_wp2
        refine ⟨⟨k + 1, by omega, by go_num, ?_, Below.step hb hb2⟩, by simp [intOf]; omega⟩
        rw [HA.out, HS.out]
        exact congrArg Value.string (by apply ByteArray.ext; simp)
    · obtain rfl : k = us.length := by omega
      have HA := Lib.hid (show accT [] [46] (us.map Lib.itoa) us.length = joinB [46] (us.map Lib.itoa) by
        have := accT_all [] [46] (us.map Lib.itoa) (by rw [List.length_map]; exact hpos)
        rw [List.length_map] at this; exact this)
      have hne : ((accT [] [46] (us.map Lib.itoa) us.length) == []) = false := by rw [HA.out, beq_eq_false_iff_ne]; exact HNE.out
      have hne2 : ¬ (accT [] [46] (us.map Lib.itoa) us.length) = [] := by rw [HA.out]; exact HNE.out
      generalize accT [] [46] (us.map Lib.itoa) us.length = x at *
      go_wp2
      go_ret
      exact ⟨ret_str (by rw [HP.out, HA.out]), hb⟩
set_option maxRecDepth 100000 in
set_option maxHeartbeats 6400000 in
theorem l26Origin_any {B : Nat → Prop} (m : Nat) (s : Stp) (p q : Option Addr) (c d : Nat) (v3 : Value) (w : World) (h : StpAt B m w s [.int .i64 s.rule, .slice p s.ps.length c, .slice q s.wh.length d, v3]) (hg : s.nums = true) (hp : ∀ x ∈ s.ps, 0 ≤ x ∧ x ≤ 99) (hw : ∀ x ∈ s.wh, 0 ≤ x ∧ x ≤ 99) (hc : s.ps.length ≤ c) (hd : s.wh.length ≤ d) :
    Calls Tryz.prog 127 #[.agg #[.int .i64 s.rule, .slice p s.ps.length c, .slice q s.wh.length d, v3]] w fun e w' => e = .returned (.string ⟨s.org.toArray⟩) ∧ Below w.heap.size w w' := by
  obtain ⟨_, _, _, _, r, g, -, -, -, rfl, hr, l1, l2, l3, ha, hb, hcl⟩ := h.form
  have HC := Lib.hid (Stp.nums_cases hg)
  obtain ⟨ru, ps, wh, cl⟩ := s
  simp only at l1 l2 l3 ha hb hc hd hr HC hp hw ⊢
  have HA := Lib.hid ha
  have HB := Lib.hid hb
  clear h ha hb hcl hg l1 l2 l3 hr
  rcases HC.out with ⟨rfl, rfl, a, rfl⟩ | ⟨rfl, ⟨x, y, rfl⟩, a, z, rfl⟩ | ⟨rfl, ⟨x, rfl⟩, a, z, rfl⟩ | ⟨rfl, ⟨x, y, rfl⟩, a, z, t, l, rfl, hl0, hz, hpl⟩ | ⟨rfl, ⟨x, rfl⟩, a, rfl⟩ | ⟨rfl, ⟨x, l, rfl, hl0, hl10⟩, rfl⟩
  · obtain ⟨b, o, rfl, hy⟩ := ints_atR HB.out (by simp)
    have y0 : w.cell? ⟨b, o + 0, none⟩ = some (.int .i64 a) := hy 0 (by simp)
    have bA := hw a (by simp)
    have lA : (Lib.itoa (a + 1)).length ≤ 20 := cnt_len bA.1 bA.2
    simp only [List.length_cons, List.length_nil, Nat.zero_add] at hc hd ⊢
    clear hp hw hy HC HA HB
    rw [Nat.add_zero] at y0
    (try have zb := bsz (World.block_lt_of_cell? _ _ y0))
    (try have zb1 := bsz (World.block_lt_of_cell? _ _ x0))
    go_enter Tryz.func127, Tryz.ntmps127
    go_wp2_with fail
    obtain ⟨W, hW⟩ : ∃ W : World, W = w.alloc (.cells #[.int .i64 1, .slice p 0 c, .slice (some ⟨b, o, none⟩) 1 d, .slice r cl.length g] 51) := ⟨_, rfl⟩
    have k0 : W.cell? ⟨w.heap.size, 0, none⟩ = some (.int .i64 1) := by rw [hW]; go_simp
    have k1 : W.cell? ⟨w.heap.size, 1, none⟩ = some (.slice p 0 c) := by rw [hW]; go_simp
    have k2 : W.cell? ⟨w.heap.size, 2, none⟩ = some (.slice (some ⟨b, o, none⟩) 1 d) := by rw [hW]; go_simp
    have k3 : W.cell? ⟨w.heap.size, 3, none⟩ = some (.slice r cl.length g) := by rw [hW]; go_simp
    have HSW := Lib.hid (show W.heap.size = w.heap.size + 1 by rw [hW]; simp)
    have hbW : Below w.heap.size w W := by rw [hW]; (repeat (first | with_reducible exact Below.refl _ _ | with_reducible assumption | with_reducible refine Below.al ?_ _ | with_reducible refine Below.sc ?_ (by first | exact Nat.le_refl _ | (simp; done) | (simp; omega)) _ | assumption | exact Below.refl _ _ | refine Below.dr ?_ | refine Below.drN ?_ _ | refine Below.step ?_ (by assumption)))
    rw [← hW]
    clear hW
    have zW := bsz (World.block_lt_of_cell? _ _ k0)
    refine (drew_below (l1Num_any (a + 1) _ (by omega) (by omega))).mono ?_
    rintro e w1 ⟨rfl, hb1⟩
    go_wp2
    go_ret
    exact ⟨ret_strs (by simp [Stp.org, cnt, sByAx]), by (repeat (first | with_reducible exact Below.refl _ _ | with_reducible assumption | with_reducible refine Below.al ?_ _ | with_reducible refine Below.sc ?_ (by first | exact Nat.le_refl _ | (simp; done) | (simp; omega)) _ | assumption | exact Below.refl _ _ | refine Below.dr ?_ | refine Below.drN ?_ _ | refine Below.step ?_ (by assumption)))⟩
  · obtain ⟨b1, o1, rfl, hx⟩ := ints_atR HA.out (by simp)
    have x0 : w.cell? ⟨b1, o1 + 0, none⟩ = some (.int .i64 x) := hx 0 (by simp)
    have x1 : w.cell? ⟨b1, o1 + 1, none⟩ = some (.int .i64 y) := hx 1 (by simp)
    obtain ⟨b, o, rfl, hy⟩ := ints_atR HB.out (by simp)
    have y0 : w.cell? ⟨b, o + 0, none⟩ = some (.int .i64 a) := hy 0 (by simp)
    have y1 : w.cell? ⟨b, o + 1, none⟩ = some (.int .i64 z) := hy 1 (by simp)
    have bA := hw a (by simp)
    have lA : (Lib.itoa (a + 1)).length ≤ 20 := cnt_len bA.1 bA.2
    have bZ := hw z (by simp)
    have lZ : (Lib.itoa (z + 1)).length ≤ 20 := cnt_len bZ.1 bZ.2
    have bX := hp x (by simp)
    have lX : (Lib.itoa (x + 1)).length ≤ 20 := cnt_len bX.1 bX.2
    have bY := hp y (by simp)
    have lY : (Lib.itoa (y + 1)).length ≤ 20 := cnt_len bY.1 bY.2
    simp only [List.length_cons, List.length_nil, Nat.zero_add] at hc hd ⊢
    clear hp hw hy hx HC HA HB
    rw [Nat.add_zero] at x0 y0
    (try have zb := bsz (World.block_lt_of_cell? _ _ y0))
    (try have zb1 := bsz (World.block_lt_of_cell? _ _ x0))
    go_enter Tryz.func127, Tryz.ntmps127
    go_wp2_with fail
    obtain ⟨W, hW⟩ : ∃ W : World, W = w.alloc (.cells #[.int .i64 2, .slice (some ⟨b1, o1, none⟩) 2 c, .slice (some ⟨b, o, none⟩) 2 d, .slice r cl.length g] 51) := ⟨_, rfl⟩
    have k0 : W.cell? ⟨w.heap.size, 0, none⟩ = some (.int .i64 2) := by rw [hW]; go_simp
    have k1 : W.cell? ⟨w.heap.size, 1, none⟩ = some (.slice (some ⟨b1, o1, none⟩) 2 c) := by rw [hW]; go_simp
    have k2 : W.cell? ⟨w.heap.size, 2, none⟩ = some (.slice (some ⟨b, o, none⟩) 2 d) := by rw [hW]; go_simp
    have k3 : W.cell? ⟨w.heap.size, 3, none⟩ = some (.slice r cl.length g) := by rw [hW]; go_simp
    have HSW := Lib.hid (show W.heap.size = w.heap.size + 1 by rw [hW]; simp)
    have hbW : Below w.heap.size w W := by rw [hW]; (repeat (first | with_reducible exact Below.refl _ _ | with_reducible assumption | with_reducible refine Below.al ?_ _ | with_reducible refine Below.sc ?_ (by first | exact Nat.le_refl _ | (simp; done) | (simp; omega)) _ | assumption | exact Below.refl _ _ | refine Below.dr ?_ | refine Below.drN ?_ _ | refine Below.step ?_ (by assumption)))
    rw [← hW]
    clear hW
    have zW := bsz (World.block_lt_of_cell? _ _ k0)
    have x0W := cellR hbW x0
    have x1W := cellR hbW x1
    have y0W := cellR hbW y0
    have y1W := cellR hbW y1
    clear x0 x1 y0 y1
    refine (drew_below (l1Num_any (x + 1) _ (by omega) (by omega))).mono ?_
    rintro e w1 ⟨rfl, hb1⟩
    have i0 := cellR hb1 k0
    clear k0
    have i1 := cellR hb1 k1
    clear k1
    have i2 := cellR hb1 k2
    clear k2
    have x1V := cellR hb1 x1W
    clear x1W
    have y0V := cellR hb1 y0W
    clear y0W
    have y1V := cellR hb1 y1W
    clear y1W
    have zzw1 := bsz (World.block_lt_of_cell? _ _ i0)
    go_wp2_with fail
    refine (drew_below (l1Num_any (y + 1) _ (by omega) (by omega))).mono ?_
    rintro e w2 ⟨rfl, hb2⟩
    have j0 := cellR hb2 i0
    clear i0
    have j2 := cellR hb2 i2
    clear i2
    have y0U := cellR hb2 y0V
    clear y0V
    have y1U := cellR hb2 y1V
    clear y1V
    have zzw2 := bsz (World.block_lt_of_cell? _ _ j0)
    have wra : IntKind.i64.wrap (a + 1) = a + 1 := IntWalk.i64_in _ (by omega)
    have wrz : IntKind.i64.wrap (z + 1) = z + 1 := IntWalk.i64_in _ (by omega)
    go_wp2
    obtain ⟨C, HC0⟩ := class_of (InF w2.heap.size _ [(⟨w.heap.size, 2, none⟩, .slice (some ⟨b, o, none⟩) 2 d), (⟨b, o, none⟩, .int .i64 a), (⟨b, o + 1, none⟩, .int .i64 z)] [] [])
    have HC := Lib.hid HC0
    clear HC0
    refine wp_region_flow (C := C) (by kernel_rfl) (by kernel_rfl) (fun L hL => (HC.out _ _).2 (InF.start (by first | (intro _ hs; cases hs; done) | (simp only [List.forall_mem_cons]; go_simp)) (by first | (intro _ hs; cases hs; done) | (simp only [List.forall_mem_cons]; go_simp)) (by first | (intro _ hs; cases hs; done) | (simp only [List.forall_mem_cons]; go_simp)) (by first | (intro _ hs; cases hs; done) | (simp only [List.forall_mem_cons]; go_simp)) L hL)) ?_
    repeat (first | (apply flow_free rfl; (intro L w' hun hrd hC; have hC := (HC.out _ _).1 hC; have hb' := hC.below; (try have hw' : Below w.heap.size w w' := by first | exact Below.trans (by (repeat (first | with_reducible exact Below.refl _ _ | with_reducible assumption | with_reducible refine Below.al ?_ _ | with_reducible refine Below.sc ?_ (by first | exact Nat.le_refl _ | (simp; done) | (simp; omega)) _ | assumption | exact Below.refl _ _ | refine Below.dr ?_ | refine Below.drN ?_ _ | refine Below.step ?_ (by assumption)))) hb' | ((repeat (first | with_reducible exact Below.refl _ _ | with_reducible assumption | with_reducible refine Below.al ?_ _ | with_reducible refine Below.sc ?_ (by first | exact Nat.le_refl _ | (simp; done) | (simp; omega)) _ | assumption | exact Below.refl _ _ | refine Below.dr ?_ | refine Below.drN ?_ _ | refine Below.step ?_ (by assumption))); done)); have hf' := hC.cell; (try simp only [List.forall_mem_cons] at hf'); go_simp; first | exact ⟨(HC.out _ _).2 (hC.skip _ (by rfl)), rfl⟩ | (rw [if_neg]; (exact ⟨(HC.out _ _).2 (hC.skip _ (by rfl)), rfl⟩); omega) | (go_at_call 126; (with_reducible refine (drew_below (l1Num_any (a + 1) _ (by omega) (by omega))).mono ?_); rintro e w1 ⟨rfl, hb1⟩; exact ⟨rfl, (HC.out _ _).2 ((hC.next (by first | (simp; done) | (simp; omega) | omega) hb1).skip _ (by rfl))⟩) | (go_at_call 126; (with_reducible refine (drew_below (l1Num_any (z + 1) _ (by omega) (by omega))).mono ?_); rintro e w1 ⟨rfl, hb1⟩; exact ⟨rfl, (HC.out _ _).2 ((hC.next (by first | (simp; done) | (simp; omega) | omega) hb1).skip _ (by rfl))⟩)); go_simp) | (apply flow_yes; (case hw => go_simp); (intro L w' hun hrd hC; have hC := (HC.out _ _).1 hC; have hb' := hC.below; (try have hw' : Below w.heap.size w w' := by first | exact Below.trans (by (repeat (first | with_reducible exact Below.refl _ _ | with_reducible assumption | with_reducible refine Below.al ?_ _ | with_reducible refine Below.sc ?_ (by first | exact Nat.le_refl _ | (simp; done) | (simp; omega)) _ | assumption | exact Below.refl _ _ | refine Below.dr ?_ | refine Below.drN ?_ _ | refine Below.step ?_ (by assumption)))) hb' | ((repeat (first | with_reducible exact Below.refl _ _ | with_reducible assumption | with_reducible refine Below.al ?_ _ | with_reducible refine Below.sc ?_ (by first | exact Nat.le_refl _ | (simp; done) | (simp; omega)) _ | assumption | exact Below.refl _ _ | refine Below.dr ?_ | refine Below.drN ?_ _ | refine Below.step ?_ (by assumption))); done)); have hf' := hC.cell; (try simp only [List.forall_mem_cons] at hf'); go_simp; first | exact ⟨(HC.out _ _).2 (hC.skip _ (by rfl)), rfl⟩ | (rw [if_neg]; (exact ⟨(HC.out _ _).2 (hC.skip _ (by rfl)), rfl⟩); omega) | (go_at_call 126; (with_reducible refine (drew_below (l1Num_any (a + 1) _ (by omega) (by omega))).mono ?_); rintro e w1 ⟨rfl, hb1⟩; exact ⟨rfl, (HC.out _ _).2 ((hC.next (by first | (simp; done) | (simp; omega) | omega) hb1).skip _ (by rfl))⟩) | (go_at_call 126; (with_reducible refine (drew_below (l1Num_any (z + 1) _ (by omega) (by omega))).mono ?_); rintro e w1 ⟨rfl, hb1⟩; exact ⟨rfl, (HC.out _ _).2 ((hC.next (by first | (simp; done) | (simp; omega) | omega) hb1).skip _ (by rfl))⟩)); go_simp) | (apply flow_no; (case hw => (go_simp; try (intro hh; cases hh))); (intro L w' _ _ hC; exact (HC.out _ _).2 (((HC.out _ _).1 hC).skip _ (by rfl))); go_simp))
    refine flow_nil ?_
    intro L wz hL hz
    have hz := (HC.out _ _).1 hz
    have hbz := hz.below
    have hcz := hz.cell
    try simp only [List.forall_mem_cons] at hcz
    have hdz := hz.done
    try simp only [List.forall_mem_cons] at hdz
    (try have hwz : Below w.heap.size w wz := by first | exact Below.trans (by (repeat (first | with_reducible exact Below.refl _ _ | with_reducible assumption | with_reducible refine Below.al ?_ _ | with_reducible refine Below.sc ?_ (by first | exact Nat.le_refl _ | (simp; done) | (simp; omega)) _ | assumption | exact Below.refl _ _ | refine Below.dr ?_ | refine Below.drN ?_ _ | refine Below.step ?_ (by assumption)))) hbz | ((repeat (first | with_reducible exact Below.refl _ _ | with_reducible assumption | with_reducible refine Below.al ?_ _ | with_reducible refine Below.sc ?_ (by first | exact Nat.le_refl _ | (simp; done) | (simp; omega)) _ | assumption | exact Below.refl _ _ | refine Below.dr ?_ | refine Below.drN ?_ _ | refine Below.step ?_ (by assumption))); done))
    go_wp2
    go_ret
    exact ⟨ret_strs (by simp [Stp.org, cnt, sFrom, sAnd, sResL, sWithL]), Below.step (Below.step (Below.step hbW hb1) hb2) hbz⟩
  · obtain ⟨b1, o1, rfl, hx⟩ := ints_atR HA.out (by simp)
    have x0 : w.cell? ⟨b1, o1 + 0, none⟩ = some (.int .i64 x) := hx 0 (by simp)
    obtain ⟨b, o, rfl, hy⟩ := ints_atR HB.out (by simp)
    have y0 : w.cell? ⟨b, o + 0, none⟩ = some (.int .i64 a) := hy 0 (by simp)
    have y1 : w.cell? ⟨b, o + 1, none⟩ = some (.int .i64 z) := hy 1 (by simp)
    have bA := hw a (by simp)
    have lA : (Lib.itoa (a + 1)).length ≤ 20 := cnt_len bA.1 bA.2
    have bZ := hw z (by simp)
    have lZ : (Lib.itoa (z + 1)).length ≤ 20 := cnt_len bZ.1 bZ.2
    have bX := hp x (by simp)
    have lX : (Lib.itoa (x + 1)).length ≤ 20 := cnt_len bX.1 bX.2
    simp only [List.length_cons, List.length_nil, Nat.zero_add] at hc hd ⊢
    clear hp hw hy hx HC HA HB
    rw [Nat.add_zero] at x0 y0
    (try have zb := bsz (World.block_lt_of_cell? _ _ y0))
    (try have zb1 := bsz (World.block_lt_of_cell? _ _ x0))
    go_enter Tryz.func127, Tryz.ntmps127
    go_wp2_with fail
    obtain ⟨W, hW⟩ : ∃ W : World, W = w.alloc (.cells #[.int .i64 3, .slice (some ⟨b1, o1, none⟩) 1 c, .slice (some ⟨b, o, none⟩) 2 d, .slice r cl.length g] 51) := ⟨_, rfl⟩
    have k0 : W.cell? ⟨w.heap.size, 0, none⟩ = some (.int .i64 3) := by rw [hW]; go_simp
    have k1 : W.cell? ⟨w.heap.size, 1, none⟩ = some (.slice (some ⟨b1, o1, none⟩) 1 c) := by rw [hW]; go_simp
    have k2 : W.cell? ⟨w.heap.size, 2, none⟩ = some (.slice (some ⟨b, o, none⟩) 2 d) := by rw [hW]; go_simp
    have k3 : W.cell? ⟨w.heap.size, 3, none⟩ = some (.slice r cl.length g) := by rw [hW]; go_simp
    have HSW := Lib.hid (show W.heap.size = w.heap.size + 1 by rw [hW]; simp)
    have hbW : Below w.heap.size w W := by rw [hW]; (repeat (first | with_reducible exact Below.refl _ _ | with_reducible assumption | with_reducible refine Below.al ?_ _ | with_reducible refine Below.sc ?_ (by first | exact Nat.le_refl _ | (simp; done) | (simp; omega)) _ | assumption | exact Below.refl _ _ | refine Below.dr ?_ | refine Below.drN ?_ _ | refine Below.step ?_ (by assumption)))
    rw [← hW]
    clear hW
    have zW := bsz (World.block_lt_of_cell? _ _ k0)
    have x0W := cellR hbW x0
    have y0W := cellR hbW y0
    have y1W := cellR hbW y1
    clear x0 y0 y1
    refine (drew_below (l1Num_any (x + 1) _ (by omega) (by omega))).mono ?_
    rintro e w1 ⟨rfl, hb1⟩
    have i0 := cellR hb1 k0
    clear k0
    have i2 := cellR hb1 k2
    clear k2
    have y0V := cellR hb1 y0W
    clear y0W
    have y1V := cellR hb1 y1W
    clear y1W
    have zzw1 := bsz (World.block_lt_of_cell? _ _ i0)
    have wra : IntKind.i64.wrap (a + 1) = a + 1 := IntWalk.i64_in _ (by omega)
    have wrz : IntKind.i64.wrap (z + 1) = z + 1 := IntWalk.i64_in _ (by omega)
    go_wp2
    obtain ⟨C, HC0⟩ := class_of (InF w1.heap.size _ [(⟨w.heap.size, 2, none⟩, .slice (some ⟨b, o, none⟩) 2 d), (⟨b, o, none⟩, .int .i64 a), (⟨b, o + 1, none⟩, .int .i64 z)] [] [])
    have HC := Lib.hid HC0
    clear HC0
    refine wp_region_flow (C := C) (by kernel_rfl) (by kernel_rfl) (fun L hL => (HC.out _ _).2 (InF.start (by first | (intro _ hs; cases hs; done) | (simp only [List.forall_mem_cons]; go_simp)) (by first | (intro _ hs; cases hs; done) | (simp only [List.forall_mem_cons]; go_simp)) (by first | (intro _ hs; cases hs; done) | (simp only [List.forall_mem_cons]; go_simp)) (by first | (intro _ hs; cases hs; done) | (simp only [List.forall_mem_cons]; go_simp)) L hL)) ?_
    repeat (first | (apply flow_free rfl; (intro L w' hun hrd hC; have hC := (HC.out _ _).1 hC; have hb' := hC.below; (try have hw' : Below w.heap.size w w' := by first | exact Below.trans (by (repeat (first | with_reducible exact Below.refl _ _ | with_reducible assumption | with_reducible refine Below.al ?_ _ | with_reducible refine Below.sc ?_ (by first | exact Nat.le_refl _ | (simp; done) | (simp; omega)) _ | assumption | exact Below.refl _ _ | refine Below.dr ?_ | refine Below.drN ?_ _ | refine Below.step ?_ (by assumption)))) hb' | ((repeat (first | with_reducible exact Below.refl _ _ | with_reducible assumption | with_reducible refine Below.al ?_ _ | with_reducible refine Below.sc ?_ (by first | exact Nat.le_refl _ | (simp; done) | (simp; omega)) _ | assumption | exact Below.refl _ _ | refine Below.dr ?_ | refine Below.drN ?_ _ | refine Below.step ?_ (by assumption))); done)); have hf' := hC.cell; (try simp only [List.forall_mem_cons] at hf'); go_simp; first | exact ⟨(HC.out _ _).2 (hC.skip _ (by rfl)), rfl⟩ | (rw [if_neg]; (exact ⟨(HC.out _ _).2 (hC.skip _ (by rfl)), rfl⟩); omega) | (go_at_call 126; (with_reducible refine (drew_below (l1Num_any (a + 1) _ (by omega) (by omega))).mono ?_); rintro e w1 ⟨rfl, hb1⟩; exact ⟨rfl, (HC.out _ _).2 ((hC.next (by first | (simp; done) | (simp; omega) | omega) hb1).skip _ (by rfl))⟩) | (go_at_call 126; (with_reducible refine (drew_below (l1Num_any (z + 1) _ (by omega) (by omega))).mono ?_); rintro e w1 ⟨rfl, hb1⟩; exact ⟨rfl, (HC.out _ _).2 ((hC.next (by first | (simp; done) | (simp; omega) | omega) hb1).skip _ (by rfl))⟩)); go_simp) | (apply flow_yes; (case hw => go_simp); (intro L w' hun hrd hC; have hC := (HC.out _ _).1 hC; have hb' := hC.below; (try have hw' : Below w.heap.size w w' := by first | exact Below.trans (by (repeat (first | with_reducible exact Below.refl _ _ | with_reducible assumption | with_reducible refine Below.al ?_ _ | with_reducible refine Below.sc ?_ (by first | exact Nat.le_refl _ | (simp; done) | (simp; omega)) _ | assumption | exact Below.refl _ _ | refine Below.dr ?_ | refine Below.drN ?_ _ | refine Below.step ?_ (by assumption)))) hb' | ((repeat (first | with_reducible exact Below.refl _ _ | with_reducible assumption | with_reducible refine Below.al ?_ _ | with_reducible refine Below.sc ?_ (by first | exact Nat.le_refl _ | (simp; done) | (simp; omega)) _ | assumption | exact Below.refl _ _ | refine Below.dr ?_ | refine Below.drN ?_ _ | refine Below.step ?_ (by assumption))); done)); have hf' := hC.cell; (try simp only [List.forall_mem_cons] at hf'); go_simp; first | exact ⟨(HC.out _ _).2 (hC.skip _ (by rfl)), rfl⟩ | (rw [if_neg]; (exact ⟨(HC.out _ _).2 (hC.skip _ (by rfl)), rfl⟩); omega) | (go_at_call 126; (with_reducible refine (drew_below (l1Num_any (a + 1) _ (by omega) (by omega))).mono ?_); rintro e w1 ⟨rfl, hb1⟩; exact ⟨rfl, (HC.out _ _).2 ((hC.next (by first | (simp; done) | (simp; omega) | omega) hb1).skip _ (by rfl))⟩) | (go_at_call 126; (with_reducible refine (drew_below (l1Num_any (z + 1) _ (by omega) (by omega))).mono ?_); rintro e w1 ⟨rfl, hb1⟩; exact ⟨rfl, (HC.out _ _).2 ((hC.next (by first | (simp; done) | (simp; omega) | omega) hb1).skip _ (by rfl))⟩)); go_simp) | (apply flow_no; (case hw => (go_simp; try (intro hh; cases hh))); (intro L w' _ _ hC; exact (HC.out _ _).2 (((HC.out _ _).1 hC).skip _ (by rfl))); go_simp))
    refine flow_nil ?_
    intro L wz hL hz
    have hz := (HC.out _ _).1 hz
    have hbz := hz.below
    have hcz := hz.cell
    try simp only [List.forall_mem_cons] at hcz
    have hdz := hz.done
    try simp only [List.forall_mem_cons] at hdz
    (try have hwz : Below w.heap.size w wz := by first | exact Below.trans (by (repeat (first | with_reducible exact Below.refl _ _ | with_reducible assumption | with_reducible refine Below.al ?_ _ | with_reducible refine Below.sc ?_ (by first | exact Nat.le_refl _ | (simp; done) | (simp; omega)) _ | assumption | exact Below.refl _ _ | refine Below.dr ?_ | refine Below.drN ?_ _ | refine Below.step ?_ (by assumption)))) hbz | ((repeat (first | with_reducible exact Below.refl _ _ | with_reducible assumption | with_reducible refine Below.al ?_ _ | with_reducible refine Below.sc ?_ (by first | exact Nat.le_refl _ | (simp; done) | (simp; omega)) _ | assumption | exact Below.refl _ _ | refine Below.dr ?_ | refine Below.drN ?_ _ | refine Below.step ?_ (by assumption))); done))
    go_wp2
    go_ret
    exact ⟨ret_strs (by simp [Stp.org, cnt, sFrom, sAnd, sMerge]), Below.step (Below.step hbW hb1) hbz⟩
  · obtain ⟨b1, o1, rfl, hx⟩ := ints_atR HA.out (by simp)
    have x0 : w.cell? ⟨b1, o1 + 0, none⟩ = some (.int .i64 x) := hx 0 (by simp)
    have x1 : w.cell? ⟨b1, o1 + 1, none⟩ = some (.int .i64 y) := hx 1 (by simp)
    obtain ⟨b, o, rfl, hy⟩ := ints_atR HB.out (by simp)
    have y0 : w.cell? ⟨b, o + 0, none⟩ = some (.int .i64 a) := hy 0 (by simp)
    have y1 : w.cell? ⟨b, o + 1, none⟩ = some (.int .i64 z) := hy 1 (by simp)
    have y2 : w.cell? ⟨b, o + 2, none⟩ = some (.int .i64 t) := hy 2 (by simp)
    have bA := hw a (by simp)
    have lA : (Lib.itoa (a + 1)).length ≤ 20 := cnt_len bA.1 bA.2
    have bT := hw t (by simp)
    have lT : (Lib.itoa (t + 1)).length ≤ 20 := cnt_len bT.1 bT.2
    have bX := hp x (by simp)
    have lX : (Lib.itoa (x + 1)).length ≤ 20 := cnt_len bX.1 bX.2
    have bY := hp y (by simp)
    have lY : (Lib.itoa (y + 1)).length ≤ 20 := cnt_len bY.1 bY.2
    have lpl := posT_len hpl
    have h8 : l.length ≤ 8 := by simp only [posB, Bool.and_eq_true, decide_eq_true_eq] at hpl; exact hpl.1
    have HR := Lib.hid (show IntsAt B w (.slice (some ⟨b, o + 3, none⟩) l.length (d - 3)) l from ListAt.rest HB.out 3 (by simp))
    have HLB := Lib.hid (show ∀ n ∈ l, 0 ≤ n ∧ n ≤ 3 from fun n hn => by have := List.all_eq_true.1 (Bool.and_eq_true_iff.1 hpl).2 n hn; simpa [inB] using this)
    have HL0 := Lib.hid hl0
    have hlp := List.length_pos_iff.2 hl0
    simp only [List.length_cons, List.length_nil, Nat.zero_add] at hc hd ⊢
    have hd3 : ¬ d = 3 := by omega
    have hd3a : (3 : Int) ≤ (l.length : Int) + 1 + 1 + 1 := by omega
    have hd3b : (l.length : Int) + 1 + 1 + 1 ≤ d := by omega
    have hd3c : (0 : Int) < (l.length : Int) + 1 + 1 + 1 := by omega
    have hd3d : (1 : Int) < (l.length : Int) + 1 + 1 + 1 := by omega
    have hd3e : (2 : Int) < (l.length : Int) + 1 + 1 + 1 := by omega
    clear hp hw hy hx HC HA HB hpl hl0
    rw [Nat.add_zero] at x0 y0
    rcases hz with rfl | rfl
    all_goals
      (try have zb := bsz (World.block_lt_of_cell? _ _ y0))
      (try have zb1 := bsz (World.block_lt_of_cell? _ _ x0))
      go_enter Tryz.func127, Tryz.ntmps127
      go_wp2_with fail
      obtain ⟨W, hW⟩ : ∃ W : World, W = w.alloc (.cells #[.int .i64 4, .slice (some ⟨b1, o1, none⟩) 2 c, .slice (some ⟨b, o, none⟩) (l.length + 1 + 1 + 1) d, .slice r cl.length g] 51) := ⟨_, rfl⟩
      have k0 : W.cell? ⟨w.heap.size, 0, none⟩ = some (.int .i64 4) := by rw [hW]; go_simp
      have k1 : W.cell? ⟨w.heap.size, 1, none⟩ = some (.slice (some ⟨b1, o1, none⟩) 2 c) := by rw [hW]; go_simp
      have k2 : W.cell? ⟨w.heap.size, 2, none⟩ = some (.slice (some ⟨b, o, none⟩) (l.length + 1 + 1 + 1) d) := by rw [hW]; go_simp
      have k3 : W.cell? ⟨w.heap.size, 3, none⟩ = some (.slice r cl.length g) := by rw [hW]; go_simp
      have HSW := Lib.hid (show W.heap.size = w.heap.size + 1 by rw [hW]; simp)
      have hbW : Below w.heap.size w W := by rw [hW]; (repeat (first | with_reducible exact Below.refl _ _ | with_reducible assumption | with_reducible refine Below.al ?_ _ | with_reducible refine Below.sc ?_ (by first | exact Nat.le_refl _ | (simp; done) | (simp; omega)) _ | assumption | exact Below.refl _ _ | refine Below.dr ?_ | refine Below.drN ?_ _ | refine Below.step ?_ (by assumption)))
      rw [← hW]
      clear hW
      have zW := bsz (World.block_lt_of_cell? _ _ k0)
      have x0W := cellR hbW x0
      have x1W := cellR hbW x1
      have y0W := cellR hbW y0
      have y1W := cellR hbW y1
      have y2W := cellR hbW y2
      clear x0 x1 y0 y1 y2
      refine (drew_below (l1Num_any (x + 1) _ (by omega) (by omega))).mono ?_
      rintro e w1 ⟨rfl, hb1⟩
      have i0 := cellR hb1 k0
      clear k0
      have i1 := cellR hb1 k1
      clear k1
      have i2 := cellR hb1 k2
      clear k2
      have x1V := cellR hb1 x1W
      clear x1W
      have y0V := cellR hb1 y0W
      clear y0W
      have y1V := cellR hb1 y1W
      clear y1W
      have y2V := cellR hb1 y2W
      clear y2W
      have zzw1 := bsz (World.block_lt_of_cell? _ _ i0)
      go_wp2_with fail
      refine (drew_below (l1Num_any (y + 1) _ (by omega) (by omega))).mono ?_
      rintro e w2 ⟨rfl, hb2⟩
      have j0 := cellR hb2 i0
      clear i0
      have j2 := cellR hb2 i2
      clear i2
      have y0U := cellR hb2 y0V
      clear y0V
      have y1U := cellR hb2 y1V
      clear y1V
      have y2U := cellR hb2 y2V
      clear y2V
      have zzw2 := bsz (World.block_lt_of_cell? _ _ j0)
      have hbw2 : Below w.heap.size w w2 := Below.step (Below.step hbW hb1) hb2
      have wra : IntKind.i64.wrap (a + 1) = a + 1 := IntWalk.i64_in _ (by omega)
      have wrt : IntKind.i64.wrap (t + 1) = t + 1 := IntWalk.i64_in _ (by omega)
      go_wp2
      obtain ⟨C, HC0⟩ := class_of (InF w2.heap.size _ [(⟨w.heap.size, 2, none⟩, .slice (some ⟨b, o, none⟩) (l.length + 1 + 1 + 1) d), (⟨b, o, none⟩, .int .i64 a), (⟨b, o + 2, none⟩, .int .i64 t)] [] [])
      have HC := Lib.hid HC0
      clear HC0
      refine wp_region_flow (C := C) (by kernel_rfl) (by kernel_rfl) (fun L hL => (HC.out _ _).2 (InF.start (by first | (intro _ hs; cases hs; done) | (simp only [List.forall_mem_cons]; go_simp)) (by first | (intro _ hs; cases hs; done) | (simp only [List.forall_mem_cons]; go_simp)) (by first | (intro _ hs; cases hs; done) | (simp only [List.forall_mem_cons]; go_simp)) (by first | (intro _ hs; cases hs; done) | (simp only [List.forall_mem_cons]; go_simp)) L hL)) ?_
      repeat (first | (apply flow_free rfl; (intro L w' hun hrd hC; have hC := (HC.out _ _).1 hC; have hb' := hC.below; (try have hw' : Below w.heap.size w w' := by first | exact Below.trans (by (repeat (first | with_reducible exact Below.refl _ _ | with_reducible assumption | with_reducible refine Below.al ?_ _ | with_reducible refine Below.sc ?_ (by first | exact Nat.le_refl _ | (simp; done) | (simp; omega)) _ | assumption | exact Below.refl _ _ | refine Below.dr ?_ | refine Below.drN ?_ _ | refine Below.step ?_ (by assumption)))) hb' | ((repeat (first | with_reducible exact Below.refl _ _ | with_reducible assumption | with_reducible refine Below.al ?_ _ | with_reducible refine Below.sc ?_ (by first | exact Nat.le_refl _ | (simp; done) | (simp; omega)) _ | assumption | exact Below.refl _ _ | refine Below.dr ?_ | refine Below.drN ?_ _ | refine Below.step ?_ (by assumption))); done)); have hf' := hC.cell; (try simp only [List.forall_mem_cons] at hf'); go_simp; first | exact ⟨(HC.out _ _).2 (hC.skip _ (by rfl)), rfl⟩ | (rw [if_neg]; (exact ⟨(HC.out _ _).2 (hC.skip _ (by rfl)), rfl⟩); omega) | (go_at_call 126; (with_reducible refine (drew_below (l1Num_any (a + 1) _ (by omega) (by omega))).mono ?_); rintro e w1 ⟨rfl, hb1⟩; exact ⟨rfl, (HC.out _ _).2 ((hC.next (by first | (simp; done) | (simp; omega) | omega) hb1).skip _ (by rfl))⟩) | (go_at_call 126; (with_reducible refine (drew_below (l1Num_any (t + 1) _ (by omega) (by omega))).mono ?_); rintro e w1 ⟨rfl, hb1⟩; exact ⟨rfl, (HC.out _ _).2 ((hC.next (by first | (simp; done) | (simp; omega) | omega) hb1).skip _ (by rfl))⟩) | (go_at_call 191; refine (l3Position_any l _ _ (HR.out.below (Below.step hbw2 hb')) HL0.out HLB.out (by omega)).mono ?_; rintro e w1 ⟨rfl, hb1⟩; exact ⟨rfl, (HC.out _ _).2 ((hC.next (by first | (simp; done) | (simp; omega) | omega) hb1).skip _ (by rfl))⟩)); go_simp) | (apply flow_yes; (case hw => go_simp); (intro L w' hun hrd hC; have hC := (HC.out _ _).1 hC; have hb' := hC.below; (try have hw' : Below w.heap.size w w' := by first | exact Below.trans (by (repeat (first | with_reducible exact Below.refl _ _ | with_reducible assumption | with_reducible refine Below.al ?_ _ | with_reducible refine Below.sc ?_ (by first | exact Nat.le_refl _ | (simp; done) | (simp; omega)) _ | assumption | exact Below.refl _ _ | refine Below.dr ?_ | refine Below.drN ?_ _ | refine Below.step ?_ (by assumption)))) hb' | ((repeat (first | with_reducible exact Below.refl _ _ | with_reducible assumption | with_reducible refine Below.al ?_ _ | with_reducible refine Below.sc ?_ (by first | exact Nat.le_refl _ | (simp; done) | (simp; omega)) _ | assumption | exact Below.refl _ _ | refine Below.dr ?_ | refine Below.drN ?_ _ | refine Below.step ?_ (by assumption))); done)); have hf' := hC.cell; (try simp only [List.forall_mem_cons] at hf'); go_simp; first | exact ⟨(HC.out _ _).2 (hC.skip _ (by rfl)), rfl⟩ | (rw [if_neg]; (exact ⟨(HC.out _ _).2 (hC.skip _ (by rfl)), rfl⟩); omega) | (go_at_call 126; (with_reducible refine (drew_below (l1Num_any (a + 1) _ (by omega) (by omega))).mono ?_); rintro e w1 ⟨rfl, hb1⟩; exact ⟨rfl, (HC.out _ _).2 ((hC.next (by first | (simp; done) | (simp; omega) | omega) hb1).skip _ (by rfl))⟩) | (go_at_call 126; (with_reducible refine (drew_below (l1Num_any (t + 1) _ (by omega) (by omega))).mono ?_); rintro e w1 ⟨rfl, hb1⟩; exact ⟨rfl, (HC.out _ _).2 ((hC.next (by first | (simp; done) | (simp; omega) | omega) hb1).skip _ (by rfl))⟩) | (go_at_call 191; refine (l3Position_any l _ _ (HR.out.below (Below.step hbw2 hb')) HL0.out HLB.out (by omega)).mono ?_; rintro e w1 ⟨rfl, hb1⟩; exact ⟨rfl, (HC.out _ _).2 ((hC.next (by first | (simp; done) | (simp; omega) | omega) hb1).skip _ (by rfl))⟩)); go_simp) | (apply flow_no; (case hw => (go_simp; try (intro hh; cases hh))); (intro L w' _ _ hC; exact (HC.out _ _).2 (((HC.out _ _).1 hC).skip _ (by rfl))); go_simp))
      refine flow_nil ?_
      intro L wz hL hz
      have hz := (HC.out _ _).1 hz
      have hbz := hz.below
      have hcz := hz.cell
      try simp only [List.forall_mem_cons] at hcz
      have hdz := hz.done
      try simp only [List.forall_mem_cons] at hdz
      (try have hwz : Below w.heap.size w wz := by first | exact Below.trans (by (repeat (first | with_reducible exact Below.refl _ _ | with_reducible assumption | with_reducible refine Below.al ?_ _ | with_reducible refine Below.sc ?_ (by first | exact Nat.le_refl _ | (simp; done) | (simp; omega)) _ | assumption | exact Below.refl _ _ | refine Below.dr ?_ | refine Below.drN ?_ _ | refine Below.step ?_ (by assumption)))) hbz | ((repeat (first | with_reducible exact Below.refl _ _ | with_reducible assumption | with_reducible refine Below.al ?_ _ | with_reducible refine Below.sc ?_ (by first | exact Nat.le_refl _ | (simp; done) | (simp; omega)) _ | assumption | exact Below.refl _ _ | refine Below.dr ?_ | refine Below.drN ?_ _ | refine Below.step ?_ (by assumption))); done))
      go_wp2
      go_ret
      exact ⟨ret_strs (by simp [Stp.org, cnt, sFrom, sAnd, sWithL, sRepl, sAt, sRead, sLeft, sRight]), Below.step hbw2 hbz⟩
  · obtain ⟨b1, o1, rfl, hx⟩ := ints_atR HA.out (by simp)
    have x0 : w.cell? ⟨b1, o1 + 0, none⟩ = some (.int .i64 x) := hx 0 (by simp)
    obtain ⟨b, o, rfl, hy⟩ := ints_atR HB.out (by simp)
    have y0 : w.cell? ⟨b, o + 0, none⟩ = some (.int .i64 a) := hy 0 (by simp)
    have bA := hw a (by simp)
    have lA : (Lib.itoa (a + 1)).length ≤ 20 := cnt_len bA.1 bA.2
    have bX := hp x (by simp)
    have lX : (Lib.itoa (x + 1)).length ≤ 20 := cnt_len bX.1 bX.2
    simp only [List.length_cons, List.length_nil, Nat.zero_add] at hc hd ⊢
    clear hp hw hy hx HC HA HB
    rw [Nat.add_zero] at x0 y0
    (try have zb := bsz (World.block_lt_of_cell? _ _ y0))
    (try have zb1 := bsz (World.block_lt_of_cell? _ _ x0))
    go_enter Tryz.func127, Tryz.ntmps127
    go_wp2_with fail
    obtain ⟨W, hW⟩ : ∃ W : World, W = w.alloc (.cells #[.int .i64 5, .slice (some ⟨b1, o1, none⟩) 1 c, .slice (some ⟨b, o, none⟩) 1 d, .slice r cl.length g] 51) := ⟨_, rfl⟩
    have k0 : W.cell? ⟨w.heap.size, 0, none⟩ = some (.int .i64 5) := by rw [hW]; go_simp
    have k1 : W.cell? ⟨w.heap.size, 1, none⟩ = some (.slice (some ⟨b1, o1, none⟩) 1 c) := by rw [hW]; go_simp
    have k2 : W.cell? ⟨w.heap.size, 2, none⟩ = some (.slice (some ⟨b, o, none⟩) 1 d) := by rw [hW]; go_simp
    have k3 : W.cell? ⟨w.heap.size, 3, none⟩ = some (.slice r cl.length g) := by rw [hW]; go_simp
    have HSW := Lib.hid (show W.heap.size = w.heap.size + 1 by rw [hW]; simp)
    have hbW : Below w.heap.size w W := by rw [hW]; (repeat (first | with_reducible exact Below.refl _ _ | with_reducible assumption | with_reducible refine Below.al ?_ _ | with_reducible refine Below.sc ?_ (by first | exact Nat.le_refl _ | (simp; done) | (simp; omega)) _ | assumption | exact Below.refl _ _ | refine Below.dr ?_ | refine Below.drN ?_ _ | refine Below.step ?_ (by assumption)))
    rw [← hW]
    clear hW
    have zW := bsz (World.block_lt_of_cell? _ _ k0)
    have x0W := cellR hbW x0
    have y0W := cellR hbW y0
    clear x0 y0
    refine (drew_below (l1Num_any (x + 1) _ (by omega) (by omega))).mono ?_
    rintro e w1 ⟨rfl, hb1⟩
    have i0 := cellR hb1 k0
    clear k0
    have i2 := cellR hb1 k2
    clear k2
    have y0V := cellR hb1 y0W
    clear y0W
    have zzw1 := bsz (World.block_lt_of_cell? _ _ i0)
    go_wp2_with fail
    refine (drew_below (l1Num_any (a + 1) _ (by omega) (by omega))).mono ?_
    rintro e w2 ⟨rfl, hb2⟩
    go_wp2
    go_ret
    exact ⟨ret_strs (by simp [Stp.org, cnt, sFrom, sRem]), by (repeat (first | with_reducible exact Below.refl _ _ | with_reducible assumption | with_reducible refine Below.al ?_ _ | with_reducible refine Below.sc ?_ (by first | exact Nat.le_refl _ | (simp; done) | (simp; omega)) _ | assumption | exact Below.refl _ _ | refine Below.dr ?_ | refine Below.drN ?_ _ | refine Below.step ?_ (by assumption)))⟩
  · obtain ⟨b1, o1, rfl, hx⟩ := ints_atR HA.out (by simp)
    have x0 : w.cell? ⟨b1, o1 + 0, none⟩ = some (.int .i64 x) := hx 0 (by simp)
    have bX := hp x (by simp)
    have lX : (Lib.itoa (x + 1)).length ≤ 20 := cnt_len bX.1 bX.2
    have HLB := Lib.hid (show ∀ n ∈ l, 0 ≤ n ∧ n ≤ 99 from fun n hn => hp n (by simp [hn]))
    have lrw := rewT_len HLB.out hl10
    have HLX := Lib.hid (show ∀ (i : Nat) (hi : i < l.length), w.cell? ⟨b1, o1 + (i + 1), none⟩ = some (.int .i64 l[i]) from fun i hi => hx (i + 1) (by simpa using hi))
    have hlp := List.length_pos_iff.2 hl0
    simp only [List.length_cons, List.length_nil] at hc hd ⊢
    have HT6 := Lib.hid (show Stp.org ⟨6, x :: l, [], cl⟩ = sFrom ++ Lib.itoa (x + 1) ++ sRew ++ joinB sComma (l.map cnt) from rfl)
    clear hp hw hx HC HA HB hl0
    rw [Nat.add_zero] at x0
    have zb1 := bsz (World.block_lt_of_cell? _ _ x0)
    have hq0 : (0 : Int) < (l.length : Int) + 1 := by omega
    go_enter Tryz.func127, Tryz.ntmps127
    go_wp2_with fail
    obtain ⟨W, hW⟩ : ∃ W : World, W = w.alloc (.cells #[.int .i64 6, .slice (some ⟨b1, o1, none⟩) (l.length + 1) c, .slice q 0 d, .slice r cl.length g] 51) := ⟨_, rfl⟩
    have k0 : W.cell? ⟨w.heap.size, 0, none⟩ = some (.int .i64 6) := by rw [hW]; go_simp
    have k1 : W.cell? ⟨w.heap.size, 1, none⟩ = some (.slice (some ⟨b1, o1, none⟩) (l.length + 1) c) := by rw [hW]; go_simp
    have k2 : W.cell? ⟨w.heap.size, 2, none⟩ = some (.slice q 0 d) := by rw [hW]; go_simp
    have k3 : W.cell? ⟨w.heap.size, 3, none⟩ = some (.slice r cl.length g) := by rw [hW]; go_simp
    have HSW := Lib.hid (show W.heap.size = w.heap.size + 1 by rw [hW]; simp)
    have hbW : Below w.heap.size w W := by rw [hW]; (repeat (first | with_reducible exact Below.refl _ _ | with_reducible assumption | with_reducible refine Below.al ?_ _ | with_reducible refine Below.sc ?_ (by first | exact Nat.le_refl _ | (simp; done) | (simp; omega)) _ | assumption | exact Below.refl _ _ | refine Below.dr ?_ | refine Below.drN ?_ _ | refine Below.step ?_ (by assumption)))
    rw [← hW]
    clear hW
    have zW := bsz (World.block_lt_of_cell? _ _ k0)
    refine (drew_below (l1Num_any (x + 1) _ (by omega) (by omega))).mono ?_
    rintro e w1 ⟨rfl, hb1⟩
    have i0 := cellR hb1 k0
    have i1 := cellR hb1 k1
    have zz1 := bsz (World.block_lt_of_cell? _ _ i0)
    have hbw1 := Below.step hbW hb1
    have HI1 := Lib.hid i1
    clear k0 k1 k2 k3
    go_wp2
    clear i0 i1 zz1
    go_loopw [3, 5] (fun y i wr => ∃ j : Nat, j ≤ l.length ∧ i = .int .i64 ((j : Int) + 1) ∧ y = .string ⟨(sFrom ++ Lib.itoa (x + 1) ++ sRew ++ accT [] sComma (l.map cnt) j).toArray⟩ ∧ Below w1.heap.size w1 wr) (fun _ i _ => l.length + 1 - (intOf i).toNat)
    case atStart => exact ⟨0, Nat.zero_le _, rfl, congrArg Value.string (by rw [accT_zero]; apply ByteArray.ext; simp [sFrom, sRew]), Below.refl _ _⟩
    case round =>
      obtain ⟨j, hj, rfl, rfl, hb⟩ := hrel
      have hbo := Below.step hbw1 hb
      have i1 := cellR hb HI1.out
      have zr := bsz (World.block_lt_of_cell? _ _ i1)
      have hal := accT_len [] sComma (l.map cnt) j
      simp only [List.length_nil, Nat.zero_add] at hal
      have hsl : (sFrom ++ Lib.itoa (x + 1) ++ sRew ++ accT [] sComma (l.map cnt) j).length ≤ 300 := by simp only [List.length_append, show sFrom.length = 5 from rfl, show sRew.length = 19 from rfl]; omega
      by_cases hlt : j < l.length
      · have hx0 := cellR hbo (HLX.out j hlt)
        have hxb := HLB.out _ (List.getElem_mem hlt)
        have hgm : (l.map cnt)[j]'(by rw [List.length_map]; exact hlt) = Lib.itoa (l[j] + 1) := List.getElem_map _
        have HS := Lib.hid hgm
        obtain ⟨a, ha⟩ : ∃ a, l[j] = a := ⟨_, rfl⟩
        rw [ha] at hx0 hxb HS
        have zb := bsz (World.block_lt_of_cell? _ _ hx0)
        have lA : (Lib.itoa (a + 1)).length ≤ 20 := cnt_len hxb.1 hxb.2
        have hji : (j : Int) + 1 < (l.length : Int) + 1 := by omega
        have hjt : ((j : Int) + 1).toNat = j + 1 := by omega
        have hj0 : 0 ≤ (j : Int) + 1 := by omega
        clear ha hgm
        by_cases hk0 : j = 0
        · have HA := Lib.hid (show accT [] sComma (l.map cnt) (j + 1) = [] ++ (l.map cnt)[j]'(by rw [List.length_map]; exact hlt) by subst hk0; exact accT_one [] sComma (l.map cnt) (by rw [List.length_map]; exact hlt))
          have HA0 := Lib.hid (show accT [] sComma (l.map cnt) j = [] by rw [hk0]; rfl)
          have hk1 : ¬ 1 < (j : Int) + 1 := by omega
          generalize hq : sFrom ++ Lib.itoa (x + 1) ++ sRew ++ accT [] sComma (l.map cnt) j = y at *
          have HQ := Lib.hid hq
          clear hk0 hq
          go_wp2_with fail
          refine (drew_below (l1Num_any (a + 1) _ (by omega) (by omega))).mono ?_
          rintro e w2 ⟨rfl, hb2⟩
          go_wp2
          refine ⟨⟨j + 1, by omega, by go_num, ?_, Below.step hb hb2⟩, by simp [intOf]; omega⟩
          rw [HA.out, HS.out, ← HQ.out, HA0.out]
          exact congrArg Value.string (by apply ByteArray.ext; simp)
        · have HA := Lib.hid (accT_succ [] sComma (l.map cnt) hk0 (by rw [List.length_map]; exact hlt))
          have hk1 : 1 < (j : Int) + 1 := by omega
          generalize hq : sFrom ++ Lib.itoa (x + 1) ++ sRew ++ accT [] sComma (l.map cnt) j = y at *
          have HQ := Lib.hid hq
          clear hk0 hq
          go_wp2_with fail
          refine (drew_below (l1Num_any (a + 1) _ (by omega) (by omega))).mono ?_
          rintro e w2 ⟨rfl, hb2⟩
          go_wp2
          refine ⟨⟨j + 1, by omega, by go_num, ?_, Below.step hb hb2⟩, by simp [intOf]; omega⟩
          rw [HA.out, HS.out, ← HQ.out]
          exact congrArg Value.string (by apply ByteArray.ext; simp [sComma])
      · obtain rfl : j = l.length := by omega
        have hji : ¬ (l.length : Int) + 1 < (l.length : Int) + 1 := by omega
        have HA := Lib.hid (show accT [] sComma (l.map cnt) l.length = joinB sComma (l.map cnt) by
          have := accT_all [] sComma (l.map cnt) (by rw [List.length_map]; exact hlp)
          rw [List.length_map] at this; exact this)
        generalize hq : sFrom ++ Lib.itoa (x + 1) ++ sRew ++ accT [] sComma (l.map cnt) l.length = y at *
        have HQ := Lib.hid hq
        clear hq
        go_wp2
        go_ret
        exact ⟨ret_str (by rw [HT6.out, ← HQ.out, HA.out]), hbo⟩
set_option maxRecDepth 100000 in
set_option maxHeartbeats 1600000 in
theorem l26Step_any {B : Nat → Prop} (m : Nat) (s : Stp) (p q r : Option Addr) (c d g : Nat) (k : Int) (w : World) (h : StpAt B m w s [.int .i64 s.rule, .slice p s.ps.length c, .slice q s.wh.length d, .slice r s.c.length g]) (hn : s.nums = true) (hp : ∀ x ∈ s.ps, 0 ≤ x ∧ x ≤ 99) (hw : ∀ x ∈ s.wh, 0 ≤ x ∧ x ≤ 99) (hc : s.ps.length ≤ c) (hd : s.wh.length ≤ d) (hk : 0 ≤ k ∧ k ≤ 59) (hca : s.c.length ≤ 8 ∧ ∀ l ∈ s.c, l.a.atom = true) (hz : Cls.wts s.c ≤ 1048576) :
    Calls Tryz.prog 51 #[.agg #[.int .i64 s.rule, .slice p s.ps.length c, .slice q s.wh.length d, .slice r s.c.length g], .int .i64 k] w fun e w' => e = .returned (.string ⟨(s.eng k).toArray⟩) ∧ Below w.heap.size w w' := by
  obtain ⟨_, _, _, _, _, _, -, -, -, -, -, -, -, -, -, -, hcl⟩ := h.form
  have H := Lib.hid h
  have HC := Lib.hid hcl
  have HO := Lib.hid (And.intro hn (And.intro hp (And.intro hw (And.intro hc hd))))
  have HCA := Lib.hid hca
  have lo := Stp.org_len hn hp hw
  have lk : (Lib.itoa (k + 1)).length ≤ 20 := cnt_len hk.1 (show k ≤ 99 by omega)
  have le := Cls.eng_len hca.1 hca.2 hz
  have HL := Lib.hid (fun (w' : World) (hw' : Below w.heap.size w w') => l26Clause_any m s.c (.slice r s.c.length g) w' (ClsAt.below hw' HC.out) HCA.out.1 HCA.out.2 hz)
  have HG := Lib.hid (fun (w' : World) (hw' : Below w.heap.size w w') => l26Origin_any m s p q c d (.slice r s.c.length g) w' (H.out.below hw') HO.out.1 HO.out.2.1 HO.out.2.2.1 HO.out.2.2.2.1 HO.out.2.2.2.2)
  clear h hcl hn hp hw hc hd hca
  have wrk : IntKind.i64.wrap (k + 1) = k + 1 := IntWalk.i64_in _ (by omega)
  go_enter Tryz.func51, Tryz.ntmps51
  go_wp2
  obtain ⟨W, hW⟩ : ∃ W : World, W = w.alloc (.cells #[.int .i64 s.rule, .slice p s.ps.length c, .slice q s.wh.length d, .slice r s.c.length g] 51) := ⟨_, rfl⟩
  have k0 : W.cell? ⟨w.heap.size, 0, none⟩ = some (.int .i64 s.rule) := by rw [hW]; go_simp
  have k1 : W.cell? ⟨w.heap.size, 1, none⟩ = some (.slice p s.ps.length c) := by rw [hW]; go_simp
  have k2 : W.cell? ⟨w.heap.size, 2, none⟩ = some (.slice q s.wh.length d) := by rw [hW]; go_simp
  have k3 : W.cell? ⟨w.heap.size, 3, none⟩ = some (.slice r s.c.length g) := by rw [hW]; go_simp
  have HSW := Lib.hid (show W.heap.size = w.heap.size + 1 by rw [hW]; simp)
  have hbW : Below w.heap.size w W := by rw [hW]; (repeat (first | with_reducible exact Below.refl _ _ | with_reducible assumption | with_reducible refine Below.al ?_ _ | with_reducible refine Below.sc ?_ (by first | exact Nat.le_refl _ | (simp; done) | (simp; omega)) _ | assumption | exact Below.refl _ _ | refine Below.dr ?_ | refine Below.drN ?_ _ | refine Below.step ?_ (by assumption)))
  rw [← hW]
  clear hW
  have zW := bsz (World.block_lt_of_cell? _ _ k0)
  obtain ⟨C, HC0⟩ := class_of (InF W.heap.size _ [(⟨w.heap.size, 0, none⟩, .int .i64 s.rule), (⟨w.heap.size, 1, none⟩, .slice p s.ps.length c), (⟨w.heap.size, 2, none⟩, .slice q s.wh.length d), (⟨w.heap.size, 3, none⟩, .slice r s.c.length g)] [] [])
  have HC := Lib.hid HC0
  clear HC0
  refine wp_region_flow (C := C) (by kernel_rfl) (by kernel_rfl) (fun L hL => (HC.out _ _).2 (InF.start (by first | (intro _ hs; cases hs; done) | (simp only [List.forall_mem_cons]; go_simp)) (by first | (intro _ hs; cases hs; done) | (simp only [List.forall_mem_cons]; go_simp)) (by first | (intro _ hs; cases hs; done) | (simp only [List.forall_mem_cons]; go_simp)) (by first | (intro _ hs; cases hs; done) | (simp only [List.forall_mem_cons]; go_simp)) L hL)) ?_
  repeat (first | (apply flow_free rfl; (intro L w' hun hrd hC; have hC := (HC.out _ _).1 hC; have hb' := hC.below; (try have hw' : Below w.heap.size w w' := by first | exact Below.trans (by (repeat (first | with_reducible exact Below.refl _ _ | with_reducible assumption | with_reducible refine Below.al ?_ _ | with_reducible refine Below.sc ?_ (by first | exact Nat.le_refl _ | (simp; done) | (simp; omega)) _ | assumption | exact Below.refl _ _ | refine Below.dr ?_ | refine Below.drN ?_ _ | refine Below.step ?_ (by assumption)))) hb' | ((repeat (first | with_reducible exact Below.refl _ _ | with_reducible assumption | with_reducible refine Below.al ?_ _ | with_reducible refine Below.sc ?_ (by first | exact Nat.le_refl _ | (simp; done) | (simp; omega)) _ | assumption | exact Below.refl _ _ | refine Below.dr ?_ | refine Below.drN ?_ _ | refine Below.step ?_ (by assumption))); done)); have hf' := hC.cell; (try simp only [List.forall_mem_cons] at hf'); go_simp; first | exact ⟨(HC.out _ _).2 (hC.skip _ (by rfl)), rfl⟩ | (rw [if_neg]; (exact ⟨(HC.out _ _).2 (hC.skip _ (by rfl)), rfl⟩); omega) | (go_at_call 126; refine (drew_below (l1Num_any (k + 1) _ (by omega) (by omega))).mono ?_; rintro e w1 ⟨rfl, hb1⟩; exact ⟨rfl, (HC.out _ _).2 ((hC.next (by first | (simp; done) | (simp; omega) | omega) hb1).skip _ (by rfl))⟩) | (go_at_call 127; refine (HG.out _ hw').mono ?_; rintro e w1 ⟨rfl, hb1⟩; exact ⟨rfl, (HC.out _ _).2 ((hC.next (by first | (simp; done) | (simp; omega) | omega) hb1).skip _ (by rfl))⟩) | (go_at_call 128; refine (HL.out _ hw').mono ?_; rintro e w1 ⟨rfl, hb1⟩; exact ⟨rfl, (HC.out _ _).2 ((hC.next (by first | (simp; done) | (simp; omega) | omega) hb1).skip _ (by rfl))⟩)); go_simp) | (apply flow_yes; (case hw => go_simp); (intro L w' hun hrd hC; have hC := (HC.out _ _).1 hC; have hb' := hC.below; (try have hw' : Below w.heap.size w w' := by first | exact Below.trans (by (repeat (first | with_reducible exact Below.refl _ _ | with_reducible assumption | with_reducible refine Below.al ?_ _ | with_reducible refine Below.sc ?_ (by first | exact Nat.le_refl _ | (simp; done) | (simp; omega)) _ | assumption | exact Below.refl _ _ | refine Below.dr ?_ | refine Below.drN ?_ _ | refine Below.step ?_ (by assumption)))) hb' | ((repeat (first | with_reducible exact Below.refl _ _ | with_reducible assumption | with_reducible refine Below.al ?_ _ | with_reducible refine Below.sc ?_ (by first | exact Nat.le_refl _ | (simp; done) | (simp; omega)) _ | assumption | exact Below.refl _ _ | refine Below.dr ?_ | refine Below.drN ?_ _ | refine Below.step ?_ (by assumption))); done)); have hf' := hC.cell; (try simp only [List.forall_mem_cons] at hf'); go_simp; first | exact ⟨(HC.out _ _).2 (hC.skip _ (by rfl)), rfl⟩ | (rw [if_neg]; (exact ⟨(HC.out _ _).2 (hC.skip _ (by rfl)), rfl⟩); omega) | (go_at_call 126; refine (drew_below (l1Num_any (k + 1) _ (by omega) (by omega))).mono ?_; rintro e w1 ⟨rfl, hb1⟩; exact ⟨rfl, (HC.out _ _).2 ((hC.next (by first | (simp; done) | (simp; omega) | omega) hb1).skip _ (by rfl))⟩) | (go_at_call 127; refine (HG.out _ hw').mono ?_; rintro e w1 ⟨rfl, hb1⟩; exact ⟨rfl, (HC.out _ _).2 ((hC.next (by first | (simp; done) | (simp; omega) | omega) hb1).skip _ (by rfl))⟩) | (go_at_call 128; refine (HL.out _ hw').mono ?_; rintro e w1 ⟨rfl, hb1⟩; exact ⟨rfl, (HC.out _ _).2 ((hC.next (by first | (simp; done) | (simp; omega) | omega) hb1).skip _ (by rfl))⟩)); go_simp) | (apply flow_no; (case hw => (go_simp; try (intro hh; cases hh))); (intro L w' _ _ hC; exact (HC.out _ _).2 (((HC.out _ _).1 hC).skip _ (by rfl))); go_simp))
  refine flow_nil ?_
  intro L wz hL hz
  have hz := (HC.out _ _).1 hz
  have hbz := hz.below
  have hcz := hz.cell
  try simp only [List.forall_mem_cons] at hcz
  have hdz := hz.done
  try simp only [List.forall_mem_cons] at hdz
  (try have hwz : Below w.heap.size w wz := by first | exact Below.trans (by (repeat (first | with_reducible exact Below.refl _ _ | with_reducible assumption | with_reducible refine Below.al ?_ _ | with_reducible refine Below.sc ?_ (by first | exact Nat.le_refl _ | (simp; done) | (simp; omega)) _ | assumption | exact Below.refl _ _ | refine Below.dr ?_ | refine Below.drN ?_ _ | refine Below.step ?_ (by assumption)))) hbz | ((repeat (first | with_reducible exact Below.refl _ _ | with_reducible assumption | with_reducible refine Below.al ?_ _ | with_reducible refine Below.sc ?_ (by first | exact Nat.le_refl _ | (simp; done) | (simp; omega)) _ | assumption | exact Below.refl _ _ | refine Below.dr ?_ | refine Below.drN ?_ _ | refine Below.step ?_ (by assumption))); done))
  go_wp2
  go_ret
  exact ⟨ret_strs (by simp [Stp.eng, cnt, sComma]), Below.step hbW hbz⟩
set_option maxRecDepth 100000 in
set_option maxHeartbeats 3200000 in
theorem specSTE_any {B : Nat → Prop} (m : Nat) (s : Stp) (p q r : Option Addr) (c d g : Nat) (k : Int) (w : World) (h : StpAt B m w s [.int .i64 s.rule, .slice p s.ps.length c, .slice q s.wh.length d, .slice r s.c.length g]) (hc : s.ps.length ≤ c) (hd : s.wh.length ≤ d) (hz : s.wt ≤ 1048576) :
    Calls Tryz.prog 18 #[.agg #[.int .i64 s.rule, .slice p s.ps.length c, .slice q s.wh.length d, .slice r s.c.length g], .int .i64 k] w fun e w' => e = .returned (.tuple #[.string ⟨(s.engG k).toArray⟩, .bool (s.good k)]) ∧ Below w.heap.size w w' := by
  obtain ⟨_, _, _, _, _, _, -, -, -, -, -, -, -, -, -, -, hcl⟩ := h.form
  have H := Lib.hid h
  have HC := Lib.hid hcl
  have HCP := Lib.hid (And.intro hc hd)
  have HG := Lib.hid (show s.good k = (inB k 0 59 && s.shape k && Cls.good s.c) by rw [Stp.shape_eq]; rfl)
  have HSH := Lib.hid (show s.shape k = (s.nums && s.ps.all (fun n => inB n 0 (k - 1)) && s.wh.all in99) from Stp.shape_eq s k)
  have HEG := Lib.hid (show s.engG k = if s.good k then s.eng k else [] from rfl)
  have hzw : Cls.wts s.c ≤ 1048576 := by unfold Stp.wt at hz; omega
  have HZ := Lib.hid (show ∀ l ∈ s.c, l.a.sz ≤ 100000000 from fun l hl => by have h1 := Cls.wts_le s.c l hl; have h2 := l.a.sz_wt; omega)
  clear h hcl hc hd
  go_enter Tryz.func18, Tryz.ntmps18
  go_wp2_with fail
  obtain ⟨W, hW⟩ : ∃ W : World, W = w.alloc (.cells #[.int .i64 s.rule, .slice p s.ps.length c, .slice q s.wh.length d, .slice r s.c.length g] 51) := ⟨_, rfl⟩
  have k0 : W.cell? ⟨w.heap.size, 0, none⟩ = some (.int .i64 s.rule) := by rw [hW]; go_simp
  have k1 : W.cell? ⟨w.heap.size, 1, none⟩ = some (.slice p s.ps.length c) := by rw [hW]; go_simp
  have k2 : W.cell? ⟨w.heap.size, 2, none⟩ = some (.slice q s.wh.length d) := by rw [hW]; go_simp
  have k3 : W.cell? ⟨w.heap.size, 3, none⟩ = some (.slice r s.c.length g) := by rw [hW]; go_simp
  have HSW := Lib.hid (show W.heap.size = w.heap.size + 1 by rw [hW]; simp)
  have hbW : Below w.heap.size w W := by rw [hW]; (repeat (first | with_reducible exact Below.refl _ _ | with_reducible assumption | with_reducible refine Below.al ?_ _ | with_reducible refine Below.sc ?_ (by first | exact Nat.le_refl _ | (simp; done) | (simp; omega)) _ | assumption | exact Below.refl _ _ | refine Below.dr ?_ | refine Below.drN ?_ _ | refine Below.step ?_ (by assumption)))
  rw [← hW]
  clear hW
  have zW := bsz (World.block_lt_of_cell? _ _ k0)
  refine (l1In_any k 0 59 _).mono ?_
  rintro e w1 ⟨rfl, rfl⟩
  cases hi : inB k 0 59
  · have HI := Lib.hid (show s.good k = false by rw [HG.out, hi]; rfl)
    clear hi
    go_wp2
    go_ret2
    exact ⟨by rw [HEG.out, HI.out]; rfl, by (repeat (first | with_reducible exact Below.refl _ _ | with_reducible assumption | with_reducible refine Below.al ?_ _ | with_reducible refine Below.sc ?_ (by first | exact Nat.le_refl _ | (simp; done) | (simp; omega)) _ | assumption | exact Below.refl _ _ | refine Below.dr ?_ | refine Below.drN ?_ _ | refine Below.step ?_ (by assumption)))⟩
  have hkb : 0 ≤ k ∧ k ≤ 59 := by simpa [inB] using hi
  have HI := Lib.hid hi
  clear hi
  go_wp2_with fail
  refine (l26Shape_any m s p q c d _ k W (H.out.below hbW) HCP.out.2 hkb).mono ?_
  rintro e w2 ⟨rfl, hb2⟩
  have j0 := cellR hb2 k0
  have j1 := cellR hb2 k1
  have j2 := cellR hb2 k2
  have j3 := cellR hb2 k3
  have z2 := bsz (World.block_lt_of_cell? _ _ j1)
  clear k0 k1 k2 k3
  cases hn : s.shape k
  · have HI := Lib.hid (show s.good k = false by rw [HG.out, hn]; simp)
    clear hn
    go_wp2
    go_ret2
    exact ⟨by rw [HEG.out, HI.out]; rfl, by (repeat (first | with_reducible exact Below.refl _ _ | with_reducible assumption | with_reducible refine Below.al ?_ _ | with_reducible refine Below.sc ?_ (by first | exact Nat.le_refl _ | (simp; done) | (simp; omega)) _ | assumption | exact Below.refl _ _ | refine Below.dr ?_ | refine Below.drN ?_ _ | refine Below.step ?_ (by assumption)))⟩
  have HN := Lib.hid hn
  clear hn
  go_wp2_with fail
  refine (l7Good_any m s.c _ w2 (ClsAt.below (by (repeat (first | with_reducible exact Below.refl _ _ | with_reducible assumption | with_reducible refine Below.al ?_ _ | with_reducible refine Below.sc ?_ (by first | exact Nat.le_refl _ | (simp; done) | (simp; omega)) _ | assumption | exact Below.refl _ _ | refine Below.dr ?_ | refine Below.drN ?_ _ | refine Below.step ?_ (by assumption)))) HC.out) HZ.out).mono ?_
  rintro e w3 ⟨rfl, hb3⟩
  have i0 := cellR hb3 j0
  have i1 := cellR hb3 j1
  have i2 := cellR hb3 j2
  have i3 := cellR hb3 j3
  have z3 := bsz (World.block_lt_of_cell? _ _ i1)
  clear j0 j1 j2 j3
  cases hv : Cls.good s.c
  · have HI := Lib.hid (show s.good k = false by rw [HG.out, hv]; simp)
    clear hv
    go_wp2
    go_ret2
    exact ⟨by rw [HEG.out, HI.out]; rfl, by (repeat (first | with_reducible exact Below.refl _ _ | with_reducible assumption | with_reducible refine Below.al ?_ _ | with_reducible refine Below.sc ?_ (by first | exact Nat.le_refl _ | (simp; done) | (simp; omega)) _ | assumption | exact Below.refl _ _ | refine Below.dr ?_ | refine Below.drN ?_ _ | refine Below.step ?_ (by assumption)))⟩
  have HI2 := Lib.hid (show s.good k = true by rw [HG.out, HI.out, HN.out, hv]; rfl)
  have HCA := Lib.hid (good_atoms hv)
  have HP3 := Lib.hid (show s.nums = true ∧ s.ps.all (fun n => inB n 0 (k - 1)) = true ∧ s.wh.all (fun n => inB n 0 99) = true by have := HSH.out.symm.trans HN.out; rw [Bool.and_eq_true, Bool.and_eq_true] at this; exact ⟨this.1.1, this.1.2, this.2⟩)
  have HPB := Lib.hid (fun x (hx : x ∈ s.ps) => (show 0 ≤ x ∧ x ≤ 99 from by have := List.all_eq_true.1 HP3.out.2.1 x hx; simp only [inB, Bool.and_eq_true, decide_eq_true_eq] at this; omega))
  have HWB := Lib.hid (fun x (hx : x ∈ s.wh) => (show 0 ≤ x ∧ x ≤ 99 from by have := List.all_eq_true.1 HP3.out.2.2 x hx; simp only [inB, Bool.and_eq_true, decide_eq_true_eq] at this; omega))
  clear hv
  go_wp2_with fail
  refine (l26Step_any m s p q r c d g k w3 (H.out.below (by (repeat (first | with_reducible exact Below.refl _ _ | with_reducible assumption | with_reducible refine Below.al ?_ _ | with_reducible refine Below.sc ?_ (by first | exact Nat.le_refl _ | (simp; done) | (simp; omega)) _ | assumption | exact Below.refl _ _ | refine Below.dr ?_ | refine Below.drN ?_ _ | refine Below.step ?_ (by assumption))))) HP3.out.1 HPB.out HWB.out HCP.out.1 HCP.out.2 hkb HCA.out hzw).mono ?_
  rintro e w4 ⟨rfl, hb4⟩
  go_wp2
  go_ret2
  exact ⟨by rw [HEG.out, HI2.out, if_pos rfl]; rfl, by (repeat (first | with_reducible exact Below.refl _ _ | with_reducible assumption | with_reducible refine Below.al ?_ _ | with_reducible refine Below.sc ?_ (by first | exact Nat.le_refl _ | (simp; done) | (simp; omega)) _ | assumption | exact Below.refl _ _ | refine Below.dr ?_ | refine Below.drN ?_ _ | refine Below.step ?_ (by assumption)))⟩
end Go.Proofs.YtcegllnljaapiaaGreatDoor
namespace Go.Proofs.YtcegllnljaapiaaGreatDoor
open Go.RowKit
theorem cellC {w w' : World} {a : Addr} {v : Value} (hb : Below w.heap.size w w') (h : w.cell? a = some v) : w'.cell? a = some v := (hb.cell (World.block_lt_of_cell? w _ h)).trans h
set_option maxRecDepth 100000 in
set_option maxHeartbeats 3200000 in
theorem exactSTE {B : Nat → Prop} (m : Nat) (s : Stp) (v0 v1 v2 v3 : Value) (k : Int) (w : World) (hE : Env w) (h : StpAt B m w s [v0, v1, v2, v3]) (_hk0 : -9223372036854775808 ≤ k) (_hk1 : k ≤ 9223372036854775807) :
    Calls Tryz.prog 4 #[.agg #[v0, v1, v2, v3], .int .i64 k] w fun e w' => e = .returned (.bool true) ∧ Below w.heap.size w w' := by
  obtain ⟨p, c, q, d, r, g, rfl, rfl, rfl, rfl, -⟩ := h.form
  have H := Lib.hid h
  have HE := Lib.hid hE
  clear h hE
  by_cases hw : s.wt ≤ 1048576
  · have HR := Lib.hid (show szR 1048576 s.wt = 1048576 - (s.wt : Nat) from if_pos (by omega))
    have hw0 : ¬ (1048576 - (s.wt : Int) < 0) := by omega
    go_enter Tryz.func4, Tryz.ntmps4
    go_wp2_with fail
    refine (szStep_any m s _ _ _ _ _ _ (H.out.below (by (repeat (first | with_reducible exact Below.refl _ _ | with_reducible assumption | with_reducible refine Below.al ?_ _ | with_reducible refine Below.sc ?_ (by first | exact Nat.le_refl _ | (simp; done) | (simp; omega)) _ | assumption | exact Below.refl _ _ | refine Below.dr ?_ | refine Below.drN ?_ _ | refine Below.step ?_ (by assumption))))) (by omega) (by omega)).mono ?_
    rintro e w1 ⟨rfl, hb1⟩
    have ⟨cw1, fw1⟩ := bcell hb1
    have qw1 := hb1.size
    (try simp at qw1)
    (try have zw1w := bsz (show w.heap.size < w1.heap.size by omega))
    rw [HR.out]
    go_wp2_with fail
    refine (toStep_any m s _ _ _ _ _ (H.out.below (by (repeat (first | with_reducible exact Below.refl _ _ | with_reducible assumption | with_reducible refine Below.al ?_ _ | with_reducible refine Below.sc ?_ (by first | exact Nat.le_refl _ | (simp; done) | (simp; omega)) _ | assumption | exact Below.refl _ _ | refine Below.dr ?_ | refine Below.drN ?_ _ | refine Below.step ?_ (by assumption))))) hw).mono ?_
    rintro e w2 ⟨p1, q1, r1, rfl, hu, hb2⟩
    have ⟨cw2, fw2⟩ := bcell hb2
    have qw2 := hb2.size
    (try simp at qw2)
    (try have zw2w := bsz (show w.heap.size < w2.heap.size by omega))
    (try have zw2w1 := bsz (show w1.heap.size < w2.heap.size by omega))
    have HU := Lib.hid hu
    clear hu
    go_wp2_with fail
    refine (specSTE_any m s p1 q1 r1 _ _ _ k _ (HU.out.below (by (repeat (first | with_reducible exact Below.refl _ _ | with_reducible assumption | with_reducible refine Below.al ?_ _ | with_reducible refine Below.sc ?_ (by first | exact Nat.le_refl _ | (simp; done) | (simp; omega)) _ | assumption | exact Below.refl _ _ | refine Below.dr ?_ | refine Below.drN ?_ _ | refine Below.step ?_ (by assumption))))) (Nat.le_refl _) (Nat.le_refl _) hw).mono ?_
    rintro e w3 ⟨rfl, hb3⟩
    have ⟨cw3, fw3⟩ := bcell hb3
    have qw3 := hb3.size
    (try simp at qw3)
    (try have zw3w := bsz (show w.heap.size < w3.heap.size by omega))
    (try have zw3w1 := bsz (show w1.heap.size < w3.heap.size by omega))
    (try have zw3w2 := bsz (show w2.heap.size < w3.heap.size by omega))
    go_wp2_with fail
    refine (toStep_any m s _ _ _ _ _ (H.out.below (by (repeat (first | with_reducible exact Below.refl _ _ | with_reducible assumption | with_reducible refine Below.al ?_ _ | with_reducible refine Below.sc ?_ (by first | exact Nat.le_refl _ | (simp; done) | (simp; omega)) _ | assumption | exact Below.refl _ _ | refine Below.dr ?_ | refine Below.drN ?_ _ | refine Below.step ?_ (by assumption))))) hw).mono ?_
    rintro e w4 ⟨p2, q2, r2, rfl, hu2, hb4⟩
    have ⟨cw4, fw4⟩ := bcell hb4
    have qw4 := hb4.size
    (try simp at qw4)
    (try have zw4w := bsz (show w.heap.size < w4.heap.size by omega))
    (try have zw4w1 := bsz (show w1.heap.size < w4.heap.size by omega))
    (try have zw4w2 := bsz (show w2.heap.size < w4.heap.size by omega))
    (try have zw4w3 := bsz (show w3.heap.size < w4.heap.size by omega))
    have HU2 := Lib.hid hu2
    clear hu2
    go_wp2_with fail
    refine (implSTE_any m s p2 q2 r2 _ _ _ k _ (HU2.out.below (by (repeat (first | with_reducible exact Below.refl _ _ | with_reducible assumption | with_reducible refine Below.al ?_ _ | with_reducible refine Below.sc ?_ (by first | exact Nat.le_refl _ | (simp; done) | (simp; omega)) _ | assumption | exact Below.refl _ _ | refine Below.dr ?_ | refine Below.drN ?_ _ | refine Below.step ?_ (by assumption))))) (Nat.le_refl _) (Nat.le_refl _) (Nat.le_refl _) hw (HE.out.below (by (repeat (first | with_reducible exact Below.refl _ _ | with_reducible assumption | with_reducible refine Below.al ?_ _ | with_reducible refine Below.sc ?_ (by first | exact Nat.le_refl _ | (simp; done) | (simp; omega)) _ | assumption | exact Below.refl _ _ | refine Below.dr ?_ | refine Below.drN ?_ _ | refine Below.step ?_ (by assumption)))))).mono ?_
    rintro e w5 ⟨rfl, hb5⟩
    have ⟨cw5, fw5⟩ := bcell hb5
    have qw5 := hb5.size
    (try simp at qw5)
    (try have zw5w := bsz (show w.heap.size < w5.heap.size by omega))
    (try have zw5w1 := bsz (show w1.heap.size < w5.heap.size by omega))
    (try have zw5w2 := bsz (show w2.heap.size < w5.heap.size by omega))
    (try have zw5w3 := bsz (show w3.heap.size < w5.heap.size by omega))
    (try have zw5w4 := bsz (show w4.heap.size < w5.heap.size by omega))
    go_wp2
    have ha0 : w5.cell? ⟨w.heap.size, 0, none⟩ = some (.int .i64 s.rule) := by go_simp
    have ha1 : w5.cell? ⟨w.heap.size, 1, none⟩ = some (.slice p s.ps.length c) := by go_simp
    have ha2 : w5.cell? ⟨w.heap.size, 2, none⟩ = some (.slice q s.wh.length d) := by go_simp
    have ha3 : w5.cell? ⟨w.heap.size, 3, none⟩ = some (.slice r s.c.length g) := by go_simp
    have hx0 : w5.cell? ⟨w4.heap.size, 0, none⟩ = some (.int .i64 s.rule) := by go_simp
    have hx1 : w5.cell? ⟨w4.heap.size, 1, none⟩ = some (.slice p2 s.ps.length s.ps.length) := by go_simp
    have hx2 : w5.cell? ⟨w4.heap.size, 2, none⟩ = some (.slice q2 s.wh.length s.wh.length) := by go_simp
    have hx3 : w5.cell? ⟨w4.heap.size, 3, none⟩ = some (.slice r2 s.c.length s.c.length) := by go_simp
    go_region_held3 (fun w' => w'.cell? ⟨w.heap.size, 0, none⟩ = some (.int .i64 s.rule) ∧ w'.cell? ⟨w.heap.size, 1, none⟩ = some (.slice p s.ps.length c) ∧ w'.cell? ⟨w.heap.size, 2, none⟩ = some (.slice q s.wh.length d) ∧ w'.cell? ⟨w.heap.size, 3, none⟩ = some (.slice r s.c.length g) ∧ w'.cell? ⟨w4.heap.size, 0, none⟩ = some (.int .i64 s.rule) ∧ w'.cell? ⟨w4.heap.size, 1, none⟩ = some (.slice p2 s.ps.length s.ps.length) ∧ w'.cell? ⟨w4.heap.size, 2, none⟩ = some (.slice q2 s.wh.length s.wh.length) ∧ w'.cell? ⟨w4.heap.size, 3, none⟩ = some (.slice r2 s.c.length s.c.length)) (first | go_keep | ((refine ⟨?_, ?_, ?_, ?_, ?_, ?_, ?_, ?_⟩ <;> first | exact cellC hb7 (cellC hb6 (by assumption)) | exact cellC hb7 (by assumption) | exact cellC hb6 (by assumption)))) (first | (go_at_call 19; refine (toStep_any m s _ _ _ _ _ (H.out.below (by (repeat (first | with_reducible exact Below.refl _ _ | with_reducible assumption | with_reducible refine Below.al ?_ _ | with_reducible refine Below.sc ?_ (by first | exact Nat.le_refl _ | (simp; done) | (simp; omega)) _ | assumption | exact Below.refl _ _ | refine Below.dr ?_ | refine Below.drN ?_ _ | refine Below.step ?_ (by assumption))))) hw).mono ?_; rintro e w6 ⟨p3, q3, r3, rfl, hu3, hb6⟩; have HU3 := Lib.hid hu3; clear hu3; have ⟨c6, f6⟩ := bcell hb6; have q6 := hb6.size; (try simp at q6); have z6 := bsz (show w.heap.size < w6.heap.size by omega); have z63 := bsz (show w3.heap.size < w6.heap.size by omega); have z64 := bsz (show w4.heap.size < w6.heap.size by omega)) | (go_at_call 21; refine (eqStep_same m s _ _ _ _ _ _ _ _ _ (HU2.out.below (by (repeat (first | with_reducible exact Below.refl _ _ | with_reducible assumption | with_reducible refine Below.al ?_ _ | with_reducible refine Below.sc ?_ (by first | exact Nat.le_refl _ | (simp; done) | (simp; omega)) _ | assumption | exact Below.refl _ _ | refine Below.dr ?_ | refine Below.drN ?_ _ | refine Below.step ?_ (by assumption))))) (HU3.out.below (by (repeat (first | with_reducible exact Below.refl _ _ | with_reducible assumption | with_reducible refine Below.al ?_ _ | with_reducible refine Below.sc ?_ (by first | exact Nat.le_refl _ | (simp; done) | (simp; omega)) _ | assumption | exact Below.refl _ _ | refine Below.dr ?_ | refine Below.drN ?_ _ | refine Below.step ?_ (by assumption)))))).mono ?_; rintro e w7 ⟨rfl, hb7⟩))
    go_wp2
    go_ret
    exact ⟨rfl, by (repeat (first | with_reducible exact Below.refl _ _ | with_reducible assumption | with_reducible refine Below.al ?_ _ | with_reducible refine Below.sc ?_ (by first | exact Nat.le_refl _ | (simp; done) | (simp; omega)) _ | assumption | exact Below.refl _ _ | refine Below.dr ?_ | refine Below.drN ?_ _ | refine Below.step ?_ (by assumption)))⟩
  · have HR := Lib.hid (show szR 1048576 s.wt = -1 from if_neg (by omega))
    go_enter Tryz.func4, Tryz.ntmps4
    go_wp2_with fail
    refine (szStep_any m s _ _ _ _ _ _ (H.out.below (by (repeat (first | with_reducible exact Below.refl _ _ | with_reducible assumption | with_reducible refine Below.al ?_ _ | with_reducible refine Below.sc ?_ (by first | exact Nat.le_refl _ | (simp; done) | (simp; omega)) _ | assumption | exact Below.refl _ _ | refine Below.dr ?_ | refine Below.drN ?_ _ | refine Below.step ?_ (by assumption))))) (by omega) (by omega)).mono ?_
    rintro e w1 ⟨rfl, hb1⟩
    have ⟨cw1, fw1⟩ := bcell hb1
    have qw1 := hb1.size
    (try simp at qw1)
    (try have zw1w := bsz (show w.heap.size < w1.heap.size by omega))
    rw [HR.out]
    go_wp2
    go_ret
    exact ⟨rfl, by (repeat (first | with_reducible exact Below.refl _ _ | with_reducible assumption | with_reducible refine Below.al ?_ _ | with_reducible refine Below.sc ?_ (by first | exact Nat.le_refl _ | (simp; done) | (simp; omega)) _ | assumption | exact Below.refl _ _ | refine Below.dr ?_ | refine Below.drN ?_ _ | refine Below.step ?_ (by assumption)))⟩
end Go.Proofs.YtcegllnljaapiaaGreatDoor
