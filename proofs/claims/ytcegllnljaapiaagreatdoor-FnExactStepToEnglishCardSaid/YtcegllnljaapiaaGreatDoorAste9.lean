/- The English of clauses: the reference's. Conditions: sizes. -/
import Derived.Test.YtcegllnljaapiaaGreatDoorAste2
import Derived.Test.YtcegllnljaapiaaGreatDoorAste6
import Derived.Test.YtcegllnljaapiaaGreatDoorAste8
namespace Go.Proofs.YtcegllnljaapiaaGreatDoor
open Go.RowKit
theorem cellC' {w w' : World} {a : Addr} {v : Value} (hb : Below w.heap.size w w') (h : w.cell? a = some v) : w'.cell? a = some v := (hb.cell (World.block_lt_of_cell? w _ h)).trans h
/-- The first cells of a list in memory. -/
theorem ints_at {B : Nat → Prop} {w : World} {p : Option Addr} {n c : Nat} {us : List Int} (h : IntsAt B w (.slice p n c) us) (h0 : 0 < us.length) : ∃ b o, p = some ⟨b, o, none⟩ ∧ ∀ (i : Nat) (hi : i < us.length), w.cell? ⟨b, o + i, none⟩ = some (.int .i64 us[i]) := by
  obtain ⟨b, o, rfl, -, -⟩ := h.at_ h0
  refine ⟨b, o, rfl, fun i hi => ?_⟩
  obtain ⟨b', o', he, -, hx, -⟩ := h.at_ hi
  simp only [Option.some.injEq, Addr.mk.injEq, and_true] at he
  obtain ⟨rfl, rfl⟩ := he
  exact hx
set_option maxRecDepth 100000 in
set_option maxHeartbeats 6400000 in
theorem origin_any {B : Nat → Prop} (m : Nat) (s : Stp) (p q : Option Addr) (c d : Nat) (v3 : Value) (w : World) (h : StpAt B m w s [.int .i64 s.rule, .slice p s.ps.length c, .slice q s.wh.length d, v3]) (hg : s.nums = true) (hp : ∀ x ∈ s.ps, 0 ≤ x ∧ x ≤ 99) (hw : ∀ x ∈ s.wh, 0 ≤ x ∧ x ≤ 99) (hc : s.ps.length ≤ c) (hd : s.wh.length ≤ d) (hE : Env w) :
    Calls Tryz.prog 61 #[.agg #[.int .i64 s.rule, .slice p s.ps.length c, .slice q s.wh.length d, v3]] w fun e w' => e = .returned (.string ⟨s.org.toArray⟩) ∧ Below w.heap.size w w' := by
  obtain ⟨_, _, _, _, r, g, -, -, -, rfl, hr, l1, l2, l3, ha, hb, hcl⟩ := h.form
  have HC := Lib.hid (Stp.nums_cases hg)
  obtain ⟨ru, ps, wh, cl⟩ := s
  simp only at l1 l2 l3 ha hb hc hd hr HC hp hw ⊢
  have HE := Lib.hid hE
  have HA := Lib.hid ha
  have HB := Lib.hid hb
  clear h ha hb hcl hE hg l1 l2 l3 hr
  rcases HC.out with ⟨rfl, rfl, a, rfl⟩ | ⟨rfl, ⟨x, y, rfl⟩, a, z, rfl⟩ | ⟨rfl, ⟨x, rfl⟩, a, z, rfl⟩ | ⟨rfl, ⟨x, y, rfl⟩, a, z, t, l, rfl, hl0, hz, hpl⟩ | ⟨rfl, ⟨x, rfl⟩, a, rfl⟩ | ⟨rfl, ⟨x, l, rfl, hl0, hl10⟩, rfl⟩
  · obtain ⟨b, o, rfl, hy⟩ := ints_at HB.out (by simp)
    have y0 : w.cell? ⟨b, o + 0, none⟩ = some (.int .i64 a) := hy 0 (by simp)
    have ba := hw a (by simp)
    have lba := cnt_len ba.1 ba.2
    simp only [List.length_cons, List.length_nil, Nat.zero_add] at hd ⊢
    clear hp hw hy HC HA HB
    go_enter Tryz.func61, Tryz.ntmps61
    go_wp2_with fail
    obtain ⟨W, hW⟩ : ∃ W : World, W = w.alloc (.cells #[.int .i64 1, .slice p 0 c, .slice (some ⟨b, o, none⟩) 1 d, .slice r cl.length g] 51) := ⟨_, rfl⟩
    have k0 : W.cell? ⟨w.heap.size, 0, none⟩ = some (.int .i64 1) := by rw [hW]; go_simp
    have k1 : W.cell? ⟨w.heap.size, 1, none⟩ = some (.slice p 0 c) := by rw [hW]; go_simp
    have k2 : W.cell? ⟨w.heap.size, 2, none⟩ = some (.slice (some ⟨b, o, none⟩) 1 d) := by rw [hW]; go_simp
    have k3 : W.cell? ⟨w.heap.size, 3, none⟩ = some (.slice r cl.length g) := by rw [hW]; go_simp
    have HSW := Lib.hid (show W.heap.size = w.heap.size + 1 by rw [hW]; simp)
    have hbW : Below w.heap.size w W := by rw [hW]; (repeat (first | with_reducible exact Below.refl _ _ | with_reducible assumption | with_reducible refine Below.al ?_ _ | with_reducible refine Below.sc ?_ (by first | exact Nat.le_refl _ | (simp; done) | (simp; omega)) _ | assumption | exact Below.refl _ _ | refine Below.dr ?_ | refine Below.drN ?_ _ | refine Below.step ?_ (by assumption)))
    rw [← hW]
    clear hW
    have zW := bsz (World.block_lt_of_cell? _ _ k0)
    refine (where_any w.heap.size b o d 0 1 _ a W (HE.out.below hbW) k2 (cellC' hbW y0) rfl (by omega) (by omega) ba.1 (by omega)).mono ?_
    rintro e w1 ⟨rfl, hb1⟩
    go_wp2
    go_ret
    exact ⟨ret_strs (by simp [Stp.org, sByAx]), by (repeat (first | with_reducible exact Below.refl _ _ | with_reducible assumption | with_reducible refine Below.al ?_ _ | with_reducible refine Below.sc ?_ (by first | exact Nat.le_refl _ | (simp; done) | (simp; omega)) _ | assumption | exact Below.refl _ _ | refine Below.dr ?_ | refine Below.drN ?_ _ | refine Below.step ?_ (by assumption)))⟩
  · obtain ⟨b1, o1, rfl, hx⟩ := ints_at HA.out (by simp)
    have x0 : w.cell? ⟨b1, o1 + 0, none⟩ = some (.int .i64 x) := hx 0 (by simp)
    have x1 : w.cell? ⟨b1, o1 + 1, none⟩ = some (.int .i64 y) := hx 1 (by simp)
    obtain ⟨b, o, rfl, hy⟩ := ints_at HB.out (by simp)
    have y0 : w.cell? ⟨b, o + 0, none⟩ = some (.int .i64 a) := hy 0 (by simp)
    have y1 : w.cell? ⟨b, o + 1, none⟩ = some (.int .i64 z) := hy 1 (by simp)
    have ba := hw a (by simp)
    have lba := cnt_len ba.1 ba.2
    have bz := hw z (by simp)
    have lbz := cnt_len bz.1 bz.2
    have bx := hp x (by simp)
    have lbx := cnt_len bx.1 bx.2
    have bY := hp y (by simp)
    have lbY := cnt_len bY.1 bY.2
    simp only [List.length_cons, List.length_nil, Nat.zero_add] at hc hd ⊢
    clear hp hw hy hx HC HA HB
    go_enter Tryz.func61, Tryz.ntmps61
    go_wp2_with fail
    obtain ⟨W, hW⟩ : ∃ W : World, W = w.alloc (.cells #[.int .i64 2, .slice (some ⟨b1, o1, none⟩) 2 c, .slice (some ⟨b, o, none⟩) 2 d, .slice r cl.length g] 51) := ⟨_, rfl⟩
    have k0 : W.cell? ⟨w.heap.size, 0, none⟩ = some (.int .i64 2) := by rw [hW]; go_simp
    have k1 : W.cell? ⟨w.heap.size, 1, none⟩ = some (.slice (some ⟨b1, o1, none⟩) 2 c) := by rw [hW]; go_simp
    have k2 : W.cell? ⟨w.heap.size, 2, none⟩ = some (.slice (some ⟨b, o, none⟩) 2 d) := by rw [hW]; go_simp
    have k3 : W.cell? ⟨w.heap.size, 3, none⟩ = some (.slice r cl.length g) := by rw [hW]; go_simp
    have HSW := Lib.hid (show W.heap.size = w.heap.size + 1 by rw [hW]; simp)
    have hbW : Below w.heap.size w W := by rw [hW]; (repeat (first | with_reducible exact Below.refl _ _ | with_reducible assumption | with_reducible refine Below.al ?_ _ | with_reducible refine Below.sc ?_ (by first | exact Nat.le_refl _ | (simp; done) | (simp; omega)) _ | assumption | exact Below.refl _ _ | refine Below.dr ?_ | refine Below.drN ?_ _ | refine Below.step ?_ (by assumption)))
    rw [← hW]
    clear hW
    have zW := bsz (World.block_lt_of_cell? _ _ k0)
    refine (parent_any w.heap.size b1 o1 c 0 2 _ x W (HE.out.below hbW) k1 (cellC' hbW x0) rfl (by omega) (by omega) bx.1 (by omega)).mono ?_
    rintro e w1 ⟨rfl, hb1⟩
    go_wp2_with fail
    refine (parent_any w.heap.size b1 o1 c 1 2 _ y w1 (HE.out.below (by (repeat (first | with_reducible exact Below.refl _ _ | with_reducible assumption | with_reducible refine Below.al ?_ _ | with_reducible refine Below.sc ?_ (by first | exact Nat.le_refl _ | (simp; done) | (simp; omega)) _ | assumption | exact Below.refl _ _ | refine Below.dr ?_ | refine Below.drN ?_ _ | refine Below.step ?_ (by assumption))))) (cellC' (by (repeat (first | with_reducible exact Below.refl _ _ | with_reducible assumption | with_reducible refine Below.al ?_ _ | with_reducible refine Below.sc ?_ (by first | exact Nat.le_refl _ | (simp; done) | (simp; omega)) _ | assumption | exact Below.refl _ _ | refine Below.dr ?_ | refine Below.drN ?_ _ | refine Below.step ?_ (by assumption)))) k1) (cellC' (by (repeat (first | with_reducible exact Below.refl _ _ | with_reducible assumption | with_reducible refine Below.al ?_ _ | with_reducible refine Below.sc ?_ (by first | exact Nat.le_refl _ | (simp; done) | (simp; omega)) _ | assumption | exact Below.refl _ _ | refine Below.dr ?_ | refine Below.drN ?_ _ | refine Below.step ?_ (by assumption)))) x1) rfl (by omega) (by omega) bY.1 (by omega)).mono ?_
    rintro e w2 ⟨rfl, hb2⟩
    go_wp2_with fail
    refine (where_any w.heap.size b o d 0 2 _ a w2 (HE.out.below (by (repeat (first | with_reducible exact Below.refl _ _ | with_reducible assumption | with_reducible refine Below.al ?_ _ | with_reducible refine Below.sc ?_ (by first | exact Nat.le_refl _ | (simp; done) | (simp; omega)) _ | assumption | exact Below.refl _ _ | refine Below.dr ?_ | refine Below.drN ?_ _ | refine Below.step ?_ (by assumption))))) (cellC' (by (repeat (first | with_reducible exact Below.refl _ _ | with_reducible assumption | with_reducible refine Below.al ?_ _ | with_reducible refine Below.sc ?_ (by first | exact Nat.le_refl _ | (simp; done) | (simp; omega)) _ | assumption | exact Below.refl _ _ | refine Below.dr ?_ | refine Below.drN ?_ _ | refine Below.step ?_ (by assumption)))) k2) (cellC' (by (repeat (first | with_reducible exact Below.refl _ _ | with_reducible assumption | with_reducible refine Below.al ?_ _ | with_reducible refine Below.sc ?_ (by first | exact Nat.le_refl _ | (simp; done) | (simp; omega)) _ | assumption | exact Below.refl _ _ | refine Below.dr ?_ | refine Below.drN ?_ _ | refine Below.step ?_ (by assumption)))) y0) rfl (by omega) (by omega) ba.1 (by omega)).mono ?_
    rintro e w3 ⟨rfl, hb3⟩
    go_wp2_with fail
    refine (where_any w.heap.size b o d 1 2 _ z w3 (HE.out.below (by (repeat (first | with_reducible exact Below.refl _ _ | with_reducible assumption | with_reducible refine Below.al ?_ _ | with_reducible refine Below.sc ?_ (by first | exact Nat.le_refl _ | (simp; done) | (simp; omega)) _ | assumption | exact Below.refl _ _ | refine Below.dr ?_ | refine Below.drN ?_ _ | refine Below.step ?_ (by assumption))))) (cellC' (by (repeat (first | with_reducible exact Below.refl _ _ | with_reducible assumption | with_reducible refine Below.al ?_ _ | with_reducible refine Below.sc ?_ (by first | exact Nat.le_refl _ | (simp; done) | (simp; omega)) _ | assumption | exact Below.refl _ _ | refine Below.dr ?_ | refine Below.drN ?_ _ | refine Below.step ?_ (by assumption)))) k2) (cellC' (by (repeat (first | with_reducible exact Below.refl _ _ | with_reducible assumption | with_reducible refine Below.al ?_ _ | with_reducible refine Below.sc ?_ (by first | exact Nat.le_refl _ | (simp; done) | (simp; omega)) _ | assumption | exact Below.refl _ _ | refine Below.dr ?_ | refine Below.drN ?_ _ | refine Below.step ?_ (by assumption)))) y1) rfl (by omega) (by omega) bz.1 (by omega)).mono ?_
    rintro e w4 ⟨rfl, hb4⟩
    go_wp2
    go_ret
    exact ⟨ret_strs (by simp [Stp.org, sFrom, sAnd, sResL, sWithL]), by (repeat (first | with_reducible exact Below.refl _ _ | with_reducible assumption | with_reducible refine Below.al ?_ _ | with_reducible refine Below.sc ?_ (by first | exact Nat.le_refl _ | (simp; done) | (simp; omega)) _ | assumption | exact Below.refl _ _ | refine Below.dr ?_ | refine Below.drN ?_ _ | refine Below.step ?_ (by assumption)))⟩
  · obtain ⟨b1, o1, rfl, hx⟩ := ints_at HA.out (by simp)
    have x0 : w.cell? ⟨b1, o1 + 0, none⟩ = some (.int .i64 x) := hx 0 (by simp)
    obtain ⟨b, o, rfl, hy⟩ := ints_at HB.out (by simp)
    have y0 : w.cell? ⟨b, o + 0, none⟩ = some (.int .i64 a) := hy 0 (by simp)
    have y1 : w.cell? ⟨b, o + 1, none⟩ = some (.int .i64 z) := hy 1 (by simp)
    have ba := hw a (by simp)
    have lba := cnt_len ba.1 ba.2
    have bz := hw z (by simp)
    have lbz := cnt_len bz.1 bz.2
    have bx := hp x (by simp)
    have lbx := cnt_len bx.1 bx.2
    simp only [List.length_cons, List.length_nil, Nat.zero_add] at hc hd ⊢
    clear hp hw hy hx HC HA HB
    go_enter Tryz.func61, Tryz.ntmps61
    go_wp2_with fail
    obtain ⟨W, hW⟩ : ∃ W : World, W = w.alloc (.cells #[.int .i64 3, .slice (some ⟨b1, o1, none⟩) 1 c, .slice (some ⟨b, o, none⟩) 2 d, .slice r cl.length g] 51) := ⟨_, rfl⟩
    have k0 : W.cell? ⟨w.heap.size, 0, none⟩ = some (.int .i64 3) := by rw [hW]; go_simp
    have k1 : W.cell? ⟨w.heap.size, 1, none⟩ = some (.slice (some ⟨b1, o1, none⟩) 1 c) := by rw [hW]; go_simp
    have k2 : W.cell? ⟨w.heap.size, 2, none⟩ = some (.slice (some ⟨b, o, none⟩) 2 d) := by rw [hW]; go_simp
    have k3 : W.cell? ⟨w.heap.size, 3, none⟩ = some (.slice r cl.length g) := by rw [hW]; go_simp
    have HSW := Lib.hid (show W.heap.size = w.heap.size + 1 by rw [hW]; simp)
    have hbW : Below w.heap.size w W := by rw [hW]; (repeat (first | with_reducible exact Below.refl _ _ | with_reducible assumption | with_reducible refine Below.al ?_ _ | with_reducible refine Below.sc ?_ (by first | exact Nat.le_refl _ | (simp; done) | (simp; omega)) _ | assumption | exact Below.refl _ _ | refine Below.dr ?_ | refine Below.drN ?_ _ | refine Below.step ?_ (by assumption)))
    rw [← hW]
    clear hW
    have zW := bsz (World.block_lt_of_cell? _ _ k0)
    refine (parent_any w.heap.size b1 o1 c 0 1 _ x W (HE.out.below hbW) k1 (cellC' hbW x0) rfl (by omega) (by omega) bx.1 (by omega)).mono ?_
    rintro e w1 ⟨rfl, hb1⟩
    go_wp2_with fail
    refine (where_any w.heap.size b o d 0 2 _ a w1 (HE.out.below (by (repeat (first | with_reducible exact Below.refl _ _ | with_reducible assumption | with_reducible refine Below.al ?_ _ | with_reducible refine Below.sc ?_ (by first | exact Nat.le_refl _ | (simp; done) | (simp; omega)) _ | assumption | exact Below.refl _ _ | refine Below.dr ?_ | refine Below.drN ?_ _ | refine Below.step ?_ (by assumption))))) (cellC' (by (repeat (first | with_reducible exact Below.refl _ _ | with_reducible assumption | with_reducible refine Below.al ?_ _ | with_reducible refine Below.sc ?_ (by first | exact Nat.le_refl _ | (simp; done) | (simp; omega)) _ | assumption | exact Below.refl _ _ | refine Below.dr ?_ | refine Below.drN ?_ _ | refine Below.step ?_ (by assumption)))) k2) (cellC' (by (repeat (first | with_reducible exact Below.refl _ _ | with_reducible assumption | with_reducible refine Below.al ?_ _ | with_reducible refine Below.sc ?_ (by first | exact Nat.le_refl _ | (simp; done) | (simp; omega)) _ | assumption | exact Below.refl _ _ | refine Below.dr ?_ | refine Below.drN ?_ _ | refine Below.step ?_ (by assumption)))) y0) rfl (by omega) (by omega) ba.1 (by omega)).mono ?_
    rintro e w3 ⟨rfl, hb3⟩
    go_wp2_with fail
    refine (where_any w.heap.size b o d 1 2 _ z w3 (HE.out.below (by (repeat (first | with_reducible exact Below.refl _ _ | with_reducible assumption | with_reducible refine Below.al ?_ _ | with_reducible refine Below.sc ?_ (by first | exact Nat.le_refl _ | (simp; done) | (simp; omega)) _ | assumption | exact Below.refl _ _ | refine Below.dr ?_ | refine Below.drN ?_ _ | refine Below.step ?_ (by assumption))))) (cellC' (by (repeat (first | with_reducible exact Below.refl _ _ | with_reducible assumption | with_reducible refine Below.al ?_ _ | with_reducible refine Below.sc ?_ (by first | exact Nat.le_refl _ | (simp; done) | (simp; omega)) _ | assumption | exact Below.refl _ _ | refine Below.dr ?_ | refine Below.drN ?_ _ | refine Below.step ?_ (by assumption)))) k2) (cellC' (by (repeat (first | with_reducible exact Below.refl _ _ | with_reducible assumption | with_reducible refine Below.al ?_ _ | with_reducible refine Below.sc ?_ (by first | exact Nat.le_refl _ | (simp; done) | (simp; omega)) _ | assumption | exact Below.refl _ _ | refine Below.dr ?_ | refine Below.drN ?_ _ | refine Below.step ?_ (by assumption)))) y1) rfl (by omega) (by omega) bz.1 (by omega)).mono ?_
    rintro e w4 ⟨rfl, hb4⟩
    go_wp2
    go_ret
    exact ⟨ret_strs (by simp [Stp.org, sFrom, sAnd, sMerge]), by (repeat (first | with_reducible exact Below.refl _ _ | with_reducible assumption | with_reducible refine Below.al ?_ _ | with_reducible refine Below.sc ?_ (by first | exact Nat.le_refl _ | (simp; done) | (simp; omega)) _ | assumption | exact Below.refl _ _ | refine Below.dr ?_ | refine Below.drN ?_ _ | refine Below.step ?_ (by assumption)))⟩
  · obtain ⟨b1, o1, rfl, hx⟩ := ints_at HA.out (by simp)
    have x0 : w.cell? ⟨b1, o1 + 0, none⟩ = some (.int .i64 x) := hx 0 (by simp)
    have x1 : w.cell? ⟨b1, o1 + 1, none⟩ = some (.int .i64 y) := hx 1 (by simp)
    obtain ⟨b, o, rfl, hy⟩ := ints_at HB.out (by simp)
    have y0 : w.cell? ⟨b, o + 0, none⟩ = some (.int .i64 a) := hy 0 (by simp)
    have y1 : w.cell? ⟨b, o + 1, none⟩ = some (.int .i64 z) := hy 1 (by simp)
    have y2 : w.cell? ⟨b, o + 2, none⟩ = some (.int .i64 t) := hy 2 (by simp)
    have ba := hw a (by simp)
    have lba := cnt_len ba.1 ba.2
    have bt := hw t (by simp)
    have lbt := cnt_len bt.1 bt.2
    have bx := hp x (by simp)
    have lbx := cnt_len bx.1 bx.2
    have bY := hp y (by simp)
    have lbY := cnt_len bY.1 bY.2
    have lpl := posT_len hpl
    have HPL := Lib.hid hpl
    have h8 : l.length ≤ 8 := by simp only [posB, Bool.and_eq_true, decide_eq_true_eq] at hpl; exact hpl.1
    have HR := Lib.hid (show IntsAt B w (.slice (some ⟨b, o + 3, none⟩) l.length (d - 3)) l from ListAt.rest HB.out 3 (by simp))
    have HLB := Lib.hid (show ∀ n ∈ l, 0 ≤ n ∧ n ≤ 1000 from fun n hn => by have := hw n (by simp [hn]); omega)
    have HL0 := Lib.hid hl0
    have hlp := List.length_pos_iff.2 hl0
    have hi0 : (0 : Int) = ((0 : Nat) : Int) := rfl
    have hi1 : (1 : Int) = ((1 : Nat) : Int) := rfl
    have hi2 : (2 : Int) = ((2 : Nat) : Int) := rfl
    have HII := Lib.hid (And.intro hi0 (And.intro hi1 hi2))
    have zb := bsz (World.block_lt_of_cell? _ _ y1)
    simp only [List.length_cons, List.length_nil, Nat.zero_add] at hc hd ⊢
    have hd3 : ¬ d = 3 := by omega
    have hd3a : (3 : Int) ≤ (l.length : Int) + 1 + 1 + 1 := by omega
    have hd3b : (l.length : Int) + 1 + 1 + 1 ≤ d := by omega
    clear hp hw hy hx HC HA HB hpl hl0 hi0 hi1 hi2
    rcases hz with rfl | rfl
    all_goals
      go_enter Tryz.func61, Tryz.ntmps61
      go_wp2
      obtain ⟨W, hW⟩ : ∃ W : World, W = w.alloc (.cells #[.int .i64 4, .slice (some ⟨b1, o1, none⟩) 2 c, .slice (some ⟨b, o, none⟩) (l.length + 1 + 1 + 1) d, .slice r cl.length g] 51) := ⟨_, rfl⟩
      have k0 : W.cell? ⟨w.heap.size, 0, none⟩ = some (.int .i64 4) := by rw [hW]; go_simp
      have k1 : W.cell? ⟨w.heap.size, 1, none⟩ = some (.slice (some ⟨b1, o1, none⟩) 2 c) := by rw [hW]; go_simp
      have k2 : W.cell? ⟨w.heap.size, 2, none⟩ = some (.slice (some ⟨b, o, none⟩) (l.length + 1 + 1 + 1) d) := by rw [hW]; go_simp
      have k3 : W.cell? ⟨w.heap.size, 3, none⟩ = some (.slice r cl.length g) := by rw [hW]; go_simp
      have HSW := Lib.hid (show W.heap.size = w.heap.size + 1 by rw [hW]; simp)
      have hbW : Below w.heap.size w W := by rw [hW]; (repeat (first | with_reducible exact Below.refl _ _ | with_reducible assumption | with_reducible refine Below.al ?_ _ | with_reducible refine Below.sc ?_ (by first | exact Nat.le_refl _ | (simp; done) | (simp; omega)) _ | assumption | exact Below.refl _ _ | refine Below.dr ?_ | refine Below.drN ?_ _ | refine Below.step ?_ (by assumption)))
      rw [← hW]
      clear hW
      have zW := bsz (World.block_lt_of_cell? _ _ k0)
      obtain ⟨C, HC0⟩ := class_of (InF W.heap.size _ [(⟨w.heap.size, 1, none⟩, .slice (some ⟨b1, o1, none⟩) 2 c), (⟨w.heap.size, 2, none⟩, .slice (some ⟨b, o, none⟩) (l.length + 1 + 1 + 1) d)] [] [])
      have HC := Lib.hid HC0
      clear HC0
      refine wp_region_flow (C := C) (by kernel_rfl) (by kernel_rfl) (fun L hL => (HC.out _ _).2 (InF.start (by first | (intro _ hs; cases hs; done) | (simp only [List.forall_mem_cons]; go_simp)) (by first | (intro _ hs; cases hs; done) | (simp only [List.forall_mem_cons]; go_simp)) (by first | (intro _ hs; cases hs; done) | (simp only [List.forall_mem_cons]; go_simp)) (by first | (intro _ hs; cases hs; done) | (simp only [List.forall_mem_cons]; go_simp)) L hL)) ?_
      repeat (first | (apply flow_free rfl; (intro L w' hun hrd hC; have hC := (HC.out _ _).1 hC; have hb' := hC.below; (try have hw' : Below w.heap.size w w' := by first | exact Below.trans (by (repeat (first | with_reducible exact Below.refl _ _ | with_reducible assumption | with_reducible refine Below.al ?_ _ | with_reducible refine Below.sc ?_ (by first | exact Nat.le_refl _ | (simp; done) | (simp; omega)) _ | assumption | exact Below.refl _ _ | refine Below.dr ?_ | refine Below.drN ?_ _ | refine Below.step ?_ (by assumption)))) hb' | ((repeat (first | with_reducible exact Below.refl _ _ | with_reducible assumption | with_reducible refine Below.al ?_ _ | with_reducible refine Below.sc ?_ (by first | exact Nat.le_refl _ | (simp; done) | (simp; omega)) _ | assumption | exact Below.refl _ _ | refine Below.dr ?_ | refine Below.drN ?_ _ | refine Below.step ?_ (by assumption))); done)); have hf' := hC.cell; (try simp only [List.forall_mem_cons] at hf'); go_simp; first | exact ⟨(HC.out _ _).2 (hC.skip _ (by rfl)), rfl⟩ | (rw [if_neg]; (exact ⟨(HC.out _ _).2 (hC.skip _ (by rfl)), rfl⟩); omega) | (go_at_call 134; (with_reducible refine (parent_any w.heap.size b1 o1 c 0 2 _ x _ (HE.out.below hw') (cellC' hb' k1) (cellC' hw' x0) HII.out.1 (by omega) (by omega) bx.1 (by omega)).mono ?_); rintro e w1 ⟨rfl, hb1⟩; exact ⟨rfl, (HC.out _ _).2 ((hC.next (by first | (simp; done) | (simp; omega) | omega) hb1).skip _ (by rfl))⟩) | (go_at_call 134; (with_reducible refine (parent_any w.heap.size b1 o1 c 1 2 _ y _ (HE.out.below hw') (cellC' hb' k1) (cellC' hw' x1) HII.out.2.1 (by omega) (by omega) bY.1 (by omega)).mono ?_); rintro e w1 ⟨rfl, hb1⟩; exact ⟨rfl, (HC.out _ _).2 ((hC.next (by first | (simp; done) | (simp; omega) | omega) hb1).skip _ (by rfl))⟩) | (go_at_call 135; (with_reducible refine (where_any w.heap.size b o d 0 (l.length + 1 + 1 + 1) _ a _ (HE.out.below hw') (cellC' hb' k2) (cellC' hw' y0) HII.out.1 (by omega) (by omega) ba.1 (by omega)).mono ?_); rintro e w1 ⟨rfl, hb1⟩; exact ⟨rfl, (HC.out _ _).2 ((hC.next (by first | (simp; done) | (simp; omega) | omega) hb1).skip _ (by rfl))⟩) | (go_at_call 135; (with_reducible refine (where_any w.heap.size b o d 2 (l.length + 1 + 1 + 1) _ t _ (HE.out.below hw') (cellC' hb' k2) (cellC' hw' y2) HII.out.2.2 (by omega) (by omega) bt.1 (by omega)).mono ?_); rintro e w1 ⟨rfl, hb1⟩; exact ⟨rfl, (HC.out _ _).2 ((hC.next (by first | (simp; done) | (simp; omega) | omega) hb1).skip _ (by rfl))⟩) | (go_at_call 136; refine (formatPosition_any l _ _ (HR.out.below hw') HL0.out HLB.out (by omega) (HE.out.below hw')).mono ?_; rintro e w1 ⟨rfl, hb1⟩; exact ⟨rfl, (HC.out _ _).2 ((hC.next (by first | (simp; done) | (simp; omega) | omega) hb1).skip _ (by rfl))⟩)); go_simp) | (apply flow_yes; (case hw => go_simp); (intro L w' hun hrd hC; have hC := (HC.out _ _).1 hC; have hb' := hC.below; (try have hw' : Below w.heap.size w w' := by first | exact Below.trans (by (repeat (first | with_reducible exact Below.refl _ _ | with_reducible assumption | with_reducible refine Below.al ?_ _ | with_reducible refine Below.sc ?_ (by first | exact Nat.le_refl _ | (simp; done) | (simp; omega)) _ | assumption | exact Below.refl _ _ | refine Below.dr ?_ | refine Below.drN ?_ _ | refine Below.step ?_ (by assumption)))) hb' | ((repeat (first | with_reducible exact Below.refl _ _ | with_reducible assumption | with_reducible refine Below.al ?_ _ | with_reducible refine Below.sc ?_ (by first | exact Nat.le_refl _ | (simp; done) | (simp; omega)) _ | assumption | exact Below.refl _ _ | refine Below.dr ?_ | refine Below.drN ?_ _ | refine Below.step ?_ (by assumption))); done)); have hf' := hC.cell; (try simp only [List.forall_mem_cons] at hf'); go_simp; first | exact ⟨(HC.out _ _).2 (hC.skip _ (by rfl)), rfl⟩ | (rw [if_neg]; (exact ⟨(HC.out _ _).2 (hC.skip _ (by rfl)), rfl⟩); omega) | (go_at_call 134; (with_reducible refine (parent_any w.heap.size b1 o1 c 0 2 _ x _ (HE.out.below hw') (cellC' hb' k1) (cellC' hw' x0) HII.out.1 (by omega) (by omega) bx.1 (by omega)).mono ?_); rintro e w1 ⟨rfl, hb1⟩; exact ⟨rfl, (HC.out _ _).2 ((hC.next (by first | (simp; done) | (simp; omega) | omega) hb1).skip _ (by rfl))⟩) | (go_at_call 134; (with_reducible refine (parent_any w.heap.size b1 o1 c 1 2 _ y _ (HE.out.below hw') (cellC' hb' k1) (cellC' hw' x1) HII.out.2.1 (by omega) (by omega) bY.1 (by omega)).mono ?_); rintro e w1 ⟨rfl, hb1⟩; exact ⟨rfl, (HC.out _ _).2 ((hC.next (by first | (simp; done) | (simp; omega) | omega) hb1).skip _ (by rfl))⟩) | (go_at_call 135; (with_reducible refine (where_any w.heap.size b o d 0 (l.length + 1 + 1 + 1) _ a _ (HE.out.below hw') (cellC' hb' k2) (cellC' hw' y0) HII.out.1 (by omega) (by omega) ba.1 (by omega)).mono ?_); rintro e w1 ⟨rfl, hb1⟩; exact ⟨rfl, (HC.out _ _).2 ((hC.next (by first | (simp; done) | (simp; omega) | omega) hb1).skip _ (by rfl))⟩) | (go_at_call 135; (with_reducible refine (where_any w.heap.size b o d 2 (l.length + 1 + 1 + 1) _ t _ (HE.out.below hw') (cellC' hb' k2) (cellC' hw' y2) HII.out.2.2 (by omega) (by omega) bt.1 (by omega)).mono ?_); rintro e w1 ⟨rfl, hb1⟩; exact ⟨rfl, (HC.out _ _).2 ((hC.next (by first | (simp; done) | (simp; omega) | omega) hb1).skip _ (by rfl))⟩) | (go_at_call 136; refine (formatPosition_any l _ _ (HR.out.below hw') HL0.out HLB.out (by omega) (HE.out.below hw')).mono ?_; rintro e w1 ⟨rfl, hb1⟩; exact ⟨rfl, (HC.out _ _).2 ((hC.next (by first | (simp; done) | (simp; omega) | omega) hb1).skip _ (by rfl))⟩)); go_simp) | (apply flow_no; (case hw => (go_simp; try (intro hh; cases hh))); (intro L w' _ _ hC; exact (HC.out _ _).2 (((HC.out _ _).1 hC).skip _ (by rfl))); go_simp))
      refine flow_nil ?_
      intro L wz hL hz
      have hz := (HC.out _ _).1 hz
      have hbz := hz.below
      have hcz := hz.cell
      try simp only [List.forall_mem_cons] at hcz
      have hdz := hz.done
      try simp only [List.forall_mem_cons] at hdz
      (try have hwz : Below w.heap.size w wz := by first | exact Below.trans (by (repeat (first | with_reducible exact Below.refl _ _ | with_reducible assumption | with_reducible refine Below.al ?_ _ | with_reducible refine Below.sc ?_ (by first | exact Nat.le_refl _ | (simp; done) | (simp; omega)) _ | assumption | exact Below.refl _ _ | refine Below.dr ?_ | refine Below.drN ?_ _ | refine Below.step ?_ (by assumption)))) hbz | ((repeat (first | with_reducible exact Below.refl _ _ | with_reducible assumption | with_reducible refine Below.al ?_ _ | with_reducible refine Below.sc ?_ (by first | exact Nat.le_refl _ | (simp; done) | (simp; omega)) _ | assumption | exact Below.refl _ _ | refine Below.dr ?_ | refine Below.drN ?_ _ | refine Below.step ?_ (by assumption))); done))
      go_wp2
      go_ret
      exact ⟨ret_strs (by simp [Stp.org, sFrom, sAnd, sRepl, sAt, sWithL, sRead, sLeft, sRight]), Below.step hbW hbz⟩
  · obtain ⟨b1, o1, rfl, hx⟩ := ints_at HA.out (by simp)
    have x0 : w.cell? ⟨b1, o1 + 0, none⟩ = some (.int .i64 x) := hx 0 (by simp)
    obtain ⟨b, o, rfl, hy⟩ := ints_at HB.out (by simp)
    have y0 : w.cell? ⟨b, o + 0, none⟩ = some (.int .i64 a) := hy 0 (by simp)
    have ba := hw a (by simp)
    have lba := cnt_len ba.1 ba.2
    have bx := hp x (by simp)
    have lbx := cnt_len bx.1 bx.2
    simp only [List.length_cons, List.length_nil, Nat.zero_add] at hc hd ⊢
    clear hp hw hy hx HC HA HB
    go_enter Tryz.func61, Tryz.ntmps61
    go_wp2_with fail
    obtain ⟨W, hW⟩ : ∃ W : World, W = w.alloc (.cells #[.int .i64 5, .slice (some ⟨b1, o1, none⟩) 1 c, .slice (some ⟨b, o, none⟩) 1 d, .slice r cl.length g] 51) := ⟨_, rfl⟩
    have k0 : W.cell? ⟨w.heap.size, 0, none⟩ = some (.int .i64 5) := by rw [hW]; go_simp
    have k1 : W.cell? ⟨w.heap.size, 1, none⟩ = some (.slice (some ⟨b1, o1, none⟩) 1 c) := by rw [hW]; go_simp
    have k2 : W.cell? ⟨w.heap.size, 2, none⟩ = some (.slice (some ⟨b, o, none⟩) 1 d) := by rw [hW]; go_simp
    have k3 : W.cell? ⟨w.heap.size, 3, none⟩ = some (.slice r cl.length g) := by rw [hW]; go_simp
    have HSW := Lib.hid (show W.heap.size = w.heap.size + 1 by rw [hW]; simp)
    have hbW : Below w.heap.size w W := by rw [hW]; (repeat (first | with_reducible exact Below.refl _ _ | with_reducible assumption | with_reducible refine Below.al ?_ _ | with_reducible refine Below.sc ?_ (by first | exact Nat.le_refl _ | (simp; done) | (simp; omega)) _ | assumption | exact Below.refl _ _ | refine Below.dr ?_ | refine Below.drN ?_ _ | refine Below.step ?_ (by assumption)))
    rw [← hW]
    clear hW
    have zW := bsz (World.block_lt_of_cell? _ _ k0)
    refine (parent_any w.heap.size b1 o1 c 0 1 _ x W (HE.out.below hbW) k1 (cellC' hbW x0) rfl (by omega) (by omega) bx.1 (by omega)).mono ?_
    rintro e w1 ⟨rfl, hb1⟩
    go_wp2_with fail
    refine (where_any w.heap.size b o d 0 1 _ a w1 (HE.out.below (by (repeat (first | with_reducible exact Below.refl _ _ | with_reducible assumption | with_reducible refine Below.al ?_ _ | with_reducible refine Below.sc ?_ (by first | exact Nat.le_refl _ | (simp; done) | (simp; omega)) _ | assumption | exact Below.refl _ _ | refine Below.dr ?_ | refine Below.drN ?_ _ | refine Below.step ?_ (by assumption))))) (cellC' (by (repeat (first | with_reducible exact Below.refl _ _ | with_reducible assumption | with_reducible refine Below.al ?_ _ | with_reducible refine Below.sc ?_ (by first | exact Nat.le_refl _ | (simp; done) | (simp; omega)) _ | assumption | exact Below.refl _ _ | refine Below.dr ?_ | refine Below.drN ?_ _ | refine Below.step ?_ (by assumption)))) k2) (cellC' (by (repeat (first | with_reducible exact Below.refl _ _ | with_reducible assumption | with_reducible refine Below.al ?_ _ | with_reducible refine Below.sc ?_ (by first | exact Nat.le_refl _ | (simp; done) | (simp; omega)) _ | assumption | exact Below.refl _ _ | refine Below.dr ?_ | refine Below.drN ?_ _ | refine Below.step ?_ (by assumption)))) y0) rfl (by omega) (by omega) ba.1 (by omega)).mono ?_
    rintro e w3 ⟨rfl, hb3⟩
    go_wp2
    go_ret
    exact ⟨ret_strs (by simp [Stp.org, sFrom, sRem]), by (repeat (first | with_reducible exact Below.refl _ _ | with_reducible assumption | with_reducible refine Below.al ?_ _ | with_reducible refine Below.sc ?_ (by first | exact Nat.le_refl _ | (simp; done) | (simp; omega)) _ | assumption | exact Below.refl _ _ | refine Below.dr ?_ | refine Below.drN ?_ _ | refine Below.step ?_ (by assumption)))⟩
  · obtain ⟨b1, o1, rfl, hx⟩ := ints_at HA.out (by simp)
    have x0 : w.cell? ⟨b1, o1 + 0, none⟩ = some (.int .i64 x) := hx 0 (by simp)
    have bx := hp x (by simp)
    have lbx := cnt_len bx.1 bx.2
    have HLB := Lib.hid (show ∀ n ∈ l, 0 ≤ n ∧ n ≤ 99 from fun n hn => hp n (by simp [hn]))
    have lrw := rewT_len HLB.out hl10
    have HL := Lib.hid (show IntsAt B w (.slice (some ⟨b1, o1 + 1, none⟩) l.length (c - 1)) l from ListAt.rest HA.out 1 (by simp))
    have hlp := List.length_pos_iff.2 hl0
    simp only [List.length_cons, List.length_nil] at hc hd ⊢
    have hc1 : ¬ c = 1 := by omega
    have hc1a : (1 : Int) ≤ (l.length : Int) + 1 := by omega
    have hc1b : (l.length : Int) + 1 ≤ c := by omega
    clear hp hw hx HC HA HB hl0
    go_enter Tryz.func61, Tryz.ntmps61
    go_wp2
    obtain ⟨W, hW⟩ : ∃ W : World, W = w.alloc (.cells #[.int .i64 6, .slice (some ⟨b1, o1, none⟩) (l.length + 1) c, .slice q 0 d, .slice r cl.length g] 51) := ⟨_, rfl⟩
    have k0 : W.cell? ⟨w.heap.size, 0, none⟩ = some (.int .i64 6) := by rw [hW]; go_simp
    have k1 : W.cell? ⟨w.heap.size, 1, none⟩ = some (.slice (some ⟨b1, o1, none⟩) (l.length + 1) c) := by rw [hW]; go_simp
    have k2 : W.cell? ⟨w.heap.size, 2, none⟩ = some (.slice q 0 d) := by rw [hW]; go_simp
    have k3 : W.cell? ⟨w.heap.size, 3, none⟩ = some (.slice r cl.length g) := by rw [hW]; go_simp
    have HSW := Lib.hid (show W.heap.size = w.heap.size + 1 by rw [hW]; simp)
    have hbW : Below w.heap.size w W := by rw [hW]; (repeat (first | with_reducible exact Below.refl _ _ | with_reducible assumption | with_reducible refine Below.al ?_ _ | with_reducible refine Below.sc ?_ (by first | exact Nat.le_refl _ | (simp; done) | (simp; omega)) _ | assumption | exact Below.refl _ _ | refine Below.dr ?_ | refine Below.drN ?_ _ | refine Below.step ?_ (by assumption)))
    rw [← hW]
    clear hW
    have zW := bsz (World.block_lt_of_cell? _ _ k0)
    have hzw1 : w.heap.size + 1 ≤ W.heap.size := by have := HSW.out; omega
    go_loopw [6, 93] (NumsRel l cnt (w.heap.size + 1) W) (fun _ i _ => l.length - (intOf i).toNat)
    case atStart => exact ⟨0, Nat.zero_le _, rfl, by have := row_empty W (w.heap.size + 1) 9 1 (by omega); rw [HSW.out] at this; exact this, by (repeat (first | with_reducible exact Below.refl _ _ | with_reducible assumption | with_reducible refine Below.al ?_ _ | with_reducible refine Below.sc ?_ (by first | exact Nat.le_refl _ | (simp; done) | (simp; omega)) _ | assumption | exact Below.refl _ _ | refine Below.dr ?_ | refine Below.drN ?_ _ | refine Below.step ?_ (by assumption)))⟩
    case round =>
      obtain ⟨k, hk, rfl, ho, hb⟩ := hrel
      have HO := Lib.hid ho
      have hqr := hb.size
      have hbo := Below.step hbW hb
      clear ho
      by_cases hlt : k < l.length
      · obtain ⟨b', o', he, hB, hx0, -⟩ := (HL.out.below hbo).at_ hlt
        simp only [Option.some.injEq, Addr.mk.injEq, and_true] at he
        obtain ⟨rfl, rfl⟩ := he
        have hxb := HLB.out _ (List.getElem_mem hlt)
        have HT := Lib.hid (nums_take (tx := cnt) hlt)
        obtain ⟨a, ha⟩ : ∃ a, l[k] = a := ⟨_, rfl⟩
        rw [ha] at hx0 hxb HT
        have zb := bsz (World.block_lt_of_cell? _ _ hx0)
        clear ha
        go_wp2_with fail
        refine (count_any a _ (by omega) (by omega) (HE.out.below hbo)).mono ?_
        rintro e w2 ⟨rfl, hb2⟩
        have hq2 := hb2.size
        have HO1 := Lib.hid (own_below HO.out hb2)
        have hb3 : Below W.heap.size W w2 := Below.step hb hb2
        go_wp2_with (at_builtin; refine wpList_app1 rfl (.tmp 97) (.tmp 100) _ rfl (w.heap.size + 1) 9 1 16 elemStr _ _ _ rfl w2 #[.string ⟨(cnt a).toArray⟩] rfl _ (by simp) rfl HO1.out rfl (by simp [Value.oneCell']) (by omega) (by unfold maxLen; omega) (by omega) ?_; intro v1 w3 hown1 hg1 hnr1 hlt1)
        refine ⟨⟨k + 1, by omega, by go_num, ?_, hb3.grown hg1 (by omega) (fun k hk => by have := own_base HO1.out k hk; have := HSW.out; omega)⟩, by simp [intOf]; omega⟩
        rw [HT.out]; exact hown1
      · obtain rfl : k = l.length := by omega
        have ho := HO.out
        rw [show l.length = (l.map cnt).length by rw [List.length_map], List.take_length] at ho
        have HO2 := Lib.hid ho
        clear ho HO
        go_wp2_with fail
        refine (parent_any w.heap.size b1 o1 c 0 (l.length + 1) _ x wr (HE.out.below hbo) (cellC' hb k1) (cellC' hbo x0) rfl (by omega) (by omega) bx.1 (by omega)).mono ?_
        rintro e w2 ⟨rfl, hb2⟩
        go_wp2_with fail
        refine (join_own sComma _ (own_below HO2.out hb2) (by rw [List.length_map]; omega) (by omega)).mono ?_
        rintro e w3 ⟨rfl, hb3⟩
        go_wp2
        go_ret
        exact ⟨ret_strs (by simp [Stp.org, sFrom, sRew]), by (repeat (first | with_reducible exact Below.refl _ _ | with_reducible assumption | with_reducible refine Below.al ?_ _ | with_reducible refine Below.sc ?_ (by first | exact Nat.le_refl _ | (simp; done) | (simp; omega)) _ | assumption | exact Below.refl _ _ | refine Below.dr ?_ | refine Below.drN ?_ _ | refine Below.step ?_ (by assumption)))⟩
end Go.Proofs.YtcegllnljaapiaaGreatDoor
namespace Go.Proofs.YtcegllnljaapiaaGreatDoor
open Go.RowKit
set_option maxRecDepth 100000 in
theorem notEarlier_any (n k : Int) (g : Nat) (w : World) (hk : 0 ≤ k ∧ k ≤ 59) (hg : w.cell? ⟨g, 0, none⟩ = some (.int .i64 k)) : Calls Tryz.prog 58 #[.int .i64 n, .pointer (some ⟨g, 0, none⟩)] w fun e w' => e = .returned (.bool (!inB n 0 (k - 1))) ∧ Below w.heap.size w w' := by
  have zg := bsz (World.block_lt_of_cell? _ _ hg)
  go_enter Tryz.func58, Tryz.ntmps58
  go_wp2_with (first | (go_at_call 54; refine (within_any _ _ _ _).mono ?_; rintro e w' ⟨rfl, rfl⟩))
  go_ret
  exact ⟨rfl, by (repeat (first | with_reducible exact Below.refl _ _ | with_reducible assumption | with_reducible refine Below.al ?_ _ | with_reducible refine Below.sc ?_ (by first | exact Nat.le_refl _ | (simp; done) | (simp; omega)) _ | assumption | exact Below.refl _ _ | refine Below.dr ?_ | refine Below.drN ?_ _ | refine Below.step ?_ (by assumption)))⟩
set_option maxRecDepth 100000 in
theorem notIndex_any (n : Int) (w : World) : Calls Tryz.prog 59 #[.int .i64 n] w fun e w' => e = .returned (.bool (!in99 n)) ∧ Below w.heap.size w w' := by
  go_enter Tryz.func59, Tryz.ntmps59
  go_wp2_with (first | (go_at_call 54; refine (within_any _ _ _ _).mono ?_; rintro e w' ⟨rfl, rfl⟩))
  go_ret
  exact ⟨rfl, by (repeat (first | with_reducible exact Below.refl _ _ | with_reducible assumption | with_reducible refine Below.al ?_ _ | with_reducible refine Below.sc ?_ (by first | exact Nat.le_refl _ | (simp; done) | (simp; omega)) _ | assumption | exact Below.refl _ _ | refine Below.dr ?_ | refine Below.drN ?_ _ | refine Below.step ?_ (by assumption)))⟩
set_option maxRecDepth 100000 in
set_option maxHeartbeats 1600000 in
theorem idxEar {B : Nat → Prop} (P : Int → Bool) (us : List Int) (g : Addr) (va : Value) (w : World) (HC : ∀ (a : Int) (w' : World), a ∈ us → i64B a → Below w.heap.size w w' → Calls Tryz.prog 58 #[.int .i64 a, .pointer (some g)] w' fun e w'' => e = .returned (.bool (P a)) ∧ Below w'.heap.size w' w'')
    (h : IntsAt B w va us) : Calls Tryz.prog 133 #[va, .func (.func 58) #[] #[.pointer (some g)]] w (FirstI (firstI P 0 us) w) := by
  obtain ⟨p, c, rfl, hlen⟩ := h.form
  unfold maxLen at hlen
  have H := Lib.hid h
  have HN1 := Lib.hid HC
  clear h HC
  go_enter Tryz.func133, Tryz.ntmps133
  go_wp2
  go_loopw [8] (fun i wr => ∃ k : Nat, k ≤ us.length ∧ i = .int .i64 k ∧ firstI P 0 us = firstI P k (us.drop k) ∧ Below w.heap.size w wr) (fun i _ => us.length - (intOf i).toNat)
  case atStart => exact ⟨0, Nat.zero_le _, rfl, rfl, by (repeat (first | with_reducible exact Below.refl _ _ | with_reducible assumption | with_reducible refine Below.al ?_ _ | with_reducible refine Below.sc ?_ (by first | exact Nat.le_refl _ | (simp; done) | (simp; omega)) _ | assumption | exact Below.refl _ _ | refine Below.dr ?_ | refine Below.drN ?_ _ | refine Below.step ?_ (by assumption)))⟩
  case round =>
    obtain ⟨k, hk, rfl, he, hb⟩ := hrel
    have HE := Lib.hid he
    clear he
    by_cases hlt : k < us.length
    · obtain ⟨b, o, rfl, hB, hx0, hxs⟩ := (H.out.below hb).at_ hlt
      have HD := Lib.hid (firstI_drop P hlt)
      have hm := List.getElem_mem hlt
      obtain ⟨a, ha⟩ : ∃ a, us[k] = a := ⟨_, rfl⟩
      rw [ha] at hx0 hxs HD hm
      clear ha
      have zb := bsz (World.block_lt_of_cell? _ _ hx0)
      cases hN : P a
      all_goals
        have HN := Lib.hid hN
        go_wp2_with fail
        refine (HN1.out a _ hm hxs (by (repeat (first | with_reducible exact Below.refl _ _ | with_reducible assumption | with_reducible refine Below.al ?_ _ | with_reducible refine Below.sc ?_ (by first | exact Nat.le_refl _ | (simp; done) | (simp; omega)) _ | assumption | exact Below.refl _ _ | refine Below.dr ?_ | refine Below.drN ?_ _ | refine Below.step ?_ (by assumption))))).mono ?_
        rintro e w1 ⟨rfl, hb1⟩
        have ⟨cw1, fw1⟩ := bcell hb1
        have qw1 := hb1.size
        (try simp at qw1)
        (try have zw1w := bsz (show w.heap.size < w1.heap.size by omega))
        rw [HN.out]
        go_wp2
      · refine ⟨⟨k + 1, by omega, by go_num, ?_, by (repeat (first | with_reducible exact Below.refl _ _ | with_reducible assumption | with_reducible refine Below.al ?_ _ | with_reducible refine Below.sc ?_ (by first | exact Nat.le_refl _ | (simp; done) | (simp; omega)) _ | assumption | exact Below.refl _ _ | refine Below.dr ?_ | refine Below.drN ?_ _ | refine Below.step ?_ (by assumption)))⟩, by simp [intOf]; omega⟩
        rw [HE.out, HD.out, HN.out]; rfl
      · go_ret
        exact ⟨_, rfl, by rw [HE.out, HD.out, HN.out]; rfl, by (repeat (first | with_reducible exact Below.refl _ _ | with_reducible assumption | with_reducible refine Below.al ?_ _ | with_reducible refine Below.sc ?_ (by first | exact Nat.le_refl _ | (simp; done) | (simp; omega)) _ | assumption | exact Below.refl _ _ | refine Below.dr ?_ | refine Below.drN ?_ _ | refine Below.step ?_ (by assumption)))⟩
    · obtain rfl : k = us.length := by omega
      have he := HE.out
      rw [List.drop_length] at he
      have HE2 := Lib.hid he
      clear he
      go_wp2
      go_ret
      exact ⟨-1, rfl, by rw [HE2.out]; rfl, by (repeat (first | with_reducible exact Below.refl _ _ | with_reducible assumption | with_reducible refine Below.al ?_ _ | with_reducible refine Below.sc ?_ (by first | exact Nat.le_refl _ | (simp; done) | (simp; omega)) _ | assumption | exact Below.refl _ _ | refine Below.dr ?_ | refine Below.drN ?_ _ | refine Below.step ?_ (by assumption)))⟩
theorem containsEar {B : Nat → Prop} (P : Int → Bool) (us : List Int) (g : Addr) (va : Value) (w : World) (HC : ∀ (a : Int) (w' : World), a ∈ us → i64B a → Below w.heap.size w w' → Calls Tryz.prog 58 #[.int .i64 a, .pointer (some g)] w' fun e w'' => e = .returned (.bool (P a)) ∧ Below w'.heap.size w' w'')
    (h : IntsAt B w va us) : Calls Tryz.prog 57 #[va, .func (.func 58) #[] #[.pointer (some g)]] w fun e w' => e = .returned (.bool (us.any P)) ∧ Below w.heap.size w w' := by
  have HX := Lib.hid (fun (w' : World) (hb : Below w.heap.size w w') => idxEar (B := B) P us g va w' (fun a w2 ha hi hb2 => HC a w2 ha hi (Below.step hb hb2)) (h.below hb))
  clear h HC
  go_enter Tryz.func57, Tryz.ntmps57
  go_wp2_with fail
  refine (HX.out _ (by (repeat (first | with_reducible exact Below.refl _ _ | with_reducible assumption | with_reducible refine Below.al ?_ _ | with_reducible refine Below.sc ?_ (by first | exact Nat.le_refl _ | (simp; done) | (simp; omega)) _ | assumption | exact Below.refl _ _ | refine Below.dr ?_ | refine Below.drN ?_ _ | refine Below.step ?_ (by assumption))))).mono ?_
  rintro e w1 ⟨r, rfl, hr, hb1⟩
  have HR := Lib.hid (show decide (0 ≤ r) = us.any P by rw [hr, atI_neg, firstI_any])
  clear hr
  go_wp2
  go_ret
  exact ⟨ret_bool HR.out, by (repeat (first | with_reducible exact Below.refl _ _ | with_reducible assumption | with_reducible refine Below.al ?_ _ | with_reducible refine Below.sc ?_ (by first | exact Nat.le_refl _ | (simp; done) | (simp; omega)) _ | assumption | exact Below.refl _ _ | refine Below.dr ?_ | refine Below.drN ?_ _ | refine Below.step ?_ (by assumption)))⟩
set_option maxRecDepth 100000 in
set_option maxHeartbeats 1600000 in
theorem idxIx {B : Nat → Prop} (P : Int → Bool) (us : List Int) (va : Value) (w : World) (HC : ∀ (a : Int) (w' : World), a ∈ us → i64B a → Below w.heap.size w w' → Calls Tryz.prog 59 #[.int .i64 a] w' fun e w'' => e = .returned (.bool (P a)) ∧ Below w'.heap.size w' w'')
    (h : IntsAt B w va us) : Calls Tryz.prog 133 #[va, .func (.func 59) #[] #[]] w (FirstI (firstI P 0 us) w) := by
  obtain ⟨p, c, rfl, hlen⟩ := h.form
  unfold maxLen at hlen
  have H := Lib.hid h
  have HN1 := Lib.hid HC
  clear h HC
  go_enter Tryz.func133, Tryz.ntmps133
  go_wp2
  go_loopw [8] (fun i wr => ∃ k : Nat, k ≤ us.length ∧ i = .int .i64 k ∧ firstI P 0 us = firstI P k (us.drop k) ∧ Below w.heap.size w wr) (fun i _ => us.length - (intOf i).toNat)
  case atStart => exact ⟨0, Nat.zero_le _, rfl, rfl, by (repeat (first | with_reducible exact Below.refl _ _ | with_reducible assumption | with_reducible refine Below.al ?_ _ | with_reducible refine Below.sc ?_ (by first | exact Nat.le_refl _ | (simp; done) | (simp; omega)) _ | assumption | exact Below.refl _ _ | refine Below.dr ?_ | refine Below.drN ?_ _ | refine Below.step ?_ (by assumption)))⟩
  case round =>
    obtain ⟨k, hk, rfl, he, hb⟩ := hrel
    have HE := Lib.hid he
    clear he
    by_cases hlt : k < us.length
    · obtain ⟨b, o, rfl, hB, hx0, hxs⟩ := (H.out.below hb).at_ hlt
      have HD := Lib.hid (firstI_drop P hlt)
      have hm := List.getElem_mem hlt
      obtain ⟨a, ha⟩ : ∃ a, us[k] = a := ⟨_, rfl⟩
      rw [ha] at hx0 hxs HD hm
      clear ha
      have zb := bsz (World.block_lt_of_cell? _ _ hx0)
      cases hN : P a
      all_goals
        have HN := Lib.hid hN
        go_wp2_with fail
        refine (HN1.out a _ hm hxs (by (repeat (first | with_reducible exact Below.refl _ _ | with_reducible assumption | with_reducible refine Below.al ?_ _ | with_reducible refine Below.sc ?_ (by first | exact Nat.le_refl _ | (simp; done) | (simp; omega)) _ | assumption | exact Below.refl _ _ | refine Below.dr ?_ | refine Below.drN ?_ _ | refine Below.step ?_ (by assumption))))).mono ?_
        rintro e w1 ⟨rfl, hb1⟩
        have ⟨cw1, fw1⟩ := bcell hb1
        have qw1 := hb1.size
        (try simp at qw1)
        (try have zw1w := bsz (show w.heap.size < w1.heap.size by omega))
        rw [HN.out]
        go_wp2
      · refine ⟨⟨k + 1, by omega, by go_num, ?_, by (repeat (first | with_reducible exact Below.refl _ _ | with_reducible assumption | with_reducible refine Below.al ?_ _ | with_reducible refine Below.sc ?_ (by first | exact Nat.le_refl _ | (simp; done) | (simp; omega)) _ | assumption | exact Below.refl _ _ | refine Below.dr ?_ | refine Below.drN ?_ _ | refine Below.step ?_ (by assumption)))⟩, by simp [intOf]; omega⟩
        rw [HE.out, HD.out, HN.out]; rfl
      · go_ret
        exact ⟨_, rfl, by rw [HE.out, HD.out, HN.out]; rfl, by (repeat (first | with_reducible exact Below.refl _ _ | with_reducible assumption | with_reducible refine Below.al ?_ _ | with_reducible refine Below.sc ?_ (by first | exact Nat.le_refl _ | (simp; done) | (simp; omega)) _ | assumption | exact Below.refl _ _ | refine Below.dr ?_ | refine Below.drN ?_ _ | refine Below.step ?_ (by assumption)))⟩
    · obtain rfl : k = us.length := by omega
      have he := HE.out
      rw [List.drop_length] at he
      have HE2 := Lib.hid he
      clear he
      go_wp2
      go_ret
      exact ⟨-1, rfl, by rw [HE2.out]; rfl, by (repeat (first | with_reducible exact Below.refl _ _ | with_reducible assumption | with_reducible refine Below.al ?_ _ | with_reducible refine Below.sc ?_ (by first | exact Nat.le_refl _ | (simp; done) | (simp; omega)) _ | assumption | exact Below.refl _ _ | refine Below.dr ?_ | refine Below.drN ?_ _ | refine Below.step ?_ (by assumption)))⟩
theorem containsIx {B : Nat → Prop} (P : Int → Bool) (us : List Int) (va : Value) (w : World) (HC : ∀ (a : Int) (w' : World), a ∈ us → i64B a → Below w.heap.size w w' → Calls Tryz.prog 59 #[.int .i64 a] w' fun e w'' => e = .returned (.bool (P a)) ∧ Below w'.heap.size w' w'')
    (h : IntsAt B w va us) : Calls Tryz.prog 57 #[va, .func (.func 59) #[] #[]] w fun e w' => e = .returned (.bool (us.any P)) ∧ Below w.heap.size w w' := by
  have HX := Lib.hid (fun (w' : World) (hb : Below w.heap.size w w') => idxIx (B := B) P us va w' (fun a w2 ha hi hb2 => HC a w2 ha hi (Below.step hb hb2)) (h.below hb))
  clear h HC
  go_enter Tryz.func57, Tryz.ntmps57
  go_wp2_with fail
  refine (HX.out _ (by (repeat (first | with_reducible exact Below.refl _ _ | with_reducible assumption | with_reducible refine Below.al ?_ _ | with_reducible refine Below.sc ?_ (by first | exact Nat.le_refl _ | (simp; done) | (simp; omega)) _ | assumption | exact Below.refl _ _ | refine Below.dr ?_ | refine Below.drN ?_ _ | refine Below.step ?_ (by assumption))))).mono ?_
  rintro e w1 ⟨r, rfl, hr, hb1⟩
  have HR := Lib.hid (show decide (0 ≤ r) = us.any P by rw [hr, atI_neg, firstI_any])
  clear hr
  go_wp2
  go_ret
  exact ⟨ret_bool HR.out, by (repeat (first | with_reducible exact Below.refl _ _ | with_reducible assumption | with_reducible refine Below.al ?_ _ | with_reducible refine Below.sc ?_ (by first | exact Nat.le_refl _ | (simp; done) | (simp; omega)) _ | assumption | exact Below.refl _ _ | refine Below.dr ?_ | refine Below.drN ?_ _ | refine Below.step ?_ (by assumption)))⟩
theorem all_bd {l : List Int} {a b : Int} (h : l.all (fun n => inB n a b) = true) : ∀ x ∈ l, a ≤ x ∧ x ≤ b := fun x hx => by
  have := List.all_eq_true.1 h x hx
  simpa [inB] using this
set_option maxRecDepth 100000 in
set_option maxHeartbeats 6400000 in
theorem implSTE_any {B : Nat → Prop} (m : Nat) (s : Stp) (p q r : Option Addr) (c d g : Nat) (k : Int) (w : World) (h : StpAt B m w s [.int .i64 s.rule, .slice p s.ps.length c, .slice q s.wh.length d, .slice r s.c.length g]) (hc : s.ps.length ≤ c) (hd : s.wh.length ≤ d) (hg : s.c.length ≤ g) (hz : s.wt ≤ 1048576) (hE : Env w) :
    Calls Tryz.prog 20 #[.agg #[.int .i64 s.rule, .slice p s.ps.length c, .slice q s.wh.length d, .slice r s.c.length g], .int .i64 k] w fun e w' => e = .returned (.tuple #[.string ⟨(s.engG k).toArray⟩, .bool (s.good k)]) ∧ Below w.heap.size w w' := by
  obtain ⟨_, _, _, _, _, _, -, -, -, -, hr, l1, l2, l3, ha, hb, hcl⟩ := h.form
  unfold maxLen at l1 l2 l3
  have H := Lib.hid h
  have HA := Lib.hid ha
  have HB := Lib.hid hb
  have HC := Lib.hid hcl
  have HE := Lib.hid hE
  have HCP := Lib.hid (And.intro hc (And.intro hd hg))
  have HG := Lib.hid (show s.good k = (inB k 0 59 && (s.nums && s.ps.all (fun n => inB n 0 (k - 1)) && s.wh.all in99) && Cls.good s.c) from rfl)
  have HEG := Lib.hid (show s.engG k = if s.good k then s.eng k else [] from rfl)
  have hzw : Cls.wts s.c ≤ 1048576 := by unfold Stp.wt at hz; omega
  have HZ := Lib.hid (show ∀ l ∈ s.c, l.a.sz ≤ 100000000 from fun l hl => by have h1 := Cls.wts_le s.c l hl; have h2 := l.a.sz_wt; omega)
  clear h ha hb hcl hE hc hd hg hr
  go_enter Tryz.func20, Tryz.ntmps20
  go_wp2_with fail
  obtain ⟨W, hW⟩ : ∃ W : World, W = (w.alloc (.cells #[.int .i64 s.rule, .slice p s.ps.length c, .slice q s.wh.length d, .slice r s.c.length g] 51)).alloc (.cells #[.int .i64 k] 3) := ⟨_, rfl⟩
  have k0 : W.cell? ⟨w.heap.size, 0, none⟩ = some (.int .i64 s.rule) := by rw [hW]; go_simp
  have k1 : W.cell? ⟨w.heap.size, 1, none⟩ = some (.slice p s.ps.length c) := by rw [hW]; go_simp
  have k2 : W.cell? ⟨w.heap.size, 2, none⟩ = some (.slice q s.wh.length d) := by rw [hW]; go_simp
  have k3 : W.cell? ⟨w.heap.size, 3, none⟩ = some (.slice r s.c.length g) := by rw [hW]; go_simp
  have kk : W.cell? ⟨w.heap.size + 1, 0, none⟩ = some (.int .i64 k) := by rw [hW]; go_simp
  have hbW : Below w.heap.size w W := by rw [hW]; (repeat (first | with_reducible exact Below.refl _ _ | with_reducible assumption | with_reducible refine Below.al ?_ _ | with_reducible refine Below.sc ?_ (by first | exact Nat.le_refl _ | (simp; done) | (simp; omega)) _ | assumption | exact Below.refl _ _ | refine Below.dr ?_ | refine Below.drN ?_ _ | refine Below.step ?_ (by assumption)))
  rw [← hW]
  clear hW
  have zW := bsz (World.block_lt_of_cell? _ _ k0)
  have zK := bsz (World.block_lt_of_cell? _ _ kk)
  refine (within_any k 0 59 _).mono ?_
  rintro e w1 ⟨rfl, rfl⟩
  cases hi : inB k 0 59
  · have HI := Lib.hid (show s.good k = false by rw [HG.out, hi]; rfl)
    clear hi
    go_wp2
    go_ret2
    exact ⟨by rw [HEG.out, HI.out]; rfl, by (repeat (first | with_reducible exact Below.refl _ _ | with_reducible assumption | with_reducible refine Below.al ?_ _ | with_reducible refine Below.sc ?_ (by first | exact Nat.le_refl _ | (simp; done) | (simp; omega)) _ | assumption | exact Below.refl _ _ | refine Below.dr ?_ | refine Below.drN ?_ _ | refine Below.step ?_ (by assumption)))⟩
  have hkb : 0 ≤ k ∧ k ≤ 59 := by simpa [inB] using hi
  have HI := Lib.hid hi
  clear hi
  go_wp2_with fail
  refine (hasNumbers_any m s p q c d _ W (H.out.below hbW) HCP.out.2.1).mono ?_
  rintro e w2 ⟨rfl, hb2⟩
  have j1 := cellC' hb2 k1
  have j2 := cellC' hb2 k2
  have j3 := cellC' hb2 k3
  have jk := cellC' hb2 kk
  have z2 := bsz (World.block_lt_of_cell? _ _ j1)
  cases hn : s.nums
  · have HI := Lib.hid (show s.good k = false by rw [HG.out, hn]; simp)
    clear hn
    go_wp2
    go_ret2
    exact ⟨by rw [HEG.out, HI.out]; rfl, by (repeat (first | with_reducible exact Below.refl _ _ | with_reducible assumption | with_reducible refine Below.al ?_ _ | with_reducible refine Below.sc ?_ (by first | exact Nat.le_refl _ | (simp; done) | (simp; omega)) _ | assumption | exact Below.refl _ _ | refine Below.dr ?_ | refine Below.drN ?_ _ | refine Below.step ?_ (by assumption)))⟩
  have HN := Lib.hid hn
  clear hn
  go_wp2_with fail
  refine (isValidClause_any m s.c _ w2 (ClsAt.below (by (repeat (first | with_reducible exact Below.refl _ _ | with_reducible assumption | with_reducible refine Below.al ?_ _ | with_reducible refine Below.sc ?_ (by first | exact Nat.le_refl _ | (simp; done) | (simp; omega)) _ | assumption | exact Below.refl _ _ | refine Below.dr ?_ | refine Below.drN ?_ _ | refine Below.step ?_ (by assumption)))) HC.out) HZ.out).mono ?_
  rintro e w3 ⟨rfl, hb3⟩
  have i0 := cellC' (Below.step hb2 hb3) k0
  have i1 := cellC' hb3 j1
  have i2 := cellC' hb3 j2
  have i3 := cellC' hb3 j3
  have ik := cellC' hb3 jk
  have z3 := bsz (World.block_lt_of_cell? _ _ i1)
  have z3k := bsz (World.block_lt_of_cell? _ _ ik)
  cases hv : Cls.good s.c
  · have HI := Lib.hid (show s.good k = false by rw [HG.out, hv]; simp)
    clear hv
    go_wp2
    go_ret2
    exact ⟨by rw [HEG.out, HI.out]; rfl, by (repeat (first | with_reducible exact Below.refl _ _ | with_reducible assumption | with_reducible refine Below.al ?_ _ | with_reducible refine Below.sc ?_ (by first | exact Nat.le_refl _ | (simp; done) | (simp; omega)) _ | assumption | exact Below.refl _ _ | refine Below.dr ?_ | refine Below.drN ?_ _ | refine Below.step ?_ (by assumption)))⟩
  have HV := Lib.hid hv
  clear hv k0 k1 k2 k3 kk j1 j2 j3 jk
  go_wp2_with fail
  refine (containsEar (fun n => !inB n 0 (k - 1)) s.ps ⟨w.heap.size + 1, 0, none⟩ _ w3 (fun a w' _ _ hb' => notEarlier_any a k _ w' hkb (cellC' hb' ik)) (HA.out.below (by (repeat (first | with_reducible exact Below.refl _ _ | with_reducible assumption | with_reducible refine Below.al ?_ _ | with_reducible refine Below.sc ?_ (by first | exact Nat.le_refl _ | (simp; done) | (simp; omega)) _ | assumption | exact Below.refl _ _ | refine Below.dr ?_ | refine Below.drN ?_ _ | refine Below.step ?_ (by assumption)))))).mono ?_
  rintro e w4 ⟨rfl, hb4⟩
  rw [any_not_allI]
  have j0 := cellC' hb4 i0
  have j1 := cellC' hb4 i1
  have j2 := cellC' hb4 i2
  have j3 := cellC' hb4 i3
  have jk := cellC' hb4 ik
  have z4 := bsz (World.block_lt_of_cell? _ _ j1)
  cases hpa : s.ps.all (fun n => inB n 0 (k - 1))
  · have HI := Lib.hid (show s.good k = false by rw [HG.out, hpa]; simp)
    clear hpa
    go_wp2
    go_ret2
    exact ⟨by rw [HEG.out, HI.out]; rfl, by (repeat (first | with_reducible exact Below.refl _ _ | with_reducible assumption | with_reducible refine Below.al ?_ _ | with_reducible refine Below.sc ?_ (by first | exact Nat.le_refl _ | (simp; done) | (simp; omega)) _ | assumption | exact Below.refl _ _ | refine Below.dr ?_ | refine Below.drN ?_ _ | refine Below.step ?_ (by assumption)))⟩
  have HPA := Lib.hid hpa
  clear hpa
  go_wp2_with fail
  refine (containsIx (fun n => !in99 n) s.wh _ w4 (fun a w' _ _ _ => notIndex_any a w') (HB.out.below (by (repeat (first | with_reducible exact Below.refl _ _ | with_reducible assumption | with_reducible refine Below.al ?_ _ | with_reducible refine Below.sc ?_ (by first | exact Nat.le_refl _ | (simp; done) | (simp; omega)) _ | assumption | exact Below.refl _ _ | refine Below.dr ?_ | refine Below.drN ?_ _ | refine Below.step ?_ (by assumption)))))).mono ?_
  rintro e w5 ⟨rfl, hb5⟩
  rw [any_not_allI]
  have i0 := cellC' hb5 j0
  have i1 := cellC' hb5 j1
  have i2 := cellC' hb5 j2
  have i3 := cellC' hb5 j3
  have ik := cellC' hb5 jk
  have z5 := bsz (World.block_lt_of_cell? _ _ i1)
  have z5k := bsz (World.block_lt_of_cell? _ _ ik)
  clear j0 j1 j2 j3 jk
  cases hwa : s.wh.all in99
  · have HI := Lib.hid (show s.good k = false by rw [HG.out, hwa]; simp)
    clear hwa
    go_wp2
    go_ret2
    exact ⟨by rw [HEG.out, HI.out]; rfl, by (repeat (first | with_reducible exact Below.refl _ _ | with_reducible assumption | with_reducible refine Below.al ?_ _ | with_reducible refine Below.sc ?_ (by first | exact Nat.le_refl _ | (simp; done) | (simp; omega)) _ | assumption | exact Below.refl _ _ | refine Below.dr ?_ | refine Below.drN ?_ _ | refine Below.step ?_ (by assumption)))⟩
  have HI := Lib.hid (show s.good k = true by rw [HG.out, HI.out, HN.out, HPA.out, hwa, HV.out]; rfl)
  have HPB := Lib.hid (fun x (hx : x ∈ s.ps) => (show 0 ≤ x ∧ x ≤ 99 from by have := all_bd HPA.out x hx; omega))
  have HWB := Lib.hid (fun x (hx : x ∈ s.wh) => (show 0 ≤ x ∧ x ≤ 99 from all_bd (show s.wh.all (fun n => inB n 0 99) = true from hwa) x hx))
  have HCA := Lib.hid (good_atoms HV.out)
  have HCAP := Lib.hid (show ∀ (p' : Option Addr) (d' : Nat), Value.slice r s.c.length g = .slice p' s.c.length d' → s.c.length ≤ d' from fun p' d' he => by injection he with e1 e2 e3; rw [← e3]; exact HCP.out.2.2)
  have hb05 : Below w.heap.size w w5 := by (repeat (first | with_reducible exact Below.refl _ _ | with_reducible assumption | with_reducible refine Below.al ?_ _ | with_reducible refine Below.sc ?_ (by first | exact Nat.le_refl _ | (simp; done) | (simp; omega)) _ | assumption | exact Below.refl _ _ | refine Below.dr ?_ | refine Below.drN ?_ _ | refine Below.step ?_ (by assumption)))
  have HCE := Lib.hid (fun (w' : World) (hw' : Below w.heap.size w w') => clauseEnglish_any m s.c (.slice r s.c.length g) w' (ClsAt.below hw' HC.out) HCAP.out HCA.out.1 HCA.out.2 hzw)
  have lo := Stp.org_len HN.out HPB.out HWB.out
  have lk := cnt_len hkb.1 (show k ≤ 99 by omega)
  have le := Cls.eng_len HCA.out.1 HCA.out.2 hzw
  clear hwa
  go_wp2
  obtain ⟨C, HC0⟩ := class_of (InF w5.heap.size _ [(⟨w.heap.size, 0, none⟩, .int .i64 s.rule), (⟨w.heap.size, 1, none⟩, .slice p s.ps.length c), (⟨w.heap.size, 2, none⟩, .slice q s.wh.length d), (⟨w.heap.size, 3, none⟩, .slice r s.c.length g), (⟨w.heap.size + 1, 0, none⟩, .int .i64 k)] [] [])
  have HC := Lib.hid HC0
  clear HC0
  refine wp_region_flow (C := C) (by kernel_rfl) (by kernel_rfl) (fun L hL => (HC.out _ _).2 (InF.start (by first | (intro _ hs; cases hs; done) | (simp only [List.forall_mem_cons]; go_simp)) (by first | (intro _ hs; cases hs; done) | (simp only [List.forall_mem_cons]; go_simp)) (by first | (intro _ hs; cases hs; done) | (simp only [List.forall_mem_cons]; go_simp)) (by first | (intro _ hs; cases hs; done) | (simp only [List.forall_mem_cons]; go_simp)) L hL)) ?_
  repeat (first | (apply flow_free rfl; (intro L w' hun hrd hC; have hC := (HC.out _ _).1 hC; have hb' := hC.below; (try have hw' : Below w.heap.size w w' := by first | exact Below.trans (by (repeat (first | with_reducible exact Below.refl _ _ | with_reducible assumption | with_reducible refine Below.al ?_ _ | with_reducible refine Below.sc ?_ (by first | exact Nat.le_refl _ | (simp; done) | (simp; omega)) _ | assumption | exact Below.refl _ _ | refine Below.dr ?_ | refine Below.drN ?_ _ | refine Below.step ?_ (by assumption)))) hb' | ((repeat (first | with_reducible exact Below.refl _ _ | with_reducible assumption | with_reducible refine Below.al ?_ _ | with_reducible refine Below.sc ?_ (by first | exact Nat.le_refl _ | (simp; done) | (simp; omega)) _ | assumption | exact Below.refl _ _ | refine Below.dr ?_ | refine Below.drN ?_ _ | refine Below.step ?_ (by assumption))); done)); have hf' := hC.cell; (try simp only [List.forall_mem_cons] at hf'); go_simp; first | exact ⟨(HC.out _ _).2 (hC.skip _ (by rfl)), rfl⟩ | (rw [if_neg]; (exact ⟨(HC.out _ _).2 (hC.skip _ (by rfl)), rfl⟩); omega) | (go_at_call 60; refine (count_any k _ hkb.1 (by omega) (HE.out.below hw')).mono ?_; rintro e w1 ⟨rfl, hb1⟩; exact ⟨rfl, (HC.out _ _).2 ((hC.next (by first | (simp; done) | (simp; omega) | omega) hb1).skip _ (by rfl))⟩) | (go_at_call 61; refine (origin_any m s p q c d _ _ (H.out.below hw') HN.out HPB.out HWB.out HCP.out.1 HCP.out.2.1 (HE.out.below hw')).mono ?_; rintro e w1 ⟨rfl, hb1⟩; exact ⟨rfl, (HC.out _ _).2 ((hC.next (by first | (simp; done) | (simp; omega) | omega) hb1).skip _ (by rfl))⟩) | (go_at_call 62; refine (HCE.out _ hw').mono ?_; rintro e w1 ⟨rfl, hb1⟩; exact ⟨rfl, (HC.out _ _).2 ((hC.next (by first | (simp; done) | (simp; omega) | omega) hb1).skip _ (by rfl))⟩)); go_simp) | (apply flow_yes; (case hw => go_simp); (intro L w' hun hrd hC; have hC := (HC.out _ _).1 hC; have hb' := hC.below; (try have hw' : Below w.heap.size w w' := by first | exact Below.trans (by (repeat (first | with_reducible exact Below.refl _ _ | with_reducible assumption | with_reducible refine Below.al ?_ _ | with_reducible refine Below.sc ?_ (by first | exact Nat.le_refl _ | (simp; done) | (simp; omega)) _ | assumption | exact Below.refl _ _ | refine Below.dr ?_ | refine Below.drN ?_ _ | refine Below.step ?_ (by assumption)))) hb' | ((repeat (first | with_reducible exact Below.refl _ _ | with_reducible assumption | with_reducible refine Below.al ?_ _ | with_reducible refine Below.sc ?_ (by first | exact Nat.le_refl _ | (simp; done) | (simp; omega)) _ | assumption | exact Below.refl _ _ | refine Below.dr ?_ | refine Below.drN ?_ _ | refine Below.step ?_ (by assumption))); done)); have hf' := hC.cell; (try simp only [List.forall_mem_cons] at hf'); go_simp; first | exact ⟨(HC.out _ _).2 (hC.skip _ (by rfl)), rfl⟩ | (rw [if_neg]; (exact ⟨(HC.out _ _).2 (hC.skip _ (by rfl)), rfl⟩); omega) | (go_at_call 60; refine (count_any k _ hkb.1 (by omega) (HE.out.below hw')).mono ?_; rintro e w1 ⟨rfl, hb1⟩; exact ⟨rfl, (HC.out _ _).2 ((hC.next (by first | (simp; done) | (simp; omega) | omega) hb1).skip _ (by rfl))⟩) | (go_at_call 61; refine (origin_any m s p q c d _ _ (H.out.below hw') HN.out HPB.out HWB.out HCP.out.1 HCP.out.2.1 (HE.out.below hw')).mono ?_; rintro e w1 ⟨rfl, hb1⟩; exact ⟨rfl, (HC.out _ _).2 ((hC.next (by first | (simp; done) | (simp; omega) | omega) hb1).skip _ (by rfl))⟩) | (go_at_call 62; refine (HCE.out _ hw').mono ?_; rintro e w1 ⟨rfl, hb1⟩; exact ⟨rfl, (HC.out _ _).2 ((hC.next (by first | (simp; done) | (simp; omega) | omega) hb1).skip _ (by rfl))⟩)); go_simp) | (apply flow_no; (case hw => (go_simp; try (intro hh; cases hh))); (intro L w' _ _ hC; exact (HC.out _ _).2 (((HC.out _ _).1 hC).skip _ (by rfl))); go_simp))
  refine flow_nil ?_
  intro L wz hL hz
  have hz := (HC.out _ _).1 hz
  have hbz := hz.below
  have hcz := hz.cell
  try simp only [List.forall_mem_cons] at hcz
  have hdz := hz.done
  try simp only [List.forall_mem_cons] at hdz
  (try have hwz : Below w.heap.size w wz := by first | exact Below.trans (by (repeat (first | with_reducible exact Below.refl _ _ | with_reducible assumption | with_reducible refine Below.al ?_ _ | with_reducible refine Below.sc ?_ (by first | exact Nat.le_refl _ | (simp; done) | (simp; omega)) _ | assumption | exact Below.refl _ _ | refine Below.dr ?_ | refine Below.drN ?_ _ | refine Below.step ?_ (by assumption)))) hbz | ((repeat (first | with_reducible exact Below.refl _ _ | with_reducible assumption | with_reducible refine Below.al ?_ _ | with_reducible refine Below.sc ?_ (by first | exact Nat.le_refl _ | (simp; done) | (simp; omega)) _ | assumption | exact Below.refl _ _ | refine Below.dr ?_ | refine Below.drN ?_ _ | refine Below.step ?_ (by assumption))); done))
  go_wp2
  go_ret2
  exact ⟨by rw [HEG.out, HI.out, if_pos rfl]; exact congrArg (fun s => Ending.returned (.tuple #[.string s, .bool true])) (by apply ByteArray.ext; simp [Stp.eng, sComma]), by (repeat (first | with_reducible exact Below.refl _ _ | with_reducible assumption | with_reducible refine Below.al ?_ _ | with_reducible refine Below.sc ?_ (by first | exact Nat.le_refl _ | (simp; done) | (simp; omega)) _ | assumption | exact Below.refl _ _ | refine Below.dr ?_ | refine Below.drN ?_ _ | refine Below.step ?_ (by assumption)))⟩
end Go.Proofs.YtcegllnljaapiaaGreatDoor
namespace Go.Proofs.YtcegllnljaapiaaGreatDoor
open Go.RowKit
def OwnC (B : Nat → Prop) (m : Nat) : Prop := ∀ (t : Tm) (v0 v1 : Value) (w : World), TmAt B m w t [v0, v1] → t.wt ≤ 1048576 →
  Calls Tryz.prog 159 #[.agg #[v0, v1]] w fun e w' => ∃ u0 u1, e = .returned (.agg #[u0, u1]) ∧ TmOwn 57 m (fun b => w.heap.size ≤ b ∧ b < w'.heap.size) w' t [u0, u1] ∧ Below w.heap.size w w'
def OwnRel (n : ByteArray) (us : List Tm) (m rb bt : Nat) (w : World) (i : Value) (wr : World) : Prop :=
  ∃ (k : Nat) (v : Value), k ≤ us.length ∧ i = .int .i64 (k : Nat) ∧ LSt 57 rb bt n w m v (us.take k) wr
set_option maxRecDepth 100000 in
set_option maxHeartbeats 3200000 in
theorem l2Own_any {B : Nat → Prop} : ∀ m : Nat, OwnC B m := by
  intro m
  induction m with
  | zero => intro t v0 v1 w h; exact h.elim
  | succ m ih =>
    rintro ⟨n, us⟩ v0 v1 w ⟨va, he, hn, hl⟩ hw
    simp only [List.cons.injEq, and_true] at he
    obtain ⟨rfl, rfl⟩ := he
    obtain ⟨p, c, rfl, hlen⟩ := hl.form
    rw [Tm.wt] at hw
    unfold maxLen at hlen
    have HL := Lib.hid hl
    have HN := Lib.hid hn
    have IH := Lib.hid ih
    clear ih hl hn
    go_enter Tryz.func159, Tryz.ntmps159
    go_wp2
    obtain ⟨wp, hwp⟩ : ∃ wp : World, wp = w.alloc (.cells #[.string n, .slice p us.length c] 57) := ⟨_, rfl⟩
    have hsz : wp.heap.size = w.heap.size + 1 := by rw [hwp]; simp
    have hbp : Below w.heap.size w wp := by rw [hwp]; (repeat (first | with_reducible exact Below.refl _ _ | with_reducible assumption | with_reducible refine Below.al ?_ _ | with_reducible refine Below.sc ?_ (by first | exact Nat.le_refl _ | (simp; done) | (simp; omega)) _ | assumption | exact Below.refl _ _ | refine Below.dr ?_ | refine Below.drN ?_ _ | refine Below.step ?_ (by assumption)))
    have hpb : wp.heap[w.heap.size]? = some (.cells #[.string n, .slice p us.length c] 57 (0, 0)) := by rw [hwp]; exact heap_alloc_new w _
    rw [← hwp]
    clear hwp
    have HL0 := Lib.hid (LSt.init (T := 57) (n := n) (w := wp) (f := m) (Below.refl _ _))
    simp only [World.size_alloc, hsz] at HL0
    have HLP := Lib.hid (HL.out.mono (SameOn.below hbp) (fun _ h => h) (fun x cs _ hx => TmAt.below hbp hx))
    go_loopw [4] (OwnRel n us m (w.heap.size + 1) (w.heap.size + 1 + 1) wp) (fun i _ => us.length - (intOf i).toNat)
    case atStart => exact ⟨0, _, Nat.zero_le _, rfl, HL0.out⟩
    case round =>
      obtain ⟨k, v, hk, rfl, hls⟩ := hrel
      have HLS := Lib.hid hls
      clear hls HL0
      have hlt0 := HLS.out.lt
      have hbw := HLS.out.bel
      have hzr := hbw.size
      have hpr : wr.heap[w.heap.size]? = _ := (hbw.block _ (by omega)).trans hpb
      obtain ⟨a0, a1, af⟩ := cells2_cell hpr
      have za := bsz (show w.heap.size < wr.heap.size by omega)
      by_cases hlt : k < us.length
      · have hlti : (k : Int) < us.length := by omega
        obtain ⟨b, o, hpe, hB, x0, x1, hx0, hx1, hx⟩ := HLP.out.at2 hlt
        subst hpe
        have hwa := Tm.wts_le us hlt
        have hbl : b < wp.heap.size := World.block_lt_of_cell? _ _ hx0
        obtain ⟨a, ha⟩ : ∃ a, us[k] = a := ⟨_, rfl⟩
        have HTK := Lib.hid (show us.take (k + 1) = us.take k ++ [a] by rw [List.take_succ_eq_append_getElem hlt, ha])
        rw [ha] at hx hwa
        have HX := Lib.hid (TmAt.below hbw hx)
        clear hx ha
        have hlk : (us.take k).length = k := by rw [List.length_take]; omega
        obtain ⟨pa, ca, rfl, rfl, -⟩ := HX.out.form
        have hy0 : wr.cell? ⟨b, o + k * 2, none⟩ = some (.string a.n) := (World.cell?_of_block (hbw.block _ hbl)).trans hx0
        have hy1 : wr.cell? ⟨b, o + k * 2 + 1, none⟩ = some (.slice pa a.us.length ca) := (World.cell?_of_block (hbw.block _ hbl)).trans hx1
        obtain ⟨hm, vals, Ss, hv1, hv2, -⟩ := HLS.out.row
        have hnb : ∀ b', b' ≤ w.heap.size + 1 + 1 → v.ownBlock ≠ some b' := fun b' hb' e => by have := (hv2 b' e).1; omega
        rw [hlk] at hv1
        obtain ⟨b0, b1, bf⟩ := cells2_cell HLS.out.cell
        have HB1 := Lib.hid b1
        have HY := Lib.hid (And.intro a1 (And.intro hy0 hy1))
        have HNB := Lib.hid hnb
        have HV := Lib.hid hv1
        clear hv1 hv2 hnb hx0 hx1 hy0 hy1 b0 b1 bf
        go_wp2
        clear a0 a1 af
        obtain ⟨CP, hCP0⟩ : ∃ CP : Value → World → Prop, CP = fun x w' => ∃ u0 u1, x = .agg #[u0, u1] ∧ TmOwn 57 m (fun b => wr.heap.size ≤ b ∧ b < w'.heap.size) w' a [u0, u1] ∧ Below wr.heap.size wr w' := ⟨_, rfl⟩
        have HCP := Lib.hid hCP0
        have HGR := Lib.hid (show ∀ x w', CP x w' → wr.grownBy w' (some (w.heap.size + 1)) from by
          rw [hCP0]; rintro x w' ⟨_, _, _, _, hG⟩; exact ⟨hG.os, hG.tape, hG.output, hG.size, fun k hk _ => hG.block k hk⟩)
        have HAGG := Lib.hid (show ∀ x w', CP x w' → ∃ v0 v1, x = .agg #[v0, v1] ∧ v0.oneCell' = true ∧ v1.oneCell' = true from by
          rw [hCP0]; rintro x w' ⟨v0, v1, hx, hO, _⟩
          obtain ⟨pp, cc, rfl, rfl, -⟩ := hO.form
          exact ⟨_, _, hx, rfl, rfl⟩)
        clear hCP0
        have HKEEP := Lib.hid (show ∀ (b' j : Nat) (u : Nat → Value) (w' : World), AppSt 57 (w.heap.size + 1) (w.heap.size + 1 + 1) CP v k wr 7 8 9 j u w' → b' < wp.heap.size → w'.heap[b']? = wr.heap[b']? from
          fun b' j u w' h hlt => AppSt.keep HGR.out (by omega) (by omega) (HNB.out b' (by omega)) (by omega) h)
        refine wp_region_stages [some (.pointer (some ⟨w.heap.size + 1 + 1, 1, none⟩)), some v, some (.pointer (some ⟨w.heap.size, 1, none⟩)), some (.slice (some ⟨b, o, none⟩) us.length c), some (.int .i64 (k : Nat)), some (.pointer (some ⟨b, o + k * 2, none⟩)), some (.agg #[.string a.n, .slice pa a.us.length ca]), none, none, none, some (.pointer (some ⟨w.heap.size + 1 + 1, 1, none⟩)), none] [7, 8, 9, 11] (AppSt 57 (w.heap.size + 1) (w.heap.size + 1 + 1) CP v k wr 7 8 9) (by kernel_rfl) (by kernel_rfl) (by first | kernel_rfl | rfl) (by rfl) rfl ?_
        refine chain_st rfl rfl (by decide) rfl (by intro j u w' hS; go_simp; first | done | exact ⟨hS, rfl⟩ | exact hS | rfl) ?_
        go_simp
        refine chain_stb (c := 9) 2 rfl rfl (by decide) rfl rfl rfl (by first | kernel_rfl | rfl) ?_ ?_
        · intro j u w' hj hS
          have hc := AppSt.cell HGR.out HB1.out (by omega) hj hS
          go_simp
          first | done | exact ⟨hS, rfl⟩ | exact hS | rfl
        go_simp
        refine chain_st rfl rfl (by decide) rfl (by intro j u w' hS; go_simp; first | done | exact ⟨hS, rfl⟩ | exact hS | rfl) ?_
        go_simp
        refine chain_st rfl rfl (by decide) rfl ?_ ?_
        · intro j u w' hS
          have hc : w'.cell? ⟨w.heap.size, 1, none⟩ = _ := (World.cell?_of_block (HKEEP.out w.heap.size j u w' hS (by omega))).trans HY.out.1
          go_simp
          first | done | exact ⟨hS, rfl⟩ | exact hS | rfl
        go_simp
        refine chain_st rfl rfl (by decide) rfl (by intro j u w' hS; go_simp; first | done | exact ⟨hS, rfl⟩ | exact hS | rfl) ?_
        go_simp
        refine chain_st rfl rfl (by decide) rfl (by intro j u w' hS; go_simp; first | done | exact ⟨hS, rfl⟩ | exact hS | rfl) ?_
        go_simp
        refine chain_st rfl rfl (by decide) rfl ?_ ?_
        · intro j u w' hS
          have hc0 : w'.cell? ⟨b, o + k * 2, none⟩ = _ := (World.cell?_of_block (HKEEP.out b j u w' hS hbl)).trans HY.out.2.1
          have hc1 : w'.cell? ⟨b, o + k * 2 + 1, none⟩ = _ := (World.cell?_of_block (HKEEP.out b j u w' hS hbl)).trans HY.out.2.2
          go_simp
          first | done | exact ⟨hS, rfl⟩ | exact hS | rfl
        go_simp
        refine chain_first rfl rfl rfl (by decide) rfl ?_ ?_
        · intro w' hS
          obtain rfl : w' = wr.drew := hS
          go_simp
          refine (IH.out a _ _ _ (TmAt.below (by (repeat (first | with_reducible exact Below.refl _ _ | with_reducible assumption | with_reducible refine Below.al ?_ _ | with_reducible refine Below.sc ?_ (by first | exact Nat.le_refl _ | (simp; done) | (simp; omega)) _ | assumption | exact Below.refl _ _ | refine Below.dr ?_ | refine Below.drN ?_ _ | refine Below.step ?_ (by assumption)))) HX.out) (by omega)).mono ?_
          rintro e w'' ⟨u0, u1, he, hx⟩
          refine ⟨_, he, ?_⟩
          show CP (upd _ 7 _ 7) w''
          rw [upd_same, HCP.out]
          exact ⟨u0, u1, rfl, hx.1, ⟨hx.2.os, hx.2.tape, hx.2.output, hx.2.size, hx.2.block⟩⟩
        intro x
        go_simp
        refine chain_next 0 rfl rfl rfl rfl (by decide) rfl (by first | kernel_rfl | rfl) ?_ ?_
        · intro w' hS
          have hS : CP (upd _ 7 x 7) w' := hS
          rw [upd_same] at hS
          obtain ⟨v0, v1, rfl, o0, o1⟩ := HAGG.out _ _ hS
          go_simp
          exact ⟨w', v0, v1, hS, by rw [upd_same], rfl⟩
        intro y
        go_simp
        refine chain_next 1 rfl rfl rfl rfl (by decide) rfl (by first | kernel_rfl | rfl) ?_ ?_
        · intro w' hS
          obtain ⟨w1', v0, v1, hcp, hy, rfl⟩ := hS
          rw [upd_same] at hy
          subst hy
          obtain ⟨v0', v1', he, o0, o1⟩ := HAGG.out _ _ hcp
          simp only [Value.agg.injEq, Array.mk.injEq, List.cons.injEq, and_true] at he
          obtain ⟨rfl, rfl⟩ := he
          have hG1 := HGR.out _ _ hcp
          have hv2 := HV.out
          have hkw : w1'.ownsRow 0 57 2 v k vals := own_same hv2 (fun b' hb' hl => hG1.block b' hl (by
            obtain ⟨-, vals2, Ss2, -, q2, -⟩ := HLS.out.row
            have := q2 b' hb'
            simp; omega))
          refine each_app1 (.tmp 16) (.tmp 23) _ rfl 0 57 2 40 elemTmI v k vals rfl w1' #[v0, v1] rfl rfl hkw rfl (by intro u hu; simp at hu; rcases hu with rfl | rfl <;> assumption) (by omega) (by unfold maxLen; omega) (Nat.zero_le _) ?_
          intro v' w3 happ hg3 hnr hsz
          exact ⟨w1', v0, v1, hcp, by rw [upd_same]; exact happ, hg3, by rw [upd_same]; exact hnr, hsz⟩
        intro z
        go_simp
        refine chain_st rfl rfl (by decide) rfl (by intro j u w' hS; simp only [baseV10]; go_simp; first | done | exact ⟨hS, rfl⟩ | exact hS | rfl) ?_
        simp only [baseV10]
        go_simp
        refine chain_next 2 rfl rfl rfl rfl (by decide) rfl (by first | kernel_rfl | rfl) ?_ ?_
        · intro w' hS
          obtain ⟨w1', v0, v1, hcp, happ, hg3, hnr, hsz⟩ := hS
          rw [upd_same] at happ hnr
          have hcp2 := hcp
          rw [HCP.out] at hcp2
          obtain ⟨u0, u1, he, hO, hB1⟩ := hcp2
          simp only [Value.agg.injEq, Array.mk.injEq, List.cons.injEq, and_true] at he
          obtain ⟨rfl, rfl⟩ := he
          have HL1 := HLS.out.later hB1
          have hkw : w1'.ownsRow 0 57 2 v k vals := own_same HV.out (fun b' hb' hl => hB1.block b' hl)
          have happ0 := happ 0 vals hkw (Nat.zero_le _)
          rw [← hlk] at happ0
          obtain ⟨⟨q', c', rfl⟩, hbt, -⟩ := HL1.three happ0 hg3
          have hcell : w'.cell? ⟨w.heap.size + 1 + 1, 1, none⟩ = some v := by rw [cell_of_row w' _ 1 _ _ (0, 0) hbt]; rfl
          have hfro : w'.frozen? ⟨w.heap.size + 1 + 1, 1, none⟩ = false := frozen_of_row w' _ 1 _ _ hbt
          clear hbt
          rw [hlk] at happ0
          simp only [hlk] at happ hnr
          go_simp
          refine ⟨w1', w', v0, v1, hcp, ?_, hg3, ?_, hsz, ?_⟩
          · rw [upd_other _ _ (by decide), upd_same]; exact happ
          · rw [upd_other _ _ (by decide), upd_same]; exact hnr
          · rw [upd_other _ _ (by decide), upd_same]
        intro x'
        refine flowU_nil ?_
        intro wz hz
        obtain ⟨w1', w3', v0, v1, hcp, happ, hg3, hnr, hsz, rfl⟩ := hz
        rw [upd_other _ _ (by decide), upd_same] at happ hnr
        rw [HCP.out] at hcp
        obtain ⟨u0, u1, he, hO, hB1⟩ := hcp
        simp only [Value.agg.injEq, Array.mk.injEq, List.cons.injEq, and_true] at he
        obtain ⟨rfl, rfl⟩ := he
        have hkw : w1'.ownsRow 0 57 2 v (us.take k).length vals := by rw [hlk]; exact own_same HV.out (fun b' hb' hl => hB1.block b' hl)
        have happ0 := happ 0 vals (by rw [hlk] at hkw; exact hkw) (Nat.zero_le _)
        have HZ := Lib.hid (HLS.out.app (a := a) hB1 hO hkw (by rw [hlk]; exact happ0) hg3 hnr (by omega))
        rw [← HTK.out] at HZ
        have hu9 : upd (upd (upd (upd (fun x => undef) 7 x) 8 y) 9 z) 11 x' 9 = z := by rw [upd_other _ _ (by decide), upd_same]
        rw [hu9]
        clear happ hnr hO hB1 hkw happ0 hg3 hsz
        go_simp
        go_wp2
        exact ⟨⟨k + 1, z, by omega, by go_num, HZ.out⟩, by simp [intOf]; omega⟩
      · obtain rfl : k = us.length := by omega
        have HTA := Lib.hid (show us.take us.length = us from List.take_length)
        rw [HTA.out] at HLS
        obtain ⟨pv, cv, hvv, -⟩ := HLS.out.row.form
        subst hvv
        obtain ⟨b0, b1, bf⟩ := cells2_cell HLS.out.cell
        obtain ⟨r0, r1, rf⟩ := cells2_cell HLS.out.res
        have zb := bsz (show w.heap.size + 1 < wr.heap.size by omega)
        have zb1 := bsz (show w.heap.size + 1 + 1 < wr.heap.size by omega)
        go_wp2
        refine bodyPost_ret (v := .agg #[.string n, .slice pv us.length cv]) (by simp only [results, Tryz.results159]; go_simp) rfl ⟨_, _, rfl, ?_⟩
        obtain ⟨h1, h2⟩ := LSt.out HLS.out HN.out (.string n) (.slice pv us.length cv)
        exact ⟨TmOwn.mono _ _ _ _ (Nat.le_refl _) (SameOn.refl _ _) (fun q hq => ⟨by omega, hq.2⟩) h2, hbp.trans (h1.mono hbp.size)⟩
end Go.Proofs.YtcegllnljaapiaaGreatDoor
namespace Go.Proofs.YtcegllnljaapiaaGreatDoor
open Go.RowKit
set_option maxRecDepth 100000 in
set_option maxHeartbeats 1600000 in
theorem l8Literal_any {B : Nat → Prop} (m : Nat) (l : Lit3) (v0 v1 v2 : Value) (w : World) (h : LitAt B m w l [v0, v1, v2]) (hw : l.a.wt ≤ 1048576) :
    Calls Tryz.prog 193 #[.agg #[v0, v1, v2]] w fun e w' => ∃ u0 u1 u2 u3 u4, e = .returned (.agg #[u0, u1, u2, u3, u4]) ∧ FmAt (fun b => w.heap.size ≤ b) (m + 2) w' l.fm [u0, u1, u2, u3, u4] ∧ Below w.heap.size w w' := by
  obtain ⟨p, c, rfl, rfl, rfl, ht⟩ := h.form
  have HT := Lib.hid ht
  have HW := Lib.hid hw
  have HL := Lib.hid (show l.fm = if l.pos then atomOfF l.a else opF 4 [atomOfF l.a] from rfl)
  clear h ht hw
  go_enter Tryz.func193, Tryz.ntmps193
  go_wp2_with fail
  obtain ⟨W, hW⟩ : ∃ W : World, W = (w.alloc (.cells #[.bool l.pos, .string l.a.n, .slice p l.a.us.length c] 169)).alloc (.cells #[.int .i64 0, .string ⟨#[]⟩, .slice none 0 0, .string ⟨#[]⟩, .slice none 0 0] 60) := ⟨_, rfl⟩
  have hsW : W.heap.size = w.heap.size + 2 := by rw [hW]; simp
  have hbW : Below w.heap.size w W := by rw [hW]; (repeat (first | with_reducible exact Below.refl _ _ | with_reducible assumption | with_reducible refine Below.al ?_ _ | with_reducible refine Below.sc ?_ (by first | exact Nat.le_refl _ | (simp; done) | (simp; omega)) _ | assumption | exact Below.refl _ _ | refine Below.dr ?_ | refine Below.drN ?_ _ | refine Below.step ?_ (by assumption)))
  have a0 : W.cell? ⟨w.heap.size, 0, none⟩ = some (.bool l.pos) := by rw [hW]; go_simp
  have a1 : W.cell? ⟨w.heap.size, 1, none⟩ = some (.string l.a.n) := by rw [hW]; go_simp
  have a2 : W.cell? ⟨w.heap.size, 2, none⟩ = some (.slice p l.a.us.length c) := by rw [hW]; go_simp
  have r0 : W.cell? ⟨w.heap.size + 1, 0, none⟩ = some (.int .i64 0) := by rw [hW]; go_simp
  have r1 : W.cell? ⟨w.heap.size + 1, 1, none⟩ = some (.string ⟨#[]⟩) := by rw [hW]; go_simp
  have r2 : W.cell? ⟨w.heap.size + 1, 2, none⟩ = some (.slice none 0 0) := by rw [hW]; go_simp
  have r3 : W.cell? ⟨w.heap.size + 1, 3, none⟩ = some (.string ⟨#[]⟩) := by rw [hW]; go_simp
  have r4 : W.cell? ⟨w.heap.size + 1, 4, none⟩ = some (.slice none 0 0) := by rw [hW]; go_simp
  have rf : ∀ j, W.frozen? ⟨w.heap.size + 1, j, none⟩ = false := fun j => by rw [hW]; go_simp
  rw [← hW]
  clear hW
  have zW := bsz (show w.heap.size < W.heap.size by omega)
  have zW1 := bsz (show w.heap.size + 1 < W.heap.size by omega)
  refine (l2Own_any m l.a _ _ _ (HT.out.below (by (repeat (first | with_reducible exact Below.refl _ _ | with_reducible assumption | with_reducible refine Below.al ?_ _ | with_reducible refine Below.sc ?_ (by first | exact Nat.le_refl _ | (simp; done) | (simp; omega)) _ | assumption | exact Below.refl _ _ | refine Below.dr ?_ | refine Below.drN ?_ _ | refine Below.step ?_ (by assumption))))) HW.out).mono ?_
  rintro e w1 ⟨u0, u1, rfl, hu, hb1⟩
  have ⟨cw1, fw1⟩ := bcell hb1
  have qw1 := hb1.size
  have hu2 := TmOwn.at_ _ _ _ hu
  obtain ⟨pu, cu, rfl, rfl, -, -⟩ := hu2.form
  have HU := Lib.hid hu2
  clear hu hu2
  have z1 := bsz (show w.heap.size < w1.heap.size by omega)
  have z11 := bsz (show w.heap.size + 1 < w1.heap.size by omega)
  have hw1 : Below w.heap.size w w1 := by (repeat (first | with_reducible exact Below.refl _ _ | with_reducible assumption | with_reducible refine Below.al ?_ _ | with_reducible refine Below.sc ?_ (by first | exact Nat.le_refl _ | (simp; done) | (simp; omega)) _ | assumption | exact Below.refl _ _ | refine Below.dr ?_ | refine Below.drN ?_ _ | refine Below.step ?_ (by assumption)))
  have hF : ∀ w', SameOn (fun b => W.heap.size ≤ b ∧ b < w1.heap.size) w1 w' → FmAt (fun b => w.heap.size ≤ b) (m + 1) w' (atomOfF l.a) [.int .i64 3, .string l.a.n, .slice pu l.a.us.length cu, .string ⟨#[]⟩, .slice none 0 0] := fun w' hs =>
    ⟨_, _, _, rfl, by omega, Nat.zero_le _, TmAt.mono hs (fun b hb => by omega) _ _ _ _ (Nat.le_refl _) HU.out, ListAt.nil _ _ _ _ _ _⟩
  have HF := Lib.hid hF
  clear hF HU
  cases hp : l.pos
  · have HL2 := Lib.hid (show l.fm = opF 4 [atomOfF l.a] by rw [HL.out, hp]; rfl)
    clear HT HL
    go_wp2
    refine bodyPost_ret (v := .agg #[.int .i64 4, .string ⟨#[]⟩, .slice none 0 0, .string ⟨#[]⟩, .slice (some ⟨w1.heap.size + 1, 0, none⟩) 1 1]) (by simp only [results, Tryz.results193]; go_simp) rfl ⟨_, _, _, _, _, rfl, ?_, by (repeat (first | with_reducible exact Below.refl _ _ | with_reducible assumption | with_reducible refine Below.al ?_ _ | with_reducible refine Below.sc ?_ (by first | exact Nat.le_refl _ | (simp; done) | (simp; omega)) _ | assumption | exact Below.refl _ _ | refine Below.dr ?_ | refine Below.drN ?_ _ | refine Below.step ?_ (by assumption)))⟩
    rw [HL2.out]
    refine opF_at (by omega) ?_
    refine list_one (e := 60) (cs := #[.int .i64 3, .string l.a.n, .slice pu l.a.us.length cu, .string ⟨#[]⟩, .slice none 0 0]) ?_ (by omega) rfl ?_
    · exact alloc_new_at (by simp)
    · exact HF.out _ (SameOn.al (SameOn.al (fun b hb _ => set5_other w1 _ _ _ _ _ (by omega)) (by simp) _) (by simp) _)
  · have HL2 := Lib.hid (show l.fm = atomOfF l.a by rw [HL.out, hp]; rfl)
    clear HT HL
    go_wp2
    refine bodyPost_ret (v := .agg #[.int .i64 3, .string l.a.n, .slice pu l.a.us.length cu, .string ⟨#[]⟩, .slice none 0 0]) (by simp only [results, Tryz.results193]; go_simp) rfl ⟨_, _, _, _, _, rfl, ?_, by (repeat (first | with_reducible exact Below.refl _ _ | with_reducible assumption | with_reducible refine Below.al ?_ _ | with_reducible refine Below.sc ?_ (by first | exact Nat.le_refl _ | (simp; done) | (simp; omega)) _ | assumption | exact Below.refl _ _ | refine Below.dr ?_ | refine Below.drN ?_ _ | refine Below.step ?_ (by assumption)))⟩
    rw [HL2.out]
    exact FmAt.mono (SameOn.refl _ _) (fun b hb => hb) _ _ _ _ (by omega) (HF.out _ (SameOn.al (fun b hb _ => set5_other w1 _ _ _ _ _ (by omega)) (by simp) _))
def ClRel (c : List Lit3) (w : World) (s i : Value) (wr : World) : Prop :=
  ∃ k : Nat, k < c.length ∧ i = .int .i64 ((k : Int) - 1) ∧ s = .string ⟨(disj (c.drop k)).eng.toArray⟩ ∧ Below w.heap.size w wr
set_option maxRecDepth 100000 in
set_option maxHeartbeats 1600000 in
theorem l26Clause_any {B : Nat → Prop} (m : Nat) (c : List Lit3) (v : Value) (w : World) (h : ClsAt B m w c v) (h8 : c.length ≤ 8) (ha : ∀ l ∈ c, l.a.atom = true) (hw : Cls.wts c ≤ 1048576) :
    Calls Tryz.prog 128 #[.agg #[v]] w fun e w' => e = .returned (.string ⟨(Cls.eng c).toArray⟩) ∧ Below w.heap.size w w' := by
  obtain ⟨p, d, rfl, -⟩ := (show ListAt B w 3 (LitAt B m w) v c from h).form
  have H := Lib.hid (show ListAt B w 3 (LitAt B m w) (.slice p c.length d) c from h)
  have HA := Lib.hid ha
  clear h ha
  by_cases h0 : c.length = 0
  · have HE := Lib.hid (show Cls.eng c = sContr from if_pos h0)
    obtain rfl : c = [] := List.eq_nil_of_length_eq_zero h0
    go_enter Tryz.func128, Tryz.ntmps128
    go_wp2
    go_ret
    exact ⟨ret_str (by rw [HE.out]; rfl), by (repeat (first | with_reducible exact Below.refl _ _ | with_reducible assumption | with_reducible refine Below.al ?_ _ | with_reducible refine Below.sc ?_ (by first | exact Nat.le_refl _ | (simp; done) | (simp; omega)) _ | assumption | exact Below.refl _ _ | refine Below.dr ?_ | refine Below.drN ?_ _ | refine Below.step ?_ (by assumption)))⟩
  · have HE := Lib.hid (show Cls.eng c = (disj c).eng from if_neg h0)
    have HW := Lib.hid (fun l hl => Nat.le_trans (Cls.wts_le c l hl) hw)
    have h0i : ((c.length : Int) == 0) = false := by rw [beq_eq_false_iff_ne]; omega
    have hw1 : IntKind.i64.wrap ((c.length : Int) - 1) = ((c.length - 1 : Nat) : Int) := by rw [IntWalk.i64_in _ (by omega)]; omega
    have hw2 : IntKind.i64.wrap ((c.length : Int) - 2) = ((c.length - 1 : Nat) : Int) - 1 := by rw [IntWalk.i64_in _ (by omega)]; omega
    have hlast : c.length - 1 < c.length := by omega
    have HLEN := Lib.hid (show ∀ k, k < c.length → (disj (c.drop k)).eng.length ≤ 40000000 from fun k hk => disj_len (by simp; omega) (by simp; omega) (fun l hl => HA.out l (List.mem_of_mem_drop hl)) (Nat.le_trans (Cls.wts_drop_le c k) hw))
    obtain ⟨b, o, rfl, hB, x0, x1, x2, hx0, hx1, hx2, hx⟩ := H.out.at3 hlast
    have hdl : c.drop (c.length - 1) = [c[c.length - 1]] := by rw [List.drop_eq_getElem_cons hlast, show c.length - 1 + 1 = c.length by omega, List.drop_length]
    have hal := HA.out _ (List.getElem_mem hlast)
    have hwl := HW.out _ (List.getElem_mem hlast)
    obtain ⟨a, hae⟩ : ∃ a, c[c.length - 1] = a := ⟨_, rfl⟩
    rw [hae] at hx hdl hal hwl
    have HX := Lib.hid hx
    have HDL := Lib.hid (show a.fm.eng = (disj (c.drop (c.length - 1))).eng by rw [hdl, disj_one])
    have HF := Lib.hid (And.intro (a.fm_form hal) (fm_len hal hwl))
    have zb := bsz (World.block_lt_of_cell? _ _ hx0)
    clear hx hae hdl
    go_enter Tryz.func128, Tryz.ntmps128
    go_wp2_with fail
    refine (l8Literal_any m a _ _ _ _ (LitAt.below (by (repeat (first | with_reducible exact Below.refl _ _ | with_reducible assumption | with_reducible refine Below.al ?_ _ | with_reducible refine Below.sc ?_ (by first | exact Nat.le_refl _ | (simp; done) | (simp; omega)) _ | assumption | exact Below.refl _ _ | refine Below.dr ?_ | refine Below.drN ?_ _ | refine Below.step ?_ (by assumption)))) HX.out) hwl).mono ?_
    rintro e w1 ⟨u0, u1, u2, u3, u4, rfl, hu, hb1⟩
    have ⟨cw1, fw1⟩ := bcell hb1
    have qw1 := hb1.size
    (try simp at qw1)
    (try have zw1w := bsz (show w.heap.size < w1.heap.size by omega))
    have HU := Lib.hid hu
    clear hu
    go_wp2_with fail
    refine (l26Formula_any (m + 2) a.fm _ _ _ _ _ _ HU.out HF.out.1 (by have := HF.out.2; omega)).mono ?_
    rintro e w2 ⟨rfl, hb2⟩
    have ⟨cw2, fw2⟩ := bcell hb2
    have qw2 := hb2.size
    (try simp at qw2)
    (try have zw2w := bsz (show w.heap.size < w2.heap.size by omega))
    (try have zw2w1 := bsz (show w1.heap.size < w2.heap.size by omega))
    go_wp2
    have a0 : w2.cell? ⟨w.heap.size, 0, none⟩ = some (.slice (some ⟨b, o, none⟩) c.length d) := by go_simp
    have hbw2 : Below w.heap.size w w2 := by (repeat (first | with_reducible exact Below.refl _ _ | with_reducible assumption | with_reducible refine Below.al ?_ _ | with_reducible refine Below.sc ?_ (by first | exact Nat.le_refl _ | (simp; done) | (simp; omega)) _ | assumption | exact Below.refl _ _ | refine Below.dr ?_ | refine Below.drN ?_ _ | refine Below.step ?_ (by assumption)))
    have hsz2 : w.heap.size < w2.heap.size := by omega
    clear cw1 fw1 cw2 fw2 hb1 hb2
    go_loopw [4, 5] (ClRel c w2) (fun _ i _ => (intOf i + 1).toNat)
    case atStart => exact ⟨c.length - 1, hlast, rfl, by rw [HDL.out], Below.refl _ _⟩
    case round =>
      obtain ⟨k, hk, rfl, rfl, hb⟩ := hrel
      have hqr := hb.size
      have b0 : wr.cell? ⟨w.heap.size, 0, none⟩ = some (.slice (some ⟨b, o, none⟩) c.length d) := (World.cell?_of_block (hb.block _ hsz2)).trans a0
      have hwr : Below w.heap.size w wr := hbw2.trans (hb.mono hbw2.size)
      cases k with
      | zero =>
        clear a0
        go_wp2
        go_ret
        exact ⟨ret_str (by rw [HE.out]; rfl), hwr⟩
      | succ k =>
        have hkl : k < c.length := by omega
        obtain ⟨b', o', hq, -, y0, y1, y2, hy0, hy1, hy2, hy⟩ := (H.out.mono (SameOn.below hwr) (fun _ h => h) (fun x cs _ hx => LitAt.below hwr hx)).at3 hkl
        simp only [Option.some.injEq, Addr.mk.injEq, and_true] at hq
        obtain ⟨rfl, rfl⟩ := hq
        have hdd := disj_drop (show k + 1 < c.length by omega)
        have hal2 := HA.out _ (List.getElem_mem hkl)
        have hwl2 := HW.out _ (List.getElem_mem hkl)
        have hln := HLEN.out (k + 1) hk
        obtain ⟨a', hae⟩ : ∃ a', c[k] = a' := ⟨_, rfl⟩
        rw [hae] at hy hdd hal2 hwl2
        have HY := Lib.hid hy
        have HDD := Lib.hid (show (disj (c.drop k)).eng = sEither ++ a'.fm.eng ++ sOr ++ (disj (c.drop (k + 1))).eng by rw [hdd, eng_or])
        have hl2 := fm_len hal2 hwl2
        have HF2 := Lib.hid (a'.fm_form hal2)
        have hki : ((k + 1 : Nat) : Int) - 1 = k := by omega
        have hkl2 : (k : Int) < c.length := by omega
        have hwk : IntKind.i64.wrap ((k : Int) - 1) = (k : Int) - 1 := IntWalk.i64_in _ (by omega)
        have zr := bsz (show w.heap.size < wr.heap.size by omega)
        rw [hki]
        clear a0 hy hae hdd
        go_wp2_with fail
        refine (l8Literal_any m a' _ _ _ _ (LitAt.below (by (repeat (first | with_reducible exact Below.refl _ _ | with_reducible assumption | with_reducible refine Below.al ?_ _ | with_reducible refine Below.sc ?_ (by first | exact Nat.le_refl _ | (simp; done) | (simp; omega)) _ | assumption | exact Below.refl _ _ | refine Below.dr ?_ | refine Below.drN ?_ _ | refine Below.step ?_ (by assumption)))) HY.out) hwl2).mono ?_
        rintro e w3 ⟨t0, t1, t2, t3, t4, rfl, ht, hb3⟩
        have ⟨cw3, fw3⟩ := bcell hb3
        have qw3 := hb3.size
        (try simp at qw3)
        (try have zw3w := bsz (show w.heap.size < w3.heap.size by omega))
        (try have zw3w1 := bsz (show w1.heap.size < w3.heap.size by omega))
        (try have zw3w2 := bsz (show w2.heap.size < w3.heap.size by omega))
        have HT := Lib.hid ht
        clear ht
        go_wp2_with fail
        refine (l26Formula_any (m + 2) a'.fm _ _ _ _ _ _ HT.out HF2.out (by omega)).mono ?_
        rintro e w4 ⟨rfl, hb4⟩
        have ⟨cw4, fw4⟩ := bcell hb4
        have qw4 := hb4.size
        (try simp at qw4)
        (try have zw4w := bsz (show w.heap.size < w4.heap.size by omega))
        (try have zw4w1 := bsz (show w1.heap.size < w4.heap.size by omega))
        (try have zw4w2 := bsz (show w2.heap.size < w4.heap.size by omega))
        (try have zw4w3 := bsz (show w3.heap.size < w4.heap.size by omega))
        go_wp2
        exact ⟨⟨k, by omega, rfl, congrArg Value.string (str_eq (by rw [HDD.out]; simp [sEither, sOr])), by (repeat (first | with_reducible exact Below.refl _ _ | with_reducible assumption | with_reducible refine Below.al ?_ _ | with_reducible refine Below.sc ?_ (by first | exact Nat.le_refl _ | (simp; done) | (simp; omega)) _ | assumption | exact Below.refl _ _ | refine Below.dr ?_ | refine Below.drN ?_ _ | refine Below.step ?_ (by assumption)))⟩, by simp [intOf]⟩
end Go.Proofs.YtcegllnljaapiaaGreatDoor
