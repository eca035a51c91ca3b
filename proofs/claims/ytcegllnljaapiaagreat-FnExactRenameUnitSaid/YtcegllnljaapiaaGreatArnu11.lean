/- The order of units: the reference's. Conditions: sizes. -/
import Derived.Test.YtcegllnljaapiaaGreatArnu2
import Derived.Test.YtcegllnljaapiaaGreatArnu4
import Derived.Test.YtcegllnljaapiaaGreatArnu10
namespace Go.Proofs.YtcegllnljaapiaaGreat
open Go.RowKit
def wtU : List Un → Nat | [] => 0 | a :: us => a.wt + wtU us
theorem wtU_drop (us : List Un) {k : Nat} (h : k < us.length) : wtU (us.drop k) = us[k].wt + wtU (us.drop (k + 1)) := by rw [List.drop_eq_getElem_cons h, wtU]
theorem wtU_le : ∀ (us : List Un), ∀ u ∈ us, u.wt ≤ wtU us
  | [], _, h => by simp at h
  | a :: us, s, h => by
    rw [wtU]
    rcases List.mem_cons.1 h with rfl | h
    · omega
    · have := wtU_le us s h; omega
def UnsAt (B : Nat → Prop) (w : World) (v : Value) (us : List Un) : Prop := ListAt B w 4 (UnAt B w) v us
theorem UnsAt.mono {B B' : Nat → Prop} {w w' : World} {v : Value} {us : List Un} (hs : SameOn B w w') (hB : ∀ b, B b → B' b) (h : UnsAt B w v us) : UnsAt B' w' v us := ListAt.mono h hs hB (fun _ _ _ h => h.mono hs hB)
theorem UnsAt.below {B : Nat → Prop} {w w' : World} {v : Value} {us : List Un} (hb : Below w.heap.size w w') (h : UnsAt B w v us) : UnsAt B w' v us := h.mono (SameOn.below hb) (fun _ h => h)
theorem UnsAt.form {B : Nat → Prop} {w : World} {v : Value} {us : List Un} (h : UnsAt B w v us) : ∃ p c, v = .slice p us.length c ∧ us.length ≤ maxLen := ListAt.form h
theorem UnsAt.at_ {B : Nat → Prop} {w : World} {p : Option Addr} {n c : Nat} {us : List Un} (h : UnsAt B w (.slice p n c) us) {i : Nat} (hi : i < us.length) : ∃ b o, p = some ⟨b, o, none⟩ ∧ B b ∧ ∃ p1 c1 p2 c2, w.cell? ⟨b, o + i * 4, none⟩ = some (.string us[i].name) ∧ w.cell? ⟨b, o + i * 4 + 1, none⟩ = some (.slice p1 us[i].incs.length c1) ∧ w.cell? ⟨b, o + i * 4 + 2, none⟩ = some (.slice p2 us[i].axs.length c2) ∧ w.cell? ⟨b, o + i * 4 + 3, none⟩ = some (.string us[i].goal) ∧ UnAt B w us[i] [.string us[i].name, .slice p1 us[i].incs.length c1, .slice p2 us[i].axs.length c2, .string us[i].goal] := by
  obtain ⟨b, o, h1, h2, x0, x1, x2, x3, c0, c1, c2, c3, hR⟩ := ListAt.at4 h hi
  obtain ⟨p1, k1, p2, k2, rfl, rfl, rfl, rfl, -⟩ := hR.form
  exact ⟨b, o, h1, h2, p1, k1, p2, k2, c0, c1, c2, c3, hR⟩
set_option maxRecDepth 100000 in
set_option maxHeartbeats 1600000 in
theorem szUnit_any {B : Nat → Prop} (u : Un) (v0 v1 v2 v3 : Value) (left : Int) (w : World) (h : UnAt B w u [v0, v1, v2, v3]) (h0 : 0 ≤ left) (h1 : left ≤ 1048576) :
    Calls Tryz.prog 39 #[.agg #[v0, v1, v2, v3], .int .i64 left] w fun e w' => e = .returned (.int .i64 (szR left u.wt)) ∧ Below w.heap.size w w' := by
  obtain ⟨p, c, q, d, rfl, rfl, rfl, rfl, hn, hg, l1, l2, hi, ha⟩ := h.form
  unfold maxLen at hn hg l1 l2
  have HI := Lib.hid hi
  have HA := Lib.hid ha
  have HW := Lib.hid (show u.wt = u.name.size + (u.incs.length + wtS u.incs) + (u.axs.length + wtS u.axs) + u.goal.size from rfl)
  clear h hi ha
  go_enter Tryz.func39, Tryz.ntmps39
  by_cases g1 : (u.name.size : Int) ≤ left
  case neg =>
    go_wp2
    go_ret
    exact ⟨ret_int (by have := HW.out; rw [szR, if_neg (by omega)]), by (repeat (first | with_reducible exact Below.refl _ _ | with_reducible assumption | with_reducible refine Below.al ?_ _ | with_reducible refine Below.sc ?_ (by first | exact Nat.le_refl _ | (simp; done) | (simp; omega)) _ | assumption | exact Below.refl _ _ | refine Below.dr ?_ | refine Below.drN ?_ _ | refine Below.step ?_ (by assumption)))⟩
  by_cases g2 : ((u.incs.length + wtS u.incs : Nat) : Int) ≤ left - u.name.size
  case neg =>
    have HS := Lib.hid (show szR (left - u.name.size) (u.incs.length + wtS u.incs) = -1 from if_neg g2)
    go_wp2_with fail
    refine (szStringS_any u.incs _ _ _ (HI.out.below (by (repeat (first | with_reducible exact Below.refl _ _ | with_reducible assumption | with_reducible refine Below.al ?_ _ | with_reducible refine Below.sc ?_ (by first | exact Nat.le_refl _ | (simp; done) | (simp; omega)) _ | assumption | exact Below.refl _ _ | refine Below.dr ?_ | refine Below.drN ?_ _ | refine Below.step ?_ (by assumption))))) (by omega) (by omega)).mono ?_
    rintro e w1 ⟨rfl, hb1⟩
    have ⟨cw1, fw1⟩ := bcell hb1
    have qw1 := hb1.size
    (try simp at qw1)
    (try have zw1w := bsz (show w.heap.size < w1.heap.size by omega))
    rw [HS.out]
    go_wp2
    go_ret
    exact ⟨ret_int (by have := HW.out; rw [szR, if_neg (by omega)]), by (repeat (first | with_reducible exact Below.refl _ _ | with_reducible assumption | with_reducible refine Below.al ?_ _ | with_reducible refine Below.sc ?_ (by first | exact Nat.le_refl _ | (simp; done) | (simp; omega)) _ | assumption | exact Below.refl _ _ | refine Below.dr ?_ | refine Below.drN ?_ _ | refine Below.step ?_ (by assumption)))⟩
  have HS := Lib.hid (show szR (left - u.name.size) (u.incs.length + wtS u.incs) = left - u.name.size - ((u.incs.length : Int) + (wtS u.incs : Nat)) by rw [szR, if_pos g2]; omega)
  go_wp2_with fail
  refine (szStringS_any u.incs _ _ _ (HI.out.below (by (repeat (first | with_reducible exact Below.refl _ _ | with_reducible assumption | with_reducible refine Below.al ?_ _ | with_reducible refine Below.sc ?_ (by first | exact Nat.le_refl _ | (simp; done) | (simp; omega)) _ | assumption | exact Below.refl _ _ | refine Below.dr ?_ | refine Below.drN ?_ _ | refine Below.step ?_ (by assumption))))) (by omega) (by omega)).mono ?_
  rintro e w1 ⟨rfl, hb1⟩
  have ⟨cw1, fw1⟩ := bcell hb1
  have qw1 := hb1.size
  (try simp at qw1)
  (try have zw1w := bsz (show w.heap.size < w1.heap.size by omega))
  rw [HS.out]
  by_cases g3 : ((u.axs.length + wtS u.axs : Nat) : Int) ≤ left - u.name.size - (u.incs.length + wtS u.incs : Nat)
  case neg =>
    have HS2 := Lib.hid (show szR (left - u.name.size - ((u.incs.length : Int) + (wtS u.incs : Nat))) (u.axs.length + wtS u.axs) = -1 by rw [szR, if_neg (by omega)])
    go_wp2_with fail
    refine (szStringS_any u.axs _ _ _ (HA.out.below (by (repeat (first | with_reducible exact Below.refl _ _ | with_reducible assumption | with_reducible refine Below.al ?_ _ | with_reducible refine Below.sc ?_ (by first | exact Nat.le_refl _ | (simp; done) | (simp; omega)) _ | assumption | exact Below.refl _ _ | refine Below.dr ?_ | refine Below.drN ?_ _ | refine Below.step ?_ (by assumption))))) (by omega) (by omega)).mono ?_
    rintro e w2 ⟨rfl, hb2⟩
    have ⟨cw2, fw2⟩ := bcell hb2
    have qw2 := hb2.size
    (try simp at qw2)
    (try have zw2w := bsz (show w.heap.size < w2.heap.size by omega))
    (try have zw2w1 := bsz (show w1.heap.size < w2.heap.size by omega))
    rw [HS2.out]
    go_wp2
    go_ret
    exact ⟨ret_int (by have := HW.out; rw [szR, if_neg (by omega)]), by (repeat (first | with_reducible exact Below.refl _ _ | with_reducible assumption | with_reducible refine Below.al ?_ _ | with_reducible refine Below.sc ?_ (by first | exact Nat.le_refl _ | (simp; done) | (simp; omega)) _ | assumption | exact Below.refl _ _ | refine Below.dr ?_ | refine Below.drN ?_ _ | refine Below.step ?_ (by assumption)))⟩
  have HS2 := Lib.hid (show szR (left - u.name.size - ((u.incs.length : Int) + (wtS u.incs : Nat))) (u.axs.length + wtS u.axs) = left - u.name.size - ((u.incs.length : Int) + (wtS u.incs : Nat)) - ((u.axs.length : Int) + (wtS u.axs : Nat)) by rw [szR, if_pos (by omega)]; omega)
  go_wp2_with fail
  refine (szStringS_any u.axs _ _ _ (HA.out.below (by (repeat (first | with_reducible exact Below.refl _ _ | with_reducible assumption | with_reducible refine Below.al ?_ _ | with_reducible refine Below.sc ?_ (by first | exact Nat.le_refl _ | (simp; done) | (simp; omega)) _ | assumption | exact Below.refl _ _ | refine Below.dr ?_ | refine Below.drN ?_ _ | refine Below.step ?_ (by assumption))))) (by omega) (by omega)).mono ?_
  rintro e w2 ⟨rfl, hb2⟩
  have ⟨cw2, fw2⟩ := bcell hb2
  have qw2 := hb2.size
  (try simp at qw2)
  (try have zw2w := bsz (show w.heap.size < w2.heap.size by omega))
  (try have zw2w1 := bsz (show w1.heap.size < w2.heap.size by omega))
  rw [HS2.out]
  by_cases g4 : (u.goal.size : Int) ≤ left - u.name.size - (u.incs.length + wtS u.incs : Nat) - (u.axs.length + wtS u.axs : Nat)
  case neg =>
    go_wp2
    go_ret
    exact ⟨ret_int (by have := HW.out; rw [szR, if_neg (by omega)]), by (repeat (first | with_reducible exact Below.refl _ _ | with_reducible assumption | with_reducible refine Below.al ?_ _ | with_reducible refine Below.sc ?_ (by first | exact Nat.le_refl _ | (simp; done) | (simp; omega)) _ | assumption | exact Below.refl _ _ | refine Below.dr ?_ | refine Below.drN ?_ _ | refine Below.step ?_ (by assumption)))⟩
  go_wp2
  go_ret
  exact ⟨ret_int (by have := HW.out; rw [szR, if_pos (by omega)]; omega), by (repeat (first | with_reducible exact Below.refl _ _ | with_reducible assumption | with_reducible refine Below.al ?_ _ | with_reducible refine Below.sc ?_ (by first | exact Nat.le_refl _ | (simp; done) | (simp; omega)) _ | assumption | exact Below.refl _ _ | refine Below.dr ?_ | refine Below.drN ?_ _ | refine Below.step ?_ (by assumption)))⟩
set_option maxRecDepth 100000 in
set_option maxHeartbeats 1600000 in
theorem szUnitS_any {B : Nat → Prop} (us : List Un) (va : Value) (left : Int) (w : World) (h : UnsAt B w va us) (h0 : 0 ≤ left) (h1 : left ≤ 1048576) :
    Calls Tryz.prog 17 #[va, .int .i64 left] w fun e w' => e = .returned (.int .i64 (szR left (us.length + wtU us))) ∧ Below w.heap.size w w' := by
  obtain ⟨p, c, rfl, hlen⟩ := h.form
  unfold maxLen at hlen
  have H := Lib.hid h
  clear h
  by_cases hl : (us.length : Int) ≤ left
  · go_enter Tryz.func17, Tryz.ntmps17
    go_wp2
    go_loopw [1, 5] (fun l i wr => ∃ k done : Nat, k ≤ us.length ∧ i = .int .i64 k ∧ done + wtU (us.drop k) = wtU us ∧ l = .int .i64 (left - us.length - done) ∧ (done : Int) ≤ left - us.length ∧ Below w.heap.size w wr) (fun _ i _ => us.length - (intOf i).toNat)
    case atStart => exact ⟨0, 0, Nat.zero_le _, rfl, by simp, by simp, by omega, by (repeat (first | with_reducible exact Below.refl _ _ | with_reducible assumption | with_reducible refine Below.al ?_ _ | with_reducible refine Below.sc ?_ (by first | exact Nat.le_refl _ | (simp; done) | (simp; omega)) _ | assumption | exact Below.refl _ _ | refine Below.dr ?_ | refine Below.drN ?_ _ | refine Below.step ?_ (by assumption)))⟩
    case round =>
      obtain ⟨k, done, hk, rfl, hd, rfl, hdl, hb⟩ := hrel
      have HD := Lib.hid hd
      clear hd
      by_cases hlt : k < us.length
      · obtain ⟨b, o, rfl, hB, p1, c1, p2, c2, hx0, hx1, hx2, hx3, hx⟩ := (H.out.below hb).at_ hlt
        have HW := Lib.hid (wtU_drop us hlt)
        obtain ⟨a, ha⟩ : ∃ a, us[k] = a := ⟨_, rfl⟩
        rw [ha] at hx hx0 hx1 hx2 hx3 HW
        have HX := Lib.hid hx
        clear hx ha
        by_cases hw : (a.wt : Int) ≤ left - us.length - done
        · have hs : szR (left - us.length - done) a.wt = left - us.length - done - a.wt := if_pos hw
          have HS := Lib.hid hs
          clear hs
          go_wp2_with fail
          refine (szUnit_any a _ _ _ _ _ _ HX.out (by omega) (by omega)).mono ?_
          rintro e w1 ⟨rfl, hb1⟩
          have ⟨cw1, fw1⟩ := bcell hb1
          have qw1 := hb1.size
          (try simp at qw1)
          (try have zw1w := bsz (show w.heap.size < w1.heap.size by omega))
          rw [HS.out]
          go_wp2
          have h1 := HD.out
          have h2 := HW.out
          refine ⟨⟨k + 1, done + a.wt, by omega, by go_num, by omega, ?_, by omega, by (repeat (first | with_reducible exact Below.refl _ _ | with_reducible assumption | with_reducible refine Below.al ?_ _ | with_reducible refine Below.sc ?_ (by first | exact Nat.le_refl _ | (simp; done) | (simp; omega)) _ | assumption | exact Below.refl _ _ | refine Below.dr ?_ | refine Below.drN ?_ _ | refine Below.step ?_ (by assumption)))⟩, by simp [intOf]; omega⟩
          exact congrArg (Value.int .i64) (by omega)
        · have HS := Lib.hid (show szR (left - us.length - done) a.wt = -1 from if_neg hw)
          go_wp2_with fail
          refine (szUnit_any a _ _ _ _ _ _ HX.out (by omega) (by omega)).mono ?_
          rintro e w1 ⟨rfl, hb1⟩
          have ⟨cw1, fw1⟩ := bcell hb1
          have qw1 := hb1.size
          (try simp at qw1)
          (try have zw1w := bsz (show w.heap.size < w1.heap.size by omega))
          rw [HS.out]
          go_wp2
          go_ret
          have h1 := HD.out
          have h2 := HW.out
          exact ⟨ret_int (by rw [szR, if_neg (by omega)]), by (repeat (first | with_reducible exact Below.refl _ _ | with_reducible assumption | with_reducible refine Below.al ?_ _ | with_reducible refine Below.sc ?_ (by first | exact Nat.le_refl _ | (simp; done) | (simp; omega)) _ | assumption | exact Below.refl _ _ | refine Below.dr ?_ | refine Below.drN ?_ _ | refine Below.step ?_ (by assumption)))⟩
      · obtain rfl : k = us.length := by omega
        have hd := HD.out
        rw [List.drop_length, wtU] at hd
        have HD2 := Lib.hid hd
        clear hd
        go_wp2
        go_ret
        have h1 := HD2.out
        exact ⟨ret_int (by rw [szR, if_pos (by omega)]; omega), by (repeat (first | with_reducible exact Below.refl _ _ | with_reducible assumption | with_reducible refine Below.al ?_ _ | with_reducible refine Below.sc ?_ (by first | exact Nat.le_refl _ | (simp; done) | (simp; omega)) _ | assumption | exact Below.refl _ _ | refine Below.dr ?_ | refine Below.drN ?_ _ | refine Below.step ?_ (by assumption)))⟩
  · go_enter Tryz.func17, Tryz.ntmps17
    go_wp2
    go_ret
    exact ⟨ret_int (by rw [szR, if_neg (by omega)]), by (repeat (first | with_reducible exact Below.refl _ _ | with_reducible assumption | with_reducible refine Below.al ?_ _ | with_reducible refine Below.sc ?_ (by first | exact Nat.le_refl _ | (simp; done) | (simp; omega)) _ | assumption | exact Below.refl _ _ | refine Below.dr ?_ | refine Below.drN ?_ _ | refine Below.step ?_ (by assumption)))⟩
set_option maxRecDepth 100000 in
set_option maxHeartbeats 1600000 in
theorem eqUnit_same {B B' : Nat → Prop} (u : Un) (v0 v1 v2 v3 u0 u1 u2 u3 : Value) (w : World) (h : UnAt B w u [v0, v1, v2, v3]) (h' : UnAt B' w u [u0, u1, u2, u3]) :
    Calls Tryz.prog 53 #[.agg #[v0, v1, v2, v3], .agg #[u0, u1, u2, u3]] w fun e w' => e = .returned (.bool true) ∧ Below w.heap.size w w' := by
  obtain ⟨p, c, q, d, rfl, rfl, rfl, rfl, hn, hg, l1, l2, hi, ha⟩ := h.form
  obtain ⟨p', c', q', d', rfl, rfl, rfl, rfl, -, -, -, -, hi', ha'⟩ := h'.form
  have HI := Lib.hid hi
  have HA := Lib.hid ha
  have HI' := Lib.hid hi'
  have HA' := Lib.hid ha'
  clear h hi ha h' hi' ha'
  go_enter Tryz.func53, Tryz.ntmps53
  skip
  go_wp2_with fail
  refine (eqStringS_same u.incs _ _ _ (HI.out.below (by (repeat (first | with_reducible exact Below.refl _ _ | with_reducible assumption | with_reducible refine Below.al ?_ _ | with_reducible refine Below.sc ?_ (by first | exact Nat.le_refl _ | (simp; done) | (simp; omega)) _ | assumption | exact Below.refl _ _ | refine Below.dr ?_ | refine Below.drN ?_ _ | refine Below.step ?_ (by assumption))))) (HI'.out.below (by (repeat (first | with_reducible exact Below.refl _ _ | with_reducible assumption | with_reducible refine Below.al ?_ _ | with_reducible refine Below.sc ?_ (by first | exact Nat.le_refl _ | (simp; done) | (simp; omega)) _ | assumption | exact Below.refl _ _ | refine Below.dr ?_ | refine Below.drN ?_ _ | refine Below.step ?_ (by assumption)))))).mono ?_
  rintro e w1 ⟨rfl, hb1⟩
  have ⟨cw1, fw1⟩ := bcell hb1
  have qw1 := hb1.size
  (try simp at qw1)
  (try have zw1w := bsz (show w.heap.size < w1.heap.size by omega))
  (try have zw1_0 := bsz (show w.heap.size + 1 < w1.heap.size by omega))
  go_wp2_with fail
  refine (eqStringS_same u.axs _ _ _ (HA.out.below (by (repeat (first | with_reducible exact Below.refl _ _ | with_reducible assumption | with_reducible refine Below.al ?_ _ | with_reducible refine Below.sc ?_ (by first | exact Nat.le_refl _ | (simp; done) | (simp; omega)) _ | assumption | exact Below.refl _ _ | refine Below.dr ?_ | refine Below.drN ?_ _ | refine Below.step ?_ (by assumption))))) (HA'.out.below (by (repeat (first | with_reducible exact Below.refl _ _ | with_reducible assumption | with_reducible refine Below.al ?_ _ | with_reducible refine Below.sc ?_ (by first | exact Nat.le_refl _ | (simp; done) | (simp; omega)) _ | assumption | exact Below.refl _ _ | refine Below.dr ?_ | refine Below.drN ?_ _ | refine Below.step ?_ (by assumption)))))).mono ?_
  rintro e w2 ⟨rfl, hb2⟩
  have ⟨cw2, fw2⟩ := bcell hb2
  have qw2 := hb2.size
  (try simp at qw2)
  (try have zw2w := bsz (show w.heap.size < w2.heap.size by omega))
  (try have zw2w1 := bsz (show w1.heap.size < w2.heap.size by omega))
  (try have zw2_0 := bsz (show w.heap.size + 1 < w2.heap.size by omega))
  go_wp2
  go_ret
  exact ⟨rfl, by (repeat (first | with_reducible exact Below.refl _ _ | with_reducible assumption | with_reducible refine Below.al ?_ _ | with_reducible refine Below.sc ?_ (by first | exact Nat.le_refl _ | (simp; done) | (simp; omega)) _ | assumption | exact Below.refl _ _ | refine Below.dr ?_ | refine Below.drN ?_ _ | refine Below.step ?_ (by assumption)))⟩
set_option maxRecDepth 100000 in
set_option maxHeartbeats 1600000 in
theorem eqUnitS_same {B B' : Nat → Prop} (us : List Un) (va ua : Value) (w : World) (h : UnsAt B w va us) (h' : UnsAt B' w ua us) :
    Calls Tryz.prog 21 #[va, ua] w fun e w' => e = .returned (.bool true) ∧ Below w.heap.size w w' := by
  obtain ⟨p, c, rfl, hlen⟩ := h.form
  obtain ⟨p', c', rfl, -⟩ := h'.form
  unfold maxLen at hlen
  have H := Lib.hid h
  have H' := Lib.hid h'
  clear h h'
  go_enter Tryz.func21, Tryz.ntmps21
  go_wp2
  go_loopw [5] (fun i wr => ∃ k : Nat, k ≤ us.length ∧ i = .int .i64 k ∧ Below w.heap.size w wr) (fun i _ => us.length - (intOf i).toNat)
  case atStart => exact ⟨0, Nat.zero_le _, rfl, by (repeat (first | with_reducible exact Below.refl _ _ | with_reducible assumption | with_reducible refine Below.al ?_ _ | with_reducible refine Below.sc ?_ (by first | exact Nat.le_refl _ | (simp; done) | (simp; omega)) _ | assumption | exact Below.refl _ _ | refine Below.dr ?_ | refine Below.drN ?_ _ | refine Below.step ?_ (by assumption)))⟩
  case round =>
    obtain ⟨k, hk, rfl, hb⟩ := hrel
    by_cases hlt : k < us.length
    · obtain ⟨b, o, rfl, hB, p1, c1, p2, c2, hx0, hx1, hx2, hx3, hx⟩ := (H.out.below hb).at_ hlt
      obtain ⟨b', o', rfl, hB', p1', c1', p2', c2', hy0, hy1, hy2, hy3, hy⟩ := (H'.out.below hb).at_ hlt
      obtain ⟨a, ha⟩ : ∃ a, us[k] = a := ⟨_, rfl⟩
      rw [ha] at hx hx0 hx1 hx2 hx3 hy hy0 hy1 hy2 hy3
      have HX := Lib.hid hx
      have HY := Lib.hid hy
      clear hx hy ha
      go_wp2
      obtain ⟨C, HC0⟩ := class_of (InF wr.heap.size _ [(⟨b, o + k * 4, none⟩, .string a.name), (⟨b, o + k * 4 + 1, none⟩, .slice p1 a.incs.length c1), (⟨b, o + k * 4 + 2, none⟩, .slice p2 a.axs.length c2), (⟨b, o + k * 4 + 3, none⟩, .string a.goal), (⟨b', o' + k * 4, none⟩, .string a.name), (⟨b', o' + k * 4 + 1, none⟩, .slice p1' a.incs.length c1'), (⟨b', o' + k * 4 + 2, none⟩, .slice p2' a.axs.length c2'), (⟨b', o' + k * 4 + 3, none⟩, .string a.goal)] [] [])
      have HC := Lib.hid HC0
      clear HC0
      refine wp_region_flow (C := C) (by kernel_rfl) (by kernel_rfl) (fun L hL => (HC.out _ _).2 (InF.start (by first | (intro _ hs; cases hs; done) | (simp only [List.forall_mem_cons]; go_simp)) (by first | (intro _ hs; cases hs; done) | (simp only [List.forall_mem_cons]; go_simp)) (by first | (intro _ hs; cases hs; done) | (simp only [List.forall_mem_cons]; go_simp)) (by first | (intro _ hs; cases hs; done) | (simp only [List.forall_mem_cons]; go_simp)) L hL)) ?_
      repeat (first | (apply flow_free rfl; (intro L w' hun hrd hC; have hC := (HC.out _ _).1 hC; have hb' := hC.below; (try have hw' : Below w.heap.size w w' := by first | exact Below.trans (by (repeat (first | with_reducible exact Below.refl _ _ | with_reducible assumption | with_reducible refine Below.al ?_ _ | with_reducible refine Below.sc ?_ (by first | exact Nat.le_refl _ | (simp; done) | (simp; omega)) _ | assumption | exact Below.refl _ _ | refine Below.dr ?_ | refine Below.drN ?_ _ | refine Below.step ?_ (by assumption)))) hb' | ((repeat (first | with_reducible exact Below.refl _ _ | with_reducible assumption | with_reducible refine Below.al ?_ _ | with_reducible refine Below.sc ?_ (by first | exact Nat.le_refl _ | (simp; done) | (simp; omega)) _ | assumption | exact Below.refl _ _ | refine Below.dr ?_ | refine Below.drN ?_ _ | refine Below.step ?_ (by assumption))); done)); have hf' := hC.cell; (try simp only [List.forall_mem_cons] at hf'); go_simp; first | exact ⟨(HC.out _ _).2 (hC.skip _ (by rfl)), rfl⟩ | (rw [if_neg]; (exact ⟨(HC.out _ _).2 (hC.skip _ (by rfl)), rfl⟩); omega) | (go_at_call 53; refine (eqUnit_same a _ _ _ _ _ _ _ _ _ (UnAt.below hb' HX.out) (UnAt.below hb' HY.out)).mono ?_; rintro e w1 ⟨rfl, hb1⟩; exact ⟨rfl, (HC.out _ _).2 ((hC.next (by first | (simp; done) | (simp; omega) | omega) hb1).skip _ (by rfl))⟩)); go_simp) | (apply flow_yes; (case hw => go_simp); (intro L w' hun hrd hC; have hC := (HC.out _ _).1 hC; have hb' := hC.below; (try have hw' : Below w.heap.size w w' := by first | exact Below.trans (by (repeat (first | with_reducible exact Below.refl _ _ | with_reducible assumption | with_reducible refine Below.al ?_ _ | with_reducible refine Below.sc ?_ (by first | exact Nat.le_refl _ | (simp; done) | (simp; omega)) _ | assumption | exact Below.refl _ _ | refine Below.dr ?_ | refine Below.drN ?_ _ | refine Below.step ?_ (by assumption)))) hb' | ((repeat (first | with_reducible exact Below.refl _ _ | with_reducible assumption | with_reducible refine Below.al ?_ _ | with_reducible refine Below.sc ?_ (by first | exact Nat.le_refl _ | (simp; done) | (simp; omega)) _ | assumption | exact Below.refl _ _ | refine Below.dr ?_ | refine Below.drN ?_ _ | refine Below.step ?_ (by assumption))); done)); have hf' := hC.cell; (try simp only [List.forall_mem_cons] at hf'); go_simp; first | exact ⟨(HC.out _ _).2 (hC.skip _ (by rfl)), rfl⟩ | (rw [if_neg]; (exact ⟨(HC.out _ _).2 (hC.skip _ (by rfl)), rfl⟩); omega) | (go_at_call 53; refine (eqUnit_same a _ _ _ _ _ _ _ _ _ (UnAt.below hb' HX.out) (UnAt.below hb' HY.out)).mono ?_; rintro e w1 ⟨rfl, hb1⟩; exact ⟨rfl, (HC.out _ _).2 ((hC.next (by first | (simp; done) | (simp; omega) | omega) hb1).skip _ (by rfl))⟩)); go_simp) | (apply flow_no; (case hw => (go_simp; try (intro hh; cases hh))); (intro L w' _ _ hC; exact (HC.out _ _).2 (((HC.out _ _).1 hC).skip _ (by rfl))); go_simp))
      refine flow_nil ?_
      intro L wz hL hz
      have hz := (HC.out _ _).1 hz
      have hbz := hz.below
      have hcz := hz.cell
      try simp only [List.forall_mem_cons] at hcz
      have hdz := hz.done
      try simp only [List.forall_mem_cons] at hdz
      (try have hwz : Below w.heap.size w wz := by first | exact Below.trans (by (repeat (first | with_reducible exact Below.refl _ _ | with_reducible assumption | with_reducible refine Below.al ?_ _ | with_reducible refine Below.sc ?_ (by first | exact Nat.le_refl _ | (simp; done) | (simp; omega)) _ | assumption | exact Below.refl _ _ | refine Below.dr ?_ | refine Below.drN ?_ _ | refine Below.step ?_ (by assumption)))) hbz | ((repeat (first | with_reducible exact Below.refl _ _ | with_reducible assumption | with_reducible refine Below.al ?_ _ | with_reducible refine Below.sc ?_ (by first | exact Nat.le_refl _ | (simp; done) | (simp; omega)) _ | assumption | exact Below.refl _ _ | refine Below.dr ?_ | refine Below.drN ?_ _ | refine Below.step ?_ (by assumption))); done))
      go_wp2
      refine ⟨⟨k + 1, by omega, by go_num, Below.step hb hbz⟩, by simp [intOf]; omega⟩
    · go_wp2
      go_ret
      exact ⟨rfl, hb⟩
end Go.Proofs.YtcegllnljaapiaaGreat
namespace Go.Proofs.YtcegllnljaapiaaGreat
open Go.RowKit
def UnOwn (e : TypeId) (S : Nat → Prop) (w : World) (u : Un) (cs : List Value) : Prop := ∃ va vb S1 S2, cs = [.string u.name, va, vb, .string u.goal] ∧ u.name.size ≤ maxLen ∧ u.goal.size ≤ maxLen ∧ StrOwn e S1 w u.incs va ∧ StrOwn e S2 w u.axs vb ∧ (∀ b, S1 b → S b) ∧ (∀ b, S2 b → S b) ∧ ∀ b, S1 b → ¬ S2 b
theorem UnOwn.mono {e : TypeId} {S S' : Nat → Prop} {w w' : World} {u : Un} {cs : List Value} (hs : SameOn S w w') (hS : ∀ b, S b → S' b) (h : UnOwn e S w u cs) : UnOwn e S' w' u cs := by
  obtain ⟨va, vb, S1, S2, h1, h2, h3, h4, h5, h6, h7, h8⟩ := h
  exact ⟨va, vb, S1, S2, h1, h2, h3, h4.mono (fun b hb hlt => hs b (h6 b hb) hlt) (fun _ h => h), h5.mono (fun b hb hlt => hs b (h7 b hb) hlt) (fun _ h => h), fun b hb => hS b (h6 b hb), fun b hb => hS b (h7 b hb), h8⟩
theorem UnOwn.at_ {e : TypeId} {S : Nat → Prop} {w : World} {u : Un} {cs : List Value} (h : UnOwn e S w u cs) : UnAt S w u cs := by
  obtain ⟨va, vb, S1, S2, h1, h2, h3, h4, h5, h6, h7, h8⟩ := h
  exact ⟨va, vb, h1, h2, h3, h4.at_.mono (SameOn.refl _ _) h6, h5.at_.mono (SameOn.refl _ _) h7⟩
def UnsOwn (e eU : TypeId) (S : Nat → Prop) (w : World) (us : List Un) (v : Value) : Prop := OwnRow S w eU 4 (fun T u cs => UnOwn e T w u cs) v us
theorem UnsOwn.mono {e eU : TypeId} {S S' : Nat → Prop} {w w' : World} {us : List Un} {v : Value} (hs : SameOn S w w') (hS : ∀ b, S b → S' b) (h : UnsOwn e eU S w us v) : UnsOwn e eU S' w' us v :=
  OwnRow.mono h hs hS (fun _ _ _ _ hT hx => hx.mono (fun b hb hlt => hs b (hT b hb) hlt) (fun _ h => h))
theorem UnsOwn.at_ {e eU : TypeId} {S : Nat → Prop} {w : World} {us : List Un} {v : Value} (h : UnsOwn e eU S w us v) : UnsAt S w v us := OwnRow.listAt (by omega) h (fun T x cs _ hT hx => hx.at_.mono (SameOn.refl _ _) hT)
theorem UnsOwn.later {e eU : TypeId} {S : Nat → Prop} {w w' : World} {us : List Un} {v : Value} (hb : Below w.heap.size w w') (h : UnsOwn e eU S w us v) : UnsOwn e eU S w' us v := h.mono (SameOn.below hb) (fun _ h => h)
/-! ### Marks -/
def Un.ct (u : Un) : Nat := 2 + u.incs.length + u.axs.length
def Un.mkd (k : Nat) (u : Un) : Un := ⟨markB k, marksL (k + 1) u.incs.length, marksL (k + 1 + u.incs.length) u.axs.length, markB (k + 1 + u.incs.length + u.axs.length)⟩
def ctU : List Un → Nat | [] => 0 | u :: us => u.ct + ctU us
def mksU : Nat → List Un → List Un | _, [] => [] | k, u :: us => u.mkd k :: mksU (k + u.ct) us
theorem ctU_snoc : ∀ (us : List Un) (u : Un), ctU (us ++ [u]) = ctU us + u.ct
  | [], u => by simp [ctU]
  | v :: us, u => by rw [List.cons_append, ctU, ctU, ctU_snoc us u]; omega
theorem mksU_snoc : ∀ (k : Nat) (us : List Un) (u : Un), mksU k (us ++ [u]) = mksU k us ++ [u.mkd (k + ctU us)]
  | k, [], u => by simp [mksU, ctU]
  | k, v :: us, u => by rw [List.cons_append, mksU, mksU, ctU, mksU_snoc (k + v.ct) us u, List.cons_append, Nat.add_assoc]
theorem mksU_len : ∀ (k : Nat) (us : List Un), (mksU k us).length = us.length
  | k, [] => rfl
  | k, v :: us => by rw [mksU, List.length_cons, mksU_len _ us, List.length_cons]
theorem mksU_at : ∀ (k : Nat) (us : List Un) (j : Nat) (h : j < us.length), (mksU k us)[j]? = some (us[j].mkd (k + ctU (us.take j)))
  | k, v :: us, 0, _ => by simp [mksU, ctU]
  | k, v :: us, j + 1, h => by
    rw [mksU, List.getElem?_cons_succ, mksU_at (k + v.ct) us j (by simpa using h), List.take_succ_cons, ctU, Nat.add_assoc]; rfl
theorem ctU_take {us : List Un} {j : Nat} (h : j < us.length) : ctU (us.take (j + 1)) = ctU (us.take j) + us[j].ct := by
  rw [List.take_succ_eq_append_getElem h, ctU_snoc]
theorem ctU_le : ∀ (us : List Un) (j : Nat), ctU (us.take j) ≤ ctU us
  | [], j => by simp [ctU]
  | u :: us, 0 => by simp [ctU]
  | u :: us, j + 1 => by have := ctU_le us j; rw [List.take_succ_cons, ctU, ctU]; omega
set_option maxRecDepth 100000 in
set_option maxHeartbeats 3200000 in
theorem toUnit_own {B : Nat → Prop} (u : Un) (v0 v1 v2 v3 : Value) (w : World) (h : UnAt B w u [v0, v1, v2, v3]) (hw : u.wt ≤ 1048576) :
    Calls Tryz.prog 44 #[.agg #[v0, v1, v2, v3]] w fun e w' => ∃ p c q d, e = .returned (.agg #[.string u.name, .slice p u.incs.length c, .slice q u.axs.length d, .string u.goal]) ∧ UnOwn 9 (NewB w w') w' u [.string u.name, .slice p u.incs.length c, .slice q u.axs.length d, .string u.goal] ∧ Below w.heap.size w w' := by
  obtain ⟨p, c, q, d, rfl, rfl, rfl, rfl, hn, hg, l1, l2, hi, ha⟩ := h.form
  have HI := Lib.hid hi
  have HA := Lib.hid ha
  have HW := Lib.hid (show u.wt = u.name.size + (u.incs.length + wtS u.incs) + (u.axs.length + wtS u.axs) + u.goal.size from rfl)
  have HNG := Lib.hid (And.intro hn hg)
  clear h hi ha hn hg
  go_enter Tryz.func44, Tryz.ntmps44
  skip
  go_wp2_with fail
  refine (toStringS_own u.incs _ _ (HI.out.below (by (repeat (first | with_reducible exact Below.refl _ _ | with_reducible assumption | with_reducible refine Below.al ?_ _ | with_reducible refine Below.sc ?_ (by first | exact Nat.le_refl _ | (simp; done) | (simp; omega)) _ | assumption | exact Below.refl _ _ | refine Below.dr ?_ | refine Below.drN ?_ _ | refine Below.step ?_ (by assumption))))) (by have := HW.out; omega)).mono ?_
  rintro e w1 ⟨g1, rfl, ho1, hb1⟩
  have ⟨cw1, fw1⟩ := bcell hb1
  have qw1 := hb1.size
  (try simp at qw1)
  (try have zw1w := bsz (show w.heap.size < w1.heap.size by omega))
  (try have zw1_0 := bsz (show w.heap.size + 1 < w1.heap.size by omega))
  (try have zw1_1 := bsz (show w.heap.size + 1 + 1 < w1.heap.size by omega))
  have HO1 := Lib.hid ho1
  clear ho1
  go_wp2_with fail
  refine (toStringS_own u.axs _ _ (HA.out.below (by (repeat (first | with_reducible exact Below.refl _ _ | with_reducible assumption | with_reducible refine Below.al ?_ _ | with_reducible refine Below.sc ?_ (by first | exact Nat.le_refl _ | (simp; done) | (simp; omega)) _ | assumption | exact Below.refl _ _ | refine Below.dr ?_ | refine Below.drN ?_ _ | refine Below.step ?_ (by assumption))))) (by have := HW.out; omega)).mono ?_
  rintro e w2 ⟨g2, rfl, ho2, hb2⟩
  have ⟨cw2, fw2⟩ := bcell hb2
  have qw2 := hb2.size
  (try simp at qw2)
  (try have zw2w := bsz (show w.heap.size < w2.heap.size by omega))
  (try have zw2w1 := bsz (show w1.heap.size < w2.heap.size by omega))
  (try have zw2_0 := bsz (show w.heap.size + 1 < w2.heap.size by omega))
  (try have zw2_1 := bsz (show w.heap.size + 1 + 1 < w2.heap.size by omega))
  have HO2 := Lib.hid ho2
  clear ho2
  go_wp2
  refine bodyPost_ret (v := .agg #[.string u.name, .slice (some ⟨g1, 0, none⟩) u.incs.length u.incs.length, .slice (some ⟨g2, 0, none⟩) u.axs.length u.axs.length, .string u.goal]) (by simp only [results, Tryz.results44]; go_simp) rfl ?_
  refine ⟨_, _, _, _, rfl, ⟨_, _, _, _, rfl, HNG.out.1, HNG.out.2, HO1.out.mono (show SameOn (fun b => (_ : Nat) ≤ b ∧ b < _) _ _ by ((repeat' (first | with_reducible exact SameOn.refl _ _ | with_reducible refine SameOn.sc ?_ ?_ _ | with_reducible refine SameOn.al ?_ ?_ _ | with_reducible refine SameOn.be ?_ ?_ (by with_reducible assumption))) <;> (first | (intro b hb; simp at hb ⊢; omega) | exact Nat.le_refl _ | (simp; done) | (simp; omega) | omega))) (fun _ h => h), HO2.out.mono (show SameOn (fun b => (_ : Nat) ≤ b ∧ b < _) _ _ by ((repeat' (first | with_reducible exact SameOn.refl _ _ | with_reducible refine SameOn.sc ?_ ?_ _ | with_reducible refine SameOn.al ?_ ?_ _ | with_reducible refine SameOn.be ?_ ?_ (by with_reducible assumption))) <;> (first | (intro b hb; simp at hb ⊢; omega) | exact Nat.le_refl _ | (simp; done) | (simp; omega) | omega))) (fun _ h => h), fun b hb => ?_, fun b hb => ?_, fun b hb hb' => ?_⟩, by (repeat (first | with_reducible exact Below.refl _ _ | with_reducible assumption | with_reducible refine Below.al ?_ _ | with_reducible refine Below.sc ?_ (by first | exact Nat.le_refl _ | (simp; done) | (simp; omega)) _ | assumption | exact Below.refl _ _ | refine Below.dr ?_ | refine Below.drN ?_ _ | refine Below.step ?_ (by assumption)))⟩
  · have h1 := hb.1; have h2 := hb.2; simp at h1; exact ⟨by omega, by simp; omega⟩
  · have h1 := hb.1; have h2 := hb.2; simp at h1; exact ⟨by omega, by simp; omega⟩
  · have h1 := hb.2; have h2 := hb'.1; simp at h2; omega
theorem elemUnit : Elem Tryz.prog 49 79 4 80 := elem_of Tryz.underlying49 (z := .agg #[.string ⟨#[]⟩, .slice none 0 0, .slice none 0 0, .string ⟨#[]⟩]) (by kernel_rfl) rfl (by omega)
def ToURel (us : List Un) (w : World) (i : Value) (wr : World) : Prop :=
  ∃ k : Nat, k ≤ us.length ∧ i = .int .i64 k ∧ FillRow (NewB w wr) wr 79 4 (fun T w u cs => UnOwn 9 T w u cs) w.heap.size us.length k us ∧ Below w.heap.size w wr
theorem patch4 {cur : Array Value} {o : Nat} (h : o + 4 ≤ cur.size) (a b c d : Value) : Patch cur ((((cur.setIfInBounds (o + 0) a).setIfInBounds (o + 1) b).setIfInBounds (o + 2) c).setIfInBounds (o + 3) d) o [a, b, c, d] := by
  have e : ∀ j, j < 4 → cur[o + j]? = [cur[o]!, cur[o + 1]!, cur[o + 2]!, cur[o + 3]!][j]? := fun j hj => by
    match j, hj with
    | 0, _ => simp [show o < cur.size by omega]
    | 1, _ => simp [show o + 1 < cur.size by omega]
    | 2, _ => simp [show o + 2 < cur.size by omega]
    | 3, _ => simp [show o + 3 < cur.size by omega]
  exact Patch.set (j := 3) (Patch.set (j := 2) (Patch.set (j := 1) (Patch.set (j := 0) (Patch.refl (cs := [cur[o]!, cur[o + 1]!, cur[o + 2]!, cur[o + 3]!]) e) (by simp) h a) (by simp) h b) (by simp) h c) (by simp) h d
set_option maxRecDepth 100000 in
set_option maxHeartbeats 3200000 in
theorem toUnitS_own {B : Nat → Prop} (us : List Un) (va : Value) (w : World) (h : UnsAt B w va us) (hw : us.length + wtU us ≤ 1048576) :
    Calls Tryz.prog 19 #[va] w fun e w' => ∃ g, e = .returned (.slice (some ⟨g, 0, none⟩) us.length us.length) ∧ UnsOwn 9 79 (NewB w w') w' us (.slice (some ⟨g, 0, none⟩) us.length us.length) ∧ Below w.heap.size w w' := by
  obtain ⟨p, c, rfl, -⟩ := h.form
  have H := Lib.hid h
  have HW := Lib.hid hw
  have hlen : us.length ≤ 1048576 := by omega
  obtain ⟨-, i, z, hi, hz, hsz, hby, hzs, -⟩ := elemUnit
  clear h hw
  go_enter Tryz.func19, Tryz.ntmps19
  go_wp2_with (at_make; refine wpList_make_full _ rfl _ _ _ rfl w.heap.size 79 i z 4 Tryz.underlying49 hi hz hsz _ _ _ _ us.length rfl rfl rfl rfl (by rw [hby]; omega) (by unfold maxLen; omega) (Nat.le_refl _) ?_; intro w1 ho1 hg1)
  have hb1 : Below w.heap.size w w1 := ⟨hg1.os, hg1.tape, hg1.output, hg1.size, fun k hk => hg1.block k hk (by simp)⟩
  have HF1 := Lib.hid (show FillRow (NewB w w1) w1 79 4 (fun T w u cs => UnOwn 9 T w u cs) w.heap.size us.length 0 us from FillRow.start ⟨Nat.le_refl _, own_lt ho1⟩ ho1)
  clear ho1 hg1
  go_loopw [4] (ToURel us w) (fun i _ => us.length - (intOf i).toNat)
  case atStart => exact ⟨0, Nat.zero_le _, rfl, HF1.out, hb1⟩
  case round =>
    obtain ⟨k, hk, rfl, hf, hb⟩ := hrel
    have HF := Lib.hid hf
    have hgw := hf.lt
    clear hf HF1 hb1
    by_cases hlt : k < us.length
    · obtain ⟨b, o, rfl, hB, p1, c1, p2, c2, hx0, hx1, hx2, hx3, hx⟩ := (H.out.below hb).at_ hlt
      have hwt := wtU_le us _ (List.getElem_mem hlt)
      obtain ⟨a, ha⟩ : ∃ a, us[k] = a := ⟨_, rfl⟩
      have HK : Hid (us[k]? = some a) := Lib.hid (by rw [List.getElem?_eq_getElem hlt, ha])
      rw [ha] at hx hx0 hx1 hx2 hx3 hwt
      have HX := Lib.hid hx
      clear ha hx
      have zb := bsz (World.block_lt_of_cell? _ _ hx0)
      go_wp2_with fail
      refine (toUnit_own a _ _ _ _ _ HX.out (by have := HW.out; omega)).mono ?_
      rintro e w2 ⟨p3, c3, p4, c4, rfl, hu, hb2⟩
      have ⟨cw2, fw2⟩ := bcell hb2
      have qw2 := hb2.size
      (try simp at qw2)
      (try have zw2w := bsz (show w.heap.size < w2.heap.size by omega))
      have HU := Lib.hid hu
      have hbF := hb2
      have HF2 := Lib.hid (HF.out.later hb2 (fun T x cs hT hx => hx.mono (fun b hb hlt => hb2.block b hlt) (fun _ h => h)))
      clear hu
      have hgb := bsz (show w.heap.size < w2.heap.size by omega)
      obtain ⟨⟨q0, hq0⟩, hf0⟩ := HF2.out.cell (k * 4) (by omega)
      obtain ⟨⟨q1, hq1⟩, hf1⟩ := HF2.out.cell (k * 4 + 1) (by omega)
      obtain ⟨⟨q2, hq2⟩, hf2⟩ := HF2.out.cell (k * 4 + 2) (by omega)
      obtain ⟨⟨q3, hq3⟩, hf3⟩ := HF2.out.cell (k * 4 + 3) (by omega)
      clear cw2 fw2
      go_wp2
      generalize Value.string a.name = u0 at *
      generalize Value.slice p3 a.incs.length c3 = u1 at *
      generalize Value.slice p4 a.axs.length c4 = u2 at *
      generalize Value.string a.goal = u3 at *
      have hbs : Below w.heap.size w ((((w2.setCell ⟨w.heap.size, k * 4, none⟩ u0).setCell ⟨w.heap.size, k * 4 + 1, none⟩ u1).setCell ⟨w.heap.size, k * 4 + 2, none⟩ u2).setCell ⟨w.heap.size, k * 4 + 3, none⟩ u3) := (((((show Below w.heap.size w w2 by (repeat (first | with_reducible exact Below.refl _ _ | with_reducible assumption | with_reducible refine Below.al ?_ _ | with_reducible refine Below.sc ?_ (by first | exact Nat.le_refl _ | (simp; done) | (simp; omega)) _ | assumption | exact Below.refl _ _ | refine Below.dr ?_ | refine Below.drN ?_ _ | refine Below.step ?_ (by assumption)))).setCell (Nat.le_refl _) _).setCell (Nat.le_refl _) _).setCell (Nat.le_refl _) _).setCell (Nat.le_refl _) _)
      have hS : SameOn (fun b => b ≠ w.heap.size) w2 ((((w2.setCell ⟨w.heap.size, k * 4, none⟩ u0).setCell ⟨w.heap.size, k * 4 + 1, none⟩ u1).setCell ⟨w.heap.size, k * 4 + 2, none⟩ u2).setCell ⟨w.heap.size, k * 4 + 3, none⟩ u3) := ((((SameOn.refl _ _).sc (fun b hb e => hb e) _).sc (fun b hb e => hb e) _).sc (fun b hb e => hb e) _).sc (fun b hb e => hb e) _
      refine ⟨⟨k + 1, by omega, by go_num, ?_, hbs⟩, by simp [intOf]; omega⟩
      refine FillRow.put (T := NewB wr w2) (w := wr) (w1 := w2) (HF.out.wider (fun b hb => ⟨hb.1, by have := hb.2; simp; omega⟩)) hlt HK.out hbF rfl (HU.out.mono (fun b hb hlt => hS b (by have := hb.1; omega) hlt) (fun _ h => h)) (fun b hb => ⟨⟨by have := hb.1; omega, by simpa using hb.2⟩, by have := hb.1; omega, hb.1, by simpa using hb.2⟩) (fun cur hc hz => ⟨_, ?_, patch4 hz u0 u1 u2 u3⟩) (by simp) (fun T x cs hT hx => hx.mono (fun b hb' hlt' => (hS b (hT b hb').2 (by omega)).trans (hbF.block b hlt')) (fun _ h => h))
      exact heap_setCell_same _ _ (k * 4 + 3) _ _ u3 (heap_setCell_same _ _ (k * 4 + 2) _ _ u2 (heap_setCell_same _ _ (k * 4 + 1) _ _ u1 (heap_setCell_same w2 _ (k * 4) cur _ u0 hc)))
    · obtain rfl : k = us.length := by omega
      go_wp2
      go_ret
      exact ⟨_, rfl, HF.out.done (by unfold maxLen; omega), hb⟩
end Go.Proofs.YtcegllnljaapiaaGreat
namespace Go.Proofs.YtcegllnljaapiaaGreat
open Go.RowKit
/-- Behind the append: the row is one element longer. -/
def Apped (e : TypeId) (size : Nat) (v : Value) (n : Nat) (cs : Array Value) (W : World) (z : Value) (w : World) : Prop :=
  (∀ b xs', W.ownsRow b e size v n xs' → b ≤ W.heap.size → w.ownsRow b e size z (n + 1) (xs' ++ cs.toList)) ∧ W.grownBy w v.ownBlock ∧ NewRow v z W.heap.size ∧ W.heap.size < w.heap.size
def BoxA (e : TypeId) (size : Nat) (p : Addr) (v : Value) (n : Nat) (cs : Array Value) (W : World) (kb ka : Nat) : Nat → (Nat → Value) → World → Prop
  | 0, _, w => w = W
  | 1, u, w => w = W.alloc (.cells cs e) ∧ u kb = .slice (some ⟨W.heap.size, 0, none⟩) 1 1
  | 2, u, w => Apped e size v n cs W (u ka) w
  | _ + 3, u, w => ∃ w2, Apped e size v n cs W (u ka) w2 ∧ w = w2.setCell p (u ka)
section
variable {e : TypeId} {size : Nat} {p : Addr} {v : Value} {n : Nat} {cs : Array Value} {W : World} {kb ka : Nat}
theorem BoxA.keep {j : Nat} {u : Nat → Value} {w : World} (hj : j ≤ 2) (h : BoxA e size p v n cs W kb ka j u w) {b : Nat} (hb : b < W.heap.size) (hv : v.ownBlock ≠ some b) : w.heap[b]? = W.heap[b]? := by
  match j, hj, h with
  | 0, _, h => obtain rfl : w = W := h; rfl
  | 1, _, h => obtain ⟨rfl, _⟩ := h; exact hao W _ b hb
  | 2, _, h => exact h.2.1.block b hb (fun e => hv e.symm)
theorem BoxA.cell {j : Nat} {u : Nat → Value} {w : World} (hj : j ≤ 2) (h : BoxA e size p v n cs W kb ka j u w) {b o : Nat} {x : Value} (hv : v.ownBlock ≠ some b) (hc : W.cell? ⟨b, o, none⟩ = some x) : w.cell? ⟨b, o, none⟩ = some x :=
  (World.cell?_of_block (a := ⟨b, o, none⟩) (h.keep hj (World.block_lt_of_cell? W _ hc) hv)).trans hc
theorem BoxA.frozen {j : Nat} {u : Nat → Value} {w : World} (hj : j ≤ 2) (h : BoxA e size p v n cs W kb ka j u w) {b o : Nat} {t : TypeId} {cur : Array Value} (hv : v.ownBlock ≠ some b) (hc : W.heap[b]? = some (.cells cur t (0, 0))) : w.frozen? ⟨b, o, none⟩ = false :=
  frozen_of_row w b o cur t ((h.keep hj (heap_lt hc) hv).trans hc)
end
/-- Blocks that are neither the row's nor new nor the box's stay. -/
theorem Apped.keep {e : TypeId} {size : Nat} {v : Value} {n : Nat} {cs : Array Value} {W w : World} {z : Value} (h : Apped e size v n cs W z w) {b : Nat} (hb : b < W.heap.size) (hv : v.ownBlock ≠ some b) : w.heap[b]? = W.heap[b]? := h.2.1.block b hb (fun e => hv e.symm)
theorem Apped.fresh {e : TypeId} {size : Nat} {v : Value} {n : Nat} {cs : Array Value} {W w : World} {z : Value} (h : Apped e size v n cs W z w) {b : Nat} (hb : b < W.heap.size) (hv : v.ownBlock ≠ some b) : z.ownBlock ≠ some b := fun e => by
  rcases h.2.2.1 with h1 | ⟨g, h1, h2⟩
  · exact hv (h1 ▸ e)
  · rw [h1] at e; injection e with e; omega
end Go.Proofs.YtcegllnljaapiaaGreat
namespace Go.Proofs.YtcegllnljaapiaaGreat
open Go.RowKit
/-- The place of the first element that meets a test. -/
def firstI {α : Type} (P : α → Bool) : Nat → List α → Option Nat
  | _, [] => none
  | k, a :: l => if P a then some k else firstI P (k + 1) l
theorem firstI_drop {α : Type} (P : α → Bool) {us : List α} {k : Nat} (h : k < us.length) : firstI P k (us.drop k) = if P us[k] then some k else firstI P (k + 1) (us.drop (k + 1)) := by
  rw [List.drop_eq_getElem_cons h, firstI]
theorem firstI_some {α : Type} (P : α → Bool) : ∀ (us : List α) (k i : Nat), firstI P k us = some i → k ≤ i ∧ ∃ h : i - k < us.length, us.find? P = some us[i - k]
  | [], _, _, h => by cases h
  | a :: us, k, i, h => by
    rw [firstI] at h
    cases hp : P a
    · rw [hp, if_neg (by simp)] at h
      obtain ⟨h1, h2, h3⟩ := firstI_some P us (k + 1) i h
      have e : i - k = (i - (k + 1)) + 1 := by omega
      refine ⟨by omega, by rw [List.length_cons]; omega, ?_⟩
      simp only [e, List.getElem_cons_succ]
      rw [List.find?_cons, hp, h3]
    · rw [hp, if_pos rfl] at h
      injection h with h
      subst h
      refine ⟨Nat.le_refl _, by simp, ?_⟩
      rw [List.find?_cons, hp]; simp
theorem firstI_none {α : Type} (P : α → Bool) : ∀ (us : List α) (k : Nat), firstI P k us = none → us.find? P = none
  | [], _, _ => rfl
  | a :: us, k, h => by
    rw [firstI] at h
    cases hp : P a
    · rw [hp, if_neg (by simp)] at h
      rw [List.find?_cons, hp]; exact firstI_none P us (k + 1) h
    · rw [hp, if_pos rfl] at h; cases h
theorem firstI_any {α : Type} (P : α → Bool) : ∀ (us : List α) (k : Nat), (firstI P k us).isSome = us.any P
  | [], _ => rfl
  | a :: us, k => by
    rw [firstI, List.any_cons]
    cases hp : P a
    · rw [if_neg (by simp), firstI_any P us (k + 1), Bool.false_or]
    · rw [if_pos rfl]; rfl
def atI : Option Nat → Int | none => -1 | some i => i
def FirstI (o : Option Nat) (w : World) (e : Ending) (w' : World) : Prop := ∃ r : Int, e = .returned (.int .i64 r) ∧ r = atI o ∧ Below w.heap.size w w'
theorem atI_neg (o : Option Nat) : decide (0 ≤ atI o) = o.isSome := by cases o <;> simp [atI]
theorem idxFrom_in (x : ByteArray) : ∀ (zs : List ByteArray) (i : Nat), decide (0 ≤ Lib.idxFromS zs x i) = inS zs x
  | [], i => by simp [Lib.idxFromS, inS]
  | a :: zs, i => by
    rw [Lib.idxFromS, inS]
    by_cases h : a = x
    · rw [if_pos h]; simp [h]
    · rw [if_neg h, idxFrom_in x zs (i + 1), inS]
      simp [Ne.symm h]
theorem idxOfS_in (x : ByteArray) (zs : List ByteArray) : decide (0 ≤ Lib.idxOfS zs x) = inS zs x := idxFrom_in x zs 0
theorem containsS_any {B : Nat → Prop} (us : List ByteArray) (v : Value) (x : ByteArray) (w : World) (h : StrsAt B w v us) :
    Calls Tryz.prog 95 #[v, .string x] w fun e w' => e = .returned (.bool (inS us x)) ∧ Below w.heap.size w w' := by
  obtain ⟨p, c, rfl, hlen⟩ := h.form
  unfold maxLen at hlen
  cases us with
  | nil => exact (Tryz.slices_Contains_string_empty p c x w).mono fun e w' ⟨h1, h2⟩ => ⟨h1.trans rfl, h2 ▸ Below.refl _ _⟩
  | cons a us =>
    obtain ⟨b, o, rfl, -⟩ := h.at_ (i := 0) (by simp)
    refine (Tryz.slices_Contains_string b o (a :: us).length c (a :: us) x w (Nat.le_refl _) (by omega) (fun j hj => ?_)).mono fun e w' ⟨h1, h2⟩ => ⟨h1.trans ?_, h2 ▸ Below.refl _ _⟩
    · obtain ⟨b', o', hp, -, hc, -⟩ := h.at_ hj
      simp only [Option.some.injEq, Addr.mk.injEq, and_true] at hp
      obtain ⟨rfl, rfl⟩ := hp
      rw [hc, List.getD_eq_getElem?_getD, List.getElem?_eq_getElem hj]; rfl
    · rw [List.take_length, Lib.containsS, idxOfS_in]
theorem notIn_any {B : Nat → Prop} (out : List ByteArray) (vo : Value) (g : Nat) (x : ByteArray) (w : World) (hg : w.cell? ⟨g, 0, none⟩ = some vo) (h : StrsAt B w vo out) :
    Calls Tryz.prog 193 #[.string x, .pointer (some ⟨g, 0, none⟩)] w fun e w' => e = .returned (.bool (!inS out x)) ∧ Below w.heap.size w w' := by
  have H := Lib.hid h
  obtain ⟨p, c, rfl, hlen⟩ := h.form
  clear h
  go_enter Tryz.func193, Tryz.ntmps193
  go_wp2_with fail
  refine (containsS_any out _ x _ (H.out.below (by (repeat (first | with_reducible exact Below.refl _ _ | with_reducible assumption | with_reducible refine Below.al ?_ _ | with_reducible refine Below.sc ?_ (by first | exact Nat.le_refl _ | (simp; done) | (simp; omega)) _ | assumption | exact Below.refl _ _ | refine Below.dr ?_ | refine Below.drN ?_ _ | refine Below.step ?_ (by assumption)))))).mono ?_
  rintro e w1 ⟨rfl, hb1⟩
  have ⟨cw1, fw1⟩ := bcell hb1
  have qw1 := hb1.size
  (try simp at qw1)
  (try have zw1w := bsz (show w.heap.size < w1.heap.size by omega))
  go_wp2
  go_ret
  exact ⟨rfl, by (repeat (first | with_reducible exact Below.refl _ _ | with_reducible assumption | with_reducible refine Below.al ?_ _ | with_reducible refine Below.sc ?_ (by first | exact Nat.le_refl _ | (simp; done) | (simp; omega)) _ | assumption | exact Below.refl _ _ | refine Below.dr ?_ | refine Below.drN ?_ _ | refine Below.step ?_ (by assumption)))⟩
set_option maxRecDepth 100000 in
set_option maxHeartbeats 1600000 in
theorem idxNotIn {B : Nat → Prop} (P : ByteArray → Bool) (us : List ByteArray) (g : Addr) (va : Value) (w : World) (HC : ∀ (a : ByteArray) (w' : World), a ∈ us → a.size ≤ maxLen → Below w.heap.size w w' → Calls Tryz.prog 193 #[.string a, .pointer (some g)] w' fun e w'' => e = .returned (.bool (P a)) ∧ Below w'.heap.size w' w'')
    (h : StrsAt B w va us) : Calls Tryz.prog 214 #[va, .func (.func 193) #[] #[.pointer (some g)]] w (FirstI (firstI P 0 us) w) := by
  obtain ⟨p, c, rfl, hlen⟩ := h.form
  unfold maxLen at hlen
  have H := Lib.hid h
  have HN1 := Lib.hid HC
  clear h HC
  go_enter Tryz.func214, Tryz.ntmps214
  go_wp2
  go_loopw [8] (fun i wr => ∃ k : Nat, k ≤ us.length ∧ i = .int .i64 k ∧ firstI P 0 us = firstI P k (us.drop k) ∧ Below w.heap.size w wr) (fun i _ => us.length - (intOf i).toNat)
  case atStart => exact ⟨0, Nat.zero_le _, rfl, rfl, by (repeat (first | with_reducible exact Below.refl _ _ | with_reducible assumption | with_reducible refine Below.al ?_ _ | with_reducible refine Below.sc ?_ (by first | exact Nat.le_refl _ | (simp; done) | (simp; omega)) _ | assumption | exact Below.refl _ _ | refine Below.dr ?_ | refine Below.drN ?_ _ | refine Below.step ?_ (by assumption)))⟩
  case round =>
    obtain ⟨k, hk, rfl, he, hb⟩ := hrel
    have HE := Lib.hid he
    clear he
    by_cases hlt : k < us.length
    · obtain ⟨b, o, rfl, hB, hx0, hxs⟩ := (H.out.below hb).at_ hlt
      have HD := Lib.hid (firstI_drop P hlt)
      have hm := List.getElem_mem hlt
      obtain ⟨a, ha⟩ : ∃ a, us[k] = a := ⟨_, rfl⟩
      rw [ha] at hx0 hxs HD hm
      clear ha
      have zb := bsz (World.block_lt_of_cell? _ _ hx0)
      cases hN : P a
      all_goals
        have HN := Lib.hid hN
        go_wp2_with fail
        refine (HN1.out a _ hm hxs (by (repeat (first | with_reducible exact Below.refl _ _ | with_reducible assumption | with_reducible refine Below.al ?_ _ | with_reducible refine Below.sc ?_ (by first | exact Nat.le_refl _ | (simp; done) | (simp; omega)) _ | assumption | exact Below.refl _ _ | refine Below.dr ?_ | refine Below.drN ?_ _ | refine Below.step ?_ (by assumption))))).mono ?_
        rintro e w1 ⟨rfl, hb1⟩
        have ⟨cw1, fw1⟩ := bcell hb1
        have qw1 := hb1.size
        (try simp at qw1)
        (try have zw1w := bsz (show w.heap.size < w1.heap.size by omega))
        rw [HN.out]
        go_wp2
      · refine ⟨⟨k + 1, by omega, by go_num, ?_, by (repeat (first | with_reducible exact Below.refl _ _ | with_reducible assumption | with_reducible refine Below.al ?_ _ | with_reducible refine Below.sc ?_ (by first | exact Nat.le_refl _ | (simp; done) | (simp; omega)) _ | assumption | exact Below.refl _ _ | refine Below.dr ?_ | refine Below.drN ?_ _ | refine Below.step ?_ (by assumption)))⟩, by simp [intOf]; omega⟩
        rw [HE.out, HD.out, HN.out]; rfl
      · go_ret
        exact ⟨_, rfl, by rw [HE.out, HD.out, HN.out]; rfl, by (repeat (first | with_reducible exact Below.refl _ _ | with_reducible assumption | with_reducible refine Below.al ?_ _ | with_reducible refine Below.sc ?_ (by first | exact Nat.le_refl _ | (simp; done) | (simp; omega)) _ | assumption | exact Below.refl _ _ | refine Below.dr ?_ | refine Below.drN ?_ _ | refine Below.step ?_ (by assumption)))⟩
    · obtain rfl : k = us.length := by omega
      have he := HE.out
      rw [List.drop_length] at he
      have HE2 := Lib.hid he
      clear he
      go_wp2
      go_ret
      exact ⟨-1, rfl, by rw [HE2.out]; rfl, by (repeat (first | with_reducible exact Below.refl _ _ | with_reducible assumption | with_reducible refine Below.al ?_ _ | with_reducible refine Below.sc ?_ (by first | exact Nat.le_refl _ | (simp; done) | (simp; omega)) _ | assumption | exact Below.refl _ _ | refine Below.dr ?_ | refine Below.drN ?_ _ | refine Below.step ?_ (by assumption)))⟩
set_option maxRecDepth 100000 in
set_option maxHeartbeats 1600000 in
theorem anyNotIn_any {B B' : Nat → Prop} (us out : List ByteArray) (va vo : Value) (g : Nat) (w : World) (hg : w.cell? ⟨g, 0, none⟩ = some vo) (ho : StrsAt B' w vo out) (h : StrsAt B w va us) :
    Calls Tryz.prog 189 #[va, .func (.func 193) #[] #[.pointer (some ⟨g, 0, none⟩)]] w fun e w' => e = .returned (.bool (us.any fun x => !inS out x)) ∧ Below w.heap.size w w' := by
  have hgz := World.block_lt_of_cell? _ _ hg
  have HX := Lib.hid (fun (w' : World) (hb : Below w.heap.size w w') => idxNotIn (fun x => !inS out x) us ⟨g, 0, none⟩ va w' (fun a w2 _ _ hb2 => notIn_any out vo g a w2 (((Below.step hb hb2).cell hgz).trans hg) (ho.below (Below.step hb hb2))) (h.below hb))
  clear h ho
  go_enter Tryz.func189, Tryz.ntmps189
  go_wp2_with fail
  refine (HX.out _ (by (repeat (first | with_reducible exact Below.refl _ _ | with_reducible assumption | with_reducible refine Below.al ?_ _ | with_reducible refine Below.sc ?_ (by first | exact Nat.le_refl _ | (simp; done) | (simp; omega)) _ | assumption | exact Below.refl _ _ | refine Below.dr ?_ | refine Below.drN ?_ _ | refine Below.step ?_ (by assumption))))).mono ?_
  rintro e w1 ⟨r, rfl, hr, hb1⟩
  have HR := Lib.hid (show decide (0 ≤ r) = (us.any fun x => !inS out x) by rw [hr, atI_neg, firstI_any])
  clear hr
  go_wp2
  go_ret
  exact ⟨ret_bool HR.out, by (repeat (first | with_reducible exact Below.refl _ _ | with_reducible assumption | with_reducible refine Below.al ?_ _ | with_reducible refine Below.sc ?_ (by first | exact Nat.le_refl _ | (simp; done) | (simp; omega)) _ | assumption | exact Below.refl _ _ | refine Below.dr ?_ | refine Below.drN ?_ _ | refine Below.step ?_ (by assumption)))⟩
theorem not_any_all (us : List ByteArray) (P : ByteArray → Bool) : (!us.any fun x => !P x) = us.all P := by
  induction us with
  | nil => rfl
  | cons a us ih => rw [List.any_cons, List.all_cons, ← ih]; cases P a <;> simp
set_option maxRecDepth 100000 in
set_option maxHeartbeats 1600000 in
theorem readyU_any {B B' : Nat → Prop} (u : Un) (out : List ByteArray) (vo v0 v1 v2 v3 : Value) (g : Nat) (w : World) (hg : w.cell? ⟨g, 0, none⟩ = some vo) (ho : StrsAt B' w vo out) (h : UnAt B w u [v0, v1, v2, v3]) :
    Calls Tryz.prog 192 #[.agg #[v0, v1, v2, v3], .pointer (some ⟨g, 0, none⟩)] w fun e w' => e = .returned (.bool (u.ready out)) ∧ Below w.heap.size w w' := by
  obtain ⟨p, c, q, d, rfl, rfl, rfl, rfl, -, -, -, -, hi, -⟩ := h.form
  have hgz := bsz (World.block_lt_of_cell? _ _ hg)
  obtain ⟨po, co, rfl, -⟩ := ho.form
  have HI := Lib.hid hi
  have HO := Lib.hid ho
  have HRD := Lib.hid (show u.ready out = (!inS out u.name && !(u.incs.any fun x => !inS out x)) by rw [not_any_all]; rfl)
  clear h hi ho
  go_enter Tryz.func192, Tryz.ntmps192
  go_wp2_with fail
  refine (containsS_any out _ u.name _ (HO.out.below (by (repeat (first | with_reducible exact Below.refl _ _ | with_reducible assumption | with_reducible refine Below.al ?_ _ | with_reducible refine Below.sc ?_ (by first | exact Nat.le_refl _ | (simp; done) | (simp; omega)) _ | assumption | exact Below.refl _ _ | refine Below.dr ?_ | refine Below.drN ?_ _ | refine Below.step ?_ (by assumption)))))).mono ?_
  rintro e w1 ⟨rfl, hb1⟩
  have ⟨cw1, fw1⟩ := bcell hb1
  have qw1 := hb1.size
  (try simp at qw1)
  (try have zw1w := bsz (show w.heap.size < w1.heap.size by omega))
  cases h1 : inS out u.name
  · have H1 := Lib.hid h1
    go_wp2_with fail
    refine (anyNotIn_any u.incs out _ _ g _ (by go_simp) (HO.out.below (by (repeat (first | with_reducible exact Below.refl _ _ | with_reducible assumption | with_reducible refine Below.al ?_ _ | with_reducible refine Below.sc ?_ (by first | exact Nat.le_refl _ | (simp; done) | (simp; omega)) _ | assumption | exact Below.refl _ _ | refine Below.dr ?_ | refine Below.drN ?_ _ | refine Below.step ?_ (by assumption))))) (HI.out.below (by (repeat (first | with_reducible exact Below.refl _ _ | with_reducible assumption | with_reducible refine Below.al ?_ _ | with_reducible refine Below.sc ?_ (by first | exact Nat.le_refl _ | (simp; done) | (simp; omega)) _ | assumption | exact Below.refl _ _ | refine Below.dr ?_ | refine Below.drN ?_ _ | refine Below.step ?_ (by assumption)))))).mono ?_
    rintro e w2 ⟨rfl, hb2⟩
    have ⟨cw2, fw2⟩ := bcell hb2
    have qw2 := hb2.size
    (try simp at qw2)
    (try have zw2w := bsz (show w.heap.size < w2.heap.size by omega))
    (try have zw2w1 := bsz (show w1.heap.size < w2.heap.size by omega))
    go_wp2
    go_ret
    exact ⟨ret_bool (by rw [HRD.out, H1.out]; rfl), by (repeat (first | with_reducible exact Below.refl _ _ | with_reducible assumption | with_reducible refine Below.al ?_ _ | with_reducible refine Below.sc ?_ (by first | exact Nat.le_refl _ | (simp; done) | (simp; omega)) _ | assumption | exact Below.refl _ _ | refine Below.dr ?_ | refine Below.drN ?_ _ | refine Below.step ?_ (by assumption)))⟩
  · have H1 := Lib.hid h1
    go_wp2
    go_ret
    exact ⟨ret_bool (by rw [HRD.out, H1.out]; rfl), by (repeat (first | with_reducible exact Below.refl _ _ | with_reducible assumption | with_reducible refine Below.al ?_ _ | with_reducible refine Below.sc ?_ (by first | exact Nat.le_refl _ | (simp; done) | (simp; omega)) _ | assumption | exact Below.refl _ _ | refine Below.dr ?_ | refine Below.drN ?_ _ | refine Below.step ?_ (by assumption)))⟩
set_option maxRecDepth 100000 in
set_option maxHeartbeats 1600000 in
theorem idxReady {B : Nat → Prop} (P : Un → Bool) (us : List Un) (g : Addr) (va : Value) (w : World) (HC : ∀ (a : Un) (v0 v1 v2 v3 : Value) (w' : World), a ∈ us → UnAt B w' a [v0, v1, v2, v3] → Below w.heap.size w w' → Calls Tryz.prog 192 #[.agg #[v0, v1, v2, v3], .pointer (some g)] w' fun e w'' => e = .returned (.bool (P a)) ∧ Below w'.heap.size w' w'')
    (h : UnsAt B w va us) : Calls Tryz.prog 90 #[va, .func (.func 192) #[] #[.pointer (some g)]] w (FirstI (firstI P 0 us) w) := by
  obtain ⟨p, c, rfl, hlen⟩ := h.form
  unfold maxLen at hlen
  have H := Lib.hid h
  have HN1 := Lib.hid HC
  clear h HC
  go_enter Tryz.func90, Tryz.ntmps90
  go_wp2
  go_loopw [8] (fun i wr => ∃ k : Nat, k ≤ us.length ∧ i = .int .i64 k ∧ firstI P 0 us = firstI P k (us.drop k) ∧ Below w.heap.size w wr) (fun i _ => us.length - (intOf i).toNat)
  case atStart => exact ⟨0, Nat.zero_le _, rfl, rfl, by (repeat (first | with_reducible exact Below.refl _ _ | with_reducible assumption | with_reducible refine Below.al ?_ _ | with_reducible refine Below.sc ?_ (by first | exact Nat.le_refl _ | (simp; done) | (simp; omega)) _ | assumption | exact Below.refl _ _ | refine Below.dr ?_ | refine Below.drN ?_ _ | refine Below.step ?_ (by assumption)))⟩
  case round =>
    obtain ⟨k, hk, rfl, he, hb⟩ := hrel
    have HE := Lib.hid he
    clear he
    by_cases hlt : k < us.length
    · obtain ⟨b, o, rfl, hB, p1, c1, p2, c2, hx0, hx1, hx2, hx3, hx⟩ := (H.out.below hb).at_ hlt
      have HD := Lib.hid (firstI_drop P hlt)
      have hm := List.getElem_mem hlt
      obtain ⟨a, ha⟩ : ∃ a, us[k] = a := ⟨_, rfl⟩
      rw [ha] at hx hx0 hx1 hx2 hx3 HD hm
      have HX := Lib.hid hx
      clear ha hx
      have zb := bsz (World.block_lt_of_cell? _ _ hx0)
      cases hN : P a
      all_goals
        have HN := Lib.hid hN
        go_wp2_with fail
        refine (HN1.out a _ _ _ _ _ hm HX.out (by (repeat (first | with_reducible exact Below.refl _ _ | with_reducible assumption | with_reducible refine Below.al ?_ _ | with_reducible refine Below.sc ?_ (by first | exact Nat.le_refl _ | (simp; done) | (simp; omega)) _ | assumption | exact Below.refl _ _ | refine Below.dr ?_ | refine Below.drN ?_ _ | refine Below.step ?_ (by assumption))))).mono ?_
        rintro e w1 ⟨rfl, hb1⟩
        have ⟨cw1, fw1⟩ := bcell hb1
        have qw1 := hb1.size
        (try simp at qw1)
        (try have zw1w := bsz (show w.heap.size < w1.heap.size by omega))
        rw [HN.out]
        go_wp2
      · refine ⟨⟨k + 1, by omega, by go_num, ?_, by (repeat (first | with_reducible exact Below.refl _ _ | with_reducible assumption | with_reducible refine Below.al ?_ _ | with_reducible refine Below.sc ?_ (by first | exact Nat.le_refl _ | (simp; done) | (simp; omega)) _ | assumption | exact Below.refl _ _ | refine Below.dr ?_ | refine Below.drN ?_ _ | refine Below.step ?_ (by assumption)))⟩, by simp [intOf]; omega⟩
        rw [HE.out, HD.out, HN.out]; rfl
      · go_ret
        exact ⟨_, rfl, by rw [HE.out, HD.out, HN.out]; rfl, by (repeat (first | with_reducible exact Below.refl _ _ | with_reducible assumption | with_reducible refine Below.al ?_ _ | with_reducible refine Below.sc ?_ (by first | exact Nat.le_refl _ | (simp; done) | (simp; omega)) _ | assumption | exact Below.refl _ _ | refine Below.dr ?_ | refine Below.drN ?_ _ | refine Below.step ?_ (by assumption)))⟩
    · obtain rfl : k = us.length := by omega
      have he := HE.out
      rw [List.drop_length] at he
      have HE2 := Lib.hid he
      clear he
      go_wp2
      go_ret
      exact ⟨-1, rfl, by rw [HE2.out]; rfl, by (repeat (first | with_reducible exact Below.refl _ _ | with_reducible assumption | with_reducible refine Below.al ?_ _ | with_reducible refine Below.sc ?_ (by first | exact Nat.le_refl _ | (simp; done) | (simp; omega)) _ | assumption | exact Below.refl _ _ | refine Below.dr ?_ | refine Below.drN ?_ _ | refine Below.step ?_ (by assumption)))⟩
structure OrdSt (l out : List ByteArray) (v : Value) (w wr : World) : Prop where
  box : wr.heap[w.heap.size + 1]? = some (.cells #[v] 73 (0, 0))
  row : wr.ownsRow w.heap.size 9 1 v out.length (strW out)
  apart : v.ownBlock ≠ some (w.heap.size + 1)
  sizes : ∀ s ∈ out, s.size ≤ maxLen
  bel : Below w.heap.size w wr
def OrdIRel (l : List Un) (w : World) (wr : World) : Prop :=
  ∃ (out : List ByteArray) (v : Value), OrdInv l out ∧ ordF (l.length - out.length) l out = ordL l ∧ OrdSt [] out v w wr
/-- What 'order' answers. -/
def OrdPost (l : List Un) (w : World) (e : Ending) (w' : World) : Prop :=
  Below w.heap.size w w' ∧ if (ordL l).length = l.length then ∃ v, e = .returned (.tuple #[v, .bool true]) ∧ StrOwn 9 (NewB w w') w' (ordL l) v else e = .returned (.tuple #[.slice none 0 0, .bool false])
set_option maxRecDepth 100000 in
set_option maxHeartbeats 3200000 in
theorem order_any {B : Nat → Prop} (l : List Un) (va : Value) (w : World) (h : UnsAt B w va l) (hl : l.length ≤ 1048576) : Calls Tryz.prog 141 #[va] w (OrdPost l w) := by
  obtain ⟨p, c, rfl, hlen⟩ := h.form
  unfold maxLen at hlen
  have H := Lib.hid h
  clear h
  go_enter Tryz.func141, Tryz.ntmps141
  go_wp2
  go_loopw [] (OrdIRel l w) (fun wr => l.length - lenB wr (w.heap.size + 1))
  case atStart =>
    refine ⟨[], .slice (some ⟨w.heap.size, 0, none⟩) 0 0, OrdInv.nil l, rfl, new_at (by simp), own_below (row_empty w w.heap.size _ 1 (Nat.le_refl _)) (by (repeat (first | with_reducible exact Below.refl _ _ | with_reducible assumption | with_reducible refine Below.al ?_ _ | with_reducible refine Below.sc ?_ (by first | exact Nat.le_refl _ | (simp; done) | (simp; omega)) _ | assumption | exact Below.refl _ _ | refine Below.dr ?_ | refine Below.drN ?_ _ | refine Below.step ?_ (by assumption)))), by simp [Value.ownBlock], by simp, by (repeat (first | with_reducible exact Below.refl _ _ | with_reducible assumption | with_reducible refine Below.al ?_ _ | with_reducible refine Below.sc ?_ (by first | exact Nat.le_refl _ | (simp; done) | (simp; omega)) _ | assumption | exact Below.refl _ _ | refine Below.dr ?_ | refine Below.drN ?_ _ | refine Below.step ?_ (by assumption)))⟩
  case round =>
    obtain ⟨out, v, hinv, hord, hst⟩ := hrel
    have HO := Lib.hid (rowS_own (S := fun _ => True) hst.row hst.sizes (by have := hinv.len; unfold maxLen; omega) (fun _ _ => trivial))
    obtain ⟨po, co, rfl, -⟩ := OwnRow.form HO.out
    have hlen2 := hinv.len
    have c0 : wr.cell? ⟨w.heap.size + 1, 0, none⟩ = some (.slice po out.length co) := (cell_of_row _ _ 0 _ _ (0, 0) hst.box).trans rfl
    have cf : ∀ i, wr.frozen? ⟨w.heap.size + 1, i, none⟩ = false := fun i => frozen_of_row _ _ i _ _ hst.box
    have zb := bsz (blk_lt hst.box)
    have hb := hst.bel
    have hqb := hb.size
    have hla := Lib.hid (lenB_of c0)
    have HINV := Lib.hid hinv
    have HORD := Lib.hid hord
    have HST := Lib.hid hst
    clear hinv hord hst
    by_cases hlt : out.length < l.length
    · have HX := Lib.hid (idxReady (fun u => u.ready out) l ⟨w.heap.size + 1, 0, none⟩ (.slice p l.length c) wr (fun a v0 v1 v2 v3 w' _ ha hb' => readyU_any a out _ v0 v1 v2 v3 (w.heap.size + 1) w' ((hb'.cell zb.1).trans c0) (HO.out.at_.below hb') ha) (H.out.below hb))
      go_wp2_with fail
      refine (HX.out).mono ?_
      rintro e w1 ⟨r, rfl, hr, hb1⟩
      have ⟨cb1, fb1⟩ := bcell hb1
      have hq1 := hb1.size
      have hbw : Below w.heap.size w w1 := Below.step hb hb1
      cases hf : firstI (fun u => u.ready out) 0 l with
      | none =>
        rw [hf] at hr
        obtain rfl : r = -1 := hr
        have HN := Lib.hid (show ordL l = out from HORD.out.symm.trans (ordF_none _ (firstI_none _ _ _ hf)))
        clear hf
        go_wp2
        refine bodyPost_ret (v := .tuple #[.slice none 0 0, .bool false]) (by simp only [results, Tryz.results141]; go_simp) rfl ⟨hbw, ?_⟩
        rw [HN.out, if_neg (by omega)]
      | some i =>
        rw [hf] at hr
        obtain rfl : r = (i : Int) := hr
        obtain ⟨-, hi, hfd⟩ := firstI_some _ _ _ _ hf
        simp only [Nat.sub_zero] at hi hfd
        obtain ⟨b, o, rfl, hB, p1, c1, p2, c2, hx0, hx1, hx2, hx3, hx⟩ := (H.out.below hbw).at_ hi
        have hnsz : l[i].name.size ≤ maxLen := by obtain ⟨_, _, _, h2, _⟩ := hx; exact h2
        have HFD := Lib.hid hfd
        obtain ⟨u, hu⟩ : ∃ u, l[i] = u := ⟨_, rfl⟩
        rw [hu] at hx0 hx1 hx2 hx3 HFD hnsz
        have zbb := bsz (World.block_lt_of_cell? _ _ hx0)
        have hi0 : ¬ (i : Int) < 0 := by omega
        have HS1 := Lib.hid (own_below HST.out.row hb1)
        have hnsl : l[i].name.size ≤ maxLen := by rw [hu]; exact hnsz
        clear hx hf hfd hu
        go_wp2
        have hvne := HST.out.apart
        have hbold : b < w.heap.size := by
          obtain ⟨b', o', hp, -, -, -, -, -, hc, -⟩ := H.out.at_ hi
          simp only [Option.some.injEq, Addr.mk.injEq, and_true] at hp
          obtain ⟨rfl, rfl⟩ := hp
          exact World.block_lt_of_cell? _ _ hc
        have hbne : (Value.slice po out.length co).ownBlock ≠ some b := fun e => by have := own_base HST.out.row _ e; omega
        have HB1 := Lib.hid ((hb1.block _ zb.1).trans HST.out.box)
        have HCL := Lib.hid (fun (j : Nat) (u' : Nat → Value) (w' : World) (hj : j ≤ 2) (hS : BoxA 9 1 ⟨w.heap.size + 1, 0, none⟩ (.slice po out.length co) out.length #[.string u.name] w1.drew 6 7 j u' w') => And.intro (hS.cell hj hvne (show w1.cell? ⟨w.heap.size + 1, 0, none⟩ = some (.slice po out.length co) from (cb1 _ _ zb.1).trans c0)) (And.intro (hS.cell hj hbne hx0) (hS.frozen hj (o := 0) hvne HB1.out)))
        refine wp_region_stages [some (.slice po out.length co), some (.slice (some ⟨b, o, none⟩) l.length c), some (.int .i64 (i : Nat)), some (.pointer (some ⟨b, o + i * 4, none⟩)), some (.pointer (some ⟨b, o + i * 4, none⟩)), some (.string u.name), none, none, none] [6, 7, 8] (BoxA 9 1 ⟨w.heap.size + 1, 0, none⟩ (.slice po out.length co) (out.length) (#[.string u.name]) (w1.drew) 6 7) (by kernel_rfl) (by kernel_rfl) (by first | kernel_rfl | rfl) (by rfl) rfl ?_
        refine chain_stb (c := 8) 2 rfl rfl (by decide) rfl rfl rfl (by first | kernel_rfl | rfl) ?_ ?_
        · intro j u w' hj hS
          have hc := HCL.out j u w' hj hS
          go_simp
          first | done | exact ⟨hS, rfl⟩ | exact hS | rfl
        go_simp
        refine chain_stb (c := 8) 2 rfl rfl (by decide) rfl rfl rfl (by first | kernel_rfl | rfl) ?_ ?_
        · intro j u w' hj hS
          have hc := HCL.out j u w' hj hS
          go_simp
          first | done | exact ⟨hS, rfl⟩ | exact hS | rfl
        go_simp
        refine chain_stb (c := 8) 2 rfl rfl (by decide) rfl rfl rfl (by first | kernel_rfl | rfl) ?_ ?_
        · intro j u w' hj hS
          have hc := HCL.out j u w' hj hS
          go_simp
          first | done | exact ⟨hS, rfl⟩ | exact hS | rfl
        go_simp
        refine chain_stb (c := 8) 2 rfl rfl (by decide) rfl rfl rfl (by first | kernel_rfl | rfl) ?_ ?_
        · intro j u w' hj hS
          have hc := HCL.out j u w' hj hS
          go_simp
          first | done | exact ⟨hS, rfl⟩ | exact hS | rfl
        go_simp
        refine chain_stb (c := 8) 2 rfl rfl (by decide) rfl rfl rfl (by first | kernel_rfl | rfl) ?_ ?_
        · intro j u w' hj hS
          have hc := HCL.out j u w' hj hS
          go_simp
          first | done | exact ⟨hS, rfl⟩ | exact hS | rfl
        go_simp
        refine chain_stb (c := 8) 2 rfl rfl (by decide) rfl rfl rfl (by first | kernel_rfl | rfl) ?_ ?_
        · intro j u w' hj hS
          have hc := HCL.out j u w' hj hS
          go_simp
          first | done | exact ⟨hS, rfl⟩ | exact hS | rfl
        go_simp
        refine chain_first rfl rfl rfl (by decide) rfl ?_ ?_
        · intro w' hS
          obtain rfl : w' = w1.drew := hS
          go_simp
          exact ⟨rfl, upd_same _ _ _⟩
        intro xb
        go_simp
        refine chain_next 0 rfl rfl rfl rfl (by decide) rfl (by first | kernel_rfl | rfl) ?_ ?_
        · intro w' hS
          obtain ⟨rfl, hy⟩ := hS
          rw [upd_same] at hy
          subst hy
          refine each_app1 (.tmp 17) (.tmp 23) _ rfl (w.heap.size) 9 1 16 elemStr (.slice po out.length co) (out.length) (strW out) rfl (w1.drew) (#[.string u.name]) rfl rfl (HS1.out) rfl (by intro u hu; simp at hu; first | (subst hu; rfl) | (rcases hu with rfl | rfl <;> rfl) | (rcases hu with rfl | rfl | rfl <;> rfl) | (rcases hu with rfl | rfl | rfl | rfl <;> rfl) | (rcases hu with rfl | rfl | rfl | rfl | rfl <;> rfl)) (by omega) (by unfold maxLen; omega) (by first | omega | (simp; omega)) ?_
          intro v' w3 happ hg3 hnr hsz
          exact ⟨by rw [upd_same]; exact happ, hg3, by rw [upd_same]; exact hnr, hsz⟩
        intro xa
        go_simp
        refine chain_next 1 rfl rfl rfl rfl (by decide) rfl (by first | kernel_rfl | rfl) ?_ ?_
        · intro w' hS
          have hc := HCL.out 2 _ _ (Nat.le_refl _) hS
          obtain ⟨happ, hg3, hnr, hsz⟩ := hS
          rw [upd_same] at happ hnr
          obtain ⟨q', c', rfl⟩ := own_form (happ (w.heap.size) (strW out) (HS1.out) (by first | omega | (simp; omega))) (Nat.succ_pos _)
          go_simp
          exact ⟨w', ⟨by rw [upd_other _ _ (by decide), upd_same]; exact happ, hg3, by rw [upd_other _ _ (by decide), upd_same]; exact hnr, hsz⟩, by rw [upd_other _ _ (by decide), upd_same]⟩
        intro xs'
        refine flowU_nil ?_
        intro wz hz
        obtain ⟨w2, hAp, rfl⟩ := hz
        rw [upd_other _ _ (by decide), upd_same] at hAp ⊢
        have HAP := Lib.hid hAp
        clear hAp
        go_simp
        have hrow2 := HAP.out.1 w.heap.size (strW out) HS1.out (by simp; omega)
        have hap := HAP.out.fresh (b := w.heap.size + 1) (by simp; omega) hvne
        have hbox2 := HAP.out.keep (b := w.heap.size + 1) (by simp; omega) hvne
        have hsz2 := HAP.out.2.2.2
        have hb12 : Below w.heap.size w w2 := (show Below w.heap.size w w1.drew from hbw.drew).grown HAP.out.2.1 (by simp; omega) (own_base HS1.out)
        simp at hsz2
        go_wp2
        obtain ⟨q2, k2, rfl⟩ := own_form hrow2 (Nat.succ_pos _)
        have hbox3 : (w2.setCell ⟨w.heap.size + 1, 0, none⟩ (.slice (some ⟨q2, 0, none⟩) (out.length + 1) k2)).heap[w.heap.size + 1]? = some (.cells #[.slice (some ⟨q2, 0, none⟩) (out.length + 1) k2] 73 (0, 0)) := by
          have := heap_setCell_same w2 (w.heap.size + 1) 0 _ 73 (.slice (some ⟨q2, 0, none⟩) (out.length + 1) k2) (hbox2.trans HB1.out)
          simpa using this
        refine ⟨⟨out ++ [u.name], _, HINV.out.snoc (find_mem HFD.out).1 (find_mem HFD.out).2, ?_, ⟨hbox3, ?_, hap, ?_, hb12.setCell (by simp) _⟩⟩, ?_⟩
        · rw [← ordF_step HFD.out HINV.out]; exact HORD.out
        · rw [List.length_append, strW_snoc]
          exact own_same hrow2 (fun g hg _ => heap_setCell_other w2 ⟨w.heap.size + 1, 0, none⟩ g _ (fun e => hap (by rw [hg]; exact congrArg some e)))
        · intro s hs
          rcases List.mem_append.1 hs with hs | hs
          · exact HST.out.sizes s hs
          · rw [List.mem_singleton] at hs; subst hs; exact hnsz
        · rw [hla.out, lenB_of ((cell_of_row _ _ 0 _ _ (0, 0) hbox3).trans rfl)]; omega
    · have hle : out.length = l.length := by omega
      have HN := Lib.hid (show ordL l = out from HORD.out.symm.trans (ordF_full HINV.out hle))
      go_wp2
      refine bodyPost_ret (v := .tuple #[.slice po out.length co, .bool true]) (by simp only [results, Tryz.results141]; go_simp) rfl ⟨hb, ?_⟩
      rw [HN.out, if_pos hle]
      exact ⟨_, rfl, rowS_own HST.out.row HST.out.sizes (by unfold maxLen; omega) (fun g hg => ⟨own_base HST.out.row g hg, own_lt' HST.out.row hg⟩)⟩
end Go.Proofs.YtcegllnljaapiaaGreat
namespace Go.Proofs.YtcegllnljaapiaaGreat
open Go.RowKit
theorem inS_drop {us : List ByteArray} {k : Nat} (x : ByteArray) (h : k < us.length) : inS (us.drop k) x = (us[k].toList == x.toList || inS (us.drop (k + 1)) x) := by
  rw [inS, inS, List.drop_eq_getElem_cons h, decide_eq_decide.2 List.mem_cons, Bool.decide_or]
  congr 1
  rw [Bool.eq_iff_iff, decide_eq_true_iff, Lib.bytes_beq_iff]
  exact eq_comm
set_option maxRecDepth 100000 in
set_option maxHeartbeats 1600000 in
theorem l2In_any {B : Nat → Prop} (us : List ByteArray) (v : Value) (x : ByteArray) (w : World) (h : StrsAt B w v us) :
    Calls Tryz.prog 139 #[v, .string x] w fun e w' => e = .returned (.bool (inS us x)) ∧ Below w.heap.size w w' := by
  obtain ⟨p, c, rfl, hlen⟩ := h.form
  unfold maxLen at hlen
  have H := Lib.hid h
  clear h
  go_enter Tryz.func139, Tryz.ntmps139
  go_wp2
  go_loopw [5] (fun i wr => ∃ k : Nat, k ≤ us.length ∧ i = .int .i64 k ∧ inS us x = inS (us.drop k) x ∧ Below w.heap.size w wr) (fun i _ => us.length - (intOf i).toNat)
  case atStart => exact ⟨0, Nat.zero_le _, rfl, rfl, by (repeat (first | with_reducible exact Below.refl _ _ | with_reducible assumption | with_reducible refine Below.al ?_ _ | with_reducible refine Below.sc ?_ (by first | exact Nat.le_refl _ | (simp; done) | (simp; omega)) _ | assumption | exact Below.refl _ _ | refine Below.dr ?_ | refine Below.drN ?_ _ | refine Below.step ?_ (by assumption)))⟩
  case round =>
    obtain ⟨k, hk, rfl, he, hb⟩ := hrel
    have HE := Lib.hid he
    clear he
    by_cases hlt : k < us.length
    · obtain ⟨b, o, rfl, hB, hx0, hxs⟩ := (H.out.below hb).at_ hlt
      have HD := Lib.hid (inS_drop x hlt)
      obtain ⟨a, ha⟩ : ∃ a, us[k] = a := ⟨_, rfl⟩
      rw [ha] at hx0 HD
      clear ha
      have zb := bsz (World.block_lt_of_cell? _ _ hx0)
      cases hN : (a.toList == x.toList)
      all_goals
        have HN := Lib.hid hN
        go_wp2
      · refine ⟨⟨k + 1, by omega, by go_num, ?_, by (repeat (first | with_reducible exact Below.refl _ _ | with_reducible assumption | with_reducible refine Below.al ?_ _ | with_reducible refine Below.sc ?_ (by first | exact Nat.le_refl _ | (simp; done) | (simp; omega)) _ | assumption | exact Below.refl _ _ | refine Below.dr ?_ | refine Below.drN ?_ _ | refine Below.step ?_ (by assumption)))⟩, by simp [intOf]; omega⟩
        rw [HE.out, HD.out, HN.out]; rfl
      · go_ret
        exact ⟨ret_bool (by rw [HE.out, HD.out, HN.out]; rfl), by (repeat (first | with_reducible exact Below.refl _ _ | with_reducible assumption | with_reducible refine Below.al ?_ _ | with_reducible refine Below.sc ?_ (by first | exact Nat.le_refl _ | (simp; done) | (simp; omega)) _ | assumption | exact Below.refl _ _ | refine Below.dr ?_ | refine Below.drN ?_ _ | refine Below.step ?_ (by assumption)))⟩
    · obtain rfl : k = us.length := by omega
      have he := HE.out
      rw [List.drop_length] at he
      have HE2 := Lib.hid he
      clear he
      go_wp2
      go_ret
      exact ⟨ret_bool (by rw [HE2.out]; rfl), by (repeat (first | with_reducible exact Below.refl _ _ | with_reducible assumption | with_reducible refine Below.al ?_ _ | with_reducible refine Below.sc ?_ (by first | exact Nat.le_refl _ | (simp; done) | (simp; omega)) _ | assumption | exact Below.refl _ _ | refine Below.dr ?_ | refine Below.drN ?_ _ | refine Below.step ?_ (by assumption)))⟩
def lenV : Value → Nat | .slice _ n _ => n | _ => 0
structure OrdS (out : List ByteArray) (v : Value) (w wr : World) : Prop where
  row : wr.ownsRow w.heap.size 9 1 v out.length (strW out)
  sizes : ∀ s ∈ out, s.size ≤ maxLen
  bel : Below w.heap.size w wr
theorem OrdS.below {out : List ByteArray} {v : Value} {w wr w' : World} (h : OrdS out v w wr) (hb : Below wr.heap.size wr w') : OrdS out v w w' := ⟨own_below h.row hb, h.sizes, h.bel.trans (hb.mono h.bel.size)⟩
/-- Looking for the first unit that is ready. -/
def SeekRel (l : List Un) (P : Un → Bool) (W : World) (nx i : Value) (wr : World) : Prop :=
  Below W.heap.size W wr ∧ ((∃ k : Nat, k ≤ l.length ∧ i = .int .i64 k ∧ nx = .string ⟨#[]⟩ ∧ firstI P 0 l = firstI P k (l.drop k)) ∨ (∃ (k j : Nat) (h : j < l.length), k ≤ l.length ∧ i = .int .i64 k ∧ nx = .string l[j].name ∧ firstI P 0 l = some j))
set_option maxRecDepth 100000 in
set_option maxHeartbeats 6400000 in
theorem l27Order_any {B : Nat → Prop} (l : List Un) (va : Value) (w : World) (h : UnsAt B w va l) (hl : l.length ≤ 1048576) (hne : ∀ u ∈ l, (u.name.toList == []) = false) :
    Calls Tryz.prog 85 #[va] w fun e w' => ∃ v, e = .returned v ∧ w'.ownsRow w.heap.size 9 1 v (ordL l).length (strW (ordL l)) ∧ (∀ s ∈ ordL l, s.size ≤ maxLen) ∧ Below w.heap.size w w' := by
  obtain ⟨p, c, rfl, hlen⟩ := h.form
  unfold maxLen at hlen
  have H := Lib.hid h
  have HNE := Lib.hid hne
  clear h hne
  go_enter Tryz.func85, Tryz.ntmps85
  go_wp2
  go_loopw [3] (fun o wr => ∃ out : List ByteArray, OrdInv l out ∧ ordF (l.length - out.length) l out = ordL l ∧ OrdS out o w wr) (fun o _ => l.length - lenV o)
  case atStart =>
    refine ⟨[], OrdInv.nil l, rfl, row_empty w w.heap.size _ 1 (Nat.le_refl _), by simp, by (repeat (first | with_reducible exact Below.refl _ _ | with_reducible assumption | with_reducible refine Below.al ?_ _ | with_reducible refine Below.sc ?_ (by first | exact Nat.le_refl _ | (simp; done) | (simp; omega)) _ | assumption | exact Below.refl _ _ | refine Below.dr ?_ | refine Below.drN ?_ _ | refine Below.step ?_ (by assumption)))⟩
  case round =>
    obtain ⟨out, hinv, hord, hst⟩ := hrel
    obtain ⟨wA, hwA⟩ : ∃ x, x = wr := ⟨_, rfl⟩
    subst hwA
    have HO := Lib.hid (rowS_own (S := fun _ => True) hst.row hst.sizes (by have := hinv.len; unfold maxLen; omega) (fun _ _ => trivial))
    obtain ⟨po, co, rfl, -⟩ := OwnRow.form HO.out
    have hlen2 := hinv.len
    have hb := hst.bel
    have HINV := Lib.hid hinv
    have HORD := Lib.hid hord
    have HST := Lib.hid hst
    clear hinv hord hst
    go_wp2
    go_loopw [4, 5] (SeekRel l (Un.ready out) wA) (fun _ i _ => l.length - (intOf i).toNat)
    case atStart => exact ⟨by (repeat (first | with_reducible exact Below.refl _ _ | with_reducible assumption | with_reducible refine Below.al ?_ _ | with_reducible refine Below.sc ?_ (by first | exact Nat.le_refl _ | (simp; done) | (simp; omega)) _ | assumption | exact Below.refl _ _ | refine Below.dr ?_ | refine Below.drN ?_ _ | refine Below.step ?_ (by assumption))), .inl ⟨0, Nat.zero_le _, rfl, rfl, rfl⟩⟩
    case round =>
      obtain ⟨wB, hwB⟩ : ∃ x, x = wr := ⟨_, rfl⟩
      subst hwB
      obtain ⟨hbi, hrel⟩ := hrel
      have hbw := Below.step hb hbi
      have HS1 := Lib.hid (HST.out.below hbi)
      rcases hrel with ⟨k, hk, rfl, rfl, he⟩ | ⟨k, j, hj, hk, rfl, rfl, hfound⟩
      · have HE := Lib.hid he
        clear he
        by_cases hlt : k < l.length
        · obtain ⟨b, o, rfl, hB, p1, c1, p2, c2, hx0, hx1, hx2, hx3, hx⟩ := (H.out.below hbw).at_ hlt
          have HD := Lib.hid (firstI_drop (Un.ready out) hlt)
          obtain ⟨u, hu⟩ : ∃ u, l[k] = u := ⟨_, rfl⟩
          have HK := Lib.hid hu
          rw [hu] at hx hx0 hx1 hx2 hx3 HD
          have HI := Lib.hid hx.form
          clear hu
          have zb := bsz (World.block_lt_of_cell? _ _ hx0)
          go_wp2_with fail
          refine (l2In_any out _ u.name _ (HO.out.at_.below hbi)).mono ?_
          rintro e w1 ⟨rfl, hb1⟩
          have ⟨cb1, fb1⟩ := bcell hb1
          have hq1 := hb1.size
          obtain ⟨_, _, _, _, q0, q1, q2, q3, -, -, hil, -, hia, -⟩ := HI.out
          simp only [Value.slice.injEq, true_and] at q1
          obtain ⟨rfl, rfl⟩ := q1
          clear q0 q2 q3
          have HIA := Lib.hid hia
          unfold maxLen at hil
          clear hia HI
          go_wp2
          go_loopw [6, 7] (fun r i wr' => ∃ j : Nat, j ≤ u.incs.length ∧ i = .int .i64 j ∧ r = .bool (!inS out u.name && (u.incs.take j).all (inS out)) ∧ Below w1.heap.size w1 wr') (fun _ i _ => u.incs.length - (intOf i).toNat)
          case atStart => exact ⟨0, Nat.zero_le _, rfl, by simp, by (repeat (first | with_reducible exact Below.refl _ _ | with_reducible assumption | with_reducible refine Below.al ?_ _ | with_reducible refine Below.sc ?_ (by first | exact Nat.le_refl _ | (simp; done) | (simp; omega)) _ | assumption | exact Below.refl _ _ | refine Below.dr ?_ | refine Below.drN ?_ _ | refine Below.step ?_ (by assumption)))⟩
          case round =>
            obtain ⟨j, hj, rfl, rfl, hbj⟩ := hrel
            have hbj1 : Below wB.heap.size wB wr := Below.step hb1 hbj
            have hcell0 := (hbj1.cell zb.1).trans hx0
            have hcell1 := (hbj1.cell (show b < wB.heap.size from zb.1)).trans hx1
            have zbj := bsz (World.block_lt_of_cell? _ _ hcell0)
            have HRY := Lib.hid (show u.ready out = (!inS out u.name && u.incs.all (inS out)) from rfl)
            by_cases hjl : j < u.incs.length
            · obtain ⟨b', o', rfl, hB', hy0, hys⟩ := (HIA.out.below hbj1).at_ hjl
              have HTK := Lib.hid (List.take_succ_eq_append_getElem hjl)
              obtain ⟨a, ha⟩ : ∃ a, u.incs[j] = a := ⟨_, rfl⟩
              rw [ha] at hy0 HTK
              clear ha
              have zb' := bsz (World.block_lt_of_cell? _ _ hy0)
              cases hr : (!inS out u.name && (u.incs.take j).all (inS out))
              · have HR := Lib.hid hr
                go_wp2
                refine ⟨⟨j + 1, by omega, by go_num, ?_, hbj⟩, by simp [intOf]; omega⟩
                rw [HTK.out, List.all_append, ← Bool.and_assoc, HR.out, Bool.false_and]
              · have HR := Lib.hid hr
                go_wp2_with fail
                refine (l2In_any out _ a _ (HO.out.at_.below (Below.step hbi hbj1))).mono ?_
                rintro e w2 ⟨rfl, hb2⟩
                go_wp2
                refine ⟨⟨j + 1, by omega, by go_num, ?_, Below.step hbj hb2⟩, by simp [intOf]; omega⟩
                rw [HTK.out, List.all_append, ← Bool.and_assoc, HR.out, Bool.true_and, List.all_cons, List.all_nil, Bool.and_true]
            · obtain rfl : j = u.incs.length := by omega
              rw [List.take_length, ← HRY.out]
              have hbk := Below.step hbi hbj1
              cases hr : u.ready out
              · have HR := Lib.hid hr
                go_wp2
                refine ⟨⟨hbk, .inl ⟨k + 1, by omega, by go_num, rfl, ?_⟩⟩, by simp [intOf]; omega⟩
                rw [HE.out, HD.out, HR.out]; rfl
              · have HR := Lib.hid hr
                go_wp2
                refine ⟨⟨hbk, .inr ⟨k + 1, k, hlt, by omega, by go_num, by rw [HK.out], ?_⟩⟩, by simp [intOf]; omega⟩
                rw [HE.out, HD.out, HR.out]; rfl
        · obtain rfl : k = l.length := by omega
          rw [List.drop_length] at HE
          have HN := Lib.hid (show ordL l = out from HORD.out.symm.trans (ordF_none _ (firstI_none _ _ _ HE.out)))
          go_wp2
          go_ret
          exact ⟨_, rfl, by rw [HN.out]; exact HS1.out.row, by rw [HN.out]; exact HS1.out.sizes, HS1.out.bel⟩
      · obtain ⟨-, hj2, hfd⟩ := firstI_some _ _ _ _ hfound
        simp only [Nat.sub_zero] at hj2 hfd
        have hnn := HNE.out l[j] (List.getElem_mem hj)
        obtain ⟨b, o, rfl, hB, p1, c1, p2, c2, hx0, hx1, hx2, hx3, hx⟩ := (H.out.below hbw).at_ hj
        have hnsz : l[j].name.size ≤ maxLen := by obtain ⟨_, _, _, h2, _⟩ := hx; exact h2
        have HFD := Lib.hid hfd
        obtain ⟨u, hu⟩ : ∃ u, l[j] = u := ⟨_, rfl⟩
        rw [hu] at hnn hnsz HFD
        have hlo : out.length < l.length := by
          have := (HINV.out.snoc (find_mem HFD.out).1 (find_mem HFD.out).2).len
          simp at this; omega
        clear hx hfound hfd
        rw [hu]
        have hrest : True := trivial
        by_cases hkl : (k : Int) < l.length
        all_goals
          go_wp2_with (at_builtin; refine wpList_app1 rfl (.tmp 59) (.tmp 61) _ rfl w.heap.size 9 1 16 elemStr _ _ _ rfl wB #[.string u.name] rfl _ (by simp) rfl HS1.out.row rfl (by simp [Value.oneCell']) (by omega) (by unfold maxLen; omega) (hbw.size) ?_; intro v1 w2 hown1 hg1 hnr1 hlt1)
          obtain ⟨q2, k2, rfl⟩ := own_form hown1 (Nat.succ_pos _)
          refine ⟨⟨out ++ [u.name], HINV.out.snoc (find_mem HFD.out).1 (find_mem HFD.out).2, ?_, ⟨by rw [List.length_append, strW_snoc]; exact hown1, ?_, hbw.grown hg1 hbw.size (own_base HS1.out.row)⟩⟩, by simp [lenV]; omega⟩
          · rw [← ordF_step HFD.out HINV.out]; exact HORD.out
          · intro s hs
            rcases List.mem_append.1 hs with hs | hs
            · exact HST.out.sizes s hs
            · rw [List.mem_singleton] at hs; subst hs; exact hnsz
end Go.Proofs.YtcegllnljaapiaaGreat
