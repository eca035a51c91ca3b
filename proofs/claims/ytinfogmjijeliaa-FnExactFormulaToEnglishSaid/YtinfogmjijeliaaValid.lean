/- Valid terms and atoms, both sides. Conditions: sizes. -/
import Derived.Test.YtinfogmjijeliaaNodes
namespace Go.Proofs.Ytinfogmjijeliaa
open Go.RowKit
theorem isEmpty_int {α : Type} (us : List α) : us.isEmpty = ((us.length : Int) == 0) := by cases us <;> simp; omega
set_option maxRecDepth 100000 in
set_option maxHeartbeats 1600000 in
theorem l2Nodes_any {B : Nat → Prop} : ∀ (m : Nat) (t : Tm) (v0 v1 : Value) (w : World), TmAt B m w t [v0, v1] →
      Calls Try.prog 93 #[.agg #[v0, v1]] w fun e w' => e = .returned (.bool t.nodes) ∧ Below w.heap.size w w' := by
  intro m
  induction m with
  | zero => intro t v0 v1 w h; exact h.elim
  | succ m ih =>
    rintro ⟨s, us⟩ v0 v1 w ⟨va, hcs, hs, hl⟩
    simp only [List.cons.injEq, and_true] at hcs
    obtain ⟨rfl, rfl⟩ := hcs
    obtain ⟨p, c, rfl, hlen⟩ := hl.form
    unfold maxLen at hlen
    have IH := Lib.hid ih
    have HL := Lib.hid hl
    have HS := Lib.hid hs
    have HN := Lib.hid (show (Tm.mk s us).nodes = if varB s.data.toList then us.isEmpty else symB s.data.toList && decide (us.length ≤ 4) && Tm.nodess us from rfl)
    clear ih hl hs
    cases hv : varB s.data.toList
    · have HV := Lib.hid hv
      cases hy : symB s.data.toList
      · have HY := Lib.hid hy
        go_enter Try.func93, Try.ntmps93
        go_wp2_with (first | (go_at_call 112; refine (l2Var_any _ _ HS.out).mono ?_; rintro e w' ⟨rfl, rfl⟩) | (go_at_call 71; refine (l2Symbol_any _ _ HS.out).mono ?_; rintro e w' ⟨rfl, rfl⟩))
        go_ret
        exact ⟨ret_bool (by rw [HN.out, HV.out, HY.out]; rfl), by (repeat (first | with_reducible exact Below.refl _ _ | with_reducible assumption | with_reducible refine Below.al ?_ _ | with_reducible refine Below.sc ?_ (by first | exact Nat.le_refl _ | (simp; done) | (simp; omega)) _ | assumption | exact Below.refl _ _ | refine Below.dr ?_ | refine Below.drN ?_ _ | refine Below.step ?_ (by assumption)))⟩
      · have HY := Lib.hid hy
        by_cases h4 : 4 < (us.length : Int)
        · have H4 := Lib.hid (show decide (us.length ≤ 4) = false by simp; omega)
          go_enter Try.func93, Try.ntmps93
          go_wp2_with (first | (go_at_call 112; refine (l2Var_any _ _ HS.out).mono ?_; rintro e w' ⟨rfl, rfl⟩) | (go_at_call 71; refine (l2Symbol_any _ _ HS.out).mono ?_; rintro e w' ⟨rfl, rfl⟩))
          go_ret
          exact ⟨ret_bool (by rw [HN.out, HV.out, HY.out, H4.out]; rfl), by (repeat (first | with_reducible exact Below.refl _ _ | with_reducible assumption | with_reducible refine Below.al ?_ _ | with_reducible refine Below.sc ?_ (by first | exact Nat.le_refl _ | (simp; done) | (simp; omega)) _ | assumption | exact Below.refl _ _ | refine Below.dr ?_ | refine Below.drN ?_ _ | refine Below.step ?_ (by assumption)))⟩
        · have H4 := Lib.hid (show decide (us.length ≤ 4) = true by simp; omega)
          go_enter Try.func93, Try.ntmps93
          go_wp2_with (first | (go_at_call 112; refine (l2Var_any _ _ HS.out).mono ?_; rintro e w' ⟨rfl, rfl⟩) | (go_at_call 71; refine (l2Symbol_any _ _ HS.out).mono ?_; rintro e w' ⟨rfl, rfl⟩))
          obtain ⟨W, hW⟩ : ∃ W, W = w.alloc (.cells #[.string s, .slice p us.length c] 33) := ⟨_, rfl⟩
          have hw0 : W.cell? ⟨w.heap.size, 1, none⟩ = some (.slice p us.length c) := by rw [hW]; go_simp
          have hbW : Below w.heap.size w W := by rw [hW]; (repeat (first | with_reducible exact Below.refl _ _ | with_reducible assumption | with_reducible refine Below.al ?_ _ | with_reducible refine Below.sc ?_ (by first | exact Nat.le_refl _ | (simp; done) | (simp; omega)) _ | assumption | exact Below.refl _ _ | refine Below.dr ?_ | refine Below.drN ?_ _ | refine Below.step ?_ (by assumption)))
          rw [← hW]
          clear hW
          go_loopw [3] (fun i wr => ∃ k : Nat, k ≤ us.length ∧ i = .int .i64 k ∧ Tm.nodess us = Tm.nodess (us.drop k) ∧ Below W.heap.size W wr) (fun i _ => us.length - (intOf i).toNat)
          case atStart => exact ⟨0, Nat.zero_le _, rfl, rfl, Below.refl _ _⟩
          case round =>
            obtain ⟨k, hk, rfl, he, hbr⟩ := hrel
            have HE := Lib.hid he
            clear he
            have hb := Below.step hbW hbr
            have hw1 : wr.cell? ⟨w.heap.size, 1, none⟩ = some (.slice p us.length c) := (hbr.cell (World.block_lt_of_cell? W _ hw0)).trans hw0
            by_cases hlt : k < us.length
            · obtain ⟨b, o, rfl, hB, x0, x1, hx0, hx1, hx⟩ := (HL.out.mono (SameOn.below hb) (fun _ h => h) (fun x cs _ hx => TmAt.below hb hx)).at2 hlt
              obtain ⟨pa, ca, rfl, rfl, -, -⟩ := hx.form
              have HD := Lib.hid (Tm.nodess_drop us hlt)
              obtain ⟨a, ha⟩ : ∃ a, us[k] = a := ⟨_, rfl⟩
              rw [ha] at hx HD hx0 hx1
              have HX := Lib.hid hx
              clear hx ha
              cases hN : a.nodes
              all_goals
                have HA := Lib.hid hN
                go_wp2_with fail
                refine (IH.out a _ _ _ HX.out).mono ?_
                rintro e w1 ⟨rfl, hb1⟩
                have ⟨cw1, fw1⟩ := bcell hb1
                have qw1 := hb1.size
                (try simp at qw1)
                (try have zw1w := bsz (show w.heap.size < w1.heap.size by omega))
                have hbb := Below.step hbr hb1
                have hbw := Below.step hb hb1
                rw [HA.out]
                go_wp2
              · go_ret
                exact ⟨ret_bool (by rw [HN.out, HV.out, HY.out, H4.out, HE.out, HD.out, HA.out]; rfl), hbw⟩
              · refine ⟨⟨k + 1, by omega, by go_num, ?_, hbb⟩, by simp [intOf]; omega⟩
                rw [HE.out, HD.out, HA.out]; rfl
            · obtain rfl : k = us.length := by omega
              have he := HE.out
              rw [List.drop_length, Tm.nodess] at he
              have HE2 := Lib.hid he
              clear he
              go_wp2
              go_ret
              exact ⟨ret_bool (by rw [HN.out, HV.out, HY.out, H4.out, HE2.out]; rfl), hb⟩
    · have HV := Lib.hid hv
      have HE := Lib.hid (isEmpty_int us)
      go_enter Try.func93, Try.ntmps93
      go_wp2_with (first | (go_at_call 112; refine (l2Var_any _ _ HS.out).mono ?_; rintro e w' ⟨rfl, rfl⟩))
      go_ret
      exact ⟨ret_bool (by rw [HN.out, HV.out, if_pos rfl, HE.out]), by (repeat (first | with_reducible exact Below.refl _ _ | with_reducible assumption | with_reducible refine Below.al ?_ _ | with_reducible refine Below.sc ?_ (by first | exact Nat.le_refl _ | (simp; done) | (simp; omega)) _ | assumption | exact Below.refl _ _ | refine Below.dr ?_ | refine Below.drN ?_ _ | refine Below.step ?_ (by assumption)))⟩
theorem isSmall_any {B : Nat → Prop} (m : Nat) (t : Tm) (v0 v1 : Value) (w : World) (h : TmAt B m w t [v0, v1]) (hz : t.sz ≤ 100000000) :
      Calls Try.prog 114 #[.agg #[v0, v1]] w fun e w' => e = .returned (.bool t.small) ∧ Below w.heap.size w w' := by
  obtain ⟨p, c, rfl, rfl, -, -⟩ := h.form
  have H := Lib.hid h
  have HT := Lib.hid (show t.small = (decide (t.szI ≤ 30) && decide (t.dp ≤ 8)) by rw [Tm.small, Tm.szI_iff])
  clear h
  by_cases h1 : (t.szI : Int) ≤ 30
  · have H1 := Lib.hid (show decide (t.szI ≤ 30) = true by simp; omega)
    have HD := Lib.hid (show decide (t.dp ≤ 8) = decide ((t.dp : Int) ≤ 8) by rw [decide_eq_decide]; omega)
    go_enter Try.func114, Try.ntmps114
    go_wp2_with (first | (go_at_call 141; refine (size_any m t _ _ _ (H.out.below (by (repeat (first | with_reducible exact Below.refl _ _ | with_reducible assumption | with_reducible refine Below.al ?_ _ | with_reducible refine Below.sc ?_ (by first | exact Nat.le_refl _ | (simp; done) | (simp; omega)) _ | assumption | exact Below.refl _ _ | refine Below.dr ?_ | refine Below.drN ?_ _ | refine Below.step ?_ (by assumption))))) hz).mono ?_; rintro e w1 ⟨rfl, hb1⟩; have ⟨cw1, fw1⟩ := bcell hb1; have qw1 := hb1.size; (try simp at qw1); (try have zw1w := bsz (show w.heap.size < w1.heap.size by omega))) | (go_at_call 142; refine (depth_any m t _ _ _ (H.out.below (by (repeat (first | with_reducible exact Below.refl _ _ | with_reducible assumption | with_reducible refine Below.al ?_ _ | with_reducible refine Below.sc ?_ (by first | exact Nat.le_refl _ | (simp; done) | (simp; omega)) _ | assumption | exact Below.refl _ _ | refine Below.dr ?_ | refine Below.drN ?_ _ | refine Below.step ?_ (by assumption))))) hz).mono ?_; rintro e w2 ⟨rfl, hb2⟩; have ⟨cw2, fw2⟩ := bcell hb2; have qw2 := hb2.size; (try simp at qw2); (try have zw2w := bsz (show w.heap.size < w2.heap.size by omega)); (try have zw2w1 := bsz (show w1.heap.size < w2.heap.size by omega))))
    go_ret
    exact ⟨ret_bool (by rw [HT.out, H1.out, HD.out]; rfl), by (repeat (first | with_reducible exact Below.refl _ _ | with_reducible assumption | with_reducible refine Below.al ?_ _ | with_reducible refine Below.sc ?_ (by first | exact Nat.le_refl _ | (simp; done) | (simp; omega)) _ | assumption | exact Below.refl _ _ | refine Below.dr ?_ | refine Below.drN ?_ _ | refine Below.step ?_ (by assumption)))⟩
  · have H1 := Lib.hid (show decide (t.szI ≤ 30) = false by simp; omega)
    go_enter Try.func114, Try.ntmps114
    go_wp2_with (first | (go_at_call 141; refine (size_any m t _ _ _ (H.out.below (by (repeat (first | with_reducible exact Below.refl _ _ | with_reducible assumption | with_reducible refine Below.al ?_ _ | with_reducible refine Below.sc ?_ (by first | exact Nat.le_refl _ | (simp; done) | (simp; omega)) _ | assumption | exact Below.refl _ _ | refine Below.dr ?_ | refine Below.drN ?_ _ | refine Below.step ?_ (by assumption))))) hz).mono ?_; rintro e w1 ⟨rfl, hb1⟩; have ⟨cw1, fw1⟩ := bcell hb1; have qw1 := hb1.size; (try simp at qw1); (try have zw1w := bsz (show w.heap.size < w1.heap.size by omega))))
    go_ret
    exact ⟨ret_bool (by rw [HT.out, H1.out]; rfl), by (repeat (first | with_reducible exact Below.refl _ _ | with_reducible assumption | with_reducible refine Below.al ?_ _ | with_reducible refine Below.sc ?_ (by first | exact Nat.le_refl _ | (simp; done) | (simp; omega)) _ | assumption | exact Below.refl _ _ | refine Below.dr ?_ | refine Below.drN ?_ _ | refine Below.step ?_ (by assumption)))⟩
theorem l2Fits_any {B : Nat → Prop} (m : Nat) (t : Tm) (v0 v1 : Value) (w : World) (h : TmAt B m w t [v0, v1]) (hz : t.sz ≤ 100000000) :
      Calls Try.prog 92 #[.agg #[v0, v1]] w fun e w' => e = .returned (.bool t.small) ∧ Below w.heap.size w w' := by
  obtain ⟨p, c, rfl, rfl, -, -⟩ := h.form
  have H := Lib.hid h
  have HT := Lib.hid (show t.small = (decide (t.many 30 ≤ 30) && decide (t.dp ≤ 8)) by rw [Tm.small, Tm.many_iff])
  clear h
  by_cases h1 : (t.many 30 : Int) ≤ 30
  · have H1 := Lib.hid (show decide (t.many 30 ≤ 30) = true by simp; omega)
    have HD := Lib.hid (show decide (t.dp ≤ 8) = decide ((t.dp : Int) ≤ 8) by rw [decide_eq_decide]; omega)
    go_enter Try.func92, Try.ntmps92
    go_wp2_with (first | (go_at_call 121; refine (l2Many_any m t _ _ 30 _ _ (H.out.below (by (repeat (first | with_reducible exact Below.refl _ _ | with_reducible assumption | with_reducible refine Below.al ?_ _ | with_reducible refine Below.sc ?_ (by first | exact Nat.le_refl _ | (simp; done) | (simp; omega)) _ | assumption | exact Below.refl _ _ | refine Below.dr ?_ | refine Below.drN ?_ _ | refine Below.step ?_ (by assumption))))) hz (by rfl) (by decide)).mono ?_; rintro e w1 ⟨rfl, hb1⟩; have ⟨cw1, fw1⟩ := bcell hb1; have qw1 := hb1.size; (try simp at qw1); (try have zw1w := bsz (show w.heap.size < w1.heap.size by omega))) | (go_at_call 122; refine (l2Depth_any m t _ _ _ (H.out.below (by (repeat (first | with_reducible exact Below.refl _ _ | with_reducible assumption | with_reducible refine Below.al ?_ _ | with_reducible refine Below.sc ?_ (by first | exact Nat.le_refl _ | (simp; done) | (simp; omega)) _ | assumption | exact Below.refl _ _ | refine Below.dr ?_ | refine Below.drN ?_ _ | refine Below.step ?_ (by assumption))))) hz).mono ?_; rintro e w2 ⟨rfl, hb2⟩; have ⟨cw2, fw2⟩ := bcell hb2; have qw2 := hb2.size; (try simp at qw2); (try have zw2w := bsz (show w.heap.size < w2.heap.size by omega)); (try have zw2w1 := bsz (show w1.heap.size < w2.heap.size by omega))))
    go_ret
    exact ⟨ret_bool (by rw [HT.out, H1.out, HD.out]; rfl), by (repeat (first | with_reducible exact Below.refl _ _ | with_reducible assumption | with_reducible refine Below.al ?_ _ | with_reducible refine Below.sc ?_ (by first | exact Nat.le_refl _ | (simp; done) | (simp; omega)) _ | assumption | exact Below.refl _ _ | refine Below.dr ?_ | refine Below.drN ?_ _ | refine Below.step ?_ (by assumption)))⟩
  · have H1 := Lib.hid (show decide (t.many 30 ≤ 30) = false by simp; omega)
    go_enter Try.func92, Try.ntmps92
    go_wp2_with (first | (go_at_call 121; refine (l2Many_any m t _ _ 30 _ _ (H.out.below (by (repeat (first | with_reducible exact Below.refl _ _ | with_reducible assumption | with_reducible refine Below.al ?_ _ | with_reducible refine Below.sc ?_ (by first | exact Nat.le_refl _ | (simp; done) | (simp; omega)) _ | assumption | exact Below.refl _ _ | refine Below.dr ?_ | refine Below.drN ?_ _ | refine Below.step ?_ (by assumption))))) hz (by rfl) (by decide)).mono ?_; rintro e w1 ⟨rfl, hb1⟩; have ⟨cw1, fw1⟩ := bcell hb1; have qw1 := hb1.size; (try simp at qw1); (try have zw1w := bsz (show w.heap.size < w1.heap.size by omega))))
    go_ret
    exact ⟨ret_bool (by rw [HT.out, H1.out]; rfl), by (repeat (first | with_reducible exact Below.refl _ _ | with_reducible assumption | with_reducible refine Below.al ?_ _ | with_reducible refine Below.sc ?_ (by first | exact Nat.le_refl _ | (simp; done) | (simp; omega)) _ | assumption | exact Below.refl _ _ | refine Below.dr ?_ | refine Below.drN ?_ _ | refine Below.step ?_ (by assumption)))⟩
end Go.Proofs.Ytinfogmjijeliaa
