/- The order of terms: the reference's. Conditions: sizes. -/
import Derived.Test.YtcegllnljaapiaaGreatDoorAste3
import Derived.Test.YtcegllnljaapiaaGreatDoorAste6
namespace Go.Proofs.YtcegllnljaapiaaGreatDoor
open Go.RowKit
set_option maxHeartbeats 800000 in
theorem szLiteral_any {B : Nat → Prop} (n : Nat) (l : Lit3) (v0 v1 v2 : Value) (left : Int) (w : World) (h : LitAt B n w l [v0, v1, v2]) (h0 : 0 ≤ left) (h1 : left ≤ 1048576) :
    Calls Tryz.prog 186 #[.agg #[v0, v1, v2], .int .i64 left] w fun e w' => e = .returned (.int .i64 (szR left l.a.wt)) ∧ Below w.heap.size w w' := by
  obtain ⟨p, c, rfl, rfl, rfl, ht⟩ := h.form
  have HT := Lib.hid ht
  clear h ht
  by_cases hc : (l.a.wt : Int) ≤ left
  · have HR := Lib.hid (show szR left l.a.wt = left - l.a.wt from if_pos hc)
    go_enter Tryz.func186, Tryz.ntmps186
    go_wp2_with fail
    refine (szTerm_any n l.a _ _ _ _ (HT.out.below (by (repeat (first | with_reducible exact Below.refl _ _ | with_reducible assumption | with_reducible refine Below.al ?_ _ | with_reducible refine Below.sc ?_ (by first | exact Nat.le_refl _ | (simp; done) | (simp; omega)) _ | assumption | exact Below.refl _ _ | refine Below.dr ?_ | refine Below.drN ?_ _ | refine Below.step ?_ (by assumption))))) h0 h1).mono ?_
    rintro e w1 ⟨rfl, hb1⟩
    have ⟨cw1, fw1⟩ := bcell hb1
    have qw1 := hb1.size
    (try simp at qw1)
    (try have zw1w := bsz (show w.heap.size < w1.heap.size by omega))
    rw [HR.out]
    go_wp2
    go_ret
    exact ⟨ret_int (by rw [szR, if_pos hc]), by (repeat (first | with_reducible exact Below.refl _ _ | with_reducible assumption | with_reducible refine Below.al ?_ _ | with_reducible refine Below.sc ?_ (by first | exact Nat.le_refl _ | (simp; done) | (simp; omega)) _ | assumption | exact Below.refl _ _ | refine Below.dr ?_ | refine Below.drN ?_ _ | refine Below.step ?_ (by assumption)))⟩
  · have HR := Lib.hid (show szR left l.a.wt = -1 from if_neg hc)
    go_enter Tryz.func186, Tryz.ntmps186
    go_wp2_with fail
    refine (szTerm_any n l.a _ _ _ _ (HT.out.below (by (repeat (first | with_reducible exact Below.refl _ _ | with_reducible assumption | with_reducible refine Below.al ?_ _ | with_reducible refine Below.sc ?_ (by first | exact Nat.le_refl _ | (simp; done) | (simp; omega)) _ | assumption | exact Below.refl _ _ | refine Below.dr ?_ | refine Below.drN ?_ _ | refine Below.step ?_ (by assumption))))) h0 h1).mono ?_
    rintro e w1 ⟨rfl, hb1⟩
    have ⟨cw1, fw1⟩ := bcell hb1
    have qw1 := hb1.size
    (try simp at qw1)
    (try have zw1w := bsz (show w.heap.size < w1.heap.size by omega))
    rw [HR.out]
    go_wp2
    go_ret
    exact ⟨ret_int (by rw [szR, if_neg (by omega)]), by (repeat (first | with_reducible exact Below.refl _ _ | with_reducible assumption | with_reducible refine Below.al ?_ _ | with_reducible refine Below.sc ?_ (by first | exact Nat.le_refl _ | (simp; done) | (simp; omega)) _ | assumption | exact Below.refl _ _ | refine Below.dr ?_ | refine Below.drN ?_ _ | refine Below.step ?_ (by assumption)))⟩
set_option maxRecDepth 100000 in
set_option maxHeartbeats 800000 in
theorem szLiteralS_any {B : Nat → Prop} (n : Nat) (us : List Lit3) (va : Value) (left : Int) (w : World) (h : ListAt B w 3 (LitAt B n w) va us) (h0 : 0 ≤ left) (h1 : left ≤ 1048576) :
    Calls Tryz.prog 121 #[va, .int .i64 left] w fun e w' => e = .returned (.int .i64 (szR left (us.length + Cls.wts us))) ∧ Below w.heap.size w w' := by
  obtain ⟨p, c, rfl, hlen⟩ := h.form
  unfold maxLen at hlen
  have H := Lib.hid h
  clear h
  by_cases hl : (us.length : Int) ≤ left
  · go_enter Tryz.func121, Tryz.ntmps121
    go_wp2
    go_loopw [1, 5] (fun l i wr => ∃ k done : Nat, k ≤ us.length ∧ i = .int .i64 k ∧ done + Cls.wts (us.drop k) = Cls.wts us ∧ l = .int .i64 (left - us.length - done) ∧ (done : Int) ≤ left - us.length ∧ Below w.heap.size w wr) (fun _ i _ => us.length - (intOf i).toNat)
    case atStart => exact ⟨0, 0, Nat.zero_le _, rfl, by simp, by simp, by omega, by (repeat (first | with_reducible exact Below.refl _ _ | with_reducible assumption | with_reducible refine Below.al ?_ _ | with_reducible refine Below.sc ?_ (by first | exact Nat.le_refl _ | (simp; done) | (simp; omega)) _ | assumption | exact Below.refl _ _ | refine Below.dr ?_ | refine Below.drN ?_ _ | refine Below.step ?_ (by assumption)))⟩
    case round =>
      obtain ⟨k, done, hk, rfl, hd, rfl, hdl, hb⟩ := hrel
      have HD := Lib.hid hd
      clear hd
      by_cases hlt : k < us.length
      · obtain ⟨b, o, rfl, hB, x0, x1, x2, hx0, hx1, hx2, hx⟩ := (H.out.mono (SameOn.below hb) (fun _ h => h) (fun x cs _ hx => LitAt.below hb hx)).at3 hlt
        have HW := Lib.hid (Cls.wts_drop us hlt)
        obtain ⟨a, ha⟩ : ∃ a, us[k] = a := ⟨_, rfl⟩
        rw [ha] at hx HW
        have HX := Lib.hid hx
        clear hx ha
        by_cases hw : (a.a.wt : Int) ≤ left - us.length - done
        · have hs : szR (left - us.length - done) a.a.wt = left - us.length - done - a.a.wt := if_pos hw
          have HS := Lib.hid hs
          clear hs
          go_wp2_with fail
          refine (szLiteral_any n a x0 x1 x2 _ _ HX.out (by omega) (by omega)).mono ?_
          rintro e w1 ⟨rfl, hb1⟩
          have ⟨cw1, fw1⟩ := bcell hb1
          have qw1 := hb1.size
          (try simp at qw1)
          (try have zw1w := bsz (show w.heap.size < w1.heap.size by omega))
          rw [HS.out]
          go_wp2
          have h1 := HD.out
          have h2 := HW.out
          refine ⟨⟨k + 1, done + a.a.wt, by omega, by go_num, by omega, ?_, by omega, by (repeat (first | with_reducible exact Below.refl _ _ | with_reducible assumption | with_reducible refine Below.al ?_ _ | with_reducible refine Below.sc ?_ (by first | exact Nat.le_refl _ | (simp; done) | (simp; omega)) _ | assumption | exact Below.refl _ _ | refine Below.dr ?_ | refine Below.drN ?_ _ | refine Below.step ?_ (by assumption)))⟩, by simp [intOf]; omega⟩
          exact congrArg (Value.int .i64) (by omega)
        · have HS := Lib.hid (show szR (left - us.length - done) a.a.wt = -1 from if_neg hw)
          go_wp2_with fail
          refine (szLiteral_any n a x0 x1 x2 _ _ HX.out (by omega) (by omega)).mono ?_
          rintro e w1 ⟨rfl, hb1⟩
          have ⟨cw1, fw1⟩ := bcell hb1
          have qw1 := hb1.size
          (try simp at qw1)
          (try have zw1w := bsz (show w.heap.size < w1.heap.size by omega))
          rw [HS.out]
          go_wp2
          go_ret
          have h1 := HD.out
          have h2 := HW.out
          exact ⟨ret_int (by rw [szR, if_neg (by omega)]), by (repeat (first | with_reducible exact Below.refl _ _ | with_reducible assumption | with_reducible refine Below.al ?_ _ | with_reducible refine Below.sc ?_ (by first | exact Nat.le_refl _ | (simp; done) | (simp; omega)) _ | assumption | exact Below.refl _ _ | refine Below.dr ?_ | refine Below.drN ?_ _ | refine Below.step ?_ (by assumption)))⟩
      · obtain rfl : k = us.length := by omega
        have hd := HD.out
        rw [List.drop_length, Cls.wts] at hd
        have HD2 := Lib.hid hd
        clear hd
        go_wp2
        go_ret
        have h1 := HD2.out
        exact ⟨ret_int (by rw [szR, if_pos (by omega)]; omega), by (repeat (first | with_reducible exact Below.refl _ _ | with_reducible assumption | with_reducible refine Below.al ?_ _ | with_reducible refine Below.sc ?_ (by first | exact Nat.le_refl _ | (simp; done) | (simp; omega)) _ | assumption | exact Below.refl _ _ | refine Below.dr ?_ | refine Below.drN ?_ _ | refine Below.step ?_ (by assumption)))⟩
  · go_enter Tryz.func121, Tryz.ntmps121
    go_wp2
    go_ret
    exact ⟨ret_int (by rw [szR, if_neg (by omega)]), by (repeat (first | with_reducible exact Below.refl _ _ | with_reducible assumption | with_reducible refine Below.al ?_ _ | with_reducible refine Below.sc ?_ (by first | exact Nat.le_refl _ | (simp; done) | (simp; omega)) _ | assumption | exact Below.refl _ _ | refine Below.dr ?_ | refine Below.drN ?_ _ | refine Below.step ?_ (by assumption)))⟩
set_option maxHeartbeats 800000 in
theorem szClause_any {B : Nat → Prop} (n : Nat) (us : List Lit3) (v : Value) (left : Int) (w : World) (h : ClsAt B n w us v) (h0 : 0 ≤ left) (h1 : left ≤ 1048576) :
    Calls Tryz.prog 47 #[.agg #[v], .int .i64 left] w fun e w' => e = .returned (.int .i64 (szR left (us.length + Cls.wts us))) ∧ Below w.heap.size w w' := by
  obtain ⟨p, c, rfl, -⟩ := (show ListAt B w 3 (LitAt B n w) v us from h).form
  have H := Lib.hid h
  clear h
  by_cases hc : ((us.length + Cls.wts us : Nat) : Int) ≤ left
  · have HR := Lib.hid (show szR left (us.length + Cls.wts us) = left - (us.length + Cls.wts us : Nat) from if_pos hc)
    have hc2 : (us.length : Int) + (Cls.wts us : Nat) ≤ left := by omega
    go_enter Tryz.func47, Tryz.ntmps47
    go_wp2_with fail
    refine (szLiteralS_any n us _ _ _ (ClsAt.below (by (repeat (first | with_reducible exact Below.refl _ _ | with_reducible assumption | with_reducible refine Below.al ?_ _ | with_reducible refine Below.sc ?_ (by first | exact Nat.le_refl _ | (simp; done) | (simp; omega)) _ | assumption | exact Below.refl _ _ | refine Below.dr ?_ | refine Below.drN ?_ _ | refine Below.step ?_ (by assumption)))) H.out) h0 h1).mono ?_
    rintro e w1 ⟨rfl, hb1⟩
    have ⟨cw1, fw1⟩ := bcell hb1
    have qw1 := hb1.size
    (try simp at qw1)
    (try have zw1w := bsz (show w.heap.size < w1.heap.size by omega))
    rw [HR.out]
    go_wp2
    go_ret
    exact ⟨ret_int (by rw [szR, if_pos (by omega)]; omega), by (repeat (first | with_reducible exact Below.refl _ _ | with_reducible assumption | with_reducible refine Below.al ?_ _ | with_reducible refine Below.sc ?_ (by first | exact Nat.le_refl _ | (simp; done) | (simp; omega)) _ | assumption | exact Below.refl _ _ | refine Below.dr ?_ | refine Below.drN ?_ _ | refine Below.step ?_ (by assumption)))⟩
  · have HR := Lib.hid (show szR left (us.length + Cls.wts us) = -1 from if_neg hc)
    go_enter Tryz.func47, Tryz.ntmps47
    go_wp2_with fail
    refine (szLiteralS_any n us _ _ _ (ClsAt.below (by (repeat (first | with_reducible exact Below.refl _ _ | with_reducible assumption | with_reducible refine Below.al ?_ _ | with_reducible refine Below.sc ?_ (by first | exact Nat.le_refl _ | (simp; done) | (simp; omega)) _ | assumption | exact Below.refl _ _ | refine Below.dr ?_ | refine Below.drN ?_ _ | refine Below.step ?_ (by assumption)))) H.out) h0 h1).mono ?_
    rintro e w1 ⟨rfl, hb1⟩
    have ⟨cw1, fw1⟩ := bcell hb1
    have qw1 := hb1.size
    (try simp at qw1)
    (try have zw1w := bsz (show w.heap.size < w1.heap.size by omega))
    rw [HR.out]
    go_wp2
    go_ret
    exact ⟨ret_int (by rw [szR, if_neg (by omega)]), by (repeat (first | with_reducible exact Below.refl _ _ | with_reducible assumption | with_reducible refine Below.al ?_ _ | with_reducible refine Below.sc ?_ (by first | exact Nat.le_refl _ | (simp; done) | (simp; omega)) _ | assumption | exact Below.refl _ _ | refine Below.dr ?_ | refine Below.drN ?_ _ | refine Below.step ?_ (by assumption)))⟩
set_option maxRecDepth 100000 in
set_option maxHeartbeats 1600000 in
theorem eqLiteral_same {B B' : Nat → Prop} (m : Nat) (l : Lit3) (v0 v1 v2 u0 u1 u2 : Value) (w : World) (h : LitAt B m w l [v0, v1, v2]) (h' : LitAt B' m w l [u0, u1, u2]) :
    Calls Tryz.prog 207 #[.agg #[v0, v1, v2], .agg #[u0, u1, u2]] w fun e w' => e = .returned (.bool true) ∧ Below w.heap.size w w' := by
  obtain ⟨p, c, rfl, rfl, rfl, ht⟩ := h.form
  obtain ⟨p', c', rfl, rfl, rfl, ht'⟩ := h'.form
  have HT := Lib.hid ht
  have HT' := Lib.hid ht'
  clear h ht h' ht'
  have hpp : (l.pos != l.pos) = false := by simp
  go_enter Tryz.func207, Tryz.ntmps207
  go_wp2_with fail
  refine (eqTerm_same m l.a _ _ _ _ _ (HT.out.below (by (repeat (first | with_reducible exact Below.refl _ _ | with_reducible assumption | with_reducible refine Below.al ?_ _ | with_reducible refine Below.sc ?_ (by first | exact Nat.le_refl _ | (simp; done) | (simp; omega)) _ | assumption | exact Below.refl _ _ | refine Below.dr ?_ | refine Below.drN ?_ _ | refine Below.step ?_ (by assumption))))) (HT'.out.below (by (repeat (first | with_reducible exact Below.refl _ _ | with_reducible assumption | with_reducible refine Below.al ?_ _ | with_reducible refine Below.sc ?_ (by first | exact Nat.le_refl _ | (simp; done) | (simp; omega)) _ | assumption | exact Below.refl _ _ | refine Below.dr ?_ | refine Below.drN ?_ _ | refine Below.step ?_ (by assumption)))))).mono ?_
  rintro e w1 ⟨rfl, hb1⟩
  have ⟨cw1, fw1⟩ := bcell hb1
  have qw1 := hb1.size
  (try simp at qw1)
  (try have zw1w := bsz (show w.heap.size < w1.heap.size by omega))
  go_wp2
  go_ret
  exact ⟨rfl, by (repeat (first | with_reducible exact Below.refl _ _ | with_reducible assumption | with_reducible refine Below.al ?_ _ | with_reducible refine Below.sc ?_ (by first | exact Nat.le_refl _ | (simp; done) | (simp; omega)) _ | assumption | exact Below.refl _ _ | refine Below.dr ?_ | refine Below.drN ?_ _ | refine Below.step ?_ (by assumption)))⟩
set_option maxRecDepth 100000 in
set_option maxHeartbeats 1600000 in
theorem eqLiteralS_same {B B' : Nat → Prop} (m : Nat) (us : List Lit3) (va ua : Value) (w : World) (h : ListAt B w 3 (LitAt B m w) va us) (h' : ListAt B' w 3 (LitAt B' m w) ua us) :
    Calls Tryz.prog 140 #[va, ua] w fun e w' => e = .returned (.bool true) ∧ Below w.heap.size w w' := by
  obtain ⟨p, c, rfl, hlen⟩ := h.form
  obtain ⟨p', c', rfl, -⟩ := h'.form
  unfold maxLen at hlen
  have H := Lib.hid h
  have H' := Lib.hid h'
  clear h h'
  go_enter Tryz.func140, Tryz.ntmps140
  go_wp2
  go_loopw [5] (fun i wr => ∃ k : Nat, k ≤ us.length ∧ i = .int .i64 k ∧ Below w.heap.size w wr) (fun i _ => us.length - (intOf i).toNat)
  case atStart => exact ⟨0, Nat.zero_le _, rfl, by (repeat (first | with_reducible exact Below.refl _ _ | with_reducible assumption | with_reducible refine Below.al ?_ _ | with_reducible refine Below.sc ?_ (by first | exact Nat.le_refl _ | (simp; done) | (simp; omega)) _ | assumption | exact Below.refl _ _ | refine Below.dr ?_ | refine Below.drN ?_ _ | refine Below.step ?_ (by assumption)))⟩
  case round =>
    obtain ⟨k, hk, rfl, hb⟩ := hrel
    by_cases hlt : k < us.length
    · obtain ⟨b, o, rfl, hB, x0, x1, x2, hx0, hx1, hx2, hx⟩ := (H.out.mono (SameOn.below hb) (fun _ h => h) (fun x cs _ hx => LitAt.below hb hx)).at3 hlt
      obtain ⟨b', o', rfl, hB', y0, y1, y2, hy0, hy1, hy2, hy⟩ := (H'.out.mono (SameOn.below hb) (fun _ h => h) (fun x cs _ hx => LitAt.below hb hx)).at3 hlt
      obtain ⟨a, ha⟩ : ∃ a, us[k] = a := ⟨_, rfl⟩
      rw [ha] at hx hy
      have HX := Lib.hid hx
      have HY := Lib.hid hy
      clear hx hy ha
      go_wp2
      obtain ⟨C, HC0⟩ := class_of (InF wr.heap.size _ [(⟨b, o + k * 3, none⟩, x0), (⟨b, o + k * 3 + 1, none⟩, x1), (⟨b, o + k * 3 + 2, none⟩, x2), (⟨b', o' + k * 3, none⟩, y0), (⟨b', o' + k * 3 + 1, none⟩, y1), (⟨b', o' + k * 3 + 2, none⟩, y2)] [] [])
      have HC := Lib.hid HC0
      clear HC0
      refine wp_region_flow (C := C) (by kernel_rfl) (by kernel_rfl) (fun L hL => (HC.out _ _).2 (InF.start (by first | (intro _ hs; cases hs; done) | (simp only [List.forall_mem_cons]; go_simp)) (by first | (intro _ hs; cases hs; done) | (simp only [List.forall_mem_cons]; go_simp)) (by first | (intro _ hs; cases hs; done) | (simp only [List.forall_mem_cons]; go_simp)) (by first | (intro _ hs; cases hs; done) | (simp only [List.forall_mem_cons]; go_simp)) L hL)) ?_
      repeat (first | (apply flow_free rfl; (intro L w' hun hrd hC; have hC := (HC.out _ _).1 hC; have hb' := hC.below; (try have hw' : Below w.heap.size w w' := by first | exact Below.trans (by (repeat (first | with_reducible exact Below.refl _ _ | with_reducible assumption | with_reducible refine Below.al ?_ _ | with_reducible refine Below.sc ?_ (by first | exact Nat.le_refl _ | (simp; done) | (simp; omega)) _ | assumption | exact Below.refl _ _ | refine Below.dr ?_ | refine Below.drN ?_ _ | refine Below.step ?_ (by assumption)))) hb' | ((repeat (first | with_reducible exact Below.refl _ _ | with_reducible assumption | with_reducible refine Below.al ?_ _ | with_reducible refine Below.sc ?_ (by first | exact Nat.le_refl _ | (simp; done) | (simp; omega)) _ | assumption | exact Below.refl _ _ | refine Below.dr ?_ | refine Below.drN ?_ _ | refine Below.step ?_ (by assumption))); done)); have hf' := hC.cell; (try simp only [List.forall_mem_cons] at hf'); go_simp; first | exact ⟨(HC.out _ _).2 (hC.skip _ (by rfl)), rfl⟩ | (rw [if_neg]; (exact ⟨(HC.out _ _).2 (hC.skip _ (by rfl)), rfl⟩); omega) | (go_at_call 207; refine (eqLiteral_same m a x0 x1 x2 y0 y1 y2 _ (LitAt.below hb' HX.out) (LitAt.below hb' HY.out)).mono ?_; rintro e w1 ⟨rfl, hb1⟩; exact ⟨rfl, (HC.out _ _).2 ((hC.next (by first | (simp; done) | (simp; omega) | omega) hb1).skip _ (by rfl))⟩)); go_simp) | (apply flow_yes; (case hw => go_simp); (intro L w' hun hrd hC; have hC := (HC.out _ _).1 hC; have hb' := hC.below; (try have hw' : Below w.heap.size w w' := by first | exact Below.trans (by (repeat (first | with_reducible exact Below.refl _ _ | with_reducible assumption | with_reducible refine Below.al ?_ _ | with_reducible refine Below.sc ?_ (by first | exact Nat.le_refl _ | (simp; done) | (simp; omega)) _ | assumption | exact Below.refl _ _ | refine Below.dr ?_ | refine Below.drN ?_ _ | refine Below.step ?_ (by assumption)))) hb' | ((repeat (first | with_reducible exact Below.refl _ _ | with_reducible assumption | with_reducible refine Below.al ?_ _ | with_reducible refine Below.sc ?_ (by first | exact Nat.le_refl _ | (simp; done) | (simp; omega)) _ | assumption | exact Below.refl _ _ | refine Below.dr ?_ | refine Below.drN ?_ _ | refine Below.step ?_ (by assumption))); done)); have hf' := hC.cell; (try simp only [List.forall_mem_cons] at hf'); go_simp; first | exact ⟨(HC.out _ _).2 (hC.skip _ (by rfl)), rfl⟩ | (rw [if_neg]; (exact ⟨(HC.out _ _).2 (hC.skip _ (by rfl)), rfl⟩); omega) | (go_at_call 207; refine (eqLiteral_same m a x0 x1 x2 y0 y1 y2 _ (LitAt.below hb' HX.out) (LitAt.below hb' HY.out)).mono ?_; rintro e w1 ⟨rfl, hb1⟩; exact ⟨rfl, (HC.out _ _).2 ((hC.next (by first | (simp; done) | (simp; omega) | omega) hb1).skip _ (by rfl))⟩)); go_simp) | (apply flow_no; (case hw => (go_simp; try (intro hh; cases hh))); (intro L w' _ _ hC; exact (HC.out _ _).2 (((HC.out _ _).1 hC).skip _ (by rfl))); go_simp))
      refine flow_nil ?_
      intro L wz hL hz
      have hz := (HC.out _ _).1 hz
      have hbz := hz.below
      have hcz := hz.cell
      try simp only [List.forall_mem_cons] at hcz
      have hdz := hz.done
      try simp only [List.forall_mem_cons] at hdz
      (try have hwz : Below w.heap.size w wz := by first | exact Below.trans (by (repeat (first | with_reducible exact Below.refl _ _ | with_reducible assumption | with_reducible refine Below.al ?_ _ | with_reducible refine Below.sc ?_ (by first | exact Nat.le_refl _ | (simp; done) | (simp; omega)) _ | assumption | exact Below.refl _ _ | refine Below.dr ?_ | refine Below.drN ?_ _ | refine Below.step ?_ (by assumption)))) hbz | ((repeat (first | with_reducible exact Below.refl _ _ | with_reducible assumption | with_reducible refine Below.al ?_ _ | with_reducible refine Below.sc ?_ (by first | exact Nat.le_refl _ | (simp; done) | (simp; omega)) _ | assumption | exact Below.refl _ _ | refine Below.dr ?_ | refine Below.drN ?_ _ | refine Below.step ?_ (by assumption))); done))
      go_wp2
      refine ⟨⟨k + 1, by omega, by go_num, Below.step hb hbz⟩, by simp [intOf]; omega⟩
    · go_wp2
      go_ret
      exact ⟨rfl, hb⟩
set_option maxRecDepth 100000 in
set_option maxHeartbeats 1600000 in
theorem eqClause_same {B B' : Nat → Prop} (m : Nat) (us : List Lit3) (v u : Value) (w : World) (h : ClsAt B m w us v) (h' : ClsAt B' m w us u) :
    Calls Tryz.prog 64 #[.agg #[v], .agg #[u]] w fun e w' => e = .returned (.bool true) ∧ Below w.heap.size w w' := by
  obtain ⟨p, c, rfl, -⟩ := (show ListAt B w 3 (LitAt B m w) v us from h).form
  obtain ⟨p', c', rfl, -⟩ := (show ListAt B' w 3 (LitAt B' m w) u us from h').form
  have H := Lib.hid h
  have H' := Lib.hid h'
  clear h h'
  go_enter Tryz.func64, Tryz.ntmps64
  go_wp2_with fail
  refine (eqLiteralS_same m us _ _ _ (ClsAt.below (by (repeat (first | with_reducible exact Below.refl _ _ | with_reducible assumption | with_reducible refine Below.al ?_ _ | with_reducible refine Below.sc ?_ (by first | exact Nat.le_refl _ | (simp; done) | (simp; omega)) _ | assumption | exact Below.refl _ _ | refine Below.dr ?_ | refine Below.drN ?_ _ | refine Below.step ?_ (by assumption)))) H.out) (ClsAt.below (by (repeat (first | with_reducible exact Below.refl _ _ | with_reducible assumption | with_reducible refine Below.al ?_ _ | with_reducible refine Below.sc ?_ (by first | exact Nat.le_refl _ | (simp; done) | (simp; omega)) _ | assumption | exact Below.refl _ _ | refine Below.dr ?_ | refine Below.drN ?_ _ | refine Below.step ?_ (by assumption)))) H'.out)).mono ?_
  rintro e w1 ⟨rfl, hb1⟩
  have ⟨cw1, fw1⟩ := bcell hb1
  have qw1 := hb1.size
  (try simp at qw1)
  (try have zw1w := bsz (show w.heap.size < w1.heap.size by omega))
  go_wp2
  go_ret
  exact ⟨rfl, by (repeat (first | with_reducible exact Below.refl _ _ | with_reducible assumption | with_reducible refine Below.al ?_ _ | with_reducible refine Below.sc ?_ (by first | exact Nat.le_refl _ | (simp; done) | (simp; omega)) _ | assumption | exact Below.refl _ _ | refine Below.dr ?_ | refine Below.drN ?_ _ | refine Below.step ?_ (by assumption)))⟩
set_option maxRecDepth 100000 in
set_option maxHeartbeats 800000 in
theorem toLiteral_any {B : Nat → Prop} (m : Nat) (l : Lit3) (v0 v1 v2 : Value) (w : World) (h : LitAt B m w l [v0, v1, v2]) (hw : l.a.wt ≤ 1048576) :
    Calls Tryz.prog 194 #[.agg #[v0, v1, v2]] w fun e w' => ∃ u0 u1 u2, e = .returned (.agg #[u0, u1, u2]) ∧ LitAt (fun b => w.heap.size ≤ b) m w' l [u0, u1, u2] ∧ Below w.heap.size w w' := by
  obtain ⟨p, c, rfl, rfl, rfl, ht⟩ := h.form
  have HT := Lib.hid ht
  clear h ht
  go_enter Tryz.func194, Tryz.ntmps194
  go_wp2_with fail
  refine (toTerm_any m l.a _ _ _ (HT.out.below (by (repeat (first | with_reducible exact Below.refl _ _ | with_reducible assumption | with_reducible refine Below.al ?_ _ | with_reducible refine Below.sc ?_ (by first | exact Nat.le_refl _ | (simp; done) | (simp; omega)) _ | assumption | exact Below.refl _ _ | refine Below.dr ?_ | refine Below.drN ?_ _ | refine Below.step ?_ (by assumption))))) hw).mono ?_
  rintro e w1 ⟨u0, u1, rfl, hu, hb1⟩
  have ⟨cw1, fw1⟩ := bcell hb1
  have qw1 := hb1.size
  (try simp at qw1)
  (try have zw1w := bsz (show w.heap.size < w1.heap.size by omega))
  obtain ⟨pu, cu, rfl, rfl, -, -⟩ := hu.form
  have HU := Lib.hid hu
  clear hu
  have y1 := bsz (show w.heap.size + 1 < w1.heap.size by omega)
  have y2 := bsz (show w.heap.size + 2 < w1.heap.size by omega)
  go_wp2
  refine bodyPost_ret (v := .agg #[.bool l.pos, .string l.a.n, .slice pu l.a.us.length cu]) (by simp only [results, Tryz.results194]; go_simp) rfl ?_
  refine ⟨_, _, _, rfl, ⟨_, _, rfl, ?_⟩, by (repeat (first | with_reducible exact Below.refl _ _ | with_reducible assumption | with_reducible refine Below.al ?_ _ | with_reducible refine Below.sc ?_ (by first | exact Nat.le_refl _ | (simp; done) | (simp; omega)) _ | assumption | exact Below.refl _ _ | refine Below.dr ?_ | refine Below.drN ?_ _ | refine Below.step ?_ (by assumption)))⟩
  exact HU.out.mono (by ((repeat' (first | with_reducible exact SameOn.refl _ _ | with_reducible refine SameOn.sc ?_ ?_ _ | with_reducible refine SameOn.al ?_ ?_ _ | with_reducible refine SameOn.be ?_ ?_ (by with_reducible assumption))) <;> (first | (intro b hb; simp at hb ⊢; omega) | exact Nat.le_refl _ | (simp; done) | (simp; omega) | omega))) (fun b hb => by simp at hb; omega) m m _ _ (Nat.le_refl _)
theorem elemLit : Elem Tryz.prog 47 169 3 48 := elem_of Tryz.underlying47 (z := .agg #[.bool false, .string ⟨#[]⟩, .slice none 0 0]) (by kernel_rfl) rfl (by omega)
def ToLitRel (g n m : Nat) (us : List Lit3) (w : World) (i : Value) (wr : World) : Prop :=
  ∃ (k : Nat) (xs : List Value), k ≤ n ∧ i = .int .i64 k ∧ wr.ownsRow g 169 3 (.slice (some ⟨g, 0, none⟩) n n) n xs ∧ Below w.heap.size w wr ∧
    ∀ j t, j < k → us[j]? = some t → ∃ y0 y1 y2, xs[j * 3]? = some y0 ∧ xs[j * 3 + 1]? = some y1 ∧ xs[j * 3 + 2]? = some y2 ∧ LitAt (fun b => g < b) m wr t [y0, y1, y2]
theorem listAt_row3 {α : Type} {B : Nat → Prop} {w : World} {R : α → List Value → Prop} {base g n c : Nat} {e : TypeId} {xs : List Value} {us : List α} (h : w.ownsRow base e 3 (.slice (some ⟨g, 0, none⟩) n c) n xs) (hn : n = us.length) (hm : n ≤ maxLen) (hB : B g)
    (hR : ∀ j t, us[j]? = some t → ∃ y0 y1 y2, xs[j * 3]? = some y0 ∧ xs[j * 3 + 1]? = some y1 ∧ xs[j * 3 + 2]? = some y2 ∧ R t [y0, y1, y2]) : ListAt B w 3 R (.slice (some ⟨g, 0, none⟩) n c) us := by
  subst hn
  refine ⟨_, _, rfl, hm, fun i t ht => ⟨g, 0, rfl, hB, ?_⟩⟩
  obtain ⟨y0, y1, y2, h0, h1, h2, hr⟩ := hR i t ht
  have hi : i < us.length := (List.getElem?_eq_some_iff.1 ht).1
  refine ⟨[y0, y1, y2], rfl, fun j hj => ?_, hr⟩
  rw [Nat.zero_add, h.cellAt (i * 3 + j) (by omega)]
  match j, hj with
  | 0, _ => simpa using h0
  | 1, _ => simpa using h1
  | 2, _ => simpa using h2
set_option maxRecDepth 100000 in
set_option maxHeartbeats 3200000 in
theorem toLiteralS_any {B : Nat → Prop} (m : Nat) (us : List Lit3) (va : Value) (w : World) (h : ListAt B w 3 (LitAt B m w) va us) (hw : us.length + Cls.wts us ≤ 1048576) :
    Calls Tryz.prog 129 #[va] w fun e w' => ∃ g, e = .returned (.slice (some ⟨g, 0, none⟩) us.length us.length) ∧ ListAt (fun b => w.heap.size ≤ b) w' 3 (LitAt (fun b => w.heap.size ≤ b) m w') (.slice (some ⟨g, 0, none⟩) us.length us.length) us ∧ Below w.heap.size w w' := by
  obtain ⟨p, c, rfl, -⟩ := h.form
  have H := Lib.hid h
  have HW := Lib.hid hw
  have hlen : us.length ≤ 1048576 := by omega
  obtain ⟨-, i, z, hi, hz, hsz, hby, hzs, -⟩ := elemLit
  clear h hw
  go_enter Tryz.func129, Tryz.ntmps129
  go_wp2_with (at_make; refine wpList_make_full _ rfl _ _ _ rfl w.heap.size 169 i z 3 Tryz.underlying47 hi hz hsz _ _ _ _ us.length rfl rfl rfl rfl (by rw [hby]; omega) (by unfold maxLen; omega) (Nat.le_refl _) ?_; intro w1 ho1 hg1)
  have hb1 : Below w.heap.size w w1 := ⟨hg1.os, hg1.tape, hg1.output, hg1.size, fun k hk => hg1.block k hk (by simp)⟩
  have HO1 := Lib.hid ho1
  clear ho1 hg1
  go_loopw [4] (ToLitRel w.heap.size us.length m us w) (fun i _ => us.length - (intOf i).toNat)
  case atStart => exact ⟨0, _, Nat.zero_le _, rfl, HO1.out, hb1, fun j t hj => absurd hj (Nat.not_lt_zero _)⟩
  case round =>
    obtain ⟨k, xs, hk, rfl, ho, hb, hall⟩ := hrel
    have HO := Lib.hid ho
    have HALL := Lib.hid hall
    have hxl : xs.length = us.length * 3 := ho.1
    clear ho hall HO1 hb1
    by_cases hlt : k < us.length
    · obtain ⟨b, o, rfl, hB, x0, x1, x2, hx0, hx1, hx2, hx⟩ := (H.out.mono (SameOn.below hb) (fun _ h => h) (fun x cs _ hx => LitAt.below hb hx)).at3 hlt
      have hwt := Cls.wts_le us _ (List.getElem_mem hlt)
      obtain ⟨a, ha⟩ : ∃ a, us[k] = a := ⟨_, rfl⟩
      have HK : Hid (us[k]? = some a) := Lib.hid (by rw [List.getElem?_eq_getElem hlt, ha])
      rw [ha] at hx hwt
      have HX := Lib.hid hx
      clear hx ha
      have hgw := own_lt HO.out
      go_wp2_with fail
      refine (toLiteral_any m a x0 x1 x2 _ HX.out (by have := HW.out; omega)).mono ?_
      rintro e w2 ⟨u0, u1, u2, rfl, hu, hb2⟩
      have ⟨cw2, fw2⟩ := bcell hb2
      have qw2 := hb2.size
      (try simp at qw2)
      (try have zw2w := bsz (show w.heap.size < w2.heap.size by omega))
      obtain ⟨pu, cu, rfl, rfl, rfl, -⟩ := hu.form
      have HU := Lib.hid hu
      have HO2 := Lib.hid (own_below HO.out hb2)
      clear hu
      obtain ⟨q0, hq0⟩ : ∃ q, w2.cell? ⟨w.heap.size, k * 3, none⟩ = some q := ⟨_, (HO2.out.cellAt (k * 3) (by omega)).trans (List.getElem?_eq_getElem (by omega))⟩
      obtain ⟨q1, hq1⟩ : ∃ q, w2.cell? ⟨w.heap.size, k * 3 + 1, none⟩ = some q := ⟨_, (HO2.out.cellAt (k * 3 + 1) (by omega)).trans (List.getElem?_eq_getElem (by omega))⟩
      obtain ⟨q2, hq2⟩ : ∃ q, w2.cell? ⟨w.heap.size, k * 3 + 2, none⟩ = some q := ⟨_, (HO2.out.cellAt (k * 3 + 2) (by omega)).trans (List.getElem?_eq_getElem (by omega))⟩
      have hf2 := fun j => HO2.out.frozenAt j
      clear cw2 fw2
      go_wp2
      generalize Value.bool a.pos = u0 at *
      generalize Value.string a.a.n = u1 at *
      generalize Value.slice pu a.a.us.length cu = u2 at *
      have ho4 := (((HO2.out.stored (k * 3) u0).1.stored (k * 3 + 1) u1).1.stored (k * 3 + 2) u2).1
      have hS : SameOn (fun b => w.heap.size < b) w2 (((w2.setCell ⟨w.heap.size, k * 3, none⟩ u0).setCell ⟨w.heap.size, k * 3 + 1, none⟩ u1).setCell ⟨w.heap.size, k * 3 + 2, none⟩ u2) := by
        refine ((((SameOn.refl _ _).sc ?_ _).sc ?_ _).sc ?_ _)
        all_goals (intro b hb e; simp at e; omega)
      refine ⟨⟨k + 1, _, by omega, by go_num, ho4, ?_, ?_⟩, by simp [intOf]; omega⟩
      · exact ((((show Below w.heap.size w w2 by (repeat (first | with_reducible exact Below.refl _ _ | with_reducible assumption | with_reducible refine Below.al ?_ _ | with_reducible refine Below.sc ?_ (by first | exact Nat.le_refl _ | (simp; done) | (simp; omega)) _ | assumption | exact Below.refl _ _ | refine Below.dr ?_ | refine Below.drN ?_ _ | refine Below.step ?_ (by assumption)))).setCell (Nat.le_refl _) _).setCell (Nat.le_refl _) _).setCell (Nat.le_refl _) _)
      · intro j t hj ht
        by_cases hjk : j = k
        · subst hjk
          rw [HK.out] at ht
          obtain rfl := Option.some.inj ht
          refine ⟨u0, u1, u2, ?_, ?_, ?_, LitAt.mono hS (fun b hb => hb) (Nat.le_refl _) (LitAt.mono (B' := fun b => w.heap.size < b) (SameOn.refl _ _) (fun b hb => by omega) (Nat.le_refl _) HU.out)⟩
          · repeat (first | rw [List.getElem?_set_self (by first | omega | (simp; done) | (simp; omega))] | rw [List.getElem?_set_ne (by omega)])
          · repeat (first | rw [List.getElem?_set_self (by first | omega | (simp; done) | (simp; omega))] | rw [List.getElem?_set_ne (by omega)])
          · repeat (first | rw [List.getElem?_set_self (by first | omega | (simp; done) | (simp; omega))] | rw [List.getElem?_set_ne (by omega)])
        · obtain ⟨y0, y1, y2, e0, e1, e2, hy⟩ := HALL.out j t (by omega) ht
          refine ⟨y0, y1, y2, ?_, ?_, ?_, LitAt.mono hS (fun b hb => hb) (Nat.le_refl _) (LitAt.below hb2 hy)⟩
          · repeat rw [List.getElem?_set_ne (by omega)]
            exact e0
          · repeat rw [List.getElem?_set_ne (by omega)]
            exact e1
          · repeat rw [List.getElem?_set_ne (by omega)]
            exact e2
    · obtain rfl : k = us.length := by omega
      go_wp2
      go_ret
      refine ⟨_, rfl, listAt_row3 HO.out rfl (by unfold maxLen; omega) (Nat.le_refl _) (fun j t ht => ?_), hb⟩
      obtain ⟨y0, y1, y2, e0, e1, e2, hy⟩ := HALL.out j t ((List.getElem?_eq_some_iff.1 ht).1) ht
      exact ⟨y0, y1, y2, e0, e1, e2, LitAt.mono (SameOn.refl _ _) (fun b hb => Nat.le_of_lt hb) (Nat.le_refl _) hy⟩
set_option maxRecDepth 100000 in
set_option maxHeartbeats 800000 in
theorem toClause_any {B : Nat → Prop} (m : Nat) (us : List Lit3) (v : Value) (w : World) (h : ClsAt B m w us v) (hw : us.length + Cls.wts us ≤ 1048576) :
    Calls Tryz.prog 53 #[.agg #[v]] w fun e w' => ∃ g, e = .returned (.agg #[.slice (some ⟨g, 0, none⟩) us.length us.length]) ∧ ClsAt (fun b => w.heap.size ≤ b) m w' us (.slice (some ⟨g, 0, none⟩) us.length us.length) ∧ Below w.heap.size w w' := by
  obtain ⟨p, c, rfl, -⟩ := (show ListAt B w 3 (LitAt B m w) v us from h).form
  have H := Lib.hid h
  clear h
  go_enter Tryz.func53, Tryz.ntmps53
  go_wp2_with fail
  refine (toLiteralS_any m us _ _ (ClsAt.below (by (repeat (first | with_reducible exact Below.refl _ _ | with_reducible assumption | with_reducible refine Below.al ?_ _ | with_reducible refine Below.sc ?_ (by first | exact Nat.le_refl _ | (simp; done) | (simp; omega)) _ | assumption | exact Below.refl _ _ | refine Below.dr ?_ | refine Below.drN ?_ _ | refine Below.step ?_ (by assumption)))) H.out) hw).mono ?_
  rintro e w1 ⟨g, rfl, hu, hb1⟩
  have ⟨cw1, fw1⟩ := bcell hb1
  have qw1 := hb1.size
  (try simp at qw1)
  (try have zw1w := bsz (show w.heap.size < w1.heap.size by omega))
  have HU := Lib.hid (show ClsAt _ m w1 us _ from hu)
  clear hu
  have y1 := bsz (show w.heap.size + 1 < w1.heap.size by omega)
  have y2 := bsz (show w.heap.size + 2 < w1.heap.size by omega)
  go_wp2
  refine bodyPost_ret (v := .agg #[.slice (some ⟨g, 0, none⟩) us.length us.length]) (by simp only [results, Tryz.results53]; go_simp) rfl ?_
  refine ⟨_, rfl, ?_, by (repeat (first | with_reducible exact Below.refl _ _ | with_reducible assumption | with_reducible refine Below.al ?_ _ | with_reducible refine Below.sc ?_ (by first | exact Nat.le_refl _ | (simp; done) | (simp; omega)) _ | assumption | exact Below.refl _ _ | refine Below.dr ?_ | refine Below.drN ?_ _ | refine Below.step ?_ (by assumption)))⟩
  exact HU.out.mono (by ((repeat' (first | with_reducible exact SameOn.refl _ _ | with_reducible refine SameOn.sc ?_ ?_ _ | with_reducible refine SameOn.al ?_ ?_ _ | with_reducible refine SameOn.be ?_ ?_ (by with_reducible assumption))) <;> (first | (intro b hb; simp at hb ⊢; omega) | exact Nat.le_refl _ | (simp; done) | (simp; omega) | omega))) (fun b hb => by simp at hb; omega) (Nat.le_refl _)
end Go.Proofs.YtcegllnljaapiaaGreatDoor
namespace Go.Proofs.YtcegllnljaapiaaGreatDoor
open Go.RowKit
def Stp.wt (s : Stp) : Nat := s.ps.length + s.wh.length + (s.c.length + Cls.wts s.c)
set_option maxRecDepth 100000 in
set_option maxHeartbeats 1600000 in
theorem szStep_any {B : Nat → Prop} (m : Nat) (s : Stp) (v0 v1 v2 v3 : Value) (left : Int) (w : World) (h : StpAt B m w s [v0, v1, v2, v3]) (h0 : 0 ≤ left) (h1 : left ≤ 1048576) :
    Calls Tryz.prog 17 #[.agg #[v0, v1, v2, v3], .int .i64 left] w fun e w' => e = .returned (.int .i64 (szR left s.wt)) ∧ Below w.heap.size w w' := by
  obtain ⟨p, c, q, d, r, g, rfl, rfl, rfl, rfl, -, l1, l2, l3, ha, hb, hc⟩ := h.form
  unfold maxLen at l1 l2 l3
  have HA := Lib.hid ha
  have HB := Lib.hid hb
  have HC := Lib.hid hc
  have HW := Lib.hid (show s.wt = s.ps.length + s.wh.length + (s.c.length + Cls.wts s.c) from rfl)
  clear h ha hb hc
  go_enter Tryz.func17, Tryz.ntmps17
  by_cases g1 : (s.ps.length : Int) ≤ left
  case neg =>
    have HS := Lib.hid (show szR left s.ps.length = -1 from if_neg g1)
    go_wp2_with fail
    refine (szIntS_any s.ps _ _ _ (HA.out.below (by (repeat (first | with_reducible exact Below.refl _ _ | with_reducible assumption | with_reducible refine Below.al ?_ _ | with_reducible refine Below.sc ?_ (by first | exact Nat.le_refl _ | (simp; done) | (simp; omega)) _ | assumption | exact Below.refl _ _ | refine Below.dr ?_ | refine Below.drN ?_ _ | refine Below.step ?_ (by assumption))))) (by omega) (by omega)).mono ?_
    rintro e w1 ⟨rfl, hb1⟩
    have ⟨cw1, fw1⟩ := bcell hb1
    have qw1 := hb1.size
    (try simp at qw1)
    (try have zw1w := bsz (show w.heap.size < w1.heap.size by omega))
    rw [HS.out]
    go_wp2
    go_ret
    exact ⟨ret_int (by have := HW.out; rw [szR, if_neg (by omega)]), by (repeat (first | with_reducible exact Below.refl _ _ | with_reducible assumption | with_reducible refine Below.al ?_ _ | with_reducible refine Below.sc ?_ (by first | exact Nat.le_refl _ | (simp; done) | (simp; omega)) _ | assumption | exact Below.refl _ _ | refine Below.dr ?_ | refine Below.drN ?_ _ | refine Below.step ?_ (by assumption)))⟩
  have HS := Lib.hid (show szR left s.ps.length = left - s.ps.length from if_pos g1)
  go_wp2_with fail
  refine (szIntS_any s.ps _ _ _ (HA.out.below (by (repeat (first | with_reducible exact Below.refl _ _ | with_reducible assumption | with_reducible refine Below.al ?_ _ | with_reducible refine Below.sc ?_ (by first | exact Nat.le_refl _ | (simp; done) | (simp; omega)) _ | assumption | exact Below.refl _ _ | refine Below.dr ?_ | refine Below.drN ?_ _ | refine Below.step ?_ (by assumption))))) (by omega) (by omega)).mono ?_
  rintro e w1 ⟨rfl, hb1⟩
  have ⟨cw1, fw1⟩ := bcell hb1
  have qw1 := hb1.size
  (try simp at qw1)
  (try have zw1w := bsz (show w.heap.size < w1.heap.size by omega))
  rw [HS.out]
  by_cases g2 : (s.wh.length : Int) ≤ left - s.ps.length
  case neg =>
    have HS2 := Lib.hid (show szR (left - s.ps.length) s.wh.length = -1 from if_neg g2)
    go_wp2_with fail
    refine (szIntS_any s.wh _ _ _ (HB.out.below (by (repeat (first | with_reducible exact Below.refl _ _ | with_reducible assumption | with_reducible refine Below.al ?_ _ | with_reducible refine Below.sc ?_ (by first | exact Nat.le_refl _ | (simp; done) | (simp; omega)) _ | assumption | exact Below.refl _ _ | refine Below.dr ?_ | refine Below.drN ?_ _ | refine Below.step ?_ (by assumption))))) (by omega) (by omega)).mono ?_
    rintro e w2 ⟨rfl, hb2⟩
    have ⟨cw2, fw2⟩ := bcell hb2
    have qw2 := hb2.size
    (try simp at qw2)
    (try have zw2w := bsz (show w.heap.size < w2.heap.size by omega))
    (try have zw2w1 := bsz (show w1.heap.size < w2.heap.size by omega))
    rw [HS2.out]
    go_wp2
    go_ret
    exact ⟨ret_int (by have := HW.out; rw [szR, if_neg (by omega)]), by (repeat (first | with_reducible exact Below.refl _ _ | with_reducible assumption | with_reducible refine Below.al ?_ _ | with_reducible refine Below.sc ?_ (by first | exact Nat.le_refl _ | (simp; done) | (simp; omega)) _ | assumption | exact Below.refl _ _ | refine Below.dr ?_ | refine Below.drN ?_ _ | refine Below.step ?_ (by assumption)))⟩
  have HS2 := Lib.hid (show szR (left - s.ps.length) s.wh.length = left - s.ps.length - s.wh.length from if_pos g2)
  go_wp2_with fail
  refine (szIntS_any s.wh _ _ _ (HB.out.below (by (repeat (first | with_reducible exact Below.refl _ _ | with_reducible assumption | with_reducible refine Below.al ?_ _ | with_reducible refine Below.sc ?_ (by first | exact Nat.le_refl _ | (simp; done) | (simp; omega)) _ | assumption | exact Below.refl _ _ | refine Below.dr ?_ | refine Below.drN ?_ _ | refine Below.step ?_ (by assumption))))) (by omega) (by omega)).mono ?_
  rintro e w2 ⟨rfl, hb2⟩
  have ⟨cw2, fw2⟩ := bcell hb2
  have qw2 := hb2.size
  (try simp at qw2)
  (try have zw2w := bsz (show w.heap.size < w2.heap.size by omega))
  (try have zw2w1 := bsz (show w1.heap.size < w2.heap.size by omega))
  rw [HS2.out]
  by_cases g3 : ((s.c.length + Cls.wts s.c : Nat) : Int) ≤ left - s.ps.length - s.wh.length
  case neg =>
    have HS3 := Lib.hid (show szR (left - s.ps.length - s.wh.length) (s.c.length + Cls.wts s.c) = -1 from if_neg g3)
    go_wp2_with fail
    refine (szClause_any m s.c _ _ _ (ClsAt.below (by (repeat (first | with_reducible exact Below.refl _ _ | with_reducible assumption | with_reducible refine Below.al ?_ _ | with_reducible refine Below.sc ?_ (by first | exact Nat.le_refl _ | (simp; done) | (simp; omega)) _ | assumption | exact Below.refl _ _ | refine Below.dr ?_ | refine Below.drN ?_ _ | refine Below.step ?_ (by assumption)))) HC.out) (by omega) (by omega)).mono ?_
    rintro e w3 ⟨rfl, hb3⟩
    have ⟨cw3, fw3⟩ := bcell hb3
    have qw3 := hb3.size
    (try simp at qw3)
    (try have zw3w := bsz (show w.heap.size < w3.heap.size by omega))
    (try have zw3w1 := bsz (show w1.heap.size < w3.heap.size by omega))
    (try have zw3w2 := bsz (show w2.heap.size < w3.heap.size by omega))
    rw [HS3.out]
    go_wp2
    go_ret
    exact ⟨ret_int (by have := HW.out; rw [szR, if_neg (by omega)]), by (repeat (first | with_reducible exact Below.refl _ _ | with_reducible assumption | with_reducible refine Below.al ?_ _ | with_reducible refine Below.sc ?_ (by first | exact Nat.le_refl _ | (simp; done) | (simp; omega)) _ | assumption | exact Below.refl _ _ | refine Below.dr ?_ | refine Below.drN ?_ _ | refine Below.step ?_ (by assumption)))⟩
  have HS3 := Lib.hid (show szR (left - s.ps.length - s.wh.length) (s.c.length + Cls.wts s.c) = left - s.ps.length - s.wh.length - ((s.c.length : Int) + (Cls.wts s.c : Nat)) by rw [szR, if_pos g3]; omega)
  go_wp2_with fail
  refine (szClause_any m s.c _ _ _ (ClsAt.below (by (repeat (first | with_reducible exact Below.refl _ _ | with_reducible assumption | with_reducible refine Below.al ?_ _ | with_reducible refine Below.sc ?_ (by first | exact Nat.le_refl _ | (simp; done) | (simp; omega)) _ | assumption | exact Below.refl _ _ | refine Below.dr ?_ | refine Below.drN ?_ _ | refine Below.step ?_ (by assumption)))) HC.out) (by omega) (by omega)).mono ?_
  rintro e w3 ⟨rfl, hb3⟩
  have ⟨cw3, fw3⟩ := bcell hb3
  have qw3 := hb3.size
  (try simp at qw3)
  (try have zw3w := bsz (show w.heap.size < w3.heap.size by omega))
  (try have zw3w1 := bsz (show w1.heap.size < w3.heap.size by omega))
  (try have zw3w2 := bsz (show w2.heap.size < w3.heap.size by omega))
  rw [HS3.out]
  go_wp2
  go_ret
  exact ⟨ret_int (by have := HW.out; rw [szR, if_pos (by omega)]; omega), by (repeat (first | with_reducible exact Below.refl _ _ | with_reducible assumption | with_reducible refine Below.al ?_ _ | with_reducible refine Below.sc ?_ (by first | exact Nat.le_refl _ | (simp; done) | (simp; omega)) _ | assumption | exact Below.refl _ _ | refine Below.dr ?_ | refine Below.drN ?_ _ | refine Below.step ?_ (by assumption)))⟩
set_option maxRecDepth 100000 in
set_option maxHeartbeats 1600000 in
theorem eqStep_same {B B' : Nat → Prop} (m : Nat) (s : Stp) (v0 v1 v2 v3 u0 u1 u2 u3 : Value) (w : World) (h : StpAt B m w s [v0, v1, v2, v3]) (h' : StpAt B' m w s [u0, u1, u2, u3]) :
    Calls Tryz.prog 21 #[.agg #[v0, v1, v2, v3], .agg #[u0, u1, u2, u3]] w fun e w' => e = .returned (.bool true) ∧ Below w.heap.size w w' := by
  obtain ⟨p, c, q, d, r, g, rfl, rfl, rfl, rfl, -, l1, l2, l3, ha, hb, hc⟩ := h.form
  obtain ⟨p', c', q', d', r', g', rfl, rfl, rfl, rfl, -, -, -, -, ha', hb', hc'⟩ := h'.form
  have HA := Lib.hid ha
  have HB := Lib.hid hb
  have HC := Lib.hid hc
  have HA' := Lib.hid ha'
  have HB' := Lib.hid hb'
  have HC' := Lib.hid hc'
  clear h ha hb hc h' ha' hb' hc'
  go_enter Tryz.func21, Tryz.ntmps21
  skip
  go_wp2_with fail
  refine (eqIntS_same s.ps _ _ _ (HA.out.below (by (repeat (first | with_reducible exact Below.refl _ _ | with_reducible assumption | with_reducible refine Below.al ?_ _ | with_reducible refine Below.sc ?_ (by first | exact Nat.le_refl _ | (simp; done) | (simp; omega)) _ | assumption | exact Below.refl _ _ | refine Below.dr ?_ | refine Below.drN ?_ _ | refine Below.step ?_ (by assumption))))) (HA'.out.below (by (repeat (first | with_reducible exact Below.refl _ _ | with_reducible assumption | with_reducible refine Below.al ?_ _ | with_reducible refine Below.sc ?_ (by first | exact Nat.le_refl _ | (simp; done) | (simp; omega)) _ | assumption | exact Below.refl _ _ | refine Below.dr ?_ | refine Below.drN ?_ _ | refine Below.step ?_ (by assumption)))))).mono ?_
  rintro e w1 ⟨rfl, hb1⟩
  have ⟨cw1, fw1⟩ := bcell hb1
  have qw1 := hb1.size
  (try simp at qw1)
  (try have zw1w := bsz (show w.heap.size < w1.heap.size by omega))
  (try have zw1_0 := bsz (show w.heap.size + 1 < w1.heap.size by omega))
  go_wp2_with fail
  refine (eqIntS_same s.wh _ _ _ (HB.out.below (by (repeat (first | with_reducible exact Below.refl _ _ | with_reducible assumption | with_reducible refine Below.al ?_ _ | with_reducible refine Below.sc ?_ (by first | exact Nat.le_refl _ | (simp; done) | (simp; omega)) _ | assumption | exact Below.refl _ _ | refine Below.dr ?_ | refine Below.drN ?_ _ | refine Below.step ?_ (by assumption))))) (HB'.out.below (by (repeat (first | with_reducible exact Below.refl _ _ | with_reducible assumption | with_reducible refine Below.al ?_ _ | with_reducible refine Below.sc ?_ (by first | exact Nat.le_refl _ | (simp; done) | (simp; omega)) _ | assumption | exact Below.refl _ _ | refine Below.dr ?_ | refine Below.drN ?_ _ | refine Below.step ?_ (by assumption)))))).mono ?_
  rintro e w2 ⟨rfl, hb2⟩
  have ⟨cw2, fw2⟩ := bcell hb2
  have qw2 := hb2.size
  (try simp at qw2)
  (try have zw2w := bsz (show w.heap.size < w2.heap.size by omega))
  (try have zw2w1 := bsz (show w1.heap.size < w2.heap.size by omega))
  (try have zw2_0 := bsz (show w.heap.size + 1 < w2.heap.size by omega))
  go_wp2_with fail
  refine (eqClause_same m s.c _ _ _ (ClsAt.below (by (repeat (first | with_reducible exact Below.refl _ _ | with_reducible assumption | with_reducible refine Below.al ?_ _ | with_reducible refine Below.sc ?_ (by first | exact Nat.le_refl _ | (simp; done) | (simp; omega)) _ | assumption | exact Below.refl _ _ | refine Below.dr ?_ | refine Below.drN ?_ _ | refine Below.step ?_ (by assumption)))) HC.out) (ClsAt.below (by (repeat (first | with_reducible exact Below.refl _ _ | with_reducible assumption | with_reducible refine Below.al ?_ _ | with_reducible refine Below.sc ?_ (by first | exact Nat.le_refl _ | (simp; done) | (simp; omega)) _ | assumption | exact Below.refl _ _ | refine Below.dr ?_ | refine Below.drN ?_ _ | refine Below.step ?_ (by assumption)))) HC'.out)).mono ?_
  rintro e w3 ⟨rfl, hb3⟩
  have ⟨cw3, fw3⟩ := bcell hb3
  have qw3 := hb3.size
  (try simp at qw3)
  (try have zw3w := bsz (show w.heap.size < w3.heap.size by omega))
  (try have zw3w1 := bsz (show w1.heap.size < w3.heap.size by omega))
  (try have zw3w2 := bsz (show w2.heap.size < w3.heap.size by omega))
  (try have zw3_0 := bsz (show w.heap.size + 1 < w3.heap.size by omega))
  go_wp2
  go_ret
  exact ⟨rfl, by (repeat (first | with_reducible exact Below.refl _ _ | with_reducible assumption | with_reducible refine Below.al ?_ _ | with_reducible refine Below.sc ?_ (by first | exact Nat.le_refl _ | (simp; done) | (simp; omega)) _ | assumption | exact Below.refl _ _ | refine Below.dr ?_ | refine Below.drN ?_ _ | refine Below.step ?_ (by assumption)))⟩
set_option maxRecDepth 100000 in
set_option maxHeartbeats 3200000 in
theorem toStep_any {B : Nat → Prop} (m : Nat) (s : Stp) (v0 v1 v2 v3 : Value) (w : World) (h : StpAt B m w s [v0, v1, v2, v3]) (hw : s.wt ≤ 1048576) :
    Calls Tryz.prog 19 #[.agg #[v0, v1, v2, v3]] w fun e w' => ∃ p q r, e = .returned (.agg #[.int .i64 s.rule, .slice p s.ps.length s.ps.length, .slice q s.wh.length s.wh.length, .slice r s.c.length s.c.length]) ∧ StpAt (fun b => w.heap.size ≤ b) m w' s [.int .i64 s.rule, .slice p s.ps.length s.ps.length, .slice q s.wh.length s.wh.length, .slice r s.c.length s.c.length] ∧ Below w.heap.size w w' := by
  obtain ⟨p, c, q, d, r, g, rfl, rfl, rfl, rfl, hru, l1, l2, l3, ha, hb, hc⟩ := h.form
  have HA := Lib.hid ha
  have HB := Lib.hid hb
  have HC := Lib.hid hc
  have HW := Lib.hid (show s.wt = s.ps.length + s.wh.length + (s.c.length + Cls.wts s.c) from rfl)
  have HR := Lib.hid hru
  clear h ha hb hc hru
  go_enter Tryz.func19, Tryz.ntmps19
  skip
  go_wp2_with fail
  refine (toIntS_own s.ps _ _ (HA.out.below (by (repeat (first | with_reducible exact Below.refl _ _ | with_reducible assumption | with_reducible refine Below.al ?_ _ | with_reducible refine Below.sc ?_ (by first | exact Nat.le_refl _ | (simp; done) | (simp; omega)) _ | assumption | exact Below.refl _ _ | refine Below.dr ?_ | refine Below.drN ?_ _ | refine Below.step ?_ (by assumption))))) (by have := HW.out; omega)).mono ?_
  rintro e w1 ⟨g1, rfl, ho1, hb1⟩
  have ⟨cw1, fw1⟩ := bcell hb1
  have qw1 := hb1.size
  (try simp at qw1)
  (try have zw1w := bsz (show w.heap.size < w1.heap.size by omega))
  (try have zw1_0 := bsz (show w.heap.size + 1 < w1.heap.size by omega))
  (try have zw1_1 := bsz (show w.heap.size + 1 + 1 < w1.heap.size by omega))
  have HO1 := Lib.hid ho1.at_
  clear ho1
  go_wp2_with fail
  refine (toIntS_own s.wh _ _ (HB.out.below (by (repeat (first | with_reducible exact Below.refl _ _ | with_reducible assumption | with_reducible refine Below.al ?_ _ | with_reducible refine Below.sc ?_ (by first | exact Nat.le_refl _ | (simp; done) | (simp; omega)) _ | assumption | exact Below.refl _ _ | refine Below.dr ?_ | refine Below.drN ?_ _ | refine Below.step ?_ (by assumption))))) (by have := HW.out; omega)).mono ?_
  rintro e w2 ⟨g2, rfl, ho2, hb2⟩
  have ⟨cw2, fw2⟩ := bcell hb2
  have qw2 := hb2.size
  (try simp at qw2)
  (try have zw2w := bsz (show w.heap.size < w2.heap.size by omega))
  (try have zw2w1 := bsz (show w1.heap.size < w2.heap.size by omega))
  (try have zw2_0 := bsz (show w.heap.size + 1 < w2.heap.size by omega))
  (try have zw2_1 := bsz (show w.heap.size + 1 + 1 < w2.heap.size by omega))
  have HO2 := Lib.hid ho2.at_
  clear ho2
  go_wp2_with fail
  refine (toClause_any m s.c _ _ (ClsAt.below (by (repeat (first | with_reducible exact Below.refl _ _ | with_reducible assumption | with_reducible refine Below.al ?_ _ | with_reducible refine Below.sc ?_ (by first | exact Nat.le_refl _ | (simp; done) | (simp; omega)) _ | assumption | exact Below.refl _ _ | refine Below.dr ?_ | refine Below.drN ?_ _ | refine Below.step ?_ (by assumption)))) HC.out) (by have := HW.out; omega)).mono ?_
  rintro e w3 ⟨g3, rfl, ho3, hb3⟩
  have ⟨cw3, fw3⟩ := bcell hb3
  have qw3 := hb3.size
  (try simp at qw3)
  (try have zw3w := bsz (show w.heap.size < w3.heap.size by omega))
  (try have zw3w1 := bsz (show w1.heap.size < w3.heap.size by omega))
  (try have zw3w2 := bsz (show w2.heap.size < w3.heap.size by omega))
  (try have zw3_0 := bsz (show w.heap.size + 1 < w3.heap.size by omega))
  (try have zw3_1 := bsz (show w.heap.size + 1 + 1 < w3.heap.size by omega))
  have HO3 := Lib.hid ho3
  clear ho3
  go_wp2
  refine bodyPost_ret (v := .agg #[.int .i64 s.rule, .slice (some ⟨g1, 0, none⟩) s.ps.length s.ps.length, .slice (some ⟨g2, 0, none⟩) s.wh.length s.wh.length, .slice (some ⟨g3, 0, none⟩) s.c.length s.c.length]) (by simp only [results, Tryz.results19]; go_simp) rfl ?_
  refine ⟨_, _, _, rfl, ⟨_, _, _, rfl, HR.out, HO1.out.mono (show SameOn (fun b => (_ : Nat) ≤ b ∧ b < _) _ _ by ((repeat' (first | with_reducible exact SameOn.refl _ _ | with_reducible refine SameOn.sc ?_ ?_ _ | with_reducible refine SameOn.al ?_ ?_ _ | with_reducible refine SameOn.be ?_ ?_ (by with_reducible assumption))) <;> (first | (intro b hb; simp at hb ⊢; omega) | exact Nat.le_refl _ | (simp; done) | (simp; omega) | omega))) (fun b hb => ?_), HO2.out.mono (show SameOn (fun b => (_ : Nat) ≤ b ∧ b < _) _ _ by ((repeat' (first | with_reducible exact SameOn.refl _ _ | with_reducible refine SameOn.sc ?_ ?_ _ | with_reducible refine SameOn.al ?_ ?_ _ | with_reducible refine SameOn.be ?_ ?_ (by with_reducible assumption))) <;> (first | (intro b hb; simp at hb ⊢; omega) | exact Nat.le_refl _ | (simp; done) | (simp; omega) | omega))) (fun b hb => ?_), HO3.out.mono (by ((repeat' (first | with_reducible exact SameOn.refl _ _ | with_reducible refine SameOn.sc ?_ ?_ _ | with_reducible refine SameOn.al ?_ ?_ _ | with_reducible refine SameOn.be ?_ ?_ (by with_reducible assumption))) <;> (first | (intro b hb; simp at hb ⊢; omega) | exact Nat.le_refl _ | (simp; done) | (simp; omega) | omega))) (fun b hb => ?_) (Nat.le_refl _)⟩, by (repeat (first | with_reducible exact Below.refl _ _ | with_reducible assumption | with_reducible refine Below.al ?_ _ | with_reducible refine Below.sc ?_ (by first | exact Nat.le_refl _ | (simp; done) | (simp; omega)) _ | assumption | exact Below.refl _ _ | refine Below.dr ?_ | refine Below.drN ?_ _ | refine Below.step ?_ (by assumption)))⟩
  · have := hb.1; simp at this; omega
  · have := hb.1; simp at this; omega
  · simp at hb; omega
end Go.Proofs.YtcegllnljaapiaaGreatDoor
namespace Go.Proofs.YtcegllnljaapiaaGreatDoor
open Go.RowKit
def L2CmpC (B : Nat → Prop) (m : Nat) : Prop := ∀ (a b : Tm) (v0 v1 u0 u1 : Value) (w : World), TmAt B m w a [v0, v1] → TmAt B m w b [u0, u1] →
  Calls Tryz.prog 190 #[.agg #[v0, v1], .agg #[u0, u1]] w fun e w' => e = .returned (.int .i64 (a.cmp b)) ∧ Below w.heap.size w w'
def L2Rel (us vs : List Tm) (w : World) (i : Value) (wr : World) : Prop := ∃ k : Nat, k ≤ us.length ∧ i = .int .i64 k ∧ Tm.cmps us vs = Tm.cmps (us.drop k) (vs.drop k) ∧ Below w.heap.size w wr
set_option maxRecDepth 100000 in
set_option maxHeartbeats 3200000 in
theorem l2Compare_any {B : Nat → Prop} : ∀ m : Nat, L2CmpC B m := by
  intro m
  induction m with
  | zero => intro a b v0 v1 u0 u1 w h; exact h.elim
  | succ m ih =>
    intro a b v0 v1 u0 u1 w ha hb
    have hsa := ha.form
    have hsb := hb.form
    obtain ⟨p, c, rfl, rfl, hna, hla⟩ := ha.form
    obtain ⟨q, d, rfl, rfl, hnb, hlb⟩ := hb.form
    have HA := Lib.hid (TmAt.sub' ha)
    have HB := Lib.hid (TmAt.sub' hb)
    have IH := Lib.hid ih
    have HCE := Lib.hid (Tm.cmp_eq a b)
    clear ha hb ih hsa hsb
    have HNA := Lib.hid hna
    have HNB := Lib.hid hnb
    unfold maxLen at hla hlb
    clear hna hnb
    go_enter Tryz.func190, Tryz.ntmps190
    go_wp2
    obtain ⟨W, hW⟩ : ∃ W : World, W = (w.alloc (.cells #[.string a.n, .slice p a.us.length c] 57)).alloc (.cells #[.string b.n, .slice q b.us.length d] 57) := ⟨_, rfl⟩
    have hsW : W.heap.size = w.heap.size + 2 := by rw [hW]; simp
    have hbW : Below w.heap.size w W := by rw [hW]; (repeat (first | with_reducible exact Below.refl _ _ | with_reducible assumption | with_reducible refine Below.al ?_ _ | with_reducible refine Below.sc ?_ (by first | exact Nat.le_refl _ | (simp; done) | (simp; omega)) _ | assumption | exact Below.refl _ _ | refine Below.dr ?_ | refine Below.drN ?_ _ | refine Below.step ?_ (by assumption)))
    have a0 : W.cell? ⟨w.heap.size, 0, none⟩ = some (.string a.n) := by rw [hW]; go_simp
    have a1 : W.cell? ⟨w.heap.size, 1, none⟩ = some (.slice p a.us.length c) := by rw [hW]; go_simp
    have b0 : W.cell? ⟨w.heap.size + 1, 0, none⟩ = some (.string b.n) := by rw [hW]; go_simp
    have b1 : W.cell? ⟨w.heap.size + 1, 1, none⟩ = some (.slice q b.us.length d) := by rw [hW]; go_simp
    rw [← hW]
    clear hW
    have zW := bsz (show w.heap.size < W.heap.size by omega)
    have zW1 := bsz (show w.heap.size + 1 < W.heap.size by omega)
    obtain ⟨C, HC0⟩ := class_of (InF W.heap.size _ [(⟨w.heap.size, 0, none⟩, .string a.n), (⟨w.heap.size, 1, none⟩, .slice p a.us.length c), (⟨w.heap.size + 1, 0, none⟩, .string b.n), (⟨w.heap.size + 1, 1, none⟩, .slice q b.us.length d)] [] [])
    have HC := Lib.hid HC0
    clear HC0
    refine wp_region_flow (C := C) (by kernel_rfl) (by kernel_rfl) (fun L hL => (HC.out _ _).2 (InF.start (by first | (intro _ hs; cases hs; done) | (simp only [List.forall_mem_cons]; go_simp)) (by first | (intro _ hs; cases hs; done) | (simp only [List.forall_mem_cons]; go_simp)) (by first | (intro _ hs; cases hs; done) | (simp only [List.forall_mem_cons]; go_simp)) (by first | (intro _ hs; cases hs; done) | (simp only [List.forall_mem_cons]; go_simp)) L hL)) ?_
    repeat (first | (apply flow_free rfl; (intro L w' hun hrd hC; have hC := (HC.out _ _).1 hC; have hb' := hC.below; (try have hw' : Below w.heap.size w w' := by first | exact Below.trans (by (repeat (first | with_reducible exact Below.refl _ _ | with_reducible assumption | with_reducible refine Below.al ?_ _ | with_reducible refine Below.sc ?_ (by first | exact Nat.le_refl _ | (simp; done) | (simp; omega)) _ | assumption | exact Below.refl _ _ | refine Below.dr ?_ | refine Below.drN ?_ _ | refine Below.step ?_ (by assumption)))) hb' | ((repeat (first | with_reducible exact Below.refl _ _ | with_reducible assumption | with_reducible refine Below.al ?_ _ | with_reducible refine Below.sc ?_ (by first | exact Nat.le_refl _ | (simp; done) | (simp; omega)) _ | assumption | exact Below.refl _ _ | refine Below.dr ?_ | refine Below.drN ?_ _ | refine Below.step ?_ (by assumption))); done)); have hf' := hC.cell; (try simp only [List.forall_mem_cons] at hf'); go_simp; first | exact ⟨(HC.out _ _).2 (hC.skip _ (by rfl)), rfl⟩ | (rw [if_neg]; (exact ⟨(HC.out _ _).2 (hC.skip _ (by rfl)), rfl⟩); omega) | (go_at_call 220; (with_reducible refine ((same_below (l2Var_any a.n _ HNA.out))).mono ?_); rintro e w1 ⟨rfl, hb1⟩; exact ⟨rfl, (HC.out _ _).2 ((hC.next (by first | (simp; done) | (simp; omega) | omega) hb1).skip _ (by rfl))⟩) | (go_at_call 220; (with_reducible refine ((same_below (l2Var_any b.n _ HNB.out))).mono ?_); rintro e w1 ⟨rfl, hb1⟩; exact ⟨rfl, (HC.out _ _).2 ((hC.next (by first | (simp; done) | (simp; omega) | omega) hb1).skip _ (by rfl))⟩)); go_simp) | (apply flow_yes; (case hw => go_simp); (intro L w' hun hrd hC; have hC := (HC.out _ _).1 hC; have hb' := hC.below; (try have hw' : Below w.heap.size w w' := by first | exact Below.trans (by (repeat (first | with_reducible exact Below.refl _ _ | with_reducible assumption | with_reducible refine Below.al ?_ _ | with_reducible refine Below.sc ?_ (by first | exact Nat.le_refl _ | (simp; done) | (simp; omega)) _ | assumption | exact Below.refl _ _ | refine Below.dr ?_ | refine Below.drN ?_ _ | refine Below.step ?_ (by assumption)))) hb' | ((repeat (first | with_reducible exact Below.refl _ _ | with_reducible assumption | with_reducible refine Below.al ?_ _ | with_reducible refine Below.sc ?_ (by first | exact Nat.le_refl _ | (simp; done) | (simp; omega)) _ | assumption | exact Below.refl _ _ | refine Below.dr ?_ | refine Below.drN ?_ _ | refine Below.step ?_ (by assumption))); done)); have hf' := hC.cell; (try simp only [List.forall_mem_cons] at hf'); go_simp; first | exact ⟨(HC.out _ _).2 (hC.skip _ (by rfl)), rfl⟩ | (rw [if_neg]; (exact ⟨(HC.out _ _).2 (hC.skip _ (by rfl)), rfl⟩); omega) | (go_at_call 220; (with_reducible refine ((same_below (l2Var_any a.n _ HNA.out))).mono ?_); rintro e w1 ⟨rfl, hb1⟩; exact ⟨rfl, (HC.out _ _).2 ((hC.next (by first | (simp; done) | (simp; omega) | omega) hb1).skip _ (by rfl))⟩) | (go_at_call 220; (with_reducible refine ((same_below (l2Var_any b.n _ HNB.out))).mono ?_); rintro e w1 ⟨rfl, hb1⟩; exact ⟨rfl, (HC.out _ _).2 ((hC.next (by first | (simp; done) | (simp; omega) | omega) hb1).skip _ (by rfl))⟩)); go_simp) | (apply flow_no; (case hw => (go_simp; try (intro hh; cases hh))); (intro L w' _ _ hC; exact (HC.out _ _).2 (((HC.out _ _).1 hC).skip _ (by rfl))); go_simp))
    refine flow_nil ?_
    intro L wz hL hz
    have hz := (HC.out _ _).1 hz
    have hbz := hz.below
    have hcz := hz.cell
    try simp only [List.forall_mem_cons] at hcz
    have hdz := hz.done
    try simp only [List.forall_mem_cons] at hdz
    (try have hwz : Below w.heap.size w wz := by first | exact Below.trans (by (repeat (first | with_reducible exact Below.refl _ _ | with_reducible assumption | with_reducible refine Below.al ?_ _ | with_reducible refine Below.sc ?_ (by first | exact Nat.le_refl _ | (simp; done) | (simp; omega)) _ | assumption | exact Below.refl _ _ | refine Below.dr ?_ | refine Below.drN ?_ _ | refine Below.step ?_ (by assumption)))) hbz | ((repeat (first | with_reducible exact Below.refl _ _ | with_reducible assumption | with_reducible refine Below.al ?_ _ | with_reducible refine Below.sc ?_ (by first | exact Nat.le_refl _ | (simp; done) | (simp; omega)) _ | assumption | exact Below.refl _ _ | refine Below.dr ?_ | refine Below.drN ?_ _ | refine Below.step ?_ (by assumption))); done))
    cases hva : varB a.n.data.toList <;> cases hvb : varB b.n.data.toList
    case true.false =>
      go_wp2
      go_ret
      exact ⟨ret_int (by rw [HCE.out, hva, hvb]; rfl), by (repeat (first | with_reducible exact Below.refl _ _ | with_reducible assumption | with_reducible refine Below.al ?_ _ | with_reducible refine Below.sc ?_ (by first | exact Nat.le_refl _ | (simp; done) | (simp; omega)) _ | assumption | exact Below.refl _ _ | refine Below.dr ?_ | refine Below.drN ?_ _ | refine Below.step ?_ (by assumption)))⟩
    case false.true =>
      go_wp2
      go_ret
      exact ⟨ret_int (by rw [HCE.out, hva, hvb]; rfl), by (repeat (first | with_reducible exact Below.refl _ _ | with_reducible assumption | with_reducible refine Below.al ?_ _ | with_reducible refine Below.sc ?_ (by first | exact Nat.le_refl _ | (simp; done) | (simp; omega)) _ | assumption | exact Below.refl _ _ | refine Below.dr ?_ | refine Below.drN ?_ _ | refine Below.step ?_ (by assumption)))⟩
    all_goals
      have HCE2 := Lib.hid (show a.cmp b = if textCmp a.n.data.toList b.n.data.toList ≠ 0 then textCmp a.n.data.toList b.n.data.toList else if a.us.length < b.us.length then -1 else if b.us.length < a.us.length then 1 else Tm.cmps a.us b.us by rw [HCE.out, hva, hvb]; rfl)
      clear hva hvb
      obtain ⟨g0, g1, k0, k1, -⟩ := hcz
      have hwq : Below w.heap.size w wz := by first | exact hwz | (repeat (first | with_reducible exact Below.refl _ _ | with_reducible assumption | with_reducible refine Below.al ?_ _ | with_reducible refine Below.sc ?_ (by first | exact Nat.le_refl _ | (simp; done) | (simp; omega)) _ | assumption | exact Below.refl _ _ | refine Below.dr ?_ | refine Below.drN ?_ _ | refine Below.step ?_ (by assumption)))
      have hqz := hbz.size
      have zq := bsz (show w.heap.size < wz.heap.size by omega)
      have zq1 := bsz (show w.heap.size + 1 < wz.heap.size by omega)
      clear a0 a1 b0 b1 hdz
      by_cases hne : a.n.toList = b.n.toList
      · have hne1 : (a.n.toList == b.n.toList) = true := by simpa using hne
        have hne2 : (a.n.toList != b.n.toList) = false := by rw [bne, hne1]; rfl
        have hl : a.n.data.toList = b.n.data.toList := by rw [← ByteArray.toList_eq, ← ByteArray.toList_eq, hne]
        have HT := Lib.hid (show a.cmp b = if a.us.length < b.us.length then -1 else if b.us.length < a.us.length then 1 else Tm.cmps a.us b.us by rw [HCE2.out, hl, textCmp_self, if_neg (by simp)])
        clear hl hne
        by_cases h1 : (a.us.length : Int) < b.us.length
        · go_wp2
          go_ret
          exact ⟨ret_int (by rw [HT.out, if_pos (by omega)]), by (repeat (first | with_reducible exact Below.refl _ _ | with_reducible assumption | with_reducible refine Below.al ?_ _ | with_reducible refine Below.sc ?_ (by first | exact Nat.le_refl _ | (simp; done) | (simp; omega)) _ | assumption | exact Below.refl _ _ | refine Below.dr ?_ | refine Below.drN ?_ _ | refine Below.step ?_ (by assumption)))⟩
        · by_cases h2 : (b.us.length : Int) < a.us.length
          · go_wp2
            go_ret
            exact ⟨ret_int (by rw [HT.out, if_neg (by omega), if_pos (by omega)]), by (repeat (first | with_reducible exact Below.refl _ _ | with_reducible assumption | with_reducible refine Below.al ?_ _ | with_reducible refine Below.sc ?_ (by first | exact Nat.le_refl _ | (simp; done) | (simp; omega)) _ | assumption | exact Below.refl _ _ | refine Below.dr ?_ | refine Below.drN ?_ _ | refine Below.step ?_ (by assumption)))⟩
          · have HT2 := Lib.hid (show a.cmp b = Tm.cmps a.us b.us by rw [HT.out, if_neg (by omega), if_neg (by omega)])
            go_wp2
            have HAZ := Lib.hid (HA.out.mono (SameOn.below hwq) (fun _ h => h) (fun x cs _ hx => TmAt.below hwq hx))
            have HBZ := Lib.hid (HB.out.mono (SameOn.below hwq) (fun _ h => h) (fun x cs _ hx => TmAt.below hwq hx))
            generalize wz = wz_old at *
            go_loopw [7] (L2Rel a.us b.us wz_old) (fun i _ => a.us.length - (intOf i).toNat)
            case atStart => exact ⟨0, Nat.zero_le _, rfl, rfl, Below.refl _ _⟩
            case round =>
              obtain ⟨k, hk, rfl, he, hb⟩ := hrel
              have HE := Lib.hid he
              have hqr := hb.size
              have e1 : wr.cell? ⟨w.heap.size, 1, none⟩ = some (.slice p a.us.length c) := (World.cell?_of_block (hb.block _ (by simp; omega))).trans g1
              have e2 : wr.cell? ⟨w.heap.size + 1, 1, none⟩ = some (.slice q b.us.length d) := (World.cell?_of_block (hb.block _ (by simp; omega))).trans k1
              have hwr : Below w.heap.size w wr := Below.trans hwq (hb.mono hwq.size)
              have zr := bsz (show w.heap.size < wr.heap.size by omega)
              have zr1 := bsz (show w.heap.size + 1 < wr.heap.size by omega)
              clear he g0 g1 k0 k1
              by_cases hlt : k < a.us.length
              · have hlt2 : k < b.us.length := by omega
                have hlt3 : (k : Int) < a.us.length := by omega
                have hlt4 : (k : Int) < b.us.length := by omega
                have hd := Tm.cmps_drop hlt hlt2
                obtain ⟨b1, o1, hq1, hB1, x0, x1, hx0, hx1, hx⟩ := (HAZ.out.mono (SameOn.below hb) (fun _ h => h) (fun x cs _ hx => TmAt.below hb hx)).at2 hlt
                obtain ⟨b2, o2, hq2, hB2, y0, y1, hy0, hy1, hy⟩ := (HBZ.out.mono (SameOn.below hb) (fun _ h => h) (fun x cs _ hx => TmAt.below hb hx)).at2 hlt2
                subst hq1 hq2
                obtain ⟨x, hxx⟩ : ∃ x, a.us[k] = x := ⟨_, rfl⟩
                obtain ⟨y, hyy⟩ : ∃ y, b.us[k] = y := ⟨_, rfl⟩
                rw [hxx, hyy] at hd
                rw [hxx] at hx
                rw [hyy] at hy
                have HX := Lib.hid hx
                have HY := Lib.hid hy
                have HD := Lib.hid hd
                clear hd hxx hyy hx hy
                obtain ⟨pa, ca, rfl, rfl, -⟩ := HX.out.form
                obtain ⟨pb, cb, rfl, rfl, -⟩ := HY.out.form
                have zb1 := bsz (World.block_lt_of_cell? _ _ hx0)
                have zb2 := bsz (World.block_lt_of_cell? _ _ hy0)
                have hbr : Below wr.heap.size wr wr := Below.refl _ _
                go_wp2
                obtain ⟨C, HC0⟩ := class_of (InF wr.heap.size _ [(⟨w.heap.size, 1, none⟩, .slice (some ⟨b1, o1, none⟩) a.us.length c), (⟨w.heap.size + 1, 1, none⟩, .slice (some ⟨b2, o2, none⟩) b.us.length d), (⟨b1, o1 + k * 2, none⟩, .string x.n), (⟨b1, o1 + k * 2 + 1, none⟩, .slice pa x.us.length ca), (⟨b2, o2 + k * 2, none⟩, .string y.n), (⟨b2, o2 + k * 2 + 1, none⟩, .slice pb y.us.length cb)] [] [])
                have HC := Lib.hid HC0
                clear HC0
                refine wp_region_flow (C := C) (by kernel_rfl) (by kernel_rfl) (fun L hL => (HC.out _ _).2 (InF.start (by first | (intro _ hs; cases hs; done) | (simp only [List.forall_mem_cons]; go_simp)) (by first | (intro _ hs; cases hs; done) | (simp only [List.forall_mem_cons]; go_simp)) (by first | (intro _ hs; cases hs; done) | (simp only [List.forall_mem_cons]; go_simp)) (by first | (intro _ hs; cases hs; done) | (simp only [List.forall_mem_cons]; go_simp)) L hL)) ?_
                repeat (first | (apply flow_free rfl; (intro L w' hun hrd hC; have hC := (HC.out _ _).1 hC; have hb' := hC.below; (try have hw' : Below w.heap.size w w' := by first | exact Below.trans (by (repeat (first | with_reducible exact Below.refl _ _ | with_reducible assumption | with_reducible refine Below.al ?_ _ | with_reducible refine Below.sc ?_ (by first | exact Nat.le_refl _ | (simp; done) | (simp; omega)) _ | assumption | exact Below.refl _ _ | refine Below.dr ?_ | refine Below.drN ?_ _ | refine Below.step ?_ (by assumption)))) hb' | ((repeat (first | with_reducible exact Below.refl _ _ | with_reducible assumption | with_reducible refine Below.al ?_ _ | with_reducible refine Below.sc ?_ (by first | exact Nat.le_refl _ | (simp; done) | (simp; omega)) _ | assumption | exact Below.refl _ _ | refine Below.dr ?_ | refine Below.drN ?_ _ | refine Below.step ?_ (by assumption))); done)); have hf' := hC.cell; (try simp only [List.forall_mem_cons] at hf'); go_simp; first | exact ⟨(HC.out _ _).2 (hC.skip _ (by rfl)), rfl⟩ | (rw [if_neg]; (exact ⟨(HC.out _ _).2 (hC.skip _ (by rfl)), rfl⟩); omega) | (go_at_call 190; refine (IH.out x y _ _ _ _ _ (TmAt.below hb' HX.out) (TmAt.below hb' HY.out)).mono ?_; rintro e w1 ⟨rfl, hb1⟩; exact ⟨rfl, (HC.out _ _).2 ((hC.next (by first | (simp; done) | (simp; omega) | omega) hb1).skip _ (by rfl))⟩)); go_simp) | (apply flow_yes; (case hw => go_simp); (intro L w' hun hrd hC; have hC := (HC.out _ _).1 hC; have hb' := hC.below; (try have hw' : Below w.heap.size w w' := by first | exact Below.trans (by (repeat (first | with_reducible exact Below.refl _ _ | with_reducible assumption | with_reducible refine Below.al ?_ _ | with_reducible refine Below.sc ?_ (by first | exact Nat.le_refl _ | (simp; done) | (simp; omega)) _ | assumption | exact Below.refl _ _ | refine Below.dr ?_ | refine Below.drN ?_ _ | refine Below.step ?_ (by assumption)))) hb' | ((repeat (first | with_reducible exact Below.refl _ _ | with_reducible assumption | with_reducible refine Below.al ?_ _ | with_reducible refine Below.sc ?_ (by first | exact Nat.le_refl _ | (simp; done) | (simp; omega)) _ | assumption | exact Below.refl _ _ | refine Below.dr ?_ | refine Below.drN ?_ _ | refine Below.step ?_ (by assumption))); done)); have hf' := hC.cell; (try simp only [List.forall_mem_cons] at hf'); go_simp; first | exact ⟨(HC.out _ _).2 (hC.skip _ (by rfl)), rfl⟩ | (rw [if_neg]; (exact ⟨(HC.out _ _).2 (hC.skip _ (by rfl)), rfl⟩); omega) | (go_at_call 190; refine (IH.out x y _ _ _ _ _ (TmAt.below hb' HX.out) (TmAt.below hb' HY.out)).mono ?_; rintro e w1 ⟨rfl, hb1⟩; exact ⟨rfl, (HC.out _ _).2 ((hC.next (by first | (simp; done) | (simp; omega) | omega) hb1).skip _ (by rfl))⟩)); go_simp) | (apply flow_no; (case hw => (go_simp; try (intro hh; cases hh))); (intro L w' _ _ hC; exact (HC.out _ _).2 (((HC.out _ _).1 hC).skip _ (by rfl))); go_simp))
                refine flow_nil ?_
                intro L wz hL hz
                have hz := (HC.out _ _).1 hz
                have hbz := hz.below
                have hcz := hz.cell
                try simp only [List.forall_mem_cons] at hcz
                have hdz := hz.done
                try simp only [List.forall_mem_cons] at hdz
                (try have hwz : Below w.heap.size w wz := by first | exact Below.trans (by (repeat (first | with_reducible exact Below.refl _ _ | with_reducible assumption | with_reducible refine Below.al ?_ _ | with_reducible refine Below.sc ?_ (by first | exact Nat.le_refl _ | (simp; done) | (simp; omega)) _ | assumption | exact Below.refl _ _ | refine Below.dr ?_ | refine Below.drN ?_ _ | refine Below.step ?_ (by assumption)))) hbz | ((repeat (first | with_reducible exact Below.refl _ _ | with_reducible assumption | with_reducible refine Below.al ?_ _ | with_reducible refine Below.sc ?_ (by first | exact Nat.le_refl _ | (simp; done) | (simp; omega)) _ | assumption | exact Below.refl _ _ | refine Below.dr ?_ | refine Below.drN ?_ _ | refine Below.step ?_ (by assumption))); done))
                have hwz2 : Below wz_old.heap.size wz_old wz := hb.trans (hbz.mono hb.size)
                cases hz : (x.cmp y == 0)
                · have hz' : (x.cmp y != 0) = true := by rw [bne, hz]; rfl
                  have hz2 : ¬ x.cmp y = 0 := by simpa using hz
                  go_wp2
                  go_ret
                  exact ⟨ret_int (by rw [HT2.out, HE.out, HD.out, if_pos hz2]), hwr.trans (hbz.mono hwr.size)⟩
                · have hz' : (x.cmp y != 0) = false := by rw [bne, hz]; rfl
                  have hz2 : x.cmp y = 0 := by simpa using hz
                  go_wp2
                  refine ⟨⟨k + 1, by omega, by go_num, by rw [HE.out, HD.out, if_neg (by simpa using hz2)], hwz2⟩, by simp [intOf]; omega⟩
              · obtain rfl : k = a.us.length := by omega
                go_wp2
                go_ret
                exact ⟨ret_int (by rw [HT2.out, HE.out, cmps_end (by omega)]), hwr⟩
      · have hne1 : (a.n.toList == b.n.toList) = false := by simpa using hne
        have hne2 : (a.n.toList != b.n.toList) = true := by rw [bne, hne1]; rfl
        have hl : a.n.data.toList ≠ b.n.data.toList := by rw [← ByteArray.toList_eq, ← ByteArray.toList_eq]; exact hne
        go_wp2_with (first | (go_at_call 257; refine (l2Text_any _ _ _).mono ?_; rintro e w' ⟨rfl, rfl⟩))
        go_ret
        exact ⟨ret_int (by rw [HCE2.out, if_pos (textCmp_ne hl)]), by (repeat (first | with_reducible exact Below.refl _ _ | with_reducible assumption | with_reducible refine Below.al ?_ _ | with_reducible refine Below.sc ?_ (by first | exact Nat.le_refl _ | (simp; done) | (simp; omega)) _ | assumption | exact Below.refl _ _ | refine Below.dr ?_ | refine Below.drN ?_ _ | refine Below.step ?_ (by assumption)))⟩
end Go.Proofs.YtcegllnljaapiaaGreatDoor
