/- Valid formulas, both sides: the whole. Conditions: sizes. -/
import Derived.Test.YtinfogmjijeliaaFormsH
namespace Go.Proofs.Ytinfogmjijeliaa
open Go.RowKit
theorem indexForm {B : Nat → Prop} (m : Nat) (us : List Fm) (HC : ∀ (t : Fm) (v0 v1 v2 v3 v4 : Value) (w : World), t ∈ us → FmAt B m w t [v0, v1, v2, v3, v4] → Calls Try.prog 88 #[.agg #[v0, v1, v2, v3, v4]] w fun e w' => e = .returned (.bool (Fm.notForm t)) ∧ Below w.heap.size w w')
    (va : Value) (w : World) (h : ListAt B w 5 (FmAt B m w) va us) :
    Calls Try.prog 117 #[va, .func (.func 88) #[] #[]] w (FirstAt (us.any Fm.notForm) w) := by
  obtain ⟨p, c, rfl, hlen⟩ := h.form
  unfold maxLen at hlen
  have H := Lib.hid h
  have HN1 := Lib.hid HC
  clear h HC
  go_enter Try.func117, Try.ntmps117
  go_wp2
  go_loopw [8] (fun i wr => ∃ k : Nat, k ≤ us.length ∧ i = .int .i64 k ∧ us.any Fm.notForm = (us.drop k).any Fm.notForm ∧ Below w.heap.size w wr) (fun i _ => us.length - (intOf i).toNat)
  case atStart => exact ⟨0, Nat.zero_le _, rfl, rfl, by (repeat (first | with_reducible exact Below.refl _ _ | with_reducible assumption | with_reducible refine Below.al ?_ _ | with_reducible refine Below.sc ?_ (by first | exact Nat.le_refl _ | (simp; done) | (simp; omega)) _ | assumption | exact Below.refl _ _ | refine Below.dr ?_ | refine Below.drN ?_ _ | refine Below.step ?_ (by assumption)))⟩
  case round =>
    obtain ⟨k, hk, rfl, he, hb⟩ := hrel
    have HE := Lib.hid he
    clear he
    by_cases hlt : k < us.length
    · obtain ⟨b, o, rfl, hB, x0, x1, x2, x3, x4, hx0, hx1, hx2, hx3, hx4, hx⟩ := (H.out.mono (SameOn.below hb) (fun _ h => h) (fun x cs _ hx => FmAt.below hb hx)).at5 hlt
      have hD := any_drop us Fm.notForm hlt
      have hM := List.getElem_mem hlt
      obtain ⟨a, ha⟩ : ∃ a, us[k] = a := ⟨_, rfl⟩
      rw [ha] at hx
      rw [ha] at hD
      rw [ha] at hM
      have HX := Lib.hid hx
      have HD := Lib.hid hD
      have HM := Lib.hid hM
      clear hx ha hD hM
      have zb := bsz (World.block_lt_of_cell? _ _ hx0)
      cases hN : Fm.notForm a
      all_goals
        have HN := Lib.hid hN
        go_wp2_with fail
        refine (HN1.out a x0 x1 x2 x3 x4 _ HM.out HX.out).mono ?_
        rintro e w1 ⟨rfl, hb1⟩
        have ⟨cw1, fw1⟩ := bcell hb1
        have qw1 := hb1.size
        (try simp at qw1)
        (try have zw1w := bsz (show w.heap.size < w1.heap.size by omega))
        rw [HN.out]
        go_wp2
      · refine ⟨⟨k + 1, by omega, by go_num, ?_, by (repeat (first | with_reducible exact Below.refl _ _ | with_reducible assumption | with_reducible refine Below.al ?_ _ | with_reducible refine Below.sc ?_ (by first | exact Nat.le_refl _ | (simp; done) | (simp; omega)) _ | assumption | exact Below.refl _ _ | refine Below.dr ?_ | refine Below.drN ?_ _ | refine Below.step ?_ (by assumption)))⟩, by simp [intOf]; omega⟩
        rw [HE.out, HD.out, HN.out]; rfl
      · go_ret
        exact ⟨k, rfl, by rw [HE.out, HD.out, HN.out]; simp, by (repeat (first | with_reducible exact Below.refl _ _ | with_reducible assumption | with_reducible refine Below.al ?_ _ | with_reducible refine Below.sc ?_ (by first | exact Nat.le_refl _ | (simp; done) | (simp; omega)) _ | assumption | exact Below.refl _ _ | refine Below.dr ?_ | refine Below.drN ?_ _ | refine Below.step ?_ (by assumption)))⟩
    · obtain rfl : k = us.length := by omega
      have he := HE.out
      rw [List.drop_length, List.any_nil] at he
      have HE2 := Lib.hid he
      clear he
      go_wp2
      go_ret
      exact ⟨-1, rfl, by rw [HE2.out]; rfl, by (repeat (first | with_reducible exact Below.refl _ _ | with_reducible assumption | with_reducible refine Below.al ?_ _ | with_reducible refine Below.sc ?_ (by first | exact Nat.le_refl _ | (simp; done) | (simp; omega)) _ | assumption | exact Below.refl _ _ | refine Below.dr ?_ | refine Below.drN ?_ _ | refine Below.step ?_ (by assumption)))⟩
theorem containsForm {B : Nat → Prop} (m : Nat) (us : List Fm) (HC : ∀ (t : Fm) (v0 v1 v2 v3 v4 : Value) (w : World), t ∈ us → FmAt B m w t [v0, v1, v2, v3, v4] → Calls Try.prog 88 #[.agg #[v0, v1, v2, v3, v4]] w fun e w' => e = .returned (.bool (Fm.notForm t)) ∧ Below w.heap.size w w')
    (va : Value) (w : World) (h : ListAt B w 5 (FmAt B m w) va us) :
    Calls Try.prog 87 #[va, .func (.func 88) #[] #[]] w fun e w' => e = .returned (.bool (us.any Fm.notForm)) ∧ Below w.heap.size w w' := by
  have H := Lib.hid h
  have IH := Lib.hid (indexForm m us HC)
  clear h HC
  go_enter Try.func87, Try.ntmps87
  go_wp2_with fail
  refine (IH.out va _ H.out).mono ?_
  rintro e w1 ⟨r, rfl, hr, hb1⟩
  have HR := Lib.hid hr
  clear hr
  go_wp2
  go_ret
  exact ⟨ret_bool HR.out, hb1⟩
set_option maxRecDepth 100000 in
set_option maxHeartbeats 1600000 in
theorem hasForm_any {B : Nat → Prop} : ∀ (m : Nat) (t : Fm) (v0 v1 v2 v3 v4 : Value) (w : World), FmAt B m w t [v0, v1, v2, v3, v4] → t.asz ≤ 100000000 →
      Calls Try.prog 58 #[.agg #[v0, v1, v2, v3, v4]] w fun e w' => e = .returned (.bool t.form) ∧ Below w.heap.size w w' := by
  intro m
  induction m with
  | zero => intro t v0 v1 v2 v3 v4 w h; exact h.elim
  | succ m ih =>
    rintro ⟨op, a, x, us⟩ v0 v1 v2 v3 v4 w ⟨vn, va, vp, hcs, hop, hs, ht, hl⟩ hz
    simp only [List.cons.injEq, and_true] at hcs
    obtain ⟨rfl, rfl, rfl, rfl, rfl⟩ := hcs
    rw [Fm.asz] at hz
    have hza : a.sz ≤ 100000000 := by omega
    have hzs : Fm.aszs us ≤ 100000000 := by omega
    have HR := hasForm_of m (fun us va w hu h => by
      have := containsForm (B := B) m us (fun t v0 v1 v2 v3 v4 w ht h => by
        obtain ⟨k, hk, e⟩ := List.getElem_of_mem ht
        have hbb : t.asz ≤ 100000000 := by have := Fm.asz_arg us hk; rw [e] at this; omega
        obtain ⟨p1, c1, q1, d1, rfl, rfl, rfl, rfl, rfl, -⟩ := h.form
        have HX := Lib.hid h
        have IH := Lib.hid ih
        clear h ih e
        go_enter Try.func88, Try.ntmps88
        go_wp2_with fail
        refine (IH.out t _ _ _ _ _ _ (HX.out.below (by (repeat (first | with_reducible exact Below.refl _ _ | with_reducible assumption | with_reducible refine Below.al ?_ _ | with_reducible refine Below.sc ?_ (by first | exact Nat.le_refl _ | (simp; done) | (simp; omega)) _ | assumption | exact Below.refl _ _ | refine Below.dr ?_ | refine Below.drN ?_ _ | refine Below.step ?_ (by assumption))))) hbb).mono ?_
        rintro e w1 ⟨rfl, hb1⟩
        have ⟨cw1, fw1⟩ := bcell hb1
        have qw1 := hb1.size
        (try simp at qw1)
        (try have zw1w := bsz (show w.heap.size < w1.heap.size by omega))
        go_wp2
        go_ret
        exact ⟨rfl, by (repeat (first | with_reducible exact Below.refl _ _ | with_reducible assumption | with_reducible refine Below.al ?_ _ | with_reducible refine Below.sc ?_ (by first | exact Nat.le_refl _ | (simp; done) | (simp; omega)) _ | assumption | exact Below.refl _ _ | refine Below.dr ?_ | refine Below.drN ?_ _ | refine Below.step ?_ (by assumption)))⟩) va w h
      rw [forms_any] at this
      exact this) op a x us v1 v2 v4 w ht hl hs hza hzs
    rw [Fm.form]
    exact HR
theorem isValidFormula_any {B : Nat → Prop} (m : Nat) (t : Fm) (v0 v1 v2 v3 v4 : Value) (w : World) (h : FmAt B m w t [v0, v1, v2, v3, v4]) (hz : t.sz ≤ 100000000) (hz2 : t.asz ≤ 100000000) :
      Calls Try.prog 30 #[.agg #[v0, v1, v2, v3, v4]] w fun e w' => e = .returned (.bool t.good) ∧ Below w.heap.size w w' := by
  obtain ⟨p, c, q, d, rfl, rfl, rfl, rfl, rfl, -⟩ := h.form
  have H := Lib.hid h
  have HT := Lib.hid (show t.good = (decide ((t.szI : Int) ≤ 40) && t.form) by rw [Fm.good, ← Fm.szI_iff]; congr 1; rw [decide_eq_decide]; omega)
  clear h
  go_enter Try.func30, Try.ntmps30
  go_wp2_with fail
  refine (sizeOf_any m t _ _ _ _ _ _ (H.out.below (by (repeat (first | with_reducible exact Below.refl _ _ | with_reducible assumption | with_reducible refine Below.al ?_ _ | with_reducible refine Below.sc ?_ (by first | exact Nat.le_refl _ | (simp; done) | (simp; omega)) _ | assumption | exact Below.refl _ _ | refine Below.dr ?_ | refine Below.drN ?_ _ | refine Below.step ?_ (by assumption))))) hz).mono ?_
  rintro e w1 ⟨rfl, hb1⟩
  have ⟨cw1, fw1⟩ := bcell hb1
  have qw1 := hb1.size
  (try simp at qw1)
  (try have zw1w := bsz (show w.heap.size < w1.heap.size by omega))
  go_wp2_with (first | (go_at_call 58; refine (hasForm_any m t _ _ _ _ _ _ (H.out.below (by (repeat (first | with_reducible exact Below.refl _ _ | with_reducible assumption | with_reducible refine Below.al ?_ _ | with_reducible refine Below.sc ?_ (by first | exact Nat.le_refl _ | (simp; done) | (simp; omega)) _ | assumption | exact Below.refl _ _ | refine Below.dr ?_ | refine Below.drN ?_ _ | refine Below.step ?_ (by assumption))))) hz2).mono ?_; rintro e w2 ⟨rfl, hb2⟩; have ⟨cw2, fw2⟩ := bcell hb2; have qw2 := hb2.size; (try simp at qw2); (try have zw2w := bsz (show w.heap.size < w2.heap.size by omega)); (try have zw2w1 := bsz (show w1.heap.size < w2.heap.size by omega))))
  all_goals
    go_ret
    exact ⟨ret_bool (by rw [HT.out]; simp_all <;> (intros; omega)), by (repeat (first | with_reducible exact Below.refl _ _ | with_reducible assumption | with_reducible refine Below.al ?_ _ | with_reducible refine Below.sc ?_ (by first | exact Nat.le_refl _ | (simp; done) | (simp; omega)) _ | assumption | exact Below.refl _ _ | refine Below.dr ?_ | refine Below.drN ?_ _ | refine Below.step ?_ (by assumption)))⟩
set_option maxRecDepth 100000 in
set_option maxHeartbeats 1600000 in
theorem l8Many_any {B : Nat → Prop} : ∀ (m : Nat) (t : Fm) (v0 v1 v2 v3 v4 : Value) (M : Nat) (z : Int) (w : World), FmAt B m w t [v0, v1, v2, v3, v4] → t.sz ≤ 100000000 → z = (M : Int) → M ≤ 1000 →
      Calls Try.prog 53 #[.agg #[v0, v1, v2, v3, v4], .int .i64 z] w fun e w' => e = .returned (.int .i64 (t.many M : Nat)) ∧ Below w.heap.size w w' := by
  intro m
  induction m with
  | zero => intro t v0 v1 v2 v3 v4 M z w h; exact h.elim
  | succ m ih =>
    rintro ⟨op, t0, s, us⟩ v0 v1 v2 v3 v4 M z w ⟨vn, va, vp, hcs, hop, hs, ht, hl⟩ hz rfl hM
    simp only [List.cons.injEq, and_true] at hcs
    obtain ⟨rfl, rfl, rfl, rfl, rfl⟩ := hcs
    rw [Fm.sz] at hz
    obtain ⟨p, c, rfl, hlen⟩ := hl.form
    obtain ⟨p1, c1, rfl, rfl, -, -⟩ := ht.form
    unfold maxLen at hlen
    have IH := Lib.hid ih
    have HL := Lib.hid hl
    have HSZ := Lib.hid (show (Fm.mk op t0 s us).many M = Fm.manys 1 us M from rfl)
    clear ih hl
    go_enter Try.func53, Try.ntmps53
    go_wp2
    obtain ⟨W, hW⟩ : ∃ W : World, W = w.alloc (.cells #[.int .i64 op, .string t0.n, .slice p1 t0.us.length c1, .string s, .slice p us.length c] 36) := ⟨_, rfl⟩
    have hwb : W.cell? ⟨w.heap.size, 4, none⟩ = some (.slice p us.length c) := by rw [hW]; go_simp
    have hbW : Below w.heap.size w W := by rw [hW]; (repeat (first | with_reducible exact Below.refl _ _ | with_reducible assumption | with_reducible refine Below.al ?_ _ | with_reducible refine Below.sc ?_ (by first | exact Nat.le_refl _ | (simp; done) | (simp; omega)) _ | assumption | exact Below.refl _ _ | refine Below.dr ?_ | refine Below.drN ?_ _ | refine Below.step ?_ (by assumption)))
    rw [← hW]
    clear hW
    go_loopw [5, 6] (fun n i wr => ∃ k acc : Nat, k ≤ us.length ∧ i = .int .i64 k ∧ n = .int .i64 acc ∧ Fm.manys acc (us.drop k) M = Fm.manys 1 us M ∧ acc + Fm.szs (us.drop k) ≤ 1 + Fm.szs us ∧ Below W.heap.size W wr) (fun _ i _ => us.length - (intOf i).toNat)
    case atStart => exact ⟨0, 1, Nat.zero_le _, rfl, rfl, rfl, Nat.le_refl _, Below.refl _ _⟩
    case round =>
      obtain ⟨k, acc, hk, rfl, rfl, he, hle, hbr⟩ := hrel
      have HE := Lib.hid he
      clear he
      have hb := Below.step hbW hbr
      have hwr := (hbr.cell (World.block_lt_of_cell? W _ hwb)).trans hwb
      by_cases hlt : k < us.length
      · obtain ⟨b, o, rfl, hB, x0, x1, x2, x3, x4, hx0, hx1, hx2, hx3, hx4, hx⟩ := (HL.out.mono (SameOn.below hb) (fun _ h => h) (fun x cs _ hx => FmAt.below hb hx)).at5 hlt
        have hD := Fm.manys_drop us hlt acc M
        have hZ := Fm.szs_drop us hlt
        obtain ⟨a, ha⟩ : ∃ a, us[k] = a := ⟨_, rfl⟩
        rw [ha] at hx
        rw [ha] at hD
        rw [ha] at hZ
        have HX := Lib.hid hx
        have HD := Lib.hid hD
        have HZ := Lib.hid hZ
        clear hx ha hD hZ
        have zb := bsz (World.block_lt_of_cell? _ _ hx0)
        obtain ⟨pa, ca, qa, da, rfl, rfl, rfl, rfl, rfl, -⟩ := HX.out.form
        have hlaw := a.many_law (M - acc)
        have hzz := HZ.out
        rw [hzz] at hle
        clear hzz
        by_cases hac : acc ≤ M
        · have hac1 : (acc : Int) ≤ (M : Int) := by omega
          go_wp2_with fail
          refine (IH.out a _ _ _ _ _ (M - acc) _ _ HX.out (by omega) (by omega) (by omega)).mono ?_
          rintro e w1 ⟨rfl, hb1⟩
          have ⟨cw1, fw1⟩ := bcell hb1
          have qw1 := hb1.size
          (try simp at qw1)
          (try have zw1w := bsz (show w.heap.size < w1.heap.size by omega))
          have hbb := Below.step hbr hb1
          go_wp2
          refine ⟨⟨k + 1, acc + a.many (M - acc), by omega, by go_num, by go_num, ?_, by omega, hbb⟩, by simp [intOf]; omega⟩
          rw [← HE.out, HD.out, if_pos hac]
        · have hac1 : ¬ (acc : Int) ≤ (M : Int) := by omega
          go_wp2
          go_ret
          exact ⟨ret_int (by rw [HSZ.out, ← HE.out, HD.out, if_neg hac]), hb⟩
      · obtain rfl : k = us.length := by omega
        have he := HE.out
        rw [List.drop_length, Fm.manys] at he
        have HE2 := Lib.hid he
        clear he
        go_wp2
        go_ret
        exact ⟨ret_int (by rw [HSZ.out, ← HE2.out]), hb⟩
set_option maxRecDepth 100000 in
set_option maxHeartbeats 1600000 in
theorem l8Forms_any {B : Nat → Prop} : ∀ (m : Nat) (t : Fm) (v0 v1 v2 v3 v4 : Value) (w : World), FmAt B m w t [v0, v1, v2, v3, v4] → t.asz ≤ 100000000 →
      Calls Try.prog 54 #[.agg #[v0, v1, v2, v3, v4]] w fun e w' => e = .returned (.bool t.form) ∧ Below w.heap.size w w' := by
  intro m
  induction m with
  | zero => intro t v0 v1 v2 v3 v4 w h; exact h.elim
  | succ m ih =>
    rintro ⟨op, t0, s, us⟩ v0 v1 v2 v3 v4 w hh hz
    have HH := Lib.hid hh
    obtain ⟨vn, va, vp, hcs, hop, hs, ht, hl⟩ := hh
    simp only [List.cons.injEq, and_true] at hcs
    obtain ⟨rfl, rfl, rfl, rfl, rfl⟩ := hcs
    rw [Fm.asz] at hz
    have hza : t0.sz ≤ 100000000 := by omega
    have hzs : Fm.aszs us ≤ 100000000 := by omega
    obtain ⟨p, c, rfl, hlen⟩ := hl.form
    obtain ⟨p1, c1, rfl, rfl, -, -⟩ := ht.form
    unfold maxLen at hlen
    have IH := Lib.hid ih
    have HL := Lib.hid hl
    have HSZ := Lib.hid (show (Fm.mk op t0 s us).form = ((Fm.mk op t0 s us).form1 && Fm.forms us) from rfl)
    clear ih hl
    cases hf1 : (Fm.mk op t0 s us).form1
    all_goals
      have HF1 := Lib.hid hf1
      go_enter Try.func54, Try.ntmps54
      go_wp2_with fail
      refine (l8Form_any (m + 1) _ _ _ _ _ _ _ (HH.out.below (by (repeat (first | with_reducible exact Below.refl _ _ | with_reducible assumption | with_reducible refine Below.al ?_ _ | with_reducible refine Below.sc ?_ (by first | exact Nat.le_refl _ | (simp; done) | (simp; omega)) _ | assumption | exact Below.refl _ _ | refine Below.dr ?_ | refine Below.drN ?_ _ | refine Below.step ?_ (by assumption))))) hza).mono ?_
      rintro e w1 ⟨rfl, hb1⟩
      have ⟨cw1, fw1⟩ := bcell hb1
      have qw1 := hb1.size
      (try simp at qw1)
      (try have zw1w := bsz (show w.heap.size < w1.heap.size by omega))
      rw [HF1.out]
      go_wp2
    · go_ret
      exact ⟨ret_bool (by rw [HSZ.out, HF1.out]; rfl), by (repeat (first | with_reducible exact Below.refl _ _ | with_reducible assumption | with_reducible refine Below.al ?_ _ | with_reducible refine Below.sc ?_ (by first | exact Nat.le_refl _ | (simp; done) | (simp; omega)) _ | assumption | exact Below.refl _ _ | refine Below.dr ?_ | refine Below.drN ?_ _ | refine Below.step ?_ (by assumption)))⟩
    obtain ⟨W, hW⟩ : ∃ W, W = w1 := ⟨_, rfl⟩
    have hwb : W.cell? ⟨w.heap.size, 4, none⟩ = some (.slice p us.length c) := by rw [hW]; go_simp
    have hbW : Below w.heap.size w W := by rw [hW]; (repeat (first | with_reducible exact Below.refl _ _ | with_reducible assumption | with_reducible refine Below.al ?_ _ | with_reducible refine Below.sc ?_ (by first | exact Nat.le_refl _ | (simp; done) | (simp; omega)) _ | assumption | exact Below.refl _ _ | refine Below.dr ?_ | refine Below.drN ?_ _ | refine Below.step ?_ (by assumption)))
    rw [← hW]
    clear hW
    go_loopw [3] (fun i wr => ∃ k : Nat, k ≤ us.length ∧ i = .int .i64 k ∧ Fm.forms us = Fm.forms (us.drop k) ∧ Below W.heap.size W wr) (fun i _ => us.length - (intOf i).toNat)
    case atStart => exact ⟨0, Nat.zero_le _, rfl, rfl, Below.refl _ _⟩
    case round =>
      obtain ⟨k, hk, rfl, he, hbr⟩ := hrel
      have HE := Lib.hid he
      clear he
      have hb := Below.step hbW hbr
      have hwr := (hbr.cell (World.block_lt_of_cell? W _ hwb)).trans hwb
      by_cases hlt : k < us.length
      · obtain ⟨b, o, rfl, hB, x0, x1, x2, x3, x4, hx0, hx1, hx2, hx3, hx4, hx⟩ := (HL.out.mono (SameOn.below hb) (fun _ h => h) (fun x cs _ hx => FmAt.below hb hx)).at5 hlt
        have hD := Fm.forms_drop us hlt
        have hZ := Fm.asz_arg us hlt
        obtain ⟨a, ha⟩ : ∃ a, us[k] = a := ⟨_, rfl⟩
        rw [ha] at hx
        rw [ha] at hD
        rw [ha] at hZ
        have HX := Lib.hid hx
        have HD := Lib.hid hD
        have HZ := Lib.hid hZ
        clear hx ha hD hZ
        have zb := bsz (World.block_lt_of_cell? _ _ hx0)
        obtain ⟨pa, ca, qa, da, rfl, rfl, rfl, rfl, rfl, -⟩ := HX.out.form
        have hzz : a.asz ≤ 100000000 := Nat.le_trans HZ.out hzs
        go_wp2_with fail
        refine (IH.out a _ _ _ _ _ _ HX.out hzz).mono ?_
        rintro e w1 ⟨rfl, hb1⟩
        have ⟨cw1, fw1⟩ := bcell hb1
        have qw1 := hb1.size
        (try simp at qw1)
        (try have zw1w := bsz (show w.heap.size < w1.heap.size by omega))
        have hbb := Below.step hbr hb1
        cases hfa : a.form
        all_goals
          have HFA := Lib.hid hfa
          go_wp2
        · go_ret
          exact ⟨ret_bool (by rw [HSZ.out, HE.out, HD.out, HFA.out]; simp), Below.step hbW hbb⟩
        · refine ⟨⟨k + 1, by omega, by go_num, ?_, hbb⟩, by simp [intOf]; omega⟩
          rw [HE.out, HD.out, HFA.out]; rfl
      · obtain rfl : k = us.length := by omega
        have he := HE.out
        rw [List.drop_length, Fm.forms] at he
        have HE2 := Lib.hid he
        clear he
        go_wp2
        go_ret
        exact ⟨ret_bool (by rw [HSZ.out, HF1.out, HE2.out]; rfl), hb⟩
theorem l8Good_any {B : Nat → Prop} (m : Nat) (t : Fm) (v0 v1 v2 v3 v4 : Value) (w : World) (h : FmAt B m w t [v0, v1, v2, v3, v4]) (hz : t.sz ≤ 100000000) (hz2 : t.asz ≤ 100000000) :
      Calls Try.prog 26 #[.agg #[v0, v1, v2, v3, v4]] w fun e w' => e = .returned (.bool t.good) ∧ Below w.heap.size w w' := by
  obtain ⟨p, c, q, d, rfl, rfl, rfl, rfl, rfl, -⟩ := h.form
  have H := Lib.hid h
  have HT := Lib.hid (show t.good = (decide ((t.many 40 : Int) ≤ 40) && t.form) by rw [Fm.good, ← Fm.many_iff]; congr 1; rw [decide_eq_decide]; omega)
  clear h
  go_enter Try.func26, Try.ntmps26
  go_wp2_with fail
  refine (l8Many_any m t _ _ _ _ _ 40 _ _ (H.out.below (by (repeat (first | with_reducible exact Below.refl _ _ | with_reducible assumption | with_reducible refine Below.al ?_ _ | with_reducible refine Below.sc ?_ (by first | exact Nat.le_refl _ | (simp; done) | (simp; omega)) _ | assumption | exact Below.refl _ _ | refine Below.dr ?_ | refine Below.drN ?_ _ | refine Below.step ?_ (by assumption))))) hz (by rfl) (by decide)).mono ?_
  rintro e w1 ⟨rfl, hb1⟩
  have ⟨cw1, fw1⟩ := bcell hb1
  have qw1 := hb1.size
  (try simp at qw1)
  (try have zw1w := bsz (show w.heap.size < w1.heap.size by omega))
  go_wp2_with (first | (go_at_call 54; refine (l8Forms_any m t _ _ _ _ _ _ (H.out.below (by (repeat (first | with_reducible exact Below.refl _ _ | with_reducible assumption | with_reducible refine Below.al ?_ _ | with_reducible refine Below.sc ?_ (by first | exact Nat.le_refl _ | (simp; done) | (simp; omega)) _ | assumption | exact Below.refl _ _ | refine Below.dr ?_ | refine Below.drN ?_ _ | refine Below.step ?_ (by assumption))))) hz2).mono ?_; rintro e w2 ⟨rfl, hb2⟩; have ⟨cw2, fw2⟩ := bcell hb2; have qw2 := hb2.size; (try simp at qw2); (try have zw2w := bsz (show w.heap.size < w2.heap.size by omega)); (try have zw2w1 := bsz (show w1.heap.size < w2.heap.size by omega))))
  all_goals
    go_ret
    exact ⟨ret_bool (by rw [HT.out]; simp_all <;> (intros; omega)), by (repeat (first | with_reducible exact Below.refl _ _ | with_reducible assumption | with_reducible refine Below.al ?_ _ | with_reducible refine Below.sc ?_ (by first | exact Nat.le_refl _ | (simp; done) | (simp; omega)) _ | assumption | exact Below.refl _ _ | refine Below.dr ?_ | refine Below.drN ?_ _ | refine Below.step ?_ (by assumption)))⟩
end Go.Proofs.Ytinfogmjijeliaa
