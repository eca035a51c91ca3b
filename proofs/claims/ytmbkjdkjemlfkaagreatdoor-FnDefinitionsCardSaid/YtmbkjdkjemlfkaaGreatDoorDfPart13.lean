import Derived.Lib.Join
import Derived.Deep.LoopGhost
import Derived.Test.YtmbkjdkjemlfkaaGreatDoorDfPart12
namespace Go.Proofs.YtmbkjdkjemlfkaaGreatDoor
set_option maxRecDepth 100000
open Go.RowKit
theorem indexForm {B : Nat → Prop} (m : Nat) (us : List Fm) (HC : ∀ (t : Fm) (v0 v1 v2 v3 v4 : Value) (w : World), t ∈ us → FmAt B m w t [v0, v1, v2, v3, v4] → Calls Tryz.prog 64 #[.agg #[v0, v1, v2, v3, v4]] w fun e w' => e = .returned (.bool (Fm.notForm t)) ∧ Below w.heap.size w w')
    (va : Value) (w : World) (h : ListAt B w 5 (FmAt B m w) va us) :
    Calls Tryz.prog 66 #[va, .func (.func 64) #[] #[]] w (FirstAt (us.any Fm.notForm) w) := by
  obtain ⟨p, c, rfl, hlen⟩ := h.form
  unfold maxLen at hlen
  have H := Lib.hid h
  have HN1 := Lib.hid HC
  clear h HC
  go_enter Tryz.func66, Tryz.ntmps66
  go_wp2
  go_loopw [8] (fun i wr => ∃ k : Nat, k ≤ us.length ∧ i = .int .i64 k ∧ us.any Fm.notForm = (us.drop k).any Fm.notForm ∧ Below w.heap.size w wr) (fun i _ => us.length - (intOf i).toNat)
  case atStart => exact ⟨0, Nat.zero_le _, rfl, rfl, by exact bel⟩
  case round =>
    obtain ⟨k, hk, rfl, he, hb⟩ := hrel
    have HE := Lib.hid he
    clear he
    by_cases hlt : k < us.length
    · obtain ⟨b, o, rfl, hB, x0, x1, x2, x3, x4, hx0, hx1, hx2, hx3, hx4, hx⟩ := (H.out.mono (SameOn.below hb) (fun _ h => h) (fun x cs _ hx => FmAt.below hb hx)).at5 hlt
      have hD := any_drop us Fm.notForm hlt
      have hM := List.getElem_mem hlt
      obtain ⟨a, ha⟩ : ∃ a, us[k] = a := ⟨_, rfl⟩
      rw [ha] at hx
      rw [ha] at hD
      rw [ha] at hM
      have HX := Lib.hid hx
      have HD := Lib.hid hD
      have HM := Lib.hid hM
      clear hx ha hD hM
      have zb := bsz (World.block_lt_of_cell? _ _ hx0)
      cases hN : Fm.notForm a
      all_goals
        have HN := Lib.hid hN
        go_wp2_with fail
        refine (HN1.out a x0 x1 x2 x3 x4 _ HM.out HX.out).mono ?_
        rintro e w1 ⟨rfl, hb1⟩
        have ⟨cw1, fw1⟩ := bcell hb1
        have qw1 := hb1.size
        (try simp at qw1)
        (try have zw1w := bsz (show w.heap.size < w1.heap.size by omega))
        rw [HN.out]
        go_wp2
      · refine ⟨⟨k + 1, by omega, by go_num, ?_, by exact bel⟩, by simp [intOf]; omega⟩
        rw [HE.out, HD.out, HN.out]; rfl
      · go_ret
        exact ⟨k, rfl, by rw [HE.out, HD.out, HN.out]; simp, by exact bel⟩
    · obtain rfl : k = us.length := by omega
      have he := HE.out
      rw [List.drop_length, List.any_nil] at he
      have HE2 := Lib.hid he
      clear he
      go_wp2
      go_ret
      exact ⟨-1, rfl, by rw [HE2.out]; rfl, by exact bel⟩
theorem containsForm {B : Nat → Prop} (m : Nat) (us : List Fm) (HC : ∀ (t : Fm) (v0 v1 v2 v3 v4 : Value) (w : World), t ∈ us → FmAt B m w t [v0, v1, v2, v3, v4] → Calls Tryz.prog 64 #[.agg #[v0, v1, v2, v3, v4]] w fun e w' => e = .returned (.bool (Fm.notForm t)) ∧ Below w.heap.size w w')
    (va : Value) (w : World) (h : ListAt B w 5 (FmAt B m w) va us) :
    Calls Tryz.prog 34 #[va, .func (.func 64) #[] #[]] w fun e w' => e = .returned (.bool (us.any Fm.notForm)) ∧ Below w.heap.size w w' := by
  have H := Lib.hid h
  have IH := Lib.hid (indexForm m us HC)
  clear h HC
  go_enter Tryz.func34, Tryz.ntmps34
  go_wp2_with fail
  refine (IH.out va _ H.out).mono ?_
  rintro e w1 ⟨r, rfl, hr, hb1⟩
  have HR := Lib.hid hr
  clear hr
  go_wp2
  go_ret
  exact ⟨ret_bool HR.out, hb1⟩
set_option maxHeartbeats 1600000 in
theorem hasForm_any {B : Nat → Prop} : ∀ (m : Nat) (t : Fm) (v0 v1 v2 v3 v4 : Value) (w : World), FmAt B m w t [v0, v1, v2, v3, v4] → t.asz ≤ 100000000 →
      Calls Tryz.prog 32 #[.agg #[v0, v1, v2, v3, v4]] w fun e w' => e = .returned (.bool t.form) ∧ Below w.heap.size w w' := by
  intro m
  induction m with
  | zero => intro t v0 v1 v2 v3 v4 w h; exact h.elim
  | succ m ih =>
    rintro ⟨op, a, x, us⟩ v0 v1 v2 v3 v4 w ⟨vn, va, vp, hcs, hop, hs, ht, hl⟩ hz
    simp only [List.cons.injEq, and_true] at hcs
    obtain ⟨rfl, rfl, rfl, rfl, rfl⟩ := hcs
    rw [Fm.asz] at hz
    have hza : a.sz ≤ 100000000 := by omega
    have hzs : Fm.aszs us ≤ 100000000 := by omega
    have HR := hasForm_of m (fun us va w hu h => by
      have := containsForm (B := B) m us (fun t v0 v1 v2 v3 v4 w ht h => by
        obtain ⟨k, hk, e⟩ := List.getElem_of_mem ht
        have hbb : t.asz ≤ 100000000 := by have := Fm.asz_arg us hk; rw [e] at this; omega
        obtain ⟨p1, c1, q1, d1, rfl, rfl, rfl, rfl, rfl, -⟩ := h.form
        have HX := Lib.hid h
        have IH := Lib.hid ih
        clear h ih e
        go_enter Tryz.func64, Tryz.ntmps64
        go_wp2_with fail
        refine (IH.out t _ _ _ _ _ _ (HX.out.below (by exact bel)) hbb).mono ?_
        rintro e w1 ⟨rfl, hb1⟩
        have ⟨cw1, fw1⟩ := bcell hb1
        have qw1 := hb1.size
        (try simp at qw1)
        (try have zw1w := bsz (show w.heap.size < w1.heap.size by omega))
        go_wp2
        go_ret
        exact ⟨rfl, by exact bel⟩) va w h
      rw [forms_any] at this
      exact this) op a x us v1 v2 v4 w ht hl hs hza hzs
    rw [Fm.form]
    exact HR
theorem isValidFormula_any {B : Nat → Prop} (m : Nat) (t : Fm) (v0 v1 v2 v3 v4 : Value) (w : World) (h : FmAt B m w t [v0, v1, v2, v3, v4]) (hz : t.sz ≤ 100000000) (hz2 : t.asz ≤ 100000000) :
      Calls Tryz.prog 11 #[.agg #[v0, v1, v2, v3, v4]] w fun e w' => e = .returned (.bool t.good) ∧ Below w.heap.size w w' := by
  obtain ⟨p, c, q, d, rfl, rfl, rfl, rfl, rfl, -⟩ := h.form
  have H := Lib.hid h
  have HT := Lib.hid (show t.good = (decide ((t.szI : Int) ≤ 40) && t.form) by rw [Fm.good, ← Fm.szI_iff]; congr 1; rw [decide_eq_decide]; omega)
  clear h
  go_enter Tryz.func11, Tryz.ntmps11
  go_wp2_with fail
  refine (sizeOf_any m t _ _ _ _ _ _ (H.out.below (by exact bel)) hz).mono ?_
  rintro e w1 ⟨rfl, hb1⟩
  have ⟨cw1, fw1⟩ := bcell hb1
  have qw1 := hb1.size
  (try simp at qw1)
  (try have zw1w := bsz (show w.heap.size < w1.heap.size by omega))
  go_wp2_with (first | (go_at_call 32; refine (hasForm_any m t _ _ _ _ _ _ (H.out.below (by (repeat (first | with_reducible (first | exact bR _ _ | assumption | refine bA ?_ _ | refine bS ?_ (by first | exact Nat.le_refl _ | (simp; done) | (simp; omega)) _) | assumption | exact bR _ _ | refine bD ?_ | refine bN ?_ _ | refine bT ?_ (by assumption))))) hz2).mono ?_; rintro e w2 ⟨rfl, hb2⟩; have ⟨cw2, fw2⟩ := bcell hb2; have qw2 := hb2.size; (try simp at qw2); (try have zw2w := bsz (show w.heap.size < w2.heap.size by omega)); (try have zw2w1 := bsz (show w1.heap.size < w2.heap.size by omega))))
  all_goals
    go_ret
    exact ⟨ret_bool (by rw [HT.out]; simp_all <;> (intros; omega)), by exact bel⟩
set_option maxHeartbeats 1600000 in
theorem l8Many_any {B : Nat → Prop} : ∀ (m : Nat) (t : Fm) (v0 v1 v2 v3 v4 : Value) (M : Nat) (z : Int) (w : World), FmAt B m w t [v0, v1, v2, v3, v4] → t.sz ≤ 100000000 → z = (M : Int) → M ≤ 1000 →
      Calls Tryz.prog 45 #[.agg #[v0, v1, v2, v3, v4], .int .i64 z] w fun e w' => e = .returned (.int .i64 (t.many M : Nat)) ∧ Below w.heap.size w w' := by
  intro m
  induction m with
  | zero => intro t v0 v1 v2 v3 v4 M z w h; exact h.elim
  | succ m ih =>
    rintro ⟨op, t0, s, us⟩ v0 v1 v2 v3 v4 M z w ⟨vn, va, vp, hcs, hop, hs, ht, hl⟩ hz rfl hM
    simp only [List.cons.injEq, and_true] at hcs
    obtain ⟨rfl, rfl, rfl, rfl, rfl⟩ := hcs
    rw [Fm.sz] at hz
    obtain ⟨p, c, rfl, hlen⟩ := hl.form
    obtain ⟨p1, c1, rfl, rfl, -, -⟩ := ht.form
    unfold maxLen at hlen
    have IH := Lib.hid ih
    have HL := Lib.hid hl
    have HSZ := Lib.hid (show (Fm.mk op t0 s us).many M = Fm.manys 1 us M from rfl)
    clear ih hl
    go_enter Tryz.func45, Tryz.ntmps45
    go_wp2
    obtain ⟨W, hW⟩ : ∃ W : World, W = w.alloc (.cells #[.int .i64 op, .string t0.n, .slice p1 t0.us.length c1, .string s, .slice p us.length c] 29) := ⟨_, rfl⟩
    have hwb : W.cell? ⟨w.heap.size, 4, none⟩ = some (.slice p us.length c) := by rw [hW]; go_simp
    have hbW : Below w.heap.size w W := by rw [hW]; exact bel
    rw [← hW]
    clear hW
    go_loopw [5, 6] (fun n i wr => ∃ k acc : Nat, k ≤ us.length ∧ i = .int .i64 k ∧ n = .int .i64 acc ∧ Fm.manys acc (us.drop k) M = Fm.manys 1 us M ∧ acc + Fm.szs (us.drop k) ≤ 1 + Fm.szs us ∧ Below W.heap.size W wr) (fun _ i _ => us.length - (intOf i).toNat)
    case atStart => exact ⟨0, 1, Nat.zero_le _, rfl, rfl, rfl, Nat.le_refl _, Below.refl _ _⟩
    case round =>
      obtain ⟨k, acc, hk, rfl, rfl, he, hle, hbr⟩ := hrel
      have HE := Lib.hid he
      clear he
      have hb := Below.step hbW hbr
      have hwr := (hbr.cell (World.block_lt_of_cell? W _ hwb)).trans hwb
      by_cases hlt : k < us.length
      · obtain ⟨b, o, rfl, hB, x0, x1, x2, x3, x4, hx0, hx1, hx2, hx3, hx4, hx⟩ := (HL.out.mono (SameOn.below hb) (fun _ h => h) (fun x cs _ hx => FmAt.below hb hx)).at5 hlt
        have hD := Fm.manys_drop us hlt acc M
        have hZ := Fm.szs_drop us hlt
        obtain ⟨a, ha⟩ : ∃ a, us[k] = a := ⟨_, rfl⟩
        rw [ha] at hx
        rw [ha] at hD
        rw [ha] at hZ
        have HX := Lib.hid hx
        have HD := Lib.hid hD
        have HZ := Lib.hid hZ
        clear hx ha hD hZ
        have zb := bsz (World.block_lt_of_cell? _ _ hx0)
        obtain ⟨pa, ca, qa, da, rfl, rfl, rfl, rfl, rfl, -⟩ := HX.out.form
        have hlaw := a.many_law (M - acc)
        have hzz := HZ.out
        rw [hzz] at hle
        clear hzz
        by_cases hac : acc ≤ M
        · have hac1 : (acc : Int) ≤ (M : Int) := by omega
          go_wp2_with fail
          refine (IH.out a _ _ _ _ _ (M - acc) _ _ HX.out (by omega) (by omega) (by omega)).mono ?_
          rintro e w1 ⟨rfl, hb1⟩
          have ⟨cw1, fw1⟩ := bcell hb1
          have qw1 := hb1.size
          (try simp at qw1)
          (try have zw1w := bsz (show w.heap.size < w1.heap.size by omega))
          have hbb := Below.step hbr hb1
          go_wp2
          refine ⟨⟨k + 1, acc + a.many (M - acc), by omega, by go_num, by go_num, ?_, by omega, hbb⟩, by simp [intOf]; omega⟩
          rw [← HE.out, HD.out, if_pos hac]
        · have hac1 : ¬ (acc : Int) ≤ (M : Int) := by omega
          go_wp2
          go_ret
          exact ⟨ret_int (by rw [HSZ.out, ← HE.out, HD.out, if_neg hac]), hb⟩
      · obtain rfl : k = us.length := by omega
        have he := HE.out
        rw [List.drop_length, Fm.manys] at he
        have HE2 := Lib.hid he
        clear he
        go_wp2
        go_ret
        exact ⟨ret_int (by rw [HSZ.out, ← HE2.out]), hb⟩
set_option maxHeartbeats 1600000 in
theorem l8Forms_any {B : Nat → Prop} : ∀ (m : Nat) (t : Fm) (v0 v1 v2 v3 v4 : Value) (w : World), FmAt B m w t [v0, v1, v2, v3, v4] → t.asz ≤ 100000000 →
      Calls Tryz.prog 46 #[.agg #[v0, v1, v2, v3, v4]] w fun e w' => e = .returned (.bool t.form) ∧ Below w.heap.size w w' := by
  intro m
  induction m with
  | zero => intro t v0 v1 v2 v3 v4 w h; exact h.elim
  | succ m ih =>
    rintro ⟨op, t0, s, us⟩ v0 v1 v2 v3 v4 w hh hz
    have HH := Lib.hid hh
    obtain ⟨vn, va, vp, hcs, hop, hs, ht, hl⟩ := hh
    simp only [List.cons.injEq, and_true] at hcs
    obtain ⟨rfl, rfl, rfl, rfl, rfl⟩ := hcs
    rw [Fm.asz] at hz
    have hza : t0.sz ≤ 100000000 := by omega
    have hzs : Fm.aszs us ≤ 100000000 := by omega
    obtain ⟨p, c, rfl, hlen⟩ := hl.form
    obtain ⟨p1, c1, rfl, rfl, -, -⟩ := ht.form
    unfold maxLen at hlen
    have IH := Lib.hid ih
    have HL := Lib.hid hl
    have HSZ := Lib.hid (show (Fm.mk op t0 s us).form = ((Fm.mk op t0 s us).form1 && Fm.forms us) from rfl)
    clear ih hl
    cases hf1 : (Fm.mk op t0 s us).form1
    all_goals
      have HF1 := Lib.hid hf1
      go_enter Tryz.func46, Tryz.ntmps46
      go_wp2_with fail
      refine (l8Form_any (m + 1) _ _ _ _ _ _ _ (HH.out.below (by exact bel)) hza).mono ?_
      rintro e w1 ⟨rfl, hb1⟩
      have ⟨cw1, fw1⟩ := bcell hb1
      have qw1 := hb1.size
      (try simp at qw1)
      (try have zw1w := bsz (show w.heap.size < w1.heap.size by omega))
      rw [HF1.out]
      go_wp2
    · go_ret
      exact ⟨ret_bool (by rw [HSZ.out, HF1.out]; rfl), by exact bel⟩
    obtain ⟨W, hW⟩ : ∃ W, W = w1 := ⟨_, rfl⟩
    have hwb : W.cell? ⟨w.heap.size, 4, none⟩ = some (.slice p us.length c) := by rw [hW]; go_simp
    have hbW : Below w.heap.size w W := by rw [hW]; exact bel
    rw [← hW]
    clear hW
    go_loopw [3] (fun i wr => ∃ k : Nat, k ≤ us.length ∧ i = .int .i64 k ∧ Fm.forms us = Fm.forms (us.drop k) ∧ Below W.heap.size W wr) (fun i _ => us.length - (intOf i).toNat)
    case atStart => exact ⟨0, Nat.zero_le _, rfl, rfl, Below.refl _ _⟩
    case round =>
      obtain ⟨k, hk, rfl, he, hbr⟩ := hrel
      have HE := Lib.hid he
      clear he
      have hb := Below.step hbW hbr
      have hwr := (hbr.cell (World.block_lt_of_cell? W _ hwb)).trans hwb
      by_cases hlt : k < us.length
      · obtain ⟨b, o, rfl, hB, x0, x1, x2, x3, x4, hx0, hx1, hx2, hx3, hx4, hx⟩ := (HL.out.mono (SameOn.below hb) (fun _ h => h) (fun x cs _ hx => FmAt.below hb hx)).at5 hlt
        have hD := Fm.forms_drop us hlt
        have hZ := Fm.asz_arg us hlt
        obtain ⟨a, ha⟩ : ∃ a, us[k] = a := ⟨_, rfl⟩
        rw [ha] at hx
        rw [ha] at hD
        rw [ha] at hZ
        have HX := Lib.hid hx
        have HD := Lib.hid hD
        have HZ := Lib.hid hZ
        clear hx ha hD hZ
        have zb := bsz (World.block_lt_of_cell? _ _ hx0)
        obtain ⟨pa, ca, qa, da, rfl, rfl, rfl, rfl, rfl, -⟩ := HX.out.form
        have hzz : a.asz ≤ 100000000 := Nat.le_trans HZ.out hzs
        go_wp2_with fail
        refine (IH.out a _ _ _ _ _ _ HX.out hzz).mono ?_
        rintro e w1 ⟨rfl, hb1⟩
        have ⟨cw1, fw1⟩ := bcell hb1
        have qw1 := hb1.size
        (try simp at qw1)
        (try have zw1w := bsz (show w.heap.size < w1.heap.size by omega))
        have hbb := Below.step hbr hb1
        cases hfa : a.form
        all_goals
          have HFA := Lib.hid hfa
          go_wp2
        · go_ret
          exact ⟨ret_bool (by rw [HSZ.out, HE.out, HD.out, HFA.out]; simp), Below.step hbW hbb⟩
        · refine ⟨⟨k + 1, by omega, by go_num, ?_, hbb⟩, by simp [intOf]; omega⟩
          rw [HE.out, HD.out, HFA.out]; rfl
      · obtain rfl : k = us.length := by omega
        have he := HE.out
        rw [List.drop_length, Fm.forms] at he
        have HE2 := Lib.hid he
        clear he
        go_wp2
        go_ret
        exact ⟨ret_bool (by rw [HSZ.out, HF1.out, HE2.out]; rfl), hb⟩
theorem l8Good_any {B : Nat → Prop} (m : Nat) (t : Fm) (v0 v1 v2 v3 v4 : Value) (w : World) (h : FmAt B m w t [v0, v1, v2, v3, v4]) (hz : t.sz ≤ 100000000) (hz2 : t.asz ≤ 100000000) :
      Calls Tryz.prog 16 #[.agg #[v0, v1, v2, v3, v4]] w fun e w' => e = .returned (.bool t.good) ∧ Below w.heap.size w w' := by
  obtain ⟨p, c, q, d, rfl, rfl, rfl, rfl, rfl, -⟩ := h.form
  have H := Lib.hid h
  have HT := Lib.hid (show t.good = (decide ((t.many 40 : Int) ≤ 40) && t.form) by rw [Fm.good, ← Fm.many_iff]; congr 1; rw [decide_eq_decide]; omega)
  clear h
  go_enter Tryz.func16, Tryz.ntmps16
  go_wp2_with fail
  refine (l8Many_any m t _ _ _ _ _ 40 _ _ (H.out.below (by exact bel)) hz (by rfl) (by decide)).mono ?_
  rintro e w1 ⟨rfl, hb1⟩
  have ⟨cw1, fw1⟩ := bcell hb1
  have qw1 := hb1.size
  (try simp at qw1)
  (try have zw1w := bsz (show w.heap.size < w1.heap.size by omega))
  go_wp2_with (first | (go_at_call 46; refine (l8Forms_any m t _ _ _ _ _ _ (H.out.below (by (repeat (first | with_reducible (first | exact bR _ _ | assumption | refine bA ?_ _ | refine bS ?_ (by first | exact Nat.le_refl _ | (simp; done) | (simp; omega)) _) | assumption | exact bR _ _ | refine bD ?_ | refine bN ?_ _ | refine bT ?_ (by assumption))))) hz2).mono ?_; rintro e w2 ⟨rfl, hb2⟩; have ⟨cw2, fw2⟩ := bcell hb2; have qw2 := hb2.size; (try simp at qw2); (try have zw2w := bsz (show w.heap.size < w2.heap.size by omega)); (try have zw2w1 := bsz (show w1.heap.size < w2.heap.size by omega))))
  all_goals
    go_ret
    exact ⟨ret_bool (by rw [HT.out]; simp_all <;> (intros; omega)), by exact bel⟩
mutual
theorem Tm.sz_wt : ∀ t : Tm, t.sz ≤ t.wt + 1
  | .mk n us => by have := Tm.szs_wt us; rw [Tm.sz, Tm.wt]; omega
theorem Tm.szs_wt : ∀ us : List Tm, Tm.szs us ≤ us.length + Tm.wts us
  | [] => by simp [Tm.szs]
  | a :: us => by have := Tm.sz_wt a; have := Tm.szs_wt us; rw [Tm.szs, Tm.wts, List.length_cons]; omega
end
mutual
theorem Fm.sz_wt : ∀ t : Fm, t.sz ≤ t.wt + 1
  | .mk op a v us => by have := Fm.szs_wt us; rw [Fm.sz, Fm.wt]; omega
theorem Fm.szs_wt : ∀ us : List Fm, Fm.szs us ≤ us.length + Fm.wts us
  | [] => by simp [Fm.szs]
  | a :: us => by have := Fm.sz_wt a; have := Fm.szs_wt us; rw [Fm.szs, Fm.wts, List.length_cons]; omega
end
mutual
theorem Fm.asz_wt : ∀ t : Fm, t.asz ≤ t.wt + 1
  | .mk op a v us => by have := Fm.aszs_wt us; have := a.sz_wt; rw [Fm.asz, Fm.wt]; omega
theorem Fm.aszs_wt : ∀ us : List Fm, Fm.aszs us ≤ us.length + Fm.wts us
  | [] => by simp [Fm.aszs]
  | a :: us => by have := Fm.asz_wt a; have := Fm.aszs_wt us; rw [Fm.aszs, Fm.wts, List.length_cons]; omega
end
def FmCP (g m : Nat) (W : World) (x : Value) (w : World) : Prop := GF 8 253 (NewB W.drew w) w x ∧ Cur w g (m + 572) ∧ W.drew.grownBy w (some g)
theorem FmCP.gr {g m : Nat} {W w : World} {x : Value} (h : FmCP g m W x w) : W.grownBy w (some g) := ⟨h.2.2.os, h.2.2.tape, h.2.2.output, h.2.2.size, h.2.2.block⟩
theorem FmCP.agg {g m : Nat} {W w : World} {x : Value} (h : FmCP g m W x w) : ∃ v0 v1 v2 v3 v4, x = .agg #[v0, v1, v2, v3, v4] ∧ v0.oneCell' = true ∧ v1.oneCell' = true ∧ v2.oneCell' = true ∧ v3.oneCell' = true ∧ v4.oneCell' = true := by
  obtain ⟨o3, s3, x3, p3, k3, e3, q3, j3, d3, rfl, -⟩ := h.1.form
  exact ⟨_, _, _, _, _, rfl, rfl, rfl, rfl, rfl, rfl⟩
theorem elemFmQ : Elem Tryz.prog 27 29 5 88 := elem_of Tryz.underlying27 (z := .agg fmZ) (by kernel_rfl) rfl (by omega)
def PutOp (g m q : Nat) (W : World) : Nat → (Nat → Value) → World → Prop
  | 0, _, w => w = W.drew
  | 1, u, w => ∃ y : Int, u 3 = .int .i64 y ∧ 0 ≤ y ∧ y < 11 ∧ Cur w g (m + 2) ∧ W.grownBy w (some g)
  | 2, _, w => ∃ (y : Int) (w3 : World), 0 ≤ y ∧ y < 11 ∧ Cur w3 g (m + 2) ∧ W.grownBy w3 (some g) ∧ w = w3.setCell ⟨q, 0, none⟩ (.int .i64 y)
  | _, _, _ => False
theorem PutOp.cell {g m q : Nat} {v' : Value} {W : World} {b o : Nat} (hc : W.cell? ⟨b, o, none⟩ = some v') (hne : b ≠ g) {j : Nat} (hj : j ≤ 1) {u : Nat → Value} {w : World} (h : PutOp g m q W j u w) : w.cell? ⟨b, o, none⟩ = some v' := by
  have hc' : W.drew.cell? ⟨b, o, none⟩ = some v' := hc
  match j, hj, h with
  | 0, _, h => obtain rfl : w = W.drew := h; exact hc'
  | 1, _, h => obtain ⟨s, _, _, _, _, h4⟩ := h; exact grown_cell h4 hc (by simpa using hne)
set_option maxHeartbeats 6400000 in
theorem anyFormula_any (g m : Nat) (w : World) (h : Cur w g m) (hm : m + 2000 ≤ 1000000000) :
    Calls Tryz.prog 57 #[.pointer (some ⟨g, 0, none⟩)] w (StepO g m 1500 (fun w' v => GF 60 1000 (NewB w w') w' v) w) := by
  have hlt := h.lt
  have H := Lib.hid h
  have hne : w.heap.size ≠ g := by omega
  clear h
  go_enter Tryz.func57, Tryz.ntmps57
  go_wp2_with fail
  refine (formula_any g m _ (H.out.al _) (by omega)).mono ?_
  rintro e w1 ⟨_, rfl, ht, hc1, hg1⟩
  have HC1 := Lib.hid hc1
  clear hc1
  have ⟨c1, f1⟩ := gcell hg1
  have hz1 := hg1.size
  (try simp at hz1)
  obtain ⟨o3, s3, x3, p3, k3, e3, q3, j3, d3, rfl, -⟩ := ht.form
  have hz0 : w.heap.size + 1 ≤ w1.heap.size := by simpa using hg1.size
  obtain ⟨W, hW⟩ : ∃ q : World, q = w1.alloc (.cells #[.int .i64 o3, .string s3, .slice p3 k3 e3, .string x3, .slice q3 j3 d3] 29) := ⟨_, rfl⟩
  have hbW : Below w1.heap.size w1 W := by rw [hW]; exact (Below.refl _ _).alloc (Nat.le_refl _) _
  have HF0 := Lib.hid (show FBx 8 253 w g (m + 572) w1.heap.size w1.heap.size (.int .i64 o3) (.string s3) (.slice p3 k3 e3) (.string x3) (.slice q3 j3 d3) W from
    ⟨HC1.out.below hbW, by rw [hW]; exact heap_alloc_new w1 _, (hbW.block _ (by omega)).trans ((hg1.block w.heap.size (by simp) (by simpa using hne)).trans (heap_alloc_new w _)), ht.mono (Nat.le_refl _) (Nat.le_refl _) (SameOn.below hbW) (fun b hb => ⟨by have := (show _ ≤ b from hb.1); simp at this; omega, hb.2, by have := hb.2; omega⟩), gr_below (gr_trans (gr_al (gr_refl w g) _) hg1) hbW, hlt, by omega, hbW.size⟩)
  clear ht hg1 c1 f1 hbW
  go_wp2_with fail
  rw [← hW]
  clear hW
  refine (pick_any g (m + 572) 24 _ HF0.out.cur (by omega) (by omega) (by omega)).mono ?_
  rintro e w2 ⟨_, rfl, ⟨r, rfl, hr0, hr1⟩, hc2, hg2⟩
  have HF := Lib.hid (HF0.out.later hg2 hc2)
  have hzW := hg2.size
  have HC2 := Lib.hid hc2
  clear hg2 hc2
  obtain ⟨⟨b0, b1, b2, b3, b4, bf⟩, ⟨r0, r1, r2, r3, r4, rf⟩, zk, zr⟩ := HF.out.cells
  have zk := bsz zk
  have zr := bsz zr
  rcases (by omega : r = 0 ∨ r = 1 ∨ r = 2 ∨ r = 3 ∨ r = 4 ∨ r = 5 ∨ (5 < r ∧ r ≤ 23)) with rfl | rfl | rfl | rfl | rfl | rfl | ⟨hra, hrb⟩
  · go_wp2_with fail
    refine (pick_any g (m + 572 + 2) 11 _ HC2.out (by omega) (by omega) (by omega)).mono ?_
    rintro e w3 ⟨_, rfl, ⟨y, rfl, hy0, hy1⟩, hc3, hg3⟩
    have HC3 := Lib.hid hc3
    clear hc3
    have ⟨c3, f3⟩ := gcell hg3
    have hz3 := hg3.size
    (try simp at hz3)
    have HF3 := Lib.hid (HF.out.later (hg3) HC3.out)
    have hzq := (hg3).size
    clear b0 b1 b2 b3 b4 bf r0 r1 r2 r3 r4 rf zk zr hg3 c3 f3
    obtain ⟨⟨b0, b1, b2, b3, b4, bf⟩, ⟨r0, r1, r2, r3, r4, rf⟩, zk, zr⟩ := HF3.out.cells
    have zk := bsz zk
    have zr := bsz zr
    have HQ := Lib.hid ((HF3.out.set (i := 0) (u := .int .i64 y) rfl HF3.out.lt.2.2 (HF3.out.gf.setOp (by omega))).done (n' := 60) (W' := 1000) (by omega) (by omega))
    go_wp2
    refine bodyPost_ret (v := .agg #[.int .i64 y, .string s3, .slice p3 k3 e3, .string x3, .slice q3 j3 d3]) (by simp only [results, Tryz.results57]; go_simp) rfl ?_
    obtain ⟨q1, q2, q3'⟩ := HQ.out
    have q2 := q2.more (n := m + 1500) (by omega) (by omega)
    dsimp only [set5F] at q1 q2 q3'
    refine ⟨_, rfl, ?_, ?_, ?_⟩
    · with_reducible exact q1
    · with_reducible exact q2
    · with_reducible exact q3'
  · go_wp2_with fail
    refine (of_lit g (m + 572 + 2) 1 3 w2.heap.size _ _ _ (by rfl) (by rfl) HC2.out (by omega) (by decide) (by decide) (by intro v hv; simp at hv; rcases hv with rfl | rfl | rfl <;> exact ⟨_, rfl, by decide⟩)).mono ?_
    rintro e w3 ⟨_, rfl, ⟨y, rfl, hy⟩, hc3, hg3⟩
    have HC3 := Lib.hid hc3
    clear hc3
    have ⟨c3, f3⟩ := gcell hg3
    have hz3 := hg3.size
    (try simp at hz3)
    have HF3 := Lib.hid (HF.out.later ((gr_trans (gr_al (gr_refl w2 g) _) hg3)) HC3.out)
    have hzq := ((gr_trans (gr_al (gr_refl w2 g) _) hg3)).size
    clear b0 b1 b2 b3 b4 bf r0 r1 r2 r3 r4 rf zk zr hg3 c3 f3
    obtain ⟨⟨b0, b1, b2, b3, b4, bf⟩, ⟨r0, r1, r2, r3, r4, rf⟩, zk, zr⟩ := HF3.out.cells
    have zk := bsz zk
    have zr := bsz zr
    have HQ := Lib.hid ((HF3.out.set (i := 3) (u := .string y) rfl HF3.out.lt.2.2 (HF3.out.gf.setVar (y := y) (by unfold maxLen; omega))).done (n' := 60) (W' := 1000) (by omega) (by omega))
    go_wp2
    refine bodyPost_ret (v := .agg #[.int .i64 o3, .string s3, .slice p3 k3 e3, .string y, .slice q3 j3 d3]) (by simp only [results, Tryz.results57]; go_simp) rfl ?_
    obtain ⟨q1, q2, q3'⟩ := HQ.out
    have q2 := q2.more (n := m + 1500) (by omega) (by omega)
    dsimp only [set5F] at q1 q2 q3'
    refine ⟨_, rfl, ?_, ?_, ?_⟩
    · with_reducible exact q1
    · with_reducible exact q2
    · with_reducible exact q3'
  · go_wp2_with fail
    refine (anyTerm_any g (m + 572 + 2) _ HC2.out (by omega)).mono ?_
    rintro e w3 ⟨_, rfl, ht, hc3, hg3⟩
    have HC3 := Lib.hid hc3
    clear hc3
    have ⟨c3, f3⟩ := gcell hg3
    have hz3 := hg3.size
    (try simp at hz3)
    obtain ⟨s4, p4, k4, e4, rfl, -⟩ := ht.form
    have HT := Lib.hid ht
    clear ht
    have HF3 := Lib.hid (HF.out.later (hg3) HC3.out)
    have hzq := (hg3).size
    clear b0 b1 b2 b3 b4 bf r0 r1 r2 r3 r4 rf zk zr hg3 c3 f3
    obtain ⟨⟨b0, b1, b2, b3, b4, bf⟩, ⟨r0, r1, r2, r3, r4, rf⟩, zk, zr⟩ := HF3.out.cells
    have zk := bsz zk
    have zr := bsz zr
    have HQ := Lib.hid ((HF3.out.setA (u1 := .string s4) (u2 := .slice p4 k4 e4) (Nat.le_refl _) (((HF3.out.gf.mono (n' := 13) (by omega) (Nat.le_refl _) (SameOn.refl _ _) (fun _ h => h))).setAtom (S' := SB w w1.heap.size w3.heap.size) HT.out (fun b hb => ⟨⟨by have := (show _ ≤ b from hb.1); omega, hb.2, by have := (show _ ≤ b from hb.1); omega⟩, fun h' => by have := (show _ ≤ b from hb.1); have := h'.2.1; omega⟩) (fun b hb => ⟨hb.1, by have := hb.2.1; omega, hb.2.2⟩))).done (n' := 60) (W' := 1000) (by omega) (by omega))
    go_wp2
    refine bodyPost_ret (v := .agg #[.int .i64 o3, .string s4, .slice p4 k4 e4, .string x3, .slice q3 j3 d3]) (by simp only [results, Tryz.results57]; go_simp) rfl ?_
    obtain ⟨q1, q2, q3'⟩ := HQ.out
    have q2 := q2.more (n := m + 1500) (by omega) (by omega)
    dsimp only [set5F] at q1 q2 q3'
    refine ⟨_, rfl, ?_, ?_, ?_⟩
    · with_reducible exact q1
    · with_reducible exact q2
    · with_reducible exact q3'
  · have HFB := Lib.hid (HF.out.mono (n' := 9) (W' := 253) (by omega) (Nat.le_refl _))
    obtain ⟨hj3, hvals, hob⟩ := HFB.out.row
    have HVALS := Lib.hid hvals
    have HOB := Lib.hid hob
    have HB4 := Lib.hid b4
    have hneB : w1.heap.size ≠ g := by omega
    clear hvals hob
    go_wp2_with fail
    go_wp2
    refine wp_region_stages [some (.pointer (some ⟨w1.heap.size, 4, none⟩)), some (.slice q3 j3 d3), some (.pointer (some ⟨g, 0, none⟩)), none, none, none, some (.pointer (some ⟨w1.heap.size, 4, none⟩)), none] [3, 4, 5, 7] (AppG 29 5 w1.heap.size 4 (FmCP g (m + 572 + 2) w2) (.slice q3 j3 d3) j3 w2 3 4 5) (by kernel_rfl) (by kernel_rfl) (by first | kernel_rfl | rfl) (by rfl) rfl ?_
    refine chain_st rfl rfl (by decide) rfl (by intro j u w' hS; go_simp; first | done | exact ⟨hS, rfl⟩ | exact hS | rfl) ?_
    go_simp
    refine chain_stb (c := 5) 2 rfl rfl (by decide) rfl rfl rfl (by first | kernel_rfl | rfl) ?_ ?_
    · intro j u w' hj hS
      have hc := AppG.cell (fun _ _ h => FmCP.gr h) HB4.out hneB hj hS
      go_simp
      first | done | exact ⟨hS, rfl⟩ | exact hS | rfl
    go_simp
    refine chain_st rfl rfl (by decide) rfl (by intro j u w' hS; go_simp; first | done | exact ⟨hS, rfl⟩ | exact hS | rfl) ?_
    go_simp
    refine chain_first rfl rfl rfl (by decide) rfl ?_ ?_
    · intro w' hS
      obtain rfl : w' = w2.drew := hS
      go_simp
      refine (formula_any g (m + 572 + 2) w2.drew (HC2.out.below ((Below.refl _ _).drew)) (by omega)).mono ?_
      rintro e w'' ⟨x, he, h1, h2, h3⟩
      exact ⟨x, he, by show FmCP _ _ _ (upd _ 3 x 3) w''; rw [upd_same]; exact ⟨h1, h2, h3⟩⟩
    intro x
    go_simp
    refine chain_next 0 rfl rfl rfl rfl (by decide) rfl (by first | kernel_rfl | rfl) ?_ ?_
    · intro w' hS
      have hS : FmCP g (m + 572 + 2) w2 (upd _ 3 x 3) w' := hS
      rw [upd_same] at hS
      obtain ⟨u0, u1, u2, u3, u4, rfl, o0, o1, o2, o3, o4⟩ := hS.agg
      go_simp
      exact ⟨w', #[u0, u1, u2, u3, u4], hS, by rw [upd_same], rfl⟩
    intro y
    go_simp
    refine chain_next 1 rfl rfl rfl rfl (by decide) rfl (by first | kernel_rfl | rfl) ?_ ?_
    · intro w' hS
      obtain ⟨w1', cs, hcp, hy, rfl⟩ := hS
      rw [upd_same] at hy
      subst hy
      obtain ⟨u0, u1, u2, u3, u4, he, o0, o1, o2, o3, o4⟩ := hcp.agg
      simp only [Value.agg.injEq] at he
      subst he
      have hG1 := hcp.gr
      obtain ⟨vals, r1⟩ := HVALS.out
      refine each_app1 (.tmp 28) (.tmp 31) _ rfl 0 29 5 88 elemFmQ (.slice q3 j3 d3) j3 vals rfl w1' #[u0, u1, u2, u3, u4] rfl rfl (own_same r1 fun b hb hl => hG1.block b hl (by have := HOB.out b hb; simp; omega)) rfl (by intro u hu; simp at hu; rcases hu with rfl | rfl | rfl | rfl | rfl <;> assumption) (by omega) (by unfold maxLen; omega) (Nat.zero_le _) ?_
      intro v' w3 happ hg3 hnr hsz
      exact ⟨w1', #[u0, u1, u2, u3, u4], hcp, by rw [upd_same]; exact happ, hg3, by rw [upd_same]; exact hnr, hsz⟩
    intro z
    go_simp
    refine chain_st rfl rfl (by decide) rfl (by intro j u w' hS; go_simp; first | done | exact ⟨hS, rfl⟩ | exact hS | rfl) ?_
    go_simp
    refine chain_next 2 rfl rfl rfl rfl (by decide) rfl (by first | kernel_rfl | rfl) ?_ ?_
    · intro w' hS
      obtain ⟨w1', cs, hcp, happ, hg3, hnr, hsz⟩ := hS
      rw [upd_same] at happ hnr
      obtain ⟨vals, r1⟩ := HVALS.out
      have hG1 := hcp.gr
      have hw1 := hG1.size
      have h1 := happ 0 vals (own_same r1 fun b hb hl => hG1.block b hl (by have := HOB.out b hb; simp; omega)) (Nat.zero_le _)
      obtain ⟨q', c', rfl⟩ := own_form h1 (by omega)
      have hbt : w'.heap[w1.heap.size]? = some (.cells #[.int .i64 o3, .string s3, .slice p3 k3 e3, .string x3, .slice q3 j3 d3] 29 (0, 0)) := (hg3.block _ (by omega) (fun e => (HOB.out _ e.symm).2.2 rfl)).trans ((hG1.block _ zk.1 (by simpa using hneB)).trans HF.out.box)
      have hcell : w'.cell? ⟨w1.heap.size, 4, none⟩ = some (.slice q3 j3 d3) := by rw [cell_of_row w' _ 4 _ _ (0, 0) hbt]; rfl
      have hfro : w'.frozen? ⟨w1.heap.size, 4, none⟩ = false := frozen_of_row w' _ 4 _ _ hbt
      clear hbt
      go_simp
      refine ⟨w1', w', cs, hcp, ?_, hg3, ?_, hsz, ?_⟩
      · rw [upd_other _ _ (by decide), upd_same]; exact happ
      · rw [upd_other _ _ (by decide), upd_same]; exact hnr
      · rw [upd_other _ _ (by decide), upd_same]
    intro x'
    refine flowU_nil ?_
    intro wz hz
    obtain ⟨w1', w3', cs, hcp, happ, hg3, hnr, hsz, rfl⟩ := hz
    simp only [upd_other _ _ (show (5 : Nat) ≠ 7 by decide), upd_same] at happ hnr
    rw [upd_other _ _ (by decide), upd_same]
    obtain ⟨u0, u1, u2, u3, u4, he, -⟩ := hcp.agg
    simp only [Value.agg.injEq] at he
    subst he
    obtain ⟨vals, r1⟩ := HVALS.out
    have hG1 := hcp.gr
    have hw1 := hG1.size
    have h1 := happ 0 vals (own_same r1 fun b hb hl => hG1.block b hl (by have := HOB.out b hb; simp; omega)) (Nat.zero_le _)
    obtain ⟨q', c', rfl⟩ := own_form h1 (by omega)
    have HF5 := Lib.hid (HFB.out.app hG1 hcp.2.1 (hcp.1.mono (Nat.le_refl _) (Nat.le_refl _) (SameOn.refl _ _) (fun b hb => ⟨by simpa using hb.1, hb.2⟩)) happ hg3 hnr (by omega))
    obtain ⟨W5, hW5⟩ : ∃ q, q = w3'.setCell ⟨w1.heap.size, 4, none⟩ (.slice (some ⟨q', 0, none⟩) (j3 + 1) c') := ⟨_, rfl⟩
    rw [← hW5] at HF5 ⊢
    clear hW5 b0 b1 b2 b3 b4 bf r0 r1 r2 r3 r4 rf zk zr h1 hcp happ hg3 hnr hsz hG1 hw1
    obtain ⟨⟨b0, b1, b2, b3, b4, bf⟩, ⟨r0, r1, r2, r3, r4, rf⟩, zk, zr⟩ := HF5.out.cells
    have zk := bsz zk
    have zr := bsz zr
    have HQ := Lib.hid (HF5.out.done (n' := 60) (W' := 1000) (by omega) (by omega))
    go_wp2
    refine bodyPost_ret (v := .agg #[.int .i64 o3, .string s3, .slice p3 k3 e3, .string x3, .slice (some ⟨q', 0, none⟩) (j3 + 1) c']) (by simp only [results, Tryz.results57]; go_simp) rfl ?_
    obtain ⟨q1, q2, q3'⟩ := HQ.out
    have q2 := q2.more (n := m + 1500) (by omega) (by omega)
    dsimp only [set5F] at q1 q2 q3'
    refine ⟨_, rfl, ?_, ?_, ?_⟩
    · with_reducible exact q1
    · with_reducible exact q2
    · with_reducible exact q3'
  · go_wp2_with fail
    refine (pick_any g (m + 572 + 2) 5 _ HC2.out (by omega) (by omega) (by omega)).mono ?_
    rintro e w3 ⟨_, rfl, ⟨y, rfl, hy0, hy1⟩, hc3, hg3⟩
    have HC3 := Lib.hid hc3
    clear hc3
    have ⟨c3, f3⟩ := gcell hg3
    have hz3 := hg3.size
    (try simp at hz3)
    have HF3 := Lib.hid (HF.out.later (hg3) HC3.out)
    have hzq := (hg3).size
    clear b0 b1 b2 b3 b4 bf r0 r1 r2 r3 r4 rf zk zr hg3 c3 f3
    obtain ⟨⟨b0, b1, b2, b3, b4, bf⟩, ⟨r0, r1, r2, r3, r4, rf⟩, zk, zr⟩ := HF3.out.cells
    have zk := bsz zk
    have zr := bsz zr
    have hnn : (0 : Int) ≤ 36 + y ∧ 36 + y ≤ 40 := by omega
    obtain ⟨nn, hnn2⟩ : ∃ nn : Nat, (nn : Int) = 36 + y := ⟨(36 + y).toNat, by omega⟩
    obtain ⟨t, va, vp, he, ht, hw⟩ := HF3.out.gf
    have HT := Lib.hid (show FmOwn 26 29 8 (SB w w1.heap.size w1.heap.size) w3 t [.int .i64 o3, .string s3, .slice p3 k3 e3, .string x3, .slice q3 j3 d3] by
      simp only [Value.agg.injEq, Array.mk.injEq, List.cons.injEq, and_true] at he
      obtain ⟨e0, e1, e2, e3, e4⟩ := he
      rw [e0, e1, e2, e3, e4]; exact ht)
    clear he ht b0 b1 b2 b3 b4 bf r0 r1 r2 r3 r4 rf zk zr
    go_wp2
    go_loopg [] 40 (fun q wr => ∃ (j N : Nat) (v0 v1 v2 v3 v4 : Value) (t : Fm), j + q ≤ 40 ∧ FBx (j + 8) (j + 253) w g (m + 572 + 2 + 2) w1.heap.size N v0 v1 v2 v3 v4 wr ∧ FmOwn 26 29 (j + 8) (SB w w1.heap.size N) wr t [v0, v1, v2, v3, v4] ∧ t.wt ≤ j + 253 ∧ nn ≤ t.sz + q)
    case atStart => exact ⟨0, _, _, _, _, _, _, t, by omega, HF3.out, HT.out, hw, by omega⟩
    case round =>
      obtain ⟨j, N, v0, v1, v2, v3, v4, t', hjq, hfb, hfm, hwt, hsz⟩ := hrel
      obtain ⟨pp, pc, qq, qc, rfl, rfl, rfl, rfl, rfl, -⟩ := hfm.form
      have HFB := Lib.hid hfb
      have HFM := Lib.hid hfm
      obtain ⟨⟨b0, b1, b2, b3, b4, bf⟩, -, zk, zr⟩ := hfb.cells
      have zk := bsz zk
      have zr := bsz zr
      have hszw := t'.sz_wt
      clear hfb hfm
      go_wp2_with fail
      refine (l8Size_any _ t' _ _ _ _ _ _ (FmOwn.at_ _ _ _ HFM.out) (by omega)).mono ?_
      rintro e w4 ⟨rfl, hb4⟩
      have HFB4 := Lib.hid (HFB.out.later (gr_below (gr_refl wr g) hb4) (HFB.out.cur.below hb4))
      have HFM4 := Lib.hid (FmOwn.mono _ _ t' _ (Nat.le_refl _) (SameOn.below hb4) (fun _ h => h) HFM.out)
      clear b0 b1 b2 b3 b4 bf zk zr hb4
      obtain ⟨⟨b0, b1, b2, b3, b4, bf⟩, ⟨r0, r1, r2, r3, r4, rf⟩, zk, zr⟩ := HFB4.out.cells
      have zk := bsz zk
      have zr := bsz zr
      by_cases hlt' : (t'.sz : Int) < 36 + y
      · go_wp2
        go_roundg (gk - 1)
        case measure => omega
        case rel =>
          have h1 := HFB4.out.wrap
          have h2 := HFB4.out.wrapT HFM4.out
          dsimp only [set5F] at h1 h2
          refine ⟨j + 1, w4.heap.size + 1, .int .i64 4, .string ⟨#[]⟩, .slice none 0 0, .string ⟨#[]⟩, .slice (some ⟨w4.heap.size, 0, none⟩) 1 1, .mk 4 (.mk ⟨#[]⟩ []) ⟨#[]⟩ [t'], by omega, ?_, ?_, ?_, ?_⟩
          · exact h1
          · exact h2
          · have e0 : (⟨#[]⟩ : ByteArray).size = 0 := rfl
            simp only [Fm.wt, Fm.wts, Tm.wt, Tm.wts, List.length_cons, List.length_nil, e0]; omega
          · simp only [Fm.sz, Fm.szs]; omega
      · go_wp2
        have HQ := Lib.hid (HFB4.out.done (n' := 60) (W' := 1000) (by omega) (by omega))
        refine bodyPost_ret (v := .agg #[.int .i64 t'.op, .string t'.a.n, .slice pp t'.a.us.length pc, .string t'.v, .slice qq t'.ps.length qc]) (by simp only [results, Tryz.results57]; go_simp) rfl ?_
        obtain ⟨q1, q2, q3'⟩ := HQ.out
        have q2 := q2.more (n := m + 1500) (by omega) (by omega)
        dsimp only [set5F] at q1 q2 q3'
        refine ⟨_, rfl, ?_, ?_, ?_⟩
        · with_reducible exact q1
        · with_reducible exact q2
        · with_reducible exact q3'
  · rcases Nat.eq_zero_or_pos j3 with rfl | hj0
    · have HQ := Lib.hid (HF.out.done (n' := 60) (W' := 1000) (by omega) (by omega))
      go_wp2
      refine bodyPost_ret (v := .agg #[.int .i64 o3, .string s3, .slice p3 k3 e3, .string x3, .slice q3 0 d3]) (by simp only [results, Tryz.results57]; go_simp) rfl ?_
      obtain ⟨q1, q2, q3'⟩ := HQ.out
      have q2 := q2.more (n := m + 1500) (by omega) (by omega)
      dsimp only [set5F] at q1 q2 q3'
      refine ⟨_, rfl, ?_, ?_, ?_⟩
      · with_reducible exact q1
      · with_reducible exact q2
      · with_reducible exact q3'
    · obtain ⟨qb, cur, zz, rfl, hblk, hcz, hq1, hq2, hq3, hput⟩ := HF.out.partOp hj0
      have HBK := Lib.hid hblk
      have HPUT := Lib.hid hput
      have HB4 := Lib.hid b4
      have hneB : w1.heap.size ≠ g := by omega
      have hqg : qb ≠ g := by omega
      have hj1 : (0 : Int) < (j3 : Int) := by omega
      clear hblk hput
      go_wp2_with fail
      go_wp2
      refine wp_region_stages [some (.pointer (some ⟨w1.heap.size, 4, none⟩)), some (.slice (some ⟨qb, 0, none⟩) j3 d3), some (.pointer (some ⟨g, 0, none⟩)), none, some (.pointer (some ⟨qb, 0, none⟩)), some (.pointer (some ⟨qb, 0, none⟩)), none] [3, 6] (PutOp g (m + 572 + 2) qb w2) (by kernel_rfl) (by kernel_rfl) (by first | kernel_rfl | rfl) (by rfl) rfl ?_
      refine chain_st rfl rfl (by decide) rfl (by intro j u w' hS; go_simp; first | done | exact ⟨hS, rfl⟩ | exact hS | rfl) ?_
      go_simp
      refine chain_stb (c := 6) 1 rfl rfl (by decide) rfl rfl rfl (by first | kernel_rfl | rfl) ?_ ?_
      · intro j u w' hj hS
        have hc := PutOp.cell HB4.out hneB hj hS
        go_simp
        first | done | exact ⟨hS, rfl⟩ | exact hS | rfl
      go_simp
      refine chain_st rfl rfl (by decide) rfl (by intro j u w' hS; go_simp; first | done | exact ⟨hS, rfl⟩ | exact hS | rfl) ?_
      go_simp
      refine chain_first rfl rfl rfl (by decide) rfl ?_ ?_
      · intro w' hS
        obtain rfl : w' = w2.drew := hS
        go_simp
        refine (pick_any g (m + 572 + 2) 11 w2.drew (HC2.out.below ((Below.refl _ _).drew)) (by omega) (by omega) (by omega)).mono ?_
        rintro e w'' ⟨x, he, ⟨y, rfl, hy0, hy1⟩, hc, hg⟩
        exact ⟨_, he, y, by rw [upd_same], hy0, by omega, hc, gr_trans (gr_dr (gr_refl _ _)) hg⟩
      intro y3
      go_simp
      refine chain_st rfl rfl (by decide) rfl (by intro j u w' hS; go_simp; first | done | exact ⟨hS, rfl⟩ | exact hS | rfl) ?_
      go_simp
      refine chain_st rfl rfl (by decide) rfl (by intro j u w' hS; go_simp; first | done | exact ⟨hS, rfl⟩ | exact hS | rfl) ?_
      go_simp
      refine chain_next 0 rfl rfl rfl rfl (by decide) rfl (by first | kernel_rfl | rfl) ?_ ?_
      · intro w' hS
        obtain ⟨y, hy, hy0, hy1, hc, hg⟩ := hS
        rw [upd_same] at hy
        subst hy
        have hblk' : w'.heap[qb]? = some (.cells cur 29 (0, 0)) := (hg.block qb hq2 (by simpa using hqg)).trans HBK.out
        have e0 : w'.cell? ⟨qb, 0, none⟩ = some zz := by rw [cell_of_row w' _ 0 _ _ (0, 0) hblk']; exact hcz
        have ef : ∀ j, w'.frozen? ⟨qb, j, none⟩ = false := fun j => frozen_of_row w' qb j _ _ hblk'
        clear hblk'
        go_simp
        exact ⟨y, w', hy0, hy1, hc, hg, rfl⟩
      intro x'
      refine flowU_nil ?_
      intro wz hz
      obtain ⟨y, w3', hy0, hy1, hc, hg, rfl⟩ := hz
      have HF5 := Lib.hid (HPUT.out y w3' _ (by omega) hg hc)
      obtain ⟨W5, hW5⟩ : ∃ q, q = w3'.setCell ⟨qb, 0, none⟩ (.int .i64 y) := ⟨_, rfl⟩
      rw [← hW5] at HF5 ⊢
      clear hW5 b0 b1 b2 b3 b4 bf r0 r1 r2 r3 r4 rf zk zr hc hg
      obtain ⟨⟨b0, b1, b2, b3, b4, bf⟩, ⟨r0, r1, r2, r3, r4, rf⟩, zk, zr⟩ := HF5.out.cells
      have zk := bsz zk
      have zr := bsz zr
      have HQ := Lib.hid (HF5.out.done (n' := 60) (W' := 1000) (by omega) (by omega))
      go_wp2
      refine bodyPost_ret (v := .agg #[.int .i64 o3, .string s3, .slice p3 k3 e3, .string x3, .slice (some ⟨qb, 0, none⟩) j3 d3]) (by simp only [results, Tryz.results57]; go_simp) rfl ?_
      obtain ⟨q1, q2, q3'⟩ := HQ.out
      have q2 := q2.more (n := m + 1500) (by omega) (by omega)
      dsimp only [set5F] at q1 q2 q3'
      refine ⟨_, rfl, ?_, ?_, ?_⟩
      · with_reducible exact q1
      · with_reducible exact q2
      · with_reducible exact q3'
  · have e0 : (r == 0) = false := by simp; omega
    have e1 : (r == 1) = false := by simp; omega
    have e2 : (r == 2) = false := by simp; omega
    have e3' : (r == 3) = false := by simp; omega
    have e4 : (r == 4) = false := by simp; omega
    have e5 : (r == 5) = false := by simp; omega
    have HQ := Lib.hid (HF.out.done (n' := 60) (W' := 1000) (by omega) (by omega))
    go_wp2
    refine bodyPost_ret (v := .agg #[.int .i64 o3, .string s3, .slice p3 k3 e3, .string x3, .slice q3 j3 d3]) (by simp only [results, Tryz.results57]; go_simp) rfl ?_
    obtain ⟨q1, q2, q3'⟩ := HQ.out
    have q2 := q2.more (n := m + 1500) (by omega) (by omega)
    dsimp only [set5F] at q1 q2 q3'
    refine ⟨_, rfl, ?_, ?_, ?_⟩
    · with_reducible exact q1
    · with_reducible exact q2
    · with_reducible exact q3'
end Go.Proofs.YtmbkjdkjemlfkaaGreatDoor
