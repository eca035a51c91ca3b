import Derived.Test.YtkgfanajgdelcaaGreatEnPart4
namespace Go.Proofs.YtkgfanajgdelcaaGreat
set_option maxRecDepth 100000
open Go.RowKit
theorem indexForm {B : Nat → Prop} (m : Nat) (us : List Fm) (HC : ∀ (t : Fm) (v0 v1 v2 v3 v4 : Value) (w : World), t ∈ us → FmAt B m w t [v0, v1, v2, v3, v4] → Calls Tryz.prog 66 #[.agg #[v0, v1, v2, v3, v4]] w fun e w' => e = .returned (.bool (Fm.notForm t)) ∧ Below w.heap.size w w')
    (va : Value) (w : World) (h : ListAt B w 5 (FmAt B m w) va us) :
    Calls Tryz.prog 104 #[va, .func (.func 66) #[] #[]] w (FirstAt (us.any Fm.notForm) w) := by
  obtain ⟨p, c, rfl, hlen⟩ := h.form
  unfold maxLen at hlen
  have H := Lib.hid h
  have HN1 := Lib.hid HC
  clear h HC
  go_enter Tryz.func104, Tryz.ntmps104
  go_wp2
  go_loopw [8] (fun i wr => ∃ k : Nat, k ≤ us.length ∧ i = .int .i64 k ∧ us.any Fm.notForm = (us.drop k).any Fm.notForm ∧ Below w.heap.size w wr) (fun i _ => us.length - (intOf i).toNat)
  case atStart => exact ⟨0, Nat.zero_le _, rfl, rfl, by exact bel⟩
  case round =>
    obtain ⟨k, hk, rfl, he, hb⟩ := hrel
    have HE := Lib.hid he
    clear he
    by_cases hlt : k < us.length
    · obtain ⟨b, o, rfl, hB, x0, x1, x2, x3, x4, hx0, hx1, hx2, hx3, hx4, hx⟩ := (H.out.mono (SameOn.below hb) (fun _ h => h) (fun x cs _ hx => FmAt.below hb hx)).at5 hlt
      have hD := any_drop us Fm.notForm hlt
      have hM := List.getElem_mem hlt
      obtain ⟨a, ha⟩ : ∃ a, us[k] = a := ⟨_, rfl⟩
      rw [ha] at hx
      rw [ha] at hD
      rw [ha] at hM
      have HX := Lib.hid hx
      have HD := Lib.hid hD
      have HM := Lib.hid hM
      clear hx ha hD hM
      have zb := bsz (World.block_lt_of_cell? _ _ hx0)
      cases hN : Fm.notForm a
      all_goals
        have HN := Lib.hid hN
        go_wp2_with fail
        refine (HN1.out a x0 x1 x2 x3 x4 _ HM.out HX.out).mono ?_
        rintro e w1 ⟨rfl, hb1⟩
        have ⟨cw1, fw1⟩ := bcell hb1
        have qw1 := hb1.size
        (try simp at qw1)
        (try have zw1w := bsz (show w.heap.size < w1.heap.size by omega))
        rw [HN.out]
        go_wp2
      · refine ⟨⟨k + 1, by omega, by go_num, ?_, by exact bel⟩, by simp [intOf]; omega⟩
        rw [HE.out, HD.out, HN.out]; rfl
      · go_ret
        exact ⟨k, rfl, by rw [HE.out, HD.out, HN.out]; simp, by exact bel⟩
    · obtain rfl : k = us.length := by omega
      have he := HE.out
      rw [List.drop_length, List.any_nil] at he
      have HE2 := Lib.hid he
      clear he
      go_wp2
      go_ret
      exact ⟨-1, rfl, by rw [HE2.out]; rfl, by exact bel⟩
theorem containsForm {B : Nat → Prop} (m : Nat) (us : List Fm) (HC : ∀ (t : Fm) (v0 v1 v2 v3 v4 : Value) (w : World), t ∈ us → FmAt B m w t [v0, v1, v2, v3, v4] → Calls Tryz.prog 66 #[.agg #[v0, v1, v2, v3, v4]] w fun e w' => e = .returned (.bool (Fm.notForm t)) ∧ Below w.heap.size w w')
    (va : Value) (w : World) (h : ListAt B w 5 (FmAt B m w) va us) :
    Calls Tryz.prog 65 #[va, .func (.func 66) #[] #[]] w fun e w' => e = .returned (.bool (us.any Fm.notForm)) ∧ Below w.heap.size w w' := by
  have H := Lib.hid h
  have IH := Lib.hid (indexForm m us HC)
  clear h HC
  go_enter Tryz.func65, Tryz.ntmps65
  go_wp2_with fail
  refine (IH.out va _ H.out).mono ?_
  rintro e w1 ⟨r, rfl, hr, hb1⟩
  have HR := Lib.hid hr
  clear hr
  go_wp2
  go_ret
  exact ⟨ret_bool HR.out, hb1⟩
set_option maxHeartbeats 1600000 in
theorem hasForm_any {B : Nat → Prop} : ∀ (m : Nat) (t : Fm) (v0 v1 v2 v3 v4 : Value) (w : World), FmAt B m w t [v0, v1, v2, v3, v4] → t.asz ≤ 100000000 →
      Calls Tryz.prog 33 #[.agg #[v0, v1, v2, v3, v4]] w fun e w' => e = .returned (.bool t.form) ∧ Below w.heap.size w w' := by
  intro m
  induction m with
  | zero => intro t v0 v1 v2 v3 v4 w h; exact h.elim
  | succ m ih =>
    rintro ⟨op, a, x, us⟩ v0 v1 v2 v3 v4 w ⟨vn, va, vp, hcs, hop, hs, ht, hl⟩ hz
    simp only [List.cons.injEq, and_true] at hcs
    obtain ⟨rfl, rfl, rfl, rfl, rfl⟩ := hcs
    rw [Fm.asz] at hz
    have hza : a.sz ≤ 100000000 := by omega
    have hzs : Fm.aszs us ≤ 100000000 := by omega
    have HR := hasForm_of m (fun us va w hu h => by
      have := containsForm (B := B) m us (fun t v0 v1 v2 v3 v4 w ht h => by
        obtain ⟨k, hk, e⟩ := List.getElem_of_mem ht
        have hbb : t.asz ≤ 100000000 := by have := Fm.asz_arg us hk; rw [e] at this; omega
        obtain ⟨p1, c1, q1, d1, rfl, rfl, rfl, rfl, rfl, -⟩ := h.form
        have HX := Lib.hid h
        have IH := Lib.hid ih
        clear h ih e
        go_enter Tryz.func66, Tryz.ntmps66
        go_wp2_with fail
        refine (IH.out t _ _ _ _ _ _ (HX.out.below (by exact bel)) hbb).mono ?_
        rintro e w1 ⟨rfl, hb1⟩
        have ⟨cw1, fw1⟩ := bcell hb1
        have qw1 := hb1.size
        (try simp at qw1)
        (try have zw1w := bsz (show w.heap.size < w1.heap.size by omega))
        go_wp2
        go_ret
        exact ⟨rfl, by exact bel⟩) va w h
      rw [forms_any] at this
      exact this) op a x us v1 v2 v4 w ht hl hs hza hzs
    rw [Fm.form]
    exact HR
theorem isValidFormula_any {B : Nat → Prop} (m : Nat) (t : Fm) (v0 v1 v2 v3 v4 : Value) (w : World) (h : FmAt B m w t [v0, v1, v2, v3, v4]) (hz : t.sz ≤ 100000000) (hz2 : t.asz ≤ 100000000) :
      Calls Tryz.prog 17 #[.agg #[v0, v1, v2, v3, v4]] w fun e w' => e = .returned (.bool t.good) ∧ Below w.heap.size w w' := by
  obtain ⟨p, c, q, d, rfl, rfl, rfl, rfl, rfl, -⟩ := h.form
  have H := Lib.hid h
  have HT := Lib.hid (show t.good = (decide ((t.szI : Int) ≤ 40) && t.form) by rw [Fm.good, ← Fm.szI_iff]; congr 1; rw [decide_eq_decide]; omega)
  clear h
  go_enter Tryz.func17, Tryz.ntmps17
  go_wp2_with fail
  refine (sizeOf_any m t _ _ _ _ _ _ (H.out.below (by exact bel)) hz).mono ?_
  rintro e w1 ⟨rfl, hb1⟩
  have ⟨cw1, fw1⟩ := bcell hb1
  have qw1 := hb1.size
  (try simp at qw1)
  (try have zw1w := bsz (show w.heap.size < w1.heap.size by omega))
  go_wp2_with (first | (go_at_call 33; refine (hasForm_any m t _ _ _ _ _ _ (H.out.below (by (repeat (first | with_reducible (first | exact bR _ _ | assumption | refine bA ?_ _ | refine bS ?_ (by first | exact Nat.le_refl _ | (simp; done) | (simp; omega)) _) | assumption | exact bR _ _ | refine bD ?_ | refine bN ?_ _ | refine bT ?_ (by assumption))))) hz2).mono ?_; rintro e w2 ⟨rfl, hb2⟩; have ⟨cw2, fw2⟩ := bcell hb2; have qw2 := hb2.size; (try simp at qw2); (try have zw2w := bsz (show w.heap.size < w2.heap.size by omega)); (try have zw2w1 := bsz (show w1.heap.size < w2.heap.size by omega))))
  all_goals
    go_ret
    exact ⟨ret_bool (by rw [HT.out]; simp_all <;> (intros; omega)), by exact bel⟩
set_option maxHeartbeats 1600000 in
theorem l8Many_any {B : Nat → Prop} : ∀ (m : Nat) (t : Fm) (v0 v1 v2 v3 v4 : Value) (M : Nat) (z : Int) (w : World), FmAt B m w t [v0, v1, v2, v3, v4] → t.sz ≤ 100000000 → z = (M : Int) → M ≤ 1000 →
      Calls Tryz.prog 43 #[.agg #[v0, v1, v2, v3, v4], .int .i64 z] w fun e w' => e = .returned (.int .i64 (t.many M : Nat)) ∧ Below w.heap.size w w' := by
  intro m
  induction m with
  | zero => intro t v0 v1 v2 v3 v4 M z w h; exact h.elim
  | succ m ih =>
    rintro ⟨op, t0, s, us⟩ v0 v1 v2 v3 v4 M z w ⟨vn, va, vp, hcs, hop, hs, ht, hl⟩ hz rfl hM
    simp only [List.cons.injEq, and_true] at hcs
    obtain ⟨rfl, rfl, rfl, rfl, rfl⟩ := hcs
    rw [Fm.sz] at hz
    obtain ⟨p, c, rfl, hlen⟩ := hl.form
    obtain ⟨p1, c1, rfl, rfl, -, -⟩ := ht.form
    unfold maxLen at hlen
    have IH := Lib.hid ih
    have HL := Lib.hid hl
    have HSZ := Lib.hid (show (Fm.mk op t0 s us).many M = Fm.manys 1 us M from rfl)
    clear ih hl
    go_enter Tryz.func43, Tryz.ntmps43
    go_wp2
    obtain ⟨W, hW⟩ : ∃ W : World, W = w.alloc (.cells #[.int .i64 op, .string t0.n, .slice p1 t0.us.length c1, .string s, .slice p us.length c] 29) := ⟨_, rfl⟩
    have hwb : W.cell? ⟨w.heap.size, 4, none⟩ = some (.slice p us.length c) := by rw [hW]; go_simp
    have hbW : Below w.heap.size w W := by rw [hW]; exact bel
    rw [← hW]
    clear hW
    go_loopw [5, 6] (fun n i wr => ∃ k acc : Nat, k ≤ us.length ∧ i = .int .i64 k ∧ n = .int .i64 acc ∧ Fm.manys acc (us.drop k) M = Fm.manys 1 us M ∧ acc + Fm.szs (us.drop k) ≤ 1 + Fm.szs us ∧ Below W.heap.size W wr) (fun _ i _ => us.length - (intOf i).toNat)
    case atStart => exact ⟨0, 1, Nat.zero_le _, rfl, rfl, rfl, Nat.le_refl _, Below.refl _ _⟩
    case round =>
      obtain ⟨k, acc, hk, rfl, rfl, he, hle, hbr⟩ := hrel
      have HE := Lib.hid he
      clear he
      have hb := Below.step hbW hbr
      have hwr := (hbr.cell (World.block_lt_of_cell? W _ hwb)).trans hwb
      by_cases hlt : k < us.length
      · obtain ⟨b, o, rfl, hB, x0, x1, x2, x3, x4, hx0, hx1, hx2, hx3, hx4, hx⟩ := (HL.out.mono (SameOn.below hb) (fun _ h => h) (fun x cs _ hx => FmAt.below hb hx)).at5 hlt
        have hD := Fm.manys_drop us hlt acc M
        have hZ := Fm.szs_drop us hlt
        obtain ⟨a, ha⟩ : ∃ a, us[k] = a := ⟨_, rfl⟩
        rw [ha] at hx
        rw [ha] at hD
        rw [ha] at hZ
        have HX := Lib.hid hx
        have HD := Lib.hid hD
        have HZ := Lib.hid hZ
        clear hx ha hD hZ
        have zb := bsz (World.block_lt_of_cell? _ _ hx0)
        obtain ⟨pa, ca, qa, da, rfl, rfl, rfl, rfl, rfl, -⟩ := HX.out.form
        have hlaw := a.many_law (M - acc)
        have hzz := HZ.out
        rw [hzz] at hle
        clear hzz
        by_cases hac : acc ≤ M
        · have hac1 : (acc : Int) ≤ (M : Int) := by omega
          go_wp2_with fail
          refine (IH.out a _ _ _ _ _ (M - acc) _ _ HX.out (by omega) (by omega) (by omega)).mono ?_
          rintro e w1 ⟨rfl, hb1⟩
          have ⟨cw1, fw1⟩ := bcell hb1
          have qw1 := hb1.size
          (try simp at qw1)
          (try have zw1w := bsz (show w.heap.size < w1.heap.size by omega))
          have hbb := Below.step hbr hb1
          go_wp2
          refine ⟨⟨k + 1, acc + a.many (M - acc), by omega, by go_num, by go_num, ?_, by omega, hbb⟩, by simp [intOf]; omega⟩
          rw [← HE.out, HD.out, if_pos hac]
        · have hac1 : ¬ (acc : Int) ≤ (M : Int) := by omega
          go_wp2
          go_ret
          exact ⟨ret_int (by rw [HSZ.out, ← HE.out, HD.out, if_neg hac]), hb⟩
      · obtain rfl : k = us.length := by omega
        have he := HE.out
        rw [List.drop_length, Fm.manys] at he
        have HE2 := Lib.hid he
        clear he
        go_wp2
        go_ret
        exact ⟨ret_int (by rw [HSZ.out, ← HE2.out]), hb⟩
set_option maxHeartbeats 1600000 in
theorem l8Forms_any {B : Nat → Prop} : ∀ (m : Nat) (t : Fm) (v0 v1 v2 v3 v4 : Value) (w : World), FmAt B m w t [v0, v1, v2, v3, v4] → t.asz ≤ 100000000 →
      Calls Tryz.prog 44 #[.agg #[v0, v1, v2, v3, v4]] w fun e w' => e = .returned (.bool t.form) ∧ Below w.heap.size w w' := by
  intro m
  induction m with
  | zero => intro t v0 v1 v2 v3 v4 w h; exact h.elim
  | succ m ih =>
    rintro ⟨op, t0, s, us⟩ v0 v1 v2 v3 v4 w hh hz
    have HH := Lib.hid hh
    obtain ⟨vn, va, vp, hcs, hop, hs, ht, hl⟩ := hh
    simp only [List.cons.injEq, and_true] at hcs
    obtain ⟨rfl, rfl, rfl, rfl, rfl⟩ := hcs
    rw [Fm.asz] at hz
    have hza : t0.sz ≤ 100000000 := by omega
    have hzs : Fm.aszs us ≤ 100000000 := by omega
    obtain ⟨p, c, rfl, hlen⟩ := hl.form
    obtain ⟨p1, c1, rfl, rfl, -, -⟩ := ht.form
    unfold maxLen at hlen
    have IH := Lib.hid ih
    have HL := Lib.hid hl
    have HSZ := Lib.hid (show (Fm.mk op t0 s us).form = ((Fm.mk op t0 s us).form1 && Fm.forms us) from rfl)
    clear ih hl
    cases hf1 : (Fm.mk op t0 s us).form1
    all_goals
      have HF1 := Lib.hid hf1
      go_enter Tryz.func44, Tryz.ntmps44
      go_wp2_with fail
      refine (l8Form_any (m + 1) _ _ _ _ _ _ _ (HH.out.below (by exact bel)) hza).mono ?_
      rintro e w1 ⟨rfl, hb1⟩
      have ⟨cw1, fw1⟩ := bcell hb1
      have qw1 := hb1.size
      (try simp at qw1)
      (try have zw1w := bsz (show w.heap.size < w1.heap.size by omega))
      rw [HF1.out]
      go_wp2
    · go_ret
      exact ⟨ret_bool (by rw [HSZ.out, HF1.out]; rfl), by exact bel⟩
    obtain ⟨W, hW⟩ : ∃ W, W = w1 := ⟨_, rfl⟩
    have hwb : W.cell? ⟨w.heap.size, 4, none⟩ = some (.slice p us.length c) := by rw [hW]; go_simp
    have hbW : Below w.heap.size w W := by rw [hW]; exact bel
    rw [← hW]
    clear hW
    go_loopw [3] (fun i wr => ∃ k : Nat, k ≤ us.length ∧ i = .int .i64 k ∧ Fm.forms us = Fm.forms (us.drop k) ∧ Below W.heap.size W wr) (fun i _ => us.length - (intOf i).toNat)
    case atStart => exact ⟨0, Nat.zero_le _, rfl, rfl, Below.refl _ _⟩
    case round =>
      obtain ⟨k, hk, rfl, he, hbr⟩ := hrel
      have HE := Lib.hid he
      clear he
      have hb := Below.step hbW hbr
      have hwr := (hbr.cell (World.block_lt_of_cell? W _ hwb)).trans hwb
      by_cases hlt : k < us.length
      · obtain ⟨b, o, rfl, hB, x0, x1, x2, x3, x4, hx0, hx1, hx2, hx3, hx4, hx⟩ := (HL.out.mono (SameOn.below hb) (fun _ h => h) (fun x cs _ hx => FmAt.below hb hx)).at5 hlt
        have hD := Fm.forms_drop us hlt
        have hZ := Fm.asz_arg us hlt
        obtain ⟨a, ha⟩ : ∃ a, us[k] = a := ⟨_, rfl⟩
        rw [ha] at hx
        rw [ha] at hD
        rw [ha] at hZ
        have HX := Lib.hid hx
        have HD := Lib.hid hD
        have HZ := Lib.hid hZ
        clear hx ha hD hZ
        have zb := bsz (World.block_lt_of_cell? _ _ hx0)
        obtain ⟨pa, ca, qa, da, rfl, rfl, rfl, rfl, rfl, -⟩ := HX.out.form
        have hzz : a.asz ≤ 100000000 := Nat.le_trans HZ.out hzs
        go_wp2_with fail
        refine (IH.out a _ _ _ _ _ _ HX.out hzz).mono ?_
        rintro e w1 ⟨rfl, hb1⟩
        have ⟨cw1, fw1⟩ := bcell hb1
        have qw1 := hb1.size
        (try simp at qw1)
        (try have zw1w := bsz (show w.heap.size < w1.heap.size by omega))
        have hbb := Below.step hbr hb1
        cases hfa : a.form
        all_goals
          have HFA := Lib.hid hfa
          go_wp2
        · go_ret
          exact ⟨ret_bool (by rw [HSZ.out, HE.out, HD.out, HFA.out]; simp), Below.step hbW hbb⟩
        · refine ⟨⟨k + 1, by omega, by go_num, ?_, hbb⟩, by simp [intOf]; omega⟩
          rw [HE.out, HD.out, HFA.out]; rfl
      · obtain rfl : k = us.length := by omega
        have he := HE.out
        rw [List.drop_length, Fm.forms] at he
        have HE2 := Lib.hid he
        clear he
        go_wp2
        go_ret
        exact ⟨ret_bool (by rw [HSZ.out, HF1.out, HE2.out]; rfl), hb⟩
theorem l8Good_any {B : Nat → Prop} (m : Nat) (t : Fm) (v0 v1 v2 v3 v4 : Value) (w : World) (h : FmAt B m w t [v0, v1, v2, v3, v4]) (hz : t.sz ≤ 100000000) (hz2 : t.asz ≤ 100000000) :
      Calls Tryz.prog 21 #[.agg #[v0, v1, v2, v3, v4]] w fun e w' => e = .returned (.bool t.good) ∧ Below w.heap.size w w' := by
  obtain ⟨p, c, q, d, rfl, rfl, rfl, rfl, rfl, -⟩ := h.form
  have H := Lib.hid h
  have HT := Lib.hid (show t.good = (decide ((t.many 40 : Int) ≤ 40) && t.form) by rw [Fm.good, ← Fm.many_iff]; congr 1; rw [decide_eq_decide]; omega)
  clear h
  go_enter Tryz.func21, Tryz.ntmps21
  go_wp2_with fail
  refine (l8Many_any m t _ _ _ _ _ 40 _ _ (H.out.below (by exact bel)) hz (by rfl) (by decide)).mono ?_
  rintro e w1 ⟨rfl, hb1⟩
  have ⟨cw1, fw1⟩ := bcell hb1
  have qw1 := hb1.size
  (try simp at qw1)
  (try have zw1w := bsz (show w.heap.size < w1.heap.size by omega))
  go_wp2_with (first | (go_at_call 44; refine (l8Forms_any m t _ _ _ _ _ _ (H.out.below (by (repeat (first | with_reducible (first | exact bR _ _ | assumption | refine bA ?_ _ | refine bS ?_ (by first | exact Nat.le_refl _ | (simp; done) | (simp; omega)) _) | assumption | exact bR _ _ | refine bD ?_ | refine bN ?_ _ | refine bT ?_ (by assumption))))) hz2).mono ?_; rintro e w2 ⟨rfl, hb2⟩; have ⟨cw2, fw2⟩ := bcell hb2; have qw2 := hb2.size; (try simp at qw2); (try have zw2w := bsz (show w.heap.size < w2.heap.size by omega)); (try have zw2w1 := bsz (show w1.heap.size < w2.heap.size by omega))))
  all_goals
    go_ret
    exact ⟨ret_bool (by rw [HT.out]; simp_all <;> (intros; omega)), by exact bel⟩
/-! ### Texts -/
def sEquals : List UInt8 := [32, 101, 113, 117, 97, 108, 115, 32]
def sHolds : List UInt8 := [32, 104, 111, 108, 100, 115]
def sHoldsOf : List UInt8 := [32, 104, 111, 108, 100, 115, 32, 111, 102, 32]
def sComma : List UInt8 := [44, 32]
def sTruth : List UInt8 := [116, 114, 117, 116, 104, 32, 104, 111, 108, 100, 115]
def sFalsity : List UInt8 := [102, 97, 108, 115, 105, 116, 121, 32, 104, 111, 108, 100, 115]
def sNot : List UInt8 := [105, 116, 32, 105, 115, 32, 110, 111, 116, 32, 116, 104, 101, 32, 99, 97, 115, 101, 32, 116, 104, 97, 116, 32]
def sBoth : List UInt8 := [98, 111, 116, 104, 32]
def sAnd : List UInt8 := [32, 97, 110, 100, 32]
def sEither : List UInt8 := [101, 105, 116, 104, 101, 114, 32]
def sOr : List UInt8 := [32, 111, 114, 32]
def sIf : List UInt8 := [105, 102, 32]
def sThen : List UInt8 := [32, 116, 104, 101, 110, 32]
def sEvery : List UInt8 := [102, 111, 114, 32, 101, 118, 101, 114, 121, 32]
def sThere : List UInt8 := [116, 104, 101, 114, 101, 32, 105, 115, 32]
def sSuch : List UInt8 := [32, 115, 117, 99, 104, 32, 116, 104, 97, 116, 32]
def Tm.eng (t : Tm) : List UInt8 :=
  if t.n.data.toList = [61] then (match Tm.fmtL t.us with | a :: b :: _ => a ++ sEquals ++ b | _ => [])
  else if t.us.isEmpty then t.n.data.toList ++ sHolds
  else t.n.data.toList ++ sHoldsOf ++ joinB sComma (Tm.fmtL t.us)
mutual
def Fm.eng : Fm → List UInt8
  | .mk op a v ps =>
    if op = 1 then sTruth else if op = 2 then sFalsity else if op = 3 then a.eng
    else if op = 4 then sNot ++ Fm.engN 0 ps
    else if op = 5 then sBoth ++ Fm.engN 0 ps ++ sAnd ++ Fm.engN 1 ps
    else if op = 6 then sEither ++ Fm.engN 0 ps ++ sOr ++ Fm.engN 1 ps
    else if op = 7 then sIf ++ Fm.engN 0 ps ++ sThen ++ Fm.engN 1 ps
    else if op = 8 then sEvery ++ v.data.toList ++ sComma ++ Fm.engN 0 ps
    else sThere ++ v.data.toList ++ sSuch ++ Fm.engN 0 ps
def Fm.engN : Nat → List Fm → List UInt8
  | _, [] => []
  | 0, f :: _ => f.eng
  | n + 1, _ :: fs => Fm.engN n fs
end
def wordC (c : UInt8) : Bool := loC c || upC c || diC c || c == 95
structure PSt where
  pos : Nat
  bad : Bool
def pTake (L t : List UInt8) (p : PSt) : Bool := !p.bad && t.isPrefixOf (L.drop p.pos)
def pAdv (t : List UInt8) (p : PSt) : PSt := ⟨p.pos + t.length, p.bad⟩
def pMust (L t : List UInt8) (p : PSt) : PSt := if pTake L t p then pAdv t p else ⟨p.pos, true⟩
def pWordL (L : List UInt8) (p : PSt) : List UInt8 := (L.drop p.pos).takeWhile wordC
def pWord (L : List UInt8) (p : PSt) : List UInt8 × PSt :=
  if p.bad || (pWordL L p).isEmpty then ([], ⟨p.pos + (pWordL L p).length, true⟩) else (pWordL L p, ⟨p.pos + (pWordL L p).length, p.bad⟩)
mutual
def pTerm (L : List UInt8) : Nat → PSt → Tm × PSt
  | 0, p => (.mk ⟨#[]⟩ [], p)
  | f + 1, p =>
    if pTake L [40] (pWord L p).2 then
      (.mk ⟨(pWord L p).1.toArray⟩ ((pTerm L f (pAdv [40] (pWord L p).2)).1 :: (pArgs L [44] f (pTerm L f (pAdv [40] (pWord L p).2)).2).1), pMust L [41] (pArgs L [44] f (pTerm L f (pAdv [40] (pWord L p).2)).2).2)
    else (.mk ⟨(pWord L p).1.toArray⟩ [], (pWord L p).2)
def pArgs (L sep : List UInt8) : Nat → PSt → List Tm × PSt
  | 0, p => ([], p)
  | f + 1, p =>
    if pTake L sep p then ((pTerm L f (pAdv sep p)).1 :: (pArgs L sep f (pTerm L f (pAdv sep p)).2).1, (pArgs L sep f (pTerm L f (pAdv sep p)).2).2)
    else ([], p)
end
def eqTm (a b : Tm) : Tm := .mk ⟨#[61]⟩ [a, b]
def tm0 : Tm := .mk ⟨#[]⟩ []
def atomOfF (t : Tm) : Fm := .mk 3 t ⟨#[]⟩ []
def opF (op : Int) (ps : List Fm) : Fm := .mk op tm0 ⟨#[]⟩ ps
def quantF (op : Int) (v : List UInt8) (f : Fm) : Fm := .mk op tm0 ⟨v.toArray⟩ [f]
def pAtom (L : List UInt8) (f : Nat) (p : PSt) : Fm × PSt :=
  if pTake L sEquals (pTerm L f p).2 then
    (atomOfF (eqTm (pTerm L f p).1 (pTerm L f (pAdv sEquals (pTerm L f p).2)).1), (pTerm L f (pAdv sEquals (pTerm L f p).2)).2)
  else if pTake L sHoldsOf (pTerm L f p).2 then
    (atomOfF (.mk (pTerm L f p).1.n ((pTerm L f (pAdv sHoldsOf (pTerm L f p).2)).1 :: (pArgs L sComma f (pTerm L f (pAdv sHoldsOf (pTerm L f p).2)).2).1)), (pArgs L sComma f (pTerm L f (pAdv sHoldsOf (pTerm L f p).2)).2).2)
  else (atomOfF (pTerm L f p).1, pMust L sHolds (pTerm L f p).2)
def pEng (L : List UInt8) : Nat → PSt → Fm × PSt
  | 0, p => (opF 0 [], p)
  | f + 1, p =>
    let pair := fun (op : Int) (word : List UInt8) (q : PSt) => (opF op [(pEng L f q).1, (pEng L f (pMust L word (pEng L f q).2)).1], (pEng L f (pMust L word (pEng L f q).2)).2)
    let bound := fun (op : Int) (word : List UInt8) (q : PSt) => (quantF op (pWord L q).1 (pEng L f (pMust L word (pWord L q).2)).1, (pEng L f (pMust L word (pWord L q).2)).2)
    if pTake L sTruth p then (opF 1 [], pAdv sTruth p)
    else if pTake L sFalsity p then (opF 2 [], pAdv sFalsity p)
    else if pTake L sNot p then (opF 4 [(pEng L f (pAdv sNot p)).1], (pEng L f (pAdv sNot p)).2)
    else if pTake L sBoth p then pair 5 sAnd (pAdv sBoth p)
    else if pTake L sEither p then pair 6 sOr (pAdv sEither p)
    else if pTake L sIf p then pair 7 sThen (pAdv sIf p)
    else if pTake L sEvery p then bound 8 sComma (pAdv sEvery p)
    else if pTake L sThere p then bound 9 sSuch (pAdv sThere p)
    else pAtom L f p
/-! ### What is written is read back -/
theorem isPrefixOf_app (t R : List UInt8) : t.isPrefixOf (t ++ R) = true := by
  induction t with
  | nil => simp
  | cons c t ih => simp [ih]
theorem pTake_yes {L t R : List UInt8} {k : Nat} (h : L.drop k = t ++ R) : pTake L t ⟨k, false⟩ = true := by simp [pTake, h, isPrefixOf_app]
theorem drop_adv {L t R : List UInt8} {k : Nat} (h : L.drop k = t ++ R) : L.drop (k + t.length) = R := by
  rw [← List.drop_drop, h, List.drop_left]
theorem pMust_yes {L t R : List UInt8} {k : Nat} (h : L.drop k = t ++ R) : pMust L t ⟨k, false⟩ = ⟨k + t.length, false⟩ := by rw [pMust, if_pos (pTake_yes h)]; rfl
def stopC (R : List UInt8) : Prop := ∀ c, R.head? = some c → wordC c = false ∧ c ≠ 40
theorem takeWhile_app {p : UInt8 → Bool} {n R : List UInt8} (h : n.all p = true) (hR : ∀ c, R.head? = some c → p c = false) : (n ++ R).takeWhile p = n := by
  induction n with
  | nil =>
    cases R with
    | nil => rfl
    | cons c R => rw [List.nil_append, List.takeWhile_cons_of_neg]; simp [hR c rfl]
  | cons x n ih =>
    simp only [List.all_cons, Bool.and_eq_true] at h
    rw [List.cons_append, List.takeWhile_cons_of_pos h.1, ih h.2]
theorem pWord_ok {L n R : List UInt8} {k : Nat} (h : L.drop k = n ++ R) (hn : n.all wordC = true) (h0 : n ≠ []) (hR : ∀ c, R.head? = some c → wordC c = false) : pWord L ⟨k, false⟩ = (n, ⟨k + n.length, false⟩) := by
  have e : pWordL L ⟨k, false⟩ = n := by rw [pWordL]; show (L.drop k).takeWhile wordC = n; rw [h, takeWhile_app hn hR]
  rw [pWord, e, if_neg (by simpa using h0)]
theorem headTail_all {p q r : UInt8 → Bool} {l : List UInt8} (h : headTail p q l = true) (hp : ∀ c, p c = true → r c = true) (hq : ∀ c, q c = true → r c = true) : l.all r = true := by
  cases l with
  | nil => rfl
  | cons c l =>
    simp only [headTail, Bool.and_eq_true, List.all_cons, List.all_eq_true] at h ⊢
    exact ⟨hp c h.1, fun x hx => hq x (h.2 x hx)⟩
theorem varB_word {l : List UInt8} (h : varB l = true) : l.all wordC = true ∧ l ≠ [] := by
  simp only [varB, Bool.and_eq_true, decide_eq_true_eq] at h
  refine ⟨headTail_all h.2 (fun c hc => by simp [wordC, hc]) (fun c hc => ?_), fun e => by rw [e] at h; simp at h⟩
  simp only [smC, Bool.or_eq_true] at hc
  rcases hc with hc | hc <;> simp [wordC, hc]
theorem symB_word {l : List UInt8} (h : symB l = true) : l.all wordC = true ∧ l ≠ [] := by
  simp only [symB, Bool.and_eq_true, decide_eq_true_eq] at h
  refine ⟨headTail_all h.1.2 (fun c hc => by simp [wordC, hc]) (fun c hc => ?_), fun e => by rw [e] at h; simp at h⟩
  simp only [unC, smC, Bool.or_eq_true] at hc
  rcases hc with (hc | hc) | hc
  · simp [wordC, hc]
  · simp [wordC, hc]
  · simp only [wordC, hc, Bool.or_true]
theorem Tm.nodes_mk {n : ByteArray} {us : List Tm} (h : (Tm.mk n us).nodes = true) : (n.data.toList.all wordC = true ∧ n.data.toList ≠ []) ∧ Tm.nodess us = true := by
  rw [Tm.nodes] at h
  split at h
  · rename_i hv
    cases us with
    | nil => exact ⟨varB_word hv, rfl⟩
    | cons a us => simp at h
  · simp only [Bool.and_eq_true] at h
    exact ⟨symB_word h.1.1, h.2⟩
theorem word_not61 {l : List UInt8} (h : l.all wordC = true ∧ l ≠ []) : l ≠ [61] := by
  rintro rfl; exact absurd h.1 (by decide)
theorem Tm.fmt_mk {n : ByteArray} {us : List Tm} (h : n.data.toList ≠ [61]) : (Tm.mk n us).fmt = if us.isEmpty then n.data.toList else n.data.toList ++ [40] ++ joinB [44] (Tm.fmtL us) ++ [41] := by
  cases us <;> simp only [Tm.fmt, if_neg h] <;> rfl
def sepAll (sep : List UInt8) : List Tm → List UInt8
  | [] => []
  | t :: us => sep ++ t.fmt ++ sepAll sep us
theorem joinB_cons (sep : List UInt8) (a : Tm) (us : List Tm) : joinB sep (Tm.fmtL (a :: us)) = a.fmt ++ sepAll sep us := by
  induction us generalizing a with
  | nil => simp [Tm.fmtL, joinB, sepAll]
  | cons b us ih =>
    have := ih b
    rw [Tm.fmtL] at this
    rw [Tm.fmtL, Tm.fmtL, joinB, this, sepAll]
    simp [List.append_assoc]
theorem stop_sep {sep R : List UInt8} {us : List Tm} (hs : stopC sep) (h0 : sep ≠ []) (hR : stopC R) : stopC (sepAll sep us ++ R) := by
  cases us with
  | nil => exact hR
  | cons a us =>
    intro c hc
    apply hs
    cases sep with
    | nil => exact absurd rfl h0
    | cons x s => simpa [sepAll] using hc
mutual
theorem pTerm_ok {L : List UInt8} : ∀ (f : Nat) (t : Tm) (k : Nat) (R : List UInt8), t.nodes = true → L.drop k = t.fmt ++ R → stopC R → t.fmt.length < f → pTerm L f ⟨k, false⟩ = (t, ⟨k + t.fmt.length, false⟩)
  | 0, _, _, _, _, _, _, h => absurd h (by omega)
  | f + 1, .mk n us, k, R, hn, hL, hR, hf => by
    have h1 := Tm.nodes_mk hn
    have hm := Tm.fmt_mk (us := us) (word_not61 h1.1)
    cases us with
    | nil =>
      rw [if_pos (by rfl)] at hm
      rw [hm] at hL ⊢
      have hw := pWord_ok hL h1.1.1 h1.1.2 (fun c hc => (hR c hc).1)
      rw [pTerm, hw]
      have hno : pTake L [40] ⟨k + n.data.toList.length, false⟩ = false := by
        have := drop_adv hL
        simp only [pTake, this]
        cases R with
        | nil => rfl
        | cons c R => simp [List.isPrefixOf, (hR c rfl).2.symm]
      rw [hno]; rfl
    | cons a us =>
      rw [if_neg (by simp), joinB_cons] at hm
      have h2 : a.nodes = true ∧ Tm.nodess us = true := by simpa [Tm.nodess] using h1.2
      have hlen : (Tm.mk n (a :: us)).fmt.length = n.data.toList.length + 1 + a.fmt.length + (sepAll [44] us).length + 1 := by rw [hm]; simp; omega
      have e0 : L.drop k = n.data.toList ++ ([40] ++ (a.fmt ++ (sepAll [44] us ++ ([41] ++ R)))) := by rw [hL, hm]; simp [List.append_assoc]
      have hw := pWord_ok e0 h1.1.1 h1.1.2 (fun c hc => by simp at hc; subst hc; decide)
      have e1 := drop_adv e0
      have e2 := drop_adv e1
      have e3 := drop_adv e2
      have e4 := drop_adv e3
      have s41 : stopC ([41] ++ R) := by intro c hc; simp at hc; subst hc; decide
      have s44 : stopC [44] := by intro c hc; simp at hc; subst hc; decide
      have ha := pTerm_ok f a _ _ h2.1 e2 (stop_sep s44 (by simp) s41) (by omega)
      have hb := pArgs_ok f [44] us _ ([41] ++ R) h2.2 e3 s44 (by simp) s41 (by simp [List.isPrefixOf]) (by omega)
      rw [pTerm, hw, if_pos (pTake_yes e1)]
      simp only [pAdv] at ha hb ⊢
      rw [ha, hb, pMust_yes e4, hlen]
      simp only [List.length_cons, List.length_nil]
      refine Prod.ext rfl ?_
      show PSt.mk _ _ = PSt.mk _ _
      congr 1
      omega
theorem pArgs_ok {L : List UInt8} : ∀ (f : Nat) (sep : List UInt8) (us : List Tm) (k : Nat) (R : List UInt8), Tm.nodess us = true → L.drop k = sepAll sep us ++ R → stopC sep → sep ≠ [] → stopC R → sep.isPrefixOf R = false → (sepAll sep us).length < f →
    pArgs L sep f ⟨k, false⟩ = (us, ⟨k + (sepAll sep us).length, false⟩)
  | 0, _, _, _, _, _, _, _, _, _, _, h => absurd h (by omega)
  | f + 1, sep, [], k, R, hn, hL, hs, h0, hR, hp, hf => by
    rw [pArgs]
    have : pTake L sep ⟨k, false⟩ = false := by simp only [pTake, hL]; simpa [sepAll] using hp
    rw [this]; rfl
  | f + 1, sep, a :: us, k, R, hn, hL, hs, h0, hR, hp, hf => by
    have h2 : a.nodes = true ∧ Tm.nodess us = true := by simpa [Tm.nodess] using hn
    have e0 : L.drop k = sep ++ (a.fmt ++ (sepAll sep us ++ R)) := by rw [hL, sepAll]; simp [List.append_assoc]
    have e1 := drop_adv e0
    have e2 := drop_adv e1
    have hl : 0 < sep.length := List.length_pos_iff.2 h0
    rw [sepAll] at hf ⊢
    simp only [List.length_append] at hf ⊢
    have ha := pTerm_ok f a _ _ h2.1 e1 (stop_sep hs h0 hR) (by omega)
    have hb := pArgs_ok f sep us _ R h2.2 e2 hs h0 hR hp (by omega)
    rw [pArgs, if_pos (pTake_yes e0)]
    simp only [pAdv] at ha hb ⊢
    rw [ha, hb]
    refine Prod.ext rfl ?_
    show PSt.mk _ _ = PSt.mk _ _
    congr 1
    omega
end
end Go.Proofs.YtkgfanajgdelcaaGreat
