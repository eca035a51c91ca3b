import Derived.Test.YtkgfanajgdelcaaGreatEnPart2
namespace Go.Proofs.YtkgfanajgdelcaaGreat
set_option maxRecDepth 100000
open Go.RowKit
theorem Tm.szs_drop (us : List Tm) {k : Nat} (h : k < us.length) : Tm.szs (us.drop k) = us[k].sz + Tm.szs (us.drop (k + 1)) := by
  rw [List.drop_eq_getElem_cons h, Tm.szs]
theorem Tm.szIs_drop (us : List Tm) {k : Nat} (h : k < us.length) (n : Nat) : Tm.szIs n (us.drop k) = if 30 < n then n else Tm.szIs (n + us[k].szI) (us.drop (k + 1)) := by
  rw [List.drop_eq_getElem_cons h, Tm.szIs]
theorem Tm.manys_drop (us : List Tm) {k : Nat} (h : k < us.length) (n m : Nat) : Tm.manys n (us.drop k) m = if n ≤ m then Tm.manys (n + us[k].many (m - n)) (us.drop (k + 1)) m else n := by
  rw [List.drop_eq_getElem_cons h, Tm.manys]
theorem Tm.dps_drop (us : List Tm) {k : Nat} (h : k < us.length) : Tm.dps (us.drop k) = max us[k].dp (Tm.dps (us.drop (k + 1))) := by
  rw [List.drop_eq_getElem_cons h, Tm.dps]
set_option maxHeartbeats 1600000 in
theorem size_any {B : Nat → Prop} : ∀ (m : Nat) (t : Tm) (v0 v1 : Value) (w : World), TmAt B m w t [v0, v1] → t.sz ≤ 100000000 →
      Calls Tryz.prog 126 #[.agg #[v0, v1]] w fun e w' => e = .returned (.int .i64 (t.szI : Nat)) ∧ Below w.heap.size w w' := by
  intro m
  induction m with
  | zero => intro t v0 v1 w h; exact h.elim
  | succ m ih =>
    rintro ⟨s, us⟩ v0 v1 w ⟨va, hcs, hs, hl⟩ hz
    simp only [List.cons.injEq, and_true] at hcs
    obtain ⟨rfl, rfl⟩ := hcs
    rw [Tm.sz] at hz
    obtain ⟨p, c, rfl, hlen⟩ := hl.form
    unfold maxLen at hlen
    have IH := Lib.hid ih
    have HL := Lib.hid hl
    have HSZ := Lib.hid (show (Tm.mk s us).szI = Tm.szIs 1 us from rfl)
    clear ih hl
    go_enter Tryz.func126, Tryz.ntmps126
    go_wp2
    go_loopw [3, 9] (fun n i wr => ∃ k acc : Nat, k ≤ us.length ∧ i = .int .i64 k ∧ n = .int .i64 acc ∧ Tm.szIs acc (us.drop k) = Tm.szIs 1 us ∧ acc + Tm.szs (us.drop k) ≤ 1 + Tm.szs us ∧ Below w.heap.size w wr) (fun _ i _ => us.length - (intOf i).toNat)
    case atStart => exact ⟨0, 1, Nat.zero_le _, rfl, rfl, rfl, Nat.le_refl _, by exact bel⟩
    case round =>
      obtain ⟨k, acc, hk, rfl, rfl, he, hle, hb⟩ := hrel
      have HE := Lib.hid he
      clear he
      by_cases hlt : k < us.length
      · obtain ⟨b, o, rfl, hB, x0, x1, hx0, hx1, hx⟩ := (HL.out.mono (SameOn.below hb) (fun _ h => h) (fun x cs _ hx => TmAt.below hb hx)).at2 hlt
        obtain ⟨pa, ca, rfl, rfl, -, -⟩ := hx.form
        have HD := Lib.hid (Tm.szIs_drop us hlt acc)
        have HZ := Lib.hid (Tm.szs_drop us hlt)
        obtain ⟨a, ha⟩ : ∃ a, us[k] = a := ⟨_, rfl⟩
        rw [ha] at hx HD HZ hx0 hx1
        have HX := Lib.hid hx
        have hlaw := a.szI_law
        have hzz := HZ.out
        rw [hzz] at hle
        clear hx ha hzz
        by_cases h30 : 30 < (acc : Int)
        · go_wp2
          go_ret
          exact ⟨ret_int (by rw [HSZ.out, ← HE.out, HD.out, if_pos (by omega)]), by exact bel⟩
        · go_wp2_with fail
          refine (IH.out a _ _ _ (HX.out.below (by exact bel)) (by omega)).mono ?_
          rintro e w1 ⟨rfl, hb1⟩
          have ⟨cw1, fw1⟩ := bcell hb1
          have qw1 := hb1.size
          (try simp at qw1)
          (try have zw1w := bsz (show w.heap.size < w1.heap.size by omega))
          go_wp2
          refine ⟨⟨k + 1, acc + a.szI, by omega, by go_num, by go_num, ?_, by omega, by exact bel⟩, by simp [intOf]; omega⟩
          rw [← HE.out, HD.out, if_neg (by omega)]
      · obtain rfl : k = us.length := by omega
        have he := HE.out
        rw [List.drop_length, Tm.szIs] at he
        have HE2 := Lib.hid he
        clear he
        go_wp2
        go_ret
        exact ⟨ret_int (by rw [HSZ.out, ← HE2.out]), by exact bel⟩
set_option maxHeartbeats 1600000 in
theorem depth_any {B : Nat → Prop} : ∀ (m : Nat) (t : Tm) (v0 v1 : Value) (w : World), TmAt B m w t [v0, v1] → t.sz ≤ 100000000 →
      Calls Tryz.prog 127 #[.agg #[v0, v1]] w fun e w' => e = .returned (.int .i64 (t.dp : Nat)) ∧ Below w.heap.size w w' := by
  intro m
  induction m with
  | zero => intro t v0 v1 w h; exact h.elim
  | succ m ih =>
    rintro ⟨s, us⟩ v0 v1 w ⟨va, hcs, hs, hl⟩ hz
    simp only [List.cons.injEq, and_true] at hcs
    obtain ⟨rfl, rfl⟩ := hcs
    rw [Tm.sz] at hz
    obtain ⟨p, c, rfl, hlen⟩ := hl.form
    unfold maxLen at hlen
    have IH := Lib.hid ih
    have HL := Lib.hid hl
    have HSZ := Lib.hid (show (Tm.mk s us).dp = Tm.dps us + 1 from rfl)
    clear ih hl
    go_enter Tryz.func127, Tryz.ntmps127
    go_wp2
    go_loopw [3, 9] (fun n i wr => ∃ k acc : Nat, k ≤ us.length ∧ i = .int .i64 k ∧ n = .int .i64 acc ∧ max acc (Tm.dps (us.drop k)) = Tm.dps us ∧ acc + Tm.szs (us.drop k) ≤ Tm.szs us ∧ Below w.heap.size w wr) (fun _ i _ => us.length - (intOf i).toNat)
    case atStart => exact ⟨0, 0, Nat.zero_le _, rfl, rfl, by simp, by simp, by exact bel⟩
    case round =>
      obtain ⟨k, acc, hk, rfl, rfl, he, hle, hb⟩ := hrel
      have HE := Lib.hid he
      clear he
      by_cases hlt : k < us.length
      · obtain ⟨b, o, rfl, hB, x0, x1, hx0, hx1, hx⟩ := (HL.out.mono (SameOn.below hb) (fun _ h => h) (fun x cs _ hx => TmAt.below hb hx)).at2 hlt
        obtain ⟨pa, ca, rfl, rfl, -, -⟩ := hx.form
        have HD := Lib.hid (Tm.dps_drop us hlt)
        have HZ := Lib.hid (Tm.szs_drop us hlt)
        obtain ⟨a, ha⟩ : ∃ a, us[k] = a := ⟨_, rfl⟩
        rw [ha] at hx HD HZ hx0 hx1
        have HX := Lib.hid hx
        have hlaw := a.dp_le
        have hzz := HZ.out
        rw [hzz] at hle
        clear hx ha hzz
        go_wp2_with fail
        refine (IH.out a _ _ _ (HX.out.below (by exact bel)) (by omega)).mono ?_
        rintro e w1 ⟨rfl, hb1⟩
        have ⟨cw1, fw1⟩ := bcell hb1
        have qw1 := hb1.size
        (try simp at qw1)
        (try have zw1w := bsz (show w.heap.size < w1.heap.size by omega))
        go_wp2
        refine ⟨⟨k + 1, max acc a.dp, by omega, by go_num, ?_, ?_, by omega, by exact bel⟩, by simp [intOf]; omega⟩
        · exact congrArg (Value.int .i64) (by omega)
        · rw [← HE.out, HD.out]; omega
      · obtain rfl : k = us.length := by omega
        have he := HE.out
        rw [List.drop_length, Tm.dps] at he
        have HE2 := Lib.hid he
        clear he
        go_wp2
        go_ret
        exact ⟨ret_int (by rw [HSZ.out, ← HE2.out]; omega), by exact bel⟩
theorem l1Most_any (a b : Int) (w : World) : Calls Tryz.prog 138 #[.int .i64 a, .int .i64 b] w fun e w' => e = .returned (.int .i64 (max a b)) ∧ w = w' := by
  by_cases h : b < a
  all_goals
    go_enter Tryz.func138, Tryz.ntmps138
    go_wp2
    go_ret
    exact ⟨ret_int (by omega), rfl⟩
set_option maxHeartbeats 1600000 in
theorem l2Depth_any {B : Nat → Prop} : ∀ (m : Nat) (t : Tm) (v0 v1 : Value) (w : World), TmAt B m w t [v0, v1] → t.sz ≤ 100000000 →
      Calls Tryz.prog 121 #[.agg #[v0, v1]] w fun e w' => e = .returned (.int .i64 (t.dp : Nat)) ∧ Below w.heap.size w w' := by
  intro m
  induction m with
  | zero => intro t v0 v1 w h; exact h.elim
  | succ m ih =>
    rintro ⟨s, us⟩ v0 v1 w ⟨va, hcs, hs, hl⟩ hz
    simp only [List.cons.injEq, and_true] at hcs
    obtain ⟨rfl, rfl⟩ := hcs
    rw [Tm.sz] at hz
    obtain ⟨p, c, rfl, hlen⟩ := hl.form
    unfold maxLen at hlen
    have IH := Lib.hid ih
    have HL := Lib.hid hl
    have HSZ := Lib.hid (show (Tm.mk s us).dp = Tm.dps us + 1 from rfl)
    clear ih hl
    go_enter Tryz.func121, Tryz.ntmps121
    go_wp2
    obtain ⟨W, hW⟩ : ∃ W, W = w.alloc (.cells #[.string s, .slice p us.length c] 26) := ⟨_, rfl⟩
    have hw0 : W.cell? ⟨w.heap.size, 1, none⟩ = some (.slice p us.length c) := by rw [hW]; go_simp
    have hbW : Below w.heap.size w W := by rw [hW]; exact bel
    rw [← hW]
    clear hW
    go_loopw [3, 4] (fun n i wr => ∃ k acc : Nat, k ≤ us.length ∧ i = .int .i64 k ∧ n = .int .i64 acc ∧ max acc (Tm.dps (us.drop k)) = Tm.dps us ∧ acc + Tm.szs (us.drop k) ≤ Tm.szs us ∧ Below W.heap.size W wr) (fun _ i _ => us.length - (intOf i).toNat)
    case atStart => exact ⟨0, 0, Nat.zero_le _, rfl, rfl, by simp, by simp, Below.refl _ _⟩
    case round =>
      obtain ⟨k, acc, hk, rfl, rfl, he, hle, hbr⟩ := hrel
      have HE := Lib.hid he
      clear he
      have hb := Below.step hbW hbr
      have hw1 : wr.cell? ⟨w.heap.size, 1, none⟩ = some (.slice p us.length c) := (hbr.cell (World.block_lt_of_cell? W _ hw0)).trans hw0
      by_cases hlt : k < us.length
      · obtain ⟨b, o, rfl, hB, x0, x1, hx0, hx1, hx⟩ := (HL.out.mono (SameOn.below hb) (fun _ h => h) (fun x cs _ hx => TmAt.below hb hx)).at2 hlt
        obtain ⟨pa, ca, rfl, rfl, -, -⟩ := hx.form
        have HD := Lib.hid (Tm.dps_drop us hlt)
        have HZ := Lib.hid (Tm.szs_drop us hlt)
        obtain ⟨a, ha⟩ : ∃ a, us[k] = a := ⟨_, rfl⟩
        rw [ha] at hx HD HZ hx0 hx1
        have HX := Lib.hid hx
        have hlaw := a.dp_le
        have hzz := HZ.out
        rw [hzz] at hle
        clear hx ha hzz
        go_wp2_with fail
        refine (IH.out a _ _ _ HX.out (by omega)).mono ?_
        rintro e w1 ⟨rfl, hb1⟩
        have ⟨cw1, fw1⟩ := bcell hb1
        have qw1 := hb1.size
        (try simp at qw1)
        (try have zw1w := bsz (show w.heap.size < w1.heap.size by omega))
        have hbb := Below.step hbr hb1
        go_wp2_with ((go_at_call 138; refine (l1Most_any _ _ _).mono ?_; rintro e w' ⟨rfl, rfl⟩))
        refine ⟨⟨k + 1, max acc a.dp, by omega, by go_num, ?_, ?_, by omega, hbb⟩, by simp [intOf]; omega⟩
        · exact congrArg (Value.int .i64) (by omega)
        · rw [← HE.out, HD.out]; omega
      · obtain rfl : k = us.length := by omega
        have he := HE.out
        rw [List.drop_length, Tm.dps] at he
        have HE2 := Lib.hid he
        clear he
        go_wp2
        go_ret
        exact ⟨ret_int (by rw [HSZ.out, ← HE2.out]; omega), hb⟩
set_option maxHeartbeats 1600000 in
theorem l2Many_any {B : Nat → Prop} : ∀ (m : Nat) (t : Tm) (v0 v1 : Value) (M : Nat) (z : Int) (w : World), TmAt B m w t [v0, v1] → t.sz ≤ 100000000 → z = (M : Int) → M ≤ 1000 →
      Calls Tryz.prog 120 #[.agg #[v0, v1], .int .i64 z] w fun e w' => e = .returned (.int .i64 (t.many M : Nat)) ∧ Below w.heap.size w w' := by
  intro m
  induction m with
  | zero => intro t v0 v1 M z w h; exact h.elim
  | succ m ih =>
    rintro ⟨s, us⟩ v0 v1 M z w ⟨va, hcs, hs, hl⟩ hz rfl hM
    simp only [List.cons.injEq, and_true] at hcs
    obtain ⟨rfl, rfl⟩ := hcs
    rw [Tm.sz] at hz
    obtain ⟨p, c, rfl, hlen⟩ := hl.form
    unfold maxLen at hlen
    have IH := Lib.hid ih
    have HL := Lib.hid hl
    have HSZ := Lib.hid (show (Tm.mk s us).many M = Tm.manys 1 us M from rfl)
    clear ih hl
    go_enter Tryz.func120, Tryz.ntmps120
    go_wp2
    obtain ⟨W, hW⟩ : ∃ W, W = w.alloc (.cells #[.string s, .slice p us.length c] 26) := ⟨_, rfl⟩
    have hw0 : W.cell? ⟨w.heap.size, 1, none⟩ = some (.slice p us.length c) := by rw [hW]; go_simp
    have hbW : Below w.heap.size w W := by rw [hW]; exact bel
    rw [← hW]
    clear hW
    go_loopw [5, 6] (fun n i wr => ∃ k acc : Nat, k ≤ us.length ∧ i = .int .i64 k ∧ n = .int .i64 acc ∧ Tm.manys acc (us.drop k) M = Tm.manys 1 us M ∧ acc + Tm.szs (us.drop k) ≤ 1 + Tm.szs us ∧ Below W.heap.size W wr) (fun _ i _ => us.length - (intOf i).toNat)
    case atStart => exact ⟨0, 1, Nat.zero_le _, rfl, rfl, rfl, Nat.le_refl _, Below.refl _ _⟩
    case round =>
      obtain ⟨k, acc, hk, rfl, rfl, he, hle, hbr⟩ := hrel
      have HE := Lib.hid he
      clear he
      have hb := Below.step hbW hbr
      have hw1 : wr.cell? ⟨w.heap.size, 1, none⟩ = some (.slice p us.length c) := (hbr.cell (World.block_lt_of_cell? W _ hw0)).trans hw0
      by_cases hlt : k < us.length
      · obtain ⟨b, o, rfl, hB, x0, x1, hx0, hx1, hx⟩ := (HL.out.mono (SameOn.below hb) (fun _ h => h) (fun x cs _ hx => TmAt.below hb hx)).at2 hlt
        obtain ⟨pa, ca, rfl, rfl, -, -⟩ := hx.form
        have HD := Lib.hid (Tm.manys_drop us hlt acc M)
        have HZ := Lib.hid (Tm.szs_drop us hlt)
        obtain ⟨a, ha⟩ : ∃ a, us[k] = a := ⟨_, rfl⟩
        rw [ha] at hx HD HZ hx0 hx1
        have HX := Lib.hid hx
        have hlaw := a.many_law (M - acc)
        have hzz := HZ.out
        rw [hzz] at hle
        clear hx ha hzz
        by_cases hac : acc ≤ M
        · have hac1 : (acc : Int) ≤ (M : Int) := by omega
          go_wp2_with fail
          refine (IH.out a _ _ (M - acc) _ _ HX.out (by omega) (by omega) (by omega)).mono ?_
          rintro e w1 ⟨rfl, hb1⟩
          have ⟨cw1, fw1⟩ := bcell hb1
          have qw1 := hb1.size
          (try simp at qw1)
          (try have zw1w := bsz (show w.heap.size < w1.heap.size by omega))
          have hbb := Below.step hbr hb1
          go_wp2
          refine ⟨⟨k + 1, acc + a.many (M - acc), by omega, by go_num, by go_num, ?_, by omega, hbb⟩, by simp [intOf]; omega⟩
          rw [← HE.out, HD.out, if_pos hac]
        · have hac1 : ¬ (acc : Int) ≤ (M : Int) := by omega
          go_wp2
          go_ret
          exact ⟨ret_int (by rw [HSZ.out, ← HE.out, HD.out, if_neg hac]), hb⟩
      · obtain rfl : k = us.length := by omega
        have he := HE.out
        rw [List.drop_length, Tm.manys] at he
        have HE2 := Lib.hid he
        clear he
        go_wp2
        go_ret
        exact ⟨ret_int (by rw [HSZ.out, ← HE2.out]), hb⟩
theorem Tm.nodess_drop (us : List Tm) {k : Nat} (h : k < us.length) : Tm.nodess (us.drop k) = (us[k].nodes && Tm.nodess (us.drop (k + 1))) := by
  rw [List.drop_eq_getElem_cons h, Tm.nodess]
theorem hasNames1_of {B : Nat → Prop} (m : Nat) (ih : ∀ (t : Tm) (v0 v1 : Value) (w : World), TmAt B m w t [v0, v1] →
      Calls Tryz.prog 101 #[.agg #[v0, v1]] w fun e w' => e = .returned (.bool t.nodes) ∧ Below w.heap.size w w')
    (t : Tm) (v0 v1 : Value) (w : World) (h : TmAt B m w t [v0, v1]) :
    Calls Tryz.prog 129 #[.agg #[v0, v1]] w fun e w' => e = .returned (.bool (!t.nodes)) ∧ Below w.heap.size w w' := by
  obtain ⟨p, c, rfl, rfl, -, -⟩ := h.form
  have H := Lib.hid h
  have IH := Lib.hid ih
  clear h ih
  go_enter Tryz.func129, Tryz.ntmps129
  go_wp2_with fail
  refine (IH.out t _ _ _ (H.out.below (by exact bel))).mono ?_
  rintro e w1 ⟨rfl, hb1⟩
  have ⟨cw1, fw1⟩ := bcell hb1
  have qw1 := hb1.size
  (try simp at qw1)
  (try have zw1w := bsz (show w.heap.size < w1.heap.size by omega))
  go_wp2
  go_ret
  exact ⟨rfl, by exact bel⟩
def FirstBad (us : List Tm) (w : World) (e : Ending) (w' : World) : Prop := ∃ r : Int, e = .returned (.int .i64 r) ∧ decide (0 ≤ r) = !Tm.nodess us ∧ Below w.heap.size w w'
set_option maxHeartbeats 1600000 in
theorem indexNames_of {B : Nat → Prop} (m : Nat) (ih : ∀ (t : Tm) (v0 v1 : Value) (w : World), TmAt B m w t [v0, v1] →
      Calls Tryz.prog 101 #[.agg #[v0, v1]] w fun e w' => e = .returned (.bool t.nodes) ∧ Below w.heap.size w w')
    (us : List Tm) (va : Value) (w : World) (h : ListAt B w 2 (TmAt B m w) va us) :
    Calls Tryz.prog 139 #[va, .func (.func 129) #[] #[]] w (FirstBad us w) := by
  obtain ⟨p, c, rfl, hlen⟩ := h.form
  unfold maxLen at hlen
  have H := Lib.hid h
  have HN1 := Lib.hid (hasNames1_of m ih)
  clear h ih
  go_enter Tryz.func139, Tryz.ntmps139
  go_wp2
  go_loopw [8] (fun i wr => ∃ k : Nat, k ≤ us.length ∧ i = .int .i64 k ∧ Tm.nodess us = Tm.nodess (us.drop k) ∧ Below w.heap.size w wr) (fun i _ => us.length - (intOf i).toNat)
  case atStart => exact ⟨0, Nat.zero_le _, rfl, rfl, by exact bel⟩
  case round =>
    obtain ⟨k, hk, rfl, he, hb⟩ := hrel
    have HE := Lib.hid he
    clear he
    by_cases hlt : k < us.length
    · obtain ⟨b, o, rfl, hB, x0, x1, hx0, hx1, hx⟩ := (H.out.mono (SameOn.below hb) (fun _ h => h) (fun x cs _ hx => TmAt.below hb hx)).at2 hlt
      obtain ⟨pa, ca, rfl, rfl, -, -⟩ := hx.form
      have HD := Lib.hid (Tm.nodess_drop us hlt)
      obtain ⟨a, ha⟩ : ∃ a, us[k] = a := ⟨_, rfl⟩
      rw [ha] at hx HD hx0 hx1
      have HX := Lib.hid hx
      clear hx ha
      cases hN : a.nodes
      all_goals
        have HN := Lib.hid hN
        go_wp2_with fail
        refine (HN1.out a _ _ _ HX.out).mono ?_
        rintro e w1 ⟨rfl, hb1⟩
        have ⟨cw1, fw1⟩ := bcell hb1
        have qw1 := hb1.size
        (try simp at qw1)
        (try have zw1w := bsz (show w.heap.size < w1.heap.size by omega))
        rw [HN.out]
        go_wp2
      · go_ret
        exact ⟨k, rfl, by rw [HE.out, HD.out, HN.out]; simp, by exact bel⟩
      · refine ⟨⟨k + 1, by omega, by go_num, ?_, by exact bel⟩, by simp [intOf]; omega⟩
        rw [HE.out, HD.out, HN.out]; rfl
    · obtain rfl : k = us.length := by omega
      have he := HE.out
      rw [List.drop_length, Tm.nodess] at he
      have HE2 := Lib.hid he
      clear he
      go_wp2
      go_ret
      exact ⟨-1, rfl, by rw [HE2.out]; rfl, by exact bel⟩
set_option maxHeartbeats 1600000 in
theorem containsNames_of {B : Nat → Prop} (m : Nat) (ih : ∀ (t : Tm) (v0 v1 : Value) (w : World), TmAt B m w t [v0, v1] →
      Calls Tryz.prog 101 #[.agg #[v0, v1]] w fun e w' => e = .returned (.bool t.nodes) ∧ Below w.heap.size w w')
    (us : List Tm) (va : Value) (w : World) (h : ListAt B w 2 (TmAt B m w) va us) :
    Calls Tryz.prog 128 #[va, .func (.func 129) #[] #[]] w fun e w' => e = .returned (.bool (!Tm.nodess us)) ∧ Below w.heap.size w w' := by
  have H := Lib.hid h
  have IH := Lib.hid (indexNames_of m ih)
  clear h ih
  go_enter Tryz.func128, Tryz.ntmps128
  go_wp2_with fail
  refine (IH.out us va _ H.out).mono ?_
  rintro e w1 ⟨r, rfl, hr, hb1⟩
  have HR := Lib.hid hr
  clear hr
  go_wp2
  go_ret
  exact ⟨ret_bool HR.out, hb1⟩
set_option maxHeartbeats 1600000 in
theorem hasNames_any {B : Nat → Prop} : ∀ (m : Nat) (t : Tm) (v0 v1 : Value) (w : World), TmAt B m w t [v0, v1] →
      Calls Tryz.prog 101 #[.agg #[v0, v1]] w fun e w' => e = .returned (.bool t.nodes) ∧ Below w.heap.size w w' := by
  intro m
  induction m with
  | zero => intro t v0 v1 w h; exact h.elim
  | succ m ih =>
    rintro ⟨s, us⟩ v0 v1 w ⟨va, hcs, hs, hl⟩
    simp only [List.cons.injEq, and_true] at hcs
    obtain ⟨rfl, rfl⟩ := hcs
    obtain ⟨p, c, rfl, hlen⟩ := hl.form
    unfold maxLen at hlen
    have IH := Lib.hid (containsNames_of m ih)
    have HL := Lib.hid hl
    have HS := Lib.hid hs
    have HN := Lib.hid (show (Tm.mk s us).nodes = if varB s.data.toList then us.isEmpty else symB s.data.toList && decide (us.length ≤ 4) && Tm.nodess us from rfl)
    clear ih hl hs
    cases hv : varB s.data.toList
    · have HV := Lib.hid hv
      cases hy : symB s.data.toList
      · have HY := Lib.hid hy
        go_enter Tryz.func101, Tryz.ntmps101
        go_wp2_with (first | (go_at_call 62; refine (isVariable_any _ _ HS.out).mono ?_; rintro e w' ⟨rfl, rfl⟩) | (go_at_call 102; refine (isSymbol_any _ _ HS.out).mono ?_; rintro e w1 ⟨rfl, hb1⟩; have ⟨cw1, fw1⟩ := bcell hb1; have qw1 := hb1.size; (try simp at qw1); (try have zw1w := bsz (show w.heap.size < w1.heap.size by omega))))
        go_ret
        exact ⟨ret_bool (by rw [HN.out, HV.out, HY.out]; rfl), by exact bel⟩
      · have HY := Lib.hid hy
        by_cases h4 : (us.length : Int) ≤ 4
        · have H4 := Lib.hid (show decide (us.length ≤ 4) = true by simp; omega)
          go_enter Tryz.func101, Tryz.ntmps101
          go_wp2_with (first | (go_at_call 62; refine (isVariable_any _ _ HS.out).mono ?_; rintro e w' ⟨rfl, rfl⟩) | (go_at_call 102; refine (isSymbol_any _ _ HS.out).mono ?_; rintro e w1 ⟨rfl, hb1⟩; have ⟨cw1, fw1⟩ := bcell hb1; have qw1 := hb1.size; (try simp at qw1); (try have zw1w := bsz (show w.heap.size < w1.heap.size by omega))) | (go_at_call 128; refine (IH.out us _ _ (HL.out.mono (SameOn.below (by (repeat (first | with_reducible (first | exact bR _ _ | assumption | refine bA ?_ _ | refine bS ?_ (by first | exact Nat.le_refl _ | (simp; done) | (simp; omega)) _) | assumption | exact bR _ _ | refine bD ?_ | refine bN ?_ _ | refine bT ?_ (by assumption))))) (fun _ h => h) (fun x cs _ hx => TmAt.below (by (repeat (first | with_reducible (first | exact bR _ _ | assumption | refine bA ?_ _ | refine bS ?_ (by first | exact Nat.le_refl _ | (simp; done) | (simp; omega)) _) | assumption | exact bR _ _ | refine bD ?_ | refine bN ?_ _ | refine bT ?_ (by assumption)))) hx))).mono ?_; rintro e w2 ⟨rfl, hb2⟩; have ⟨cw2, fw2⟩ := bcell hb2; have qw2 := hb2.size; (try simp at qw2); (try have zw2w := bsz (show w.heap.size < w2.heap.size by omega)); (try have zw2w1 := bsz (show w1.heap.size < w2.heap.size by omega))))
          go_ret
          exact ⟨ret_bool (by rw [HN.out, HV.out, HY.out, H4.out]; simp), by exact bel⟩
        · have H4 := Lib.hid (show decide (us.length ≤ 4) = false by simp; omega)
          go_enter Tryz.func101, Tryz.ntmps101
          go_wp2_with (first | (go_at_call 62; refine (isVariable_any _ _ HS.out).mono ?_; rintro e w' ⟨rfl, rfl⟩) | (go_at_call 102; refine (isSymbol_any _ _ HS.out).mono ?_; rintro e w1 ⟨rfl, hb1⟩; have ⟨cw1, fw1⟩ := bcell hb1; have qw1 := hb1.size; (try simp at qw1); (try have zw1w := bsz (show w.heap.size < w1.heap.size by omega))))
          go_ret
          exact ⟨ret_bool (by rw [HN.out, HV.out, HY.out, H4.out]; rfl), by exact bel⟩
    · have HV := Lib.hid hv
      have HE := Lib.hid (show us.isEmpty = ((us.length : Int) == 0) by cases us <;> simp; omega)
      go_enter Tryz.func101, Tryz.ntmps101
      go_wp2_with (first | (go_at_call 62; refine (isVariable_any _ _ HS.out).mono ?_; rintro e w' ⟨rfl, rfl⟩))
      go_ret
      exact ⟨ret_bool (by rw [HN.out, HV.out, if_pos rfl, HE.out]), by exact bel⟩
theorem isEmpty_int {α : Type} (us : List α) : us.isEmpty = ((us.length : Int) == 0) := by cases us <;> simp; omega
set_option maxHeartbeats 1600000 in
theorem l2Nodes_any {B : Nat → Prop} : ∀ (m : Nat) (t : Tm) (v0 v1 : Value) (w : World), TmAt B m w t [v0, v1] →
      Calls Tryz.prog 88 #[.agg #[v0, v1]] w fun e w' => e = .returned (.bool t.nodes) ∧ Below w.heap.size w w' := by
  intro m
  induction m with
  | zero => intro t v0 v1 w h; exact h.elim
  | succ m ih =>
    rintro ⟨s, us⟩ v0 v1 w ⟨va, hcs, hs, hl⟩
    simp only [List.cons.injEq, and_true] at hcs
    obtain ⟨rfl, rfl⟩ := hcs
    obtain ⟨p, c, rfl, hlen⟩ := hl.form
    unfold maxLen at hlen
    have IH := Lib.hid ih
    have HL := Lib.hid hl
    have HS := Lib.hid hs
    have HN := Lib.hid (show (Tm.mk s us).nodes = if varB s.data.toList then us.isEmpty else symB s.data.toList && decide (us.length ≤ 4) && Tm.nodess us from rfl)
    clear ih hl hs
    cases hv : varB s.data.toList
    · have HV := Lib.hid hv
      cases hy : symB s.data.toList
      · have HY := Lib.hid hy
        go_enter Tryz.func88, Tryz.ntmps88
        go_wp2_with (first | (go_at_call 110; refine (l2Var_any _ _ HS.out).mono ?_; rintro e w' ⟨rfl, rfl⟩) | (go_at_call 89; refine (l2Symbol_any _ _ HS.out).mono ?_; rintro e w' ⟨rfl, rfl⟩))
        go_ret
        exact ⟨ret_bool (by rw [HN.out, HV.out, HY.out]; rfl), by exact bel⟩
      · have HY := Lib.hid hy
        by_cases h4 : 4 < (us.length : Int)
        · have H4 := Lib.hid (show decide (us.length ≤ 4) = false by simp; omega)
          go_enter Tryz.func88, Tryz.ntmps88
          go_wp2_with (first | (go_at_call 110; refine (l2Var_any _ _ HS.out).mono ?_; rintro e w' ⟨rfl, rfl⟩) | (go_at_call 89; refine (l2Symbol_any _ _ HS.out).mono ?_; rintro e w' ⟨rfl, rfl⟩))
          go_ret
          exact ⟨ret_bool (by rw [HN.out, HV.out, HY.out, H4.out]; rfl), by exact bel⟩
        · have H4 := Lib.hid (show decide (us.length ≤ 4) = true by simp; omega)
          go_enter Tryz.func88, Tryz.ntmps88
          go_wp2_with (first | (go_at_call 110; refine (l2Var_any _ _ HS.out).mono ?_; rintro e w' ⟨rfl, rfl⟩) | (go_at_call 89; refine (l2Symbol_any _ _ HS.out).mono ?_; rintro e w' ⟨rfl, rfl⟩))
          obtain ⟨W, hW⟩ : ∃ W, W = w.alloc (.cells #[.string s, .slice p us.length c] 26) := ⟨_, rfl⟩
          have hw0 : W.cell? ⟨w.heap.size, 1, none⟩ = some (.slice p us.length c) := by rw [hW]; go_simp
          have hbW : Below w.heap.size w W := by rw [hW]; exact bel
          rw [← hW]
          clear hW
          go_loopw [3] (fun i wr => ∃ k : Nat, k ≤ us.length ∧ i = .int .i64 k ∧ Tm.nodess us = Tm.nodess (us.drop k) ∧ Below W.heap.size W wr) (fun i _ => us.length - (intOf i).toNat)
          case atStart => exact ⟨0, Nat.zero_le _, rfl, rfl, Below.refl _ _⟩
          case round =>
            obtain ⟨k, hk, rfl, he, hbr⟩ := hrel
            have HE := Lib.hid he
            clear he
            have hb := Below.step hbW hbr
            have hw1 : wr.cell? ⟨w.heap.size, 1, none⟩ = some (.slice p us.length c) := (hbr.cell (World.block_lt_of_cell? W _ hw0)).trans hw0
            by_cases hlt : k < us.length
            · obtain ⟨b, o, rfl, hB, x0, x1, hx0, hx1, hx⟩ := (HL.out.mono (SameOn.below hb) (fun _ h => h) (fun x cs _ hx => TmAt.below hb hx)).at2 hlt
              obtain ⟨pa, ca, rfl, rfl, -, -⟩ := hx.form
              have HD := Lib.hid (Tm.nodess_drop us hlt)
              obtain ⟨a, ha⟩ : ∃ a, us[k] = a := ⟨_, rfl⟩
              rw [ha] at hx HD hx0 hx1
              have HX := Lib.hid hx
              clear hx ha
              cases hN : a.nodes
              all_goals
                have HA := Lib.hid hN
                go_wp2_with fail
                refine (IH.out a _ _ _ HX.out).mono ?_
                rintro e w1 ⟨rfl, hb1⟩
                have ⟨cw1, fw1⟩ := bcell hb1
                have qw1 := hb1.size
                (try simp at qw1)
                (try have zw1w := bsz (show w.heap.size < w1.heap.size by omega))
                have hbb := Below.step hbr hb1
                have hbw := Below.step hb hb1
                rw [HA.out]
                go_wp2
              · go_ret
                exact ⟨ret_bool (by rw [HN.out, HV.out, HY.out, H4.out, HE.out, HD.out, HA.out]; rfl), hbw⟩
              · refine ⟨⟨k + 1, by omega, by go_num, ?_, hbb⟩, by simp [intOf]; omega⟩
                rw [HE.out, HD.out, HA.out]; rfl
            · obtain rfl : k = us.length := by omega
              have he := HE.out
              rw [List.drop_length, Tm.nodess] at he
              have HE2 := Lib.hid he
              clear he
              go_wp2
              go_ret
              exact ⟨ret_bool (by rw [HN.out, HV.out, HY.out, H4.out, HE2.out]; rfl), hb⟩
    · have HV := Lib.hid hv
      have HE := Lib.hid (isEmpty_int us)
      go_enter Tryz.func88, Tryz.ntmps88
      go_wp2_with (first | (go_at_call 110; refine (l2Var_any _ _ HS.out).mono ?_; rintro e w' ⟨rfl, rfl⟩))
      go_ret
      exact ⟨ret_bool (by rw [HN.out, HV.out, if_pos rfl, HE.out]), by exact bel⟩
theorem isSmall_any {B : Nat → Prop} (m : Nat) (t : Tm) (v0 v1 : Value) (w : World) (h : TmAt B m w t [v0, v1]) (hz : t.sz ≤ 100000000) :
      Calls Tryz.prog 100 #[.agg #[v0, v1]] w fun e w' => e = .returned (.bool t.small) ∧ Below w.heap.size w w' := by
  obtain ⟨p, c, rfl, rfl, -, -⟩ := h.form
  have H := Lib.hid h
  have HT := Lib.hid (show t.small = (decide (t.szI ≤ 30) && decide (t.dp ≤ 8)) by rw [Tm.small, Tm.szI_iff])
  clear h
  by_cases h1 : (t.szI : Int) ≤ 30
  · have H1 := Lib.hid (show decide (t.szI ≤ 30) = true by simp; omega)
    have HD := Lib.hid (show decide (t.dp ≤ 8) = decide ((t.dp : Int) ≤ 8) by rw [decide_eq_decide]; omega)
    go_enter Tryz.func100, Tryz.ntmps100
    go_wp2_with (first | (go_at_call 126; refine (size_any m t _ _ _ (H.out.below (by (repeat (first | with_reducible (first | exact bR _ _ | assumption | refine bA ?_ _ | refine bS ?_ (by first | exact Nat.le_refl _ | (simp; done) | (simp; omega)) _) | assumption | exact bR _ _ | refine bD ?_ | refine bN ?_ _ | refine bT ?_ (by assumption))))) hz).mono ?_; rintro e w1 ⟨rfl, hb1⟩; have ⟨cw1, fw1⟩ := bcell hb1; have qw1 := hb1.size; (try simp at qw1); (try have zw1w := bsz (show w.heap.size < w1.heap.size by omega))) | (go_at_call 127; refine (depth_any m t _ _ _ (H.out.below (by (repeat (first | with_reducible (first | exact bR _ _ | assumption | refine bA ?_ _ | refine bS ?_ (by first | exact Nat.le_refl _ | (simp; done) | (simp; omega)) _) | assumption | exact bR _ _ | refine bD ?_ | refine bN ?_ _ | refine bT ?_ (by assumption))))) hz).mono ?_; rintro e w2 ⟨rfl, hb2⟩; have ⟨cw2, fw2⟩ := bcell hb2; have qw2 := hb2.size; (try simp at qw2); (try have zw2w := bsz (show w.heap.size < w2.heap.size by omega)); (try have zw2w1 := bsz (show w1.heap.size < w2.heap.size by omega))))
    go_ret
    exact ⟨ret_bool (by rw [HT.out, H1.out, HD.out]; rfl), by exact bel⟩
  · have H1 := Lib.hid (show decide (t.szI ≤ 30) = false by simp; omega)
    go_enter Tryz.func100, Tryz.ntmps100
    go_wp2_with (first | (go_at_call 126; refine (size_any m t _ _ _ (H.out.below (by (repeat (first | with_reducible (first | exact bR _ _ | assumption | refine bA ?_ _ | refine bS ?_ (by first | exact Nat.le_refl _ | (simp; done) | (simp; omega)) _) | assumption | exact bR _ _ | refine bD ?_ | refine bN ?_ _ | refine bT ?_ (by assumption))))) hz).mono ?_; rintro e w1 ⟨rfl, hb1⟩; have ⟨cw1, fw1⟩ := bcell hb1; have qw1 := hb1.size; (try simp at qw1); (try have zw1w := bsz (show w.heap.size < w1.heap.size by omega))))
    go_ret
    exact ⟨ret_bool (by rw [HT.out, H1.out]; rfl), by exact bel⟩
theorem l2Fits_any {B : Nat → Prop} (m : Nat) (t : Tm) (v0 v1 : Value) (w : World) (h : TmAt B m w t [v0, v1]) (hz : t.sz ≤ 100000000) :
      Calls Tryz.prog 87 #[.agg #[v0, v1]] w fun e w' => e = .returned (.bool t.small) ∧ Below w.heap.size w w' := by
  obtain ⟨p, c, rfl, rfl, -, -⟩ := h.form
  have H := Lib.hid h
  have HT := Lib.hid (show t.small = (decide (t.many 30 ≤ 30) && decide (t.dp ≤ 8)) by rw [Tm.small, Tm.many_iff])
  clear h
  by_cases h1 : (t.many 30 : Int) ≤ 30
  · have H1 := Lib.hid (show decide (t.many 30 ≤ 30) = true by simp; omega)
    have HD := Lib.hid (show decide (t.dp ≤ 8) = decide ((t.dp : Int) ≤ 8) by rw [decide_eq_decide]; omega)
    go_enter Tryz.func87, Tryz.ntmps87
    go_wp2_with (first | (go_at_call 120; refine (l2Many_any m t _ _ 30 _ _ (H.out.below (by (repeat (first | with_reducible (first | exact bR _ _ | assumption | refine bA ?_ _ | refine bS ?_ (by first | exact Nat.le_refl _ | (simp; done) | (simp; omega)) _) | assumption | exact bR _ _ | refine bD ?_ | refine bN ?_ _ | refine bT ?_ (by assumption))))) hz (by rfl) (by decide)).mono ?_; rintro e w1 ⟨rfl, hb1⟩; have ⟨cw1, fw1⟩ := bcell hb1; have qw1 := hb1.size; (try simp at qw1); (try have zw1w := bsz (show w.heap.size < w1.heap.size by omega))) | (go_at_call 121; refine (l2Depth_any m t _ _ _ (H.out.below (by (repeat (first | with_reducible (first | exact bR _ _ | assumption | refine bA ?_ _ | refine bS ?_ (by first | exact Nat.le_refl _ | (simp; done) | (simp; omega)) _) | assumption | exact bR _ _ | refine bD ?_ | refine bN ?_ _ | refine bT ?_ (by assumption))))) hz).mono ?_; rintro e w2 ⟨rfl, hb2⟩; have ⟨cw2, fw2⟩ := bcell hb2; have qw2 := hb2.size; (try simp at qw2); (try have zw2w := bsz (show w.heap.size < w2.heap.size by omega)); (try have zw2w1 := bsz (show w1.heap.size < w2.heap.size by omega))))
    go_ret
    exact ⟨ret_bool (by rw [HT.out, H1.out, HD.out]; rfl), by exact bel⟩
  · have H1 := Lib.hid (show decide (t.many 30 ≤ 30) = false by simp; omega)
    go_enter Tryz.func87, Tryz.ntmps87
    go_wp2_with (first | (go_at_call 120; refine (l2Many_any m t _ _ 30 _ _ (H.out.below (by (repeat (first | with_reducible (first | exact bR _ _ | assumption | refine bA ?_ _ | refine bS ?_ (by first | exact Nat.le_refl _ | (simp; done) | (simp; omega)) _) | assumption | exact bR _ _ | refine bD ?_ | refine bN ?_ _ | refine bT ?_ (by assumption))))) hz (by rfl) (by decide)).mono ?_; rintro e w1 ⟨rfl, hb1⟩; have ⟨cw1, fw1⟩ := bcell hb1; have qw1 := hb1.size; (try simp at qw1); (try have zw1w := bsz (show w.heap.size < w1.heap.size by omega))))
    go_ret
    exact ⟨ret_bool (by rw [HT.out, H1.out]; rfl), by exact bel⟩
end Go.Proofs.YtkgfanajgdelcaaGreat
