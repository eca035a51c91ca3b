/- How large and how deep a term is, both sides. Conditions: sizes. -/
import Derived.Test.YtinfogmjijeliaaTmF
import Derived.Test.YtinfogmjijeliaaStrs
namespace Go.Proofs.Ytinfogmjijeliaa
open Go.RowKit
theorem Tm.szs_drop (us : List Tm) {k : Nat} (h : k < us.length) : Tm.szs (us.drop k) = us[k].sz + Tm.szs (us.drop (k + 1)) := by
  rw [List.drop_eq_getElem_cons h, Tm.szs]
theorem Tm.szIs_drop (us : List Tm) {k : Nat} (h : k < us.length) (n : Nat) : Tm.szIs n (us.drop k) = if 30 < n then n else Tm.szIs (n + us[k].szI) (us.drop (k + 1)) := by
  rw [List.drop_eq_getElem_cons h, Tm.szIs]
theorem Tm.manys_drop (us : List Tm) {k : Nat} (h : k < us.length) (n m : Nat) : Tm.manys n (us.drop k) m = if n ≤ m then Tm.manys (n + us[k].many (m - n)) (us.drop (k + 1)) m else n := by
  rw [List.drop_eq_getElem_cons h, Tm.manys]
theorem Tm.dps_drop (us : List Tm) {k : Nat} (h : k < us.length) : Tm.dps (us.drop k) = max us[k].dp (Tm.dps (us.drop (k + 1))) := by
  rw [List.drop_eq_getElem_cons h, Tm.dps]
set_option maxRecDepth 100000 in
set_option maxHeartbeats 1600000 in
theorem size_any {B : Nat → Prop} : ∀ (m : Nat) (t : Tm) (v0 v1 : Value) (w : World), TmAt B m w t [v0, v1] → t.sz ≤ 100000000 →
      Calls Try.prog 141 #[.agg #[v0, v1]] w fun e w' => e = .returned (.int .i64 (t.szI : Nat)) ∧ Below w.heap.size w w' := by
  intro m
  induction m with
  | zero => intro t v0 v1 w h; exact h.elim
  | succ m ih =>
    rintro ⟨s, us⟩ v0 v1 w ⟨va, hcs, hs, hl⟩ hz
    simp only [List.cons.injEq, and_true] at hcs
    obtain ⟨rfl, rfl⟩ := hcs
    rw [Tm.sz] at hz
    obtain ⟨p, c, rfl, hlen⟩ := hl.form
    unfold maxLen at hlen
    have IH := Lib.hid ih
    have HL := Lib.hid hl
    have HSZ := Lib.hid (show (Tm.mk s us).szI = Tm.szIs 1 us from rfl)
    clear ih hl
    go_enter Try.func141, Try.ntmps141
    go_wp2
    go_loopw [3, 9] (fun n i wr => ∃ k acc : Nat, k ≤ us.length ∧ i = .int .i64 k ∧ n = .int .i64 acc ∧ Tm.szIs acc (us.drop k) = Tm.szIs 1 us ∧ acc + Tm.szs (us.drop k) ≤ 1 + Tm.szs us ∧ Below w.heap.size w wr) (fun _ i _ => us.length - (intOf i).toNat)
    case atStart => exact ⟨0, 1, Nat.zero_le _, rfl, rfl, rfl, Nat.le_refl _, by (repeat (first | with_reducible exact Below.refl _ _ | with_reducible assumption | with_reducible refine Below.al ?_ _ | with_reducible refine Below.sc ?_ (by first | exact Nat.le_refl _ | (simp; done) | (simp; omega)) _ | assumption | exact Below.refl _ _ | refine Below.dr ?_ | refine Below.drN ?_ _ | refine Below.step ?_ (by assumption)))⟩
    case round =>
      obtain ⟨k, acc, hk, rfl, rfl, he, hle, hb⟩ := hrel
      have HE := Lib.hid he
      clear he
      by_cases hlt : k < us.length
      · obtain ⟨b, o, rfl, hB, x0, x1, hx0, hx1, hx⟩ := (HL.out.mono (SameOn.below hb) (fun _ h => h) (fun x cs _ hx => TmAt.below hb hx)).at2 hlt
        obtain ⟨pa, ca, rfl, rfl, -, -⟩ := hx.form
        have HD := Lib.hid (Tm.szIs_drop us hlt acc)
        have HZ := Lib.hid (Tm.szs_drop us hlt)
        obtain ⟨a, ha⟩ : ∃ a, us[k] = a := ⟨_, rfl⟩
        rw [ha] at hx HD HZ hx0 hx1
        have HX := Lib.hid hx
        have hlaw := a.szI_law
        have hzz := HZ.out
        rw [hzz] at hle
        clear hx ha hzz
        by_cases h30 : 30 < (acc : Int)
        · go_wp2
          go_ret
          exact ⟨ret_int (by rw [HSZ.out, ← HE.out, HD.out, if_pos (by omega)]), by (repeat (first | with_reducible exact Below.refl _ _ | with_reducible assumption | with_reducible refine Below.al ?_ _ | with_reducible refine Below.sc ?_ (by first | exact Nat.le_refl _ | (simp; done) | (simp; omega)) _ | assumption | exact Below.refl _ _ | refine Below.dr ?_ | refine Below.drN ?_ _ | refine Below.step ?_ (by assumption)))⟩
        · go_wp2_with fail
          refine (IH.out a _ _ _ (HX.out.below (by (repeat (first | with_reducible exact Below.refl _ _ | with_reducible assumption | with_reducible refine Below.al ?_ _ | with_reducible refine Below.sc ?_ (by first | exact Nat.le_refl _ | (simp; done) | (simp; omega)) _ | assumption | exact Below.refl _ _ | refine Below.dr ?_ | refine Below.drN ?_ _ | refine Below.step ?_ (by assumption))))) (by omega)).mono ?_
          rintro e w1 ⟨rfl, hb1⟩
          have ⟨cw1, fw1⟩ := bcell hb1
          have qw1 := hb1.size
          (try simp at qw1)
          (try have zw1w := bsz (show w.heap.size < w1.heap.size by omega))
          go_wp2
          refine ⟨⟨k + 1, acc + a.szI, by omega, by go_num, by go_num, ?_, by omega, by (repeat (first | with_reducible exact Below.refl _ _ | with_reducible assumption | with_reducible refine Below.al ?_ _ | with_reducible refine Below.sc ?_ (by first | exact Nat.le_refl _ | (simp; done) | (simp; omega)) _ | assumption | exact Below.refl _ _ | refine Below.dr ?_ | refine Below.drN ?_ _ | refine Below.step ?_ (by assumption)))⟩, by simp [intOf]; omega⟩
          rw [← HE.out, HD.out, if_neg (by omega)]
      · obtain rfl : k = us.length := by omega
        have he := HE.out
        rw [List.drop_length, Tm.szIs] at he
        have HE2 := Lib.hid he
        clear he
        go_wp2
        go_ret
        exact ⟨ret_int (by rw [HSZ.out, ← HE2.out]), by (repeat (first | with_reducible exact Below.refl _ _ | with_reducible assumption | with_reducible refine Below.al ?_ _ | with_reducible refine Below.sc ?_ (by first | exact Nat.le_refl _ | (simp; done) | (simp; omega)) _ | assumption | exact Below.refl _ _ | refine Below.dr ?_ | refine Below.drN ?_ _ | refine Below.step ?_ (by assumption)))⟩
set_option maxRecDepth 100000 in
set_option maxHeartbeats 1600000 in
theorem depth_any {B : Nat → Prop} : ∀ (m : Nat) (t : Tm) (v0 v1 : Value) (w : World), TmAt B m w t [v0, v1] → t.sz ≤ 100000000 →
      Calls Try.prog 142 #[.agg #[v0, v1]] w fun e w' => e = .returned (.int .i64 (t.dp : Nat)) ∧ Below w.heap.size w w' := by
  intro m
  induction m with
  | zero => intro t v0 v1 w h; exact h.elim
  | succ m ih =>
    rintro ⟨s, us⟩ v0 v1 w ⟨va, hcs, hs, hl⟩ hz
    simp only [List.cons.injEq, and_true] at hcs
    obtain ⟨rfl, rfl⟩ := hcs
    rw [Tm.sz] at hz
    obtain ⟨p, c, rfl, hlen⟩ := hl.form
    unfold maxLen at hlen
    have IH := Lib.hid ih
    have HL := Lib.hid hl
    have HSZ := Lib.hid (show (Tm.mk s us).dp = Tm.dps us + 1 from rfl)
    clear ih hl
    go_enter Try.func142, Try.ntmps142
    go_wp2
    go_loopw [3, 9] (fun n i wr => ∃ k acc : Nat, k ≤ us.length ∧ i = .int .i64 k ∧ n = .int .i64 acc ∧ max acc (Tm.dps (us.drop k)) = Tm.dps us ∧ acc + Tm.szs (us.drop k) ≤ Tm.szs us ∧ Below w.heap.size w wr) (fun _ i _ => us.length - (intOf i).toNat)
    case atStart => exact ⟨0, 0, Nat.zero_le _, rfl, rfl, by simp, by simp, by (repeat (first | with_reducible exact Below.refl _ _ | with_reducible assumption | with_reducible refine Below.al ?_ _ | with_reducible refine Below.sc ?_ (by first | exact Nat.le_refl _ | (simp; done) | (simp; omega)) _ | assumption | exact Below.refl _ _ | refine Below.dr ?_ | refine Below.drN ?_ _ | refine Below.step ?_ (by assumption)))⟩
    case round =>
      obtain ⟨k, acc, hk, rfl, rfl, he, hle, hb⟩ := hrel
      have HE := Lib.hid he
      clear he
      by_cases hlt : k < us.length
      · obtain ⟨b, o, rfl, hB, x0, x1, hx0, hx1, hx⟩ := (HL.out.mono (SameOn.below hb) (fun _ h => h) (fun x cs _ hx => TmAt.below hb hx)).at2 hlt
        obtain ⟨pa, ca, rfl, rfl, -, -⟩ := hx.form
        have HD := Lib.hid (Tm.dps_drop us hlt)
        have HZ := Lib.hid (Tm.szs_drop us hlt)
        obtain ⟨a, ha⟩ : ∃ a, us[k] = a := ⟨_, rfl⟩
        rw [ha] at hx HD HZ hx0 hx1
        have HX := Lib.hid hx
        have hlaw := a.dp_le
        have hzz := HZ.out
        rw [hzz] at hle
        clear hx ha hzz
        go_wp2_with fail
        refine (IH.out a _ _ _ (HX.out.below (by (repeat (first | with_reducible exact Below.refl _ _ | with_reducible assumption | with_reducible refine Below.al ?_ _ | with_reducible refine Below.sc ?_ (by first | exact Nat.le_refl _ | (simp; done) | (simp; omega)) _ | assumption | exact Below.refl _ _ | refine Below.dr ?_ | refine Below.drN ?_ _ | refine Below.step ?_ (by assumption))))) (by omega)).mono ?_
        rintro e w1 ⟨rfl, hb1⟩
        have ⟨cw1, fw1⟩ := bcell hb1
        have qw1 := hb1.size
        (try simp at qw1)
        (try have zw1w := bsz (show w.heap.size < w1.heap.size by omega))
        go_wp2
        refine ⟨⟨k + 1, max acc a.dp, by omega, by go_num, ?_, ?_, by omega, by (repeat (first | with_reducible exact Below.refl _ _ | with_reducible assumption | with_reducible refine Below.al ?_ _ | with_reducible refine Below.sc ?_ (by first | exact Nat.le_refl _ | (simp; done) | (simp; omega)) _ | assumption | exact Below.refl _ _ | refine Below.dr ?_ | refine Below.drN ?_ _ | refine Below.step ?_ (by assumption)))⟩, by simp [intOf]; omega⟩
        · exact congrArg (Value.int .i64) (by omega)
        · rw [← HE.out, HD.out]; omega
      · obtain rfl : k = us.length := by omega
        have he := HE.out
        rw [List.drop_length, Tm.dps] at he
        have HE2 := Lib.hid he
        clear he
        go_wp2
        go_ret
        exact ⟨ret_int (by rw [HSZ.out, ← HE2.out]; omega), by (repeat (first | with_reducible exact Below.refl _ _ | with_reducible assumption | with_reducible refine Below.al ?_ _ | with_reducible refine Below.sc ?_ (by first | exact Nat.le_refl _ | (simp; done) | (simp; omega)) _ | assumption | exact Below.refl _ _ | refine Below.dr ?_ | refine Below.drN ?_ _ | refine Below.step ?_ (by assumption)))⟩
theorem l1Most_any (a b : Int) (w : World) : Calls Try.prog 147 #[.int .i64 a, .int .i64 b] w fun e w' => e = .returned (.int .i64 (max a b)) ∧ w = w' := by
  by_cases h : b < a
  all_goals
    go_enter Try.func147, Try.ntmps147
    go_wp2
    go_ret
    exact ⟨ret_int (by omega), rfl⟩
set_option maxRecDepth 100000 in
set_option maxHeartbeats 1600000 in
theorem l2Depth_any {B : Nat → Prop} : ∀ (m : Nat) (t : Tm) (v0 v1 : Value) (w : World), TmAt B m w t [v0, v1] → t.sz ≤ 100000000 →
      Calls Try.prog 122 #[.agg #[v0, v1]] w fun e w' => e = .returned (.int .i64 (t.dp : Nat)) ∧ Below w.heap.size w w' := by
  intro m
  induction m with
  | zero => intro t v0 v1 w h; exact h.elim
  | succ m ih =>
    rintro ⟨s, us⟩ v0 v1 w ⟨va, hcs, hs, hl⟩ hz
    simp only [List.cons.injEq, and_true] at hcs
    obtain ⟨rfl, rfl⟩ := hcs
    rw [Tm.sz] at hz
    obtain ⟨p, c, rfl, hlen⟩ := hl.form
    unfold maxLen at hlen
    have IH := Lib.hid ih
    have HL := Lib.hid hl
    have HSZ := Lib.hid (show (Tm.mk s us).dp = Tm.dps us + 1 from rfl)
    clear ih hl
    go_enter Try.func122, Try.ntmps122
    go_wp2
    obtain ⟨W, hW⟩ : ∃ W, W = w.alloc (.cells #[.string s, .slice p us.length c] 33) := ⟨_, rfl⟩
    have hw0 : W.cell? ⟨w.heap.size, 1, none⟩ = some (.slice p us.length c) := by rw [hW]; go_simp
    have hbW : Below w.heap.size w W := by rw [hW]; (repeat (first | with_reducible exact Below.refl _ _ | with_reducible assumption | with_reducible refine Below.al ?_ _ | with_reducible refine Below.sc ?_ (by first | exact Nat.le_refl _ | (simp; done) | (simp; omega)) _ | assumption | exact Below.refl _ _ | refine Below.dr ?_ | refine Below.drN ?_ _ | refine Below.step ?_ (by assumption)))
    rw [← hW]
    clear hW
    go_loopw [3, 4] (fun n i wr => ∃ k acc : Nat, k ≤ us.length ∧ i = .int .i64 k ∧ n = .int .i64 acc ∧ max acc (Tm.dps (us.drop k)) = Tm.dps us ∧ acc + Tm.szs (us.drop k) ≤ Tm.szs us ∧ Below W.heap.size W wr) (fun _ i _ => us.length - (intOf i).toNat)
    case atStart => exact ⟨0, 0, Nat.zero_le _, rfl, rfl, by simp, by simp, Below.refl _ _⟩
    case round =>
      obtain ⟨k, acc, hk, rfl, rfl, he, hle, hbr⟩ := hrel
      have HE := Lib.hid he
      clear he
      have hb := Below.step hbW hbr
      have hw1 : wr.cell? ⟨w.heap.size, 1, none⟩ = some (.slice p us.length c) := (hbr.cell (World.block_lt_of_cell? W _ hw0)).trans hw0
      by_cases hlt : k < us.length
      · obtain ⟨b, o, rfl, hB, x0, x1, hx0, hx1, hx⟩ := (HL.out.mono (SameOn.below hb) (fun _ h => h) (fun x cs _ hx => TmAt.below hb hx)).at2 hlt
        obtain ⟨pa, ca, rfl, rfl, -, -⟩ := hx.form
        have HD := Lib.hid (Tm.dps_drop us hlt)
        have HZ := Lib.hid (Tm.szs_drop us hlt)
        obtain ⟨a, ha⟩ : ∃ a, us[k] = a := ⟨_, rfl⟩
        rw [ha] at hx HD HZ hx0 hx1
        have HX := Lib.hid hx
        have hlaw := a.dp_le
        have hzz := HZ.out
        rw [hzz] at hle
        clear hx ha hzz
        go_wp2_with fail
        refine (IH.out a _ _ _ HX.out (by omega)).mono ?_
        rintro e w1 ⟨rfl, hb1⟩
        have ⟨cw1, fw1⟩ := bcell hb1
        have qw1 := hb1.size
        (try simp at qw1)
        (try have zw1w := bsz (show w.heap.size < w1.heap.size by omega))
        have hbb := Below.step hbr hb1
        go_wp2_with ((go_at_call 147; refine (l1Most_any _ _ _).mono ?_; rintro e w' ⟨rfl, rfl⟩))
        refine ⟨⟨k + 1, max acc a.dp, by omega, by go_num, ?_, ?_, by omega, hbb⟩, by simp [intOf]; omega⟩
        · exact congrArg (Value.int .i64) (by omega)
        · rw [← HE.out, HD.out]; omega
      · obtain rfl : k = us.length := by omega
        have he := HE.out
        rw [List.drop_length, Tm.dps] at he
        have HE2 := Lib.hid he
        clear he
        go_wp2
        go_ret
        exact ⟨ret_int (by rw [HSZ.out, ← HE2.out]; omega), hb⟩
set_option maxRecDepth 100000 in
set_option maxHeartbeats 1600000 in
theorem l2Many_any {B : Nat → Prop} : ∀ (m : Nat) (t : Tm) (v0 v1 : Value) (M : Nat) (z : Int) (w : World), TmAt B m w t [v0, v1] → t.sz ≤ 100000000 → z = (M : Int) → M ≤ 1000 →
      Calls Try.prog 121 #[.agg #[v0, v1], .int .i64 z] w fun e w' => e = .returned (.int .i64 (t.many M : Nat)) ∧ Below w.heap.size w w' := by
  intro m
  induction m with
  | zero => intro t v0 v1 M z w h; exact h.elim
  | succ m ih =>
    rintro ⟨s, us⟩ v0 v1 M z w ⟨va, hcs, hs, hl⟩ hz rfl hM
    simp only [List.cons.injEq, and_true] at hcs
    obtain ⟨rfl, rfl⟩ := hcs
    rw [Tm.sz] at hz
    obtain ⟨p, c, rfl, hlen⟩ := hl.form
    unfold maxLen at hlen
    have IH := Lib.hid ih
    have HL := Lib.hid hl
    have HSZ := Lib.hid (show (Tm.mk s us).many M = Tm.manys 1 us M from rfl)
    clear ih hl
    go_enter Try.func121, Try.ntmps121
    go_wp2
    obtain ⟨W, hW⟩ : ∃ W, W = w.alloc (.cells #[.string s, .slice p us.length c] 33) := ⟨_, rfl⟩
    have hw0 : W.cell? ⟨w.heap.size, 1, none⟩ = some (.slice p us.length c) := by rw [hW]; go_simp
    have hbW : Below w.heap.size w W := by rw [hW]; (repeat (first | with_reducible exact Below.refl _ _ | with_reducible assumption | with_reducible refine Below.al ?_ _ | with_reducible refine Below.sc ?_ (by first | exact Nat.le_refl _ | (simp; done) | (simp; omega)) _ | assumption | exact Below.refl _ _ | refine Below.dr ?_ | refine Below.drN ?_ _ | refine Below.step ?_ (by assumption)))
    rw [← hW]
    clear hW
    go_loopw [5, 6] (fun n i wr => ∃ k acc : Nat, k ≤ us.length ∧ i = .int .i64 k ∧ n = .int .i64 acc ∧ Tm.manys acc (us.drop k) M = Tm.manys 1 us M ∧ acc + Tm.szs (us.drop k) ≤ 1 + Tm.szs us ∧ Below W.heap.size W wr) (fun _ i _ => us.length - (intOf i).toNat)
    case atStart => exact ⟨0, 1, Nat.zero_le _, rfl, rfl, rfl, Nat.le_refl _, Below.refl _ _⟩
    case round =>
      obtain ⟨k, acc, hk, rfl, rfl, he, hle, hbr⟩ := hrel
      have HE := Lib.hid he
      clear he
      have hb := Below.step hbW hbr
      have hw1 : wr.cell? ⟨w.heap.size, 1, none⟩ = some (.slice p us.length c) := (hbr.cell (World.block_lt_of_cell? W _ hw0)).trans hw0
      by_cases hlt : k < us.length
      · obtain ⟨b, o, rfl, hB, x0, x1, hx0, hx1, hx⟩ := (HL.out.mono (SameOn.below hb) (fun _ h => h) (fun x cs _ hx => TmAt.below hb hx)).at2 hlt
        obtain ⟨pa, ca, rfl, rfl, -, -⟩ := hx.form
        have HD := Lib.hid (Tm.manys_drop us hlt acc M)
        have HZ := Lib.hid (Tm.szs_drop us hlt)
        obtain ⟨a, ha⟩ : ∃ a, us[k] = a := ⟨_, rfl⟩
        rw [ha] at hx HD HZ hx0 hx1
        have HX := Lib.hid hx
        have hlaw := a.many_law (M - acc)
        have hzz := HZ.out
        rw [hzz] at hle
        clear hx ha hzz
        by_cases hac : acc ≤ M
        · have hac1 : (acc : Int) ≤ (M : Int) := by omega
          go_wp2_with fail
          refine (IH.out a _ _ (M - acc) _ _ HX.out (by omega) (by omega) (by omega)).mono ?_
          rintro e w1 ⟨rfl, hb1⟩
          have ⟨cw1, fw1⟩ := bcell hb1
          have qw1 := hb1.size
          (try simp at qw1)
          (try have zw1w := bsz (show w.heap.size < w1.heap.size by omega))
          have hbb := Below.step hbr hb1
          go_wp2
          refine ⟨⟨k + 1, acc + a.many (M - acc), by omega, by go_num, by go_num, ?_, by omega, hbb⟩, by simp [intOf]; omega⟩
          rw [← HE.out, HD.out, if_pos hac]
        · have hac1 : ¬ (acc : Int) ≤ (M : Int) := by omega
          go_wp2
          go_ret
          exact ⟨ret_int (by rw [HSZ.out, ← HE.out, HD.out, if_neg hac]), hb⟩
      · obtain rfl : k = us.length := by omega
        have he := HE.out
        rw [List.drop_length, Tm.manys] at he
        have HE2 := Lib.hid he
        clear he
        go_wp2
        go_ret
        exact ⟨ret_int (by rw [HSZ.out, ← HE2.out]), hb⟩
end Go.Proofs.Ytinfogmjijeliaa
