/- Valid formulas, both sides. Conditions: sizes. -/
import Derived.Test.YtinfogmjijeliaaAtoms
namespace Go.Proofs.Ytinfogmjijeliaa
open Go.RowKit
theorem Fm.szs_drop (us : List Fm) {k : Nat} (h : k < us.length) : Fm.szs (us.drop k) = us[k].sz + Fm.szs (us.drop (k + 1)) := by
  rw [List.drop_eq_getElem_cons h, Fm.szs]
theorem Fm.szIs_drop (us : List Fm) {k : Nat} (h : k < us.length) (n : Nat) : Fm.szIs n (us.drop k) = if 40 < n then n else Fm.szIs (n + us[k].szI) (us.drop (k + 1)) := by
  rw [List.drop_eq_getElem_cons h, Fm.szIs]
theorem Fm.manys_drop (us : List Fm) {k : Nat} (h : k < us.length) (n m : Nat) : Fm.manys n (us.drop k) m = if n ≤ m then Fm.manys (n + us[k].many (m - n)) (us.drop (k + 1)) m else n := by
  rw [List.drop_eq_getElem_cons h, Fm.manys]
theorem Fm.forms_drop (us : List Fm) {k : Nat} (h : k < us.length) : Fm.forms (us.drop k) = (us[k].form && Fm.forms (us.drop (k + 1))) := by
  rw [List.drop_eq_getElem_cons h, Fm.forms]
theorem FmAt.parts {B : Nat → Prop} {w : World} : ∀ {n : Nat} {t : Fm} {v0 v1 v2 v3 v4 : Value}, FmAt B n w t [v0, v1, v2, v3, v4] → ListAt B w 5 (FmAt B n w) v4 t.ps
  | 0, _, _, _, _, _, _, h => h.elim
  | n + 1, .mk op a x ps, v0, v1, v2, v3, v4, h => by
    obtain ⟨vn, va, vp, h1, h2, h3, h4, h5⟩ := h
    simp only [List.cons.injEq, and_true] at h1
    obtain ⟨rfl, rfl, rfl, rfl, rfl⟩ := h1
    exact h5.mono (SameOn.refl _ _) (fun _ h => h) (fun x cs _ hx => FmAt.mono (SameOn.refl _ _) (fun _ h => h) n (n + 1) x cs (by omega) hx)
theorem FmAt.atm {B : Nat → Prop} {w : World} : ∀ {n : Nat} {t : Fm} {v0 v1 v2 v3 v4 : Value}, FmAt B n w t [v0, v1, v2, v3, v4] → TmAt B n w t.a [v1, v2]
  | 0, _, _, _, _, _, _, h => h.elim
  | n + 1, .mk op a x ps, v0, v1, v2, v3, v4, h => by
    obtain ⟨vn, va, vp, h1, h2, h3, h4, h5⟩ := h
    simp only [List.cons.injEq, and_true] at h1
    obtain ⟨rfl, rfl, rfl, rfl, rfl⟩ := h1
    exact TmAt.mono (SameOn.refl _ _) (fun _ h => h) n (n + 1) a _ (by omega) h4
set_option maxRecDepth 100000 in
set_option maxHeartbeats 1600000 in
theorem sizeOf_any {B : Nat → Prop} : ∀ (m : Nat) (t : Fm) (v0 v1 v2 v3 v4 : Value) (w : World), FmAt B m w t [v0, v1, v2, v3, v4] → t.sz ≤ 100000000 →
      Calls Try.prog 57 #[.agg #[v0, v1, v2, v3, v4]] w fun e w' => e = .returned (.int .i64 (t.szI : Nat)) ∧ Below w.heap.size w w' := by
  intro m
  induction m with
  | zero => intro t v0 v1 v2 v3 v4 w h; exact h.elim
  | succ m ih =>
    rintro ⟨op, t0, s, us⟩ v0 v1 v2 v3 v4 w ⟨vn, va, vp, hcs, hop, hs, ht, hl⟩ hz
    simp only [List.cons.injEq, and_true] at hcs
    obtain ⟨rfl, rfl, rfl, rfl, rfl⟩ := hcs
    rw [Fm.sz] at hz
    obtain ⟨p, c, rfl, hlen⟩ := hl.form
    obtain ⟨p1, c1, rfl, rfl, -, -⟩ := ht.form
    unfold maxLen at hlen
    have IH := Lib.hid ih
    have HL := Lib.hid hl
    have HSZ := Lib.hid (show (Fm.mk op t0 s us).szI = Fm.szIs 1 us from rfl)
    clear ih hl
    go_enter Try.func57, Try.ntmps57
    go_wp2
    go_loopw [3, 9] (fun n i wr => ∃ k acc : Nat, k ≤ us.length ∧ i = .int .i64 k ∧ n = .int .i64 acc ∧ Fm.szIs acc (us.drop k) = Fm.szIs 1 us ∧ acc + Fm.szs (us.drop k) ≤ 1 + Fm.szs us ∧ Below w.heap.size w wr) (fun _ i _ => us.length - (intOf i).toNat)
    case atStart => exact ⟨0, 1, Nat.zero_le _, rfl, rfl, rfl, Nat.le_refl _, by (repeat (first | with_reducible exact Below.refl _ _ | with_reducible assumption | with_reducible refine Below.al ?_ _ | with_reducible refine Below.sc ?_ (by first | exact Nat.le_refl _ | (simp; done) | (simp; omega)) _ | assumption | exact Below.refl _ _ | refine Below.dr ?_ | refine Below.drN ?_ _ | refine Below.step ?_ (by assumption)))⟩
    case round =>
      obtain ⟨k, acc, hk, rfl, rfl, he, hle, hb⟩ := hrel
      have HE := Lib.hid he
      clear he
      by_cases hlt : k < us.length
      · obtain ⟨b, o, rfl, hB, x0, x1, x2, x3, x4, hx0, hx1, hx2, hx3, hx4, hx⟩ := (HL.out.mono (SameOn.below hb) (fun _ h => h) (fun x cs _ hx => FmAt.below hb hx)).at5 hlt
        have hD := Fm.szIs_drop us hlt acc
        have hZ := Fm.szs_drop us hlt
        obtain ⟨a, ha⟩ : ∃ a, us[k] = a := ⟨_, rfl⟩
        rw [ha] at hx
        rw [ha] at hD
        rw [ha] at hZ
        have HX := Lib.hid hx
        have HD := Lib.hid hD
        have HZ := Lib.hid hZ
        clear hx ha hD hZ
        have zb := bsz (World.block_lt_of_cell? _ _ hx0)
        obtain ⟨pa, ca, qa, da, rfl, rfl, rfl, rfl, rfl, -⟩ := HX.out.form
        have hlaw := a.szI_law
        have hzz := HZ.out
        rw [hzz] at hle
        clear hzz
        by_cases h40 : 40 < (acc : Int)
        · go_wp2
          go_ret
          exact ⟨ret_int (by rw [HSZ.out, ← HE.out, HD.out, if_pos (by omega)]), by (repeat (first | with_reducible exact Below.refl _ _ | with_reducible assumption | with_reducible refine Below.al ?_ _ | with_reducible refine Below.sc ?_ (by first | exact Nat.le_refl _ | (simp; done) | (simp; omega)) _ | assumption | exact Below.refl _ _ | refine Below.dr ?_ | refine Below.drN ?_ _ | refine Below.step ?_ (by assumption)))⟩
        · go_wp2_with fail
          refine (IH.out a _ _ _ _ _ _ (HX.out.below (by (repeat (first | with_reducible exact Below.refl _ _ | with_reducible assumption | with_reducible refine Below.al ?_ _ | with_reducible refine Below.sc ?_ (by first | exact Nat.le_refl _ | (simp; done) | (simp; omega)) _ | assumption | exact Below.refl _ _ | refine Below.dr ?_ | refine Below.drN ?_ _ | refine Below.step ?_ (by assumption))))) (by omega)).mono ?_
          rintro e w1 ⟨rfl, hb1⟩
          have ⟨cw1, fw1⟩ := bcell hb1
          have qw1 := hb1.size
          (try simp at qw1)
          (try have zw1w := bsz (show w.heap.size < w1.heap.size by omega))
          go_wp2
          refine ⟨⟨k + 1, acc + a.szI, by omega, by go_num, by go_num, ?_, by omega, by (repeat (first | with_reducible exact Below.refl _ _ | with_reducible assumption | with_reducible refine Below.al ?_ _ | with_reducible refine Below.sc ?_ (by first | exact Nat.le_refl _ | (simp; done) | (simp; omega)) _ | assumption | exact Below.refl _ _ | refine Below.dr ?_ | refine Below.drN ?_ _ | refine Below.step ?_ (by assumption)))⟩, by simp [intOf]; omega⟩
          rw [← HE.out, HD.out, if_neg (by omega)]
      · obtain rfl : k = us.length := by omega
        have he := HE.out
        rw [List.drop_length, Fm.szIs] at he
        have HE2 := Lib.hid he
        clear he
        go_wp2
        go_ret
        exact ⟨ret_int (by rw [HSZ.out, ← HE2.out]), by (repeat (first | with_reducible exact Below.refl _ _ | with_reducible assumption | with_reducible refine Below.al ?_ _ | with_reducible refine Below.sc ?_ (by first | exact Nat.le_refl _ | (simp; done) | (simp; omega)) _ | assumption | exact Below.refl _ _ | refine Below.dr ?_ | refine Below.drN ?_ _ | refine Below.step ?_ (by assumption)))⟩
theorem isQuantifier_any (op : Int) (w : World) : Calls Try.prog 82 #[.int .i64 op] w fun e w' => e = .returned (.bool (op == 8 || op == 9)) ∧ w = w' := by
  by_cases h : op = 8
  · obtain rfl := h
    go_enter Try.func82, Try.ntmps82
    go_wp2
    go_ret
    exact ⟨rfl, rfl⟩
  · have h1 : (op == 8) = false := by simpa using h
    go_enter Try.func82, Try.ntmps82
    go_wp2
    go_ret
    exact ⟨ret_bool (by simp [h]), rfl⟩
def isBin (op : Int) : Bool := op == 5 || op == 6 || op == 7
theorem isBinary_any (op : Int) (w : World) : Calls Try.prog 83 #[.int .i64 op] w fun e w' => e = .returned (.bool (op == 5 || op == 6 || op == 7)) ∧ w = w' := by
  by_cases h5 : op = 5
  · obtain rfl := h5
    go_enter Try.func83, Try.ntmps83
    go_wp2
    go_ret
    exact ⟨rfl, rfl⟩
  · have h1 : (op == 5) = false := by simpa using h5
    by_cases h6 : op = 6
    · obtain rfl := h6
      go_enter Try.func83, Try.ntmps83
      go_wp2
      go_ret
      exact ⟨rfl, rfl⟩
    · have h2 : (op == 6) = false := by simpa using h6
      go_enter Try.func83, Try.ntmps83
      go_wp2
      go_ret
      exact ⟨ret_bool (by simp [h5, h6]), rfl⟩
end Go.Proofs.Ytinfogmjijeliaa
