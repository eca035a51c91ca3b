/- Valid terms and atoms, both sides: the whole. Conditions: sizes.
The order of terms: the program's and the reference's. Conditions: names as valid terms have them.
How large and how deep a term is, both sides. Conditions: sizes.
Have all nodes of a term valid names and numbers of arguments: both sides. Conditions: sizes.
Valid terms and atoms, both sides. Conditions: sizes. -/
import Derived.Deep.RegionHeld3
import Derived.Test.YtdklemmincejpaaCtePart3
namespace Go.Proofs.Ytdklemmincejpaa
open Go.RowKit
theorem cmps_end {us vs : List Tm} (h : vs.length ≤ us.length) : Tm.cmps (us.drop us.length) (vs.drop us.length) = 0 := by
  rw [List.drop_length, List.drop_eq_nil_of_le h, Tm.cmps]
theorem cmps_short {us vs : List Tm} (h : us.length < vs.length) : Tm.cmps (us.drop us.length) (vs.drop us.length) = -1 := by
  rw [List.drop_length, List.drop_eq_getElem_cons h, Tm.cmps]
theorem cmps_long {us vs : List Tm} {i : Nat} (h : i < us.length) (h2 : vs.length ≤ i) : Tm.cmps (us.drop i) (vs.drop i) = 1 := by
  rw [List.drop_eq_nil_of_le h2, List.drop_eq_getElem_cons h, Tm.cmps]
def CmpC (B : Nat → Prop) (m : Nat) : Prop := ∀ (a b : Tm) (v0 v1 u0 u1 : Value) (w : World), TmAt B m w a [v0, v1] → TmAt B m w b [u0, u1] → a.ord = true → b.ord = true →
  Calls Try.prog 38 #[.agg #[v0, v1], .agg #[u0, u1]] w fun e w' => e = .returned (.int .i64 (a.cmp b)) ∧ Below w.heap.size w w'
def CmpRel (us vs : List Tm) (w : World) (i : Value) (wr : World) : Prop := ∃ k : Nat, k ≤ us.length ∧ k ≤ vs.length ∧ i = .int .i64 k ∧ Tm.cmps us vs = Tm.cmps (us.drop k) (vs.drop k) ∧ Below w.heap.size w wr
set_option maxRecDepth 100000 in
set_option maxHeartbeats 1600000 in
theorem compareFunc_any {B : Nat → Prop} (m : Nat) (HC0 : CmpC B m) (us vs : List Tm) (hu : Tm.ords us = true) (hv : Tm.ords vs = true) (va vb : Value) (w : World) (h : ListAt B w 2 (TmAt B m w) va us) (h' : ListAt B w 2 (TmAt B m w) vb vs) :
    Calls Try.prog 63 #[va, vb, .func (.func 38) #[] #[]] w fun e w' => e = .returned (.int .i64 (Tm.cmps us vs)) ∧ Below w.heap.size w w' := by
  obtain ⟨p, c, rfl, hlen⟩ := h.form
  obtain ⟨q, d, rfl, hlen'⟩ := h'.form
  unfold maxLen at hlen hlen'
  have HU := Lib.hid h
  have HV := Lib.hid h'
  have HC := Lib.hid HC0
  clear h h' HC0
  go_enter Try.func63, Try.ntmps63
  go_wp2
  go_loopw [13] (CmpRel us vs w) (fun i _ => us.length - (intOf i).toNat)
  case atStart => exact ⟨0, Nat.zero_le _, Nat.zero_le _, rfl, rfl, by (repeat (first | with_reducible exact Below.refl _ _ | with_reducible assumption | with_reducible refine Below.al ?_ _ | with_reducible refine Below.sc ?_ (by first | exact Nat.le_refl _ | (simp; done) | (simp; omega)) _ | assumption | exact Below.refl _ _ | refine Below.dr ?_ | refine Below.drN ?_ _ | refine Below.step ?_ (by assumption)))⟩
  case round =>
    obtain ⟨k, hk, hk2, rfl, he, hb⟩ := hrel
    have HE := Lib.hid he
    clear he
    by_cases hlt : k < us.length
    · by_cases hlt2 : k < vs.length
      · have hor := Tm.ords_at hu hlt
        have hor2 := Tm.ords_at hv hlt2
        have hd := Tm.cmps_drop hlt hlt2
        obtain ⟨b2, o2, hq2, hB2, y0, y1, hy0, hy1, hy⟩ := (HV.out.mono (SameOn.below hb) (fun _ h => h) (fun x cs _ hx => TmAt.below hb hx)).at2 hlt2
        subst hq2
        obtain ⟨a2, ha2⟩ : ∃ a2, vs[k] = a2 := ⟨_, rfl⟩
        rw [ha2] at hor2 hd hy
        obtain ⟨b, o, rfl, hB, x0, x1, hx0, hx1, hx⟩ := (HU.out.mono (SameOn.below hb) (fun _ h => h) (fun x cs _ hx => TmAt.below hb hx)).at2 hlt
        have hD := hd
        have hO := hor
        obtain ⟨a, ha⟩ : ∃ a, us[k] = a := ⟨_, rfl⟩
        rw [ha] at hx
        rw [ha] at hD
        rw [ha] at hO
        have HX := Lib.hid hx
        have HD := Lib.hid hD
        have HO := Lib.hid hO
        clear hx ha hD hO
        have zb := bsz (World.block_lt_of_cell? _ _ hx0)
        have HY := Lib.hid hy
        clear hy ha2
        obtain ⟨pa, ca, rfl, rfl, -⟩ := HX.out.form
        obtain ⟨pb, cb, rfl, rfl, -⟩ := HY.out.form
        have zb2 := bsz (World.block_lt_of_cell? _ _ hy0)
        go_wp2_with fail
        refine (HC.out a a2 _ _ _ _ _ (TmAt.below (by (repeat (first | with_reducible exact Below.refl _ _ | with_reducible assumption | with_reducible refine Below.al ?_ _ | with_reducible refine Below.sc ?_ (by first | exact Nat.le_refl _ | (simp; done) | (simp; omega)) _ | assumption | exact Below.refl _ _ | refine Below.dr ?_ | refine Below.drN ?_ _ | refine Below.step ?_ (by assumption)))) HX.out) (TmAt.below (by (repeat (first | with_reducible exact Below.refl _ _ | with_reducible assumption | with_reducible refine Below.al ?_ _ | with_reducible refine Below.sc ?_ (by first | exact Nat.le_refl _ | (simp; done) | (simp; omega)) _ | assumption | exact Below.refl _ _ | refine Below.dr ?_ | refine Below.drN ?_ _ | refine Below.step ?_ (by assumption)))) HY.out) HO.out hor2).mono ?_
        rintro e w1 ⟨rfl, hb1⟩
        cases hz : (a.cmp a2 == 0)
        · have hz' : (a.cmp a2 != 0) = true := by rw [bne, hz]; rfl
          have hz2 : ¬ a.cmp a2 = 0 := by simpa using hz
          go_wp2
          go_ret
          exact ⟨ret_int (by rw [HE.out, HD.out, if_pos hz2]), by (repeat (first | with_reducible exact Below.refl _ _ | with_reducible assumption | with_reducible refine Below.al ?_ _ | with_reducible refine Below.sc ?_ (by first | exact Nat.le_refl _ | (simp; done) | (simp; omega)) _ | assumption | exact Below.refl _ _ | refine Below.dr ?_ | refine Below.drN ?_ _ | refine Below.step ?_ (by assumption)))⟩
        · have hz' : (a.cmp a2 != 0) = false := by rw [bne, hz]; rfl
          have hz2 : a.cmp a2 = 0 := by simpa using hz
          go_wp2
          refine ⟨⟨k + 1, by omega, by omega, by go_num, by rw [HE.out, HD.out, if_neg (by simpa using hz2)], by (repeat (first | with_reducible exact Below.refl _ _ | with_reducible assumption | with_reducible refine Below.al ?_ _ | with_reducible refine Below.sc ?_ (by first | exact Nat.le_refl _ | (simp; done) | (simp; omega)) _ | assumption | exact Below.refl _ _ | refine Below.dr ?_ | refine Below.drN ?_ _ | refine Below.step ?_ (by assumption)))⟩, by simp [intOf]; omega⟩
      · obtain ⟨b, o, rfl, hB, x0, x1, hx0, hx1, hx⟩ := (HU.out.mono (SameOn.below hb) (fun _ h => h) (fun x cs _ hx => TmAt.below hb hx)).at2 hlt
        obtain ⟨a, ha⟩ : ∃ a, us[k] = a := ⟨_, rfl⟩
        rw [ha] at hx
        have HX := Lib.hid hx
        clear hx ha 
        have zb := bsz (World.block_lt_of_cell? _ _ hx0)
        obtain ⟨pa, ca, rfl, rfl, -⟩ := HX.out.form
        have hge : (vs.length : Int) ≤ k := by omega
        go_wp2
        go_ret
        exact ⟨ret_int (by rw [HE.out, cmps_long hlt (by omega)]), by (repeat (first | with_reducible exact Below.refl _ _ | with_reducible assumption | with_reducible refine Below.al ?_ _ | with_reducible refine Below.sc ?_ (by first | exact Nat.le_refl _ | (simp; done) | (simp; omega)) _ | assumption | exact Below.refl _ _ | refine Below.dr ?_ | refine Below.drN ?_ _ | refine Below.step ?_ (by assumption)))⟩
    · obtain rfl : k = us.length := by omega
      by_cases hlt2 : us.length < vs.length
      · have hlt3 : (us.length : Int) < vs.length := by omega
        go_wp2
        go_ret
        exact ⟨ret_int (by rw [HE.out, cmps_short hlt2]), by (repeat (first | with_reducible exact Below.refl _ _ | with_reducible assumption | with_reducible refine Below.al ?_ _ | with_reducible refine Below.sc ?_ (by first | exact Nat.le_refl _ | (simp; done) | (simp; omega)) _ | assumption | exact Below.refl _ _ | refine Below.dr ?_ | refine Below.drN ?_ _ | refine Below.step ?_ (by assumption)))⟩
      · have hlt3 : ¬ (us.length : Int) < vs.length := by omega
        go_wp2
        go_ret
        exact ⟨ret_int (by rw [HE.out, cmps_end (by omega)]), by (repeat (first | with_reducible exact Below.refl _ _ | with_reducible assumption | with_reducible refine Below.al ?_ _ | with_reducible refine Below.sc ?_ (by first | exact Nat.le_refl _ | (simp; done) | (simp; omega)) _ | assumption | exact Below.refl _ _ | refine Below.dr ?_ | refine Below.drN ?_ _ | refine Below.step ?_ (by assumption)))⟩
theorem Tm.cmp_eq (a b : Tm) : a.cmp b = if varB a.n.data.toList && !varB b.n.data.toList then -1 else if varB b.n.data.toList && !varB a.n.data.toList then 1
    else if textCmp a.n.data.toList b.n.data.toList ≠ 0 then textCmp a.n.data.toList b.n.data.toList else if a.us.length < b.us.length then -1 else if b.us.length < a.us.length then 1 else Tm.cmps a.us b.us := by
  obtain ⟨n, us⟩ := a; obtain ⟨k, vs⟩ := b; rw [Tm.cmp]; rfl
theorem cmp_or (t : Int) (la lb : Nat) (x : Int) : (if t ≠ 0 then t else if la < lb then -1 else if lb < la then 1 else x) = if orI t (Lib.compareInt la lb) ≠ 0 then orI t (Lib.compareInt la lb) else x := by
  unfold orI Lib.compareInt
  by_cases ht : t = 0
  · by_cases h1 : la < lb
    · simp [ht, h1]
    · by_cases h2 : lb < la
      · simp [ht, h1, h2]
      · simp [ht, h1, h2]
  · simp [ht]
theorem Tm.ord_us {a : Tm} (h : a.ord = true) : Tm.ords a.us = true := by obtain ⟨n, us⟩ := a; rw [Tm.ord, Bool.and_eq_true] at h; exact h.2
theorem TmAt.sub' {B : Nat → Prop} {w : World} {n : Nat} {t : Tm} {v0 v1 : Value} (h : TmAt B (n + 1) w t [v0, v1]) : ListAt B w 2 (TmAt B n w) v1 t.us := by
  obtain ⟨s, us⟩ := t
  obtain ⟨va, h1, h2, h3⟩ := h
  simp only [List.cons.injEq, and_true] at h1
  obtain ⟨-, rfl⟩ := h1
  exact h3
set_option maxRecDepth 100000 in
set_option maxHeartbeats 3200000 in
theorem compareTerms_any {B : Nat → Prop} : ∀ m : Nat, CmpC B m := by
  intro m
  induction m with
  | zero => intro a b v0 v1 u0 u1 w h; exact h.elim
  | succ m ih =>
    intro a b v0 v1 u0 u1 w ha hb hoa hob
    obtain ⟨p, c, rfl, rfl, -, hla⟩ := ha.form
    obtain ⟨q, d, rfl, rfl, -, hlb⟩ := hb.form
    unfold maxLen at hla hlb
    have HA := Lib.hid ha
    have HB := Lib.hid hb
    have IH := Lib.hid (compareFunc_any m ih a.us b.us (Tm.ord_us hoa) (Tm.ord_us hob))
    have HCE := Lib.hid (Tm.cmp_eq a b)
    clear ha hb ih
    go_enter Try.func38, Try.ntmps38
    go_wp2
    obtain ⟨W, hW⟩ : ∃ W : World, W = (w.alloc (.cells #[.string a.n, .slice p a.us.length c] 48)).alloc (.cells #[.string b.n, .slice q b.us.length d] 48) := ⟨_, rfl⟩
    have hsW : W.heap.size = w.heap.size + 2 := by rw [hW]; simp
    have hbW : Below w.heap.size w W := by rw [hW]; (repeat (first | with_reducible exact Below.refl _ _ | with_reducible assumption | with_reducible refine Below.al ?_ _ | with_reducible refine Below.sc ?_ (by first | exact Nat.le_refl _ | (simp; done) | (simp; omega)) _ | assumption | exact Below.refl _ _ | refine Below.dr ?_ | refine Below.drN ?_ _ | refine Below.step ?_ (by assumption)))
    have a0 : W.cell? ⟨w.heap.size, 0, none⟩ = some (.string a.n) := by rw [hW]; go_simp
    have a1 : W.cell? ⟨w.heap.size, 1, none⟩ = some (.slice p a.us.length c) := by rw [hW]; go_simp
    have b0 : W.cell? ⟨w.heap.size + 1, 0, none⟩ = some (.string b.n) := by rw [hW]; go_simp
    have b1 : W.cell? ⟨w.heap.size + 1, 1, none⟩ = some (.slice q b.us.length d) := by rw [hW]; go_simp
    rw [← hW]
    clear hW
    have zW := bsz (show w.heap.size < W.heap.size by omega)
    have zW1 := bsz (show w.heap.size + 1 < W.heap.size by omega)
    obtain ⟨C, HC0⟩ := class_of (InF W.heap.size _ [(⟨w.heap.size, 0, none⟩, .string a.n), (⟨w.heap.size, 1, none⟩, .slice p a.us.length c), (⟨w.heap.size + 1, 0, none⟩, .string b.n), (⟨w.heap.size + 1, 1, none⟩, .slice q b.us.length d)] [] [])
    have HC := Lib.hid HC0
    clear HC0
    refine wp_region_flow (C := C) (by kernel_rfl) (by kernel_rfl) (fun L hL => (HC.out _ _).2 (InF.start (by first | (intro _ hs; cases hs; done) | (simp only [List.forall_mem_cons]; go_simp)) (by first | (intro _ hs; cases hs; done) | (simp only [List.forall_mem_cons]; go_simp)) (by first | (intro _ hs; cases hs; done) | (simp only [List.forall_mem_cons]; go_simp)) (by first | (intro _ hs; cases hs; done) | (simp only [List.forall_mem_cons]; go_simp)) L hL)) ?_
    repeat (first | (apply flow_free rfl; (intro L w' hun hrd hC; have hC := (HC.out _ _).1 hC; have hb' := hC.below; (try have hw' : Below w.heap.size w w' := by first | exact Below.trans (by (repeat (first | with_reducible exact Below.refl _ _ | with_reducible assumption | with_reducible refine Below.al ?_ _ | with_reducible refine Below.sc ?_ (by first | exact Nat.le_refl _ | (simp; done) | (simp; omega)) _ | assumption | exact Below.refl _ _ | refine Below.dr ?_ | refine Below.drN ?_ _ | refine Below.step ?_ (by assumption)))) hb' | ((repeat (first | with_reducible exact Below.refl _ _ | with_reducible assumption | with_reducible refine Below.al ?_ _ | with_reducible refine Below.sc ?_ (by first | exact Nat.le_refl _ | (simp; done) | (simp; omega)) _ | assumption | exact Below.refl _ _ | refine Below.dr ?_ | refine Below.drN ?_ _ | refine Below.step ?_ (by assumption))); done)); have hf' := hC.cell; (try simp only [List.forall_mem_cons] at hf'); go_simp; first | exact ⟨(HC.out _ _).2 (hC.skip _ (by rfl)), rfl⟩ | (rw [if_neg]; (exact ⟨(HC.out _ _).2 (hC.skip _ (by rfl)), rfl⟩); omega) | (go_at_call 61; (with_reducible refine (isVar_any (m + 1) a _ _ _ (TmAt.below hw' HA.out) hoa).mono ?_); rintro e w1 ⟨rfl, hb1⟩; exact ⟨rfl, (HC.out _ _).2 ((hC.next (by first | (simp; done) | (simp; omega) | omega) hb1).skip _ (by rfl))⟩) | (go_at_call 61; (with_reducible refine (isVar_any (m + 1) b _ _ _ (TmAt.below hw' HB.out) hob).mono ?_); rintro e w1 ⟨rfl, hb1⟩; exact ⟨rfl, (HC.out _ _).2 ((hC.next (by first | (simp; done) | (simp; omega) | omega) hb1).skip _ (by rfl))⟩)); go_simp) | (apply flow_yes; (case hw => go_simp); (intro L w' hun hrd hC; have hC := (HC.out _ _).1 hC; have hb' := hC.below; (try have hw' : Below w.heap.size w w' := by first | exact Below.trans (by (repeat (first | with_reducible exact Below.refl _ _ | with_reducible assumption | with_reducible refine Below.al ?_ _ | with_reducible refine Below.sc ?_ (by first | exact Nat.le_refl _ | (simp; done) | (simp; omega)) _ | assumption | exact Below.refl _ _ | refine Below.dr ?_ | refine Below.drN ?_ _ | refine Below.step ?_ (by assumption)))) hb' | ((repeat (first | with_reducible exact Below.refl _ _ | with_reducible assumption | with_reducible refine Below.al ?_ _ | with_reducible refine Below.sc ?_ (by first | exact Nat.le_refl _ | (simp; done) | (simp; omega)) _ | assumption | exact Below.refl _ _ | refine Below.dr ?_ | refine Below.drN ?_ _ | refine Below.step ?_ (by assumption))); done)); have hf' := hC.cell; (try simp only [List.forall_mem_cons] at hf'); go_simp; first | exact ⟨(HC.out _ _).2 (hC.skip _ (by rfl)), rfl⟩ | (rw [if_neg]; (exact ⟨(HC.out _ _).2 (hC.skip _ (by rfl)), rfl⟩); omega) | (go_at_call 61; (with_reducible refine (isVar_any (m + 1) a _ _ _ (TmAt.below hw' HA.out) hoa).mono ?_); rintro e w1 ⟨rfl, hb1⟩; exact ⟨rfl, (HC.out _ _).2 ((hC.next (by first | (simp; done) | (simp; omega) | omega) hb1).skip _ (by rfl))⟩) | (go_at_call 61; (with_reducible refine (isVar_any (m + 1) b _ _ _ (TmAt.below hw' HB.out) hob).mono ?_); rintro e w1 ⟨rfl, hb1⟩; exact ⟨rfl, (HC.out _ _).2 ((hC.next (by first | (simp; done) | (simp; omega) | omega) hb1).skip _ (by rfl))⟩)); go_simp) | (apply flow_no; (case hw => (go_simp; try (intro hh; cases hh))); (intro L w' _ _ hC; exact (HC.out _ _).2 (((HC.out _ _).1 hC).skip _ (by rfl))); go_simp))
    refine flow_nil ?_
    intro L wz hL hz
    have hz := (HC.out _ _).1 hz
    have hbz := hz.below
    have hcz := hz.cell
    try simp only [List.forall_mem_cons] at hcz
    have hdz := hz.done
    try simp only [List.forall_mem_cons] at hdz
    (try have hwz : Below w.heap.size w wz := by first | exact Below.trans (by (repeat (first | with_reducible exact Below.refl _ _ | with_reducible assumption | with_reducible refine Below.al ?_ _ | with_reducible refine Below.sc ?_ (by first | exact Nat.le_refl _ | (simp; done) | (simp; omega)) _ | assumption | exact Below.refl _ _ | refine Below.dr ?_ | refine Below.drN ?_ _ | refine Below.step ?_ (by assumption)))) hbz | ((repeat (first | with_reducible exact Below.refl _ _ | with_reducible assumption | with_reducible refine Below.al ?_ _ | with_reducible refine Below.sc ?_ (by first | exact Nat.le_refl _ | (simp; done) | (simp; omega)) _ | assumption | exact Below.refl _ _ | refine Below.dr ?_ | refine Below.drN ?_ _ | refine Below.step ?_ (by assumption))); done))
    cases hva : varB a.n.data.toList <;> cases hvb : varB b.n.data.toList
    case true.false =>
      go_wp2
      go_ret
      exact ⟨ret_int (by rw [HCE.out, hva, hvb]; rfl), by (repeat (first | with_reducible exact Below.refl _ _ | with_reducible assumption | with_reducible refine Below.al ?_ _ | with_reducible refine Below.sc ?_ (by first | exact Nat.le_refl _ | (simp; done) | (simp; omega)) _ | assumption | exact Below.refl _ _ | refine Below.dr ?_ | refine Below.drN ?_ _ | refine Below.step ?_ (by assumption)))⟩
    case false.true =>
      go_wp2
      go_ret
      exact ⟨ret_int (by rw [HCE.out, hva, hvb]; rfl), by (repeat (first | with_reducible exact Below.refl _ _ | with_reducible assumption | with_reducible refine Below.al ?_ _ | with_reducible refine Below.sc ?_ (by first | exact Nat.le_refl _ | (simp; done) | (simp; omega)) _ | assumption | exact Below.refl _ _ | refine Below.dr ?_ | refine Below.drN ?_ _ | refine Below.step ?_ (by assumption)))⟩
    all_goals
      have HCE2 := Lib.hid (show a.cmp b = if textCmp a.n.data.toList b.n.data.toList ≠ 0 then textCmp a.n.data.toList b.n.data.toList else if a.us.length < b.us.length then -1 else if b.us.length < a.us.length then 1 else Tm.cmps a.us b.us by rw [HCE.out, hva, hvb]; rfl)
      clear hva hvb
      go_wp2
      obtain ⟨g0, g1, k0, k1⟩ := hcz
      have hwq : Below w.heap.size w wz := by first | exact hwz | (repeat (first | with_reducible exact Below.refl _ _ | with_reducible assumption | with_reducible refine Below.al ?_ _ | with_reducible refine Below.sc ?_ (by first | exact Nat.le_refl _ | (simp; done) | (simp; omega)) _ | assumption | exact Below.refl _ _ | refine Below.dr ?_ | refine Below.drN ?_ _ | refine Below.step ?_ (by assumption)))
      have zq := bsz (show w.heap.size < wz.heap.size by have := hbz.size; omega)
      have zq1 := bsz (show w.heap.size + 1 < wz.heap.size by have := hbz.size; omega)
      clear a0 a1 b0 b1 hdz
      go_region_held3 (fun w' => w'.cell? ⟨w.heap.size, 0, none⟩ = some (.string a.n) ∧ w'.cell? ⟨w.heap.size, 1, none⟩ = some (.slice p a.us.length c) ∧ w'.cell? ⟨w.heap.size + 1, 0, none⟩ = some (.string b.n) ∧ w'.cell? ⟨w.heap.size + 1, 1, none⟩ = some (.slice q b.us.length d)) (first | go_keep | (refine ⟨?_, ?_, ?_, ?_⟩ <;> first | assumption | (go_simp; done) | exact (World.cell?_of_block (hb7.block _ (by simp; omega))).trans (by first | assumption | (go_simp; done)))) (first | (go_at_call 62; refine (compareS_any _ _ _).mono ?_; rintro e w6 ⟨rfl, rfl⟩) | (go_at_call 39; refine (Try.cmp_Compare_int _ _ _).mono ?_; rintro e w6 ⟨rfl, rfl⟩) | (go_at_call 37; refine (or2_any (textCmp a.n.data.toList b.n.data.toList) (Lib.compareInt a.us.length b.us.length) _ _ _ (by go_simp) (by go_simp)).mono ?_; rintro e w7 ⟨rfl, hb7⟩))
      have ⟨cb7, fb7⟩ := bcell hb7
      have hq7 := hb7.size
      simp at hq7
      have hqz := hbz.size
      have zr := bsz (show w.heap.size < w7.heap.size by omega)
      have zr1 := bsz (show w.heap.size + 1 < w7.heap.size by omega)
      have HCE3 := Lib.hid (HCE2.out.trans (cmp_or _ _ _ _))
      generalize orI (textCmp a.n.data.toList b.n.data.toList) (Lib.compareInt (a.us.length : Nat) (b.us.length : Nat)) = r at *
      have hw7 : Below w.heap.size w w7 := by (repeat (first | with_reducible exact Below.refl _ _ | with_reducible assumption | with_reducible refine Below.al ?_ _ | with_reducible refine Below.sc ?_ (by first | exact Nat.le_refl _ | (simp; done) | (simp; omega)) _ | assumption | exact Below.refl _ _ | refine Below.dr ?_ | refine Below.drN ?_ _ | refine Below.step ?_ (by assumption)))
      cases hz : (r == 0)
      · have hz' : (r != 0) = true := by rw [bne, hz]; rfl
        have hz2 : ¬ r = 0 := by simpa using hz
        go_wp2
        go_ret
        exact ⟨ret_int (by rw [HCE3.out, if_pos hz2]), hw7⟩
      · have hz' : (r != 0) = false := by rw [bne, hz]; rfl
        have hz2 : r = 0 := by simpa using hz
        go_wp2_with fail
        refine (IH.out _ _ _ (TmAt.sub' (TmAt.below hw7 HA.out)) (TmAt.sub' (TmAt.below hw7 HB.out))).mono ?_
        rintro e w8 ⟨rfl, hb8⟩
        go_wp2
        go_ret
        exact ⟨ret_int (by rw [HCE3.out, if_neg (by simpa using hz2)]), Below.trans hw7 (hb8.mono hw7.size)⟩
end Go.Proofs.Ytdklemmincejpaa
namespace Go.Proofs.Ytdklemmincejpaa
open Go.RowKit
theorem Tm.szs_drop (us : List Tm) {k : Nat} (h : k < us.length) : Tm.szs (us.drop k) = us[k].sz + Tm.szs (us.drop (k + 1)) := by
  rw [List.drop_eq_getElem_cons h, Tm.szs]
theorem Tm.szIs_drop (us : List Tm) {k : Nat} (h : k < us.length) (n : Nat) : Tm.szIs n (us.drop k) = if 30 < n then n else Tm.szIs (n + us[k].szI) (us.drop (k + 1)) := by
  rw [List.drop_eq_getElem_cons h, Tm.szIs]
theorem Tm.manys_drop (us : List Tm) {k : Nat} (h : k < us.length) (n m : Nat) : Tm.manys n (us.drop k) m = if n ≤ m then Tm.manys (n + us[k].many (m - n)) (us.drop (k + 1)) m else n := by
  rw [List.drop_eq_getElem_cons h, Tm.manys]
theorem Tm.dps_drop (us : List Tm) {k : Nat} (h : k < us.length) : Tm.dps (us.drop k) = max us[k].dp (Tm.dps (us.drop (k + 1))) := by
  rw [List.drop_eq_getElem_cons h, Tm.dps]
set_option maxRecDepth 100000 in
set_option maxHeartbeats 1600000 in
theorem size_any {B : Nat → Prop} : ∀ (m : Nat) (t : Tm) (v0 v1 : Value) (w : World), TmAt B m w t [v0, v1] → t.sz ≤ 100000000 →
      Calls Try.prog 73 #[.agg #[v0, v1]] w fun e w' => e = .returned (.int .i64 (t.szI : Nat)) ∧ Below w.heap.size w w' := by
  intro m
  induction m with
  | zero => intro t v0 v1 w h; exact h.elim
  | succ m ih =>
    rintro ⟨s, us⟩ v0 v1 w ⟨va, hcs, hs, hl⟩ hz
    simp only [List.cons.injEq, and_true] at hcs
    obtain ⟨rfl, rfl⟩ := hcs
    rw [Tm.sz] at hz
    obtain ⟨p, c, rfl, hlen⟩ := hl.form
    unfold maxLen at hlen
    have IH := Lib.hid ih
    have HL := Lib.hid hl
    have HSZ := Lib.hid (show (Tm.mk s us).szI = Tm.szIs 1 us from rfl)
    clear ih hl
    go_enter Try.func73, Try.ntmps73
    go_wp2
    go_loopw [3, 9] (fun n i wr => ∃ k acc : Nat, k ≤ us.length ∧ i = .int .i64 k ∧ n = .int .i64 acc ∧ Tm.szIs acc (us.drop k) = Tm.szIs 1 us ∧ acc + Tm.szs (us.drop k) ≤ 1 + Tm.szs us ∧ Below w.heap.size w wr) (fun _ i _ => us.length - (intOf i).toNat)
    case atStart => exact ⟨0, 1, Nat.zero_le _, rfl, rfl, rfl, Nat.le_refl _, by (repeat (first | with_reducible exact Below.refl _ _ | with_reducible assumption | with_reducible refine Below.al ?_ _ | with_reducible refine Below.sc ?_ (by first | exact Nat.le_refl _ | (simp; done) | (simp; omega)) _ | assumption | exact Below.refl _ _ | refine Below.dr ?_ | refine Below.drN ?_ _ | refine Below.step ?_ (by assumption)))⟩
    case round =>
      obtain ⟨k, acc, hk, rfl, rfl, he, hle, hb⟩ := hrel
      have HE := Lib.hid he
      clear he
      by_cases hlt : k < us.length
      · obtain ⟨b, o, rfl, hB, x0, x1, hx0, hx1, hx⟩ := (HL.out.mono (SameOn.below hb) (fun _ h => h) (fun x cs _ hx => TmAt.below hb hx)).at2 hlt
        obtain ⟨pa, ca, rfl, rfl, -, -⟩ := hx.form
        have HD := Lib.hid (Tm.szIs_drop us hlt acc)
        have HZ := Lib.hid (Tm.szs_drop us hlt)
        obtain ⟨a, ha⟩ : ∃ a, us[k] = a := ⟨_, rfl⟩
        rw [ha] at hx HD HZ hx0 hx1
        have HX := Lib.hid hx
        have hlaw := a.szI_law
        have hzz := HZ.out
        rw [hzz] at hle
        clear hx ha hzz
        by_cases h30 : 30 < (acc : Int)
        · go_wp2
          go_ret
          exact ⟨ret_int (by rw [HSZ.out, ← HE.out, HD.out, if_pos (by omega)]), by (repeat (first | with_reducible exact Below.refl _ _ | with_reducible assumption | with_reducible refine Below.al ?_ _ | with_reducible refine Below.sc ?_ (by first | exact Nat.le_refl _ | (simp; done) | (simp; omega)) _ | assumption | exact Below.refl _ _ | refine Below.dr ?_ | refine Below.drN ?_ _ | refine Below.step ?_ (by assumption)))⟩
        · go_wp2_with fail
          refine (IH.out a _ _ _ (HX.out.below (by (repeat (first | with_reducible exact Below.refl _ _ | with_reducible assumption | with_reducible refine Below.al ?_ _ | with_reducible refine Below.sc ?_ (by first | exact Nat.le_refl _ | (simp; done) | (simp; omega)) _ | assumption | exact Below.refl _ _ | refine Below.dr ?_ | refine Below.drN ?_ _ | refine Below.step ?_ (by assumption))))) (by omega)).mono ?_
          rintro e w1 ⟨rfl, hb1⟩
          have ⟨cw1, fw1⟩ := bcell hb1
          have qw1 := hb1.size
          (try simp at qw1)
          (try have zw1w := bsz (show w.heap.size < w1.heap.size by omega))
          go_wp2
          refine ⟨⟨k + 1, acc + a.szI, by omega, by go_num, by go_num, ?_, by omega, by (repeat (first | with_reducible exact Below.refl _ _ | with_reducible assumption | with_reducible refine Below.al ?_ _ | with_reducible refine Below.sc ?_ (by first | exact Nat.le_refl _ | (simp; done) | (simp; omega)) _ | assumption | exact Below.refl _ _ | refine Below.dr ?_ | refine Below.drN ?_ _ | refine Below.step ?_ (by assumption)))⟩, by simp [intOf]; omega⟩
          rw [← HE.out, HD.out, if_neg (by omega)]
      · obtain rfl : k = us.length := by omega
        have he := HE.out
        rw [List.drop_length, Tm.szIs] at he
        have HE2 := Lib.hid he
        clear he
        go_wp2
        go_ret
        exact ⟨ret_int (by rw [HSZ.out, ← HE2.out]), by (repeat (first | with_reducible exact Below.refl _ _ | with_reducible assumption | with_reducible refine Below.al ?_ _ | with_reducible refine Below.sc ?_ (by first | exact Nat.le_refl _ | (simp; done) | (simp; omega)) _ | assumption | exact Below.refl _ _ | refine Below.dr ?_ | refine Below.drN ?_ _ | refine Below.step ?_ (by assumption)))⟩
set_option maxRecDepth 100000 in
set_option maxHeartbeats 1600000 in
theorem depth_any {B : Nat → Prop} : ∀ (m : Nat) (t : Tm) (v0 v1 : Value) (w : World), TmAt B m w t [v0, v1] → t.sz ≤ 100000000 →
      Calls Try.prog 74 #[.agg #[v0, v1]] w fun e w' => e = .returned (.int .i64 (t.dp : Nat)) ∧ Below w.heap.size w w' := by
  intro m
  induction m with
  | zero => intro t v0 v1 w h; exact h.elim
  | succ m ih =>
    rintro ⟨s, us⟩ v0 v1 w ⟨va, hcs, hs, hl⟩ hz
    simp only [List.cons.injEq, and_true] at hcs
    obtain ⟨rfl, rfl⟩ := hcs
    rw [Tm.sz] at hz
    obtain ⟨p, c, rfl, hlen⟩ := hl.form
    unfold maxLen at hlen
    have IH := Lib.hid ih
    have HL := Lib.hid hl
    have HSZ := Lib.hid (show (Tm.mk s us).dp = Tm.dps us + 1 from rfl)
    clear ih hl
    go_enter Try.func74, Try.ntmps74
    go_wp2
    go_loopw [3, 9] (fun n i wr => ∃ k acc : Nat, k ≤ us.length ∧ i = .int .i64 k ∧ n = .int .i64 acc ∧ max acc (Tm.dps (us.drop k)) = Tm.dps us ∧ acc + Tm.szs (us.drop k) ≤ Tm.szs us ∧ Below w.heap.size w wr) (fun _ i _ => us.length - (intOf i).toNat)
    case atStart => exact ⟨0, 0, Nat.zero_le _, rfl, rfl, by simp, by simp, by (repeat (first | with_reducible exact Below.refl _ _ | with_reducible assumption | with_reducible refine Below.al ?_ _ | with_reducible refine Below.sc ?_ (by first | exact Nat.le_refl _ | (simp; done) | (simp; omega)) _ | assumption | exact Below.refl _ _ | refine Below.dr ?_ | refine Below.drN ?_ _ | refine Below.step ?_ (by assumption)))⟩
    case round =>
      obtain ⟨k, acc, hk, rfl, rfl, he, hle, hb⟩ := hrel
      have HE := Lib.hid he
      clear he
      by_cases hlt : k < us.length
      · obtain ⟨b, o, rfl, hB, x0, x1, hx0, hx1, hx⟩ := (HL.out.mono (SameOn.below hb) (fun _ h => h) (fun x cs _ hx => TmAt.below hb hx)).at2 hlt
        obtain ⟨pa, ca, rfl, rfl, -, -⟩ := hx.form
        have HD := Lib.hid (Tm.dps_drop us hlt)
        have HZ := Lib.hid (Tm.szs_drop us hlt)
        obtain ⟨a, ha⟩ : ∃ a, us[k] = a := ⟨_, rfl⟩
        rw [ha] at hx HD HZ hx0 hx1
        have HX := Lib.hid hx
        have hlaw := a.dp_le
        have hzz := HZ.out
        rw [hzz] at hle
        clear hx ha hzz
        go_wp2_with fail
        refine (IH.out a _ _ _ (HX.out.below (by (repeat (first | with_reducible exact Below.refl _ _ | with_reducible assumption | with_reducible refine Below.al ?_ _ | with_reducible refine Below.sc ?_ (by first | exact Nat.le_refl _ | (simp; done) | (simp; omega)) _ | assumption | exact Below.refl _ _ | refine Below.dr ?_ | refine Below.drN ?_ _ | refine Below.step ?_ (by assumption))))) (by omega)).mono ?_
        rintro e w1 ⟨rfl, hb1⟩
        have ⟨cw1, fw1⟩ := bcell hb1
        have qw1 := hb1.size
        (try simp at qw1)
        (try have zw1w := bsz (show w.heap.size < w1.heap.size by omega))
        go_wp2
        refine ⟨⟨k + 1, max acc a.dp, by omega, by go_num, ?_, ?_, by omega, by (repeat (first | with_reducible exact Below.refl _ _ | with_reducible assumption | with_reducible refine Below.al ?_ _ | with_reducible refine Below.sc ?_ (by first | exact Nat.le_refl _ | (simp; done) | (simp; omega)) _ | assumption | exact Below.refl _ _ | refine Below.dr ?_ | refine Below.drN ?_ _ | refine Below.step ?_ (by assumption)))⟩, by simp [intOf]; omega⟩
        · exact congrArg (Value.int .i64) (by omega)
        · rw [← HE.out, HD.out]; omega
      · obtain rfl : k = us.length := by omega
        have he := HE.out
        rw [List.drop_length, Tm.dps] at he
        have HE2 := Lib.hid he
        clear he
        go_wp2
        go_ret
        exact ⟨ret_int (by rw [HSZ.out, ← HE2.out]; omega), by (repeat (first | with_reducible exact Below.refl _ _ | with_reducible assumption | with_reducible refine Below.al ?_ _ | with_reducible refine Below.sc ?_ (by first | exact Nat.le_refl _ | (simp; done) | (simp; omega)) _ | assumption | exact Below.refl _ _ | refine Below.dr ?_ | refine Below.drN ?_ _ | refine Below.step ?_ (by assumption)))⟩
theorem l1Most_any (a b : Int) (w : World) : Calls Try.prog 72 #[.int .i64 a, .int .i64 b] w fun e w' => e = .returned (.int .i64 (max a b)) ∧ w = w' := by
  by_cases h : b < a
  all_goals
    go_enter Try.func72, Try.ntmps72
    go_wp2
    go_ret
    exact ⟨ret_int (by omega), rfl⟩
set_option maxRecDepth 100000 in
set_option maxHeartbeats 1600000 in
theorem l2Depth_any {B : Nat → Prop} : ∀ (m : Nat) (t : Tm) (v0 v1 : Value) (w : World), TmAt B m w t [v0, v1] → t.sz ≤ 100000000 →
      Calls Try.prog 49 #[.agg #[v0, v1]] w fun e w' => e = .returned (.int .i64 (t.dp : Nat)) ∧ Below w.heap.size w w' := by
  intro m
  induction m with
  | zero => intro t v0 v1 w h; exact h.elim
  | succ m ih =>
    rintro ⟨s, us⟩ v0 v1 w ⟨va, hcs, hs, hl⟩ hz
    simp only [List.cons.injEq, and_true] at hcs
    obtain ⟨rfl, rfl⟩ := hcs
    rw [Tm.sz] at hz
    obtain ⟨p, c, rfl, hlen⟩ := hl.form
    unfold maxLen at hlen
    have IH := Lib.hid ih
    have HL := Lib.hid hl
    have HSZ := Lib.hid (show (Tm.mk s us).dp = Tm.dps us + 1 from rfl)
    clear ih hl
    go_enter Try.func49, Try.ntmps49
    go_wp2
    obtain ⟨W, hW⟩ : ∃ W, W = w.alloc (.cells #[.string s, .slice p us.length c] 48) := ⟨_, rfl⟩
    have hw0 : W.cell? ⟨w.heap.size, 1, none⟩ = some (.slice p us.length c) := by rw [hW]; go_simp
    have hbW : Below w.heap.size w W := by rw [hW]; (repeat (first | with_reducible exact Below.refl _ _ | with_reducible assumption | with_reducible refine Below.al ?_ _ | with_reducible refine Below.sc ?_ (by first | exact Nat.le_refl _ | (simp; done) | (simp; omega)) _ | assumption | exact Below.refl _ _ | refine Below.dr ?_ | refine Below.drN ?_ _ | refine Below.step ?_ (by assumption)))
    rw [← hW]
    clear hW
    go_loopw [3, 4] (fun n i wr => ∃ k acc : Nat, k ≤ us.length ∧ i = .int .i64 k ∧ n = .int .i64 acc ∧ max acc (Tm.dps (us.drop k)) = Tm.dps us ∧ acc + Tm.szs (us.drop k) ≤ Tm.szs us ∧ Below W.heap.size W wr) (fun _ i _ => us.length - (intOf i).toNat)
    case atStart => exact ⟨0, 0, Nat.zero_le _, rfl, rfl, by simp, by simp, Below.refl _ _⟩
    case round =>
      obtain ⟨k, acc, hk, rfl, rfl, he, hle, hbr⟩ := hrel
      have HE := Lib.hid he
      clear he
      have hb := Below.step hbW hbr
      have hw1 : wr.cell? ⟨w.heap.size, 1, none⟩ = some (.slice p us.length c) := (hbr.cell (World.block_lt_of_cell? W _ hw0)).trans hw0
      by_cases hlt : k < us.length
      · obtain ⟨b, o, rfl, hB, x0, x1, hx0, hx1, hx⟩ := (HL.out.mono (SameOn.below hb) (fun _ h => h) (fun x cs _ hx => TmAt.below hb hx)).at2 hlt
        obtain ⟨pa, ca, rfl, rfl, -, -⟩ := hx.form
        have HD := Lib.hid (Tm.dps_drop us hlt)
        have HZ := Lib.hid (Tm.szs_drop us hlt)
        obtain ⟨a, ha⟩ : ∃ a, us[k] = a := ⟨_, rfl⟩
        rw [ha] at hx HD HZ hx0 hx1
        have HX := Lib.hid hx
        have hlaw := a.dp_le
        have hzz := HZ.out
        rw [hzz] at hle
        clear hx ha hzz
        go_wp2_with fail
        refine (IH.out a _ _ _ HX.out (by omega)).mono ?_
        rintro e w1 ⟨rfl, hb1⟩
        have ⟨cw1, fw1⟩ := bcell hb1
        have qw1 := hb1.size
        (try simp at qw1)
        (try have zw1w := bsz (show w.heap.size < w1.heap.size by omega))
        have hbb := Below.step hbr hb1
        go_wp2_with ((go_at_call 72; refine (l1Most_any _ _ _).mono ?_; rintro e w' ⟨rfl, rfl⟩))
        refine ⟨⟨k + 1, max acc a.dp, by omega, by go_num, ?_, ?_, by omega, hbb⟩, by simp [intOf]; omega⟩
        · exact congrArg (Value.int .i64) (by omega)
        · rw [← HE.out, HD.out]; omega
      · obtain rfl : k = us.length := by omega
        have he := HE.out
        rw [List.drop_length, Tm.dps] at he
        have HE2 := Lib.hid he
        clear he
        go_wp2
        go_ret
        exact ⟨ret_int (by rw [HSZ.out, ← HE2.out]; omega), hb⟩
set_option maxRecDepth 100000 in
set_option maxHeartbeats 1600000 in
theorem l2Many_any {B : Nat → Prop} : ∀ (m : Nat) (t : Tm) (v0 v1 : Value) (M : Nat) (z : Int) (w : World), TmAt B m w t [v0, v1] → t.sz ≤ 100000000 → z = (M : Int) → M ≤ 1000 →
      Calls Try.prog 48 #[.agg #[v0, v1], .int .i64 z] w fun e w' => e = .returned (.int .i64 (t.many M : Nat)) ∧ Below w.heap.size w w' := by
  intro m
  induction m with
  | zero => intro t v0 v1 M z w h; exact h.elim
  | succ m ih =>
    rintro ⟨s, us⟩ v0 v1 M z w ⟨va, hcs, hs, hl⟩ hz rfl hM
    simp only [List.cons.injEq, and_true] at hcs
    obtain ⟨rfl, rfl⟩ := hcs
    rw [Tm.sz] at hz
    obtain ⟨p, c, rfl, hlen⟩ := hl.form
    unfold maxLen at hlen
    have IH := Lib.hid ih
    have HL := Lib.hid hl
    have HSZ := Lib.hid (show (Tm.mk s us).many M = Tm.manys 1 us M from rfl)
    clear ih hl
    go_enter Try.func48, Try.ntmps48
    go_wp2
    obtain ⟨W, hW⟩ : ∃ W, W = w.alloc (.cells #[.string s, .slice p us.length c] 48) := ⟨_, rfl⟩
    have hw0 : W.cell? ⟨w.heap.size, 1, none⟩ = some (.slice p us.length c) := by rw [hW]; go_simp
    have hbW : Below w.heap.size w W := by rw [hW]; (repeat (first | with_reducible exact Below.refl _ _ | with_reducible assumption | with_reducible refine Below.al ?_ _ | with_reducible refine Below.sc ?_ (by first | exact Nat.le_refl _ | (simp; done) | (simp; omega)) _ | assumption | exact Below.refl _ _ | refine Below.dr ?_ | refine Below.drN ?_ _ | refine Below.step ?_ (by assumption)))
    rw [← hW]
    clear hW
    go_loopw [5, 6] (fun n i wr => ∃ k acc : Nat, k ≤ us.length ∧ i = .int .i64 k ∧ n = .int .i64 acc ∧ Tm.manys acc (us.drop k) M = Tm.manys 1 us M ∧ acc + Tm.szs (us.drop k) ≤ 1 + Tm.szs us ∧ Below W.heap.size W wr) (fun _ i _ => us.length - (intOf i).toNat)
    case atStart => exact ⟨0, 1, Nat.zero_le _, rfl, rfl, rfl, Nat.le_refl _, Below.refl _ _⟩
    case round =>
      obtain ⟨k, acc, hk, rfl, rfl, he, hle, hbr⟩ := hrel
      have HE := Lib.hid he
      clear he
      have hb := Below.step hbW hbr
      have hw1 : wr.cell? ⟨w.heap.size, 1, none⟩ = some (.slice p us.length c) := (hbr.cell (World.block_lt_of_cell? W _ hw0)).trans hw0
      by_cases hlt : k < us.length
      · obtain ⟨b, o, rfl, hB, x0, x1, hx0, hx1, hx⟩ := (HL.out.mono (SameOn.below hb) (fun _ h => h) (fun x cs _ hx => TmAt.below hb hx)).at2 hlt
        obtain ⟨pa, ca, rfl, rfl, -, -⟩ := hx.form
        have HD := Lib.hid (Tm.manys_drop us hlt acc M)
        have HZ := Lib.hid (Tm.szs_drop us hlt)
        obtain ⟨a, ha⟩ : ∃ a, us[k] = a := ⟨_, rfl⟩
        rw [ha] at hx HD HZ hx0 hx1
        have HX := Lib.hid hx
        have hlaw := a.many_law (M - acc)
        have hzz := HZ.out
        rw [hzz] at hle
        clear hx ha hzz
        by_cases hac : acc ≤ M
        · have hac1 : (acc : Int) ≤ (M : Int) := by omega
          go_wp2_with fail
          refine (IH.out a _ _ (M - acc) _ _ HX.out (by omega) (by omega) (by omega)).mono ?_
          rintro e w1 ⟨rfl, hb1⟩
          have ⟨cw1, fw1⟩ := bcell hb1
          have qw1 := hb1.size
          (try simp at qw1)
          (try have zw1w := bsz (show w.heap.size < w1.heap.size by omega))
          have hbb := Below.step hbr hb1
          go_wp2
          refine ⟨⟨k + 1, acc + a.many (M - acc), by omega, by go_num, by go_num, ?_, by omega, hbb⟩, by simp [intOf]; omega⟩
          rw [← HE.out, HD.out, if_pos hac]
        · have hac1 : ¬ (acc : Int) ≤ (M : Int) := by omega
          go_wp2
          go_ret
          exact ⟨ret_int (by rw [HSZ.out, ← HE.out, HD.out, if_neg hac]), hb⟩
      · obtain rfl : k = us.length := by omega
        have he := HE.out
        rw [List.drop_length, Tm.manys] at he
        have HE2 := Lib.hid he
        clear he
        go_wp2
        go_ret
        exact ⟨ret_int (by rw [HSZ.out, ← HE2.out]), hb⟩
end Go.Proofs.Ytdklemmincejpaa
namespace Go.Proofs.Ytdklemmincejpaa
open Go.RowKit
theorem Tm.nodess_drop (us : List Tm) {k : Nat} (h : k < us.length) : Tm.nodess (us.drop k) = (us[k].nodes && Tm.nodess (us.drop (k + 1))) := by
  rw [List.drop_eq_getElem_cons h, Tm.nodess]
theorem hasNames1_of {B : Nat → Prop} (m : Nat) (ih : ∀ (t : Tm) (v0 v1 : Value) (w : World), TmAt B m w t [v0, v1] →
      Calls Try.prog 58 #[.agg #[v0, v1]] w fun e w' => e = .returned (.bool t.nodes) ∧ Below w.heap.size w w')
    (t : Tm) (v0 v1 : Value) (w : World) (h : TmAt B m w t [v0, v1]) :
    Calls Try.prog 77 #[.agg #[v0, v1]] w fun e w' => e = .returned (.bool (!t.nodes)) ∧ Below w.heap.size w w' := by
  obtain ⟨p, c, rfl, rfl, -, -⟩ := h.form
  have H := Lib.hid h
  have IH := Lib.hid ih
  clear h ih
  go_enter Try.func77, Try.ntmps77
  go_wp2_with fail
  refine (IH.out t _ _ _ (H.out.below (by (repeat (first | with_reducible exact Below.refl _ _ | with_reducible assumption | with_reducible refine Below.al ?_ _ | with_reducible refine Below.sc ?_ (by first | exact Nat.le_refl _ | (simp; done) | (simp; omega)) _ | assumption | exact Below.refl _ _ | refine Below.dr ?_ | refine Below.drN ?_ _ | refine Below.step ?_ (by assumption)))))).mono ?_
  rintro e w1 ⟨rfl, hb1⟩
  have ⟨cw1, fw1⟩ := bcell hb1
  have qw1 := hb1.size
  (try simp at qw1)
  (try have zw1w := bsz (show w.heap.size < w1.heap.size by omega))
  go_wp2
  go_ret
  exact ⟨rfl, by (repeat (first | with_reducible exact Below.refl _ _ | with_reducible assumption | with_reducible refine Below.al ?_ _ | with_reducible refine Below.sc ?_ (by first | exact Nat.le_refl _ | (simp; done) | (simp; omega)) _ | assumption | exact Below.refl _ _ | refine Below.dr ?_ | refine Below.drN ?_ _ | refine Below.step ?_ (by assumption)))⟩
def FirstBad (us : List Tm) (w : World) (e : Ending) (w' : World) : Prop := ∃ r : Int, e = .returned (.int .i64 r) ∧ decide (0 ≤ r) = !Tm.nodess us ∧ Below w.heap.size w w'
set_option maxRecDepth 100000 in
set_option maxHeartbeats 1600000 in
theorem indexNames_of {B : Nat → Prop} (m : Nat) (ih : ∀ (t : Tm) (v0 v1 : Value) (w : World), TmAt B m w t [v0, v1] →
      Calls Try.prog 58 #[.agg #[v0, v1]] w fun e w' => e = .returned (.bool t.nodes) ∧ Below w.heap.size w w')
    (us : List Tm) (va : Value) (w : World) (h : ListAt B w 2 (TmAt B m w) va us) :
    Calls Try.prog 89 #[va, .func (.func 77) #[] #[]] w (FirstBad us w) := by
  obtain ⟨p, c, rfl, hlen⟩ := h.form
  unfold maxLen at hlen
  have H := Lib.hid h
  have HN1 := Lib.hid (hasNames1_of m ih)
  clear h ih
  go_enter Try.func89, Try.ntmps89
  go_wp2
  go_loopw [8] (fun i wr => ∃ k : Nat, k ≤ us.length ∧ i = .int .i64 k ∧ Tm.nodess us = Tm.nodess (us.drop k) ∧ Below w.heap.size w wr) (fun i _ => us.length - (intOf i).toNat)
  case atStart => exact ⟨0, Nat.zero_le _, rfl, rfl, by (repeat (first | with_reducible exact Below.refl _ _ | with_reducible assumption | with_reducible refine Below.al ?_ _ | with_reducible refine Below.sc ?_ (by first | exact Nat.le_refl _ | (simp; done) | (simp; omega)) _ | assumption | exact Below.refl _ _ | refine Below.dr ?_ | refine Below.drN ?_ _ | refine Below.step ?_ (by assumption)))⟩
  case round =>
    obtain ⟨k, hk, rfl, he, hb⟩ := hrel
    have HE := Lib.hid he
    clear he
    by_cases hlt : k < us.length
    · obtain ⟨b, o, rfl, hB, x0, x1, hx0, hx1, hx⟩ := (H.out.mono (SameOn.below hb) (fun _ h => h) (fun x cs _ hx => TmAt.below hb hx)).at2 hlt
      obtain ⟨pa, ca, rfl, rfl, -, -⟩ := hx.form
      have HD := Lib.hid (Tm.nodess_drop us hlt)
      obtain ⟨a, ha⟩ : ∃ a, us[k] = a := ⟨_, rfl⟩
      rw [ha] at hx HD hx0 hx1
      have HX := Lib.hid hx
      clear hx ha
      cases hN : a.nodes
      all_goals
        have HN := Lib.hid hN
        go_wp2_with fail
        refine (HN1.out a _ _ _ HX.out).mono ?_
        rintro e w1 ⟨rfl, hb1⟩
        have ⟨cw1, fw1⟩ := bcell hb1
        have qw1 := hb1.size
        (try simp at qw1)
        (try have zw1w := bsz (show w.heap.size < w1.heap.size by omega))
        rw [HN.out]
        go_wp2
      · go_ret
        exact ⟨k, rfl, by rw [HE.out, HD.out, HN.out]; simp, by (repeat (first | with_reducible exact Below.refl _ _ | with_reducible assumption | with_reducible refine Below.al ?_ _ | with_reducible refine Below.sc ?_ (by first | exact Nat.le_refl _ | (simp; done) | (simp; omega)) _ | assumption | exact Below.refl _ _ | refine Below.dr ?_ | refine Below.drN ?_ _ | refine Below.step ?_ (by assumption)))⟩
      · refine ⟨⟨k + 1, by omega, by go_num, ?_, by (repeat (first | with_reducible exact Below.refl _ _ | with_reducible assumption | with_reducible refine Below.al ?_ _ | with_reducible refine Below.sc ?_ (by first | exact Nat.le_refl _ | (simp; done) | (simp; omega)) _ | assumption | exact Below.refl _ _ | refine Below.dr ?_ | refine Below.drN ?_ _ | refine Below.step ?_ (by assumption)))⟩, by simp [intOf]; omega⟩
        rw [HE.out, HD.out, HN.out]; rfl
    · obtain rfl : k = us.length := by omega
      have he := HE.out
      rw [List.drop_length, Tm.nodess] at he
      have HE2 := Lib.hid he
      clear he
      go_wp2
      go_ret
      exact ⟨-1, rfl, by rw [HE2.out]; rfl, by (repeat (first | with_reducible exact Below.refl _ _ | with_reducible assumption | with_reducible refine Below.al ?_ _ | with_reducible refine Below.sc ?_ (by first | exact Nat.le_refl _ | (simp; done) | (simp; omega)) _ | assumption | exact Below.refl _ _ | refine Below.dr ?_ | refine Below.drN ?_ _ | refine Below.step ?_ (by assumption)))⟩
set_option maxRecDepth 100000 in
set_option maxHeartbeats 1600000 in
theorem containsNames_of {B : Nat → Prop} (m : Nat) (ih : ∀ (t : Tm) (v0 v1 : Value) (w : World), TmAt B m w t [v0, v1] →
      Calls Try.prog 58 #[.agg #[v0, v1]] w fun e w' => e = .returned (.bool t.nodes) ∧ Below w.heap.size w w')
    (us : List Tm) (va : Value) (w : World) (h : ListAt B w 2 (TmAt B m w) va us) :
    Calls Try.prog 76 #[va, .func (.func 77) #[] #[]] w fun e w' => e = .returned (.bool (!Tm.nodess us)) ∧ Below w.heap.size w w' := by
  have H := Lib.hid h
  have IH := Lib.hid (indexNames_of m ih)
  clear h ih
  go_enter Try.func76, Try.ntmps76
  go_wp2_with fail
  refine (IH.out us va _ H.out).mono ?_
  rintro e w1 ⟨r, rfl, hr, hb1⟩
  have HR := Lib.hid hr
  clear hr
  go_wp2
  go_ret
  exact ⟨ret_bool HR.out, hb1⟩
set_option maxRecDepth 100000 in
set_option maxHeartbeats 1600000 in
theorem hasNames_any {B : Nat → Prop} : ∀ (m : Nat) (t : Tm) (v0 v1 : Value) (w : World), TmAt B m w t [v0, v1] →
      Calls Try.prog 58 #[.agg #[v0, v1]] w fun e w' => e = .returned (.bool t.nodes) ∧ Below w.heap.size w w' := by
  intro m
  induction m with
  | zero => intro t v0 v1 w h; exact h.elim
  | succ m ih =>
    rintro ⟨s, us⟩ v0 v1 w ⟨va, hcs, hs, hl⟩
    simp only [List.cons.injEq, and_true] at hcs
    obtain ⟨rfl, rfl⟩ := hcs
    obtain ⟨p, c, rfl, hlen⟩ := hl.form
    unfold maxLen at hlen
    have IH := Lib.hid (containsNames_of m ih)
    have HL := Lib.hid hl
    have HS := Lib.hid hs
    have HN := Lib.hid (show (Tm.mk s us).nodes = if varB s.data.toList then us.isEmpty else symB s.data.toList && decide (us.length ≤ 4) && Tm.nodess us from rfl)
    clear ih hl hs
    cases hv : varB s.data.toList
    · have HV := Lib.hid hv
      cases hy : symB s.data.toList
      · have HY := Lib.hid hy
        go_enter Try.func58, Try.ntmps58
        go_wp2_with (first | (go_at_call 75; refine (isVariable_any _ _ HS.out).mono ?_; rintro e w' ⟨rfl, rfl⟩) | (go_at_call 59; refine (isSymbol_any _ _ HS.out).mono ?_; rintro e w1 ⟨rfl, hb1⟩; have ⟨cw1, fw1⟩ := bcell hb1; have qw1 := hb1.size; (try simp at qw1); (try have zw1w := bsz (show w.heap.size < w1.heap.size by omega))))
        go_ret
        exact ⟨ret_bool (by rw [HN.out, HV.out, HY.out]; rfl), by (repeat (first | with_reducible exact Below.refl _ _ | with_reducible assumption | with_reducible refine Below.al ?_ _ | with_reducible refine Below.sc ?_ (by first | exact Nat.le_refl _ | (simp; done) | (simp; omega)) _ | assumption | exact Below.refl _ _ | refine Below.dr ?_ | refine Below.drN ?_ _ | refine Below.step ?_ (by assumption)))⟩
      · have HY := Lib.hid hy
        by_cases h4 : (us.length : Int) ≤ 4
        · have H4 := Lib.hid (show decide (us.length ≤ 4) = true by simp; omega)
          go_enter Try.func58, Try.ntmps58
          go_wp2_with (first | (go_at_call 75; refine (isVariable_any _ _ HS.out).mono ?_; rintro e w' ⟨rfl, rfl⟩) | (go_at_call 59; refine (isSymbol_any _ _ HS.out).mono ?_; rintro e w1 ⟨rfl, hb1⟩; have ⟨cw1, fw1⟩ := bcell hb1; have qw1 := hb1.size; (try simp at qw1); (try have zw1w := bsz (show w.heap.size < w1.heap.size by omega))) | (go_at_call 76; refine (IH.out us _ _ (HL.out.mono (SameOn.below (by (repeat (first | with_reducible exact Below.refl _ _ | with_reducible assumption | with_reducible refine Below.al ?_ _ | with_reducible refine Below.sc ?_ (by first | exact Nat.le_refl _ | (simp; done) | (simp; omega)) _ | assumption | exact Below.refl _ _ | refine Below.dr ?_ | refine Below.drN ?_ _ | refine Below.step ?_ (by assumption))))) (fun _ h => h) (fun x cs _ hx => TmAt.below (by (repeat (first | with_reducible exact Below.refl _ _ | with_reducible assumption | with_reducible refine Below.al ?_ _ | with_reducible refine Below.sc ?_ (by first | exact Nat.le_refl _ | (simp; done) | (simp; omega)) _ | assumption | exact Below.refl _ _ | refine Below.dr ?_ | refine Below.drN ?_ _ | refine Below.step ?_ (by assumption)))) hx))).mono ?_; rintro e w2 ⟨rfl, hb2⟩; have ⟨cw2, fw2⟩ := bcell hb2; have qw2 := hb2.size; (try simp at qw2); (try have zw2w := bsz (show w.heap.size < w2.heap.size by omega)); (try have zw2w1 := bsz (show w1.heap.size < w2.heap.size by omega))))
          go_ret
          exact ⟨ret_bool (by rw [HN.out, HV.out, HY.out, H4.out]; simp), by (repeat (first | with_reducible exact Below.refl _ _ | with_reducible assumption | with_reducible refine Below.al ?_ _ | with_reducible refine Below.sc ?_ (by first | exact Nat.le_refl _ | (simp; done) | (simp; omega)) _ | assumption | exact Below.refl _ _ | refine Below.dr ?_ | refine Below.drN ?_ _ | refine Below.step ?_ (by assumption)))⟩
        · have H4 := Lib.hid (show decide (us.length ≤ 4) = false by simp; omega)
          go_enter Try.func58, Try.ntmps58
          go_wp2_with (first | (go_at_call 75; refine (isVariable_any _ _ HS.out).mono ?_; rintro e w' ⟨rfl, rfl⟩) | (go_at_call 59; refine (isSymbol_any _ _ HS.out).mono ?_; rintro e w1 ⟨rfl, hb1⟩; have ⟨cw1, fw1⟩ := bcell hb1; have qw1 := hb1.size; (try simp at qw1); (try have zw1w := bsz (show w.heap.size < w1.heap.size by omega))))
          go_ret
          exact ⟨ret_bool (by rw [HN.out, HV.out, HY.out, H4.out]; rfl), by (repeat (first | with_reducible exact Below.refl _ _ | with_reducible assumption | with_reducible refine Below.al ?_ _ | with_reducible refine Below.sc ?_ (by first | exact Nat.le_refl _ | (simp; done) | (simp; omega)) _ | assumption | exact Below.refl _ _ | refine Below.dr ?_ | refine Below.drN ?_ _ | refine Below.step ?_ (by assumption)))⟩
    · have HV := Lib.hid hv
      have HE := Lib.hid (show us.isEmpty = ((us.length : Int) == 0) by cases us <;> simp; omega)
      go_enter Try.func58, Try.ntmps58
      go_wp2_with (first | (go_at_call 75; refine (isVariable_any _ _ HS.out).mono ?_; rintro e w' ⟨rfl, rfl⟩))
      go_ret
      exact ⟨ret_bool (by rw [HN.out, HV.out, if_pos rfl, HE.out]), by (repeat (first | with_reducible exact Below.refl _ _ | with_reducible assumption | with_reducible refine Below.al ?_ _ | with_reducible refine Below.sc ?_ (by first | exact Nat.le_refl _ | (simp; done) | (simp; omega)) _ | assumption | exact Below.refl _ _ | refine Below.dr ?_ | refine Below.drN ?_ _ | refine Below.step ?_ (by assumption)))⟩
end Go.Proofs.Ytdklemmincejpaa
namespace Go.Proofs.Ytdklemmincejpaa
open Go.RowKit
theorem isEmpty_int {α : Type} (us : List α) : us.isEmpty = ((us.length : Int) == 0) := by cases us <;> simp; omega
set_option maxRecDepth 100000 in
set_option maxHeartbeats 1600000 in
theorem l2Nodes_any {B : Nat → Prop} : ∀ (m : Nat) (t : Tm) (v0 v1 : Value) (w : World), TmAt B m w t [v0, v1] →
      Calls Try.prog 29 #[.agg #[v0, v1]] w fun e w' => e = .returned (.bool t.nodes) ∧ Below w.heap.size w w' := by
  intro m
  induction m with
  | zero => intro t v0 v1 w h; exact h.elim
  | succ m ih =>
    rintro ⟨s, us⟩ v0 v1 w ⟨va, hcs, hs, hl⟩
    simp only [List.cons.injEq, and_true] at hcs
    obtain ⟨rfl, rfl⟩ := hcs
    obtain ⟨p, c, rfl, hlen⟩ := hl.form
    unfold maxLen at hlen
    have IH := Lib.hid ih
    have HL := Lib.hid hl
    have HS := Lib.hid hs
    have HN := Lib.hid (show (Tm.mk s us).nodes = if varB s.data.toList then us.isEmpty else symB s.data.toList && decide (us.length ≤ 4) && Tm.nodess us from rfl)
    clear ih hl hs
    cases hv : varB s.data.toList
    · have HV := Lib.hid hv
      cases hy : symB s.data.toList
      · have HY := Lib.hid hy
        go_enter Try.func29, Try.ntmps29
        go_wp2_with (first | (go_at_call 50; refine (l2Var_any _ _ HS.out).mono ?_; rintro e w' ⟨rfl, rfl⟩) | (go_at_call 30; refine (l2Symbol_any _ _ HS.out).mono ?_; rintro e w' ⟨rfl, rfl⟩))
        go_ret
        exact ⟨ret_bool (by rw [HN.out, HV.out, HY.out]; rfl), by (repeat (first | with_reducible exact Below.refl _ _ | with_reducible assumption | with_reducible refine Below.al ?_ _ | with_reducible refine Below.sc ?_ (by first | exact Nat.le_refl _ | (simp; done) | (simp; omega)) _ | assumption | exact Below.refl _ _ | refine Below.dr ?_ | refine Below.drN ?_ _ | refine Below.step ?_ (by assumption)))⟩
      · have HY := Lib.hid hy
        by_cases h4 : 4 < (us.length : Int)
        · have H4 := Lib.hid (show decide (us.length ≤ 4) = false by simp; omega)
          go_enter Try.func29, Try.ntmps29
          go_wp2_with (first | (go_at_call 50; refine (l2Var_any _ _ HS.out).mono ?_; rintro e w' ⟨rfl, rfl⟩) | (go_at_call 30; refine (l2Symbol_any _ _ HS.out).mono ?_; rintro e w' ⟨rfl, rfl⟩))
          go_ret
          exact ⟨ret_bool (by rw [HN.out, HV.out, HY.out, H4.out]; rfl), by (repeat (first | with_reducible exact Below.refl _ _ | with_reducible assumption | with_reducible refine Below.al ?_ _ | with_reducible refine Below.sc ?_ (by first | exact Nat.le_refl _ | (simp; done) | (simp; omega)) _ | assumption | exact Below.refl _ _ | refine Below.dr ?_ | refine Below.drN ?_ _ | refine Below.step ?_ (by assumption)))⟩
        · have H4 := Lib.hid (show decide (us.length ≤ 4) = true by simp; omega)
          go_enter Try.func29, Try.ntmps29
          go_wp2_with (first | (go_at_call 50; refine (l2Var_any _ _ HS.out).mono ?_; rintro e w' ⟨rfl, rfl⟩) | (go_at_call 30; refine (l2Symbol_any _ _ HS.out).mono ?_; rintro e w' ⟨rfl, rfl⟩))
          obtain ⟨W, hW⟩ : ∃ W, W = w.alloc (.cells #[.string s, .slice p us.length c] 48) := ⟨_, rfl⟩
          have hw0 : W.cell? ⟨w.heap.size, 1, none⟩ = some (.slice p us.length c) := by rw [hW]; go_simp
          have hbW : Below w.heap.size w W := by rw [hW]; (repeat (first | with_reducible exact Below.refl _ _ | with_reducible assumption | with_reducible refine Below.al ?_ _ | with_reducible refine Below.sc ?_ (by first | exact Nat.le_refl _ | (simp; done) | (simp; omega)) _ | assumption | exact Below.refl _ _ | refine Below.dr ?_ | refine Below.drN ?_ _ | refine Below.step ?_ (by assumption)))
          rw [← hW]
          clear hW
          go_loopw [3] (fun i wr => ∃ k : Nat, k ≤ us.length ∧ i = .int .i64 k ∧ Tm.nodess us = Tm.nodess (us.drop k) ∧ Below W.heap.size W wr) (fun i _ => us.length - (intOf i).toNat)
          case atStart => exact ⟨0, Nat.zero_le _, rfl, rfl, Below.refl _ _⟩
          case round =>
            obtain ⟨k, hk, rfl, he, hbr⟩ := hrel
            have HE := Lib.hid he
            clear he
            have hb := Below.step hbW hbr
            have hw1 : wr.cell? ⟨w.heap.size, 1, none⟩ = some (.slice p us.length c) := (hbr.cell (World.block_lt_of_cell? W _ hw0)).trans hw0
            by_cases hlt : k < us.length
            · obtain ⟨b, o, rfl, hB, x0, x1, hx0, hx1, hx⟩ := (HL.out.mono (SameOn.below hb) (fun _ h => h) (fun x cs _ hx => TmAt.below hb hx)).at2 hlt
              obtain ⟨pa, ca, rfl, rfl, -, -⟩ := hx.form
              have HD := Lib.hid (Tm.nodess_drop us hlt)
              obtain ⟨a, ha⟩ : ∃ a, us[k] = a := ⟨_, rfl⟩
              rw [ha] at hx HD hx0 hx1
              have HX := Lib.hid hx
              clear hx ha
              cases hN : a.nodes
              all_goals
                have HA := Lib.hid hN
                go_wp2_with fail
                refine (IH.out a _ _ _ HX.out).mono ?_
                rintro e w1 ⟨rfl, hb1⟩
                have ⟨cw1, fw1⟩ := bcell hb1
                have qw1 := hb1.size
                (try simp at qw1)
                (try have zw1w := bsz (show w.heap.size < w1.heap.size by omega))
                have hbb := Below.step hbr hb1
                have hbw := Below.step hb hb1
                rw [HA.out]
                go_wp2
              · go_ret
                exact ⟨ret_bool (by rw [HN.out, HV.out, HY.out, H4.out, HE.out, HD.out, HA.out]; rfl), hbw⟩
              · refine ⟨⟨k + 1, by omega, by go_num, ?_, hbb⟩, by simp [intOf]; omega⟩
                rw [HE.out, HD.out, HA.out]; rfl
            · obtain rfl : k = us.length := by omega
              have he := HE.out
              rw [List.drop_length, Tm.nodess] at he
              have HE2 := Lib.hid he
              clear he
              go_wp2
              go_ret
              exact ⟨ret_bool (by rw [HN.out, HV.out, HY.out, H4.out, HE2.out]; rfl), hb⟩
    · have HV := Lib.hid hv
      have HE := Lib.hid (isEmpty_int us)
      go_enter Try.func29, Try.ntmps29
      go_wp2_with (first | (go_at_call 50; refine (l2Var_any _ _ HS.out).mono ?_; rintro e w' ⟨rfl, rfl⟩))
      go_ret
      exact ⟨ret_bool (by rw [HN.out, HV.out, if_pos rfl, HE.out]), by (repeat (first | with_reducible exact Below.refl _ _ | with_reducible assumption | with_reducible refine Below.al ?_ _ | with_reducible refine Below.sc ?_ (by first | exact Nat.le_refl _ | (simp; done) | (simp; omega)) _ | assumption | exact Below.refl _ _ | refine Below.dr ?_ | refine Below.drN ?_ _ | refine Below.step ?_ (by assumption)))⟩
theorem isSmall_any {B : Nat → Prop} (m : Nat) (t : Tm) (v0 v1 : Value) (w : World) (h : TmAt B m w t [v0, v1]) (hz : t.sz ≤ 100000000) :
      Calls Try.prog 57 #[.agg #[v0, v1]] w fun e w' => e = .returned (.bool t.small) ∧ Below w.heap.size w w' := by
  obtain ⟨p, c, rfl, rfl, -, -⟩ := h.form
  have H := Lib.hid h
  have HT := Lib.hid (show t.small = (decide (t.szI ≤ 30) && decide (t.dp ≤ 8)) by rw [Tm.small, Tm.szI_iff])
  clear h
  by_cases h1 : (t.szI : Int) ≤ 30
  · have H1 := Lib.hid (show decide (t.szI ≤ 30) = true by simp; omega)
    have HD := Lib.hid (show decide (t.dp ≤ 8) = decide ((t.dp : Int) ≤ 8) by rw [decide_eq_decide]; omega)
    go_enter Try.func57, Try.ntmps57
    go_wp2_with (first | (go_at_call 73; refine (size_any m t _ _ _ (H.out.below (by (repeat (first | with_reducible exact Below.refl _ _ | with_reducible assumption | with_reducible refine Below.al ?_ _ | with_reducible refine Below.sc ?_ (by first | exact Nat.le_refl _ | (simp; done) | (simp; omega)) _ | assumption | exact Below.refl _ _ | refine Below.dr ?_ | refine Below.drN ?_ _ | refine Below.step ?_ (by assumption))))) hz).mono ?_; rintro e w1 ⟨rfl, hb1⟩; have ⟨cw1, fw1⟩ := bcell hb1; have qw1 := hb1.size; (try simp at qw1); (try have zw1w := bsz (show w.heap.size < w1.heap.size by omega))) | (go_at_call 74; refine (depth_any m t _ _ _ (H.out.below (by (repeat (first | with_reducible exact Below.refl _ _ | with_reducible assumption | with_reducible refine Below.al ?_ _ | with_reducible refine Below.sc ?_ (by first | exact Nat.le_refl _ | (simp; done) | (simp; omega)) _ | assumption | exact Below.refl _ _ | refine Below.dr ?_ | refine Below.drN ?_ _ | refine Below.step ?_ (by assumption))))) hz).mono ?_; rintro e w2 ⟨rfl, hb2⟩; have ⟨cw2, fw2⟩ := bcell hb2; have qw2 := hb2.size; (try simp at qw2); (try have zw2w := bsz (show w.heap.size < w2.heap.size by omega)); (try have zw2w1 := bsz (show w1.heap.size < w2.heap.size by omega))))
    go_ret
    exact ⟨ret_bool (by rw [HT.out, H1.out, HD.out]; rfl), by (repeat (first | with_reducible exact Below.refl _ _ | with_reducible assumption | with_reducible refine Below.al ?_ _ | with_reducible refine Below.sc ?_ (by first | exact Nat.le_refl _ | (simp; done) | (simp; omega)) _ | assumption | exact Below.refl _ _ | refine Below.dr ?_ | refine Below.drN ?_ _ | refine Below.step ?_ (by assumption)))⟩
  · have H1 := Lib.hid (show decide (t.szI ≤ 30) = false by simp; omega)
    go_enter Try.func57, Try.ntmps57
    go_wp2_with (first | (go_at_call 73; refine (size_any m t _ _ _ (H.out.below (by (repeat (first | with_reducible exact Below.refl _ _ | with_reducible assumption | with_reducible refine Below.al ?_ _ | with_reducible refine Below.sc ?_ (by first | exact Nat.le_refl _ | (simp; done) | (simp; omega)) _ | assumption | exact Below.refl _ _ | refine Below.dr ?_ | refine Below.drN ?_ _ | refine Below.step ?_ (by assumption))))) hz).mono ?_; rintro e w1 ⟨rfl, hb1⟩; have ⟨cw1, fw1⟩ := bcell hb1; have qw1 := hb1.size; (try simp at qw1); (try have zw1w := bsz (show w.heap.size < w1.heap.size by omega))))
    go_ret
    exact ⟨ret_bool (by rw [HT.out, H1.out]; rfl), by (repeat (first | with_reducible exact Below.refl _ _ | with_reducible assumption | with_reducible refine Below.al ?_ _ | with_reducible refine Below.sc ?_ (by first | exact Nat.le_refl _ | (simp; done) | (simp; omega)) _ | assumption | exact Below.refl _ _ | refine Below.dr ?_ | refine Below.drN ?_ _ | refine Below.step ?_ (by assumption)))⟩
theorem l2Fits_any {B : Nat → Prop} (m : Nat) (t : Tm) (v0 v1 : Value) (w : World) (h : TmAt B m w t [v0, v1]) (hz : t.sz ≤ 100000000) :
      Calls Try.prog 28 #[.agg #[v0, v1]] w fun e w' => e = .returned (.bool t.small) ∧ Below w.heap.size w w' := by
  obtain ⟨p, c, rfl, rfl, -, -⟩ := h.form
  have H := Lib.hid h
  have HT := Lib.hid (show t.small = (decide (t.many 30 ≤ 30) && decide (t.dp ≤ 8)) by rw [Tm.small, Tm.many_iff])
  clear h
  by_cases h1 : (t.many 30 : Int) ≤ 30
  · have H1 := Lib.hid (show decide (t.many 30 ≤ 30) = true by simp; omega)
    have HD := Lib.hid (show decide (t.dp ≤ 8) = decide ((t.dp : Int) ≤ 8) by rw [decide_eq_decide]; omega)
    go_enter Try.func28, Try.ntmps28
    go_wp2_with (first | (go_at_call 48; refine (l2Many_any m t _ _ 30 _ _ (H.out.below (by (repeat (first | with_reducible exact Below.refl _ _ | with_reducible assumption | with_reducible refine Below.al ?_ _ | with_reducible refine Below.sc ?_ (by first | exact Nat.le_refl _ | (simp; done) | (simp; omega)) _ | assumption | exact Below.refl _ _ | refine Below.dr ?_ | refine Below.drN ?_ _ | refine Below.step ?_ (by assumption))))) hz (by rfl) (by decide)).mono ?_; rintro e w1 ⟨rfl, hb1⟩; have ⟨cw1, fw1⟩ := bcell hb1; have qw1 := hb1.size; (try simp at qw1); (try have zw1w := bsz (show w.heap.size < w1.heap.size by omega))) | (go_at_call 49; refine (l2Depth_any m t _ _ _ (H.out.below (by (repeat (first | with_reducible exact Below.refl _ _ | with_reducible assumption | with_reducible refine Below.al ?_ _ | with_reducible refine Below.sc ?_ (by first | exact Nat.le_refl _ | (simp; done) | (simp; omega)) _ | assumption | exact Below.refl _ _ | refine Below.dr ?_ | refine Below.drN ?_ _ | refine Below.step ?_ (by assumption))))) hz).mono ?_; rintro e w2 ⟨rfl, hb2⟩; have ⟨cw2, fw2⟩ := bcell hb2; have qw2 := hb2.size; (try simp at qw2); (try have zw2w := bsz (show w.heap.size < w2.heap.size by omega)); (try have zw2w1 := bsz (show w1.heap.size < w2.heap.size by omega))))
    go_ret
    exact ⟨ret_bool (by rw [HT.out, H1.out, HD.out]; rfl), by (repeat (first | with_reducible exact Below.refl _ _ | with_reducible assumption | with_reducible refine Below.al ?_ _ | with_reducible refine Below.sc ?_ (by first | exact Nat.le_refl _ | (simp; done) | (simp; omega)) _ | assumption | exact Below.refl _ _ | refine Below.dr ?_ | refine Below.drN ?_ _ | refine Below.step ?_ (by assumption)))⟩
  · have H1 := Lib.hid (show decide (t.many 30 ≤ 30) = false by simp; omega)
    go_enter Try.func28, Try.ntmps28
    go_wp2_with (first | (go_at_call 48; refine (l2Many_any m t _ _ 30 _ _ (H.out.below (by (repeat (first | with_reducible exact Below.refl _ _ | with_reducible assumption | with_reducible refine Below.al ?_ _ | with_reducible refine Below.sc ?_ (by first | exact Nat.le_refl _ | (simp; done) | (simp; omega)) _ | assumption | exact Below.refl _ _ | refine Below.dr ?_ | refine Below.drN ?_ _ | refine Below.step ?_ (by assumption))))) hz (by rfl) (by decide)).mono ?_; rintro e w1 ⟨rfl, hb1⟩; have ⟨cw1, fw1⟩ := bcell hb1; have qw1 := hb1.size; (try simp at qw1); (try have zw1w := bsz (show w.heap.size < w1.heap.size by omega))))
    go_ret
    exact ⟨ret_bool (by rw [HT.out, H1.out]; rfl), by (repeat (first | with_reducible exact Below.refl _ _ | with_reducible assumption | with_reducible refine Below.al ?_ _ | with_reducible refine Below.sc ?_ (by first | exact Nat.le_refl _ | (simp; done) | (simp; omega)) _ | assumption | exact Below.refl _ _ | refine Below.dr ?_ | refine Below.drN ?_ _ | refine Below.step ?_ (by assumption)))⟩
end Go.Proofs.Ytdklemmincejpaa
namespace Go.Proofs.Ytdklemmincejpaa
open Go.RowKit
theorem Tm.sz_arg (us : List Tm) {k : Nat} (h : k < us.length) : us[k].sz ≤ Tm.szs us := by
  induction us generalizing k with
  | nil => simp at h
  | cons a us ih =>
    cases k with
    | zero => simp [Tm.szs]
    | succ k => have := ih (k := k) (by simpa using h); simp only [List.getElem_cons_succ, Tm.szs]; omega
theorem isValidTerm_any {B : Nat → Prop} (m : Nat) (t : Tm) (v0 v1 : Value) (w : World) (h : TmAt B m w t [v0, v1]) (hz : t.sz ≤ 100000000) :
      Calls Try.prog 60 #[.agg #[v0, v1]] w fun e w' => e = .returned (.bool t.good) ∧ Below w.heap.size w w' := by
  obtain ⟨p, c, rfl, rfl, -, -⟩ := h.form
  have H := Lib.hid h
  have HT := Lib.hid (show t.good = (t.small && t.nodes) from rfl)
  clear h
  cases h1 : t.small
  all_goals
    have H1 := Lib.hid h1
    go_enter Try.func60, Try.ntmps60
    go_wp2_with (first | (go_at_call 57; refine (isSmall_any m t _ _ _ (H.out.below (by (repeat (first | with_reducible exact Below.refl _ _ | with_reducible assumption | with_reducible refine Below.al ?_ _ | with_reducible refine Below.sc ?_ (by first | exact Nat.le_refl _ | (simp; done) | (simp; omega)) _ | assumption | exact Below.refl _ _ | refine Below.dr ?_ | refine Below.drN ?_ _ | refine Below.step ?_ (by assumption))))) hz).mono ?_; rintro e w1 ⟨rfl, hb1⟩; have ⟨cw1, fw1⟩ := bcell hb1; have qw1 := hb1.size; (try simp at qw1); (try have zw1w := bsz (show w.heap.size < w1.heap.size by omega))) | (go_at_call 58; refine (hasNames_any m t _ _ _ (H.out.below (by (repeat (first | with_reducible exact Below.refl _ _ | with_reducible assumption | with_reducible refine Below.al ?_ _ | with_reducible refine Below.sc ?_ (by first | exact Nat.le_refl _ | (simp; done) | (simp; omega)) _ | assumption | exact Below.refl _ _ | refine Below.dr ?_ | refine Below.drN ?_ _ | refine Below.step ?_ (by assumption)))))).mono ?_; rintro e w2 ⟨rfl, hb2⟩; have ⟨cw2, fw2⟩ := bcell hb2; have qw2 := hb2.size; (try simp at qw2); (try have zw2w := bsz (show w.heap.size < w2.heap.size by omega)); (try have zw2w1 := bsz (show w1.heap.size < w2.heap.size by omega))))
    go_ret
    exact ⟨ret_bool (by rw [HT.out, H1.out]; rfl), by (repeat (first | with_reducible exact Below.refl _ _ | with_reducible assumption | with_reducible refine Below.al ?_ _ | with_reducible refine Below.sc ?_ (by first | exact Nat.le_refl _ | (simp; done) | (simp; omega)) _ | assumption | exact Below.refl _ _ | refine Below.dr ?_ | refine Below.drN ?_ _ | refine Below.step ?_ (by assumption)))⟩
theorem l2Good_any {B : Nat → Prop} (m : Nat) (t : Tm) (v0 v1 : Value) (w : World) (h : TmAt B m w t [v0, v1]) (hz : t.sz ≤ 100000000) :
      Calls Try.prog 31 #[.agg #[v0, v1]] w fun e w' => e = .returned (.bool t.good) ∧ Below w.heap.size w w' := by
  obtain ⟨p, c, rfl, rfl, -, -⟩ := h.form
  have H := Lib.hid h
  have HT := Lib.hid (show t.good = (t.small && t.nodes) from rfl)
  clear h
  cases h1 : t.small
  all_goals
    have H1 := Lib.hid h1
    go_enter Try.func31, Try.ntmps31
    go_wp2_with (first | (go_at_call 28; refine (l2Fits_any m t _ _ _ (H.out.below (by (repeat (first | with_reducible exact Below.refl _ _ | with_reducible assumption | with_reducible refine Below.al ?_ _ | with_reducible refine Below.sc ?_ (by first | exact Nat.le_refl _ | (simp; done) | (simp; omega)) _ | assumption | exact Below.refl _ _ | refine Below.dr ?_ | refine Below.drN ?_ _ | refine Below.step ?_ (by assumption))))) hz).mono ?_; rintro e w1 ⟨rfl, hb1⟩; have ⟨cw1, fw1⟩ := bcell hb1; have qw1 := hb1.size; (try simp at qw1); (try have zw1w := bsz (show w.heap.size < w1.heap.size by omega))) | (go_at_call 29; refine (l2Nodes_any m t _ _ _ (H.out.below (by (repeat (first | with_reducible exact Below.refl _ _ | with_reducible assumption | with_reducible refine Below.al ?_ _ | with_reducible refine Below.sc ?_ (by first | exact Nat.le_refl _ | (simp; done) | (simp; omega)) _ | assumption | exact Below.refl _ _ | refine Below.dr ?_ | refine Below.drN ?_ _ | refine Below.step ?_ (by assumption)))))).mono ?_; rintro e w2 ⟨rfl, hb2⟩; have ⟨cw2, fw2⟩ := bcell hb2; have qw2 := hb2.size; (try simp at qw2); (try have zw2w := bsz (show w.heap.size < w2.heap.size by omega)); (try have zw2w1 := bsz (show w1.heap.size < w2.heap.size by omega))))
    go_ret
    exact ⟨ret_bool (by rw [HT.out, H1.out]; rfl), by (repeat (first | with_reducible exact Below.refl _ _ | with_reducible assumption | with_reducible refine Below.al ?_ _ | with_reducible refine Below.sc ?_ (by first | exact Nat.le_refl _ | (simp; done) | (simp; omega)) _ | assumption | exact Below.refl _ _ | refine Below.dr ?_ | refine Below.drN ?_ _ | refine Below.step ?_ (by assumption)))⟩
/-- What an equation's atom comes to. -/
theorem Tm.atom_eq {t : Tm} (h : isEq t.n = true) : t.atom = (decide (t.us.length = 2) && t.small && Tm.nodess t.us) := by rw [Tm.atom, if_pos h]
theorem Tm.atom_no {t : Tm} (h : isEq t.n = false) : t.atom = (symB t.n.data.toList && t.good) := by rw [Tm.atom, if_neg (by simp [h])]
theorem isEq_list {s : ByteArray} {b : Bool} (h : isEq s = b) : (s.toList == [61]) = b := by rw [ByteArray.toList_eq]; exact h
theorem isEquality_any (s : ByteArray) (v : Value) (w : World) : Calls Try.prog 56 #[.agg #[.string s, v]] w fun e w' => e = .returned (.bool (isEq s)) ∧ Below w.heap.size w w' := by
  cases h : isEq s
  all_goals
    have h2 := isEq_list h
    go_enter Try.func56, Try.ntmps56
    go_wp2
    go_ret
    exact ⟨rfl, by (repeat (first | with_reducible exact Below.refl _ _ | with_reducible assumption | with_reducible refine Below.al ?_ _ | with_reducible refine Below.sc ?_ (by first | exact Nat.le_refl _ | (simp; done) | (simp; omega)) _ | assumption | exact Below.refl _ _ | refine Below.dr ?_ | refine Below.drN ?_ _ | refine Below.step ?_ (by assumption)))⟩
set_option maxRecDepth 100000 in
set_option maxHeartbeats 400000 in
theorem isValidAtom_any {B : Nat → Prop} (m : Nat) (t : Tm) (v0 v1 : Value) (w : World) (h : TmAt B m w t [v0, v1]) (hz : t.sz ≤ 100000000) :
      Calls Try.prog 36 #[.agg #[v0, v1]] w fun e w' => e = .returned (.bool t.atom) ∧ Below w.heap.size w w' := by
  have H := Lib.hid h
  obtain ⟨p, c, rfl, rfl, hs, hlen⟩ := h.form
  have HL := Lib.hid h.args
  have HS := Lib.hid hs
  unfold maxLen at hlen
  clear h hs
  cases hq : isEq t.n
  · have HQ := Lib.hid hq
    have HA := Lib.hid (Tm.atom_no hq)
    cases hy : symB t.n.data.toList
    all_goals
      have HY := Lib.hid hy
      go_enter Try.func36, Try.ntmps36
      go_wp2_with fail
      refine (isEquality_any _ _ _).mono ?_
      rintro e w1 ⟨rfl, hb1⟩
      have ⟨cw1, fw1⟩ := bcell hb1
      have qw1 := hb1.size
      (try simp at qw1)
      (try have zw1w := bsz (show w.heap.size < w1.heap.size by omega))
      rw [HQ.out]
      go_wp2_with fail
      refine (isSymbol_any _ _ HS.out).mono ?_
      rintro e w2 ⟨rfl, hb2⟩
      have ⟨cw2, fw2⟩ := bcell hb2
      have qw2 := hb2.size
      (try simp at qw2)
      (try have zw2w := bsz (show w.heap.size < w2.heap.size by omega))
      (try have zw2w1 := bsz (show w1.heap.size < w2.heap.size by omega))
      rw [HY.out]
    · go_wp2
      go_ret
      exact ⟨ret_bool (by rw [HA.out, HY.out]; rfl), by (repeat (first | with_reducible exact Below.refl _ _ | with_reducible assumption | with_reducible refine Below.al ?_ _ | with_reducible refine Below.sc ?_ (by first | exact Nat.le_refl _ | (simp; done) | (simp; omega)) _ | assumption | exact Below.refl _ _ | refine Below.dr ?_ | refine Below.drN ?_ _ | refine Below.step ?_ (by assumption)))⟩
    · go_wp2_with fail
      refine (isValidTerm_any m t _ _ _ (H.out.below (by (repeat (first | with_reducible exact Below.refl _ _ | with_reducible assumption | with_reducible refine Below.al ?_ _ | with_reducible refine Below.sc ?_ (by first | exact Nat.le_refl _ | (simp; done) | (simp; omega)) _ | assumption | exact Below.refl _ _ | refine Below.dr ?_ | refine Below.drN ?_ _ | refine Below.step ?_ (by assumption))))) hz).mono ?_
      rintro e w3 ⟨rfl, hb3⟩
      have ⟨cw3, fw3⟩ := bcell hb3
      have qw3 := hb3.size
      (try simp at qw3)
      (try have zw3w := bsz (show w.heap.size < w3.heap.size by omega))
      (try have zw3w1 := bsz (show w1.heap.size < w3.heap.size by omega))
      (try have zw3w2 := bsz (show w2.heap.size < w3.heap.size by omega))
      go_wp2
      go_ret
      exact ⟨ret_bool (by rw [HA.out, HY.out]; rfl), by (repeat (first | with_reducible exact Below.refl _ _ | with_reducible assumption | with_reducible refine Below.al ?_ _ | with_reducible refine Below.sc ?_ (by first | exact Nat.le_refl _ | (simp; done) | (simp; omega)) _ | assumption | exact Below.refl _ _ | refine Below.dr ?_ | refine Below.drN ?_ _ | refine Below.step ?_ (by assumption)))⟩
  · have HQ := Lib.hid hq
    have HA := Lib.hid (Tm.atom_eq hq)
    by_cases h2 : t.us.length = 2
    · have h2i : ((t.us.length : Int) == 2) = true := by simp; omega
      have H2 := Lib.hid (show decide (t.us.length = 2) = true by simpa using h2)
      have H' := Lib.hid (show TmAt B m w t [.string t.n, .slice p 2 c] by
        have e := H.out
        rw [h2] at e
        exact e)
      cases hsm : t.small
      · have HSM := Lib.hid hsm
        go_enter Try.func36, Try.ntmps36
        go_wp2_with fail
        refine (isEquality_any _ _ _).mono ?_
        rintro e w1 ⟨rfl, hb1⟩
        have ⟨cw1, fw1⟩ := bcell hb1
        have qw1 := hb1.size
        (try simp at qw1)
        (try have zw1w := bsz (show w.heap.size < w1.heap.size by omega))
        go_wp2_with fail
        refine (isSmall_any m t _ _ _ (H'.out.below (by (repeat (first | with_reducible exact Below.refl _ _ | with_reducible assumption | with_reducible refine Below.al ?_ _ | with_reducible refine Below.sc ?_ (by first | exact Nat.le_refl _ | (simp; done) | (simp; omega)) _ | assumption | exact Below.refl _ _ | refine Below.dr ?_ | refine Below.drN ?_ _ | refine Below.step ?_ (by assumption))))) hz).mono ?_
        rintro e w2 ⟨rfl, hb2⟩
        have ⟨cw2, fw2⟩ := bcell hb2
        have qw2 := hb2.size
        (try simp at qw2)
        (try have zw2w := bsz (show w.heap.size < w2.heap.size by omega))
        (try have zw2w1 := bsz (show w1.heap.size < w2.heap.size by omega))
        rw [HSM.out]
        go_wp2
        go_ret
        exact ⟨ret_bool (by rw [HA.out, HSM.out]; simp), by (repeat (first | with_reducible exact Below.refl _ _ | with_reducible assumption | with_reducible refine Below.al ?_ _ | with_reducible refine Below.sc ?_ (by first | exact Nat.le_refl _ | (simp; done) | (simp; omega)) _ | assumption | exact Below.refl _ _ | refine Below.dr ?_ | refine Below.drN ?_ _ | refine Below.step ?_ (by assumption)))⟩
      · have HSM := Lib.hid hsm
        have hl0 : 0 < t.us.length := by omega
        have hl1 : 1 < t.us.length := by omega
        obtain ⟨b, o, rfl, hB, x0, x1, hx0, hx1, hx⟩ := HL.out.at2 hl0
        obtain ⟨b', o', he, hB', y0, y1, hy0, hy1, hy⟩ := HL.out.at2 hl1
        simp only [Option.some.injEq, Addr.mk.injEq, and_true] at he
        obtain ⟨rfl, rfl⟩ := he
        simp only [Nat.zero_mul, Nat.one_mul, Nat.add_zero, Nat.add_assoc, Nat.reduceAdd, Nat.reduceMul] at hx0 hx1 hy0 hy1
        have hbw : b < w.heap.size := World.block_lt_of_cell? _ _ hx0
        have zbw := bsz hbw
        have HN := Lib.hid (show Tm.nodess t.us = (t.us[0].nodes && t.us[1].nodes) by
          have e0 := Tm.nodess_drop t.us hl0
          have e1 := Tm.nodess_drop t.us hl1
          rw [List.drop_zero] at e0
          rw [e0, e1, List.drop_eq_nil_of_le (by omega), Tm.nodess, Bool.and_true])
        obtain ⟨a0, ha0⟩ : ∃ a, t.us[0] = a := ⟨_, rfl⟩
        obtain ⟨a1, ha1⟩ : ∃ a, t.us[1] = a := ⟨_, rfl⟩
        rw [ha0] at hx
        rw [ha1] at hy
        rw [ha0, ha1] at HN
        clear ha0 ha1
        obtain ⟨p0, c0, rfl, rfl, -, -⟩ := hx.form
        obtain ⟨p1, c1, rfl, rfl, -, -⟩ := hy.form
        have HX := Lib.hid hx
        have HY := Lib.hid hy
        clear hx hy
        cases hn0 : a0.nodes
        all_goals
          have HN0 := Lib.hid hn0
          go_enter Try.func36, Try.ntmps36
          go_wp2_with fail
          refine (isEquality_any _ _ _).mono ?_
          rintro e w1 ⟨rfl, hb1⟩
          have ⟨cw1, fw1⟩ := bcell hb1
          have qw1 := hb1.size
          (try simp at qw1)
          (try have zw1w := bsz (show w.heap.size < w1.heap.size by omega))
          go_wp2_with fail
          refine (isSmall_any m t _ _ _ (H'.out.below (by (repeat (first | with_reducible exact Below.refl _ _ | with_reducible assumption | with_reducible refine Below.al ?_ _ | with_reducible refine Below.sc ?_ (by first | exact Nat.le_refl _ | (simp; done) | (simp; omega)) _ | assumption | exact Below.refl _ _ | refine Below.dr ?_ | refine Below.drN ?_ _ | refine Below.step ?_ (by assumption))))) hz).mono ?_
          rintro e w2 ⟨rfl, hb2⟩
          have ⟨cw2, fw2⟩ := bcell hb2
          have qw2 := hb2.size
          (try simp at qw2)
          (try have zw2w := bsz (show w.heap.size < w2.heap.size by omega))
          (try have zw2w1 := bsz (show w1.heap.size < w2.heap.size by omega))
          rw [HSM.out]
          have zb1 := bsz (show b < w1.heap.size by omega)
          have zb2 := bsz (show b < w2.heap.size by omega)
          go_wp2_with fail
          refine (hasNames_any m a0 _ _ _ (HX.out.below (by (repeat (first | with_reducible exact Below.refl _ _ | with_reducible assumption | with_reducible refine Below.al ?_ _ | with_reducible refine Below.sc ?_ (by first | exact Nat.le_refl _ | (simp; done) | (simp; omega)) _ | assumption | exact Below.refl _ _ | refine Below.dr ?_ | refine Below.drN ?_ _ | refine Below.step ?_ (by assumption)))))).mono ?_
          rintro e w3 ⟨rfl, hb3⟩
          have ⟨cw3, fw3⟩ := bcell hb3
          have qw3 := hb3.size
          (try simp at qw3)
          (try have zw3w := bsz (show w.heap.size < w3.heap.size by omega))
          (try have zw3w1 := bsz (show w1.heap.size < w3.heap.size by omega))
          (try have zw3w2 := bsz (show w2.heap.size < w3.heap.size by omega))
          rw [HN0.out]
        · go_wp2
          go_ret
          exact ⟨ret_bool (by rw [HA.out, H2.out, HSM.out, HN.out, HN0.out]; rfl), by (repeat (first | with_reducible exact Below.refl _ _ | with_reducible assumption | with_reducible refine Below.al ?_ _ | with_reducible refine Below.sc ?_ (by first | exact Nat.le_refl _ | (simp; done) | (simp; omega)) _ | assumption | exact Below.refl _ _ | refine Below.dr ?_ | refine Below.drN ?_ _ | refine Below.step ?_ (by assumption)))⟩
        · go_wp2_with fail
          refine (hasNames_any m a1 _ _ _ (HY.out.below (by (repeat (first | with_reducible exact Below.refl _ _ | with_reducible assumption | with_reducible refine Below.al ?_ _ | with_reducible refine Below.sc ?_ (by first | exact Nat.le_refl _ | (simp; done) | (simp; omega)) _ | assumption | exact Below.refl _ _ | refine Below.dr ?_ | refine Below.drN ?_ _ | refine Below.step ?_ (by assumption)))))).mono ?_
          rintro e w4 ⟨rfl, hb4⟩
          have ⟨cw4, fw4⟩ := bcell hb4
          have qw4 := hb4.size
          (try simp at qw4)
          (try have zw4w := bsz (show w.heap.size < w4.heap.size by omega))
          (try have zw4w1 := bsz (show w1.heap.size < w4.heap.size by omega))
          (try have zw4w2 := bsz (show w2.heap.size < w4.heap.size by omega))
          (try have zw4w3 := bsz (show w3.heap.size < w4.heap.size by omega))
          go_wp2
          go_ret
          exact ⟨ret_bool (by rw [HA.out, H2.out, HSM.out, HN.out, HN0.out]; rfl), by (repeat (first | with_reducible exact Below.refl _ _ | with_reducible assumption | with_reducible refine Below.al ?_ _ | with_reducible refine Below.sc ?_ (by first | exact Nat.le_refl _ | (simp; done) | (simp; omega)) _ | assumption | exact Below.refl _ _ | refine Below.dr ?_ | refine Below.drN ?_ _ | refine Below.step ?_ (by assumption)))⟩
    · have h2i : ((t.us.length : Int) == 2) = false := by simp; omega
      have H2 := Lib.hid (show decide (t.us.length = 2) = false by simpa using h2)
      go_enter Try.func36, Try.ntmps36
      go_wp2_with fail
      refine (isEquality_any _ _ _).mono ?_
      rintro e w1 ⟨rfl, hb1⟩
      have ⟨cw1, fw1⟩ := bcell hb1
      have qw1 := hb1.size
      (try simp at qw1)
      (try have zw1w := bsz (show w.heap.size < w1.heap.size by omega))
      go_wp2
      go_ret
      exact ⟨ret_bool (by rw [HA.out, H2.out]; rfl), by (repeat (first | with_reducible exact Below.refl _ _ | with_reducible assumption | with_reducible refine Below.al ?_ _ | with_reducible refine Below.sc ?_ (by first | exact Nat.le_refl _ | (simp; done) | (simp; omega)) _ | assumption | exact Below.refl _ _ | refine Below.dr ?_ | refine Below.drN ?_ _ | refine Below.step ?_ (by assumption)))⟩
set_option maxRecDepth 100000 in
set_option maxHeartbeats 400000 in
theorem l2Atom_any {B : Nat → Prop} (m : Nat) (t : Tm) (v0 v1 : Value) (w : World) (h : TmAt B m w t [v0, v1]) (hz : t.sz ≤ 100000000) :
      Calls Try.prog 17 #[.agg #[v0, v1]] w fun e w' => e = .returned (.bool t.atom) ∧ Below w.heap.size w w' := by
  have H := Lib.hid h
  obtain ⟨p, c, rfl, rfl, hs, hlen⟩ := h.form
  have HL := Lib.hid h.args
  have HS := Lib.hid hs
  unfold maxLen at hlen
  clear h hs
  cases hq : isEq t.n
  · have HQ := isEq_list hq
    have HA := Lib.hid (Tm.atom_no hq)
    cases hy : symB t.n.data.toList
    all_goals
      have HY := Lib.hid hy
      go_enter Try.func17, Try.ntmps17
      go_wp2_with fail
      refine (l2Symbol_any _ _ HS.out).mono ?_
      rintro e w' ⟨rfl, rfl⟩
      rw [HY.out]
    · go_wp2
      go_ret
      exact ⟨ret_bool (by rw [HA.out, HY.out]; rfl), by (repeat (first | with_reducible exact Below.refl _ _ | with_reducible assumption | with_reducible refine Below.al ?_ _ | with_reducible refine Below.sc ?_ (by first | exact Nat.le_refl _ | (simp; done) | (simp; omega)) _ | assumption | exact Below.refl _ _ | refine Below.dr ?_ | refine Below.drN ?_ _ | refine Below.step ?_ (by assumption)))⟩
    · go_wp2_with fail
      refine (l2Good_any m t _ _ _ (H.out.below (by (repeat (first | with_reducible exact Below.refl _ _ | with_reducible assumption | with_reducible refine Below.al ?_ _ | with_reducible refine Below.sc ?_ (by first | exact Nat.le_refl _ | (simp; done) | (simp; omega)) _ | assumption | exact Below.refl _ _ | refine Below.dr ?_ | refine Below.drN ?_ _ | refine Below.step ?_ (by assumption))))) hz).mono ?_
      rintro e w1 ⟨rfl, hb1⟩
      have ⟨cw1, fw1⟩ := bcell hb1
      have qw1 := hb1.size
      (try simp at qw1)
      (try have zw1w := bsz (show w.heap.size < w1.heap.size by omega))
      go_wp2
      go_ret
      exact ⟨ret_bool (by rw [HA.out, HY.out]; rfl), by (repeat (first | with_reducible exact Below.refl _ _ | with_reducible assumption | with_reducible refine Below.al ?_ _ | with_reducible refine Below.sc ?_ (by first | exact Nat.le_refl _ | (simp; done) | (simp; omega)) _ | assumption | exact Below.refl _ _ | refine Below.dr ?_ | refine Below.drN ?_ _ | refine Below.step ?_ (by assumption)))⟩
  · have HQ := isEq_list hq
    have HA := Lib.hid (Tm.atom_eq hq)
    by_cases h2 : t.us.length = 2
    · have h2i : ((t.us.length : Int) == 2) = true := by simp; omega
      have H2 := Lib.hid (show decide (t.us.length = 2) = true by simpa using h2)
      have H' := Lib.hid (show TmAt B m w t [.string t.n, .slice p 2 c] by
        have e := H.out
        rw [h2] at e
        exact e)
      cases hsm : t.small
      · have HSM := Lib.hid hsm
        go_enter Try.func17, Try.ntmps17
        go_wp2_with fail
        refine (l2Fits_any m t _ _ _ (H'.out.below (by (repeat (first | with_reducible exact Below.refl _ _ | with_reducible assumption | with_reducible refine Below.al ?_ _ | with_reducible refine Below.sc ?_ (by first | exact Nat.le_refl _ | (simp; done) | (simp; omega)) _ | assumption | exact Below.refl _ _ | refine Below.dr ?_ | refine Below.drN ?_ _ | refine Below.step ?_ (by assumption))))) hz).mono ?_
        rintro e w1 ⟨rfl, hb1⟩
        have ⟨cw1, fw1⟩ := bcell hb1
        have qw1 := hb1.size
        (try simp at qw1)
        (try have zw1w := bsz (show w.heap.size < w1.heap.size by omega))
        rw [HSM.out]
        go_wp2
        go_ret
        exact ⟨ret_bool (by rw [HA.out, HSM.out]; simp), by (repeat (first | with_reducible exact Below.refl _ _ | with_reducible assumption | with_reducible refine Below.al ?_ _ | with_reducible refine Below.sc ?_ (by first | exact Nat.le_refl _ | (simp; done) | (simp; omega)) _ | assumption | exact Below.refl _ _ | refine Below.dr ?_ | refine Below.drN ?_ _ | refine Below.step ?_ (by assumption)))⟩
      · have HSM := Lib.hid hsm
        have hl0 : 0 < t.us.length := by omega
        have hl1 : 1 < t.us.length := by omega
        obtain ⟨b, o, rfl, hB, x0, x1, hx0, hx1, hx⟩ := HL.out.at2 hl0
        obtain ⟨b', o', he, hB', y0, y1, hy0, hy1, hy⟩ := HL.out.at2 hl1
        simp only [Option.some.injEq, Addr.mk.injEq, and_true] at he
        obtain ⟨rfl, rfl⟩ := he
        simp only [Nat.zero_mul, Nat.one_mul, Nat.add_zero, Nat.add_assoc, Nat.reduceAdd, Nat.reduceMul] at hx0 hx1 hy0 hy1
        have hbw : b < w.heap.size := World.block_lt_of_cell? _ _ hx0
        have zbw := bsz hbw
        skip
        have HN := Lib.hid (show Tm.nodess t.us = (t.us[0].nodes && t.us[1].nodes) by
          have e0 := Tm.nodess_drop t.us hl0
          have e1 := Tm.nodess_drop t.us hl1
          rw [List.drop_zero] at e0
          rw [e0, e1, List.drop_eq_nil_of_le (by omega), Tm.nodess, Bool.and_true])
        obtain ⟨a0, ha0⟩ : ∃ a, t.us[0] = a := ⟨_, rfl⟩
        obtain ⟨a1, ha1⟩ : ∃ a, t.us[1] = a := ⟨_, rfl⟩
        rw [ha0] at hx
        rw [ha1] at hy
        rw [ha0, ha1] at HN
        clear ha0 ha1
        obtain ⟨p0, c0, rfl, rfl, -, -⟩ := hx.form
        obtain ⟨p1, c1, rfl, rfl, -, -⟩ := hy.form
        have HX := Lib.hid hx
        have HY := Lib.hid hy
        clear hx hy
        cases hn0 : a0.nodes
        all_goals
          have HN0 := Lib.hid hn0
          go_enter Try.func17, Try.ntmps17
          go_wp2_with fail
          refine (l2Fits_any m t _ _ _ (H'.out.below (by (repeat (first | with_reducible exact Below.refl _ _ | with_reducible assumption | with_reducible refine Below.al ?_ _ | with_reducible refine Below.sc ?_ (by first | exact Nat.le_refl _ | (simp; done) | (simp; omega)) _ | assumption | exact Below.refl _ _ | refine Below.dr ?_ | refine Below.drN ?_ _ | refine Below.step ?_ (by assumption))))) hz).mono ?_
          rintro e w1 ⟨rfl, hb1⟩
          have ⟨cw1, fw1⟩ := bcell hb1
          have qw1 := hb1.size
          (try simp at qw1)
          (try have zw1w := bsz (show w.heap.size < w1.heap.size by omega))
          (try have zw1b := bsz (show b < w1.heap.size by omega))
          rw [HSM.out]
          go_wp2_with fail
          refine (l2Nodes_any m a0 _ _ _ (HX.out.below (by (repeat (first | with_reducible exact Below.refl _ _ | with_reducible assumption | with_reducible refine Below.al ?_ _ | with_reducible refine Below.sc ?_ (by first | exact Nat.le_refl _ | (simp; done) | (simp; omega)) _ | assumption | exact Below.refl _ _ | refine Below.dr ?_ | refine Below.drN ?_ _ | refine Below.step ?_ (by assumption)))))).mono ?_
          rintro e w2 ⟨rfl, hb2⟩
          have ⟨cw2, fw2⟩ := bcell hb2
          have qw2 := hb2.size
          (try simp at qw2)
          (try have zw2w := bsz (show w.heap.size < w2.heap.size by omega))
          (try have zw2w1 := bsz (show w1.heap.size < w2.heap.size by omega))
          (try have zw2b := bsz (show b < w2.heap.size by omega))
          rw [HN0.out]
        · go_wp2
          go_ret
          exact ⟨ret_bool (by rw [HA.out, H2.out, HSM.out, HN.out, HN0.out]; rfl), by (repeat (first | with_reducible exact Below.refl _ _ | with_reducible assumption | with_reducible refine Below.al ?_ _ | with_reducible refine Below.sc ?_ (by first | exact Nat.le_refl _ | (simp; done) | (simp; omega)) _ | assumption | exact Below.refl _ _ | refine Below.dr ?_ | refine Below.drN ?_ _ | refine Below.step ?_ (by assumption)))⟩
        · go_wp2_with fail
          refine (l2Nodes_any m a1 _ _ _ (HY.out.below (by (repeat (first | with_reducible exact Below.refl _ _ | with_reducible assumption | with_reducible refine Below.al ?_ _ | with_reducible refine Below.sc ?_ (by first | exact Nat.le_refl _ | (simp; done) | (simp; omega)) _ | assumption | exact Below.refl _ _ | refine Below.dr ?_ | refine Below.drN ?_ _ | refine Below.step ?_ (by assumption)))))).mono ?_
          rintro e w1 ⟨rfl, hb1⟩
          have ⟨cw1, fw1⟩ := bcell hb1
          have qw1 := hb1.size
          (try simp at qw1)
          (try have zw1w := bsz (show w.heap.size < w1.heap.size by omega))
          (try have zw1b := bsz (show b < w1.heap.size by omega))
          go_wp2
          go_ret
          exact ⟨ret_bool (by rw [HA.out, H2.out, HSM.out, HN.out, HN0.out]; rfl), by (repeat (first | with_reducible exact Below.refl _ _ | with_reducible assumption | with_reducible refine Below.al ?_ _ | with_reducible refine Below.sc ?_ (by first | exact Nat.le_refl _ | (simp; done) | (simp; omega)) _ | assumption | exact Below.refl _ _ | refine Below.dr ?_ | refine Below.drN ?_ _ | refine Below.step ?_ (by assumption)))⟩
    · have h2i : ((t.us.length : Int) == 2) = false := by simp; omega
      have H2 := Lib.hid (show decide (t.us.length = 2) = false by simpa using h2)
      go_enter Try.func17, Try.ntmps17
      go_wp2
      go_ret
      exact ⟨ret_bool (by rw [HA.out, H2.out]; rfl), by (repeat (first | with_reducible exact Below.refl _ _ | with_reducible assumption | with_reducible refine Below.al ?_ _ | with_reducible refine Below.sc ?_ (by first | exact Nat.le_refl _ | (simp; done) | (simp; omega)) _ | assumption | exact Below.refl _ _ | refine Below.dr ?_ | refine Below.drN ?_ _ | refine Below.step ?_ (by assumption)))⟩
end Go.Proofs.Ytdklemmincejpaa
