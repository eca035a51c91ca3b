import Derived.Test.YtabkdonplmlbcaaGreatDoorStPart7
namespace Go.Proofs.YtabkdonplmlbcaaGreatDoor
set_option maxRecDepth 100000
open Go.RowKit
theorem cmps_end {us vs : List Tm} (h : vs.length ≤ us.length) : Tm.cmps (us.drop us.length) (vs.drop us.length) = 0 := by
 rw [List.drop_length, List.drop_eq_nil_of_le h, Tm.cmps]
theorem cmps_short {us vs : List Tm} (h : us.length < vs.length) : Tm.cmps (us.drop us.length) (vs.drop us.length) = -1 := by
 rw [List.drop_length, List.drop_eq_getElem_cons h, Tm.cmps]
theorem cmps_long {us vs : List Tm} {i : Nat} (h : i < us.length) (h2 : vs.length ≤ i) : Tm.cmps (us.drop i) (vs.drop i) = 1 := by
 rw [List.drop_eq_nil_of_le h2, List.drop_eq_getElem_cons h, Tm.cmps]
def CmpC (B : Nat → Prop) (m : Nat) : Prop := ∀ (a b : Tm) (v0 v1 u0 u1 : Value) (w : World), TmAt B m w a [v0, v1] → TmAt B m w b [u0, u1] → a.ord = true → b.ord = true →
 Calls Tryz.prog 116 #[.agg #[v0, v1], .agg #[u0, u1]] w fun e w' => e = .returned (.int .i64 (a.cmp b)) ∧ Below w.heap.size w w'
def CmpRel (us vs : List Tm) (w : World) (i : Value) (wr : World) : Prop := ∃ k : Nat, k ≤ us.length ∧ k ≤ vs.length ∧ i = .int .i64 k ∧ Tm.cmps us vs = Tm.cmps (us.drop k) (vs.drop k) ∧ Below w.heap.size w wr
set_option maxHeartbeats 1600000 in
theorem compareFunc_any {B : Nat → Prop} (m : Nat) (HC0 : CmpC B m) (us vs : List Tm) (hu : Tm.ords us = true) (hv : Tm.ords vs = true) (va vb : Value) (w : World) (h : ListAt B w 2 (TmAt B m w) va us) (h' : ListAt B w 2 (TmAt B m w) vb vs) :
  Calls Tryz.prog 159 #[va, vb, .func (.func 116) #[] #[]] w fun e w' => e = .returned (.int .i64 (Tm.cmps us vs)) ∧ Below w.heap.size w w' := by
 obtain ⟨p, c, rfl, hlen⟩ := h.form
 obtain ⟨q, d, rfl, hlen'⟩ := h'.form
 unfold maxLen at hlen hlen'
 have HU := Lib.hid h
 have HV := Lib.hid h'
 have HC := Lib.hid HC0
 clear h h' HC0
 go_enter Tryz.func159, Tryz.ntmps159
 go_wp2
 go_loopw [13] (CmpRel us vs w) (fun i _ => us.length - (intOf i).toNat)
 case atStart => exact ⟨0, Nat.zero_le _, Nat.zero_le _, rfl, rfl, by exact bel⟩
 case round =>
  obtain ⟨k, hk, hk2, rfl, he, hb⟩ := hrel
  have HE := Lib.hid he
  clear he
  by_cases hlt : k < us.length
  ·by_cases hlt2 : k < vs.length
   ·have hor := Tm.ords_at hu hlt
    have hor2 := Tm.ords_at hv hlt2
    have hd := Tm.cmps_drop hlt hlt2
    obtain ⟨b2, o2, hq2, hB2, y0, y1, hy0, hy1, hy⟩ := (HV.out.mono (SameOn.below hb) (fun _ h => h) (fun x cs _ hx => TmAt.below hb hx)).at2 hlt2
    subst hq2
    obtain ⟨a2, ha2⟩ : ∃ a2, vs[k] = a2 := ⟨_, rfl⟩
    rw [ha2] at hor2 hd hy
    obtain ⟨b, o, rfl, hB, x0, x1, hx0, hx1, hx⟩ := (HU.out.mono (SameOn.below hb) (fun _ h => h) (fun x cs _ hx => TmAt.below hb hx)).at2 hlt
    have hD := hd
    have hO := hor
    obtain ⟨a, ha⟩ : ∃ a, us[k] = a := ⟨_, rfl⟩
    rw [ha] at hx
    rw [ha] at hD
    rw [ha] at hO
    have HX := Lib.hid hx
    have HD := Lib.hid hD
    have HO := Lib.hid hO
    clear hx ha hD hO
    have zb := bsz (World.block_lt_of_cell? _ _ hx0)
    have HY := Lib.hid hy
    clear hy ha2
    obtain ⟨pa, ca, rfl, rfl, -⟩ := HX.out.form
    obtain ⟨pb, cb, rfl, rfl, -⟩ := HY.out.form
    have zb2 := bsz (World.block_lt_of_cell? _ _ hy0)
    go_wp2_with fail
    refine (HC.out a a2 _ _ _ _ _ (TmAt.below (by exact bel) HX.out) (TmAt.below (by exact bel) HY.out) HO.out hor2).mono ?_
    rintro e w1 ⟨rfl, hb1⟩
    cases hz : (a.cmp a2 == 0)
    ·have hz' : (a.cmp a2 != 0) = true := by rw [bne, hz]; rfl
     have hz2 : ¬ a.cmp a2 = 0 := by simpa using hz
     go_wp2
     go_ret
     exact ⟨ret_int (by rw [HE.out, HD.out, if_pos hz2]), by exact bel⟩
    ·have hz' : (a.cmp a2 != 0) = false := by rw [bne, hz]; rfl
     have hz2 : a.cmp a2 = 0 := by simpa using hz
     go_wp2
     refine ⟨⟨k + 1, by omega, by omega, by go_num, by rw [HE.out, HD.out, if_neg (by simpa using hz2)], by exact bel⟩, by simp [intOf]; omega⟩
   ·obtain ⟨b, o, rfl, hB, x0, x1, hx0, hx1, hx⟩ := (HU.out.mono (SameOn.below hb) (fun _ h => h) (fun x cs _ hx => TmAt.below hb hx)).at2 hlt
    obtain ⟨a, ha⟩ : ∃ a, us[k] = a := ⟨_, rfl⟩
    rw [ha] at hx
    have HX := Lib.hid hx
    clear hx ha 
    have zb := bsz (World.block_lt_of_cell? _ _ hx0)
    obtain ⟨pa, ca, rfl, rfl, -⟩ := HX.out.form
    have hge : (vs.length : Int) ≤ k := by omega
    go_wp2
    go_ret
    exact ⟨ret_int (by rw [HE.out, cmps_long hlt (by omega)]), by exact bel⟩
  ·obtain rfl : k = us.length := by omega
   by_cases hlt2 : us.length < vs.length
   ·have hlt3 : (us.length : Int) < vs.length := by omega
    go_wp2
    go_ret
    exact ⟨ret_int (by rw [HE.out, cmps_short hlt2]), by exact bel⟩
   ·have hlt3 : ¬ (us.length : Int) < vs.length := by omega
    go_wp2
    go_ret
    exact ⟨ret_int (by rw [HE.out, cmps_end (by omega)]), by exact bel⟩
theorem Tm.cmp_eq (a b : Tm) : a.cmp b = if varB a.n.data.toList && !varB b.n.data.toList then -1 else if varB b.n.data.toList && !varB a.n.data.toList then 1
  else if textCmp a.n.data.toList b.n.data.toList ≠ 0 then textCmp a.n.data.toList b.n.data.toList else if a.us.length < b.us.length then -1 else if b.us.length < a.us.length then 1 else Tm.cmps a.us b.us := by
 obtain ⟨n, us⟩ := a; obtain ⟨k, vs⟩ := b; rw [Tm.cmp]; rfl
theorem cmp_or (t : Int) (la lb : Nat) (x : Int) : (if t ≠ 0 then t else if la < lb then -1 else if lb < la then 1 else x) = if orI t (Lib.compareInt la lb) ≠ 0 then orI t (Lib.compareInt la lb) else x := by
 unfold orI Lib.compareInt
 by_cases ht : t = 0
 ·by_cases h1 : la < lb
  ·simp [ht, h1]
  ·by_cases h2 : lb < la
   ·simp [ht, h1, h2]
   ·simp [ht, h1, h2]
 ·simp [ht]
theorem Tm.ord_us {a : Tm} (h : a.ord = true) : Tm.ords a.us = true := by obtain ⟨n, us⟩ := a; rw [Tm.ord, Bool.and_eq_true] at h; exact h.2
theorem TmAt.sub' {B : Nat → Prop} {w : World} {n : Nat} {t : Tm} {v0 v1 : Value} (h : TmAt B (n + 1) w t [v0, v1]) : ListAt B w 2 (TmAt B n w) v1 t.us := by
 obtain ⟨s, us⟩ := t
 obtain ⟨va, h1, h2, h3⟩ := h
 simp only [List.cons.injEq, and_true] at h1
 obtain ⟨-, rfl⟩ := h1
 exact h3
set_option maxHeartbeats 3200000 in
theorem compareTerms_any {B : Nat → Prop} : ∀ m : Nat, CmpC B m := by
 intro m
 induction m with
 | zero => intro a b v0 v1 u0 u1 w h; exact h.elim
 | succ m ih =>
  intro a b v0 v1 u0 u1 w ha hb hoa hob
  obtain ⟨p, c, rfl, rfl, -, hla⟩ := ha.form
  obtain ⟨q, d, rfl, rfl, -, hlb⟩ := hb.form
  unfold maxLen at hla hlb
  have HA := Lib.hid ha
  have HB := Lib.hid hb
  have IH := Lib.hid (compareFunc_any m ih a.us b.us (Tm.ord_us hoa) (Tm.ord_us hob))
  have HCE := Lib.hid (Tm.cmp_eq a b)
  clear ha hb ih
  go_enter Tryz.func116, Tryz.ntmps116
  go_wp2
  obtain ⟨W, hW⟩ : ∃ W : World, W = (w.alloc (.cells #[.string a.n, .slice p a.us.length c] 64)).alloc (.cells #[.string b.n, .slice q b.us.length d] 64) := ⟨_, rfl⟩
  have hsW : W.heap.size = w.heap.size + 2 := by rw [hW]; simp
  have hbW : Below w.heap.size w W := by rw [hW]; exact bel
  have a0 : W.cell? ⟨w.heap.size, 0, none⟩ = some (.string a.n) := by rw [hW]; go_simp
  have a1 : W.cell? ⟨w.heap.size, 1, none⟩ = some (.slice p a.us.length c) := by rw [hW]; go_simp
  have b0 : W.cell? ⟨w.heap.size + 1, 0, none⟩ = some (.string b.n) := by rw [hW]; go_simp
  have b1 : W.cell? ⟨w.heap.size + 1, 1, none⟩ = some (.slice q b.us.length d) := by rw [hW]; go_simp
  rw [← hW]
  clear hW
  have zW := bsz (show w.heap.size < W.heap.size by omega)
  have zW1 := bsz (show w.heap.size + 1 < W.heap.size by omega)
  refine wp_region_flowC W.heap.size [(⟨w.heap.size, 0, none⟩, .string a.n), (⟨w.heap.size, 1, none⟩, .slice p a.us.length c), (⟨w.heap.size + 1, 0, none⟩, .string b.n), (⟨w.heap.size + 1, 1, none⟩, .slice q b.us.length d)] (by kernel_rfl) (by kernel_rfl) (by first | (intro _ hs; cases hs; done) | (simp only [List.forall_mem_cons]; go_simp)) fun C HC => ?_
  repeat (first | ((first | apply flow_free rfl | (apply flow_yes; (case hw => go_simp))); (intro L w' hun hrd hC; have ⟨hC, hb', hf'⟩ := flO HC hC; (try have hw' : Below w.heap.size w w' := by first | exact belT (hb := hb') | exact bel); (try simp only [List.forall_mem_cons] at hf'); go_simp; first | exact ⟨flS HC hC, rfl⟩ | (rw [if_neg]; (exact ⟨flS HC hC, rfl⟩); omega) | (go_at_call 157; (with_reducible refine (isVar_any (m + 1) a _ _ _ (TmAt.below hw' HA.out) hoa).mono ?_); rintro e w1 ⟨rfl, hb1⟩; exact ⟨rfl, (HC.out _ _).2 ((hC.next (by first | (simp; done) | (simp; omega) | omega) hb1).skip _ (by rfl))⟩) | (go_at_call 157; (with_reducible refine (isVar_any (m + 1) b _ _ _ (TmAt.below hw' HB.out) hob).mono ?_); rintro e w1 ⟨rfl, hb1⟩; exact ⟨rfl, (HC.out _ _).2 ((hC.next (by first | (simp; done) | (simp; omega) | omega) hb1).skip _ (by rfl))⟩)); go_simp) | (apply flow_noC HC; (case hw => (go_simp; try (intro hh; cases hh))); go_simp))
  refine flow_nil ?_
  intro L wz hL hz
  have ⟨_, hbz, hcz⟩ := flO HC hz
  try simp only [List.forall_mem_cons] at hcz
  (try have hwz : Below w.heap.size w wz := by first | exact belT (hb := hbz) | exact bel)
  cases hva : varB a.n.data.toList <;> cases hvb : varB b.n.data.toList
  case true.false =>
   go_wp2
   go_ret
   exact ⟨ret_int (by rw [HCE.out, hva, hvb]; rfl), by exact bel⟩
  case false.true =>
   go_wp2
   go_ret
   exact ⟨ret_int (by rw [HCE.out, hva, hvb]; rfl), by exact bel⟩
  all_goals
   have HCE2 := Lib.hid (show a.cmp b = if textCmp a.n.data.toList b.n.data.toList ≠ 0 then textCmp a.n.data.toList b.n.data.toList else if a.us.length < b.us.length then -1 else if b.us.length < a.us.length then 1 else Tm.cmps a.us b.us by rw [HCE.out, hva, hvb]; rfl)
   clear hva hvb
   go_wp2
   obtain ⟨g0, g1, k0, k1⟩ := hcz
   have hwq : Below w.heap.size w wz := by first | exact hwz | (repeat (first | with_reducible (first | exact bR _ _ | assumption | refine bA ?_ _ | refine bS ?_ _) | assumption | exact bR _ _ | refine bD ?_ | refine bN ?_ _ | refine bT ?_ (by assumption)))
   have zq := bsz (show w.heap.size < wz.heap.size by have := hbz.size; omega)
   have zq1 := bsz (show w.heap.size + 1 < wz.heap.size by have := hbz.size; omega)
   clear a0 a1 b0 b1
   (try clear hdz)
   go_region_held3 (fun w' => w'.cell? ⟨w.heap.size, 0, none⟩ = some (.string a.n) ∧ w'.cell? ⟨w.heap.size, 1, none⟩ = some (.slice p a.us.length c) ∧ w'.cell? ⟨w.heap.size + 1, 0, none⟩ = some (.string b.n) ∧ w'.cell? ⟨w.heap.size + 1, 1, none⟩ = some (.slice q b.us.length d)) (first | go_keep | (refine ⟨?_, ?_, ?_, ?_⟩ <;> first | assumption | (go_simp; done) | exact (World.cell?_of_block (hb7.block _ (by simp; omega))).trans (by first | assumption | (go_simp; done)))) (first | (go_at_call 158; refine (compareS_any _ _ _).mono ?_; rintro e w6 ⟨rfl, rfl⟩) | (go_at_call 117; refine (Tryz.cmp_Compare_int _ _ _).mono ?_; rintro e w6 ⟨rfl, rfl⟩) | (go_at_call 115; refine (or2_any (textCmp a.n.data.toList b.n.data.toList) (Lib.compareInt a.us.length b.us.length) _ _ _ (by go_simp) (by go_simp)).mono ?_; rintro e w7 ⟨rfl, hb7⟩))
   have ⟨cb7, fb7⟩ := bcell hb7
   have hq7 := hb7.size
   simp at hq7
   have hqz := hbz.size
   have zr := bsz (show w.heap.size < w7.heap.size by omega)
   have zr1 := bsz (show w.heap.size + 1 < w7.heap.size by omega)
   have HCE3 := Lib.hid (HCE2.out.trans (cmp_or _ _ _ _))
   generalize orI (textCmp a.n.data.toList b.n.data.toList) (Lib.compareInt (a.us.length : Nat) (b.us.length : Nat)) = r at *
   have hw7 : Below w.heap.size w w7 := by exact bel
   cases hz : (r == 0)
   ·have hz' : (r != 0) = true := by rw [bne, hz]; rfl
    have hz2 : ¬ r = 0 := by simpa using hz
    go_wp2
    go_ret
    exact ⟨ret_int (by rw [HCE3.out, if_pos hz2]), hw7⟩
   ·have hz' : (r != 0) = false := by rw [bne, hz]; rfl
    have hz2 : r = 0 := by simpa using hz
    go_wp2_with fail
    refine (IH.out _ _ _ (TmAt.sub' (TmAt.below hw7 HA.out)) (TmAt.sub' (TmAt.below hw7 HB.out))).mono ?_
    rintro e w8 ⟨rfl, hb8⟩
    go_wp2
    go_ret
    exact ⟨ret_int (by rw [HCE3.out, if_neg (by simpa using hz2)]), Below.trans hw7 (hb8.mono hw7.size)⟩
theorem Tm.szs_drop (us : List Tm) {k : Nat} (h : k < us.length) : Tm.szs (us.drop k) = us[k].sz + Tm.szs (us.drop (k + 1)) := by
 rw [List.drop_eq_getElem_cons h, Tm.szs]
theorem Tm.szIs_drop (us : List Tm) {k : Nat} (h : k < us.length) (n : Nat) : Tm.szIs n (us.drop k) = if 30 < n then n else Tm.szIs (n + us[k].szI) (us.drop (k + 1)) := by
 rw [List.drop_eq_getElem_cons h, Tm.szIs]
theorem Tm.manys_drop (us : List Tm) {k : Nat} (h : k < us.length) (n m : Nat) : Tm.manys n (us.drop k) m = if n ≤ m then Tm.manys (n + us[k].many (m - n)) (us.drop (k + 1)) m else n := by
 rw [List.drop_eq_getElem_cons h, Tm.manys]
theorem Tm.dps_drop (us : List Tm) {k : Nat} (h : k < us.length) : Tm.dps (us.drop k) = max us[k].dp (Tm.dps (us.drop (k + 1))) := by
 rw [List.drop_eq_getElem_cons h, Tm.dps]
set_option maxHeartbeats 1600000 in
theorem size_any {B : Nat → Prop} : ∀ (m : Nat) (t : Tm) (v0 v1 : Value) (w : World), TmAt B m w t [v0, v1] → t.sz ≤ 100000000 →
   Calls Tryz.prog 179 #[.agg #[v0, v1]] w fun e w' => e = .returned (.int .i64 (t.szI : Nat)) ∧ Below w.heap.size w w' := by
 intro m
 induction m with
 | zero => intro t v0 v1 w h; exact h.elim
 | succ m ih =>
  rintro ⟨s, us⟩ v0 v1 w ⟨va, hcs, hs, hl⟩ hz
  simp only [List.cons.injEq, and_true] at hcs
  obtain ⟨rfl, rfl⟩ := hcs
  rw [Tm.sz] at hz
  obtain ⟨p, c, rfl, hlen⟩ := hl.form
  unfold maxLen at hlen
  have IH := Lib.hid ih
  have HL := Lib.hid hl
  have HSZ := Lib.hid (show (Tm.mk s us).szI = Tm.szIs 1 us from rfl)
  clear ih hl
  go_enter Tryz.func179, Tryz.ntmps179
  go_wp2
  go_loopw [3, 9] (fun n i wr => ∃ k acc : Nat, k ≤ us.length ∧ i = .int .i64 k ∧ n = .int .i64 acc ∧ Tm.szIs acc (us.drop k) = Tm.szIs 1 us ∧ acc + Tm.szs (us.drop k) ≤ 1 + Tm.szs us ∧ Below w.heap.size w wr) (fun _ i _ => us.length - (intOf i).toNat)
  case atStart => exact ⟨0, 1, Nat.zero_le _, rfl, rfl, rfl, Nat.le_refl _, by exact bel⟩
  case round =>
   obtain ⟨k, acc, hk, rfl, rfl, he, hle, hb⟩ := hrel
   have HE := Lib.hid he
   clear he
   by_cases hlt : k < us.length
   ·obtain ⟨b, o, rfl, hB, x0, x1, hx0, hx1, hx⟩ := (HL.out.mono (SameOn.below hb) (fun _ h => h) (fun x cs _ hx => TmAt.below hb hx)).at2 hlt
    obtain ⟨pa, ca, rfl, rfl, -, -⟩ := hx.form
    have HD := Lib.hid (Tm.szIs_drop us hlt acc)
    have HZ := Lib.hid (Tm.szs_drop us hlt)
    obtain ⟨a, ha⟩ : ∃ a, us[k] = a := ⟨_, rfl⟩
    rw [ha] at hx HD HZ hx0 hx1
    have HX := Lib.hid hx
    have hlaw := a.szI_law
    have hzz := HZ.out
    rw [hzz] at hle
    clear hx ha hzz
    by_cases h30 : 30 < (acc : Int)
    ·go_wp2
     go_ret
     exact ⟨ret_int (by rw [HSZ.out, ← HE.out, HD.out, if_pos (by omega)]), by exact bel⟩
    ·go_wp2_with fail
     refine (IH.out a _ _ _ (HX.out.below (by exact bel)) (by omega)).mono ?_
     rintro e w1 ⟨rfl, hb1⟩
     have ⟨cw1, fw1⟩ := bcell hb1
     have qw1 := hb1.size
     (try simp at qw1)
     (try have zw1w := bsz (show w.heap.size < w1.heap.size by omega))
     go_wp2
     refine ⟨⟨k + 1, acc + a.szI, by omega, by go_num, by go_num, ?_, by omega, by exact bel⟩, by simp [intOf]; omega⟩
     rw [← HE.out, HD.out, if_neg (by omega)]
   ·obtain rfl : k = us.length := by omega
    have he := HE.out
    rw [List.drop_length, Tm.szIs] at he
    have HE2 := Lib.hid he
    clear he
    go_wp2
    go_ret
    exact ⟨ret_int (by rw [HSZ.out, ← HE2.out]), by exact bel⟩
set_option maxHeartbeats 1600000 in
theorem depth_any {B : Nat → Prop} : ∀ (m : Nat) (t : Tm) (v0 v1 : Value) (w : World), TmAt B m w t [v0, v1] → t.sz ≤ 100000000 →
   Calls Tryz.prog 180 #[.agg #[v0, v1]] w fun e w' => e = .returned (.int .i64 (t.dp : Nat)) ∧ Below w.heap.size w w' := by
 intro m
 induction m with
 | zero => intro t v0 v1 w h; exact h.elim
 | succ m ih =>
  rintro ⟨s, us⟩ v0 v1 w ⟨va, hcs, hs, hl⟩ hz
  simp only [List.cons.injEq, and_true] at hcs
  obtain ⟨rfl, rfl⟩ := hcs
  rw [Tm.sz] at hz
  obtain ⟨p, c, rfl, hlen⟩ := hl.form
  unfold maxLen at hlen
  have IH := Lib.hid ih
  have HL := Lib.hid hl
  have HSZ := Lib.hid (show (Tm.mk s us).dp = Tm.dps us + 1 from rfl)
  clear ih hl
  go_enter Tryz.func180, Tryz.ntmps180
  go_wp2
  go_loopw [3, 9] (fun n i wr => ∃ k acc : Nat, k ≤ us.length ∧ i = .int .i64 k ∧ n = .int .i64 acc ∧ max acc (Tm.dps (us.drop k)) = Tm.dps us ∧ acc + Tm.szs (us.drop k) ≤ Tm.szs us ∧ Below w.heap.size w wr) (fun _ i _ => us.length - (intOf i).toNat)
  case atStart => exact ⟨0, 0, Nat.zero_le _, rfl, rfl, by simp, by simp, by exact bel⟩
  case round =>
   obtain ⟨k, acc, hk, rfl, rfl, he, hle, hb⟩ := hrel
   have HE := Lib.hid he
   clear he
   by_cases hlt : k < us.length
   ·obtain ⟨b, o, rfl, hB, x0, x1, hx0, hx1, hx⟩ := (HL.out.mono (SameOn.below hb) (fun _ h => h) (fun x cs _ hx => TmAt.below hb hx)).at2 hlt
    obtain ⟨pa, ca, rfl, rfl, -, -⟩ := hx.form
    have HD := Lib.hid (Tm.dps_drop us hlt)
    have HZ := Lib.hid (Tm.szs_drop us hlt)
    obtain ⟨a, ha⟩ : ∃ a, us[k] = a := ⟨_, rfl⟩
    rw [ha] at hx HD HZ hx0 hx1
    have HX := Lib.hid hx
    have hlaw := a.dp_le
    have hzz := HZ.out
    rw [hzz] at hle
    clear hx ha hzz
    go_wp2_with fail
    refine (IH.out a _ _ _ (HX.out.below (by exact bel)) (by omega)).mono ?_
    rintro e w1 ⟨rfl, hb1⟩
    have ⟨cw1, fw1⟩ := bcell hb1
    have qw1 := hb1.size
    (try simp at qw1)
    (try have zw1w := bsz (show w.heap.size < w1.heap.size by omega))
    go_wp2
    refine ⟨⟨k + 1, max acc a.dp, by omega, by go_num, ?_, ?_, by omega, by exact bel⟩, by simp [intOf]; omega⟩
    ·exact congrArg (Value.int .i64) (by omega)
    ·rw [← HE.out, HD.out]; omega
   ·obtain rfl : k = us.length := by omega
    have he := HE.out
    rw [List.drop_length, Tm.dps] at he
    have HE2 := Lib.hid he
    clear he
    go_wp2
    go_ret
    exact ⟨ret_int (by rw [HSZ.out, ← HE2.out]; omega), by exact bel⟩
theorem l1Most_any (a b : Int) (w : World) : Calls Tryz.prog 165 #[.int .i64 a, .int .i64 b] w fun e w' => e = .returned (.int .i64 (max a b)) ∧ w = w' := by
 by_cases h : b < a
 all_goals
  go_enter Tryz.func165, Tryz.ntmps165
  go_wp2
  go_ret
  exact ⟨ret_int (by omega), rfl⟩
set_option maxHeartbeats 1600000 in
theorem l2Depth_any {B : Nat → Prop} : ∀ (m : Nat) (t : Tm) (v0 v1 : Value) (w : World), TmAt B m w t [v0, v1] → t.sz ≤ 100000000 →
   Calls Tryz.prog 126 #[.agg #[v0, v1]] w fun e w' => e = .returned (.int .i64 (t.dp : Nat)) ∧ Below w.heap.size w w' := by
 intro m
 induction m with
 | zero => intro t v0 v1 w h; exact h.elim
 | succ m ih =>
  rintro ⟨s, us⟩ v0 v1 w ⟨va, hcs, hs, hl⟩ hz
  simp only [List.cons.injEq, and_true] at hcs
  obtain ⟨rfl, rfl⟩ := hcs
  rw [Tm.sz] at hz
  obtain ⟨p, c, rfl, hlen⟩ := hl.form
  unfold maxLen at hlen
  have IH := Lib.hid ih
  have HL := Lib.hid hl
  have HSZ := Lib.hid (show (Tm.mk s us).dp = Tm.dps us + 1 from rfl)
  clear ih hl
  go_enter Tryz.func126, Tryz.ntmps126
  go_wp2
  obtain ⟨W, hW⟩ : ∃ W, W = w.alloc (.cells #[.string s, .slice p us.length c] 64) := ⟨_, rfl⟩
  have hw0 : W.cell? ⟨w.heap.size, 1, none⟩ = some (.slice p us.length c) := by rw [hW]; go_simp
  have hbW : Below w.heap.size w W := by rw [hW]; exact bel
  rw [← hW]
  clear hW
  go_loopw [3, 4] (fun n i wr => ∃ k acc : Nat, k ≤ us.length ∧ i = .int .i64 k ∧ n = .int .i64 acc ∧ max acc (Tm.dps (us.drop k)) = Tm.dps us ∧ acc + Tm.szs (us.drop k) ≤ Tm.szs us ∧ Below W.heap.size W wr) (fun _ i _ => us.length - (intOf i).toNat)
  case atStart => exact ⟨0, 0, Nat.zero_le _, rfl, rfl, by simp, by simp, Below.refl _ _⟩
  case round =>
   obtain ⟨k, acc, hk, rfl, rfl, he, hle, hbr⟩ := hrel
   have HE := Lib.hid he
   clear he
   have hb := Below.step hbW hbr
   have hw1 : wr.cell? ⟨w.heap.size, 1, none⟩ = some (.slice p us.length c) := (hbr.cell (World.block_lt_of_cell? W _ hw0)).trans hw0
   by_cases hlt : k < us.length
   ·obtain ⟨b, o, rfl, hB, x0, x1, hx0, hx1, hx⟩ := (HL.out.mono (SameOn.below hb) (fun _ h => h) (fun x cs _ hx => TmAt.below hb hx)).at2 hlt
    obtain ⟨pa, ca, rfl, rfl, -, -⟩ := hx.form
    have HD := Lib.hid (Tm.dps_drop us hlt)
    have HZ := Lib.hid (Tm.szs_drop us hlt)
    obtain ⟨a, ha⟩ : ∃ a, us[k] = a := ⟨_, rfl⟩
    rw [ha] at hx HD HZ hx0 hx1
    have HX := Lib.hid hx
    have hlaw := a.dp_le
    have hzz := HZ.out
    rw [hzz] at hle
    clear hx ha hzz
    go_wp2_with fail
    refine (IH.out a _ _ _ HX.out (by omega)).mono ?_
    rintro e w1 ⟨rfl, hb1⟩
    have ⟨cw1, fw1⟩ := bcell hb1
    have qw1 := hb1.size
    (try simp at qw1)
    (try have zw1w := bsz (show w.heap.size < w1.heap.size by omega))
    have hbb := Below.step hbr hb1
    go_wp2_with ((go_at_call 165; refine (l1Most_any _ _ _).mono ?_; rintro e w' ⟨rfl, rfl⟩))
    refine ⟨⟨k + 1, max acc a.dp, by omega, by go_num, ?_, ?_, by omega, hbb⟩, by simp [intOf]; omega⟩
    ·exact congrArg (Value.int .i64) (by omega)
    ·rw [← HE.out, HD.out]; omega
   ·obtain rfl : k = us.length := by omega
    have he := HE.out
    rw [List.drop_length, Tm.dps] at he
    have HE2 := Lib.hid he
    clear he
    go_wp2
    go_ret
    exact ⟨ret_int (by rw [HSZ.out, ← HE2.out]; omega), hb⟩
set_option maxHeartbeats 1600000 in
theorem l2Many_any {B : Nat → Prop} : ∀ (m : Nat) (t : Tm) (v0 v1 : Value) (M : Nat) (z : Int) (w : World), TmAt B m w t [v0, v1] → t.sz ≤ 100000000 → z = (M : Int) → M ≤ 1000 →
   Calls Tryz.prog 125 #[.agg #[v0, v1], .int .i64 z] w fun e w' => e = .returned (.int .i64 (t.many M : Nat)) ∧ Below w.heap.size w w' := by
 intro m
 induction m with
 | zero => intro t v0 v1 M z w h; exact h.elim
 | succ m ih =>
  rintro ⟨s, us⟩ v0 v1 M z w ⟨va, hcs, hs, hl⟩ hz rfl hM
  simp only [List.cons.injEq, and_true] at hcs
  obtain ⟨rfl, rfl⟩ := hcs
  rw [Tm.sz] at hz
  obtain ⟨p, c, rfl, hlen⟩ := hl.form
  unfold maxLen at hlen
  have IH := Lib.hid ih
  have HL := Lib.hid hl
  have HSZ := Lib.hid (show (Tm.mk s us).many M = Tm.manys 1 us M from rfl)
  clear ih hl
  go_enter Tryz.func125, Tryz.ntmps125
  go_wp2
  obtain ⟨W, hW⟩ : ∃ W, W = w.alloc (.cells #[.string s, .slice p us.length c] 64) := ⟨_, rfl⟩
  have hw0 : W.cell? ⟨w.heap.size, 1, none⟩ = some (.slice p us.length c) := by rw [hW]; go_simp
  have hbW : Below w.heap.size w W := by rw [hW]; exact bel
  rw [← hW]
  clear hW
  go_loopw [5, 6] (fun n i wr => ∃ k acc : Nat, k ≤ us.length ∧ i = .int .i64 k ∧ n = .int .i64 acc ∧ Tm.manys acc (us.drop k) M = Tm.manys 1 us M ∧ acc + Tm.szs (us.drop k) ≤ 1 + Tm.szs us ∧ Below W.heap.size W wr) (fun _ i _ => us.length - (intOf i).toNat)
  case atStart => exact ⟨0, 1, Nat.zero_le _, rfl, rfl, rfl, Nat.le_refl _, Below.refl _ _⟩
  case round =>
   obtain ⟨k, acc, hk, rfl, rfl, he, hle, hbr⟩ := hrel
   have HE := Lib.hid he
   clear he
   have hb := Below.step hbW hbr
   have hw1 : wr.cell? ⟨w.heap.size, 1, none⟩ = some (.slice p us.length c) := (hbr.cell (World.block_lt_of_cell? W _ hw0)).trans hw0
   by_cases hlt : k < us.length
   ·obtain ⟨b, o, rfl, hB, x0, x1, hx0, hx1, hx⟩ := (HL.out.mono (SameOn.below hb) (fun _ h => h) (fun x cs _ hx => TmAt.below hb hx)).at2 hlt
    obtain ⟨pa, ca, rfl, rfl, -, -⟩ := hx.form
    have HD := Lib.hid (Tm.manys_drop us hlt acc M)
    have HZ := Lib.hid (Tm.szs_drop us hlt)
    obtain ⟨a, ha⟩ : ∃ a, us[k] = a := ⟨_, rfl⟩
    rw [ha] at hx HD HZ hx0 hx1
    have HX := Lib.hid hx
    have hlaw := a.many_law (M - acc)
    have hzz := HZ.out
    rw [hzz] at hle
    clear hx ha hzz
    by_cases hac : acc ≤ M
    ·have hac1 : (acc : Int) ≤ (M : Int) := by omega
     go_wp2_with fail
     refine (IH.out a _ _ (M - acc) _ _ HX.out (by omega) (by omega) (by omega)).mono ?_
     rintro e w1 ⟨rfl, hb1⟩
     have ⟨cw1, fw1⟩ := bcell hb1
     have qw1 := hb1.size
     (try simp at qw1)
     (try have zw1w := bsz (show w.heap.size < w1.heap.size by omega))
     have hbb := Below.step hbr hb1
     go_wp2
     refine ⟨⟨k + 1, acc + a.many (M - acc), by omega, by go_num, by go_num, ?_, by omega, hbb⟩, by simp [intOf]; omega⟩
     rw [← HE.out, HD.out, if_pos hac]
    ·have hac1 : ¬ (acc : Int) ≤ (M : Int) := by omega
     go_wp2
     go_ret
     exact ⟨ret_int (by rw [HSZ.out, ← HE.out, HD.out, if_neg hac]), hb⟩
   ·obtain rfl : k = us.length := by omega
    have he := HE.out
    rw [List.drop_length, Tm.manys] at he
    have HE2 := Lib.hid he
    clear he
    go_wp2
    go_ret
    exact ⟨ret_int (by rw [HSZ.out, ← HE2.out]), hb⟩
theorem Tm.nodess_drop (us : List Tm) {k : Nat} (h : k < us.length) : Tm.nodess (us.drop k) = (us[k].nodes && Tm.nodess (us.drop (k + 1))) := by
 rw [List.drop_eq_getElem_cons h, Tm.nodess]
theorem hasNames1_of {B : Nat → Prop} (m : Nat) (ih : ∀ (t : Tm) (v0 v1 : Value) (w : World), TmAt B m w t [v0, v1] →
   Calls Tryz.prog 154 #[.agg #[v0, v1]] w fun e w' => e = .returned (.bool t.nodes) ∧ Below w.heap.size w w')
  (t : Tm) (v0 v1 : Value) (w : World) (h : TmAt B m w t [v0, v1]) :
  Calls Tryz.prog 182 #[.agg #[v0, v1]] w fun e w' => e = .returned (.bool (!t.nodes)) ∧ Below w.heap.size w w' := by
 obtain ⟨p, c, rfl, rfl, -, -⟩ := h.form
 have H := Lib.hid h
 have IH := Lib.hid ih
 clear h ih
 go_enter Tryz.func182, Tryz.ntmps182
 go_wp2_with fail
 refine (IH.out t _ _ _ (H.out.below (by exact bel))).mono ?_
 rintro e w1 ⟨rfl, hb1⟩
 have ⟨cw1, fw1⟩ := bcell hb1
 have qw1 := hb1.size
 (try simp at qw1)
 (try have zw1w := bsz (show w.heap.size < w1.heap.size by omega))
 go_wp2
 go_ret
 exact ⟨rfl, by exact bel⟩
def FirstBad (us : List Tm) (w : World) (e : Ending) (w' : World) : Prop := ∃ r : Int, e = .returned (.int .i64 r) ∧ decide (0 ≤ r) = !Tm.nodess us ∧ Below w.heap.size w w'
set_option maxHeartbeats 1600000 in
theorem indexNames_of {B : Nat → Prop} (m : Nat) (ih : ∀ (t : Tm) (v0 v1 : Value) (w : World), TmAt B m w t [v0, v1] →
   Calls Tryz.prog 154 #[.agg #[v0, v1]] w fun e w' => e = .returned (.bool t.nodes) ∧ Below w.heap.size w w')
  (us : List Tm) (va : Value) (w : World) (h : ListAt B w 2 (TmAt B m w) va us) :
  Calls Tryz.prog 200 #[va, .func (.func 182) #[] #[]] w (FirstBad us w) := by
 obtain ⟨p, c, rfl, hlen⟩ := h.form
 unfold maxLen at hlen
 have H := Lib.hid h
 have HN1 := Lib.hid (hasNames1_of m ih)
 clear h ih
 go_enter Tryz.func200, Tryz.ntmps200
 go_wp2
 go_loopw [8] (fun i wr => ∃ k : Nat, k ≤ us.length ∧ i = .int .i64 k ∧ Tm.nodess us = Tm.nodess (us.drop k) ∧ Below w.heap.size w wr) (fun i _ => us.length - (intOf i).toNat)
 case atStart => exact ⟨0, Nat.zero_le _, rfl, rfl, by exact bel⟩
 case round =>
  obtain ⟨k, hk, rfl, he, hb⟩ := hrel
  have HE := Lib.hid he
  clear he
  by_cases hlt : k < us.length
  ·obtain ⟨b, o, rfl, hB, x0, x1, hx0, hx1, hx⟩ := (H.out.mono (SameOn.below hb) (fun _ h => h) (fun x cs _ hx => TmAt.below hb hx)).at2 hlt
   obtain ⟨pa, ca, rfl, rfl, -, -⟩ := hx.form
   have HD := Lib.hid (Tm.nodess_drop us hlt)
   obtain ⟨a, ha⟩ : ∃ a, us[k] = a := ⟨_, rfl⟩
   rw [ha] at hx HD hx0 hx1
   have HX := Lib.hid hx
   clear hx ha
   cases hN : a.nodes
   all_goals
    have HN := Lib.hid hN
    go_wp2_with fail
    refine (HN1.out a _ _ _ HX.out).mono ?_
    rintro e w1 ⟨rfl, hb1⟩
    have ⟨cw1, fw1⟩ := bcell hb1
    have qw1 := hb1.size
    (try simp at qw1)
    (try have zw1w := bsz (show w.heap.size < w1.heap.size by omega))
    rw [HN.out]
    go_wp2
   ·go_ret
    exact ⟨k, rfl, by rw [HE.out, HD.out, HN.out]; simp, by exact bel⟩
   ·refine ⟨⟨k + 1, by omega, by go_num, ?_, by exact bel⟩, by simp [intOf]; omega⟩
    rw [HE.out, HD.out, HN.out]; rfl
  ·obtain rfl : k = us.length := by omega
   have he := HE.out
   rw [List.drop_length, Tm.nodess] at he
   have HE2 := Lib.hid he
   clear he
   go_wp2
   go_ret
   exact ⟨-1, rfl, by rw [HE2.out]; rfl, by exact bel⟩
set_option maxHeartbeats 1600000 in
theorem containsNames_of {B : Nat → Prop} (m : Nat) (ih : ∀ (t : Tm) (v0 v1 : Value) (w : World), TmAt B m w t [v0, v1] →
   Calls Tryz.prog 154 #[.agg #[v0, v1]] w fun e w' => e = .returned (.bool t.nodes) ∧ Below w.heap.size w w')
  (us : List Tm) (va : Value) (w : World) (h : ListAt B w 2 (TmAt B m w) va us) :
  Calls Tryz.prog 181 #[va, .func (.func 182) #[] #[]] w fun e w' => e = .returned (.bool (!Tm.nodess us)) ∧ Below w.heap.size w w' := by
 have H := Lib.hid h
 have IH := Lib.hid (indexNames_of m ih)
 clear h ih
 go_enter Tryz.func181, Tryz.ntmps181
 go_wp2_with fail
 refine (IH.out us va _ H.out).mono ?_
 rintro e w1 ⟨r, rfl, hr, hb1⟩
 have HR := Lib.hid hr
 clear hr
 go_wp2
 go_ret
 exact ⟨ret_bool HR.out, hb1⟩
set_option maxHeartbeats 1600000 in
theorem hasNames_any {B : Nat → Prop} : ∀ (m : Nat) (t : Tm) (v0 v1 : Value) (w : World), TmAt B m w t [v0, v1] →
   Calls Tryz.prog 154 #[.agg #[v0, v1]] w fun e w' => e = .returned (.bool t.nodes) ∧ Below w.heap.size w w' := by
 intro m
 induction m with
 | zero => intro t v0 v1 w h; exact h.elim
 | succ m ih =>
  rintro ⟨s, us⟩ v0 v1 w ⟨va, hcs, hs, hl⟩
  simp only [List.cons.injEq, and_true] at hcs
  obtain ⟨rfl, rfl⟩ := hcs
  obtain ⟨p, c, rfl, hlen⟩ := hl.form
  unfold maxLen at hlen
  have IH := Lib.hid (containsNames_of m ih)
  have HL := Lib.hid hl
  have HS := Lib.hid hs
  have HN := Lib.hid (show (Tm.mk s us).nodes = if varB s.data.toList then us.isEmpty else symB s.data.toList && decide (us.length ≤ 4) && Tm.nodess us from rfl)
  clear ih hl hs
  cases hv : varB s.data.toList
  ·have HV := Lib.hid hv
   cases hy : symB s.data.toList
   ·have HY := Lib.hid hy
    go_enter Tryz.func154, Tryz.ntmps154
    go_wp2_with (first | (go_at_call 145; refine (isVariable_any _ _ HS.out).mono ?_; rintro e w' ⟨rfl, rfl⟩) | (go_at_call 155; refine (isSymbol_any _ _ HS.out).mono ?_; rintro e w1 ⟨rfl, hb1⟩; have ⟨cw1, fw1⟩ := bcell hb1; have qw1 := hb1.size; (try simp at qw1); (try have zw1w := bsz (show w.heap.size < w1.heap.size by omega))))
    go_ret
    exact ⟨ret_bool (by rw [HN.out, HV.out, HY.out]; rfl), by exact bel⟩
   ·have HY := Lib.hid hy
    by_cases h4 : (us.length : Int) ≤ 4
    ·have H4 := Lib.hid (show decide (us.length ≤ 4) = true by simp; omega)
     go_enter Tryz.func154, Tryz.ntmps154
     go_wp2_with (first | (go_at_call 145; refine (isVariable_any _ _ HS.out).mono ?_; rintro e w' ⟨rfl, rfl⟩) | (go_at_call 155; refine (isSymbol_any _ _ HS.out).mono ?_; rintro e w1 ⟨rfl, hb1⟩; have ⟨cw1, fw1⟩ := bcell hb1; have qw1 := hb1.size; (try simp at qw1); (try have zw1w := bsz (show w.heap.size < w1.heap.size by omega))) | (go_at_call 181; refine (IH.out us _ _ (HL.out.mono (SameOn.below (by exact bel)) (fun _ h => h) (fun x cs _ hx => TmAt.below (by exact bel) hx))).mono ?_; rintro e w2 ⟨rfl, hb2⟩; have ⟨cw2, fw2⟩ := bcell hb2; have qw2 := hb2.size; (try simp at qw2); (try have zw2w := bsz (show w.heap.size < w2.heap.size by omega)); (try have zw2w1 := bsz (show w1.heap.size < w2.heap.size by omega))))
     go_ret
     exact ⟨ret_bool (by rw [HN.out, HV.out, HY.out, H4.out]; simp), by exact bel⟩
    ·have H4 := Lib.hid (show decide (us.length ≤ 4) = false by simp; omega)
     go_enter Tryz.func154, Tryz.ntmps154
     go_wp2_with (first | (go_at_call 145; refine (isVariable_any _ _ HS.out).mono ?_; rintro e w' ⟨rfl, rfl⟩) | (go_at_call 155; refine (isSymbol_any _ _ HS.out).mono ?_; rintro e w1 ⟨rfl, hb1⟩; have ⟨cw1, fw1⟩ := bcell hb1; have qw1 := hb1.size; (try simp at qw1); (try have zw1w := bsz (show w.heap.size < w1.heap.size by omega))))
     go_ret
     exact ⟨ret_bool (by rw [HN.out, HV.out, HY.out, H4.out]; rfl), by exact bel⟩
  ·have HV := Lib.hid hv
   have HE := Lib.hid (show us.isEmpty = ((us.length : Int) == 0) by cases us <;> simp; omega)
   go_enter Tryz.func154, Tryz.ntmps154
   go_wp2_with (first | (go_at_call 145; refine (isVariable_any _ _ HS.out).mono ?_; rintro e w' ⟨rfl, rfl⟩))
   go_ret
   exact ⟨ret_bool (by rw [HN.out, HV.out, if_pos rfl, HE.out]), by exact bel⟩
end Go.Proofs.YtabkdonplmlbcaaGreatDoor
