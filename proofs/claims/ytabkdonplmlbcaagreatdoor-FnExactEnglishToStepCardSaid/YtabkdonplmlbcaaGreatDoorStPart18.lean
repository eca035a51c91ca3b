import Derived.Test.YtabkdonplmlbcaaGreatDoorStPart16
namespace Go.Proofs.YtabkdonplmlbcaaGreatDoor
set_option maxRecDepth 100000
open Go.RowKit
def L2CmpC (B : Nat → Prop) (m : Nat) : Prop := ∀ (a b : Tm) (v0 v1 u0 u1 : Value) (w : World), TmAt B m w a [v0, v1] → TmAt B m w b [u0, u1] →
 Calls Tryz.prog 92 #[.agg #[v0, v1], .agg #[u0, u1]] w fun e w' => e = .returned (.int .i64 (a.cmp b)) ∧ Below w.heap.size w w'
def L2Rel (us vs : List Tm) (w : World) (i : Value) (wr : World) : Prop := ∃ k : Nat, k ≤ us.length ∧ i = .int .i64 k ∧ Tm.cmps us vs = Tm.cmps (us.drop k) (vs.drop k) ∧ Below w.heap.size w wr
set_option maxHeartbeats 3200000 in
theorem l2Compare_any {B : Nat → Prop} : ∀ m : Nat, L2CmpC B m := by
 intro m
 induction m with
 | zero => intro a b v0 v1 u0 u1 w h; exact h.elim
 | succ m ih =>
  intro a b v0 v1 u0 u1 w ha hb
  have hsa := ha.form
  have hsb := hb.form
  obtain ⟨p, c, rfl, rfl, hna, hla⟩ := ha.form
  obtain ⟨q, d, rfl, rfl, hnb, hlb⟩ := hb.form
  have HA := Lib.hid (TmAt.sub' ha)
  have HB := Lib.hid (TmAt.sub' hb)
  have IH := Lib.hid ih
  have HCE := Lib.hid (Tm.cmp_eq a b)
  clear ha hb ih hsa hsb
  have HNA := Lib.hid hna
  have HNB := Lib.hid hnb
  unfold maxLen at hla hlb
  clear hna hnb
  go_enter Tryz.func92, Tryz.ntmps92
  go_wp2
  obtain ⟨W, hW⟩ : ∃ W : World, W = (w.alloc (.cells #[.string a.n, .slice p a.us.length c] 64)).alloc (.cells #[.string b.n, .slice q b.us.length d] 64) := ⟨_, rfl⟩
  have hsW : W.heap.size = w.heap.size + 2 := by rw [hW]; simp
  have hbW : Below w.heap.size w W := by rw [hW]; exact bel
  have a0 : W.cell? ⟨w.heap.size, 0, none⟩ = some (.string a.n) := by rw [hW]; go_simp
  have a1 : W.cell? ⟨w.heap.size, 1, none⟩ = some (.slice p a.us.length c) := by rw [hW]; go_simp
  have b0 : W.cell? ⟨w.heap.size + 1, 0, none⟩ = some (.string b.n) := by rw [hW]; go_simp
  have b1 : W.cell? ⟨w.heap.size + 1, 1, none⟩ = some (.slice q b.us.length d) := by rw [hW]; go_simp
  rw [← hW]
  clear hW
  have zW := bsz (show w.heap.size < W.heap.size by omega)
  have zW1 := bsz (show w.heap.size + 1 < W.heap.size by omega)
  refine wp_region_flowC W.heap.size [(⟨w.heap.size, 0, none⟩, .string a.n), (⟨w.heap.size, 1, none⟩, .slice p a.us.length c), (⟨w.heap.size + 1, 0, none⟩, .string b.n), (⟨w.heap.size + 1, 1, none⟩, .slice q b.us.length d)] (by kernel_rfl) (by kernel_rfl) (by first | (intro _ hs; cases hs; done) | (simp only [List.forall_mem_cons]; go_simp)) fun C HC => ?_
  repeat (first | ((first | apply flow_free rfl | (apply flow_yes; (case hw => go_simp))); (intro L w' hun hrd hC; have ⟨hC, hb', hf'⟩ := flO HC hC; (try simp only [List.forall_mem_cons] at hf'); go_simp; first | exact ⟨flS HC hC, rfl⟩ | (rw [if_neg]; (exact ⟨flS HC hC, rfl⟩); omega) | (go_at_call 127; (with_reducible refine ((same_below (l2Var_any a.n _ HNA.out))).mono ?_); rintro e w1 ⟨rfl, hb1⟩; exact ⟨rfl, (HC.out _ _).2 ((hC.next (by first | (simp; done) | (simp; omega) | omega) hb1).skip _ (by rfl))⟩) | (go_at_call 127; (with_reducible refine ((same_below (l2Var_any b.n _ HNB.out))).mono ?_); rintro e w1 ⟨rfl, hb1⟩; exact ⟨rfl, (HC.out _ _).2 ((hC.next (by first | (simp; done) | (simp; omega) | omega) hb1).skip _ (by rfl))⟩)); go_simp) | (apply flow_noC HC; (case hw => (go_simp; try (intro hh; cases hh))); go_simp))
  refine flow_nil ?_
  intro L wz hL hz
  have ⟨_, hbz, hcz⟩ := flO HC hz
  try simp only [List.forall_mem_cons] at hcz
  (try have hwz : Below w.heap.size w wz := by first | exact belT (hb := hbz) | exact bel)
  cases hva : varB a.n.data.toList <;> cases hvb : varB b.n.data.toList
  case true.false =>
   go_wp2
   go_ret
   exact ⟨ret_int (by rw [HCE.out, hva, hvb]; rfl), by exact bel⟩
  case false.true =>
   go_wp2
   go_ret
   exact ⟨ret_int (by rw [HCE.out, hva, hvb]; rfl), by exact bel⟩
  all_goals
   have HCE2 := Lib.hid (show a.cmp b = if textCmp a.n.data.toList b.n.data.toList ≠ 0 then textCmp a.n.data.toList b.n.data.toList else if a.us.length < b.us.length then -1 else if b.us.length < a.us.length then 1 else Tm.cmps a.us b.us by rw [HCE.out, hva, hvb]; rfl)
   clear hva hvb
   obtain ⟨g0, g1, k0, k1, -⟩ := hcz
   have hwq : Below w.heap.size w wz := by first | exact hwz | (repeat (first | with_reducible (first | exact bR _ _ | assumption | refine bA ?_ _ | refine bS ?_ _) | assumption | exact bR _ _ | refine bD ?_ | refine bN ?_ _ | refine bT ?_ (by assumption)))
   have hqz := hbz.size
   have zq := bsz (show w.heap.size < wz.heap.size by omega)
   have zq1 := bsz (show w.heap.size + 1 < wz.heap.size by omega)
   clear a0 a1 b0 b1
   (try clear hdz)
   by_cases hne : a.n.toList = b.n.toList
   ·have hne1 : (a.n.toList == b.n.toList) = true := by simpa using hne
    have hne2 : (a.n.toList != b.n.toList) = false := by rw [bne, hne1]; rfl
    have hl : a.n.data.toList = b.n.data.toList := by rw [← ByteArray.toList_eq, ← ByteArray.toList_eq, hne]
    have HT := Lib.hid (show a.cmp b = if a.us.length < b.us.length then -1 else if b.us.length < a.us.length then 1 else Tm.cmps a.us b.us by rw [HCE2.out, hl, textCmp_self, if_neg (by simp)])
    clear hl hne
    by_cases h1 : (a.us.length : Int) < b.us.length
    ·go_wp2
     go_ret
     exact ⟨ret_int (by rw [HT.out, if_pos (by omega)]), by exact bel⟩
    ·by_cases h2 : (b.us.length : Int) < a.us.length
     ·go_wp2
      go_ret
      exact ⟨ret_int (by rw [HT.out, if_neg (by omega), if_pos (by omega)]), by exact bel⟩
     ·have HT2 := Lib.hid (show a.cmp b = Tm.cmps a.us b.us by rw [HT.out, if_neg (by omega), if_neg (by omega)])
      go_wp2
      have HAZ := Lib.hid (HA.out.mono (SameOn.below hwq) (fun _ h => h) (fun x cs _ hx => TmAt.below hwq hx))
      have HBZ := Lib.hid (HB.out.mono (SameOn.below hwq) (fun _ h => h) (fun x cs _ hx => TmAt.below hwq hx))
      generalize wz = wz_old at *
      go_loopw [7] (L2Rel a.us b.us wz_old) (fun i _ => a.us.length - (intOf i).toNat)
      case atStart => exact ⟨0, Nat.zero_le _, rfl, rfl, Below.refl _ _⟩
      case round =>
       obtain ⟨k, hk, rfl, he, hb⟩ := hrel
       have HE := Lib.hid he
       have hqr := hb.size
       have e1 : wr.cell? ⟨w.heap.size, 1, none⟩ = some (.slice p a.us.length c) := (World.cell?_of_block (hb.block _ (by simp; omega))).trans g1
       have e2 : wr.cell? ⟨w.heap.size + 1, 1, none⟩ = some (.slice q b.us.length d) := (World.cell?_of_block (hb.block _ (by simp; omega))).trans k1
       have hwr : Below w.heap.size w wr := Below.trans hwq (hb.mono hwq.size)
       have zr := bsz (show w.heap.size < wr.heap.size by omega)
       have zr1 := bsz (show w.heap.size + 1 < wr.heap.size by omega)
       clear he g0 g1 k0 k1
       by_cases hlt : k < a.us.length
       ·have hlt2 : k < b.us.length := by omega
        have hlt3 : (k : Int) < a.us.length := by omega
        have hlt4 : (k : Int) < b.us.length := by omega
        have hd := Tm.cmps_drop hlt hlt2
        obtain ⟨b1, o1, hq1, hB1, x0, x1, hx0, hx1, hx⟩ := (HAZ.out.mono (SameOn.below hb) (fun _ h => h) (fun x cs _ hx => TmAt.below hb hx)).at2 hlt
        obtain ⟨b2, o2, hq2, hB2, y0, y1, hy0, hy1, hy⟩ := (HBZ.out.mono (SameOn.below hb) (fun _ h => h) (fun x cs _ hx => TmAt.below hb hx)).at2 hlt2
        subst hq1 hq2
        obtain ⟨x, hxx⟩ : ∃ x, a.us[k] = x := ⟨_, rfl⟩
        obtain ⟨y, hyy⟩ : ∃ y, b.us[k] = y := ⟨_, rfl⟩
        rw [hxx, hyy] at hd
        rw [hxx] at hx
        rw [hyy] at hy
        have HX := Lib.hid hx
        have HY := Lib.hid hy
        have HD := Lib.hid hd
        clear hd hxx hyy hx hy
        obtain ⟨pa, ca, rfl, rfl, -⟩ := HX.out.form
        obtain ⟨pb, cb, rfl, rfl, -⟩ := HY.out.form
        have zb1 := bsz (World.block_lt_of_cell? _ _ hx0)
        have zb2 := bsz (World.block_lt_of_cell? _ _ hy0)
        have hbr : Below wr.heap.size wr wr := Below.refl _ _
        go_wp2
        refine wp_region_flowC wr.heap.size [(⟨w.heap.size, 1, none⟩, .slice (some ⟨b1, o1, none⟩) a.us.length c), (⟨w.heap.size + 1, 1, none⟩, .slice (some ⟨b2, o2, none⟩) b.us.length d), (⟨b1, o1 + k * 2, none⟩, .string x.n), (⟨b1, o1 + k * 2 + 1, none⟩, .slice pa x.us.length ca), (⟨b2, o2 + k * 2, none⟩, .string y.n), (⟨b2, o2 + k * 2 + 1, none⟩, .slice pb y.us.length cb)] (by kernel_rfl) (by kernel_rfl) (by first | (intro _ hs; cases hs; done) | (simp only [List.forall_mem_cons]; go_simp)) fun C HC => ?_
        repeat (first | ((first | apply flow_free rfl | (apply flow_yes; (case hw => go_simp))); (intro L w' hun hrd hC; have ⟨hC, hb', hf'⟩ := flO HC hC; (try simp only [List.forall_mem_cons] at hf'); go_simp; first | exact ⟨flS HC hC, rfl⟩ | (rw [if_neg]; (exact ⟨flS HC hC, rfl⟩); omega) | (go_at_call 92; refine (IH.out x y _ _ _ _ _ (TmAt.below hb' HX.out) (TmAt.below hb' HY.out)).mono ?_; rintro e w1 ⟨rfl, hb1⟩; exact ⟨rfl, flN HC hC (by first | (simp; done) | (simp; omega) | omega) hb1⟩)); go_simp) | (apply flow_noC HC; (case hw => (go_simp; try (intro hh; cases hh))); go_simp))
        refine flow_nil ?_
        intro L wz hL hz
        have ⟨_, hbz, hcz⟩ := flO HC hz
        try simp only [List.forall_mem_cons] at hcz
        (try have hwz : Below w.heap.size w wz := by first | exact belT (hb := hbz) | exact bel)
        have hwz2 : Below wz_old.heap.size wz_old wz := hb.trans (hbz.mono hb.size)
        cases hz : (x.cmp y == 0)
        ·have hz' : (x.cmp y != 0) = true := by rw [bne, hz]; rfl
         have hz2 : ¬ x.cmp y = 0 := by simpa using hz
         go_wp2
         go_ret
         exact ⟨ret_int (by rw [HT2.out, HE.out, HD.out, if_pos hz2]), hwr.trans (hbz.mono hwr.size)⟩
        ·have hz' : (x.cmp y != 0) = false := by rw [bne, hz]; rfl
         have hz2 : x.cmp y = 0 := by simpa using hz
         go_wp2
         refine ⟨⟨k + 1, by omega, by go_num, by rw [HE.out, HD.out, if_neg (by simpa using hz2)], hwz2⟩, by simp [intOf]; omega⟩
       ·obtain rfl : k = a.us.length := by omega
        go_wp2
        go_ret
        exact ⟨ret_int (by rw [HT2.out, HE.out, cmps_end (by omega)]), hwr⟩
   ·have hne1 : (a.n.toList == b.n.toList) = false := by simpa using hne
    have hne2 : (a.n.toList != b.n.toList) = true := by rw [bne, hne1]; rfl
    have hl : a.n.data.toList ≠ b.n.data.toList := by rw [← ByteArray.toList_eq, ← ByteArray.toList_eq]; exact hne
    go_wp2_with (first | (go_at_call 129; refine (l2Text_any _ _ _).mono ?_; rintro e w' ⟨rfl, rfl⟩))
    go_ret
    exact ⟨ret_int (by rw [HCE2.out, if_pos (textCmp_ne hl)]), by exact bel⟩
set_option maxHeartbeats 1600000 in
theorem l7Literals_any {B : Nat → Prop} (m : Nat) (a b : Lit3) (v0 v1 v2 u0 u1 u2 : Value) (w : World) (ha : LitAt B m w a [v0, v1, v2]) (hb : LitAt B m w b [u0, u1, u2]) :
  Calls Tryz.prog 59 #[.agg #[v0, v1, v2], .agg #[u0, u1, u2]] w fun e w' => e = .returned (.int .i64 (a.cmp b)) ∧ Below w.heap.size w w' := by
 obtain ⟨p, c, rfl, rfl, rfl, hta⟩ := ha.form
 obtain ⟨q, d, rfl, rfl, rfl, htb⟩ := hb.form
 have HA := Lib.hid hta
 have HB := Lib.hid htb
 have HC := Lib.hid (show a.cmp b = if a.a.cmp b.a ≠ 0 then a.a.cmp b.a else if !a.pos && b.pos then -1 else if a.pos && !b.pos then 1 else 0 by rw [Lit3.cmp, cmp_flags]; rfl)
 clear ha hb hta htb
 go_enter Tryz.func59, Tryz.ntmps59
 go_wp2_with fail
 refine (l2Compare_any m a.a b.a _ _ _ _ _ (HA.out.below (by exact bel)) (HB.out.below (by exact bel))).mono ?_
 rintro e w1 ⟨rfl, hb1⟩
 have ⟨cb1, fb1⟩ := bcell hb1
 have hq1 := hb1.size
 simp at hq1
 have z0 := bsz (show w.heap.size < w1.heap.size by omega)
 have z1 := bsz (show w.heap.size + 1 < w1.heap.size by omega)
 cases hz : (a.a.cmp b.a == 0)
 ·have hz' : (a.a.cmp b.a != 0) = true := by rw [bne, hz]; rfl
  have hz2 : ¬ a.a.cmp b.a = 0 := by simpa using hz
  go_wp2
  go_ret
  exact ⟨ret_int (by rw [HC.out, if_pos hz2]), by exact bel⟩
 ·have hz' : (a.a.cmp b.a != 0) = false := by rw [bne, hz]; rfl
  have hz2 : a.a.cmp b.a = 0 := by simpa using hz
  have HC2 := Lib.hid (show a.cmp b = if !a.pos && b.pos then -1 else if a.pos && !b.pos then 1 else 0 by rw [HC.out, if_neg (by simpa using hz2)])
  cases hpa : a.pos <;> cases hpb : b.pos
  all_goals
   have HC3 := Lib.hid HC2.out
   rw [hpa, hpb] at HC3
   go_wp2
   go_ret
   exact ⟨ret_int (by rw [HC3.out]; rfl), by exact bel⟩
set_option maxHeartbeats 3200000 in
theorem l7Good_any {B : Nat → Prop} (m : Nat) (c : List Lit3) (v : Value) (w : World) (h : ClsAt B m w c v) (hz : ∀ l ∈ c, l.a.sz ≤ 100000000) :
  Calls Tryz.prog 30 #[.agg #[v]] w fun e w' => e = .returned (.bool (Cls.good c)) ∧ Below w.heap.size w w' := by
 obtain ⟨p, d, rfl, hlen⟩ := (show ListAt B w 3 (LitAt B m w) v c from h).form
 unfold maxLen at hlen
 have H := Lib.hid (show ListAt B w 3 (LitAt B m w) (.slice p c.length d) c from h)
 have HG := Lib.hid (show Cls.good c = (decide (c.length ≤ 8) && Cls.okF none c) from rfl)
 have HZ := Lib.hid hz
 clear h hz
 by_cases h8 : (8 : Int) < c.length
 ·go_enter Tryz.func30, Tryz.ntmps30
  go_wp2
  go_ret
  exact ⟨ret_bool (by rw [HG.out, decide_eq_false (by omega), Bool.false_and]), by exact bel⟩
 have HG2 := Lib.hid (show Cls.good c = Cls.okF none c by rw [HG.out, decide_eq_true (by omega), Bool.true_and])
 go_enter Tryz.func30, Tryz.ntmps30
 go_wp2
 obtain ⟨W, hW⟩ : ∃ W : World, W = w.alloc (.cells #[.slice p c.length d] 25) := ⟨_, rfl⟩
 have hsW : W.heap.size = w.heap.size + 1 := by rw [hW]; simp
 have hbW : Below w.heap.size w W := by rw [hW]; exact bel
 have a0 : W.cell? ⟨w.heap.size, 0, none⟩ = some (.slice p c.length d) := by rw [hW]; go_simp
 rw [← hW]
 clear hW
 have HL := Lib.hid (H.out.mono (SameOn.below hbW) (fun _ h => h) (fun x cs _ hx => LitAt.below hbW hx))
 go_loopw [3] (ClsRel c W) (fun i _ => c.length - (intOf i).toNat)
 case atStart => exact ⟨0, Nat.zero_le _, rfl, rfl, fun h => absurd h (by omega), Below.refl _ _⟩
 case round =>
  obtain ⟨k, hk, rfl, he, hpv, hb⟩ := hrel
  have HE := Lib.hid he
  have HPV := Lib.hid hpv
  have hqr := hb.size
  have zr := bsz (show w.heap.size < wr.heap.size by omega)
  have e0 : wr.cell? ⟨w.heap.size, 0, none⟩ = some (.slice p c.length d) := (World.cell?_of_block (hb.block _ (by simp; omega))).trans a0
  have hwr : Below w.heap.size w wr := hbW.trans (hb.mono hbW.size)
  clear he hpv a0
  by_cases hlt : k < c.length
  ·have hD := okF_drop hlt
   have hszl := HZ.out _ (List.getElem_mem hlt)
   obtain ⟨b1, o1, hq1, hB1, x0, x1, x2, hx0, hx1, hx2, hx⟩ := (HL.out.mono (SameOn.below hb) (fun _ h => h) (fun x cs _ hx => LitAt.below hb hx)).at3 hlt
   have hprev : ∀ h : 0 < k, ∃ y0 y1 y2, wr.cell? ⟨b1, o1 + (k - 1) * 3, none⟩ = some y0 ∧ wr.cell? ⟨b1, o1 + (k - 1) * 3 + 1, none⟩ = some y1 ∧ wr.cell? ⟨b1, o1 + (k - 1) * 3 + 2, none⟩ = some y2 ∧ LitAt B m wr (c[k - 1]'(by omega)) [y0, y1, y2] := fun h => by
    obtain ⟨b2, o2, hq2, -, y0, y1, y2, hy0, hy1, hy2, hy⟩ := (HL.out.mono (SameOn.below hb) (fun _ h => h) (fun x cs _ hx => LitAt.below hb hx)).at3 (show k - 1 < c.length by omega)
    rw [hq1] at hq2
    simp only [Option.some.injEq, Addr.mk.injEq, and_true] at hq2
    obtain ⟨rfl, rfl⟩ := hq2
    exact ⟨y0, y1, y2, hy0, hy1, hy2, hy⟩
   subst hq1
   have HPR := Lib.hid hprev
   have hpp := fun h : 0 < k => prevAt_pos hlt h
   have HPP := Lib.hid hpp
   clear hprev hpp
   obtain ⟨l, hl⟩ : ∃ l, c[k] = l := ⟨_, rfl⟩
   rw [hl] at hx hD hszl
   have HX := Lib.hid hx
   have HD := Lib.hid hD
   have HLK := Lib.hid hl
   clear hx hD hl
   obtain ⟨pa, ca, rfl, rfl, rfl, ht⟩ := HX.out.form
   have HTX := Lib.hid ht
   clear ht
   have zb := bsz (World.block_lt_of_cell? _ _ hx0)
   have hkl : (k : Int) < c.length := by omega
   cases hA : l.a.atom
   ·have HA := Lib.hid (show Cls.good c = false by rw [HG2.out, HE.out, HD.out, hA, Bool.false_and, Bool.false_and])
    go_wp2
    refine wp_region_flowC wr.heap.size [(⟨w.heap.size, 0, none⟩, .slice (some ⟨b1, o1, none⟩) c.length d), (⟨b1, o1 + k * 3, none⟩, .bool l.pos), (⟨b1, o1 + k * 3 + 1, none⟩, .string l.a.n), (⟨b1, o1 + k * 3 + 2, none⟩, .slice pa l.a.us.length ca)] (by kernel_rfl) (by kernel_rfl) (by first | (intro _ hs; cases hs; done) | (simp only [List.forall_mem_cons]; go_simp)) fun C HC => ?_
    repeat (first | ((first | apply flow_free rfl | (apply flow_yes; (case hw => go_simp))); (intro L w' hun hrd hC; have ⟨hC, hb', hf'⟩ := flO HC hC; (try simp only [List.forall_mem_cons] at hf'); go_simp; first | exact ⟨flS HC hC, rfl⟩ | (rw [if_neg]; (exact ⟨flS HC hC, rfl⟩); omega) | (go_at_call 58; refine (l2Atom_any m l.a _ _ _ (TmAt.below hb' HTX.out) hszl).mono ?_; rintro e w1 ⟨rfl, hb1⟩; exact ⟨rfl, flN HC hC (by first | (simp; done) | (simp; omega) | omega) hb1⟩)); go_simp) | (apply flow_noC HC; (case hw => (go_simp; try (intro hh; cases hh))); go_simp))
    refine flow_nil ?_
    intro L wz hL hz
    have ⟨_, hbz, hcz⟩ := flO HC hz
    try simp only [List.forall_mem_cons] at hcz
    go_wp2
    go_ret
    exact ⟨ret_bool HA.out.symm, hwr.trans (hbz.mono hwr.size)⟩
   ·cases k with
    | zero =>
     simp only [Nat.zero_mul, Nat.add_zero] at hx0 hx1 hx2
     have HOK := Lib.hid (show Cls.okF none c = Cls.okF (prevAt c (0 + 1)) (c.drop (0 + 1)) by rw [HE.out, HD.out, hA]; simp [prevAt, ascP])
     go_wp2
     refine wp_region_flowC wr.heap.size [(⟨w.heap.size, 0, none⟩, .slice (some ⟨b1, o1, none⟩) c.length d), (⟨b1, o1, none⟩, .bool l.pos), (⟨b1, o1 + 1, none⟩, .string l.a.n), (⟨b1, o1 + 2, none⟩, .slice pa l.a.us.length ca)] (by kernel_rfl) (by kernel_rfl) (by first | (intro _ hs; cases hs; done) | (simp only [List.forall_mem_cons]; go_simp)) fun C HC => ?_
     repeat (first | ((first | apply flow_free rfl | (apply flow_yes; (case hw => go_simp))); (intro L w' hun hrd hC; have ⟨hC, hb', hf'⟩ := flO HC hC; (try simp only [List.forall_mem_cons] at hf'); go_simp; first | exact ⟨flS HC hC, rfl⟩ | (rw [if_neg]; (exact ⟨flS HC hC, rfl⟩); omega) | (go_at_call 58; refine (l2Atom_any m l.a _ _ _ (TmAt.below hb' HTX.out) hszl).mono ?_; rintro e w1 ⟨rfl, hb1⟩; exact ⟨rfl, flN HC hC (by first | (simp; done) | (simp; omega) | omega) hb1⟩)); go_simp) | (apply flow_noC HC; (case hw => (go_simp; try (intro hh; cases hh))); go_simp))
     refine flow_nil ?_
     intro L wz hL hz
     have ⟨_, hbz, hcz⟩ := flO HC hz
     try simp only [List.forall_mem_cons] at hcz
     go_wp2
     refine ⟨⟨0 + 1, by omega, by go_num, HOK.out, fun _ h2 => ?_, hb.trans (hbz.mono hb.size)⟩, by simp [intOf]; omega⟩
     rw [← hA, ← HLK.out]
    | succ j =>
     obtain ⟨y0, y1, y2, hy0, hy1, hy2, hy⟩ := HPR.out (by omega)
     have hpp := HPP.out (by omega)
     simp only [Nat.add_sub_cancel] at hy0 hy1 hy2 hy hpp
     obtain ⟨l0, hl0⟩ : ∃ l0, c[j]'(by omega) = l0 := ⟨_, rfl⟩
     rw [hl0] at hy hpp
     have HY := Lib.hid hy
     have HPP0 := Lib.hid hpp
     clear hy hpp hl0
     obtain ⟨pb, cb, rfl, rfl, rfl, ht⟩ := HY.out.form
     clear ht
     have hj1 : (0 : Int) < (j : Int) + 1 := by omega
     have hwj : IntKind.i64.wrap (j : Int) = (j : Int) := IntWalk.i64_in _ (by omega)
     have hjl : (j : Int) < c.length := by omega
     by_cases hcm : l0.cmp l < 0
     ·have HOK := Lib.hid (show Cls.okF none c = Cls.okF (prevAt c (j + 1 + 1)) (c.drop (j + 1 + 1)) by rw [HE.out, HD.out, hA, HPP0.out]; simp [ascP, hcm])
      have hcm2 : ¬ 0 ≤ l0.cmp l := by omega
      go_wp2
      refine wp_region_flowC wr.heap.size [(⟨w.heap.size, 0, none⟩, .slice (some ⟨b1, o1, none⟩) c.length d), (⟨b1, o1 + (j + 1) * 3, none⟩, .bool l.pos), (⟨b1, o1 + (j + 1) * 3 + 1, none⟩, .string l.a.n), (⟨b1, o1 + (j + 1) * 3 + 2, none⟩, .slice pa l.a.us.length ca), (⟨b1, o1 + j * 3, none⟩, .bool l0.pos), (⟨b1, o1 + j * 3 + 1, none⟩, .string l0.a.n), (⟨b1, o1 + j * 3 + 2, none⟩, .slice pb l0.a.us.length cb)] (by kernel_rfl) (by kernel_rfl) (by first | (intro _ hs; cases hs; done) | (simp only [List.forall_mem_cons]; go_simp)) fun C HC => ?_
      repeat (first | ((first | apply flow_free rfl | (apply flow_yes; (case hw => go_simp))); (intro L w' hun hrd hC; have ⟨hC, hb', hf'⟩ := flO HC hC; (try simp only [List.forall_mem_cons] at hf'); go_simp; first | exact ⟨flS HC hC, rfl⟩ | (rw [if_neg]; (exact ⟨flS HC hC, rfl⟩); omega) | (go_at_call 58; refine (l2Atom_any m l.a _ _ _ (TmAt.below hb' HTX.out) hszl).mono ?_; rintro e w1 ⟨rfl, hb1⟩; exact ⟨rfl, flN HC hC (by first | (simp; done) | (simp; omega) | omega) hb1⟩) | (go_at_call 59; refine (l7Literals_any m l0 l _ _ _ _ _ _ _ (LitAt.below hb' HY.out) (LitAt.below hb' HX.out)).mono ?_; rintro e w1 ⟨rfl, hb1⟩; exact ⟨rfl, flN HC hC (by first | (simp; done) | (simp; omega) | omega) hb1⟩)); go_simp) | (apply flow_noC HC; (case hw => (go_simp; try (intro hh; cases hh))); go_simp))
      refine flow_nil ?_
      intro L wz hL hz
      have ⟨_, hbz, hcz⟩ := flO HC hz
      try simp only [List.forall_mem_cons] at hcz
      go_wp2
      refine ⟨⟨j + 1 + 1, by omega, by go_num, HOK.out, fun _ h2 => ?_, hb.trans (hbz.mono hb.size)⟩, by simp [intOf]; omega⟩
      rw [← hA, ← HLK.out]
      rfl
     ·have HNO := Lib.hid (show Cls.good c = false by rw [HG2.out, HE.out, HD.out, hA, HPP0.out]; simp [ascP, hcm])
      have hcm2 : 0 ≤ l0.cmp l := by omega
      go_wp2
      refine wp_region_flowC wr.heap.size [(⟨w.heap.size, 0, none⟩, .slice (some ⟨b1, o1, none⟩) c.length d), (⟨b1, o1 + (j + 1) * 3, none⟩, .bool l.pos), (⟨b1, o1 + (j + 1) * 3 + 1, none⟩, .string l.a.n), (⟨b1, o1 + (j + 1) * 3 + 2, none⟩, .slice pa l.a.us.length ca), (⟨b1, o1 + j * 3, none⟩, .bool l0.pos), (⟨b1, o1 + j * 3 + 1, none⟩, .string l0.a.n), (⟨b1, o1 + j * 3 + 2, none⟩, .slice pb l0.a.us.length cb)] (by kernel_rfl) (by kernel_rfl) (by first | (intro _ hs; cases hs; done) | (simp only [List.forall_mem_cons]; go_simp)) fun C HC => ?_
      repeat (first | ((first | apply flow_free rfl | (apply flow_yes; (case hw => go_simp))); (intro L w' hun hrd hC; have ⟨hC, hb', hf'⟩ := flO HC hC; (try simp only [List.forall_mem_cons] at hf'); go_simp; first | exact ⟨flS HC hC, rfl⟩ | (rw [if_neg]; (exact ⟨flS HC hC, rfl⟩); omega) | (go_at_call 58; refine (l2Atom_any m l.a _ _ _ (TmAt.below hb' HTX.out) hszl).mono ?_; rintro e w1 ⟨rfl, hb1⟩; exact ⟨rfl, flN HC hC (by first | (simp; done) | (simp; omega) | omega) hb1⟩) | (go_at_call 59; refine (l7Literals_any m l0 l _ _ _ _ _ _ _ (LitAt.below hb' HY.out) (LitAt.below hb' HX.out)).mono ?_; rintro e w1 ⟨rfl, hb1⟩; exact ⟨rfl, flN HC hC (by first | (simp; done) | (simp; omega) | omega) hb1⟩)); go_simp) | (apply flow_noC HC; (case hw => (go_simp; try (intro hh; cases hh))); go_simp))
      refine flow_nil ?_
      intro L wz hL hz
      have ⟨_, hbz, hcz⟩ := flO HC hz
      try simp only [List.forall_mem_cons] at hcz
      go_wp2
      go_ret
      exact ⟨ret_bool HNO.out.symm, hwr.trans (hbz.mono hwr.size)⟩
  ·obtain rfl : k = c.length := by omega
   go_wp2
   go_ret
   exact ⟨ret_bool (by rw [HG2.out, HE.out, List.drop_length, Cls.okF]), hwr⟩
set_option maxHeartbeats 800000 in
theorem clauseEnglish_any {B : Nat → Prop} (m : Nat) (c : List Lit3) (v : Value) (w : World) (h : ClsAt B m w c v) (hcap : ∀ p d, v = .slice p c.length d → c.length ≤ d) (h8 : c.length ≤ 8) (ha : ∀ l ∈ c, l.a.atom = true) (hw : Cls.wts c ≤ 1048576) :
  Calls Tryz.prog 38 #[.agg #[v]] w fun e w' => e = .returned (.string ⟨(Cls.eng c).toArray⟩) ∧ Below w.heap.size w w' := by
 obtain ⟨p, d, rfl, -⟩ := (show ListAt B w 3 (LitAt B m w) v c from h).form
 have H := Lib.hid h
 have HC := Lib.hid hcap
 have HA := Lib.hid ha
 clear h hcap ha
 by_cases h0 : c.length = 0
 ·have HE := Lib.hid (show Cls.eng c = sContr from if_pos h0)
  obtain rfl : c = [] := List.eq_nil_of_length_eq_zero h0
  go_enter Tryz.func38, Tryz.ntmps38
  go_wp2
  go_ret
  exact ⟨ret_str (by rw [HE.out]; rfl), by exact bel⟩
 ·have HE := Lib.hid (show Cls.eng c = (disj c).eng from if_neg h0)
  have HW := Lib.hid (fun l hl => Nat.le_trans (Cls.wts_le c l hl) hw)
  have HD := Lib.hid (And.intro (disj_form c (by omega) HA.out) (disj_len (by omega) h8 HA.out hw))
  have h0i : ((c.length : Int) == 0) = false := by rw [beq_eq_false_iff_ne]; omega
  go_enter Tryz.func38, Tryz.ntmps38
  go_wp2_with fail
  refine (disjunction_any m c _ _ (ClsAt.below (by exact bel) H.out) h8 HC.out HW.out).mono ?_
  rintro e w1 ⟨u0, u1, u2, u3, u4, rfl, hu, hb1⟩
  have ⟨cw1, fw1⟩ := bcell hb1
  have qw1 := hb1.size
  (try simp at qw1)
  (try have zw1w := bsz (show w.heap.size < w1.heap.size by omega))
  have HU := Lib.hid hu
  clear hu
  go_wp2_with fail
  refine (english_any (m + 2 + c.length) (disj c) _ _ _ _ _ _ HU.out HD.out.1 (by have := HD.out.2; omega)).mono ?_
  rintro e w2 ⟨rfl, hb2⟩
  have ⟨cw2, fw2⟩ := bcell hb2
  have qw2 := hb2.size
  (try simp at qw2)
  (try have zw2w := bsz (show w.heap.size < w2.heap.size by omega))
  (try have zw2w1 := bsz (show w1.heap.size < w2.heap.size by omega))
  go_wp2
  go_ret
  exact ⟨ret_str (by rw [HE.out]), by exact bel⟩
def StrAt (s : ByteArray) (cs : List Value) : Prop := cs = [.string s] ∧ s.size ≤ maxLen
def StrsAt (B : Nat → Prop) (w : World) (v : Value) (xs : List ByteArray) : Prop := ListAt B w 1 StrAt v xs
theorem StrsAt.at_ {B : Nat → Prop} {w : World} {p : Option Addr} {n c : Nat} {xs : List ByteArray} (h : StrsAt B w (.slice p n c) xs) {i : Nat} (hi : i < xs.length) : ∃ b o, p = some ⟨b, o, none⟩ ∧ B b ∧ w.cell? ⟨b, o + i, none⟩ = some (.string xs[i]) ∧ xs[i].size ≤ maxLen := by
 obtain ⟨b, o, h1, h2, x, h3, h4, h5⟩ := ListAt.at1 h hi
 simp only [List.cons.injEq, and_true] at h4
 subst h4
 exact ⟨b, o, h1, h2, h3, h5⟩
structure Un where
 name : ByteArray
 incs : List ByteArray
 axs : List ByteArray
 goal : ByteArray
theorem l3Word_any (c : UInt8) (w : World) : Calls Tryz.prog 188 #[.int .u8 (c.toNat : Int)] w fun e w' => e = .returned (.bool (wordC c)) ∧ w = w' := by
 have h95 : ((c.toNat : Int) == 95) = (c == 95) := by
  rw [Bool.eq_iff_iff, beq_iff_eq, beq_iff_eq]
  exact ⟨fun e => UInt8.toNat_inj.1 (show c.toNat = 95 by omega), fun e => by subst e; rfl⟩
 have e95 : (c = 95) = (c.toNat = 95) := propext ⟨fun e => by rw [e]; rfl, fun e => UInt8.toNat_inj.1 e⟩
 go_enter Tryz.func188, Tryz.ntmps188
 go_wp2_with (first | (go_at_call 128; refine (l2Small_any _ _).mono ?_; rintro e w' ⟨rfl, rfl⟩))
 all_goals go_ret
 all_goals refine ⟨ret_bool ?_, rfl⟩
 all_goals rw [Bool.eq_iff_iff]
 all_goals (simp_all only [wordC, loC, upC, diC, smC, decide_eq_true_eq, Bool.and_eq_true, Bool.or_eq_true, true_iff, not_and, not_or, beq_iff_eq])
 all_goals omega
theorem isPrefixOf_take (t l : List UInt8) : t.isPrefixOf l = decide (l.take t.length = t) := by
 rw [Bool.eq_iff_iff, List.isPrefixOf_iff_prefix, decide_eq_true_eq, List.prefix_iff_eq_take]
 exact ⟨fun h => h.symm, fun h => h.symm⟩
theorem starts_list (s t : ByteArray) (k : Nat) (hk : k ≤ s.size) : t.data.toList.isPrefixOf (s.data.toList.drop k) = (decide (k + t.size ≤ s.size) && decide (s.extract k (k + t.size) = t)) := by
 rw [isPrefixOf_take, Bool.eq_iff_iff, Bool.and_eq_true, decide_eq_true_eq, decide_eq_true_eq, decide_eq_true_eq]
 constructor
 ·intro h
  have hl := congrArg List.length h
  rw [List.length_take, List.length_drop, ← size_list, ← size_list] at hl
  refine ⟨by omega, ?_⟩
  apply ByteArray.ext; apply Array.ext'
  rw [extract_list, ← h, List.drop_take, size_list t]
  congr 1; omega
 ·rintro ⟨h1, h2⟩
  have h3 := congrArg (fun b : ByteArray => b.data.toList) h2
  simp only [extract_list, List.drop_take] at h3
  rw [← size_list t, ← h3, show k + t.size - k = t.size by omega]
theorem starts_eq (s t : ByteArray) (k m : Nat) : (List.drop k (List.take m s.data.toList) == t.data.toList) = decide (s.extract k m = t) := by
 rw [Bool.eq_iff_iff, beq_iff_eq, decide_eq_true_eq, ← extract_list]
 exact ⟨fun h => ByteArray.ext (Array.ext' h), fun h => by rw [h]⟩
set_option maxHeartbeats 1600000 in
theorem l8Starts_any (s t : ByteArray) (k : Nat) (w : World) (hk : k ≤ s.size) (hs : s.size ≤ 1000000000000) (ht : t.size ≤ 1000000) :
  Calls Tryz.prog 54 #[.string s, .int .i64 (k : Nat), .string t] w fun e w' => e = .returned (.bool (t.data.toList.isPrefixOf (s.data.toList.drop k))) ∧ w = w' := by
 have HS := Lib.hid (starts_list s t k hk)
 go_enter Tryz.func54, Tryz.ntmps54
 by_cases h1 : ((k : Int) + t.size ≤ s.size)
 ·have HD := Lib.hid (show decide (k + t.size ≤ s.size) = true by simp; omega)
  go_wp2
  go_ret
  refine ⟨ret_bool ?_, rfl⟩
  rw [HS.out, HD.out, Bool.true_and]
  rw [ByteArray.toList_eq, ByteArray.toList_eq]
  exact starts_eq s t k _
 ·have HD := Lib.hid (show decide (k + t.size ≤ s.size) = false by simp; omega)
  go_wp2
  go_ret
  exact ⟨ret_bool (by rw [HS.out, HD.out, Bool.false_and]), rfl⟩
set_option maxHeartbeats 1600000 in
theorem refTake_any (g : Nat) (s t : ByteArray) (p : PSt) (w : World) (h : PAt 51 w g s p) (hp : p.pos ≤ s.size) (hs : s.size ≤ 1000000000000) (ht : t.size ≤ 1000000) :
  Calls Tryz.prog 52 #[.pointer (some ⟨g, 0, none⟩), .string t] w (PStep 51 g s (if pTake s.data.toList t.data.toList p then pAdv t.data.toList p else p) (fun v _ => v = .bool (pTake s.data.toList t.data.toList p)) w) := by
 have H := Lib.hid h
 have hg := bsz h.lt
 obtain ⟨k, bad⟩ := p
 simp only at hp
 obtain ⟨c0, c1, c2, cf⟩ := h.cells
 simp only at c1 c2
 clear h
 cases bad
 ·have HT0 := Lib.hid (pTake_list s t ⟨k, false⟩ rfl)
  cases hT : pTake s.data.toList t.data.toList ⟨k, false⟩
  ·have HT1 := Lib.hid (show t.data.toList.isPrefixOf (s.data.toList.drop k) = false from HT0.out.symm.trans hT)
   clear hT
   go_enter Tryz.func52, Tryz.ntmps52
   go_wp2
   refine wp_region_flowC w.heap.size [(⟨g, 0, none⟩, .string s), (⟨g, 1, none⟩, .int .i64 (k : Nat)), (⟨g, 2, none⟩, .bool false)] (by kernel_rfl) (by kernel_rfl) (by first | (intro _ hs; cases hs; done) | (simp only [List.forall_mem_cons]; go_simp)) fun C HC => ?_
   repeat (first | ((first | apply flow_free rfl | (apply flow_yes; (case hw => go_simp))); (intro L w' hun hrd hC; have ⟨hC, hb', hf'⟩ := flO HC hC; (try simp only [List.forall_mem_cons] at hf'); go_simp; first | exact ⟨flS HC hC, rfl⟩ | (rw [if_neg]; (exact ⟨flS HC hC, rfl⟩); omega) | (go_at_call 54; refine ((same_below (l8Starts_any s t k _ hp hs ht))).mono ?_; rintro e w1 ⟨rfl, hb1⟩; exact ⟨rfl, flN HC hC (by first | (simp; done) | (simp; omega) | omega) hb1⟩)); go_simp) | (apply flow_noC HC; (case hw => (go_simp; try (intro hh; cases hh))); go_simp))
   refine flow_nil ?_
   intro L wz hL hz
   have ⟨_, hbz, hcz⟩ := flO HC hz
   try simp only [List.forall_mem_cons] at hcz
   rw [HT1.out]
   go_wp2
   go_ret
   exact ⟨_, rfl, rfl, H.out.below (by exact bel), gr_below (gr_refl w g) (by exact bel)⟩
  ·have HT1 := Lib.hid (show t.data.toList.isPrefixOf (s.data.toList.drop k) = true from HT0.out.symm.trans hT)
   have hle := pTake_le hT (by rw [← size_list]; exact hp)
   rw [← size_list, ← size_list] at hle
   simp only at hle
   clear hT
   go_enter Tryz.func52, Tryz.ntmps52
   go_wp2
   refine wp_region_flowC w.heap.size [(⟨g, 0, none⟩, .string s), (⟨g, 1, none⟩, .int .i64 (k : Nat)), (⟨g, 2, none⟩, .bool false)] (by kernel_rfl) (by kernel_rfl) (by first | (intro _ hs; cases hs; done) | (simp only [List.forall_mem_cons]; go_simp)) fun C HC => ?_
   repeat (first | ((first | apply flow_free rfl | (apply flow_yes; (case hw => go_simp))); (intro L w' hun hrd hC; have ⟨hC, hb', hf'⟩ := flO HC hC; (try simp only [List.forall_mem_cons] at hf'); go_simp; first | exact ⟨flS HC hC, rfl⟩ | (rw [if_neg]; (exact ⟨flS HC hC, rfl⟩); omega) | (go_at_call 54; refine ((same_below (l8Starts_any s t k _ hp hs ht))).mono ?_; rintro e w1 ⟨rfl, hb1⟩; exact ⟨rfl, flN HC hC (by first | (simp; done) | (simp; omega) | omega) hb1⟩)); go_simp) | (apply flow_noC HC; (case hw => (go_simp; try (intro hh; cases hh))); go_simp))
   refine flow_nil ?_
   intro L wz hL hz
   have ⟨_, hbz, hcz⟩ := flO HC hz
   try simp only [List.forall_mem_cons] at hcz
   rw [HT1.out]
   have hPz := H.out.below hbz
   obtain ⟨z0, z1, z2, zf⟩ := hPz.cells
   simp only at z1 z2
   have hgz := bsz hPz.lt
   clear hPz
   go_wp2
   go_ret
   exact ⟨_, rfl, rfl, (H.out.below (by exact bel)).pos (k + t.size), gr_sc (gr_below (gr_refl w g) (by exact bel)) (.inl rfl) _⟩
 ·rw [show pTake s.data.toList t.data.toList ⟨k, true⟩ = false from rfl, if_neg Bool.false_ne_true]
  go_enter Tryz.func52, Tryz.ntmps52
  go_wp2
  refine wp_region_flowC w.heap.size [(⟨g, 0, none⟩, .string s), (⟨g, 1, none⟩, .int .i64 (k : Nat)), (⟨g, 2, none⟩, .bool true)] (by kernel_rfl) (by kernel_rfl) (by first | (intro _ hs; cases hs; done) | (simp only [List.forall_mem_cons]; go_simp)) fun C HC => ?_
  repeat (first | ((first | apply flow_free rfl | (apply flow_yes; (case hw => go_simp))); (intro L w' hun hrd hC; have ⟨hC, hb', hf'⟩ := flO HC hC; (try simp only [List.forall_mem_cons] at hf'); go_simp; first | exact ⟨flS HC hC, rfl⟩ | (rw [if_neg]; (exact ⟨flS HC hC, rfl⟩); omega) | fail); go_simp) | (apply flow_noC HC; (case hw => (go_simp; try (intro hh; cases hh))); go_simp))
  refine flow_nil ?_
  intro L wz hL hz
  have ⟨_, hbz, hcz⟩ := flO HC hz
  try simp only [List.forall_mem_cons] at hcz
  go_wp2
  go_ret
  exact ⟨_, rfl, rfl, H.out.below (by exact bel), gr_below (gr_refl w g) (by exact bel)⟩
set_option maxHeartbeats 1600000 in
theorem refWant_any (g : Nat) (s t : ByteArray) (p : PSt) (w : World) (h : PAt 51 w g s p) (hp : p.pos ≤ s.size) (hs : s.size ≤ 1000000000000) (ht : t.size ≤ 1000000) :
  Calls Tryz.prog 25 #[.pointer (some ⟨g, 0, none⟩), .string t] w (PStep 51 g s (pMust s.data.toList t.data.toList p) (fun v _ => v = .tuple #[]) w) := by
 have H := Lib.hid h
 have hg := bsz h.lt
 cases hT : pTake s.data.toList t.data.toList p
 ·have HT := Lib.hid hT
  have HM := Lib.hid (show pMust s.data.toList t.data.toList p = ⟨p.pos, true⟩ by rw [pMust, hT]; rfl)
  clear h
  go_enter Tryz.func25, Tryz.ntmps25
  go_wp2_with fail
  refine (refTake_any g s t p _ H.out hp hs ht).mono ?_
  rw [HT.out]
  rintro e w1 ⟨v, rfl, rfl, h1, hg1⟩
  have H1 := Lib.hid h1
  have ⟨c1, f1⟩ := gcell hg1
  have hz := hg1.size
  obtain ⟨d0, d1, d2, df⟩ := h1.cells
  clear h1
  go_wp2
  go_end0
  exact ⟨_, rfl, rfl, by rw [HM.out]; exact H1.out.fail, gr_sc hg1 (.inl rfl) _⟩
 ·have HT := Lib.hid hT
  have HM := Lib.hid (show pMust s.data.toList t.data.toList p = pAdv t.data.toList p by rw [pMust, hT]; rfl)
  clear h
  go_enter Tryz.func25, Tryz.ntmps25
  go_wp2_with fail
  refine (refTake_any g s t p _ H.out hp hs ht).mono ?_
  rw [HT.out]
  rintro e w1 ⟨v, rfl, rfl, h1, hg1⟩
  have H1 := Lib.hid h1
  clear h1
  go_wp2
  go_end0
  exact ⟨_, rfl, rfl, by rw [HM.out]; exact H1.out, hg1⟩
end Go.Proofs.YtabkdonplmlbcaaGreatDoor
