import Derived.Test.YtabkdonplmlbcaaGreatDoorStPart31
namespace Go.Proofs.YtabkdonplmlbcaaGreatDoor
set_option maxRecDepth 100000
open Go.RowKit
theorem notEarlier_any (n k : Int) (g : Nat) (w : World) (hk : 0 ≤ k ∧ k ≤ 59) (hg : w.cell? ⟨g, 0, none⟩ = some (.int .i64 k)) : Calls Tryz.prog 44 #[.int .i64 n, .pointer (some ⟨g, 0, none⟩)] w fun e w' => e = .returned (.bool (!inB n 0 (k - 1))) ∧ Below w.heap.size w w' := by
 have zg := bsz (World.block_lt_of_cell? _ _ hg)
 go_enter Tryz.func44, Tryz.ntmps44
 go_wp2_with (first | (go_at_call 40; refine (within_any _ _ _ _).mono ?_; rintro e w' ⟨rfl, rfl⟩))
 go_ret
 exact ⟨rfl, by exact bel⟩
theorem notIndex_any (n : Int) (w : World) : Calls Tryz.prog 45 #[.int .i64 n] w fun e w' => e = .returned (.bool (!in99 n)) ∧ Below w.heap.size w w' := by
 go_enter Tryz.func45, Tryz.ntmps45
 go_wp2_with (first | (go_at_call 40; refine (within_any _ _ _ _).mono ?_; rintro e w' ⟨rfl, rfl⟩))
 go_ret
 exact ⟨rfl, by exact bel⟩
set_option maxHeartbeats 1600000 in
theorem idxEar {B : Nat → Prop} (P : Int → Bool) (us : List Int) (g : Addr) (va : Value) (w : World) (HC : ∀ (a : Int) (w' : World), a ∈ us → i64B a → Below w.heap.size w w' → Calls Tryz.prog 44 #[.int .i64 a, .pointer (some g)] w' fun e w'' => e = .returned (.bool (P a)) ∧ Below w'.heap.size w' w'')
  (h : IntsAt B w va us) : Calls Tryz.prog 77 #[va, .func (.func 44) #[] #[.pointer (some g)]] w (FirstI (firstI P 0 us) w) := by
 obtain ⟨p, c, rfl, hlen⟩ := h.form
 unfold maxLen at hlen
 have H := Lib.hid h
 have HN1 := Lib.hid HC
 clear h HC
 go_enter Tryz.func77, Tryz.ntmps77
 go_wp2
 go_loopw [8] (fun i wr => ∃ k : Nat, k ≤ us.length ∧ i = .int .i64 k ∧ firstI P 0 us = firstI P k (us.drop k) ∧ Below w.heap.size w wr) (fun i _ => us.length - (intOf i).toNat)
 case atStart => exact ⟨0, Nat.zero_le _, rfl, rfl, by exact bel⟩
 case round =>
  obtain ⟨k, hk, rfl, he, hb⟩ := hrel
  have HE := Lib.hid he
  clear he
  by_cases hlt : k < us.length
  ·obtain ⟨b, o, rfl, hB, hx0, hxs⟩ := (H.out.below hb).at_ hlt
   have HD := Lib.hid (firstI_drop P hlt)
   have hm := List.getElem_mem hlt
   obtain ⟨a, ha⟩ : ∃ a, us[k] = a := ⟨_, rfl⟩
   rw [ha] at hx0 hxs HD hm
   clear ha
   have zb := bsz (World.block_lt_of_cell? _ _ hx0)
   cases hN : P a
   all_goals
    have HN := Lib.hid hN
    go_wp2_with fail
    refine (HN1.out a _ hm hxs (by exact bel)).mono ?_
    rintro e w1 ⟨rfl, hb1⟩
    have ⟨cw1, fw1⟩ := bcell hb1
    have qw1 := hb1.size
    (try simp at qw1)
    (try have zw1w := bsz (show w.heap.size < w1.heap.size by omega))
    rw [HN.out]
    go_wp2
   ·refine ⟨⟨k + 1, by omega, by go_num, ?_, by exact bel⟩, by simp [intOf]; omega⟩
    rw [HE.out, HD.out, HN.out]; rfl
   ·go_ret
    exact ⟨_, rfl, by rw [HE.out, HD.out, HN.out]; rfl, by exact bel⟩
  ·obtain rfl : k = us.length := by omega
   have he := HE.out
   rw [List.drop_length] at he
   have HE2 := Lib.hid he
   clear he
   go_wp2
   go_ret
   exact ⟨-1, rfl, by rw [HE2.out]; rfl, by exact bel⟩
theorem containsEar {B : Nat → Prop} (P : Int → Bool) (us : List Int) (g : Addr) (va : Value) (w : World) (HC : ∀ (a : Int) (w' : World), a ∈ us → i64B a → Below w.heap.size w w' → Calls Tryz.prog 44 #[.int .i64 a, .pointer (some g)] w' fun e w'' => e = .returned (.bool (P a)) ∧ Below w'.heap.size w' w'')
  (h : IntsAt B w va us) : Calls Tryz.prog 43 #[va, .func (.func 44) #[] #[.pointer (some g)]] w fun e w' => e = .returned (.bool (us.any P)) ∧ Below w.heap.size w w' := by
 have HX := Lib.hid (fun (w' : World) (hb : Below w.heap.size w w') => idxEar (B := B) P us g va w' (fun a w2 ha hi hb2 => HC a w2 ha hi (Below.step hb hb2)) (h.below hb))
 clear h HC
 go_enter Tryz.func43, Tryz.ntmps43
 go_wp2_with fail
 refine (HX.out _ (by exact bel)).mono ?_
 rintro e w1 ⟨r, rfl, hr, hb1⟩
 have HR := Lib.hid (show decide (0 ≤ r) = us.any P by rw [hr, atI_neg, firstI_any])
 clear hr
 go_wp2
 go_ret
 exact ⟨ret_bool HR.out, by exact bel⟩
set_option maxHeartbeats 1600000 in
theorem idxIx {B : Nat → Prop} (P : Int → Bool) (us : List Int) (va : Value) (w : World) (HC : ∀ (a : Int) (w' : World), a ∈ us → i64B a → Below w.heap.size w w' → Calls Tryz.prog 45 #[.int .i64 a] w' fun e w'' => e = .returned (.bool (P a)) ∧ Below w'.heap.size w' w'')
  (h : IntsAt B w va us) : Calls Tryz.prog 77 #[va, .func (.func 45) #[] #[]] w (FirstI (firstI P 0 us) w) := by
 obtain ⟨p, c, rfl, hlen⟩ := h.form
 unfold maxLen at hlen
 have H := Lib.hid h
 have HN1 := Lib.hid HC
 clear h HC
 go_enter Tryz.func77, Tryz.ntmps77
 go_wp2
 go_loopw [8] (fun i wr => ∃ k : Nat, k ≤ us.length ∧ i = .int .i64 k ∧ firstI P 0 us = firstI P k (us.drop k) ∧ Below w.heap.size w wr) (fun i _ => us.length - (intOf i).toNat)
 case atStart => exact ⟨0, Nat.zero_le _, rfl, rfl, by exact bel⟩
 case round =>
  obtain ⟨k, hk, rfl, he, hb⟩ := hrel
  have HE := Lib.hid he
  clear he
  by_cases hlt : k < us.length
  ·obtain ⟨b, o, rfl, hB, hx0, hxs⟩ := (H.out.below hb).at_ hlt
   have HD := Lib.hid (firstI_drop P hlt)
   have hm := List.getElem_mem hlt
   obtain ⟨a, ha⟩ : ∃ a, us[k] = a := ⟨_, rfl⟩
   rw [ha] at hx0 hxs HD hm
   clear ha
   have zb := bsz (World.block_lt_of_cell? _ _ hx0)
   cases hN : P a
   all_goals
    have HN := Lib.hid hN
    go_wp2_with fail
    refine (HN1.out a _ hm hxs (by exact bel)).mono ?_
    rintro e w1 ⟨rfl, hb1⟩
    have ⟨cw1, fw1⟩ := bcell hb1
    have qw1 := hb1.size
    (try simp at qw1)
    (try have zw1w := bsz (show w.heap.size < w1.heap.size by omega))
    rw [HN.out]
    go_wp2
   ·refine ⟨⟨k + 1, by omega, by go_num, ?_, by exact bel⟩, by simp [intOf]; omega⟩
    rw [HE.out, HD.out, HN.out]; rfl
   ·go_ret
    exact ⟨_, rfl, by rw [HE.out, HD.out, HN.out]; rfl, by exact bel⟩
  ·obtain rfl : k = us.length := by omega
   have he := HE.out
   rw [List.drop_length] at he
   have HE2 := Lib.hid he
   clear he
   go_wp2
   go_ret
   exact ⟨-1, rfl, by rw [HE2.out]; rfl, by exact bel⟩
theorem containsIx {B : Nat → Prop} (P : Int → Bool) (us : List Int) (va : Value) (w : World) (HC : ∀ (a : Int) (w' : World), a ∈ us → i64B a → Below w.heap.size w w' → Calls Tryz.prog 45 #[.int .i64 a] w' fun e w'' => e = .returned (.bool (P a)) ∧ Below w'.heap.size w' w'')
  (h : IntsAt B w va us) : Calls Tryz.prog 43 #[va, .func (.func 45) #[] #[]] w fun e w' => e = .returned (.bool (us.any P)) ∧ Below w.heap.size w w' := by
 have HX := Lib.hid (fun (w' : World) (hb : Below w.heap.size w w') => idxIx (B := B) P us va w' (fun a w2 ha hi hb2 => HC a w2 ha hi (Below.step hb hb2)) (h.below hb))
 clear h HC
 go_enter Tryz.func43, Tryz.ntmps43
 go_wp2_with fail
 refine (HX.out _ (by exact bel)).mono ?_
 rintro e w1 ⟨r, rfl, hr, hb1⟩
 have HR := Lib.hid (show decide (0 ≤ r) = us.any P by rw [hr, atI_neg, firstI_any])
 clear hr
 go_wp2
 go_ret
 exact ⟨ret_bool HR.out, by exact bel⟩
theorem all_bd {l : List Int} {a b : Int} (h : l.all (fun n => inB n a b) = true) : ∀ x ∈ l, a ≤ x ∧ x ≤ b := fun x hx => by
 have := List.all_eq_true.1 h x hx
 simpa [inB] using this
set_option maxHeartbeats 6400000 in
theorem implSTE_any {B : Nat → Prop} (m : Nat) (s : Stp) (p q r : Option Addr) (c d g : Nat) (k : Int) (w : World) (h : StpAt B m w s [.int .i64 s.rule, .slice p s.ps.length c, .slice q s.wh.length d, .slice r s.c.length g]) (hc : s.ps.length ≤ c) (hd : s.wh.length ≤ d) (hg : s.c.length ≤ g) (hz : s.wt ≤ 1048576) (hE : Env w) :
  Calls Tryz.prog 17 #[.agg #[.int .i64 s.rule, .slice p s.ps.length c, .slice q s.wh.length d, .slice r s.c.length g], .int .i64 k] w fun e w' => e = .returned (.tuple #[.string ⟨(s.engG k).toArray⟩, .bool (s.good k)]) ∧ Below w.heap.size w w' := by
 obtain ⟨_, _, _, _, _, _, -, -, -, -, hr, l1, l2, l3, ha, hb, hcl⟩ := h.form
 unfold maxLen at l1 l2 l3
 have H := Lib.hid h
 have HA := Lib.hid ha
 have HB := Lib.hid hb
 have HC := Lib.hid hcl
 have HE := Lib.hid hE
 have HCP := Lib.hid (And.intro hc (And.intro hd hg))
 have HG := Lib.hid (show s.good k = (inB k 0 59 && (s.nums && s.ps.all (fun n => inB n 0 (k - 1)) && s.wh.all in99) && Cls.good s.c) from rfl)
 have HEG := Lib.hid (show s.engG k = if s.good k then s.eng k else [] from rfl)
 have hzw : Cls.wts s.c ≤ 1048576 := by unfold Stp.wt at hz; omega
 have HZ := Lib.hid (show ∀ l ∈ s.c, l.a.sz ≤ 100000000 from fun l hl => by have h1 := Cls.wts_le s.c l hl; have h2 := l.a.sz_wt; omega)
 clear h ha hb hcl hE hc hd hg hr
 go_enter Tryz.func17, Tryz.ntmps17
 go_wp2_with fail
 obtain ⟨W, hW⟩ : ∃ W : World, W = (w.alloc (.cells #[.int .i64 s.rule, .slice p s.ps.length c, .slice q s.wh.length d, .slice r s.c.length g] 27)).alloc (.cells #[.int .i64 k] 3) := ⟨_, rfl⟩
 have k0 : W.cell? ⟨w.heap.size, 0, none⟩ = some (.int .i64 s.rule) := by rw [hW]; go_simp
 have k1 : W.cell? ⟨w.heap.size, 1, none⟩ = some (.slice p s.ps.length c) := by rw [hW]; go_simp
 have k2 : W.cell? ⟨w.heap.size, 2, none⟩ = some (.slice q s.wh.length d) := by rw [hW]; go_simp
 have k3 : W.cell? ⟨w.heap.size, 3, none⟩ = some (.slice r s.c.length g) := by rw [hW]; go_simp
 have kk : W.cell? ⟨w.heap.size + 1, 0, none⟩ = some (.int .i64 k) := by rw [hW]; go_simp
 have hbW : Below w.heap.size w W := by rw [hW]; exact bel
 rw [← hW]
 clear hW
 have zW := bsz (World.block_lt_of_cell? _ _ k0)
 have zK := bsz (World.block_lt_of_cell? _ _ kk)
 refine (within_any k 0 59 _).mono ?_
 rintro e w1 ⟨rfl, rfl⟩
 cases hi : inB k 0 59
 ·have HI := Lib.hid (show s.good k = false by rw [HG.out, hi]; rfl)
  clear hi
  go_wp2
  go_ret2
  exact ⟨by rw [HEG.out, HI.out]; rfl, by exact bel⟩
 have hkb : 0 ≤ k ∧ k ≤ 59 := by simpa [inB] using hi
 have HI := Lib.hid hi
 clear hi
 go_wp2_with fail
 refine (hasNumbers_any m s p q c d _ W (H.out.below hbW) HCP.out.2.1).mono ?_
 rintro e w2 ⟨rfl, hb2⟩
 have j1 := cellC' hb2 k1
 have j2 := cellC' hb2 k2
 have j3 := cellC' hb2 k3
 have jk := cellC' hb2 kk
 have z2 := bsz (World.block_lt_of_cell? _ _ j1)
 cases hn : s.nums
 ·have HI := Lib.hid (show s.good k = false by rw [HG.out, hn]; simp)
  clear hn
  go_wp2
  go_ret2
  exact ⟨by rw [HEG.out, HI.out]; rfl, by exact bel⟩
 have HN := Lib.hid hn
 clear hn
 go_wp2_with fail
 refine (isValidClause_any m s.c _ w2 (ClsAt.below (by exact bel) HC.out) HZ.out).mono ?_
 rintro e w3 ⟨rfl, hb3⟩
 have i0 := cellC' (Below.step hb2 hb3) k0
 have i1 := cellC' hb3 j1
 have i2 := cellC' hb3 j2
 have i3 := cellC' hb3 j3
 have ik := cellC' hb3 jk
 have z3 := bsz (World.block_lt_of_cell? _ _ i1)
 have z3k := bsz (World.block_lt_of_cell? _ _ ik)
 cases hv : Cls.good s.c
 ·have HI := Lib.hid (show s.good k = false by rw [HG.out, hv]; simp)
  clear hv
  go_wp2
  go_ret2
  exact ⟨by rw [HEG.out, HI.out]; rfl, by exact bel⟩
 have HV := Lib.hid hv
 clear hv k0 k1 k2 k3 kk j1 j2 j3 jk
 go_wp2_with fail
 refine (containsEar (fun n => !inB n 0 (k - 1)) s.ps ⟨w.heap.size + 1, 0, none⟩ _ w3 (fun a w' _ _ hb' => notEarlier_any a k _ w' hkb (cellC' hb' ik)) (HA.out.below (by exact bel))).mono ?_
 rintro e w4 ⟨rfl, hb4⟩
 rw [any_not_allI]
 have j0 := cellC' hb4 i0
 have j1 := cellC' hb4 i1
 have j2 := cellC' hb4 i2
 have j3 := cellC' hb4 i3
 have jk := cellC' hb4 ik
 have z4 := bsz (World.block_lt_of_cell? _ _ j1)
 cases hpa : s.ps.all (fun n => inB n 0 (k - 1))
 ·have HI := Lib.hid (show s.good k = false by rw [HG.out, hpa]; simp)
  clear hpa
  go_wp2
  go_ret2
  exact ⟨by rw [HEG.out, HI.out]; rfl, by exact bel⟩
 have HPA := Lib.hid hpa
 clear hpa
 go_wp2_with fail
 refine (containsIx (fun n => !in99 n) s.wh _ w4 (fun a w' _ _ _ => notIndex_any a w') (HB.out.below (by exact bel))).mono ?_
 rintro e w5 ⟨rfl, hb5⟩
 rw [any_not_allI]
 have i0 := cellC' hb5 j0
 have i1 := cellC' hb5 j1
 have i2 := cellC' hb5 j2
 have i3 := cellC' hb5 j3
 have ik := cellC' hb5 jk
 have z5 := bsz (World.block_lt_of_cell? _ _ i1)
 have z5k := bsz (World.block_lt_of_cell? _ _ ik)
 clear j0 j1 j2 j3 jk
 cases hwa : s.wh.all in99
 ·have HI := Lib.hid (show s.good k = false by rw [HG.out, hwa]; simp)
  clear hwa
  go_wp2
  go_ret2
  exact ⟨by rw [HEG.out, HI.out]; rfl, by exact bel⟩
 have HI := Lib.hid (show s.good k = true by rw [HG.out, HI.out, HN.out, HPA.out, hwa, HV.out]; rfl)
 have HPB := Lib.hid (fun x (hx : x ∈ s.ps) => (show 0 ≤ x ∧ x ≤ 99 from by have := all_bd HPA.out x hx; omega))
 have HWB := Lib.hid (fun x (hx : x ∈ s.wh) => (show 0 ≤ x ∧ x ≤ 99 from all_bd (show s.wh.all (fun n => inB n 0 99) = true from hwa) x hx))
 have HCA := Lib.hid (good_atoms HV.out)
 have HCAP := Lib.hid (show ∀ (p' : Option Addr) (d' : Nat), Value.slice r s.c.length g = .slice p' s.c.length d' → s.c.length ≤ d' from fun p' d' he => by injection he with e1 e2 e3; rw [← e3]; exact HCP.out.2.2)
 have hb05 : Below w.heap.size w w5 := by exact bel
 have HCE := Lib.hid (fun (w' : World) (hw' : Below w.heap.size w w') => clauseEnglish_any m s.c (.slice r s.c.length g) w' (ClsAt.below hw' HC.out) HCAP.out HCA.out.1 HCA.out.2 hzw)
 have lo := Stp.org_len HN.out HPB.out HWB.out
 have lk := cnt_len hkb.1 (show k ≤ 99 by omega)
 have le := Cls.eng_len HCA.out.1 HCA.out.2 hzw
 clear hwa
 go_wp2
 refine wp_region_flowC w5.heap.size [(⟨w.heap.size, 0, none⟩, .int .i64 s.rule), (⟨w.heap.size, 1, none⟩, .slice p s.ps.length c), (⟨w.heap.size, 2, none⟩, .slice q s.wh.length d), (⟨w.heap.size, 3, none⟩, .slice r s.c.length g), (⟨w.heap.size + 1, 0, none⟩, .int .i64 k)] (by kernel_rfl) (by kernel_rfl) (by first | (intro _ hs; cases hs; done) | (simp only [List.forall_mem_cons]; go_simp)) fun C HC => ?_
 repeat (first | ((first | apply flow_free rfl | (apply flow_yes; (case hw => go_simp))); (intro L w' hun hrd hC; have ⟨hC, hb', hf'⟩ := flO HC hC; (try have hw' : Below w.heap.size w w' := by first | exact belT (hb := hb') | exact bel); (try simp only [List.forall_mem_cons] at hf'); go_simp; first | exact ⟨flS HC hC, rfl⟩ | (rw [if_neg]; (exact ⟨flS HC hC, rfl⟩); omega) | (go_at_call 46; refine (count_any k _ hkb.1 (by omega) (HE.out.below hw')).mono ?_; rintro e w1 ⟨rfl, hb1⟩; exact ⟨rfl, flN HC hC (by first | (simp; done) | (simp; omega) | omega) hb1⟩) | (go_at_call 47; refine (origin_any m s p q c d _ _ (H.out.below hw') HN.out HPB.out HWB.out HCP.out.1 HCP.out.2.1 (HE.out.below hw')).mono ?_; rintro e w1 ⟨rfl, hb1⟩; exact ⟨rfl, flN HC hC (by first | (simp; done) | (simp; omega) | omega) hb1⟩) | (go_at_call 38; refine (HCE.out _ hw').mono ?_; rintro e w1 ⟨rfl, hb1⟩; exact ⟨rfl, flN HC hC (by first | (simp; done) | (simp; omega) | omega) hb1⟩)); go_simp) | (apply flow_noC HC; (case hw => (go_simp; try (intro hh; cases hh))); go_simp))
 refine flow_nil ?_
 intro L wz hL hz
 have ⟨_, hbz, hcz⟩ := flO HC hz
 try simp only [List.forall_mem_cons] at hcz
 go_wp2
 go_ret2
 exact ⟨by rw [HEG.out, HI.out, if_pos rfl]; exact congrArg (fun s => Ending.returned (.tuple #[.string s, .bool true])) (by apply ByteArray.ext; simp [Stp.eng, sComma]), by exact bel⟩
def MarkTRel (S : Nat → Prop) (m : Nat) (us : List Tm) (v : Value) (k0 : Nat) (w : World) (kv i : Value) (wr : World) : Prop :=
 ∃ (j q : Nat) (done : List Tm), i = .int .i64 (j : Nat) ∧ kv = .int .i64 (q : Nat) ∧ done.length = j ∧ j ≤ us.length ∧ Tm.Mkds done k0 q ∧ q + Tm.cts (us.drop j) ≤ k0 + Tm.cts us ∧ OwnRow S wr 64 2 (fun S x c => TmOwn 64 m S wr x c) v (done ++ us.drop j) ∧ Kept S w wr
def MarkTC (m : Nat) : Prop := ∀ (S : Nat → Prop) (us : List Tm) (v : Value) (k : Nat) (w : World), OwnRow S w 64 2 (fun S x c => TmOwn 64 m S w x c) v us → 0 < k → k + Tm.cts us ≤ 1000000 →
 Calls Tryz.prog 84 #[v, .int .i64 (k : Nat)] w fun e w' => ∃ (L : List Tm) (k' : Nat), e = .returned (.int .i64 (k' : Nat)) ∧ Tm.Mkds L k k' ∧ L.length = us.length ∧ k' ≤ k + Tm.cts us ∧ OwnRow S w' 64 2 (fun S x c => TmOwn 64 m S w' x c) v L ∧ Kept S w w'
set_option maxHeartbeats 1600000 in
theorem markTermS_any : ∀ m : Nat, MarkTC m := by
 intro m
 induction m with
 | zero =>
  intro S us v k w h hk hb
  have hu : us = [] := by
   cases us with
   | nil => rfl
   | cons a us =>
    obtain ⟨g, cap, cs, Si, cur, hv, hSg, hh, hcl, hsz, hcs, hR, -⟩ := OwnRow.elem h (i := 0) rfl
    exact hR.elim
  subst hu
  obtain ⟨p, c, rfl, -⟩ := h.form
  have H := Lib.hid h
  clear h
  go_enter Tryz.func84, Tryz.ntmps84
  go_wp2
  go_loopw [1, 5] (fun kv i wr => kv = .int .i64 (k : Nat) ∧ i = .int .i64 0 ∧ wr = w) (fun _ _ _ => 0)
  case atStart => exact ⟨rfl, rfl, rfl⟩
  case round =>
   obtain ⟨rfl, rfl, rfl⟩ := hrel
   go_wp2
   go_ret
   exact ⟨[], k, rfl, rfl, rfl, by omega, H.out, Kept.refl _ _⟩
 | succ m ih =>
  intro S us v k w h hk hb
  obtain ⟨p, c, rfl, hlen⟩ := h.form
  unfold maxLen at hlen
  have H := Lib.hid h
  have IH := Lib.hid ih
  clear h ih
  go_enter Tryz.func84, Tryz.ntmps84
  go_wp2
  go_loopw [1, 5] (MarkTRel S (m + 1) us (.slice p us.length c) k w) (fun _ i _ => us.length - (intOf i).toNat)
  case atStart => exact ⟨0, k, [], rfl, rfl, rfl, Nat.zero_le _, rfl, Nat.le_refl _, H.out, Kept.refl _ _⟩
  case round =>
   obtain ⟨j, q, done, rfl, rfl, hdl, hju, hmk, hct, hrow, hkp⟩ := hrel
   have hqk := Tm.Mkds.le _ _ _ hmk
   have HMK := Lib.hid hmk
   have HKP := Lib.hid hkp
   clear hmk hkp
   by_cases hlt : j < us.length
   ·have hcd := Tm.cts_drop hlt
    have hx : (done ++ us.drop j)[j]? = some us[j] := by rw [List.getElem?_append_right (by omega), hdl, Nat.sub_self, List.getElem?_drop, Nat.add_zero, List.getElem?_eq_getElem hlt]
    have HRW := Lib.hid hrow
    obtain ⟨g, cap, cs, Si, cur, hv, hSg, hh, hcl, hsz, hcs, hR, hSi, hclose⟩ := OwnRow.elem hrow hx
    have HCL := Lib.hid hclose
    clear hrow hclose hx
    have hset : ∀ y, (done ++ us.drop j).set j y = (done ++ [y]) ++ us.drop (j + 1) := fun y => by
     rw [List.set_append_right _ _ (by omega), hdl, Nat.sub_self, List.append_assoc, List.singleton_append]
     have e := List.drop_eq_getElem_cons hlt
     rw [e]; rfl
    have HSET := Lib.hid hset
    clear hset
    generalize us[j] = a at *
    obtain ⟨n, vs⟩ := a
    obtain ⟨va, rfl, hn, hsub⟩ := hR
    simp only [Value.slice.injEq] at hv
    obtain ⟨rfl, -, rfl⟩ := hv
    have HSUB := Lib.hid hsub
    have HHH := Lib.hid hh
    rw [Tm.ct] at hcd
    have c0 : wr.cell? ⟨g, j * 2, none⟩ = some (.string n) := (cell_of_row wr g _ cur _ (0, 0) hh).trans (hcs 0 (by omega))
    have c1 : wr.cell? ⟨g, j * 2 + 1, none⟩ = some va := (cell_of_row wr g _ cur _ (0, 0) hh).trans (hcs 1 (by omega))
    have cf : ∀ i, wr.frozen? ⟨g, i, none⟩ = false := fun i => frozen_of_row wr g i _ _ hh
    have hgl := bsz (blk_lt hh)
    clear hsub hh
    go_wp2_with fail
    refine (markText_any q _ (by omega) (by omega)).mono ?_
    rintro e w1 ⟨rfl, hb1⟩
    have ⟨cb, fb⟩ := bcell hb1
    have hq1 := hb1.size
    have hg1 := bsz (show g < w1.heap.size by omega)
    go_wp2_with fail
    rw [show ((q : Int) + 1) = ((q + 1 : Nat) : Int) by omega]
    have hW2 : SameOn (fun b => b ≠ g) wr (w1.setCell ⟨g, j * 2, none⟩ (.string (markB q))) := fun b hb hlt => (heap_setCell_other w1 ⟨g, j * 2, none⟩ b _ (fun e => hb e)).trans (hb1.block b hlt)
    have HW2 := Lib.hid hW2
    have HSUB2 := HSUB.out.mono (S' := Si) (w' := w1.setCell ⟨g, j * 2, none⟩ (.string (markB q))) (R' := fun S x c => TmOwn 64 m S (w1.setCell ⟨g, j * 2, none⟩ (.string (markB q))) x c) (fun b hb hlt => hW2 b (hSi b hb).2 hlt) (fun _ h => h)
     (fun T x c _ hT hx => TmOwn.mono m m x c (Nat.le_refl _) (fun b hb hlt => hW2 b (hSi b (hT b hb)).2 hlt) (fun _ h => h) hx)
    refine (IH.out Si vs va (q + 1) _ HSUB2 (by omega) (by omega)).mono ?_
    rintro e w3 ⟨L, k', rfl, hmk3, hll, hk3, hrow3, hkp3⟩
    have HR3 := Lib.hid (And.intro hmk3 (And.intro hrow3 hkp3))
    clear hmk3 hrow3 hkp3 HSUB2 hW2
    go_wp2
    obtain ⟨hmk3, hrow3, hkp3⟩ := HR3.out
    refine ⟨⟨j + 1, k', done ++ [.mk (markB q) L], by go_num, rfl, by simp; omega, by omega, Tm.Mkds.snoc _ _ _ _ _ HMK.out (Tm.Mkd.of rfl hmk3), by omega, ?_, ?_⟩, by simp [intOf]; omega⟩
    ·rw [← HSET.out]
     have hpt : Patch cur (cur.setIfInBounds (j * 2 + 0) (.string (markB q))) (j * 2) [.string (markB q), va] := Patch.set (cs := [.string n, va]) (Patch.refl hcs) (j := 0) (by simp) hsz _
     refine HCL.out w3 (.mk (markB q) L) [.string (markB q), va] (cur.setIfInBounds (j * 2 + 0) (.string (markB q))) _ rfl ?_ hpt ⟨va, rfl, markB_size q (by omega), hrow3⟩ (fun T y c hT hy => TmOwn.mono _ _ y c (Nat.le_refl _) (fun b hb hlt => ?_) (fun _ h => h) hy)
     ·refine (hkp3.block g (by simp; omega) (fun e => (hSi g e).2 rfl)).trans ?_
      exact heap_setCell_same w1 g (j * 2) cur _ _ ((hb1.block g (by omega)).trans HHH.out)
     ·exact (hkp3.block b (by simp; omega) (hT b hb).2.2).trans (HW2.out b (hT b hb).2.1 hlt)
    ·exact HKP.out.trans ((((Kept.refl S wr).below hb1).set hSg _ _).trans (hkp3.mono (fun b hb => (hSi b hb).1)))
   ·obtain rfl : j = us.length := by omega
    rw [List.drop_length, List.append_nil] at hrow
    have HRW := Lib.hid hrow
    clear hrow
    go_wp2
    go_ret
    exact ⟨done, q, rfl, HMK.out, hdl, by simpa [Tm.cts] using hct, HRW.out, HKP.out⟩
theorem TmAt.sub {B : Nat → Prop} {w : World} {n : Nat} {t : Tm} {v0 v1 : Value} (h : TmAt B (n + 1) w t [v0, v1]) : ListAt B w 2 (TmAt B n w) v1 t.us := by
 obtain ⟨s, us⟩ := t
 obtain ⟨va, h1, h2, h3⟩ := h
 simp only [List.cons.injEq, and_true] at h1
 obtain ⟨-, rfl⟩ := h1
 exact h3
theorem Tm.Mkd.at_ {a : Tm} {k k' : Nat} (h : a.Mkd k k') : a.n = markB k ∧ Tm.Mkds a.us (k + 1) k' := by obtain ⟨n, vs⟩ := a; rw [Tm.Mkd] at h; exact h
def HeldTC (B : Nat → Prop) (m : Nat) : Prop := ∀ (us : List Tm) (v : Value) (k k' : Nat) (w : World), ListAt B w 2 (TmAt B m w) v us → Tm.Mkds us k k' → 0 < k → k' ≤ 1000000 →
 Calls Tryz.prog 85 #[v, .int .i64 (k : Nat)] w fun e w' => e = .returned (.int .i64 (k' : Nat)) ∧ Below w.heap.size w w'
def HeldTRel (us : List Tm) (k' : Nat) (w : World) (kv i : Value) (wr : World) : Prop :=
 ∃ j q : Nat, i = .int .i64 (j : Nat) ∧ kv = .int .i64 (q : Nat) ∧ j ≤ us.length ∧ Tm.Mkds (us.drop j) q k' ∧ 0 < q ∧ Below w.heap.size w wr
set_option maxHeartbeats 1600000 in
theorem heldTermS_any {B : Nat → Prop} : ∀ m : Nat, HeldTC B m := by
 intro m
 induction m with
 | zero =>
  intro us v k k' w h hmk hk hb
  have hu : us = [] := by
   cases us with
   | nil => rfl
   | cons a us =>
    obtain ⟨p, c, rfl, -⟩ := h.form
    obtain ⟨b, o, -, -, x0, x1, -, -, hx⟩ := h.at2 (i := 0) (by simp)
    exact hx.elim
  subst hu
  obtain ⟨p, c, rfl, -⟩ := h.form
  have hkk : k = k' := hmk
  subst hkk
  clear h hmk
  go_enter Tryz.func85, Tryz.ntmps85
  go_wp2
  go_loopw [1, 5] (fun kv i wr => kv = .int .i64 (k : Nat) ∧ i = .int .i64 0 ∧ wr = w) (fun _ _ _ => 0)
  case atStart => exact ⟨rfl, rfl, rfl⟩
  case round =>
   obtain ⟨rfl, rfl, rfl⟩ := hrel
   go_wp2
   go_ret
   exact ⟨rfl, Below.refl _ _⟩
 | succ m ih =>
  intro us v k k' w h hmk hk hb0
  obtain ⟨p, c, rfl, hlen⟩ := h.form
  unfold maxLen at hlen
  have HL := Lib.hid h
  have HMK := Lib.hid hmk
  have IH := Lib.hid ih
  clear h ih hmk
  go_enter Tryz.func85, Tryz.ntmps85
  go_wp2
  go_loopw [1, 5] (HeldTRel us k' w) (fun _ i _ => us.length - (intOf i).toNat)
  case atStart => exact ⟨0, k, rfl, rfl, Nat.zero_le _, HMK.out, hk, by exact bel⟩
  case round =>
   obtain ⟨j, q, rfl, rfl, hju, hmk, hq, hb⟩ := hrel
   have hqk := Tm.Mkds.le _ _ _ hmk
   by_cases hlt : j < us.length
   ·obtain ⟨j', hm1, hm2⟩ := Tm.Mkds.drop hmk hlt
    have hle1 := Tm.Mkd.le _ _ _ hm1
    have hle2 := Tm.Mkds.le _ _ _ hm2
    have HM2 := Lib.hid hm2
    clear hmk hm2
    obtain ⟨b, o, rfl, hB, x0, x1, hx0, hx1, hx⟩ := (HL.out.mono (SameOn.below hb) (fun _ h => h) (fun x cs _ hx => TmAt.below hb hx)).at2 hlt
    have hM := hm1
    obtain ⟨a, ha⟩ : ∃ a, us[j] = a := ⟨_, rfl⟩
    rw [ha] at hx
    rw [ha] at hM
    have HX := Lib.hid hx
    have HM := Lib.hid hM
    clear hx ha hM
    have zb := bsz (World.block_lt_of_cell? _ _ hx0)
    obtain ⟨pa, ca, rfl, rfl, -⟩ := HX.out.form
    have ha := HM.out.at_
    have HA2 := Lib.hid ha.2
    have hn : a.n = markB q := ha.1
    clear ha
    go_wp2
    refine wp_region_flowC wr.heap.size [(⟨b, o + j * 2, none⟩, .string a.n), (⟨b, o + j * 2 + 1, none⟩, .slice pa a.us.length ca)] (by kernel_rfl) (by kernel_rfl) (by first | (intro _ hs; cases hs; done) | (simp only [List.forall_mem_cons]; go_simp)) fun C HC => ?_
    repeat (first | ((first | apply flow_free rfl | (apply flow_yes; (case hw => go_simp))); (intro L w' hun hrd hC; have ⟨hC, hb', hf'⟩ := flO HC hC; (try simp only [List.forall_mem_cons] at hf'); go_simp; first | exact ⟨flS HC hC, rfl⟩ | (rw [if_neg]; (exact ⟨flS HC hC, rfl⟩); omega) | (go_at_call 83; refine (markText_any q _ (by omega) (by omega)).mono ?_; rintro e w1 ⟨rfl, hb1⟩; exact ⟨rfl, flN HC hC (by first | (simp; done) | (simp; omega) | omega) hb1⟩)); go_simp) | (apply flow_noC HC; (case hw => (go_simp; try (intro hh; cases hh))); go_simp))
    refine flow_nil ?_
    intro L wz hL hz
    have ⟨_, hbz, hcz⟩ := flO HC hz
    try simp only [List.forall_mem_cons] at hcz
    have hz1 := bsz (show b < wz.heap.size by have := hbz.size; omega)
    go_wp2_with fail
    rw [show ((q : Int) + 1) = ((q + 1 : Nat) : Int) by omega]
    refine (IH.out a.us _ (q + 1) j' _ (TmAt.sub (TmAt.below (by exact bel) HX.out)) HA2.out (by omega) (by omega)).mono ?_
    rintro e w2 ⟨rfl, hb2⟩
    have hj0 : ¬ (j' : Int) < 0 := by omega
    go_wp2
    exact ⟨⟨j + 1, j', by go_num, rfl, by omega, HM2.out, by omega, by exact bel⟩, by simp [intOf]; omega⟩
   ·obtain rfl : j = us.length := by omega
    rw [List.drop_length] at hmk
    have hkk : q = k' := hmk
    subst hkk
    clear hmk
    go_wp2
    go_ret
    exact ⟨rfl, by exact bel⟩
def MarkLRel (S : Nat → Prop) (m : Nat) (us : List Lit3) (v : Value) (k0 : Nat) (w : World) (kv i : Value) (wr : World) : Prop :=
 ∃ (j q : Nat) (done : List Lit3), i = .int .i64 (j : Nat) ∧ kv = .int .i64 (q : Nat) ∧ done.length = j ∧ j ≤ us.length ∧ Cls.Mkds done k0 q ∧ q + Cls.cts (us.drop j) ≤ k0 + Cls.cts us ∧ ClsOwn 64 81 m S wr (done ++ us.drop j) v ∧ Kept S w wr
set_option maxHeartbeats 1600000 in
theorem markLiteralS_any (m : Nat) (S : Nat → Prop) (us : List Lit3) (v : Value) (k : Nat) (w : World) (h : ClsOwn 64 81 (m + 1) S w us v) (hk : 0 < k) (hb : k + Cls.cts us ≤ 1000000) :
 Calls Tryz.prog 49 #[v, .int .i64 (k : Nat)] w fun e w' => ∃ (L : List Lit3) (k' : Nat), e = .returned (.int .i64 (k' : Nat)) ∧ Cls.Mkds L k k' ∧ L.length = us.length ∧ k' ≤ k + Cls.cts us ∧ ClsOwn 64 81 (m + 1) S w' L v ∧ Kept S w w' := by
 obtain ⟨p, c, rfl, hlen⟩ := OwnRow.form h
 unfold maxLen at hlen
 have H := Lib.hid h
 clear h
 go_enter Tryz.func49, Tryz.ntmps49
 go_wp2
 go_loopw [1, 5] (MarkLRel S (m + 1) us (.slice p us.length c) k w) (fun _ i _ => us.length - (intOf i).toNat)
 case atStart => exact ⟨0, k, [], rfl, rfl, rfl, Nat.zero_le _, rfl, Nat.le_refl _, H.out, Kept.refl _ _⟩
 case round =>
  obtain ⟨j, q, done, rfl, rfl, hdl, hju, hmk, hct, hrow, hkp⟩ := hrel
  have hqk := Cls.Mkds.le _ _ _ hmk
  have HMK := Lib.hid hmk
  have HKP := Lib.hid hkp
  clear hmk hkp
  by_cases hlt : j < us.length
  ·have hcd := Cls.cts_drop hlt
   have hx : (done ++ us.drop j)[j]? = some us[j] := by rw [List.getElem?_append_right (by omega), hdl, Nat.sub_self, List.getElem?_drop, Nat.add_zero, List.getElem?_eq_getElem hlt]
   have HRW := Lib.hid hrow
   obtain ⟨g, cap, cs, Si, cur, hv, hSg, hh, hcl, hsz, hcs, hR, hSi, hclose⟩ := OwnRow.elem hrow hx
   have HCL := Lib.hid hclose
   clear hrow hclose hx
   have hset : ∀ y, (done ++ us.drop j).set j y = (done ++ [y]) ++ us.drop (j + 1) := fun y => by
    rw [List.set_append_right _ _ (by omega), hdl, Nat.sub_self, List.append_assoc, List.singleton_append]
    have e := List.drop_eq_getElem_cons hlt
    rw [e]; rfl
   have HSET := Lib.hid hset
   clear hset
   generalize us[j] = a at *
   obtain ⟨pos, n, vs⟩ := a
   obtain ⟨vn, va, rfl, ha⟩ := hR
   obtain ⟨va', hcs2, hn, hsub⟩ := ha
   simp only [List.cons.injEq, and_true] at hcs2
   obtain ⟨rfl, rfl⟩ := hcs2
   simp only [Value.slice.injEq] at hv
   obtain ⟨rfl, -, rfl⟩ := hv
   have HSUB := Lib.hid hsub
   have HHH := Lib.hid hh
   have hcd2 : Cls.cts (us.drop j) = 2 + Tm.cts vs + Cls.cts (us.drop (j + 1)) := hcd
   have c0 : wr.cell? ⟨g, j * 3, none⟩ = some (.bool pos) := (cell_of_row wr g _ cur _ (0, 0) hh).trans (hcs 0 (by omega))
   have c1 : wr.cell? ⟨g, j * 3 + 1, none⟩ = some (.string n) := (cell_of_row wr g _ cur _ (0, 0) hh).trans (hcs 1 (by omega))
   have c2 : wr.cell? ⟨g, j * 3 + 2, none⟩ = some va := (cell_of_row wr g _ cur _ (0, 0) hh).trans (hcs 2 (by omega))
   have cf : ∀ i, wr.frozen? ⟨g, i, none⟩ = false := fun i => frozen_of_row wr g i _ _ hh
   have hgl := bsz (blk_lt hh)
   clear hsub hh hcd
   go_wp2_with fail
   rw [show ((q : Int) + 1) = ((q + 1 : Nat) : Int) by omega]
   refine (markText_any (q + 1) _ (by omega) (by omega)).mono ?_
   rintro e w1 ⟨rfl, hb1⟩
   have ⟨cb, fb⟩ := bcell hb1
   have hq1 := hb1.size
   simp at hq1
   have hg1 := bsz (show g < w1.heap.size by omega)
   have hmp : ((q : Int) % 3 == 0) = markP q := rfl
   rw [hmp] at hb1 cb fb
   clear hmp
   go_wp2_with fail
   rw [show ((q : Int) + 1 + 1) = ((q + 2 : Nat) : Int) by omega]
   have hW2 : SameOn (fun b => b ≠ g) wr (w1.setCell ⟨g, j * 3 + 1, none⟩ (.string (markB (q + 1)))) := fun b hb hlt => (heap_setCell_other w1 ⟨g, j * 3 + 1, none⟩ b _ (fun e => hb e)).trans ((hb1.block b (by simpa using hlt)).trans (heap_setCell_other wr ⟨g, j * 3, none⟩ b _ (fun e => hb e)))
   have HW2 := Lib.hid hW2
   have HSUB2 := HSUB.out.mono (S' := Si) (w' := w1.setCell ⟨g, j * 3 + 1, none⟩ (.string (markB (q + 1)))) (R' := fun S x c => TmOwn 64 m S (w1.setCell ⟨g, j * 3 + 1, none⟩ (.string (markB (q + 1)))) x c) (fun b hb hlt => hW2 b (hSi b hb).2 hlt) (fun _ h => h)
    (fun T x c _ hT hx => TmOwn.mono m m x c (Nat.le_refl _) (fun b hb hlt => hW2 b (hSi b (hT b hb)).2 hlt) (fun _ h => h) hx)
   refine (markTermS_any m Si vs va (q + 2) _ HSUB2 (by omega) (by omega)).mono ?_
   rintro e w3 ⟨L, k', rfl, hmk3, hll, hk3, hrow3, hkp3⟩
   have HR3 := Lib.hid (And.intro hmk3 (And.intro hrow3 hkp3))
   clear hmk3 hrow3 hkp3 HSUB2 hW2
   go_wp2
   obtain ⟨hmk3, hrow3, hkp3⟩ := HR3.out
   refine ⟨⟨j + 1, k', done ++ [⟨markP q, .mk (markB (q + 1)) L⟩], by go_num, rfl, by simp; omega, by omega, Cls.Mkds.snoc _ _ _ _ _ HMK.out (show Lit3.Mkd ⟨markP q, .mk (markB (q + 1)) L⟩ q k' from ⟨rfl, rfl, hmk3⟩), by omega, ?_, ?_⟩, by simp [intOf]; omega⟩
   ·rw [← HSET.out]
    have hpt : Patch cur ((cur.setIfInBounds (j * 3 + 0) (.bool (markP q))).setIfInBounds (j * 3 + 1) (.string (markB (q + 1)))) (j * 3) [.bool (markP q), .string (markB (q + 1)), va] := Patch.set (cs := [.bool (markP q), .string n, va]) (Patch.set (cs := [.bool pos, .string n, va]) (Patch.refl hcs) (j := 0) (by simp) hsz _) (j := 1) (by simp) hsz _
    refine HCL.out w3 ⟨markP q, .mk (markB (q + 1)) L⟩ [.bool (markP q), .string (markB (q + 1)), va] ((cur.setIfInBounds (j * 3 + 0) (.bool (markP q))).setIfInBounds (j * 3 + 1) (.string (markB (q + 1)))) _ rfl ?_ hpt ⟨_, _, rfl, va, rfl, markB_size (q + 1) (by omega), hrow3⟩ (fun T y c hT hy => LitOwn.mono (Nat.le_refl _) (fun b hb hlt => ?_) (fun _ h => h) hy)
    ·refine (hkp3.block g (by simp; omega) (fun e => (hSi g e).2 rfl)).trans ?_
     have h1 := heap_setCell_same wr g (j * 3) cur _ (.bool (markP q)) HHH.out
     exact heap_setCell_same w1 g (j * 3 + 1) _ _ _ ((hb1.block g (by simp; omega)).trans h1)
    ·exact (hkp3.block b (by simp; omega) (hT b hb).2.2).trans (HW2.out b (hT b hb).2.1 hlt)
   ·exact HKP.out.trans ((((Kept.refl S wr).set hSg _ _).below hb1 |>.set hSg _ _).trans (hkp3.mono (fun b hb => (hSi b hb).1)))
  ·obtain rfl : j = us.length := by omega
   rw [List.drop_length, List.append_nil] at hrow
   have HRW := Lib.hid hrow
   clear hrow
   go_wp2
   go_ret
   exact ⟨done, q, rfl, HMK.out, hdl, by simpa [Cls.cts] using hct, HRW.out, HKP.out⟩
set_option maxHeartbeats 1600000 in
theorem markClause_any (m : Nat) (S : Nat → Prop) (us : List Lit3) (v : Value) (k : Nat) (w : World) (h : ClsOwn 64 81 (m + 1) S w us v) (hk : 0 < k) (hb : k + Cls.cts us ≤ 1000000) :
 Calls Tryz.prog 21 #[.agg #[v], .int .i64 (k : Nat)] w fun e w' => ∃ (L : List Lit3) (k' : Nat), e = .returned (.int .i64 (k' : Nat)) ∧ Cls.Mkds L k k' ∧ L.length = us.length ∧ k' ≤ k + Cls.cts us ∧ ClsOwn 64 81 (m + 1) S w' L v ∧ Kept S w w' := by
 obtain ⟨p, c, rfl, hlen⟩ := OwnRow.form h
 have H := Lib.hid h
 clear h
 go_enter Tryz.func21, Tryz.ntmps21
 go_wp2_with fail
 refine (markLiteralS_any m S us _ k _ (H.out.later (by exact bel)) hk hb).mono ?_
 rintro e w1 ⟨L, k', rfl, h1, h2, h3, h4, h5⟩
 have H1 := Lib.hid (And.intro h1 (And.intro h4 h5))
 clear h1 h4 h5
 go_wp2
 go_ret
 exact ⟨L, k', rfl, H1.out.1, h2, h3, H1.out.2.1, ((Kept.refl S w).below (by exact bel)).trans H1.out.2.2⟩
def HeldLRel (us : List Lit3) (k' : Nat) (w : World) (kv i : Value) (wr : World) : Prop :=
 ∃ j q : Nat, i = .int .i64 (j : Nat) ∧ kv = .int .i64 (q : Nat) ∧ j ≤ us.length ∧ Cls.Mkds (us.drop j) q k' ∧ 0 < q ∧ Below w.heap.size w wr
set_option maxHeartbeats 1600000 in
theorem heldLiteralS_any {B : Nat → Prop} (m : Nat) (us : List Lit3) (v : Value) (k k' : Nat) (w : World) (h : ListAt B w 3 (LitAt B (m + 1) w) v us) (hmk : Cls.Mkds us k k') (hk : 0 < k) (hb0 : k' ≤ 1000000) :
 Calls Tryz.prog 50 #[v, .int .i64 (k : Nat)] w fun e w' => e = .returned (.int .i64 (k' : Nat)) ∧ Below w.heap.size w w' := by
 obtain ⟨p, c, rfl, hlen⟩ := h.form
 unfold maxLen at hlen
 have HL := Lib.hid h
 have HMK := Lib.hid hmk
 clear h hmk
 go_enter Tryz.func50, Tryz.ntmps50
 go_wp2
 go_loopw [1, 5] (HeldLRel us k' w) (fun _ i _ => us.length - (intOf i).toNat)
 case atStart => exact ⟨0, k, rfl, rfl, Nat.zero_le _, HMK.out, hk, by exact bel⟩
 case round =>
  obtain ⟨j, q, rfl, rfl, hju, hmk, hq, hb⟩ := hrel
  have hqk := Cls.Mkds.le _ _ _ hmk
  by_cases hlt : j < us.length
  ·obtain ⟨j', hm1, hm2⟩ := Cls.Mkds.drop hmk hlt
   have hle1 := hm1.le
   have hle2 := Cls.Mkds.le _ _ _ hm2
   have HM2 := Lib.hid hm2
   clear hmk hm2
   obtain ⟨b, o, rfl, hB, x0, x1, x2, hx0, hx1, hx2, hx⟩ := (HL.out.mono (SameOn.below hb) (fun _ h => h) (fun x cs _ hx => LitAt.below hb hx)).at3 hlt
   have hM := hm1
   obtain ⟨a, ha⟩ : ∃ a, us[j] = a := ⟨_, rfl⟩
   rw [ha] at hx
   rw [ha] at hM
   have HX := Lib.hid hx
   have HM := Lib.hid hM
   clear hx ha hM
   have zb := bsz (World.block_lt_of_cell? _ _ hx0)
   obtain ⟨pa, ca, rfl, rfl, rfl, ht⟩ := HX.out.form
   have HT := Lib.hid ht
   have ha := HM.out
   have HA2 := Lib.hid ha.2.2
   have hle3 := Tm.Mkds.le _ _ _ ha.2.2
   have hn : a.a.n = markB (q + 1) := ha.2.1
   have hmp : ((q : Int) % 3 == 0) = markP q := rfl
   rw [ha.1] at hx0
   clear ha ht
   go_wp2
   rw [show ((q : Int) + 1) = ((q + 1 : Nat) : Int) by omega]
   refine wp_region_flowC wr.heap.size [(⟨b, o + j * 3, none⟩, .bool (markP q)), (⟨b, o + j * 3 + 1, none⟩, .string a.a.n), (⟨b, o + j * 3 + 2, none⟩, .slice pa a.a.us.length ca)] (by kernel_rfl) (by kernel_rfl) (by first | (intro _ hs; cases hs; done) | (simp only [List.forall_mem_cons]; go_simp)) fun C HC => ?_
   repeat (first | ((first | apply flow_free rfl | (apply flow_yes; (case hw => go_simp))); (intro L w' hun hrd hC; have ⟨hC, hb', hf'⟩ := flO HC hC; (try simp only [List.forall_mem_cons] at hf'); go_simp; first | exact ⟨flS HC hC, rfl⟩ | (rw [if_neg]; (exact ⟨flS HC hC, rfl⟩); omega) | (go_at_call 83; refine (markText_any (q + 1) _ (by omega) (by omega)).mono ?_; rintro e w1 ⟨rfl, hb1⟩; exact ⟨rfl, flN HC hC (by first | (simp; done) | (simp; omega) | omega) hb1⟩)); go_simp) | (apply flow_noC HC; (case hw => (go_simp; try (intro hh; cases hh))); go_simp))
   refine flow_nil ?_
   intro L wz hL hz
   have ⟨_, hbz, hcz⟩ := flO HC hz
   try simp only [List.forall_mem_cons] at hcz
   have hz1 := bsz (show b < wz.heap.size by have := hbz.size; omega)
   go_wp2_with fail
   rw [show ((q : Int) + 1 + 1) = ((q + 2 : Nat) : Int) by omega]
   refine (heldTermS_any m a.a.us _ (q + 2) j' _ (TmAt.sub (TmAt.below (by exact bel) HT.out)) HA2.out (by omega) (by omega)).mono ?_
   rintro e w2 ⟨rfl, hb2⟩
   have hj0 : ¬ (j' : Int) < 0 := by omega
   go_wp2
   exact ⟨⟨j + 1, j', by go_num, rfl, by omega, HM2.out, by omega, by exact bel⟩, by simp [intOf]; omega⟩
  ·obtain rfl : j = us.length := by omega
   rw [List.drop_length] at hmk
   have hkk : q = k' := hmk
   subst hkk
   clear hmk
   go_wp2
   go_ret
   exact ⟨rfl, by exact bel⟩
set_option maxHeartbeats 1600000 in
theorem heldClause_any {B : Nat → Prop} (m : Nat) (us : List Lit3) (v : Value) (k k' : Nat) (w : World) (h : ClsAt B (m + 1) w us v) (hmk : Cls.Mkds us k k') (hk : 0 < k) (hb0 : k' ≤ 1000000) :
 Calls Tryz.prog 23 #[.agg #[v], .int .i64 (k : Nat)] w fun e w' => e = .returned (.int .i64 (k' : Nat)) ∧ Below w.heap.size w w' := by
 obtain ⟨p, c, rfl, -⟩ := (show ListAt B w 3 (LitAt B (m + 1) w) v us from h).form
 have H := Lib.hid h
 have HM := Lib.hid hmk
 clear h hmk
 go_enter Tryz.func23, Tryz.ntmps23
 go_wp2_with fail
 refine (heldLiteralS_any m us _ k k' _ (ClsAt.below (by exact bel) H.out) HM.out hk hb0).mono ?_
 rintro e w1 ⟨rfl, hb1⟩
 have ⟨cw1, fw1⟩ := bcell hb1
 have qw1 := hb1.size
 (try simp at qw1)
 (try have zw1w := bsz (show w.heap.size < w1.heap.size by omega))
 have hj0 : ¬ (k' : Int) < 0 := by omega
 go_wp2
 go_ret
 exact ⟨rfl, by exact bel⟩
end Go.Proofs.YtabkdonplmlbcaaGreatDoor
