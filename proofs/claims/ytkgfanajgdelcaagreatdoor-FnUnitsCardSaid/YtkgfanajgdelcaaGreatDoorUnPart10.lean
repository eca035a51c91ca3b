/- A unit in the making: two rows in one struct's block. No conditions; no program is walked. -/
import Derived.Shelf.Strings.BuilderF
import Derived.Test.YtkgfanajgdelcaaGreatDoorUnPart1
import Derived.Test.YtkgfanajgdelcaaGreatDoorUnPart4
import Derived.Test.YtkgfanajgdelcaaGreatDoorUnPart9
namespace Go.Proofs.YtkgfanajgdelcaaGreatDoor
open Go.RowKit
theorem good_name {u : Un} (h : u.good = true) : (u.name.toList == []) = false := by
  unfold Un.good at h
  simp only [Bool.and_eq_true] at h
  have h1 := h.1.1.1.1.1
  rw [ByteArray.toList_eq]
  cases he : u.name.data.toList with
  | nil => rw [he] at h1; simp [symB] at h1
  | cons a l => rfl
theorem libGood_eq (l : List Un) : libGood l = (decide (l.length ≤ 12) && (unitsF none l && decide ((ordL l).length = l.length))) := by
  rw [libGood]; cases unitsF none l <;> cases decide (l.length ≤ 12) <;> cases decide ((ordL l).length = l.length) <;> rfl
set_option maxRecDepth 100000 in
set_option maxHeartbeats 6400000 in
theorem specLib_any {B : Nat → Prop} (l : List Un) (va : Value) (w : World) (h : UnsAt B w va l) (hw : l.length + wtU l ≤ 1048576) :
    Calls Tryz.prog 32 #[va] w fun e w' => e = .returned (.bool (libGood l)) ∧ Below w.heap.size w w' := by
  obtain ⟨p, c, rfl, hlen⟩ := h.form
  unfold maxLen at hlen
  have H := Lib.hid h
  have HG := Lib.hid (libGood_eq l)
  have HZ := Lib.hid (fun u hu => Nat.le_trans (wtU_le l u hu) (show wtU l ≤ 1000000000000 by omega))
  clear h
  by_cases h12 : l.length ≤ 12
  case neg =>
    go_enter Tryz.func32, Tryz.ntmps32
    have hj : (12 : Int) < l.length := by omega
    go_wp2
    go_ret
    exact ⟨ret_bool (by rw [HG.out, decide_eq_false h12]; rfl), by exact bel⟩
  have hj : ¬ (12 : Int) < l.length := by omega
  have HG2 := Lib.hid (show libGood l = (unitsF none l && decide ((ordL l).length = l.length)) by rw [HG.out, decide_eq_true h12, Bool.true_and])
  go_enter Tryz.func32, Tryz.ntmps32
  go_wp2
  go_loopw [3] (fun i wr => ∃ k : Nat, k ≤ l.length ∧ i = .int .i64 k ∧ unitsF none l = unitsF (prevU l k) (l.drop k) ∧ Below w.heap.size w wr) (fun i _ => l.length - (intOf i).toNat)
  case atStart => exact ⟨0, Nat.zero_le _, rfl, rfl, by exact bel⟩
  case round =>
    obtain ⟨k, hk, rfl, he, hb⟩ := hrel
    have HE := Lib.hid he
    clear he
    by_cases hlt : k < l.length
    · obtain ⟨b, o, rfl, hB, p1, c1, p2, c2, hx0, hx1, hx2, hx3, hx⟩ := (H.out.below hb).at_ hlt
      have HD := Lib.hid (unitsF_drop hlt)
      have hza := HZ.out _ (List.getElem_mem hlt)
      have zb := bsz (World.block_lt_of_cell? _ _ hx0)
      by_cases hk0 : k = 0
      · subst hk0
        have HP := Lib.hid (show prevU l 0 = none from rfl)
        obtain ⟨a, ha⟩ : ∃ a, l[0] = a := ⟨_, rfl⟩
        rw [ha] at hx hx0 hx1 hx2 hx3 HD hza
        have HX := Lib.hid hx
        clear ha hx
        rw [Nat.zero_mul, Nat.add_zero] at hx0 hx1 hx2 hx3
        cases hg : a.good
        all_goals
          have HAG := Lib.hid (show ∀ (w : World), UnAt B w a [.string a.name, .slice p1 a.incs.length c1, .slice p2 a.axs.length c2, .string a.goal] → Calls Tryz.prog 62 #[.agg #[.string a.name, .slice p1 a.incs.length c1, .slice p2 a.axs.length c2, .string a.goal]] w fun e w' => e = .returned (.bool _) ∧ Below w.heap.size w w' from fun w hx => hg ▸ l27Unit_any a _ _ _ _ w hx hza)
          have HGG := Lib.hid hg
          clear hg
          go_wp2
          obtain ⟨C, HC0⟩ := class_of (InF wr.heap.size _ [(⟨b, o, none⟩, .string a.name), (⟨b, o + 1, none⟩, .slice p1 a.incs.length c1), (⟨b, o + 2, none⟩, .slice p2 a.axs.length c2), (⟨b, o + 3, none⟩, .string a.goal)] [] [])
          have HC := Lib.hid HC0
          clear HC0
          refine wp_region_flow (C := C) (by kernel_rfl) (by kernel_rfl) (fun L hL => (HC.out _ _).2 (InF.start (by first | (intro _ hs; cases hs; done) | (simp only [List.forall_mem_cons]; go_simp)) (by first | (intro _ hs; cases hs; done) | (simp only [List.forall_mem_cons]; go_simp)) (by first | (intro _ hs; cases hs; done) | (simp only [List.forall_mem_cons]; go_simp)) (by first | (intro _ hs; cases hs; done) | (simp only [List.forall_mem_cons]; go_simp)) L hL)) ?_
          repeat (first | ((first | apply flow_free rfl | (apply flow_yes; (case hw => go_simp))); (intro L w' hun hrd hC; have hC := (HC.out _ _).1 hC; have hb' := hC.below; (try have hw' : Below w.heap.size w w' := by first | exact Below.trans (by (repeat (first | with_reducible (first | exact bR _ _ | assumption | refine bA ?_ _ | refine bS ?_ (by first | exact Nat.le_refl _ | (simp; done) | (simp; omega)) _) | assumption | exact bR _ _ | refine bD ?_ | refine bN ?_ _ | refine bT ?_ (by assumption)))) hb' | ((repeat (first | with_reducible (first | exact bR _ _ | assumption | refine bA ?_ _ | refine bS ?_ (by first | exact Nat.le_refl _ | (simp; done) | (simp; omega)) _) | assumption | exact bR _ _ | refine bD ?_ | refine bN ?_ _ | refine bT ?_ (by assumption))); done)); have hf' := hC.cell; (try simp only [List.forall_mem_cons] at hf'); go_simp; first | exact ⟨(HC.out _ _).2 (hC.skip _ (by rfl)), rfl⟩ | (rw [if_neg]; (exact ⟨(HC.out _ _).2 (hC.skip _ (by rfl)), rfl⟩); omega) | (go_at_call 62; refine (HAG.out _ (HX.out.below hb')).mono ?_; rintro e w1 ⟨rfl, hb1⟩; exact ⟨rfl, (HC.out _ _).2 ((hC.next (by first | (simp; done) | (simp; omega) | omega) hb1).skip _ (by rfl))⟩)); go_simp) | (apply flow_no; (case hw => (go_simp; try (intro hh; cases hh))); (intro L w' _ _ hC; exact (HC.out _ _).2 (((HC.out _ _).1 hC).skip _ (by rfl))); go_simp))
          refine flow_nil ?_
          intro L wz hL hz
          have hz := (HC.out _ _).1 hz
          have hbz := hz.below
          have hcz := hz.cell
          try simp only [List.forall_mem_cons] at hcz
          have hdz := hz.done
          try simp only [List.forall_mem_cons] at hdz
          (try have hwz : Below w.heap.size w wz := by first | exact Below.trans (by (repeat (first | with_reducible (first | exact bR _ _ | assumption | refine bA ?_ _ | refine bS ?_ (by first | exact Nat.le_refl _ | (simp; done) | (simp; omega)) _) | assumption | exact bR _ _ | refine bD ?_ | refine bN ?_ _ | refine bT ?_ (by assumption)))) hbz | ((repeat (first | with_reducible (first | exact bR _ _ | assumption | refine bA ?_ _ | refine bS ?_ (by first | exact Nat.le_refl _ | (simp; done) | (simp; omega)) _) | assumption | exact bR _ _ | refine bD ?_ | refine bN ?_ _ | refine bT ?_ (by assumption))); done))
          go_wp2
        · go_ret
          exact ⟨ret_bool (by rw [HG2.out, HE.out, HD.out, HGG.out]; rfl), by exact bel⟩
        · refine ⟨⟨1, by omega, by go_num, ?_, Below.step hb hbz⟩, by simp [intOf]; omega⟩
          rw [HE.out, HD.out, HGG.out, HP.out]; rfl
      · have hk1 : k - 1 < l.length := by omega
        obtain ⟨b', o', hq, hB', r1, d1, r2, d2, hz0, -, -, -, -⟩ := (H.out.below hb).at_ hk1
        simp only [Option.some.injEq, Addr.mk.injEq, and_true] at hq
        obtain ⟨rfl, rfl⟩ := hq
        have HP := Lib.hid (prevU_pos hlt (by omega))
        obtain ⟨a, ha⟩ : ∃ a, l[k] = a := ⟨_, rfl⟩
        obtain ⟨q, hqe⟩ : ∃ q, l[k - 1] = q := ⟨_, rfl⟩
        rw [ha] at hx hx0 hx1 hx2 hx3 HD hza
        rw [hqe] at hz0 HP
        have HX := Lib.hid hx
        clear ha hqe hx
        have hki : IntKind.i64.wrap ((k : Int) - 1) = ((k - 1 : Nat) : Int) := by rw [IntWalk.i64_in _ (by omega)]; omega
        have hkp : (0 : Int) < (k : Int) := by omega
        have hkn : 0 < k := by omega
        have hkj : ((k - 1 : Nat) : Int) < l.length := by omega
        have HL0 := Lib.hid (show lessB q.name a.name = Op.bytesLess q.name.toList a.name.toList by rw [lessB, ByteArray.toList_eq, ByteArray.toList_eq])
        cases hg : a.good <;> cases hA : Op.bytesLess q.name.toList a.name.toList
        all_goals
          have HAG := Lib.hid (show ∀ (w : World), UnAt B w a [.string a.name, .slice p1 a.incs.length c1, .slice p2 a.axs.length c2, .string a.goal] → Calls Tryz.prog 62 #[.agg #[.string a.name, .slice p1 a.incs.length c1, .slice p2 a.axs.length c2, .string a.goal]] w fun e w' => e = .returned (.bool _) ∧ Below w.heap.size w w' from fun w hx => hg ▸ l27Unit_any a _ _ _ _ w hx hza)
          have HGG := Lib.hid hg
          have HLS := Lib.hid (HL0.out.trans hA)
          clear hg
          go_wp2
          obtain ⟨C, HC0⟩ := class_of (InF wr.heap.size _ [(⟨b, o + k * 4, none⟩, .string a.name), (⟨b, o + k * 4 + 1, none⟩, .slice p1 a.incs.length c1), (⟨b, o + k * 4 + 2, none⟩, .slice p2 a.axs.length c2), (⟨b, o + k * 4 + 3, none⟩, .string a.goal), (⟨b, o + (k - 1) * 4, none⟩, .string q.name)] [] [])
          have HC := Lib.hid HC0
          clear HC0
          refine wp_region_flow (C := C) (by kernel_rfl) (by kernel_rfl) (fun L hL => (HC.out _ _).2 (InF.start (by first | (intro _ hs; cases hs; done) | (simp only [List.forall_mem_cons]; go_simp)) (by first | (intro _ hs; cases hs; done) | (simp only [List.forall_mem_cons]; go_simp)) (by first | (intro _ hs; cases hs; done) | (simp only [List.forall_mem_cons]; go_simp)) (by first | (intro _ hs; cases hs; done) | (simp only [List.forall_mem_cons]; go_simp)) L hL)) ?_
          repeat (first | ((first | apply flow_free rfl | (apply flow_yes; (case hw => go_simp))); (intro L w' hun hrd hC; have hC := (HC.out _ _).1 hC; have hb' := hC.below; (try have hw' : Below w.heap.size w w' := by first | exact Below.trans (by (repeat (first | with_reducible (first | exact bR _ _ | assumption | refine bA ?_ _ | refine bS ?_ (by first | exact Nat.le_refl _ | (simp; done) | (simp; omega)) _) | assumption | exact bR _ _ | refine bD ?_ | refine bN ?_ _ | refine bT ?_ (by assumption)))) hb' | ((repeat (first | with_reducible (first | exact bR _ _ | assumption | refine bA ?_ _ | refine bS ?_ (by first | exact Nat.le_refl _ | (simp; done) | (simp; omega)) _) | assumption | exact bR _ _ | refine bD ?_ | refine bN ?_ _ | refine bT ?_ (by assumption))); done)); have hf' := hC.cell; (try simp only [List.forall_mem_cons] at hf'); go_simp; first | exact ⟨(HC.out _ _).2 (hC.skip _ (by rfl)), rfl⟩ | (rw [if_neg]; (exact ⟨(HC.out _ _).2 (hC.skip _ (by rfl)), rfl⟩); omega) | (go_at_call 62; refine (HAG.out _ (HX.out.below hb')).mono ?_; rintro e w1 ⟨rfl, hb1⟩; exact ⟨rfl, (HC.out _ _).2 ((hC.next (by first | (simp; done) | (simp; omega) | omega) hb1).skip _ (by rfl))⟩)); go_simp) | (apply flow_no; (case hw => (go_simp; try (intro hh; cases hh))); (intro L w' _ _ hC; exact (HC.out _ _).2 (((HC.out _ _).1 hC).skip _ (by rfl))); go_simp))
          refine flow_nil ?_
          intro L wz hL hz
          have hz := (HC.out _ _).1 hz
          have hbz := hz.below
          have hcz := hz.cell
          try simp only [List.forall_mem_cons] at hcz
          have hdz := hz.done
          try simp only [List.forall_mem_cons] at hdz
          (try have hwz : Below w.heap.size w wz := by first | exact Below.trans (by (repeat (first | with_reducible (first | exact bR _ _ | assumption | refine bA ?_ _ | refine bS ?_ (by first | exact Nat.le_refl _ | (simp; done) | (simp; omega)) _) | assumption | exact bR _ _ | refine bD ?_ | refine bN ?_ _ | refine bT ?_ (by assumption)))) hbz | ((repeat (first | with_reducible (first | exact bR _ _ | assumption | refine bA ?_ _ | refine bS ?_ (by first | exact Nat.le_refl _ | (simp; done) | (simp; omega)) _) | assumption | exact bR _ _ | refine bD ?_ | refine bN ?_ _ | refine bT ?_ (by assumption))); done))
          go_wp2
        all_goals first
          | (refine ⟨⟨k + 1, by omega, by go_num, ?_, Below.step hb hbz⟩, by simp [intOf]; omega⟩; rw [HE.out, HD.out, HGG.out, HP.out, ascS, HLS.out]; rfl)
          | (go_ret; exact ⟨ret_bool (by rw [HG2.out, HE.out, HD.out, HGG.out, HP.out, ascS, HLS.out]; rfl), by exact bel⟩)
    · obtain rfl : k = l.length := by omega
      rw [List.drop_length] at HE
      have HU := Lib.hid (show unitsF none l = true from HE.out)
      have HOA := Lib.hid (fun w' hat => l27Order_any (B := B) l (.slice p l.length c) w' hat (by omega) (fun u hu => good_name (unitsF_good l none HU.out u hu)))
      go_wp2_with fail
      refine (HOA.out _ (H.out.below (by exact bel))).mono ?_
      rintro e w1 ⟨v, rfl, hv, -, hb1⟩
      obtain ⟨pv, cv, rfl⟩ : ∃ p c, v = .slice p (ordL l).length c := by
        rcases hv.2 with ⟨rfl, h0⟩ | ⟨g, cap, cur, rfl, _⟩
        · exact ⟨none, 0, by rw [h0]⟩
        · exact ⟨_, _, rfl⟩
      clear hv
      have HG3 := Lib.hid (show libGood l = decide ((ordL l).length = l.length) by rw [HG2.out, HU.out, Bool.true_and])
      have hii : (((ordL l).length : Int) = (l.length : Int)) = ((ordL l).length = l.length) := by apply propext; omega
      go_wp2
      go_ret
      refine ⟨ret_bool ?_, by exact bel⟩
      rw [HG3.out, Bool.eq_iff_iff, decide_eq_true_iff, beq_iff_eq]
      omega
open Go.RowKit
def nameIs (x : ByteArray) (u : Un) : Bool := u.name.toList == x.toList
theorem nameIs_eq (x : ByteArray) (u : Un) : nameIs x u = decide (u.name = x) := by
  rw [nameIs, Bool.eq_iff_iff, decide_eq_true_iff, Lib.bytes_beq_iff]
theorem find_nameIs (l : List Un) (x : ByteArray) : l.find? (nameIs x) = findU l x := by
  rw [findU]; congr 1; funext u; exact nameIs_eq x u
def placeU (l : List Un) (x : ByteArray) : Option Nat := firstI (nameIs x) 0 l
theorem place_some {l : List Un} {x : ByteArray} {u : Un} (h : findU l x = some u) : ∃ (i : Nat) (hi : i < l.length), placeU l x = some i ∧ l[i] = u := by
  cases hp : placeU l x with
  | none => have := firstI_none _ _ _ hp; rw [find_nameIs, h] at this; cases this
  | some i =>
    obtain ⟨-, hi, hf⟩ := firstI_some _ _ _ _ hp
    simp only [Nat.sub_zero] at hi hf
    rw [find_nameIs, h] at hf
    exact ⟨i, hi, rfl, (Option.some.inj hf).symm⟩
theorem place_none {l : List Un} {x : ByteArray} : placeU l x = none ↔ findU l x = none := by
  constructor
  · intro h; rw [← find_nameIs]; exact firstI_none _ _ _ h
  · intro h
    cases hp : placeU l x with
    | none => rfl
    | some i =>
      obtain ⟨-, hi, hf⟩ := firstI_some _ _ _ _ hp
      rw [find_nameIs, h] at hf; cases hf
set_option maxRecDepth 100000 in
theorem nameIs_any {B : Nat → Prop} (u : Un) (x : ByteArray) (v0 v1 v2 v3 : Value) (g : Nat) (w : World) (hg : w.cell? ⟨g, 0, none⟩ = some (.string x)) (h : UnAt B w u [v0, v1, v2, v3]) :
    Calls Tryz.prog 94 #[.agg #[v0, v1, v2, v3], .pointer (some ⟨g, 0, none⟩)] w fun e w' => e = .returned (.bool (nameIs x u)) ∧ Below w.heap.size w w' := by
  obtain ⟨p, c, q, d, rfl, rfl, rfl, rfl, -⟩ := h.form
  have hgz := bsz (World.block_lt_of_cell? _ _ hg)
  clear h
  go_enter Tryz.func94, Tryz.ntmps94
  go_wp2
  go_ret
  exact ⟨rfl, by exact bel⟩
set_option maxRecDepth 100000 in
set_option maxHeartbeats 1600000 in
theorem idxPlace {B : Nat → Prop} (P : Un → Bool) (us : List Un) (g : Addr) (va : Value) (w : World) (HC : ∀ (a : Un) (v0 v1 v2 v3 : Value) (w' : World), a ∈ us → UnAt B w' a [v0, v1, v2, v3] → Below w.heap.size w w' → Calls Tryz.prog 94 #[.agg #[v0, v1, v2, v3], .pointer (some g)] w' fun e w'' => e = .returned (.bool (P a)) ∧ Below w'.heap.size w' w'')
    (h : UnsAt B w va us) : Calls Tryz.prog 81 #[va, .func (.func 94) #[] #[.pointer (some g)]] w (FirstI (firstI P 0 us) w) := by
  obtain ⟨p, c, rfl, hlen⟩ := h.form
  unfold maxLen at hlen
  have H := Lib.hid h
  have HN1 := Lib.hid HC
  clear h HC
  go_enter Tryz.func81, Tryz.ntmps81
  go_wp2
  go_loopw [8] (fun i wr => ∃ k : Nat, k ≤ us.length ∧ i = .int .i64 k ∧ firstI P 0 us = firstI P k (us.drop k) ∧ Below w.heap.size w wr) (fun i _ => us.length - (intOf i).toNat)
  case atStart => exact ⟨0, Nat.zero_le _, rfl, rfl, by exact bel⟩
  case round =>
    obtain ⟨k, hk, rfl, he, hb⟩ := hrel
    have HE := Lib.hid he
    clear he
    by_cases hlt : k < us.length
    · obtain ⟨b, o, rfl, hB, p1, c1, p2, c2, hx0, hx1, hx2, hx3, hx⟩ := (H.out.below hb).at_ hlt
      have HD := Lib.hid (firstI_drop P hlt)
      have hm := List.getElem_mem hlt
      obtain ⟨a, ha⟩ : ∃ a, us[k] = a := ⟨_, rfl⟩
      rw [ha] at hx hx0 hx1 hx2 hx3 HD hm
      have HX := Lib.hid hx
      clear ha hx
      have zb := bsz (World.block_lt_of_cell? _ _ hx0)
      cases hN : P a
      all_goals
        have HN := Lib.hid hN
        go_wp2_with fail
        refine (HN1.out a _ _ _ _ _ hm HX.out (by exact bel)).mono ?_
        rintro e w1 ⟨rfl, hb1⟩
        have ⟨cw1, fw1⟩ := bcell hb1
        have qw1 := hb1.size
        (try simp at qw1)
        (try have zw1w := bsz (show w.heap.size < w1.heap.size by omega))
        rw [HN.out]
        go_wp2
      · refine ⟨⟨k + 1, by omega, by go_num, ?_, by exact bel⟩, by simp [intOf]; omega⟩
        rw [HE.out, HD.out, HN.out]; rfl
      · go_ret
        exact ⟨_, rfl, by rw [HE.out, HD.out, HN.out]; rfl, by exact bel⟩
    · obtain rfl : k = us.length := by omega
      have he := HE.out
      rw [List.drop_length] at he
      have HE2 := Lib.hid he
      clear he
      go_wp2
      go_ret
      exact ⟨-1, rfl, by rw [HE2.out]; rfl, by exact bel⟩
set_option maxRecDepth 100000 in
theorem unitAt_any {B : Nat → Prop} (l : List Un) (va : Value) (x : ByteArray) (w : World) (h : UnsAt B w va l) : Calls Tryz.prog 38 #[va, .string x] w (FirstI (placeU l x) w) := by
  obtain ⟨p, c, rfl, hlen⟩ := h.form
  have H := Lib.hid h
  clear h
  have HX := Lib.hid (fun (w' : World) (hg : w'.cell? ⟨w.heap.size, 0, none⟩ = some (.string x)) (hat : UnsAt B w' (.slice p l.length c) l) => idxPlace (nameIs x) l ⟨w.heap.size, 0, none⟩ (.slice p l.length c) w' (fun a v0 v1 v2 v3 w2 _ ha hb2 => nameIs_any a x v0 v1 v2 v3 w.heap.size w2 ((hb2.cell (World.block_lt_of_cell? _ _ hg)).trans hg) ha) hat)
  go_enter Tryz.func38, Tryz.ntmps38
  go_wp2_with fail
  refine (HX.out _ (by go_simp) (H.out.below (by exact bel))).mono ?_
  rintro e w1 ⟨r, rfl, hr, hb1⟩
  have HR := Lib.hid hr
  clear hr
  go_wp2
  go_ret
  exact ⟨r, rfl, HR.out, by exact bel⟩
set_option maxRecDepth 100000 in
set_option maxHeartbeats 1600000 in
theorem l27Find_any {B : Nat → Prop} (l : List Un) (va : Value) (x : ByteArray) (w : World) (h : UnsAt B w va l) : Calls Tryz.prog 77 #[va, .string x] w (FirstI (placeU l x) w) := by
  obtain ⟨p, c, rfl, hlen⟩ := h.form
  unfold maxLen at hlen
  have H := Lib.hid h
  clear h
  go_enter Tryz.func77, Tryz.ntmps77
  go_wp2
  go_loopw [5] (fun i wr => ∃ k : Nat, k ≤ l.length ∧ i = .int .i64 k ∧ placeU l x = firstI (nameIs x) k (l.drop k) ∧ Below w.heap.size w wr) (fun i _ => l.length - (intOf i).toNat)
  case atStart => exact ⟨0, Nat.zero_le _, rfl, rfl, by exact bel⟩
  case round =>
    obtain ⟨k, hk, rfl, he, hb⟩ := hrel
    have HE := Lib.hid he
    clear he
    by_cases hlt : k < l.length
    · obtain ⟨b, o, rfl, hB, p1, c1, p2, c2, hx0, hx1, hx2, hx3, hx⟩ := (H.out.below hb).at_ hlt
      have HD := Lib.hid (firstI_drop (nameIs x) hlt)
      obtain ⟨a, ha⟩ : ∃ a, l[k] = a := ⟨_, rfl⟩
      rw [ha] at hx0 HD
      clear ha hx hx1 hx2 hx3
      have zb := bsz (World.block_lt_of_cell? _ _ hx0)
      cases hN : (a.name.toList == x.toList)
      all_goals
        have HN := Lib.hid (show nameIs x a = _ from hN)
        go_wp2
      · refine ⟨⟨k + 1, by omega, by go_num, ?_, by exact bel⟩, by simp [intOf]; omega⟩
        rw [HE.out, HD.out, HN.out]; rfl
      · go_ret
        exact ⟨(k : Int), rfl, by rw [HE.out, HD.out, HN.out]; rfl, by exact bel⟩
    · obtain rfl : k = l.length := by omega
      have he := HE.out
      rw [List.drop_length] at he
      have HE2 := Lib.hid he
      clear he
      go_wp2
      go_ret
      exact ⟨-1, rfl, by rw [HE2.out]; rfl, by exact bel⟩
/-! ### Hashes -/
open Go.RowKit
theorem Kept.belowB {K : Nat → Prop} {a w w' : World} (hb : Below a.heap.size a w) (hk : Kept K w w') (hK : ∀ b, K b → a.heap.size ≤ b) : Below a.heap.size a w' :=
  ⟨hk.os.trans hb.os, hk.tape.trans hb.tape, hk.output.trans hb.output, Nat.le_trans hb.size hk.size, fun b hlt => (hk.block b (Nat.lt_of_lt_of_le hlt hb.size) (fun e => by have := hK b e; omega)).trans (hb.block b hlt)⟩
open Go.RowKit
def unitOf (l : List Un) (x : ByteArray) : Bool := libGood l && (placeU l x).isSome
theorem libGood_parts {l : List Un} (h : libGood l = true) : Dist l ∧ (ordL l).length = l.length ∧ ∀ u ∈ l, u.good = true := by
  rw [libGood, Bool.and_eq_true, Bool.and_eq_true] at h
  exact ⟨unitsF_dist l none h.1.1, of_decide_eq_true h.2, unitsF_good l none h.1.1⟩
theorem place_mem {l : List Un} {x : ByteArray} (h : (placeU l x).isSome = true) : ∃ u ∈ l, u.name = x := by
  cases hf : findU l x with
  | none => rw [place_none.2 hf] at h; cases h
  | some u => exact ⟨u, findU_some hf⟩
set_option maxRecDepth 100000 in
set_option maxHeartbeats 800000 in
theorem isUnitOf_any {B : Nat → Prop} (l : List Un) (va : Value) (x : ByteArray) (w : World) (h : UnsAt B w va l) (hw : l.length + wtU l ≤ 1048576) :
    Calls Tryz.prog 35 #[va, .string x] w fun e w' => e = .returned (.bool (unitOf l x)) ∧ Below w.heap.size w w' := by
  obtain ⟨p, c, rfl, hlen⟩ := h.form
  have H := Lib.hid h
  have HU := Lib.hid (show unitOf l x = (libGood l && (placeU l x).isSome) from rfl)
  clear h
  go_enter Tryz.func35, Tryz.ntmps35
  go_wp2_with fail
  refine (implLib_any l _ _ (H.out.below (by exact bel)) hw).mono ?_
  rintro e w1 ⟨rfl, hb1⟩
  have ⟨cw1, fw1⟩ := bcell hb1
  have qw1 := hb1.size
  (try simp at qw1)
  (try have zw1w := bsz (show w.heap.size < w1.heap.size by omega))
  cases hg : libGood l
  · have HG := Lib.hid hg
    go_wp2
    go_ret
    exact ⟨ret_bool (by rw [HU.out, HG.out]; rfl), by exact bel⟩
  · have HG := Lib.hid hg
    go_wp2_with fail
    refine (unitAt_any l _ x _ (H.out.below (by exact bel))).mono ?_
    rintro e w2 ⟨r, rfl, hr, hb2⟩
    have HR := Lib.hid (show decide (0 ≤ r) = unitOf l x by rw [hr, atI_neg, HU.out, HG.out, Bool.true_and])
    clear hr
    go_wp2
    go_ret
    exact ⟨ret_bool HR.out, by exact bel⟩
open Go.RowKit
section
variable {P : Program} {ops : Array Oper} {md : Region.Mode} {vs : List (Option Value)} {D : (Nat → Value) → Array Bool → World → Prop}
theorem upd_comm (u : Nat → Value) {i j : Nat} (x y : Value) (h : i ≠ j) : upd (upd u i x) j y = upd (upd u j y) i x := by
  funext k
  unfold upd
  by_cases h1 : k = j
  · by_cases h2 : k = i
    · exact absurd (h2.symm.trans h1) h
    · rw [if_pos h1, if_neg h2, if_pos h1]
  · rw [if_neg h1]
    by_cases h2 : k = i
    · rw [if_pos h2, if_pos h2]
    · rw [if_neg h2, if_neg h2, if_neg h1]
def GV (P : Program) (md : Region.Mode) (ops : Array Oper) (D : (Nat → Value) → Array Bool → World → Prop) (o : Oper) (i : Nat) (a : Act) (u : Nat → Value) : Prop :=
  Region.wanted o (yielded ops a.tmps) = true ∧ ∀ u', (∀ e ∈ o.after, Region.binds md e = true → u' e.on = u e.on) → ∀ L w, L.getD i true = false → Behind md o L → D u' L w → eachUpon P (fun x w' => D (upd u' i x) (L.setIfInBounds i true) w') ((execOp a.eval o).run P w)
theorem GV.eval {o : Oper} {i : Nat} {a a' : Act} {u u' : Nat → Value} (h : GV P md ops D o i a u) (he : execOp a'.eval o = execOp a.eval o) (hw : Region.wanted o (yielded ops a'.tmps) = Region.wanted o (yielded ops a.tmps)) (hu : ∀ e ∈ o.after, Region.binds md e = true → u' e.on = u e.on) : GV P md ops D o i a' u' := by
  unfold GV at *
  rw [he, hw]
  exact ⟨h.1, fun v hv => h.2 v fun e h1 h2 => (hv e h1 h2).trans (hu e h1 h2)⟩
def opV (P : Program) (md : Region.Mode) (ops : Array Oper) (vs : List (Option Value)) (D : (Nat → Value) → Array Bool → World → Prop) (i : Nat) (K : Act → (Nat → Value) → Prop) (a : Act) (u : Nat → Value) : Prop :=
  ∃ o, ops[i]? = some o ∧ ((stB vs i = true ∧ GS P md ops vs D o i a ∧ K (a.put o.dst (baseV vs i)) u) ∨ (stB vs i = false ∧ GV P md ops D o i a u ∧ ∀ x, K (a.put o.dst x) (upd u i x)))
def anyV (P : Program) (md : Region.Mode) (ops : Array Oper) (vs : List (Option Value)) (D : (Nat → Value) → Array Bool → World → Prop) (Q : Array Bool → Act → (Nat → Value) → Prop) : Nat → Array Bool → Act → (Nat → Value) → Prop
  | 0, L, a, u => Region.ready md ops L = [] ∧ Q L a u
  | fuel + 1, L, a, u => (Region.ready md ops L = [] → Q L a u) ∧ ∀ i ∈ Region.ready md ops L, opV P md ops vs D i (anyV P md ops vs D Q fuel (L.setIfInBounds i true)) a u
theorem wpAny_of_anyV {Q : Array Bool → Act → (Nat → Value) → Prop} {Q' : Exit → Act → World → Prop} (hQ : ∀ L a u w, D u L w → Q L a u → Q' .normal a w) : ∀ (fuel : Nat) (L : Array Bool) (a : Act) (u : Nat → Value) (w : World), D u L w →
    anyV P md ops vs D Q fuel L a u → wpAny P md ops Q' fuel L a w
  | 0, _, _, _, _, hw, h => ⟨h.1, hQ _ _ _ _ hw h.2⟩
  | fuel + 1, L, a, u, w, hw, h => by
    refine ⟨fun h0 => hQ _ _ _ _ hw (h.1 h0), fun i hi => ?_⟩
    obtain ⟨o, ho, ⟨hs, hg, hK⟩ | ⟨hs, hg, hK⟩⟩ := h.2 i hi
    · exact wpOp_of_flowOp (C := D u) (K := fun a' => anyV P md ops vs D Q fuel (L.setIfInBounds i true) a' u) hi hw (fun a' w' hw' hK => wpAny_of_anyV hQ fuel _ a' u w' hw' hK) ⟨o, _, ho, hg u, hK⟩
    · obtain ⟨hun, oj, hoj, hall⟩ := mem_ready.1 hi
      obtain rfl : oj = o := Option.some.inj (hoj.symm.trans ho)
      have hbe : Behind md oj L := fun e he hb => by simpa using hall e he hb
      have h3 := hg.2 u (fun _ _ _ => rfl) L w hun hbe hw
      unfold wpOp
      simp only [ho]
      rw [if_pos hg.1]
      refine .inl ?_
      unfold Oper.wp
      generalize (execOp a.eval oj).run P w = r at *
      cases r with
      | ok n w' =>
        cases n <;> simp only [eachUpon] at h3 <;> simp only [Oper.upon]
        case value x => exact wpAny_of_anyV hQ fuel _ _ _ _ h3 (hK x)
        case skip => exact wpAny_of_anyV hQ fuel _ _ _ _ h3 (hK undef)
        case enter f args => exact h3.mono fun e w'' ⟨x, he, hw''⟩ => by subst he; exact wpAny_of_anyV hQ fuel _ _ _ _ hw'' (hK x)
      | halt x w' => simp only [eachUpon] at h3
theorem anyV_firstS {Q : Array Bool → Act → (Nat → Value) → Prop} {i : Nat} {oi : Oper} (hi : ops[i]? = some oi) (hst : stB vs i = true) (hsel : ∀ (j : Nat) (o : Oper) cs b, ops[j]? = some o → o.op ≠ .select cs b) :
    ∀ (fuel : Nat) (L : Array Bool) (a : Act) (u : Nat → Value),
      (∀ j oj, ops[j]? = some oj → j ≠ i → L.getD j true = false → (∀ e ∈ oj.after, Region.binds md e = true → e.on ≠ i) → oi.apart ops oj = true) →
      i ∈ Region.ready md ops L → GS P md ops vs D oi i a →
      anyV P md ops vs D Q fuel (L.setIfInBounds i true) (a.put oi.dst (baseV vs i)) u → anyV P md ops vs D Q (fuel + 1) L a u := by
  intro fuel
  induction fuel with
  | zero =>
    intro L a u _ hr hy H
    refine ⟨fun h => (by rw [h] at hr; cases hr), fun j hj => ?_⟩
    by_cases hji : j = i
    · subst hji; exact ⟨oi, hi, .inl ⟨hst, hy, H⟩⟩
    · have := ready_mono hj hji
      rw [H.1] at this
      cases this
  | succ fuel ih =>
    intro L a u hfree hr hy H
    refine ⟨fun h => (by rw [h] at hr; cases hr), fun j hj => ?_⟩
    by_cases hji : j = i
    · subst hji; exact ⟨oi, hi, .inl ⟨hst, hy, H⟩⟩
    · obtain ⟨hjun, oj, hoj, hall⟩ := mem_ready.1 hj
      have hnot : ∀ e ∈ oj.after, Region.binds md e = true → e.on ≠ i := fun e he hb heq => by
        have h1 := hall e he hb
        have h0 := (mem_ready.1 hr).1
        rw [heq] at h1
        rw [getD_tf h0] at h1; cases h1
      obtain ⟨p1, p2, p3⟩ := Oper.apart_spec (hfree j oj hoj hji hjun hnot)
      have hfree' : ∀ k ok, ops[k]? = some ok → k ≠ i → (L.setIfInBounds j true).getD k true = false →
          (∀ e ∈ ok.after, Region.binds md e = true → e.on ≠ i) → oi.apart ops ok = true := fun k ok hk hki hun hno => by
        refine hfree k ok hk hki ?_ hno
        by_cases hjk : j = k
        · subst hjk; exact hjun
        · rw [getD_set_ne true hjk] at hun; exact hun
      obtain ⟨o, ho, hcase⟩ := H.2 j (ready_mono hj hji)
      obtain rfl : oj = o := Option.some.inj (hoj.symm.trans ho)
      have hej := execOp_put oj (fun cs b => hsel j oj cs b hoj) a oi.dst (baseV vs i) p1
      have hwj := wanted_put (ops := ops) oj a oi.dst (baseV vs i) p1
      rcases hcase with ⟨hs, hg, hK⟩ | ⟨hs, hg, hK⟩
      · refine ⟨oj, hoj, .inl ⟨hs, hg.eval hej.symm hwj.symm, ih (L.setIfInBounds j true) _ u hfree' (ready_mono hr (Ne.symm hji)) (hy.eval (execOp_put oi (fun cs b => hsel i oi cs b hi) a oj.dst _ p3) (wanted_put oi a oj.dst _ p3)) ?_⟩⟩
        rw [Array.setIfInBounds_comm _ _ hji, ← Act.put_comm a _ _ p2]; exact hK
      · refine ⟨oj, hoj, .inr ⟨hs, hg.eval hej.symm hwj.symm (fun _ _ _ => rfl), fun x => ih (L.setIfInBounds j true) _ _ hfree' (ready_mono hr (Ne.symm hji)) (hy.eval (execOp_put oi (fun cs b => hsel i oi cs b hi) a oj.dst x p3) (wanted_put oi a oj.dst x p3)) ?_⟩⟩
        rw [Array.setIfInBounds_comm _ _ hji, ← Act.put_comm a _ _ p2]; exact hK x
theorem anyV_firstV {Q : Array Bool → Act → (Nat → Value) → Prop} {i : Nat} {oi : Oper} (hi : ops[i]? = some oi) (hst : stB vs i = false) (hsel : ∀ (j : Nat) (o : Oper) cs b, ops[j]? = some o → o.op ≠ .select cs b) :
    ∀ (fuel : Nat) (L : Array Bool) (a : Act) (u : Nat → Value),
      (∀ j oj, ops[j]? = some oj → j ≠ i → L.getD j true = false → (∀ e ∈ oj.after, Region.binds md e = true → e.on ≠ i) → oi.apart ops oj = true) →
      i ∈ Region.ready md ops L → GV P md ops D oi i a u →
      (∀ x, anyV P md ops vs D Q fuel (L.setIfInBounds i true) (a.put oi.dst x) (upd u i x)) → anyV P md ops vs D Q (fuel + 1) L a u := by
  intro fuel
  induction fuel with
  | zero =>
    intro L a u _ hr hy H
    refine ⟨fun h => (by rw [h] at hr; cases hr), fun j hj => ?_⟩
    by_cases hji : j = i
    · subst hji; exact ⟨oi, hi, .inr ⟨hst, hy, H⟩⟩
    · have := ready_mono hj hji
      rw [(H undef).1] at this
      cases this
  | succ fuel ih =>
    intro L a u hfree hr hy H
    refine ⟨fun h => (by rw [h] at hr; cases hr), fun j hj => ?_⟩
    by_cases hji : j = i
    · subst hji; exact ⟨oi, hi, .inr ⟨hst, hy, H⟩⟩
    · obtain ⟨hjun, oj, hoj, hall⟩ := mem_ready.1 hj
      have hnot : ∀ e ∈ oj.after, Region.binds md e = true → e.on ≠ i := fun e he hb heq => by
        have h1 := hall e he hb
        have h0 := (mem_ready.1 hr).1
        rw [heq] at h1
        rw [getD_tf h0] at h1; cases h1
      have hnoti : ∀ e ∈ oi.after, Region.binds md e = true → e.on ≠ j := fun e he hb heq => by
        obtain ⟨_, oi', hoi', hall'⟩ := mem_ready.1 hr
        obtain rfl : oi = oi' := Option.some.inj (hi.symm.trans hoi')
        have h1 := hall' e he hb
        rw [heq] at h1
        rw [getD_tf hjun] at h1; cases h1
      obtain ⟨p1, p2, p3⟩ := Oper.apart_spec (hfree j oj hoj hji hjun hnot)
      have hfree' : ∀ k ok, ops[k]? = some ok → k ≠ i → (L.setIfInBounds j true).getD k true = false →
          (∀ e ∈ ok.after, Region.binds md e = true → e.on ≠ i) → oi.apart ops ok = true := fun k ok hk hki hun hno => by
        refine hfree k ok hk hki ?_ hno
        by_cases hjk : j = k
        · subst hjk; exact hjun
        · rw [getD_set_ne true hjk] at hun; exact hun
      have hej : ∀ x, execOp (a.put oi.dst x).eval oj = execOp a.eval oj := fun x => execOp_put oj (fun cs b => hsel j oj cs b hoj) a oi.dst x p1
      have hwj : ∀ x, Region.wanted oj (yielded ops (a.put oi.dst x).tmps) = Region.wanted oj (yielded ops a.tmps) := fun x => wanted_put (ops := ops) oj a oi.dst x p1
      have hei : ∀ y, execOp (a.put oj.dst y).eval oi = execOp a.eval oi := fun y => execOp_put oi (fun cs b => hsel i oi cs b hi) a oj.dst y p3
      have hwi : ∀ y, Region.wanted oi (yielded ops (a.put oj.dst y).tmps) = Region.wanted oi (yielded ops a.tmps) := fun y => wanted_put (ops := ops) oi a oj.dst y p3
      cases hsj : stB vs j with
      | true =>
        have hx : ∀ x, GS P md ops vs D oj j a ∧ anyV P md ops vs D Q fuel ((L.setIfInBounds i true).setIfInBounds j true) ((a.put oi.dst x).put oj.dst (baseV vs j)) (upd u i x) := fun x => by
          obtain ⟨o, ho, hcase⟩ := (H x).2 j (ready_mono hj hji)
          obtain rfl : oj = o := Option.some.inj (hoj.symm.trans ho)
          rcases hcase with ⟨hs, hg, hK⟩ | ⟨hs, hg, hK⟩
          · exact ⟨hg.eval (hej x).symm (hwj x).symm, hK⟩
          · rw [hs] at hsj; cases hsj
        refine ⟨oj, hoj, .inl ⟨hsj, (hx undef).1, ih (L.setIfInBounds j true) _ u hfree' (ready_mono hr (Ne.symm hji)) (hy.eval (hei _) (hwi _) (fun _ _ _ => rfl)) fun x => ?_⟩⟩
        rw [Array.setIfInBounds_comm _ _ hji, ← Act.put_comm a _ _ p2]; exact (hx x).2
      | false =>
        have hx : ∀ x, GV P md ops D oj j a u ∧ ∀ y, anyV P md ops vs D Q fuel ((L.setIfInBounds i true).setIfInBounds j true) ((a.put oi.dst x).put oj.dst y) (upd (upd u i x) j y) := fun x => by
          obtain ⟨o, ho, hcase⟩ := (H x).2 j (ready_mono hj hji)
          obtain rfl : oj = o := Option.some.inj (hoj.symm.trans ho)
          rcases hcase with ⟨hs, hg, hK⟩ | ⟨hs, hg, hK⟩
          · rw [hs] at hsj; cases hsj
          · exact ⟨hg.eval (hej x).symm (hwj x).symm (fun e h1 h2 => (upd_other u x (hnot e h1 h2)).symm), hK⟩
        refine ⟨oj, hoj, .inr ⟨hsj, (hx undef).1, fun y => ih (L.setIfInBounds j true) _ _ hfree' (ready_mono hr (Ne.symm hji)) (hy.eval (hei y) (hwi y) (fun e h1 h2 => upd_other u y (hnoti e h1 h2))) fun x => ?_⟩⟩
        rw [Array.setIfInBounds_comm _ _ hji, ← Act.put_comm a _ _ p2, ← upd_comm u x y (Ne.symm hji)]; exact (hx x).2 y
def flowV (P : Program) (md : Region.Mode) (ops : Array Oper) (vs : List (Option Value)) (D : (Nat → Value) → Array Bool → World → Prop) (Q : Act → (Nat → Value) → Prop) : Nat → List Oper → Act → (Nat → Value) → Prop
  | _, [], a, u => Q a u
  | k, o :: rest, a, u => (stB vs k = true ∧ GS P md ops vs D o k a ∧ flowV P md ops vs D Q (k + 1) rest (a.put o.dst (baseV vs k)) u) ∨ (stB vs k = false ∧ GV P md ops D o k a u ∧ ∀ x, flowV P md ops vs D Q (k + 1) rest (a.put o.dst x) (upd u k x))
theorem anyV_lex {Q : Act → (Nat → Value) → Prop} (hs : Region.noSelect ops = true) : ∀ (l : List Oper) (k : Nat) (L : Array Bool) (a : Act) (u : Nat → Value), (∀ j, l[j]? = ops[k + j]?) → L.size = ops.size → k + l.length = ops.size → (∀ i, i < k → L.getD i false = true) →
    Region.lexFrom md ops l.length k L = true → flowV P md ops vs D Q k l a u → anyV P md ops vs D (fun L a u => (∀ i, i < ops.size → L.getD i false = true) ∧ Q a u) l.length L a u
  | [], k, _, _, _, _, _, hk, hall, hB, h => ⟨by simpa [Region.lexFrom] using hB, fun i hi => hall i (by simp at hk; omega), h⟩
  | o :: l, k, L, a, u, hl, hz, hk, hall, hB, h => by
    have h0 : ops[k]? = some o := by simpa using (hl 0).symm
    simp only [List.length_cons, Region.lexFrom, Bool.and_eq_true] at hB
    obtain ⟨⟨hr, hf⟩, hB'⟩ := hB
    have hlt : k < L.size := by simp only [List.length_cons] at hk; omega
    have hrk : k ∈ Region.ready md ops L := by simpa using hr
    have next : ∀ a u, flowV P md ops vs D Q (k + 1) l a u → anyV P md ops vs D (fun L a u => (∀ i, i < ops.size → L.getD i false = true) ∧ Q a u) l.length (L.setIfInBounds k true) a u := fun a u hK =>
      anyV_lex hs l (k + 1) _ _ u (fun j => by have := hl (j + 1); simpa [Nat.add_assoc, Nat.add_comm 1 j] using this) (by simpa using hz) (by simp only [List.length_cons] at hk; omega)
        (fun i hi => by
          by_cases hik : i = k
          · subst hik; simp [hlt]
          · rw [getD_set_ne false (Ne.symm hik)]; exact hall i (by omega)) hB' hK
    rcases h with ⟨hst, hy, hK⟩ | ⟨hst, hy, hK⟩
    · exact anyV_firstS h0 hst (Region.noSelect_spec hs) l.length L a u (Region.free_spec h0 hf) hrk hy (next _ _ hK)
    · exact anyV_firstV h0 hst (Region.noSelect_spec hs) l.length L a u (Region.free_spec h0 hf) hrk hy (fun x => next _ _ (hK x))
theorem wp_region_any3 {id : Nat} {Q : Exit → Act → World → Prop} {a : Act} {w : World} {l : List Oper} (vs : List (Option Value)) (D : (Nat → Value) → Array Bool → World → Prop) (hm : P.follows .mixedOrders = true) (hB : Region.lexB .any l.toArray = true)
    (hC : ∀ L : Array Bool, (∀ i, L.getD i false = false) → D (fun _ => undef) L w.drew)
    (h : flowV P .any l.toArray vs D (fun a' u => ∀ L w', (∀ i, i < l.length → L.getD i false = true) → D u L w' → Q .normal a' w') 0 l a (fun _ => undef)) : (Code.region id l.toArray true).wp P Q a w := by
  simp only [Region.lexB, Bool.and_eq_true] at hB
  refine wp_region_any hm (wpAny_of_anyV (vs := vs) (D := D) (Q := fun L a u => (∀ i, i < l.toArray.size → L.getD i false = true) ∧ ∀ L w', (∀ i, i < l.length → L.getD i false = true) → D u L w' → Q .normal a w')
    (fun L a u w' hw' h => h.2 L w' (by simpa using h.1) hw') _ _ _ (fun _ => undef) _ (hC _ (fun i => getD_replicate_none _ _)) ?_)
  have := anyV_lex hB.1 l 0 (Array.replicate l.length false) a (fun _ => undef) (by simp) (by simp) (by simp) (fun i hi => absurd hi (by omega)) (by simpa using hB.2) h
  simpa using this
theorem flowV_st {Q : Act → (Nat → Value) → Prop} {k : Nat} {o : Oper} {rest : List Oper} {a : Act} {u : Nat → Value} (hs : stB vs k = true) (hg : o.guard = none)
    (h1 : ∀ u L w, L.getD k true = false → Behind md o L → D u L w → goesUpon P (D u (L.setIfInBounds k true)) (baseV vs k) ((execOp a.eval o).run P w)) (h2 : flowV P md ops vs D Q (k + 1) rest (a.put o.dst (baseV vs k)) u) : flowV P md ops vs D Q k (o :: rest) a u :=
  .inl ⟨hs, fun u => .inl ⟨by simp [Region.wanted, hg], h1 u⟩, h2⟩
theorem flowV_ch {Q : Act → (Nat → Value) → Prop} {k : Nat} {o : Oper} {rest : List Oper} {a : Act} {u : Nat → Value} (hs : stB vs k = false) (hg : o.guard = none)
    (h1 : ∀ u', (∀ e ∈ o.after, Region.binds md e = true → u' e.on = u e.on) → ∀ L w, L.getD k true = false → Behind md o L → D u' L w → eachUpon P (fun x w' => D (upd u' k x) (L.setIfInBounds k true) w') ((execOp a.eval o).run P w)) (h2 : ∀ x, flowV P md ops vs D Q (k + 1) rest (a.put o.dst x) (upd u k x)) : flowV P md ops vs D Q k (o :: rest) a u :=
  .inr ⟨hs, ⟨by simp [Region.wanted, hg], h1⟩, h2⟩
theorem flowV_nil {Q : Act → (Nat → Value) → Prop} {k : Nat} {a : Act} {u : Nat → Value} (h : Q a u) : flowV P md ops vs D Q k [] a u := h
end
section
variable {α : Type} {lt : α → α → Bool}
def Asc (lt : α → α → Bool) (l : List α) : Prop := l.Pairwise fun a b => lt a b = true
structure Strict (lt : α → α → Bool) : Prop where
  irr : ∀ x, lt x x = false
  tr : ∀ x y z, lt x y = true → lt y z = true → lt x z = true
theorem Strict.asym (h : Strict lt) {x y : α} (hx : lt x y = true) : lt y x = false := by
  cases hy : lt y x with
  | false => rfl
  | true => have := h.tr _ _ _ hx hy; rw [h.irr] at this; cases this
theorem asc_eq (hs : Strict lt) : ∀ a b : List α, Asc lt a → Asc lt b → (∀ z, z ∈ a ↔ z ∈ b) → a = b
  | [], [], _, _, _ => rfl
  | [], y :: b, _, _, h => by have := (h y).2 (List.mem_cons_self ..); cases this
  | x :: a, [], _, _, h => by have := (h x).1 (List.mem_cons_self ..); cases this
  | x :: a, y :: b, ha, hb, h => by
    rw [Asc, List.pairwise_cons] at ha hb
    have hxy : x = y := by
      rcases List.mem_cons.1 ((h x).1 (List.mem_cons_self ..)) with e | h1
      · exact e
      · rcases List.mem_cons.1 ((h y).2 (List.mem_cons_self ..)) with e | h2
        · exact e.symm
        · have h3 := hb.1 x h1
          have h4 := ha.1 y h2
          rw [hs.asym h3] at h4; cases h4
    subst hxy
    congr 1
    refine asc_eq hs a b ha.2 hb.2 fun z => ⟨fun hz => ?_, fun hz => ?_⟩
    · rcases List.mem_cons.1 ((h z).1 (List.mem_cons_of_mem _ hz)) with rfl | h1
      · have := ha.1 z hz; rw [hs.irr] at this; cases this
      · exact h1
    · rcases List.mem_cons.1 ((h z).2 (List.mem_cons_of_mem _ hz)) with rfl | h1
      · have := hb.1 z hz; rw [hs.irr] at this; cases this
      · exact h1
def insG (lt : α → α → Bool) (l : List α) (x : α) : List α := l.takeWhile (fun y => lt y x) ++ x :: l.dropWhile (fun y => lt y x)
def canG (lt : α → α → Bool) (l : List α) : List α := l.foldl (insG lt) []
theorem mem_insG {l : List α} {x z : α} : z ∈ insG lt l x ↔ z = x ∨ z ∈ l := by
  rw [insG, List.mem_append, List.mem_cons]
  constructor
  · rintro (h | h | h)
    · exact .inr (List.takeWhile_subset _ h)
    · exact .inl h
    · exact .inr (List.dropWhile_subset _ h)
  · rintro (h | h)
    · exact .inr (.inl h)
    · rw [← List.takeWhile_append_dropWhile (p := fun y => lt y x) (l := l), List.mem_append] at h
      exact h.elim .inl (fun h => .inr (.inr h))
theorem insG_len (l : List α) (x : α) : (insG lt l x).length = l.length + 1 := by
  have := congrArg List.length (List.takeWhile_append_dropWhile (p := fun y => lt y x) (l := l))
  rw [List.length_append] at this
  rw [insG, List.length_append, List.length_cons]; omega
theorem mem_foldG {z : α} : ∀ (l out : List α), z ∈ l.foldl (insG lt) out ↔ z ∈ out ∨ z ∈ l
  | [], out => by simp
  | x :: l, out => by
    rw [List.foldl_cons, mem_foldG l, mem_insG, List.mem_cons]
    constructor
    · rintro ((h | h) | h)
      · exact .inr (.inl h)
      · exact .inl h
      · exact .inr (.inr h)
    · rintro (h | h | h)
      · exact .inl (.inr h)
      · exact .inl (.inl h)
      · exact .inr h
theorem mem_canG {z : α} {l : List α} : z ∈ canG lt l ↔ z ∈ l := by rw [canG, mem_foldG]; simp
theorem foldG_len : ∀ (l out : List α), (l.foldl (insG lt) out).length = out.length + l.length
  | [], out => by simp
  | x :: l, out => by rw [List.foldl_cons, foldG_len l, insG_len, List.length_cons]; omega
theorem canG_len (l : List α) : (canG lt l).length = l.length := by rw [canG, foldG_len]; simp
theorem canG_take {l : List α} {i : Nat} (h : i < l.length) : canG lt (l.take (i + 1)) = insG lt (canG lt (l.take i)) l[i] := by
  rw [List.take_succ_eq_append_getElem h, canG, List.foldl_append]; rfl
theorem asc_while (hs : Strict lt) : ∀ {l : List α} {x : α}, Asc lt l → ∀ y ∈ l.dropWhile (fun y => lt y x), lt y x = false
  | [], _, _, y, hy => by cases hy
  | a :: l, x, h, y, hy => by
    rw [Asc, List.pairwise_cons] at h
    rw [List.dropWhile_cons] at hy
    split at hy
    · exact asc_while hs h.2 y hy
    · rename_i hax
      have hax : lt a x = false := by simpa using hax
      rcases List.mem_cons.1 hy with rfl | hy
      · exact hax
      · cases hyx : lt y x with
        | false => rfl
        | true => have := hs.tr _ _ _ (h.1 y hy) hyx; rw [hax] at this; cases this
theorem insG_asc (hs : Strict lt) {l : List α} {x : α} (h : Asc lt l) (ht : ∀ y ∈ l, lt y x = true ∨ lt x y = true) : Asc lt (insG lt l x) := by
  have hsub := List.takeWhile_append_dropWhile (p := fun y => lt y x) (l := l)
  have hp : Asc lt (l.takeWhile (fun y => lt y x) ++ l.dropWhile (fun y => lt y x)) := by rw [hsub]; exact h
  rw [Asc, List.pairwise_append] at hp
  obtain ⟨h1, h2, h3⟩ := hp
  have ha : ∀ y ∈ l.takeWhile (fun y => lt y x), lt y x = true := fun y hy => by
    have := List.all_takeWhile (p := fun y => lt y x) (l := l)
    exact List.all_eq_true.1 this y hy
  rw [insG, Asc, List.pairwise_append, List.pairwise_cons]
  refine ⟨h1, ⟨fun y hy => ?_, h2⟩, fun a hm b hb => ?_⟩
  · rcases ht y (List.dropWhile_subset _ hy) with h | h
    · rw [asc_while hs ‹Asc lt l› y hy] at h; cases h
    · exact h
  · rcases List.mem_cons.1 hb with rfl | hb
    · exact ha a hm
    · exact h3 a hm b hb
theorem foldG_asc (hs : Strict lt) : ∀ (l out : List α), Asc lt out → (∀ x ∈ l, ∀ y ∈ out, lt y x = true ∨ lt x y = true) → l.Pairwise (fun a b => lt a b = true ∨ lt b a = true) → Asc lt (l.foldl (insG lt) out)
  | [], out, h, _, _ => h
  | x :: l, out, h, ht, hp => by
    rw [List.pairwise_cons] at hp
    rw [List.foldl_cons]
    refine foldG_asc hs l _ (insG_asc hs h (ht x (List.mem_cons_self ..))) (fun z hz y hy => ?_) hp.2
    rcases mem_insG.1 hy with rfl | hy
    · exact hp.1 z hz
    · exact ht z (List.mem_cons_of_mem _ hz) y hy
theorem canG_asc (hs : Strict lt) {l : List α} (hp : l.Pairwise (fun a b => lt a b = true ∨ lt b a = true)) : Asc lt (canG lt l) := foldG_asc hs l [] List.Pairwise.nil (by simp) hp
theorem insG_at (x : α) : ∀ (P : List α) (j : Nat), (∀ y ∈ P.take j, lt y x = true) → (∀ y ∈ P.drop j, lt y x = false) → insG lt P x = P.take j ++ x :: P.drop j
  | [], j, _, _ => by simp [insG]
  | p :: P, 0, _, h2 => by
    have := h2 p (by simp)
    simp [insG, this]
  | p :: P, j + 1, h1, h2 => by
    have hp := h1 p (by simp)
    have ih := insG_at x P j (fun y hy => h1 y (by rw [List.take_succ_cons]; exact List.mem_cons_of_mem _ hy)) (fun y hy => h2 y (by rw [List.drop_succ_cons]; exact hy))
    rw [insG] at ih
    rw [insG, List.takeWhile_cons, List.dropWhile_cons, hp]
    simp only [if_true, List.cons_append, List.take_succ_cons, List.drop_succ_cons]
    rw [ih]
theorem sort_stop (hs : Strict lt) {P : List α} {x : α} {j : Nat} (hP : Asc lt P) (hj : j ≤ P.length) (hd : ∀ y ∈ P.drop j, lt x y = true) (ht : ∀ y ∈ P, lt y x = true ∨ lt x y = true)
    (hstop : j = 0 ∨ ∃ h : j - 1 < P.length, lt x P[j - 1] = false) : insG lt P x = P.take j ++ x :: P.drop j := by
  refine insG_at x P j (fun y hy => ?_) (fun y hy => hs.asym (hd y hy))
  rcases hstop with rfl | ⟨hlt, hst⟩
  · simp at hy
  by_cases hj0 : j = 0
  · subst hj0; simp at hy
  have hz : lt P[j - 1] x = true := by
    rcases ht _ (List.getElem_mem hlt) with h | h
    · exact h
    · rw [hst] at h; cases h
  obtain ⟨i, hi, rfl⟩ := List.getElem_of_mem hy
  rw [List.length_take] at hi
  rw [List.getElem_take]
  by_cases he : i = j - 1
  · subst he; exact hz
  · exact hs.tr _ _ _ (List.pairwise_iff_getElem.1 hP i (j - 1) (by omega) hlt (by omega)) hz
end
theorem strictS : Strict lessB := ⟨fun _ => less_irrefl _, fun _ _ _ => less_trans _ _ _⟩
theorem triS {x y : ByteArray} (h : x ≠ y) : lessB x y = true ∨ lessB y x = true := by
  have := less_total x.data.toList y.data.toList
  rw [lessB, lessB]
  cases hy : Op.bytesLess y.data.toList x.data.toList with
  | true => exact .inr rfl
  | false =>
    rw [hy, Bool.false_or] at this
    left
    rw [this]
    simp only [Bool.not_eq_true', beq_eq_false_iff_ne]
    exact fun e => h (ByteArray.ext (Array.toList_inj.1 e.symm))
theorem nodup_tri {l : List ByteArray} (h : l.Nodup) : l.Pairwise (fun a b => lessB a b = true ∨ lessB b a = true) := h.imp fun h => triS h
def lessU (u v : Un) : Bool := lessB u.name v.name
theorem strictU : Strict lessU := ⟨fun _ => less_irrefl _, fun _ _ _ => less_trans _ _ _⟩
open Go.RowKit
theorem rowS_cell {w : World} {base n c : Nat} {e : TypeId} {p : Option Addr} {D : List ByteArray} (h : w.ownsRow base e 1 (.slice p n c) n (strW D)) (h0 : 0 < n) : ∃ g, p = some ⟨g, 0, none⟩ ∧ base ≤ g ∧ g < w.heap.size ∧ (∀ j, w.frozen? ⟨g, j, none⟩ = false) ∧ ∀ (k : Nat) (y : ByteArray), D[k]? = some y → w.cell? ⟨g, k, none⟩ = some (.string y) := by
  rcases h.2 with ⟨hv, h1⟩ | ⟨g, cap, cur, hv, h1, h2, h3, h4, h5, h6⟩
  · omega
  · simp only [Value.slice.injEq, true_and] at hv
    obtain ⟨rfl, rfl⟩ := hv
    refine ⟨g, rfl, h1, blk_lt h2, fun j => frozen_of_row w g j _ _ h2, fun k y hy => ?_⟩
    rw [cell_of_row w g k cur _ (0, 0) h2]
    have hk : (strW D)[k]? = some (.string y) := by rw [strW, List.getElem?_map, hy]; rfl
    rw [← h6, List.getElem?_take] at hk
    split at hk
    · simpa using hk
    · cases hk
theorem rowS_set {w : World} {base n c g k : Nat} {e : TypeId} {D : List ByteArray} (y : ByteArray) (h : w.ownsRow base e 1 (.slice (some ⟨g, 0, none⟩) n c) n (strW D)) : (w.setCell ⟨g, k, none⟩ (.string y)).ownsRow base e 1 (.slice (some ⟨g, 0, none⟩) n c) n (strW (D.set k y)) := by
  rcases h.2 with ⟨hv, h1⟩ | ⟨g', cap, cur, hv, h1, h2, h3, h4, h5, h6⟩
  · cases hv
  · simp only [Value.slice.injEq, Option.some.injEq, Addr.mk.injEq, and_true, true_and] at hv
    obtain ⟨rfl, rfl⟩ := hv
    refine ⟨by have := h.1; simpa [strW] using this, .inr ⟨g, c, cur.setIfInBounds k (.string y), rfl, h1, heap_setCell_same w g k cur _ _ h2, h3, h4, by simpa using h5, ?_⟩⟩
    rw [Array.toList_setIfInBounds, List.take_set, h6, strW, strW, List.map_set]
theorem set_swap {P R : List ByteArray} {x y : ByteArray} {j : Nat} (hj : 0 < j) (hjp : j ≤ P.length) (hy : P[j - 1]? = some y) : ((P.take j ++ x :: P.drop j ++ R).set j y).set (j - 1) x = P.take (j - 1) ++ x :: P.drop (j - 1) ++ R ∧ ((P.take j ++ x :: P.drop j ++ R).set (j - 1) x).set j y = P.take (j - 1) ++ x :: P.drop (j - 1) ++ R := by
  obtain ⟨i, rfl⟩ : ∃ i, j = i + 1 := ⟨j - 1, by omega⟩
  simp only [Nat.add_sub_cancel] at hy ⊢
  have hi : i < P.length := by omega
  have hy' : P[i] = y := by rw [List.getElem?_eq_getElem hi] at hy; exact Option.some.inj hy
  have e1 : P.take (i + 1) = P.take i ++ [y] := by rw [List.take_succ_eq_append_getElem hi, hy']
  have e2 : P.drop i = y :: P.drop (i + 1) := by rw [List.drop_eq_getElem_cons hi, hy']
  have hl : (P.take i).length = i := by rw [List.length_take]; omega
  have key : ∀ a b : ByteArray, P.take i ++ [a] ++ b :: P.drop (i + 1) ++ R = P.take i ++ (a :: b :: (P.drop (i + 1) ++ R)) := fun a b => by simp
  have s1 : ∀ a b z : ByteArray, (P.take i ++ (a :: b :: (P.drop (i + 1) ++ R))).set i z = P.take i ++ (z :: b :: (P.drop (i + 1) ++ R)) := fun a b z => by
    rw [List.set_append_right _ _ (by omega), hl, Nat.sub_self]; rfl
  have s2 : ∀ a b z : ByteArray, (P.take i ++ (a :: b :: (P.drop (i + 1) ++ R))).set (i + 1) z = P.take i ++ (a :: z :: (P.drop (i + 1) ++ R)) := fun a b z => by
    rw [List.set_append_right _ _ (by omega), hl, show i + 1 - i = 1 by omega]; rfl
  rw [e1, e2, key, s2, s1, s1, s2]
  constructor <;> simp
set_option maxRecDepth 100000 in
theorem lessS_any (x y : ByteArray) (w : World) : Calls Tryz.prog 173 #[.string x, .string y] w fun e w' => e = .returned (.bool (lessB x y)) ∧ Below w.heap.size w w' := by
  have hl : Op.bytesLess x.toList y.toList = lessB x y := by rw [lessB, ByteArray.toList_eq, ByteArray.toList_eq]
  go_enter Tryz.func173, Tryz.ntmps173
  go_wp2
  go_ret
  exact ⟨ret_bool (by rw [← hl]), by exact bel⟩
set_option maxRecDepth 100000 in
set_option maxHeartbeats 6400000 in
theorem insSort_any (base : Nat) (l : List ByteArray) (p : Option Addr) (c : Nat) (w : World) (h : w.ownsRow base 9 1 (.slice p l.length c) l.length (strW l)) (hn : l.length ≤ 1000000) (hnd : l.Nodup) :
    Calls Tryz.prog 167 #[.slice p l.length c, .int .i64 0, .int .i64 l.length] w fun e w' => e = .returned (.tuple #[]) ∧ w'.ownsRow base 9 1 (.slice p l.length c) l.length (strW (canG lessB l)) ∧ w.grownBy w' (Value.slice p l.length c).ownBlock := by
  have H := Lib.hid h
  have HND := Lib.hid hnd
  clear h hnd
  go_enter Tryz.func167, Tryz.ntmps167
  go_wp2
  go_loopw [6] (fun i wr => ∃ k : Nat, 1 ≤ k ∧ k ≤ l.length + 1 ∧ i = .int .i64 k ∧ wr.ownsRow base 9 1 (.slice p l.length c) l.length (strW (canG lessB (l.take k) ++ l.drop k)) ∧ w.grownBy wr (Value.slice p l.length c).ownBlock) (fun i _ => l.length - (intOf i).toNat)
  case atStart =>
    refine ⟨1, Nat.le_refl _, by omega, rfl, ?_, ⟨rfl, rfl, rfl, Nat.le_refl _, fun _ _ _ => rfl⟩⟩
    have : canG lessB (l.take 1) ++ l.drop 1 = l := by cases l with | nil => rfl | cons a l => rfl
    rw [this]; exact H.out
  case round =>
    obtain ⟨k, hk1, hk2, rfl, hrow, hgr⟩ := hrel
    have HG := Lib.hid hgr
    by_cases hlt : k < l.length
    · have HROW := Lib.hid hrow
      obtain ⟨g, rfl, hbg, hgl, -, -⟩ := rowS_cell hrow (by omega)
      have HCT := Lib.hid (canG_take (lt := lessB) hlt)
      have HDR := Lib.hid (List.drop_eq_getElem_cons hlt)
      have hPl : (canG lessB (l.take k)).length = k := by rw [canG_len, List.length_take]; omega
      have HASC := Lib.hid (canG_asc strictS (nodup_tri (HND.out.sublist (List.take_sublist k l))))
      have HTRI := Lib.hid (show ∀ y ∈ canG lessB (l.take k), lessB y l[k] = true ∨ lessB l[k] y = true from fun y hy => by
        have hy := mem_canG.1 hy
        refine triS (fun e => ?_)
        obtain ⟨i, hi, hie⟩ := List.getElem_of_mem hy
        rw [List.length_take] at hi
        rw [List.getElem_take, e] at hie
        have := (List.getElem_inj HND.out).1 hie
        omega)
      obtain ⟨x, hx⟩ : ∃ x, l[k] = x := ⟨_, rfl⟩
      rw [hx] at HCT HDR HTRI
      clear hx hrow hgr
      generalize hP : canG lessB (l.take k) = P at *
      obtain ⟨wA, hwA⟩ : ∃ q, q = wr := ⟨_, rfl⟩
      subst hwA
      have hki : (k : Int) < l.length := by omega
      clear hP
      go_wp2
      go_loopw [7] (fun jv wr' => ∃ j : Nat, j ≤ k ∧ jv = .int .i64 j ∧ wr'.ownsRow base 9 1 (.slice (some ⟨g, 0, none⟩) l.length c) l.length (strW (P.take j ++ x :: P.drop j ++ l.drop (k + 1))) ∧ (∀ y ∈ P.drop j, lessB x y = true) ∧ wA.grownBy wr' (some g)) (fun jv _ => (intOf jv).toNat)
      case atStart =>
        refine ⟨k, Nat.le_refl _, rfl, ?_, ?_, ⟨rfl, rfl, rfl, Nat.le_refl _, fun _ _ _ => rfl⟩⟩
        · rw [← hPl, List.take_length, List.drop_length, hPl]
          have := HROW.out
          rw [HDR.out] at this
          simpa using this
        · rw [← hPl, List.drop_length]; intro y hy; cases hy
      case round =>
        obtain ⟨j, hj, rfl, hrow, hall, hgi⟩ := hrel
        have HROW2 := Lib.hid hrow
        have HALL := Lib.hid hall
        have HGI := Lib.hid hgi
        obtain ⟨g', hge, -, hgl2, hfz, hcl⟩ := rowS_cell hrow (by omega)
        simp only [Option.some.injEq, Addr.mk.injEq, and_true] at hge
        subst hge
        have zg := bsz hgl2
        have hPt : (P.take j).length = j := by rw [List.length_take]; omega
        have c1 : wr.cell? ⟨g, j, none⟩ = some (.string x) := hcl j x (by rw [List.append_assoc, List.getElem?_append_right (by omega), hPt, Nat.sub_self]; rfl)
        clear hrow hall hgi
        by_cases hj0 : 0 < j
        · have hjp : j - 1 < P.length := by omega
          obtain ⟨y, hy⟩ : ∃ y, P[j - 1] = y := ⟨_, rfl⟩
          have c2 : wr.cell? ⟨g, j - 1, none⟩ = some (.string y) := hcl (j - 1) y (by
            rw [List.append_assoc, List.getElem?_append_left (by omega), List.getElem?_take, if_pos (by omega), List.getElem?_eq_getElem hjp, hy])
          have HY := Lib.hid hy
          have hwj : IntKind.i64.wrap ((j : Int) - 1) = ((j - 1 : Nat) : Int) := by rw [IntWalk.i64_in _ (by omega)]; omega
          have hji : (0 : Int) < j := by omega
          have hjl : (j : Int) < l.length := by omega
          have hjl2 : ((j - 1 : Nat) : Int) < l.length := by omega
          clear hcl hy
          cases hL : lessB x y
          all_goals have HLX := Lib.hid hL
          · go_wp2
            obtain ⟨C, HC0⟩ := class_of (InF wr.heap.size _ [(⟨g, j, none⟩, .string x), (⟨g, j - 1, none⟩, .string y)] [] [])
            have HC := Lib.hid HC0
            clear HC0
            refine wp_region_flow (C := C) (by kernel_rfl) (by kernel_rfl) (fun L hL => (HC.out _ _).2 (InF.start (by first | (intro _ hs; cases hs; done) | (simp only [List.forall_mem_cons]; go_simp)) (by first | (intro _ hs; cases hs; done) | (simp only [List.forall_mem_cons]; go_simp)) (by first | (intro _ hs; cases hs; done) | (simp only [List.forall_mem_cons]; go_simp)) (by first | (intro _ hs; cases hs; done) | (simp only [List.forall_mem_cons]; go_simp)) L hL)) ?_
            repeat (first | ((first | apply flow_free rfl | (apply flow_yes; (case hw => go_simp))); (intro L w' hun hrd hC; have hC := (HC.out _ _).1 hC; have hb' := hC.below; (try have hw' : Below w.heap.size w w' := by first | exact Below.trans (by (repeat (first | with_reducible (first | exact bR _ _ | assumption | refine bA ?_ _ | refine bS ?_ (by first | exact Nat.le_refl _ | (simp; done) | (simp; omega)) _) | assumption | exact bR _ _ | refine bD ?_ | refine bN ?_ _ | refine bT ?_ (by assumption)))) hb' | ((repeat (first | with_reducible (first | exact bR _ _ | assumption | refine bA ?_ _ | refine bS ?_ (by first | exact Nat.le_refl _ | (simp; done) | (simp; omega)) _) | assumption | exact bR _ _ | refine bD ?_ | refine bN ?_ _ | refine bT ?_ (by assumption))); done)); have hf' := hC.cell; (try simp only [List.forall_mem_cons] at hf'); go_simp; first | exact ⟨(HC.out _ _).2 (hC.skip _ (by rfl)), rfl⟩ | (rw [if_neg]; (exact ⟨(HC.out _ _).2 (hC.skip _ (by rfl)), rfl⟩); omega) | (go_at_call 173; refine (lessS_any x y _).mono ?_; rintro e w1 ⟨rfl, hb1⟩; exact ⟨rfl, (HC.out _ _).2 ((hC.next (by first | (simp; done) | (simp; omega) | omega) hb1).skip _ (by rfl))⟩)); go_simp) | (apply flow_no; (case hw => (go_simp; try (intro hh; cases hh))); (intro L w' _ _ hC; exact (HC.out _ _).2 (((HC.out _ _).1 hC).skip _ (by rfl))); go_simp))
            refine flow_nil ?_
            intro L wz hL hz
            have hz := (HC.out _ _).1 hz
            have hbz := hz.below
            have hcz := hz.cell
            try simp only [List.forall_mem_cons] at hcz
            have hdz := hz.done
            try simp only [List.forall_mem_cons] at hdz
            (try have hwz : Below w.heap.size w wz := by first | exact Below.trans (by (repeat (first | with_reducible (first | exact bR _ _ | assumption | refine bA ?_ _ | refine bS ?_ (by first | exact Nat.le_refl _ | (simp; done) | (simp; omega)) _) | assumption | exact bR _ _ | refine bD ?_ | refine bN ?_ _ | refine bT ?_ (by assumption)))) hbz | ((repeat (first | with_reducible (first | exact bR _ _ | assumption | refine bA ?_ _ | refine bS ?_ (by first | exact Nat.le_refl _ | (simp; done) | (simp; omega)) _) | assumption | exact bR _ _ | refine bD ?_ | refine bN ?_ _ | refine bT ?_ (by assumption))); done))
            go_wp2
            refine ⟨⟨k + 1, by omega, by omega, by go_num, ?_, ?_⟩, by simp [intOf]; omega⟩
            · rw [HCT.out, sort_stop (j := j) strictS HASC.out (by omega) HALL.out HTRI.out (.inr ⟨hjp, by rw [HY.out]; exact HLX.out⟩)]
              exact own_below HROW2.out hbz
            · exact (HG.out.trans HGI.out).trans ⟨hbz.os, hbz.tape, hbz.output, hbz.size, fun b hb _ => hbz.block b hb⟩
          · go_wp2
            obtain ⟨C, HC0⟩ := class_of (InF wr.heap.size _ [(⟨g, j, none⟩, .string x), (⟨g, j - 1, none⟩, .string y)] [] [])
            have HC := Lib.hid HC0
            clear HC0
            refine wp_region_flow (C := C) (by kernel_rfl) (by kernel_rfl) (fun L hL => (HC.out _ _).2 (InF.start (by first | (intro _ hs; cases hs; done) | (simp only [List.forall_mem_cons]; go_simp)) (by first | (intro _ hs; cases hs; done) | (simp only [List.forall_mem_cons]; go_simp)) (by first | (intro _ hs; cases hs; done) | (simp only [List.forall_mem_cons]; go_simp)) (by first | (intro _ hs; cases hs; done) | (simp only [List.forall_mem_cons]; go_simp)) L hL)) ?_
            repeat (first | ((first | apply flow_free rfl | (apply flow_yes; (case hw => go_simp))); (intro L w' hun hrd hC; have hC := (HC.out _ _).1 hC; have hb' := hC.below; (try have hw' : Below w.heap.size w w' := by first | exact Below.trans (by (repeat (first | with_reducible (first | exact bR _ _ | assumption | refine bA ?_ _ | refine bS ?_ (by first | exact Nat.le_refl _ | (simp; done) | (simp; omega)) _) | assumption | exact bR _ _ | refine bD ?_ | refine bN ?_ _ | refine bT ?_ (by assumption)))) hb' | ((repeat (first | with_reducible (first | exact bR _ _ | assumption | refine bA ?_ _ | refine bS ?_ (by first | exact Nat.le_refl _ | (simp; done) | (simp; omega)) _) | assumption | exact bR _ _ | refine bD ?_ | refine bN ?_ _ | refine bT ?_ (by assumption))); done)); have hf' := hC.cell; (try simp only [List.forall_mem_cons] at hf'); go_simp; first | exact ⟨(HC.out _ _).2 (hC.skip _ (by rfl)), rfl⟩ | (rw [if_neg]; (exact ⟨(HC.out _ _).2 (hC.skip _ (by rfl)), rfl⟩); omega) | (go_at_call 173; refine (lessS_any x y _).mono ?_; rintro e w1 ⟨rfl, hb1⟩; exact ⟨rfl, (HC.out _ _).2 ((hC.next (by first | (simp; done) | (simp; omega) | omega) hb1).skip _ (by rfl))⟩)); go_simp) | (apply flow_no; (case hw => (go_simp; try (intro hh; cases hh))); (intro L w' _ _ hC; exact (HC.out _ _).2 (((HC.out _ _).1 hC).skip _ (by rfl))); go_simp))
            refine flow_nil ?_
            intro L wz hL hz
            have hz := (HC.out _ _).1 hz
            have hbz := hz.below
            have hcz := hz.cell
            try simp only [List.forall_mem_cons] at hcz
            have hdz := hz.done
            try simp only [List.forall_mem_cons] at hdz
            (try have hwz : Below w.heap.size w wz := by first | exact Below.trans (by (repeat (first | with_reducible (first | exact bR _ _ | assumption | refine bA ?_ _ | refine bS ?_ (by first | exact Nat.le_refl _ | (simp; done) | (simp; omega)) _) | assumption | exact bR _ _ | refine bD ?_ | refine bN ?_ _ | refine bT ?_ (by assumption)))) hbz | ((repeat (first | with_reducible (first | exact bR _ _ | assumption | refine bA ?_ _ | refine bS ?_ (by first | exact Nat.le_refl _ | (simp; done) | (simp; omega)) _) | assumption | exact bR _ _ | refine bD ?_ | refine bN ?_ _ | refine bT ?_ (by assumption))); done))
            have d1 := (hbz.cell hgl2).trans c1
            have d2 := (hbz.cell hgl2).trans c2
            have df : ∀ i, wz.frozen? ⟨g, i, none⟩ = false := fun i => (hbz.frozen (p := ⟨g, i, none⟩) hgl2).trans (hfz i)
            have zgz := bsz (World.block_lt_of_cell? _ _ d1)
            go_wp2
            go_region_with fail
            all_goals go_wp2
            all_goals
              have hpy : P[j - 1]? = some y := by rw [List.getElem?_eq_getElem hjp, HY.out]
              refine ⟨⟨j - 1, by omega, rfl, ?_, ?_, ?_⟩, by simp [intOf]; omega⟩
              · have hr := rowS_set (k := j - 1) x (rowS_set (k := j) y (own_below HROW2.out hbz))
                rw [(set_swap hj0 (by omega) hpy).1] at hr
                exact hr
              · intro q hq
                rw [List.drop_eq_getElem_cons hjp, HY.out] at hq
                rcases List.mem_cons.1 hq with rfl | hq
                · exact HLX.out
                · rw [show j - 1 + 1 = j by omega] at hq; exact HALL.out q hq
              · have hgz : wA.grownBy wz (some g) := HGI.out.trans ⟨hbz.os, hbz.tape, hbz.output, hbz.size, fun b hb _ => hbz.block b hb⟩
                exact ⟨hgz.os, hgz.tape, hgz.output, by simpa using hgz.size, fun b hb hne => (heap_setCell_other _ ⟨g, j - 1, none⟩ b _ (fun e => hne (congrArg some e))).trans ((heap_setCell_other _ ⟨g, j, none⟩ b _ (fun e => hne (congrArg some e))).trans (hgz.block b hb hne))⟩
        · obtain rfl : j = 0 := by omega
          go_wp2
          obtain ⟨C, HC0⟩ := class_of (InF wr.heap.size _ [] [] [])
          have HC := Lib.hid HC0
          clear HC0
          refine wp_region_flow (C := C) (by kernel_rfl) (by kernel_rfl) (fun L hL => (HC.out _ _).2 (InF.start (by first | (intro _ hs; cases hs; done) | (simp only [List.forall_mem_cons]; go_simp)) (by first | (intro _ hs; cases hs; done) | (simp only [List.forall_mem_cons]; go_simp)) (by first | (intro _ hs; cases hs; done) | (simp only [List.forall_mem_cons]; go_simp)) (by first | (intro _ hs; cases hs; done) | (simp only [List.forall_mem_cons]; go_simp)) L hL)) ?_
          repeat (first | ((first | apply flow_free rfl | (apply flow_yes; (case hw => go_simp))); (intro L w' hun hrd hC; have hC := (HC.out _ _).1 hC; have hb' := hC.below; have hf' := hC.cell; (try simp only [List.forall_mem_cons] at hf'); go_simp; first | exact ⟨(HC.out _ _).2 (hC.skip _ (by rfl)), rfl⟩ | (rw [if_neg]; (exact ⟨(HC.out _ _).2 (hC.skip _ (by rfl)), rfl⟩); omega) | fail); go_simp) | (apply flow_no; (case hw => (go_simp; try (intro hh; cases hh))); (intro L w' _ _ hC; exact (HC.out _ _).2 (((HC.out _ _).1 hC).skip _ (by rfl))); go_simp))
          refine flow_nil ?_
          intro L wz hL hz
          have hz := (HC.out _ _).1 hz
          have hbz := hz.below
          have hcz := hz.cell
          try simp only [List.forall_mem_cons] at hcz
          have hdz := hz.done
          try simp only [List.forall_mem_cons] at hdz
          (try have hwz : Below w.heap.size w wz := by first | exact Below.trans (by (repeat (first | with_reducible (first | exact bR _ _ | assumption | refine bA ?_ _ | refine bS ?_ (by first | exact Nat.le_refl _ | (simp; done) | (simp; omega)) _) | assumption | exact bR _ _ | refine bD ?_ | refine bN ?_ _ | refine bT ?_ (by assumption)))) hbz | ((repeat (first | with_reducible (first | exact bR _ _ | assumption | refine bA ?_ _ | refine bS ?_ (by first | exact Nat.le_refl _ | (simp; done) | (simp; omega)) _) | assumption | exact bR _ _ | refine bD ?_ | refine bN ?_ _ | refine bT ?_ (by assumption))); done))
          go_wp2
          refine ⟨⟨k + 1, by omega, by omega, by go_num, ?_, ?_⟩, by simp [intOf]; omega⟩
          · rw [HCT.out, sort_stop (j := 0) strictS HASC.out (by omega) HALL.out HTRI.out (.inl rfl)]
            exact own_below HROW2.out hbz
          · exact (HG.out.trans HGI.out).trans ⟨hbz.os, hbz.tape, hbz.output, hbz.size, fun b hb _ => hbz.block b hb⟩
    · have hck : canG lessB (l.take k) ++ l.drop k = canG lessB l := by rw [List.take_of_length_le (by omega), List.drop_eq_nil_of_le (by omega), List.append_nil]
      rw [hck] at hrow
      have HROW := Lib.hid hrow
      clear hrow hck hgr
      have hkl : ¬ (k : Int) < l.length := by omega
      go_wp2
      go_end0
      exact ⟨rfl, HROW.out, HG.out⟩
set_option maxRecDepth 100000 in
set_option maxHeartbeats 3200000 in
theorem pdqS_any (base : Nat) (l : List ByteArray) (p : Option Addr) (c : Nat) (lim : Int) (w : World) (h : w.ownsRow base 9 1 (.slice p l.length c) l.length (strW l)) (hn : l.length ≤ 12) (hnd : l.Nodup) :
    Calls Tryz.prog 132 #[.slice p l.length c, .int .i64 0, .int .i64 l.length, .int .i64 lim] w fun e w' => e = .returned (.tuple #[]) ∧ w'.ownsRow base 9 1 (.slice p l.length c) l.length (strW (canG lessB l)) ∧ w.grownBy w' (Value.slice p l.length c).ownBlock := by
  have H := Lib.hid (insSort_any base l p c w h (by omega) hnd)
  have hi : (l.length : Int) ≤ 12 := by omega
  clear h hnd
  go_enter Tryz.func132, Tryz.ntmps132
  go_wp2
  go_loopw [1, 2] (fun a b wr => a = .int .i64 0 ∧ b = .int .i64 l.length ∧ wr = w) (fun _ _ _ => 0)
  case atStart => exact ⟨rfl, rfl, rfl⟩
  case round =>
    obtain ⟨rfl, rfl, rfl⟩ := hrel
    go_wp2_with fail
    refine H.out.mono ?_
    rintro e w1 ⟨rfl, h1, h2⟩
    have H1 := Lib.hid (And.intro h1 h2)
    clear h1 h2
    go_wp2
    refine bodyPost_ret (results_none rfl _ _ _) rfl ?_
    exact ⟨rfl, H1.out.1, H1.out.2⟩
set_option maxRecDepth 100000 in
theorem bitsLen_any (n : Nat) (w : World) (hn : n ≤ 1000000) : Calls Tryz.prog 133 #[.int .u64 n] w fun e w' => ∃ r : Int, e = .returned (.int .i64 r) ∧ w' = w := by
  go_enter Tryz.func133, Tryz.ntmps133
  go_wp2_with fail
  refine (Tryz.bits_Len64 (n : Int) w (by omega) (by omega)).mono ?_
  rintro e w1 ⟨rfl, rfl⟩
  go_wp2
  go_ret
  exact ⟨_, rfl, rfl⟩
set_option maxRecDepth 100000 in
set_option maxHeartbeats 1600000 in
theorem sortS_any (base : Nat) (l : List ByteArray) (p : Option Addr) (c : Nat) (w : World) (h : w.ownsRow base 9 1 (.slice p l.length c) l.length (strW l)) (hn : l.length ≤ 12) (hnd : l.Nodup) :
    Calls Tryz.prog 73 #[.slice p l.length c] w fun e w' => e = .returned (.tuple #[]) ∧ w'.ownsRow base 9 1 (.slice p l.length c) l.length (strW (canG lessB l)) ∧ w.grownBy w' (Value.slice p l.length c).ownBlock := by
  have H := Lib.hid (fun lim => pdqS_any base l p c lim w h hn hnd)
  have hw : IntKind.u64.wrap (l.length : Int) = l.length := by simp [IntKind.wrap, IntKind.bits, IntKind.signed]; omega
  clear h hnd
  go_enter Tryz.func73, Tryz.ntmps73
  go_wp2_with fail
  refine (bitsLen_any l.length w (by omega)).mono ?_
  rintro e w1 ⟨r, rfl, rfl⟩
  clear hw
  go_wp2_with fail
  refine (H.out r).mono ?_
  rintro e w2 ⟨rfl, h1, h2⟩
  have H1 := Lib.hid (And.intro h1 h2)
  clear h1 h2
  go_wp2
  go_end0
  exact ⟨rfl, H1.out.1, H1.out.2⟩
open Go.RowKit
structure UC where
  u : Un
  p : Option Addr
  c : Nat
  q : Option Addr
  d : Nat
def UC.cs (x : UC) : List Value := [.string x.u.name, .slice x.p x.u.incs.length x.c, .slice x.q x.u.axs.length x.d, .string x.u.goal]
def flatU (D : List UC) : List Value := D.flatMap UC.cs
theorem flatU_len : ∀ D : List UC, (flatU D).length = D.length * 4
  | [] => rfl
  | x :: D => by
    have := flatU_len D
    rw [flatU] at this
    rw [flatU, List.flatMap_cons, List.length_append, this, List.length_cons]
    show 4 + D.length * 4 = _; omega
theorem flatU_app (A B : List UC) : flatU (A ++ B) = flatU A ++ flatU B := by simp [flatU]
theorem flatU_at {D : List UC} {k : Nat} {y : UC} (h : D[k]? = some y) {i : Nat} (hi : i < 4) : (flatU D)[k * 4 + i]? = y.cs[i]? := by
  obtain ⟨hk, hy⟩ := List.getElem?_eq_some_iff.1 h
  have e : D = D.take k ++ y :: D.drop (k + 1) := by rw [← hy, ← List.drop_eq_getElem_cons hk, List.take_append_drop]
  have hl : (flatU (D.take k)).length = k * 4 := by rw [flatU_len, List.length_take]; congr 1; omega
  rw [e, flatU_app, List.getElem?_append_right (by omega), hl, Nat.add_sub_cancel_left]
  rw [flatU, List.flatMap_cons, List.getElem?_append_left (by show i < 4; exact hi)]
theorem flatU_set {D : List UC} {k : Nat} (hk : k < D.length) (y : UC) : flatU (D.set k y) = ((((flatU D).set (k * 4) (.string y.u.name)).set (k * 4 + 1) (.slice y.p y.u.incs.length y.c)).set (k * 4 + 2) (.slice y.q y.u.axs.length y.d)).set (k * 4 + 3) (.string y.u.goal) := by
  have hl : (flatU (D.take k)).length = k * 4 := by rw [flatU_len, List.length_take]; congr 1; omega
  have e : D = D.take k ++ D[k] :: D.drop (k + 1) := by rw [← List.drop_eq_getElem_cons hk, List.take_append_drop]
  have e2 : D.set k y = D.take k ++ y :: D.drop (k + 1) := by
    rw [List.set_eq_take_append_cons_drop, if_pos hk]
  have e3 : flatU D = flatU (D.take k) ++ (D[k].cs ++ flatU (D.drop (k + 1))) := by
    conv => lhs; rw [e]
    rw [flatU_app]; rfl
  rw [e2, flatU_app, e3]
  have s : ∀ (A : List Value) (i : Nat) (z : Value), (flatU (D.take k) ++ A).set (k * 4 + i) z = flatU (D.take k) ++ A.set i z := fun A i z => by
    rw [List.set_append_right _ _ (by omega), hl, Nat.add_sub_cancel_left]
  have s0 : ∀ (A : List Value) (z : Value), (flatU (D.take k) ++ A).set (k * 4) z = flatU (D.take k) ++ A.set 0 z := fun A z => by have := s A 0 z; rwa [Nat.add_zero] at this
  rw [s0, s, s, s]
  rfl
theorem rowU_cell {w : World} {base n c : Nat} {e : TypeId} {p : Option Addr} {D : List UC} (h : w.ownsRow base e 4 (.slice p n c) n (flatU D)) (h0 : 0 < n) : ∃ g, p = some ⟨g, 0, none⟩ ∧ base ≤ g ∧ g < w.heap.size ∧ (∀ j, w.frozen? ⟨g, j, none⟩ = false) ∧
    ∀ (k : Nat) (y : UC), D[k]? = some y → w.cell? ⟨g, k * 4, none⟩ = some (.string y.u.name) ∧ w.cell? ⟨g, k * 4 + 1, none⟩ = some (.slice y.p y.u.incs.length y.c) ∧ w.cell? ⟨g, k * 4 + 2, none⟩ = some (.slice y.q y.u.axs.length y.d) ∧ w.cell? ⟨g, k * 4 + 3, none⟩ = some (.string y.u.goal) := by
  rcases h.2 with ⟨hv, h1⟩ | ⟨g, cap, cur, hv, h1, h2, h3, h4, h5, h6⟩
  · omega
  · simp only [Value.slice.injEq, true_and] at hv
    obtain ⟨rfl, rfl⟩ := hv
    refine ⟨g, rfl, h1, blk_lt h2, fun j => frozen_of_row w g j _ _ h2, fun k y hy => ?_⟩
    have key : ∀ i, i < 4 → w.cell? ⟨g, k * 4 + i, none⟩ = y.cs[i]? := fun i hi => by
      rw [cell_of_row w g (k * 4 + i) cur _ (0, 0) h2]
      have hk := flatU_at hy hi
      rw [← h6, List.getElem?_take] at hk
      split at hk
      · simpa using hk
      · rw [List.getElem?_eq_getElem (by show i < 4; exact hi)] at hk; cases hk
    exact ⟨key 0 (by omega), key 1 (by omega), key 2 (by omega), key 3 (by omega)⟩
abbrev set4W (W : World) (b o : Nat) (u0 u1 u2 u3 : Value) : World := (((W.setCell ⟨b, o, none⟩ u0).setCell ⟨b, o + 1, none⟩ u1).setCell ⟨b, o + 2, none⟩ u2).setCell ⟨b, o + 3, none⟩ u3
theorem set4_other (W : World) {b o k : Nat} (u0 u1 u2 u3 : Value) (hk : k ≠ b) : (set4W W b o u0 u1 u2 u3).heap[k]? = W.heap[k]? :=
  (heap_setCell_other _ ⟨b, o + 3, none⟩ k _ hk).trans ((heap_setCell_other _ ⟨b, o + 2, none⟩ k _ hk).trans ((heap_setCell_other _ ⟨b, o + 1, none⟩ k _ hk).trans (heap_setCell_other _ ⟨b, o, none⟩ k _ hk)))
theorem rowU_set {w : World} {base n c g k : Nat} {e : TypeId} {D : List UC} (y : UC) (hk : k < D.length) (h : w.ownsRow base e 4 (.slice (some ⟨g, 0, none⟩) n c) n (flatU D)) : (set4W w g (k * 4) (.string y.u.name) (.slice y.p y.u.incs.length y.c) (.slice y.q y.u.axs.length y.d) (.string y.u.goal)).ownsRow base e 4 (.slice (some ⟨g, 0, none⟩) n c) n (flatU (D.set k y)) := by
  rcases h.2 with ⟨hv, h1⟩ | ⟨g', cap, cur, hv, h1, h2, h3, h4, h5, h6⟩
  · cases hv
  · simp only [Value.slice.injEq, Option.some.injEq, Addr.mk.injEq, and_true, true_and] at hv
    obtain ⟨rfl, rfl⟩ := hv
    refine ⟨by have := h.1; rw [flatU_len] at this ⊢; rw [List.length_set]; exact this, .inr ⟨g, c, _, rfl, h1, heap_setCell_same _ g (k * 4 + 3) _ _ _ (heap_setCell_same _ g (k * 4 + 2) _ _ _ (heap_setCell_same _ g (k * 4 + 1) _ _ _ (heap_setCell_same w g (k * 4) cur _ _ h2))), h3, h4, by simpa using h5, ?_⟩⟩
    rw [Array.toList_setIfInBounds, Array.toList_setIfInBounds, Array.toList_setIfInBounds, Array.toList_setIfInBounds, List.take_set, List.take_set, List.take_set, List.take_set, h6, flatU_set hk]
theorem set_swapU {P R : List UC} {x y : UC} {j : Nat} (hj : 0 < j) (hjp : j ≤ P.length) (hy : P[j - 1]? = some y) : ((P.take j ++ x :: P.drop j ++ R).set j y).set (j - 1) x = P.take (j - 1) ++ x :: P.drop (j - 1) ++ R := by
  obtain ⟨i, rfl⟩ : ∃ i, j = i + 1 := ⟨j - 1, by omega⟩
  simp only [Nat.add_sub_cancel] at hy ⊢
  have hi : i < P.length := by omega
  have hy' : P[i] = y := by rw [List.getElem?_eq_getElem hi] at hy; exact Option.some.inj hy
  have e1 : P.take (i + 1) = P.take i ++ [y] := by rw [List.take_succ_eq_append_getElem hi, hy']
  have e2 : P.drop i = y :: P.drop (i + 1) := by rw [List.drop_eq_getElem_cons hi, hy']
  have hl : (P.take i).length = i := by rw [List.length_take]; omega
  have key : ∀ a b : UC, P.take i ++ [a] ++ b :: P.drop (i + 1) ++ R = P.take i ++ (a :: b :: (P.drop (i + 1) ++ R)) := fun a b => by simp
  have s1 : ∀ a b z : UC, (P.take i ++ (a :: b :: (P.drop (i + 1) ++ R))).set i z = P.take i ++ (z :: b :: (P.drop (i + 1) ++ R)) := fun a b z => by
    rw [List.set_append_right _ _ (by omega), hl, Nat.sub_self]; rfl
  have s2 : ∀ a b z : UC, (P.take i ++ (a :: b :: (P.drop (i + 1) ++ R))).set (i + 1) z = P.take i ++ (a :: z :: (P.drop (i + 1) ++ R)) := fun a b z => by
    rw [List.set_append_right _ _ (by omega), hl, show i + 1 - i = 1 by omega]; rfl
  rw [e1, e2, key, s2, s1]
  simp
def lessC (x y : UC) : Bool := lessB x.u.name y.u.name
theorem strictC : Strict lessC := ⟨fun _ => less_irrefl _, fun _ _ _ => less_trans _ _ _⟩
def cmpI (x y : ByteArray) : Int := if lessB x y then -1 else if lessB y x then 1 else 0
theorem cmpI_neg (x y : ByteArray) : decide (cmpI x y < 0) = lessB x y := by
  rw [cmpI]
  cases h : lessB x y
  · cases h2 : lessB y x <;> simp
  · simp
theorem own_drew {w : World} {base n size : Nat} {e : TypeId} {v : Value} {xs : List Value} (h : w.ownsRow base e size v n xs) : w.drew.ownsRow base e size v n xs := h
theorem tri_names {l : List UC} (h : (l.map (fun x => x.u.name)).Nodup) : l.Pairwise (fun a b => lessC a b = true ∨ lessC b a = true) := by
  exact (List.pairwise_map.1 h).imp fun h => triS h
def renS (old name x : ByteArray) : ByteArray := if x = old then name else x
def renI (old name : ByteArray) (l : List ByteArray) : List ByteArray := l.map (renS old name)
def renUn (old name : ByteArray) (u : Un) : Un := ⟨renS old name u.name, canG lessB (renI old name u.incs), u.axs, u.goal⟩
def renL (old name : ByteArray) (l : List Un) : List Un := canG lessU (l.map (renUn old name))
def renOk (l : List Un) (old name : ByteArray) : Bool := unitOf l old && (placeU l name).isNone && symB name.data.toList
def renV (l : List Un) (old name : ByteArray) : List Un := if renOk l old name then renL old name l else []
theorem renS_inj {old name x y : ByteArray} (hx : x ≠ name) (hy : y ≠ name) (h : renS old name x = renS old name y) : x = y := by
  unfold renS at h
  split at h <;> split at h
  · rename_i h1 h2; rw [h1, h2]
  · exact absurd h.symm hy
  · exact absurd h hx
  · exact h
theorem nodup_map_on {α β : Type} {f : α → β} {l : List α} (hd : l.Nodup) (hf : ∀ x ∈ l, ∀ y ∈ l, f x = f y → x = y) : (l.map f).Nodup := by
  rw [List.Nodup, List.pairwise_map]
  exact List.Pairwise.imp_of_mem (fun ha hb hne h => hne (hf _ ha _ hb h)) hd
theorem namesF_asc : ∀ (l : List ByteArray) (p : ByteArray), namesF (some p) l = true → ∀ x ∈ l, lessB p x = true
  | [], _, _, _, hx => by simp at hx
  | a :: l, p, h, x, hx => by
    rw [namesF, Bool.and_eq_true, Bool.and_eq_true] at h
    rcases List.mem_cons.1 hx with rfl | hx
    · exact h.1.2
    · exact less_trans _ _ _ h.1.2 (namesF_asc l a h.2 x hx)
theorem namesF_asc' : ∀ (l : List ByteArray) (p : Option ByteArray), namesF p l = true → Asc lessB l
  | [], _, _ => List.Pairwise.nil
  | a :: l, p, h => by
    rw [namesF, Bool.and_eq_true, Bool.and_eq_true] at h
    rw [Asc, List.pairwise_cons]
    exact ⟨namesF_asc l a h.2, namesF_asc' l _ h.2⟩
theorem asc_nodup {l : List ByteArray} (h : Asc lessB l) : l.Nodup := by
  refine List.Pairwise.imp ?_ h
  intro a b hab e
  rw [e, strictS.irr] at hab; cases hab
theorem good_incs {u : Un} (h : u.good = true) : u.incs.length ≤ 12 ∧ namesF none u.incs = true := by
  unfold Un.good at h
  simp only [Bool.and_eq_true, decide_eq_true_eq] at h
  exact ⟨h.1.1.1.1.2, h.1.1.1.2⟩
theorem place_not {l : List Un} {x : ByteArray} (h : (placeU l x).isNone = true) : ∀ u ∈ l, u.name ≠ x := by
  have h0 : placeU l x = none := by simpa using h
  have h1 := place_none.1 h0
  rw [findU, List.find?_eq_none] at h1
  intro u hu e
  exact absurd (decide_eq_true e) (h1 u hu)
theorem incs_names {l : List Un} (hd : Dist l) (hf : (ordL l).length = l.length) {u : Un} (hu : u ∈ l) {x : ByteArray} (hx : x ∈ u.incs) : ∃ v ∈ l, v.name = x := by
  have h1 := full_all hf u hu
  have h2 := incs_rank hd (ordL_inv l) h1 (y := x) (by rw [incsOf, findU_of hd hu]; exact hx)
  obtain ⟨v, hv, e⟩ := List.mem_map.1 ((ordL_inv l).sub x h2.1)
  exact ⟨v, hv, e⟩
theorem libGood_len {l : List Un} (h : libGood l = true) : l.length ≤ 12 := by
  rw [libGood, Bool.and_eq_true, Bool.and_eq_true] at h
  exact of_decide_eq_true h.1.2
section
variable {l : List Un} {old name : ByteArray}
theorem ren_incs (hg : libGood l = true) (hn : ∀ u ∈ l, u.name ≠ name) {u : Un} (hu : u ∈ l) : (renI old name u.incs).Nodup ∧ (renI old name u.incs).length ≤ 12 ∧ u.incs.Nodup ∧ ∀ x ∈ u.incs, x ≠ name := by
  obtain ⟨hd, hf, hgd⟩ := libGood_parts hg
  obtain ⟨h1, h2⟩ := good_incs (hgd u hu)
  have h3 : ∀ x ∈ u.incs, x ≠ name := fun x hx => by
    obtain ⟨v, hv, rfl⟩ := incs_names hd hf hu hx
    exact hn v hv
  have h4 := asc_nodup (namesF_asc' _ _ h2)
  exact ⟨nodup_map_on h4 fun x hx y hy h => renS_inj (h3 x hx) (h3 y hy) h, by rw [renI, List.length_map]; exact h1, h4, h3⟩
theorem ren_names (hg : libGood l = true) (hn : ∀ u ∈ l, u.name ≠ name) : ((l.map (renUn old name)).map Un.name).Nodup := by
  obtain ⟨hd, -, -⟩ := libGood_parts hg
  have : (l.map (renUn old name)).map Un.name = (l.map Un.name).map (renS old name) := by rw [List.map_map, List.map_map]; rfl
  rw [this]
  refine nodup_map_on hd fun x hx y hy h => ?_
  obtain ⟨u, hu, rfl⟩ := List.mem_map.1 hx
  obtain ⟨v, hv, rfl⟩ := List.mem_map.1 hy
  exact renS_inj (hn u hu) (hn v hv) h
theorem renL_len (l : List Un) : (renL old name l).length = l.length := by rw [renL, canG_len, List.length_map]
end
theorem insG_map {α β : Type} {lt : α → α → Bool} {lt' : β → β → Bool} {f : α → β} (h : ∀ x y, lt' (f x) (f y) = lt x y) (l : List α) (x : α) : (insG lt l x).map f = insG lt' (l.map f) (f x) := by
  have hp : ((fun y => lt' y (f x)) ∘ f) = fun y => lt y x := by funext y; exact h y x
  rw [insG, insG, List.map_append, List.map_cons, List.takeWhile_map, List.dropWhile_map, hp]
theorem foldG_map {α β : Type} {lt : α → α → Bool} {lt' : β → β → Bool} {f : α → β} (h : ∀ x y, lt' (f x) (f y) = lt x y) : ∀ (l out : List α), (l.foldl (insG lt) out).map f = (l.map f).foldl (insG lt') (out.map f)
  | [], out => rfl
  | x :: l, out => by rw [List.foldl_cons, foldG_map h l, insG_map h, List.map_cons, List.foldl_cons]
theorem canG_map {α β : Type} {lt : α → α → Bool} {lt' : β → β → Bool} {f : α → β} (h : ∀ x y, lt' (f x) (f y) = lt x y) (l : List α) : (canG lt l).map f = canG lt' (l.map f) := foldG_map h l []
/-! ### Sizes -/
theorem wtS_canG (l : List ByteArray) : wtS (canG lessB l) = wtS l := by
  have app : ∀ a b : List ByteArray, wtS (a ++ b) = wtS a + wtS b := fun a b => by
    induction a with
    | nil => simp [wtS]
    | cons x a ih => rw [List.cons_append, wtS, wtS, ih]; omega
  have ins : ∀ (out : List ByteArray) (x : ByteArray), wtS (insG lessB out x) = wtS out + x.size := fun out x => by
    have := congrArg wtS (List.takeWhile_append_dropWhile (p := fun y => lessB y x) (l := out))
    rw [app] at this
    rw [insG, app, wtS]; omega
  have fold : ∀ (l out : List ByteArray), wtS (l.foldl (insG lessB) out) = wtS out + wtS l := fun l => by
    induction l with
    | nil => intro out; simp [wtS]
    | cons x l ih => intro out; rw [List.foldl_cons, ih, ins, wtS]; omega
  rw [canG, fold]; simp [wtS]
theorem renS_size (old name x : ByteArray) : (renS old name x).size ≤ x.size + name.size := by unfold renS; split <;> omega
theorem wtS_renI (old name : ByteArray) : ∀ l : List ByteArray, wtS (renI old name l) ≤ wtS l + name.size * l.length
  | [] => by simp [renI, wtS]
  | a :: l => by
    have h1 := wtS_renI old name l
    have h2 := renS_size old name a
    rw [renI] at h1
    rw [renI, List.map_cons, wtS, wtS, List.length_cons, Nat.mul_succ]; omega
open Go.RowKit
structure UnS (e eU : TypeId) (W0 : World) (k : Nat) (u : Un) (va vb : Value) (wr : World) : Prop where
  box : wr.heap[k]? = some (.cells #[.string u.name, va, vb, .string u.goal] eU (0, 0))
  ra : wr.ownsRow W0.heap.size e 1 va u.incs.length (strW u.incs)
  rb : wr.ownsRow W0.heap.size e 1 vb u.axs.length (strW u.axs)
  ap : ∀ g, va.ownBlock = some g → vb.ownBlock ≠ some g
  gr : W0.grownBy wr (some k)
  lt : k < W0.heap.size
theorem own_lenU {w : World} {base : Nat} {e : TypeId} {size : Nat} {v : Value} {n : Nat} {xs : List Value} (h : w.ownsRow base e size v n xs) : n ≤ maxLen := by
  rcases h.2 with ⟨_, rfl⟩ | ⟨g, cap, cur, _, _, _, h1, h2, _⟩
  · exact Nat.zero_le _
  · exact Nat.le_trans h1 h2
section
variable {e eU : TypeId} {W0 wr w2 : World} {k : Nat} {u : Un} {va vb v' : Value} {r : ByteArray}
theorem UnS.na (h : UnS e eU W0 k u va vb wr) : va.ownBlock ≠ some k := fun hg => by have := own_base h.ra k hg; have := h.lt; omega
theorem UnS.nb (h : UnS e eU W0 k u va vb wr) : vb.ownBlock ≠ some k := fun hg => by have := own_base h.rb k hg; have := h.lt; omega
theorem UnS.klt (h : UnS e eU W0 k u va vb wr) : k < wr.heap.size := Nat.lt_of_lt_of_le h.lt h.gr.size
theorem UnS.below (h : UnS e eU W0 k u va vb wr) (hb : Below wr.heap.size wr w2) : UnS e eU W0 k u va vb w2 :=
  ⟨(hb.block k h.klt).trans h.box, own_below h.ra hb, own_below h.rb hb, h.ap, ⟨hb.os.trans h.gr.os, hb.tape.trans h.gr.tape, hb.output.trans h.gr.output, Nat.le_trans h.gr.size hb.size, fun b hb' hne => (hb.block b (Nat.lt_of_lt_of_le hb' h.gr.size)).trans (h.gr.block b hb' hne)⟩, h.lt⟩
theorem own_cellSet {base n : Nat} {v : Value} {xs : List Value} {i : Nat} {x : Value} (h : wr.ownsRow base e 1 v n xs) (hne : v.ownBlock ≠ some k) : (wr.setCell ⟨k, i, none⟩ x).ownsRow base e 1 v n xs :=
  own_same h fun g hg _ => heap_setCell_other wr ⟨k, i, none⟩ g x (fun e' => hne (by rw [hg]; exact congrArg some e'))
theorem grown_set (h : W0.grownBy wr (some k)) (i : Nat) (x : Value) : W0.grownBy (wr.setCell ⟨k, i, none⟩ x) (some k) :=
  ⟨h.os, h.tape, h.output, by simpa using h.size, fun b hb hne => (heap_setCell_other wr ⟨k, i, none⟩ b x (fun e' => hne (congrArg some e'))).trans (h.block b hb hne)⟩
theorem UnS.setN (h : UnS e eU W0 k u va vb wr) (r : ByteArray) : UnS e eU W0 k { u with name := r } va vb (wr.setCell ⟨k, 0, none⟩ (.string r)) :=
  ⟨by have := heap_setCell_same wr k 0 _ _ (.string r) h.box; simpa using this, own_cellSet h.ra h.na, own_cellSet h.rb h.nb, h.ap, grown_set h.gr _ _, h.lt⟩
theorem UnS.setG (h : UnS e eU W0 k u va vb wr) (r : ByteArray) : UnS e eU W0 k { u with goal := r } va vb (wr.setCell ⟨k, 3, none⟩ (.string r)) :=
  ⟨by have := heap_setCell_same wr k 3 _ _ (.string r) h.box; simpa using this, own_cellSet h.ra h.na, own_cellSet h.rb h.nb, h.ap, grown_set h.gr _ _, h.lt⟩
theorem newRow_ne {H b : Nat} {v v' : Value} (hn : NewRow v v' H) (hb : b < H) (hv : v.ownBlock ≠ some b) : v'.ownBlock ≠ some b := fun hg => by
  rcases hn with h | ⟨g, h, hge⟩
  · exact hv (h ▸ hg)
  · rw [h] at hg; injection hg with hg; omega
theorem grown_row (h : W0.grownBy wr (some k)) {v : Value} (hv : ∀ g, v.ownBlock = some g → W0.heap.size ≤ g) (hg : wr.grownBy w2 v.ownBlock) : W0.grownBy w2 (some k) :=
  ⟨hg.os.trans h.os, hg.tape.trans h.tape, hg.output.trans h.output, Nat.le_trans h.size hg.size, fun b hb hne => (hg.block b (Nat.lt_of_lt_of_le hb h.size) (fun e' => by have := hv b e'.symm; omega)).trans (h.block b hb hne)⟩
theorem UnS.appI (h : UnS e eU W0 k u va vb wr) (ho : w2.ownsRow W0.heap.size e 1 v' (u.incs.length + 1) (strW u.incs ++ [.string r])) (hg : wr.grownBy w2 va.ownBlock) (hn : NewRow va v' wr.heap.size) : UnS e eU W0 k { u with incs := u.incs ++ [r] } v' vb (w2.setCell ⟨k, 1, none⟩ v') := by
  have hbox : w2.heap[k]? = _ := (hg.block k h.klt (fun e' => h.na e'.symm)).trans h.box
  refine ⟨by have := heap_setCell_same w2 k 1 _ _ v' hbox; simpa using this, own_cellSet (by rw [List.length_append, strW_snoc]; exact ho) (newRow_ne hn h.klt h.na), own_cellSet (own_same h.rb fun g hg' hl => hg.block g hl (fun e' => h.ap g e'.symm hg')) h.nb, fun g hg' hvb => ?_, grown_set (grown_row h.gr (own_base h.ra) hg) _ _, h.lt⟩
  exact newRow_ne hn (own_lt' h.rb hvb) (fun hva => h.ap g hva hvb) hg'
theorem UnS.appA (h : UnS e eU W0 k u va vb wr) (ho : w2.ownsRow W0.heap.size e 1 v' (u.axs.length + 1) (strW u.axs ++ [.string r])) (hg : wr.grownBy w2 vb.ownBlock) (hn : NewRow vb v' wr.heap.size) : UnS e eU W0 k { u with axs := u.axs ++ [r] } va v' (w2.setCell ⟨k, 2, none⟩ v') := by
  have hbox : w2.heap[k]? = _ := (hg.block k h.klt (fun e' => h.nb e'.symm)).trans h.box
  refine ⟨by have := heap_setCell_same w2 k 2 _ _ v' hbox; simpa using this, own_cellSet (own_same h.ra fun g hg' hl => hg.block g hl (fun e' => h.ap g hg' e'.symm)) h.na, own_cellSet (by rw [List.length_append, strW_snoc]; exact ho) (newRow_ne hn h.klt h.nb), fun g hva hg' => ?_, grown_set (grown_row h.gr (own_base h.rb) hg) _ _, h.lt⟩
  exact newRow_ne hn (own_lt' h.ra hva) (h.ap g hva) hg'
theorem UnS.form (h : UnS e eU W0 k u va vb wr) : ∃ p c q d, va = .slice p u.incs.length c ∧ vb = .slice q u.axs.length d := by
  have key : ∀ {v : Value} {n : Nat} {xs : List Value}, wr.ownsRow W0.heap.size e 1 v n xs → ∃ p c, v = .slice p n c := fun h => by
    rcases h.2 with ⟨rfl, h0⟩ | ⟨g, cap, cur, rfl, _⟩
    · exact ⟨none, 0, by rw [h0]⟩
    · exact ⟨_, _, rfl⟩
  obtain ⟨p, c, h1⟩ := key h.ra
  obtain ⟨q, d, h2⟩ := key h.rb
  exact ⟨p, c, q, d, h1, h2⟩
theorem UnS.own (h : UnS e eU W0 k u va vb wr) (hn : u.name.size ≤ maxLen) (hg : u.goal.size ≤ maxLen) (hi : ∀ s ∈ u.incs, s.size ≤ maxLen) (ha : ∀ s ∈ u.axs, s.size ≤ maxLen) : UnOwn e (NewB W0 wr) wr u [.string u.name, va, vb, .string u.goal] :=
  ⟨va, vb, fun b => va.ownBlock = some b, fun b => vb.ownBlock = some b, rfl, hn, hg, rowS_own h.ra hi (own_lenU h.ra) (fun _ h => h), rowS_own h.rb ha (own_lenU h.rb) (fun _ h => h),
    fun b hb => ⟨own_base h.ra b hb, own_lt' h.ra hb⟩, fun b hb => ⟨own_base h.rb b hb, own_lt' h.rb hb⟩, fun b h1 h2 => h.ap b h1 h2⟩
end
end Go.Proofs.YtkgfanajgdelcaaGreatDoor
