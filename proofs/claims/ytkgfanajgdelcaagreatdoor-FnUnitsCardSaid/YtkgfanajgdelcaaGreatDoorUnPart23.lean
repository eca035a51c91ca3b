import Derived.Shelf.Strings.BuilderF
import Derived.Test.YtkgfanajgdelcaaGreatDoorUnPart22
namespace Go.Proofs.YtkgfanajgdelcaaGreatDoor
set_option maxRecDepth 100000
open Go.RowKit
def unitsF : Option ByteArray → List Un → Bool
  | _, [] => true
  | p, u :: us => u.good && ascS p u.name && unitsF (some u.name) us
def prevU (l : List Un) : Nat → Option ByteArray | 0 => none | k + 1 => (l[k]?).map Un.name
theorem unitsF_drop {l : List Un} {k : Nat} (h : k < l.length) : unitsF (prevU l k) (l.drop k) = (l[k].good && ascS (prevU l k) l[k].name && unitsF (prevU l (k + 1)) (l.drop (k + 1))) := by
  rw [List.drop_eq_getElem_cons h, unitsF, show prevU l (k + 1) = some l[k].name by rw [prevU, List.getElem?_eq_getElem h]; rfl]
theorem prevU_pos {l : List Un} {k : Nat} (h : k < l.length) (hk : 0 < k) : prevU l k = some (l[k - 1]'(by omega)).name := by
  cases k with
  | zero => omega
  | succ k => rw [prevU, List.getElem?_eq_getElem (by omega)]; rfl
theorem less_trans : ∀ x y z : List UInt8, Op.bytesLess x y = true → Op.bytesLess y z = true → Op.bytesLess x z = true
  | [], [], _, h, _ => by simp [Op.bytesLess] at h
  | [], b :: y, [], _, h2 => by simp [Op.bytesLess] at h2
  | [], b :: y, c :: z, _, _ => by simp [Op.bytesLess]
  | a :: x, [], _, h, _ => by simp [Op.bytesLess] at h
  | a :: x, b :: y, [], _, h2 => by simp [Op.bytesLess] at h2
  | a :: x, b :: y, c :: z, h, h2 => by
    have ih := less_trans x y z
    simp only [Op.bytesLess, Bool.or_eq_true, Bool.and_eq_true, decide_eq_true_eq, beq_iff_eq] at h h2 ⊢
    rcases h with h | ⟨rfl, h⟩ <;> rcases h2 with h2 | ⟨rfl, h2⟩
    · exact .inl (UInt8.lt_trans h h2)
    · exact .inl h
    · exact .inl h2
    · exact .inr ⟨rfl, ih h h2⟩
theorem less_irrefl : ∀ x : List UInt8, Op.bytesLess x x = false
  | [] => rfl
  | a :: x => by simp [Op.bytesLess, UInt8.lt_irrefl, less_irrefl x]
theorem unitsF_asc : ∀ (l : List Un) (p : ByteArray), unitsF (some p) l = true → ∀ u ∈ l, lessB p u.name = true
  | [], _, _, u, hu => by simp at hu
  | v :: l, p, h, u, hu => by
    rw [unitsF, Bool.and_eq_true, Bool.and_eq_true] at h
    rcases List.mem_cons.1 hu with rfl | hu
    · exact h.1.2
    · exact less_trans _ _ _ h.1.2 (unitsF_asc l v.name h.2 u hu)
theorem unitsF_dist : ∀ (l : List Un) (p : Option ByteArray), unitsF p l = true → Dist l
  | [], _, _ => List.nodup_nil
  | v :: l, p, h => by
    rw [unitsF, Bool.and_eq_true, Bool.and_eq_true] at h
    rw [Dist, List.map_cons, List.nodup_cons]
    refine ⟨fun hm => ?_, unitsF_dist l _ h.2⟩
    obtain ⟨u, hu, e⟩ := List.mem_map.1 hm
    have := unitsF_asc l v.name h.2 u hu
    rw [e, lessB, less_irrefl] at this; cases this
theorem unitsF_good : ∀ (l : List Un) (p : Option ByteArray), unitsF p l = true → ∀ u ∈ l, u.good = true
  | [], _, _, u, hu => by simp at hu
  | v :: l, p, h, u, hu => by
    rw [unitsF, Bool.and_eq_true, Bool.and_eq_true] at h
    rcases List.mem_cons.1 hu with rfl | hu
    · exact h.1.1
    · exact unitsF_good l _ h.2 u hu
def libGood (l : List Un) : Bool := unitsF none l && decide (l.length ≤ 12) && decide ((ordL l).length = l.length)
set_option maxHeartbeats 6400000 in
theorem implLib_any {B : Nat → Prop} (l : List Un) (va : Value) (w : World) (h : UnsAt B w va l) (hw : l.length + wtU l ≤ 1048576) :
    Calls Tryz.prog 10 #[va] w fun e w' => e = .returned (.bool (libGood l)) ∧ Below w.heap.size w w' := by
  obtain ⟨p, c, rfl, hlen⟩ := h.form
  unfold maxLen at hlen
  have H := Lib.hid h
  have HG := Lib.hid (show libGood l = (unitsF none l && decide (l.length ≤ 12) && decide ((ordL l).length = l.length)) from rfl)
  have HZ := Lib.hid (fun u hu => Nat.le_trans (wtU_le l u hu) (show wtU l ≤ 1000000000000 by omega))
  clear h
  go_enter Tryz.func10, Tryz.ntmps10
  go_wp2
  go_loopw [9] (fun i wr => ∃ k : Nat, k ≤ l.length ∧ i = .int .i64 k ∧ unitsF none l = unitsF (prevU l k) (l.drop k) ∧ Below w.heap.size w wr) (fun i _ => l.length - (intOf i).toNat)
  case atStart => exact ⟨0, Nat.zero_le _, rfl, rfl, by exact bel⟩
  case round =>
    obtain ⟨k, hk, rfl, he, hb⟩ := hrel
    have HE := Lib.hid he
    clear he
    by_cases hlt : k < l.length
    · obtain ⟨b, o, rfl, hB, p1, c1, p2, c2, hx0, hx1, hx2, hx3, hx⟩ := (H.out.below hb).at_ hlt
      have HD := Lib.hid (unitsF_drop hlt)
      have hza := HZ.out _ (List.getElem_mem hlt)
      have zb := bsz (World.block_lt_of_cell? _ _ hx0)
      by_cases hk0 : k = 0
      · subst hk0
        have HP := Lib.hid (show prevU l 0 = none from rfl)
        obtain ⟨a, ha⟩ : ∃ a, l[0] = a := ⟨_, rfl⟩
        rw [ha] at hx hx0 hx1 hx2 hx3 HD hza
        have HX := Lib.hid hx
        clear ha hx
        rw [Nat.zero_mul, Nat.add_zero] at hx0 hx1 hx2 hx3
        cases hg : a.good
        all_goals
          have HAG := Lib.hid (show ∀ (w : World), UnAt B w a [.string a.name, .slice p1 a.incs.length c1, .slice p2 a.axs.length c2, .string a.goal] → Calls Tryz.prog 34 #[.agg #[.string a.name, .slice p1 a.incs.length c1, .slice p2 a.axs.length c2, .string a.goal]] w fun e w' => e = .returned (.bool _) ∧ Below w.heap.size w w' from fun w hx => hg ▸ implUnit_any a _ _ _ _ w hx hza)
          have HGG := Lib.hid hg
          clear hg
          go_wp2
          obtain ⟨W, hW⟩ : ∃ W : World, W = wr.alloc (.cells #[.string a.name, .slice p1 a.incs.length c1, .slice p2 a.axs.length c2, .string a.goal] 34) := ⟨_, rfl⟩
          have hbW : Below wr.heap.size wr W := by rw [hW]; exact (Below.refl _ _).alloc (Nat.le_refl _) _
          have hbw := Below.step hb hbW
          have hc0 : W.cell? ⟨wr.heap.size, 0, none⟩ = some (.string a.name) := by rw [hW]; go_simp
          have hc1 : W.cell? ⟨wr.heap.size, 1, none⟩ = some (.slice p1 a.incs.length c1) := by rw [hW]; go_simp
          have hc2 : W.cell? ⟨wr.heap.size, 2, none⟩ = some (.slice p2 a.axs.length c2) := by rw [hW]; go_simp
          have hc3 : W.cell? ⟨wr.heap.size, 3, none⟩ = some (.string a.goal) := by rw [hW]; go_simp
          have hy0 := (hbW.cell zb.1).trans hx0
          rw [← hW]
          clear hW
          obtain ⟨C, HC0⟩ := class_of (InF W.heap.size _ [(⟨wr.heap.size, 0, none⟩, .string a.name), (⟨wr.heap.size, 1, none⟩, .slice p1 a.incs.length c1), (⟨wr.heap.size, 2, none⟩, .slice p2 a.axs.length c2), (⟨wr.heap.size, 3, none⟩, .string a.goal), (⟨b, o, none⟩, .string a.name)] [] [])
          have HC := Lib.hid HC0
          clear HC0
          refine wp_region_flow (C := C) (by kernel_rfl) (by kernel_rfl) (fun L hL => (HC.out _ _).2 (InF.start (by first | (intro _ hs; cases hs; done) | (simp only [List.forall_mem_cons]; go_simp)) (by first | (intro _ hs; cases hs; done) | (simp only [List.forall_mem_cons]; go_simp)) (by first | (intro _ hs; cases hs; done) | (simp only [List.forall_mem_cons]; go_simp)) (by first | (intro _ hs; cases hs; done) | (simp only [List.forall_mem_cons]; go_simp)) L hL)) ?_
          repeat (first | ((first | apply flow_free rfl | (apply flow_yes; (case hw => go_simp))); (intro L w' hun hrd hC; have hC := (HC.out _ _).1 hC; have hb' := hC.below; (try have hw' : Below w.heap.size w w' := by first | exact Below.trans (by (repeat (first | with_reducible (first | exact bR _ _ | assumption | refine bA ?_ _ | refine bS ?_ (by first | exact Nat.le_refl _ | (simp; done) | (simp; omega)) _) | assumption | exact bR _ _ | refine bD ?_ | refine bN ?_ _ | refine bT ?_ (by assumption)))) hb' | ((repeat (first | with_reducible (first | exact bR _ _ | assumption | refine bA ?_ _ | refine bS ?_ (by first | exact Nat.le_refl _ | (simp; done) | (simp; omega)) _) | assumption | exact bR _ _ | refine bD ?_ | refine bN ?_ _ | refine bT ?_ (by assumption))); done)); have hf' := hC.cell; (try simp only [List.forall_mem_cons] at hf'); go_simp; first | exact ⟨(HC.out _ _).2 (hC.skip _ (by rfl)), rfl⟩ | (rw [if_neg]; (exact ⟨(HC.out _ _).2 (hC.skip _ (by rfl)), rfl⟩); omega) | (go_at_call 34; refine (HAG.out _ (HX.out.below (Below.step hbW hb'))).mono ?_; rintro e w1 ⟨rfl, hb1⟩; exact ⟨rfl, (HC.out _ _).2 ((hC.next (by first | (simp; done) | (simp; omega) | omega) hb1).skip _ (by rfl))⟩)); go_simp) | (apply flow_no; (case hw => (go_simp; try (intro hh; cases hh))); (intro L w' _ _ hC; exact (HC.out _ _).2 (((HC.out _ _).1 hC).skip _ (by rfl))); go_simp))
          refine flow_nil ?_
          intro L wz hL hz
          have hz := (HC.out _ _).1 hz
          have hbz := hz.below
          have hcz := hz.cell
          try simp only [List.forall_mem_cons] at hcz
          have hdz := hz.done
          try simp only [List.forall_mem_cons] at hdz
          (try have hwz : Below w.heap.size w wz := by first | exact Below.trans (by (repeat (first | with_reducible (first | exact bR _ _ | assumption | refine bA ?_ _ | refine bS ?_ (by first | exact Nat.le_refl _ | (simp; done) | (simp; omega)) _) | assumption | exact bR _ _ | refine bD ?_ | refine bN ?_ _ | refine bT ?_ (by assumption)))) hbz | ((repeat (first | with_reducible (first | exact bR _ _ | assumption | refine bA ?_ _ | refine bS ?_ (by first | exact Nat.le_refl _ | (simp; done) | (simp; omega)) _) | assumption | exact bR _ _ | refine bD ?_ | refine bN ?_ _ | refine bT ?_ (by assumption))); done))
          go_wp2
        · go_ret
          exact ⟨ret_bool (by rw [HG.out, HE.out, HD.out, HGG.out]; rfl), by exact bel⟩
        · refine ⟨⟨1, by omega, by go_num, ?_, Below.step hbw hbz⟩, by simp [intOf]; omega⟩
          rw [HE.out, HD.out, HGG.out, HP.out]; rfl
      · have hk1 : k - 1 < l.length := by omega
        obtain ⟨b', o', hq, hB', r1, d1, r2, d2, hz0, -, -, -, -⟩ := (H.out.below hb).at_ hk1
        simp only [Option.some.injEq, Addr.mk.injEq, and_true] at hq
        obtain ⟨rfl, rfl⟩ := hq
        have HP := Lib.hid (prevU_pos hlt (by omega))
        obtain ⟨a, ha⟩ : ∃ a, l[k] = a := ⟨_, rfl⟩
        obtain ⟨q, hqe⟩ : ∃ q, l[k - 1] = q := ⟨_, rfl⟩
        rw [ha] at hx hx0 hx1 hx2 hx3 HD hza
        rw [hqe] at hz0 HP
        have HX := Lib.hid hx
        clear ha hqe hx
        have hki : IntKind.i64.wrap ((k : Int) - 1) = ((k - 1 : Nat) : Int) := by rw [IntWalk.i64_in _ (by omega)]; omega
        have hkp : (0 : Int) < (k : Int) := by omega
        have hkn : 0 < k := by omega
        have hkj : ((k - 1 : Nat) : Int) < l.length := by omega
        have HL0 := Lib.hid (show lessB q.name a.name = !(Op.bytesLess a.name.toList q.name.toList || a.name.toList == q.name.toList) by rw [lessB, less_total, ByteArray.toList_eq, ByteArray.toList_eq])
        cases hg : a.good <;> cases hA : Op.bytesLess a.name.toList q.name.toList <;> cases hQ : (a.name.toList == q.name.toList)
        all_goals
          have HAG := Lib.hid (show ∀ (w : World), UnAt B w a [.string a.name, .slice p1 a.incs.length c1, .slice p2 a.axs.length c2, .string a.goal] → Calls Tryz.prog 34 #[.agg #[.string a.name, .slice p1 a.incs.length c1, .slice p2 a.axs.length c2, .string a.goal]] w fun e w' => e = .returned (.bool _) ∧ Below w.heap.size w w' from fun w hx => hg ▸ implUnit_any a _ _ _ _ w hx hza)
          have HGG := Lib.hid hg
          have HLS := Lib.hid (HL0.out.trans (by rw [hA, hQ]))
          clear hg
          go_wp2
          obtain ⟨W, hW⟩ : ∃ W : World, W = wr.alloc (.cells #[.string a.name, .slice p1 a.incs.length c1, .slice p2 a.axs.length c2, .string a.goal] 34) := ⟨_, rfl⟩
          have hbW : Below wr.heap.size wr W := by rw [hW]; exact (Below.refl _ _).alloc (Nat.le_refl _) _
          have hbw := Below.step hb hbW
          have hc0 : W.cell? ⟨wr.heap.size, 0, none⟩ = some (.string a.name) := by rw [hW]; go_simp
          have hc1 : W.cell? ⟨wr.heap.size, 1, none⟩ = some (.slice p1 a.incs.length c1) := by rw [hW]; go_simp
          have hc2 : W.cell? ⟨wr.heap.size, 2, none⟩ = some (.slice p2 a.axs.length c2) := by rw [hW]; go_simp
          have hc3 : W.cell? ⟨wr.heap.size, 3, none⟩ = some (.string a.goal) := by rw [hW]; go_simp
          have hy0 := (hbW.cell zb.1).trans hx0
          have hz1 := (hbW.cell zb.1).trans hz0
          rw [← hW]
          clear hW
          obtain ⟨C, HC0⟩ := class_of (InF W.heap.size _ [(⟨wr.heap.size, 0, none⟩, .string a.name), (⟨wr.heap.size, 1, none⟩, .slice p1 a.incs.length c1), (⟨wr.heap.size, 2, none⟩, .slice p2 a.axs.length c2), (⟨wr.heap.size, 3, none⟩, .string a.goal), (⟨b, o + k * 4, none⟩, .string a.name), (⟨b, o + (k - 1) * 4, none⟩, .string q.name)] [] [])
          have HC := Lib.hid HC0
          clear HC0
          refine wp_region_flow (C := C) (by kernel_rfl) (by kernel_rfl) (fun L hL => (HC.out _ _).2 (InF.start (by first | (intro _ hs; cases hs; done) | (simp only [List.forall_mem_cons]; go_simp)) (by first | (intro _ hs; cases hs; done) | (simp only [List.forall_mem_cons]; go_simp)) (by first | (intro _ hs; cases hs; done) | (simp only [List.forall_mem_cons]; go_simp)) (by first | (intro _ hs; cases hs; done) | (simp only [List.forall_mem_cons]; go_simp)) L hL)) ?_
          repeat (first | ((first | apply flow_free rfl | (apply flow_yes; (case hw => go_simp))); (intro L w' hun hrd hC; have hC := (HC.out _ _).1 hC; have hb' := hC.below; (try have hw' : Below w.heap.size w w' := by first | exact Below.trans (by (repeat (first | with_reducible (first | exact bR _ _ | assumption | refine bA ?_ _ | refine bS ?_ (by first | exact Nat.le_refl _ | (simp; done) | (simp; omega)) _) | assumption | exact bR _ _ | refine bD ?_ | refine bN ?_ _ | refine bT ?_ (by assumption)))) hb' | ((repeat (first | with_reducible (first | exact bR _ _ | assumption | refine bA ?_ _ | refine bS ?_ (by first | exact Nat.le_refl _ | (simp; done) | (simp; omega)) _) | assumption | exact bR _ _ | refine bD ?_ | refine bN ?_ _ | refine bT ?_ (by assumption))); done)); have hf' := hC.cell; (try simp only [List.forall_mem_cons] at hf'); go_simp; first | exact ⟨(HC.out _ _).2 (hC.skip _ (by rfl)), rfl⟩ | (rw [if_neg]; (exact ⟨(HC.out _ _).2 (hC.skip _ (by rfl)), rfl⟩); omega) | (go_at_call 34; refine (HAG.out _ (HX.out.below (Below.step hbW hb'))).mono ?_; rintro e w1 ⟨rfl, hb1⟩; exact ⟨rfl, (HC.out _ _).2 ((hC.next (by first | (simp; done) | (simp; omega) | omega) hb1).skip _ (by rfl))⟩)); go_simp) | (apply flow_no; (case hw => (go_simp; try (intro hh; cases hh))); (intro L w' _ _ hC; exact (HC.out _ _).2 (((HC.out _ _).1 hC).skip _ (by rfl))); go_simp))
          refine flow_nil ?_
          intro L wz hL hz
          have hz := (HC.out _ _).1 hz
          have hbz := hz.below
          have hcz := hz.cell
          try simp only [List.forall_mem_cons] at hcz
          have hdz := hz.done
          try simp only [List.forall_mem_cons] at hdz
          (try have hwz : Below w.heap.size w wz := by first | exact Below.trans (by (repeat (first | with_reducible (first | exact bR _ _ | assumption | refine bA ?_ _ | refine bS ?_ (by first | exact Nat.le_refl _ | (simp; done) | (simp; omega)) _) | assumption | exact bR _ _ | refine bD ?_ | refine bN ?_ _ | refine bT ?_ (by assumption)))) hbz | ((repeat (first | with_reducible (first | exact bR _ _ | assumption | refine bA ?_ _ | refine bS ?_ (by first | exact Nat.le_refl _ | (simp; done) | (simp; omega)) _) | assumption | exact bR _ _ | refine bD ?_ | refine bN ?_ _ | refine bT ?_ (by assumption))); done))
          go_wp2
        all_goals first
          | (refine ⟨⟨k + 1, by omega, by go_num, ?_, Below.step hbw hbz⟩, by simp [intOf]; omega⟩; rw [HE.out, HD.out, HGG.out, HP.out, ascS, HLS.out]; rfl)
          | (go_ret; exact ⟨ret_bool (by rw [HG.out, HE.out, HD.out, HGG.out, HP.out, ascS, HLS.out]; rfl), by exact bel⟩)
    · obtain rfl : k = l.length := by omega
      rw [List.drop_length] at HE
      have HU := Lib.hid (show unitsF none l = true from HE.out)
      have HOA := Lib.hid (fun w' => order_any (B := B) l (.slice p l.length c) w' )
      go_wp2_with fail
      refine (HOA.out _ (H.out.below (by exact bel)) (by omega)).mono ?_
      rintro e w1 ⟨hb1, hp⟩
      by_cases hle : (ordL l).length = l.length
      · rw [if_pos hle] at hp
        obtain ⟨v, rfl, hv⟩ := hp
        obtain ⟨pv, cv, rfl, -⟩ := OwnRow.form hv
        clear hv
        have HG2 := Lib.hid (show libGood l = decide (l.length ≤ 12) by rw [HG.out, HU.out, decide_eq_true hle]; simp)
        have h12 : ((l.length : Int) ≤ 12) = (l.length ≤ 12) := by apply propext; omega
        go_wp2
        go_ret
        exact ⟨ret_bool (by rw [HG2.out]), by exact bel⟩
      · rw [if_neg hle] at hp
        subst hp
        have HG2 := Lib.hid (show libGood l = false by rw [HG.out, HU.out, decide_eq_false hle]; simp)
        go_wp2
        go_ret
        exact ⟨ret_bool (by rw [HG2.out]), by exact bel⟩
theorem good_name {u : Un} (h : u.good = true) : (u.name.toList == []) = false := by
  unfold Un.good at h
  simp only [Bool.and_eq_true] at h
  have h1 := h.1.1.1.1.1
  rw [ByteArray.toList_eq]
  cases he : u.name.data.toList with
  | nil => rw [he] at h1; simp [symB] at h1
  | cons a l => rfl
theorem libGood_eq (l : List Un) : libGood l = (decide (l.length ≤ 12) && (unitsF none l && decide ((ordL l).length = l.length))) := by
  rw [libGood]; cases unitsF none l <;> cases decide (l.length ≤ 12) <;> cases decide ((ordL l).length = l.length) <;> rfl
set_option maxHeartbeats 6400000 in
theorem specLib_any {B : Nat → Prop} (l : List Un) (va : Value) (w : World) (h : UnsAt B w va l) (hw : l.length + wtU l ≤ 1048576) :
    Calls Tryz.prog 32 #[va] w fun e w' => e = .returned (.bool (libGood l)) ∧ Below w.heap.size w w' := by
  obtain ⟨p, c, rfl, hlen⟩ := h.form
  unfold maxLen at hlen
  have H := Lib.hid h
  have HG := Lib.hid (libGood_eq l)
  have HZ := Lib.hid (fun u hu => Nat.le_trans (wtU_le l u hu) (show wtU l ≤ 1000000000000 by omega))
  clear h
  by_cases h12 : l.length ≤ 12
  case neg =>
    go_enter Tryz.func32, Tryz.ntmps32
    have hj : (12 : Int) < l.length := by omega
    go_wp2
    go_ret
    exact ⟨ret_bool (by rw [HG.out, decide_eq_false h12]; rfl), by exact bel⟩
  have hj : ¬ (12 : Int) < l.length := by omega
  have HG2 := Lib.hid (show libGood l = (unitsF none l && decide ((ordL l).length = l.length)) by rw [HG.out, decide_eq_true h12, Bool.true_and])
  go_enter Tryz.func32, Tryz.ntmps32
  go_wp2
  go_loopw [3] (fun i wr => ∃ k : Nat, k ≤ l.length ∧ i = .int .i64 k ∧ unitsF none l = unitsF (prevU l k) (l.drop k) ∧ Below w.heap.size w wr) (fun i _ => l.length - (intOf i).toNat)
  case atStart => exact ⟨0, Nat.zero_le _, rfl, rfl, by exact bel⟩
  case round =>
    obtain ⟨k, hk, rfl, he, hb⟩ := hrel
    have HE := Lib.hid he
    clear he
    by_cases hlt : k < l.length
    · obtain ⟨b, o, rfl, hB, p1, c1, p2, c2, hx0, hx1, hx2, hx3, hx⟩ := (H.out.below hb).at_ hlt
      have HD := Lib.hid (unitsF_drop hlt)
      have hza := HZ.out _ (List.getElem_mem hlt)
      have zb := bsz (World.block_lt_of_cell? _ _ hx0)
      by_cases hk0 : k = 0
      · subst hk0
        have HP := Lib.hid (show prevU l 0 = none from rfl)
        obtain ⟨a, ha⟩ : ∃ a, l[0] = a := ⟨_, rfl⟩
        rw [ha] at hx hx0 hx1 hx2 hx3 HD hza
        have HX := Lib.hid hx
        clear ha hx
        rw [Nat.zero_mul, Nat.add_zero] at hx0 hx1 hx2 hx3
        cases hg : a.good
        all_goals
          have HAG := Lib.hid (show ∀ (w : World), UnAt B w a [.string a.name, .slice p1 a.incs.length c1, .slice p2 a.axs.length c2, .string a.goal] → Calls Tryz.prog 62 #[.agg #[.string a.name, .slice p1 a.incs.length c1, .slice p2 a.axs.length c2, .string a.goal]] w fun e w' => e = .returned (.bool _) ∧ Below w.heap.size w w' from fun w hx => hg ▸ l27Unit_any a _ _ _ _ w hx hza)
          have HGG := Lib.hid hg
          clear hg
          go_wp2
          obtain ⟨C, HC0⟩ := class_of (InF wr.heap.size _ [(⟨b, o, none⟩, .string a.name), (⟨b, o + 1, none⟩, .slice p1 a.incs.length c1), (⟨b, o + 2, none⟩, .slice p2 a.axs.length c2), (⟨b, o + 3, none⟩, .string a.goal)] [] [])
          have HC := Lib.hid HC0
          clear HC0
          refine wp_region_flow (C := C) (by kernel_rfl) (by kernel_rfl) (fun L hL => (HC.out _ _).2 (InF.start (by first | (intro _ hs; cases hs; done) | (simp only [List.forall_mem_cons]; go_simp)) (by first | (intro _ hs; cases hs; done) | (simp only [List.forall_mem_cons]; go_simp)) (by first | (intro _ hs; cases hs; done) | (simp only [List.forall_mem_cons]; go_simp)) (by first | (intro _ hs; cases hs; done) | (simp only [List.forall_mem_cons]; go_simp)) L hL)) ?_
          repeat (first | ((first | apply flow_free rfl | (apply flow_yes; (case hw => go_simp))); (intro L w' hun hrd hC; have hC := (HC.out _ _).1 hC; have hb' := hC.below; (try have hw' : Below w.heap.size w w' := by first | exact Below.trans (by (repeat (first | with_reducible (first | exact bR _ _ | assumption | refine bA ?_ _ | refine bS ?_ (by first | exact Nat.le_refl _ | (simp; done) | (simp; omega)) _) | assumption | exact bR _ _ | refine bD ?_ | refine bN ?_ _ | refine bT ?_ (by assumption)))) hb' | ((repeat (first | with_reducible (first | exact bR _ _ | assumption | refine bA ?_ _ | refine bS ?_ (by first | exact Nat.le_refl _ | (simp; done) | (simp; omega)) _) | assumption | exact bR _ _ | refine bD ?_ | refine bN ?_ _ | refine bT ?_ (by assumption))); done)); have hf' := hC.cell; (try simp only [List.forall_mem_cons] at hf'); go_simp; first | exact ⟨(HC.out _ _).2 (hC.skip _ (by rfl)), rfl⟩ | (rw [if_neg]; (exact ⟨(HC.out _ _).2 (hC.skip _ (by rfl)), rfl⟩); omega) | (go_at_call 62; refine (HAG.out _ (HX.out.below hb')).mono ?_; rintro e w1 ⟨rfl, hb1⟩; exact ⟨rfl, (HC.out _ _).2 ((hC.next (by first | (simp; done) | (simp; omega) | omega) hb1).skip _ (by rfl))⟩)); go_simp) | (apply flow_no; (case hw => (go_simp; try (intro hh; cases hh))); (intro L w' _ _ hC; exact (HC.out _ _).2 (((HC.out _ _).1 hC).skip _ (by rfl))); go_simp))
          refine flow_nil ?_
          intro L wz hL hz
          have hz := (HC.out _ _).1 hz
          have hbz := hz.below
          have hcz := hz.cell
          try simp only [List.forall_mem_cons] at hcz
          have hdz := hz.done
          try simp only [List.forall_mem_cons] at hdz
          (try have hwz : Below w.heap.size w wz := by first | exact Below.trans (by (repeat (first | with_reducible (first | exact bR _ _ | assumption | refine bA ?_ _ | refine bS ?_ (by first | exact Nat.le_refl _ | (simp; done) | (simp; omega)) _) | assumption | exact bR _ _ | refine bD ?_ | refine bN ?_ _ | refine bT ?_ (by assumption)))) hbz | ((repeat (first | with_reducible (first | exact bR _ _ | assumption | refine bA ?_ _ | refine bS ?_ (by first | exact Nat.le_refl _ | (simp; done) | (simp; omega)) _) | assumption | exact bR _ _ | refine bD ?_ | refine bN ?_ _ | refine bT ?_ (by assumption))); done))
          go_wp2
        · go_ret
          exact ⟨ret_bool (by rw [HG2.out, HE.out, HD.out, HGG.out]; rfl), by exact bel⟩
        · refine ⟨⟨1, by omega, by go_num, ?_, Below.step hb hbz⟩, by simp [intOf]; omega⟩
          rw [HE.out, HD.out, HGG.out, HP.out]; rfl
      · have hk1 : k - 1 < l.length := by omega
        obtain ⟨b', o', hq, hB', r1, d1, r2, d2, hz0, -, -, -, -⟩ := (H.out.below hb).at_ hk1
        simp only [Option.some.injEq, Addr.mk.injEq, and_true] at hq
        obtain ⟨rfl, rfl⟩ := hq
        have HP := Lib.hid (prevU_pos hlt (by omega))
        obtain ⟨a, ha⟩ : ∃ a, l[k] = a := ⟨_, rfl⟩
        obtain ⟨q, hqe⟩ : ∃ q, l[k - 1] = q := ⟨_, rfl⟩
        rw [ha] at hx hx0 hx1 hx2 hx3 HD hza
        rw [hqe] at hz0 HP
        have HX := Lib.hid hx
        clear ha hqe hx
        have hki : IntKind.i64.wrap ((k : Int) - 1) = ((k - 1 : Nat) : Int) := by rw [IntWalk.i64_in _ (by omega)]; omega
        have hkp : (0 : Int) < (k : Int) := by omega
        have hkn : 0 < k := by omega
        have hkj : ((k - 1 : Nat) : Int) < l.length := by omega
        have HL0 := Lib.hid (show lessB q.name a.name = Op.bytesLess q.name.toList a.name.toList by rw [lessB, ByteArray.toList_eq, ByteArray.toList_eq])
        cases hg : a.good <;> cases hA : Op.bytesLess q.name.toList a.name.toList
        all_goals
          have HAG := Lib.hid (show ∀ (w : World), UnAt B w a [.string a.name, .slice p1 a.incs.length c1, .slice p2 a.axs.length c2, .string a.goal] → Calls Tryz.prog 62 #[.agg #[.string a.name, .slice p1 a.incs.length c1, .slice p2 a.axs.length c2, .string a.goal]] w fun e w' => e = .returned (.bool _) ∧ Below w.heap.size w w' from fun w hx => hg ▸ l27Unit_any a _ _ _ _ w hx hza)
          have HGG := Lib.hid hg
          have HLS := Lib.hid (HL0.out.trans hA)
          clear hg
          go_wp2
          obtain ⟨C, HC0⟩ := class_of (InF wr.heap.size _ [(⟨b, o + k * 4, none⟩, .string a.name), (⟨b, o + k * 4 + 1, none⟩, .slice p1 a.incs.length c1), (⟨b, o + k * 4 + 2, none⟩, .slice p2 a.axs.length c2), (⟨b, o + k * 4 + 3, none⟩, .string a.goal), (⟨b, o + (k - 1) * 4, none⟩, .string q.name)] [] [])
          have HC := Lib.hid HC0
          clear HC0
          refine wp_region_flow (C := C) (by kernel_rfl) (by kernel_rfl) (fun L hL => (HC.out _ _).2 (InF.start (by first | (intro _ hs; cases hs; done) | (simp only [List.forall_mem_cons]; go_simp)) (by first | (intro _ hs; cases hs; done) | (simp only [List.forall_mem_cons]; go_simp)) (by first | (intro _ hs; cases hs; done) | (simp only [List.forall_mem_cons]; go_simp)) (by first | (intro _ hs; cases hs; done) | (simp only [List.forall_mem_cons]; go_simp)) L hL)) ?_
          repeat (first | ((first | apply flow_free rfl | (apply flow_yes; (case hw => go_simp))); (intro L w' hun hrd hC; have hC := (HC.out _ _).1 hC; have hb' := hC.below; (try have hw' : Below w.heap.size w w' := by first | exact Below.trans (by (repeat (first | with_reducible (first | exact bR _ _ | assumption | refine bA ?_ _ | refine bS ?_ (by first | exact Nat.le_refl _ | (simp; done) | (simp; omega)) _) | assumption | exact bR _ _ | refine bD ?_ | refine bN ?_ _ | refine bT ?_ (by assumption)))) hb' | ((repeat (first | with_reducible (first | exact bR _ _ | assumption | refine bA ?_ _ | refine bS ?_ (by first | exact Nat.le_refl _ | (simp; done) | (simp; omega)) _) | assumption | exact bR _ _ | refine bD ?_ | refine bN ?_ _ | refine bT ?_ (by assumption))); done)); have hf' := hC.cell; (try simp only [List.forall_mem_cons] at hf'); go_simp; first | exact ⟨(HC.out _ _).2 (hC.skip _ (by rfl)), rfl⟩ | (rw [if_neg]; (exact ⟨(HC.out _ _).2 (hC.skip _ (by rfl)), rfl⟩); omega) | (go_at_call 62; refine (HAG.out _ (HX.out.below hb')).mono ?_; rintro e w1 ⟨rfl, hb1⟩; exact ⟨rfl, (HC.out _ _).2 ((hC.next (by first | (simp; done) | (simp; omega) | omega) hb1).skip _ (by rfl))⟩)); go_simp) | (apply flow_no; (case hw => (go_simp; try (intro hh; cases hh))); (intro L w' _ _ hC; exact (HC.out _ _).2 (((HC.out _ _).1 hC).skip _ (by rfl))); go_simp))
          refine flow_nil ?_
          intro L wz hL hz
          have hz := (HC.out _ _).1 hz
          have hbz := hz.below
          have hcz := hz.cell
          try simp only [List.forall_mem_cons] at hcz
          have hdz := hz.done
          try simp only [List.forall_mem_cons] at hdz
          (try have hwz : Below w.heap.size w wz := by first | exact Below.trans (by (repeat (first | with_reducible (first | exact bR _ _ | assumption | refine bA ?_ _ | refine bS ?_ (by first | exact Nat.le_refl _ | (simp; done) | (simp; omega)) _) | assumption | exact bR _ _ | refine bD ?_ | refine bN ?_ _ | refine bT ?_ (by assumption)))) hbz | ((repeat (first | with_reducible (first | exact bR _ _ | assumption | refine bA ?_ _ | refine bS ?_ (by first | exact Nat.le_refl _ | (simp; done) | (simp; omega)) _) | assumption | exact bR _ _ | refine bD ?_ | refine bN ?_ _ | refine bT ?_ (by assumption))); done))
          go_wp2
        all_goals first
          | (refine ⟨⟨k + 1, by omega, by go_num, ?_, Below.step hb hbz⟩, by simp [intOf]; omega⟩; rw [HE.out, HD.out, HGG.out, HP.out, ascS, HLS.out]; rfl)
          | (go_ret; exact ⟨ret_bool (by rw [HG2.out, HE.out, HD.out, HGG.out, HP.out, ascS, HLS.out]; rfl), by exact bel⟩)
    · obtain rfl : k = l.length := by omega
      rw [List.drop_length] at HE
      have HU := Lib.hid (show unitsF none l = true from HE.out)
      have HOA := Lib.hid (fun w' hat => l27Order_any (B := B) l (.slice p l.length c) w' hat (by omega) (fun u hu => good_name (unitsF_good l none HU.out u hu)))
      go_wp2_with fail
      refine (HOA.out _ (H.out.below (by exact bel))).mono ?_
      rintro e w1 ⟨v, rfl, hv, -, hb1⟩
      obtain ⟨pv, cv, rfl⟩ : ∃ p c, v = .slice p (ordL l).length c := by
        rcases hv.2 with ⟨rfl, h0⟩ | ⟨g, cap, cur, rfl, _⟩
        · exact ⟨none, 0, by rw [h0]⟩
        · exact ⟨_, _, rfl⟩
      clear hv
      have HG3 := Lib.hid (show libGood l = decide ((ordL l).length = l.length) by rw [HG2.out, HU.out, Bool.true_and])
      have hii : (((ordL l).length : Int) = (l.length : Int)) = ((ordL l).length = l.length) := by apply propext; omega
      go_wp2
      go_ret
      refine ⟨ret_bool ?_, by exact bel⟩
      rw [HG3.out, Bool.eq_iff_iff, decide_eq_true_iff, beq_iff_eq]
      omega
def nameIs (x : ByteArray) (u : Un) : Bool := u.name.toList == x.toList
theorem nameIs_eq (x : ByteArray) (u : Un) : nameIs x u = decide (u.name = x) := by
  rw [nameIs, Bool.eq_iff_iff, decide_eq_true_iff, Lib.bytes_beq_iff]
theorem find_nameIs (l : List Un) (x : ByteArray) : l.find? (nameIs x) = findU l x := by
  rw [findU]; congr 1; funext u; exact nameIs_eq x u
def placeU (l : List Un) (x : ByteArray) : Option Nat := firstI (nameIs x) 0 l
theorem place_some {l : List Un} {x : ByteArray} {u : Un} (h : findU l x = some u) : ∃ (i : Nat) (hi : i < l.length), placeU l x = some i ∧ l[i] = u := by
  cases hp : placeU l x with
  | none => have := firstI_none _ _ _ hp; rw [find_nameIs, h] at this; cases this
  | some i =>
    obtain ⟨-, hi, hf⟩ := firstI_some _ _ _ _ hp
    simp only [Nat.sub_zero] at hi hf
    rw [find_nameIs, h] at hf
    exact ⟨i, hi, rfl, (Option.some.inj hf).symm⟩
theorem place_none {l : List Un} {x : ByteArray} : placeU l x = none ↔ findU l x = none := by
  constructor
  · intro h; rw [← find_nameIs]; exact firstI_none _ _ _ h
  · intro h
    cases hp : placeU l x with
    | none => rfl
    | some i =>
      obtain ⟨-, hi, hf⟩ := firstI_some _ _ _ _ hp
      rw [find_nameIs, h] at hf; cases hf
theorem nameIs_any {B : Nat → Prop} (u : Un) (x : ByteArray) (v0 v1 v2 v3 : Value) (g : Nat) (w : World) (hg : w.cell? ⟨g, 0, none⟩ = some (.string x)) (h : UnAt B w u [v0, v1, v2, v3]) :
    Calls Tryz.prog 94 #[.agg #[v0, v1, v2, v3], .pointer (some ⟨g, 0, none⟩)] w fun e w' => e = .returned (.bool (nameIs x u)) ∧ Below w.heap.size w w' := by
  obtain ⟨p, c, q, d, rfl, rfl, rfl, rfl, -⟩ := h.form
  have hgz := bsz (World.block_lt_of_cell? _ _ hg)
  clear h
  go_enter Tryz.func94, Tryz.ntmps94
  go_wp2
  go_ret
  exact ⟨rfl, by exact bel⟩
set_option maxHeartbeats 1600000 in
theorem idxPlace {B : Nat → Prop} (P : Un → Bool) (us : List Un) (g : Addr) (va : Value) (w : World) (HC : ∀ (a : Un) (v0 v1 v2 v3 : Value) (w' : World), a ∈ us → UnAt B w' a [v0, v1, v2, v3] → Below w.heap.size w w' → Calls Tryz.prog 94 #[.agg #[v0, v1, v2, v3], .pointer (some g)] w' fun e w'' => e = .returned (.bool (P a)) ∧ Below w'.heap.size w' w'')
    (h : UnsAt B w va us) : Calls Tryz.prog 81 #[va, .func (.func 94) #[] #[.pointer (some g)]] w (FirstI (firstI P 0 us) w) := by
  obtain ⟨p, c, rfl, hlen⟩ := h.form
  unfold maxLen at hlen
  have H := Lib.hid h
  have HN1 := Lib.hid HC
  clear h HC
  go_enter Tryz.func81, Tryz.ntmps81
  go_wp2
  go_loopw [8] (fun i wr => ∃ k : Nat, k ≤ us.length ∧ i = .int .i64 k ∧ firstI P 0 us = firstI P k (us.drop k) ∧ Below w.heap.size w wr) (fun i _ => us.length - (intOf i).toNat)
  case atStart => exact ⟨0, Nat.zero_le _, rfl, rfl, by exact bel⟩
  case round =>
    obtain ⟨k, hk, rfl, he, hb⟩ := hrel
    have HE := Lib.hid he
    clear he
    by_cases hlt : k < us.length
    · obtain ⟨b, o, rfl, hB, p1, c1, p2, c2, hx0, hx1, hx2, hx3, hx⟩ := (H.out.below hb).at_ hlt
      have HD := Lib.hid (firstI_drop P hlt)
      have hm := List.getElem_mem hlt
      obtain ⟨a, ha⟩ : ∃ a, us[k] = a := ⟨_, rfl⟩
      rw [ha] at hx hx0 hx1 hx2 hx3 HD hm
      have HX := Lib.hid hx
      clear ha hx
      have zb := bsz (World.block_lt_of_cell? _ _ hx0)
      cases hN : P a
      all_goals
        have HN := Lib.hid hN
        go_wp2_with fail
        refine (HN1.out a _ _ _ _ _ hm HX.out (by exact bel)).mono ?_
        rintro e w1 ⟨rfl, hb1⟩
        have ⟨cw1, fw1⟩ := bcell hb1
        have qw1 := hb1.size
        (try simp at qw1)
        (try have zw1w := bsz (show w.heap.size < w1.heap.size by omega))
        rw [HN.out]
        go_wp2
      · refine ⟨⟨k + 1, by omega, by go_num, ?_, by exact bel⟩, by simp [intOf]; omega⟩
        rw [HE.out, HD.out, HN.out]; rfl
      · go_ret
        exact ⟨_, rfl, by rw [HE.out, HD.out, HN.out]; rfl, by exact bel⟩
    · obtain rfl : k = us.length := by omega
      have he := HE.out
      rw [List.drop_length] at he
      have HE2 := Lib.hid he
      clear he
      go_wp2
      go_ret
      exact ⟨-1, rfl, by rw [HE2.out]; rfl, by exact bel⟩
theorem unitAt_any {B : Nat → Prop} (l : List Un) (va : Value) (x : ByteArray) (w : World) (h : UnsAt B w va l) : Calls Tryz.prog 38 #[va, .string x] w (FirstI (placeU l x) w) := by
  obtain ⟨p, c, rfl, hlen⟩ := h.form
  have H := Lib.hid h
  clear h
  have HX := Lib.hid (fun (w' : World) (hg : w'.cell? ⟨w.heap.size, 0, none⟩ = some (.string x)) (hat : UnsAt B w' (.slice p l.length c) l) => idxPlace (nameIs x) l ⟨w.heap.size, 0, none⟩ (.slice p l.length c) w' (fun a v0 v1 v2 v3 w2 _ ha hb2 => nameIs_any a x v0 v1 v2 v3 w.heap.size w2 ((hb2.cell (World.block_lt_of_cell? _ _ hg)).trans hg) ha) hat)
  go_enter Tryz.func38, Tryz.ntmps38
  go_wp2_with fail
  refine (HX.out _ (by go_simp) (H.out.below (by exact bel))).mono ?_
  rintro e w1 ⟨r, rfl, hr, hb1⟩
  have HR := Lib.hid hr
  clear hr
  go_wp2
  go_ret
  exact ⟨r, rfl, HR.out, by exact bel⟩
set_option maxHeartbeats 1600000 in
theorem l27Find_any {B : Nat → Prop} (l : List Un) (va : Value) (x : ByteArray) (w : World) (h : UnsAt B w va l) : Calls Tryz.prog 77 #[va, .string x] w (FirstI (placeU l x) w) := by
  obtain ⟨p, c, rfl, hlen⟩ := h.form
  unfold maxLen at hlen
  have H := Lib.hid h
  clear h
  go_enter Tryz.func77, Tryz.ntmps77
  go_wp2
  go_loopw [5] (fun i wr => ∃ k : Nat, k ≤ l.length ∧ i = .int .i64 k ∧ placeU l x = firstI (nameIs x) k (l.drop k) ∧ Below w.heap.size w wr) (fun i _ => l.length - (intOf i).toNat)
  case atStart => exact ⟨0, Nat.zero_le _, rfl, rfl, by exact bel⟩
  case round =>
    obtain ⟨k, hk, rfl, he, hb⟩ := hrel
    have HE := Lib.hid he
    clear he
    by_cases hlt : k < l.length
    · obtain ⟨b, o, rfl, hB, p1, c1, p2, c2, hx0, hx1, hx2, hx3, hx⟩ := (H.out.below hb).at_ hlt
      have HD := Lib.hid (firstI_drop (nameIs x) hlt)
      obtain ⟨a, ha⟩ : ∃ a, l[k] = a := ⟨_, rfl⟩
      rw [ha] at hx0 HD
      clear ha hx hx1 hx2 hx3
      have zb := bsz (World.block_lt_of_cell? _ _ hx0)
      cases hN : (a.name.toList == x.toList)
      all_goals
        have HN := Lib.hid (show nameIs x a = _ from hN)
        go_wp2
      · refine ⟨⟨k + 1, by omega, by go_num, ?_, by exact bel⟩, by simp [intOf]; omega⟩
        rw [HE.out, HD.out, HN.out]; rfl
      · go_ret
        exact ⟨(k : Int), rfl, by rw [HE.out, HD.out, HN.out]; rfl, by exact bel⟩
    · obtain rfl : k = l.length := by omega
      have he := HE.out
      rw [List.drop_length] at he
      have HE2 := Lib.hid he
      clear he
      go_wp2
      go_ret
      exact ⟨-1, rfl, by rw [HE2.out]; rfl, by exact bel⟩
/-! ### Hashes -/
theorem Kept.belowB {K : Nat → Prop} {a w w' : World} (hb : Below a.heap.size a w) (hk : Kept K w w') (hK : ∀ b, K b → a.heap.size ≤ b) : Below a.heap.size a w' :=
  ⟨hk.os.trans hb.os, hk.tape.trans hb.tape, hk.output.trans hb.output, Nat.le_trans hb.size hk.size, fun b hlt => (hk.block b (Nat.lt_of_lt_of_le hlt hb.size) (fun e => by have := hK b e; omega)).trans (hb.block b hlt)⟩
def unitOf (l : List Un) (x : ByteArray) : Bool := libGood l && (placeU l x).isSome
theorem libGood_parts {l : List Un} (h : libGood l = true) : Dist l ∧ (ordL l).length = l.length ∧ ∀ u ∈ l, u.good = true := by
  rw [libGood, Bool.and_eq_true, Bool.and_eq_true] at h
  exact ⟨unitsF_dist l none h.1.1, of_decide_eq_true h.2, unitsF_good l none h.1.1⟩
theorem place_mem {l : List Un} {x : ByteArray} (h : (placeU l x).isSome = true) : ∃ u ∈ l, u.name = x := by
  cases hf : findU l x with
  | none => rw [place_none.2 hf] at h; cases h
  | some u => exact ⟨u, findU_some hf⟩
set_option maxHeartbeats 800000 in
theorem isUnitOf_any {B : Nat → Prop} (l : List Un) (va : Value) (x : ByteArray) (w : World) (h : UnsAt B w va l) (hw : l.length + wtU l ≤ 1048576) :
    Calls Tryz.prog 35 #[va, .string x] w fun e w' => e = .returned (.bool (unitOf l x)) ∧ Below w.heap.size w w' := by
  obtain ⟨p, c, rfl, hlen⟩ := h.form
  have H := Lib.hid h
  have HU := Lib.hid (show unitOf l x = (libGood l && (placeU l x).isSome) from rfl)
  clear h
  go_enter Tryz.func35, Tryz.ntmps35
  go_wp2_with fail
  refine (implLib_any l _ _ (H.out.below (by exact bel)) hw).mono ?_
  rintro e w1 ⟨rfl, hb1⟩
  have ⟨cw1, fw1⟩ := bcell hb1
  have qw1 := hb1.size
  (try simp at qw1)
  (try have zw1w := bsz (show w.heap.size < w1.heap.size by omega))
  cases hg : libGood l
  · have HG := Lib.hid hg
    go_wp2
    go_ret
    exact ⟨ret_bool (by rw [HU.out, HG.out]; rfl), by exact bel⟩
  · have HG := Lib.hid hg
    go_wp2_with fail
    refine (unitAt_any l _ x _ (H.out.below (by exact bel))).mono ?_
    rintro e w2 ⟨r, rfl, hr, hb2⟩
    have HR := Lib.hid (show decide (0 ≤ r) = unitOf l x by rw [hr, atI_neg, HU.out, HG.out, Bool.true_and])
    clear hr
    go_wp2
    go_ret
    exact ⟨ret_bool HR.out, by exact bel⟩
end Go.Proofs.YtkgfanajgdelcaaGreatDoor
