/- UnitHash: both sides answer the same. Conditions: sizes; the table of powers of ten as it is laid. -/
import Derived.Shelf.Strings.BuilderF
import Derived.Test.YtimpkjiglioflaaGreatDoorSuPart1
import Derived.Test.YtimpkjiglioflaaGreatDoorSuPart11
namespace Go.Proofs.YtimpkjiglioflaaGreatDoor
open Go.RowKit
def unitsF : Option ByteArray → List Un → Bool
  | _, [] => true
  | p, u :: us => u.good && ascS p u.name && unitsF (some u.name) us
def prevU (l : List Un) : Nat → Option ByteArray | 0 => none | k + 1 => (l[k]?).map Un.name
theorem unitsF_drop {l : List Un} {k : Nat} (h : k < l.length) : unitsF (prevU l k) (l.drop k) = (l[k].good && ascS (prevU l k) l[k].name && unitsF (prevU l (k + 1)) (l.drop (k + 1))) := by
  rw [List.drop_eq_getElem_cons h, unitsF, show prevU l (k + 1) = some l[k].name by rw [prevU, List.getElem?_eq_getElem h]; rfl]
theorem prevU_pos {l : List Un} {k : Nat} (h : k < l.length) (hk : 0 < k) : prevU l k = some (l[k - 1]'(by omega)).name := by
  cases k with
  | zero => omega
  | succ k => rw [prevU, List.getElem?_eq_getElem (by omega)]; rfl
theorem less_trans : ∀ x y z : List UInt8, Op.bytesLess x y = true → Op.bytesLess y z = true → Op.bytesLess x z = true
  | [], [], _, h, _ => by simp [Op.bytesLess] at h
  | [], b :: y, [], _, h2 => by simp [Op.bytesLess] at h2
  | [], b :: y, c :: z, _, _ => by simp [Op.bytesLess]
  | a :: x, [], _, h, _ => by simp [Op.bytesLess] at h
  | a :: x, b :: y, [], _, h2 => by simp [Op.bytesLess] at h2
  | a :: x, b :: y, c :: z, h, h2 => by
    have ih := less_trans x y z
    simp only [Op.bytesLess, Bool.or_eq_true, Bool.and_eq_true, decide_eq_true_eq, beq_iff_eq] at h h2 ⊢
    rcases h with h | ⟨rfl, h⟩ <;> rcases h2 with h2 | ⟨rfl, h2⟩
    · exact .inl (UInt8.lt_trans h h2)
    · exact .inl h
    · exact .inl h2
    · exact .inr ⟨rfl, ih h h2⟩
theorem less_irrefl : ∀ x : List UInt8, Op.bytesLess x x = false
  | [] => rfl
  | a :: x => by simp [Op.bytesLess, UInt8.lt_irrefl, less_irrefl x]
theorem unitsF_asc : ∀ (l : List Un) (p : ByteArray), unitsF (some p) l = true → ∀ u ∈ l, lessB p u.name = true
  | [], _, _, u, hu => by simp at hu
  | v :: l, p, h, u, hu => by
    rw [unitsF, Bool.and_eq_true, Bool.and_eq_true] at h
    rcases List.mem_cons.1 hu with rfl | hu
    · exact h.1.2
    · exact less_trans _ _ _ h.1.2 (unitsF_asc l v.name h.2 u hu)
theorem unitsF_dist : ∀ (l : List Un) (p : Option ByteArray), unitsF p l = true → Dist l
  | [], _, _ => List.nodup_nil
  | v :: l, p, h => by
    rw [unitsF, Bool.and_eq_true, Bool.and_eq_true] at h
    rw [Dist, List.map_cons, List.nodup_cons]
    refine ⟨fun hm => ?_, unitsF_dist l _ h.2⟩
    obtain ⟨u, hu, e⟩ := List.mem_map.1 hm
    have := unitsF_asc l v.name h.2 u hu
    rw [e, lessB, less_irrefl] at this; cases this
theorem unitsF_good : ∀ (l : List Un) (p : Option ByteArray), unitsF p l = true → ∀ u ∈ l, u.good = true
  | [], _, _, u, hu => by simp at hu
  | v :: l, p, h, u, hu => by
    rw [unitsF, Bool.and_eq_true, Bool.and_eq_true] at h
    rcases List.mem_cons.1 hu with rfl | hu
    · exact h.1.1
    · exact unitsF_good l _ h.2 u hu
def libGood (l : List Un) : Bool := unitsF none l && decide (l.length ≤ 12) && decide ((ordL l).length = l.length)
set_option maxRecDepth 100000 in
set_option maxHeartbeats 6400000 in
theorem implLib_any {B : Nat → Prop} (l : List Un) (va : Value) (w : World) (h : UnsAt B w va l) (hw : l.length + wtU l ≤ 1048576) :
    Calls Tryz.prog 31 #[va] w fun e w' => e = .returned (.bool (libGood l)) ∧ Below w.heap.size w w' := by
  obtain ⟨p, c, rfl, hlen⟩ := h.form
  unfold maxLen at hlen
  have H := Lib.hid h
  have HG := Lib.hid (show libGood l = (unitsF none l && decide (l.length ≤ 12) && decide ((ordL l).length = l.length)) from rfl)
  have HZ := Lib.hid (fun u hu => Nat.le_trans (wtU_le l u hu) (show wtU l ≤ 1000000000000 by omega))
  clear h
  go_enter Tryz.func31, Tryz.ntmps31
  go_wp2
  go_loopw [9] (fun i wr => ∃ k : Nat, k ≤ l.length ∧ i = .int .i64 k ∧ unitsF none l = unitsF (prevU l k) (l.drop k) ∧ Below w.heap.size w wr) (fun i _ => l.length - (intOf i).toNat)
  case atStart => exact ⟨0, Nat.zero_le _, rfl, rfl, by (repeat (first | with_reducible exact Below.refl _ _ | with_reducible assumption | with_reducible refine Below.al ?_ _ | with_reducible refine Below.sc ?_ (by first | exact Nat.le_refl _ | (simp; done) | (simp; omega)) _ | assumption | exact Below.refl _ _ | refine Below.dr ?_ | refine Below.drN ?_ _ | refine Below.step ?_ (by assumption)))⟩
  case round =>
    obtain ⟨k, hk, rfl, he, hb⟩ := hrel
    have HE := Lib.hid he
    clear he
    by_cases hlt : k < l.length
    · obtain ⟨b, o, rfl, hB, p1, c1, p2, c2, hx0, hx1, hx2, hx3, hx⟩ := (H.out.below hb).at_ hlt
      have HD := Lib.hid (unitsF_drop hlt)
      have hza := HZ.out _ (List.getElem_mem hlt)
      have zb := bsz (World.block_lt_of_cell? _ _ hx0)
      by_cases hk0 : k = 0
      · subst hk0
        have HP := Lib.hid (show prevU l 0 = none from rfl)
        obtain ⟨a, ha⟩ : ∃ a, l[0] = a := ⟨_, rfl⟩
        rw [ha] at hx hx0 hx1 hx2 hx3 HD hza
        have HX := Lib.hid hx
        clear ha hx
        rw [Nat.zero_mul, Nat.add_zero] at hx0 hx1 hx2 hx3
        cases hg : a.good
        all_goals
          have HAG := Lib.hid (show ∀ (w : World), UnAt B w a [.string a.name, .slice p1 a.incs.length c1, .slice p2 a.axs.length c2, .string a.goal] → Calls Tryz.prog 48 #[.agg #[.string a.name, .slice p1 a.incs.length c1, .slice p2 a.axs.length c2, .string a.goal]] w fun e w' => e = .returned (.bool _) ∧ Below w.heap.size w w' from fun w hx => hg ▸ implUnit_any a _ _ _ _ w hx hza)
          have HGG := Lib.hid hg
          clear hg
          go_wp2
          obtain ⟨W, hW⟩ : ∃ W : World, W = wr.alloc (.cells #[.string a.name, .slice p1 a.incs.length c1, .slice p2 a.axs.length c2, .string a.goal] 24) := ⟨_, rfl⟩
          have hbW : Below wr.heap.size wr W := by rw [hW]; exact (Below.refl _ _).alloc (Nat.le_refl _) _
          have hbw := Below.step hb hbW
          have hc0 : W.cell? ⟨wr.heap.size, 0, none⟩ = some (.string a.name) := by rw [hW]; go_simp
          have hc1 : W.cell? ⟨wr.heap.size, 1, none⟩ = some (.slice p1 a.incs.length c1) := by rw [hW]; go_simp
          have hc2 : W.cell? ⟨wr.heap.size, 2, none⟩ = some (.slice p2 a.axs.length c2) := by rw [hW]; go_simp
          have hc3 : W.cell? ⟨wr.heap.size, 3, none⟩ = some (.string a.goal) := by rw [hW]; go_simp
          have hy0 := (hbW.cell zb.1).trans hx0
          rw [← hW]
          clear hW
          obtain ⟨C, HC0⟩ := class_of (InF W.heap.size _ [(⟨wr.heap.size, 0, none⟩, .string a.name), (⟨wr.heap.size, 1, none⟩, .slice p1 a.incs.length c1), (⟨wr.heap.size, 2, none⟩, .slice p2 a.axs.length c2), (⟨wr.heap.size, 3, none⟩, .string a.goal), (⟨b, o, none⟩, .string a.name)] [] [])
          have HC := Lib.hid HC0
          clear HC0
          refine wp_region_flow (C := C) (by kernel_rfl) (by kernel_rfl) (fun L hL => (HC.out _ _).2 (InF.start (by first | (intro _ hs; cases hs; done) | (simp only [List.forall_mem_cons]; go_simp)) (by first | (intro _ hs; cases hs; done) | (simp only [List.forall_mem_cons]; go_simp)) (by first | (intro _ hs; cases hs; done) | (simp only [List.forall_mem_cons]; go_simp)) (by first | (intro _ hs; cases hs; done) | (simp only [List.forall_mem_cons]; go_simp)) L hL)) ?_
          repeat (first | (apply flow_free rfl; (intro L w' hun hrd hC; have hC := (HC.out _ _).1 hC; have hb' := hC.below; (try have hw' : Below w.heap.size w w' := by first | exact Below.trans (by (repeat (first | with_reducible exact Below.refl _ _ | with_reducible assumption | with_reducible refine Below.al ?_ _ | with_reducible refine Below.sc ?_ (by first | exact Nat.le_refl _ | (simp; done) | (simp; omega)) _ | assumption | exact Below.refl _ _ | refine Below.dr ?_ | refine Below.drN ?_ _ | refine Below.step ?_ (by assumption)))) hb' | ((repeat (first | with_reducible exact Below.refl _ _ | with_reducible assumption | with_reducible refine Below.al ?_ _ | with_reducible refine Below.sc ?_ (by first | exact Nat.le_refl _ | (simp; done) | (simp; omega)) _ | assumption | exact Below.refl _ _ | refine Below.dr ?_ | refine Below.drN ?_ _ | refine Below.step ?_ (by assumption))); done)); have hf' := hC.cell; (try simp only [List.forall_mem_cons] at hf'); go_simp; first | exact ⟨(HC.out _ _).2 (hC.skip _ (by rfl)), rfl⟩ | (rw [if_neg]; (exact ⟨(HC.out _ _).2 (hC.skip _ (by rfl)), rfl⟩); omega) | (go_at_call 48; refine (HAG.out _ (HX.out.below (Below.step hbW hb'))).mono ?_; rintro e w1 ⟨rfl, hb1⟩; exact ⟨rfl, (HC.out _ _).2 ((hC.next (by first | (simp; done) | (simp; omega) | omega) hb1).skip _ (by rfl))⟩)); go_simp) | (apply flow_yes; (case hw => go_simp); (intro L w' hun hrd hC; have hC := (HC.out _ _).1 hC; have hb' := hC.below; (try have hw' : Below w.heap.size w w' := by first | exact Below.trans (by (repeat (first | with_reducible exact Below.refl _ _ | with_reducible assumption | with_reducible refine Below.al ?_ _ | with_reducible refine Below.sc ?_ (by first | exact Nat.le_refl _ | (simp; done) | (simp; omega)) _ | assumption | exact Below.refl _ _ | refine Below.dr ?_ | refine Below.drN ?_ _ | refine Below.step ?_ (by assumption)))) hb' | ((repeat (first | with_reducible exact Below.refl _ _ | with_reducible assumption | with_reducible refine Below.al ?_ _ | with_reducible refine Below.sc ?_ (by first | exact Nat.le_refl _ | (simp; done) | (simp; omega)) _ | assumption | exact Below.refl _ _ | refine Below.dr ?_ | refine Below.drN ?_ _ | refine Below.step ?_ (by assumption))); done)); have hf' := hC.cell; (try simp only [List.forall_mem_cons] at hf'); go_simp; first | exact ⟨(HC.out _ _).2 (hC.skip _ (by rfl)), rfl⟩ | (rw [if_neg]; (exact ⟨(HC.out _ _).2 (hC.skip _ (by rfl)), rfl⟩); omega) | (go_at_call 48; refine (HAG.out _ (HX.out.below (Below.step hbW hb'))).mono ?_; rintro e w1 ⟨rfl, hb1⟩; exact ⟨rfl, (HC.out _ _).2 ((hC.next (by first | (simp; done) | (simp; omega) | omega) hb1).skip _ (by rfl))⟩)); go_simp) | (apply flow_no; (case hw => (go_simp; try (intro hh; cases hh))); (intro L w' _ _ hC; exact (HC.out _ _).2 (((HC.out _ _).1 hC).skip _ (by rfl))); go_simp))
          refine flow_nil ?_
          intro L wz hL hz
          have hz := (HC.out _ _).1 hz
          have hbz := hz.below
          have hcz := hz.cell
          try simp only [List.forall_mem_cons] at hcz
          have hdz := hz.done
          try simp only [List.forall_mem_cons] at hdz
          (try have hwz : Below w.heap.size w wz := by first | exact Below.trans (by (repeat (first | with_reducible exact Below.refl _ _ | with_reducible assumption | with_reducible refine Below.al ?_ _ | with_reducible refine Below.sc ?_ (by first | exact Nat.le_refl _ | (simp; done) | (simp; omega)) _ | assumption | exact Below.refl _ _ | refine Below.dr ?_ | refine Below.drN ?_ _ | refine Below.step ?_ (by assumption)))) hbz | ((repeat (first | with_reducible exact Below.refl _ _ | with_reducible assumption | with_reducible refine Below.al ?_ _ | with_reducible refine Below.sc ?_ (by first | exact Nat.le_refl _ | (simp; done) | (simp; omega)) _ | assumption | exact Below.refl _ _ | refine Below.dr ?_ | refine Below.drN ?_ _ | refine Below.step ?_ (by assumption))); done))
          go_wp2
        · go_ret
          exact ⟨ret_bool (by rw [HG.out, HE.out, HD.out, HGG.out]; rfl), by (repeat (first | with_reducible exact Below.refl _ _ | with_reducible assumption | with_reducible refine Below.al ?_ _ | with_reducible refine Below.sc ?_ (by first | exact Nat.le_refl _ | (simp; done) | (simp; omega)) _ | assumption | exact Below.refl _ _ | refine Below.dr ?_ | refine Below.drN ?_ _ | refine Below.step ?_ (by assumption)))⟩
        · refine ⟨⟨1, by omega, by go_num, ?_, Below.step hbw hbz⟩, by simp [intOf]; omega⟩
          rw [HE.out, HD.out, HGG.out, HP.out]; rfl
      · have hk1 : k - 1 < l.length := by omega
        obtain ⟨b', o', hq, hB', r1, d1, r2, d2, hz0, -, -, -, -⟩ := (H.out.below hb).at_ hk1
        simp only [Option.some.injEq, Addr.mk.injEq, and_true] at hq
        obtain ⟨rfl, rfl⟩ := hq
        have HP := Lib.hid (prevU_pos hlt (by omega))
        obtain ⟨a, ha⟩ : ∃ a, l[k] = a := ⟨_, rfl⟩
        obtain ⟨q, hqe⟩ : ∃ q, l[k - 1] = q := ⟨_, rfl⟩
        rw [ha] at hx hx0 hx1 hx2 hx3 HD hza
        rw [hqe] at hz0 HP
        have HX := Lib.hid hx
        clear ha hqe hx
        have hki : IntKind.i64.wrap ((k : Int) - 1) = ((k - 1 : Nat) : Int) := by rw [IntWalk.i64_in _ (by omega)]; omega
        have hkp : (0 : Int) < (k : Int) := by omega
        have hkn : 0 < k := by omega
        have hkj : ((k - 1 : Nat) : Int) < l.length := by omega
        have HL0 := Lib.hid (show lessB q.name a.name = !(Op.bytesLess a.name.toList q.name.toList || a.name.toList == q.name.toList) by rw [lessB, less_total, ByteArray.toList_eq, ByteArray.toList_eq])
        cases hg : a.good <;> cases hA : Op.bytesLess a.name.toList q.name.toList <;> cases hQ : (a.name.toList == q.name.toList)
        all_goals
          have HAG := Lib.hid (show ∀ (w : World), UnAt B w a [.string a.name, .slice p1 a.incs.length c1, .slice p2 a.axs.length c2, .string a.goal] → Calls Tryz.prog 48 #[.agg #[.string a.name, .slice p1 a.incs.length c1, .slice p2 a.axs.length c2, .string a.goal]] w fun e w' => e = .returned (.bool _) ∧ Below w.heap.size w w' from fun w hx => hg ▸ implUnit_any a _ _ _ _ w hx hza)
          have HGG := Lib.hid hg
          have HLS := Lib.hid (HL0.out.trans (by rw [hA, hQ]))
          clear hg
          go_wp2
          obtain ⟨W, hW⟩ : ∃ W : World, W = wr.alloc (.cells #[.string a.name, .slice p1 a.incs.length c1, .slice p2 a.axs.length c2, .string a.goal] 24) := ⟨_, rfl⟩
          have hbW : Below wr.heap.size wr W := by rw [hW]; exact (Below.refl _ _).alloc (Nat.le_refl _) _
          have hbw := Below.step hb hbW
          have hc0 : W.cell? ⟨wr.heap.size, 0, none⟩ = some (.string a.name) := by rw [hW]; go_simp
          have hc1 : W.cell? ⟨wr.heap.size, 1, none⟩ = some (.slice p1 a.incs.length c1) := by rw [hW]; go_simp
          have hc2 : W.cell? ⟨wr.heap.size, 2, none⟩ = some (.slice p2 a.axs.length c2) := by rw [hW]; go_simp
          have hc3 : W.cell? ⟨wr.heap.size, 3, none⟩ = some (.string a.goal) := by rw [hW]; go_simp
          have hy0 := (hbW.cell zb.1).trans hx0
          have hz1 := (hbW.cell zb.1).trans hz0
          rw [← hW]
          clear hW
          obtain ⟨C, HC0⟩ := class_of (InF W.heap.size _ [(⟨wr.heap.size, 0, none⟩, .string a.name), (⟨wr.heap.size, 1, none⟩, .slice p1 a.incs.length c1), (⟨wr.heap.size, 2, none⟩, .slice p2 a.axs.length c2), (⟨wr.heap.size, 3, none⟩, .string a.goal), (⟨b, o + k * 4, none⟩, .string a.name), (⟨b, o + (k - 1) * 4, none⟩, .string q.name)] [] [])
          have HC := Lib.hid HC0
          clear HC0
          refine wp_region_flow (C := C) (by kernel_rfl) (by kernel_rfl) (fun L hL => (HC.out _ _).2 (InF.start (by first | (intro _ hs; cases hs; done) | (simp only [List.forall_mem_cons]; go_simp)) (by first | (intro _ hs; cases hs; done) | (simp only [List.forall_mem_cons]; go_simp)) (by first | (intro _ hs; cases hs; done) | (simp only [List.forall_mem_cons]; go_simp)) (by first | (intro _ hs; cases hs; done) | (simp only [List.forall_mem_cons]; go_simp)) L hL)) ?_
          repeat (first | (apply flow_free rfl; (intro L w' hun hrd hC; have hC := (HC.out _ _).1 hC; have hb' := hC.below; (try have hw' : Below w.heap.size w w' := by first | exact Below.trans (by (repeat (first | with_reducible exact Below.refl _ _ | with_reducible assumption | with_reducible refine Below.al ?_ _ | with_reducible refine Below.sc ?_ (by first | exact Nat.le_refl _ | (simp; done) | (simp; omega)) _ | assumption | exact Below.refl _ _ | refine Below.dr ?_ | refine Below.drN ?_ _ | refine Below.step ?_ (by assumption)))) hb' | ((repeat (first | with_reducible exact Below.refl _ _ | with_reducible assumption | with_reducible refine Below.al ?_ _ | with_reducible refine Below.sc ?_ (by first | exact Nat.le_refl _ | (simp; done) | (simp; omega)) _ | assumption | exact Below.refl _ _ | refine Below.dr ?_ | refine Below.drN ?_ _ | refine Below.step ?_ (by assumption))); done)); have hf' := hC.cell; (try simp only [List.forall_mem_cons] at hf'); go_simp; first | exact ⟨(HC.out _ _).2 (hC.skip _ (by rfl)), rfl⟩ | (rw [if_neg]; (exact ⟨(HC.out _ _).2 (hC.skip _ (by rfl)), rfl⟩); omega) | (go_at_call 48; refine (HAG.out _ (HX.out.below (Below.step hbW hb'))).mono ?_; rintro e w1 ⟨rfl, hb1⟩; exact ⟨rfl, (HC.out _ _).2 ((hC.next (by first | (simp; done) | (simp; omega) | omega) hb1).skip _ (by rfl))⟩)); go_simp) | (apply flow_yes; (case hw => go_simp); (intro L w' hun hrd hC; have hC := (HC.out _ _).1 hC; have hb' := hC.below; (try have hw' : Below w.heap.size w w' := by first | exact Below.trans (by (repeat (first | with_reducible exact Below.refl _ _ | with_reducible assumption | with_reducible refine Below.al ?_ _ | with_reducible refine Below.sc ?_ (by first | exact Nat.le_refl _ | (simp; done) | (simp; omega)) _ | assumption | exact Below.refl _ _ | refine Below.dr ?_ | refine Below.drN ?_ _ | refine Below.step ?_ (by assumption)))) hb' | ((repeat (first | with_reducible exact Below.refl _ _ | with_reducible assumption | with_reducible refine Below.al ?_ _ | with_reducible refine Below.sc ?_ (by first | exact Nat.le_refl _ | (simp; done) | (simp; omega)) _ | assumption | exact Below.refl _ _ | refine Below.dr ?_ | refine Below.drN ?_ _ | refine Below.step ?_ (by assumption))); done)); have hf' := hC.cell; (try simp only [List.forall_mem_cons] at hf'); go_simp; first | exact ⟨(HC.out _ _).2 (hC.skip _ (by rfl)), rfl⟩ | (rw [if_neg]; (exact ⟨(HC.out _ _).2 (hC.skip _ (by rfl)), rfl⟩); omega) | (go_at_call 48; refine (HAG.out _ (HX.out.below (Below.step hbW hb'))).mono ?_; rintro e w1 ⟨rfl, hb1⟩; exact ⟨rfl, (HC.out _ _).2 ((hC.next (by first | (simp; done) | (simp; omega) | omega) hb1).skip _ (by rfl))⟩)); go_simp) | (apply flow_no; (case hw => (go_simp; try (intro hh; cases hh))); (intro L w' _ _ hC; exact (HC.out _ _).2 (((HC.out _ _).1 hC).skip _ (by rfl))); go_simp))
          refine flow_nil ?_
          intro L wz hL hz
          have hz := (HC.out _ _).1 hz
          have hbz := hz.below
          have hcz := hz.cell
          try simp only [List.forall_mem_cons] at hcz
          have hdz := hz.done
          try simp only [List.forall_mem_cons] at hdz
          (try have hwz : Below w.heap.size w wz := by first | exact Below.trans (by (repeat (first | with_reducible exact Below.refl _ _ | with_reducible assumption | with_reducible refine Below.al ?_ _ | with_reducible refine Below.sc ?_ (by first | exact Nat.le_refl _ | (simp; done) | (simp; omega)) _ | assumption | exact Below.refl _ _ | refine Below.dr ?_ | refine Below.drN ?_ _ | refine Below.step ?_ (by assumption)))) hbz | ((repeat (first | with_reducible exact Below.refl _ _ | with_reducible assumption | with_reducible refine Below.al ?_ _ | with_reducible refine Below.sc ?_ (by first | exact Nat.le_refl _ | (simp; done) | (simp; omega)) _ | assumption | exact Below.refl _ _ | refine Below.dr ?_ | refine Below.drN ?_ _ | refine Below.step ?_ (by assumption))); done))
          go_wp2
        all_goals first
          | (refine ⟨⟨k + 1, by omega, by go_num, ?_, Below.step hbw hbz⟩, by simp [intOf]; omega⟩; rw [HE.out, HD.out, HGG.out, HP.out, ascS, HLS.out]; rfl)
          | (go_ret; exact ⟨ret_bool (by rw [HG.out, HE.out, HD.out, HGG.out, HP.out, ascS, HLS.out]; rfl), by (repeat (first | with_reducible exact Below.refl _ _ | with_reducible assumption | with_reducible refine Below.al ?_ _ | with_reducible refine Below.sc ?_ (by first | exact Nat.le_refl _ | (simp; done) | (simp; omega)) _ | assumption | exact Below.refl _ _ | refine Below.dr ?_ | refine Below.drN ?_ _ | refine Below.step ?_ (by assumption)))⟩)
    · obtain rfl : k = l.length := by omega
      rw [List.drop_length] at HE
      have HU := Lib.hid (show unitsF none l = true from HE.out)
      have HOA := Lib.hid (fun w' => order_any (B := B) l (.slice p l.length c) w' )
      go_wp2_with fail
      refine (HOA.out _ (H.out.below (by (repeat (first | with_reducible exact Below.refl _ _ | with_reducible assumption | with_reducible refine Below.al ?_ _ | with_reducible refine Below.sc ?_ (by first | exact Nat.le_refl _ | (simp; done) | (simp; omega)) _ | assumption | exact Below.refl _ _ | refine Below.dr ?_ | refine Below.drN ?_ _ | refine Below.step ?_ (by assumption))))) (by omega)).mono ?_
      rintro e w1 ⟨hb1, hp⟩
      by_cases hle : (ordL l).length = l.length
      · rw [if_pos hle] at hp
        obtain ⟨v, rfl, hv⟩ := hp
        obtain ⟨pv, cv, rfl, -⟩ := OwnRow.form hv
        clear hv
        have HG2 := Lib.hid (show libGood l = decide (l.length ≤ 12) by rw [HG.out, HU.out, decide_eq_true hle]; simp)
        have h12 : ((l.length : Int) ≤ 12) = (l.length ≤ 12) := by apply propext; omega
        go_wp2
        go_ret
        exact ⟨ret_bool (by rw [HG2.out]), by (repeat (first | with_reducible exact Below.refl _ _ | with_reducible assumption | with_reducible refine Below.al ?_ _ | with_reducible refine Below.sc ?_ (by first | exact Nat.le_refl _ | (simp; done) | (simp; omega)) _ | assumption | exact Below.refl _ _ | refine Below.dr ?_ | refine Below.drN ?_ _ | refine Below.step ?_ (by assumption)))⟩
      · rw [if_neg hle] at hp
        subst hp
        have HG2 := Lib.hid (show libGood l = false by rw [HG.out, HU.out, decide_eq_false hle]; simp)
        go_wp2
        go_ret
        exact ⟨ret_bool (by rw [HG2.out]), by (repeat (first | with_reducible exact Below.refl _ _ | with_reducible assumption | with_reducible refine Below.al ?_ _ | with_reducible refine Below.sc ?_ (by first | exact Nat.le_refl _ | (simp; done) | (simp; omega)) _ | assumption | exact Below.refl _ _ | refine Below.dr ?_ | refine Below.drN ?_ _ | refine Below.step ?_ (by assumption)))⟩
end Go.Proofs.YtimpkjiglioflaaGreatDoor
namespace Go.Proofs.YtimpkjiglioflaaGreatDoor
open Go.RowKit
theorem good_name {u : Un} (h : u.good = true) : (u.name.toList == []) = false := by
  unfold Un.good at h
  simp only [Bool.and_eq_true] at h
  have h1 := h.1.1.1.1.1
  rw [ByteArray.toList_eq]
  cases he : u.name.data.toList with
  | nil => rw [he] at h1; simp [symB] at h1
  | cons a l => rfl
theorem libGood_eq (l : List Un) : libGood l = (decide (l.length ≤ 12) && (unitsF none l && decide ((ordL l).length = l.length))) := by
  rw [libGood]; cases unitsF none l <;> cases decide (l.length ≤ 12) <;> cases decide ((ordL l).length = l.length) <;> rfl
set_option maxRecDepth 100000 in
set_option maxHeartbeats 6400000 in
theorem specLib_any {B : Nat → Prop} (l : List Un) (va : Value) (w : World) (h : UnsAt B w va l) (hw : l.length + wtU l ≤ 1048576) :
    Calls Tryz.prog 51 #[va] w fun e w' => e = .returned (.bool (libGood l)) ∧ Below w.heap.size w w' := by
  obtain ⟨p, c, rfl, hlen⟩ := h.form
  unfold maxLen at hlen
  have H := Lib.hid h
  have HG := Lib.hid (libGood_eq l)
  have HZ := Lib.hid (fun u hu => Nat.le_trans (wtU_le l u hu) (show wtU l ≤ 1000000000000 by omega))
  clear h
  by_cases h12 : l.length ≤ 12
  case neg =>
    go_enter Tryz.func51, Tryz.ntmps51
    have hj : (12 : Int) < l.length := by omega
    go_wp2
    go_ret
    exact ⟨ret_bool (by rw [HG.out, decide_eq_false h12]; rfl), by (repeat (first | with_reducible exact Below.refl _ _ | with_reducible assumption | with_reducible refine Below.al ?_ _ | with_reducible refine Below.sc ?_ (by first | exact Nat.le_refl _ | (simp; done) | (simp; omega)) _ | assumption | exact Below.refl _ _ | refine Below.dr ?_ | refine Below.drN ?_ _ | refine Below.step ?_ (by assumption)))⟩
  have hj : ¬ (12 : Int) < l.length := by omega
  have HG2 := Lib.hid (show libGood l = (unitsF none l && decide ((ordL l).length = l.length)) by rw [HG.out, decide_eq_true h12, Bool.true_and])
  go_enter Tryz.func51, Tryz.ntmps51
  go_wp2
  go_loopw [3] (fun i wr => ∃ k : Nat, k ≤ l.length ∧ i = .int .i64 k ∧ unitsF none l = unitsF (prevU l k) (l.drop k) ∧ Below w.heap.size w wr) (fun i _ => l.length - (intOf i).toNat)
  case atStart => exact ⟨0, Nat.zero_le _, rfl, rfl, by (repeat (first | with_reducible exact Below.refl _ _ | with_reducible assumption | with_reducible refine Below.al ?_ _ | with_reducible refine Below.sc ?_ (by first | exact Nat.le_refl _ | (simp; done) | (simp; omega)) _ | assumption | exact Below.refl _ _ | refine Below.dr ?_ | refine Below.drN ?_ _ | refine Below.step ?_ (by assumption)))⟩
  case round =>
    obtain ⟨k, hk, rfl, he, hb⟩ := hrel
    have HE := Lib.hid he
    clear he
    by_cases hlt : k < l.length
    · obtain ⟨b, o, rfl, hB, p1, c1, p2, c2, hx0, hx1, hx2, hx3, hx⟩ := (H.out.below hb).at_ hlt
      have HD := Lib.hid (unitsF_drop hlt)
      have hza := HZ.out _ (List.getElem_mem hlt)
      have zb := bsz (World.block_lt_of_cell? _ _ hx0)
      by_cases hk0 : k = 0
      · subst hk0
        have HP := Lib.hid (show prevU l 0 = none from rfl)
        obtain ⟨a, ha⟩ : ∃ a, l[0] = a := ⟨_, rfl⟩
        rw [ha] at hx hx0 hx1 hx2 hx3 HD hza
        have HX := Lib.hid hx
        clear ha hx
        rw [Nat.zero_mul, Nat.add_zero] at hx0 hx1 hx2 hx3
        cases hg : a.good
        all_goals
          have HAG := Lib.hid (show ∀ (w : World), UnAt B w a [.string a.name, .slice p1 a.incs.length c1, .slice p2 a.axs.length c2, .string a.goal] → Calls Tryz.prog 44 #[.agg #[.string a.name, .slice p1 a.incs.length c1, .slice p2 a.axs.length c2, .string a.goal]] w fun e w' => e = .returned (.bool _) ∧ Below w.heap.size w w' from fun w hx => hg ▸ l27Unit_any a _ _ _ _ w hx hza)
          have HGG := Lib.hid hg
          clear hg
          go_wp2
          obtain ⟨C, HC0⟩ := class_of (InF wr.heap.size _ [(⟨b, o, none⟩, .string a.name), (⟨b, o + 1, none⟩, .slice p1 a.incs.length c1), (⟨b, o + 2, none⟩, .slice p2 a.axs.length c2), (⟨b, o + 3, none⟩, .string a.goal)] [] [])
          have HC := Lib.hid HC0
          clear HC0
          refine wp_region_flow (C := C) (by kernel_rfl) (by kernel_rfl) (fun L hL => (HC.out _ _).2 (InF.start (by first | (intro _ hs; cases hs; done) | (simp only [List.forall_mem_cons]; go_simp)) (by first | (intro _ hs; cases hs; done) | (simp only [List.forall_mem_cons]; go_simp)) (by first | (intro _ hs; cases hs; done) | (simp only [List.forall_mem_cons]; go_simp)) (by first | (intro _ hs; cases hs; done) | (simp only [List.forall_mem_cons]; go_simp)) L hL)) ?_
          repeat (first | (apply flow_free rfl; (intro L w' hun hrd hC; have hC := (HC.out _ _).1 hC; have hb' := hC.below; (try have hw' : Below w.heap.size w w' := by first | exact Below.trans (by (repeat (first | with_reducible exact Below.refl _ _ | with_reducible assumption | with_reducible refine Below.al ?_ _ | with_reducible refine Below.sc ?_ (by first | exact Nat.le_refl _ | (simp; done) | (simp; omega)) _ | assumption | exact Below.refl _ _ | refine Below.dr ?_ | refine Below.drN ?_ _ | refine Below.step ?_ (by assumption)))) hb' | ((repeat (first | with_reducible exact Below.refl _ _ | with_reducible assumption | with_reducible refine Below.al ?_ _ | with_reducible refine Below.sc ?_ (by first | exact Nat.le_refl _ | (simp; done) | (simp; omega)) _ | assumption | exact Below.refl _ _ | refine Below.dr ?_ | refine Below.drN ?_ _ | refine Below.step ?_ (by assumption))); done)); have hf' := hC.cell; (try simp only [List.forall_mem_cons] at hf'); go_simp; first | exact ⟨(HC.out _ _).2 (hC.skip _ (by rfl)), rfl⟩ | (rw [if_neg]; (exact ⟨(HC.out _ _).2 (hC.skip _ (by rfl)), rfl⟩); omega) | (go_at_call 44; refine (HAG.out _ (HX.out.below hb')).mono ?_; rintro e w1 ⟨rfl, hb1⟩; exact ⟨rfl, (HC.out _ _).2 ((hC.next (by first | (simp; done) | (simp; omega) | omega) hb1).skip _ (by rfl))⟩)); go_simp) | (apply flow_yes; (case hw => go_simp); (intro L w' hun hrd hC; have hC := (HC.out _ _).1 hC; have hb' := hC.below; (try have hw' : Below w.heap.size w w' := by first | exact Below.trans (by (repeat (first | with_reducible exact Below.refl _ _ | with_reducible assumption | with_reducible refine Below.al ?_ _ | with_reducible refine Below.sc ?_ (by first | exact Nat.le_refl _ | (simp; done) | (simp; omega)) _ | assumption | exact Below.refl _ _ | refine Below.dr ?_ | refine Below.drN ?_ _ | refine Below.step ?_ (by assumption)))) hb' | ((repeat (first | with_reducible exact Below.refl _ _ | with_reducible assumption | with_reducible refine Below.al ?_ _ | with_reducible refine Below.sc ?_ (by first | exact Nat.le_refl _ | (simp; done) | (simp; omega)) _ | assumption | exact Below.refl _ _ | refine Below.dr ?_ | refine Below.drN ?_ _ | refine Below.step ?_ (by assumption))); done)); have hf' := hC.cell; (try simp only [List.forall_mem_cons] at hf'); go_simp; first | exact ⟨(HC.out _ _).2 (hC.skip _ (by rfl)), rfl⟩ | (rw [if_neg]; (exact ⟨(HC.out _ _).2 (hC.skip _ (by rfl)), rfl⟩); omega) | (go_at_call 44; refine (HAG.out _ (HX.out.below hb')).mono ?_; rintro e w1 ⟨rfl, hb1⟩; exact ⟨rfl, (HC.out _ _).2 ((hC.next (by first | (simp; done) | (simp; omega) | omega) hb1).skip _ (by rfl))⟩)); go_simp) | (apply flow_no; (case hw => (go_simp; try (intro hh; cases hh))); (intro L w' _ _ hC; exact (HC.out _ _).2 (((HC.out _ _).1 hC).skip _ (by rfl))); go_simp))
          refine flow_nil ?_
          intro L wz hL hz
          have hz := (HC.out _ _).1 hz
          have hbz := hz.below
          have hcz := hz.cell
          try simp only [List.forall_mem_cons] at hcz
          have hdz := hz.done
          try simp only [List.forall_mem_cons] at hdz
          (try have hwz : Below w.heap.size w wz := by first | exact Below.trans (by (repeat (first | with_reducible exact Below.refl _ _ | with_reducible assumption | with_reducible refine Below.al ?_ _ | with_reducible refine Below.sc ?_ (by first | exact Nat.le_refl _ | (simp; done) | (simp; omega)) _ | assumption | exact Below.refl _ _ | refine Below.dr ?_ | refine Below.drN ?_ _ | refine Below.step ?_ (by assumption)))) hbz | ((repeat (first | with_reducible exact Below.refl _ _ | with_reducible assumption | with_reducible refine Below.al ?_ _ | with_reducible refine Below.sc ?_ (by first | exact Nat.le_refl _ | (simp; done) | (simp; omega)) _ | assumption | exact Below.refl _ _ | refine Below.dr ?_ | refine Below.drN ?_ _ | refine Below.step ?_ (by assumption))); done))
          go_wp2
        · go_ret
          exact ⟨ret_bool (by rw [HG2.out, HE.out, HD.out, HGG.out]; rfl), by (repeat (first | with_reducible exact Below.refl _ _ | with_reducible assumption | with_reducible refine Below.al ?_ _ | with_reducible refine Below.sc ?_ (by first | exact Nat.le_refl _ | (simp; done) | (simp; omega)) _ | assumption | exact Below.refl _ _ | refine Below.dr ?_ | refine Below.drN ?_ _ | refine Below.step ?_ (by assumption)))⟩
        · refine ⟨⟨1, by omega, by go_num, ?_, Below.step hb hbz⟩, by simp [intOf]; omega⟩
          rw [HE.out, HD.out, HGG.out, HP.out]; rfl
      · have hk1 : k - 1 < l.length := by omega
        obtain ⟨b', o', hq, hB', r1, d1, r2, d2, hz0, -, -, -, -⟩ := (H.out.below hb).at_ hk1
        simp only [Option.some.injEq, Addr.mk.injEq, and_true] at hq
        obtain ⟨rfl, rfl⟩ := hq
        have HP := Lib.hid (prevU_pos hlt (by omega))
        obtain ⟨a, ha⟩ : ∃ a, l[k] = a := ⟨_, rfl⟩
        obtain ⟨q, hqe⟩ : ∃ q, l[k - 1] = q := ⟨_, rfl⟩
        rw [ha] at hx hx0 hx1 hx2 hx3 HD hza
        rw [hqe] at hz0 HP
        have HX := Lib.hid hx
        clear ha hqe hx
        have hki : IntKind.i64.wrap ((k : Int) - 1) = ((k - 1 : Nat) : Int) := by rw [IntWalk.i64_in _ (by omega)]; omega
        have hkp : (0 : Int) < (k : Int) := by omega
        have hkn : 0 < k := by omega
        have hkj : ((k - 1 : Nat) : Int) < l.length := by omega
        have HL0 := Lib.hid (show lessB q.name a.name = Op.bytesLess q.name.toList a.name.toList by rw [lessB, ByteArray.toList_eq, ByteArray.toList_eq])
        cases hg : a.good <;> cases hA : Op.bytesLess q.name.toList a.name.toList
        all_goals
          have HAG := Lib.hid (show ∀ (w : World), UnAt B w a [.string a.name, .slice p1 a.incs.length c1, .slice p2 a.axs.length c2, .string a.goal] → Calls Tryz.prog 44 #[.agg #[.string a.name, .slice p1 a.incs.length c1, .slice p2 a.axs.length c2, .string a.goal]] w fun e w' => e = .returned (.bool _) ∧ Below w.heap.size w w' from fun w hx => hg ▸ l27Unit_any a _ _ _ _ w hx hza)
          have HGG := Lib.hid hg
          have HLS := Lib.hid (HL0.out.trans hA)
          clear hg
          go_wp2
          obtain ⟨C, HC0⟩ := class_of (InF wr.heap.size _ [(⟨b, o + k * 4, none⟩, .string a.name), (⟨b, o + k * 4 + 1, none⟩, .slice p1 a.incs.length c1), (⟨b, o + k * 4 + 2, none⟩, .slice p2 a.axs.length c2), (⟨b, o + k * 4 + 3, none⟩, .string a.goal), (⟨b, o + (k - 1) * 4, none⟩, .string q.name)] [] [])
          have HC := Lib.hid HC0
          clear HC0
          refine wp_region_flow (C := C) (by kernel_rfl) (by kernel_rfl) (fun L hL => (HC.out _ _).2 (InF.start (by first | (intro _ hs; cases hs; done) | (simp only [List.forall_mem_cons]; go_simp)) (by first | (intro _ hs; cases hs; done) | (simp only [List.forall_mem_cons]; go_simp)) (by first | (intro _ hs; cases hs; done) | (simp only [List.forall_mem_cons]; go_simp)) (by first | (intro _ hs; cases hs; done) | (simp only [List.forall_mem_cons]; go_simp)) L hL)) ?_
          repeat (first | (apply flow_free rfl; (intro L w' hun hrd hC; have hC := (HC.out _ _).1 hC; have hb' := hC.below; (try have hw' : Below w.heap.size w w' := by first | exact Below.trans (by (repeat (first | with_reducible exact Below.refl _ _ | with_reducible assumption | with_reducible refine Below.al ?_ _ | with_reducible refine Below.sc ?_ (by first | exact Nat.le_refl _ | (simp; done) | (simp; omega)) _ | assumption | exact Below.refl _ _ | refine Below.dr ?_ | refine Below.drN ?_ _ | refine Below.step ?_ (by assumption)))) hb' | ((repeat (first | with_reducible exact Below.refl _ _ | with_reducible assumption | with_reducible refine Below.al ?_ _ | with_reducible refine Below.sc ?_ (by first | exact Nat.le_refl _ | (simp; done) | (simp; omega)) _ | assumption | exact Below.refl _ _ | refine Below.dr ?_ | refine Below.drN ?_ _ | refine Below.step ?_ (by assumption))); done)); have hf' := hC.cell; (try simp only [List.forall_mem_cons] at hf'); go_simp; first | exact ⟨(HC.out _ _).2 (hC.skip _ (by rfl)), rfl⟩ | (rw [if_neg]; (exact ⟨(HC.out _ _).2 (hC.skip _ (by rfl)), rfl⟩); omega) | (go_at_call 44; refine (HAG.out _ (HX.out.below hb')).mono ?_; rintro e w1 ⟨rfl, hb1⟩; exact ⟨rfl, (HC.out _ _).2 ((hC.next (by first | (simp; done) | (simp; omega) | omega) hb1).skip _ (by rfl))⟩)); go_simp) | (apply flow_yes; (case hw => go_simp); (intro L w' hun hrd hC; have hC := (HC.out _ _).1 hC; have hb' := hC.below; (try have hw' : Below w.heap.size w w' := by first | exact Below.trans (by (repeat (first | with_reducible exact Below.refl _ _ | with_reducible assumption | with_reducible refine Below.al ?_ _ | with_reducible refine Below.sc ?_ (by first | exact Nat.le_refl _ | (simp; done) | (simp; omega)) _ | assumption | exact Below.refl _ _ | refine Below.dr ?_ | refine Below.drN ?_ _ | refine Below.step ?_ (by assumption)))) hb' | ((repeat (first | with_reducible exact Below.refl _ _ | with_reducible assumption | with_reducible refine Below.al ?_ _ | with_reducible refine Below.sc ?_ (by first | exact Nat.le_refl _ | (simp; done) | (simp; omega)) _ | assumption | exact Below.refl _ _ | refine Below.dr ?_ | refine Below.drN ?_ _ | refine Below.step ?_ (by assumption))); done)); have hf' := hC.cell; (try simp only [List.forall_mem_cons] at hf'); go_simp; first | exact ⟨(HC.out _ _).2 (hC.skip _ (by rfl)), rfl⟩ | (rw [if_neg]; (exact ⟨(HC.out _ _).2 (hC.skip _ (by rfl)), rfl⟩); omega) | (go_at_call 44; refine (HAG.out _ (HX.out.below hb')).mono ?_; rintro e w1 ⟨rfl, hb1⟩; exact ⟨rfl, (HC.out _ _).2 ((hC.next (by first | (simp; done) | (simp; omega) | omega) hb1).skip _ (by rfl))⟩)); go_simp) | (apply flow_no; (case hw => (go_simp; try (intro hh; cases hh))); (intro L w' _ _ hC; exact (HC.out _ _).2 (((HC.out _ _).1 hC).skip _ (by rfl))); go_simp))
          refine flow_nil ?_
          intro L wz hL hz
          have hz := (HC.out _ _).1 hz
          have hbz := hz.below
          have hcz := hz.cell
          try simp only [List.forall_mem_cons] at hcz
          have hdz := hz.done
          try simp only [List.forall_mem_cons] at hdz
          (try have hwz : Below w.heap.size w wz := by first | exact Below.trans (by (repeat (first | with_reducible exact Below.refl _ _ | with_reducible assumption | with_reducible refine Below.al ?_ _ | with_reducible refine Below.sc ?_ (by first | exact Nat.le_refl _ | (simp; done) | (simp; omega)) _ | assumption | exact Below.refl _ _ | refine Below.dr ?_ | refine Below.drN ?_ _ | refine Below.step ?_ (by assumption)))) hbz | ((repeat (first | with_reducible exact Below.refl _ _ | with_reducible assumption | with_reducible refine Below.al ?_ _ | with_reducible refine Below.sc ?_ (by first | exact Nat.le_refl _ | (simp; done) | (simp; omega)) _ | assumption | exact Below.refl _ _ | refine Below.dr ?_ | refine Below.drN ?_ _ | refine Below.step ?_ (by assumption))); done))
          go_wp2
        all_goals first
          | (refine ⟨⟨k + 1, by omega, by go_num, ?_, Below.step hb hbz⟩, by simp [intOf]; omega⟩; rw [HE.out, HD.out, HGG.out, HP.out, ascS, HLS.out]; rfl)
          | (go_ret; exact ⟨ret_bool (by rw [HG2.out, HE.out, HD.out, HGG.out, HP.out, ascS, HLS.out]; rfl), by (repeat (first | with_reducible exact Below.refl _ _ | with_reducible assumption | with_reducible refine Below.al ?_ _ | with_reducible refine Below.sc ?_ (by first | exact Nat.le_refl _ | (simp; done) | (simp; omega)) _ | assumption | exact Below.refl _ _ | refine Below.dr ?_ | refine Below.drN ?_ _ | refine Below.step ?_ (by assumption)))⟩)
    · obtain rfl : k = l.length := by omega
      rw [List.drop_length] at HE
      have HU := Lib.hid (show unitsF none l = true from HE.out)
      have HOA := Lib.hid (fun w' hat => l27Order_any (B := B) l (.slice p l.length c) w' hat (by omega) (fun u hu => good_name (unitsF_good l none HU.out u hu)))
      go_wp2_with fail
      refine (HOA.out _ (H.out.below (by (repeat (first | with_reducible exact Below.refl _ _ | with_reducible assumption | with_reducible refine Below.al ?_ _ | with_reducible refine Below.sc ?_ (by first | exact Nat.le_refl _ | (simp; done) | (simp; omega)) _ | assumption | exact Below.refl _ _ | refine Below.dr ?_ | refine Below.drN ?_ _ | refine Below.step ?_ (by assumption)))))).mono ?_
      rintro e w1 ⟨v, rfl, hv, -, hb1⟩
      obtain ⟨pv, cv, rfl⟩ : ∃ p c, v = .slice p (ordL l).length c := by
        rcases hv.2 with ⟨rfl, h0⟩ | ⟨g, cap, cur, rfl, _⟩
        · exact ⟨none, 0, by rw [h0]⟩
        · exact ⟨_, _, rfl⟩
      clear hv
      have HG3 := Lib.hid (show libGood l = decide ((ordL l).length = l.length) by rw [HG2.out, HU.out, Bool.true_and])
      have hii : (((ordL l).length : Int) = (l.length : Int)) = ((ordL l).length = l.length) := by apply propext; omega
      go_wp2
      go_ret
      refine ⟨ret_bool ?_, by (repeat (first | with_reducible exact Below.refl _ _ | with_reducible assumption | with_reducible refine Below.al ?_ _ | with_reducible refine Below.sc ?_ (by first | exact Nat.le_refl _ | (simp; done) | (simp; omega)) _ | assumption | exact Below.refl _ _ | refine Below.dr ?_ | refine Below.drN ?_ _ | refine Below.step ?_ (by assumption)))⟩
      rw [HG3.out, Bool.eq_iff_iff, decide_eq_true_iff, beq_iff_eq]
      omega
end Go.Proofs.YtimpkjiglioflaaGreatDoor
namespace Go.Proofs.YtimpkjiglioflaaGreatDoor
open Go.RowKit
def nameIs (x : ByteArray) (u : Un) : Bool := u.name.toList == x.toList
theorem nameIs_eq (x : ByteArray) (u : Un) : nameIs x u = decide (u.name = x) := by
  rw [nameIs, Bool.eq_iff_iff, decide_eq_true_iff, Lib.bytes_beq_iff]
theorem find_nameIs (l : List Un) (x : ByteArray) : l.find? (nameIs x) = findU l x := by
  rw [findU]; congr 1; funext u; exact nameIs_eq x u
def placeU (l : List Un) (x : ByteArray) : Option Nat := firstI (nameIs x) 0 l
theorem place_some {l : List Un} {x : ByteArray} {u : Un} (h : findU l x = some u) : ∃ (i : Nat) (hi : i < l.length), placeU l x = some i ∧ l[i] = u := by
  cases hp : placeU l x with
  | none => have := firstI_none _ _ _ hp; rw [find_nameIs, h] at this; cases this
  | some i =>
    obtain ⟨-, hi, hf⟩ := firstI_some _ _ _ _ hp
    simp only [Nat.sub_zero] at hi hf
    rw [find_nameIs, h] at hf
    exact ⟨i, hi, rfl, (Option.some.inj hf).symm⟩
set_option maxRecDepth 100000 in
theorem nameIs_any {B : Nat → Prop} (u : Un) (x : ByteArray) (v0 v1 v2 v3 : Value) (g : Nat) (w : World) (hg : w.cell? ⟨g, 0, none⟩ = some (.string x)) (h : UnAt B w u [v0, v1, v2, v3]) :
    Calls Tryz.prog 99 #[.agg #[v0, v1, v2, v3], .pointer (some ⟨g, 0, none⟩)] w fun e w' => e = .returned (.bool (nameIs x u)) ∧ Below w.heap.size w w' := by
  obtain ⟨p, c, q, d, rfl, rfl, rfl, rfl, -⟩ := h.form
  have hgz := bsz (World.block_lt_of_cell? _ _ hg)
  clear h
  go_enter Tryz.func99, Tryz.ntmps99
  go_wp2
  go_ret
  exact ⟨rfl, by (repeat (first | with_reducible exact Below.refl _ _ | with_reducible assumption | with_reducible refine Below.al ?_ _ | with_reducible refine Below.sc ?_ (by first | exact Nat.le_refl _ | (simp; done) | (simp; omega)) _ | assumption | exact Below.refl _ _ | refine Below.dr ?_ | refine Below.drN ?_ _ | refine Below.step ?_ (by assumption)))⟩
set_option maxRecDepth 100000 in
set_option maxHeartbeats 1600000 in
theorem idxPlace {B : Nat → Prop} (P : Un → Bool) (us : List Un) (g : Addr) (va : Value) (w : World) (HC : ∀ (a : Un) (v0 v1 v2 v3 : Value) (w' : World), a ∈ us → UnAt B w' a [v0, v1, v2, v3] → Below w.heap.size w w' → Calls Tryz.prog 99 #[.agg #[v0, v1, v2, v3], .pointer (some g)] w' fun e w'' => e = .returned (.bool (P a)) ∧ Below w'.heap.size w' w'')
    (h : UnsAt B w va us) : Calls Tryz.prog 94 #[va, .func (.func 99) #[] #[.pointer (some g)]] w (FirstI (firstI P 0 us) w) := by
  obtain ⟨p, c, rfl, hlen⟩ := h.form
  unfold maxLen at hlen
  have H := Lib.hid h
  have HN1 := Lib.hid HC
  clear h HC
  go_enter Tryz.func94, Tryz.ntmps94
  go_wp2
  go_loopw [8] (fun i wr => ∃ k : Nat, k ≤ us.length ∧ i = .int .i64 k ∧ firstI P 0 us = firstI P k (us.drop k) ∧ Below w.heap.size w wr) (fun i _ => us.length - (intOf i).toNat)
  case atStart => exact ⟨0, Nat.zero_le _, rfl, rfl, by (repeat (first | with_reducible exact Below.refl _ _ | with_reducible assumption | with_reducible refine Below.al ?_ _ | with_reducible refine Below.sc ?_ (by first | exact Nat.le_refl _ | (simp; done) | (simp; omega)) _ | assumption | exact Below.refl _ _ | refine Below.dr ?_ | refine Below.drN ?_ _ | refine Below.step ?_ (by assumption)))⟩
  case round =>
    obtain ⟨k, hk, rfl, he, hb⟩ := hrel
    have HE := Lib.hid he
    clear he
    by_cases hlt : k < us.length
    · obtain ⟨b, o, rfl, hB, p1, c1, p2, c2, hx0, hx1, hx2, hx3, hx⟩ := (H.out.below hb).at_ hlt
      have HD := Lib.hid (firstI_drop P hlt)
      have hm := List.getElem_mem hlt
      obtain ⟨a, ha⟩ : ∃ a, us[k] = a := ⟨_, rfl⟩
      rw [ha] at hx hx0 hx1 hx2 hx3 HD hm
      have HX := Lib.hid hx
      clear ha hx
      have zb := bsz (World.block_lt_of_cell? _ _ hx0)
      cases hN : P a
      all_goals
        have HN := Lib.hid hN
        go_wp2_with fail
        refine (HN1.out a _ _ _ _ _ hm HX.out (by (repeat (first | with_reducible exact Below.refl _ _ | with_reducible assumption | with_reducible refine Below.al ?_ _ | with_reducible refine Below.sc ?_ (by first | exact Nat.le_refl _ | (simp; done) | (simp; omega)) _ | assumption | exact Below.refl _ _ | refine Below.dr ?_ | refine Below.drN ?_ _ | refine Below.step ?_ (by assumption))))).mono ?_
        rintro e w1 ⟨rfl, hb1⟩
        have ⟨cw1, fw1⟩ := bcell hb1
        have qw1 := hb1.size
        (try simp at qw1)
        (try have zw1w := bsz (show w.heap.size < w1.heap.size by omega))
        rw [HN.out]
        go_wp2
      · refine ⟨⟨k + 1, by omega, by go_num, ?_, by (repeat (first | with_reducible exact Below.refl _ _ | with_reducible assumption | with_reducible refine Below.al ?_ _ | with_reducible refine Below.sc ?_ (by first | exact Nat.le_refl _ | (simp; done) | (simp; omega)) _ | assumption | exact Below.refl _ _ | refine Below.dr ?_ | refine Below.drN ?_ _ | refine Below.step ?_ (by assumption)))⟩, by simp [intOf]; omega⟩
        rw [HE.out, HD.out, HN.out]; rfl
      · go_ret
        exact ⟨_, rfl, by rw [HE.out, HD.out, HN.out]; rfl, by (repeat (first | with_reducible exact Below.refl _ _ | with_reducible assumption | with_reducible refine Below.al ?_ _ | with_reducible refine Below.sc ?_ (by first | exact Nat.le_refl _ | (simp; done) | (simp; omega)) _ | assumption | exact Below.refl _ _ | refine Below.dr ?_ | refine Below.drN ?_ _ | refine Below.step ?_ (by assumption)))⟩
    · obtain rfl : k = us.length := by omega
      have he := HE.out
      rw [List.drop_length] at he
      have HE2 := Lib.hid he
      clear he
      go_wp2
      go_ret
      exact ⟨-1, rfl, by rw [HE2.out]; rfl, by (repeat (first | with_reducible exact Below.refl _ _ | with_reducible assumption | with_reducible refine Below.al ?_ _ | with_reducible refine Below.sc ?_ (by first | exact Nat.le_refl _ | (simp; done) | (simp; omega)) _ | assumption | exact Below.refl _ _ | refine Below.dr ?_ | refine Below.drN ?_ _ | refine Below.step ?_ (by assumption)))⟩
set_option maxRecDepth 100000 in
theorem unitAt_any {B : Nat → Prop} (l : List Un) (va : Value) (x : ByteArray) (w : World) (h : UnsAt B w va l) : Calls Tryz.prog 62 #[va, .string x] w (FirstI (placeU l x) w) := by
  obtain ⟨p, c, rfl, hlen⟩ := h.form
  have H := Lib.hid h
  clear h
  have HX := Lib.hid (fun (w' : World) (hg : w'.cell? ⟨w.heap.size, 0, none⟩ = some (.string x)) (hat : UnsAt B w' (.slice p l.length c) l) => idxPlace (nameIs x) l ⟨w.heap.size, 0, none⟩ (.slice p l.length c) w' (fun a v0 v1 v2 v3 w2 _ ha hb2 => nameIs_any a x v0 v1 v2 v3 w.heap.size w2 ((hb2.cell (World.block_lt_of_cell? _ _ hg)).trans hg) ha) hat)
  go_enter Tryz.func62, Tryz.ntmps62
  go_wp2_with fail
  refine (HX.out _ (by go_simp) (H.out.below (by (repeat (first | with_reducible exact Below.refl _ _ | with_reducible assumption | with_reducible refine Below.al ?_ _ | with_reducible refine Below.sc ?_ (by first | exact Nat.le_refl _ | (simp; done) | (simp; omega)) _ | assumption | exact Below.refl _ _ | refine Below.dr ?_ | refine Below.drN ?_ _ | refine Below.step ?_ (by assumption)))))).mono ?_
  rintro e w1 ⟨r, rfl, hr, hb1⟩
  have HR := Lib.hid hr
  clear hr
  go_wp2
  go_ret
  exact ⟨r, rfl, HR.out, by (repeat (first | with_reducible exact Below.refl _ _ | with_reducible assumption | with_reducible refine Below.al ?_ _ | with_reducible refine Below.sc ?_ (by first | exact Nat.le_refl _ | (simp; done) | (simp; omega)) _ | assumption | exact Below.refl _ _ | refine Below.dr ?_ | refine Below.drN ?_ _ | refine Below.step ?_ (by assumption)))⟩
set_option maxRecDepth 100000 in
set_option maxHeartbeats 1600000 in
theorem l27Find_any {B : Nat → Prop} (l : List Un) (va : Value) (x : ByteArray) (w : World) (h : UnsAt B w va l) : Calls Tryz.prog 52 #[va, .string x] w (FirstI (placeU l x) w) := by
  obtain ⟨p, c, rfl, hlen⟩ := h.form
  unfold maxLen at hlen
  have H := Lib.hid h
  clear h
  go_enter Tryz.func52, Tryz.ntmps52
  go_wp2
  go_loopw [5] (fun i wr => ∃ k : Nat, k ≤ l.length ∧ i = .int .i64 k ∧ placeU l x = firstI (nameIs x) k (l.drop k) ∧ Below w.heap.size w wr) (fun i _ => l.length - (intOf i).toNat)
  case atStart => exact ⟨0, Nat.zero_le _, rfl, rfl, by (repeat (first | with_reducible exact Below.refl _ _ | with_reducible assumption | with_reducible refine Below.al ?_ _ | with_reducible refine Below.sc ?_ (by first | exact Nat.le_refl _ | (simp; done) | (simp; omega)) _ | assumption | exact Below.refl _ _ | refine Below.dr ?_ | refine Below.drN ?_ _ | refine Below.step ?_ (by assumption)))⟩
  case round =>
    obtain ⟨k, hk, rfl, he, hb⟩ := hrel
    have HE := Lib.hid he
    clear he
    by_cases hlt : k < l.length
    · obtain ⟨b, o, rfl, hB, p1, c1, p2, c2, hx0, hx1, hx2, hx3, hx⟩ := (H.out.below hb).at_ hlt
      have HD := Lib.hid (firstI_drop (nameIs x) hlt)
      obtain ⟨a, ha⟩ : ∃ a, l[k] = a := ⟨_, rfl⟩
      rw [ha] at hx0 HD
      clear ha hx hx1 hx2 hx3
      have zb := bsz (World.block_lt_of_cell? _ _ hx0)
      cases hN : (a.name.toList == x.toList)
      all_goals
        have HN := Lib.hid (show nameIs x a = _ from hN)
        go_wp2
      · refine ⟨⟨k + 1, by omega, by go_num, ?_, by (repeat (first | with_reducible exact Below.refl _ _ | with_reducible assumption | with_reducible refine Below.al ?_ _ | with_reducible refine Below.sc ?_ (by first | exact Nat.le_refl _ | (simp; done) | (simp; omega)) _ | assumption | exact Below.refl _ _ | refine Below.dr ?_ | refine Below.drN ?_ _ | refine Below.step ?_ (by assumption)))⟩, by simp [intOf]; omega⟩
        rw [HE.out, HD.out, HN.out]; rfl
      · go_ret
        exact ⟨(k : Int), rfl, by rw [HE.out, HD.out, HN.out]; rfl, by (repeat (first | with_reducible exact Below.refl _ _ | with_reducible assumption | with_reducible refine Below.al ?_ _ | with_reducible refine Below.sc ?_ (by first | exact Nat.le_refl _ | (simp; done) | (simp; omega)) _ | assumption | exact Below.refl _ _ | refine Below.dr ?_ | refine Below.drN ?_ _ | refine Below.step ?_ (by assumption)))⟩
    · obtain rfl : k = l.length := by omega
      have he := HE.out
      rw [List.drop_length] at he
      have HE2 := Lib.hid he
      clear he
      go_wp2
      go_ret
      exact ⟨-1, rfl, by rw [HE2.out]; rfl, by (repeat (first | with_reducible exact Below.refl _ _ | with_reducible assumption | with_reducible refine Below.al ?_ _ | with_reducible refine Below.sc ?_ (by first | exact Nat.le_refl _ | (simp; done) | (simp; omega)) _ | assumption | exact Below.refl _ _ | refine Below.dr ?_ | refine Below.drN ?_ _ | refine Below.step ?_ (by assumption)))⟩
/-! ### Hashes -/
def txtH (g : ByteArray → Int) (u : Un) : List UInt8 := u.name.data.toList ++ u.axs.flatMap (fun a => 10 :: a.data.toList) ++ [10, 63] ++ u.goal.data.toList ++ u.incs.flatMap (fun y => [10, 35] ++ Lib.itoa (g y))
def hashF : Nat → List Un → ByteArray → Int
  | 0, _, _ => 0
  | f + 1, l, x => match findU l x with
    | none => 0
    | some u => sumF (txtH (hashF f l) u)
/-- A unit's hash in a library. -/
def hashU (l : List Un) (x : ByteArray) : Int := hashF l.length l x
end Go.Proofs.YtimpkjiglioflaaGreatDoor
namespace Go.Proofs.YtimpkjiglioflaaGreatDoor
open Go.RowKit
def axT (us : List ByteArray) : List UInt8 := us.flatMap fun a => 10 :: a.data.toList
def inT (g : ByteArray → Int) (us : List ByteArray) : List UInt8 := us.flatMap fun y => [10, 35] ++ Lib.itoa (g y)
theorem txtH_eq (g : ByteArray → Int) (u : Un) : txtH g u = u.name.data.toList ++ axT u.axs ++ [10, 63] ++ u.goal.data.toList ++ inT g u.incs := rfl
theorem axT_take {us : List ByteArray} {k : Nat} (h : k < us.length) : axT (us.take (k + 1)) = axT (us.take k) ++ (10 :: us[k].data.toList) := by
  rw [List.take_succ_eq_append_getElem h, axT, axT, List.flatMap_append]; simp
theorem inT_take (g : ByteArray → Int) {us : List ByteArray} {k : Nat} (h : k < us.length) : inT g (us.take (k + 1)) = inT g (us.take k) ++ ([10, 35] ++ Lib.itoa (g us[k])) := by
  rw [List.take_succ_eq_append_getElem h, inT, inT, List.flatMap_append]; simp
theorem axT_len : ∀ us : List ByteArray, (axT us).length = us.length + wtS us
  | [] => rfl
  | a :: us => by
    have := axT_len us
    rw [axT] at this
    rw [axT, List.flatMap_cons, List.length_append, this, List.length_cons, List.length_cons, wtS, ← size_list]; omega
theorem wtS_take' : ∀ (us : List ByteArray) (i : Nat), wtS (us.take i) ≤ wtS us
  | [], i => by simp [wtS]
  | a :: us, 0 => by simp [wtS]
  | a :: us, i + 1 => by have := wtS_take' us i; rw [List.take_succ_cons, wtS, wtS]; omega
theorem axT_bd {us : List ByteArray} {k : Nat} : (axT (us.take k)).length ≤ us.length + wtS us := by
  rw [axT_len]
  have := wtS_take' us k
  have : (us.take k).length ≤ us.length := by rw [List.length_take]; omega
  omega
theorem hashF_bd (l : List Un) : ∀ (f : Nat) (x : ByteArray), 0 ≤ hashF f l x ∧ hashF f l x < 999979
  | 0, _ => by rw [hashF]; omega
  | f + 1, x => by
    rw [hashF]
    cases findU l x with
    | none => simp
    | some u => exact sumF_bd _
theorem inT_len {g : ByteArray → Int} (hg : ∀ y, 0 ≤ g y ∧ g y < 999979) : ∀ us : List ByteArray, (inT g us).length ≤ 22 * us.length
  | [] => by simp [inT]
  | a :: us => by
    have := inT_len hg us
    rw [inT] at this
    have h1 := itoa_len (g a) (by have := hg a; omega) (by have := hg a; omega)
    rw [inT, List.flatMap_cons, List.length_append, List.length_append, List.length_cons, List.length_cons]
    simp only [List.length_cons, List.length_nil]
    omega
theorem inT_bd {g : ByteArray → Int} (hg : ∀ y, 0 ≤ g y ∧ g y < 999979) {us : List ByteArray} {k : Nat} : (inT g (us.take k)).length ≤ 22 * us.length := by
  have h1 := inT_len hg (us.take k)
  have : (us.take k).length ≤ us.length := by rw [List.length_take]; omega
  omega
theorem Un.wt_parts (u : Un) : u.name.size + (u.incs.length + wtS u.incs) + (u.axs.length + wtS u.axs) + u.goal.size = u.wt := rfl
set_option maxRecDepth 100000 in
set_option maxHeartbeats 6400000 in
theorem l27Hash_any (l : List Un) (n : Nat) (hd : Dist l) (hz : l.length + wtU l ≤ 1048576) : ∀ (f : Nat) (x : ByteArray) (va : Value) (w : World), x ∈ ordL l → (ordL l).idxOf x < f → UnsAt (fun b => b < n) w va l → n ≤ w.heap.size →
    Calls Tryz.prog 53 #[va, .string x] w fun e w' => e = .returned (.int .i64 (hashF f l x)) ∧ Below w.heap.size w w' := by
  intro f
  induction f with
  | zero => intro x va w _ h; omega
  | succ f ih =>
    intro x va w hx hf h hn
    obtain ⟨u, hul, hux⟩ := List.mem_map.1 ((ordL_inv l).sub x hx)
    have hfu : findU l x = some u := hux ▸ findU_of hd hul
    have hin : incsOf l x = u.incs := by rw [incsOf, hfu]
    have HRK := Lib.hid (fun y (hy : y ∈ u.incs) => incs_rank hd (ordL_inv l) hx (by rw [hin]; exact hy))
    have HT := Lib.hid (show hashF (f + 1) l x = sumF (txtH (hashF f l) u) by rw [hashF, hfu])
    have hwl := wtU_le l u hul
    have HWT := Lib.hid (show u.name.size + (u.incs.length + wtS u.incs) + (u.axs.length + wtS u.axs) + u.goal.size ≤ 1048576 by rw [u.wt_parts]; omega)
    obtain ⟨i, hi, hpl, hli⟩ := place_some hfu
    obtain ⟨p, c, rfl, hlen⟩ := h.form
    unfold maxLen at hlen
    have H := Lib.hid h
    have IH := Lib.hid ih
    have HBD := Lib.hid (hashF_bd l f)
    clear h ih hfu hin hux
    go_enter Tryz.func53, Tryz.ntmps53
    go_wp2_with fail
    refine (l27Find_any l _ x _ (H.out.below (by (repeat (first | with_reducible exact Below.refl _ _ | with_reducible assumption | with_reducible refine Below.al ?_ _ | with_reducible refine Below.sc ?_ (by first | exact Nat.le_refl _ | (simp; done) | (simp; omega)) _ | assumption | exact Below.refl _ _ | refine Below.dr ?_ | refine Below.drN ?_ _ | refine Below.step ?_ (by assumption)))))).mono ?_
    rintro e w1 ⟨r, rfl, hr, hb1⟩
    rw [hpl] at hr
    obtain rfl : r = (i : Int) := hr
    have hq1 := hb1.size
    obtain ⟨b, o, rfl, hB, p1, c1, p2, c2, hx0, hx1, hx2, hx3, hxu⟩ := (H.out.below hb1).at_ hi
    rw [hli] at hx0 hx1 hx2 hx3 hxu
    obtain ⟨_, _, _, _, q0, q1, q2, q3, -, -, hil, hal, hia, haa⟩ := hxu.form
    simp only [Value.slice.injEq, true_and] at q1 q2
    obtain ⟨rfl, rfl⟩ := q1
    obtain ⟨rfl, rfl⟩ := q2
    clear q0 q3 hxu
    unfold maxLen at hil hal
    have HI := Lib.hid hia
    have HA := Lib.hid haa
    have zb := bsz (World.block_lt_of_cell? _ _ hx0)
    have hi0 : (0 : Int) ≤ i := by omega
    have hil2 : (i : Int) < l.length := by omega
    clear hia haa hli hpl
    go_wp2
    obtain ⟨W, hW⟩ : ∃ W : World, W = w1.alloc (.cells #[.string u.name, .slice p1 u.incs.length c1, .slice p2 u.axs.length c2, .string u.goal] 24) := ⟨_, rfl⟩
    have hbW : Below w1.heap.size w1 W := by rw [hW]; exact (Below.refl _ _).alloc (Nat.le_refl _) _
    have hc0 : W.cell? ⟨w1.heap.size, 0, none⟩ = some (.string u.name) := by rw [hW]; go_simp
    have hc1 : W.cell? ⟨w1.heap.size, 1, none⟩ = some (.slice p1 u.incs.length c1) := by rw [hW]; go_simp
    have hc2 : W.cell? ⟨w1.heap.size, 2, none⟩ = some (.slice p2 u.axs.length c2) := by rw [hW]; go_simp
    have hc3 : W.cell? ⟨w1.heap.size, 3, none⟩ = some (.string u.goal) := by rw [hW]; go_simp
    rw [← hW]
    clear hW hx0 hx1 hx2 hx3
    have hzW := World.block_lt_of_cell? _ _ hc0
    go_loopw [6, 7] (fun s i wr => ∃ k : Nat, k ≤ u.axs.length ∧ i = .int .i64 k ∧ s = .string ⟨(u.name.data.toList ++ axT (u.axs.take k)).toArray⟩ ∧ Below W.heap.size W wr) (fun _ i _ => u.axs.length - (intOf i).toNat)
    case atStart => exact ⟨0, Nat.zero_le _, rfl, congrArg Value.string (by apply ByteArray.ext; simp [axT]), by (repeat (first | with_reducible exact Below.refl _ _ | with_reducible assumption | with_reducible refine Below.al ?_ _ | with_reducible refine Below.sc ?_ (by first | exact Nat.le_refl _ | (simp; done) | (simp; omega)) _ | assumption | exact Below.refl _ _ | refine Below.dr ?_ | refine Below.drN ?_ _ | refine Below.step ?_ (by assumption)))⟩
    case round =>
      obtain ⟨k, hk, rfl, rfl, hb⟩ := hrel
      have hbw := Below.step hbW hb
      have d1 := (hb.cell (p := ⟨w1.heap.size, 1, none⟩) hzW).trans hc1
      have d2 := (hb.cell (p := ⟨w1.heap.size, 2, none⟩) hzW).trans hc2
      have d3 := (hb.cell (p := ⟨w1.heap.size, 3, none⟩) hzW).trans hc3
      have zu := bsz (World.block_lt_of_cell? _ _ d1)
      have hbd := axT_bd (us := u.axs) (k := k)
      by_cases hlt : k < u.axs.length
      · obtain ⟨b', o', rfl, hB', hy0, hys⟩ := (HA.out.below hbw).at_ hlt
        have HTK := Lib.hid (axT_take hlt)
        have hmw := wtS_le u.axs _ (List.getElem_mem hlt)
        obtain ⟨a, ha⟩ : ∃ a, u.axs[k] = a := ⟨_, rfl⟩
        rw [ha] at hy0 HTK hmw
        clear ha
        have zb' := bsz (World.block_lt_of_cell? _ _ hy0)
        have hki : (k : Int) < u.axs.length := by omega
        generalize axT (u.axs.take k) = L at *
        have g1 : ¬ 9223372036854775807 < u.name.size + L.length + 1 := by have := HWT.out; omega
        have g2 : ¬ 9223372036854775807 < u.name.size + L.length + 1 + a.size := by have := HWT.out; omega
        have hnsz : u.name.data.toList.length = u.name.size := rfl
        have hnsz2 : u.name.data.size = u.name.size := rfl
        go_wp2
        refine ⟨⟨k + 1, by omega, by go_num, ?_, hb⟩, by simp [intOf]; omega⟩
        rw [HTK.out]
        exact congrArg Value.string (by apply ByteArray.ext; simp)
      · obtain rfl : k = u.axs.length := by omega
        rw [List.take_length] at hbd ⊢
        have HTX := Lib.hid (txtH_eq (hashF f l) u)
        have hAl : (u.name.data.toList ++ axT u.axs).length ≤ 3000000 := by rw [List.length_append, ← size_list]; have := HWT.out; omega
        generalize u.name.data.toList ++ axT u.axs = A at *
        have g1 : ¬ 9223372036854775807 < A.length + 2 := by omega
        have g2 : ¬ 9223372036854775807 < A.length + 2 + u.goal.size := by have := HWT.out; omega
        go_wp2
        have hCl : (A ++ [10, 63] ++ u.goal.data.toList).length ≤ 6000000 := by rw [List.length_append, List.length_append, ← size_list]; have := HWT.out; simp only [List.length_cons, List.length_nil]; omega
        have e1 : (⟨A.toArray⟩ : ByteArray) ++ ⟨#[10, 63]⟩ ++ u.goal = ⟨(A ++ [10, 63] ++ u.goal.data.toList).toArray⟩ := by apply ByteArray.ext; simp
        rw [e1]
        have HTX2 := Lib.hid (show txtH (hashF f l) u = A ++ [10, 63] ++ u.goal.data.toList ++ inT (hashF f l) u.incs from HTX.out)
        generalize A ++ [10, 63] ++ u.goal.data.toList = C at *
        go_loopw [6, 8] (fun s i wr => ∃ k : Nat, k ≤ u.incs.length ∧ i = .int .i64 k ∧ s = .string ⟨(C ++ inT (hashF f l) (u.incs.take k)).toArray⟩ ∧ Below W.heap.size W wr) (fun _ i _ => u.incs.length - (intOf i).toNat)
        case atStart => exact ⟨0, Nat.zero_le _, rfl, congrArg Value.string (by apply ByteArray.ext; simp [inT]), hb⟩
        case round =>
          clear hb hbw d1 d2 d3 zu
          obtain ⟨k, hk, rfl, rfl, hb⟩ := hrel
          have hbw := Below.step hbW hb
          have d1 := (hb.cell (p := ⟨w1.heap.size, 1, none⟩) hzW).trans hc1
          have zu := bsz (World.block_lt_of_cell? _ _ d1)
          have hbd := inT_bd HBD.out (us := u.incs) (k := k)
          by_cases hlt : k < u.incs.length
          · obtain ⟨b', o', rfl, hB', hy0, hys⟩ := (HI.out.below hbw).at_ hlt
            have HTK := Lib.hid (inT_take (hashF f l) hlt)
            have hrk := HRK.out _ (List.getElem_mem hlt)
            obtain ⟨a, ha⟩ : ∃ a, u.incs[k] = a := ⟨_, rfl⟩
            rw [ha] at hy0 HTK hrk
            clear ha
            have zb' := bsz (World.block_lt_of_cell? _ _ hy0)
            have hki : (k : Int) < u.incs.length := by omega
            have hbda := HBD.out a
            have hit := itoa_len (hashF f l a) (by omega) (by omega)
            generalize inT (hashF f l) (u.incs.take k) = L at *
            have g1 : ¬ 9223372036854775807 < C.length + L.length + 2 := by have := HWT.out; omega
            have g2 : ¬ 9223372036854775807 < C.length + L.length + 2 + (Lib.itoa (hashF f l a)).length := by have := HWT.out; omega
            go_wp2_with fail
            refine (IH.out a _ _ hrk.1 (by omega) (H.out.below (by (repeat (first | with_reducible exact Below.refl _ _ | with_reducible assumption | with_reducible refine Below.al ?_ _ | with_reducible refine Below.sc ?_ (by first | exact Nat.le_refl _ | (simp; done) | (simp; omega)) _ | assumption | exact Below.refl _ _ | refine Below.dr ?_ | refine Below.drN ?_ _ | refine Below.step ?_ (by assumption))))) (by have := hbw.size; omega)).mono ?_
            rintro e w3 ⟨rfl, hb3⟩
            go_wp2_with fail
            refine (drew_below (l1Num_any _ _ hbda.1 (by omega))).mono ?_
            rintro e w4 ⟨rfl, hb4⟩
            go_wp2
            refine ⟨⟨k + 1, by omega, by go_num, ?_, by (repeat (first | with_reducible exact Below.refl _ _ | with_reducible assumption | with_reducible refine Below.al ?_ _ | with_reducible refine Below.sc ?_ (by first | exact Nat.le_refl _ | (simp; done) | (simp; omega)) _ | assumption | exact Below.refl _ _ | refine Below.dr ?_ | refine Below.drN ?_ _ | refine Below.step ?_ (by assumption)))⟩, by simp [intOf]; omega⟩
            rw [HTK.out]
            exact congrArg Value.string (by apply ByteArray.ext; simp)
          · obtain rfl : k = u.incs.length := by omega
            rw [List.take_length, ← HTX2.out]
            go_wp2_with fail
            refine (same_below (l1Sum_any _ _ ?_)).mono ?_
            · show (txtH (hashF f l) u).toArray.size ≤ maxLen
              have h1 := inT_bd HBD.out (us := u.incs) (k := u.incs.length)
              rw [List.take_length] at h1
              rw [List.size_toArray, HTX2.out, List.length_append]
              have h2 := HWT.out
              unfold maxLen; omega
            rintro e w3 ⟨rfl, hb3⟩
            go_wp2
            go_ret
            exact ⟨ret_int HT.out.symm, by (repeat (first | with_reducible exact Below.refl _ _ | with_reducible assumption | with_reducible refine Below.al ?_ _ | with_reducible refine Below.sc ?_ (by first | exact Nat.le_refl _ | (simp; done) | (simp; omega)) _ | assumption | exact Below.refl _ _ | refine Below.dr ?_ | refine Below.drN ?_ _ | refine Below.step ?_ (by assumption)))⟩
end Go.Proofs.YtimpkjiglioflaaGreatDoor
namespace Go.Proofs.YtimpkjiglioflaaGreatDoor
open Go.RowKit
theorem blk_ltB {w : World} {b : Nat} {o : Obj} (h : w.heap[b]? = some o) : b < w.heap.size := by
  rcases Nat.lt_or_ge b w.heap.size with h' | h'
  · exact h'
  · rw [Array.getElem?_eq_none h'] at h; cases h
set_option maxRecDepth 100000 in
theorem sizeBld : ∃ j, Tryz.prog.info? 102 = some j ∧ j.size = 2 := by
  obtain ⟨j, hj, hs⟩ := Option.map_eq_some_iff.1 (show (Tryz.prog.info? 102).map (·.size) = some 2 by kernel_rfl)
  exact ⟨j, hj, hs⟩
set_option maxRecDepth 100000 in
theorem copyCheck_used (b : Nat) (w : World) (h0 : w.cell? ⟨b, 0, none⟩ = some (.pointer (some ⟨b, 0, none⟩))) :
    Calls Tryz.prog 120 #[.pointer (some ⟨b, 0, none⟩)] w fun e w' => e = .returned (.tuple #[]) ∧ w' = w := by
  obtain ⟨j, hj, _⟩ := sizeBld
  go_enter Tryz.func120, Tryz.ntmps120
  go_wp2
  rw [Lib.run_neq_ptr_same w _ Tryz.underlying100 hj]
  go_wp2
  go_end0
  exact ⟨rfl, rfl⟩
set_option maxRecDepth 100000 in
theorem copyCheck_fresh (b : Nat) (w : World) (h0 : w.cell? ⟨b, 0, none⟩ = some (.pointer none)) (hsh : w.shape? b = some (102, 2)) (hfz : w.frozen? ⟨b, 0, none⟩ = false) :
    Calls Tryz.prog 120 #[.pointer (some ⟨b, 0, none⟩)] w fun e w' => e = .returned (.tuple #[]) ∧ w' = w.setCell ⟨b, 0, none⟩ (.pointer (some ⟨b, 0, none⟩)) := by
  obtain ⟨j, hj, hjs⟩ := sizeBld
  have hlies : liesAt Tryz.prog Tryz.prog.depth 102 (2 / Tryz.prog.cellsOf 102) 0 102 1 = true := by kernel_rfl
  go_enter Tryz.func120, Tryz.ntmps120
  go_wp2
  rw [Lib.run_to_unsafe w ⟨b, 0, none⟩ Tryz.underlying100 Tryz.underlying163 hj (by rw [hjs]; decide) hsh (Nat.zero_lt_succ 1)]
  simp only [Result.andThen]
  rw [Oper.upon_value]
  go_wp2
  rw [run_callFunc_extern Tryz.func157 (by kernel_rfl) (by kernel_rfl) (by kernel_rfl) (e := Extern.AbiNoEscape.same) (by kernel_rfl)]
  rw [Lib.run_noEscape]
  simp only [Result.andThen]
  rw [Oper.upon_value]
  go_wp2
  rw [Lib.run_from_unsafe w ⟨b, 0, none⟩ Tryz.underlying163 Tryz.underlying100 hj hsh hlies]
  simp only [Result.andThen]
  rw [Oper.upon_value]
  go_wp2
  go_end0
  exact ⟨rfl, rfl⟩
theorem copyCheckB (B b : Nat) (bs : List Value) (w : World) (h : Lib.IsBuilderF 102 5 B b bs w) :
    Calls Tryz.prog 120 #[.pointer (some ⟨b, 0, none⟩)] w fun e w' => e = .returned (.tuple #[]) ∧ (Lib.BuilderAtF 102 5 B b (.pointer (some ⟨b, 0, none⟩)) bs w' ∧ Below B w w') := by
  rcases h with h | h
  · refine (copyCheck_fresh b w h.cell0 h.shape h.frozen0).mono ?_
    rintro e w' ⟨rfl, rfl⟩
    exact ⟨rfl, h.used _, (Below.refl B w).setCell (p := ⟨b, 0, none⟩) h.1 _⟩
  · refine (copyCheck_used b w h.cell0).mono ?_
    rintro e w' ⟨rfl, rfl⟩
    exact ⟨rfl, h, Below.refl B _⟩
set_option maxRecDepth 100000 in
set_option maxHeartbeats 1000000 in
theorem writeB (B b : Nat) (bs : List Value) (s : ByteArray) (w : World) (h : Lib.IsBuilderF 102 5 B b bs w) (hlen : bs.length + s.size ≤ 140737488355328) (hBw : B ≤ w.heap.size) :
    Calls Tryz.prog 89 #[.pointer (some ⟨b, 0, none⟩), .string s] w fun e w' => e = .returned (.tuple #[.int .i64 s.size, .nilIface]) ∧ (Lib.BuilderAtF 102 5 B b (.pointer (some ⟨b, 0, none⟩)) (bs ++ Lib.strCells s) w' ∧ Below B w w') := by
  obtain ⟨i0, hi, hz0, hz1, hz2⟩ := info_parts (show (Tryz.prog.info? 5).map (fun i => (i.zero, i.size, i.bytes)) = some (some (.int .u8 0), 1, 1) by kernel_rfl)
  have HC := Lib.hid (copyCheckB B b bs)
  go_enter Tryz.func89, Tryz.ntmps89
  go_wp2_with (go_at_call 120; refine (HC.out _ h).mono ?_)
  rintro e w1 ⟨rfl, h1, hb1⟩
  obtain ⟨hB, v, hbk, hown, hne⟩ := h1
  have c0 : w1.cell? ⟨b, 0, none⟩ = some (.pointer (some ⟨b, 0, none⟩)) := by rw [Lib.cell_of_heap hbk]; rfl
  have c1 : w1.cell? ⟨b, 1, none⟩ = some v := by rw [Lib.cell_of_heap hbk]; rfl
  go_wp2_with (at_builtin; refine Lib.wpList_append_own_stringF _ rfl _ _ 48 9 rfl B 5 i0 Tryz.underlying48 Tryz.underlying9 hi hz0 hz1 hz2 _ _ _ rfl hown s rfl ?c3 ?c4 ?c5 ?_)
  case c3 => unfold maxLen; omega
  case c4 => omega
  case c5 => have := hb1.size; omega
  intro v' w2 hown' hgrow _
  have hlt : b < w1.heap.size := blk_ltB hbk
  have hb2 : w2.heap[b]? = some (.cells #[.pointer (some ⟨b, 0, none⟩), v] 102 (0, 0)) := by
    rw [hgrow.block b hlt (fun e => hne e.symm)]
    exact hbk
  have d0 : w2.cell? ⟨b, 0, none⟩ = some (.pointer (some ⟨b, 0, none⟩)) := by rw [Lib.cell_of_heap hb2]; rfl
  have d1 : w2.cell? ⟨b, 1, none⟩ = some v := by rw [Lib.cell_of_heap hb2]; rfl
  have f1 : w2.frozen? ⟨b, 1, none⟩ = false := Lib.frozen_of_heap hb2 1
  obtain ⟨ao, n', cap, rfl⟩ : ∃ ao n' cap, v' = .slice ao n' cap := by
    rcases hown'.2 with ⟨hv, _⟩ | ⟨g, cap, cur, fz, hv, _⟩
    · exact ⟨_, _, _, hv⟩
    · exact ⟨_, _, _, hv⟩
  go_wp2
  go_ret2
  refine ⟨rfl, ?_, ?_⟩
  · exact Lib.BuilderAtF.put (T := 102) (e := 5) hB hb2 (bs' := bs ++ Lib.strCells s) (by simpa [Lib.strCells_length] using hown') (by decide)
  · exact (hb1.grown hgrow (by have := hb1.size; omega) (fun k hk => (hown.lt k hk).1)).setCell (p := ⟨b, 1, none⟩) hB _
/-- A builder that holds the text l, all its memory from block B on. -/
def Bld (B b : Nat) (l : List UInt8) (w : World) : Prop := Lib.IsBuilderF 102 5 B b (Lib.byteCells l) w
theorem BuilderAtF.later {T e : TypeId} {B b : Nat} {p : Value} {bs : List Value} {w w' : World} (h : Lib.BuilderAtF T e B b p bs w) (hb : Below w.heap.size w w') : Lib.BuilderAtF T e B b p bs w' := by
  obtain ⟨hB, v, h1, h2, h3⟩ := h
  refine ⟨hB, v, (hb.block b (blk_ltB h1)).trans h1, ⟨h2.1, ?_⟩, h3⟩
  rcases h2.2 with h4 | ⟨g, cap, cur, fz, rfl, h5, h6, h7⟩
  · exact .inl h4
  · exact .inr ⟨g, cap, cur, fz, rfl, h5, (hb.block g (blk_ltB h6)).trans h6, h7⟩
theorem Bld.later {B b : Nat} {l : List UInt8} {w w' : World} (h : Bld B b l w) (hb : Below w.heap.size w w') : Bld B b l w' := h.elim (fun h => .inl (BuilderAtF.later h hb)) (fun h => .inr (BuilderAtF.later h hb))
theorem Bld.new (w : World) (b : Nat) (hb : w.heap.size = b) : Bld b b [] (w.alloc (.cells #[.pointer none, .slice none 0 0] 102)) := by
  subst hb
  exact .inl ⟨Nat.le_refl _, _, heap_alloc_new w _, ⟨rfl, .inl ⟨rfl, rfl⟩⟩, by simp [Value.ownBlock]⟩
theorem byteCells_app (l : List UInt8) (s : ByteArray) : Lib.byteCells l ++ Lib.strCells s = Lib.byteCells (l ++ s.data.toList) := by simp [Lib.byteCells, Lib.strCells]
theorem write_any (B b : Nat) (l : List UInt8) (s : ByteArray) (w : World) (h : Bld B b l w) (hlen : l.length + s.size ≤ 140737488355328) (hBw : B ≤ w.heap.size) :
    Calls Tryz.prog 89 #[.pointer (some ⟨b, 0, none⟩), .string s] w fun e w' => e = .returned (.tuple #[.int .i64 s.size, .nilIface]) ∧ Bld B b (l ++ s.data.toList) w' ∧ Below B w w' :=
  (writeB B b _ s w h (by simpa [Lib.byteCells] using hlen) hBw).mono fun e w' ⟨h1, h2, h3⟩ => ⟨h1, .inr (by rw [byteCells_app] at h2; exact h2), h3⟩
end Go.Proofs.YtimpkjiglioflaaGreatDoor
namespace Go.Proofs.YtimpkjiglioflaaGreatDoor
open Go.RowKit
set_option maxRecDepth 100000 in
set_option maxHeartbeats 6400000 in
theorem hashOf_any (l : List Un) (n : Nat) (hd : Dist l) (hz : l.length + wtU l ≤ 1048576) : ∀ (f : Nat) (x : ByteArray) (va : Value) (w : World), x ∈ ordL l → (ordL l).idxOf x < f → UnsAt (fun b => b < n) w va l → n ≤ w.heap.size → Env w →
    Calls Tryz.prog 56 #[va, .string x] w fun e w' => e = .returned (.int .i64 (hashF f l x)) ∧ Below w.heap.size w w' := by
  intro f
  induction f with
  | zero => intro x va w _ h; omega
  | succ f ih =>
    intro x va w hx hf h hn hE
    obtain ⟨u, hul, hux⟩ := List.mem_map.1 ((ordL_inv l).sub x hx)
    have hfu : findU l x = some u := hux ▸ findU_of hd hul
    have hin : incsOf l x = u.incs := by rw [incsOf, hfu]
    have HRK := Lib.hid (fun y (hy : y ∈ u.incs) => incs_rank hd (ordL_inv l) hx (by rw [hin]; exact hy))
    have HT := Lib.hid (show hashF (f + 1) l x = sumF (txtH (hashF f l) u) by rw [hashF, hfu])
    have hwl := wtU_le l u hul
    have HWT := Lib.hid (show u.name.size + (u.incs.length + wtS u.incs) + (u.axs.length + wtS u.axs) + u.goal.size ≤ 1048576 by rw [u.wt_parts]; omega)
    obtain ⟨i, hi, hpl, hli⟩ := place_some hfu
    obtain ⟨p, c, rfl, hlen⟩ := h.form
    unfold maxLen at hlen
    have H := Lib.hid h
    have IH := Lib.hid ih
    have HE := Lib.hid hE
    have HBD := Lib.hid (hashF_bd l f)
    clear h ih hfu hin hux hE
    go_enter Tryz.func56, Tryz.ntmps56
    go_wp2_with fail
    refine (unitAt_any l _ x _ (H.out.below (by (repeat (first | with_reducible exact Below.refl _ _ | with_reducible assumption | with_reducible refine Below.al ?_ _ | with_reducible refine Below.sc ?_ (by first | exact Nat.le_refl _ | (simp; done) | (simp; omega)) _ | assumption | exact Below.refl _ _ | refine Below.dr ?_ | refine Below.drN ?_ _ | refine Below.step ?_ (by assumption)))))).mono ?_
    rintro e w1 ⟨r, rfl, hr, hb1⟩
    rw [hpl] at hr
    obtain rfl : r = (i : Int) := hr
    have hq1 := hb1.size
    obtain ⟨b, o, rfl, hB, p1, c1, p2, c2, hx0, hx1, hx2, hx3, hxu⟩ := (H.out.below hb1).at_ hi
    rw [hli] at hx0 hx1 hx2 hx3 hxu
    obtain ⟨_, _, _, _, q0, q1, q2, q3, -, -, hil, hal, hia, haa⟩ := hxu.form
    simp only [Value.slice.injEq, true_and] at q1 q2
    obtain ⟨rfl, rfl⟩ := q1
    obtain ⟨rfl, rfl⟩ := q2
    clear q0 q3 hxu
    unfold maxLen at hil hal
    have HI := Lib.hid hia
    have HA := Lib.hid haa
    have zb := bsz (World.block_lt_of_cell? _ _ hx0)
    have hi0 : (0 : Int) ≤ i := by omega
    have hil2 : (i : Int) < l.length := by omega
    have HB0 := Lib.hid (Bld.new (w1.alloc (.cells #[.string u.name, .slice p1 u.incs.length c1, .slice p2 u.axs.length c2, .string u.goal] 24)) (w1.heap.size + 1) (by simp))
    clear hia haa hli hpl
    go_wp2_with fail
    refine (write_any (w1.heap.size + 1) (w1.heap.size + 1) [] u.name _ HB0.out (by have := HWT.out; simp; omega) (by simp)).mono ?_
    rw [List.nil_append]
    obtain ⟨W, hW⟩ : ∃ W : World, W = (w1.alloc (.cells #[.string u.name, .slice p1 u.incs.length c1, .slice p2 u.axs.length c2, .string u.goal] 24)).alloc (.cells #[.pointer none, .slice none 0 0] 102) := ⟨_, rfl⟩
    have hbW : Below w1.heap.size w1 W := by rw [hW]; (repeat (first | with_reducible exact Below.refl _ _ | with_reducible assumption | with_reducible refine Below.al ?_ _ | with_reducible refine Below.sc ?_ (by first | exact Nat.le_refl _ | (simp; done) | (simp; omega)) _ | assumption | exact Below.refl _ _ | refine Below.dr ?_ | refine Below.drN ?_ _ | refine Below.step ?_ (by assumption)))
    have hc0 : W.cell? ⟨w1.heap.size, 0, none⟩ = some (.string u.name) := by rw [hW]; go_simp
    have hc1 : W.cell? ⟨w1.heap.size, 1, none⟩ = some (.slice p1 u.incs.length c1) := by rw [hW]; go_simp
    have hc2 : W.cell? ⟨w1.heap.size, 2, none⟩ = some (.slice p2 u.axs.length c2) := by rw [hW]; go_simp
    have hc3 : W.cell? ⟨w1.heap.size, 3, none⟩ = some (.string u.goal) := by rw [hW]; go_simp
    have hzW : w1.heap.size + 1 < W.heap.size := by rw [hW]; simp
    rw [← hW]
    clear hW hx0 hx1 hx2 hx3 HB0
    rintro e w2 ⟨rfl, hB2, hb2⟩
    have HB2 := Lib.hid hB2
    have hlt1 : w1.heap.size < w1.heap.size + 1 := by omega
    have e1 := (hb2.cell (p := ⟨w1.heap.size, 1, none⟩) hlt1).trans hc1
    have e2 := (hb2.cell (p := ⟨w1.heap.size, 2, none⟩) hlt1).trans hc2
    have e3 := (hb2.cell (p := ⟨w1.heap.size, 3, none⟩) hlt1).trans hc3
    have hq2 := hb2.size
    have zu := bsz (World.block_lt_of_cell? _ _ e1)
    clear hB2
    go_wp2
    go_loopw [24] (fun i wr => ∃ k : Nat, k ≤ u.axs.length ∧ i = .int .i64 k ∧ Bld (w1.heap.size + 1) (w1.heap.size + 1) (u.name.data.toList ++ axT (u.axs.take k)) wr ∧ Below (w1.heap.size + 1) W wr) (fun i _ => u.axs.length - (intOf i).toNat)
    case atStart => exact ⟨0, Nat.zero_le _, rfl, by simpa [axT] using HB2.out, hb2⟩
    case round =>
      clear e1 e2 e3 zu
      obtain ⟨k, hk, rfl, hbl, hb⟩ := hrel
      have hbw : Below w1.heap.size w1 wr := hbW.trans (hb.mono (by omega))
      have e1 := (hb.cell (p := ⟨w1.heap.size, 1, none⟩) hlt1).trans hc1
      have e2 := (hb.cell (p := ⟨w1.heap.size, 2, none⟩) hlt1).trans hc2
      have e3 := (hb.cell (p := ⟨w1.heap.size, 3, none⟩) hlt1).trans hc3
      have zu := bsz (World.block_lt_of_cell? _ _ e1)
      have hqr := hb.size
      have hbd := axT_bd (us := u.axs) (k := k)
      have HBL := Lib.hid hbl
      clear hbl
      by_cases hlt : k < u.axs.length
      · obtain ⟨b', o', rfl, hB', hy0, hys⟩ := (HA.out.below hbw).at_ hlt
        have HTK := Lib.hid (axT_take hlt)
        have hmw := wtS_le u.axs _ (List.getElem_mem hlt)
        obtain ⟨a, ha⟩ : ∃ a, u.axs[k] = a := ⟨_, rfl⟩
        rw [ha] at hy0 HTK hmw
        clear ha
        have zb' := bsz (World.block_lt_of_cell? _ _ hy0)
        have hki : (k : Int) < u.axs.length := by omega
        have hgs : ¬ 9223372036854775807 < 1 + a.size := by have := HWT.out; omega
        have hs1 : ((⟨#[10]⟩ : ByteArray) ++ a).size = 1 + a.size := by rw [ByteArray.size_append]; rfl
        have hlen1 : (u.name.data.toList ++ axT (u.axs.take k)).length + ((⟨#[10]⟩ : ByteArray) ++ a).size ≤ 140737488355328 := by
          rw [hs1, List.length_append, ← size_list]; have := HWT.out; omega
        have hle1 : w1.heap.size + 1 ≤ wr.heap.size := by omega
        have HWR := Lib.hid (write_any (w1.heap.size + 1) (w1.heap.size + 1) _ ((⟨#[10]⟩ : ByteArray) ++ a) wr HBL.out hlen1 hle1)
        clear hs1 hlen1
        go_wp2_with fail
        refine HWR.out.mono ?_
        rintro e w3 ⟨rfl, hB3, hb3⟩
        have HB3 := Lib.hid hB3
        clear hB3
        go_wp2
        refine ⟨⟨k + 1, by omega, by go_num, ?_, hb.trans hb3⟩, by simp [intOf]; omega⟩
        rw [HTK.out]
        simpa using HB3.out
      · obtain rfl : k = u.axs.length := by omega
        rw [List.take_length] at hbd HBL
        have HTX := Lib.hid (txtH_eq (hashF f l) u)
        have hAl : (u.name.data.toList ++ axT u.axs).length ≤ 3000000 := by rw [List.length_append, ← size_list]; have := HWT.out; omega
        generalize u.name.data.toList ++ axT u.axs = A at *
        have hgs : ¬ 9223372036854775807 < 2 + u.goal.size := by have := HWT.out; omega
        have hs1 : ((⟨#[10, 63]⟩ : ByteArray) ++ u.goal).size = 2 + u.goal.size := by rw [ByteArray.size_append]; rfl
        have hlen1 : A.length + ((⟨#[10, 63]⟩ : ByteArray) ++ u.goal).size ≤ 140737488355328 := by
          rw [hs1]; have := HWT.out; omega
        have hle1 : w1.heap.size + 1 ≤ wr.heap.size := by omega
        have HWR := Lib.hid (write_any (w1.heap.size + 1) (w1.heap.size + 1) _ ((⟨#[10, 63]⟩ : ByteArray) ++ u.goal) wr HBL.out hlen1 hle1)
        clear hs1 hlen1
        go_wp2_with fail
        refine HWR.out.mono ?_
        rintro e w3 ⟨rfl, hB3, hb3⟩
        have hCl : (A ++ [10, 63] ++ u.goal.data.toList).length ≤ 6000000 := by rw [List.length_append, List.length_append, ← size_list]; have := HWT.out; simp only [List.length_cons, List.length_nil]; omega
        have HB3 := Lib.hid (show Bld (w1.heap.size + 1) (w1.heap.size + 1) (A ++ [10, 63] ++ u.goal.data.toList) w3 by simpa using hB3)
        have HTX2 := Lib.hid (show txtH (hashF f l) u = A ++ [10, 63] ++ u.goal.data.toList ++ inT (hashF f l) u.incs from HTX.out)
        generalize A ++ [10, 63] ++ u.goal.data.toList = C at *
        clear e1 e2 e3 zu hB3
        have hbb := hb.trans hb3
        have e1 := (hbb.cell (p := ⟨w1.heap.size, 1, none⟩) hlt1).trans hc1
        have zu := bsz (World.block_lt_of_cell? _ _ e1)
        go_wp2
        go_loopw [39] (fun i wr => ∃ k : Nat, k ≤ u.incs.length ∧ i = .int .i64 k ∧ Bld (w1.heap.size + 1) (w1.heap.size + 1) (C ++ inT (hashF f l) (u.incs.take k)) wr ∧ Below (w1.heap.size + 1) W wr) (fun i _ => u.incs.length - (intOf i).toNat)
        case atStart => exact ⟨0, Nat.zero_le _, rfl, by simpa [inT] using HB3.out, hbb⟩
        case round =>
          clear hb hb3 hbw e1 zu hbb hqr
          obtain ⟨k, hk, rfl, hbl, hb⟩ := hrel
          have hbw : Below w1.heap.size w1 wr := hbW.trans (hb.mono (by omega))
          have hb0 : Below w.heap.size w wr := Below.step hb1 hbw
          have hqr := hb.size
          have hbd := inT_bd HBD.out (us := u.incs) (k := k)
          have HBL := Lib.hid hbl
          clear hbl
          by_cases hlt : k < u.incs.length
          · obtain ⟨b', o', rfl, hB', hy0, hys⟩ := (HI.out.below hbw).at_ hlt
            have HTK := Lib.hid (inT_take (hashF f l) hlt)
            have hrk := HRK.out _ (List.getElem_mem hlt)
            obtain ⟨a, ha⟩ : ∃ a, u.incs[k] = a := ⟨_, rfl⟩
            rw [ha] at hy0 HTK hrk
            clear ha
            have zb' := bsz (World.block_lt_of_cell? _ _ hy0)
            have hki : (k : Int) < u.incs.length := by omega
            have hbda := HBD.out a
            have hit := itoa_len (hashF f l a) (by omega) (by omega)
            generalize inT (hashF f l) (u.incs.take k) = L at *
            have hgs : ¬ 9223372036854775807 < 2 + (Lib.itoa (hashF f l a)).length := by omega
            go_wp2_with fail
            refine (IH.out a _ _ hrk.1 (by omega) (H.out.below hb0) (by have := hb0.size; omega) (HE.out.below hb0)).mono ?_
            rintro e w4 ⟨rfl, hb4⟩
            go_wp2_with fail
            refine (itoa_any _ (by omega) (by omega) _ (HE.out.below (Below.step hb0 hb4))).mono ?_
            rintro e w5 ⟨rfl, hb5⟩
            have hb45 := Below.step hb4 hb5
            have hs1 : ((⟨#[10, 35]⟩ : ByteArray) ++ ⟨(Lib.itoa (hashF f l a)).toArray⟩).size = 2 + (Lib.itoa (hashF f l a)).length := by rw [ByteArray.size_append]; rfl
            have hlen1 : (C ++ L).length + ((⟨#[10, 35]⟩ : ByteArray) ++ ⟨(Lib.itoa (hashF f l a)).toArray⟩).size ≤ 140737488355328 := by
              rw [hs1, List.length_append]; have := HWT.out; omega
            have hle1 : w1.heap.size + 1 ≤ w5.heap.size := by have := hb45.size; omega
            have HWR := Lib.hid (write_any (w1.heap.size + 1) (w1.heap.size + 1) _ ((⟨#[10, 35]⟩ : ByteArray) ++ ⟨(Lib.itoa (hashF f l a)).toArray⟩) w5 (HBL.out.later hb45) hlen1 hle1)
            clear hs1 hlen1
            go_wp2_with fail
            refine HWR.out.mono ?_
            rintro e w6 ⟨rfl, hB6, hb6⟩
            have HB6 := Lib.hid hB6
            clear hB6
            go_wp2
            refine ⟨⟨k + 1, by omega, by go_num, ?_, (hb.trans (hb45.mono (by omega))).trans hb6⟩, by simp [intOf]; omega⟩
            rw [HTK.out]
            simpa using HB6.out
          · obtain rfl : k = u.incs.length := by omega
            rw [List.take_length, ← HTX2.out] at HBL
            have htl : (txtH (hashF f l) u).length ≤ 100000000 := by
              rw [HTX2.out, List.length_append]
              have h1 := inT_bd HBD.out (us := u.incs) (k := u.incs.length)
              rw [List.take_length] at h1
              have h2 := HWT.out
              omega
            go_wp2_with fail
            refine (Tryz.Builder_String_any_f _ _ _ _ HBL.out (by omega)).mono ?_
            rintro e w3 ⟨rfl, -, hb3⟩
            go_wp2_with fail
            refine (same_below (checksum_any _ _ (show (txtH (hashF f l) u).toArray.size ≤ maxLen by rw [List.size_toArray]; unfold maxLen; omega))).mono ?_
            rintro e w4 ⟨rfl, hb4⟩
            go_wp2
            go_ret
            exact ⟨ret_int HT.out.symm, Below.step (hb0.trans (hb3.mono (by omega))) hb4⟩
end Go.Proofs.YtimpkjiglioflaaGreatDoor
namespace Go.Proofs.YtimpkjiglioflaaGreatDoor
open Go.RowKit
theorem StrOwn.kept {e : TypeId} {S K : Nat → Prop} {w w' : World} {us : List ByteArray} {v : Value} (h : StrOwn e S w us v) (hk : Kept K w w') (hd : ∀ b, S b → ¬ K b) : StrOwn e S w' us v := h.mono (fun b hb hlt => hk.block b hlt (hd b hb)) (fun _ h => h)
def MarkURel (S : Nat → Prop) (us : List Un) (v : Value) (k : Nat) (w : World) (kv i : Value) (wr : World) : Prop :=
  ∃ j : Nat, i = .int .i64 (j : Nat) ∧ kv = .int .i64 ((k + ctU (us.take j) : Nat) : Int) ∧ j ≤ us.length ∧ UnsOwn 9 24 S wr (mksU k (us.take j) ++ us.drop j) v ∧ Kept S w wr
set_option maxRecDepth 100000 in
set_option maxHeartbeats 3200000 in
theorem markUnitS_any (S : Nat → Prop) (us : List Un) (v : Value) (k : Nat) (w : World) (h : UnsOwn 9 24 S w us v) (hk : 0 < k) (hb : k + ctU us ≤ 100000000) :
  Calls Tryz.prog 23 #[v, .int .i64 (k : Nat)] w fun e w' => e = .returned (.int .i64 ((k + ctU us : Nat) : Int)) ∧ UnsOwn 9 24 S w' (mksU k us) v ∧ Kept S w w' := by
  obtain ⟨p, c, rfl, hlen⟩ := OwnRow.form h
  unfold maxLen at hlen
  have H := Lib.hid h
  clear h
  go_enter Tryz.func23, Tryz.ntmps23
  go_wp2
  go_loopw [1, 5] (MarkURel S us (.slice p us.length c) k w) (fun _ i _ => us.length - (intOf i).toNat)
  case atStart => exact ⟨0, rfl, rfl, Nat.zero_le _, H.out, Kept.refl _ _⟩
  case round =>
    obtain ⟨j, rfl, rfl, hju, hrow, hkp⟩ := hrel
    have HKP := Lib.hid hkp
    clear hkp
    have hlj : (mksU k (us.take j)).length = j := by rw [mksU_len, List.length_take]; omega
    by_cases hlt : j < us.length
    · have hx : (mksU k (us.take j) ++ us.drop j)[j]? = some us[j] := by rw [List.getElem?_append_right (by omega), hlj, Nat.sub_self, List.getElem?_drop, Nat.add_zero, List.getElem?_eq_getElem hlt]
      obtain ⟨g, cap, cs, Si, cur, hv, hSg, hh, hcl, hsz, hcs, hR, hSi, hclose⟩ := OwnRow.elem hrow hx
      have HCL := Lib.hid hclose
      clear hrow hclose hx
      have hset : ∀ y, (mksU k (us.take j) ++ us.drop j).set j y = (mksU k (us.take j) ++ [y]) ++ us.drop (j + 1) := fun y => by
        rw [List.set_append_right _ _ (by omega), hlj, Nat.sub_self, List.append_assoc, List.singleton_append]
        have e := List.drop_eq_getElem_cons hlt
        rw [e]; rfl
      have HSET := Lib.hid hset
      have hct := ctU_take hlt
      have hcl2 := ctU_le us (j + 1)
      have HTK := Lib.hid (List.take_succ_eq_append_getElem hlt)
      clear hset
      generalize us[j] = a at *
      obtain ⟨va, vb, S1, S2, rfl, hn, hgs, ho1, ho2, hs1, hs2, hdis⟩ := hR
      obtain ⟨p1, c1, rfl, hl1⟩ := OwnRow.form ho1
      obtain ⟨p2, c2, rfl, hl2⟩ := OwnRow.form ho2
      simp only [Value.slice.injEq] at hv
      obtain ⟨rfl, -, rfl⟩ := hv
      have HO1 := Lib.hid ho1
      have HO2 := Lib.hid ho2
      have HHH := Lib.hid hh
      have HD := Lib.hid (And.intro hs1 (And.intro hs2 hdis))
      have hca : a.ct = 2 + a.incs.length + a.axs.length := rfl
      have c0 : wr.cell? ⟨g, j * 4, none⟩ = some (.string a.name) := (cell_of_row wr g _ cur _ (0, 0) hh).trans (hcs 0 (by omega))
      have c1' : wr.cell? ⟨g, j * 4 + 1, none⟩ = some (.slice p1 a.incs.length c1) := (cell_of_row wr g _ cur _ (0, 0) hh).trans (hcs 1 (by omega))
      have c2' : wr.cell? ⟨g, j * 4 + 2, none⟩ = some (.slice p2 a.axs.length c2) := (cell_of_row wr g _ cur _ (0, 0) hh).trans (hcs 2 (by omega))
      have c3 : wr.cell? ⟨g, j * 4 + 3, none⟩ = some (.string a.goal) := (cell_of_row wr g _ cur _ (0, 0) hh).trans (hcs 3 (by omega))
      have cf : ∀ i, wr.frozen? ⟨g, i, none⟩ = false := fun i => frozen_of_row wr g i _ _ hh
      have hgl := bsz (blk_lt hh)
      have hng1 : ¬ S1 g := fun e => (hSi g (hs1 g e)).2 rfl
      have hng2 : ¬ S2 g := fun e => (hSi g (hs2 g e)).2 rfl
      clear hh ho1 ho2 hs1 hs2 hdis
      obtain ⟨q, hq⟩ : ∃ q, k + ctU (us.take j) = q := ⟨_, rfl⟩
      have hct2 : k + ctU (us.take (j + 1)) = q + a.ct := by omega
      rw [hq]
      have HQ := Lib.hid hq
      clear hq
      go_wp2_with fail
      refine (markText_any q _ (by omega) (by omega)).mono ?_
      rintro e w1 ⟨rfl, hb1⟩
      have ⟨cb, fb⟩ := bcell hb1
      have hq1 := hb1.size
      have hg1 := bsz (show g < w1.heap.size by omega)
      go_wp2_with fail
      rw [show ((q : Int) + 1) = ((q + 1 : Nat) : Int) by omega]
      obtain ⟨W2, hW2⟩ : ∃ W2, W2 = w1.setCell ⟨g, j * 4, none⟩ (.string (markB q)) := ⟨_, rfl⟩
      rw [← hW2]
      have hg2 : W2.heap[g]? = some (.cells (cur.setIfInBounds (j * 4 + 0) (.string (markB q))) 24 (0, 0)) := by
        rw [hW2]; exact heap_setCell_same w1 g (j * 4 + 0) cur _ _ ((hb1.block g hgl.1).trans HHH.out)
      have hS2 : SameOn (fun b => b ≠ g) wr W2 := fun b hb hlt => by rw [hW2]; exact (heap_setCell_other w1 ⟨g, j * 4, none⟩ b _ (fun e => hb e)).trans (hb1.block b hlt)
      have hz2 : W2.heap.size = w1.heap.size := by rw [hW2]; simp
      have hK2 : Kept S wr W2 := by rw [hW2]; exact ((Kept.refl S wr).below hb1).set hSg _ _
      clear hW2
      refine (markStringS_any S1 a.incs _ (q + 1) W2 (HO1.out.mono (fun b hb hlt => hS2 b (fun e => hng1 (e ▸ hb)) hlt) (fun _ h => h)) (by omega) (by omega)).mono ?_
      rintro e w3 ⟨rfl, ho3, hk3⟩
      have HO3 := Lib.hid ho3
      have hq3 := hk3.size
      have hg3 : w3.heap[g]? = _ := (hk3.block g (by omega) hng1).trans hg2
      have d2 : w3.cell? ⟨g, j * 4 + 2, none⟩ = some (.slice p2 a.axs.length c2) := by
        rw [cell_of_row w3 g _ _ _ (0, 0) hg3, Array.getElem?_setIfInBounds_ne (by omega)]; exact hcs 2 (by omega)
      have hgl3 := bsz (show g < w3.heap.size by omega)
      clear ho3
      go_wp2_with fail
      rw [show ((q : Int) + 1 + (a.incs.length : Int)) = ((q + 1 + a.incs.length : Nat) : Int) by omega]
      refine (markStringS_any S2 a.axs _ (q + 1 + a.incs.length) w3 ((HO2.out.mono (fun b hb hlt => hS2 b (fun e => hng2 (e ▸ hb)) hlt) (fun _ h => h)).kept hk3 (fun b h2 h1 => HD.out.2.2 b h1 h2)) (by omega) (by omega)).mono ?_
      rintro e w4 ⟨rfl, ho4, hk4⟩
      have HO4 := Lib.hid ho4
      have hq4 := hk4.size
      have hg4 : w4.heap[g]? = _ := (hk4.block g (by omega) hng2).trans hg3
      have hgl4 := bsz (show g < w4.heap.size by omega)
      clear ho4
      go_wp2_with fail
      rw [show ((q : Int) + 1 + (a.incs.length : Int) + (a.axs.length : Int)) = ((q + 1 + a.incs.length + a.axs.length : Nat) : Int) by omega]
      refine (markText_any (q + 1 + a.incs.length + a.axs.length) _ (by omega) (by omega)).mono ?_
      rintro e w5 ⟨rfl, hb5⟩
      have hq5 := hb5.size
      have hgl5 := bsz (show g < w5.heap.size by omega)
      have hg5 : w5.heap[g]? = _ := (hb5.block g (by omega)).trans hg4
      have d5 : w5.cell? ⟨g, j * 4 + 3, none⟩ = some (.string a.goal) := by
        rw [cell_of_row w5 g _ _ _ (0, 0) hg5, Array.getElem?_setIfInBounds_ne (by omega)]; exact hcs 3 (by omega)
      have f5 : w5.frozen? ⟨g, j * 4 + 3, none⟩ = false := frozen_of_row w5 g _ _ _ hg5
      go_wp2
      have hg6 := heap_setCell_same w5 g (j * 4 + 3) _ 24 (.string (markB (q + 1 + a.incs.length + a.axs.length))) hg5
      have hpt : Patch cur ((cur.setIfInBounds (j * 4 + 0) (.string (markB q))).setIfInBounds (j * 4 + 3) (.string (markB (q + 1 + a.incs.length + a.axs.length)))) (j * 4) [.string (markB q), .slice p1 a.incs.length c1, .slice p2 a.axs.length c2, .string (markB (q + 1 + a.incs.length + a.axs.length))] :=
        Patch.set (cs := [.string (markB q), .slice p1 a.incs.length c1, .slice p2 a.axs.length c2, .string a.goal]) (Patch.set (cs := [.string a.name, .slice p1 a.incs.length c1, .slice p2 a.axs.length c2, .string a.goal]) (Patch.refl hcs) (j := 0) (by simp) hsz _) (j := 3) (by simp) hsz _
      refine ⟨⟨j + 1, by go_num, ?_, by omega, ?_, ?_⟩, by simp [intOf]; omega⟩
      · exact congrArg (Value.int .i64) (by have := HQ.out; omega)
      · rw [HTK.out, mksU_snoc, HQ.out, ← HSET.out]
        refine HCL.out _ (a.mkd q) _ _ (fun T u cs => UnOwn 9 T _ u cs) rfl hg6 hpt ⟨_, _, S1, S2, rfl, markB_size q (by omega), markB_size _ (by omega), ?_, ?_, HD.out.1, HD.out.2.1, HD.out.2.2⟩ (fun T y cs hT hy => hy.mono (fun b hb hlt => ?_) (fun _ h => h))
        · exact ((HO3.out.kept hk4 (fun b h1 h2 => HD.out.2.2 b h1 h2)).later hb5).mono (fun b hb _ => heap_setCell_other w5 ⟨g, j * 4 + 3, none⟩ b _ (fun e => hng1 (by rw [← show b = g from e]; exact hb))) (fun _ h => h)
        · exact (HO4.out.later hb5).mono (fun b hb _ => heap_setCell_other w5 ⟨g, j * 4 + 3, none⟩ b _ (fun e => hng2 (by rw [← show b = g from e]; exact hb))) (fun _ h => h)
        · obtain ⟨hb1', hb2', hb3'⟩ := hT b hb
          exact (heap_setCell_other w5 ⟨g, j * 4 + 3, none⟩ b _ (fun e => hb2' e)).trans ((hb5.block b (by omega)).trans ((hk4.block b (by omega) (fun e => hb3' (HD.out.2.1 b e))).trans ((hk3.block b (by omega) (fun e => hb3' (HD.out.1 b e))).trans (hS2 b hb2' hlt))))
      · exact HKP.out.trans (((hK2.trans (hk3.mono (fun b hb => (hSi b (HD.out.1 b hb)).1))).trans (hk4.mono (fun b hb => (hSi b (HD.out.2.1 b hb)).1))).below hb5 |>.set hSg _ _)
    · obtain rfl : j = us.length := by omega
      rw [List.drop_length, List.append_nil, List.take_length] at hrow
      have HRW := Lib.hid hrow
      rw [List.take_length]
      clear hrow
      go_wp2
      go_ret
      exact ⟨rfl, HRW.out, HKP.out⟩
end Go.Proofs.YtimpkjiglioflaaGreatDoor
namespace Go.Proofs.YtimpkjiglioflaaGreatDoor
open Go.RowKit
theorem ctU_wt : ∀ us : List Un, ctU us ≤ 2 * us.length + wtU us
  | [] => by simp [ctU]
  | u :: us => by
    have := ctU_wt us
    rw [ctU, wtU, List.length_cons]
    have h1 : u.ct = 2 + u.incs.length + u.axs.length := rfl
    have h2 : u.wt = u.name.size + (u.incs.length + wtS u.incs) + (u.axs.length + wtS u.axs) + u.goal.size := rfl
    omega
theorem StrsAt.nil (B : Nat → Prop) (w : World) (p : Option Addr) (c : Nat) : StrsAt B w (.slice p 0 c) [] := ListAt.nil _ _ _ _ _ _
end Go.Proofs.YtimpkjiglioflaaGreatDoor
namespace Go.Proofs.YtimpkjiglioflaaGreatDoor
open Go.RowKit
theorem Kept.belowB {K : Nat → Prop} {a w w' : World} (hb : Below a.heap.size a w) (hk : Kept K w w') (hK : ∀ b, K b → a.heap.size ≤ b) : Below a.heap.size a w' :=
  ⟨hk.os.trans hb.os, hk.tape.trans hb.tape, hk.output.trans hb.output, Nat.le_trans hb.size hk.size, fun b hlt => (hk.block b (Nat.lt_of_lt_of_le hlt hb.size) (fun e => by have := hK b e; omega)).trans (hb.block b hlt)⟩
theorem StrsAt.kept {B K : Nat → Prop} {w w' : World} {v : Value} {us : List ByteArray} (h : StrsAt B w v us) (hk : Kept K w w') (hd : ∀ b, B b → ¬ K b) : StrsAt B w' v us := h.mono (fun b hb hlt => hk.block b hlt (hd b hb)) (fun _ h => h)
theorem newB_apart {a b c d : World} {k : Nat} (h : NewB a b k) (h2 : NewB c d k) (hz : b.heap.size ≤ c.heap.size) : False := by
  have := h.2; have := h2.1; omega
end Go.Proofs.YtimpkjiglioflaaGreatDoor
namespace Go.Proofs.YtimpkjiglioflaaGreatDoor
open Go.RowKit
theorem libGood_parts {l : List Un} (h : libGood l = true) : Dist l ∧ (ordL l).length = l.length ∧ ∀ u ∈ l, u.good = true := by
  rw [libGood, Bool.and_eq_true, Bool.and_eq_true] at h
  exact ⟨unitsF_dist l none h.1.1, of_decide_eq_true h.2, unitsF_good l none h.1.1⟩
end Go.Proofs.YtimpkjiglioflaaGreatDoor
