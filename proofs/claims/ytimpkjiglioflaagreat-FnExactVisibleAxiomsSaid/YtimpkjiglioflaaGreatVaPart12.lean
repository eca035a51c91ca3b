/- The axioms in sight: plain laws. No conditions; no program is walked. -/
import Derived.Shelf.Strings.BuilderF
import Derived.Test.YtimpkjiglioflaaGreatVaPart1
import Derived.Test.YtimpkjiglioflaaGreatVaPart10
import Derived.Test.YtimpkjiglioflaaGreatVaPart11
namespace Go.Proofs.YtimpkjiglioflaaGreat
open Go.RowKit
def unitsF : Option ByteArray → List Un → Bool
  | _, [] => true
  | p, u :: us => u.good && ascS p u.name && unitsF (some u.name) us
def prevU (l : List Un) : Nat → Option ByteArray | 0 => none | k + 1 => (l[k]?).map Un.name
theorem unitsF_drop {l : List Un} {k : Nat} (h : k < l.length) : unitsF (prevU l k) (l.drop k) = (l[k].good && ascS (prevU l k) l[k].name && unitsF (prevU l (k + 1)) (l.drop (k + 1))) := by
  rw [List.drop_eq_getElem_cons h, unitsF, show prevU l (k + 1) = some l[k].name by rw [prevU, List.getElem?_eq_getElem h]; rfl]
theorem prevU_pos {l : List Un} {k : Nat} (h : k < l.length) (hk : 0 < k) : prevU l k = some (l[k - 1]'(by omega)).name := by
  cases k with
  | zero => omega
  | succ k => rw [prevU, List.getElem?_eq_getElem (by omega)]; rfl
theorem less_trans : ∀ x y z : List UInt8, Op.bytesLess x y = true → Op.bytesLess y z = true → Op.bytesLess x z = true
  | [], [], _, h, _ => by simp [Op.bytesLess] at h
  | [], b :: y, [], _, h2 => by simp [Op.bytesLess] at h2
  | [], b :: y, c :: z, _, _ => by simp [Op.bytesLess]
  | a :: x, [], _, h, _ => by simp [Op.bytesLess] at h
  | a :: x, b :: y, [], _, h2 => by simp [Op.bytesLess] at h2
  | a :: x, b :: y, c :: z, h, h2 => by
    have ih := less_trans x y z
    simp only [Op.bytesLess, Bool.or_eq_true, Bool.and_eq_true, decide_eq_true_eq, beq_iff_eq] at h h2 ⊢
    rcases h with h | ⟨rfl, h⟩ <;> rcases h2 with h2 | ⟨rfl, h2⟩
    · exact .inl (UInt8.lt_trans h h2)
    · exact .inl h
    · exact .inl h2
    · exact .inr ⟨rfl, ih h h2⟩
theorem less_irrefl : ∀ x : List UInt8, Op.bytesLess x x = false
  | [] => rfl
  | a :: x => by simp [Op.bytesLess, UInt8.lt_irrefl, less_irrefl x]
theorem unitsF_asc : ∀ (l : List Un) (p : ByteArray), unitsF (some p) l = true → ∀ u ∈ l, lessB p u.name = true
  | [], _, _, u, hu => by simp at hu
  | v :: l, p, h, u, hu => by
    rw [unitsF, Bool.and_eq_true, Bool.and_eq_true] at h
    rcases List.mem_cons.1 hu with rfl | hu
    · exact h.1.2
    · exact less_trans _ _ _ h.1.2 (unitsF_asc l v.name h.2 u hu)
theorem unitsF_dist : ∀ (l : List Un) (p : Option ByteArray), unitsF p l = true → Dist l
  | [], _, _ => List.nodup_nil
  | v :: l, p, h => by
    rw [unitsF, Bool.and_eq_true, Bool.and_eq_true] at h
    rw [Dist, List.map_cons, List.nodup_cons]
    refine ⟨fun hm => ?_, unitsF_dist l _ h.2⟩
    obtain ⟨u, hu, e⟩ := List.mem_map.1 hm
    have := unitsF_asc l v.name h.2 u hu
    rw [e, lessB, less_irrefl] at this; cases this
theorem unitsF_good : ∀ (l : List Un) (p : Option ByteArray), unitsF p l = true → ∀ u ∈ l, u.good = true
  | [], _, _, u, hu => by simp at hu
  | v :: l, p, h, u, hu => by
    rw [unitsF, Bool.and_eq_true, Bool.and_eq_true] at h
    rcases List.mem_cons.1 hu with rfl | hu
    · exact h.1.1
    · exact unitsF_good l _ h.2 u hu
def libGood (l : List Un) : Bool := unitsF none l && decide (l.length ≤ 12) && decide ((ordL l).length = l.length)
set_option maxRecDepth 100000 in
set_option maxHeartbeats 6400000 in
theorem implLib_any {B : Nat → Prop} (l : List Un) (va : Value) (w : World) (h : UnsAt B w va l) (hw : l.length + wtU l ≤ 1048576) :
    Calls Tryz.prog 10 #[va] w fun e w' => e = .returned (.bool (libGood l)) ∧ Below w.heap.size w w' := by
  obtain ⟨p, c, rfl, hlen⟩ := h.form
  unfold maxLen at hlen
  have H := Lib.hid h
  have HG := Lib.hid (show libGood l = (unitsF none l && decide (l.length ≤ 12) && decide ((ordL l).length = l.length)) from rfl)
  have HZ := Lib.hid (fun u hu => Nat.le_trans (wtU_le l u hu) (show wtU l ≤ 1000000000000 by omega))
  clear h
  go_enter Tryz.func10, Tryz.ntmps10
  go_wp2
  go_loopw [9] (fun i wr => ∃ k : Nat, k ≤ l.length ∧ i = .int .i64 k ∧ unitsF none l = unitsF (prevU l k) (l.drop k) ∧ Below w.heap.size w wr) (fun i _ => l.length - (intOf i).toNat)
  case atStart => exact ⟨0, Nat.zero_le _, rfl, rfl, by (repeat (first | with_reducible exact Below.refl _ _ | with_reducible assumption | with_reducible refine Below.al ?_ _ | with_reducible refine Below.sc ?_ (by first | exact Nat.le_refl _ | (simp; done) | (simp; omega)) _ | assumption | exact Below.refl _ _ | refine Below.dr ?_ | refine Below.drN ?_ _ | refine Below.step ?_ (by assumption)))⟩
  case round =>
    obtain ⟨k, hk, rfl, he, hb⟩ := hrel
    have HE := Lib.hid he
    clear he
    by_cases hlt : k < l.length
    · obtain ⟨b, o, rfl, hB, p1, c1, p2, c2, hx0, hx1, hx2, hx3, hx⟩ := (H.out.below hb).at_ hlt
      have HD := Lib.hid (unitsF_drop hlt)
      have hza := HZ.out _ (List.getElem_mem hlt)
      have zb := bsz (World.block_lt_of_cell? _ _ hx0)
      by_cases hk0 : k = 0
      · subst hk0
        have HP := Lib.hid (show prevU l 0 = none from rfl)
        obtain ⟨a, ha⟩ : ∃ a, l[0] = a := ⟨_, rfl⟩
        rw [ha] at hx hx0 hx1 hx2 hx3 HD hza
        have HX := Lib.hid hx
        clear ha hx
        rw [Nat.zero_mul, Nat.add_zero] at hx0 hx1 hx2 hx3
        cases hg : a.good
        all_goals
          have HAG := Lib.hid (show ∀ (w : World), UnAt B w a [.string a.name, .slice p1 a.incs.length c1, .slice p2 a.axs.length c2, .string a.goal] → Calls Tryz.prog 26 #[.agg #[.string a.name, .slice p1 a.incs.length c1, .slice p2 a.axs.length c2, .string a.goal]] w fun e w' => e = .returned (.bool _) ∧ Below w.heap.size w w' from fun w hx => hg ▸ implUnit_any a _ _ _ _ w hx hza)
          have HGG := Lib.hid hg
          clear hg
          go_wp2
          obtain ⟨W, hW⟩ : ∃ W : World, W = wr.alloc (.cells #[.string a.name, .slice p1 a.incs.length c1, .slice p2 a.axs.length c2, .string a.goal] 43) := ⟨_, rfl⟩
          have hbW : Below wr.heap.size wr W := by rw [hW]; exact (Below.refl _ _).alloc (Nat.le_refl _) _
          have hbw := Below.step hb hbW
          have hc0 : W.cell? ⟨wr.heap.size, 0, none⟩ = some (.string a.name) := by rw [hW]; go_simp
          have hc1 : W.cell? ⟨wr.heap.size, 1, none⟩ = some (.slice p1 a.incs.length c1) := by rw [hW]; go_simp
          have hc2 : W.cell? ⟨wr.heap.size, 2, none⟩ = some (.slice p2 a.axs.length c2) := by rw [hW]; go_simp
          have hc3 : W.cell? ⟨wr.heap.size, 3, none⟩ = some (.string a.goal) := by rw [hW]; go_simp
          have hy0 := (hbW.cell zb.1).trans hx0
          rw [← hW]
          clear hW
          obtain ⟨C, HC0⟩ := class_of (InF W.heap.size _ [(⟨wr.heap.size, 0, none⟩, .string a.name), (⟨wr.heap.size, 1, none⟩, .slice p1 a.incs.length c1), (⟨wr.heap.size, 2, none⟩, .slice p2 a.axs.length c2), (⟨wr.heap.size, 3, none⟩, .string a.goal), (⟨b, o, none⟩, .string a.name)] [] [])
          have HC := Lib.hid HC0
          clear HC0
          refine wp_region_flow (C := C) (by kernel_rfl) (by kernel_rfl) (fun L hL => (HC.out _ _).2 (InF.start (by first | (intro _ hs; cases hs; done) | (simp only [List.forall_mem_cons]; go_simp)) (by first | (intro _ hs; cases hs; done) | (simp only [List.forall_mem_cons]; go_simp)) (by first | (intro _ hs; cases hs; done) | (simp only [List.forall_mem_cons]; go_simp)) (by first | (intro _ hs; cases hs; done) | (simp only [List.forall_mem_cons]; go_simp)) L hL)) ?_
          repeat (first | (apply flow_free rfl; (intro L w' hun hrd hC; have hC := (HC.out _ _).1 hC; have hb' := hC.below; (try have hw' : Below w.heap.size w w' := by first | exact Below.trans (by (repeat (first | with_reducible exact Below.refl _ _ | with_reducible assumption | with_reducible refine Below.al ?_ _ | with_reducible refine Below.sc ?_ (by first | exact Nat.le_refl _ | (simp; done) | (simp; omega)) _ | assumption | exact Below.refl _ _ | refine Below.dr ?_ | refine Below.drN ?_ _ | refine Below.step ?_ (by assumption)))) hb' | ((repeat (first | with_reducible exact Below.refl _ _ | with_reducible assumption | with_reducible refine Below.al ?_ _ | with_reducible refine Below.sc ?_ (by first | exact Nat.le_refl _ | (simp; done) | (simp; omega)) _ | assumption | exact Below.refl _ _ | refine Below.dr ?_ | refine Below.drN ?_ _ | refine Below.step ?_ (by assumption))); done)); have hf' := hC.cell; (try simp only [List.forall_mem_cons] at hf'); go_simp; first | exact ⟨(HC.out _ _).2 (hC.skip _ (by rfl)), rfl⟩ | (rw [if_neg]; (exact ⟨(HC.out _ _).2 (hC.skip _ (by rfl)), rfl⟩); omega) | (go_at_call 26; refine (HAG.out _ (HX.out.below (Below.step hbW hb'))).mono ?_; rintro e w1 ⟨rfl, hb1⟩; exact ⟨rfl, (HC.out _ _).2 ((hC.next (by first | (simp; done) | (simp; omega) | omega) hb1).skip _ (by rfl))⟩)); go_simp) | (apply flow_yes; (case hw => go_simp); (intro L w' hun hrd hC; have hC := (HC.out _ _).1 hC; have hb' := hC.below; (try have hw' : Below w.heap.size w w' := by first | exact Below.trans (by (repeat (first | with_reducible exact Below.refl _ _ | with_reducible assumption | with_reducible refine Below.al ?_ _ | with_reducible refine Below.sc ?_ (by first | exact Nat.le_refl _ | (simp; done) | (simp; omega)) _ | assumption | exact Below.refl _ _ | refine Below.dr ?_ | refine Below.drN ?_ _ | refine Below.step ?_ (by assumption)))) hb' | ((repeat (first | with_reducible exact Below.refl _ _ | with_reducible assumption | with_reducible refine Below.al ?_ _ | with_reducible refine Below.sc ?_ (by first | exact Nat.le_refl _ | (simp; done) | (simp; omega)) _ | assumption | exact Below.refl _ _ | refine Below.dr ?_ | refine Below.drN ?_ _ | refine Below.step ?_ (by assumption))); done)); have hf' := hC.cell; (try simp only [List.forall_mem_cons] at hf'); go_simp; first | exact ⟨(HC.out _ _).2 (hC.skip _ (by rfl)), rfl⟩ | (rw [if_neg]; (exact ⟨(HC.out _ _).2 (hC.skip _ (by rfl)), rfl⟩); omega) | (go_at_call 26; refine (HAG.out _ (HX.out.below (Below.step hbW hb'))).mono ?_; rintro e w1 ⟨rfl, hb1⟩; exact ⟨rfl, (HC.out _ _).2 ((hC.next (by first | (simp; done) | (simp; omega) | omega) hb1).skip _ (by rfl))⟩)); go_simp) | (apply flow_no; (case hw => (go_simp; try (intro hh; cases hh))); (intro L w' _ _ hC; exact (HC.out _ _).2 (((HC.out _ _).1 hC).skip _ (by rfl))); go_simp))
          refine flow_nil ?_
          intro L wz hL hz
          have hz := (HC.out _ _).1 hz
          have hbz := hz.below
          have hcz := hz.cell
          try simp only [List.forall_mem_cons] at hcz
          have hdz := hz.done
          try simp only [List.forall_mem_cons] at hdz
          (try have hwz : Below w.heap.size w wz := by first | exact Below.trans (by (repeat (first | with_reducible exact Below.refl _ _ | with_reducible assumption | with_reducible refine Below.al ?_ _ | with_reducible refine Below.sc ?_ (by first | exact Nat.le_refl _ | (simp; done) | (simp; omega)) _ | assumption | exact Below.refl _ _ | refine Below.dr ?_ | refine Below.drN ?_ _ | refine Below.step ?_ (by assumption)))) hbz | ((repeat (first | with_reducible exact Below.refl _ _ | with_reducible assumption | with_reducible refine Below.al ?_ _ | with_reducible refine Below.sc ?_ (by first | exact Nat.le_refl _ | (simp; done) | (simp; omega)) _ | assumption | exact Below.refl _ _ | refine Below.dr ?_ | refine Below.drN ?_ _ | refine Below.step ?_ (by assumption))); done))
          go_wp2
        · go_ret
          exact ⟨ret_bool (by rw [HG.out, HE.out, HD.out, HGG.out]; rfl), by (repeat (first | with_reducible exact Below.refl _ _ | with_reducible assumption | with_reducible refine Below.al ?_ _ | with_reducible refine Below.sc ?_ (by first | exact Nat.le_refl _ | (simp; done) | (simp; omega)) _ | assumption | exact Below.refl _ _ | refine Below.dr ?_ | refine Below.drN ?_ _ | refine Below.step ?_ (by assumption)))⟩
        · refine ⟨⟨1, by omega, by go_num, ?_, Below.step hbw hbz⟩, by simp [intOf]; omega⟩
          rw [HE.out, HD.out, HGG.out, HP.out]; rfl
      · have hk1 : k - 1 < l.length := by omega
        obtain ⟨b', o', hq, hB', r1, d1, r2, d2, hz0, -, -, -, -⟩ := (H.out.below hb).at_ hk1
        simp only [Option.some.injEq, Addr.mk.injEq, and_true] at hq
        obtain ⟨rfl, rfl⟩ := hq
        have HP := Lib.hid (prevU_pos hlt (by omega))
        obtain ⟨a, ha⟩ : ∃ a, l[k] = a := ⟨_, rfl⟩
        obtain ⟨q, hqe⟩ : ∃ q, l[k - 1] = q := ⟨_, rfl⟩
        rw [ha] at hx hx0 hx1 hx2 hx3 HD hza
        rw [hqe] at hz0 HP
        have HX := Lib.hid hx
        clear ha hqe hx
        have hki : IntKind.i64.wrap ((k : Int) - 1) = ((k - 1 : Nat) : Int) := by rw [IntWalk.i64_in _ (by omega)]; omega
        have hkp : (0 : Int) < (k : Int) := by omega
        have hkn : 0 < k := by omega
        have hkj : ((k - 1 : Nat) : Int) < l.length := by omega
        have HL0 := Lib.hid (show lessB q.name a.name = !(Op.bytesLess a.name.toList q.name.toList || a.name.toList == q.name.toList) by rw [lessB, less_total, ByteArray.toList_eq, ByteArray.toList_eq])
        cases hg : a.good <;> cases hA : Op.bytesLess a.name.toList q.name.toList <;> cases hQ : (a.name.toList == q.name.toList)
        all_goals
          have HAG := Lib.hid (show ∀ (w : World), UnAt B w a [.string a.name, .slice p1 a.incs.length c1, .slice p2 a.axs.length c2, .string a.goal] → Calls Tryz.prog 26 #[.agg #[.string a.name, .slice p1 a.incs.length c1, .slice p2 a.axs.length c2, .string a.goal]] w fun e w' => e = .returned (.bool _) ∧ Below w.heap.size w w' from fun w hx => hg ▸ implUnit_any a _ _ _ _ w hx hza)
          have HGG := Lib.hid hg
          have HLS := Lib.hid (HL0.out.trans (by rw [hA, hQ]))
          clear hg
          go_wp2
          obtain ⟨W, hW⟩ : ∃ W : World, W = wr.alloc (.cells #[.string a.name, .slice p1 a.incs.length c1, .slice p2 a.axs.length c2, .string a.goal] 43) := ⟨_, rfl⟩
          have hbW : Below wr.heap.size wr W := by rw [hW]; exact (Below.refl _ _).alloc (Nat.le_refl _) _
          have hbw := Below.step hb hbW
          have hc0 : W.cell? ⟨wr.heap.size, 0, none⟩ = some (.string a.name) := by rw [hW]; go_simp
          have hc1 : W.cell? ⟨wr.heap.size, 1, none⟩ = some (.slice p1 a.incs.length c1) := by rw [hW]; go_simp
          have hc2 : W.cell? ⟨wr.heap.size, 2, none⟩ = some (.slice p2 a.axs.length c2) := by rw [hW]; go_simp
          have hc3 : W.cell? ⟨wr.heap.size, 3, none⟩ = some (.string a.goal) := by rw [hW]; go_simp
          have hy0 := (hbW.cell zb.1).trans hx0
          have hz1 := (hbW.cell zb.1).trans hz0
          rw [← hW]
          clear hW
          obtain ⟨C, HC0⟩ := class_of (InF W.heap.size _ [(⟨wr.heap.size, 0, none⟩, .string a.name), (⟨wr.heap.size, 1, none⟩, .slice p1 a.incs.length c1), (⟨wr.heap.size, 2, none⟩, .slice p2 a.axs.length c2), (⟨wr.heap.size, 3, none⟩, .string a.goal), (⟨b, o + k * 4, none⟩, .string a.name), (⟨b, o + (k - 1) * 4, none⟩, .string q.name)] [] [])
          have HC := Lib.hid HC0
          clear HC0
          refine wp_region_flow (C := C) (by kernel_rfl) (by kernel_rfl) (fun L hL => (HC.out _ _).2 (InF.start (by first | (intro _ hs; cases hs; done) | (simp only [List.forall_mem_cons]; go_simp)) (by first | (intro _ hs; cases hs; done) | (simp only [List.forall_mem_cons]; go_simp)) (by first | (intro _ hs; cases hs; done) | (simp only [List.forall_mem_cons]; go_simp)) (by first | (intro _ hs; cases hs; done) | (simp only [List.forall_mem_cons]; go_simp)) L hL)) ?_
          repeat (first | (apply flow_free rfl; (intro L w' hun hrd hC; have hC := (HC.out _ _).1 hC; have hb' := hC.below; (try have hw' : Below w.heap.size w w' := by first | exact Below.trans (by (repeat (first | with_reducible exact Below.refl _ _ | with_reducible assumption | with_reducible refine Below.al ?_ _ | with_reducible refine Below.sc ?_ (by first | exact Nat.le_refl _ | (simp; done) | (simp; omega)) _ | assumption | exact Below.refl _ _ | refine Below.dr ?_ | refine Below.drN ?_ _ | refine Below.step ?_ (by assumption)))) hb' | ((repeat (first | with_reducible exact Below.refl _ _ | with_reducible assumption | with_reducible refine Below.al ?_ _ | with_reducible refine Below.sc ?_ (by first | exact Nat.le_refl _ | (simp; done) | (simp; omega)) _ | assumption | exact Below.refl _ _ | refine Below.dr ?_ | refine Below.drN ?_ _ | refine Below.step ?_ (by assumption))); done)); have hf' := hC.cell; (try simp only [List.forall_mem_cons] at hf'); go_simp; first | exact ⟨(HC.out _ _).2 (hC.skip _ (by rfl)), rfl⟩ | (rw [if_neg]; (exact ⟨(HC.out _ _).2 (hC.skip _ (by rfl)), rfl⟩); omega) | (go_at_call 26; refine (HAG.out _ (HX.out.below (Below.step hbW hb'))).mono ?_; rintro e w1 ⟨rfl, hb1⟩; exact ⟨rfl, (HC.out _ _).2 ((hC.next (by first | (simp; done) | (simp; omega) | omega) hb1).skip _ (by rfl))⟩)); go_simp) | (apply flow_yes; (case hw => go_simp); (intro L w' hun hrd hC; have hC := (HC.out _ _).1 hC; have hb' := hC.below; (try have hw' : Below w.heap.size w w' := by first | exact Below.trans (by (repeat (first | with_reducible exact Below.refl _ _ | with_reducible assumption | with_reducible refine Below.al ?_ _ | with_reducible refine Below.sc ?_ (by first | exact Nat.le_refl _ | (simp; done) | (simp; omega)) _ | assumption | exact Below.refl _ _ | refine Below.dr ?_ | refine Below.drN ?_ _ | refine Below.step ?_ (by assumption)))) hb' | ((repeat (first | with_reducible exact Below.refl _ _ | with_reducible assumption | with_reducible refine Below.al ?_ _ | with_reducible refine Below.sc ?_ (by first | exact Nat.le_refl _ | (simp; done) | (simp; omega)) _ | assumption | exact Below.refl _ _ | refine Below.dr ?_ | refine Below.drN ?_ _ | refine Below.step ?_ (by assumption))); done)); have hf' := hC.cell; (try simp only [List.forall_mem_cons] at hf'); go_simp; first | exact ⟨(HC.out _ _).2 (hC.skip _ (by rfl)), rfl⟩ | (rw [if_neg]; (exact ⟨(HC.out _ _).2 (hC.skip _ (by rfl)), rfl⟩); omega) | (go_at_call 26; refine (HAG.out _ (HX.out.below (Below.step hbW hb'))).mono ?_; rintro e w1 ⟨rfl, hb1⟩; exact ⟨rfl, (HC.out _ _).2 ((hC.next (by first | (simp; done) | (simp; omega) | omega) hb1).skip _ (by rfl))⟩)); go_simp) | (apply flow_no; (case hw => (go_simp; try (intro hh; cases hh))); (intro L w' _ _ hC; exact (HC.out _ _).2 (((HC.out _ _).1 hC).skip _ (by rfl))); go_simp))
          refine flow_nil ?_
          intro L wz hL hz
          have hz := (HC.out _ _).1 hz
          have hbz := hz.below
          have hcz := hz.cell
          try simp only [List.forall_mem_cons] at hcz
          have hdz := hz.done
          try simp only [List.forall_mem_cons] at hdz
          (try have hwz : Below w.heap.size w wz := by first | exact Below.trans (by (repeat (first | with_reducible exact Below.refl _ _ | with_reducible assumption | with_reducible refine Below.al ?_ _ | with_reducible refine Below.sc ?_ (by first | exact Nat.le_refl _ | (simp; done) | (simp; omega)) _ | assumption | exact Below.refl _ _ | refine Below.dr ?_ | refine Below.drN ?_ _ | refine Below.step ?_ (by assumption)))) hbz | ((repeat (first | with_reducible exact Below.refl _ _ | with_reducible assumption | with_reducible refine Below.al ?_ _ | with_reducible refine Below.sc ?_ (by first | exact Nat.le_refl _ | (simp; done) | (simp; omega)) _ | assumption | exact Below.refl _ _ | refine Below.dr ?_ | refine Below.drN ?_ _ | refine Below.step ?_ (by assumption))); done))
          go_wp2
        all_goals first
          | (refine ⟨⟨k + 1, by omega, by go_num, ?_, Below.step hbw hbz⟩, by simp [intOf]; omega⟩; rw [HE.out, HD.out, HGG.out, HP.out, ascS, HLS.out]; rfl)
          | (go_ret; exact ⟨ret_bool (by rw [HG.out, HE.out, HD.out, HGG.out, HP.out, ascS, HLS.out]; rfl), by (repeat (first | with_reducible exact Below.refl _ _ | with_reducible assumption | with_reducible refine Below.al ?_ _ | with_reducible refine Below.sc ?_ (by first | exact Nat.le_refl _ | (simp; done) | (simp; omega)) _ | assumption | exact Below.refl _ _ | refine Below.dr ?_ | refine Below.drN ?_ _ | refine Below.step ?_ (by assumption)))⟩)
    · obtain rfl : k = l.length := by omega
      rw [List.drop_length] at HE
      have HU := Lib.hid (show unitsF none l = true from HE.out)
      have HOA := Lib.hid (fun w' => order_any (B := B) l (.slice p l.length c) w' )
      go_wp2_with fail
      refine (HOA.out _ (H.out.below (by (repeat (first | with_reducible exact Below.refl _ _ | with_reducible assumption | with_reducible refine Below.al ?_ _ | with_reducible refine Below.sc ?_ (by first | exact Nat.le_refl _ | (simp; done) | (simp; omega)) _ | assumption | exact Below.refl _ _ | refine Below.dr ?_ | refine Below.drN ?_ _ | refine Below.step ?_ (by assumption))))) (by omega)).mono ?_
      rintro e w1 ⟨hb1, hp⟩
      by_cases hle : (ordL l).length = l.length
      · rw [if_pos hle] at hp
        obtain ⟨v, rfl, hv⟩ := hp
        obtain ⟨pv, cv, rfl, -⟩ := OwnRow.form hv
        clear hv
        have HG2 := Lib.hid (show libGood l = decide (l.length ≤ 12) by rw [HG.out, HU.out, decide_eq_true hle]; simp)
        have h12 : ((l.length : Int) ≤ 12) = (l.length ≤ 12) := by apply propext; omega
        go_wp2
        go_ret
        exact ⟨ret_bool (by rw [HG2.out]), by (repeat (first | with_reducible exact Below.refl _ _ | with_reducible assumption | with_reducible refine Below.al ?_ _ | with_reducible refine Below.sc ?_ (by first | exact Nat.le_refl _ | (simp; done) | (simp; omega)) _ | assumption | exact Below.refl _ _ | refine Below.dr ?_ | refine Below.drN ?_ _ | refine Below.step ?_ (by assumption)))⟩
      · rw [if_neg hle] at hp
        subst hp
        have HG2 := Lib.hid (show libGood l = false by rw [HG.out, HU.out, decide_eq_false hle]; simp)
        go_wp2
        go_ret
        exact ⟨ret_bool (by rw [HG2.out]), by (repeat (first | with_reducible exact Below.refl _ _ | with_reducible assumption | with_reducible refine Below.al ?_ _ | with_reducible refine Below.sc ?_ (by first | exact Nat.le_refl _ | (simp; done) | (simp; omega)) _ | assumption | exact Below.refl _ _ | refine Below.dr ?_ | refine Below.drN ?_ _ | refine Below.step ?_ (by assumption)))⟩
end Go.Proofs.YtimpkjiglioflaaGreat
namespace Go.Proofs.YtimpkjiglioflaaGreat
open Go.RowKit
theorem good_name {u : Un} (h : u.good = true) : (u.name.toList == []) = false := by
  unfold Un.good at h
  simp only [Bool.and_eq_true] at h
  have h1 := h.1.1.1.1.1
  rw [ByteArray.toList_eq]
  cases he : u.name.data.toList with
  | nil => rw [he] at h1; simp [symB] at h1
  | cons a l => rfl
theorem libGood_eq (l : List Un) : libGood l = (decide (l.length ≤ 12) && (unitsF none l && decide ((ordL l).length = l.length))) := by
  rw [libGood]; cases unitsF none l <;> cases decide (l.length ≤ 12) <;> cases decide ((ordL l).length = l.length) <;> rfl
set_option maxRecDepth 100000 in
set_option maxHeartbeats 6400000 in
theorem specLib_any {B : Nat → Prop} (l : List Un) (va : Value) (w : World) (h : UnsAt B w va l) (hw : l.length + wtU l ≤ 1048576) :
    Calls Tryz.prog 24 #[va] w fun e w' => e = .returned (.bool (libGood l)) ∧ Below w.heap.size w w' := by
  obtain ⟨p, c, rfl, hlen⟩ := h.form
  unfold maxLen at hlen
  have H := Lib.hid h
  have HG := Lib.hid (libGood_eq l)
  have HZ := Lib.hid (fun u hu => Nat.le_trans (wtU_le l u hu) (show wtU l ≤ 1000000000000 by omega))
  clear h
  by_cases h12 : l.length ≤ 12
  case neg =>
    go_enter Tryz.func24, Tryz.ntmps24
    have hj : (12 : Int) < l.length := by omega
    go_wp2
    go_ret
    exact ⟨ret_bool (by rw [HG.out, decide_eq_false h12]; rfl), by (repeat (first | with_reducible exact Below.refl _ _ | with_reducible assumption | with_reducible refine Below.al ?_ _ | with_reducible refine Below.sc ?_ (by first | exact Nat.le_refl _ | (simp; done) | (simp; omega)) _ | assumption | exact Below.refl _ _ | refine Below.dr ?_ | refine Below.drN ?_ _ | refine Below.step ?_ (by assumption)))⟩
  have hj : ¬ (12 : Int) < l.length := by omega
  have HG2 := Lib.hid (show libGood l = (unitsF none l && decide ((ordL l).length = l.length)) by rw [HG.out, decide_eq_true h12, Bool.true_and])
  go_enter Tryz.func24, Tryz.ntmps24
  go_wp2
  go_loopw [3] (fun i wr => ∃ k : Nat, k ≤ l.length ∧ i = .int .i64 k ∧ unitsF none l = unitsF (prevU l k) (l.drop k) ∧ Below w.heap.size w wr) (fun i _ => l.length - (intOf i).toNat)
  case atStart => exact ⟨0, Nat.zero_le _, rfl, rfl, by (repeat (first | with_reducible exact Below.refl _ _ | with_reducible assumption | with_reducible refine Below.al ?_ _ | with_reducible refine Below.sc ?_ (by first | exact Nat.le_refl _ | (simp; done) | (simp; omega)) _ | assumption | exact Below.refl _ _ | refine Below.dr ?_ | refine Below.drN ?_ _ | refine Below.step ?_ (by assumption)))⟩
  case round =>
    obtain ⟨k, hk, rfl, he, hb⟩ := hrel
    have HE := Lib.hid he
    clear he
    by_cases hlt : k < l.length
    · obtain ⟨b, o, rfl, hB, p1, c1, p2, c2, hx0, hx1, hx2, hx3, hx⟩ := (H.out.below hb).at_ hlt
      have HD := Lib.hid (unitsF_drop hlt)
      have hza := HZ.out _ (List.getElem_mem hlt)
      have zb := bsz (World.block_lt_of_cell? _ _ hx0)
      by_cases hk0 : k = 0
      · subst hk0
        have HP := Lib.hid (show prevU l 0 = none from rfl)
        obtain ⟨a, ha⟩ : ∃ a, l[0] = a := ⟨_, rfl⟩
        rw [ha] at hx hx0 hx1 hx2 hx3 HD hza
        have HX := Lib.hid hx
        clear ha hx
        rw [Nat.zero_mul, Nat.add_zero] at hx0 hx1 hx2 hx3
        cases hg : a.good
        all_goals
          have HAG := Lib.hid (show ∀ (w : World), UnAt B w a [.string a.name, .slice p1 a.incs.length c1, .slice p2 a.axs.length c2, .string a.goal] → Calls Tryz.prog 47 #[.agg #[.string a.name, .slice p1 a.incs.length c1, .slice p2 a.axs.length c2, .string a.goal]] w fun e w' => e = .returned (.bool _) ∧ Below w.heap.size w w' from fun w hx => hg ▸ l27Unit_any a _ _ _ _ w hx hza)
          have HGG := Lib.hid hg
          clear hg
          go_wp2
          obtain ⟨C, HC0⟩ := class_of (InF wr.heap.size _ [(⟨b, o, none⟩, .string a.name), (⟨b, o + 1, none⟩, .slice p1 a.incs.length c1), (⟨b, o + 2, none⟩, .slice p2 a.axs.length c2), (⟨b, o + 3, none⟩, .string a.goal)] [] [])
          have HC := Lib.hid HC0
          clear HC0
          refine wp_region_flow (C := C) (by kernel_rfl) (by kernel_rfl) (fun L hL => (HC.out _ _).2 (InF.start (by first | (intro _ hs; cases hs; done) | (simp only [List.forall_mem_cons]; go_simp)) (by first | (intro _ hs; cases hs; done) | (simp only [List.forall_mem_cons]; go_simp)) (by first | (intro _ hs; cases hs; done) | (simp only [List.forall_mem_cons]; go_simp)) (by first | (intro _ hs; cases hs; done) | (simp only [List.forall_mem_cons]; go_simp)) L hL)) ?_
          repeat (first | (apply flow_free rfl; (intro L w' hun hrd hC; have hC := (HC.out _ _).1 hC; have hb' := hC.below; (try have hw' : Below w.heap.size w w' := by first | exact Below.trans (by (repeat (first | with_reducible exact Below.refl _ _ | with_reducible assumption | with_reducible refine Below.al ?_ _ | with_reducible refine Below.sc ?_ (by first | exact Nat.le_refl _ | (simp; done) | (simp; omega)) _ | assumption | exact Below.refl _ _ | refine Below.dr ?_ | refine Below.drN ?_ _ | refine Below.step ?_ (by assumption)))) hb' | ((repeat (first | with_reducible exact Below.refl _ _ | with_reducible assumption | with_reducible refine Below.al ?_ _ | with_reducible refine Below.sc ?_ (by first | exact Nat.le_refl _ | (simp; done) | (simp; omega)) _ | assumption | exact Below.refl _ _ | refine Below.dr ?_ | refine Below.drN ?_ _ | refine Below.step ?_ (by assumption))); done)); have hf' := hC.cell; (try simp only [List.forall_mem_cons] at hf'); go_simp; first | exact ⟨(HC.out _ _).2 (hC.skip _ (by rfl)), rfl⟩ | (rw [if_neg]; (exact ⟨(HC.out _ _).2 (hC.skip _ (by rfl)), rfl⟩); omega) | (go_at_call 47; refine (HAG.out _ (HX.out.below hb')).mono ?_; rintro e w1 ⟨rfl, hb1⟩; exact ⟨rfl, (HC.out _ _).2 ((hC.next (by first | (simp; done) | (simp; omega) | omega) hb1).skip _ (by rfl))⟩)); go_simp) | (apply flow_yes; (case hw => go_simp); (intro L w' hun hrd hC; have hC := (HC.out _ _).1 hC; have hb' := hC.below; (try have hw' : Below w.heap.size w w' := by first | exact Below.trans (by (repeat (first | with_reducible exact Below.refl _ _ | with_reducible assumption | with_reducible refine Below.al ?_ _ | with_reducible refine Below.sc ?_ (by first | exact Nat.le_refl _ | (simp; done) | (simp; omega)) _ | assumption | exact Below.refl _ _ | refine Below.dr ?_ | refine Below.drN ?_ _ | refine Below.step ?_ (by assumption)))) hb' | ((repeat (first | with_reducible exact Below.refl _ _ | with_reducible assumption | with_reducible refine Below.al ?_ _ | with_reducible refine Below.sc ?_ (by first | exact Nat.le_refl _ | (simp; done) | (simp; omega)) _ | assumption | exact Below.refl _ _ | refine Below.dr ?_ | refine Below.drN ?_ _ | refine Below.step ?_ (by assumption))); done)); have hf' := hC.cell; (try simp only [List.forall_mem_cons] at hf'); go_simp; first | exact ⟨(HC.out _ _).2 (hC.skip _ (by rfl)), rfl⟩ | (rw [if_neg]; (exact ⟨(HC.out _ _).2 (hC.skip _ (by rfl)), rfl⟩); omega) | (go_at_call 47; refine (HAG.out _ (HX.out.below hb')).mono ?_; rintro e w1 ⟨rfl, hb1⟩; exact ⟨rfl, (HC.out _ _).2 ((hC.next (by first | (simp; done) | (simp; omega) | omega) hb1).skip _ (by rfl))⟩)); go_simp) | (apply flow_no; (case hw => (go_simp; try (intro hh; cases hh))); (intro L w' _ _ hC; exact (HC.out _ _).2 (((HC.out _ _).1 hC).skip _ (by rfl))); go_simp))
          refine flow_nil ?_
          intro L wz hL hz
          have hz := (HC.out _ _).1 hz
          have hbz := hz.below
          have hcz := hz.cell
          try simp only [List.forall_mem_cons] at hcz
          have hdz := hz.done
          try simp only [List.forall_mem_cons] at hdz
          (try have hwz : Below w.heap.size w wz := by first | exact Below.trans (by (repeat (first | with_reducible exact Below.refl _ _ | with_reducible assumption | with_reducible refine Below.al ?_ _ | with_reducible refine Below.sc ?_ (by first | exact Nat.le_refl _ | (simp; done) | (simp; omega)) _ | assumption | exact Below.refl _ _ | refine Below.dr ?_ | refine Below.drN ?_ _ | refine Below.step ?_ (by assumption)))) hbz | ((repeat (first | with_reducible exact Below.refl _ _ | with_reducible assumption | with_reducible refine Below.al ?_ _ | with_reducible refine Below.sc ?_ (by first | exact Nat.le_refl _ | (simp; done) | (simp; omega)) _ | assumption | exact Below.refl _ _ | refine Below.dr ?_ | refine Below.drN ?_ _ | refine Below.step ?_ (by assumption))); done))
          go_wp2
        · go_ret
          exact ⟨ret_bool (by rw [HG2.out, HE.out, HD.out, HGG.out]; rfl), by (repeat (first | with_reducible exact Below.refl _ _ | with_reducible assumption | with_reducible refine Below.al ?_ _ | with_reducible refine Below.sc ?_ (by first | exact Nat.le_refl _ | (simp; done) | (simp; omega)) _ | assumption | exact Below.refl _ _ | refine Below.dr ?_ | refine Below.drN ?_ _ | refine Below.step ?_ (by assumption)))⟩
        · refine ⟨⟨1, by omega, by go_num, ?_, Below.step hb hbz⟩, by simp [intOf]; omega⟩
          rw [HE.out, HD.out, HGG.out, HP.out]; rfl
      · have hk1 : k - 1 < l.length := by omega
        obtain ⟨b', o', hq, hB', r1, d1, r2, d2, hz0, -, -, -, -⟩ := (H.out.below hb).at_ hk1
        simp only [Option.some.injEq, Addr.mk.injEq, and_true] at hq
        obtain ⟨rfl, rfl⟩ := hq
        have HP := Lib.hid (prevU_pos hlt (by omega))
        obtain ⟨a, ha⟩ : ∃ a, l[k] = a := ⟨_, rfl⟩
        obtain ⟨q, hqe⟩ : ∃ q, l[k - 1] = q := ⟨_, rfl⟩
        rw [ha] at hx hx0 hx1 hx2 hx3 HD hza
        rw [hqe] at hz0 HP
        have HX := Lib.hid hx
        clear ha hqe hx
        have hki : IntKind.i64.wrap ((k : Int) - 1) = ((k - 1 : Nat) : Int) := by rw [IntWalk.i64_in _ (by omega)]; omega
        have hkp : (0 : Int) < (k : Int) := by omega
        have hkn : 0 < k := by omega
        have hkj : ((k - 1 : Nat) : Int) < l.length := by omega
        have HL0 := Lib.hid (show lessB q.name a.name = Op.bytesLess q.name.toList a.name.toList by rw [lessB, ByteArray.toList_eq, ByteArray.toList_eq])
        cases hg : a.good <;> cases hA : Op.bytesLess q.name.toList a.name.toList
        all_goals
          have HAG := Lib.hid (show ∀ (w : World), UnAt B w a [.string a.name, .slice p1 a.incs.length c1, .slice p2 a.axs.length c2, .string a.goal] → Calls Tryz.prog 47 #[.agg #[.string a.name, .slice p1 a.incs.length c1, .slice p2 a.axs.length c2, .string a.goal]] w fun e w' => e = .returned (.bool _) ∧ Below w.heap.size w w' from fun w hx => hg ▸ l27Unit_any a _ _ _ _ w hx hza)
          have HGG := Lib.hid hg
          have HLS := Lib.hid (HL0.out.trans hA)
          clear hg
          go_wp2
          obtain ⟨C, HC0⟩ := class_of (InF wr.heap.size _ [(⟨b, o + k * 4, none⟩, .string a.name), (⟨b, o + k * 4 + 1, none⟩, .slice p1 a.incs.length c1), (⟨b, o + k * 4 + 2, none⟩, .slice p2 a.axs.length c2), (⟨b, o + k * 4 + 3, none⟩, .string a.goal), (⟨b, o + (k - 1) * 4, none⟩, .string q.name)] [] [])
          have HC := Lib.hid HC0
          clear HC0
          refine wp_region_flow (C := C) (by kernel_rfl) (by kernel_rfl) (fun L hL => (HC.out _ _).2 (InF.start (by first | (intro _ hs; cases hs; done) | (simp only [List.forall_mem_cons]; go_simp)) (by first | (intro _ hs; cases hs; done) | (simp only [List.forall_mem_cons]; go_simp)) (by first | (intro _ hs; cases hs; done) | (simp only [List.forall_mem_cons]; go_simp)) (by first | (intro _ hs; cases hs; done) | (simp only [List.forall_mem_cons]; go_simp)) L hL)) ?_
          repeat (first | (apply flow_free rfl; (intro L w' hun hrd hC; have hC := (HC.out _ _).1 hC; have hb' := hC.below; (try have hw' : Below w.heap.size w w' := by first | exact Below.trans (by (repeat (first | with_reducible exact Below.refl _ _ | with_reducible assumption | with_reducible refine Below.al ?_ _ | with_reducible refine Below.sc ?_ (by first | exact Nat.le_refl _ | (simp; done) | (simp; omega)) _ | assumption | exact Below.refl _ _ | refine Below.dr ?_ | refine Below.drN ?_ _ | refine Below.step ?_ (by assumption)))) hb' | ((repeat (first | with_reducible exact Below.refl _ _ | with_reducible assumption | with_reducible refine Below.al ?_ _ | with_reducible refine Below.sc ?_ (by first | exact Nat.le_refl _ | (simp; done) | (simp; omega)) _ | assumption | exact Below.refl _ _ | refine Below.dr ?_ | refine Below.drN ?_ _ | refine Below.step ?_ (by assumption))); done)); have hf' := hC.cell; (try simp only [List.forall_mem_cons] at hf'); go_simp; first | exact ⟨(HC.out _ _).2 (hC.skip _ (by rfl)), rfl⟩ | (rw [if_neg]; (exact ⟨(HC.out _ _).2 (hC.skip _ (by rfl)), rfl⟩); omega) | (go_at_call 47; refine (HAG.out _ (HX.out.below hb')).mono ?_; rintro e w1 ⟨rfl, hb1⟩; exact ⟨rfl, (HC.out _ _).2 ((hC.next (by first | (simp; done) | (simp; omega) | omega) hb1).skip _ (by rfl))⟩)); go_simp) | (apply flow_yes; (case hw => go_simp); (intro L w' hun hrd hC; have hC := (HC.out _ _).1 hC; have hb' := hC.below; (try have hw' : Below w.heap.size w w' := by first | exact Below.trans (by (repeat (first | with_reducible exact Below.refl _ _ | with_reducible assumption | with_reducible refine Below.al ?_ _ | with_reducible refine Below.sc ?_ (by first | exact Nat.le_refl _ | (simp; done) | (simp; omega)) _ | assumption | exact Below.refl _ _ | refine Below.dr ?_ | refine Below.drN ?_ _ | refine Below.step ?_ (by assumption)))) hb' | ((repeat (first | with_reducible exact Below.refl _ _ | with_reducible assumption | with_reducible refine Below.al ?_ _ | with_reducible refine Below.sc ?_ (by first | exact Nat.le_refl _ | (simp; done) | (simp; omega)) _ | assumption | exact Below.refl _ _ | refine Below.dr ?_ | refine Below.drN ?_ _ | refine Below.step ?_ (by assumption))); done)); have hf' := hC.cell; (try simp only [List.forall_mem_cons] at hf'); go_simp; first | exact ⟨(HC.out _ _).2 (hC.skip _ (by rfl)), rfl⟩ | (rw [if_neg]; (exact ⟨(HC.out _ _).2 (hC.skip _ (by rfl)), rfl⟩); omega) | (go_at_call 47; refine (HAG.out _ (HX.out.below hb')).mono ?_; rintro e w1 ⟨rfl, hb1⟩; exact ⟨rfl, (HC.out _ _).2 ((hC.next (by first | (simp; done) | (simp; omega) | omega) hb1).skip _ (by rfl))⟩)); go_simp) | (apply flow_no; (case hw => (go_simp; try (intro hh; cases hh))); (intro L w' _ _ hC; exact (HC.out _ _).2 (((HC.out _ _).1 hC).skip _ (by rfl))); go_simp))
          refine flow_nil ?_
          intro L wz hL hz
          have hz := (HC.out _ _).1 hz
          have hbz := hz.below
          have hcz := hz.cell
          try simp only [List.forall_mem_cons] at hcz
          have hdz := hz.done
          try simp only [List.forall_mem_cons] at hdz
          (try have hwz : Below w.heap.size w wz := by first | exact Below.trans (by (repeat (first | with_reducible exact Below.refl _ _ | with_reducible assumption | with_reducible refine Below.al ?_ _ | with_reducible refine Below.sc ?_ (by first | exact Nat.le_refl _ | (simp; done) | (simp; omega)) _ | assumption | exact Below.refl _ _ | refine Below.dr ?_ | refine Below.drN ?_ _ | refine Below.step ?_ (by assumption)))) hbz | ((repeat (first | with_reducible exact Below.refl _ _ | with_reducible assumption | with_reducible refine Below.al ?_ _ | with_reducible refine Below.sc ?_ (by first | exact Nat.le_refl _ | (simp; done) | (simp; omega)) _ | assumption | exact Below.refl _ _ | refine Below.dr ?_ | refine Below.drN ?_ _ | refine Below.step ?_ (by assumption))); done))
          go_wp2
        all_goals first
          | (refine ⟨⟨k + 1, by omega, by go_num, ?_, Below.step hb hbz⟩, by simp [intOf]; omega⟩; rw [HE.out, HD.out, HGG.out, HP.out, ascS, HLS.out]; rfl)
          | (go_ret; exact ⟨ret_bool (by rw [HG2.out, HE.out, HD.out, HGG.out, HP.out, ascS, HLS.out]; rfl), by (repeat (first | with_reducible exact Below.refl _ _ | with_reducible assumption | with_reducible refine Below.al ?_ _ | with_reducible refine Below.sc ?_ (by first | exact Nat.le_refl _ | (simp; done) | (simp; omega)) _ | assumption | exact Below.refl _ _ | refine Below.dr ?_ | refine Below.drN ?_ _ | refine Below.step ?_ (by assumption)))⟩)
    · obtain rfl : k = l.length := by omega
      rw [List.drop_length] at HE
      have HU := Lib.hid (show unitsF none l = true from HE.out)
      have HOA := Lib.hid (fun w' hat => l27Order_any (B := B) l (.slice p l.length c) w' hat (by omega) (fun u hu => good_name (unitsF_good l none HU.out u hu)))
      go_wp2_with fail
      refine (HOA.out _ (H.out.below (by (repeat (first | with_reducible exact Below.refl _ _ | with_reducible assumption | with_reducible refine Below.al ?_ _ | with_reducible refine Below.sc ?_ (by first | exact Nat.le_refl _ | (simp; done) | (simp; omega)) _ | assumption | exact Below.refl _ _ | refine Below.dr ?_ | refine Below.drN ?_ _ | refine Below.step ?_ (by assumption)))))).mono ?_
      rintro e w1 ⟨v, rfl, hv, -, hb1⟩
      obtain ⟨pv, cv, rfl⟩ : ∃ p c, v = .slice p (ordL l).length c := by
        rcases hv.2 with ⟨rfl, h0⟩ | ⟨g, cap, cur, rfl, _⟩
        · exact ⟨none, 0, by rw [h0]⟩
        · exact ⟨_, _, rfl⟩
      clear hv
      have HG3 := Lib.hid (show libGood l = decide ((ordL l).length = l.length) by rw [HG2.out, HU.out, Bool.true_and])
      have hii : (((ordL l).length : Int) = (l.length : Int)) = ((ordL l).length = l.length) := by apply propext; omega
      go_wp2
      go_ret
      refine ⟨ret_bool ?_, by (repeat (first | with_reducible exact Below.refl _ _ | with_reducible assumption | with_reducible refine Below.al ?_ _ | with_reducible refine Below.sc ?_ (by first | exact Nat.le_refl _ | (simp; done) | (simp; omega)) _ | assumption | exact Below.refl _ _ | refine Below.dr ?_ | refine Below.drN ?_ _ | refine Below.step ?_ (by assumption)))⟩
      rw [HG3.out, Bool.eq_iff_iff, decide_eq_true_iff, beq_iff_eq]
      omega
end Go.Proofs.YtimpkjiglioflaaGreat
namespace Go.Proofs.YtimpkjiglioflaaGreat
open Go.RowKit
def nameIs (x : ByteArray) (u : Un) : Bool := u.name.toList == x.toList
theorem nameIs_eq (x : ByteArray) (u : Un) : nameIs x u = decide (u.name = x) := by
  rw [nameIs, Bool.eq_iff_iff, decide_eq_true_iff, Lib.bytes_beq_iff]
theorem find_nameIs (l : List Un) (x : ByteArray) : l.find? (nameIs x) = findU l x := by
  rw [findU]; congr 1; funext u; exact nameIs_eq x u
def placeU (l : List Un) (x : ByteArray) : Option Nat := firstI (nameIs x) 0 l
theorem place_some {l : List Un} {x : ByteArray} {u : Un} (h : findU l x = some u) : ∃ (i : Nat) (hi : i < l.length), placeU l x = some i ∧ l[i] = u := by
  cases hp : placeU l x with
  | none => have := firstI_none _ _ _ hp; rw [find_nameIs, h] at this; cases this
  | some i =>
    obtain ⟨-, hi, hf⟩ := firstI_some _ _ _ _ hp
    simp only [Nat.sub_zero] at hi hf
    rw [find_nameIs, h] at hf
    exact ⟨i, hi, rfl, (Option.some.inj hf).symm⟩
theorem place_none {l : List Un} {x : ByteArray} : placeU l x = none ↔ findU l x = none := by
  constructor
  · intro h; rw [← find_nameIs]; exact firstI_none _ _ _ h
  · intro h
    cases hp : placeU l x with
    | none => rfl
    | some i =>
      obtain ⟨-, hi, hf⟩ := firstI_some _ _ _ _ hp
      rw [find_nameIs, h] at hf; cases hf
set_option maxRecDepth 100000 in
theorem nameIs_any {B : Nat → Prop} (u : Un) (x : ByteArray) (v0 v1 v2 v3 : Value) (g : Nat) (w : World) (hg : w.cell? ⟨g, 0, none⟩ = some (.string x)) (h : UnAt B w u [v0, v1, v2, v3]) :
    Calls Tryz.prog 57 #[.agg #[v0, v1, v2, v3], .pointer (some ⟨g, 0, none⟩)] w fun e w' => e = .returned (.bool (nameIs x u)) ∧ Below w.heap.size w w' := by
  obtain ⟨p, c, q, d, rfl, rfl, rfl, rfl, -⟩ := h.form
  have hgz := bsz (World.block_lt_of_cell? _ _ hg)
  clear h
  go_enter Tryz.func57, Tryz.ntmps57
  go_wp2
  go_ret
  exact ⟨rfl, by (repeat (first | with_reducible exact Below.refl _ _ | with_reducible assumption | with_reducible refine Below.al ?_ _ | with_reducible refine Below.sc ?_ (by first | exact Nat.le_refl _ | (simp; done) | (simp; omega)) _ | assumption | exact Below.refl _ _ | refine Below.dr ?_ | refine Below.drN ?_ _ | refine Below.step ?_ (by assumption)))⟩
set_option maxRecDepth 100000 in
set_option maxHeartbeats 1600000 in
theorem idxPlace {B : Nat → Prop} (P : Un → Bool) (us : List Un) (g : Addr) (va : Value) (w : World) (HC : ∀ (a : Un) (v0 v1 v2 v3 : Value) (w' : World), a ∈ us → UnAt B w' a [v0, v1, v2, v3] → Below w.heap.size w w' → Calls Tryz.prog 57 #[.agg #[v0, v1, v2, v3], .pointer (some g)] w' fun e w'' => e = .returned (.bool (P a)) ∧ Below w'.heap.size w' w'')
    (h : UnsAt B w va us) : Calls Tryz.prog 53 #[va, .func (.func 57) #[] #[.pointer (some g)]] w (FirstI (firstI P 0 us) w) := by
  obtain ⟨p, c, rfl, hlen⟩ := h.form
  unfold maxLen at hlen
  have H := Lib.hid h
  have HN1 := Lib.hid HC
  clear h HC
  go_enter Tryz.func53, Tryz.ntmps53
  go_wp2
  go_loopw [8] (fun i wr => ∃ k : Nat, k ≤ us.length ∧ i = .int .i64 k ∧ firstI P 0 us = firstI P k (us.drop k) ∧ Below w.heap.size w wr) (fun i _ => us.length - (intOf i).toNat)
  case atStart => exact ⟨0, Nat.zero_le _, rfl, rfl, by (repeat (first | with_reducible exact Below.refl _ _ | with_reducible assumption | with_reducible refine Below.al ?_ _ | with_reducible refine Below.sc ?_ (by first | exact Nat.le_refl _ | (simp; done) | (simp; omega)) _ | assumption | exact Below.refl _ _ | refine Below.dr ?_ | refine Below.drN ?_ _ | refine Below.step ?_ (by assumption)))⟩
  case round =>
    obtain ⟨k, hk, rfl, he, hb⟩ := hrel
    have HE := Lib.hid he
    clear he
    by_cases hlt : k < us.length
    · obtain ⟨b, o, rfl, hB, p1, c1, p2, c2, hx0, hx1, hx2, hx3, hx⟩ := (H.out.below hb).at_ hlt
      have HD := Lib.hid (firstI_drop P hlt)
      have hm := List.getElem_mem hlt
      obtain ⟨a, ha⟩ : ∃ a, us[k] = a := ⟨_, rfl⟩
      rw [ha] at hx hx0 hx1 hx2 hx3 HD hm
      have HX := Lib.hid hx
      clear ha hx
      have zb := bsz (World.block_lt_of_cell? _ _ hx0)
      cases hN : P a
      all_goals
        have HN := Lib.hid hN
        go_wp2_with fail
        refine (HN1.out a _ _ _ _ _ hm HX.out (by (repeat (first | with_reducible exact Below.refl _ _ | with_reducible assumption | with_reducible refine Below.al ?_ _ | with_reducible refine Below.sc ?_ (by first | exact Nat.le_refl _ | (simp; done) | (simp; omega)) _ | assumption | exact Below.refl _ _ | refine Below.dr ?_ | refine Below.drN ?_ _ | refine Below.step ?_ (by assumption))))).mono ?_
        rintro e w1 ⟨rfl, hb1⟩
        have ⟨cw1, fw1⟩ := bcell hb1
        have qw1 := hb1.size
        (try simp at qw1)
        (try have zw1w := bsz (show w.heap.size < w1.heap.size by omega))
        rw [HN.out]
        go_wp2
      · refine ⟨⟨k + 1, by omega, by go_num, ?_, by (repeat (first | with_reducible exact Below.refl _ _ | with_reducible assumption | with_reducible refine Below.al ?_ _ | with_reducible refine Below.sc ?_ (by first | exact Nat.le_refl _ | (simp; done) | (simp; omega)) _ | assumption | exact Below.refl _ _ | refine Below.dr ?_ | refine Below.drN ?_ _ | refine Below.step ?_ (by assumption)))⟩, by simp [intOf]; omega⟩
        rw [HE.out, HD.out, HN.out]; rfl
      · go_ret
        exact ⟨_, rfl, by rw [HE.out, HD.out, HN.out]; rfl, by (repeat (first | with_reducible exact Below.refl _ _ | with_reducible assumption | with_reducible refine Below.al ?_ _ | with_reducible refine Below.sc ?_ (by first | exact Nat.le_refl _ | (simp; done) | (simp; omega)) _ | assumption | exact Below.refl _ _ | refine Below.dr ?_ | refine Below.drN ?_ _ | refine Below.step ?_ (by assumption)))⟩
    · obtain rfl : k = us.length := by omega
      have he := HE.out
      rw [List.drop_length] at he
      have HE2 := Lib.hid he
      clear he
      go_wp2
      go_ret
      exact ⟨-1, rfl, by rw [HE2.out]; rfl, by (repeat (first | with_reducible exact Below.refl _ _ | with_reducible assumption | with_reducible refine Below.al ?_ _ | with_reducible refine Below.sc ?_ (by first | exact Nat.le_refl _ | (simp; done) | (simp; omega)) _ | assumption | exact Below.refl _ _ | refine Below.dr ?_ | refine Below.drN ?_ _ | refine Below.step ?_ (by assumption)))⟩
set_option maxRecDepth 100000 in
theorem unitAt_any {B : Nat → Prop} (l : List Un) (va : Value) (x : ByteArray) (w : World) (h : UnsAt B w va l) : Calls Tryz.prog 36 #[va, .string x] w (FirstI (placeU l x) w) := by
  obtain ⟨p, c, rfl, hlen⟩ := h.form
  have H := Lib.hid h
  clear h
  have HX := Lib.hid (fun (w' : World) (hg : w'.cell? ⟨w.heap.size, 0, none⟩ = some (.string x)) (hat : UnsAt B w' (.slice p l.length c) l) => idxPlace (nameIs x) l ⟨w.heap.size, 0, none⟩ (.slice p l.length c) w' (fun a v0 v1 v2 v3 w2 _ ha hb2 => nameIs_any a x v0 v1 v2 v3 w.heap.size w2 ((hb2.cell (World.block_lt_of_cell? _ _ hg)).trans hg) ha) hat)
  go_enter Tryz.func36, Tryz.ntmps36
  go_wp2_with fail
  refine (HX.out _ (by go_simp) (H.out.below (by (repeat (first | with_reducible exact Below.refl _ _ | with_reducible assumption | with_reducible refine Below.al ?_ _ | with_reducible refine Below.sc ?_ (by first | exact Nat.le_refl _ | (simp; done) | (simp; omega)) _ | assumption | exact Below.refl _ _ | refine Below.dr ?_ | refine Below.drN ?_ _ | refine Below.step ?_ (by assumption)))))).mono ?_
  rintro e w1 ⟨r, rfl, hr, hb1⟩
  have HR := Lib.hid hr
  clear hr
  go_wp2
  go_ret
  exact ⟨r, rfl, HR.out, by (repeat (first | with_reducible exact Below.refl _ _ | with_reducible assumption | with_reducible refine Below.al ?_ _ | with_reducible refine Below.sc ?_ (by first | exact Nat.le_refl _ | (simp; done) | (simp; omega)) _ | assumption | exact Below.refl _ _ | refine Below.dr ?_ | refine Below.drN ?_ _ | refine Below.step ?_ (by assumption)))⟩
set_option maxRecDepth 100000 in
set_option maxHeartbeats 1600000 in
theorem l27Find_any {B : Nat → Prop} (l : List Un) (va : Value) (x : ByteArray) (w : World) (h : UnsAt B w va l) : Calls Tryz.prog 31 #[va, .string x] w (FirstI (placeU l x) w) := by
  obtain ⟨p, c, rfl, hlen⟩ := h.form
  unfold maxLen at hlen
  have H := Lib.hid h
  clear h
  go_enter Tryz.func31, Tryz.ntmps31
  go_wp2
  go_loopw [5] (fun i wr => ∃ k : Nat, k ≤ l.length ∧ i = .int .i64 k ∧ placeU l x = firstI (nameIs x) k (l.drop k) ∧ Below w.heap.size w wr) (fun i _ => l.length - (intOf i).toNat)
  case atStart => exact ⟨0, Nat.zero_le _, rfl, rfl, by (repeat (first | with_reducible exact Below.refl _ _ | with_reducible assumption | with_reducible refine Below.al ?_ _ | with_reducible refine Below.sc ?_ (by first | exact Nat.le_refl _ | (simp; done) | (simp; omega)) _ | assumption | exact Below.refl _ _ | refine Below.dr ?_ | refine Below.drN ?_ _ | refine Below.step ?_ (by assumption)))⟩
  case round =>
    obtain ⟨k, hk, rfl, he, hb⟩ := hrel
    have HE := Lib.hid he
    clear he
    by_cases hlt : k < l.length
    · obtain ⟨b, o, rfl, hB, p1, c1, p2, c2, hx0, hx1, hx2, hx3, hx⟩ := (H.out.below hb).at_ hlt
      have HD := Lib.hid (firstI_drop (nameIs x) hlt)
      obtain ⟨a, ha⟩ : ∃ a, l[k] = a := ⟨_, rfl⟩
      rw [ha] at hx0 HD
      clear ha hx hx1 hx2 hx3
      have zb := bsz (World.block_lt_of_cell? _ _ hx0)
      cases hN : (a.name.toList == x.toList)
      all_goals
        have HN := Lib.hid (show nameIs x a = _ from hN)
        go_wp2
      · refine ⟨⟨k + 1, by omega, by go_num, ?_, by (repeat (first | with_reducible exact Below.refl _ _ | with_reducible assumption | with_reducible refine Below.al ?_ _ | with_reducible refine Below.sc ?_ (by first | exact Nat.le_refl _ | (simp; done) | (simp; omega)) _ | assumption | exact Below.refl _ _ | refine Below.dr ?_ | refine Below.drN ?_ _ | refine Below.step ?_ (by assumption)))⟩, by simp [intOf]; omega⟩
        rw [HE.out, HD.out, HN.out]; rfl
      · go_ret
        exact ⟨(k : Int), rfl, by rw [HE.out, HD.out, HN.out]; rfl, by (repeat (first | with_reducible exact Below.refl _ _ | with_reducible assumption | with_reducible refine Below.al ?_ _ | with_reducible refine Below.sc ?_ (by first | exact Nat.le_refl _ | (simp; done) | (simp; omega)) _ | assumption | exact Below.refl _ _ | refine Below.dr ?_ | refine Below.drN ?_ _ | refine Below.step ?_ (by assumption)))⟩
    · obtain rfl : k = l.length := by omega
      have he := HE.out
      rw [List.drop_length] at he
      have HE2 := Lib.hid he
      clear he
      go_wp2
      go_ret
      exact ⟨-1, rfl, by rw [HE2.out]; rfl, by (repeat (first | with_reducible exact Below.refl _ _ | with_reducible assumption | with_reducible refine Below.al ?_ _ | with_reducible refine Below.sc ?_ (by first | exact Nat.le_refl _ | (simp; done) | (simp; omega)) _ | assumption | exact Below.refl _ _ | refine Below.dr ?_ | refine Below.drN ?_ _ | refine Below.step ?_ (by assumption)))⟩
/-! ### Hashes -/
end Go.Proofs.YtimpkjiglioflaaGreat
namespace Go.Proofs.YtimpkjiglioflaaGreat
open Go.RowKit
/-- In wr the row v holds n elements; since W (where it was v0) only its own block and new ones have turned. -/
structure Gr (e : TypeId) (size : Nat) (W : World) (v0 : Value) (base n : Nat) (vals : List Value) (v : Value) (wr : World) : Prop where
  row : wr.ownsRow base e size v n vals
  grown : W.grownBy wr v0.ownBlock
  fresh : NewRow v0 v W.heap.size
theorem Gr.start {e : TypeId} {size base n : Nat} {W : World} {v0 : Value} {vals : List Value} (h : W.ownsRow base e size v0 n vals) : Gr e size W v0 base n vals v0 W :=
  ⟨h, ⟨rfl, rfl, rfl, Nat.le_refl _, fun _ _ _ => rfl⟩, .inl rfl⟩
theorem Gr.below {e : TypeId} {size base n : Nat} {W wr w' : World} {v0 v : Value} {vals : List Value} (h : Gr e size W v0 base n vals v wr) (hb : Below wr.heap.size wr w') : Gr e size W v0 base n vals v w' :=
  ⟨own_below h.row hb, ⟨hb.os.trans h.grown.os, hb.tape.trans h.grown.tape, hb.output.trans h.grown.output, Nat.le_trans h.grown.size hb.size, fun k hk hne => (hb.block k (Nat.lt_of_lt_of_le hk h.grown.size)).trans (h.grown.block k hk hne)⟩, h.fresh⟩
theorem Gr.ne {e : TypeId} {size base n : Nat} {W wr : World} {v0 v : Value} {vals : List Value} (h : Gr e size W v0 base n vals v wr) {b : Nat} (hb : b < W.heap.size) (hv : v0.ownBlock ≠ some b) : v.ownBlock ≠ some b := fun e => by
  rcases h.fresh with h1 | ⟨g, h1, h2⟩
  · exact hv (h1 ▸ e)
  · rw [h1] at e; injection e with e; omega
theorem Gr.app {e : TypeId} {size base n m : Nat} {W wr w' : World} {v0 v v' : Value} {vals more : List Value} (h : Gr e size W v0 base n vals v wr) (ho : w'.ownsRow base e size v' m more) (hg : wr.grownBy w' v.ownBlock) (hn : NewRow v v' wr.heap.size) : Gr e size W v0 base m more v' w' := by
  refine ⟨ho, ⟨hg.os.trans h.grown.os, hg.tape.trans h.grown.tape, hg.output.trans h.grown.output, Nat.le_trans h.grown.size hg.size, fun k hk hne => (hg.block k (Nat.lt_of_lt_of_le hk h.grown.size) (fun e => h.ne hk (fun e' => hne e'.symm) e.symm)).trans (h.grown.block k hk hne)⟩, ?_⟩
  rcases hn with h1 | ⟨g, h1, h2⟩
  · rcases h.fresh with h3 | ⟨g, h3, h4⟩
    · exact .inl (h1.trans h3)
    · exact .inr ⟨g, h1.trans h3, h4⟩
  · exact .inr ⟨g, h1, Nat.le_trans h.grown.size h2⟩
theorem Gr.block {e : TypeId} {size base n : Nat} {W wr : World} {v0 v : Value} {vals : List Value} (h : Gr e size W v0 base n vals v wr) {b : Nat} (hb : b < W.heap.size) (hv : v0.ownBlock ≠ some b) : wr.heap[b]? = W.heap[b]? := h.grown.block b hb (fun e => hv e.symm)
theorem Gr.cell {e : TypeId} {size base n : Nat} {W wr : World} {v0 v : Value} {vals : List Value} (h : Gr e size W v0 base n vals v wr) {b o : Nat} {x : Value} (hv : v0.ownBlock ≠ some b) (hc : W.cell? ⟨b, o, none⟩ = some x) : wr.cell? ⟨b, o, none⟩ = some x :=
  (World.cell?_of_block (a := ⟨b, o, none⟩) (h.block (World.block_lt_of_cell? _ _ hc) hv)).trans hc
theorem Gr.strs {e : TypeId} {size base n : Nat} {W wr : World} {v0 v : Value} {vals : List Value} (h : Gr e size W v0 base n vals v wr) {B : Nat → Prop} {vs : Value} {us : List ByteArray} (hs : StrsAt B W vs us) (hB : ∀ b, B b → v0.ownBlock ≠ some b) : StrsAt B wr vs us :=
  hs.mono (fun b hb hlt => h.block hlt (hB b hb)) (fun _ h => h)
/-- .. seen from a world that is older still. -/
theorem Gr.bel {e : TypeId} {size base n : Nat} {a W wr : World} {v0 v : Value} {vals : List Value} (h : Gr e size W v0 base n vals v wr) (hb : Below a.heap.size a W) (hv : ∀ g, v0.ownBlock = some g → a.heap.size ≤ g) : Below a.heap.size a wr :=
  hb.grown h.grown hb.size hv
end Go.Proofs.YtimpkjiglioflaaGreat
namespace Go.Proofs.YtimpkjiglioflaaGreat
open Go.RowKit
/-- Names of the order, none twice. -/
def GoodS (l out : List ByteArray) : Prop := out.Nodup ∧ ∀ z ∈ out, z ∈ l
theorem GoodS.len {l out : List ByteArray} (h : GoodS l out) : out.length ≤ l.length := pigeon _ _ h.1 h.2
theorem GoodS.add {l out : List ByteArray} {z : ByteArray} (h : GoodS l out) (hz : z ∈ l) : GoodS l (addS out z) := by
  refine ⟨addS_nodup h.1, fun y hy => ?_⟩
  rcases mem_addS.1 hy with hy | rfl
  · exact h.2 y hy
  · exact hz
theorem GoodS.addAll {l : List ByteArray} : ∀ {xs out : List ByteArray}, GoodS l out → (∀ z ∈ xs, z ∈ l) → GoodS l (addAll out xs)
  | [], _, h, _ => h
  | x :: _, out, h, hx => GoodS.addAll (out := addS out x) (h.add (hx x (List.mem_cons_self ..))) (fun z hz => hx z (List.mem_cons_of_mem _ hz))
theorem GoodS.one {l : List ByteArray} {x : ByteArray} (h : x ∈ l) : GoodS l [x] := ⟨by simp, fun z hz => by rw [List.mem_singleton] at hz; exact hz ▸ h⟩
theorem addAll_take {out xs : List ByteArray} {k : Nat} (h : k < xs.length) : addAll out (xs.take (k + 1)) = addS (addAll out (xs.take k)) xs[k] := by
  rw [List.take_succ_eq_append_getElem h, addAll, List.foldl_append]; rfl
def usesT (g : ByteArray → List ByteArray) (x : ByteArray) (ys : List ByteArray) : List ByteArray := ys.foldl (fun out y => addAll out (g y)) [x]
theorem usesT_take {g : ByteArray → List ByteArray} {x : ByteArray} {ys : List ByteArray} {k : Nat} (h : k < ys.length) : usesT g x (ys.take (k + 1)) = addAll (usesT g x (ys.take k)) (g ys[k]) := by
  rw [List.take_succ_eq_append_getElem h, usesT, List.foldl_append]; rfl
theorem usesT_good {l : List ByteArray} {g : ByteArray → List ByteArray} {x : ByteArray} (hx : x ∈ l) {ys : List ByteArray} (hg : ∀ y ∈ ys, ∀ z ∈ g y, z ∈ l) : GoodS l (usesT g x ys) := by
  have key : ∀ (ys out : List ByteArray), GoodS l out → (∀ y ∈ ys, ∀ z ∈ g y, z ∈ l) → GoodS l (ys.foldl (fun out y => addAll out (g y)) out) := by
    intro ys
    induction ys with
    | nil => intro out h _; exact h
    | cons y ys ih => intro out h hg; exact ih _ (h.addAll (hg y (List.mem_cons_self ..))) (fun y' hy' => hg y' (List.mem_cons_of_mem _ hy'))
  exact key ys [x] (GoodS.one hx) hg
theorem usesF_in {l : List Un} (hd : Dist l) (f : Nat) {x : ByteArray} (hx : x ∈ ordL l) (hf : (ordL l).idxOf x < f) : ∀ z ∈ usesF f l x, z ∈ ordL l := fun z hz => ((mem_usesF hd (ordL_inv l) f x z hx hf).1 hz).in_ hd (ordL_inv l) hx
theorem UnsAt.name_size {B : Nat → Prop} {w : World} {v : Value} {l : List Un} (h : UnsAt B w v l) {x : ByteArray} (hx : x ∈ ordL l) : x.size ≤ maxLen := by
  obtain ⟨u, hu, rfl⟩ := List.mem_map.1 ((ordL_inv l).sub x hx)
  obtain ⟨i, hi, rfl⟩ := List.getElem_of_mem hu
  obtain ⟨p, c, rfl, -⟩ := h.form
  obtain ⟨b, o, -, -, p1, c1, p2, c2, -, -, -, -, hx⟩ := h.at_ hi
  obtain ⟨_, _, _, h2, _⟩ := hx
  exact h2
theorem own_len {w : World} {base : Nat} {e : TypeId} {size : Nat} {v : Value} {n : Nat} {xs : List Value} (h : w.ownsRow base e size v n xs) : n ≤ maxLen := by
  rcases h.2 with ⟨_, rfl⟩ | ⟨g, cap, cur, _, _, _, h1, h2, _⟩
  · exact Nat.zero_le _
  · exact Nat.le_trans h1 h2
set_option maxRecDepth 100000 in
set_option maxHeartbeats 6400000 in
theorem l27Uses_any (l : List Un) (n : Nat) (hd : Dist l) (hl : l.length ≤ 1048576) : ∀ (f : Nat) (x : ByteArray) (va : Value) (w : World), x ∈ ordL l → (ordL l).idxOf x < f → UnsAt (fun b => b < n) w va l → n ≤ w.heap.size →
    Calls Tryz.prog 32 #[va, .string x] w fun e w' => ∃ v, e = .returned v ∧ w'.ownsRow w.heap.size 9 1 v (usesF f l x).length (strW (usesF f l x)) ∧ Below w.heap.size w w' := by
  intro f
  induction f with
  | zero => intro x va w _ h; omega
  | succ f ih =>
    intro x va w hx hf h hn
    obtain ⟨u, hul, hux⟩ := List.mem_map.1 ((ordL_inv l).sub x hx)
    have hfu : findU l x = some u := hux ▸ findU_of hd hul
    have hin : incsOf l x = u.incs := by rw [incsOf, hfu]
    have HRK := Lib.hid (fun y (hy : y ∈ u.incs) => incs_rank hd (ordL_inv l) hx (by rw [hin]; exact hy))
    have HT := Lib.hid (show usesF (f + 1) l x = usesT (usesF f l) x u.incs by rw [usesF, hin]; rfl)
    have HIN := Lib.hid (fun y (hy : y ∈ u.incs) => usesF_in hd f (HRK.out y hy).1 (by have := (HRK.out y hy).2; omega))
    have HGD := Lib.hid (fun k => usesT_good (g := usesF f l) hx (ys := u.incs.take k) (fun y hy => HIN.out y (List.mem_of_mem_take hy)))
    have HLN := Lib.hid (ordL_inv l).len
    have HSZ := Lib.hid (fun y (hy : y ∈ ordL l) => h.name_size hy)
    obtain ⟨i, hi, hpl, hli⟩ := place_some hfu
    obtain ⟨p, c, rfl, hlen⟩ := h.form
    unfold maxLen at hlen
    have H := Lib.hid h
    have IH := Lib.hid ih
    clear h ih hfu hin hux
    have HR0 := Lib.hid (show (w.alloc (.cells #[.string x] 9)).ownsRow w.heap.size 9 1 (.slice (some ⟨w.heap.size, 0, none⟩) 1 1) 1 (strW [x]) from
      ⟨by simp [strW], .inr ⟨w.heap.size, 1, #[.string x], rfl, Nat.le_refl _, heap_alloc_new w _, Nat.le_refl _, by simp [maxLen], by simp, by simp [strW]⟩⟩)
    go_enter Tryz.func32, Tryz.ntmps32
    go_wp2_with fail
    refine (l27Find_any l _ x _ (H.out.below (by (repeat (first | with_reducible exact Below.refl _ _ | with_reducible assumption | with_reducible refine Below.al ?_ _ | with_reducible refine Below.sc ?_ (by first | exact Nat.le_refl _ | (simp; done) | (simp; omega)) _ | assumption | exact Below.refl _ _ | refine Below.dr ?_ | refine Below.drN ?_ _ | refine Below.step ?_ (by assumption)))))).mono ?_
    rintro e w1 ⟨r, rfl, hr, hb1⟩
    rw [hpl] at hr
    obtain rfl : r = (i : Int) := hr
    have hq1 := hb1.size
    simp at hq1
    have hbw1 : Below w.heap.size w w1 := Below.step (show Below w.heap.size w (w.alloc (.cells #[.string x] 9)) by (repeat (first | with_reducible exact Below.refl _ _ | with_reducible assumption | with_reducible refine Below.al ?_ _ | with_reducible refine Below.sc ?_ (by first | exact Nat.le_refl _ | (simp; done) | (simp; omega)) _ | assumption | exact Below.refl _ _ | refine Below.dr ?_ | refine Below.drN ?_ _ | refine Below.step ?_ (by assumption)))) hb1
    obtain ⟨b, o, rfl, hB, p1, c1, p2, c2, hx0, hx1, hx2, hx3, hxu⟩ := (H.out.below hbw1).at_ hi
    rw [hli] at hx0 hx1 hx2 hx3 hxu
    obtain ⟨_, _, _, _, q0, q1, q2, q3, -, -, hil, hal, hia, -⟩ := hxu.form
    simp only [Value.slice.injEq, true_and] at q1 q2
    obtain ⟨rfl, rfl⟩ := q1
    clear q0 q3 q2 hxu
    unfold maxLen at hil hal
    have HI := Lib.hid hia
    have zb := bsz (World.block_lt_of_cell? _ _ hx0)
    have hi0 : (0 : Int) ≤ i := by omega
    have hil2 : (i : Int) < l.length := by omega
    clear hia hli hpl
    go_wp2
    obtain ⟨W, hW⟩ : ∃ W : World, W = w1.alloc (.cells #[.string u.name, .slice p1 u.incs.length c1, .slice p2 u.axs.length c2, .string u.goal] 43) := ⟨_, rfl⟩
    have hbW : Below w1.heap.size w1 W := by rw [hW]; exact (Below.refl _ _).alloc (Nat.le_refl _) _
    have hc1 : W.cell? ⟨w1.heap.size, 1, none⟩ = some (.slice p1 u.incs.length c1) := by rw [hW]; go_simp
    have HG0 := Lib.hid (Gr.start (own_below (own_below HR0.out hb1) hbW))
    have hwW : Below w.heap.size w W := Below.step hbw1 hbW
    rw [← hW]
    clear hW hx0 hx1 hx2 hx3 HR0
    have hzW := World.block_lt_of_cell? _ _ hc1
    have hv0 : (Value.slice (some ⟨w.heap.size, 0, none⟩) 1 1).ownBlock = some w.heap.size := rfl
    have hv1 : (Value.slice (some ⟨w.heap.size, 0, none⟩) 1 1).ownBlock ≠ some w1.heap.size := by rw [hv0]; intro e; injection e with e; omega
    go_loopw [5, 7] (fun o i wr => ∃ k : Nat, k ≤ u.incs.length ∧ i = .int .i64 k ∧ Gr 9 1 W (.slice (some ⟨w.heap.size, 0, none⟩) 1 1) w.heap.size (usesT (usesF f l) x (u.incs.take k)).length (strW (usesT (usesF f l) x (u.incs.take k))) o wr) (fun _ i _ => u.incs.length - (intOf i).toNat)
    case atStart => exact ⟨0, Nat.zero_le _, rfl, HG0.out⟩
    case round =>
      obtain ⟨k, hk, rfl, hgr⟩ := hrel
      have HGR := Lib.hid hgr
      have hbw : Below w.heap.size w wr := hgr.bel hwW (fun g hg => by rw [hv0] at hg; injection hg with hg; omega)
      have d1 := hgr.cell hv1 hc1
      have zu := bsz (World.block_lt_of_cell? _ _ d1)
      have hgd := HGD.out k
      have hgl := hgd.len
      have hll := HLN.out
      clear hgr
      by_cases hlt : k < u.incs.length
      · have HIR := Lib.hid (HGR.out.strs (HI.out.below hbW) (fun b hb => by rw [hv0]; intro e; injection e with e; omega))
        obtain ⟨b', o', rfl, hB', hy0, hys⟩ := HIR.out.at_ hlt
        have HTK := Lib.hid (usesT_take (g := usesF f l) (x := x) hlt)
        have hrk := HRK.out _ (List.getElem_mem hlt)
        have hin := HIN.out _ (List.getElem_mem hlt)
        obtain ⟨a, ha⟩ : ∃ a, u.incs[k] = a := ⟨_, rfl⟩
        rw [ha] at hy0 HTK hrk hin
        have HMI := Lib.hid hin
        clear ha hin
        have zb' := bsz (World.block_lt_of_cell? _ _ hy0)
        have hki : (k : Int) < u.incs.length := by omega
        have HGS := Lib.hid hgd
        clear hgd
        generalize usesT (usesF f l) x (u.incs.take k) = out at *
        go_wp2_with fail
        refine (IH.out a _ _ hrk.1 (by omega) (H.out.below hbw) (by have := hbw.size; omega)).mono ?_
        rintro e w3 ⟨v3, rfl, hm3, hb3⟩
        have hq3 := hb3.size
        generalize usesF f l a = more at *
        have HM3 := Lib.hid (rowS_own (S := fun b => wr.heap.size ≤ b ∧ b < w3.heap.size) hm3 (fun s hs => HSZ.out s (HMI.out s hs)) (own_len hm3) (fun g hg => ⟨own_base hm3 g hg, own_lt' hm3 hg⟩))
        obtain ⟨p3, k3, rfl, hml⟩ := OwnRow.form HM3.out
        unfold maxLen at hml
        obtain ⟨vo, hvo⟩ : ∃ vo, vo = u5 := ⟨_, rfl⟩
        have HG3 := Lib.hid (Gr.start (own_below HGR.out.row hb3))
        have hvol : ∀ g, (u5 : Value).ownBlock = some g → g < wr.heap.size := fun g hg => own_lt' HGR.out.row hg
        clear hm3
        obtain ⟨wA, hwA⟩ : ∃ x, x = wr := ⟨_, rfl⟩
        subst hwA
        subst hvo
        have HGA := Lib.hid (fun j => HGS.out.addAll (xs := more.take j) (fun z hz => HMI.out z (List.mem_of_mem_take hz)))
        go_wp2
        go_loopw [5, 9] (fun o i wr' => ∃ j : Nat, j ≤ more.length ∧ i = .int .i64 j ∧ Gr 9 1 w3 vo w.heap.size (addAll out (more.take j)).length (strW (addAll out (more.take j))) o wr') (fun _ i _ => more.length - (intOf i).toNat)
        case atStart => exact ⟨0, Nat.zero_le _, rfl, HG3.out⟩
        case round =>
          obtain ⟨j, hj, rfl, hg4⟩ := hrel
          have HG4 := Lib.hid hg4
          have hga := HGA.out j
          have hgal := hga.len
          have hbg := hg4.grown.size
          by_cases hjl : j < more.length
          · obtain ⟨b2, o2, rfl, hB2, hz0, -⟩ := (hg4.strs HM3.out.at_ (fun b hb e => by have := hvol b e; omega)).at_ hjl
            have HTJ := Lib.hid (addAll_take (out := out) hjl)
            obtain ⟨a2, ha2⟩ : ∃ a2, more[j] = a2 := ⟨_, rfl⟩
            rw [ha2] at hz0 HTJ
            clear ha2
            have zb2 := bsz (World.block_lt_of_cell? _ _ hz0)
            have HRO := Lib.hid (rowS_own (S := fun _ => True) hg4.row (fun s hs => HSZ.out s (hga.2 s hs)) (by unfold maxLen; omega) (fun _ _ => trivial))
            obtain ⟨p5, k5, rfl, -⟩ := OwnRow.form HRO.out
            clear hg4 hga
            generalize addAll out (more.take j) = cur at *
            have hj2 : (j : Int) < more.length := by omega
            go_wp2_with fail
            refine (l2In_any cur _ a2 _ HRO.out.at_).mono ?_
            rintro e w5 ⟨rfl, hb5⟩
            have ⟨cb5, fb5⟩ := bcell hb5
            have hq5 := hb5.size
            have HAD := Lib.hid (show addS cur a2 = if inS cur a2 then cur else cur ++ [a2] from rfl)
            cases hI : inS cur a2
            all_goals rw [hI] at HAD
            · go_wp2_with (at_builtin; refine wpList_app1 rfl (.tmp 45) (.tmp 50) _ rfl w.heap.size 9 1 16 elemStr _ _ _ rfl w5 #[.string a2] rfl _ (by simp) rfl (own_below HG4.out.row hb5) rfl (by simp [Value.oneCell']) (by omega) (by unfold maxLen; omega) (by have := hbw.size; omega) ?_; intro v6 w6 hown6 hg6 hnr6 hlt6)
              obtain ⟨q6, k6, rfl⟩ := own_form hown6 (Nat.succ_pos _)
              refine ⟨⟨j + 1, by omega, by go_num, ?_⟩, by simp [intOf]; omega⟩
              rw [HTJ.out, HAD.out, if_neg (by simp), List.length_append, strW_snoc]
              exact (HG4.out.below hb5).app hown6 hg6 hnr6
            · go_wp2
              refine ⟨⟨j + 1, by omega, by go_num, ?_⟩, by simp [intOf]; omega⟩
              rw [HTJ.out, HAD.out, if_pos (by trivial)]
              exact HG4.out.below hb5
          · obtain rfl : j = more.length := by omega
            rw [List.take_length] at HG4
            go_wp2
            refine ⟨⟨k + 1, by omega, by go_num, ?_⟩, by simp [intOf]; omega⟩
            rw [HTK.out]
            exact (HGR.out.below hb3).app HG4.out.row HG4.out.grown HG4.out.fresh
      · obtain rfl : k = u.incs.length := by omega
        rw [List.take_length] at HGR
        go_wp2
        go_ret
        exact ⟨_, rfl, by rw [HT.out]; exact HGR.out.row, hbw⟩
end Go.Proofs.YtimpkjiglioflaaGreat
namespace Go.Proofs.YtimpkjiglioflaaGreat
open Go.RowKit
theorem StrOwn.kept {e : TypeId} {S K : Nat → Prop} {w w' : World} {us : List ByteArray} {v : Value} (h : StrOwn e S w us v) (hk : Kept K w w') (hd : ∀ b, S b → ¬ K b) : StrOwn e S w' us v := h.mono (fun b hb hlt => hk.block b hlt (hd b hb)) (fun _ h => h)
def MarkURel (S : Nat → Prop) (us : List Un) (v : Value) (k : Nat) (w : World) (kv i : Value) (wr : World) : Prop :=
  ∃ j : Nat, i = .int .i64 (j : Nat) ∧ kv = .int .i64 ((k + ctU (us.take j) : Nat) : Int) ∧ j ≤ us.length ∧ UnsOwn 9 43 S wr (mksU k (us.take j) ++ us.drop j) v ∧ Kept S w wr
set_option maxRecDepth 100000 in
set_option maxHeartbeats 3200000 in
theorem markUnitS_any (S : Nat → Prop) (us : List Un) (v : Value) (k : Nat) (w : World) (h : UnsOwn 9 43 S w us v) (hk : 0 < k) (hb : k + ctU us ≤ 100000000) :
  Calls Tryz.prog 15 #[v, .int .i64 (k : Nat)] w fun e w' => e = .returned (.int .i64 ((k + ctU us : Nat) : Int)) ∧ UnsOwn 9 43 S w' (mksU k us) v ∧ Kept S w w' := by
  obtain ⟨p, c, rfl, hlen⟩ := OwnRow.form h
  unfold maxLen at hlen
  have H := Lib.hid h
  clear h
  go_enter Tryz.func15, Tryz.ntmps15
  go_wp2
  go_loopw [1, 5] (MarkURel S us (.slice p us.length c) k w) (fun _ i _ => us.length - (intOf i).toNat)
  case atStart => exact ⟨0, rfl, rfl, Nat.zero_le _, H.out, Kept.refl _ _⟩
  case round =>
    obtain ⟨j, rfl, rfl, hju, hrow, hkp⟩ := hrel
    have HKP := Lib.hid hkp
    clear hkp
    have hlj : (mksU k (us.take j)).length = j := by rw [mksU_len, List.length_take]; omega
    by_cases hlt : j < us.length
    · have hx : (mksU k (us.take j) ++ us.drop j)[j]? = some us[j] := by rw [List.getElem?_append_right (by omega), hlj, Nat.sub_self, List.getElem?_drop, Nat.add_zero, List.getElem?_eq_getElem hlt]
      obtain ⟨g, cap, cs, Si, cur, hv, hSg, hh, hcl, hsz, hcs, hR, hSi, hclose⟩ := OwnRow.elem hrow hx
      have HCL := Lib.hid hclose
      clear hrow hclose hx
      have hset : ∀ y, (mksU k (us.take j) ++ us.drop j).set j y = (mksU k (us.take j) ++ [y]) ++ us.drop (j + 1) := fun y => by
        rw [List.set_append_right _ _ (by omega), hlj, Nat.sub_self, List.append_assoc, List.singleton_append]
        have e := List.drop_eq_getElem_cons hlt
        rw [e]; rfl
      have HSET := Lib.hid hset
      have hct := ctU_take hlt
      have hcl2 := ctU_le us (j + 1)
      have HTK := Lib.hid (List.take_succ_eq_append_getElem hlt)
      clear hset
      generalize us[j] = a at *
      obtain ⟨va, vb, S1, S2, rfl, hn, hgs, ho1, ho2, hs1, hs2, hdis⟩ := hR
      obtain ⟨p1, c1, rfl, hl1⟩ := OwnRow.form ho1
      obtain ⟨p2, c2, rfl, hl2⟩ := OwnRow.form ho2
      simp only [Value.slice.injEq] at hv
      obtain ⟨rfl, -, rfl⟩ := hv
      have HO1 := Lib.hid ho1
      have HO2 := Lib.hid ho2
      have HHH := Lib.hid hh
      have HD := Lib.hid (And.intro hs1 (And.intro hs2 hdis))
      have hca : a.ct = 2 + a.incs.length + a.axs.length := rfl
      have c0 : wr.cell? ⟨g, j * 4, none⟩ = some (.string a.name) := (cell_of_row wr g _ cur _ (0, 0) hh).trans (hcs 0 (by omega))
      have c1' : wr.cell? ⟨g, j * 4 + 1, none⟩ = some (.slice p1 a.incs.length c1) := (cell_of_row wr g _ cur _ (0, 0) hh).trans (hcs 1 (by omega))
      have c2' : wr.cell? ⟨g, j * 4 + 2, none⟩ = some (.slice p2 a.axs.length c2) := (cell_of_row wr g _ cur _ (0, 0) hh).trans (hcs 2 (by omega))
      have c3 : wr.cell? ⟨g, j * 4 + 3, none⟩ = some (.string a.goal) := (cell_of_row wr g _ cur _ (0, 0) hh).trans (hcs 3 (by omega))
      have cf : ∀ i, wr.frozen? ⟨g, i, none⟩ = false := fun i => frozen_of_row wr g i _ _ hh
      have hgl := bsz (blk_lt hh)
      have hng1 : ¬ S1 g := fun e => (hSi g (hs1 g e)).2 rfl
      have hng2 : ¬ S2 g := fun e => (hSi g (hs2 g e)).2 rfl
      clear hh ho1 ho2 hs1 hs2 hdis
      obtain ⟨q, hq⟩ : ∃ q, k + ctU (us.take j) = q := ⟨_, rfl⟩
      have hct2 : k + ctU (us.take (j + 1)) = q + a.ct := by omega
      rw [hq]
      have HQ := Lib.hid hq
      clear hq
      go_wp2_with fail
      refine (markText_any q _ (by omega) (by omega)).mono ?_
      rintro e w1 ⟨rfl, hb1⟩
      have ⟨cb, fb⟩ := bcell hb1
      have hq1 := hb1.size
      have hg1 := bsz (show g < w1.heap.size by omega)
      go_wp2_with fail
      rw [show ((q : Int) + 1) = ((q + 1 : Nat) : Int) by omega]
      obtain ⟨W2, hW2⟩ : ∃ W2, W2 = w1.setCell ⟨g, j * 4, none⟩ (.string (markB q)) := ⟨_, rfl⟩
      rw [← hW2]
      have hg2 : W2.heap[g]? = some (.cells (cur.setIfInBounds (j * 4 + 0) (.string (markB q))) 43 (0, 0)) := by
        rw [hW2]; exact heap_setCell_same w1 g (j * 4 + 0) cur _ _ ((hb1.block g hgl.1).trans HHH.out)
      have hS2 : SameOn (fun b => b ≠ g) wr W2 := fun b hb hlt => by rw [hW2]; exact (heap_setCell_other w1 ⟨g, j * 4, none⟩ b _ (fun e => hb e)).trans (hb1.block b hlt)
      have hz2 : W2.heap.size = w1.heap.size := by rw [hW2]; simp
      have hK2 : Kept S wr W2 := by rw [hW2]; exact ((Kept.refl S wr).below hb1).set hSg _ _
      clear hW2
      refine (markStringS_any S1 a.incs _ (q + 1) W2 (HO1.out.mono (fun b hb hlt => hS2 b (fun e => hng1 (e ▸ hb)) hlt) (fun _ h => h)) (by omega) (by omega)).mono ?_
      rintro e w3 ⟨rfl, ho3, hk3⟩
      have HO3 := Lib.hid ho3
      have hq3 := hk3.size
      have hg3 : w3.heap[g]? = _ := (hk3.block g (by omega) hng1).trans hg2
      have d2 : w3.cell? ⟨g, j * 4 + 2, none⟩ = some (.slice p2 a.axs.length c2) := by
        rw [cell_of_row w3 g _ _ _ (0, 0) hg3, Array.getElem?_setIfInBounds_ne (by omega)]; exact hcs 2 (by omega)
      have hgl3 := bsz (show g < w3.heap.size by omega)
      clear ho3
      go_wp2_with fail
      rw [show ((q : Int) + 1 + (a.incs.length : Int)) = ((q + 1 + a.incs.length : Nat) : Int) by omega]
      refine (markStringS_any S2 a.axs _ (q + 1 + a.incs.length) w3 ((HO2.out.mono (fun b hb hlt => hS2 b (fun e => hng2 (e ▸ hb)) hlt) (fun _ h => h)).kept hk3 (fun b h2 h1 => HD.out.2.2 b h1 h2)) (by omega) (by omega)).mono ?_
      rintro e w4 ⟨rfl, ho4, hk4⟩
      have HO4 := Lib.hid ho4
      have hq4 := hk4.size
      have hg4 : w4.heap[g]? = _ := (hk4.block g (by omega) hng2).trans hg3
      have hgl4 := bsz (show g < w4.heap.size by omega)
      clear ho4
      go_wp2_with fail
      rw [show ((q : Int) + 1 + (a.incs.length : Int) + (a.axs.length : Int)) = ((q + 1 + a.incs.length + a.axs.length : Nat) : Int) by omega]
      refine (markText_any (q + 1 + a.incs.length + a.axs.length) _ (by omega) (by omega)).mono ?_
      rintro e w5 ⟨rfl, hb5⟩
      have hq5 := hb5.size
      have hgl5 := bsz (show g < w5.heap.size by omega)
      have hg5 : w5.heap[g]? = _ := (hb5.block g (by omega)).trans hg4
      have d5 : w5.cell? ⟨g, j * 4 + 3, none⟩ = some (.string a.goal) := by
        rw [cell_of_row w5 g _ _ _ (0, 0) hg5, Array.getElem?_setIfInBounds_ne (by omega)]; exact hcs 3 (by omega)
      have f5 : w5.frozen? ⟨g, j * 4 + 3, none⟩ = false := frozen_of_row w5 g _ _ _ hg5
      go_wp2
      have hg6 := heap_setCell_same w5 g (j * 4 + 3) _ 43 (.string (markB (q + 1 + a.incs.length + a.axs.length))) hg5
      have hpt : Patch cur ((cur.setIfInBounds (j * 4 + 0) (.string (markB q))).setIfInBounds (j * 4 + 3) (.string (markB (q + 1 + a.incs.length + a.axs.length)))) (j * 4) [.string (markB q), .slice p1 a.incs.length c1, .slice p2 a.axs.length c2, .string (markB (q + 1 + a.incs.length + a.axs.length))] :=
        Patch.set (cs := [.string (markB q), .slice p1 a.incs.length c1, .slice p2 a.axs.length c2, .string a.goal]) (Patch.set (cs := [.string a.name, .slice p1 a.incs.length c1, .slice p2 a.axs.length c2, .string a.goal]) (Patch.refl hcs) (j := 0) (by simp) hsz _) (j := 3) (by simp) hsz _
      refine ⟨⟨j + 1, by go_num, ?_, by omega, ?_, ?_⟩, by simp [intOf]; omega⟩
      · exact congrArg (Value.int .i64) (by have := HQ.out; omega)
      · rw [HTK.out, mksU_snoc, HQ.out, ← HSET.out]
        refine HCL.out _ (a.mkd q) _ _ (fun T u cs => UnOwn 9 T _ u cs) rfl hg6 hpt ⟨_, _, S1, S2, rfl, markB_size q (by omega), markB_size _ (by omega), ?_, ?_, HD.out.1, HD.out.2.1, HD.out.2.2⟩ (fun T y cs hT hy => hy.mono (fun b hb hlt => ?_) (fun _ h => h))
        · exact ((HO3.out.kept hk4 (fun b h1 h2 => HD.out.2.2 b h1 h2)).later hb5).mono (fun b hb _ => heap_setCell_other w5 ⟨g, j * 4 + 3, none⟩ b _ (fun e => hng1 (by rw [← show b = g from e]; exact hb))) (fun _ h => h)
        · exact (HO4.out.later hb5).mono (fun b hb _ => heap_setCell_other w5 ⟨g, j * 4 + 3, none⟩ b _ (fun e => hng2 (by rw [← show b = g from e]; exact hb))) (fun _ h => h)
        · obtain ⟨hb1', hb2', hb3'⟩ := hT b hb
          exact (heap_setCell_other w5 ⟨g, j * 4 + 3, none⟩ b _ (fun e => hb2' e)).trans ((hb5.block b (by omega)).trans ((hk4.block b (by omega) (fun e => hb3' (HD.out.2.1 b e))).trans ((hk3.block b (by omega) (fun e => hb3' (HD.out.1 b e))).trans (hS2 b hb2' hlt))))
      · exact HKP.out.trans (((hK2.trans (hk3.mono (fun b hb => (hSi b (HD.out.1 b hb)).1))).trans (hk4.mono (fun b hb => (hSi b (HD.out.2.1 b hb)).1))).below hb5 |>.set hSg _ _)
    · obtain rfl : j = us.length := by omega
      rw [List.drop_length, List.append_nil, List.take_length] at hrow
      have HRW := Lib.hid hrow
      rw [List.take_length]
      clear hrow
      go_wp2
      go_ret
      exact ⟨rfl, HRW.out, HKP.out⟩
end Go.Proofs.YtimpkjiglioflaaGreat
namespace Go.Proofs.YtimpkjiglioflaaGreat
open Go.RowKit
theorem ctU_wt : ∀ us : List Un, ctU us ≤ 2 * us.length + wtU us
  | [] => by simp [ctU]
  | u :: us => by
    have := ctU_wt us
    rw [ctU, wtU, List.length_cons]
    have h1 : u.ct = 2 + u.incs.length + u.axs.length := rfl
    have h2 : u.wt = u.name.size + (u.incs.length + wtS u.incs) + (u.axs.length + wtS u.axs) + u.goal.size := rfl
    omega
theorem StrsAt.nil (B : Nat → Prop) (w : World) (p : Option Addr) (c : Nat) : StrsAt B w (.slice p 0 c) [] := ListAt.nil _ _ _ _ _ _
end Go.Proofs.YtimpkjiglioflaaGreat
namespace Go.Proofs.YtimpkjiglioflaaGreat
open Go.RowKit
theorem Kept.belowB {K : Nat → Prop} {a w w' : World} (hb : Below a.heap.size a w) (hk : Kept K w w') (hK : ∀ b, K b → a.heap.size ≤ b) : Below a.heap.size a w' :=
  ⟨hk.os.trans hb.os, hk.tape.trans hb.tape, hk.output.trans hb.output, Nat.le_trans hb.size hk.size, fun b hlt => (hk.block b (Nat.lt_of_lt_of_le hlt hb.size) (fun e => by have := hK b e; omega)).trans (hb.block b hlt)⟩
theorem StrsAt.kept {B K : Nat → Prop} {w w' : World} {v : Value} {us : List ByteArray} (h : StrsAt B w v us) (hk : Kept K w w') (hd : ∀ b, B b → ¬ K b) : StrsAt B w' v us := h.mono (fun b hb hlt => hk.block b hlt (hd b hb)) (fun _ h => h)
theorem newB_apart {a b c d : World} {k : Nat} (h : NewB a b k) (h2 : NewB c d k) (hz : b.heap.size ≤ c.heap.size) : False := by
  have := h.2; have := h2.1; omega
end Go.Proofs.YtimpkjiglioflaaGreat
namespace Go.Proofs.YtimpkjiglioflaaGreat
open Go.RowKit
def unitOf (l : List Un) (x : ByteArray) : Bool := libGood l && (placeU l x).isSome
theorem libGood_parts {l : List Un} (h : libGood l = true) : Dist l ∧ (ordL l).length = l.length ∧ ∀ u ∈ l, u.good = true := by
  rw [libGood, Bool.and_eq_true, Bool.and_eq_true] at h
  exact ⟨unitsF_dist l none h.1.1, of_decide_eq_true h.2, unitsF_good l none h.1.1⟩
theorem place_mem {l : List Un} {x : ByteArray} (h : (placeU l x).isSome = true) : ∃ u ∈ l, u.name = x := by
  cases hf : findU l x with
  | none => rw [place_none.2 hf] at h; cases h
  | some u => exact ⟨u, findU_some hf⟩
theorem unitOf_parts {l : List Un} {x : ByteArray} (h : unitOf l x = true) : Dist l ∧ (ordL l).length = l.length ∧ x ∈ ordL l ∧ (ordL l).idxOf x < l.length := by
  rw [unitOf, Bool.and_eq_true] at h
  obtain ⟨h1, h2, h3⟩ := libGood_parts h.1
  obtain ⟨u, hu, rfl⟩ := place_mem h.2
  have := full_all h2 u hu
  exact ⟨h1, h2, this, idx_lt h2 this⟩
set_option maxRecDepth 100000 in
set_option maxHeartbeats 800000 in
theorem isUnitOf_any {B : Nat → Prop} (l : List Un) (va : Value) (x : ByteArray) (w : World) (h : UnsAt B w va l) (hw : l.length + wtU l ≤ 1048576) :
    Calls Tryz.prog 34 #[va, .string x] w fun e w' => e = .returned (.bool (unitOf l x)) ∧ Below w.heap.size w w' := by
  obtain ⟨p, c, rfl, hlen⟩ := h.form
  have H := Lib.hid h
  have HU := Lib.hid (show unitOf l x = (libGood l && (placeU l x).isSome) from rfl)
  clear h
  go_enter Tryz.func34, Tryz.ntmps34
  go_wp2_with fail
  refine (implLib_any l _ _ (H.out.below (by (repeat (first | with_reducible exact Below.refl _ _ | with_reducible assumption | with_reducible refine Below.al ?_ _ | with_reducible refine Below.sc ?_ (by first | exact Nat.le_refl _ | (simp; done) | (simp; omega)) _ | assumption | exact Below.refl _ _ | refine Below.dr ?_ | refine Below.drN ?_ _ | refine Below.step ?_ (by assumption))))) hw).mono ?_
  rintro e w1 ⟨rfl, hb1⟩
  have ⟨cw1, fw1⟩ := bcell hb1
  have qw1 := hb1.size
  (try simp at qw1)
  (try have zw1w := bsz (show w.heap.size < w1.heap.size by omega))
  cases hg : libGood l
  · have HG := Lib.hid hg
    go_wp2
    go_ret
    exact ⟨ret_bool (by rw [HU.out, HG.out]; rfl), by (repeat (first | with_reducible exact Below.refl _ _ | with_reducible assumption | with_reducible refine Below.al ?_ _ | with_reducible refine Below.sc ?_ (by first | exact Nat.le_refl _ | (simp; done) | (simp; omega)) _ | assumption | exact Below.refl _ _ | refine Below.dr ?_ | refine Below.drN ?_ _ | refine Below.step ?_ (by assumption)))⟩
  · have HG := Lib.hid hg
    go_wp2_with fail
    refine (unitAt_any l _ x _ (H.out.below (by (repeat (first | with_reducible exact Below.refl _ _ | with_reducible assumption | with_reducible refine Below.al ?_ _ | with_reducible refine Below.sc ?_ (by first | exact Nat.le_refl _ | (simp; done) | (simp; omega)) _ | assumption | exact Below.refl _ _ | refine Below.dr ?_ | refine Below.drN ?_ _ | refine Below.step ?_ (by assumption)))))).mono ?_
    rintro e w2 ⟨r, rfl, hr, hb2⟩
    have HR := Lib.hid (show decide (0 ≤ r) = unitOf l x by rw [hr, atI_neg, HU.out, HG.out, Bool.true_and])
    clear hr
    go_wp2
    go_ret
    exact ⟨ret_bool HR.out, by (repeat (first | with_reducible exact Below.refl _ _ | with_reducible assumption | with_reducible refine Below.al ?_ _ | with_reducible refine Below.sc ?_ (by first | exact Nat.le_refl _ | (simp; done) | (simp; omega)) _ | assumption | exact Below.refl _ _ | refine Below.dr ?_ | refine Below.drN ?_ _ | refine Below.step ?_ (by assumption)))⟩
end Go.Proofs.YtimpkjiglioflaaGreat
namespace Go.Proofs.YtimpkjiglioflaaGreat
open Go.RowKit
theorem Gr.same {e : TypeId} {size base n : Nat} {W wr : World} {v0 v : Value} {vals : List Value} (h : Gr e size W v0 base n vals v wr) {B : Nat → Prop} (hB : ∀ b, B b → v0.ownBlock ≠ some b) : SameOn B W wr := fun b hb hlt => h.block hlt (hB b hb)
def allAx (l : List Un) : List ByteArray := l.flatMap Un.axs
theorem allAx_len : ∀ l : List Un, (allAx l).length ≤ wtU l
  | [] => by simp [allAx]
  | u :: l => by
    have := allAx_len l
    rw [allAx] at this
    rw [allAx, List.flatMap_cons, List.length_append, wtU, Un.wt]; omega
theorem allAx_size {l : List Un} {s : ByteArray} (h : s ∈ allAx l) : s.size ≤ wtU l := by
  obtain ⟨u, hu, hs⟩ := List.mem_flatMap.1 h
  have h1 := wtU_le l u hu
  have h2 := wtS_le u.axs s hs
  rw [Un.wt] at h1; omega
theorem axsOf_in {l : List Un} {x : ByteArray} : ∀ z ∈ axsOf l x, z ∈ allAx l := by
  intro z hz
  rw [axsOf] at hz
  cases hf : findU l x with
  | none => rw [hf] at hz; cases hz
  | some u => rw [hf] at hz; exact List.mem_flatMap.2 ⟨u, (findU_some hf).1, hz⟩
theorem GoodS.nil (l : List ByteArray) : GoodS l [] := ⟨List.nodup_nil, by simp⟩
theorem visF_good (l : List Un) (U : List ByteArray) : ∀ R : List ByteArray, GoodS (allAx l) (visF l R U) := by
  have key : ∀ (R out : List ByteArray), GoodS (allAx l) out → GoodS (allAx l) (R.foldl (fun out y => if inS U y then addAll out (axsOf l y) else out) out) := by
    intro R
    induction R with
    | nil => intro out h; exact h
    | cons y R ih =>
      intro out h
      rw [List.foldl_cons]
      refine ih _ ?_
      split
      · exact h.addAll axsOf_in
      · exact h
  exact fun R => key R [] (GoodS.nil _)
theorem visF_take {l : List Un} {R U : List ByteArray} {k : Nat} (h : k < R.length) : visF l (R.take (k + 1)) U = if inS U R[k] then addAll (visF l (R.take k) U) (axsOf l R[k]) else visF l (R.take k) U := by
  rw [List.take_succ_eq_append_getElem h, visF, List.foldl_append]; rfl
def visV (l : List Un) (x : ByteArray) : List ByteArray := if unitOf l x then visL l x else []
theorem visV_good (l : List Un) (x : ByteArray) : GoodS (allAx l) (visV l x) := by
  rw [visV]; split
  · exact visF_good _ _ _
  · exact GoodS.nil _
theorem visV_len (l : List Un) (x : ByteArray) : (visV l x).length ≤ wtU l := Nat.le_trans (visV_good l x).len (allAx_len l)
end Go.Proofs.YtimpkjiglioflaaGreat
