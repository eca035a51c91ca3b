/- 'FnExactLoadOrder': the law is true for all arguments. -/
import Derived.OpenShut
import Derived.JoinedCond
import Derived.Deep.DeepHandedRow
import Derived.Lib.SmallJoins
import Derived.Stop.LaidErr
import Derived.ChangeSlices
import Derived.Test.YtimpkjiglioflaaGreatLoPart1
import Derived.Test.YtimpkjiglioflaaGreatLoPart11
namespace Go.Proofs.YtimpkjiglioflaaGreat
open Go.RowKit
def unitsF : Option ByteArray → List Un → Bool
  | _, [] => true
  | p, u :: us => u.good && ascS p u.name && unitsF (some u.name) us
def prevU (l : List Un) : Nat → Option ByteArray | 0 => none | k + 1 => (l[k]?).map Un.name
theorem unitsF_drop {l : List Un} {k : Nat} (h : k < l.length) : unitsF (prevU l k) (l.drop k) = (l[k].good && ascS (prevU l k) l[k].name && unitsF (prevU l (k + 1)) (l.drop (k + 1))) := by
  rw [List.drop_eq_getElem_cons h, unitsF, show prevU l (k + 1) = some l[k].name by rw [prevU, List.getElem?_eq_getElem h]; rfl]
theorem prevU_pos {l : List Un} {k : Nat} (h : k < l.length) (hk : 0 < k) : prevU l k = some (l[k - 1]'(by omega)).name := by
  cases k with
  | zero => omega
  | succ k => rw [prevU, List.getElem?_eq_getElem (by omega)]; rfl
theorem unitsF_good : ∀ (l : List Un) (p : Option ByteArray), unitsF p l = true → ∀ u ∈ l, u.good = true
  | [], _, _, u, hu => by simp at hu
  | v :: l, p, h, u, hu => by
    rw [unitsF, Bool.and_eq_true, Bool.and_eq_true] at h
    rcases List.mem_cons.1 hu with rfl | hu
    · exact h.1.1
    · exact unitsF_good l _ h.2 u hu
def libGood (l : List Un) : Bool := unitsF none l && decide (l.length ≤ 12) && decide ((ordL l).length = l.length)
set_option maxRecDepth 100000 in
set_option maxHeartbeats 6400000 in
theorem implLib_any {B : Nat → Prop} (l : List Un) (va : Value) (w : World) (h : UnsAt B w va l) (hw : l.length + wtU l ≤ 1048576) :
    Calls Tryz.prog 10 #[va] w fun e w' => e = .returned (.bool (libGood l)) ∧ Below w.heap.size w w' := by
  obtain ⟨p, c, rfl, hlen⟩ := h.form
  unfold maxLen at hlen
  have H := Lib.hid h
  have HG := Lib.hid (show libGood l = (unitsF none l && decide (l.length ≤ 12) && decide ((ordL l).length = l.length)) from rfl)
  have HZ := Lib.hid (fun u hu => Nat.le_trans (wtU_le l u hu) (show wtU l ≤ 1000000000000 by omega))
  clear h
  go_enter Tryz.func10, Tryz.ntmps10
  go_wp2
  go_loopw [9] (fun i wr => ∃ k : Nat, k ≤ l.length ∧ i = .int .i64 k ∧ unitsF none l = unitsF (prevU l k) (l.drop k) ∧ Below w.heap.size w wr) (fun i _ => l.length - (intOf i).toNat)
  case atStart => exact ⟨0, Nat.zero_le _, rfl, rfl, by (repeat (first | with_reducible exact Below.refl _ _ | with_reducible assumption | with_reducible refine Below.al ?_ _ | with_reducible refine Below.sc ?_ (by first | exact Nat.le_refl _ | (simp; done) | (simp; omega)) _ | assumption | exact Below.refl _ _ | refine Below.dr ?_ | refine Below.drN ?_ _ | refine Below.step ?_ (by assumption)))⟩
  case round =>
    obtain ⟨k, hk, rfl, he, hb⟩ := hrel
    have HE := Lib.hid he
    clear he
    by_cases hlt : k < l.length
    · obtain ⟨b, o, rfl, hB, p1, c1, p2, c2, hx0, hx1, hx2, hx3, hx⟩ := (H.out.below hb).at_ hlt
      have HD := Lib.hid (unitsF_drop hlt)
      have hza := HZ.out _ (List.getElem_mem hlt)
      have zb := bsz (World.block_lt_of_cell? _ _ hx0)
      by_cases hk0 : k = 0
      · subst hk0
        have HP := Lib.hid (show prevU l 0 = none from rfl)
        obtain ⟨a, ha⟩ : ∃ a, l[0] = a := ⟨_, rfl⟩
        rw [ha] at hx hx0 hx1 hx2 hx3 HD hza
        have HX := Lib.hid hx
        clear ha hx
        rw [Nat.zero_mul, Nat.add_zero] at hx0 hx1 hx2 hx3
        cases hg : a.good
        all_goals
          have HAG := Lib.hid (show ∀ (w : World), UnAt B w a [.string a.name, .slice p1 a.incs.length c1, .slice p2 a.axs.length c2, .string a.goal] → Calls Tryz.prog 26 #[.agg #[.string a.name, .slice p1 a.incs.length c1, .slice p2 a.axs.length c2, .string a.goal]] w fun e w' => e = .returned (.bool _) ∧ Below w.heap.size w w' from fun w hx => hg ▸ implUnit_any a _ _ _ _ w hx hza)
          have HGG := Lib.hid hg
          clear hg
          go_wp2
          obtain ⟨W, hW⟩ : ∃ W : World, W = wr.alloc (.cells #[.string a.name, .slice p1 a.incs.length c1, .slice p2 a.axs.length c2, .string a.goal] 43) := ⟨_, rfl⟩
          have hbW : Below wr.heap.size wr W := by rw [hW]; exact (Below.refl _ _).alloc (Nat.le_refl _) _
          have hbw := Below.step hb hbW
          have hc0 : W.cell? ⟨wr.heap.size, 0, none⟩ = some (.string a.name) := by rw [hW]; go_simp
          have hc1 : W.cell? ⟨wr.heap.size, 1, none⟩ = some (.slice p1 a.incs.length c1) := by rw [hW]; go_simp
          have hc2 : W.cell? ⟨wr.heap.size, 2, none⟩ = some (.slice p2 a.axs.length c2) := by rw [hW]; go_simp
          have hc3 : W.cell? ⟨wr.heap.size, 3, none⟩ = some (.string a.goal) := by rw [hW]; go_simp
          have hy0 := (hbW.cell zb.1).trans hx0
          rw [← hW]
          clear hW
          obtain ⟨C, HC0⟩ := class_of (InF W.heap.size _ [(⟨wr.heap.size, 0, none⟩, .string a.name), (⟨wr.heap.size, 1, none⟩, .slice p1 a.incs.length c1), (⟨wr.heap.size, 2, none⟩, .slice p2 a.axs.length c2), (⟨wr.heap.size, 3, none⟩, .string a.goal), (⟨b, o, none⟩, .string a.name)] [] [])
          have HC := Lib.hid HC0
          clear HC0
          refine wp_region_flow (C := C) (by kernel_rfl) (by kernel_rfl) (fun L hL => (HC.out _ _).2 (InF.start (by first | (intro _ hs; cases hs; done) | (simp only [List.forall_mem_cons]; go_simp)) (by first | (intro _ hs; cases hs; done) | (simp only [List.forall_mem_cons]; go_simp)) (by first | (intro _ hs; cases hs; done) | (simp only [List.forall_mem_cons]; go_simp)) (by first | (intro _ hs; cases hs; done) | (simp only [List.forall_mem_cons]; go_simp)) L hL)) ?_
          repeat (first | (apply flow_free rfl; (intro L w' hun hrd hC; have hC := (HC.out _ _).1 hC; have hb' := hC.below; (try have hw' : Below w.heap.size w w' := by first | exact Below.trans (by (repeat (first | with_reducible exact Below.refl _ _ | with_reducible assumption | with_reducible refine Below.al ?_ _ | with_reducible refine Below.sc ?_ (by first | exact Nat.le_refl _ | (simp; done) | (simp; omega)) _ | assumption | exact Below.refl _ _ | refine Below.dr ?_ | refine Below.drN ?_ _ | refine Below.step ?_ (by assumption)))) hb' | ((repeat (first | with_reducible exact Below.refl _ _ | with_reducible assumption | with_reducible refine Below.al ?_ _ | with_reducible refine Below.sc ?_ (by first | exact Nat.le_refl _ | (simp; done) | (simp; omega)) _ | assumption | exact Below.refl _ _ | refine Below.dr ?_ | refine Below.drN ?_ _ | refine Below.step ?_ (by assumption))); done)); have hf' := hC.cell; (try simp only [List.forall_mem_cons] at hf'); go_simp; first | exact ⟨(HC.out _ _).2 (hC.skip _ (by rfl)), rfl⟩ | (rw [if_neg]; (exact ⟨(HC.out _ _).2 (hC.skip _ (by rfl)), rfl⟩); omega) | (go_at_call 26; refine (HAG.out _ (HX.out.below (Below.step hbW hb'))).mono ?_; rintro e w1 ⟨rfl, hb1⟩; exact ⟨rfl, (HC.out _ _).2 ((hC.next (by first | (simp; done) | (simp; omega) | omega) hb1).skip _ (by rfl))⟩)); go_simp) | (apply flow_yes; (case hw => go_simp); (intro L w' hun hrd hC; have hC := (HC.out _ _).1 hC; have hb' := hC.below; (try have hw' : Below w.heap.size w w' := by first | exact Below.trans (by (repeat (first | with_reducible exact Below.refl _ _ | with_reducible assumption | with_reducible refine Below.al ?_ _ | with_reducible refine Below.sc ?_ (by first | exact Nat.le_refl _ | (simp; done) | (simp; omega)) _ | assumption | exact Below.refl _ _ | refine Below.dr ?_ | refine Below.drN ?_ _ | refine Below.step ?_ (by assumption)))) hb' | ((repeat (first | with_reducible exact Below.refl _ _ | with_reducible assumption | with_reducible refine Below.al ?_ _ | with_reducible refine Below.sc ?_ (by first | exact Nat.le_refl _ | (simp; done) | (simp; omega)) _ | assumption | exact Below.refl _ _ | refine Below.dr ?_ | refine Below.drN ?_ _ | refine Below.step ?_ (by assumption))); done)); have hf' := hC.cell; (try simp only [List.forall_mem_cons] at hf'); go_simp; first | exact ⟨(HC.out _ _).2 (hC.skip _ (by rfl)), rfl⟩ | (rw [if_neg]; (exact ⟨(HC.out _ _).2 (hC.skip _ (by rfl)), rfl⟩); omega) | (go_at_call 26; refine (HAG.out _ (HX.out.below (Below.step hbW hb'))).mono ?_; rintro e w1 ⟨rfl, hb1⟩; exact ⟨rfl, (HC.out _ _).2 ((hC.next (by first | (simp; done) | (simp; omega) | omega) hb1).skip _ (by rfl))⟩)); go_simp) | (apply flow_no; (case hw => (go_simp; try (intro hh; cases hh))); (intro L w' _ _ hC; exact (HC.out _ _).2 (((HC.out _ _).1 hC).skip _ (by rfl))); go_simp))
          refine flow_nil ?_
          intro L wz hL hz
          have hz := (HC.out _ _).1 hz
          have hbz := hz.below
          have hcz := hz.cell
          try simp only [List.forall_mem_cons] at hcz
          have hdz := hz.done
          try simp only [List.forall_mem_cons] at hdz
          (try have hwz : Below w.heap.size w wz := by first | exact Below.trans (by (repeat (first | with_reducible exact Below.refl _ _ | with_reducible assumption | with_reducible refine Below.al ?_ _ | with_reducible refine Below.sc ?_ (by first | exact Nat.le_refl _ | (simp; done) | (simp; omega)) _ | assumption | exact Below.refl _ _ | refine Below.dr ?_ | refine Below.drN ?_ _ | refine Below.step ?_ (by assumption)))) hbz | ((repeat (first | with_reducible exact Below.refl _ _ | with_reducible assumption | with_reducible refine Below.al ?_ _ | with_reducible refine Below.sc ?_ (by first | exact Nat.le_refl _ | (simp; done) | (simp; omega)) _ | assumption | exact Below.refl _ _ | refine Below.dr ?_ | refine Below.drN ?_ _ | refine Below.step ?_ (by assumption))); done))
          go_wp2
        · go_ret
          exact ⟨ret_bool (by rw [HG.out, HE.out, HD.out, HGG.out]; rfl), by (repeat (first | with_reducible exact Below.refl _ _ | with_reducible assumption | with_reducible refine Below.al ?_ _ | with_reducible refine Below.sc ?_ (by first | exact Nat.le_refl _ | (simp; done) | (simp; omega)) _ | assumption | exact Below.refl _ _ | refine Below.dr ?_ | refine Below.drN ?_ _ | refine Below.step ?_ (by assumption)))⟩
        · refine ⟨⟨1, by omega, by go_num, ?_, Below.step hbw hbz⟩, by simp [intOf]; omega⟩
          rw [HE.out, HD.out, HGG.out, HP.out]; rfl
      · have hk1 : k - 1 < l.length := by omega
        obtain ⟨b', o', hq, hB', r1, d1, r2, d2, hz0, -, -, -, -⟩ := (H.out.below hb).at_ hk1
        simp only [Option.some.injEq, Addr.mk.injEq, and_true] at hq
        obtain ⟨rfl, rfl⟩ := hq
        have HP := Lib.hid (prevU_pos hlt (by omega))
        obtain ⟨a, ha⟩ : ∃ a, l[k] = a := ⟨_, rfl⟩
        obtain ⟨q, hqe⟩ : ∃ q, l[k - 1] = q := ⟨_, rfl⟩
        rw [ha] at hx hx0 hx1 hx2 hx3 HD hza
        rw [hqe] at hz0 HP
        have HX := Lib.hid hx
        clear ha hqe hx
        have hki : IntKind.i64.wrap ((k : Int) - 1) = ((k - 1 : Nat) : Int) := by rw [IntWalk.i64_in _ (by omega)]; omega
        have hkp : (0 : Int) < (k : Int) := by omega
        have hkn : 0 < k := by omega
        have hkj : ((k - 1 : Nat) : Int) < l.length := by omega
        have HL0 := Lib.hid (show lessB q.name a.name = !(Op.bytesLess a.name.toList q.name.toList || a.name.toList == q.name.toList) by rw [lessB, less_total, ByteArray.toList_eq, ByteArray.toList_eq])
        cases hg : a.good <;> cases hA : Op.bytesLess a.name.toList q.name.toList <;> cases hQ : (a.name.toList == q.name.toList)
        all_goals
          have HAG := Lib.hid (show ∀ (w : World), UnAt B w a [.string a.name, .slice p1 a.incs.length c1, .slice p2 a.axs.length c2, .string a.goal] → Calls Tryz.prog 26 #[.agg #[.string a.name, .slice p1 a.incs.length c1, .slice p2 a.axs.length c2, .string a.goal]] w fun e w' => e = .returned (.bool _) ∧ Below w.heap.size w w' from fun w hx => hg ▸ implUnit_any a _ _ _ _ w hx hza)
          have HGG := Lib.hid hg
          have HLS := Lib.hid (HL0.out.trans (by rw [hA, hQ]))
          clear hg
          go_wp2
          obtain ⟨W, hW⟩ : ∃ W : World, W = wr.alloc (.cells #[.string a.name, .slice p1 a.incs.length c1, .slice p2 a.axs.length c2, .string a.goal] 43) := ⟨_, rfl⟩
          have hbW : Below wr.heap.size wr W := by rw [hW]; exact (Below.refl _ _).alloc (Nat.le_refl _) _
          have hbw := Below.step hb hbW
          have hc0 : W.cell? ⟨wr.heap.size, 0, none⟩ = some (.string a.name) := by rw [hW]; go_simp
          have hc1 : W.cell? ⟨wr.heap.size, 1, none⟩ = some (.slice p1 a.incs.length c1) := by rw [hW]; go_simp
          have hc2 : W.cell? ⟨wr.heap.size, 2, none⟩ = some (.slice p2 a.axs.length c2) := by rw [hW]; go_simp
          have hc3 : W.cell? ⟨wr.heap.size, 3, none⟩ = some (.string a.goal) := by rw [hW]; go_simp
          have hy0 := (hbW.cell zb.1).trans hx0
          have hz1 := (hbW.cell zb.1).trans hz0
          rw [← hW]
          clear hW
          obtain ⟨C, HC0⟩ := class_of (InF W.heap.size _ [(⟨wr.heap.size, 0, none⟩, .string a.name), (⟨wr.heap.size, 1, none⟩, .slice p1 a.incs.length c1), (⟨wr.heap.size, 2, none⟩, .slice p2 a.axs.length c2), (⟨wr.heap.size, 3, none⟩, .string a.goal), (⟨b, o + k * 4, none⟩, .string a.name), (⟨b, o + (k - 1) * 4, none⟩, .string q.name)] [] [])
          have HC := Lib.hid HC0
          clear HC0
          refine wp_region_flow (C := C) (by kernel_rfl) (by kernel_rfl) (fun L hL => (HC.out _ _).2 (InF.start (by first | (intro _ hs; cases hs; done) | (simp only [List.forall_mem_cons]; go_simp)) (by first | (intro _ hs; cases hs; done) | (simp only [List.forall_mem_cons]; go_simp)) (by first | (intro _ hs; cases hs; done) | (simp only [List.forall_mem_cons]; go_simp)) (by first | (intro _ hs; cases hs; done) | (simp only [List.forall_mem_cons]; go_simp)) L hL)) ?_
          repeat (first | (apply flow_free rfl; (intro L w' hun hrd hC; have hC := (HC.out _ _).1 hC; have hb' := hC.below; (try have hw' : Below w.heap.size w w' := by first | exact Below.trans (by (repeat (first | with_reducible exact Below.refl _ _ | with_reducible assumption | with_reducible refine Below.al ?_ _ | with_reducible refine Below.sc ?_ (by first | exact Nat.le_refl _ | (simp; done) | (simp; omega)) _ | assumption | exact Below.refl _ _ | refine Below.dr ?_ | refine Below.drN ?_ _ | refine Below.step ?_ (by assumption)))) hb' | ((repeat (first | with_reducible exact Below.refl _ _ | with_reducible assumption | with_reducible refine Below.al ?_ _ | with_reducible refine Below.sc ?_ (by first | exact Nat.le_refl _ | (simp; done) | (simp; omega)) _ | assumption | exact Below.refl _ _ | refine Below.dr ?_ | refine Below.drN ?_ _ | refine Below.step ?_ (by assumption))); done)); have hf' := hC.cell; (try simp only [List.forall_mem_cons] at hf'); go_simp; first | exact ⟨(HC.out _ _).2 (hC.skip _ (by rfl)), rfl⟩ | (rw [if_neg]; (exact ⟨(HC.out _ _).2 (hC.skip _ (by rfl)), rfl⟩); omega) | (go_at_call 26; refine (HAG.out _ (HX.out.below (Below.step hbW hb'))).mono ?_; rintro e w1 ⟨rfl, hb1⟩; exact ⟨rfl, (HC.out _ _).2 ((hC.next (by first | (simp; done) | (simp; omega) | omega) hb1).skip _ (by rfl))⟩)); go_simp) | (apply flow_yes; (case hw => go_simp); (intro L w' hun hrd hC; have hC := (HC.out _ _).1 hC; have hb' := hC.below; (try have hw' : Below w.heap.size w w' := by first | exact Below.trans (by (repeat (first | with_reducible exact Below.refl _ _ | with_reducible assumption | with_reducible refine Below.al ?_ _ | with_reducible refine Below.sc ?_ (by first | exact Nat.le_refl _ | (simp; done) | (simp; omega)) _ | assumption | exact Below.refl _ _ | refine Below.dr ?_ | refine Below.drN ?_ _ | refine Below.step ?_ (by assumption)))) hb' | ((repeat (first | with_reducible exact Below.refl _ _ | with_reducible assumption | with_reducible refine Below.al ?_ _ | with_reducible refine Below.sc ?_ (by first | exact Nat.le_refl _ | (simp; done) | (simp; omega)) _ | assumption | exact Below.refl _ _ | refine Below.dr ?_ | refine Below.drN ?_ _ | refine Below.step ?_ (by assumption))); done)); have hf' := hC.cell; (try simp only [List.forall_mem_cons] at hf'); go_simp; first | exact ⟨(HC.out _ _).2 (hC.skip _ (by rfl)), rfl⟩ | (rw [if_neg]; (exact ⟨(HC.out _ _).2 (hC.skip _ (by rfl)), rfl⟩); omega) | (go_at_call 26; refine (HAG.out _ (HX.out.below (Below.step hbW hb'))).mono ?_; rintro e w1 ⟨rfl, hb1⟩; exact ⟨rfl, (HC.out _ _).2 ((hC.next (by first | (simp; done) | (simp; omega) | omega) hb1).skip _ (by rfl))⟩)); go_simp) | (apply flow_no; (case hw => (go_simp; try (intro hh; cases hh))); (intro L w' _ _ hC; exact (HC.out _ _).2 (((HC.out _ _).1 hC).skip _ (by rfl))); go_simp))
          refine flow_nil ?_
          intro L wz hL hz
          have hz := (HC.out _ _).1 hz
          have hbz := hz.below
          have hcz := hz.cell
          try simp only [List.forall_mem_cons] at hcz
          have hdz := hz.done
          try simp only [List.forall_mem_cons] at hdz
          (try have hwz : Below w.heap.size w wz := by first | exact Below.trans (by (repeat (first | with_reducible exact Below.refl _ _ | with_reducible assumption | with_reducible refine Below.al ?_ _ | with_reducible refine Below.sc ?_ (by first | exact Nat.le_refl _ | (simp; done) | (simp; omega)) _ | assumption | exact Below.refl _ _ | refine Below.dr ?_ | refine Below.drN ?_ _ | refine Below.step ?_ (by assumption)))) hbz | ((repeat (first | with_reducible exact Below.refl _ _ | with_reducible assumption | with_reducible refine Below.al ?_ _ | with_reducible refine Below.sc ?_ (by first | exact Nat.le_refl _ | (simp; done) | (simp; omega)) _ | assumption | exact Below.refl _ _ | refine Below.dr ?_ | refine Below.drN ?_ _ | refine Below.step ?_ (by assumption))); done))
          go_wp2
        all_goals first
          | (refine ⟨⟨k + 1, by omega, by go_num, ?_, Below.step hbw hbz⟩, by simp [intOf]; omega⟩; rw [HE.out, HD.out, HGG.out, HP.out, ascS, HLS.out]; rfl)
          | (go_ret; exact ⟨ret_bool (by rw [HG.out, HE.out, HD.out, HGG.out, HP.out, ascS, HLS.out]; rfl), by (repeat (first | with_reducible exact Below.refl _ _ | with_reducible assumption | with_reducible refine Below.al ?_ _ | with_reducible refine Below.sc ?_ (by first | exact Nat.le_refl _ | (simp; done) | (simp; omega)) _ | assumption | exact Below.refl _ _ | refine Below.dr ?_ | refine Below.drN ?_ _ | refine Below.step ?_ (by assumption)))⟩)
    · obtain rfl : k = l.length := by omega
      rw [List.drop_length] at HE
      have HU := Lib.hid (show unitsF none l = true from HE.out)
      have HOA := Lib.hid (fun w' => order_any (B := B) l (.slice p l.length c) w' )
      go_wp2_with fail
      refine (HOA.out _ (H.out.below (by (repeat (first | with_reducible exact Below.refl _ _ | with_reducible assumption | with_reducible refine Below.al ?_ _ | with_reducible refine Below.sc ?_ (by first | exact Nat.le_refl _ | (simp; done) | (simp; omega)) _ | assumption | exact Below.refl _ _ | refine Below.dr ?_ | refine Below.drN ?_ _ | refine Below.step ?_ (by assumption))))) (by omega)).mono ?_
      rintro e w1 ⟨hb1, hp⟩
      by_cases hle : (ordL l).length = l.length
      · rw [if_pos hle] at hp
        obtain ⟨v, rfl, hv⟩ := hp
        obtain ⟨pv, cv, rfl, -⟩ := OwnRow.form hv
        clear hv
        have HG2 := Lib.hid (show libGood l = decide (l.length ≤ 12) by rw [HG.out, HU.out, decide_eq_true hle]; simp)
        have h12 : ((l.length : Int) ≤ 12) = (l.length ≤ 12) := by apply propext; omega
        go_wp2
        go_ret
        exact ⟨ret_bool (by rw [HG2.out]), by (repeat (first | with_reducible exact Below.refl _ _ | with_reducible assumption | with_reducible refine Below.al ?_ _ | with_reducible refine Below.sc ?_ (by first | exact Nat.le_refl _ | (simp; done) | (simp; omega)) _ | assumption | exact Below.refl _ _ | refine Below.dr ?_ | refine Below.drN ?_ _ | refine Below.step ?_ (by assumption)))⟩
      · rw [if_neg hle] at hp
        subst hp
        have HG2 := Lib.hid (show libGood l = false by rw [HG.out, HU.out, decide_eq_false hle]; simp)
        go_wp2
        go_ret
        exact ⟨ret_bool (by rw [HG2.out]), by (repeat (first | with_reducible exact Below.refl _ _ | with_reducible assumption | with_reducible refine Below.al ?_ _ | with_reducible refine Below.sc ?_ (by first | exact Nat.le_refl _ | (simp; done) | (simp; omega)) _ | assumption | exact Below.refl _ _ | refine Below.dr ?_ | refine Below.drN ?_ _ | refine Below.step ?_ (by assumption)))⟩
end Go.Proofs.YtimpkjiglioflaaGreat
namespace Go.Proofs.YtimpkjiglioflaaGreat
open Go.RowKit
theorem good_name {u : Un} (h : u.good = true) : (u.name.toList == []) = false := by
  unfold Un.good at h
  simp only [Bool.and_eq_true] at h
  have h1 := h.1.1.1.1.1
  rw [ByteArray.toList_eq]
  cases he : u.name.data.toList with
  | nil => rw [he] at h1; simp [symB] at h1
  | cons a l => rfl
theorem libGood_eq (l : List Un) : libGood l = (decide (l.length ≤ 12) && (unitsF none l && decide ((ordL l).length = l.length))) := by
  rw [libGood]; cases unitsF none l <;> cases decide (l.length ≤ 12) <;> cases decide ((ordL l).length = l.length) <;> rfl
set_option maxRecDepth 100000 in
set_option maxHeartbeats 6400000 in
theorem specLib_any {B : Nat → Prop} (l : List Un) (va : Value) (w : World) (h : UnsAt B w va l) (hw : l.length + wtU l ≤ 1048576) :
    Calls Tryz.prog 24 #[va] w fun e w' => e = .returned (.bool (libGood l)) ∧ Below w.heap.size w w' := by
  obtain ⟨p, c, rfl, hlen⟩ := h.form
  unfold maxLen at hlen
  have H := Lib.hid h
  have HG := Lib.hid (libGood_eq l)
  have HZ := Lib.hid (fun u hu => Nat.le_trans (wtU_le l u hu) (show wtU l ≤ 1000000000000 by omega))
  clear h
  by_cases h12 : l.length ≤ 12
  case neg =>
    go_enter Tryz.func24, Tryz.ntmps24
    have hj : (12 : Int) < l.length := by omega
    go_wp2
    go_ret
    exact ⟨ret_bool (by rw [HG.out, decide_eq_false h12]; rfl), by (repeat (first | with_reducible exact Below.refl _ _ | with_reducible assumption | with_reducible refine Below.al ?_ _ | with_reducible refine Below.sc ?_ (by first | exact Nat.le_refl _ | (simp; done) | (simp; omega)) _ | assumption | exact Below.refl _ _ | refine Below.dr ?_ | refine Below.drN ?_ _ | refine Below.step ?_ (by assumption)))⟩
  have hj : ¬ (12 : Int) < l.length := by omega
  have HG2 := Lib.hid (show libGood l = (unitsF none l && decide ((ordL l).length = l.length)) by rw [HG.out, decide_eq_true h12, Bool.true_and])
  go_enter Tryz.func24, Tryz.ntmps24
  go_wp2
  go_loopw [3] (fun i wr => ∃ k : Nat, k ≤ l.length ∧ i = .int .i64 k ∧ unitsF none l = unitsF (prevU l k) (l.drop k) ∧ Below w.heap.size w wr) (fun i _ => l.length - (intOf i).toNat)
  case atStart => exact ⟨0, Nat.zero_le _, rfl, rfl, by (repeat (first | with_reducible exact Below.refl _ _ | with_reducible assumption | with_reducible refine Below.al ?_ _ | with_reducible refine Below.sc ?_ (by first | exact Nat.le_refl _ | (simp; done) | (simp; omega)) _ | assumption | exact Below.refl _ _ | refine Below.dr ?_ | refine Below.drN ?_ _ | refine Below.step ?_ (by assumption)))⟩
  case round =>
    obtain ⟨k, hk, rfl, he, hb⟩ := hrel
    have HE := Lib.hid he
    clear he
    by_cases hlt : k < l.length
    · obtain ⟨b, o, rfl, hB, p1, c1, p2, c2, hx0, hx1, hx2, hx3, hx⟩ := (H.out.below hb).at_ hlt
      have HD := Lib.hid (unitsF_drop hlt)
      have hza := HZ.out _ (List.getElem_mem hlt)
      have zb := bsz (World.block_lt_of_cell? _ _ hx0)
      by_cases hk0 : k = 0
      · subst hk0
        have HP := Lib.hid (show prevU l 0 = none from rfl)
        obtain ⟨a, ha⟩ : ∃ a, l[0] = a := ⟨_, rfl⟩
        rw [ha] at hx hx0 hx1 hx2 hx3 HD hza
        have HX := Lib.hid hx
        clear ha hx
        rw [Nat.zero_mul, Nat.add_zero] at hx0 hx1 hx2 hx3
        cases hg : a.good
        all_goals
          have HAG := Lib.hid (show ∀ (w : World), UnAt B w a [.string a.name, .slice p1 a.incs.length c1, .slice p2 a.axs.length c2, .string a.goal] → Calls Tryz.prog 47 #[.agg #[.string a.name, .slice p1 a.incs.length c1, .slice p2 a.axs.length c2, .string a.goal]] w fun e w' => e = .returned (.bool _) ∧ Below w.heap.size w w' from fun w hx => hg ▸ l27Unit_any a _ _ _ _ w hx hza)
          have HGG := Lib.hid hg
          clear hg
          go_wp2
          obtain ⟨C, HC0⟩ := class_of (InF wr.heap.size _ [(⟨b, o, none⟩, .string a.name), (⟨b, o + 1, none⟩, .slice p1 a.incs.length c1), (⟨b, o + 2, none⟩, .slice p2 a.axs.length c2), (⟨b, o + 3, none⟩, .string a.goal)] [] [])
          have HC := Lib.hid HC0
          clear HC0
          refine wp_region_flow (C := C) (by kernel_rfl) (by kernel_rfl) (fun L hL => (HC.out _ _).2 (InF.start (by first | (intro _ hs; cases hs; done) | (simp only [List.forall_mem_cons]; go_simp)) (by first | (intro _ hs; cases hs; done) | (simp only [List.forall_mem_cons]; go_simp)) (by first | (intro _ hs; cases hs; done) | (simp only [List.forall_mem_cons]; go_simp)) (by first | (intro _ hs; cases hs; done) | (simp only [List.forall_mem_cons]; go_simp)) L hL)) ?_
          repeat (first | (apply flow_free rfl; (intro L w' hun hrd hC; have hC := (HC.out _ _).1 hC; have hb' := hC.below; (try have hw' : Below w.heap.size w w' := by first | exact Below.trans (by (repeat (first | with_reducible exact Below.refl _ _ | with_reducible assumption | with_reducible refine Below.al ?_ _ | with_reducible refine Below.sc ?_ (by first | exact Nat.le_refl _ | (simp; done) | (simp; omega)) _ | assumption | exact Below.refl _ _ | refine Below.dr ?_ | refine Below.drN ?_ _ | refine Below.step ?_ (by assumption)))) hb' | ((repeat (first | with_reducible exact Below.refl _ _ | with_reducible assumption | with_reducible refine Below.al ?_ _ | with_reducible refine Below.sc ?_ (by first | exact Nat.le_refl _ | (simp; done) | (simp; omega)) _ | assumption | exact Below.refl _ _ | refine Below.dr ?_ | refine Below.drN ?_ _ | refine Below.step ?_ (by assumption))); done)); have hf' := hC.cell; (try simp only [List.forall_mem_cons] at hf'); go_simp; first | exact ⟨(HC.out _ _).2 (hC.skip _ (by rfl)), rfl⟩ | (rw [if_neg]; (exact ⟨(HC.out _ _).2 (hC.skip _ (by rfl)), rfl⟩); omega) | (go_at_call 47; refine (HAG.out _ (HX.out.below hb')).mono ?_; rintro e w1 ⟨rfl, hb1⟩; exact ⟨rfl, (HC.out _ _).2 ((hC.next (by first | (simp; done) | (simp; omega) | omega) hb1).skip _ (by rfl))⟩)); go_simp) | (apply flow_yes; (case hw => go_simp); (intro L w' hun hrd hC; have hC := (HC.out _ _).1 hC; have hb' := hC.below; (try have hw' : Below w.heap.size w w' := by first | exact Below.trans (by (repeat (first | with_reducible exact Below.refl _ _ | with_reducible assumption | with_reducible refine Below.al ?_ _ | with_reducible refine Below.sc ?_ (by first | exact Nat.le_refl _ | (simp; done) | (simp; omega)) _ | assumption | exact Below.refl _ _ | refine Below.dr ?_ | refine Below.drN ?_ _ | refine Below.step ?_ (by assumption)))) hb' | ((repeat (first | with_reducible exact Below.refl _ _ | with_reducible assumption | with_reducible refine Below.al ?_ _ | with_reducible refine Below.sc ?_ (by first | exact Nat.le_refl _ | (simp; done) | (simp; omega)) _ | assumption | exact Below.refl _ _ | refine Below.dr ?_ | refine Below.drN ?_ _ | refine Below.step ?_ (by assumption))); done)); have hf' := hC.cell; (try simp only [List.forall_mem_cons] at hf'); go_simp; first | exact ⟨(HC.out _ _).2 (hC.skip _ (by rfl)), rfl⟩ | (rw [if_neg]; (exact ⟨(HC.out _ _).2 (hC.skip _ (by rfl)), rfl⟩); omega) | (go_at_call 47; refine (HAG.out _ (HX.out.below hb')).mono ?_; rintro e w1 ⟨rfl, hb1⟩; exact ⟨rfl, (HC.out _ _).2 ((hC.next (by first | (simp; done) | (simp; omega) | omega) hb1).skip _ (by rfl))⟩)); go_simp) | (apply flow_no; (case hw => (go_simp; try (intro hh; cases hh))); (intro L w' _ _ hC; exact (HC.out _ _).2 (((HC.out _ _).1 hC).skip _ (by rfl))); go_simp))
          refine flow_nil ?_
          intro L wz hL hz
          have hz := (HC.out _ _).1 hz
          have hbz := hz.below
          have hcz := hz.cell
          try simp only [List.forall_mem_cons] at hcz
          have hdz := hz.done
          try simp only [List.forall_mem_cons] at hdz
          (try have hwz : Below w.heap.size w wz := by first | exact Below.trans (by (repeat (first | with_reducible exact Below.refl _ _ | with_reducible assumption | with_reducible refine Below.al ?_ _ | with_reducible refine Below.sc ?_ (by first | exact Nat.le_refl _ | (simp; done) | (simp; omega)) _ | assumption | exact Below.refl _ _ | refine Below.dr ?_ | refine Below.drN ?_ _ | refine Below.step ?_ (by assumption)))) hbz | ((repeat (first | with_reducible exact Below.refl _ _ | with_reducible assumption | with_reducible refine Below.al ?_ _ | with_reducible refine Below.sc ?_ (by first | exact Nat.le_refl _ | (simp; done) | (simp; omega)) _ | assumption | exact Below.refl _ _ | refine Below.dr ?_ | refine Below.drN ?_ _ | refine Below.step ?_ (by assumption))); done))
          go_wp2
        · go_ret
          exact ⟨ret_bool (by rw [HG2.out, HE.out, HD.out, HGG.out]; rfl), by (repeat (first | with_reducible exact Below.refl _ _ | with_reducible assumption | with_reducible refine Below.al ?_ _ | with_reducible refine Below.sc ?_ (by first | exact Nat.le_refl _ | (simp; done) | (simp; omega)) _ | assumption | exact Below.refl _ _ | refine Below.dr ?_ | refine Below.drN ?_ _ | refine Below.step ?_ (by assumption)))⟩
        · refine ⟨⟨1, by omega, by go_num, ?_, Below.step hb hbz⟩, by simp [intOf]; omega⟩
          rw [HE.out, HD.out, HGG.out, HP.out]; rfl
      · have hk1 : k - 1 < l.length := by omega
        obtain ⟨b', o', hq, hB', r1, d1, r2, d2, hz0, -, -, -, -⟩ := (H.out.below hb).at_ hk1
        simp only [Option.some.injEq, Addr.mk.injEq, and_true] at hq
        obtain ⟨rfl, rfl⟩ := hq
        have HP := Lib.hid (prevU_pos hlt (by omega))
        obtain ⟨a, ha⟩ : ∃ a, l[k] = a := ⟨_, rfl⟩
        obtain ⟨q, hqe⟩ : ∃ q, l[k - 1] = q := ⟨_, rfl⟩
        rw [ha] at hx hx0 hx1 hx2 hx3 HD hza
        rw [hqe] at hz0 HP
        have HX := Lib.hid hx
        clear ha hqe hx
        have hki : IntKind.i64.wrap ((k : Int) - 1) = ((k - 1 : Nat) : Int) := by rw [IntWalk.i64_in _ (by omega)]; omega
        have hkp : (0 : Int) < (k : Int) := by omega
        have hkn : 0 < k := by omega
        have hkj : ((k - 1 : Nat) : Int) < l.length := by omega
        have HL0 := Lib.hid (show lessB q.name a.name = Op.bytesLess q.name.toList a.name.toList by rw [lessB, ByteArray.toList_eq, ByteArray.toList_eq])
        cases hg : a.good <;> cases hA : Op.bytesLess q.name.toList a.name.toList
        all_goals
          have HAG := Lib.hid (show ∀ (w : World), UnAt B w a [.string a.name, .slice p1 a.incs.length c1, .slice p2 a.axs.length c2, .string a.goal] → Calls Tryz.prog 47 #[.agg #[.string a.name, .slice p1 a.incs.length c1, .slice p2 a.axs.length c2, .string a.goal]] w fun e w' => e = .returned (.bool _) ∧ Below w.heap.size w w' from fun w hx => hg ▸ l27Unit_any a _ _ _ _ w hx hza)
          have HGG := Lib.hid hg
          have HLS := Lib.hid (HL0.out.trans hA)
          clear hg
          go_wp2
          obtain ⟨C, HC0⟩ := class_of (InF wr.heap.size _ [(⟨b, o + k * 4, none⟩, .string a.name), (⟨b, o + k * 4 + 1, none⟩, .slice p1 a.incs.length c1), (⟨b, o + k * 4 + 2, none⟩, .slice p2 a.axs.length c2), (⟨b, o + k * 4 + 3, none⟩, .string a.goal), (⟨b, o + (k - 1) * 4, none⟩, .string q.name)] [] [])
          have HC := Lib.hid HC0
          clear HC0
          refine wp_region_flow (C := C) (by kernel_rfl) (by kernel_rfl) (fun L hL => (HC.out _ _).2 (InF.start (by first | (intro _ hs; cases hs; done) | (simp only [List.forall_mem_cons]; go_simp)) (by first | (intro _ hs; cases hs; done) | (simp only [List.forall_mem_cons]; go_simp)) (by first | (intro _ hs; cases hs; done) | (simp only [List.forall_mem_cons]; go_simp)) (by first | (intro _ hs; cases hs; done) | (simp only [List.forall_mem_cons]; go_simp)) L hL)) ?_
          repeat (first | (apply flow_free rfl; (intro L w' hun hrd hC; have hC := (HC.out _ _).1 hC; have hb' := hC.below; (try have hw' : Below w.heap.size w w' := by first | exact Below.trans (by (repeat (first | with_reducible exact Below.refl _ _ | with_reducible assumption | with_reducible refine Below.al ?_ _ | with_reducible refine Below.sc ?_ (by first | exact Nat.le_refl _ | (simp; done) | (simp; omega)) _ | assumption | exact Below.refl _ _ | refine Below.dr ?_ | refine Below.drN ?_ _ | refine Below.step ?_ (by assumption)))) hb' | ((repeat (first | with_reducible exact Below.refl _ _ | with_reducible assumption | with_reducible refine Below.al ?_ _ | with_reducible refine Below.sc ?_ (by first | exact Nat.le_refl _ | (simp; done) | (simp; omega)) _ | assumption | exact Below.refl _ _ | refine Below.dr ?_ | refine Below.drN ?_ _ | refine Below.step ?_ (by assumption))); done)); have hf' := hC.cell; (try simp only [List.forall_mem_cons] at hf'); go_simp; first | exact ⟨(HC.out _ _).2 (hC.skip _ (by rfl)), rfl⟩ | (rw [if_neg]; (exact ⟨(HC.out _ _).2 (hC.skip _ (by rfl)), rfl⟩); omega) | (go_at_call 47; refine (HAG.out _ (HX.out.below hb')).mono ?_; rintro e w1 ⟨rfl, hb1⟩; exact ⟨rfl, (HC.out _ _).2 ((hC.next (by first | (simp; done) | (simp; omega) | omega) hb1).skip _ (by rfl))⟩)); go_simp) | (apply flow_yes; (case hw => go_simp); (intro L w' hun hrd hC; have hC := (HC.out _ _).1 hC; have hb' := hC.below; (try have hw' : Below w.heap.size w w' := by first | exact Below.trans (by (repeat (first | with_reducible exact Below.refl _ _ | with_reducible assumption | with_reducible refine Below.al ?_ _ | with_reducible refine Below.sc ?_ (by first | exact Nat.le_refl _ | (simp; done) | (simp; omega)) _ | assumption | exact Below.refl _ _ | refine Below.dr ?_ | refine Below.drN ?_ _ | refine Below.step ?_ (by assumption)))) hb' | ((repeat (first | with_reducible exact Below.refl _ _ | with_reducible assumption | with_reducible refine Below.al ?_ _ | with_reducible refine Below.sc ?_ (by first | exact Nat.le_refl _ | (simp; done) | (simp; omega)) _ | assumption | exact Below.refl _ _ | refine Below.dr ?_ | refine Below.drN ?_ _ | refine Below.step ?_ (by assumption))); done)); have hf' := hC.cell; (try simp only [List.forall_mem_cons] at hf'); go_simp; first | exact ⟨(HC.out _ _).2 (hC.skip _ (by rfl)), rfl⟩ | (rw [if_neg]; (exact ⟨(HC.out _ _).2 (hC.skip _ (by rfl)), rfl⟩); omega) | (go_at_call 47; refine (HAG.out _ (HX.out.below hb')).mono ?_; rintro e w1 ⟨rfl, hb1⟩; exact ⟨rfl, (HC.out _ _).2 ((hC.next (by first | (simp; done) | (simp; omega) | omega) hb1).skip _ (by rfl))⟩)); go_simp) | (apply flow_no; (case hw => (go_simp; try (intro hh; cases hh))); (intro L w' _ _ hC; exact (HC.out _ _).2 (((HC.out _ _).1 hC).skip _ (by rfl))); go_simp))
          refine flow_nil ?_
          intro L wz hL hz
          have hz := (HC.out _ _).1 hz
          have hbz := hz.below
          have hcz := hz.cell
          try simp only [List.forall_mem_cons] at hcz
          have hdz := hz.done
          try simp only [List.forall_mem_cons] at hdz
          (try have hwz : Below w.heap.size w wz := by first | exact Below.trans (by (repeat (first | with_reducible exact Below.refl _ _ | with_reducible assumption | with_reducible refine Below.al ?_ _ | with_reducible refine Below.sc ?_ (by first | exact Nat.le_refl _ | (simp; done) | (simp; omega)) _ | assumption | exact Below.refl _ _ | refine Below.dr ?_ | refine Below.drN ?_ _ | refine Below.step ?_ (by assumption)))) hbz | ((repeat (first | with_reducible exact Below.refl _ _ | with_reducible assumption | with_reducible refine Below.al ?_ _ | with_reducible refine Below.sc ?_ (by first | exact Nat.le_refl _ | (simp; done) | (simp; omega)) _ | assumption | exact Below.refl _ _ | refine Below.dr ?_ | refine Below.drN ?_ _ | refine Below.step ?_ (by assumption))); done))
          go_wp2
        all_goals first
          | (refine ⟨⟨k + 1, by omega, by go_num, ?_, Below.step hb hbz⟩, by simp [intOf]; omega⟩; rw [HE.out, HD.out, HGG.out, HP.out, ascS, HLS.out]; rfl)
          | (go_ret; exact ⟨ret_bool (by rw [HG2.out, HE.out, HD.out, HGG.out, HP.out, ascS, HLS.out]; rfl), by (repeat (first | with_reducible exact Below.refl _ _ | with_reducible assumption | with_reducible refine Below.al ?_ _ | with_reducible refine Below.sc ?_ (by first | exact Nat.le_refl _ | (simp; done) | (simp; omega)) _ | assumption | exact Below.refl _ _ | refine Below.dr ?_ | refine Below.drN ?_ _ | refine Below.step ?_ (by assumption)))⟩)
    · obtain rfl : k = l.length := by omega
      rw [List.drop_length] at HE
      have HU := Lib.hid (show unitsF none l = true from HE.out)
      have HOA := Lib.hid (fun w' hat => l27Order_any (B := B) l (.slice p l.length c) w' hat (by omega) (fun u hu => good_name (unitsF_good l none HU.out u hu)))
      go_wp2_with fail
      refine (HOA.out _ (H.out.below (by (repeat (first | with_reducible exact Below.refl _ _ | with_reducible assumption | with_reducible refine Below.al ?_ _ | with_reducible refine Below.sc ?_ (by first | exact Nat.le_refl _ | (simp; done) | (simp; omega)) _ | assumption | exact Below.refl _ _ | refine Below.dr ?_ | refine Below.drN ?_ _ | refine Below.step ?_ (by assumption)))))).mono ?_
      rintro e w1 ⟨v, rfl, hv, -, hb1⟩
      obtain ⟨pv, cv, rfl⟩ : ∃ p c, v = .slice p (ordL l).length c := by
        rcases hv.2 with ⟨rfl, h0⟩ | ⟨g, cap, cur, rfl, _⟩
        · exact ⟨none, 0, by rw [h0]⟩
        · exact ⟨_, _, rfl⟩
      clear hv
      have HG3 := Lib.hid (show libGood l = decide ((ordL l).length = l.length) by rw [HG2.out, HU.out, Bool.true_and])
      have hii : (((ordL l).length : Int) = (l.length : Int)) = ((ordL l).length = l.length) := by apply propext; omega
      go_wp2
      go_ret
      refine ⟨ret_bool ?_, by (repeat (first | with_reducible exact Below.refl _ _ | with_reducible assumption | with_reducible refine Below.al ?_ _ | with_reducible refine Below.sc ?_ (by first | exact Nat.le_refl _ | (simp; done) | (simp; omega)) _ | assumption | exact Below.refl _ _ | refine Below.dr ?_ | refine Below.drN ?_ _ | refine Below.step ?_ (by assumption)))⟩
      rw [HG3.out, Bool.eq_iff_iff, decide_eq_true_iff, beq_iff_eq]
      omega
end Go.Proofs.YtimpkjiglioflaaGreat
namespace Go.Proofs.YtimpkjiglioflaaGreat
open Go.RowKit
theorem StrOwn.kept {e : TypeId} {S K : Nat → Prop} {w w' : World} {us : List ByteArray} {v : Value} (h : StrOwn e S w us v) (hk : Kept K w w') (hd : ∀ b, S b → ¬ K b) : StrOwn e S w' us v := h.mono (fun b hb hlt => hk.block b hlt (hd b hb)) (fun _ h => h)
def MarkURel (S : Nat → Prop) (us : List Un) (v : Value) (k : Nat) (w : World) (kv i : Value) (wr : World) : Prop :=
  ∃ j : Nat, i = .int .i64 (j : Nat) ∧ kv = .int .i64 ((k + ctU (us.take j) : Nat) : Int) ∧ j ≤ us.length ∧ UnsOwn 9 43 S wr (mksU k (us.take j) ++ us.drop j) v ∧ Kept S w wr
set_option maxRecDepth 100000 in
set_option maxHeartbeats 3200000 in
theorem markUnitS_any (S : Nat → Prop) (us : List Un) (v : Value) (k : Nat) (w : World) (h : UnsOwn 9 43 S w us v) (hk : 0 < k) (hb : k + ctU us ≤ 100000000) :
  Calls Tryz.prog 15 #[v, .int .i64 (k : Nat)] w fun e w' => e = .returned (.int .i64 ((k + ctU us : Nat) : Int)) ∧ UnsOwn 9 43 S w' (mksU k us) v ∧ Kept S w w' := by
  obtain ⟨p, c, rfl, hlen⟩ := OwnRow.form h
  unfold maxLen at hlen
  have H := Lib.hid h
  clear h
  go_enter Tryz.func15, Tryz.ntmps15
  go_wp2
  go_loopw [1, 5] (MarkURel S us (.slice p us.length c) k w) (fun _ i _ => us.length - (intOf i).toNat)
  case atStart => exact ⟨0, rfl, rfl, Nat.zero_le _, H.out, Kept.refl _ _⟩
  case round =>
    obtain ⟨j, rfl, rfl, hju, hrow, hkp⟩ := hrel
    have HKP := Lib.hid hkp
    clear hkp
    have hlj : (mksU k (us.take j)).length = j := by rw [mksU_len, List.length_take]; omega
    by_cases hlt : j < us.length
    · have hx : (mksU k (us.take j) ++ us.drop j)[j]? = some us[j] := by rw [List.getElem?_append_right (by omega), hlj, Nat.sub_self, List.getElem?_drop, Nat.add_zero, List.getElem?_eq_getElem hlt]
      obtain ⟨g, cap, cs, Si, cur, hv, hSg, hh, hcl, hsz, hcs, hR, hSi, hclose⟩ := OwnRow.elem hrow hx
      have HCL := Lib.hid hclose
      clear hrow hclose hx
      have hset : ∀ y, (mksU k (us.take j) ++ us.drop j).set j y = (mksU k (us.take j) ++ [y]) ++ us.drop (j + 1) := fun y => by
        rw [List.set_append_right _ _ (by omega), hlj, Nat.sub_self, List.append_assoc, List.singleton_append]
        have e := List.drop_eq_getElem_cons hlt
        rw [e]; rfl
      have HSET := Lib.hid hset
      have hct := ctU_take hlt
      have hcl2 := ctU_le us (j + 1)
      have HTK := Lib.hid (List.take_succ_eq_append_getElem hlt)
      clear hset
      generalize us[j] = a at *
      obtain ⟨va, vb, S1, S2, rfl, hn, hgs, ho1, ho2, hs1, hs2, hdis⟩ := hR
      obtain ⟨p1, c1, rfl, hl1⟩ := OwnRow.form ho1
      obtain ⟨p2, c2, rfl, hl2⟩ := OwnRow.form ho2
      simp only [Value.slice.injEq] at hv
      obtain ⟨rfl, -, rfl⟩ := hv
      have HO1 := Lib.hid ho1
      have HO2 := Lib.hid ho2
      have HHH := Lib.hid hh
      have HD := Lib.hid (And.intro hs1 (And.intro hs2 hdis))
      have hca : a.ct = 2 + a.incs.length + a.axs.length := rfl
      have c0 : wr.cell? ⟨g, j * 4, none⟩ = some (.string a.name) := (cell_of_row wr g _ cur _ (0, 0) hh).trans (hcs 0 (by omega))
      have c1' : wr.cell? ⟨g, j * 4 + 1, none⟩ = some (.slice p1 a.incs.length c1) := (cell_of_row wr g _ cur _ (0, 0) hh).trans (hcs 1 (by omega))
      have c2' : wr.cell? ⟨g, j * 4 + 2, none⟩ = some (.slice p2 a.axs.length c2) := (cell_of_row wr g _ cur _ (0, 0) hh).trans (hcs 2 (by omega))
      have c3 : wr.cell? ⟨g, j * 4 + 3, none⟩ = some (.string a.goal) := (cell_of_row wr g _ cur _ (0, 0) hh).trans (hcs 3 (by omega))
      have cf : ∀ i, wr.frozen? ⟨g, i, none⟩ = false := fun i => frozen_of_row wr g i _ _ hh
      have hgl := bsz (blk_lt hh)
      have hng1 : ¬ S1 g := fun e => (hSi g (hs1 g e)).2 rfl
      have hng2 : ¬ S2 g := fun e => (hSi g (hs2 g e)).2 rfl
      clear hh ho1 ho2 hs1 hs2 hdis
      obtain ⟨q, hq⟩ : ∃ q, k + ctU (us.take j) = q := ⟨_, rfl⟩
      have hct2 : k + ctU (us.take (j + 1)) = q + a.ct := by omega
      rw [hq]
      have HQ := Lib.hid hq
      clear hq
      go_wp2_with fail
      refine (markText_any q _ (by omega) (by omega)).mono ?_
      rintro e w1 ⟨rfl, hb1⟩
      have ⟨cb, fb⟩ := bcell hb1
      have hq1 := hb1.size
      have hg1 := bsz (show g < w1.heap.size by omega)
      go_wp2_with fail
      rw [show ((q : Int) + 1) = ((q + 1 : Nat) : Int) by omega]
      obtain ⟨W2, hW2⟩ : ∃ W2, W2 = w1.setCell ⟨g, j * 4, none⟩ (.string (markB q)) := ⟨_, rfl⟩
      rw [← hW2]
      have hg2 : W2.heap[g]? = some (.cells (cur.setIfInBounds (j * 4 + 0) (.string (markB q))) 43 (0, 0)) := by
        rw [hW2]; exact heap_setCell_same w1 g (j * 4 + 0) cur _ _ ((hb1.block g hgl.1).trans HHH.out)
      have hS2 : SameOn (fun b => b ≠ g) wr W2 := fun b hb hlt => by rw [hW2]; exact (heap_setCell_other w1 ⟨g, j * 4, none⟩ b _ (fun e => hb e)).trans (hb1.block b hlt)
      have hz2 : W2.heap.size = w1.heap.size := by rw [hW2]; simp
      have hK2 : Kept S wr W2 := by rw [hW2]; exact ((Kept.refl S wr).below hb1).set hSg _ _
      clear hW2
      refine (markStringS_any S1 a.incs _ (q + 1) W2 (HO1.out.mono (fun b hb hlt => hS2 b (fun e => hng1 (e ▸ hb)) hlt) (fun _ h => h)) (by omega) (by omega)).mono ?_
      rintro e w3 ⟨rfl, ho3, hk3⟩
      have HO3 := Lib.hid ho3
      have hq3 := hk3.size
      have hg3 : w3.heap[g]? = _ := (hk3.block g (by omega) hng1).trans hg2
      have d2 : w3.cell? ⟨g, j * 4 + 2, none⟩ = some (.slice p2 a.axs.length c2) := by
        rw [cell_of_row w3 g _ _ _ (0, 0) hg3, Array.getElem?_setIfInBounds_ne (by omega)]; exact hcs 2 (by omega)
      have hgl3 := bsz (show g < w3.heap.size by omega)
      clear ho3
      go_wp2_with fail
      rw [show ((q : Int) + 1 + (a.incs.length : Int)) = ((q + 1 + a.incs.length : Nat) : Int) by omega]
      refine (markStringS_any S2 a.axs _ (q + 1 + a.incs.length) w3 ((HO2.out.mono (fun b hb hlt => hS2 b (fun e => hng2 (e ▸ hb)) hlt) (fun _ h => h)).kept hk3 (fun b h2 h1 => HD.out.2.2 b h1 h2)) (by omega) (by omega)).mono ?_
      rintro e w4 ⟨rfl, ho4, hk4⟩
      have HO4 := Lib.hid ho4
      have hq4 := hk4.size
      have hg4 : w4.heap[g]? = _ := (hk4.block g (by omega) hng2).trans hg3
      have hgl4 := bsz (show g < w4.heap.size by omega)
      clear ho4
      go_wp2_with fail
      rw [show ((q : Int) + 1 + (a.incs.length : Int) + (a.axs.length : Int)) = ((q + 1 + a.incs.length + a.axs.length : Nat) : Int) by omega]
      refine (markText_any (q + 1 + a.incs.length + a.axs.length) _ (by omega) (by omega)).mono ?_
      rintro e w5 ⟨rfl, hb5⟩
      have hq5 := hb5.size
      have hgl5 := bsz (show g < w5.heap.size by omega)
      have hg5 : w5.heap[g]? = _ := (hb5.block g (by omega)).trans hg4
      have d5 : w5.cell? ⟨g, j * 4 + 3, none⟩ = some (.string a.goal) := by
        rw [cell_of_row w5 g _ _ _ (0, 0) hg5, Array.getElem?_setIfInBounds_ne (by omega)]; exact hcs 3 (by omega)
      have f5 : w5.frozen? ⟨g, j * 4 + 3, none⟩ = false := frozen_of_row w5 g _ _ _ hg5
      go_wp2
      have hg6 := heap_setCell_same w5 g (j * 4 + 3) _ 43 (.string (markB (q + 1 + a.incs.length + a.axs.length))) hg5
      have hpt : Patch cur ((cur.setIfInBounds (j * 4 + 0) (.string (markB q))).setIfInBounds (j * 4 + 3) (.string (markB (q + 1 + a.incs.length + a.axs.length)))) (j * 4) [.string (markB q), .slice p1 a.incs.length c1, .slice p2 a.axs.length c2, .string (markB (q + 1 + a.incs.length + a.axs.length))] :=
        Patch.set (cs := [.string (markB q), .slice p1 a.incs.length c1, .slice p2 a.axs.length c2, .string a.goal]) (Patch.set (cs := [.string a.name, .slice p1 a.incs.length c1, .slice p2 a.axs.length c2, .string a.goal]) (Patch.refl hcs) (j := 0) (by simp) hsz _) (j := 3) (by simp) hsz _
      refine ⟨⟨j + 1, by go_num, ?_, by omega, ?_, ?_⟩, by simp [intOf]; omega⟩
      · exact congrArg (Value.int .i64) (by have := HQ.out; omega)
      · rw [HTK.out, mksU_snoc, HQ.out, ← HSET.out]
        refine HCL.out _ (a.mkd q) _ _ (fun T u cs => UnOwn 9 T _ u cs) rfl hg6 hpt ⟨_, _, S1, S2, rfl, markB_size q (by omega), markB_size _ (by omega), ?_, ?_, HD.out.1, HD.out.2.1, HD.out.2.2⟩ (fun T y cs hT hy => hy.mono (fun b hb hlt => ?_) (fun _ h => h))
        · exact ((HO3.out.kept hk4 (fun b h1 h2 => HD.out.2.2 b h1 h2)).later hb5).mono (fun b hb _ => heap_setCell_other w5 ⟨g, j * 4 + 3, none⟩ b _ (fun e => hng1 (by rw [← show b = g from e]; exact hb))) (fun _ h => h)
        · exact (HO4.out.later hb5).mono (fun b hb _ => heap_setCell_other w5 ⟨g, j * 4 + 3, none⟩ b _ (fun e => hng2 (by rw [← show b = g from e]; exact hb))) (fun _ h => h)
        · obtain ⟨hb1', hb2', hb3'⟩ := hT b hb
          exact (heap_setCell_other w5 ⟨g, j * 4 + 3, none⟩ b _ (fun e => hb2' e)).trans ((hb5.block b (by omega)).trans ((hk4.block b (by omega) (fun e => hb3' (HD.out.2.1 b e))).trans ((hk3.block b (by omega) (fun e => hb3' (HD.out.1 b e))).trans (hS2 b hb2' hlt))))
      · exact HKP.out.trans (((hK2.trans (hk3.mono (fun b hb => (hSi b (HD.out.1 b hb)).1))).trans (hk4.mono (fun b hb => (hSi b (HD.out.2.1 b hb)).1))).below hb5 |>.set hSg _ _)
    · obtain rfl : j = us.length := by omega
      rw [List.drop_length, List.append_nil, List.take_length] at hrow
      have HRW := Lib.hid hrow
      rw [List.take_length]
      clear hrow
      go_wp2
      go_ret
      exact ⟨rfl, HRW.out, HKP.out⟩
end Go.Proofs.YtimpkjiglioflaaGreat
namespace Go.Proofs.YtimpkjiglioflaaGreat
open Go.RowKit
theorem ctU_wt : ∀ us : List Un, ctU us ≤ 2 * us.length + wtU us
  | [] => by simp [ctU]
  | u :: us => by
    have := ctU_wt us
    rw [ctU, wtU, List.length_cons]
    have h1 : u.ct = 2 + u.incs.length + u.axs.length := rfl
    have h2 : u.wt = u.name.size + (u.incs.length + wtS u.incs) + (u.axs.length + wtS u.axs) + u.goal.size := rfl
    omega
theorem StrsAt.nil (B : Nat → Prop) (w : World) (p : Option Addr) (c : Nat) : StrsAt B w (.slice p 0 c) [] := ListAt.nil _ _ _ _ _ _
/-- The order, if there is one. -/
def loF (l : List Un) : List ByteArray := if libGood l then ordL l else []
theorem loF_len (l : List Un) : (loF l).length ≤ l.length := by
  rw [loF]; split
  · exact (ordL_inv l).len
  · simp
set_option maxRecDepth 100000 in
theorem specIVL_any {B : Nat → Prop} (l : List Un) (va : Value) (w : World) (h : UnsAt B w va l) (hw : l.length + wtU l ≤ 1048576) :
    Calls Tryz.prog 8 #[va] w fun e w' => e = .returned (.bool (libGood l)) ∧ Below w.heap.size w w' := by
  obtain ⟨p, c, rfl, hlen⟩ := h.form
  have H := Lib.hid h
  clear h
  go_enter Tryz.func8, Tryz.ntmps8
  go_wp2_with fail
  refine (specLib_any l _ _ (H.out.below (by (repeat (first | with_reducible exact Below.refl _ _ | with_reducible assumption | with_reducible refine Below.al ?_ _ | with_reducible refine Below.sc ?_ (by first | exact Nat.le_refl _ | (simp; done) | (simp; omega)) _ | assumption | exact Below.refl _ _ | refine Below.dr ?_ | refine Below.drN ?_ _ | refine Below.step ?_ (by assumption))))) hw).mono ?_
  rintro e w1 ⟨rfl, hb1⟩
  have ⟨cw1, fw1⟩ := bcell hb1
  have qw1 := hb1.size
  (try simp at qw1)
  (try have zw1w := bsz (show w.heap.size < w1.heap.size by omega))
  go_wp2
  go_ret
  exact ⟨rfl, by (repeat (first | with_reducible exact Below.refl _ _ | with_reducible assumption | with_reducible refine Below.al ?_ _ | with_reducible refine Below.sc ?_ (by first | exact Nat.le_refl _ | (simp; done) | (simp; omega)) _ | assumption | exact Below.refl _ _ | refine Below.dr ?_ | refine Below.drN ?_ _ | refine Below.step ?_ (by assumption)))⟩
set_option maxRecDepth 100000 in
set_option maxHeartbeats 800000 in
theorem implLO_any {B : Nat → Prop} (l : List Un) (va : Value) (w : World) (h : UnsAt B w va l) (hw : l.length + wtU l ≤ 1048576) :
    Calls Tryz.prog 13 #[va] w fun e w' => ∃ v, e = .returned (.tuple #[v, .bool (libGood l)]) ∧ StrOwn 9 (NewB w w') w' (loF l) v ∧ Below w.heap.size w w' := by
  obtain ⟨p, c, rfl, hlen⟩ := h.form
  have H := Lib.hid h
  clear h
  cases hg : libGood l
  · have HG := Lib.hid hg
    go_enter Tryz.func13, Tryz.ntmps13
    go_wp2_with fail
    refine (implLib_any l _ _ (H.out.below (by (repeat (first | with_reducible exact Below.refl _ _ | with_reducible assumption | with_reducible refine Below.al ?_ _ | with_reducible refine Below.sc ?_ (by first | exact Nat.le_refl _ | (simp; done) | (simp; omega)) _ | assumption | exact Below.refl _ _ | refine Below.dr ?_ | refine Below.drN ?_ _ | refine Below.step ?_ (by assumption))))) hw).mono ?_
    rintro e w1 ⟨rfl, hb1⟩
    have ⟨cw1, fw1⟩ := bcell hb1
    have qw1 := hb1.size
    (try simp at qw1)
    (try have zw1w := bsz (show w.heap.size < w1.heap.size by omega))
    rw [HG.out]
    go_wp2
    go_ret2
    exact ⟨_, rfl, by rw [loF, HG.out, if_neg (by simp)]; exact OwnRow.nil _ _ _ _ _, by (repeat (first | with_reducible exact Below.refl _ _ | with_reducible assumption | with_reducible refine Below.al ?_ _ | with_reducible refine Below.sc ?_ (by first | exact Nat.le_refl _ | (simp; done) | (simp; omega)) _ | assumption | exact Below.refl _ _ | refine Below.dr ?_ | refine Below.drN ?_ _ | refine Below.step ?_ (by assumption)))⟩
  · have HG := Lib.hid hg
    have HL := Lib.hid (show (ordL l).length = l.length by rw [libGood, Bool.and_eq_true] at hg; exact of_decide_eq_true hg.2)
    have HOA := Lib.hid (fun w' => order_any (B := B) l (.slice p l.length c) w')
    go_enter Tryz.func13, Tryz.ntmps13
    go_wp2_with fail
    refine (implLib_any l _ _ (H.out.below (by (repeat (first | with_reducible exact Below.refl _ _ | with_reducible assumption | with_reducible refine Below.al ?_ _ | with_reducible refine Below.sc ?_ (by first | exact Nat.le_refl _ | (simp; done) | (simp; omega)) _ | assumption | exact Below.refl _ _ | refine Below.dr ?_ | refine Below.drN ?_ _ | refine Below.step ?_ (by assumption))))) hw).mono ?_
    rintro e w1 ⟨rfl, hb1⟩
    have ⟨cw1, fw1⟩ := bcell hb1
    have qw1 := hb1.size
    (try simp at qw1)
    (try have zw1w := bsz (show w.heap.size < w1.heap.size by omega))
    rw [HG.out]
    go_wp2_with fail
    refine (HOA.out _ (H.out.below (by (repeat (first | with_reducible exact Below.refl _ _ | with_reducible assumption | with_reducible refine Below.al ?_ _ | with_reducible refine Below.sc ?_ (by first | exact Nat.le_refl _ | (simp; done) | (simp; omega)) _ | assumption | exact Below.refl _ _ | refine Below.dr ?_ | refine Below.drN ?_ _ | refine Below.step ?_ (by assumption))))) (by omega)).mono ?_
    rintro e w2 ⟨hb2, hp⟩
    rw [if_pos HL.out] at hp
    obtain ⟨v, rfl, hv⟩ := hp
    have hq2 := hb2.size
    have HV := Lib.hid hv
    obtain ⟨pv, cv, rfl, -⟩ := OwnRow.form hv
    clear hv
    go_wp2
    go_ret2
    exact ⟨_, rfl, by rw [loF, HG.out, if_pos rfl]; exact HV.out.mono (SameOn.refl _ _) (fun b hb => ⟨by have := hb.1; omega, hb.2⟩), by (repeat (first | with_reducible exact Below.refl _ _ | with_reducible assumption | with_reducible refine Below.al ?_ _ | with_reducible refine Below.sc ?_ (by first | exact Nat.le_refl _ | (simp; done) | (simp; omega)) _ | assumption | exact Below.refl _ _ | refine Below.dr ?_ | refine Below.drN ?_ _ | refine Below.step ?_ (by assumption)))⟩
set_option maxRecDepth 100000 in
set_option maxHeartbeats 800000 in
theorem specLO_any {B : Nat → Prop} (l : List Un) (va : Value) (w : World) (h : UnsAt B w va l) (hw : l.length + wtU l ≤ 1048576) :
    Calls Tryz.prog 12 #[va] w fun e w' => ∃ v, e = .returned (.tuple #[v, .bool (libGood l)]) ∧ StrsAt (NewB w w') w' v (loF l) ∧ Below w.heap.size w w' := by
  obtain ⟨p, c, rfl, hlen⟩ := h.form
  have H := Lib.hid h
  clear h
  cases hg : libGood l
  · have HG := Lib.hid hg
    go_enter Tryz.func12, Tryz.ntmps12
    go_wp2_with fail
    refine (specLib_any l _ _ (H.out.below (by (repeat (first | with_reducible exact Below.refl _ _ | with_reducible assumption | with_reducible refine Below.al ?_ _ | with_reducible refine Below.sc ?_ (by first | exact Nat.le_refl _ | (simp; done) | (simp; omega)) _ | assumption | exact Below.refl _ _ | refine Below.dr ?_ | refine Below.drN ?_ _ | refine Below.step ?_ (by assumption))))) hw).mono ?_
    rintro e w1 ⟨rfl, hb1⟩
    have ⟨cw1, fw1⟩ := bcell hb1
    have qw1 := hb1.size
    (try simp at qw1)
    (try have zw1w := bsz (show w.heap.size < w1.heap.size by omega))
    rw [HG.out]
    go_wp2
    go_ret2
    exact ⟨_, rfl, by rw [loF, HG.out, if_neg (by simp)]; exact StrsAt.nil _ _ _ _, by (repeat (first | with_reducible exact Below.refl _ _ | with_reducible assumption | with_reducible refine Below.al ?_ _ | with_reducible refine Below.sc ?_ (by first | exact Nat.le_refl _ | (simp; done) | (simp; omega)) _ | assumption | exact Below.refl _ _ | refine Below.dr ?_ | refine Below.drN ?_ _ | refine Below.step ?_ (by assumption)))⟩
  · have HG := Lib.hid hg
    have HU := Lib.hid (show unitsF none l = true by rw [libGood, Bool.and_eq_true, Bool.and_eq_true] at hg; exact hg.1.1)
    have HOA := Lib.hid (fun w' hat => l27Order_any (B := B) l (.slice p l.length c) w' hat (by omega) (fun u hu => good_name (unitsF_good l none HU.out u hu)))
    go_enter Tryz.func12, Tryz.ntmps12
    go_wp2_with fail
    refine (specLib_any l _ _ (H.out.below (by (repeat (first | with_reducible exact Below.refl _ _ | with_reducible assumption | with_reducible refine Below.al ?_ _ | with_reducible refine Below.sc ?_ (by first | exact Nat.le_refl _ | (simp; done) | (simp; omega)) _ | assumption | exact Below.refl _ _ | refine Below.dr ?_ | refine Below.drN ?_ _ | refine Below.step ?_ (by assumption))))) hw).mono ?_
    rintro e w1 ⟨rfl, hb1⟩
    have ⟨cw1, fw1⟩ := bcell hb1
    have qw1 := hb1.size
    (try simp at qw1)
    (try have zw1w := bsz (show w.heap.size < w1.heap.size by omega))
    rw [HG.out]
    go_wp2_with fail
    refine (HOA.out _ (H.out.below (by (repeat (first | with_reducible exact Below.refl _ _ | with_reducible assumption | with_reducible refine Below.al ?_ _ | with_reducible refine Below.sc ?_ (by first | exact Nat.le_refl _ | (simp; done) | (simp; omega)) _ | assumption | exact Below.refl _ _ | refine Below.dr ?_ | refine Below.drN ?_ _ | refine Below.step ?_ (by assumption)))))).mono ?_
    rintro e w2 ⟨v, rfl, hv, hz, hb2⟩
    have hq2 := hb2.size
    have hm : (ordL l).length ≤ maxLen := by have := (ordL_inv l).len; unfold maxLen at hlen ⊢; omega
    have HV := Lib.hid (rowS_own (S := NewB w w2) hv hz hm (fun g hg => ⟨by have := own_base hv g hg; omega, own_lt' hv hg⟩))
    obtain ⟨pv, cv, rfl, -⟩ := OwnRow.form HV.out
    clear hv hz
    go_wp2
    go_ret2
    exact ⟨_, rfl, by rw [loF, HG.out, if_pos rfl]; exact HV.out.at_, by (repeat (first | with_reducible exact Below.refl _ _ | with_reducible assumption | with_reducible refine Below.al ?_ _ | with_reducible refine Below.sc ?_ (by first | exact Nat.le_refl _ | (simp; done) | (simp; omega)) _ | assumption | exact Below.refl _ _ | refine Below.dr ?_ | refine Below.drN ?_ _ | refine Below.step ?_ (by assumption)))⟩
end Go.Proofs.YtimpkjiglioflaaGreat
namespace Go.Proofs.YtimpkjiglioflaaGreat
open Go.RowKit
theorem Kept.belowB {K : Nat → Prop} {a w w' : World} (hb : Below a.heap.size a w) (hk : Kept K w w') (hK : ∀ b, K b → a.heap.size ≤ b) : Below a.heap.size a w' :=
  ⟨hk.os.trans hb.os, hk.tape.trans hb.tape, hk.output.trans hb.output, Nat.le_trans hb.size hk.size, fun b hlt => (hk.block b (Nat.lt_of_lt_of_le hlt hb.size) (fun e => by have := hK b e; omega)).trans (hb.block b hlt)⟩
theorem StrsAt.kept {B K : Nat → Prop} {w w' : World} {v : Value} {us : List ByteArray} (h : StrsAt B w v us) (hk : Kept K w w') (hd : ∀ b, B b → ¬ K b) : StrsAt B w' v us := h.mono (fun b hb hlt => hk.block b hlt (hd b hb)) (fun _ h => h)
theorem newB_apart {a b c d : World} {k : Nat} (h : NewB a b k) (h2 : NewB c d k) (hz : b.heap.size ≤ c.heap.size) : False := by
  have := h.2; have := h2.1; omega
set_option maxRecDepth 100000 in
set_option maxHeartbeats 3200000 in
theorem exactLO (l : List Un) (v : Value) (w : World) (h : UnsAt (fun b => b < w.heap.size) w v l) :
    Calls Tryz.prog 4 #[v] w fun e w' => e = .returned (.bool true) ∧ Below w.heap.size w w' := by
  obtain ⟨p, c, rfl, hlen⟩ := h.form
  have H := Lib.hid h
  clear h
  by_cases hw : l.length + wtU l ≤ 1048576
  · have HR := Lib.hid (show szR 1048576 (l.length + wtU l) = 1048576 - ((l.length : Int) + (wtU l : Nat)) by rw [szR, if_pos (by omega)]; omega)
    have hw0 : ¬ (1048576 - ((l.length : Int) + (wtU l : Nat)) < 0) := by omega
    have hpp : (libGood l != libGood l) = false := by simp
    have hct := ctU_wt l
    have hll := loF_len l
    go_enter Tryz.func4, Tryz.ntmps4
    go_wp2_with fail
    refine (szUnitS_any l _ _ _ (H.out.below (by (repeat (first | with_reducible exact Below.refl _ _ | with_reducible assumption | with_reducible refine Below.al ?_ _ | with_reducible refine Below.sc ?_ (by first | exact Nat.le_refl _ | (simp; done) | (simp; omega)) _ | assumption | exact Below.refl _ _ | refine Below.dr ?_ | refine Below.drN ?_ _ | refine Below.step ?_ (by assumption))))) (by omega) (by omega)).mono ?_
    rintro e w1 ⟨rfl, hb1⟩
    have ⟨cw1, fw1⟩ := bcell hb1
    have qw1 := hb1.size
    (try simp at qw1)
    (try have zw1w := bsz (show w.heap.size < w1.heap.size by omega))
    rw [HR.out]
    go_wp2_with fail
    refine (toUnitS_own l _ _ (H.out.below (by (repeat (first | with_reducible exact Below.refl _ _ | with_reducible assumption | with_reducible refine Below.al ?_ _ | with_reducible refine Below.sc ?_ (by first | exact Nat.le_refl _ | (simp; done) | (simp; omega)) _ | assumption | exact Below.refl _ _ | refine Below.dr ?_ | refine Below.drN ?_ _ | refine Below.step ?_ (by assumption))))) hw).mono ?_
    rintro e w2 ⟨g1, rfl, hu1, hb2⟩
    have ⟨cw2, fw2⟩ := bcell hb2
    have qw2 := hb2.size
    (try simp at qw2)
    (try have zw2w := bsz (show w.heap.size < w2.heap.size by omega))
    (try have zw2w1 := bsz (show w1.heap.size < w2.heap.size by omega))
    have HU1 := Lib.hid hu1.at_
    clear hu1
    go_wp2_with fail
    refine (specLO_any l _ _ (HU1.out.below (by (repeat (first | with_reducible exact Below.refl _ _ | with_reducible assumption | with_reducible refine Below.al ?_ _ | with_reducible refine Below.sc ?_ (by first | exact Nat.le_refl _ | (simp; done) | (simp; omega)) _ | assumption | exact Below.refl _ _ | refine Below.dr ?_ | refine Below.drN ?_ _ | refine Below.step ?_ (by assumption))))) hw).mono ?_
    rintro e w3 ⟨va, rfl, hva, hb3⟩
    have ⟨cw3, fw3⟩ := bcell hb3
    have qw3 := hb3.size
    (try simp at qw3)
    (try have zw3w := bsz (show w.heap.size < w3.heap.size by omega))
    (try have zw3w1 := bsz (show w1.heap.size < w3.heap.size by omega))
    (try have zw3w2 := bsz (show w2.heap.size < w3.heap.size by omega))
    have HA3 := Lib.hid hva
    obtain ⟨pa, ka, rfl, -⟩ := hva.form
    clear hva
    go_wp2_with fail
    refine (toUnitS_own l _ _ (H.out.below (by (repeat (first | with_reducible exact Below.refl _ _ | with_reducible assumption | with_reducible refine Below.al ?_ _ | with_reducible refine Below.sc ?_ (by first | exact Nat.le_refl _ | (simp; done) | (simp; omega)) _ | assumption | exact Below.refl _ _ | refine Below.dr ?_ | refine Below.drN ?_ _ | refine Below.step ?_ (by assumption))))) hw).mono ?_
    rintro e w4 ⟨g2, rfl, hu2, hb4⟩
    have ⟨cw4, fw4⟩ := bcell hb4
    have qw4 := hb4.size
    (try simp at qw4)
    (try have zw4w := bsz (show w.heap.size < w4.heap.size by omega))
    (try have zw4w1 := bsz (show w1.heap.size < w4.heap.size by omega))
    (try have zw4w2 := bsz (show w2.heap.size < w4.heap.size by omega))
    (try have zw4w3 := bsz (show w3.heap.size < w4.heap.size by omega))
    have HU2 := Lib.hid hu2
    clear hu2
    go_wp2_with fail
    refine (implLO_any l _ _ (HU2.out.at_.below (by (repeat (first | with_reducible exact Below.refl _ _ | with_reducible assumption | with_reducible refine Below.al ?_ _ | with_reducible refine Below.sc ?_ (by first | exact Nat.le_refl _ | (simp; done) | (simp; omega)) _ | assumption | exact Below.refl _ _ | refine Below.dr ?_ | refine Below.drN ?_ _ | refine Below.step ?_ (by assumption))))) hw).mono ?_
    rintro e w5 ⟨vg, rfl, hg5, hb5⟩
    have ⟨cw5, fw5⟩ := bcell hb5
    have qw5 := hb5.size
    (try simp at qw5)
    (try have zw5w := bsz (show w.heap.size < w5.heap.size by omega))
    (try have zw5w1 := bsz (show w1.heap.size < w5.heap.size by omega))
    (try have zw5w2 := bsz (show w2.heap.size < w5.heap.size by omega))
    (try have zw5w3 := bsz (show w3.heap.size < w5.heap.size by omega))
    (try have zw5w4 := bsz (show w4.heap.size < w5.heap.size by omega))
    have HG5 := Lib.hid hg5
    obtain ⟨pg, kg, rfl, -⟩ := OwnRow.form hg5
    clear hg5
    go_wp2_with fail
    refine (eqStringS_same (loF l) _ _ _ (HG5.out.at_.below (by (repeat (first | with_reducible exact Below.refl _ _ | with_reducible assumption | with_reducible refine Below.al ?_ _ | with_reducible refine Below.sc ?_ (by first | exact Nat.le_refl _ | (simp; done) | (simp; omega)) _ | assumption | exact Below.refl _ _ | refine Below.dr ?_ | refine Below.drN ?_ _ | refine Below.step ?_ (by assumption))))) (HA3.out.below (by (repeat (first | with_reducible exact Below.refl _ _ | with_reducible assumption | with_reducible refine Below.al ?_ _ | with_reducible refine Below.sc ?_ (by first | exact Nat.le_refl _ | (simp; done) | (simp; omega)) _ | assumption | exact Below.refl _ _ | refine Below.dr ?_ | refine Below.drN ?_ _ | refine Below.step ?_ (by assumption)))))).mono ?_
    rintro e w6 ⟨rfl, hb6⟩
    have ⟨cw6, fw6⟩ := bcell hb6
    have qw6 := hb6.size
    (try simp at qw6)
    (try have zw6w := bsz (show w.heap.size < w6.heap.size by omega))
    (try have zw6w1 := bsz (show w1.heap.size < w6.heap.size by omega))
    (try have zw6w2 := bsz (show w2.heap.size < w6.heap.size by omega))
    (try have zw6w3 := bsz (show w3.heap.size < w6.heap.size by omega))
    (try have zw6w4 := bsz (show w4.heap.size < w6.heap.size by omega))
    (try have zw6w5 := bsz (show w5.heap.size < w6.heap.size by omega))
    go_wp2_with fail
    refine (toUnitS_own l _ _ (H.out.below (by (repeat (first | with_reducible exact Below.refl _ _ | with_reducible assumption | with_reducible refine Below.al ?_ _ | with_reducible refine Below.sc ?_ (by first | exact Nat.le_refl _ | (simp; done) | (simp; omega)) _ | assumption | exact Below.refl _ _ | refine Below.dr ?_ | refine Below.drN ?_ _ | refine Below.step ?_ (by assumption))))) hw).mono ?_
    rintro e w7 ⟨g3, rfl, hu3, hb7⟩
    have ⟨cw7, fw7⟩ := bcell hb7
    have qw7 := hb7.size
    (try simp at qw7)
    (try have zw7w := bsz (show w.heap.size < w7.heap.size by omega))
    (try have zw7w1 := bsz (show w1.heap.size < w7.heap.size by omega))
    (try have zw7w2 := bsz (show w2.heap.size < w7.heap.size by omega))
    (try have zw7w3 := bsz (show w3.heap.size < w7.heap.size by omega))
    (try have zw7w4 := bsz (show w4.heap.size < w7.heap.size by omega))
    (try have zw7w5 := bsz (show w5.heap.size < w7.heap.size by omega))
    (try have zw7w6 := bsz (show w6.heap.size < w7.heap.size by omega))
    have HU3 := Lib.hid hu3.at_
    clear hu3
    go_wp2_with fail
    refine (eqUnitS_same l _ _ _ (HU2.out.at_.below (by (repeat (first | with_reducible exact Below.refl _ _ | with_reducible assumption | with_reducible refine Below.al ?_ _ | with_reducible refine Below.sc ?_ (by first | exact Nat.le_refl _ | (simp; done) | (simp; omega)) _ | assumption | exact Below.refl _ _ | refine Below.dr ?_ | refine Below.drN ?_ _ | refine Below.step ?_ (by assumption))))) (HU3.out.below (by (repeat (first | with_reducible exact Below.refl _ _ | with_reducible assumption | with_reducible refine Below.al ?_ _ | with_reducible refine Below.sc ?_ (by first | exact Nat.le_refl _ | (simp; done) | (simp; omega)) _ | assumption | exact Below.refl _ _ | refine Below.dr ?_ | refine Below.drN ?_ _ | refine Below.step ?_ (by assumption)))))).mono ?_
    rintro e w8 ⟨rfl, hb8⟩
    have ⟨cw8, fw8⟩ := bcell hb8
    have qw8 := hb8.size
    (try simp at qw8)
    (try have zw8w := bsz (show w.heap.size < w8.heap.size by omega))
    (try have zw8w1 := bsz (show w1.heap.size < w8.heap.size by omega))
    (try have zw8w2 := bsz (show w2.heap.size < w8.heap.size by omega))
    (try have zw8w3 := bsz (show w3.heap.size < w8.heap.size by omega))
    (try have zw8w4 := bsz (show w4.heap.size < w8.heap.size by omega))
    (try have zw8w5 := bsz (show w5.heap.size < w8.heap.size by omega))
    (try have zw8w6 := bsz (show w6.heap.size < w8.heap.size by omega))
    (try have zw8w7 := bsz (show w7.heap.size < w8.heap.size by omega))
    go_wp2_with fail
    refine (markUnitS_any _ l _ 1 _ (HU2.out.later (by (repeat (first | with_reducible exact Below.refl _ _ | with_reducible assumption | with_reducible refine Below.al ?_ _ | with_reducible refine Below.sc ?_ (by first | exact Nat.le_refl _ | (simp; done) | (simp; omega)) _ | assumption | exact Below.refl _ _ | refine Below.dr ?_ | refine Below.drN ?_ _ | refine Below.step ?_ (by assumption))))) (by decide) (by omega)).mono ?_
    rintro e w9 ⟨rfl, -, hk9⟩
    have hb09 : Below w.heap.size w w9 := Kept.belowB (show Below w.heap.size w w8 by (repeat (first | with_reducible exact Below.refl _ _ | with_reducible assumption | with_reducible refine Below.al ?_ _ | with_reducible refine Below.sc ?_ (by first | exact Nat.le_refl _ | (simp; done) | (simp; omega)) _ | assumption | exact Below.refl _ _ | refine Below.dr ?_ | refine Below.drN ?_ _ | refine Below.step ?_ (by assumption)))) hk9 (fun b hb => by have := hb.1; omega)
    have HG9 := Lib.hid ((HG5.out.later (show Below w5.heap.size w5 w8 by (repeat (first | with_reducible exact Below.refl _ _ | with_reducible assumption | with_reducible refine Below.al ?_ _ | with_reducible refine Below.sc ?_ (by first | exact Nat.le_refl _ | (simp; done) | (simp; omega)) _ | assumption | exact Below.refl _ _ | refine Below.dr ?_ | refine Below.drN ?_ _ | refine Below.step ?_ (by assumption))))).kept hk9 (fun b hb hb' => newB_apart hb' hb (Nat.le_refl _)))
    have HA9 := Lib.hid ((HA3.out.below (show Below w3.heap.size w3 w8 by (repeat (first | with_reducible exact Below.refl _ _ | with_reducible assumption | with_reducible refine Below.al ?_ _ | with_reducible refine Below.sc ?_ (by first | exact Nat.le_refl _ | (simp; done) | (simp; omega)) _ | assumption | exact Below.refl _ _ | refine Below.dr ?_ | refine Below.drN ?_ _ | refine Below.step ?_ (by assumption))))).kept hk9 (fun b hb hb' => newB_apart hb hb' (Nat.le_refl _)))
    have hq9 := hk9.size
    have hkk : ¬ ((1 : Int) + (ctU l : Nat) < 0) := by omega
    have z359 : w3.heap.size ≤ w4.heap.size ∧ w5.heap.size ≤ w9.heap.size := by omega
    clear hk9
    go_wp2_with fail
    refine (eqStringS_same (loF l) _ _ _ HG9.out.at_ HA9.out).mono ?_
    rintro e w10 ⟨rfl, hb10⟩
    have hq10 := hb10.size
    go_wp2_with fail
    refine (markStringS_any _ (loF l) _ 1 _ (HG9.out.later hb10) (by decide) (by omega)).mono ?_
    rintro e w11 ⟨rfl, hm11, hk11⟩
    have HM11 := Lib.hid hm11
    have hb011 : Below w.heap.size w w11 := Kept.belowB (Below.step hb09 hb10) hk11 (fun b hb => by have := hb.1; omega)
    have HA11 := Lib.hid ((HA9.out.below hb10).kept hk11 (fun b hb hb' => newB_apart hb hb' z359.1))
    have hq11 := hk11.size
    clear hm11 hk11
    have hkm : ¬ ((1 : Int) + ((loF l).length : Nat) < 0) := by omega
    go_wp2_with fail
    refine (heldStringS_any (loF l).length _ 1 _ HM11.out.at_ (by decide) (by omega)).mono ?_
    rintro e w12 ⟨rfl, hb12⟩
    have hq12 := hb12.size
    have hb012 := Below.step hb011 hb12
    go_wp2_with fail
    refine (toUnitS_own l _ _ (H.out.below hb012) hw).mono ?_
    rintro e w13 ⟨g4, rfl, hu4, hb13⟩
    have HU4 := Lib.hid hu4.at_
    have hq13 := hb13.size
    have hb013 := Below.step hb012 hb13
    clear hu4
    go_wp2_with fail
    refine (implLO_any l _ _ HU4.out hw).mono ?_
    rintro e w14 ⟨vh, rfl, hh14, hb14⟩
    have HH14 := Lib.hid hh14.at_
    obtain ⟨ph, kh, rfl, -⟩ := OwnRow.form hh14
    have hq14 := hb14.size
    have hb014 := Below.step hb013 hb14
    clear hh14
    go_wp2_with fail
    refine (eqStringS_same (loF l) _ _ _ HH14.out (HA11.out.below (Below.step (Below.step hb12 hb13) hb14))).mono ?_
    rintro e w15 ⟨rfl, hb15⟩
    have hb015 := Below.step hb014 hb15
    go_wp2_with fail
    refine (heldStringS_any (loF l).length _ 1 _ (HM11.out.at_.below (Below.step (Below.step (Below.step hb12 hb13) hb14) hb15)) (by decide) (by omega)).mono ?_
    rintro e w16 ⟨rfl, hb16⟩
    go_wp2
    go_ret
    exact ⟨rfl, Below.step hb015 hb16⟩
  · have HR := Lib.hid (show szR 1048576 (l.length + wtU l) = -1 from if_neg (by omega))
    go_enter Tryz.func4, Tryz.ntmps4
    go_wp2_with fail
    refine (szUnitS_any l _ _ _ (H.out.below (by (repeat (first | with_reducible exact Below.refl _ _ | with_reducible assumption | with_reducible refine Below.al ?_ _ | with_reducible refine Below.sc ?_ (by first | exact Nat.le_refl _ | (simp; done) | (simp; omega)) _ | assumption | exact Below.refl _ _ | refine Below.dr ?_ | refine Below.drN ?_ _ | refine Below.step ?_ (by assumption))))) (by omega) (by omega)).mono ?_
    rintro e w1 ⟨rfl, hb1⟩
    have ⟨cw1, fw1⟩ := bcell hb1
    have qw1 := hb1.size
    (try simp at qw1)
    (try have zw1w := bsz (show w.heap.size < w1.heap.size by omega))
    rw [HR.out]
    go_wp2
    go_ret
    exact ⟨rfl, by (repeat (first | with_reducible exact Below.refl _ _ | with_reducible assumption | with_reducible refine Below.al ?_ _ | with_reducible refine Below.sc ?_ (by first | exact Nat.le_refl _ | (simp; done) | (simp; omega)) _ | assumption | exact Below.refl _ _ | refine Below.dr ?_ | refine Below.drN ?_ _ | refine Below.step ?_ (by assumption)))⟩
end Go.Proofs.YtimpkjiglioflaaGreat
namespace Go.Proofs.YtimpkjiglioflaaGreat
open Go.ChangeShapes Go.WideShapes Go.ChangeAt Go.RowKit Go.Joins
theorem own : ownKnob Tryz.prog.godebug = none := by kernel_rfl
theorem laidOut : laidOutB Tryz.prog = true := by kernel_rfl
theorem trodAll_stays {H : Type} {enc : TypeId × Value → H} {P : Program} (hl : laidOutB P = true) {W W' : World} {sp : Nat → Bool} : ∀ (ts : List TypeId) (vs : List Value) (ds : List (DataW H)) (ps : List MemPlace),
    (∀ t ∈ ts, P.readableRec t = true ∧ t < P.types.size) → DataW.TrodAll enc P W 0 (fun _ => true) true ts vs ds ps → (∀ x ∈ ps, W.sameAt W' x) → (∀ x ∈ ps, sp x.block = true) → DataW.TrodAll enc P W' 0 sp true ts vs ds ps
  | [], vs, ds, ps, _, h, _, _ => by
    cases vs <;> cases ds <;> simp_all [DataW.TrodAll]
  | t :: ts, [], ds, ps, _, h, _, _ => by simp [DataW.TrodAll] at h
  | t :: ts, v :: vs, [], ps, _, h, _, _ => by simp [DataW.TrodAll] at h
  | t :: ts, v :: vs, d :: ds, ps, ht, h, hs, hp => by
    obtain ⟨p, q, h1, h2, rfl⟩ := h
    exact ⟨p, q, WideElems.Trod_stays hl (ht t (by simp)).1 (ht t (by simp)).2 h1 (fun x hx => hs x (by simp [hx])) (fun x hx => hp x (by simp [hx])),
      trodAll_stays hl ts vs ds q (fun t h => ht t (by simp [h])) h2 (fun x hx => hs x (by simp [hx])) (fun x hx => hp x (by simp [hx])), rfl⟩
/-- The row's last step, the same for every law: it answers true, nothing that was there has turned. -/
theorem close_true {H : Type} {enc : TypeId × Value → H} {f : Func} {s : ChangeSpec} {W W' : World} {args : Array Value} {ds gs : List (DataW H)} {before : List MemPlace}
    (hW : DataW.Whole enc Tryz.prog f.params.toList s.vars false W args.toList ds gs before) (hv : s.vars = []) (hr : f.resultTypes = #[4])
    (hp : f.params.toList.all (fun t => Tryz.prog.readableRec t && decide (t < Tryz.prog.types.size)) = true) (hfn : s.fn H ds = { results := [.lit (.bool true)], args := ds }) (hb : Below W.heap.size W W') :
    s.post enc Tryz.prog f false true false false W args (.bool true) W' := by
  have hW2 := hW
  have hlt : ∀ p ∈ before, p.block < W.heap.size := fun p hp => hW.lt p hp
  obtain ⟨p, q, hA, hV, rfl, _, _⟩ := hW2
  rw [hv] at hV
  obtain ⟨rfl, rfl⟩ := trodVars_none hV
  rw [List.append_nil] at hlt
  refine ⟨ds, [], p ++ [], [], p, [], hW, ?_, ?_, ?_, hb.frame _, fun h => by cases h⟩
  · rw [List.append_nil, hfn, hr]; exact trodAll_mk1 (shut_bool Tryz.underlying4 true)
  · rw [List.append_nil, hfn]
    refine trodAll_stays laidOut _ _ _ _ (fun t ht => ?_) hA (fun x hx => hb.same (hlt x hx)) (fun x hx => by simpa using hlt x hx)
    have := List.all_eq_true.1 hp t ht
    simpa using this
  · rw [List.append_nil, hfn, hv]; rfl
end Go.Proofs.YtimpkjiglioflaaGreat
namespace Go.Proofs.YtimpkjiglioflaaGreat
open Go.RowKit Go.ChangeShapes Go.WideShapes
theorem addr_addN (b o : Nat) (i : Nat) : (⟨b, o, none⟩ : Addr).add i = ⟨b, o + i, none⟩ := by unfold Addr.add; split <;> simp_all
theorem spot_none {w : World} {a : Addr} {v : Value} (h : w.cell? a = some v) : a.spot = none := by
  unfold World.cell? at h
  split at h
  · split at h
    · cases h
    · rename_i hs; simpa using hs
  · cases h
abbrev Old (w : World) : Nat → Prop := fun b => b < w.heap.size
section
variable {H : Type} {enc : TypeId × Value → H} {P : Program} {w : World} {base : Nat} {sp : Nat → Bool} {held : Bool}
theorem listAt_open {α : Type} {R : α → List Value → Prop} {ts e : TypeId} {n fuel : Nat} {cs : List Value} {x : DataW H × List MemPlace} (ht : P.underlying ts = some (.slice e)) (hC : P.cellsOf e = n) (hn : 0 < n)
    (h : DataW.trod enc P w base sp held fuel ts cs = some x) (he : ∀ k cs y, k + 1 = fuel → DataW.trod enc P w base sp held k e cs = some y → ∃ t, R t cs) : ∃ v xs, cs = [v] ∧ ListAt (Old w) w n R v xs := by
  rcases DataW.trod_slice ht h with ⟨rfl, _⟩ | ⟨a, len, cap, elems, rest, m, rfl, rfl, rfl, hb, hl, hm, hlen, hel, _, _⟩
  · exact ⟨_, [], rfl, ListAt.nil _ _ _ _ _ _⟩
  · rw [hC] at hel
    have key : ∀ i : Fin len, ∃ (t : α) (c' : List Value), w.cells? base (a.add (i.val * n)) n = some c' ∧ R t c' := by
      intro i
      have h1 := hel i.val i.isLt
      rw [List.getElem?_eq_getElem (by rw [hlen]; exact i.isLt)] at h1
      obtain ⟨c', h2, h3⟩ := Option.bind_eq_some_iff.1 h1
      obtain ⟨t, h4⟩ := he m c' _ rfl h3
      exact ⟨t, c', h2, h4⟩
    refine ⟨_, List.ofFn (fun i => Classical.choose (key i)), rfl, some a, cap, by rw [List.length_ofFn], by rw [List.length_ofFn]; exact Nat.le_trans hl hm, fun i t hi => ?_⟩
    have hlt : i < len := by have := (List.getElem?_eq_some_iff.1 hi).1; simpa using this
    rw [List.getElem?_eq_getElem (by simpa using hlt), List.getElem_ofFn] at hi
    have ht' := Option.some.inj hi
    obtain ⟨c', h2, h4⟩ := Classical.choose_spec (key ⟨i, hlt⟩)
    rw [ht'] at h4
    obtain ⟨_, hcl, hcell⟩ := World.cells?_some h2
    obtain ⟨b, o, s⟩ := a
    have h0 := hcell 0 hn
    rw [List.getElem?_eq_getElem (by omega)] at h0
    have hs : s = none := by
      obtain ⟨c0, k2, _⟩ := Classical.choose_spec (key ⟨0, by omega⟩)
      obtain ⟨_, kl, kc⟩ := World.cells?_some k2
      have k0 := kc 0 hn
      rw [List.getElem?_eq_getElem (by omega)] at k0
      have := spot_none k0
      simpa [Addr.add] using this
    subst hs
    simp only [addr_addN] at hcell h0
    refine ⟨b, o, rfl, World.block_lt_of_cell? w _ h0, c', hcl, fun j hj => ?_, h4⟩
    have := hcell j hj
    exact this
end
section
variable {H : Type} {enc : TypeId × Value → H} {w : World} {base : Nat} {sp : Nat → Bool} {held : Bool}
set_option maxRecDepth 100000 in
theorem cellsStr : Tryz.prog.cellsOf 9 = 1 := by kernel_rfl
theorem strOne {fuel : Nat} {c : Value} {x : DataW H × List MemPlace} (h : DataW.trod enc Tryz.prog w base sp held fuel 9 [c] = some x) : ∃ s : ByteArray, c = .string s ∧ s.size ≤ maxLen := by
  obtain ⟨s, e, rfl, hs⟩ := DataW.trod_string Tryz.underlying9 h
  simp at e
  subst e
  exact ⟨s, rfl, hs⟩
end
end Go.Proofs.YtimpkjiglioflaaGreat
namespace Go.Proofs.YtimpkjiglioflaaGreat
open Go.RowKit Go.ChangeShapes Go.WideShapes
section
variable {H : Type} {enc : TypeId × Value → H} {w : World} {base : Nat} {sp : Nat → Bool} {held : Bool}
set_option maxRecDepth 100000 in
theorem cellsStrs : Tryz.prog.cellsOf 29 = 1 := by kernel_rfl
set_option maxRecDepth 100000 in
theorem cellsUnit : Tryz.prog.cellsOf 42 = 4 := by kernel_rfl
set_option maxRecDepth 100000 in
theorem strs_open {fuel : Nat} {c : Value} {x : DataW H × List MemPlace} (h : DataW.trod enc Tryz.prog w base sp held fuel 29 [c] = some x) : ∃ us, StrsAt (Old w) w c us := by
  obtain ⟨v, us, hv, hL⟩ := listAt_open (R := StrAt) Tryz.underlying29 cellsStr (by decide) h (fun k cs y hk hy => by
    obtain ⟨s, e, rfl, hs⟩ := DataW.trod_string Tryz.underlying9 hy
    exact ⟨s, e, hs⟩)
  cases hv
  exact ⟨us, hL⟩
set_option maxRecDepth 100000 in
theorem unit_open (fuel : Nat) (cs : List Value) (x : DataW H × List MemPlace) (h : DataW.trod enc Tryz.prog w base sp held fuel 42 cs = some x) : ∃ u, UnAt (Old w) w u cs := by
  obtain ⟨ys, n, rfl, _, hl, hyl, hf⟩ := DataW.trod_struct Tryz.underlying42 h
  rw [cellsUnit] at hl
  match cs, hl with
  | [c0, c1, c2, c3], _ =>
    have h0 := hf 0 _ rfl
    have h1 := hf 1 _ rfl
    have h2 := hf 2 _ rfl
    have h3 := hf 3 _ rfl
    rw [List.getElem?_eq_getElem (by rw [hyl]; decide)] at h0 h1 h2 h3
    obtain ⟨z0, h0'⟩ : ∃ z, DataW.trod enc Tryz.prog w base sp held n 9 [c0] = some z := ⟨ys[0]'(by rw [hyl]; decide), by rw [← h0]; simp [cellsStr]⟩
    obtain ⟨z1, h1'⟩ : ∃ z, DataW.trod enc Tryz.prog w base sp held n 29 [c1] = some z := ⟨ys[1]'(by rw [hyl]; decide), by rw [← h1]; simp [cellsStrs]⟩
    obtain ⟨z2, h2'⟩ : ∃ z, DataW.trod enc Tryz.prog w base sp held n 29 [c2] = some z := ⟨ys[2]'(by rw [hyl]; decide), by rw [← h2]; simp [cellsStrs]⟩
    obtain ⟨z3, h3'⟩ : ∃ z, DataW.trod enc Tryz.prog w base sp held n 9 [c3] = some z := ⟨ys[3]'(by rw [hyl]; decide), by rw [← h3]; simp [cellsStr]⟩
    obtain ⟨s, rfl, hs⟩ := strOne h0'
    obtain ⟨us, hus⟩ := strs_open h1'
    obtain ⟨axl, has⟩ := strs_open h2'
    obtain ⟨g, rfl, hg⟩ := strOne h3'
    exact ⟨⟨s, us, axl, g⟩, _, _, rfl, hs, hg, hus, has⟩
set_option maxRecDepth 100000 in
theorem units_arg {v : Value} {d : DataW H} {p : List MemPlace} {r : Reach} {b0 : Nat} (hv : Value.okWide Tryz.prog w r b0 22 v) (h : DataW.Trod enc Tryz.prog w base sp held 22 v d p) :
    ∃ us, UnsAt (Old w) w v us := by
  obtain ⟨a, len, cap, rfl⟩ := okWide_slice Tryz.underlying22 hv
  obtain ⟨fuel, hf⟩ := h
  obtain ⟨v, us, hv, hL⟩ := listAt_open (R := UnAt (Old w) w) Tryz.underlying22 cellsUnit (by decide) hf (fun k cs y hk hy => unit_open k cs y hy)
  cases hv
  exact ⟨us, hL⟩
end
end Go.Proofs.YtimpkjiglioflaaGreat
namespace Go.Proofs.YtimpkjiglioflaaGreat.fnExactLoadOrderLaw
open Go.ChangeShapes Go.WideShapes Go.ChangeAt Go.RowKit Go.Joins Go.ChangeMaps
set_option maxRecDepth 100000 in
theorem contract (H : Type) (enc : TypeId × Value → H) (W : World) (base : Nat) (args : Array Value) (ds gs : List (DataW H)) (before : List MemPlace)
    (hval : ∀ (j : Nat) t v, Tryz.f4.params[j]? = some t → args[j]? = some v → Value.okWide Tryz.prog W .any base t v)
    (hW : DataW.Whole enc Tryz.prog Tryz.f4.params.toList Rows.fnExactLoadOrderSpec.vars false W args.toList ds gs before) :
    Calls Tryz.prog 4 args W fun e W' => ∃ v, e = .returned v ∧ Rows.fnExactLoadOrderSpec.post enc Tryz.prog Tryz.f4 false true false false W args v W' := by
  have hW' := hW
  obtain ⟨p, q, hA0, hV, rfl, hfz, hnd⟩ := hW
  have hA : DataW.TrodAll enc Tryz.prog W 0 (fun _ => true) true Tryz.f4.params.toList args.toList ds p := hA0
  rw [Tryz.params4] at hA hval
  obtain ⟨v0, vs0, d0, ds0, p0, q0, hargs, rfl, rfl, h0, r0⟩ := trodAll_cons hA
  obtain ⟨rfl, rfl, rfl⟩ := trodAll_nil r0
  obtain rfl : args = #[v0] := Array.ext' hargs
  obtain ⟨us0, ht0⟩ := units_arg (hval 0 22 v0 rfl rfl) h0
  clear hA0
  refine (exactLO us0 v0 W ht0).mono fun e W' ⟨he, hb⟩ => ?_
  subst he
  exact ⟨_, rfl, close_true hW' rfl (by kernel_rfl) (by kernel_rfl) rfl hb⟩
set_option maxRecDepth 100000 in
theorem lifted (os : Os) (started : os.Started) (H : Type) (enc : TypeId × Value → H) :
    ReturnsInHanded {} Tryz.checked os 4 .any (Rows.fnExactLoadOrderSpec.pre6 enc Tryz.prog Tryz.f4 Rows.fnExactLoadOrderRow.domain false) (Rows.fnExactLoadOrderSpec.post enc Tryz.prog Tryz.f4 false true false false) := by
  refine returnsInHanded_of_change (C := Tryz.checked) own started (by kernel_rfl) Tryz.func4
    (ChangeSpec.witness6 (enc := enc) (C := Tryz.checked) false ⟨#[], #[.slice none 0 0], []⟩ 8 (by kernel_rfl) (by kernel_rfl) (by kernel_rfl) (by kernel_rfl)) ?_
  intro W base args ds gs before hval hW _ _
  exact contract H enc W base args ds gs before hval hW
theorem said : Rows.FnExactLoadOrderSaid :=
  OpenClaim.holds_of_wide 4 Tryz.f4 rfl rfl rfl rfl rfl rfl rfl ⟨rfl, rfl, rfl, rfl, rfl⟩ rfl rfl rfl rfl rfl (by kernel_rfl) Tryz.func4 (by kernel_rfl)
    (of_decide_eq_true (by kernel_rfl)) (by unfold Func.isWrapper; first | (rw [if_pos (by decide +kernel)]; kernel_rfl) | (rw [if_neg (by decide +kernel)]; exact ⟨rfl, rfl⟩))
    (fun os started H enc _ => lifted os started H enc)
end Go.Proofs.YtimpkjiglioflaaGreat.fnExactLoadOrderLaw
