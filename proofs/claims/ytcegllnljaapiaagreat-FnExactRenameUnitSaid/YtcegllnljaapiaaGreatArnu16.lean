/- 'FnExactRenameUnit': the law is true for all arguments. -/
import Derived.OpenShut
import Derived.JoinedCond
import Derived.Deep.DeepHandedRow
import Derived.Lib.SmallJoins
import Derived.Stop.LaidErr
import Derived.ChangeSlices
import Derived.Test.YtcegllnljaapiaaGreatArnu1
import Derived.Test.YtcegllnljaapiaaGreatArnu11
import Derived.Test.YtcegllnljaapiaaGreatArnu13
import Derived.Test.YtcegllnljaapiaaGreatArnu14
import Derived.Test.YtcegllnljaapiaaGreatArnu15
namespace Go.Proofs.YtcegllnljaapiaaGreat
open Go.RowKit
theorem mkd_incs (a : Un) (q : Nat) : (a.mkd q).incs.length = a.incs.length := marksL_len _ _
theorem mkd_axs (a : Un) (q : Nat) : (a.mkd q).axs.length = a.axs.length := marksL_len _ _
set_option maxRecDepth 100000 in
set_option maxHeartbeats 3200000 in
theorem heldUnitS_any {B : Nat → Prop} (us : List Un) (v : Value) (k : Nat) (w : World) (h : UnsAt B w v (mksU k us)) (hk : 0 < k) (hb0 : k + ctU us ≤ 100000000) :
  Calls Tryz.prog 23 #[v, .int .i64 (k : Nat)] w fun e w' => e = .returned (.int .i64 ((k + ctU us : Nat) : Int)) ∧ Below w.heap.size w w' := by
  obtain ⟨p, c, rfl, hlen⟩ := h.form
  unfold maxLen at hlen
  rw [mksU_len] at h hlen ⊢
  have HL := Lib.hid h
  clear h
  go_enter Tryz.func23, Tryz.ntmps23
  go_wp2
  go_loopw [1, 5] (fun kv i wr => ∃ j : Nat, i = .int .i64 (j : Nat) ∧ kv = .int .i64 ((k + ctU (us.take j) : Nat) : Int) ∧ j ≤ us.length ∧ Below w.heap.size w wr) (fun _ i _ => us.length - (intOf i).toNat)
  case atStart => exact ⟨0, rfl, rfl, Nat.zero_le _, by (repeat (first | with_reducible exact Below.refl _ _ | with_reducible assumption | with_reducible refine Below.al ?_ _ | with_reducible refine Below.sc ?_ (by first | exact Nat.le_refl _ | (simp; done) | (simp; omega)) _ | assumption | exact Below.refl _ _ | refine Below.dr ?_ | refine Below.drN ?_ _ | refine Below.step ?_ (by assumption)))⟩
  case round =>
    obtain ⟨j, rfl, rfl, hju, hb⟩ := hrel
    by_cases hlt : j < us.length
    · have hl := HL.out.below hb
      obtain ⟨b, o, rfl, hB, p1, c1, p2, c2, hx0, hx1, hx2, hx3, hx⟩ := UnsAt.at_ hl (i := j) (by rw [mksU_len]; exact hlt)
      have hxe : (mksU k us)[j]'(by rw [mksU_len]; exact hlt) = us[j].mkd (k + ctU (us.take j)) := by have := mksU_at k us j hlt; rw [List.getElem?_eq_getElem (by rw [mksU_len]; exact hlt)] at this; exact Option.some.inj this
      have hct := ctU_take hlt
      have hcl2 := ctU_le us (j + 1)
      rw [hxe] at hx hx0 hx1 hx2 hx3
      obtain ⟨a, ha⟩ : ∃ a, us[j] = a := ⟨_, rfl⟩
      rw [ha] at hx hx0 hx1 hx2 hx3 hct
      have hca : a.ct = 2 + a.incs.length + a.axs.length := rfl
      obtain ⟨q, hq⟩ : ∃ q, k + ctU (us.take j) = q := ⟨_, rfl⟩
      have hct2 : k + ctU (us.take (j + 1)) = q + a.ct := by omega
      rw [hq] at hx hx0 hx1 hx2 hx3 ⊢
      obtain ⟨_, _, _, _, -, r1, r2, -, -, -, -, -, hi, has⟩ := hx.form
      simp only [Value.slice.injEq, true_and] at r1 r2
      obtain ⟨rfl, rfl⟩ := r1
      obtain ⟨rfl, rfl⟩ := r2
      rw [mkd_incs] at hx1 hi
      rw [mkd_axs] at hx2 has
      have HI := Lib.hid (show StrsAt B wr (.slice p1 a.incs.length c1) (marksL (q + 1) a.incs.length) from hi)
      have HA := Lib.hid (show StrsAt B wr (.slice p2 a.axs.length c2) (marksL (q + 1 + a.incs.length) a.axs.length) from has)
      have x0 : wr.cell? ⟨b, o + j * 4, none⟩ = some (.string (markB q)) := hx0
      have x3 : wr.cell? ⟨b, o + j * 4 + 3, none⟩ = some (.string (markB (q + 1 + a.incs.length + a.axs.length))) := hx3
      have HQ := Lib.hid hct2
      have zb := bsz (World.block_lt_of_cell? _ _ hx0)
      clear hl hxe ha hx hx0 hx3 hi has hct hct2
      have hq0 : 0 < q := by omega
      have hqb : q + a.ct ≤ 100000000 := by have := HQ.out; omega
      clear hq hcl2
      go_wp2
      obtain ⟨C, HC0⟩ := class_of (InF wr.heap.size _ [(⟨b, o + j * 4, none⟩, .string (markB q))] [] [])
      have HC := Lib.hid HC0
      clear HC0
      refine wp_region_flow (C := C) (by kernel_rfl) (by kernel_rfl) (fun L hL => (HC.out _ _).2 (InF.start (by first | (intro _ hs; cases hs; done) | (simp only [List.forall_mem_cons]; go_simp)) (by first | (intro _ hs; cases hs; done) | (simp only [List.forall_mem_cons]; go_simp)) (by first | (intro _ hs; cases hs; done) | (simp only [List.forall_mem_cons]; go_simp)) (by first | (intro _ hs; cases hs; done) | (simp only [List.forall_mem_cons]; go_simp)) L hL)) ?_
      repeat (first | (apply flow_free rfl; (intro L w' hun hrd hC; have hC := (HC.out _ _).1 hC; have hb' := hC.below; (try have hw' : Below w.heap.size w w' := by first | exact Below.trans (by (repeat (first | with_reducible exact Below.refl _ _ | with_reducible assumption | with_reducible refine Below.al ?_ _ | with_reducible refine Below.sc ?_ (by first | exact Nat.le_refl _ | (simp; done) | (simp; omega)) _ | assumption | exact Below.refl _ _ | refine Below.dr ?_ | refine Below.drN ?_ _ | refine Below.step ?_ (by assumption)))) hb' | ((repeat (first | with_reducible exact Below.refl _ _ | with_reducible assumption | with_reducible refine Below.al ?_ _ | with_reducible refine Below.sc ?_ (by first | exact Nat.le_refl _ | (simp; done) | (simp; omega)) _ | assumption | exact Below.refl _ _ | refine Below.dr ?_ | refine Below.drN ?_ _ | refine Below.step ?_ (by assumption))); done)); have hf' := hC.cell; (try simp only [List.forall_mem_cons] at hf'); go_simp; first | exact ⟨(HC.out _ _).2 (hC.skip _ (by rfl)), rfl⟩ | (rw [if_neg]; (exact ⟨(HC.out _ _).2 (hC.skip _ (by rfl)), rfl⟩); omega) | (go_at_call 54; refine (markText_any q _ (by omega) (by omega)).mono ?_; rintro e w1 ⟨rfl, hb1⟩; exact ⟨rfl, (HC.out _ _).2 ((hC.next (by first | (simp; done) | (simp; omega) | omega) hb1).skip _ (by rfl))⟩)); go_simp) | (apply flow_yes; (case hw => go_simp); (intro L w' hun hrd hC; have hC := (HC.out _ _).1 hC; have hb' := hC.below; (try have hw' : Below w.heap.size w w' := by first | exact Below.trans (by (repeat (first | with_reducible exact Below.refl _ _ | with_reducible assumption | with_reducible refine Below.al ?_ _ | with_reducible refine Below.sc ?_ (by first | exact Nat.le_refl _ | (simp; done) | (simp; omega)) _ | assumption | exact Below.refl _ _ | refine Below.dr ?_ | refine Below.drN ?_ _ | refine Below.step ?_ (by assumption)))) hb' | ((repeat (first | with_reducible exact Below.refl _ _ | with_reducible assumption | with_reducible refine Below.al ?_ _ | with_reducible refine Below.sc ?_ (by first | exact Nat.le_refl _ | (simp; done) | (simp; omega)) _ | assumption | exact Below.refl _ _ | refine Below.dr ?_ | refine Below.drN ?_ _ | refine Below.step ?_ (by assumption))); done)); have hf' := hC.cell; (try simp only [List.forall_mem_cons] at hf'); go_simp; first | exact ⟨(HC.out _ _).2 (hC.skip _ (by rfl)), rfl⟩ | (rw [if_neg]; (exact ⟨(HC.out _ _).2 (hC.skip _ (by rfl)), rfl⟩); omega) | (go_at_call 54; refine (markText_any q _ (by omega) (by omega)).mono ?_; rintro e w1 ⟨rfl, hb1⟩; exact ⟨rfl, (HC.out _ _).2 ((hC.next (by first | (simp; done) | (simp; omega) | omega) hb1).skip _ (by rfl))⟩)); go_simp) | (apply flow_no; (case hw => (go_simp; try (intro hh; cases hh))); (intro L w' _ _ hC; exact (HC.out _ _).2 (((HC.out _ _).1 hC).skip _ (by rfl))); go_simp))
      refine flow_nil ?_
      intro L wz hL hz
      have hz := (HC.out _ _).1 hz
      have hbz := hz.below
      have hcz := hz.cell
      try simp only [List.forall_mem_cons] at hcz
      have hdz := hz.done
      try simp only [List.forall_mem_cons] at hdz
      (try have hwz : Below w.heap.size w wz := by first | exact Below.trans (by (repeat (first | with_reducible exact Below.refl _ _ | with_reducible assumption | with_reducible refine Below.al ?_ _ | with_reducible refine Below.sc ?_ (by first | exact Nat.le_refl _ | (simp; done) | (simp; omega)) _ | assumption | exact Below.refl _ _ | refine Below.dr ?_ | refine Below.drN ?_ _ | refine Below.step ?_ (by assumption)))) hbz | ((repeat (first | with_reducible exact Below.refl _ _ | with_reducible assumption | with_reducible refine Below.al ?_ _ | with_reducible refine Below.sc ?_ (by first | exact Nat.le_refl _ | (simp; done) | (simp; omega)) _ | assumption | exact Below.refl _ _ | refine Below.dr ?_ | refine Below.drN ?_ _ | refine Below.step ?_ (by assumption))); done))
      have hbA := hbz
      have y1 := (hbz.cell (p := ⟨b, o + j * 4 + 1, none⟩) zb.1).trans hx1
      have y2 := (hbz.cell (p := ⟨b, o + j * 4 + 2, none⟩) zb.1).trans hx2
      have y3 := (hbz.cell (p := ⟨b, o + j * 4 + 3, none⟩) zb.1).trans x3
      have zz := bsz (World.block_lt_of_cell? _ _ y1)
      have hlt0 : ¬ ((q : Int) + 1 + (a.incs.length : Int) < 0) := by omega
      have hlt1 : ¬ ((q : Int) + 1 + (a.incs.length : Int) + (a.axs.length : Int) < 0) := by omega
      go_wp2_with fail
      rw [show ((q : Int) + 1) = ((q + 1 : Nat) : Int) by omega]
      refine (heldStringS_any a.incs.length _ (q + 1) _ (HI.out.below hbz) (by omega) (by omega)).mono ?_
      rintro e w2 ⟨rfl, hb2⟩
      have t2 := (hb2.cell (p := ⟨b, o + j * 4 + 2, none⟩) zz.1).trans y2
      have t3 := (hb2.cell (p := ⟨b, o + j * 4 + 3, none⟩) zz.1).trans y3
      have z2 := bsz (World.block_lt_of_cell? _ _ t2)
      rw [show ((q + 1 + a.incs.length : Nat) : Int) = (q : Int) + 1 + (a.incs.length : Int) by omega]
      go_wp2_with fail
      rw [show ((q : Int) + 1 + (a.incs.length : Int)) = ((q + 1 + a.incs.length : Nat) : Int) by omega]
      refine (heldStringS_any a.axs.length _ (q + 1 + a.incs.length) _ ((HA.out.below hbz).below hb2) (by omega) (by omega)).mono ?_
      rintro e w3 ⟨rfl, hb3⟩
      have s3 := (hb3.cell (p := ⟨b, o + j * 4 + 3, none⟩) z2.1).trans t3
      have z3 := bsz (World.block_lt_of_cell? _ _ s3)
      rw [show ((q + 1 + a.incs.length + a.axs.length : Nat) : Int) = (q : Int) + 1 + (a.incs.length : Int) + (a.axs.length : Int) by omega]
      clear hcz
      go_wp2
      have hqq : (q : Int) + 1 + (a.incs.length : Int) + (a.axs.length : Int) = ((q + 1 + a.incs.length + a.axs.length : Nat) : Int) := by omega
      have HQQ := Lib.hid hqq
      clear hqq
      obtain ⟨C, HC0⟩ := class_of (InF w3.heap.size _ [(⟨b, o + j * 4 + 3, none⟩, .string (markB (q + 1 + a.incs.length + a.axs.length)))] [] [])
      have HC := Lib.hid HC0
      clear HC0
      refine wp_region_flow (C := C) (by kernel_rfl) (by kernel_rfl) (fun L hL => (HC.out _ _).2 (InF.start (by first | (intro _ hs; cases hs; done) | (simp only [List.forall_mem_cons]; go_simp)) (by first | (intro _ hs; cases hs; done) | (simp only [List.forall_mem_cons]; go_simp)) (by first | (intro _ hs; cases hs; done) | (simp only [List.forall_mem_cons]; go_simp)) (by first | (intro _ hs; cases hs; done) | (simp only [List.forall_mem_cons]; go_simp)) L hL)) ?_
      repeat (first | (apply flow_free rfl; (intro L w' hun hrd hC; have hC := (HC.out _ _).1 hC; have hb' := hC.below; (try have hw' : Below w.heap.size w w' := by first | exact Below.trans (by (repeat (first | with_reducible exact Below.refl _ _ | with_reducible assumption | with_reducible refine Below.al ?_ _ | with_reducible refine Below.sc ?_ (by first | exact Nat.le_refl _ | (simp; done) | (simp; omega)) _ | assumption | exact Below.refl _ _ | refine Below.dr ?_ | refine Below.drN ?_ _ | refine Below.step ?_ (by assumption)))) hb' | ((repeat (first | with_reducible exact Below.refl _ _ | with_reducible assumption | with_reducible refine Below.al ?_ _ | with_reducible refine Below.sc ?_ (by first | exact Nat.le_refl _ | (simp; done) | (simp; omega)) _ | assumption | exact Below.refl _ _ | refine Below.dr ?_ | refine Below.drN ?_ _ | refine Below.step ?_ (by assumption))); done)); have hf' := hC.cell; (try simp only [List.forall_mem_cons] at hf'); go_simp; first | exact ⟨(HC.out _ _).2 (hC.skip _ (by rfl)), rfl⟩ | (rw [if_neg]; (exact ⟨(HC.out _ _).2 (hC.skip _ (by rfl)), rfl⟩); omega) | (go_at_call 54; rw [HQQ.out]; refine (markText_any (q + 1 + a.incs.length + a.axs.length) _ (by omega) (by omega)).mono ?_; rintro e w1 ⟨rfl, hb1⟩; exact ⟨rfl, (HC.out _ _).2 ((hC.next (by first | (simp; done) | (simp; omega) | omega) hb1).skip _ (by rfl))⟩)); go_simp) | (apply flow_yes; (case hw => go_simp); (intro L w' hun hrd hC; have hC := (HC.out _ _).1 hC; have hb' := hC.below; (try have hw' : Below w.heap.size w w' := by first | exact Below.trans (by (repeat (first | with_reducible exact Below.refl _ _ | with_reducible assumption | with_reducible refine Below.al ?_ _ | with_reducible refine Below.sc ?_ (by first | exact Nat.le_refl _ | (simp; done) | (simp; omega)) _ | assumption | exact Below.refl _ _ | refine Below.dr ?_ | refine Below.drN ?_ _ | refine Below.step ?_ (by assumption)))) hb' | ((repeat (first | with_reducible exact Below.refl _ _ | with_reducible assumption | with_reducible refine Below.al ?_ _ | with_reducible refine Below.sc ?_ (by first | exact Nat.le_refl _ | (simp; done) | (simp; omega)) _ | assumption | exact Below.refl _ _ | refine Below.dr ?_ | refine Below.drN ?_ _ | refine Below.step ?_ (by assumption))); done)); have hf' := hC.cell; (try simp only [List.forall_mem_cons] at hf'); go_simp; first | exact ⟨(HC.out _ _).2 (hC.skip _ (by rfl)), rfl⟩ | (rw [if_neg]; (exact ⟨(HC.out _ _).2 (hC.skip _ (by rfl)), rfl⟩); omega) | (go_at_call 54; rw [HQQ.out]; refine (markText_any (q + 1 + a.incs.length + a.axs.length) _ (by omega) (by omega)).mono ?_; rintro e w1 ⟨rfl, hb1⟩; exact ⟨rfl, (HC.out _ _).2 ((hC.next (by first | (simp; done) | (simp; omega) | omega) hb1).skip _ (by rfl))⟩)); go_simp) | (apply flow_no; (case hw => (go_simp; try (intro hh; cases hh))); (intro L w' _ _ hC; exact (HC.out _ _).2 (((HC.out _ _).1 hC).skip _ (by rfl))); go_simp))
      refine flow_nil ?_
      intro L wz hL hz
      have hz := (HC.out _ _).1 hz
      have hbz := hz.below
      have hcz := hz.cell
      try simp only [List.forall_mem_cons] at hcz
      have hdz := hz.done
      try simp only [List.forall_mem_cons] at hdz
      (try have hwz : Below w.heap.size w wz := by first | exact Below.trans (by (repeat (first | with_reducible exact Below.refl _ _ | with_reducible assumption | with_reducible refine Below.al ?_ _ | with_reducible refine Below.sc ?_ (by first | exact Nat.le_refl _ | (simp; done) | (simp; omega)) _ | assumption | exact Below.refl _ _ | refine Below.dr ?_ | refine Below.drN ?_ _ | refine Below.step ?_ (by assumption)))) hbz | ((repeat (first | with_reducible exact Below.refl _ _ | with_reducible assumption | with_reducible refine Below.al ?_ _ | with_reducible refine Below.sc ?_ (by first | exact Nat.le_refl _ | (simp; done) | (simp; omega)) _ | assumption | exact Below.refl _ _ | refine Below.dr ?_ | refine Below.drN ?_ _ | refine Below.step ?_ (by assumption))); done))
      go_wp2
      exact ⟨⟨j + 1, by go_num, congrArg (Value.int .i64) (by have := HQ.out; omega), by omega, Below.step (Below.step (Below.step (Below.step hb hbA) hb2) hb3) hbz⟩, by simp [intOf]; omega⟩
    · obtain rfl : j = us.length := by omega
      rw [List.take_length]
      go_wp2
      go_ret
      exact ⟨rfl, hb⟩
end Go.Proofs.YtcegllnljaapiaaGreat
namespace Go.Proofs.YtcegllnljaapiaaGreat
open Go.RowKit
theorem UnsOwn.kept {e eU : TypeId} {S K : Nat → Prop} {w w' : World} {us : List Un} {v : Value} (h : UnsOwn e eU S w us v) (hk : Kept K w w') (hd : ∀ b, S b → ¬ K b) : UnsOwn e eU S w' us v := h.mono (fun b hb hlt => hk.block b hlt (hd b hb)) (fun _ h => h)
theorem ctU_perm {a b : List Un} (h : a.Perm b) : ctU a = ctU b := by
  induction h with
  | nil => rfl
  | cons x _ ih => rw [ctU, ctU, ih]
  | swap x y l => simp only [ctU]; omega
  | trans _ _ h1 h2 => exact h1.trans h2
theorem ctU_ren (old name : ByteArray) : ∀ l : List Un, ctU (l.map (renUn old name)) = ctU l
  | [] => rfl
  | u :: l => by
    rw [List.map_cons, ctU, ctU, ctU_ren old name l]
    have : (renUn old name u).ct = u.ct := by
      show 2 + (canG lessB (renI old name u.incs)).length + u.axs.length = 2 + u.incs.length + u.axs.length
      rw [canG_len, renI_len]
    rw [this]
theorem ctU_renV (l : List Un) (old name : ByteArray) : ctU (renV l old name) ≤ ctU l := by
  rw [renV]
  split
  · rw [renL, ctU_perm (canG_perm _), ctU_ren]; exact Nat.le_refl _
  · exact Nat.zero_le _
set_option maxRecDepth 100000 in
set_option maxHeartbeats 6400000 in
theorem exactRU (l : List Un) (v : Value) (old name : ByteArray) (w : World) (h : UnsAt (fun b => b < w.heap.size) w v l) (_hx : old.size ≤ maxLen) (hy : name.size ≤ maxLen) :
    Calls Tryz.prog 4 #[v, .string old, .string name] w fun e w' => e = .returned (.bool true) ∧ Below w.heap.size w w' := by
  obtain ⟨p, c, rfl, hlen⟩ := h.form
  unfold maxLen at _hx hy
  have H := Lib.hid h
  clear h
  by_cases hxs : (1048576 : Int) < old.size
  · go_enter Tryz.func4, Tryz.ntmps4
    go_wp2
    go_ret
    exact ⟨rfl, by (repeat (first | with_reducible exact Below.refl _ _ | with_reducible assumption | with_reducible refine Below.al ?_ _ | with_reducible refine Below.sc ?_ (by first | exact Nat.le_refl _ | (simp; done) | (simp; omega)) _ | assumption | exact Below.refl _ _ | refine Below.dr ?_ | refine Below.drN ?_ _ | refine Below.step ?_ (by assumption)))⟩
  by_cases hys : (1048576 : Int) < name.size
  · go_enter Tryz.func4, Tryz.ntmps4
    go_wp2
    go_ret
    exact ⟨rfl, by (repeat (first | with_reducible exact Below.refl _ _ | with_reducible assumption | with_reducible refine Below.al ?_ _ | with_reducible refine Below.sc ?_ (by first | exact Nat.le_refl _ | (simp; done) | (simp; omega)) _ | assumption | exact Below.refl _ _ | refine Below.dr ?_ | refine Below.drN ?_ _ | refine Below.step ?_ (by assumption)))⟩
  have hnm : name.size ≤ 1048576 := by omega
  by_cases hw : l.length + wtU l ≤ 1048576
  · have HR := Lib.hid (show szR 1048576 (l.length + wtU l) = 1048576 - ((l.length : Int) + (wtU l : Nat)) by rw [szR, if_pos (by omega)]; omega)
    have hw0 : ¬ (1048576 - ((l.length : Int) + (wtU l : Nat)) < 0) := by omega
    have hpp : (renOk l old name != renOk l old name) = false := by simp
    have hct := ctU_wt l
    have hcr := ctU_renV l old name
    go_enter Tryz.func4, Tryz.ntmps4
    go_wp2_with fail
    refine (szUnitS_any l _ _ _ (H.out.below (by (repeat (first | with_reducible exact Below.refl _ _ | with_reducible assumption | with_reducible refine Below.al ?_ _ | with_reducible refine Below.sc ?_ (by first | exact Nat.le_refl _ | (simp; done) | (simp; omega)) _ | assumption | exact Below.refl _ _ | refine Below.dr ?_ | refine Below.drN ?_ _ | refine Below.step ?_ (by assumption))))) (by omega) (by omega)).mono ?_
    rintro e w1 ⟨rfl, hb1⟩
    have ⟨cw1, fw1⟩ := bcell hb1
    have qw1 := hb1.size
    (try simp at qw1)
    (try have zw1w := bsz (show w.heap.size < w1.heap.size by omega))
    rw [HR.out]
    go_wp2_with fail
    refine (toUnitS_own l _ _ (H.out.below (by (repeat (first | with_reducible exact Below.refl _ _ | with_reducible assumption | with_reducible refine Below.al ?_ _ | with_reducible refine Below.sc ?_ (by first | exact Nat.le_refl _ | (simp; done) | (simp; omega)) _ | assumption | exact Below.refl _ _ | refine Below.dr ?_ | refine Below.drN ?_ _ | refine Below.step ?_ (by assumption))))) hw).mono ?_
    rintro e w2 ⟨g1, rfl, hu1, hb2⟩
    have ⟨cw2, fw2⟩ := bcell hb2
    have qw2 := hb2.size
    (try simp at qw2)
    (try have zw2w := bsz (show w.heap.size < w2.heap.size by omega))
    (try have zw2w1 := bsz (show w1.heap.size < w2.heap.size by omega))
    have HU1 := Lib.hid hu1.at_
    clear hu1
    go_wp2_with fail
    refine (specRU_any l _ old name _ (HU1.out.below (by (repeat (first | with_reducible exact Below.refl _ _ | with_reducible assumption | with_reducible refine Below.al ?_ _ | with_reducible refine Below.sc ?_ (by first | exact Nat.le_refl _ | (simp; done) | (simp; omega)) _ | assumption | exact Below.refl _ _ | refine Below.dr ?_ | refine Below.drN ?_ _ | refine Below.step ?_ (by assumption))))) hw hnm).mono ?_
    rintro e w3 ⟨va, rfl, hva, hb3⟩
    have ⟨cw3, fw3⟩ := bcell hb3
    have qw3 := hb3.size
    (try simp at qw3)
    (try have zw3w := bsz (show w.heap.size < w3.heap.size by omega))
    (try have zw3w1 := bsz (show w1.heap.size < w3.heap.size by omega))
    (try have zw3w2 := bsz (show w2.heap.size < w3.heap.size by omega))
    have HA3 := Lib.hid hva.at_
    obtain ⟨pa, ka, rfl, -⟩ := OwnRow.form hva
    clear hva
    go_wp2_with fail
    refine (toUnitS_own l _ _ (H.out.below (by (repeat (first | with_reducible exact Below.refl _ _ | with_reducible assumption | with_reducible refine Below.al ?_ _ | with_reducible refine Below.sc ?_ (by first | exact Nat.le_refl _ | (simp; done) | (simp; omega)) _ | assumption | exact Below.refl _ _ | refine Below.dr ?_ | refine Below.drN ?_ _ | refine Below.step ?_ (by assumption))))) hw).mono ?_
    rintro e w4 ⟨g2, rfl, hu2, hb4⟩
    have ⟨cw4, fw4⟩ := bcell hb4
    have qw4 := hb4.size
    (try simp at qw4)
    (try have zw4w := bsz (show w.heap.size < w4.heap.size by omega))
    (try have zw4w1 := bsz (show w1.heap.size < w4.heap.size by omega))
    (try have zw4w2 := bsz (show w2.heap.size < w4.heap.size by omega))
    (try have zw4w3 := bsz (show w3.heap.size < w4.heap.size by omega))
    have HU2 := Lib.hid hu2
    clear hu2
    go_wp2_with fail
    refine (implRU_any l _ old name _ (HU2.out.at_.below (by (repeat (first | with_reducible exact Below.refl _ _ | with_reducible assumption | with_reducible refine Below.al ?_ _ | with_reducible refine Below.sc ?_ (by first | exact Nat.le_refl _ | (simp; done) | (simp; omega)) _ | assumption | exact Below.refl _ _ | refine Below.dr ?_ | refine Below.drN ?_ _ | refine Below.step ?_ (by assumption))))) hw hnm).mono ?_
    rintro e w5 ⟨vg, rfl, hg5, hb5⟩
    have ⟨cw5, fw5⟩ := bcell hb5
    have qw5 := hb5.size
    (try simp at qw5)
    (try have zw5w := bsz (show w.heap.size < w5.heap.size by omega))
    (try have zw5w1 := bsz (show w1.heap.size < w5.heap.size by omega))
    (try have zw5w2 := bsz (show w2.heap.size < w5.heap.size by omega))
    (try have zw5w3 := bsz (show w3.heap.size < w5.heap.size by omega))
    (try have zw5w4 := bsz (show w4.heap.size < w5.heap.size by omega))
    have HG5 := Lib.hid hg5
    obtain ⟨pg, kg, rfl, -⟩ := OwnRow.form hg5
    clear hg5
    go_wp2_with fail
    refine (eqUnitS_same (renV l old name) _ _ _ (HG5.out.at_.below (by (repeat (first | with_reducible exact Below.refl _ _ | with_reducible assumption | with_reducible refine Below.al ?_ _ | with_reducible refine Below.sc ?_ (by first | exact Nat.le_refl _ | (simp; done) | (simp; omega)) _ | assumption | exact Below.refl _ _ | refine Below.dr ?_ | refine Below.drN ?_ _ | refine Below.step ?_ (by assumption))))) (HA3.out.below (by (repeat (first | with_reducible exact Below.refl _ _ | with_reducible assumption | with_reducible refine Below.al ?_ _ | with_reducible refine Below.sc ?_ (by first | exact Nat.le_refl _ | (simp; done) | (simp; omega)) _ | assumption | exact Below.refl _ _ | refine Below.dr ?_ | refine Below.drN ?_ _ | refine Below.step ?_ (by assumption)))))).mono ?_
    rintro e w6 ⟨rfl, hb6⟩
    have ⟨cw6, fw6⟩ := bcell hb6
    have qw6 := hb6.size
    (try simp at qw6)
    (try have zw6w := bsz (show w.heap.size < w6.heap.size by omega))
    (try have zw6w1 := bsz (show w1.heap.size < w6.heap.size by omega))
    (try have zw6w2 := bsz (show w2.heap.size < w6.heap.size by omega))
    (try have zw6w3 := bsz (show w3.heap.size < w6.heap.size by omega))
    (try have zw6w4 := bsz (show w4.heap.size < w6.heap.size by omega))
    (try have zw6w5 := bsz (show w5.heap.size < w6.heap.size by omega))
    go_wp2_with fail
    refine (toUnitS_own l _ _ (H.out.below (by (repeat (first | with_reducible exact Below.refl _ _ | with_reducible assumption | with_reducible refine Below.al ?_ _ | with_reducible refine Below.sc ?_ (by first | exact Nat.le_refl _ | (simp; done) | (simp; omega)) _ | assumption | exact Below.refl _ _ | refine Below.dr ?_ | refine Below.drN ?_ _ | refine Below.step ?_ (by assumption))))) hw).mono ?_
    rintro e w7 ⟨g3, rfl, hu3, hb7⟩
    have ⟨cw7, fw7⟩ := bcell hb7
    have qw7 := hb7.size
    (try simp at qw7)
    (try have zw7w := bsz (show w.heap.size < w7.heap.size by omega))
    (try have zw7w1 := bsz (show w1.heap.size < w7.heap.size by omega))
    (try have zw7w2 := bsz (show w2.heap.size < w7.heap.size by omega))
    (try have zw7w3 := bsz (show w3.heap.size < w7.heap.size by omega))
    (try have zw7w4 := bsz (show w4.heap.size < w7.heap.size by omega))
    (try have zw7w5 := bsz (show w5.heap.size < w7.heap.size by omega))
    (try have zw7w6 := bsz (show w6.heap.size < w7.heap.size by omega))
    have HU3 := Lib.hid hu3.at_
    clear hu3
    go_wp2_with fail
    refine (eqUnitS_same l _ _ _ (HU2.out.at_.below (by (repeat (first | with_reducible exact Below.refl _ _ | with_reducible assumption | with_reducible refine Below.al ?_ _ | with_reducible refine Below.sc ?_ (by first | exact Nat.le_refl _ | (simp; done) | (simp; omega)) _ | assumption | exact Below.refl _ _ | refine Below.dr ?_ | refine Below.drN ?_ _ | refine Below.step ?_ (by assumption))))) (HU3.out.below (by (repeat (first | with_reducible exact Below.refl _ _ | with_reducible assumption | with_reducible refine Below.al ?_ _ | with_reducible refine Below.sc ?_ (by first | exact Nat.le_refl _ | (simp; done) | (simp; omega)) _ | assumption | exact Below.refl _ _ | refine Below.dr ?_ | refine Below.drN ?_ _ | refine Below.step ?_ (by assumption)))))).mono ?_
    rintro e w8 ⟨rfl, hb8⟩
    have ⟨cw8, fw8⟩ := bcell hb8
    have qw8 := hb8.size
    (try simp at qw8)
    (try have zw8w := bsz (show w.heap.size < w8.heap.size by omega))
    (try have zw8w1 := bsz (show w1.heap.size < w8.heap.size by omega))
    (try have zw8w2 := bsz (show w2.heap.size < w8.heap.size by omega))
    (try have zw8w3 := bsz (show w3.heap.size < w8.heap.size by omega))
    (try have zw8w4 := bsz (show w4.heap.size < w8.heap.size by omega))
    (try have zw8w5 := bsz (show w5.heap.size < w8.heap.size by omega))
    (try have zw8w6 := bsz (show w6.heap.size < w8.heap.size by omega))
    (try have zw8w7 := bsz (show w7.heap.size < w8.heap.size by omega))
    go_wp2_with fail
    refine (markUnitS_any _ l _ 1 _ (HU2.out.later (by (repeat (first | with_reducible exact Below.refl _ _ | with_reducible assumption | with_reducible refine Below.al ?_ _ | with_reducible refine Below.sc ?_ (by first | exact Nat.le_refl _ | (simp; done) | (simp; omega)) _ | assumption | exact Below.refl _ _ | refine Below.dr ?_ | refine Below.drN ?_ _ | refine Below.step ?_ (by assumption))))) (by decide) (by omega)).mono ?_
    rintro e w9 ⟨rfl, -, hk9⟩
    have hb09 : Below w.heap.size w w9 := Kept.belowB (show Below w.heap.size w w8 by (repeat (first | with_reducible exact Below.refl _ _ | with_reducible assumption | with_reducible refine Below.al ?_ _ | with_reducible refine Below.sc ?_ (by first | exact Nat.le_refl _ | (simp; done) | (simp; omega)) _ | assumption | exact Below.refl _ _ | refine Below.dr ?_ | refine Below.drN ?_ _ | refine Below.step ?_ (by assumption)))) hk9 (fun b hb => by have := hb.1; omega)
    have HG9 := Lib.hid ((HG5.out.later (show Below w5.heap.size w5 w8 by (repeat (first | with_reducible exact Below.refl _ _ | with_reducible assumption | with_reducible refine Below.al ?_ _ | with_reducible refine Below.sc ?_ (by first | exact Nat.le_refl _ | (simp; done) | (simp; omega)) _ | assumption | exact Below.refl _ _ | refine Below.dr ?_ | refine Below.drN ?_ _ | refine Below.step ?_ (by assumption))))).kept hk9 (fun b hb hb' => newB_apart hb' hb (Nat.le_refl _)))
    have HA9 := Lib.hid ((HA3.out.below (show Below w3.heap.size w3 w8 by (repeat (first | with_reducible exact Below.refl _ _ | with_reducible assumption | with_reducible refine Below.al ?_ _ | with_reducible refine Below.sc ?_ (by first | exact Nat.le_refl _ | (simp; done) | (simp; omega)) _ | assumption | exact Below.refl _ _ | refine Below.dr ?_ | refine Below.drN ?_ _ | refine Below.step ?_ (by assumption))))).kept hk9 (fun b hb hb' => newB_apart hb hb' (Nat.le_refl _)))
    have hq9 := hk9.size
    have hkk : ¬ ((1 : Int) + (ctU l : Nat) < 0) := by omega
    have z359 : w3.heap.size ≤ w4.heap.size ∧ w5.heap.size ≤ w9.heap.size := by omega
    clear hk9
    go_wp2_with fail
    refine (eqUnitS_same (renV l old name) _ _ _ HG9.out.at_ HA9.out).mono ?_
    rintro e w10 ⟨rfl, hb10⟩
    have hq10 := hb10.size
    go_wp2_with fail
    refine (markUnitS_any _ (renV l old name) _ 1 _ (HG9.out.later hb10) (by decide) (by omega)).mono ?_
    rintro e w11 ⟨rfl, hm11, hk11⟩
    have HM11 := Lib.hid hm11
    have hb011 : Below w.heap.size w w11 := Kept.belowB (Below.step hb09 hb10) hk11 (fun b hb => by have := hb.1; omega)
    have HA11 := Lib.hid ((HA9.out.below hb10).kept hk11 (fun b hb hb' => newB_apart hb hb' z359.1))
    have hq11 := hk11.size
    clear hm11 hk11
    have hkm : ¬ ((1 : Int) + (ctU (renV l old name) : Nat) < 0) := by omega
    go_wp2_with fail
    refine (heldUnitS_any (renV l old name) _ 1 _ HM11.out.at_ (by decide) (by omega)).mono ?_
    rintro e w12 ⟨rfl, hb12⟩
    have hq12 := hb12.size
    have hb012 := Below.step hb011 hb12
    go_wp2_with fail
    refine (toUnitS_own l _ _ (H.out.below hb012) hw).mono ?_
    rintro e w13 ⟨g4, rfl, hu4, hb13⟩
    have HU4 := Lib.hid hu4.at_
    have hq13 := hb13.size
    have hb013 := Below.step hb012 hb13
    clear hu4
    go_wp2_with fail
    refine (implRU_any l _ old name _ HU4.out hw hnm).mono ?_
    rintro e w14 ⟨vh, rfl, hh14, hb14⟩
    have HH14 := Lib.hid hh14.at_
    obtain ⟨ph, kh, rfl, -⟩ := OwnRow.form hh14
    have hq14 := hb14.size
    have hb014 := Below.step hb013 hb14
    clear hh14
    go_wp2_with fail
    refine (eqUnitS_same (renV l old name) _ _ _ HH14.out (HA11.out.below (Below.step (Below.step hb12 hb13) hb14))).mono ?_
    rintro e w15 ⟨rfl, hb15⟩
    have hb015 := Below.step hb014 hb15
    go_wp2_with fail
    refine (heldUnitS_any (renV l old name) _ 1 _ (HM11.out.at_.below (Below.step (Below.step (Below.step hb12 hb13) hb14) hb15)) (by decide) (by omega)).mono ?_
    rintro e w16 ⟨rfl, hb16⟩
    go_wp2
    go_ret
    exact ⟨rfl, Below.step hb015 hb16⟩
  · have HR := Lib.hid (show szR 1048576 (l.length + wtU l) = -1 from if_neg (by omega))
    go_enter Tryz.func4, Tryz.ntmps4
    go_wp2_with fail
    refine (szUnitS_any l _ _ _ (H.out.below (by (repeat (first | with_reducible exact Below.refl _ _ | with_reducible assumption | with_reducible refine Below.al ?_ _ | with_reducible refine Below.sc ?_ (by first | exact Nat.le_refl _ | (simp; done) | (simp; omega)) _ | assumption | exact Below.refl _ _ | refine Below.dr ?_ | refine Below.drN ?_ _ | refine Below.step ?_ (by assumption))))) (by omega) (by omega)).mono ?_
    rintro e w1 ⟨rfl, hb1⟩
    have ⟨cw1, fw1⟩ := bcell hb1
    have qw1 := hb1.size
    (try simp at qw1)
    (try have zw1w := bsz (show w.heap.size < w1.heap.size by omega))
    rw [HR.out]
    go_wp2
    go_ret
    exact ⟨rfl, by (repeat (first | with_reducible exact Below.refl _ _ | with_reducible assumption | with_reducible refine Below.al ?_ _ | with_reducible refine Below.sc ?_ (by first | exact Nat.le_refl _ | (simp; done) | (simp; omega)) _ | assumption | exact Below.refl _ _ | refine Below.dr ?_ | refine Below.drN ?_ _ | refine Below.step ?_ (by assumption)))⟩
end Go.Proofs.YtcegllnljaapiaaGreat
namespace Go.Proofs.YtcegllnljaapiaaGreat
open Go.ChangeShapes Go.WideShapes Go.ChangeAt Go.RowKit Go.Joins
theorem own : ownKnob Tryz.prog.godebug = none := by kernel_rfl
theorem laidOut : laidOutB Tryz.prog = true := by kernel_rfl
theorem trodAll_stays {H : Type} {enc : TypeId × Value → H} {P : Program} (hl : laidOutB P = true) {W W' : World} {sp : Nat → Bool} : ∀ (ts : List TypeId) (vs : List Value) (ds : List (DataW H)) (ps : List MemPlace),
    (∀ t ∈ ts, P.readableRec t = true ∧ t < P.types.size) → DataW.TrodAll enc P W 0 (fun _ => true) true ts vs ds ps → (∀ x ∈ ps, W.sameAt W' x) → (∀ x ∈ ps, sp x.block = true) → DataW.TrodAll enc P W' 0 sp true ts vs ds ps
  | [], vs, ds, ps, _, h, _, _ => by
    cases vs <;> cases ds <;> simp_all [DataW.TrodAll]
  | t :: ts, [], ds, ps, _, h, _, _ => by simp [DataW.TrodAll] at h
  | t :: ts, v :: vs, [], ps, _, h, _, _ => by simp [DataW.TrodAll] at h
  | t :: ts, v :: vs, d :: ds, ps, ht, h, hs, hp => by
    obtain ⟨p, q, h1, h2, rfl⟩ := h
    exact ⟨p, q, WideElems.Trod_stays hl (ht t (by simp)).1 (ht t (by simp)).2 h1 (fun x hx => hs x (by simp [hx])) (fun x hx => hp x (by simp [hx])),
      trodAll_stays hl ts vs ds q (fun t h => ht t (by simp [h])) h2 (fun x hx => hs x (by simp [hx])) (fun x hx => hp x (by simp [hx])), rfl⟩
/-- The row's last step, the same for every law: it answers true, nothing that was there has turned. -/
theorem close_true {H : Type} {enc : TypeId × Value → H} {f : Func} {s : ChangeSpec} {W W' : World} {args : Array Value} {ds gs : List (DataW H)} {before : List MemPlace}
    (hW : DataW.Whole enc Tryz.prog f.params.toList s.vars false W args.toList ds gs before) (hv : s.vars = []) (hr : f.resultTypes = #[4])
    (hp : f.params.toList.all (fun t => Tryz.prog.readableRec t && decide (t < Tryz.prog.types.size)) = true) (hfn : s.fn H ds = { results := [.lit (.bool true)], args := ds }) (hb : Below W.heap.size W W') :
    s.post enc Tryz.prog f false true false false W args (.bool true) W' := by
  have hW2 := hW
  have hlt : ∀ p ∈ before, p.block < W.heap.size := fun p hp => hW.lt p hp
  obtain ⟨p, q, hA, hV, rfl, _, _⟩ := hW2
  rw [hv] at hV
  obtain ⟨rfl, rfl⟩ := trodVars_none hV
  rw [List.append_nil] at hlt
  refine ⟨ds, [], p ++ [], [], p, [], hW, ?_, ?_, ?_, hb.frame _, fun h => by cases h⟩
  · rw [List.append_nil, hfn, hr]; exact trodAll_mk1 (shut_bool Tryz.underlying4 true)
  · rw [List.append_nil, hfn]
    refine trodAll_stays laidOut _ _ _ _ (fun t ht => ?_) hA (fun x hx => hb.same (hlt x hx)) (fun x hx => by simpa using hlt x hx)
    have := List.all_eq_true.1 hp t ht
    simpa using this
  · rw [List.append_nil, hfn, hv]; rfl
end Go.Proofs.YtcegllnljaapiaaGreat
namespace Go.Proofs.YtcegllnljaapiaaGreat
open Go.RowKit Go.ChangeShapes Go.WideShapes
theorem addr_addN (b o : Nat) (i : Nat) : (⟨b, o, none⟩ : Addr).add i = ⟨b, o + i, none⟩ := by unfold Addr.add; split <;> simp_all
theorem spot_none {w : World} {a : Addr} {v : Value} (h : w.cell? a = some v) : a.spot = none := by
  unfold World.cell? at h
  split at h
  · split at h
    · cases h
    · rename_i hs; simpa using hs
  · cases h
abbrev Old (w : World) : Nat → Prop := fun b => b < w.heap.size
section
variable {H : Type} {enc : TypeId × Value → H} {P : Program} {w : World} {base : Nat} {sp : Nat → Bool} {held : Bool}
theorem listAt_open {α : Type} {R : α → List Value → Prop} {ts e : TypeId} {n fuel : Nat} {cs : List Value} {x : DataW H × List MemPlace} (ht : P.underlying ts = some (.slice e)) (hC : P.cellsOf e = n) (hn : 0 < n)
    (h : DataW.trod enc P w base sp held fuel ts cs = some x) (he : ∀ k cs y, k + 1 = fuel → DataW.trod enc P w base sp held k e cs = some y → ∃ t, R t cs) : ∃ v xs, cs = [v] ∧ ListAt (Old w) w n R v xs := by
  rcases DataW.trod_slice ht h with ⟨rfl, _⟩ | ⟨a, len, cap, elems, rest, m, rfl, rfl, rfl, hb, hl, hm, hlen, hel, _, _⟩
  · exact ⟨_, [], rfl, ListAt.nil _ _ _ _ _ _⟩
  · rw [hC] at hel
    have key : ∀ i : Fin len, ∃ (t : α) (c' : List Value), w.cells? base (a.add (i.val * n)) n = some c' ∧ R t c' := by
      intro i
      have h1 := hel i.val i.isLt
      rw [List.getElem?_eq_getElem (by rw [hlen]; exact i.isLt)] at h1
      obtain ⟨c', h2, h3⟩ := Option.bind_eq_some_iff.1 h1
      obtain ⟨t, h4⟩ := he m c' _ rfl h3
      exact ⟨t, c', h2, h4⟩
    refine ⟨_, List.ofFn (fun i => Classical.choose (key i)), rfl, some a, cap, by rw [List.length_ofFn], by rw [List.length_ofFn]; exact Nat.le_trans hl hm, fun i t hi => ?_⟩
    have hlt : i < len := by have := (List.getElem?_eq_some_iff.1 hi).1; simpa using this
    rw [List.getElem?_eq_getElem (by simpa using hlt), List.getElem_ofFn] at hi
    have ht' := Option.some.inj hi
    obtain ⟨c', h2, h4⟩ := Classical.choose_spec (key ⟨i, hlt⟩)
    rw [ht'] at h4
    obtain ⟨_, hcl, hcell⟩ := World.cells?_some h2
    obtain ⟨b, o, s⟩ := a
    have h0 := hcell 0 hn
    rw [List.getElem?_eq_getElem (by omega)] at h0
    have hs : s = none := by
      obtain ⟨c0, k2, _⟩ := Classical.choose_spec (key ⟨0, by omega⟩)
      obtain ⟨_, kl, kc⟩ := World.cells?_some k2
      have k0 := kc 0 hn
      rw [List.getElem?_eq_getElem (by omega)] at k0
      have := spot_none k0
      simpa [Addr.add] using this
    subst hs
    simp only [addr_addN] at hcell h0
    refine ⟨b, o, rfl, World.block_lt_of_cell? w _ h0, c', hcl, fun j hj => ?_, h4⟩
    have := hcell j hj
    exact this
end
section
variable {H : Type} {enc : TypeId × Value → H} {w : World} {base : Nat} {sp : Nat → Bool} {held : Bool}
set_option maxRecDepth 100000 in
theorem cellsStr : Tryz.prog.cellsOf 9 = 1 := by kernel_rfl
theorem strOne {fuel : Nat} {c : Value} {x : DataW H × List MemPlace} (h : DataW.trod enc Tryz.prog w base sp held fuel 9 [c] = some x) : ∃ s : ByteArray, c = .string s ∧ s.size ≤ maxLen := by
  obtain ⟨s, e, rfl, hs⟩ := DataW.trod_string Tryz.underlying9 h
  simp at e
  subst e
  exact ⟨s, rfl, hs⟩
end
end Go.Proofs.YtcegllnljaapiaaGreat
namespace Go.Proofs.YtcegllnljaapiaaGreat
open Go.RowKit Go.ChangeShapes Go.WideShapes
section
variable {H : Type} {enc : TypeId × Value → H} {w : World} {base : Nat} {sp : Nat → Bool} {held : Bool}
set_option maxRecDepth 100000 in
theorem cellsStrs : Tryz.prog.cellsOf 73 = 1 := by kernel_rfl
set_option maxRecDepth 100000 in
theorem cellsUnit : Tryz.prog.cellsOf 75 = 4 := by kernel_rfl
set_option maxRecDepth 100000 in
theorem strs_open {fuel : Nat} {c : Value} {x : DataW H × List MemPlace} (h : DataW.trod enc Tryz.prog w base sp held fuel 73 [c] = some x) : ∃ us, StrsAt (Old w) w c us := by
  obtain ⟨v, us, hv, hL⟩ := listAt_open (R := StrAt) Tryz.underlying73 cellsStr (by decide) h (fun k cs y hk hy => by
    obtain ⟨s, e, rfl, hs⟩ := DataW.trod_string Tryz.underlying9 hy
    exact ⟨s, e, hs⟩)
  cases hv
  exact ⟨us, hL⟩
set_option maxRecDepth 100000 in
theorem unit_open (fuel : Nat) (cs : List Value) (x : DataW H × List MemPlace) (h : DataW.trod enc Tryz.prog w base sp held fuel 75 cs = some x) : ∃ u, UnAt (Old w) w u cs := by
  obtain ⟨ys, n, rfl, _, hl, hyl, hf⟩ := DataW.trod_struct Tryz.underlying75 h
  rw [cellsUnit] at hl
  match cs, hl with
  | [c0, c1, c2, c3], _ =>
    have h0 := hf 0 _ rfl
    have h1 := hf 1 _ rfl
    have h2 := hf 2 _ rfl
    have h3 := hf 3 _ rfl
    rw [List.getElem?_eq_getElem (by rw [hyl]; decide)] at h0 h1 h2 h3
    obtain ⟨z0, h0'⟩ : ∃ z, DataW.trod enc Tryz.prog w base sp held n 9 [c0] = some z := ⟨ys[0]'(by rw [hyl]; decide), by rw [← h0]; simp [cellsStr]⟩
    obtain ⟨z1, h1'⟩ : ∃ z, DataW.trod enc Tryz.prog w base sp held n 73 [c1] = some z := ⟨ys[1]'(by rw [hyl]; decide), by rw [← h1]; simp [cellsStrs]⟩
    obtain ⟨z2, h2'⟩ : ∃ z, DataW.trod enc Tryz.prog w base sp held n 73 [c2] = some z := ⟨ys[2]'(by rw [hyl]; decide), by rw [← h2]; simp [cellsStrs]⟩
    obtain ⟨z3, h3'⟩ : ∃ z, DataW.trod enc Tryz.prog w base sp held n 9 [c3] = some z := ⟨ys[3]'(by rw [hyl]; decide), by rw [← h3]; simp [cellsStr]⟩
    obtain ⟨s, rfl, hs⟩ := strOne h0'
    obtain ⟨us, hus⟩ := strs_open h1'
    obtain ⟨axl, has⟩ := strs_open h2'
    obtain ⟨g, rfl, hg⟩ := strOne h3'
    exact ⟨⟨s, us, axl, g⟩, _, _, rfl, hs, hg, hus, has⟩
set_option maxRecDepth 100000 in
theorem units_arg {v : Value} {d : DataW H} {p : List MemPlace} {r : Reach} {b0 : Nat} (hv : Value.okWide Tryz.prog w r b0 47 v) (h : DataW.Trod enc Tryz.prog w base sp held 47 v d p) :
    ∃ us, UnsAt (Old w) w v us := by
  obtain ⟨a, len, cap, rfl⟩ := okWide_slice Tryz.underlying47 hv
  obtain ⟨fuel, hf⟩ := h
  obtain ⟨v, us, hv, hL⟩ := listAt_open (R := UnAt (Old w) w) Tryz.underlying47 cellsUnit (by decide) hf (fun k cs y hk hy => unit_open k cs y hy)
  cases hv
  exact ⟨us, hL⟩
end
end Go.Proofs.YtcegllnljaapiaaGreat
namespace Go.Proofs.YtcegllnljaapiaaGreat.fnExactRenameUnitLaw
open Go.ChangeShapes Go.WideShapes Go.ChangeAt Go.RowKit Go.Joins Go.ChangeMaps
set_option maxRecDepth 100000 in
theorem contract (H : Type) (enc : TypeId × Value → H) (W : World) (base : Nat) (args : Array Value) (ds gs : List (DataW H)) (before : List MemPlace)
    (hval : ∀ (j : Nat) t v, Tryz.f4.params[j]? = some t → args[j]? = some v → Value.okWide Tryz.prog W .any base t v)
    (hW : DataW.Whole enc Tryz.prog Tryz.f4.params.toList Rows.fnExactRenameUnitSpec.vars false W args.toList ds gs before) :
    Calls Tryz.prog 4 args W fun e W' => ∃ v, e = .returned v ∧ Rows.fnExactRenameUnitSpec.post enc Tryz.prog Tryz.f4 false true false false W args v W' := by
  have hW' := hW
  obtain ⟨p, q, hA0, hV, rfl, hfz, hnd⟩ := hW
  have hA : DataW.TrodAll enc Tryz.prog W 0 (fun _ => true) true Tryz.f4.params.toList args.toList ds p := hA0
  rw [Tryz.params4] at hA hval
  obtain ⟨v0, vs0, d0, ds0, p0, q0, hargs, rfl, rfl, h0, r0⟩ := trodAll_cons hA
  obtain ⟨v1, vs1, d1, ds1, p1, q1, rfl, rfl, rfl, h1, r1⟩ := trodAll_cons r0
  obtain ⟨v2, vs2, d2, ds2, p2, q2, rfl, rfl, rfl, h2, r2⟩ := trodAll_cons r1
  obtain ⟨rfl, rfl, rfl⟩ := trodAll_nil r2
  obtain rfl : args = #[v0, v1, v2] := Array.ext' hargs
  obtain ⟨us0, ht0⟩ := units_arg (hval 0 47 v0 rfl rfl) h0
  obtain ⟨s1, rfl, rfl, rfl, hs1⟩ := open_string Tryz.underlying9 (hval 1 9 v1 rfl rfl) h1
  obtain ⟨s2, rfl, rfl, rfl, hs2⟩ := open_string Tryz.underlying9 (hval 2 9 v2 rfl rfl) h2
  clear hA0
  refine (exactRU us0 v0 s1 s2 W ht0 hs1 hs2).mono fun e W' ⟨he, hb⟩ => ?_
  subst he
  exact ⟨_, rfl, close_true hW' rfl (by kernel_rfl) (by kernel_rfl) rfl hb⟩
set_option maxRecDepth 100000 in
theorem lifted (os : Os) (started : os.Started) (H : Type) (enc : TypeId × Value → H) :
    ReturnsInHanded {} Tryz.checked os 4 .any (Rows.fnExactRenameUnitSpec.pre6 enc Tryz.prog Tryz.f4 Rows.fnExactRenameUnitRow.domain false) (Rows.fnExactRenameUnitSpec.post enc Tryz.prog Tryz.f4 false true false false) := by
  refine returnsInHanded_of_change (C := Tryz.checked) own started (by kernel_rfl) Tryz.func4
    (ChangeSpec.witness6 (enc := enc) (C := Tryz.checked) false ⟨#[], #[.slice none 0 0, .string ⟨#[]⟩, .string ⟨#[]⟩], []⟩ 8 (by kernel_rfl) (by kernel_rfl) (by kernel_rfl) (by kernel_rfl)) ?_
  intro W base args ds gs before hval hW _ _
  exact contract H enc W base args ds gs before hval hW
theorem said : Rows.FnExactRenameUnitSaid :=
  OpenClaim.holds_of_wide 4 Tryz.f4 rfl rfl rfl rfl rfl rfl rfl ⟨rfl, rfl, rfl, rfl, rfl⟩ rfl rfl rfl rfl rfl (by kernel_rfl) Tryz.func4 (by kernel_rfl)
    (of_decide_eq_true (by kernel_rfl)) (by unfold Func.isWrapper; first | (rw [if_pos (by decide +kernel)]; kernel_rfl) | (rw [if_neg (by decide +kernel)]; exact ⟨rfl, rfl⟩))
    (fun os started H enc _ => lifted os started H enc)
end Go.Proofs.YtcegllnljaapiaaGreat.fnExactRenameUnitLaw
