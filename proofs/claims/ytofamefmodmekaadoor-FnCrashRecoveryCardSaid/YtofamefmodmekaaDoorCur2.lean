/- More of the cursor: numbers, spoilt texts, records. Conditions: sizes. -/
import Derived.Test.YtofamefmodmekaaDoorCur
namespace Go.Proofs.YtofamefmodmekaaDoor
open Go.RowKit
set_option maxRecDepth 100000 in
theorem among_any (g m b c : Nat) (lo hi : Int) (cs : Array Value) (t : TypeId) (fr : Nat × Nat) (w : World) (h : Cur w g m) (hm : m + 2 ≤ 1000000000) (hb : w.heap[b]? = some (.cells cs t fr)) (hbg : b ≠ g) (h0 : 0 < cs.size) (h1 : cs.size ≤ 1000000000) (hs : ∀ v ∈ cs, IsIn lo hi v) :
    Calls Tryd.prog 59 #[.pointer (some ⟨g, 0, none⟩), .slice (some ⟨b, 0, none⟩) cs.size c] w (Step g m 2 (IsIn lo hi) w) := by
  have H := Lib.hid h
  have HB := Lib.hid hb
  have HS := Lib.hid hs
  clear h hb hs
  go_enter Tryd.func59, Tryd.ntmps59
  go_wp2_with fail
  refine (pick_any g m _ _ H.out hm (by omega) (by omega)).mono ?_
  rintro e w1 ⟨_, rfl, ⟨r1, rfl, hr1, hs1⟩, hc1, hg1⟩
  obtain ⟨j, rfl⟩ := Int.eq_ofNat_of_zero_le hr1
  have hj : j < cs.size := by omega
  have hblt := lt_of_block HB.out
  obtain ⟨s, hv, hsz⟩ := HS.out cs[j] (Array.getElem_mem hj)
  have hcell : w1.cell? ⟨b, j, none⟩ = some (.int .i64 s) := by
    rw [((gcell hg1).1 b j hblt hbg), cell_of_row w b j cs t fr HB.out, ← hv]; exact Array.getElem?_eq_getElem hj
  have HC1 := Lib.hid hc1
  clear hc1 hv
  go_wp2_with fail
  go_ret
  exact ⟨_, rfl, ⟨_, rfl, hsz⟩, HC1.out, hg1⟩
set_option maxRecDepth 100000 in
set_option maxHeartbeats 1600000 in
theorem spoilt_any (g m : Nat) (t q : ByteArray) (w : World) (h : Cur w g m) (hm : m + 6 ≤ 1000000000) (ht : t.size ≤ 1000000) (hq : 0 < q.size) (hq2 : q.size ≤ 1000) :
    Calls Tryd.prog 61 #[.pointer (some ⟨g, 0, none⟩), .string t, .string q] w (Step g m 6 (IsStr (t.size + 1)) w) := by
  have H := Lib.hid h
  clear h
  cases he : t.data.toList.isEmpty
  · have he1 := empt_f he
    have ht0 : 0 < t.size := by
      rw [size_list]; cases hl : t.data.toList with
      | nil => rw [hl] at he; cases he
      | cons x l => simp
    go_enter Tryd.func61, Tryd.ntmps61
    go_wp2_with fail
    refine (pick_any g m _ _ H.out (by omega) (by omega) (by omega)).mono ?_
    rintro e w1 ⟨_, rfl, ⟨r1, rfl, hr1, hs1⟩, hc1, hg1⟩
    obtain ⟨i, rfl⟩ := Int.eq_ofNat_of_zero_le hr1
    have hi : i < t.size := by omega
    have hi2 : i ≤ t.size := by omega
    have hi3 : i + 1 ≤ t.size := by omega
    have hwi : IntKind.i64.wrap ((i : Int) + 1) = (i : Int) + 1 := IntWalk.i64_in _ (by omega)
    have hwi2 : ((i : Int) + 1).toNat = i + 1 := by omega
    have hwi3 : 0 ≤ (i : Int) + 1 := by omega
    have hwi4 : (i : Int) + 1 ≤ (t.size : Int) := by omega
    have HSZ := Lib.hid (And.intro ht hi)
    have HC1 := Lib.hid hc1
    clear hc1
    go_wp2_with fail
    refine (pick_any g (m + 2) _ _ HC1.out (by omega) (by omega) (by omega)).mono ?_
    rintro e w2 ⟨_, rfl, ⟨r2, rfl, hr2, hs2⟩, hc2, hg2⟩
    obtain ⟨j, rfl⟩ := Int.eq_ofNat_of_zero_le hr2
    have hj : j < q.size := by omega
    have HC2 := Lib.hid hc2
    clear hc2
    obtain ⟨x, hx⟩ : ∃ x, (q.extract j q.size).extract 0 1 = x := ⟨_, rfl⟩
    have hx1 : x.size ≤ 1 := by rw [← hx]; simp; omega
    go_wp2_with fail
    refine (pick_any g (m + 4) _ _ HC2.out (by omega) (by omega) (by omega)).mono ?_
    rintro e w3 ⟨_, rfl, ⟨r3, rfl, hr3, hs3⟩, hc3, hg3⟩
    have HC3 := Lib.hid hc3
    have HG := Lib.hid (gr_trans (gr_trans hg1 hg2) hg3)
    clear hc3 hg1 hg2 hg3
    clear hx
    rcases (by omega : r3 = 0 ∨ r3 = 1 ∨ r3 = 2) with rfl | rfl | rfl
    · go_wp2
      obtain ⟨C, HC0⟩ := class_of (InF w3.heap.size _ [] [] [])
      have HC := Lib.hid HC0
      clear HC0
      refine wp_region_flow (C := C) (by kernel_rfl) (by kernel_rfl) (fun L hL => (HC.out _ _).2 (InF.start (by first | (intro _ hs; cases hs; done) | (simp only [List.forall_mem_cons]; go_simp)) (by first | (intro _ hs; cases hs; done) | (simp only [List.forall_mem_cons]; go_simp)) (by first | (intro _ hs; cases hs; done) | (simp only [List.forall_mem_cons]; go_simp)) (by first | (intro _ hs; cases hs; done) | (simp only [List.forall_mem_cons]; go_simp)) L hL)) ?_
      repeat (first | (apply flow_free rfl; (intro L w' hun hrd hC; have hC := (HC.out _ _).1 hC; have hb' := hC.below; (try have hw' : Below w.heap.size w w' := by first | exact Below.trans (by (repeat (first | exact Below.refl _ _ | assumption | refine Below.al ?_ _ | refine Below.sc ?_ (by first | exact Nat.le_refl _ | (simp; done) | (simp; omega)) _ | refine Below.dr ?_ | refine Below.drN ?_ _ | refine Below.step ?_ (by assumption)))) hb' | ((repeat (first | exact Below.refl _ _ | assumption | refine Below.al ?_ _ | refine Below.sc ?_ (by first | exact Nat.le_refl _ | (simp; done) | (simp; omega)) _ | refine Below.dr ?_ | refine Below.drN ?_ _ | refine Below.step ?_ (by assumption))); done)); have hf' := hC.cell; (try simp only [List.forall_mem_cons] at hf'); go_simp; first | exact ⟨(HC.out _ _).2 (hC.skip _ (by rfl)), rfl⟩ | (rw [if_neg]; (exact ⟨(HC.out _ _).2 (hC.skip _ (by rfl)), rfl⟩); omega) | fail); go_simp) | (apply flow_yes; (case hw => go_simp); (intro L w' hun hrd hC; have hC := (HC.out _ _).1 hC; have hb' := hC.below; (try have hw' : Below w.heap.size w w' := by first | exact Below.trans (by (repeat (first | exact Below.refl _ _ | assumption | refine Below.al ?_ _ | refine Below.sc ?_ (by first | exact Nat.le_refl _ | (simp; done) | (simp; omega)) _ | refine Below.dr ?_ | refine Below.drN ?_ _ | refine Below.step ?_ (by assumption)))) hb' | ((repeat (first | exact Below.refl _ _ | assumption | refine Below.al ?_ _ | refine Below.sc ?_ (by first | exact Nat.le_refl _ | (simp; done) | (simp; omega)) _ | refine Below.dr ?_ | refine Below.drN ?_ _ | refine Below.step ?_ (by assumption))); done)); have hf' := hC.cell; (try simp only [List.forall_mem_cons] at hf'); go_simp; first | exact ⟨(HC.out _ _).2 (hC.skip _ (by rfl)), rfl⟩ | (rw [if_neg]; (exact ⟨(HC.out _ _).2 (hC.skip _ (by rfl)), rfl⟩); omega) | fail); go_simp) | (apply flow_no; (case hw => go_simp); (intro L w' _ _ hC; exact (HC.out _ _).2 (((HC.out _ _).1 hC).skip _ (by rfl))); go_simp))
      refine flow_nil ?_
      intro L wz hL hz
      have hz := (HC.out _ _).1 hz
      have hbz := hz.below
      have hcz := hz.cell
      try simp only [List.forall_mem_cons] at hcz
      have hdz := hz.done
      try simp only [List.forall_mem_cons] at hdz
      (try have hwz : Below w.heap.size w wz := by first | exact Below.trans (by (repeat (first | exact Below.refl _ _ | assumption | refine Below.al ?_ _ | refine Below.sc ?_ (by first | exact Nat.le_refl _ | (simp; done) | (simp; omega)) _ | refine Below.dr ?_ | refine Below.drN ?_ _ | refine Below.step ?_ (by assumption)))) hbz | ((repeat (first | exact Below.refl _ _ | assumption | refine Below.al ?_ _ | refine Below.sc ?_ (by first | exact Nat.le_refl _ | (simp; done) | (simp; omega)) _ | refine Below.dr ?_ | refine Below.drN ?_ _ | refine Below.step ?_ (by assumption))); done))
      go_wp2
      go_ret
      refine ⟨_, rfl, ⟨_, rfl, ?_⟩, HC3.out.below hbz, gr_below HG.out hbz⟩
      have h1 := HSZ.out
      simp only [size_list, bytes_append', extract_list, List.length_append, List.length_drop, List.length_take] at h1 hx1 ⊢
      omega
    · go_wp2
      obtain ⟨C, HC0⟩ := class_of (InF w3.heap.size _ [] [] [])
      have HC := Lib.hid HC0
      clear HC0
      refine wp_region_flow (C := C) (by kernel_rfl) (by kernel_rfl) (fun L hL => (HC.out _ _).2 (InF.start (by first | (intro _ hs; cases hs; done) | (simp only [List.forall_mem_cons]; go_simp)) (by first | (intro _ hs; cases hs; done) | (simp only [List.forall_mem_cons]; go_simp)) (by first | (intro _ hs; cases hs; done) | (simp only [List.forall_mem_cons]; go_simp)) (by first | (intro _ hs; cases hs; done) | (simp only [List.forall_mem_cons]; go_simp)) L hL)) ?_
      repeat (first | (apply flow_free rfl; (intro L w' hun hrd hC; have hC := (HC.out _ _).1 hC; have hb' := hC.below; (try have hw' : Below w.heap.size w w' := by first | exact Below.trans (by (repeat (first | exact Below.refl _ _ | assumption | refine Below.al ?_ _ | refine Below.sc ?_ (by first | exact Nat.le_refl _ | (simp; done) | (simp; omega)) _ | refine Below.dr ?_ | refine Below.drN ?_ _ | refine Below.step ?_ (by assumption)))) hb' | ((repeat (first | exact Below.refl _ _ | assumption | refine Below.al ?_ _ | refine Below.sc ?_ (by first | exact Nat.le_refl _ | (simp; done) | (simp; omega)) _ | refine Below.dr ?_ | refine Below.drN ?_ _ | refine Below.step ?_ (by assumption))); done)); have hf' := hC.cell; (try simp only [List.forall_mem_cons] at hf'); go_simp; first | exact ⟨(HC.out _ _).2 (hC.skip _ (by rfl)), rfl⟩ | (rw [if_neg]; (exact ⟨(HC.out _ _).2 (hC.skip _ (by rfl)), rfl⟩); omega) | fail); go_simp) | (apply flow_yes; (case hw => go_simp); (intro L w' hun hrd hC; have hC := (HC.out _ _).1 hC; have hb' := hC.below; (try have hw' : Below w.heap.size w w' := by first | exact Below.trans (by (repeat (first | exact Below.refl _ _ | assumption | refine Below.al ?_ _ | refine Below.sc ?_ (by first | exact Nat.le_refl _ | (simp; done) | (simp; omega)) _ | refine Below.dr ?_ | refine Below.drN ?_ _ | refine Below.step ?_ (by assumption)))) hb' | ((repeat (first | exact Below.refl _ _ | assumption | refine Below.al ?_ _ | refine Below.sc ?_ (by first | exact Nat.le_refl _ | (simp; done) | (simp; omega)) _ | refine Below.dr ?_ | refine Below.drN ?_ _ | refine Below.step ?_ (by assumption))); done)); have hf' := hC.cell; (try simp only [List.forall_mem_cons] at hf'); go_simp; first | exact ⟨(HC.out _ _).2 (hC.skip _ (by rfl)), rfl⟩ | (rw [if_neg]; (exact ⟨(HC.out _ _).2 (hC.skip _ (by rfl)), rfl⟩); omega) | fail); go_simp) | (apply flow_no; (case hw => go_simp); (intro L w' _ _ hC; exact (HC.out _ _).2 (((HC.out _ _).1 hC).skip _ (by rfl))); go_simp))
      refine flow_nil ?_
      intro L wz hL hz
      have hz := (HC.out _ _).1 hz
      have hbz := hz.below
      have hcz := hz.cell
      try simp only [List.forall_mem_cons] at hcz
      have hdz := hz.done
      try simp only [List.forall_mem_cons] at hdz
      (try have hwz : Below w.heap.size w wz := by first | exact Below.trans (by (repeat (first | exact Below.refl _ _ | assumption | refine Below.al ?_ _ | refine Below.sc ?_ (by first | exact Nat.le_refl _ | (simp; done) | (simp; omega)) _ | refine Below.dr ?_ | refine Below.drN ?_ _ | refine Below.step ?_ (by assumption)))) hbz | ((repeat (first | exact Below.refl _ _ | assumption | refine Below.al ?_ _ | refine Below.sc ?_ (by first | exact Nat.le_refl _ | (simp; done) | (simp; omega)) _ | refine Below.dr ?_ | refine Below.drN ?_ _ | refine Below.step ?_ (by assumption))); done))
      go_wp2
      go_ret
      refine ⟨_, rfl, ⟨_, rfl, ?_⟩, HC3.out.below hbz, gr_below HG.out hbz⟩
      have h1 := HSZ.out
      simp only [size_list, bytes_append', extract_list, List.length_append, List.length_drop, List.length_take] at h1 hx1 ⊢
      omega
    · go_wp2
      obtain ⟨C, HC0⟩ := class_of (InF w3.heap.size _ [] [] [])
      have HC := Lib.hid HC0
      clear HC0
      refine wp_region_flow (C := C) (by kernel_rfl) (by kernel_rfl) (fun L hL => (HC.out _ _).2 (InF.start (by first | (intro _ hs; cases hs; done) | (simp only [List.forall_mem_cons]; go_simp)) (by first | (intro _ hs; cases hs; done) | (simp only [List.forall_mem_cons]; go_simp)) (by first | (intro _ hs; cases hs; done) | (simp only [List.forall_mem_cons]; go_simp)) (by first | (intro _ hs; cases hs; done) | (simp only [List.forall_mem_cons]; go_simp)) L hL)) ?_
      repeat (first | (apply flow_free rfl; (intro L w' hun hrd hC; have hC := (HC.out _ _).1 hC; have hb' := hC.below; (try have hw' : Below w.heap.size w w' := by first | exact Below.trans (by (repeat (first | exact Below.refl _ _ | assumption | refine Below.al ?_ _ | refine Below.sc ?_ (by first | exact Nat.le_refl _ | (simp; done) | (simp; omega)) _ | refine Below.dr ?_ | refine Below.drN ?_ _ | refine Below.step ?_ (by assumption)))) hb' | ((repeat (first | exact Below.refl _ _ | assumption | refine Below.al ?_ _ | refine Below.sc ?_ (by first | exact Nat.le_refl _ | (simp; done) | (simp; omega)) _ | refine Below.dr ?_ | refine Below.drN ?_ _ | refine Below.step ?_ (by assumption))); done)); have hf' := hC.cell; (try simp only [List.forall_mem_cons] at hf'); go_simp; first | exact ⟨(HC.out _ _).2 (hC.skip _ (by rfl)), rfl⟩ | (rw [if_neg]; (exact ⟨(HC.out _ _).2 (hC.skip _ (by rfl)), rfl⟩); omega) | fail); go_simp) | (apply flow_yes; (case hw => go_simp); (intro L w' hun hrd hC; have hC := (HC.out _ _).1 hC; have hb' := hC.below; (try have hw' : Below w.heap.size w w' := by first | exact Below.trans (by (repeat (first | exact Below.refl _ _ | assumption | refine Below.al ?_ _ | refine Below.sc ?_ (by first | exact Nat.le_refl _ | (simp; done) | (simp; omega)) _ | refine Below.dr ?_ | refine Below.drN ?_ _ | refine Below.step ?_ (by assumption)))) hb' | ((repeat (first | exact Below.refl _ _ | assumption | refine Below.al ?_ _ | refine Below.sc ?_ (by first | exact Nat.le_refl _ | (simp; done) | (simp; omega)) _ | refine Below.dr ?_ | refine Below.drN ?_ _ | refine Below.step ?_ (by assumption))); done)); have hf' := hC.cell; (try simp only [List.forall_mem_cons] at hf'); go_simp; first | exact ⟨(HC.out _ _).2 (hC.skip _ (by rfl)), rfl⟩ | (rw [if_neg]; (exact ⟨(HC.out _ _).2 (hC.skip _ (by rfl)), rfl⟩); omega) | fail); go_simp) | (apply flow_no; (case hw => go_simp); (intro L w' _ _ hC; exact (HC.out _ _).2 (((HC.out _ _).1 hC).skip _ (by rfl))); go_simp))
      refine flow_nil ?_
      intro L wz hL hz
      have hz := (HC.out _ _).1 hz
      have hbz := hz.below
      have hcz := hz.cell
      try simp only [List.forall_mem_cons] at hcz
      have hdz := hz.done
      try simp only [List.forall_mem_cons] at hdz
      (try have hwz : Below w.heap.size w wz := by first | exact Below.trans (by (repeat (first | exact Below.refl _ _ | assumption | refine Below.al ?_ _ | refine Below.sc ?_ (by first | exact Nat.le_refl _ | (simp; done) | (simp; omega)) _ | refine Below.dr ?_ | refine Below.drN ?_ _ | refine Below.step ?_ (by assumption)))) hbz | ((repeat (first | exact Below.refl _ _ | assumption | refine Below.al ?_ _ | refine Below.sc ?_ (by first | exact Nat.le_refl _ | (simp; done) | (simp; omega)) _ | refine Below.dr ?_ | refine Below.drN ?_ _ | refine Below.step ?_ (by assumption))); done))
      go_wp2
      go_ret
      refine ⟨_, rfl, ⟨_, rfl, ?_⟩, HC3.out.below hbz, gr_below HG.out hbz⟩
      have h1 := HSZ.out
      simp only [size_list, bytes_append', extract_list, List.length_append, List.length_drop, List.length_take] at h1 hx1 ⊢
      omega
  · have he1 := empt_t he
    go_enter Tryd.func61, Tryd.ntmps61
    go_wp2
    go_ret
    refine ⟨_, rfl, ⟨_, rfl, ?_⟩, H.out.more (by omega) (by omega), gr_refl _ _⟩
    simp only [size_list, extract_list, List.length_drop, List.length_take]
    omega
end Go.Proofs.YtofamefmodmekaaDoor
