import Derived.ChangeSlices
import Derived.OpenShut
import Derived.JoinedCond
import Derived.Test.YtkgfanajgdelcaaGreatDoorUnPart35
import Derived.Test.YtkgfanajgdelcaaGreatDoorUnPart38
import Derived.Test.YtkgfanajgdelcaaGreatDoorUnPart40
namespace Go.Proofs.YtkgfanajgdelcaaGreatDoor
set_option maxRecDepth 100000
open Go.RowKit
theorem renL_wt {l : List Un} {old name : ByteArray} (hg : libGood l = true) (hn : ∀ u ∈ l, u.name ≠ name) (hw : ∀ u ∈ l, u.wt ≤ 1000) (hz : name.size ≤ 1000) : ∀ v ∈ renL old name l, v.wt ≤ 20000 := by
  intro v hv
  obtain ⟨u, hu, rfl⟩ := mem_renL.1 hv
  obtain ⟨-, h12, -, -⟩ := ren_incs (old := old) hg hn hu
  have h1 := wtS_renI old name u.incs
  have h2 := renS_size old name u.name
  have h3 := hw u hu
  have hl : (canG lessB (renI old name u.incs)).length = u.incs.length := by rw [canG_len, renI, List.length_map]
  have h4 : name.size * u.incs.length ≤ 1000 * u.incs.length := Nat.mul_le_mul_right _ hz
  have h5 : u.incs.length ≤ 12 := by rw [renI, List.length_map] at h12; exact h12
  rw [Un.wt] at h3
  show (renS old name u.name).size + ((canG lessB (renI old name u.incs)).length + wtS (canG lessB (renI old name u.incs))) + (u.axs.length + wtS u.axs) + u.goal.size ≤ 20000
  rw [hl, wtS_canG]
  omega
theorem wtU_cap (n : Nat) : ∀ us : List Un, (∀ u ∈ us, u.wt ≤ n) → wtU us ≤ n * us.length
  | [], _ => by simp [wtU]
  | u :: us, h => by
    have h1 := wtU_cap n us (fun v hv => h v (List.mem_cons_of_mem _ hv))
    have h2 := h u (List.mem_cons_self ..)
    rw [wtU, List.length_cons, Nat.mul_succ]; omega
theorem vBigU_any (pp : Option Addr) (nn cc : Nat) (w : World) : Calls Tryz.prog 6 #[.slice pp nn cc] w fun e w' => e = .returned (.bool (decide ((65536 : Int) < (nn : Int)))) ∧ w = w' := by
  go_enter Tryz.func6, Tryz.ntmps6
  go_wp2
  go_ret
  exact ⟨rfl, rfl⟩
set_option maxHeartbeats 12800000 in
theorem fnUnits_small (pp : Option Addr) (nn cc : Nat) (w : World) (hE : EnvM w) (h : CodeCap w pp nn cc) (hn : nn ≤ 65536) :
    Calls Tryz.prog 5 #[.slice pp nn cc] w fun e w' => e = .returned (.bool true) ∧ Below w.heap.size w w' := by
  have HM := Lib.hid hE
  have H := Lib.hid h
  have hnn : ¬ (65536 : Int) < (nn : Int) := by omega
  clear hE h
  go_enter Tryz.func5, Tryz.ntmps5
  go_wp2_with fail
  refine (vBigU_any _ _ _ _).mono ?_
  rintro e w' ⟨rfl, rfl⟩
  go_wp2_with fail
  refine (drawFU_any pp nn cc _ H.out.1).mono ?_
  rintro e w1 ⟨u, v0, v1, v2, v3, rfl, hu, hwt, hb1⟩
  obtain ⟨p1, c1, q1, d1, rfl, rfl, rfl, rfl, -⟩ := hu.form
  obtain ⟨W1, hW1⟩ : ∃ q : World, q = w1.alloc (.cells #[.string u.name, .slice p1 u.incs.length c1, .slice q1 u.axs.length d1, .string u.goal] 34) := ⟨_, rfl⟩
  have B1 : W1.heap[w1.heap.size]? = some (.cells #[.string u.name, .slice p1 u.incs.length c1, .slice q1 u.axs.length d1, .string u.goal] 34 (0, 0)) := by rw [hW1]; exact heap_alloc_new w1 _
  have hbW1 : Below w1.heap.size w1 W1 := by rw [hW1]; exact (Below.refl _ _).alloc (Nat.le_refl _) _
  have hzW1 : W1.heap.size = w1.heap.size + 1 := by rw [hW1]; simp
  have HU := Lib.hid (hu.below hbW1)
  have hb01 := Below.step hb1 hbW1
  clear hu
  go_wp2_with fail
  rw [← hW1]
  clear hW1
  refine (implFU_any u _ _ _ _ W1 HU.out (by omega)).mono ?_
  rintro e w2 ⟨rfl, hb2⟩
  have hfs : (⟨u.fmtG.toArray⟩ : ByteArray).size ≤ 30000 := by
    have : u.fmtG.length ≤ 30000 := by
      rw [Un.fmtG]; split
      · exact txt_len hwt
      · simp
    simpa [ByteArray.size] using this
  have hb02 := Below.step hb01 hb2
  go_wp2_with fail
  refine (implPU_any _ w2 (by omega) (HM.out.below hb02)).mono ?_
  rintro e w3 ⟨v0, v1, v2, v3, rfl, hv, hb3⟩
  have hdl : (⟨u.fmtG.toArray⟩ : ByteArray).data.toList = u.fmtG := by simp
  rw [hdl] at hv ⊢
  obtain ⟨p3, c3, q3, d3, rfl, rfl, rfl, rfl, -⟩ := hv.at_.form
  have hb03 := Below.step hb02 hb3
  have hb13 := Below.step hb2 hb3
  have B3 := (hb13.block _ (blk_lt B1)).trans B1
  have HU3 := Lib.hid (HU.out.below hb13)
  obtain ⟨W3, hW3⟩ : ∃ q : World, q = w3.alloc (.cells #[.string (puV u.fmtG).name, .slice p3 (puV u.fmtG).incs.length c3, .slice q3 (puV u.fmtG).axs.length d3, .string (puV u.fmtG).goal] 34) := ⟨_, rfl⟩
  have D3 : W3.heap[w3.heap.size]? = some (.cells #[.string (puV u.fmtG).name, .slice p3 (puV u.fmtG).incs.length c3, .slice q3 (puV u.fmtG).axs.length d3, .string (puV u.fmtG).goal] 34 (0, 0)) := by rw [hW3]; exact heap_alloc_new w3 _
  have hbW3 : Below w3.heap.size w3 W3 := by rw [hW3]; exact (Below.refl _ _).alloc (Nat.le_refl _) _
  have zb3 := bsz (blk_lt B3)
  obtain ⟨x0, x1, x2, x3, xf⟩ := row4_cells B3
  clear hv
  go_wp2_with fail
  rw [← hW3]
  clear hW3
  refine (specUnit_any u _ _ _ _ W3 (HU3.out.below hbW3) (by omega)).mono ?_
  rintro e w4 ⟨rfl, hb4⟩
  have hb04 := Below.step (Below.step hb03 hbW3) hb4
  have B4 := (hb4.block _ (by have := hbW3.size; omega)).trans ((hbW3.block _ (blk_lt B3)).trans B3)
  have D4 := (hb4.block _ (blk_lt D3)).trans D3
  obtain ⟨y0, y1, y2, y3, yf⟩ := row4_cells B4
  obtain ⟨z0, z1, z2, z3, zf⟩ := row4_cells D4
  have ze4 := bsz (blk_lt B4)
  have zd4 := bsz (blk_lt D4)
  have HB4 := Lib.hid hb04
  clear x0 x1 x2 x3 xf B1 B3 D3 B4 D4 hb1 hbW1 hb01 hb2 hb02 hb3 hb03 hb13 hbW3 hb4 hb04 HU HU3 zb3 hzW1
  cases hg : u.good
  · have HF := Lib.hid hg
    clear hg
    go_wp2_with fail
    clear y0 y1 y2 y3 yf z0 z1 z2 z3 zf ze4 zd4
    refine (drawPU_any pp nn cc w4 ⟨code_in_below H.out.1 HB4.out, H.out.2⟩ hn).mono ?_
    rintro e w5 ⟨t, rfl, ht, hb5⟩
    have hb05 := Below.step HB4.out hb5
    go_wp2_with fail
    refine (implPU_any t w5 (by omega) (HM.out.below hb05)).mono ?_
    rintro e w6 ⟨v0, v1, v2, v3, rfl, hv, hb6⟩
    obtain ⟨p6, c6, q6, d6, rfl, rfl, rfl, rfl, -⟩ := hv.at_.form
    obtain ⟨W6, hW6, hbW6⟩ : ∃ q : World, q = w6.alloc (.cells #[.string (puV t.data.toList).name, .slice p6 (puV t.data.toList).incs.length c6, .slice q6 (puV t.data.toList).axs.length d6, .string (puV t.data.toList).goal] 34) ∧ Below w6.heap.size w6 q := ⟨_, rfl, (Below.refl _ _).alloc (Nat.le_refl _) _⟩
    have HV := Lib.hid (hv.at_.below hbW6)
    have HB6 := Lib.hid (Below.step (Below.step hb05 hb6) hbW6)
    clear hv hb5 hb6 hb05 hbW6
    cases hok : puOk t.data.toList
    · have HOK := Lib.hid hok
      go_wp2_with fail
      rw [← hW6]
      clear hW6 hok
      refine (specPU_any t W6 (by omega)).mono ?_
      rintro e w8 ⟨s0, s1, s2, s3, rfl, hs8, hb8⟩
      obtain ⟨p8, c8, q8, d8, rfl, rfl, rfl, rfl, -⟩ := hs8.form
      rw [HOK.out]
      obtain ⟨W8, hW8, hbW8⟩ : ∃ q : World, q = w8.alloc (.cells #[.string (puV t.data.toList).name, .slice p8 (puV t.data.toList).incs.length c8, .slice q8 (puV t.data.toList).axs.length d8, .string (puV t.data.toList).goal] 34) ∧ Below w8.heap.size w8 q := ⟨_, rfl, (Below.refl _ _).alloc (Nat.le_refl _) _⟩
      have hb08 := Below.step (Below.step HB6.out hb8) hbW8
      clear hs8
      go_wp2_with fail
      rw [← hW8]
      clear hW8 hbW8 hb8
      refine (drawRU_any pp nn cc W8 ⟨code_in_below H.out.1 hb08, H.out.2⟩ hn).mono ?_
      rintro e w9 ⟨v, l, old, nm, rfl, hus, hl5, hlw, hos, hns, hb9⟩
      obtain ⟨p9, c9, rfl, -⟩ := hus.form
      have hwu := wtU_cap 1000 l hlw
      have hw : l.length + wtU l ≤ 1048576 := by omega
      have HU9 := Lib.hid (hus.mono (B' := fun b => b < w9.heap.size) (SameOn.refl _ _) (fun b hb => hb.2))
      have hb09 := Below.step hb08 hb9
      clear hus hwu hb08 hb9
      go_wp2_with fail
      refine (implRU_any l _ old nm w9 HU9.out hw (by omega)).mono ?_
      rintro e wa ⟨va, rfl, hva, hba⟩
      obtain ⟨pa, ca, rfl, -⟩ := OwnRow.form hva
      go_wp2_with fail
      refine (specRU_any l _ old nm wa (HU9.out.below hba) hw (by omega)).mono ?_
      rintro e wb ⟨vb, rfl, hvb, hbb⟩
      obtain ⟨pb, cb, rfl, -⟩ := OwnRow.form hvb
      have hb0b := Below.step (Below.step hb09 hba) hbb
      clear hvb
      cases hren : renOk l old nm
      · have e0 : renV l old nm = [] := by simp [renV, hren]
        rw [e0]
        clear hren hva
        go_wp2
        go_ret
        exact ⟨rfl, hb0b⟩
      · obtain ⟨hg', hok', hback⟩ := renOk_back hren
        obtain ⟨hgl, -, hne, -⟩ := renOk_parts hren
        have e1 : renV l old nm = renL old nm l := by rw [renV, if_pos hren]
        have hlw' := renL_wt (old := old) hgl hne hlw hns
        have hlen := renL_len (old := old) (name := nm) l
        have hw' : (renL old nm l).length + wtU (renL old nm l) ≤ 1048576 := by have := wtU_cap 20000 _ hlw'; rw [hlen] at this ⊢; omega
        rw [e1] at hva
        rw [e1]
        have HVA := Lib.hid (hva.at_.below hbb)
        have HGD := Lib.hid hg'
        have HBK := Lib.hid hback
        have HOB := Lib.hid hok'
        have HLW := Lib.hid hlw'
        have HLN := Lib.hid hlen
        clear hren hg' hok' hback hgl hne e1 hlw' hva hlen hlw
        go_wp2_with fail
        refine (implRU_any (renL old nm l) _ nm old wb HVA.out hw' (by omega)).mono ?_
        rintro e wc ⟨vc, rfl, hvc, hbc⟩
        rw [HOB.out]
        rw [HBK.out] at hvc
        obtain ⟨pc, kc, rfl, -⟩ := OwnRow.form hvc
        have HVC := Lib.hid hvc.at_
        have HUC := Lib.hid (HU9.out.below (Below.step hba (Below.step hbb hbc)))
        have HVB := Lib.hid (HVA.out.below hbc)
        have HB0 := Lib.hid (Below.step hb0b hbc)
        clear hvc hba hbb hbc hb0b hb09
        go_wp2
        go_loopw [24] (fun i wr => ∃ k : Nat, k ≤ l.length ∧ i = .int .i64 k ∧ Below wc.heap.size wc wr) (fun i _ => l.length - (intOf i).toNat)
        case atStart => exact ⟨0, Nat.zero_le _, rfl, by exact bel⟩
        case round =>
          obtain ⟨k, hk, rfl, hb⟩ := hrel
          by_cases hlt : k < l.length
          · obtain ⟨b, o, rfl, hB, p1, c1, p2, c2, hx0, hx1, hx2, hx3, hx⟩ := (HVC.out.below hb).at_ hlt
            obtain ⟨b', o', rfl, hB', p1', c1', p2', c2', hy0, hy1, hy2, hy3, hy⟩ := (HUC.out.below hb).at_ hlt
            obtain ⟨a, ha⟩ : ∃ a, l[k] = a := ⟨_, rfl⟩
            rw [ha] at hx0 hx1 hx3 hy0 hy1 hy3
            have zx := bsz (World.block_lt_of_cell? _ _ hx0)
            have zy := bsz (World.block_lt_of_cell? _ _ hy0)
            have hki : (k : Int) < l.length := by omega
            have HBB := Lib.hid hb
            clear ha hx hy hx2 hy2 hb
            go_wp2
            obtain ⟨C, HC0⟩ := class_of (InF wr.heap.size _ [(⟨b, o + k * 4, none⟩, .string a.name), (⟨b, o + k * 4 + 1, none⟩, .slice p1 a.incs.length c1), (⟨b, o + k * 4 + 3, none⟩, .string a.goal), (⟨b', o' + k * 4, none⟩, .string a.name), (⟨b', o' + k * 4 + 1, none⟩, .slice p1' a.incs.length c1'), (⟨b', o' + k * 4 + 3, none⟩, .string a.goal)] [] [])
            have HC := Lib.hid HC0
            clear HC0
            refine wp_region_flow (C := C) (by kernel_rfl) (by kernel_rfl) (fun L hL => (HC.out _ _).2 (InF.start (by first | (intro _ hs; cases hs; done) | (simp only [List.forall_mem_cons]; go_simp)) (by first | (intro _ hs; cases hs; done) | (simp only [List.forall_mem_cons]; go_simp)) (by first | (intro _ hs; cases hs; done) | (simp only [List.forall_mem_cons]; go_simp)) (by first | (intro _ hs; cases hs; done) | (simp only [List.forall_mem_cons]; go_simp)) L hL)) ?_
            repeat (first | ((first | apply flow_free rfl | (apply flow_yes; (case hw => go_simp))); (intro L w' hun hrd hC; have hC := (HC.out _ _).1 hC; have hb' := hC.below; have hf' := hC.cell; (try simp only [List.forall_mem_cons] at hf'); go_simp; first | exact ⟨(HC.out _ _).2 (hC.skip _ (by rfl)), rfl⟩ | (rw [if_neg]; (exact ⟨(HC.out _ _).2 (hC.skip _ (by rfl)), rfl⟩); omega) | fail); go_simp) | (apply flow_no; (case hw => (go_simp; try (intro hh; cases hh))); (intro L w' _ _ hC; exact (HC.out _ _).2 (((HC.out _ _).1 hC).skip _ (by rfl))); go_simp))
            refine flow_nil ?_
            intro L wz hL hz
            have hz := (HC.out _ _).1 hz
            have hbz := hz.below
            have hcz := hz.cell
            try simp only [List.forall_mem_cons] at hcz
            have hdz := hz.done
            try simp only [List.forall_mem_cons] at hdz
            (try have hwz : Below w.heap.size w wz := by first | exact Below.trans (by (repeat (first | with_reducible (first | exact bR _ _ | assumption | refine bA ?_ _ | refine bS ?_ (by first | exact Nat.le_refl _ | (simp; done) | (simp; omega)) _) | assumption | exact bR _ _ | refine bD ?_ | refine bN ?_ _ | refine bT ?_ (by assumption)))) hbz | ((repeat (first | with_reducible (first | exact bR _ _ | assumption | refine bA ?_ _ | refine bS ?_ (by first | exact Nat.le_refl _ | (simp; done) | (simp; omega)) _) | assumption | exact bR _ _ | refine bD ?_ | refine bN ?_ _ | refine bT ?_ (by assumption))); done))
            go_wp2
            exact ⟨⟨k + 1, by omega, by go_num, Below.step HBB.out hbz⟩, by simp [intOf]; omega⟩
          · obtain rfl : k = l.length := by omega
            have hki : ¬ (l.length : Int) < l.length := by omega
            go_wp2_with fail
            refine (implLib_any (renL old nm l) _ _ (HVB.out.below hb) hw').mono ?_
            rintro e wd ⟨rfl, hbd⟩
            rw [HGD.out]
            have hbe := Below.step (Below.step HB0.out hb) hbd
            go_wp2
            go_ret
            exact ⟨rfl, hbe⟩
    · obtain ⟨k1, k2⟩ := puOk_txt hok
      have HOK := Lib.hid hok
      have hpw : (puV t.data.toList).wt ≤ 2000000 := by
        have h := parI_wt t.data.toList (splitF t.data.toList 10).length
        rw [List.take_length] at h
        rw [puV, if_pos hok]
        have h : (parI t.data.toList).wt ≤ t.data.toList.length + 1 := h
        rw [← size_list] at h; omega
      have e7 : (⟨(puV t.data.toList).fmtG.toArray⟩ : ByteArray) = t := by rw [Un.fmtG, if_pos k1, k2]
      go_wp2_with fail
      rw [← hW6]
      clear hW6 hok
      refine (implFU_any (puV t.data.toList) _ _ _ _ W6 HV.out (by omega)).mono ?_
      rintro e w7 ⟨rfl, hb7⟩
      rw [e7, k1]
      have HB7 := Lib.hid (Below.step HB6.out hb7)
      clear e7 k1 k2 hb7 hpw
      go_wp2_with fail
      refine (specPU_any t w7 (by omega)).mono ?_
      rintro e w8 ⟨s0, s1, s2, s3, rfl, hs8, hb8⟩
      obtain ⟨p8, c8, q8, d8, rfl, rfl, rfl, rfl, -⟩ := hs8.form
      rw [HOK.out]
      obtain ⟨W8, hW8, hbW8⟩ : ∃ q : World, q = w8.alloc (.cells #[.string (puV t.data.toList).name, .slice p8 (puV t.data.toList).incs.length c8, .slice q8 (puV t.data.toList).axs.length d8, .string (puV t.data.toList).goal] 34) ∧ Below w8.heap.size w8 q := ⟨_, rfl, (Below.refl _ _).alloc (Nat.le_refl _) _⟩
      have hb08 := Below.step (Below.step HB7.out hb8) hbW8
      clear hs8
      go_wp2_with fail
      rw [← hW8]
      clear hW8 hbW8 hb8
      refine (drawRU_any pp nn cc W8 ⟨code_in_below H.out.1 hb08, H.out.2⟩ hn).mono ?_
      rintro e w9 ⟨v, l, old, nm, rfl, hus, hl5, hlw, hos, hns, hb9⟩
      obtain ⟨p9, c9, rfl, -⟩ := hus.form
      have hwu := wtU_cap 1000 l hlw
      have hw : l.length + wtU l ≤ 1048576 := by omega
      have HU9 := Lib.hid (hus.mono (B' := fun b => b < w9.heap.size) (SameOn.refl _ _) (fun b hb => hb.2))
      have hb09 := Below.step hb08 hb9
      clear hus hwu hb08 hb9
      go_wp2_with fail
      refine (implRU_any l _ old nm w9 HU9.out hw (by omega)).mono ?_
      rintro e wa ⟨va, rfl, hva, hba⟩
      obtain ⟨pa, ca, rfl, -⟩ := OwnRow.form hva
      go_wp2_with fail
      refine (specRU_any l _ old nm wa (HU9.out.below hba) hw (by omega)).mono ?_
      rintro e wb ⟨vb, rfl, hvb, hbb⟩
      obtain ⟨pb, cb, rfl, -⟩ := OwnRow.form hvb
      have hb0b := Below.step (Below.step hb09 hba) hbb
      clear hvb
      cases hren : renOk l old nm
      · have e0 : renV l old nm = [] := by simp [renV, hren]
        rw [e0]
        clear hren hva
        go_wp2
        go_ret
        exact ⟨rfl, hb0b⟩
      · obtain ⟨hg', hok', hback⟩ := renOk_back hren
        obtain ⟨hgl, -, hne, -⟩ := renOk_parts hren
        have e1 : renV l old nm = renL old nm l := by rw [renV, if_pos hren]
        have hlw' := renL_wt (old := old) hgl hne hlw hns
        have hlen := renL_len (old := old) (name := nm) l
        have hw' : (renL old nm l).length + wtU (renL old nm l) ≤ 1048576 := by have := wtU_cap 20000 _ hlw'; rw [hlen] at this ⊢; omega
        rw [e1] at hva
        rw [e1]
        have HVA := Lib.hid (hva.at_.below hbb)
        have HGD := Lib.hid hg'
        have HBK := Lib.hid hback
        have HOB := Lib.hid hok'
        have HLW := Lib.hid hlw'
        have HLN := Lib.hid hlen
        clear hren hg' hok' hback hgl hne e1 hlw' hva hlen hlw
        go_wp2_with fail
        refine (implRU_any (renL old nm l) _ nm old wb HVA.out hw' (by omega)).mono ?_
        rintro e wc ⟨vc, rfl, hvc, hbc⟩
        rw [HOB.out]
        rw [HBK.out] at hvc
        obtain ⟨pc, kc, rfl, -⟩ := OwnRow.form hvc
        have HVC := Lib.hid hvc.at_
        have HUC := Lib.hid (HU9.out.below (Below.step hba (Below.step hbb hbc)))
        have HVB := Lib.hid (HVA.out.below hbc)
        have HB0 := Lib.hid (Below.step hb0b hbc)
        clear hvc hba hbb hbc hb0b hb09
        go_wp2
        go_loopw [24] (fun i wr => ∃ k : Nat, k ≤ l.length ∧ i = .int .i64 k ∧ Below wc.heap.size wc wr) (fun i _ => l.length - (intOf i).toNat)
        case atStart => exact ⟨0, Nat.zero_le _, rfl, by exact bel⟩
        case round =>
          obtain ⟨k, hk, rfl, hb⟩ := hrel
          by_cases hlt : k < l.length
          · obtain ⟨b, o, rfl, hB, p1, c1, p2, c2, hx0, hx1, hx2, hx3, hx⟩ := (HVC.out.below hb).at_ hlt
            obtain ⟨b', o', rfl, hB', p1', c1', p2', c2', hy0, hy1, hy2, hy3, hy⟩ := (HUC.out.below hb).at_ hlt
            obtain ⟨a, ha⟩ : ∃ a, l[k] = a := ⟨_, rfl⟩
            rw [ha] at hx0 hx1 hx3 hy0 hy1 hy3
            have zx := bsz (World.block_lt_of_cell? _ _ hx0)
            have zy := bsz (World.block_lt_of_cell? _ _ hy0)
            have hki : (k : Int) < l.length := by omega
            have HBB := Lib.hid hb
            clear ha hx hy hx2 hy2 hb
            go_wp2
            obtain ⟨C, HC0⟩ := class_of (InF wr.heap.size _ [(⟨b, o + k * 4, none⟩, .string a.name), (⟨b, o + k * 4 + 1, none⟩, .slice p1 a.incs.length c1), (⟨b, o + k * 4 + 3, none⟩, .string a.goal), (⟨b', o' + k * 4, none⟩, .string a.name), (⟨b', o' + k * 4 + 1, none⟩, .slice p1' a.incs.length c1'), (⟨b', o' + k * 4 + 3, none⟩, .string a.goal)] [] [])
            have HC := Lib.hid HC0
            clear HC0
            refine wp_region_flow (C := C) (by kernel_rfl) (by kernel_rfl) (fun L hL => (HC.out _ _).2 (InF.start (by first | (intro _ hs; cases hs; done) | (simp only [List.forall_mem_cons]; go_simp)) (by first | (intro _ hs; cases hs; done) | (simp only [List.forall_mem_cons]; go_simp)) (by first | (intro _ hs; cases hs; done) | (simp only [List.forall_mem_cons]; go_simp)) (by first | (intro _ hs; cases hs; done) | (simp only [List.forall_mem_cons]; go_simp)) L hL)) ?_
            repeat (first | ((first | apply flow_free rfl | (apply flow_yes; (case hw => go_simp))); (intro L w' hun hrd hC; have hC := (HC.out _ _).1 hC; have hb' := hC.below; have hf' := hC.cell; (try simp only [List.forall_mem_cons] at hf'); go_simp; first | exact ⟨(HC.out _ _).2 (hC.skip _ (by rfl)), rfl⟩ | (rw [if_neg]; (exact ⟨(HC.out _ _).2 (hC.skip _ (by rfl)), rfl⟩); omega) | fail); go_simp) | (apply flow_no; (case hw => (go_simp; try (intro hh; cases hh))); (intro L w' _ _ hC; exact (HC.out _ _).2 (((HC.out _ _).1 hC).skip _ (by rfl))); go_simp))
            refine flow_nil ?_
            intro L wz hL hz
            have hz := (HC.out _ _).1 hz
            have hbz := hz.below
            have hcz := hz.cell
            try simp only [List.forall_mem_cons] at hcz
            have hdz := hz.done
            try simp only [List.forall_mem_cons] at hdz
            (try have hwz : Below w.heap.size w wz := by first | exact Below.trans (by (repeat (first | with_reducible (first | exact bR _ _ | assumption | refine bA ?_ _ | refine bS ?_ (by first | exact Nat.le_refl _ | (simp; done) | (simp; omega)) _) | assumption | exact bR _ _ | refine bD ?_ | refine bN ?_ _ | refine bT ?_ (by assumption)))) hbz | ((repeat (first | with_reducible (first | exact bR _ _ | assumption | refine bA ?_ _ | refine bS ?_ (by first | exact Nat.le_refl _ | (simp; done) | (simp; omega)) _) | assumption | exact bR _ _ | refine bD ?_ | refine bN ?_ _ | refine bT ?_ (by assumption))); done))
            go_wp2
            exact ⟨⟨k + 1, by omega, by go_num, Below.step HBB.out hbz⟩, by simp [intOf]; omega⟩
          · obtain rfl : k = l.length := by omega
            have hki : ¬ (l.length : Int) < l.length := by omega
            go_wp2_with fail
            refine (implLib_any (renL old nm l) _ _ (HVB.out.below hb) hw').mono ?_
            rintro e wd ⟨rfl, hbd⟩
            rw [HGD.out]
            have hbe := Below.step (Below.step HB0.out hb) hbd
            go_wp2
            go_ret
            exact ⟨rfl, hbe⟩
  · obtain ⟨k1, k2⟩ := txt_back hg
    have e : u.fmtG = u.txt := by rw [Un.fmtG, if_pos hg]
    rw [e, k2] at z0 z1 z2 z3
    rw [e, k1, k2]
    clear hg k1 k2 hdl hfs e
    go_wp2_with fail
    clear y0 y1 y2 y3 yf z0 z1 z2 z3 zf ze4 zd4
    refine (drawPU_any pp nn cc w4 ⟨code_in_below H.out.1 HB4.out, H.out.2⟩ hn).mono ?_
    rintro e w5 ⟨t, rfl, ht, hb5⟩
    have hb05 := Below.step HB4.out hb5
    go_wp2_with fail
    refine (implPU_any t w5 (by omega) (HM.out.below hb05)).mono ?_
    rintro e w6 ⟨v0, v1, v2, v3, rfl, hv, hb6⟩
    obtain ⟨p6, c6, q6, d6, rfl, rfl, rfl, rfl, -⟩ := hv.at_.form
    obtain ⟨W6, hW6, hbW6⟩ : ∃ q : World, q = w6.alloc (.cells #[.string (puV t.data.toList).name, .slice p6 (puV t.data.toList).incs.length c6, .slice q6 (puV t.data.toList).axs.length d6, .string (puV t.data.toList).goal] 34) ∧ Below w6.heap.size w6 q := ⟨_, rfl, (Below.refl _ _).alloc (Nat.le_refl _) _⟩
    have HV := Lib.hid (hv.at_.below hbW6)
    have HB6 := Lib.hid (Below.step (Below.step hb05 hb6) hbW6)
    clear hv hb5 hb6 hb05 hbW6
    cases hok : puOk t.data.toList
    · have HOK := Lib.hid hok
      go_wp2_with fail
      rw [← hW6]
      clear hW6 hok
      refine (specPU_any t W6 (by omega)).mono ?_
      rintro e w8 ⟨s0, s1, s2, s3, rfl, hs8, hb8⟩
      obtain ⟨p8, c8, q8, d8, rfl, rfl, rfl, rfl, -⟩ := hs8.form
      rw [HOK.out]
      obtain ⟨W8, hW8, hbW8⟩ : ∃ q : World, q = w8.alloc (.cells #[.string (puV t.data.toList).name, .slice p8 (puV t.data.toList).incs.length c8, .slice q8 (puV t.data.toList).axs.length d8, .string (puV t.data.toList).goal] 34) ∧ Below w8.heap.size w8 q := ⟨_, rfl, (Below.refl _ _).alloc (Nat.le_refl _) _⟩
      have hb08 := Below.step (Below.step HB6.out hb8) hbW8
      clear hs8
      go_wp2_with fail
      rw [← hW8]
      clear hW8 hbW8 hb8
      refine (drawRU_any pp nn cc W8 ⟨code_in_below H.out.1 hb08, H.out.2⟩ hn).mono ?_
      rintro e w9 ⟨v, l, old, nm, rfl, hus, hl5, hlw, hos, hns, hb9⟩
      obtain ⟨p9, c9, rfl, -⟩ := hus.form
      have hwu := wtU_cap 1000 l hlw
      have hw : l.length + wtU l ≤ 1048576 := by omega
      have HU9 := Lib.hid (hus.mono (B' := fun b => b < w9.heap.size) (SameOn.refl _ _) (fun b hb => hb.2))
      have hb09 := Below.step hb08 hb9
      clear hus hwu hb08 hb9
      go_wp2_with fail
      refine (implRU_any l _ old nm w9 HU9.out hw (by omega)).mono ?_
      rintro e wa ⟨va, rfl, hva, hba⟩
      obtain ⟨pa, ca, rfl, -⟩ := OwnRow.form hva
      go_wp2_with fail
      refine (specRU_any l _ old nm wa (HU9.out.below hba) hw (by omega)).mono ?_
      rintro e wb ⟨vb, rfl, hvb, hbb⟩
      obtain ⟨pb, cb, rfl, -⟩ := OwnRow.form hvb
      have hb0b := Below.step (Below.step hb09 hba) hbb
      clear hvb
      cases hren : renOk l old nm
      · have e0 : renV l old nm = [] := by simp [renV, hren]
        rw [e0]
        clear hren hva
        go_wp2
        go_ret
        exact ⟨rfl, hb0b⟩
      · obtain ⟨hg', hok', hback⟩ := renOk_back hren
        obtain ⟨hgl, -, hne, -⟩ := renOk_parts hren
        have e1 : renV l old nm = renL old nm l := by rw [renV, if_pos hren]
        have hlw' := renL_wt (old := old) hgl hne hlw hns
        have hlen := renL_len (old := old) (name := nm) l
        have hw' : (renL old nm l).length + wtU (renL old nm l) ≤ 1048576 := by have := wtU_cap 20000 _ hlw'; rw [hlen] at this ⊢; omega
        rw [e1] at hva
        rw [e1]
        have HVA := Lib.hid (hva.at_.below hbb)
        have HGD := Lib.hid hg'
        have HBK := Lib.hid hback
        have HOB := Lib.hid hok'
        have HLW := Lib.hid hlw'
        have HLN := Lib.hid hlen
        clear hren hg' hok' hback hgl hne e1 hlw' hva hlen hlw
        go_wp2_with fail
        refine (implRU_any (renL old nm l) _ nm old wb HVA.out hw' (by omega)).mono ?_
        rintro e wc ⟨vc, rfl, hvc, hbc⟩
        rw [HOB.out]
        rw [HBK.out] at hvc
        obtain ⟨pc, kc, rfl, -⟩ := OwnRow.form hvc
        have HVC := Lib.hid hvc.at_
        have HUC := Lib.hid (HU9.out.below (Below.step hba (Below.step hbb hbc)))
        have HVB := Lib.hid (HVA.out.below hbc)
        have HB0 := Lib.hid (Below.step hb0b hbc)
        clear hvc hba hbb hbc hb0b hb09
        go_wp2
        go_loopw [24] (fun i wr => ∃ k : Nat, k ≤ l.length ∧ i = .int .i64 k ∧ Below wc.heap.size wc wr) (fun i _ => l.length - (intOf i).toNat)
        case atStart => exact ⟨0, Nat.zero_le _, rfl, by exact bel⟩
        case round =>
          obtain ⟨k, hk, rfl, hb⟩ := hrel
          by_cases hlt : k < l.length
          · obtain ⟨b, o, rfl, hB, p1, c1, p2, c2, hx0, hx1, hx2, hx3, hx⟩ := (HVC.out.below hb).at_ hlt
            obtain ⟨b', o', rfl, hB', p1', c1', p2', c2', hy0, hy1, hy2, hy3, hy⟩ := (HUC.out.below hb).at_ hlt
            obtain ⟨a, ha⟩ : ∃ a, l[k] = a := ⟨_, rfl⟩
            rw [ha] at hx0 hx1 hx3 hy0 hy1 hy3
            have zx := bsz (World.block_lt_of_cell? _ _ hx0)
            have zy := bsz (World.block_lt_of_cell? _ _ hy0)
            have hki : (k : Int) < l.length := by omega
            have HBB := Lib.hid hb
            clear ha hx hy hx2 hy2 hb
            go_wp2
            obtain ⟨C, HC0⟩ := class_of (InF wr.heap.size _ [(⟨b, o + k * 4, none⟩, .string a.name), (⟨b, o + k * 4 + 1, none⟩, .slice p1 a.incs.length c1), (⟨b, o + k * 4 + 3, none⟩, .string a.goal), (⟨b', o' + k * 4, none⟩, .string a.name), (⟨b', o' + k * 4 + 1, none⟩, .slice p1' a.incs.length c1'), (⟨b', o' + k * 4 + 3, none⟩, .string a.goal)] [] [])
            have HC := Lib.hid HC0
            clear HC0
            refine wp_region_flow (C := C) (by kernel_rfl) (by kernel_rfl) (fun L hL => (HC.out _ _).2 (InF.start (by first | (intro _ hs; cases hs; done) | (simp only [List.forall_mem_cons]; go_simp)) (by first | (intro _ hs; cases hs; done) | (simp only [List.forall_mem_cons]; go_simp)) (by first | (intro _ hs; cases hs; done) | (simp only [List.forall_mem_cons]; go_simp)) (by first | (intro _ hs; cases hs; done) | (simp only [List.forall_mem_cons]; go_simp)) L hL)) ?_
            repeat (first | ((first | apply flow_free rfl | (apply flow_yes; (case hw => go_simp))); (intro L w' hun hrd hC; have hC := (HC.out _ _).1 hC; have hb' := hC.below; have hf' := hC.cell; (try simp only [List.forall_mem_cons] at hf'); go_simp; first | exact ⟨(HC.out _ _).2 (hC.skip _ (by rfl)), rfl⟩ | (rw [if_neg]; (exact ⟨(HC.out _ _).2 (hC.skip _ (by rfl)), rfl⟩); omega) | fail); go_simp) | (apply flow_no; (case hw => (go_simp; try (intro hh; cases hh))); (intro L w' _ _ hC; exact (HC.out _ _).2 (((HC.out _ _).1 hC).skip _ (by rfl))); go_simp))
            refine flow_nil ?_
            intro L wz hL hz
            have hz := (HC.out _ _).1 hz
            have hbz := hz.below
            have hcz := hz.cell
            try simp only [List.forall_mem_cons] at hcz
            have hdz := hz.done
            try simp only [List.forall_mem_cons] at hdz
            (try have hwz : Below w.heap.size w wz := by first | exact Below.trans (by (repeat (first | with_reducible (first | exact bR _ _ | assumption | refine bA ?_ _ | refine bS ?_ (by first | exact Nat.le_refl _ | (simp; done) | (simp; omega)) _) | assumption | exact bR _ _ | refine bD ?_ | refine bN ?_ _ | refine bT ?_ (by assumption)))) hbz | ((repeat (first | with_reducible (first | exact bR _ _ | assumption | refine bA ?_ _ | refine bS ?_ (by first | exact Nat.le_refl _ | (simp; done) | (simp; omega)) _) | assumption | exact bR _ _ | refine bD ?_ | refine bN ?_ _ | refine bT ?_ (by assumption))); done))
            go_wp2
            exact ⟨⟨k + 1, by omega, by go_num, Below.step HBB.out hbz⟩, by simp [intOf]; omega⟩
          · obtain rfl : k = l.length := by omega
            have hki : ¬ (l.length : Int) < l.length := by omega
            go_wp2_with fail
            refine (implLib_any (renL old nm l) _ _ (HVB.out.below hb) hw').mono ?_
            rintro e wd ⟨rfl, hbd⟩
            rw [HGD.out]
            have hbe := Below.step (Below.step HB0.out hb) hbd
            go_wp2
            go_ret
            exact ⟨rfl, hbe⟩
    · obtain ⟨k1, k2⟩ := puOk_txt hok
      have HOK := Lib.hid hok
      have hpw : (puV t.data.toList).wt ≤ 2000000 := by
        have h := parI_wt t.data.toList (splitF t.data.toList 10).length
        rw [List.take_length] at h
        rw [puV, if_pos hok]
        have h : (parI t.data.toList).wt ≤ t.data.toList.length + 1 := h
        rw [← size_list] at h; omega
      have e7 : (⟨(puV t.data.toList).fmtG.toArray⟩ : ByteArray) = t := by rw [Un.fmtG, if_pos k1, k2]
      go_wp2_with fail
      rw [← hW6]
      clear hW6 hok
      refine (implFU_any (puV t.data.toList) _ _ _ _ W6 HV.out (by omega)).mono ?_
      rintro e w7 ⟨rfl, hb7⟩
      rw [e7, k1]
      have HB7 := Lib.hid (Below.step HB6.out hb7)
      clear e7 k1 k2 hb7 hpw
      go_wp2_with fail
      refine (specPU_any t w7 (by omega)).mono ?_
      rintro e w8 ⟨s0, s1, s2, s3, rfl, hs8, hb8⟩
      obtain ⟨p8, c8, q8, d8, rfl, rfl, rfl, rfl, -⟩ := hs8.form
      rw [HOK.out]
      obtain ⟨W8, hW8, hbW8⟩ : ∃ q : World, q = w8.alloc (.cells #[.string (puV t.data.toList).name, .slice p8 (puV t.data.toList).incs.length c8, .slice q8 (puV t.data.toList).axs.length d8, .string (puV t.data.toList).goal] 34) ∧ Below w8.heap.size w8 q := ⟨_, rfl, (Below.refl _ _).alloc (Nat.le_refl _) _⟩
      have hb08 := Below.step (Below.step HB7.out hb8) hbW8
      clear hs8
      go_wp2_with fail
      rw [← hW8]
      clear hW8 hbW8 hb8
      refine (drawRU_any pp nn cc W8 ⟨code_in_below H.out.1 hb08, H.out.2⟩ hn).mono ?_
      rintro e w9 ⟨v, l, old, nm, rfl, hus, hl5, hlw, hos, hns, hb9⟩
      obtain ⟨p9, c9, rfl, -⟩ := hus.form
      have hwu := wtU_cap 1000 l hlw
      have hw : l.length + wtU l ≤ 1048576 := by omega
      have HU9 := Lib.hid (hus.mono (B' := fun b => b < w9.heap.size) (SameOn.refl _ _) (fun b hb => hb.2))
      have hb09 := Below.step hb08 hb9
      clear hus hwu hb08 hb9
      go_wp2_with fail
      refine (implRU_any l _ old nm w9 HU9.out hw (by omega)).mono ?_
      rintro e wa ⟨va, rfl, hva, hba⟩
      obtain ⟨pa, ca, rfl, -⟩ := OwnRow.form hva
      go_wp2_with fail
      refine (specRU_any l _ old nm wa (HU9.out.below hba) hw (by omega)).mono ?_
      rintro e wb ⟨vb, rfl, hvb, hbb⟩
      obtain ⟨pb, cb, rfl, -⟩ := OwnRow.form hvb
      have hb0b := Below.step (Below.step hb09 hba) hbb
      clear hvb
      cases hren : renOk l old nm
      · have e0 : renV l old nm = [] := by simp [renV, hren]
        rw [e0]
        clear hren hva
        go_wp2
        go_ret
        exact ⟨rfl, hb0b⟩
      · obtain ⟨hg', hok', hback⟩ := renOk_back hren
        obtain ⟨hgl, -, hne, -⟩ := renOk_parts hren
        have e1 : renV l old nm = renL old nm l := by rw [renV, if_pos hren]
        have hlw' := renL_wt (old := old) hgl hne hlw hns
        have hlen := renL_len (old := old) (name := nm) l
        have hw' : (renL old nm l).length + wtU (renL old nm l) ≤ 1048576 := by have := wtU_cap 20000 _ hlw'; rw [hlen] at this ⊢; omega
        rw [e1] at hva
        rw [e1]
        have HVA := Lib.hid (hva.at_.below hbb)
        have HGD := Lib.hid hg'
        have HBK := Lib.hid hback
        have HOB := Lib.hid hok'
        have HLW := Lib.hid hlw'
        have HLN := Lib.hid hlen
        clear hren hg' hok' hback hgl hne e1 hlw' hva hlen hlw
        go_wp2_with fail
        refine (implRU_any (renL old nm l) _ nm old wb HVA.out hw' (by omega)).mono ?_
        rintro e wc ⟨vc, rfl, hvc, hbc⟩
        rw [HOB.out]
        rw [HBK.out] at hvc
        obtain ⟨pc, kc, rfl, -⟩ := OwnRow.form hvc
        have HVC := Lib.hid hvc.at_
        have HUC := Lib.hid (HU9.out.below (Below.step hba (Below.step hbb hbc)))
        have HVB := Lib.hid (HVA.out.below hbc)
        have HB0 := Lib.hid (Below.step hb0b hbc)
        clear hvc hba hbb hbc hb0b hb09
        go_wp2
        go_loopw [24] (fun i wr => ∃ k : Nat, k ≤ l.length ∧ i = .int .i64 k ∧ Below wc.heap.size wc wr) (fun i _ => l.length - (intOf i).toNat)
        case atStart => exact ⟨0, Nat.zero_le _, rfl, by exact bel⟩
        case round =>
          obtain ⟨k, hk, rfl, hb⟩ := hrel
          by_cases hlt : k < l.length
          · obtain ⟨b, o, rfl, hB, p1, c1, p2, c2, hx0, hx1, hx2, hx3, hx⟩ := (HVC.out.below hb).at_ hlt
            obtain ⟨b', o', rfl, hB', p1', c1', p2', c2', hy0, hy1, hy2, hy3, hy⟩ := (HUC.out.below hb).at_ hlt
            obtain ⟨a, ha⟩ : ∃ a, l[k] = a := ⟨_, rfl⟩
            rw [ha] at hx0 hx1 hx3 hy0 hy1 hy3
            have zx := bsz (World.block_lt_of_cell? _ _ hx0)
            have zy := bsz (World.block_lt_of_cell? _ _ hy0)
            have hki : (k : Int) < l.length := by omega
            have HBB := Lib.hid hb
            clear ha hx hy hx2 hy2 hb
            go_wp2
            obtain ⟨C, HC0⟩ := class_of (InF wr.heap.size _ [(⟨b, o + k * 4, none⟩, .string a.name), (⟨b, o + k * 4 + 1, none⟩, .slice p1 a.incs.length c1), (⟨b, o + k * 4 + 3, none⟩, .string a.goal), (⟨b', o' + k * 4, none⟩, .string a.name), (⟨b', o' + k * 4 + 1, none⟩, .slice p1' a.incs.length c1'), (⟨b', o' + k * 4 + 3, none⟩, .string a.goal)] [] [])
            have HC := Lib.hid HC0
            clear HC0
            refine wp_region_flow (C := C) (by kernel_rfl) (by kernel_rfl) (fun L hL => (HC.out _ _).2 (InF.start (by first | (intro _ hs; cases hs; done) | (simp only [List.forall_mem_cons]; go_simp)) (by first | (intro _ hs; cases hs; done) | (simp only [List.forall_mem_cons]; go_simp)) (by first | (intro _ hs; cases hs; done) | (simp only [List.forall_mem_cons]; go_simp)) (by first | (intro _ hs; cases hs; done) | (simp only [List.forall_mem_cons]; go_simp)) L hL)) ?_
            repeat (first | ((first | apply flow_free rfl | (apply flow_yes; (case hw => go_simp))); (intro L w' hun hrd hC; have hC := (HC.out _ _).1 hC; have hb' := hC.below; have hf' := hC.cell; (try simp only [List.forall_mem_cons] at hf'); go_simp; first | exact ⟨(HC.out _ _).2 (hC.skip _ (by rfl)), rfl⟩ | (rw [if_neg]; (exact ⟨(HC.out _ _).2 (hC.skip _ (by rfl)), rfl⟩); omega) | fail); go_simp) | (apply flow_no; (case hw => (go_simp; try (intro hh; cases hh))); (intro L w' _ _ hC; exact (HC.out _ _).2 (((HC.out _ _).1 hC).skip _ (by rfl))); go_simp))
            refine flow_nil ?_
            intro L wz hL hz
            have hz := (HC.out _ _).1 hz
            have hbz := hz.below
            have hcz := hz.cell
            try simp only [List.forall_mem_cons] at hcz
            have hdz := hz.done
            try simp only [List.forall_mem_cons] at hdz
            (try have hwz : Below w.heap.size w wz := by first | exact Below.trans (by (repeat (first | with_reducible (first | exact bR _ _ | assumption | refine bA ?_ _ | refine bS ?_ (by first | exact Nat.le_refl _ | (simp; done) | (simp; omega)) _) | assumption | exact bR _ _ | refine bD ?_ | refine bN ?_ _ | refine bT ?_ (by assumption)))) hbz | ((repeat (first | with_reducible (first | exact bR _ _ | assumption | refine bA ?_ _ | refine bS ?_ (by first | exact Nat.le_refl _ | (simp; done) | (simp; omega)) _) | assumption | exact bR _ _ | refine bD ?_ | refine bN ?_ _ | refine bT ?_ (by assumption))); done))
            go_wp2
            exact ⟨⟨k + 1, by omega, by go_num, Below.step HBB.out hbz⟩, by simp [intOf]; omega⟩
          · obtain rfl : k = l.length := by omega
            have hki : ¬ (l.length : Int) < l.length := by omega
            go_wp2_with fail
            refine (implLib_any (renL old nm l) _ _ (HVB.out.below hb) hw').mono ?_
            rintro e wd ⟨rfl, hbd⟩
            rw [HGD.out]
            have hbe := Below.step (Below.step HB0.out hb) hbd
            go_wp2
            go_ret
            exact ⟨rfl, hbe⟩
theorem fnUnits (pp : Option Addr) (nn cc : Nat) (w : World) (hE : EnvM w) (h : nn ≤ 1000000 → CodeIn w (.slice pp nn cc)) (hc : nn ≤ cc) :
    Calls Tryz.prog 5 #[.slice pp nn cc] w fun e w' => e = .returned (.bool true) ∧ Below w.heap.size w w' := by
  by_cases hn : nn ≤ 65536
  · exact fnUnits_small pp nn cc w hE ⟨h (by omega), hc⟩ hn
  · have hnn : (65536 : Int) < (nn : Int) := by omega
    clear hE h
    go_enter Tryz.func5, Tryz.ntmps5
    go_wp2_with fail
    refine (vBigU_any _ _ _ _).mono ?_
    rintro e w' ⟨rfl, rfl⟩
    go_wp2
    go_ret
    exact ⟨rfl, Below.refl _ _⟩
open Go.RowKit Go.ChangeShapes Go.WideShapes
theorem addr_add0 (b o : Nat) (i : Nat) : (⟨b, o, none⟩ : Addr).add i = ⟨b, o + i, none⟩ := by unfold Addr.add; split <;> simp_all
theorem cell_spot {w : World} {a : Addr} {v : Value} (h : w.cell? a = some v) : a.spot = none := by
  unfold World.cell? at h
  split at h
  · split at h
    · cases h
    · rename_i hs; simpa using hs
  · cases h
theorem bytes_of {H : Type} {enc : TypeId × Value → H} {W : World} {base : Nat} {sp : Nat → Bool} {held : Bool} {a : Option Addr} {len cap : Nat} {d : DataW H} {p : List MemPlace}
    (hsp : ∀ b, sp b = true) (h : DataW.Trod enc Tryz.prog W base sp held 22 (.slice a len cap) d p) : len ≤ 1000000 → CodeIn W (.slice a len cap) := by
  intro hl
  obtain ⟨fuel, hf⟩ := h
  rcases open_ints Tryz.underlying22 Tryz.underlying5 (by kernel_rfl) hf with ⟨hcs, _⟩ | ⟨a', len', cap', zs, hcs, _, hlc, hcm, hz, _, hcell, hwf⟩
  · simp [Value.cells] at hcs
    obtain ⟨rfl, rfl, rfl⟩ := hcs
    exact ⟨[], by simp, ListAt.nil _ _ _ _ _ _⟩
  · simp [Value.cells] at hcs
    obtain ⟨rfl, rfl, rfl⟩ := hcs
    rw [hsp, if_pos rfl] at hz
    have hlen : ((zs.take len).map fun z => UInt8.ofNat z.toNat).length = len := by simp; omega
    refine ⟨(zs.take len).map fun z => UInt8.ofNat z.toNat, by rw [hlen]; exact hl, some a', cap, by rw [hlen], by rw [hlen]; exact Nat.le_trans hlc hcm, fun i x hx => ?_⟩
    have hi : i < len := by
      have := (List.getElem?_eq_some_iff.1 hx).1
      omega
    have hc := hcell i (by omega)
    have h0 := hcell 0 (by omega)
    obtain ⟨b, o, s⟩ := a'
    have hs : s = none := by
      have := cell_spot h0
      simpa [Addr.add] using this
    subst hs
    rw [addr_add0] at hc
    refine ⟨b, o, rfl, World.block_lt_of_cell? W _ hc, [.int .u8 (zs.getD i 0)], rfl, fun j hj => ?_, ?_⟩
    · obtain rfl : j = 0 := by omega
      rw [Nat.mul_one, Nat.add_zero]; exact hc
    · have hz2 : zs.getD i 0 ∈ zs := by
        rw [List.getD_eq_getElem?_getD, List.getElem?_eq_getElem (by omega)]; exact List.getElem_mem _
      have hw := hwf _ hz2
      have hb : 0 ≤ zs.getD i 0 ∧ zs.getD i 0 ≤ 255 := by
        simpa [Lit.wf, IntKind.min, IntKind.max, IntKind.signed, IntKind.bits] using hw
      have hx2 : x = UInt8.ofNat (zs.getD i 0).toNat := by
        rw [List.getElem?_map, List.getElem?_take, if_pos hi, List.getElem?_eq_getElem (by omega)] at hx
        rw [List.getD_eq_getElem?_getD, List.getElem?_eq_getElem (by omega)]
        simpa using hx.symm
      show [Value.int .u8 (zs.getD i 0)] = [.int .u8 (x.toNat : Int)]
      have e : (x.toNat : Int) = zs.getD i 0 := by
        rw [hx2, UInt8.toNat_ofNat']; omega
      rw [e]
open Go.RowKit Go.ChangeShapes Go.WideShapes
theorem bytes_cap {H : Type} {enc : TypeId × Value → H} {W : World} {base : Nat} {sp : Nat → Bool} {held : Bool} {a : Option Addr} {len cap : Nat} {d : DataW H} {p : List MemPlace}
    (h : DataW.Trod enc Tryz.prog W base sp held 22 (.slice a len cap) d p) : len ≤ cap := by
  obtain ⟨fuel, hf⟩ := h
  rcases open_ints Tryz.underlying22 Tryz.underlying5 (by kernel_rfl) hf with ⟨hcs, _⟩ | ⟨a', len', cap', zs, hcs, _, hlc, hcm, hz, _, hcell, hwf⟩
  · simp [Value.cells] at hcs
    obtain ⟨rfl, rfl, rfl⟩ := hcs
    exact Nat.le_refl _
  · simp [Value.cells] at hcs
    obtain ⟨rfl, rfl, rfl⟩ := hcs
    omega
end Go.Proofs.YtkgfanajgdelcaaGreatDoor
