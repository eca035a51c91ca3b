import Derived.Test.YtkgfanajgdelcaaGreatDoorUnPart33
namespace Go.Proofs.YtkgfanajgdelcaaGreatDoor
set_option maxRecDepth 100000
open Go.RowKit
theorem elemUnL : Elem Tryz.prog 24 34 4 80 := elem_of Tryz.underlying24 (z := .agg #[.string ⟨#[]⟩, .slice none 0 0, .slice none 0 0, .string ⟨#[]⟩]) (by kernel_rfl) rfl (by omega)
def LibRel (w : World) (g m n : Nat) (out names i : Value) (wr : World) : Prop :=
  ∃ (k og oc : Nat) (D : List UC) (nmv : Value), k ≤ n ∧ i = .int .i64 k ∧ D.length = k ∧ out = .slice (some ⟨og, 0, none⟩) k oc ∧ nmv = names ∧ LibS w g (m + k * 40) nmv (libNm.take k) og oc D wr
set_option maxHeartbeats 12800000 in
theorem library_any (g m : Nat) (w : World) (h : Cur w g m) (hm : m + 1000 ≤ 1000000000) :
    Calls Tryz.prog 80 #[.pointer (some ⟨g, 0, none⟩)] w (StepO g m 400 (fun w' v => ∃ us : List Un, UnsAt (NewB w w') w' v us ∧ us.length ≤ 5 ∧ ∀ u ∈ us, u.wt ≤ 1000) w) := by
  have hgl := h.lt
  have HS0 := Lib.hid (LibS.init h)
  clear h
  go_enter Tryz.func80, Tryz.ntmps80
  go_wp2_with fail
  refine (pick_any g m 6 _ HS0.out.cur (by omega) (by omega) (by omega)).mono ?_
  rintro e w1 ⟨_, rfl, ⟨r1, rfl, hr0, hr2⟩, hc1, hg1⟩
  have HC1 := Lib.hid hc1
  clear hc1
  have ⟨c1, f1⟩ := gcell hg1
  have hz1 := hg1.size
  (try simp at hz1)
  have HS1 := Lib.hid (HS0.out.later hg1 HC1.out)
  obtain ⟨n1, rfl⟩ : ∃ n1 : Nat, r1 = (n1 : Int) := ⟨r1.toNat, by omega⟩
  clear hg1 c1 f1
  go_wp2
  go_loopw [3, 4, 7] (LibRel w g (m + 2) n1) (fun _ _ i _ => n1 - (intOf i).toNat)
  case atStart => exact ⟨0, _, _, [], _, Nat.zero_le _, rfl, rfl, rfl, rfl, by rw [Nat.zero_mul, Nat.add_zero]; exact HS1.out⟩
  case round =>
    obtain ⟨k, og, oc, D, nmv, hk, rfl, hDk, rfl, rfl, hls⟩ := hrel
    have HLS := Lib.hid hls
    have hq := hls.gr.size
    have hztx := bsz (blk_lt hls.tx)
    clear hls
    by_cases hlt : k < n1
    · have hki : (k : Int) < n1 := by omega
      have hk5 : k < libNm.length := by show k < 5; omega
      have c0 : wr.cell? ⟨w.heap.size + 2, k, none⟩ = some (.string libNm[k]) := by
        rw [cell_of_row wr _ k _ _ (0, 0) HLS.out.tx, libTx]
        simp [strW, List.getElem?_eq_getElem hk5]
      have hsz := libNm_size _ (List.getElem_mem hk5)
      have HTN := Lib.hid (List.take_succ_eq_append_getElem hk5)
      obtain ⟨x, hx⟩ : ∃ x, libNm[k] = x := ⟨_, rfl⟩
      rw [hx] at c0 hsz HTN
      clear hx
      have hnl : (libNm.take k).length = k := by rw [List.length_take]; omega
      have hnb : ∀ b, nmv.ownBlock = some b → w.heap.size ≤ b ∧ b < wr.heap.size := fun b hb => ⟨own_base HLS.out.nr b hb, own_lt' HLS.out.nr hb⟩
      have HNB := Lib.hid hnb
      have HNS := Lib.hid (rowS_own (S := fun b => nmv.ownBlock = some b) HLS.out.nr (fun s hs => by have := libNm_size s (List.mem_of_mem_take hs); unfold maxLen; omega) (own_lenU HLS.out.nr) (fun _ h => h)).at_
      clear hnb
      go_wp2_with fail
      refine (unit_any g (m + 2 + k * 40) x nmv (libNm.take k) _ HLS.out.cur (by omega) HNS.out (fun b hb => by have := HNB.out b hb; omega) hsz (by omega) (fun s hs => libNm_size s (List.mem_of_mem_take hs))).mono ?_
      rintro e w2 ⟨_, rfl, ⟨u, p4, c4, p7, c7, rfl, hun, hown, hwt⟩, hc2, hg2⟩
      have HC2 := Lib.hid hc2
      clear hc2
      have ⟨c2, f2⟩ := gcell hg2
      have hz2 := hg2.size
      (try simp at hz2)
      subst hun
      have HL2 := Lib.hid (HLS.out.later hg2 HC2.out)
      have HOW := Lib.hid hown
      have c02 := ((gcell hg2).1 (w.heap.size + 2) k hztx.1 (by omega)).trans c0
      have hz2' := hg2.size
      have ztx2 := bsz (show w.heap.size + 2 < w2.heap.size by omega)
      clear hg2 c2 f2 hown c0
      have hbB : Below w2.heap.size w2 (w2.alloc (.cells #[.string u.name, .slice p4 u.incs.length c4, .slice p7 u.axs.length c7, .string u.goal] 34)) := (Below.refl _ _).alloc (Nat.le_refl _) _
      have HLB := Lib.hid (HL2.out.below hbB)
      go_wp2_with (at_builtin; refine wpList_app1 rfl (.tmp 29) (.tmp 34) _ rfl w.heap.size 9 1 16 elemStr _ _ (strW (libNm.take k)) rfl (w2.alloc (.cells #[.string u.name, .slice p4 u.incs.length c4, .slice p7 u.axs.length c7, .string u.goal] 34)) #[.string u.name] rfl _ (by simp) rfl HLB.out.nr rfl (by simp [Value.oneCell']) (by omega) (by unfold maxLen; omega) HLB.out.gr.size ?_; intro v3 w3 hown3 hg3 hnr3 hlt3)
      have hzB := hbB.size
      have HL3 := Lib.hid (HLB.out.name hown3 hg3 hnr3)
      have HBX := Lib.hid ((hg3.block w2.heap.size (by simp) (fun e => by have := HNB.out _ e.symm; omega)).trans (heap_alloc_new w2 _))
      have HX := Lib.hid ((show UC.Own 9 wr.heap.size w2 ⟨u, p4, c4, p7, c7⟩ from HOW.out).same (w' := w3) (fun b hb hl => (hg3.block b (by simp; omega) (fun e => by have h1 := HNB.out _ e.symm; have h2 := (UC.Own.blk HOW.out hb).1; omega)).trans (hbB.block b hl)))
      have HNV := Lib.hid (show ∀ b, v3.ownBlock = some b → b < wr.heap.size ∨ w2.heap.size ≤ b from fun b hb => by
        rcases hnr3 with e | ⟨b', e, hge⟩
        · rw [e] at hb; exact .inl (HNB.out b hb).2
        · rw [e] at hb; injection hb with hb; simp at hge; exact .inr (by omega))
      obtain ⟨wC, hwC⟩ : ∃ q, q = w3 := ⟨_, rfl⟩
      subst hwC
      obtain ⟨wr0, hwr0⟩ : ∃ q, q = wr := ⟨_, rfl⟩
      subst hwr0
      have hz3 := hg3.size
      simp only [World.size_alloc] at hz3 hlt3
      clear hown3 hg3 hnr3 hbB hzB c02 ztx2
      go_wp2
      go_loopw [9] (fun t wr' => ∃ j : Nat, j ≤ k ∧ t = .int .i64 j ∧ Below wC.heap.size wC wr') (fun t _ => k - (intOf t).toNat)
      case atStart => exact ⟨0, Nat.zero_le _, rfl, by exact bel⟩
      case round =>
        obtain ⟨j, hmk, rfl, hbm⟩ := hrel
        have HBX2 := Lib.hid ((hbm.block _ (blk_lt HBX.out)).trans HBX.out)
        obtain ⟨m0, m1, m2, m3, mf⟩ := row4_cells HBX2.out
        have zm := bsz (blk_lt HBX2.out)
        have HOUT := Lib.hid (show wr.ownsRow w.heap.size 34 4 (.slice (some ⟨og, 0, none⟩) k oc) k (flatU D) from hDk ▸ own_below HL3.out.or hbm)
        have HBM := Lib.hid hbm
        have hqm := hbm.size
        have hzg := bsz (own_lt HOUT.out)
        have hkc : k ≤ oc := by
          rcases HOUT.out.2 with ⟨h1, -⟩ | ⟨_, _, _, h1, -, -, h2, -⟩
          · cases h1
          · cases h1; exact h2
        clear hbm
        by_cases hlm : j < k
        · obtain ⟨g', e', -, -, -, hcell⟩ := rowU_cell HOUT.out (by omega)
          obtain rfl : og = g' := by injection e' with e'; injection e'
          have c0 := (hcell j D[j] (List.getElem?_eq_getElem (by omega))).1
          obtain ⟨z, hz⟩ : ∃ z, D[j].u.name = z := ⟨_, rfl⟩
          rw [hz] at c0
          have hmi : (j : Int) < k := by omega
          have hll : Op.bytesLess z.toList u.name.toList = lessB z u.name := by rw [lessB, ByteArray.toList_eq, ByteArray.toList_eq]
          clear hz hcell
          cases hL : lessB z u.name
          · rw [hL] at hll
            have hkm : (j : Int) ≤ oc := by omega
            have hkm2 : j ≤ oc := by omega
            have hkk : (k : Int) ≤ oc := by omega
            have hml : (j : Int) ≤ k := by omega
            have hcm : oc ≠ j := by omega
            clear hL
            go_wp2_with fail
            go_quiet (fail)
            go_wp2
            obtain ⟨wq, hwq⟩ : ∃ q, q = wr.drewN nq := ⟨_, rfl⟩
            rw [← hwq]
            have hbq : Below wr.heap.size wr wq := by rw [hwq]; exact bel
            clear hwq
            have n0 := cellQ hbq m0
            have n1 := cellQ hbq m1
            have n2 := cellQ hbq m2
            have n3 := cellQ hbq m3
            have zn := bsz (World.block_lt_of_cell? _ _ n0)
            have HOQ := Lib.hid (own_below HOUT.out hbq)
            have HBQ := Lib.hid (Below.step HBM.out hbq)
            have hqq := hbq.size
            clear m0 m1 m2 m3 mf
            refine wp_region_any3 [none, some (.slice (some ⟨og, 0, none⟩) k oc), some (.int .i64 (j : Nat)), some (.slice (some ⟨og, 0, none⟩) j oc), none, some (.agg #[.string u.name, .slice p4 u.incs.length c4, .slice p7 u.axs.length c7, .string u.goal]), none, none, some (.slice (some ⟨og, 0, none⟩) k oc), some (.int .i64 (j : Nat)), some (.slice (some ⟨og, j * 4, none⟩) (k - j) (oc - j)), none, none] (InsD 34 4 wq j (k + 1) (flatU (D.take j)) (flatU (D.drop j)) (#[.string u.name, .slice p4 u.incs.length c4, .slice p7 u.axs.length c7, .string u.goal])) (by kernel_rfl) (by kernel_rfl) (fun L hL => InsD.start hL) ?_
            refine flowV_ch rfl rfl (by intro u' hu' L w' hun hbe hD; go_simp; exact hD.b0 hun) ?_
            intro x0
            go_simp
            refine flowV_st rfl rfl (by intro u' L w' hun hbe hD; go_simp; first | exact ⟨hD.other 1 (by decide), rfl⟩ | exact hD.other 1 (by decide)) ?_
            go_simp
            refine flowV_st rfl rfl (by intro u' L w' hun hbe hD; go_simp; first | exact ⟨hD.other 2 (by decide), rfl⟩ | exact hD.other 2 (by decide)) ?_
            go_simp
            refine flowV_st rfl rfl (by intro u' L w' hun hbe hD; go_simp; first | exact ⟨hD.other 3 (by decide), rfl⟩ | exact hD.other 3 (by decide)) ?_
            go_simp
            refine flowV_ch rfl rfl ?_ ?_
            · intro u' hu' L w' hun hbe hD
              have hu0 : u' 0 = x0 := (after_eq hu' (by kernel_rfl)).trans (by simp [upd])
              have h0 := after_behind hbe (p := 0) (by kernel_rfl)
              have hw := hD.bel
              refine each_app (.tmp 52) (.tmp 55) 24 rfl wq.heap.size 34 4 80 elemUnL (u' 0) 0 [] (by rw [hu0]; rfl) _ j (flatU (D.take j)) rfl ((srcU_head HOQ.out (Nat.le_of_lt hlm) oc).below hw) (hD.r0 h0 (getD_tf hun)) (by first | exact flatU_cell _ | simp) (by omega) (by unfold maxLen; omega) hw.size ?_
              intro v' w2 hr hg hn
              exact hD.a4 hun h0 hr hg hn
            intro x4
            go_simp
            refine flowV_st rfl rfl (by intro u' L w' hun hbe hD; have hw := hD.bel; have e0 := cellQ hw n0; have e1 := cellQ hw n1; have e2 := cellQ hw n2; have e3 := cellQ hw n3; have ze := bsz (World.block_lt_of_cell? _ _ e0); go_simp; first | exact ⟨hD.other 5 (by decide), rfl⟩ | exact hD.other 5 (by decide)) ?_
            go_simp
            refine flowV_ch rfl rfl (by intro u' hu' L w' hun hbe hD; go_simp; exact hD.b6 hun) ?_
            intro x6
            go_simp
            refine flowV_ch rfl rfl ?_ ?_
            · intro u' hu' L w' hun hbe hD
              have hu4 : u' 4 = x4 := (after_eq hu' (by kernel_rfl)).trans (by simp [upd])
              have hu6 : u' 6 = x6 := (after_eq hu' (by kernel_rfl)).trans (by simp [upd])
              have h4 := after_behind hbe (p := 4) (by kernel_rfl)
              have h6 := after_behind hbe (p := 6) (by kernel_rfl)
              have hw := hD.bel
              obtain ⟨q, hq, hqc, -, -⟩ := hD.r6 h6 (getD_tf hun)
              refine each_app (.tmp 56) (.tmp 58) 24 rfl wq.heap.size 34 4 80 elemUnL (u' 4) j (flatU (D.take j)) (by rw [hu4]; rfl) (.slice (some ⟨q, 0, none⟩) 1 1) 1 (#[.string u.name, .slice p4 u.incs.length c4, .slice p7 u.axs.length c7, .string u.goal]).toList (by rw [← hq, hu6]; rfl) (src_block hqc (by simp)) (hD.r4 h4 (getD_tf hun)) (by simp [Value.oneCell']) (by omega) (by unfold maxLen; omega) hw.size ?_
              intro v' w2 hr hg hn
              exact hD.a7 hun h4 h6 hr hg
            intro x7
            go_simp
            refine flowV_st rfl rfl (by intro u' L w' hun hbe hD; go_simp; first | exact ⟨hD.other 8 (by decide), rfl⟩ | exact hD.other 8 (by decide)) ?_
            go_simp
            refine flowV_st rfl rfl (by intro u' L w' hun hbe hD; go_simp; first | exact ⟨hD.other 9 (by decide), rfl⟩ | exact hD.other 9 (by decide)) ?_
            go_simp
            refine flowV_st rfl rfl (by intro u' L w' hun hbe hD; go_simp; first | exact ⟨hD.other 10 (by decide), rfl⟩ | exact hD.other 10 (by decide)) ?_
            go_simp
            refine flowV_ch rfl rfl ?_ ?_
            · intro u' hu' L w' hun hbe hD
              have hu7 : u' 7 = x7 := (after_eq hu' (by kernel_rfl)).trans (by simp [upd])
              have h7 := after_behind hbe (p := 7) (by kernel_rfl)
              have hw := hD.bel
              refine each_app (.tmp 59) (.tmp 62) 24 rfl wq.heap.size 34 4 80 elemUnL (u' 7) (j + 1) ((flatU (D.take j)) ++ (#[.string u.name, .slice p4 u.incs.length c4, .slice p7 u.axs.length c7, .string u.goal]).toList) (by rw [hu7]; rfl) _ ((k + 1) - (j + 1)) (flatU (D.drop j)) rfl ((srcU_tail HOQ.out (Nat.le_of_lt hlm) (oc - j)).below hw) (hD.r7 h7 (getD_tf hun)) (by first | exact flatU_cell _ | simp) (by omega) (by unfold maxLen; omega) hw.size ?_
              intro v' w2 hr hg hn
              rw [show j + 1 + ((k + 1) - (j + 1)) = (k + 1) by omega] at hr
              exact hD.a11 hun h7 hr hg
            intro x11
            go_simp
            refine flowV_ch rfl rfl ?_ ?_
            · intro u' hu' L w' hun hbe hD
              have hu11 : u' 11 = x11 := (after_eq hu' (by kernel_rfl)).trans (by simp [upd])
              have h11 := after_behind hbe (p := 11) (by kernel_rfl)
              go_simp
              rw [← hu11]
              exact hD.m12 hun h11
            intro x12
            go_simp
            refine flowV_nil ?_
            intro L w3 hL hD
            have hx12 : x12 = x11 := by have := hD.r12 (by simpa using hL 12 (by simp)); simpa [upd] using this
            have hrow : w3.ownsRow wq.heap.size 34 4 x11 (k + 1) ((flatU (D.take j)) ++ (#[.string u.name, .slice p4 u.incs.length c4, .slice p7 u.axs.length c7, .string u.goal]).toList ++ (flatU (D.drop j))) := by have := hD.r11 (by simpa using hL 11 (by simp)); simpa [upd] using this
            have hbel3 := hD.bel
            subst hx12
            have hrow2 : w3.ownsRow wq.heap.size 34 4 x12 (D.length + 1) (flatU (D.take j ++ ⟨u, p4, c4, p7, c7⟩ :: D.drop j)) := by
              have e : flatU (D.take j ++ ⟨u, p4, c4, p7, c7⟩ :: D.drop j) = flatU (D.take j) ++ flatU [(⟨u, p4, c4, p7, c7⟩ : UC)] ++ flatU (D.drop j) := by rw [← flatU_app, ← flatU_app]; simp
              rw [e, hDk]; exact hrow
            obtain ⟨g', c', rfl⟩ := own_some hrow2 (by omega)
            have hXq : UC.Own 9 wr0.heap.size wq ⟨u, p4, c4, p7, c7⟩ := HX.out.same fun b _ hl => HBQ.out.block b hl
            have HPUT := Lib.hid ((HL3.out.below HBQ.out).put (k := j) hbel3 ⟨own_lower hXq.ra (by omega), own_lower hXq.rb (by omega), hXq.ap⟩ (Nat.le_trans hwt (by omega)) (fun y hy b h1 h2 => by have h3 := ((HLS.out.uns.each y hy).blk h1).2; have h4 := (hXq.blk h2).1; omega) (fun b hb h2 => by have h3 := HNV.out b hb; have h4 := UC.Own.blk HOW.out h2; omega) hrow2)
            clear hrow hrow2 hbel3 hXq
            go_wp2
            refine ⟨⟨k + 1, g', c', D.take j ++ ⟨u, p4, c4, p7, c7⟩ :: D.drop j, v3, by omega, by go_num, ?_, by rw [hDk], rfl, ?_⟩, by simp [intOf]; omega⟩
            · have := congrArg List.length (List.take_append_drop j D)
              rw [List.length_append] at this
              rw [List.length_append, List.length_cons]; omega
            · rw [HTN.out, show m + 2 + (k + 1) * 40 = m + 2 + k * 40 + 40 by omega]; exact HPUT.out
          · rw [hL] at hll
            clear hL
            go_wp2_with fail
            go_quiet (fail)
            go_wp2
            refine ⟨⟨j + 1, by omega, by go_num, by exact bel⟩, by simp [intOf]; omega⟩
        · obtain rfl : k = j := by omega
          have hkk : (k : Int) ≤ oc := by omega
          have hmi : ¬ (k : Int) < k := by omega
          by_cases hck : k = oc
          · subst hck
            go_wp2_with fail
            go_quiet (fail)
            go_wp2
            obtain ⟨wq, hwq⟩ : ∃ q, q = wr.drewN nq := ⟨_, rfl⟩
            rw [← hwq]
            have hbq : Below wr.heap.size wr wq := by rw [hwq]; exact bel
            clear hwq
            have n0 := cellQ hbq m0
            have n1 := cellQ hbq m1
            have n2 := cellQ hbq m2
            have n3 := cellQ hbq m3
            have zn := bsz (World.block_lt_of_cell? _ _ n0)
            have HOQ := Lib.hid (own_below HOUT.out hbq)
            have HBQ := Lib.hid (Below.step HBM.out hbq)
            have hqq := hbq.size
            clear m0 m1 m2 m3 mf
            refine wp_region_any3 [none, some (.slice (some ⟨og, 0, none⟩) k k), some (.int .i64 (k : Nat)), some (.slice (some ⟨og, 0, none⟩) k k), none, some (.agg #[.string u.name, .slice p4 u.incs.length c4, .slice p7 u.axs.length c7, .string u.goal]), none, none, some (.slice (some ⟨og, 0, none⟩) k k), some (.int .i64 (k : Nat)), some (.slice (some ⟨og, 0, none⟩) 0 0), none, none] (InsD 34 4 wq k (k + 1) (flatU (D.take k)) (flatU (D.drop k)) (#[.string u.name, .slice p4 u.incs.length c4, .slice p7 u.axs.length c7, .string u.goal])) (by kernel_rfl) (by kernel_rfl) (fun L hL => InsD.start hL) ?_
            refine flowV_ch rfl rfl (by intro u' hu' L w' hun hbe hD; go_simp; exact hD.b0 hun) ?_
            intro x0
            go_simp
            refine flowV_st rfl rfl (by intro u' L w' hun hbe hD; go_simp; first | exact ⟨hD.other 1 (by decide), rfl⟩ | exact hD.other 1 (by decide)) ?_
            go_simp
            refine flowV_st rfl rfl (by intro u' L w' hun hbe hD; go_simp; first | exact ⟨hD.other 2 (by decide), rfl⟩ | exact hD.other 2 (by decide)) ?_
            go_simp
            refine flowV_st rfl rfl (by intro u' L w' hun hbe hD; go_simp; first | exact ⟨hD.other 3 (by decide), rfl⟩ | exact hD.other 3 (by decide)) ?_
            go_simp
            refine flowV_ch rfl rfl ?_ ?_
            · intro u' hu' L w' hun hbe hD
              have hu0 : u' 0 = x0 := (after_eq hu' (by kernel_rfl)).trans (by simp [upd])
              have h0 := after_behind hbe (p := 0) (by kernel_rfl)
              have hw := hD.bel
              refine each_app (.tmp 52) (.tmp 55) 24 rfl wq.heap.size 34 4 80 elemUnL (u' 0) 0 [] (by rw [hu0]; rfl) _ k (flatU (D.take k)) rfl ((srcU_head HOQ.out (Nat.le_refl _) k).below hw) (hD.r0 h0 (getD_tf hun)) (by first | exact flatU_cell _ | simp) (by omega) (by unfold maxLen; omega) hw.size ?_
              intro v' w2 hr hg hn
              exact hD.a4 hun h0 hr hg hn
            intro x4
            go_simp
            refine flowV_st rfl rfl (by intro u' L w' hun hbe hD; have hw := hD.bel; have e0 := cellQ hw n0; have e1 := cellQ hw n1; have e2 := cellQ hw n2; have e3 := cellQ hw n3; have ze := bsz (World.block_lt_of_cell? _ _ e0); go_simp; first | exact ⟨hD.other 5 (by decide), rfl⟩ | exact hD.other 5 (by decide)) ?_
            go_simp
            refine flowV_ch rfl rfl (by intro u' hu' L w' hun hbe hD; go_simp; exact hD.b6 hun) ?_
            intro x6
            go_simp
            refine flowV_ch rfl rfl ?_ ?_
            · intro u' hu' L w' hun hbe hD
              have hu4 : u' 4 = x4 := (after_eq hu' (by kernel_rfl)).trans (by simp [upd])
              have hu6 : u' 6 = x6 := (after_eq hu' (by kernel_rfl)).trans (by simp [upd])
              have h4 := after_behind hbe (p := 4) (by kernel_rfl)
              have h6 := after_behind hbe (p := 6) (by kernel_rfl)
              have hw := hD.bel
              obtain ⟨q, hq, hqc, -, -⟩ := hD.r6 h6 (getD_tf hun)
              refine each_app (.tmp 56) (.tmp 58) 24 rfl wq.heap.size 34 4 80 elemUnL (u' 4) k (flatU (D.take k)) (by rw [hu4]; rfl) (.slice (some ⟨q, 0, none⟩) 1 1) 1 (#[.string u.name, .slice p4 u.incs.length c4, .slice p7 u.axs.length c7, .string u.goal]).toList (by rw [← hq, hu6]; rfl) (src_block hqc (by simp)) (hD.r4 h4 (getD_tf hun)) (by simp [Value.oneCell']) (by omega) (by unfold maxLen; omega) hw.size ?_
              intro v' w2 hr hg hn
              exact hD.a7 hun h4 h6 hr hg
            intro x7
            go_simp
            refine flowV_st rfl rfl (by intro u' L w' hun hbe hD; go_simp; first | exact ⟨hD.other 8 (by decide), rfl⟩ | exact hD.other 8 (by decide)) ?_
            go_simp
            refine flowV_st rfl rfl (by intro u' L w' hun hbe hD; go_simp; first | exact ⟨hD.other 9 (by decide), rfl⟩ | exact hD.other 9 (by decide)) ?_
            go_simp
            refine flowV_st rfl rfl (by intro u' L w' hun hbe hD; go_simp; first | exact ⟨hD.other 10 (by decide), rfl⟩ | exact hD.other 10 (by decide)) ?_
            go_simp
            refine flowV_ch rfl rfl ?_ ?_
            · intro u' hu' L w' hun hbe hD
              have hu7 : u' 7 = x7 := (after_eq hu' (by kernel_rfl)).trans (by simp [upd])
              have h7 := after_behind hbe (p := 7) (by kernel_rfl)
              have hw := hD.bel
              refine each_app (.tmp 59) (.tmp 62) 24 rfl wq.heap.size 34 4 80 elemUnL (u' 7) (k + 1) ((flatU (D.take k)) ++ (#[.string u.name, .slice p4 u.incs.length c4, .slice p7 u.axs.length c7, .string u.goal]).toList) (by rw [hu7]; rfl) _ ((k + 1) - (k + 1)) (flatU (D.drop k)) rfl (srcU_nil hDk) (hD.r7 h7 (getD_tf hun)) (by first | exact flatU_cell _ | simp) (by omega) (by unfold maxLen; omega) hw.size ?_
              intro v' w2 hr hg hn
              rw [show k + 1 + ((k + 1) - (k + 1)) = (k + 1) by omega] at hr
              exact hD.a11 hun h7 hr hg
            intro x11
            go_simp
            refine flowV_ch rfl rfl ?_ ?_
            · intro u' hu' L w' hun hbe hD
              have hu11 : u' 11 = x11 := (after_eq hu' (by kernel_rfl)).trans (by simp [upd])
              have h11 := after_behind hbe (p := 11) (by kernel_rfl)
              go_simp
              rw [← hu11]
              exact hD.m12 hun h11
            intro x12
            go_simp
            refine flowV_nil ?_
            intro L w3 hL hD
            have hx12 : x12 = x11 := by have := hD.r12 (by simpa using hL 12 (by simp)); simpa [upd] using this
            have hrow : w3.ownsRow wq.heap.size 34 4 x11 (k + 1) ((flatU (D.take k)) ++ (#[.string u.name, .slice p4 u.incs.length c4, .slice p7 u.axs.length c7, .string u.goal]).toList ++ (flatU (D.drop k))) := by have := hD.r11 (by simpa using hL 11 (by simp)); simpa [upd] using this
            have hbel3 := hD.bel
            subst hx12
            have hrow2 : w3.ownsRow wq.heap.size 34 4 x12 (D.length + 1) (flatU (D.take k ++ ⟨u, p4, c4, p7, c7⟩ :: D.drop k)) := by
              have e : flatU (D.take k ++ ⟨u, p4, c4, p7, c7⟩ :: D.drop k) = flatU (D.take k) ++ flatU [(⟨u, p4, c4, p7, c7⟩ : UC)] ++ flatU (D.drop k) := by rw [← flatU_app, ← flatU_app]; simp
              rw [e, hDk]; exact hrow
            obtain ⟨g', c', rfl⟩ := own_some hrow2 (by omega)
            have hXq : UC.Own 9 wr0.heap.size wq ⟨u, p4, c4, p7, c7⟩ := HX.out.same fun b _ hl => HBQ.out.block b hl
            have HPUT := Lib.hid ((HL3.out.below HBQ.out).put (k := k) hbel3 ⟨own_lower hXq.ra (by omega), own_lower hXq.rb (by omega), hXq.ap⟩ (Nat.le_trans hwt (by omega)) (fun y hy b h1 h2 => by have h3 := ((HLS.out.uns.each y hy).blk h1).2; have h4 := (hXq.blk h2).1; omega) (fun b hb h2 => by have h3 := HNV.out b hb; have h4 := UC.Own.blk HOW.out h2; omega) hrow2)
            clear hrow hrow2 hbel3 hXq
            go_wp2
            refine ⟨⟨k + 1, g', c', D.take k ++ ⟨u, p4, c4, p7, c7⟩ :: D.drop k, v3, by omega, by go_num, ?_, by rw [hDk], rfl, ?_⟩, by simp [intOf]; omega⟩
            · have := congrArg List.length (List.take_append_drop k D)
              rw [List.length_append] at this
              rw [List.length_append, List.length_cons]; omega
            · rw [HTN.out, show m + 2 + (k + 1) * 40 = m + 2 + k * 40 + 40 by omega]; exact HPUT.out
          · have hcm : oc ≠ k := fun e => hck e.symm
            go_wp2_with fail
            go_quiet (fail)
            go_wp2
            obtain ⟨wq, hwq⟩ : ∃ q, q = wr.drewN nq := ⟨_, rfl⟩
            rw [← hwq]
            have hbq : Below wr.heap.size wr wq := by rw [hwq]; exact bel
            clear hwq
            have n0 := cellQ hbq m0
            have n1 := cellQ hbq m1
            have n2 := cellQ hbq m2
            have n3 := cellQ hbq m3
            have zn := bsz (World.block_lt_of_cell? _ _ n0)
            have HOQ := Lib.hid (own_below HOUT.out hbq)
            have HBQ := Lib.hid (Below.step HBM.out hbq)
            have hqq := hbq.size
            clear m0 m1 m2 m3 mf
            refine wp_region_any3 [none, some (.slice (some ⟨og, 0, none⟩) k oc), some (.int .i64 (k : Nat)), some (.slice (some ⟨og, 0, none⟩) k oc), none, some (.agg #[.string u.name, .slice p4 u.incs.length c4, .slice p7 u.axs.length c7, .string u.goal]), none, none, some (.slice (some ⟨og, 0, none⟩) k oc), some (.int .i64 (k : Nat)), some (.slice (some ⟨og, k * 4, none⟩) 0 (oc - k)), none, none] (InsD 34 4 wq k (k + 1) (flatU (D.take k)) (flatU (D.drop k)) (#[.string u.name, .slice p4 u.incs.length c4, .slice p7 u.axs.length c7, .string u.goal])) (by kernel_rfl) (by kernel_rfl) (fun L hL => InsD.start hL) ?_
            refine flowV_ch rfl rfl (by intro u' hu' L w' hun hbe hD; go_simp; exact hD.b0 hun) ?_
            intro x0
            go_simp
            refine flowV_st rfl rfl (by intro u' L w' hun hbe hD; go_simp; first | exact ⟨hD.other 1 (by decide), rfl⟩ | exact hD.other 1 (by decide)) ?_
            go_simp
            refine flowV_st rfl rfl (by intro u' L w' hun hbe hD; go_simp; first | exact ⟨hD.other 2 (by decide), rfl⟩ | exact hD.other 2 (by decide)) ?_
            go_simp
            refine flowV_st rfl rfl (by intro u' L w' hun hbe hD; go_simp; first | exact ⟨hD.other 3 (by decide), rfl⟩ | exact hD.other 3 (by decide)) ?_
            go_simp
            refine flowV_ch rfl rfl ?_ ?_
            · intro u' hu' L w' hun hbe hD
              have hu0 : u' 0 = x0 := (after_eq hu' (by kernel_rfl)).trans (by simp [upd])
              have h0 := after_behind hbe (p := 0) (by kernel_rfl)
              have hw := hD.bel
              refine each_app (.tmp 52) (.tmp 55) 24 rfl wq.heap.size 34 4 80 elemUnL (u' 0) 0 [] (by rw [hu0]; rfl) _ k (flatU (D.take k)) rfl ((srcU_head HOQ.out (Nat.le_refl _) oc).below hw) (hD.r0 h0 (getD_tf hun)) (by first | exact flatU_cell _ | simp) (by omega) (by unfold maxLen; omega) hw.size ?_
              intro v' w2 hr hg hn
              exact hD.a4 hun h0 hr hg hn
            intro x4
            go_simp
            refine flowV_st rfl rfl (by intro u' L w' hun hbe hD; have hw := hD.bel; have e0 := cellQ hw n0; have e1 := cellQ hw n1; have e2 := cellQ hw n2; have e3 := cellQ hw n3; have ze := bsz (World.block_lt_of_cell? _ _ e0); go_simp; first | exact ⟨hD.other 5 (by decide), rfl⟩ | exact hD.other 5 (by decide)) ?_
            go_simp
            refine flowV_ch rfl rfl (by intro u' hu' L w' hun hbe hD; go_simp; exact hD.b6 hun) ?_
            intro x6
            go_simp
            refine flowV_ch rfl rfl ?_ ?_
            · intro u' hu' L w' hun hbe hD
              have hu4 : u' 4 = x4 := (after_eq hu' (by kernel_rfl)).trans (by simp [upd])
              have hu6 : u' 6 = x6 := (after_eq hu' (by kernel_rfl)).trans (by simp [upd])
              have h4 := after_behind hbe (p := 4) (by kernel_rfl)
              have h6 := after_behind hbe (p := 6) (by kernel_rfl)
              have hw := hD.bel
              obtain ⟨q, hq, hqc, -, -⟩ := hD.r6 h6 (getD_tf hun)
              refine each_app (.tmp 56) (.tmp 58) 24 rfl wq.heap.size 34 4 80 elemUnL (u' 4) k (flatU (D.take k)) (by rw [hu4]; rfl) (.slice (some ⟨q, 0, none⟩) 1 1) 1 (#[.string u.name, .slice p4 u.incs.length c4, .slice p7 u.axs.length c7, .string u.goal]).toList (by rw [← hq, hu6]; rfl) (src_block hqc (by simp)) (hD.r4 h4 (getD_tf hun)) (by simp [Value.oneCell']) (by omega) (by unfold maxLen; omega) hw.size ?_
              intro v' w2 hr hg hn
              exact hD.a7 hun h4 h6 hr hg
            intro x7
            go_simp
            refine flowV_st rfl rfl (by intro u' L w' hun hbe hD; go_simp; first | exact ⟨hD.other 8 (by decide), rfl⟩ | exact hD.other 8 (by decide)) ?_
            go_simp
            refine flowV_st rfl rfl (by intro u' L w' hun hbe hD; go_simp; first | exact ⟨hD.other 9 (by decide), rfl⟩ | exact hD.other 9 (by decide)) ?_
            go_simp
            refine flowV_st rfl rfl (by intro u' L w' hun hbe hD; go_simp; first | exact ⟨hD.other 10 (by decide), rfl⟩ | exact hD.other 10 (by decide)) ?_
            go_simp
            refine flowV_ch rfl rfl ?_ ?_
            · intro u' hu' L w' hun hbe hD
              have hu7 : u' 7 = x7 := (after_eq hu' (by kernel_rfl)).trans (by simp [upd])
              have h7 := after_behind hbe (p := 7) (by kernel_rfl)
              have hw := hD.bel
              refine each_app (.tmp 59) (.tmp 62) 24 rfl wq.heap.size 34 4 80 elemUnL (u' 7) (k + 1) ((flatU (D.take k)) ++ (#[.string u.name, .slice p4 u.incs.length c4, .slice p7 u.axs.length c7, .string u.goal]).toList) (by rw [hu7]; rfl) _ ((k + 1) - (k + 1)) (flatU (D.drop k)) rfl (srcU_nil hDk) (hD.r7 h7 (getD_tf hun)) (by first | exact flatU_cell _ | simp) (by omega) (by unfold maxLen; omega) hw.size ?_
              intro v' w2 hr hg hn
              rw [show k + 1 + ((k + 1) - (k + 1)) = (k + 1) by omega] at hr
              exact hD.a11 hun h7 hr hg
            intro x11
            go_simp
            refine flowV_ch rfl rfl ?_ ?_
            · intro u' hu' L w' hun hbe hD
              have hu11 : u' 11 = x11 := (after_eq hu' (by kernel_rfl)).trans (by simp [upd])
              have h11 := after_behind hbe (p := 11) (by kernel_rfl)
              go_simp
              rw [← hu11]
              exact hD.m12 hun h11
            intro x12
            go_simp
            refine flowV_nil ?_
            intro L w3 hL hD
            have hx12 : x12 = x11 := by have := hD.r12 (by simpa using hL 12 (by simp)); simpa [upd] using this
            have hrow : w3.ownsRow wq.heap.size 34 4 x11 (k + 1) ((flatU (D.take k)) ++ (#[.string u.name, .slice p4 u.incs.length c4, .slice p7 u.axs.length c7, .string u.goal]).toList ++ (flatU (D.drop k))) := by have := hD.r11 (by simpa using hL 11 (by simp)); simpa [upd] using this
            have hbel3 := hD.bel
            subst hx12
            have hrow2 : w3.ownsRow wq.heap.size 34 4 x12 (D.length + 1) (flatU (D.take k ++ ⟨u, p4, c4, p7, c7⟩ :: D.drop k)) := by
              have e : flatU (D.take k ++ ⟨u, p4, c4, p7, c7⟩ :: D.drop k) = flatU (D.take k) ++ flatU [(⟨u, p4, c4, p7, c7⟩ : UC)] ++ flatU (D.drop k) := by rw [← flatU_app, ← flatU_app]; simp
              rw [e, hDk]; exact hrow
            obtain ⟨g', c', rfl⟩ := own_some hrow2 (by omega)
            have hXq : UC.Own 9 wr0.heap.size wq ⟨u, p4, c4, p7, c7⟩ := HX.out.same fun b _ hl => HBQ.out.block b hl
            have HPUT := Lib.hid ((HL3.out.below HBQ.out).put (k := k) hbel3 ⟨own_lower hXq.ra (by omega), own_lower hXq.rb (by omega), hXq.ap⟩ (Nat.le_trans hwt (by omega)) (fun y hy b h1 h2 => by have h3 := ((HLS.out.uns.each y hy).blk h1).2; have h4 := (hXq.blk h2).1; omega) (fun b hb h2 => by have h3 := HNV.out b hb; have h4 := UC.Own.blk HOW.out h2; omega) hrow2)
            clear hrow hrow2 hbel3 hXq
            go_wp2
            refine ⟨⟨k + 1, g', c', D.take k ++ ⟨u, p4, c4, p7, c7⟩ :: D.drop k, v3, by omega, by go_num, ?_, by rw [hDk], rfl, ?_⟩, by simp [intOf]; omega⟩
            · have := congrArg List.length (List.take_append_drop k D)
              rw [List.length_append] at this
              rw [List.length_append, List.length_cons]; omega
            · rw [HTN.out, show m + 2 + (k + 1) * 40 = m + 2 + k * 40 + 40 by omega]; exact HPUT.out
    · obtain rfl : n1 = k := by omega
      have hki : ¬ (n1 : Int) < n1 := by omega
      by_cases h0 : n1 = 0
      · subst h0
        go_wp2
        go_ret
        exact ⟨_, rfl, ⟨[], ListAt.nil _ _ _ _ _ _, by simp, fun _ h => by cases h⟩, HLS.out.cur.more (by omega) (by omega), HLS.out.gr⟩
      · have hkz : ((n1 : Int) == 0) = false := by simp; omega
        go_wp2_with fail
        refine (pick_any g (m + 2 + n1 * 40) n1 _ HLS.out.cur (by omega) (by omega) (by omega)).mono ?_
        rintro e w2 ⟨_, rfl, ⟨r1, rfl, hr1, hr2⟩, hc2, hg2⟩
        have HC2 := Lib.hid hc2
        clear hc2
        have ⟨c2, f2⟩ := gcell hg2
        have hz2 := hg2.size
        (try simp at hz2)
        have HL2 := Lib.hid (HLS.out.later hg2 HC2.out)
        have hz2' := hg2.size
        obtain ⟨r, rfl⟩ : ∃ r : Nat, r1 = (r : Int) := ⟨r1.toNat, by omega⟩
        have hrk : (r : Int) < n1 := by omega
        have hrk2 : r < n1 := by omega
        clear hg2 c2 f2
        obtain ⟨x, hx⟩ : ∃ x, D[r]? = some x := ⟨_, List.getElem?_eq_getElem (by omega)⟩
        have hor := HL2.out.or
        rw [hDk] at hor
        obtain ⟨g', e', hog1, hog2, hfro, hcell⟩ := rowU_cell hor (by omega)
        obtain rfl : og = g' := by injection e' with e'; injection e'
        obtain ⟨c0, c1, c2, c3⟩ := hcell r x hx
        have HX := Lib.hid hx
        have HFRO := Lib.hid (And.intro hor hfro)
        have hwx := HL2.out.wt x (List.mem_of_getElem? hx)
        have HXO := Lib.hid (HL2.out.uns.each x (List.mem_of_getElem? hx))
        have hog0 : og < w2.heap.size := hog2
        have zog := bsz hog2
        clear hx hor hcell e' hfro hog2
        go_wp2_with fail
        refine (pick_any g (m + 2 + n1 * 40 + 2) 30 _ (HL2.out.cur.al (.cells #[.string x.u.name, .slice x.p x.u.incs.length x.c, .slice x.q x.u.axs.length x.d, .string x.u.goal] 34)) (by omega) (by omega) (by omega)).mono ?_
        rintro e w3 ⟨_, rfl, ⟨r3, rfl, hr3, hr4⟩, hc3, hg3⟩
        have HC3 := Lib.hid hc3
        clear hc3
        have ⟨c3, f3⟩ := gcell hg3
        have hz3 := hg3.size
        (try simp at hz3)
        have HG3 := Lib.hid (gr_trans (gr_al (gr_refl w2 g) _) hg3)
        have hB3 : w3.heap[w2.heap.size]? = _ := (hg3.block w2.heap.size (by simp) (fun e => by injection e with e; omega)).trans (heap_alloc_new w2 _)
        have HB3 := Lib.hid hB3
        obtain ⟨d0, d1, d2, d3, df⟩ := row4_cells hB3
        have zb3 := bsz (blk_lt hB3)
        obtain ⟨k0, k1, k2, k3, hf3, ho3⟩ := (HL2.out.later HG3.out HC3.out).fro HX.out
        have z23 := bsz ho3
        have hgb : g < w.heap.size + 3 := by omega
        have hgw : g < w2.heap.size := by omega
        have hw2 : w.heap.size + 3 ≤ w2.heap.size := by have := blk_lt HL2.out.tx; omega
        clear hB3 hg3 c0 c1 c2 c3 f3
        have hxn : x.u.name.size ≤ 400 := by have : x.u.wt = x.u.name.size + (x.u.incs.length + wtS x.u.incs) + (x.u.axs.length + wtS x.u.axs) + x.u.goal.size := rfl; omega
        rcases (by omega : r3 = 0 ∨ r3 = 1 ∨ r3 = 2 ∨ r3 = 3 ∨ r3 = 4 ∨ (4 < r3 ∧ r3 ≤ 29)) with rfl | rfl | rfl | rfl | rfl | ⟨hra, hrb⟩
        · go_wp2_with fail
          refine (of_lit g (m + 2 + n1 * 40 + 2 + 2) 400 4 w3.heap.size _ _ _ (by rfl) (by rfl) HC3.out (by omega) (by simp) (by simp) (by intro v hv; simp at hv; rcases hv with rfl | rfl | rfl | rfl; exact ⟨_, rfl, by decide⟩; exact ⟨_, rfl, by decide⟩; exact ⟨_, rfl, by decide⟩; exact ⟨_, rfl, hxn⟩)).mono ?_
          rintro e w4 ⟨_, rfl, ⟨s4, rfl, hs4⟩, hc4, hg4⟩
          have HC4 := Lib.hid hc4
          clear hc4
          have ⟨c4, f4⟩ := gcell hg4
          have hz4 := hg4.size
          (try simp at hz4)
          have HG4 := Lib.hid (gr_trans (gr_al HG3.out _) hg4)
          have hz4 := hg4.size
          simp only [World.size_alloc] at hz4
          have hB4 := (hg4.block w2.heap.size (by simp; omega) (fun e => by injection e with e; omega)).trans ((hao _ _ _ zb3.1).trans HB3.out)
          clear k0 k1 k2 k3
          obtain ⟨k0, k1, k2, k3, hf4, ho4⟩ := (HL2.out.later HG4.out HC4.out).fro HX.out
          clear d0 d1 d2 d3 df zb3 hf3 z23 HB3
          obtain ⟨d0, d1, d2, d3, df⟩ := row4_cells hB4
          have zb4 := bsz (blk_lt hB4)
          have z24 := bsz ho4
          clear hB4 hg4 c4 f4
          have hrow : ((w4.alloc (.cells #[.string s4] 9)).setCell ⟨w2.heap.size, 1, none⟩ (.slice (some ⟨w4.heap.size, 0, none⟩) 1 1)).ownsRow w2.heap.size 9 1 (.slice (some ⟨w4.heap.size, 0, none⟩) [s4].length 1) [s4].length (strW [s4]) := own_block (cur := #[.string s4]) ((heap_setCell_other _ ⟨_, _, _⟩ _ _ (by show w4.heap.size ≠ w2.heap.size; omega)).trans (heap_alloc_new w4 _)) (by omega) (Nat.le_refl _) (show 1 ≤ maxLen by decide) rfl rfl
          have hg5 := gr_sc (p := ⟨w2.heap.size, 1, none⟩) (gr_al HG4.out (.cells #[.string s4] 9)) (.inr (Nat.le_refl _)) (.slice (some ⟨w4.heap.size, 0, none⟩) 1 1)
          have hc5 := (HC4.out.al (.cells #[.string s4] 9)).sc (p := ⟨w2.heap.size, 1, none⟩) hgw (.slice (some ⟨w4.heap.size, 0, none⟩) 1 1)
          obtain ⟨ho, hs⟩ := UC.Own.newI HXO.out hg5 hgb hw2 hrow
          have hwy : (show Nat from (⟨⟨x.u.name, [s4], x.u.axs, x.u.goal⟩, some ⟨w4.heap.size, 0, none⟩, 1, x.q, x.d⟩ : UC).u.wt) ≤ 1000 := by
            show x.u.name.size + (1 + (s4.size + 0)) + (x.u.axs.length + wtS x.u.axs) + x.u.goal.size ≤ 1000
            have : x.u.wt = x.u.name.size + (x.u.incs.length + wtS x.u.incs) + (x.u.axs.length + wtS x.u.axs) + x.u.goal.size := rfl
            omega
          have HQ := Lib.hid (HL2.out.done (y := ⟨⟨x.u.name, [s4], x.u.axs, x.u.goal⟩, some ⟨w4.heap.size, 0, none⟩, 1, x.q, x.d⟩) hg5 hc5 HX.out ho hs hwy (by omega))
          clear hg5 hc5 ho hs hwy
          go_wp2
          go_ret
          obtain ⟨q1, q2, us, q3, q4, q5⟩ := HQ.out
          rw [hDk] at q3
          have q1' := q1.more (n := m + 400) (by omega) (by omega)
          clear q1
          (try rw [set4_alloc _ _ _ _ _ _ _ zb4.1 z24.1] at q1' q2 q3)
          dsimp only [set4W] at q1' q2 q3
          (try simp only [List.length_cons, List.length_nil, Nat.zero_add] at q1' q2 q3)
          refine ⟨.slice (some ⟨og, 0, none⟩) n1 oc, rfl, ⟨us, ?_, q4, q5⟩, ?_, ?_⟩
          · with_reducible exact q3
          · with_reducible exact q1'
          · with_reducible exact q2
        · have hax : x.u.axs.length ≤ 400 := by have : x.u.wt = x.u.name.size + (x.u.incs.length + wtS x.u.incs) + (x.u.axs.length + wtS x.u.axs) + x.u.goal.size := rfl; omega
          have HE0 := Lib.hid (row_empty w3 (w2.heap.size + 1) 9 1 (by omega))
          have HXA := Lib.hid (own_below ((HXO.out.grownG HG3.out hgb).rb) ((Below.refl w3.heap.size w3).alloc (Nat.le_refl _) (.cells #[] 9)))
          go_wp2_with (at_builtin; refine wpList_app rfl (.tmp 89) (.tmp 91) 26 rfl (w2.heap.size + 1) 9 1 16 elemStr (.slice (some ⟨w3.heap.size, 0, none⟩) 0 0) 0 [] rfl (.slice x.q x.u.axs.length x.d) x.u.axs.length (strW x.u.axs) rfl (src_own HXA.out) HE0.out (by intro u hu; simp only [strW, List.mem_map] at hu; obtain ⟨s, -, rfl⟩ := hu; rfl) (by omega) (by unfold maxLen; omega) (by simp; omega) ?_; intro v4 w4 hown4 hg4 hnr4)
          have hz4 := hg4.size
          simp only [World.size_alloc] at hz4
          have HG4 := Lib.hid (gr_own (gr_al HG3.out (.cells #[] 9)) hg4 (fun b hb => by simp only [Value.ownBlock, Option.some.injEq] at hb; omega))
          have HC4 := Lib.hid ((HC3.out.al (.cells #[] 9)).own hg4 (fun b hb => by simp only [Value.ownBlock, Option.some.injEq] at hb; omega))
          have HB4 := Lib.hid ((hg4.block w2.heap.size (by simp; omega) (fun e => by simp only [Value.ownBlock, Option.some.injEq] at e; omega)).trans ((hao _ _ _ zb3.1).trans HB3.out))
          have HO4 := Lib.hid hown4
          clear hown4 hg4 hnr4 HE0 HXA k0 k1 k2 k3 d0 d1 d2 d3 df zb3 hf3 z23 ho3
          go_wp2_with fail
          refine (of_lit g (m + 2 + n1 * 40 + 2 + 2) 10 3 w4.heap.size _ _ _ (by rfl) (by rfl) HC4.out (by omega) (by decide) (by decide) (by intro v hv; simp at hv; rcases hv with rfl | rfl | rfl <;> exact ⟨_, rfl, by decide⟩)).mono ?_
          rintro e w5 ⟨_, rfl, ⟨s5, rfl, hs5⟩, hc5, hg5⟩
          have HC5 := Lib.hid hc5
          clear hc5
          have ⟨c5, f5⟩ := gcell hg5
          have hz5 := hg5.size
          (try simp at hz5)
          have hz5 := hg5.size
          simp only [World.size_alloc] at hz5
          have hv4 : ∀ b, v4.ownBlock = some b → w2.heap.size + 1 ≤ b ∧ b < w4.heap.size := fun b hb => ⟨own_base HO4.out b hb, own_lt' HO4.out hb⟩
          have HG5 := Lib.hid (gr_trans (gr_al HG4.out _) hg5)
          have HB5 := Lib.hid ((hg5.block w2.heap.size (by simp; omega) (fun e => by injection e with e; omega)).trans ((hao _ _ _ (blk_lt HB4.out)).trans HB4.out))
          have HO5 := Lib.hid (own_same HO4.out (w' := w5) (fun b hb hl => (hg5.block b (by simp; omega) (fun e => by injection e with e; have := (hv4 b hb).1; omega)).trans (hao _ _ _ hl)))
          clear hg5 c5 f5 HO4
          go_wp2_with (at_builtin; refine wpList_app1 rfl (.tmp 92) (.tmp 96) _ rfl (w2.heap.size + 1) 9 1 16 elemStr _ _ _ rfl w5 #[.string s5] rfl _ (by simp) rfl HO5.out rfl (by simp [Value.oneCell']) (by omega) (by unfold maxLen; omega) (by omega) ?_; intro v6 w6 hown6 hg6 hnr6 hlt6; refine Hid.out ?_)
          have hz6 := hg6.size
          have HG6 := Lib.hid (gr_own HG5.out hg6 (fun b hb => by have := (hv4 b hb).1; omega))
          have HC6 := Lib.hid (HC5.out.own hg6 (fun b hb => by have := (hv4 b hb).1; omega))
          have hB6 := (hg6.block w2.heap.size (blk_lt HB5.out) (fun e => by have := (hv4 _ e.symm).1; omega)).trans HB5.out
          obtain ⟨d0, d1, d2, d3, df⟩ := row4_cells hB6
          have zb6 := bsz (blk_lt hB6)
          obtain ⟨k0, k1, k2, k3, hf6, ho6⟩ := (HL2.out.later HG6.out HC6.out).fro HX.out
          have z26 := bsz ho6
          have en : 0 + x.u.axs.length + 1 = (x.u.axs ++ [s5]).length := by simp
          have ev : [] ++ strW x.u.axs ++ [Value.string s5] = strW (x.u.axs ++ [s5]) := by simp [strW]
          rw [en, ev] at hown6
          have hws := wtS_snoc x.u.axs s5
          have hls : (x.u.axs ++ [s5]).length = x.u.axs.length + 1 := by simp
          obtain ⟨l6, hl6⟩ : ∃ l6, x.u.axs ++ [s5] = l6 := ⟨_, rfl⟩
          rw [hl6] at hown6 hws hls
          clear hl6 en ev
          obtain ⟨p6, q6, rfl⟩ := own_slice hown6
          have hrow : (w6.setCell ⟨w2.heap.size, 2, none⟩ (.slice p6 l6.length q6)).ownsRow w2.heap.size 9 1 (.slice p6 l6.length q6) l6.length (strW l6) := own_lower (own_same hown6 (fun b hb _ => heap_setCell_other _ ⟨_, _, _⟩ _ _ (by have := own_base hown6 b hb; show b ≠ w2.heap.size; omega))) (by omega)
          have hg5 := gr_sc (p := ⟨w2.heap.size, 2, none⟩) HG6.out (.inr (Nat.le_refl _)) (.slice p6 l6.length q6)
          have hc5 := HC6.out.sc (p := ⟨w2.heap.size, 2, none⟩) hgw (.slice p6 l6.length q6)
          obtain ⟨ho, hs⟩ := UC.Own.newA HXO.out hg5 hgb hw2 hrow
          clear hown6 hg6 hnr6 hlt6 hB6 hrow HO5 hv4
          have hwy : (show Nat from (⟨⟨x.u.name, x.u.incs, l6, x.u.goal⟩, x.p, x.c, p6, q6⟩ : UC).u.wt) ≤ 1000 := by
            show x.u.name.size + (x.u.incs.length + wtS x.u.incs) + (l6.length + wtS l6) + x.u.goal.size ≤ 1000
            have : x.u.wt = x.u.name.size + (x.u.incs.length + wtS x.u.incs) + (x.u.axs.length + wtS x.u.axs) + x.u.goal.size := rfl
            omega
          have HQ := Lib.hid (HL2.out.done (y := ⟨⟨x.u.name, x.u.incs, l6, x.u.goal⟩, x.p, x.c, p6, q6⟩) hg5 hc5 HX.out ho hs hwy (by omega))
          clear hg5 hc5 ho hs hwy
          clear hws hls
          refine Lib.hid ?_
          go_wp2
          go_ret
          obtain ⟨q1, q2, us, q3, q4, q5⟩ := HQ.out
          rw [hDk] at q3
          have q1' := q1.more (n := m + 400) (by omega) (by omega)
          clear q1
          (try rw [set4_alloc _ _ _ _ _ _ _ zb4.1 z24.1] at q1' q2 q3)
          dsimp only [set4W] at q1' q2 q3
          (try simp only [List.length_replicate, List.length_cons, List.length_nil, Nat.zero_add] at q1' q2 q3)
          refine ⟨.slice (some ⟨og, 0, none⟩) n1 oc, rfl, ⟨us, ?_, q4, q5⟩, ?_, ?_⟩
          · with_reducible exact q3
          · with_reducible exact q1'
          · with_reducible exact q2
        · have hg5 := gr_sc (p := ⟨w2.heap.size, 3, none⟩) HG3.out (.inr (Nat.le_refl _)) (.string ⟨#[112, 40, 88, 44]⟩)
          have hc5 := HC3.out.sc (p := ⟨w2.heap.size, 3, none⟩) hgw (.string ⟨#[112, 40, 88, 44]⟩)
          obtain ⟨ho, hs⟩ := UC.Own.newT x.u.name ⟨#[112, 40, 88, 44]⟩ HXO.out hg5 hgb
          have hwy : (show Nat from (⟨⟨x.u.name, x.u.incs, x.u.axs, ⟨#[112, 40, 88, 44]⟩⟩, x.p, x.c, x.q, x.d⟩ : UC).u.wt) ≤ 1000 := by
            show x.u.name.size + (x.u.incs.length + wtS x.u.incs) + (x.u.axs.length + wtS x.u.axs) + 4 ≤ 1000
            have : x.u.wt = x.u.name.size + (x.u.incs.length + wtS x.u.incs) + (x.u.axs.length + wtS x.u.axs) + x.u.goal.size := rfl
            omega
          have HQ := Lib.hid (HL2.out.done (y := ⟨⟨x.u.name, x.u.incs, x.u.axs, ⟨#[112, 40, 88, 44]⟩⟩, x.p, x.c, x.q, x.d⟩) hg5 hc5 HX.out ho hs hwy (by omega))
          clear hg5 hc5 ho hs hwy
          go_wp2
          go_ret
          obtain ⟨q1, q2, us, q3, q4, q5⟩ := HQ.out
          rw [hDk] at q3
          have q1' := q1.more (n := m + 400) (by omega) (by omega)
          clear q1
          (try rw [set4_alloc _ _ _ _ _ _ _ zb4.1 z24.1] at q1' q2 q3)
          dsimp only [set4W] at q1' q2 q3
          (try simp only [List.length_replicate, List.length_cons, List.length_nil, Nat.zero_add] at q1' q2 q3)
          refine ⟨.slice (some ⟨og, 0, none⟩) n1 oc, rfl, ⟨us, ?_, q4, q5⟩, ?_, ?_⟩
          · with_reducible exact q3
          · with_reducible exact q1'
          · with_reducible exact q2
        · go_wp2_with fail
          refine (of_lit g (m + 2 + n1 * 40 + 2 + 2) 10 3 w3.heap.size _ _ _ (by rfl) (by rfl) HC3.out (by omega) (by decide) (by decide) (by intro v hv; simp at hv; rcases hv with rfl | rfl | rfl <;> exact ⟨_, rfl, by decide⟩)).mono ?_
          rintro e w4 ⟨_, rfl, ⟨s4, rfl, hs4⟩, hc4, hg4⟩
          have HC4 := Lib.hid hc4
          clear hc4
          have ⟨c4, f4⟩ := gcell hg4
          have hz4 := hg4.size
          (try simp at hz4)
          have HG4 := Lib.hid (gr_trans (gr_al HG3.out _) hg4)
          have hz4 := hg4.size
          simp only [World.size_alloc] at hz4
          have hB4 := (hg4.block w2.heap.size (by simp; omega) (fun e => by injection e with e; omega)).trans ((hao _ _ _ zb3.1).trans HB3.out)
          clear k0 k1 k2 k3
          obtain ⟨k0, k1, k2, k3, hf4, ho4⟩ := (HL2.out.later HG4.out HC4.out).fro HX.out
          clear d0 d1 d2 d3 df zb3 hf3 z23 HB3
          obtain ⟨d0, d1, d2, d3, df⟩ := row4_cells hB4
          have zb4 := bsz (blk_lt hB4)
          have z24 := bsz ho4
          clear hB4 hg4 c4 f4
          have hg5 := gr_sc (p := ⟨w2.heap.size, 0, none⟩) HG4.out (.inr (Nat.le_refl _)) (.string s4)
          have hc5 := HC4.out.sc (p := ⟨w2.heap.size, 0, none⟩) hgw (.string s4)
          obtain ⟨ho, hs⟩ := UC.Own.newT s4 x.u.goal HXO.out hg5 hgb
          have hwy : (show Nat from (⟨⟨s4, x.u.incs, x.u.axs, x.u.goal⟩, x.p, x.c, x.q, x.d⟩ : UC).u.wt) ≤ 1000 := by
            show s4.size + (x.u.incs.length + wtS x.u.incs) + (x.u.axs.length + wtS x.u.axs) + x.u.goal.size ≤ 1000
            have : x.u.wt = x.u.name.size + (x.u.incs.length + wtS x.u.incs) + (x.u.axs.length + wtS x.u.axs) + x.u.goal.size := rfl
            omega
          have HQ := Lib.hid (HL2.out.done (y := ⟨⟨s4, x.u.incs, x.u.axs, x.u.goal⟩, x.p, x.c, x.q, x.d⟩) hg5 hc5 HX.out ho hs hwy (by omega))
          clear hg5 hc5 ho hs hwy
          go_wp2
          go_ret
          obtain ⟨q1, q2, us, q3, q4, q5⟩ := HQ.out
          rw [hDk] at q3
          have q1' := q1.more (n := m + 400) (by omega) (by omega)
          clear q1
          (try rw [set4_alloc _ _ _ _ _ _ _ zb4.1 z24.1] at q1' q2 q3)
          dsimp only [set4W] at q1' q2 q3
          (try simp only [List.length_replicate, List.length_cons, List.length_nil, Nat.zero_add] at q1' q2 q3)
          refine ⟨.slice (some ⟨og, 0, none⟩) n1 oc, rfl, ⟨us, ?_, q4, q5⟩, ?_, ?_⟩
          · with_reducible exact q3
          · with_reducible exact q1'
          · with_reducible exact q2
        · go_wp2_with fail
          refine (pick_any g (m + 2 + n1 * 40 + 2 + 2) 2 _ (HC3.out.al (.cells #[.string ⟨#[114]⟩, .string ⟨#[114]⟩, .string ⟨#[114]⟩, .string ⟨#[114]⟩, .string ⟨#[114]⟩, .string ⟨#[114]⟩, .string ⟨#[114]⟩] 9)) (by omega) (by omega) (by omega)).mono ?_
          rintro e w4 ⟨_, rfl, ⟨r4, rfl, hr5, hr6⟩, hc4, hg4⟩
          have HC4 := Lib.hid hc4
          clear hc4
          have ⟨c4, f4⟩ := gcell hg4
          have hz4 := hg4.size
          (try simp at hz4)
          have hb7 := (hg4.block w3.heap.size (by simp) (fun e => by injection e with e; omega)).trans (heap_alloc_new w3 _)
          have HG4 := Lib.hid (gr_trans (gr_al HG3.out _) hg4)
          have hz4 := hg4.size
          simp only [World.size_alloc] at hz4
          have hB4 := (hg4.block w2.heap.size (by simp; omega) (fun e => by injection e with e; omega)).trans ((hao _ _ _ zb3.1).trans HB3.out)
          clear k0 k1 k2 k3
          obtain ⟨k0, k1, k2, k3, hf4, ho4⟩ := (HL2.out.later HG4.out HC4.out).fro HX.out
          clear d0 d1 d2 d3 df zb3 hf3 z23 HB3
          obtain ⟨d0, d1, d2, d3, df⟩ := row4_cells hB4
          have zb4 := bsz (blk_lt hB4)
          have z24 := bsz ho4
          clear hB4 hg4 c4 f4
          have zb7 := bsz (blk_lt hb7)
          have HB7 := Lib.hid hb7
          clear hb7
          rcases (by omega : r4 = 0 ∨ r4 = 1) with rfl | rfl
          · have hrow : (w4.setCell ⟨w2.heap.size, 2, none⟩ (.slice (some ⟨w3.heap.size, 0, none⟩) 6 7)).ownsRow w2.heap.size 9 1 (.slice (some ⟨w3.heap.size, 0, none⟩) (List.replicate 6 (⟨#[114]⟩ : ByteArray)).length 7) (List.replicate 6 (⟨#[114]⟩ : ByteArray)).length (strW (List.replicate 6 (⟨#[114]⟩ : ByteArray))) := own_block ((heap_setCell_other _ ⟨_, _, _⟩ _ _ (by show w3.heap.size ≠ w2.heap.size; omega)).trans HB7.out) (by omega) (by decide) (by decide) rfl rfl
            have hg5 := gr_sc (p := ⟨w2.heap.size, 2, none⟩) HG4.out (.inr (Nat.le_refl _)) (.slice (some ⟨w3.heap.size, 0, none⟩) 6 7)
            have hc5 := HC4.out.sc (p := ⟨w2.heap.size, 2, none⟩) hgw (.slice (some ⟨w3.heap.size, 0, none⟩) 6 7)
            obtain ⟨ho, hs⟩ := UC.Own.newA HXO.out hg5 hgb hw2 hrow
            have hwy : (show Nat from (⟨⟨x.u.name, x.u.incs, List.replicate 6 (⟨#[114]⟩ : ByteArray), x.u.goal⟩, x.p, x.c, some ⟨w3.heap.size, 0, none⟩, 7⟩ : UC).u.wt) ≤ 1000 := by
              show x.u.name.size + (x.u.incs.length + wtS x.u.incs) + (6 + 6) + x.u.goal.size ≤ 1000
              have : x.u.wt = x.u.name.size + (x.u.incs.length + wtS x.u.incs) + (x.u.axs.length + wtS x.u.axs) + x.u.goal.size := rfl
              omega
            have HQ := Lib.hid (HL2.out.done (y := ⟨⟨x.u.name, x.u.incs, List.replicate 6 (⟨#[114]⟩ : ByteArray), x.u.goal⟩, x.p, x.c, some ⟨w3.heap.size, 0, none⟩, 7⟩) hg5 hc5 HX.out ho hs hwy (by omega))
            clear hg5 hc5 ho hs hwy
            go_wp2
            go_ret
            obtain ⟨q1, q2, us, q3, q4, q5⟩ := HQ.out
            rw [hDk] at q3
            have q1' := q1.more (n := m + 400) (by omega) (by omega)
            clear q1
            (try rw [set4_alloc _ _ _ _ _ _ _ zb4.1 z24.1] at q1' q2 q3)
            dsimp only [set4W] at q1' q2 q3
            (try simp only [List.length_replicate] at q1' q2 q3)
            refine ⟨.slice (some ⟨og, 0, none⟩) n1 oc, rfl, ⟨us, ?_, q4, q5⟩, ?_, ?_⟩
            · with_reducible exact q3
            · with_reducible exact q1'
            · with_reducible exact q2
          · have hrow : (w4.setCell ⟨w2.heap.size, 2, none⟩ (.slice (some ⟨w3.heap.size, 0, none⟩) 7 7)).ownsRow w2.heap.size 9 1 (.slice (some ⟨w3.heap.size, 0, none⟩) (List.replicate 7 (⟨#[114]⟩ : ByteArray)).length 7) (List.replicate 7 (⟨#[114]⟩ : ByteArray)).length (strW (List.replicate 7 (⟨#[114]⟩ : ByteArray))) := own_block ((heap_setCell_other _ ⟨_, _, _⟩ _ _ (by show w3.heap.size ≠ w2.heap.size; omega)).trans HB7.out) (by omega) (by decide) (by decide) rfl rfl
            have hg5 := gr_sc (p := ⟨w2.heap.size, 2, none⟩) HG4.out (.inr (Nat.le_refl _)) (.slice (some ⟨w3.heap.size, 0, none⟩) 7 7)
            have hc5 := HC4.out.sc (p := ⟨w2.heap.size, 2, none⟩) hgw (.slice (some ⟨w3.heap.size, 0, none⟩) 7 7)
            obtain ⟨ho, hs⟩ := UC.Own.newA HXO.out hg5 hgb hw2 hrow
            have hwy : (show Nat from (⟨⟨x.u.name, x.u.incs, List.replicate 7 (⟨#[114]⟩ : ByteArray), x.u.goal⟩, x.p, x.c, some ⟨w3.heap.size, 0, none⟩, 7⟩ : UC).u.wt) ≤ 1000 := by
              show x.u.name.size + (x.u.incs.length + wtS x.u.incs) + (7 + 7) + x.u.goal.size ≤ 1000
              have : x.u.wt = x.u.name.size + (x.u.incs.length + wtS x.u.incs) + (x.u.axs.length + wtS x.u.axs) + x.u.goal.size := rfl
              omega
            have HQ := Lib.hid (HL2.out.done (y := ⟨⟨x.u.name, x.u.incs, List.replicate 7 (⟨#[114]⟩ : ByteArray), x.u.goal⟩, x.p, x.c, some ⟨w3.heap.size, 0, none⟩, 7⟩) hg5 hc5 HX.out ho hs hwy (by omega))
            clear hg5 hc5 ho hs hwy
            go_wp2
            go_ret
            obtain ⟨q1, q2, us, q3, q4, q5⟩ := HQ.out
            rw [hDk] at q3
            have q1' := q1.more (n := m + 400) (by omega) (by omega)
            clear q1
            (try rw [set4_alloc _ _ _ _ _ _ _ zb4.1 z24.1] at q1' q2 q3)
            dsimp only [set4W] at q1' q2 q3
            (try simp only [List.length_replicate] at q1' q2 q3)
            refine ⟨.slice (some ⟨og, 0, none⟩) n1 oc, rfl, ⟨us, ?_, q4, q5⟩, ?_, ?_⟩
            · with_reducible exact q3
            · with_reducible exact q1'
            · with_reducible exact q2
        · have e0 : (r3 == 0) = false := by simp; omega
          have e1 : (r3 == 1) = false := by simp; omega
          have e2 : (r3 == 2) = false := by simp; omega
          have e3 : (r3 == 3) = false := by simp; omega
          have e4 : (r3 == 4) = false := by simp; omega
          have hg5 := HG3.out
          have hc5 := HC3.out
          obtain ⟨ho, hs⟩ := UC.Own.newT x.u.name x.u.goal HXO.out hg5 hgb
          have hwy : (show Nat from (⟨⟨x.u.name, x.u.incs, x.u.axs, x.u.goal⟩, x.p, x.c, x.q, x.d⟩ : UC).u.wt) ≤ 1000 := by
            show x.u.name.size + (x.u.incs.length + wtS x.u.incs) + (x.u.axs.length + wtS x.u.axs) + x.u.goal.size ≤ 1000
            have : x.u.wt = x.u.name.size + (x.u.incs.length + wtS x.u.incs) + (x.u.axs.length + wtS x.u.axs) + x.u.goal.size := rfl
            omega
          have HQ := Lib.hid (HL2.out.done (y := ⟨⟨x.u.name, x.u.incs, x.u.axs, x.u.goal⟩, x.p, x.c, x.q, x.d⟩) hg5 hc5 HX.out ho hs hwy (by omega))
          clear hg5 hc5 ho hs hwy
          go_wp2
          go_ret
          obtain ⟨q1, q2, us, q3, q4, q5⟩ := HQ.out
          rw [hDk] at q3
          have q1' := q1.more (n := m + 400) (by omega) (by omega)
          clear q1
          (try rw [set4_alloc _ _ _ _ _ _ _ zb4.1 z24.1] at q1' q2 q3)
          dsimp only [set4W] at q1' q2 q3
          (try simp only [List.length_replicate, List.length_cons, List.length_nil, Nat.zero_add] at q1' q2 q3)
          refine ⟨.slice (some ⟨og, 0, none⟩) n1 oc, rfl, ⟨us, ?_, q4, q5⟩, ?_, ?_⟩
          · with_reducible exact q3
          · with_reducible exact q1'
          · with_reducible exact q2
end Go.Proofs.YtkgfanajgdelcaaGreatDoor
