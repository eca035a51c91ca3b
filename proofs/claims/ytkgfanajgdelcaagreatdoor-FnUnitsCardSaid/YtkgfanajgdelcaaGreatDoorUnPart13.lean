/- FnUnits: the draw of a library and a name of it. Conditions: sizes. -/
import Derived.Test.YtkgfanajgdelcaaGreatDoorUnPart4
import Derived.Test.YtkgfanajgdelcaaGreatDoorUnPart8
import Derived.Test.YtkgfanajgdelcaaGreatDoorUnPart9
import Derived.Test.YtkgfanajgdelcaaGreatDoorUnPart10
import Derived.Test.YtkgfanajgdelcaaGreatDoorUnPart11
import Derived.Test.YtkgfanajgdelcaaGreatDoorUnPart12
namespace Go.Proofs.YtkgfanajgdelcaaGreatDoor
open Go.RowKit
theorem elemUnL : Elem Tryz.prog 24 34 4 80 := elem_of Tryz.underlying24 (z := .agg #[.string ⟨#[]⟩, .slice none 0 0, .slice none 0 0, .string ⟨#[]⟩]) (by kernel_rfl) rfl (by omega)
def LibRel (w : World) (g m n : Nat) (out names i : Value) (wr : World) : Prop :=
  ∃ (k og oc : Nat) (D : List UC) (nmv : Value), k ≤ n ∧ i = .int .i64 k ∧ D.length = k ∧ out = .slice (some ⟨og, 0, none⟩) k oc ∧ nmv = names ∧ LibS w g (m + k * 40) nmv (libNm.take k) og oc D wr
set_option maxRecDepth 100000 in
set_option maxHeartbeats 12800000 in
theorem library_any (g m : Nat) (w : World) (h : Cur w g m) (hm : m + 1000 ≤ 1000000000) :
    Calls Tryz.prog 80 #[.pointer (some ⟨g, 0, none⟩)] w (StepO g m 400 (fun w' v => ∃ us : List Un, UnsAt (NewB w w') w' v us ∧ us.length ≤ 5 ∧ ∀ u ∈ us, u.wt ≤ 1000) w) := by
  have hgl := h.lt
  have HS0 := Lib.hid (LibS.init h)
  clear h
  go_enter Tryz.func80, Tryz.ntmps80
  go_wp2_with fail
  refine (pick_any g m 6 _ HS0.out.cur (by omega) (by omega) (by omega)).mono ?_
  rintro e w1 ⟨_, rfl, ⟨r1, rfl, hr0, hr2⟩, hc1, hg1⟩
  have HC1 := Lib.hid hc1
  clear hc1
  have ⟨c1, f1⟩ := gcell hg1
  have hz1 := hg1.size
  (try simp at hz1)
  have HS1 := Lib.hid (HS0.out.later hg1 HC1.out)
  obtain ⟨n1, rfl⟩ : ∃ n1 : Nat, r1 = (n1 : Int) := ⟨r1.toNat, by omega⟩
  clear hg1 c1 f1
  go_wp2
  go_loopw [3, 4, 7] (LibRel w g (m + 2) n1) (fun _ _ i _ => n1 - (intOf i).toNat)
  case atStart => exact ⟨0, _, _, [], _, Nat.zero_le _, rfl, rfl, rfl, rfl, by rw [Nat.zero_mul, Nat.add_zero]; exact HS1.out⟩
  case round =>
    obtain ⟨k, og, oc, D, nmv, hk, rfl, hDk, rfl, rfl, hls⟩ := hrel
    have HLS := Lib.hid hls
    have hq := hls.gr.size
    have hztx := bsz (blk_lt hls.tx)
    clear hls
    by_cases hlt : k < n1
    · have hki : (k : Int) < n1 := by omega
      have hk5 : k < libNm.length := by show k < 5; omega
      have c0 : wr.cell? ⟨w.heap.size + 2, k, none⟩ = some (.string libNm[k]) := by
        rw [cell_of_row wr _ k _ _ (0, 0) HLS.out.tx, libTx]
        simp [strW, List.getElem?_eq_getElem hk5]
      have hsz := libNm_size _ (List.getElem_mem hk5)
      have HTN := Lib.hid (List.take_succ_eq_append_getElem hk5)
      obtain ⟨x, hx⟩ : ∃ x, libNm[k] = x := ⟨_, rfl⟩
      rw [hx] at c0 hsz HTN
      clear hx
      have hnl : (libNm.take k).length = k := by rw [List.length_take]; omega
      have hnb : ∀ b, nmv.ownBlock = some b → w.heap.size ≤ b ∧ b < wr.heap.size := fun b hb => ⟨own_base HLS.out.nr b hb, own_lt' HLS.out.nr hb⟩
      have HNB := Lib.hid hnb
      have HNS := Lib.hid (rowS_own (S := fun b => nmv.ownBlock = some b) HLS.out.nr (fun s hs => by have := libNm_size s (List.mem_of_mem_take hs); unfold maxLen; omega) (own_lenU HLS.out.nr) (fun _ h => h)).at_
      clear hnb
      go_wp2_with fail
      refine (unit_any g (m + 2 + k * 40) x nmv (libNm.take k) _ HLS.out.cur (by omega) HNS.out (fun b hb => by have := HNB.out b hb; omega) hsz (by omega) (fun s hs => libNm_size s (List.mem_of_mem_take hs))).mono ?_
      rintro e w2 ⟨_, rfl, ⟨u, p4, c4, p7, c7, rfl, hun, hown, hwt⟩, hc2, hg2⟩
      have HC2 := Lib.hid hc2
      clear hc2
      have ⟨c2, f2⟩ := gcell hg2
      have hz2 := hg2.size
      (try simp at hz2)
      subst hun
      have HL2 := Lib.hid (HLS.out.later hg2 HC2.out)
      have HOW := Lib.hid hown
      have c02 := ((gcell hg2).1 (w.heap.size + 2) k hztx.1 (by omega)).trans c0
      have hz2' := hg2.size
      have ztx2 := bsz (show w.heap.size + 2 < w2.heap.size by omega)
      clear hg2 c2 f2 hown c0
      have hbB : Below w2.heap.size w2 (w2.alloc (.cells #[.string u.name, .slice p4 u.incs.length c4, .slice p7 u.axs.length c7, .string u.goal] 34)) := (Below.refl _ _).alloc (Nat.le_refl _) _
      have HLB := Lib.hid (HL2.out.below hbB)
      go_wp2_with (at_builtin; refine wpList_app1 rfl (.tmp 29) (.tmp 34) _ rfl w.heap.size 9 1 16 elemStr _ _ (strW (libNm.take k)) rfl (w2.alloc (.cells #[.string u.name, .slice p4 u.incs.length c4, .slice p7 u.axs.length c7, .string u.goal] 34)) #[.string u.name] rfl _ (by simp) rfl HLB.out.nr rfl (by simp [Value.oneCell']) (by omega) (by unfold maxLen; omega) HLB.out.gr.size ?_; intro v3 w3 hown3 hg3 hnr3 hlt3)
      have hzB := hbB.size
      have HL3 := Lib.hid (HLB.out.name hown3 hg3 hnr3)
      have HBX := Lib.hid ((hg3.block w2.heap.size (by simp) (fun e => by have := HNB.out _ e.symm; omega)).trans (heap_alloc_new w2 _))
      have HX := Lib.hid ((show UC.Own 9 wr.heap.size w2 ⟨u, p4, c4, p7, c7⟩ from HOW.out).same (w' := w3) (fun b hb hl => (hg3.block b (by simp; omega) (fun e => by have h1 := HNB.out _ e.symm; have h2 := (UC.Own.blk HOW.out hb).1; omega)).trans (hbB.block b hl)))
      have HNV := Lib.hid (show ∀ b, v3.ownBlock = some b → b < wr.heap.size ∨ w2.heap.size ≤ b from fun b hb => by
        rcases hnr3 with e | ⟨b', e, hge⟩
        · rw [e] at hb; exact .inl (HNB.out b hb).2
        · rw [e] at hb; injection hb with hb; simp at hge; exact .inr (by omega))
      obtain ⟨wC, hwC⟩ : ∃ q, q = w3 := ⟨_, rfl⟩
      subst hwC
      obtain ⟨wr0, hwr0⟩ : ∃ q, q = wr := ⟨_, rfl⟩
      subst hwr0
      have hz3 := hg3.size
      simp only [World.size_alloc] at hz3 hlt3
      clear hown3 hg3 hnr3 hbB hzB c02 ztx2
      go_wp2
      go_loopw [9] (fun t wr' => ∃ j : Nat, j ≤ k ∧ t = .int .i64 j ∧ Below wC.heap.size wC wr') (fun t _ => k - (intOf t).toNat)
      case atStart => exact ⟨0, Nat.zero_le _, rfl, by exact bel⟩
      case round =>
        obtain ⟨j, hmk, rfl, hbm⟩ := hrel
        have HBX2 := Lib.hid ((hbm.block _ (blk_lt HBX.out)).trans HBX.out)
        obtain ⟨m0, m1, m2, m3, mf⟩ := row4_cells HBX2.out
        have zm := bsz (blk_lt HBX2.out)
        have HOUT := Lib.hid (show wr.ownsRow w.heap.size 34 4 (.slice (some ⟨og, 0, none⟩) k oc) k (flatU D) from hDk ▸ own_below HL3.out.or hbm)
        have HBM := Lib.hid hbm
        have hqm := hbm.size
        have hzg := bsz (own_lt HOUT.out)
        have hkc : k ≤ oc := by
          rcases HOUT.out.2 with ⟨h1, -⟩ | ⟨_, _, _, h1, -, -, h2, -⟩
          · cases h1
          · cases h1; exact h2
        clear hbm
        by_cases hlm : j < k
        · obtain ⟨g', e', -, -, -, hcell⟩ := rowU_cell HOUT.out (by omega)
          obtain rfl : og = g' := by injection e' with e'; injection e'
          have c0 := (hcell j D[j] (List.getElem?_eq_getElem (by omega))).1
          obtain ⟨z, hz⟩ : ∃ z, D[j].u.name = z := ⟨_, rfl⟩
          rw [hz] at c0
          have hmi : (j : Int) < k := by omega
          have hll : Op.bytesLess z.toList u.name.toList = lessB z u.name := by rw [lessB, ByteArray.toList_eq, ByteArray.toList_eq]
          clear hz hcell
          cases hL : lessB z u.name
          · rw [hL] at hll
            have hkm : (j : Int) ≤ oc := by omega
            have hkm2 : j ≤ oc := by omega
            have hkk : (k : Int) ≤ oc := by omega
            have hml : (j : Int) ≤ k := by omega
            have hcm : oc ≠ j := by omega
            clear hL
            go_wp2_with fail
            go_quiet (fail)
            go_wp2
            obtain ⟨wq, hwq⟩ : ∃ q, q = wr.drewN nq := ⟨_, rfl⟩
            rw [← hwq]
            have hbq : Below wr.heap.size wr wq := by rw [hwq]; exact bel
            clear hwq
            have n0 := cellQ hbq m0
            have n1 := cellQ hbq m1
            have n2 := cellQ hbq m2
            have n3 := cellQ hbq m3
            have zn := bsz (World.block_lt_of_cell? _ _ n0)
            have HOQ := Lib.hid (own_below HOUT.out hbq)
            have HBQ := Lib.hid (Below.step HBM.out hbq)
            have hqq := hbq.size
            clear m0 m1 m2 m3 mf
            refine wp_region_any3 [none, some (.slice (some ⟨og, 0, none⟩) k oc), some (.int .i64 (j : Nat)), some (.slice (some ⟨og, 0, none⟩) j oc), none, some (.agg #[.string u.name, .slice p4 u.incs.length c4, .slice p7 u.axs.length c7, .string u.goal]), none, none, some (.slice (some ⟨og, 0, none⟩) k oc), some (.int .i64 (j : Nat)), some (.slice (some ⟨og, j * 4, none⟩) (k - j) (oc - j)), none, none] (InsD 34 4 wq j (k + 1) (flatU (D.take j)) (flatU (D.drop j)) (#[.string u.name, .slice p4 u.incs.length c4, .slice p7 u.axs.length c7, .string u.goal])) (by kernel_rfl) (by kernel_rfl) (fun L hL => InsD.start hL) ?_
            refine flowV_ch rfl rfl (by intro u' hu' L w' hun hbe hD; go_simp; exact hD.b0 hun) ?_
            intro x0
            go_simp
            refine flowV_st rfl rfl (by intro u' L w' hun hbe hD; go_simp; first | exact ⟨hD.other 1 (by decide), rfl⟩ | exact hD.other 1 (by decide)) ?_
            go_simp
            refine flowV_st rfl rfl (by intro u' L w' hun hbe hD; go_simp; first | exact ⟨hD.other 2 (by decide), rfl⟩ | exact hD.other 2 (by decide)) ?_
            go_simp
            refine flowV_st rfl rfl (by intro u' L w' hun hbe hD; go_simp; first | exact ⟨hD.other 3 (by decide), rfl⟩ | exact hD.other 3 (by decide)) ?_
            go_simp
            refine flowV_ch rfl rfl ?_ ?_
            · intro u' hu' L w' hun hbe hD
              have hu0 : u' 0 = x0 := (after_eq hu' (by kernel_rfl)).trans (by simp [upd])
              have h0 := after_behind hbe (p := 0) (by kernel_rfl)
              have hw := hD.bel
              refine each_app (.tmp 52) (.tmp 55) 24 rfl wq.heap.size 34 4 80 elemUnL (u' 0) 0 [] (by rw [hu0]; rfl) _ j (flatU (D.take j)) rfl ((srcU_head HOQ.out (Nat.le_of_lt hlm) oc).below hw) (hD.r0 h0 (getD_tf hun)) (by first | exact flatU_cell _ | simp) (by omega) (by unfold maxLen; omega) hw.size ?_
              intro v' w2 hr hg hn
              exact hD.a4 hun h0 hr hg hn
            intro x4
            go_simp
            refine flowV_st rfl rfl (by intro u' L w' hun hbe hD; have hw := hD.bel; have e0 := cellQ hw n0; have e1 := cellQ hw n1; have e2 := cellQ hw n2; have e3 := cellQ hw n3; have ze := bsz (World.block_lt_of_cell? _ _ e0); go_simp; first | exact ⟨hD.other 5 (by decide), rfl⟩ | exact hD.other 5 (by decide)) ?_
            go_simp
            refine flowV_ch rfl rfl (by intro u' hu' L w' hun hbe hD; go_simp; exact hD.b6 hun) ?_
            intro x6
            go_simp
            refine flowV_ch rfl rfl ?_ ?_
            · intro u' hu' L w' hun hbe hD
              have hu4 : u' 4 = x4 := (after_eq hu' (by kernel_rfl)).trans (by simp [upd])
              have hu6 : u' 6 = x6 := (after_eq hu' (by kernel_rfl)).trans (by simp [upd])
              have h4 := after_behind hbe (p := 4) (by kernel_rfl)
              have h6 := after_behind hbe (p := 6) (by kernel_rfl)
              have hw := hD.bel
              obtain ⟨q, hq, hqc, -, -⟩ := hD.r6 h6 (getD_tf hun)
              refine each_app (.tmp 56) (.tmp 58) 24 rfl wq.heap.size 34 4 80 elemUnL (u' 4) j (flatU (D.take j)) (by rw [hu4]; rfl) (.slice (some ⟨q, 0, none⟩) 1 1) 1 (#[.string u.name, .slice p4 u.incs.length c4, .slice p7 u.axs.length c7, .string u.goal]).toList (by rw [← hq, hu6]; rfl) (src_block hqc (by simp)) (hD.r4 h4 (getD_tf hun)) (by simp [Value.oneCell']) (by omega) (by unfold maxLen; omega) hw.size ?_
              intro v' w2 hr hg hn
              exact hD.a7 hun h4 h6 hr hg
            intro x7
            go_simp
            refine flowV_st rfl rfl (by intro u' L w' hun hbe hD; go_simp; first | exact ⟨hD.other 8 (by decide), rfl⟩ | exact hD.other 8 (by decide)) ?_
            go_simp
            refine flowV_st rfl rfl (by intro u' L w' hun hbe hD; go_simp; first | exact ⟨hD.other 9 (by decide), rfl⟩ | exact hD.other 9 (by decide)) ?_
            go_simp
            refine flowV_st rfl rfl (by intro u' L w' hun hbe hD; go_simp; first | exact ⟨hD.other 10 (by decide), rfl⟩ | exact hD.other 10 (by decide)) ?_
            go_simp
            refine flowV_ch rfl rfl ?_ ?_
            · intro u' hu' L w' hun hbe hD
              have hu7 : u' 7 = x7 := (after_eq hu' (by kernel_rfl)).trans (by simp [upd])
              have h7 := after_behind hbe (p := 7) (by kernel_rfl)
              have hw := hD.bel
              refine each_app (.tmp 59) (.tmp 62) 24 rfl wq.heap.size 34 4 80 elemUnL (u' 7) (j + 1) ((flatU (D.take j)) ++ (#[.string u.name, .slice p4 u.incs.length c4, .slice p7 u.axs.length c7, .string u.goal]).toList) (by rw [hu7]; rfl) _ ((k + 1) - (j + 1)) (flatU (D.drop j)) rfl ((srcU_tail HOQ.out (Nat.le_of_lt hlm) (oc - j)).below hw) (hD.r7 h7 (getD_tf hun)) (by first | exact flatU_cell _ | simp) (by omega) (by unfold maxLen; omega) hw.size ?_
              intro v' w2 hr hg hn
              rw [show j + 1 + ((k + 1) - (j + 1)) = (k + 1) by omega] at hr
              exact hD.a11 hun h7 hr hg
            intro x11
            go_simp
            refine flowV_ch rfl rfl ?_ ?_
            · intro u' hu' L w' hun hbe hD
              have hu11 : u' 11 = x11 := (after_eq hu' (by kernel_rfl)).trans (by simp [upd])
              have h11 := after_behind hbe (p := 11) (by kernel_rfl)
              go_simp
              rw [← hu11]
              exact hD.m12 hun h11
            intro x12
            go_simp
            refine flowV_nil ?_
            intro L w3 hL hD
            have hx12 : x12 = x11 := by have := hD.r12 (by simpa using hL 12 (by simp)); simpa [upd] using this
            have hrow : w3.ownsRow wq.heap.size 34 4 x11 (k + 1) ((flatU (D.take j)) ++ (#[.string u.name, .slice p4 u.incs.length c4, .slice p7 u.axs.length c7, .string u.goal]).toList ++ (flatU (D.drop j))) := by have := hD.r11 (by simpa using hL 11 (by simp)); simpa [upd] using this
            have hbel3 := hD.bel
            subst hx12
            have hrow2 : w3.ownsRow wq.heap.size 34 4 x12 (D.length + 1) (flatU (D.take j ++ ⟨u, p4, c4, p7, c7⟩ :: D.drop j)) := by
              have e : flatU (D.take j ++ ⟨u, p4, c4, p7, c7⟩ :: D.drop j) = flatU (D.take j) ++ flatU [(⟨u, p4, c4, p7, c7⟩ : UC)] ++ flatU (D.drop j) := by rw [← flatU_app, ← flatU_app]; simp
              rw [e, hDk]; exact hrow
            obtain ⟨g', c', rfl⟩ := own_some hrow2 (by omega)
            have hXq : UC.Own 9 wr0.heap.size wq ⟨u, p4, c4, p7, c7⟩ := HX.out.same fun b _ hl => HBQ.out.block b hl
            have HPUT := Lib.hid ((HL3.out.below HBQ.out).put (k := j) hbel3 ⟨own_lower hXq.ra (by omega), own_lower hXq.rb (by omega), hXq.ap⟩ (Nat.le_trans hwt (by omega)) (fun y hy b h1 h2 => by have h3 := ((HLS.out.uns.each y hy).blk h1).2; have h4 := (hXq.blk h2).1; omega) (fun b hb h2 => by have h3 := HNV.out b hb; have h4 := UC.Own.blk HOW.out h2; omega) hrow2)
            clear hrow hrow2 hbel3 hXq
            go_wp2
            refine ⟨⟨k + 1, g', c', D.take j ++ ⟨u, p4, c4, p7, c7⟩ :: D.drop j, v3, by omega, by go_num, ?_, by rw [hDk], rfl, ?_⟩, by simp [intOf]; omega⟩
            · have := congrArg List.length (List.take_append_drop j D)
              rw [List.length_append] at this
              rw [List.length_append, List.length_cons]; omega
            · rw [HTN.out, show m + 2 + (k + 1) * 40 = m + 2 + k * 40 + 40 by omega]; exact HPUT.out
          · rw [hL] at hll
            clear hL
            go_wp2_with fail
            go_quiet (fail)
            go_wp2
            refine ⟨⟨j + 1, by omega, by go_num, by exact bel⟩, by simp [intOf]; omega⟩
        · obtain rfl : k = j := by omega
          have hkk : (k : Int) ≤ oc := by omega
          have hmi : ¬ (k : Int) < k := by omega
          by_cases hck : k = oc
          · subst hck
            go_wp2_with fail
            go_quiet (fail)
            go_wp2
            obtain ⟨wq, hwq⟩ : ∃ q, q = wr.drewN nq := ⟨_, rfl⟩
            rw [← hwq]
            have hbq : Below wr.heap.size wr wq := by rw [hwq]; exact bel
            clear hwq
            have n0 := cellQ hbq m0
            have n1 := cellQ hbq m1
            have n2 := cellQ hbq m2
            have n3 := cellQ hbq m3
            have zn := bsz (World.block_lt_of_cell? _ _ n0)
            have HOQ := Lib.hid (own_below HOUT.out hbq)
            have HBQ := Lib.hid (Below.step HBM.out hbq)
            have hqq := hbq.size
            clear m0 m1 m2 m3 mf
            refine wp_region_any3 [none, some (.slice (some ⟨og, 0, none⟩) k k), some (.int .i64 (k : Nat)), some (.slice (some ⟨og, 0, none⟩) k k), none, some (.agg #[.string u.name, .slice p4 u.incs.length c4, .slice p7 u.axs.length c7, .string u.goal]), none, none, some (.slice (some ⟨og, 0, none⟩) k k), some (.int .i64 (k : Nat)), some (.slice (some ⟨og, 0, none⟩) 0 0), none, none] (InsD 34 4 wq k (k + 1) (flatU (D.take k)) (flatU (D.drop k)) (#[.string u.name, .slice p4 u.incs.length c4, .slice p7 u.axs.length c7, .string u.goal])) (by kernel_rfl) (by kernel_rfl) (fun L hL => InsD.start hL) ?_
            refine flowV_ch rfl rfl (by intro u' hu' L w' hun hbe hD; go_simp; exact hD.b0 hun) ?_
            intro x0
            go_simp
            refine flowV_st rfl rfl (by intro u' L w' hun hbe hD; go_simp; first | exact ⟨hD.other 1 (by decide), rfl⟩ | exact hD.other 1 (by decide)) ?_
            go_simp
            refine flowV_st rfl rfl (by intro u' L w' hun hbe hD; go_simp; first | exact ⟨hD.other 2 (by decide), rfl⟩ | exact hD.other 2 (by decide)) ?_
            go_simp
            refine flowV_st rfl rfl (by intro u' L w' hun hbe hD; go_simp; first | exact ⟨hD.other 3 (by decide), rfl⟩ | exact hD.other 3 (by decide)) ?_
            go_simp
            refine flowV_ch rfl rfl ?_ ?_
            · intro u' hu' L w' hun hbe hD
              have hu0 : u' 0 = x0 := (after_eq hu' (by kernel_rfl)).trans (by simp [upd])
              have h0 := after_behind hbe (p := 0) (by kernel_rfl)
              have hw := hD.bel
              refine each_app (.tmp 52) (.tmp 55) 24 rfl wq.heap.size 34 4 80 elemUnL (u' 0) 0 [] (by rw [hu0]; rfl) _ k (flatU (D.take k)) rfl ((srcU_head HOQ.out (Nat.le_refl _) k).below hw) (hD.r0 h0 (getD_tf hun)) (by first | exact flatU_cell _ | simp) (by omega) (by unfold maxLen; omega) hw.size ?_
              intro v' w2 hr hg hn
              exact hD.a4 hun h0 hr hg hn
            intro x4
            go_simp
            refine flowV_st rfl rfl (by intro u' L w' hun hbe hD; have hw := hD.bel; have e0 := cellQ hw n0; have e1 := cellQ hw n1; have e2 := cellQ hw n2; have e3 := cellQ hw n3; have ze := bsz (World.block_lt_of_cell? _ _ e0); go_simp; first | exact ⟨hD.other 5 (by decide), rfl⟩ | exact hD.other 5 (by decide)) ?_
            go_simp
            refine flowV_ch rfl rfl (by intro u' hu' L w' hun hbe hD; go_simp; exact hD.b6 hun) ?_
            intro x6
            go_simp
            refine flowV_ch rfl rfl ?_ ?_
            · intro u' hu' L w' hun hbe hD
              have hu4 : u' 4 = x4 := (after_eq hu' (by kernel_rfl)).trans (by simp [upd])
              have hu6 : u' 6 = x6 := (after_eq hu' (by kernel_rfl)).trans (by simp [upd])
              have h4 := after_behind hbe (p := 4) (by kernel_rfl)
              have h6 := after_behind hbe (p := 6) (by kernel_rfl)
              have hw := hD.bel
              obtain ⟨q, hq, hqc, -, -⟩ := hD.r6 h6 (getD_tf hun)
              refine each_app (.tmp 56) (.tmp 58) 24 rfl wq.heap.size 34 4 80 elemUnL (u' 4) k (flatU (D.take k)) (by rw [hu4]; rfl) (.slice (some ⟨q, 0, none⟩) 1 1) 1 (#[.string u.name, .slice p4 u.incs.length c4, .slice p7 u.axs.length c7, .string u.goal]).toList (by rw [← hq, hu6]; rfl) (src_block hqc (by simp)) (hD.r4 h4 (getD_tf hun)) (by simp [Value.oneCell']) (by omega) (by unfold maxLen; omega) hw.size ?_
              intro v' w2 hr hg hn
              exact hD.a7 hun h4 h6 hr hg
            intro x7
            go_simp
            refine flowV_st rfl rfl (by intro u' L w' hun hbe hD; go_simp; first | exact ⟨hD.other 8 (by decide), rfl⟩ | exact hD.other 8 (by decide)) ?_
            go_simp
            refine flowV_st rfl rfl (by intro u' L w' hun hbe hD; go_simp; first | exact ⟨hD.other 9 (by decide), rfl⟩ | exact hD.other 9 (by decide)) ?_
            go_simp
            refine flowV_st rfl rfl (by intro u' L w' hun hbe hD; go_simp; first | exact ⟨hD.other 10 (by decide), rfl⟩ | exact hD.other 10 (by decide)) ?_
            go_simp
            refine flowV_ch rfl rfl ?_ ?_
            · intro u' hu' L w' hun hbe hD
              have hu7 : u' 7 = x7 := (after_eq hu' (by kernel_rfl)).trans (by simp [upd])
              have h7 := after_behind hbe (p := 7) (by kernel_rfl)
              have hw := hD.bel
              refine each_app (.tmp 59) (.tmp 62) 24 rfl wq.heap.size 34 4 80 elemUnL (u' 7) (k + 1) ((flatU (D.take k)) ++ (#[.string u.name, .slice p4 u.incs.length c4, .slice p7 u.axs.length c7, .string u.goal]).toList) (by rw [hu7]; rfl) _ ((k + 1) - (k + 1)) (flatU (D.drop k)) rfl (srcU_nil hDk) (hD.r7 h7 (getD_tf hun)) (by first | exact flatU_cell _ | simp) (by omega) (by unfold maxLen; omega) hw.size ?_
              intro v' w2 hr hg hn
              rw [show k + 1 + ((k + 1) - (k + 1)) = (k + 1) by omega] at hr
              exact hD.a11 hun h7 hr hg
            intro x11
            go_simp
            refine flowV_ch rfl rfl ?_ ?_
            · intro u' hu' L w' hun hbe hD
              have hu11 : u' 11 = x11 := (after_eq hu' (by kernel_rfl)).trans (by simp [upd])
              have h11 := after_behind hbe (p := 11) (by kernel_rfl)
              go_simp
              rw [← hu11]
              exact hD.m12 hun h11
            intro x12
            go_simp
            refine flowV_nil ?_
            intro L w3 hL hD
            have hx12 : x12 = x11 := by have := hD.r12 (by simpa using hL 12 (by simp)); simpa [upd] using this
            have hrow : w3.ownsRow wq.heap.size 34 4 x11 (k + 1) ((flatU (D.take k)) ++ (#[.string u.name, .slice p4 u.incs.length c4, .slice p7 u.axs.length c7, .string u.goal]).toList ++ (flatU (D.drop k))) := by have := hD.r11 (by simpa using hL 11 (by simp)); simpa [upd] using this
            have hbel3 := hD.bel
            subst hx12
            have hrow2 : w3.ownsRow wq.heap.size 34 4 x12 (D.length + 1) (flatU (D.take k ++ ⟨u, p4, c4, p7, c7⟩ :: D.drop k)) := by
              have e : flatU (D.take k ++ ⟨u, p4, c4, p7, c7⟩ :: D.drop k) = flatU (D.take k) ++ flatU [(⟨u, p4, c4, p7, c7⟩ : UC)] ++ flatU (D.drop k) := by rw [← flatU_app, ← flatU_app]; simp
              rw [e, hDk]; exact hrow
            obtain ⟨g', c', rfl⟩ := own_some hrow2 (by omega)
            have hXq : UC.Own 9 wr0.heap.size wq ⟨u, p4, c4, p7, c7⟩ := HX.out.same fun b _ hl => HBQ.out.block b hl
            have HPUT := Lib.hid ((HL3.out.below HBQ.out).put (k := k) hbel3 ⟨own_lower hXq.ra (by omega), own_lower hXq.rb (by omega), hXq.ap⟩ (Nat.le_trans hwt (by omega)) (fun y hy b h1 h2 => by have h3 := ((HLS.out.uns.each y hy).blk h1).2; have h4 := (hXq.blk h2).1; omega) (fun b hb h2 => by have h3 := HNV.out b hb; have h4 := UC.Own.blk HOW.out h2; omega) hrow2)
            clear hrow hrow2 hbel3 hXq
            go_wp2
            refine ⟨⟨k + 1, g', c', D.take k ++ ⟨u, p4, c4, p7, c7⟩ :: D.drop k, v3, by omega, by go_num, ?_, by rw [hDk], rfl, ?_⟩, by simp [intOf]; omega⟩
            · have := congrArg List.length (List.take_append_drop k D)
              rw [List.length_append] at this
              rw [List.length_append, List.length_cons]; omega
            · rw [HTN.out, show m + 2 + (k + 1) * 40 = m + 2 + k * 40 + 40 by omega]; exact HPUT.out
          · have hcm : oc ≠ k := fun e => hck e.symm
            go_wp2_with fail
            go_quiet (fail)
            go_wp2
            obtain ⟨wq, hwq⟩ : ∃ q, q = wr.drewN nq := ⟨_, rfl⟩
            rw [← hwq]
            have hbq : Below wr.heap.size wr wq := by rw [hwq]; exact bel
            clear hwq
            have n0 := cellQ hbq m0
            have n1 := cellQ hbq m1
            have n2 := cellQ hbq m2
            have n3 := cellQ hbq m3
            have zn := bsz (World.block_lt_of_cell? _ _ n0)
            have HOQ := Lib.hid (own_below HOUT.out hbq)
            have HBQ := Lib.hid (Below.step HBM.out hbq)
            have hqq := hbq.size
            clear m0 m1 m2 m3 mf
            refine wp_region_any3 [none, some (.slice (some ⟨og, 0, none⟩) k oc), some (.int .i64 (k : Nat)), some (.slice (some ⟨og, 0, none⟩) k oc), none, some (.agg #[.string u.name, .slice p4 u.incs.length c4, .slice p7 u.axs.length c7, .string u.goal]), none, none, some (.slice (some ⟨og, 0, none⟩) k oc), some (.int .i64 (k : Nat)), some (.slice (some ⟨og, k * 4, none⟩) 0 (oc - k)), none, none] (InsD 34 4 wq k (k + 1) (flatU (D.take k)) (flatU (D.drop k)) (#[.string u.name, .slice p4 u.incs.length c4, .slice p7 u.axs.length c7, .string u.goal])) (by kernel_rfl) (by kernel_rfl) (fun L hL => InsD.start hL) ?_
            refine flowV_ch rfl rfl (by intro u' hu' L w' hun hbe hD; go_simp; exact hD.b0 hun) ?_
            intro x0
            go_simp
            refine flowV_st rfl rfl (by intro u' L w' hun hbe hD; go_simp; first | exact ⟨hD.other 1 (by decide), rfl⟩ | exact hD.other 1 (by decide)) ?_
            go_simp
            refine flowV_st rfl rfl (by intro u' L w' hun hbe hD; go_simp; first | exact ⟨hD.other 2 (by decide), rfl⟩ | exact hD.other 2 (by decide)) ?_
            go_simp
            refine flowV_st rfl rfl (by intro u' L w' hun hbe hD; go_simp; first | exact ⟨hD.other 3 (by decide), rfl⟩ | exact hD.other 3 (by decide)) ?_
            go_simp
            refine flowV_ch rfl rfl ?_ ?_
            · intro u' hu' L w' hun hbe hD
              have hu0 : u' 0 = x0 := (after_eq hu' (by kernel_rfl)).trans (by simp [upd])
              have h0 := after_behind hbe (p := 0) (by kernel_rfl)
              have hw := hD.bel
              refine each_app (.tmp 52) (.tmp 55) 24 rfl wq.heap.size 34 4 80 elemUnL (u' 0) 0 [] (by rw [hu0]; rfl) _ k (flatU (D.take k)) rfl ((srcU_head HOQ.out (Nat.le_refl _) oc).below hw) (hD.r0 h0 (getD_tf hun)) (by first | exact flatU_cell _ | simp) (by omega) (by unfold maxLen; omega) hw.size ?_
              intro v' w2 hr hg hn
              exact hD.a4 hun h0 hr hg hn
            intro x4
            go_simp
            refine flowV_st rfl rfl (by intro u' L w' hun hbe hD; have hw := hD.bel; have e0 := cellQ hw n0; have e1 := cellQ hw n1; have e2 := cellQ hw n2; have e3 := cellQ hw n3; have ze := bsz (World.block_lt_of_cell? _ _ e0); go_simp; first | exact ⟨hD.other 5 (by decide), rfl⟩ | exact hD.other 5 (by decide)) ?_
            go_simp
            refine flowV_ch rfl rfl (by intro u' hu' L w' hun hbe hD; go_simp; exact hD.b6 hun) ?_
            intro x6
            go_simp
            refine flowV_ch rfl rfl ?_ ?_
            · intro u' hu' L w' hun hbe hD
              have hu4 : u' 4 = x4 := (after_eq hu' (by kernel_rfl)).trans (by simp [upd])
              have hu6 : u' 6 = x6 := (after_eq hu' (by kernel_rfl)).trans (by simp [upd])
              have h4 := after_behind hbe (p := 4) (by kernel_rfl)
              have h6 := after_behind hbe (p := 6) (by kernel_rfl)
              have hw := hD.bel
              obtain ⟨q, hq, hqc, -, -⟩ := hD.r6 h6 (getD_tf hun)
              refine each_app (.tmp 56) (.tmp 58) 24 rfl wq.heap.size 34 4 80 elemUnL (u' 4) k (flatU (D.take k)) (by rw [hu4]; rfl) (.slice (some ⟨q, 0, none⟩) 1 1) 1 (#[.string u.name, .slice p4 u.incs.length c4, .slice p7 u.axs.length c7, .string u.goal]).toList (by rw [← hq, hu6]; rfl) (src_block hqc (by simp)) (hD.r4 h4 (getD_tf hun)) (by simp [Value.oneCell']) (by omega) (by unfold maxLen; omega) hw.size ?_
              intro v' w2 hr hg hn
              exact hD.a7 hun h4 h6 hr hg
            intro x7
            go_simp
            refine flowV_st rfl rfl (by intro u' L w' hun hbe hD; go_simp; first | exact ⟨hD.other 8 (by decide), rfl⟩ | exact hD.other 8 (by decide)) ?_
            go_simp
            refine flowV_st rfl rfl (by intro u' L w' hun hbe hD; go_simp; first | exact ⟨hD.other 9 (by decide), rfl⟩ | exact hD.other 9 (by decide)) ?_
            go_simp
            refine flowV_st rfl rfl (by intro u' L w' hun hbe hD; go_simp; first | exact ⟨hD.other 10 (by decide), rfl⟩ | exact hD.other 10 (by decide)) ?_
            go_simp
            refine flowV_ch rfl rfl ?_ ?_
            · intro u' hu' L w' hun hbe hD
              have hu7 : u' 7 = x7 := (after_eq hu' (by kernel_rfl)).trans (by simp [upd])
              have h7 := after_behind hbe (p := 7) (by kernel_rfl)
              have hw := hD.bel
              refine each_app (.tmp 59) (.tmp 62) 24 rfl wq.heap.size 34 4 80 elemUnL (u' 7) (k + 1) ((flatU (D.take k)) ++ (#[.string u.name, .slice p4 u.incs.length c4, .slice p7 u.axs.length c7, .string u.goal]).toList) (by rw [hu7]; rfl) _ ((k + 1) - (k + 1)) (flatU (D.drop k)) rfl (srcU_nil hDk) (hD.r7 h7 (getD_tf hun)) (by first | exact flatU_cell _ | simp) (by omega) (by unfold maxLen; omega) hw.size ?_
              intro v' w2 hr hg hn
              rw [show k + 1 + ((k + 1) - (k + 1)) = (k + 1) by omega] at hr
              exact hD.a11 hun h7 hr hg
            intro x11
            go_simp
            refine flowV_ch rfl rfl ?_ ?_
            · intro u' hu' L w' hun hbe hD
              have hu11 : u' 11 = x11 := (after_eq hu' (by kernel_rfl)).trans (by simp [upd])
              have h11 := after_behind hbe (p := 11) (by kernel_rfl)
              go_simp
              rw [← hu11]
              exact hD.m12 hun h11
            intro x12
            go_simp
            refine flowV_nil ?_
            intro L w3 hL hD
            have hx12 : x12 = x11 := by have := hD.r12 (by simpa using hL 12 (by simp)); simpa [upd] using this
            have hrow : w3.ownsRow wq.heap.size 34 4 x11 (k + 1) ((flatU (D.take k)) ++ (#[.string u.name, .slice p4 u.incs.length c4, .slice p7 u.axs.length c7, .string u.goal]).toList ++ (flatU (D.drop k))) := by have := hD.r11 (by simpa using hL 11 (by simp)); simpa [upd] using this
            have hbel3 := hD.bel
            subst hx12
            have hrow2 : w3.ownsRow wq.heap.size 34 4 x12 (D.length + 1) (flatU (D.take k ++ ⟨u, p4, c4, p7, c7⟩ :: D.drop k)) := by
              have e : flatU (D.take k ++ ⟨u, p4, c4, p7, c7⟩ :: D.drop k) = flatU (D.take k) ++ flatU [(⟨u, p4, c4, p7, c7⟩ : UC)] ++ flatU (D.drop k) := by rw [← flatU_app, ← flatU_app]; simp
              rw [e, hDk]; exact hrow
            obtain ⟨g', c', rfl⟩ := own_some hrow2 (by omega)
            have hXq : UC.Own 9 wr0.heap.size wq ⟨u, p4, c4, p7, c7⟩ := HX.out.same fun b _ hl => HBQ.out.block b hl
            have HPUT := Lib.hid ((HL3.out.below HBQ.out).put (k := k) hbel3 ⟨own_lower hXq.ra (by omega), own_lower hXq.rb (by omega), hXq.ap⟩ (Nat.le_trans hwt (by omega)) (fun y hy b h1 h2 => by have h3 := ((HLS.out.uns.each y hy).blk h1).2; have h4 := (hXq.blk h2).1; omega) (fun b hb h2 => by have h3 := HNV.out b hb; have h4 := UC.Own.blk HOW.out h2; omega) hrow2)
            clear hrow hrow2 hbel3 hXq
            go_wp2
            refine ⟨⟨k + 1, g', c', D.take k ++ ⟨u, p4, c4, p7, c7⟩ :: D.drop k, v3, by omega, by go_num, ?_, by rw [hDk], rfl, ?_⟩, by simp [intOf]; omega⟩
            · have := congrArg List.length (List.take_append_drop k D)
              rw [List.length_append] at this
              rw [List.length_append, List.length_cons]; omega
            · rw [HTN.out, show m + 2 + (k + 1) * 40 = m + 2 + k * 40 + 40 by omega]; exact HPUT.out
    · obtain rfl : n1 = k := by omega
      have hki : ¬ (n1 : Int) < n1 := by omega
      by_cases h0 : n1 = 0
      · subst h0
        go_wp2
        go_ret
        exact ⟨_, rfl, ⟨[], ListAt.nil _ _ _ _ _ _, by simp, fun _ h => by cases h⟩, HLS.out.cur.more (by omega) (by omega), HLS.out.gr⟩
      · have hkz : ((n1 : Int) == 0) = false := by simp; omega
        go_wp2_with fail
        refine (pick_any g (m + 2 + n1 * 40) n1 _ HLS.out.cur (by omega) (by omega) (by omega)).mono ?_
        rintro e w2 ⟨_, rfl, ⟨r1, rfl, hr1, hr2⟩, hc2, hg2⟩
        have HC2 := Lib.hid hc2
        clear hc2
        have ⟨c2, f2⟩ := gcell hg2
        have hz2 := hg2.size
        (try simp at hz2)
        have HL2 := Lib.hid (HLS.out.later hg2 HC2.out)
        have hz2' := hg2.size
        obtain ⟨r, rfl⟩ : ∃ r : Nat, r1 = (r : Int) := ⟨r1.toNat, by omega⟩
        have hrk : (r : Int) < n1 := by omega
        have hrk2 : r < n1 := by omega
        clear hg2 c2 f2
        obtain ⟨x, hx⟩ : ∃ x, D[r]? = some x := ⟨_, List.getElem?_eq_getElem (by omega)⟩
        have hor := HL2.out.or
        rw [hDk] at hor
        obtain ⟨g', e', hog1, hog2, hfro, hcell⟩ := rowU_cell hor (by omega)
        obtain rfl : og = g' := by injection e' with e'; injection e'
        obtain ⟨c0, c1, c2, c3⟩ := hcell r x hx
        have HX := Lib.hid hx
        have HFRO := Lib.hid (And.intro hor hfro)
        have hwx := HL2.out.wt x (List.mem_of_getElem? hx)
        have HXO := Lib.hid (HL2.out.uns.each x (List.mem_of_getElem? hx))
        have hog0 : og < w2.heap.size := hog2
        have zog := bsz hog2
        clear hx hor hcell e' hfro hog2
        go_wp2_with fail
        refine (pick_any g (m + 2 + n1 * 40 + 2) 30 _ (HL2.out.cur.al (.cells #[.string x.u.name, .slice x.p x.u.incs.length x.c, .slice x.q x.u.axs.length x.d, .string x.u.goal] 34)) (by omega) (by omega) (by omega)).mono ?_
        rintro e w3 ⟨_, rfl, ⟨r3, rfl, hr3, hr4⟩, hc3, hg3⟩
        have HC3 := Lib.hid hc3
        clear hc3
        have ⟨c3, f3⟩ := gcell hg3
        have hz3 := hg3.size
        (try simp at hz3)
        have HG3 := Lib.hid (gr_trans (gr_al (gr_refl w2 g) _) hg3)
        have hB3 : w3.heap[w2.heap.size]? = _ := (hg3.block w2.heap.size (by simp) (fun e => by injection e with e; omega)).trans (heap_alloc_new w2 _)
        have HB3 := Lib.hid hB3
        obtain ⟨d0, d1, d2, d3, df⟩ := row4_cells hB3
        have zb3 := bsz (blk_lt hB3)
        obtain ⟨k0, k1, k2, k3, hf3, ho3⟩ := (HL2.out.later HG3.out HC3.out).fro HX.out
        have z23 := bsz ho3
        have hgb : g < w.heap.size + 3 := by omega
        have hgw : g < w2.heap.size := by omega
        have hw2 : w.heap.size + 3 ≤ w2.heap.size := by have := blk_lt HL2.out.tx; omega
        clear hB3 hg3 c0 c1 c2 c3 f3
        have hxn : x.u.name.size ≤ 400 := by have : x.u.wt = x.u.name.size + (x.u.incs.length + wtS x.u.incs) + (x.u.axs.length + wtS x.u.axs) + x.u.goal.size := rfl; omega
        rcases (by omega : r3 = 0 ∨ r3 = 1 ∨ r3 = 2 ∨ r3 = 3 ∨ r3 = 4 ∨ (4 < r3 ∧ r3 ≤ 29)) with rfl | rfl | rfl | rfl | rfl | ⟨hra, hrb⟩
        · go_wp2_with fail
          refine (of_lit g (m + 2 + n1 * 40 + 2 + 2) 400 4 w3.heap.size _ _ _ (by rfl) (by rfl) HC3.out (by omega) (by simp) (by simp) (by intro v hv; simp at hv; rcases hv with rfl | rfl | rfl | rfl; exact ⟨_, rfl, by decide⟩; exact ⟨_, rfl, by decide⟩; exact ⟨_, rfl, by decide⟩; exact ⟨_, rfl, hxn⟩)).mono ?_
          rintro e w4 ⟨_, rfl, ⟨s4, rfl, hs4⟩, hc4, hg4⟩
          have HC4 := Lib.hid hc4
          clear hc4
          have ⟨c4, f4⟩ := gcell hg4
          have hz4 := hg4.size
          (try simp at hz4)
          have HG4 := Lib.hid (gr_trans (gr_al HG3.out _) hg4)
          have hz4 := hg4.size
          simp only [World.size_alloc] at hz4
          have hB4 := (hg4.block w2.heap.size (by simp; omega) (fun e => by injection e with e; omega)).trans ((hao _ _ _ zb3.1).trans HB3.out)
          clear k0 k1 k2 k3
          obtain ⟨k0, k1, k2, k3, hf4, ho4⟩ := (HL2.out.later HG4.out HC4.out).fro HX.out
          clear d0 d1 d2 d3 df zb3 hf3 z23 HB3
          obtain ⟨d0, d1, d2, d3, df⟩ := row4_cells hB4
          have zb4 := bsz (blk_lt hB4)
          have z24 := bsz ho4
          clear hB4 hg4 c4 f4
          have hrow : ((w4.alloc (.cells #[.string s4] 9)).setCell ⟨w2.heap.size, 1, none⟩ (.slice (some ⟨w4.heap.size, 0, none⟩) 1 1)).ownsRow w2.heap.size 9 1 (.slice (some ⟨w4.heap.size, 0, none⟩) [s4].length 1) [s4].length (strW [s4]) := own_block (cur := #[.string s4]) ((heap_setCell_other _ ⟨_, _, _⟩ _ _ (by show w4.heap.size ≠ w2.heap.size; omega)).trans (heap_alloc_new w4 _)) (by omega) (Nat.le_refl _) (show 1 ≤ maxLen by decide) rfl rfl
          have hg5 := gr_sc (p := ⟨w2.heap.size, 1, none⟩) (gr_al HG4.out (.cells #[.string s4] 9)) (.inr (Nat.le_refl _)) (.slice (some ⟨w4.heap.size, 0, none⟩) 1 1)
          have hc5 := (HC4.out.al (.cells #[.string s4] 9)).sc (p := ⟨w2.heap.size, 1, none⟩) hgw (.slice (some ⟨w4.heap.size, 0, none⟩) 1 1)
          obtain ⟨ho, hs⟩ := UC.Own.newI HXO.out hg5 hgb hw2 hrow
          have hwy : (show Nat from (⟨⟨x.u.name, [s4], x.u.axs, x.u.goal⟩, some ⟨w4.heap.size, 0, none⟩, 1, x.q, x.d⟩ : UC).u.wt) ≤ 1000 := by
            show x.u.name.size + (1 + (s4.size + 0)) + (x.u.axs.length + wtS x.u.axs) + x.u.goal.size ≤ 1000
            have : x.u.wt = x.u.name.size + (x.u.incs.length + wtS x.u.incs) + (x.u.axs.length + wtS x.u.axs) + x.u.goal.size := rfl
            omega
          have HQ := Lib.hid (HL2.out.done (y := ⟨⟨x.u.name, [s4], x.u.axs, x.u.goal⟩, some ⟨w4.heap.size, 0, none⟩, 1, x.q, x.d⟩) hg5 hc5 HX.out ho hs hwy (by omega))
          clear hg5 hc5 ho hs hwy
          go_wp2
          go_ret
          obtain ⟨q1, q2, us, q3, q4, q5⟩ := HQ.out
          rw [hDk] at q3
          have q1' := q1.more (n := m + 400) (by omega) (by omega)
          clear q1
          (try rw [set4_alloc _ _ _ _ _ _ _ zb4.1 z24.1] at q1' q2 q3)
          dsimp only [set4W] at q1' q2 q3
          (try simp only [List.length_cons, List.length_nil, Nat.zero_add] at q1' q2 q3)
          refine ⟨.slice (some ⟨og, 0, none⟩) n1 oc, rfl, ⟨us, ?_, q4, q5⟩, ?_, ?_⟩
          · with_reducible exact q3
          · with_reducible exact q1'
          · with_reducible exact q2
        · have hax : x.u.axs.length ≤ 400 := by have : x.u.wt = x.u.name.size + (x.u.incs.length + wtS x.u.incs) + (x.u.axs.length + wtS x.u.axs) + x.u.goal.size := rfl; omega
          have HE0 := Lib.hid (row_empty w3 (w2.heap.size + 1) 9 1 (by omega))
          have HXA := Lib.hid (own_below ((HXO.out.grownG HG3.out hgb).rb) ((Below.refl w3.heap.size w3).alloc (Nat.le_refl _) (.cells #[] 9)))
          go_wp2_with (at_builtin; refine wpList_app rfl (.tmp 89) (.tmp 91) 26 rfl (w2.heap.size + 1) 9 1 16 elemStr (.slice (some ⟨w3.heap.size, 0, none⟩) 0 0) 0 [] rfl (.slice x.q x.u.axs.length x.d) x.u.axs.length (strW x.u.axs) rfl (src_own HXA.out) HE0.out (by intro u hu; simp only [strW, List.mem_map] at hu; obtain ⟨s, -, rfl⟩ := hu; rfl) (by omega) (by unfold maxLen; omega) (by simp; omega) ?_; intro v4 w4 hown4 hg4 hnr4)
          have hz4 := hg4.size
          simp only [World.size_alloc] at hz4
          have HG4 := Lib.hid (gr_own (gr_al HG3.out (.cells #[] 9)) hg4 (fun b hb => by simp only [Value.ownBlock, Option.some.injEq] at hb; omega))
          have HC4 := Lib.hid ((HC3.out.al (.cells #[] 9)).own hg4 (fun b hb => by simp only [Value.ownBlock, Option.some.injEq] at hb; omega))
          have HB4 := Lib.hid ((hg4.block w2.heap.size (by simp; omega) (fun e => by simp only [Value.ownBlock, Option.some.injEq] at e; omega)).trans ((hao _ _ _ zb3.1).trans HB3.out))
          have HO4 := Lib.hid hown4
          clear hown4 hg4 hnr4 HE0 HXA k0 k1 k2 k3 d0 d1 d2 d3 df zb3 hf3 z23 ho3
          go_wp2_with fail
          refine (of_lit g (m + 2 + n1 * 40 + 2 + 2) 10 3 w4.heap.size _ _ _ (by rfl) (by rfl) HC4.out (by omega) (by decide) (by decide) (by intro v hv; simp at hv; rcases hv with rfl | rfl | rfl <;> exact ⟨_, rfl, by decide⟩)).mono ?_
          rintro e w5 ⟨_, rfl, ⟨s5, rfl, hs5⟩, hc5, hg5⟩
          have HC5 := Lib.hid hc5
          clear hc5
          have ⟨c5, f5⟩ := gcell hg5
          have hz5 := hg5.size
          (try simp at hz5)
          have hz5 := hg5.size
          simp only [World.size_alloc] at hz5
          have hv4 : ∀ b, v4.ownBlock = some b → w2.heap.size + 1 ≤ b ∧ b < w4.heap.size := fun b hb => ⟨own_base HO4.out b hb, own_lt' HO4.out hb⟩
          have HG5 := Lib.hid (gr_trans (gr_al HG4.out _) hg5)
          have HB5 := Lib.hid ((hg5.block w2.heap.size (by simp; omega) (fun e => by injection e with e; omega)).trans ((hao _ _ _ (blk_lt HB4.out)).trans HB4.out))
          have HO5 := Lib.hid (own_same HO4.out (w' := w5) (fun b hb hl => (hg5.block b (by simp; omega) (fun e => by injection e with e; have := (hv4 b hb).1; omega)).trans (hao _ _ _ hl)))
          clear hg5 c5 f5 HO4
          go_wp2_with (at_builtin; refine wpList_app1 rfl (.tmp 92) (.tmp 96) _ rfl (w2.heap.size + 1) 9 1 16 elemStr _ _ _ rfl w5 #[.string s5] rfl _ (by simp) rfl HO5.out rfl (by simp [Value.oneCell']) (by omega) (by unfold maxLen; omega) (by omega) ?_; intro v6 w6 hown6 hg6 hnr6 hlt6; refine Hid.out ?_)
          have hz6 := hg6.size
          have HG6 := Lib.hid (gr_own HG5.out hg6 (fun b hb => by have := (hv4 b hb).1; omega))
          have HC6 := Lib.hid (HC5.out.own hg6 (fun b hb => by have := (hv4 b hb).1; omega))
          have hB6 := (hg6.block w2.heap.size (blk_lt HB5.out) (fun e => by have := (hv4 _ e.symm).1; omega)).trans HB5.out
          obtain ⟨d0, d1, d2, d3, df⟩ := row4_cells hB6
          have zb6 := bsz (blk_lt hB6)
          obtain ⟨k0, k1, k2, k3, hf6, ho6⟩ := (HL2.out.later HG6.out HC6.out).fro HX.out
          have z26 := bsz ho6
          have en : 0 + x.u.axs.length + 1 = (x.u.axs ++ [s5]).length := by simp
          have ev : [] ++ strW x.u.axs ++ [Value.string s5] = strW (x.u.axs ++ [s5]) := by simp [strW]
          rw [en, ev] at hown6
          have hws := wtS_snoc x.u.axs s5
          have hls : (x.u.axs ++ [s5]).length = x.u.axs.length + 1 := by simp
          obtain ⟨l6, hl6⟩ : ∃ l6, x.u.axs ++ [s5] = l6 := ⟨_, rfl⟩
          rw [hl6] at hown6 hws hls
          clear hl6 en ev
          obtain ⟨p6, q6, rfl⟩ := own_slice hown6
          have hrow : (w6.setCell ⟨w2.heap.size, 2, none⟩ (.slice p6 l6.length q6)).ownsRow w2.heap.size 9 1 (.slice p6 l6.length q6) l6.length (strW l6) := own_lower (own_same hown6 (fun b hb _ => heap_setCell_other _ ⟨_, _, _⟩ _ _ (by have := own_base hown6 b hb; show b ≠ w2.heap.size; omega))) (by omega)
          have hg5 := gr_sc (p := ⟨w2.heap.size, 2, none⟩) HG6.out (.inr (Nat.le_refl _)) (.slice p6 l6.length q6)
          have hc5 := HC6.out.sc (p := ⟨w2.heap.size, 2, none⟩) hgw (.slice p6 l6.length q6)
          obtain ⟨ho, hs⟩ := UC.Own.newA HXO.out hg5 hgb hw2 hrow
          clear hown6 hg6 hnr6 hlt6 hB6 hrow HO5 hv4
          have hwy : (show Nat from (⟨⟨x.u.name, x.u.incs, l6, x.u.goal⟩, x.p, x.c, p6, q6⟩ : UC).u.wt) ≤ 1000 := by
            show x.u.name.size + (x.u.incs.length + wtS x.u.incs) + (l6.length + wtS l6) + x.u.goal.size ≤ 1000
            have : x.u.wt = x.u.name.size + (x.u.incs.length + wtS x.u.incs) + (x.u.axs.length + wtS x.u.axs) + x.u.goal.size := rfl
            omega
          have HQ := Lib.hid (HL2.out.done (y := ⟨⟨x.u.name, x.u.incs, l6, x.u.goal⟩, x.p, x.c, p6, q6⟩) hg5 hc5 HX.out ho hs hwy (by omega))
          clear hg5 hc5 ho hs hwy
          clear hws hls
          refine Lib.hid ?_
          go_wp2
          go_ret
          obtain ⟨q1, q2, us, q3, q4, q5⟩ := HQ.out
          rw [hDk] at q3
          have q1' := q1.more (n := m + 400) (by omega) (by omega)
          clear q1
          (try rw [set4_alloc _ _ _ _ _ _ _ zb4.1 z24.1] at q1' q2 q3)
          dsimp only [set4W] at q1' q2 q3
          (try simp only [List.length_replicate, List.length_cons, List.length_nil, Nat.zero_add] at q1' q2 q3)
          refine ⟨.slice (some ⟨og, 0, none⟩) n1 oc, rfl, ⟨us, ?_, q4, q5⟩, ?_, ?_⟩
          · with_reducible exact q3
          · with_reducible exact q1'
          · with_reducible exact q2
        · have hg5 := gr_sc (p := ⟨w2.heap.size, 3, none⟩) HG3.out (.inr (Nat.le_refl _)) (.string ⟨#[112, 40, 88, 44]⟩)
          have hc5 := HC3.out.sc (p := ⟨w2.heap.size, 3, none⟩) hgw (.string ⟨#[112, 40, 88, 44]⟩)
          obtain ⟨ho, hs⟩ := UC.Own.newT x.u.name ⟨#[112, 40, 88, 44]⟩ HXO.out hg5 hgb
          have hwy : (show Nat from (⟨⟨x.u.name, x.u.incs, x.u.axs, ⟨#[112, 40, 88, 44]⟩⟩, x.p, x.c, x.q, x.d⟩ : UC).u.wt) ≤ 1000 := by
            show x.u.name.size + (x.u.incs.length + wtS x.u.incs) + (x.u.axs.length + wtS x.u.axs) + 4 ≤ 1000
            have : x.u.wt = x.u.name.size + (x.u.incs.length + wtS x.u.incs) + (x.u.axs.length + wtS x.u.axs) + x.u.goal.size := rfl
            omega
          have HQ := Lib.hid (HL2.out.done (y := ⟨⟨x.u.name, x.u.incs, x.u.axs, ⟨#[112, 40, 88, 44]⟩⟩, x.p, x.c, x.q, x.d⟩) hg5 hc5 HX.out ho hs hwy (by omega))
          clear hg5 hc5 ho hs hwy
          go_wp2
          go_ret
          obtain ⟨q1, q2, us, q3, q4, q5⟩ := HQ.out
          rw [hDk] at q3
          have q1' := q1.more (n := m + 400) (by omega) (by omega)
          clear q1
          (try rw [set4_alloc _ _ _ _ _ _ _ zb4.1 z24.1] at q1' q2 q3)
          dsimp only [set4W] at q1' q2 q3
          (try simp only [List.length_replicate, List.length_cons, List.length_nil, Nat.zero_add] at q1' q2 q3)
          refine ⟨.slice (some ⟨og, 0, none⟩) n1 oc, rfl, ⟨us, ?_, q4, q5⟩, ?_, ?_⟩
          · with_reducible exact q3
          · with_reducible exact q1'
          · with_reducible exact q2
        · go_wp2_with fail
          refine (of_lit g (m + 2 + n1 * 40 + 2 + 2) 10 3 w3.heap.size _ _ _ (by rfl) (by rfl) HC3.out (by omega) (by decide) (by decide) (by intro v hv; simp at hv; rcases hv with rfl | rfl | rfl <;> exact ⟨_, rfl, by decide⟩)).mono ?_
          rintro e w4 ⟨_, rfl, ⟨s4, rfl, hs4⟩, hc4, hg4⟩
          have HC4 := Lib.hid hc4
          clear hc4
          have ⟨c4, f4⟩ := gcell hg4
          have hz4 := hg4.size
          (try simp at hz4)
          have HG4 := Lib.hid (gr_trans (gr_al HG3.out _) hg4)
          have hz4 := hg4.size
          simp only [World.size_alloc] at hz4
          have hB4 := (hg4.block w2.heap.size (by simp; omega) (fun e => by injection e with e; omega)).trans ((hao _ _ _ zb3.1).trans HB3.out)
          clear k0 k1 k2 k3
          obtain ⟨k0, k1, k2, k3, hf4, ho4⟩ := (HL2.out.later HG4.out HC4.out).fro HX.out
          clear d0 d1 d2 d3 df zb3 hf3 z23 HB3
          obtain ⟨d0, d1, d2, d3, df⟩ := row4_cells hB4
          have zb4 := bsz (blk_lt hB4)
          have z24 := bsz ho4
          clear hB4 hg4 c4 f4
          have hg5 := gr_sc (p := ⟨w2.heap.size, 0, none⟩) HG4.out (.inr (Nat.le_refl _)) (.string s4)
          have hc5 := HC4.out.sc (p := ⟨w2.heap.size, 0, none⟩) hgw (.string s4)
          obtain ⟨ho, hs⟩ := UC.Own.newT s4 x.u.goal HXO.out hg5 hgb
          have hwy : (show Nat from (⟨⟨s4, x.u.incs, x.u.axs, x.u.goal⟩, x.p, x.c, x.q, x.d⟩ : UC).u.wt) ≤ 1000 := by
            show s4.size + (x.u.incs.length + wtS x.u.incs) + (x.u.axs.length + wtS x.u.axs) + x.u.goal.size ≤ 1000
            have : x.u.wt = x.u.name.size + (x.u.incs.length + wtS x.u.incs) + (x.u.axs.length + wtS x.u.axs) + x.u.goal.size := rfl
            omega
          have HQ := Lib.hid (HL2.out.done (y := ⟨⟨s4, x.u.incs, x.u.axs, x.u.goal⟩, x.p, x.c, x.q, x.d⟩) hg5 hc5 HX.out ho hs hwy (by omega))
          clear hg5 hc5 ho hs hwy
          go_wp2
          go_ret
          obtain ⟨q1, q2, us, q3, q4, q5⟩ := HQ.out
          rw [hDk] at q3
          have q1' := q1.more (n := m + 400) (by omega) (by omega)
          clear q1
          (try rw [set4_alloc _ _ _ _ _ _ _ zb4.1 z24.1] at q1' q2 q3)
          dsimp only [set4W] at q1' q2 q3
          (try simp only [List.length_replicate, List.length_cons, List.length_nil, Nat.zero_add] at q1' q2 q3)
          refine ⟨.slice (some ⟨og, 0, none⟩) n1 oc, rfl, ⟨us, ?_, q4, q5⟩, ?_, ?_⟩
          · with_reducible exact q3
          · with_reducible exact q1'
          · with_reducible exact q2
        · go_wp2_with fail
          refine (pick_any g (m + 2 + n1 * 40 + 2 + 2) 2 _ (HC3.out.al (.cells #[.string ⟨#[114]⟩, .string ⟨#[114]⟩, .string ⟨#[114]⟩, .string ⟨#[114]⟩, .string ⟨#[114]⟩, .string ⟨#[114]⟩, .string ⟨#[114]⟩] 9)) (by omega) (by omega) (by omega)).mono ?_
          rintro e w4 ⟨_, rfl, ⟨r4, rfl, hr5, hr6⟩, hc4, hg4⟩
          have HC4 := Lib.hid hc4
          clear hc4
          have ⟨c4, f4⟩ := gcell hg4
          have hz4 := hg4.size
          (try simp at hz4)
          have hb7 := (hg4.block w3.heap.size (by simp) (fun e => by injection e with e; omega)).trans (heap_alloc_new w3 _)
          have HG4 := Lib.hid (gr_trans (gr_al HG3.out _) hg4)
          have hz4 := hg4.size
          simp only [World.size_alloc] at hz4
          have hB4 := (hg4.block w2.heap.size (by simp; omega) (fun e => by injection e with e; omega)).trans ((hao _ _ _ zb3.1).trans HB3.out)
          clear k0 k1 k2 k3
          obtain ⟨k0, k1, k2, k3, hf4, ho4⟩ := (HL2.out.later HG4.out HC4.out).fro HX.out
          clear d0 d1 d2 d3 df zb3 hf3 z23 HB3
          obtain ⟨d0, d1, d2, d3, df⟩ := row4_cells hB4
          have zb4 := bsz (blk_lt hB4)
          have z24 := bsz ho4
          clear hB4 hg4 c4 f4
          have zb7 := bsz (blk_lt hb7)
          have HB7 := Lib.hid hb7
          clear hb7
          rcases (by omega : r4 = 0 ∨ r4 = 1) with rfl | rfl
          · have hrow : (w4.setCell ⟨w2.heap.size, 2, none⟩ (.slice (some ⟨w3.heap.size, 0, none⟩) 6 7)).ownsRow w2.heap.size 9 1 (.slice (some ⟨w3.heap.size, 0, none⟩) (List.replicate 6 (⟨#[114]⟩ : ByteArray)).length 7) (List.replicate 6 (⟨#[114]⟩ : ByteArray)).length (strW (List.replicate 6 (⟨#[114]⟩ : ByteArray))) := own_block ((heap_setCell_other _ ⟨_, _, _⟩ _ _ (by show w3.heap.size ≠ w2.heap.size; omega)).trans HB7.out) (by omega) (by decide) (by decide) rfl rfl
            have hg5 := gr_sc (p := ⟨w2.heap.size, 2, none⟩) HG4.out (.inr (Nat.le_refl _)) (.slice (some ⟨w3.heap.size, 0, none⟩) 6 7)
            have hc5 := HC4.out.sc (p := ⟨w2.heap.size, 2, none⟩) hgw (.slice (some ⟨w3.heap.size, 0, none⟩) 6 7)
            obtain ⟨ho, hs⟩ := UC.Own.newA HXO.out hg5 hgb hw2 hrow
            have hwy : (show Nat from (⟨⟨x.u.name, x.u.incs, List.replicate 6 (⟨#[114]⟩ : ByteArray), x.u.goal⟩, x.p, x.c, some ⟨w3.heap.size, 0, none⟩, 7⟩ : UC).u.wt) ≤ 1000 := by
              show x.u.name.size + (x.u.incs.length + wtS x.u.incs) + (6 + 6) + x.u.goal.size ≤ 1000
              have : x.u.wt = x.u.name.size + (x.u.incs.length + wtS x.u.incs) + (x.u.axs.length + wtS x.u.axs) + x.u.goal.size := rfl
              omega
            have HQ := Lib.hid (HL2.out.done (y := ⟨⟨x.u.name, x.u.incs, List.replicate 6 (⟨#[114]⟩ : ByteArray), x.u.goal⟩, x.p, x.c, some ⟨w3.heap.size, 0, none⟩, 7⟩) hg5 hc5 HX.out ho hs hwy (by omega))
            clear hg5 hc5 ho hs hwy
            go_wp2
            go_ret
            obtain ⟨q1, q2, us, q3, q4, q5⟩ := HQ.out
            rw [hDk] at q3
            have q1' := q1.more (n := m + 400) (by omega) (by omega)
            clear q1
            (try rw [set4_alloc _ _ _ _ _ _ _ zb4.1 z24.1] at q1' q2 q3)
            dsimp only [set4W] at q1' q2 q3
            (try simp only [List.length_replicate] at q1' q2 q3)
            refine ⟨.slice (some ⟨og, 0, none⟩) n1 oc, rfl, ⟨us, ?_, q4, q5⟩, ?_, ?_⟩
            · with_reducible exact q3
            · with_reducible exact q1'
            · with_reducible exact q2
          · have hrow : (w4.setCell ⟨w2.heap.size, 2, none⟩ (.slice (some ⟨w3.heap.size, 0, none⟩) 7 7)).ownsRow w2.heap.size 9 1 (.slice (some ⟨w3.heap.size, 0, none⟩) (List.replicate 7 (⟨#[114]⟩ : ByteArray)).length 7) (List.replicate 7 (⟨#[114]⟩ : ByteArray)).length (strW (List.replicate 7 (⟨#[114]⟩ : ByteArray))) := own_block ((heap_setCell_other _ ⟨_, _, _⟩ _ _ (by show w3.heap.size ≠ w2.heap.size; omega)).trans HB7.out) (by omega) (by decide) (by decide) rfl rfl
            have hg5 := gr_sc (p := ⟨w2.heap.size, 2, none⟩) HG4.out (.inr (Nat.le_refl _)) (.slice (some ⟨w3.heap.size, 0, none⟩) 7 7)
            have hc5 := HC4.out.sc (p := ⟨w2.heap.size, 2, none⟩) hgw (.slice (some ⟨w3.heap.size, 0, none⟩) 7 7)
            obtain ⟨ho, hs⟩ := UC.Own.newA HXO.out hg5 hgb hw2 hrow
            have hwy : (show Nat from (⟨⟨x.u.name, x.u.incs, List.replicate 7 (⟨#[114]⟩ : ByteArray), x.u.goal⟩, x.p, x.c, some ⟨w3.heap.size, 0, none⟩, 7⟩ : UC).u.wt) ≤ 1000 := by
              show x.u.name.size + (x.u.incs.length + wtS x.u.incs) + (7 + 7) + x.u.goal.size ≤ 1000
              have : x.u.wt = x.u.name.size + (x.u.incs.length + wtS x.u.incs) + (x.u.axs.length + wtS x.u.axs) + x.u.goal.size := rfl
              omega
            have HQ := Lib.hid (HL2.out.done (y := ⟨⟨x.u.name, x.u.incs, List.replicate 7 (⟨#[114]⟩ : ByteArray), x.u.goal⟩, x.p, x.c, some ⟨w3.heap.size, 0, none⟩, 7⟩) hg5 hc5 HX.out ho hs hwy (by omega))
            clear hg5 hc5 ho hs hwy
            go_wp2
            go_ret
            obtain ⟨q1, q2, us, q3, q4, q5⟩ := HQ.out
            rw [hDk] at q3
            have q1' := q1.more (n := m + 400) (by omega) (by omega)
            clear q1
            (try rw [set4_alloc _ _ _ _ _ _ _ zb4.1 z24.1] at q1' q2 q3)
            dsimp only [set4W] at q1' q2 q3
            (try simp only [List.length_replicate] at q1' q2 q3)
            refine ⟨.slice (some ⟨og, 0, none⟩) n1 oc, rfl, ⟨us, ?_, q4, q5⟩, ?_, ?_⟩
            · with_reducible exact q3
            · with_reducible exact q1'
            · with_reducible exact q2
        · have e0 : (r3 == 0) = false := by simp; omega
          have e1 : (r3 == 1) = false := by simp; omega
          have e2 : (r3 == 2) = false := by simp; omega
          have e3 : (r3 == 3) = false := by simp; omega
          have e4 : (r3 == 4) = false := by simp; omega
          have hg5 := HG3.out
          have hc5 := HC3.out
          obtain ⟨ho, hs⟩ := UC.Own.newT x.u.name x.u.goal HXO.out hg5 hgb
          have hwy : (show Nat from (⟨⟨x.u.name, x.u.incs, x.u.axs, x.u.goal⟩, x.p, x.c, x.q, x.d⟩ : UC).u.wt) ≤ 1000 := by
            show x.u.name.size + (x.u.incs.length + wtS x.u.incs) + (x.u.axs.length + wtS x.u.axs) + x.u.goal.size ≤ 1000
            have : x.u.wt = x.u.name.size + (x.u.incs.length + wtS x.u.incs) + (x.u.axs.length + wtS x.u.axs) + x.u.goal.size := rfl
            omega
          have HQ := Lib.hid (HL2.out.done (y := ⟨⟨x.u.name, x.u.incs, x.u.axs, x.u.goal⟩, x.p, x.c, x.q, x.d⟩) hg5 hc5 HX.out ho hs hwy (by omega))
          clear hg5 hc5 ho hs hwy
          go_wp2
          go_ret
          obtain ⟨q1, q2, us, q3, q4, q5⟩ := HQ.out
          rw [hDk] at q3
          have q1' := q1.more (n := m + 400) (by omega) (by omega)
          clear q1
          (try rw [set4_alloc _ _ _ _ _ _ _ zb4.1 z24.1] at q1' q2 q3)
          dsimp only [set4W] at q1' q2 q3
          (try simp only [List.length_replicate, List.length_cons, List.length_nil, Nat.zero_add] at q1' q2 q3)
          refine ⟨.slice (some ⟨og, 0, none⟩) n1 oc, rfl, ⟨us, ?_, q4, q5⟩, ?_, ?_⟩
          · with_reducible exact q3
          · with_reducible exact q1'
          · with_reducible exact q2
end Go.Proofs.YtkgfanajgdelcaaGreatDoor
namespace Go.Proofs.YtkgfanajgdelcaaGreatDoor
open Go.RowKit
/-- The bytes that came in. -/
def CodeIn (w : World) (v : Value) : Prop := ∃ code : List UInt8, code.length ≤ 1000000 ∧ ListAt (fun b => b < w.heap.size) w 1 (fun x cs => cs = [.int .u8 (x.toNat : Int)]) v code
theorem cur_new {w w1 : World} {v : Value} (h : CodeIn w v) (hb : Below w.heap.size w w1) : Cur (w1.alloc (.cells #[v, .int .i64 0, .int .u64 0] 72)) w1.heap.size 0 := by
  obtain ⟨code, h1, h2⟩ := h
  have hz := hb.size
  refine ⟨v, 0, 0, heap_alloc_new _ _, Nat.le_refl _, by omega, by omega, by omega, code, h1, ?_⟩
  exact (h2.mono (w' := w1.alloc _) (fun b hb' hlt => (hao w1 _ b (by omega)).trans (hb.block b hlt)) (fun b hb' => by omega) (fun _ _ _ h => h))
end Go.Proofs.YtkgfanajgdelcaaGreatDoor
namespace Go.Proofs.YtkgfanajgdelcaaGreatDoor
open Go.RowKit
set_option maxRecDepth 100000 in
theorem specUnit_any {B : Nat → Prop} (u : Un) (v0 v1 v2 v3 : Value) (w : World) (h : UnAt B w u [v0, v1, v2, v3]) (hw : u.wt ≤ 1000000000000) :
    Calls Tryz.prog 24 #[.agg #[v0, v1, v2, v3]] w fun e w' => e = .returned (.bool u.good) ∧ Below w.heap.size w w' := by
  obtain ⟨p, c, q, d, rfl, rfl, rfl, rfl, -⟩ := h.form
  have H := Lib.hid h
  clear h
  go_enter Tryz.func24, Tryz.ntmps24
  go_wp2_with fail
  refine (l27Unit_any u _ _ _ _ _ (H.out.below (by exact bel)) hw).mono ?_
  rintro e w1 ⟨rfl, hb1⟩
  have ⟨cw1, fw1⟩ := bcell hb1
  have qw1 := hb1.size
  (try simp at qw1)
  (try have zw1w := bsz (show w.heap.size < w1.heap.size by omega))
  go_wp2
  go_ret
  exact ⟨rfl, by exact bel⟩
def Un.fmtG (u : Un) : List UInt8 := if u.good then u.txt else []
set_option maxRecDepth 100000 in
set_option maxHeartbeats 800000 in
theorem implFU_any {B : Nat → Prop} (u : Un) (v0 v1 v2 v3 : Value) (w : World) (h : UnAt B w u [v0, v1, v2, v3]) (hw : u.wt ≤ 1000000000000) :
    Calls Tryz.prog 22 #[.agg #[v0, v1, v2, v3]] w fun e w' => e = .returned (.tuple #[.string ⟨u.fmtG.toArray⟩, .bool u.good]) ∧ Below w.heap.size w w' := by
  obtain ⟨p, c, q, d, rfl, rfl, rfl, rfl, -⟩ := h.form
  have H := Lib.hid h
  clear h
  cases hg : u.good
  · have HG := Lib.hid hg
    go_enter Tryz.func22, Tryz.ntmps22
    go_wp2_with fail
    refine (implUnit_any u _ _ _ _ _ (H.out.below (by exact bel)) hw).mono ?_
    rintro e w1 ⟨rfl, hb1⟩
    have ⟨cw1, fw1⟩ := bcell hb1
    have qw1 := hb1.size
    (try simp at qw1)
    (try have zw1w := bsz (show w.heap.size < w1.heap.size by omega))
    rw [HG.out]
    go_wp2
    go_ret2
    exact ⟨by rw [Un.fmtG, HG.out]; rfl, by exact bel⟩
  · have HG := Lib.hid hg
    go_enter Tryz.func22, Tryz.ntmps22
    go_wp2_with fail
    refine (implUnit_any u _ _ _ _ _ (H.out.below (by exact bel)) hw).mono ?_
    rintro e w1 ⟨rfl, hb1⟩
    have ⟨cw1, fw1⟩ := bcell hb1
    have qw1 := hb1.size
    (try simp at qw1)
    (try have zw1w := bsz (show w.heap.size < w1.heap.size by omega))
    rw [HG.out]
    go_wp2_with fail
    refine (formatUnit_any u _ _ _ _ _ (H.out.below (by exact bel)) hw).mono ?_
    rintro e w2 ⟨rfl, hb2⟩
    have ⟨cw2, fw2⟩ := bcell hb2
    have qw2 := hb2.size
    (try simp at qw2)
    (try have zw2w := bsz (show w.heap.size < w2.heap.size by omega))
    (try have zw2w1 := bsz (show w1.heap.size < w2.heap.size by omega))
    go_wp2
    go_ret2
    exact ⟨by rw [Un.fmtG, HG.out]; rfl, by exact bel⟩
end Go.Proofs.YtkgfanajgdelcaaGreatDoor
namespace Go.Proofs.YtkgfanajgdelcaaGreatDoor
open Go.RowKit
theorem code_in_below {w w1 : World} {v : Value} (h : CodeIn w v) (hb : Below w.heap.size w w1) : CodeIn w1 v := by
  obtain ⟨code, h1, h2⟩ := h
  exact ⟨code, h1, h2.mono (fun b hb' hlt => hb.block b hlt) (fun b hb' => Nat.lt_of_lt_of_le hb' hb.size) (fun _ _ _ h => h)⟩
theorem l1Least_any (a b : Int) (w : World) : Calls Tryz.prog 64 #[.int .i64 a, .int .i64 b] w fun e w' => e = .returned (.int .i64 (if a < b then a else b)) ∧ w = w' := by
  by_cases hab : a < b
  · go_enter Tryz.func64, Tryz.ntmps64
    go_wp2
    go_ret
    exact ⟨rfl, rfl⟩
  · go_enter Tryz.func64, Tryz.ntmps64
    go_wp2
    go_ret
    exact ⟨rfl, rfl⟩
theorem strsAt_row {B : Nat → Prop} {w : World} {base g n c : Nat} {e : TypeId} {xs : List Value} {us : List ByteArray} (h : w.ownsRow base e 1 (.slice (some ⟨g, 0, none⟩) n c) n xs) (hn : n = us.length) (hm : n ≤ maxLen) (hB : B g) (hz : ∀ s ∈ us, s.size ≤ maxLen)
    (hR : ∀ (j : Nat) (t : ByteArray), us[j]? = some t → xs[j]? = some (Value.string t)) : StrsAt B w (.slice (some ⟨g, 0, none⟩) n c) us := by
  subst hn
  refine ⟨_, _, rfl, hm, fun i t ht => ⟨g, 0, rfl, hB, [Value.string t], rfl, fun j hj => ?_, rfl, hz t (List.mem_of_getElem? ht)⟩⟩
  have hi : i < us.length := (List.getElem?_eq_some_iff.1 ht).1
  obtain rfl : j = 0 := by omega
  rw [Nat.zero_add, Nat.mul_one, Nat.add_zero, h.cellAt i (by omega)]
  simpa using hR i t ht
/-- What the generators of units leave. -/
def DrawUn (w : World) (e : Ending) (w' : World) : Prop := ∃ (u : Un) (v0 v1 v2 v3 : Value), e = .returned (.agg #[v0, v1, v2, v3]) ∧ UnAt (NewB w w') w' u [v0, v1, v2, v3] ∧ u.wt ≤ 1000 ∧ Below w.heap.size w w'
theorem un_moved {w w2 w3 : World} {k n : Nat} {u : Un} {cs : List Value} (h : UnAt (fun b => n ≤ b ∧ b < w2.heap.size) w2 u cs) (hz : w3.heap.size = w2.heap.size) (ho : ∀ b, b ≠ k → w3.heap[b]? = w2.heap[b]?) (hk : k < n) (hw : w.heap.size ≤ n) : UnAt (NewB w w3) w3 u cs :=
  h.mono (fun b hb _ => ho b (by have := hb.1; omega)) (fun b hb => ⟨by have := hb.1; omega, by rw [hz]; exact hb.2⟩)
theorem UC.Own.at_ {e : TypeId} {base : Nat} {w : World} {x : UC} (h : x.Own e base w) (hw : x.u.wt ≤ 1000) : UnAt (fun b => base ≤ b ∧ b < w.heap.size) w x.u [.string x.u.name, .slice x.p x.u.incs.length x.c, .slice x.q x.u.axs.length x.d, .string x.u.goal] := by
  obtain ⟨z1, z2, z3, z4, -, -⟩ := wt_sizes hw
  have hm : ∀ k, k ≤ 1000 → k ≤ maxLen := fun k hk => by unfold maxLen; omega
  exact ((h.un (hm _ z1) (hm _ z2) (fun s hs => hm _ (z3 s hs)) (fun s hs => hm _ (z4 s hs))).at_).mono (SameOn.refl _ _) (fun b hb => h.blk hb)
set_option maxRecDepth 100000 in
set_option maxHeartbeats 3200000 in
theorem drawIVU_any (pp : Option Addr) (nn cc : Nat) (w : World) (h : CodeIn w (.slice pp nn cc)) : Calls Tryz.prog 58 #[.slice pp nn cc] w (DrawUn w) := by
  have H := Lib.hid (fun (w1 : World) (hb : Below w.heap.size w w1) => cur_new h hb)
  clear h
  have HR0 := Lib.hid (show (w.alloc (.cells #[.string ⟨#[]⟩, .slice none 0 0, .slice none 0 0, .string ⟨#[]⟩] 34)).heap[w.heap.size]? = some (.cells #[.string ⟨#[]⟩, .slice none 0 0, .slice none 0 0, .string ⟨#[]⟩] 34 (0, 0)) from heap_alloc_new w _)
  have HW := Lib.hid (show Cur ((w.alloc (.cells #[.string ⟨#[]⟩, .slice none 0 0, .slice none 0 0, .string ⟨#[]⟩] 34)).alloc (.cells #[.slice pp nn cc, .int .i64 0, .int .u64 0] 72)) (w.heap.size + 1) 0 by simpa using H.out (w.alloc (.cells #[.string ⟨#[]⟩, .slice none 0 0, .slice none 0 0, .string ⟨#[]⟩] 34)) (by exact bel))
  go_enter Tryz.func58, Tryz.ntmps58
  go_wp2_with fail
  refine (library_any (w.heap.size + 1) 0 _ HW.out (by omega)).mono ?_
  rintro e w1 ⟨_, rfl, ⟨us, hus, hl, hwt⟩, hc1, hg1⟩
  have HC1 := Lib.hid hc1
  clear hc1
  have ⟨c1, f1⟩ := gcell hg1
  have hz1 := hg1.size
  (try simp at hz1)
  rename_i v1
  obtain ⟨p, c, rfl, -⟩ := hus.form
  have HU := Lib.hid hus
  have hb01 : Below w.heap.size w w1 := (show Below w.heap.size w _ by exact bel).trans (gr_to_below (B := w.heap.size) hg1 (by omega) (by simp; omega))
  have HG1 := Lib.hid hg1
  have hr1 : w1.heap[w.heap.size]? = some (.cells #[.string ⟨#[]⟩, .slice none 0 0, .slice none 0 0, .string ⟨#[]⟩] 34 (0, 0)) := (hg1.block w.heap.size (by simp; omega) (fun e => by injection e with e; omega)).trans ((hao _ _ _ (by simp)).trans HR0.out)
  have HR1 := Lib.hid hr1
  have zr1 := bsz (blk_lt hr1)
  clear hus hr1 hg1 c1 f1
  by_cases h0 : us.length = 0
  · rw [h0]
    obtain ⟨W1, hW1⟩ : ∃ q : World, q = w1.alloc (.cells #[.string ⟨#[97]⟩, .string ⟨#[98]⟩] 9) := ⟨_, rfl⟩
    have HN := Lib.hid (show StrsAt (fun b => b = w1.heap.size) W1 (.slice (some ⟨w1.heap.size, 0, none⟩) 2 2) [⟨#[97]⟩, ⟨#[98]⟩] from
      strsAt_row (own_block (base := 0) (size := 1) (xs := [.string ⟨#[97]⟩, .string ⟨#[98]⟩]) (by rw [hW1]; exact heap_alloc_new w1 _) (Nat.zero_le _) (Nat.le_refl _) (by decide) rfl rfl) rfl (by decide) rfl (by decide) (by intro j t ht; rcases j with _ | _ | j <;> simp at ht ⊢; exact ht; exact ht))
    have HC := Lib.hid (show Cur W1 (w.heap.size + 1) (0 + 400) by rw [hW1]; exact HC1.out.al _)
    have hr1 : W1.heap[w.heap.size]? = some (.cells #[.string ⟨#[]⟩, .slice none 0 0, .slice none 0 0, .string ⟨#[]⟩] 34 (0, 0)) := by rw [hW1]; exact (hao _ _ _ zr1.1).trans HR1.out
    have hb11 : Below w1.heap.size w1 W1 := by rw [hW1]; exact (Below.refl _ _).alloc (Nat.le_refl _) _
    have hs1 : W1.heap.size = w1.heap.size + 1 := by rw [hW1]; simp
    have HRW := Lib.hid hr1
    clear hr1
    go_wp2_with fail
    rw [← hW1]
    clear hW1
    refine (unit_any (w.heap.size + 1) (0 + 400) ⟨#[98, 97, 115, 101]⟩ (.slice (some ⟨w1.heap.size, 0, none⟩) 2 2) [⟨#[97]⟩, ⟨#[98]⟩] _ HC.out (by omega) HN.out (fun b hb => by omega) (by decide) (by decide) (by decide)).mono ?_
    rintro e w2 ⟨_, rfl, ⟨u, p4, c4, p7, c7, rfl, hun, hown, hwt2⟩, hc2, hg2⟩
    have hq2 := hg2.size
    have hr2 : w2.heap[w.heap.size]? = some (.cells #[.string ⟨#[]⟩, .slice none 0 0, .slice none 0 0, .string ⟨#[]⟩] 34 (0, 0)) := (hg2.block w.heap.size (by omega) (fun e => by injection e with e; omega)).trans HRW.out
    obtain ⟨r0, r1, r2, r3, rf⟩ := row4_cells hr2
    have zr2 := bsz (blk_lt hr2)
    have hb02 : Below w.heap.size w w2 := (Below.step hb01 hb11).trans (gr_to_below (B := w.heap.size) hg2 (by omega) (by omega))
    have hnm : u.name.size ≤ 10 := by rw [hun]; decide
    have HOW := Lib.hid (hown.at_ (by show u.wt ≤ 1000; omega))
    obtain ⟨un, ui, ua, ug⟩ := u
    simp only at hun hnm
    subst hun
    clear hr2 hc2 hg2 hown
    go_wp2
    refine bodyPost_ret (v := .agg #[.string ⟨#[98, 97, 115, 101]⟩, .slice p4 ui.length c4, .slice p7 ua.length c7, .string ug]) (by simp only [results, Tryz.results58]; go_simp) rfl ⟨⟨_, ui, ua, ug⟩, _, _, _, _, rfl, ?_, Nat.le_trans hwt2 (by decide), ?_⟩
    · exact un_moved HOW.out (k := w.heap.size) (by simp) (fun b hb => set4_other w2 _ _ _ _ hb) (by omega) (by omega)
    · exact bel
  · have hz0 : ((us.length : Int) == 0) = false := by simp; intro e; exact h0 (by rw [e]; rfl)
    go_wp2_with fail
    refine (pick_any (w.heap.size + 1) (0 + 400) us.length _ HC1.out (by omega) (by omega) (by omega)).mono ?_
    rintro e w2 ⟨_, rfl, ⟨r1, rfl, hr1, hr2⟩, hc2, hg2⟩
    have HC2 := Lib.hid hc2
    clear hc2
    have ⟨c2, f2⟩ := gcell hg2
    have hz2 := hg2.size
    (try simp at hz2)
    clear c2 f2
    obtain ⟨r, rfl⟩ : ∃ r : Nat, r1 = (r : Int) := ⟨r1.toNat, by omega⟩
    have hrk : (r : Int) < us.length := by omega
    have hrl : r < us.length := by omega
    obtain ⟨b, o, rfl, hB, p1, c1, p2, c2, hx0, hx1, hx2, hx3, hx⟩ := (HU.out.mono (w' := w2) (sameOn_grown hg2 (fun b hb => by have := hb.1; simp at this; omega)) (fun _ h => h)).at_ hrl
    have hr2 : w2.heap[w.heap.size]? = some (.cells #[.string ⟨#[]⟩, .slice none 0 0, .slice none 0 0, .string ⟨#[]⟩] 34 (0, 0)) := (hg2.block w.heap.size zr1.1 (fun e => by injection e with e; omega)).trans HR1.out
    obtain ⟨r0, q1, q2, q3, rf⟩ := row4_cells hr2
    have zr2 := bsz (blk_lt hr2)
    have zb := bsz (World.block_lt_of_cell? _ _ hx0)
    have hb02 : Below w.heap.size w w2 := hb01.trans (gr_to_below (B := w.heap.size) hg2 (by omega) (by omega))
    have hwtr := hwt _ (List.getElem_mem hrl)
    obtain ⟨u, hu⟩ : ∃ u, us[r] = u := ⟨_, rfl⟩
    rw [hu] at hx0 hx1 hx2 hx3 hx hwtr
    have HX := Lib.hid hx
    have hbb : w.heap.size < b := by have := hB.1; simp at this; omega
    have HG2 := Lib.hid hg2
    have HBB := Lib.hid hbb
    have HWR := Lib.hid hwtr
    have HB := Lib.hid hB
    clear hx hu hr2 hg2 hbb hwtr hB hwt hl
    go_wp2
    refine bodyPost_ret (v := .agg #[.string u.name, .slice p1 u.incs.length c1, .slice p2 u.axs.length c2, .string u.goal]) (by simp only [results, Tryz.results58]; go_simp) rfl ⟨u, _, _, _, _, rfl, ?_, HWR.out, ?_⟩
    · exact un_moved (HX.out.mono (SameOn.refl _ _) (fun b hb => ⟨(show _ ≤ b from hb.1), by have := (show b < _ from hb.2); have := HG2.out.size; omega⟩)) (k := w.heap.size) (by simp) (fun b hb => set4_other w2 _ _ _ _ hb) (by simp; omega) (by simp; omega)
    · exact bel
set_option maxRecDepth 100000 in
set_option maxHeartbeats 3200000 in
theorem drawFU_any (pp : Option Addr) (nn cc : Nat) (w : World) (h : CodeIn w (.slice pp nn cc)) : Calls Tryz.prog 21 #[.slice pp nn cc] w (DrawUn w) := by
  obtain ⟨W, hW⟩ : ∃ W : World, W = w.alloc (.cells #[.string ⟨#[]⟩, .slice none 0 0, .slice none 0 0, .string ⟨#[]⟩] 34) := ⟨_, rfl⟩
  have hbW : Below w.heap.size w W := by rw [hW]; exact bel
  have hWs : W.heap.size = w.heap.size + 1 := by rw [hW]; simp
  have HR0 := Lib.hid (show W.heap[w.heap.size]? = some (.cells #[.string ⟨#[]⟩, .slice none 0 0, .slice none 0 0, .string ⟨#[]⟩] 34 (0, 0)) by rw [hW]; exact heap_alloc_new w _)
  have H := Lib.hid (code_in_below h hbW)
  clear h
  go_enter Tryz.func21, Tryz.ntmps21
  go_wp2_with fail
  rw [← hW]
  clear hW
  refine (drawIVU_any pp nn cc _ H.out).mono ?_
  rintro e w1 ⟨u, v0, v1, v2, v3, rfl, hu, hwt, hb1⟩
  obtain ⟨p, c, q, d, rfl, rfl, rfl, rfl, -⟩ := hu.form
  have HX := Lib.hid hu
  have hr1 : w1.heap[w.heap.size]? = some (.cells #[.string ⟨#[]⟩, .slice none 0 0, .slice none 0 0, .string ⟨#[]⟩] 34 (0, 0)) := (hb1.block _ (by omega)).trans HR0.out
  obtain ⟨r0, q1, q2, q3, rf⟩ := row4_cells hr1
  have zr1 := bsz (blk_lt hr1)
  have hb01 := Below.step hbW hb1
  have hqz := hb1.size
  clear hu hr1
  go_wp2
  refine bodyPost_ret (v := .agg #[.string u.name, .slice p u.incs.length c, .slice q u.axs.length d, .string u.goal]) (by simp only [results, Tryz.results21]; go_simp) rfl ⟨u, _, _, _, _, rfl, ?_, hwt, ?_⟩
  · exact un_moved HX.out (k := w.heap.size) (by simp) (fun b hb => set4_other w1 _ _ _ _ hb) (by omega) (by omega)
  · exact bel
end Go.Proofs.YtkgfanajgdelcaaGreatDoor
namespace Go.Proofs.YtkgfanajgdelcaaGreatDoor
open Go.RowKit
/-- The bytes that came in, with their capacity. -/
def CodeCap (w : World) (p : Option Addr) (n c : Nat) : Prop := CodeIn w (.slice p n c) ∧ n ≤ c
theorem CodeCap.tail {w : World} {p : Option Addr} {n c : Nat} (h : CodeCap w p n c) (h0 : 0 < n) : ∃ b o, p = some ⟨b, o, none⟩ ∧ CodeIn w (.slice (some ⟨b, o + 1, none⟩) (n - 1) (c - 1)) ∧ CodeIn w (.slice (some ⟨b, o, none⟩) 0 (c - 1)) := by
  obtain ⟨⟨code, h1, h2⟩, h3⟩ := h
  obtain ⟨q, d, he, hl, hat⟩ := h2
  simp only [Value.slice.injEq] at he
  obtain ⟨rfl, rfl, rfl⟩ := he
  obtain ⟨b, o, rfl, hB, -⟩ := hat 0 code[0] (List.getElem?_eq_getElem h0)
  refine ⟨b, o, rfl, ⟨code.drop 1, by rw [List.length_drop]; omega, _, _, by rw [List.length_drop], by rw [List.length_drop]; omega, fun i x hx => ?_⟩, ⟨[], by simp, ListAt.nil _ _ _ _ _ _⟩⟩
  rw [List.getElem?_drop] at hx
  obtain ⟨b', o', e, hB', cs, h5, h6, h7⟩ := hat (1 + i) x hx
  simp only [Option.some.injEq, Addr.mk.injEq, and_true] at e
  obtain ⟨rfl, rfl⟩ := e
  exact ⟨b, o + 1, rfl, hB', cs, h5, fun j hj => by have := h6 j hj; rw [show o + 1 + i * 1 + j = o + (1 + i) * 1 + j by omega]; exact this, h7⟩
theorem txt_len {u : Un} (h : u.wt ≤ 1000) : u.txt.length ≤ 30000 := by
  have h7 : (if u.goal.toList == [] then ([] : List UInt8) else lineU kwGoal u.goal).length ≤ 6 + u.goal.size := by
    split
    · simp
    · rw [lineU_len]; simp [kwGoal]; omega
  rw [Un.wt] at h
  rw [Un.txt, List.length_append, List.length_append, List.length_append, linesU_len, linesU_len, lineU_len]
  simp [kwUnit, kwInc, kwAx]
  simp at h7
  omega
set_option maxRecDepth 100000 in
set_option maxHeartbeats 3200000 in
theorem drawPU_any (p : Option Addr) (n c : Nat) (w : World) (h : CodeCap w p n c) (hn : n ≤ 65536) : Calls Tryz.prog 25 #[.slice p n c] w fun e w' => ∃ s : ByteArray, e = .returned (.string s) ∧ s.size ≤ 1000000 ∧ Below w.heap.size w w' := by
  have HT := Lib.hid (fun h0 => h.tail h0)
  have HC0 := Lib.hid (cur_new h.1 (Below.refl w.heap.size w))
  have hnc := h.2
  have hg0 : w.heap.size < (w.alloc (.cells #[.slice p n c, .int .i64 0, .int .u64 0] 72)).heap.size := by simp
  by_cases h0 : n = 0
  · have HI := Lib.hid h.1
    subst h0
    clear h
    go_enter Tryz.func25, Tryz.ntmps25
    go_wp2_with fail
    refine (l1Least_any _ _ _).mono ?_
    rintro e w' ⟨rfl, rfl⟩
    go_wp2_with fail
    refine (drawIVU_any _ _ _ _ (code_in_below HI.out (show Below w.heap.size w _ by exact bel))).mono ?_
    rintro e w1 ⟨u, v0, v1, v2, v3, rfl, hu, hwt, hb1⟩
    obtain ⟨p1, c1, q1, d1, rfl, rfl, rfl, rfl, -⟩ := hu.form
    have HU := Lib.hid hu
    have HC1 := Lib.hid (HC0.out.below hb1)
    have hb01 := Below.step ((Below.refl w.heap.size w).alloc (Nat.le_refl _) (.cells #[_, .int .i64 0, .int .u64 0] 72)) hb1
    have hqq := hb01.size
    clear hu
    go_wp2_with fail
    refine (l27Lines_any u _ _ _ _ _ HU.out (by omega)).mono ?_
    rintro e w2 ⟨rfl, hb2⟩
    have HC2 := Lib.hid (HC1.out.below hb2)
    have hb02 := Below.step hb01 hb2
    have hqq2 := hb02.size
    have hts : (⟨u.txt.toArray⟩ : ByteArray).size ≤ 30000 := by have := txt_len hwt; simpa [ByteArray.size] using this
    obtain ⟨t, ht⟩ : ∃ t, (⟨u.txt.toArray⟩ : ByteArray) = t := ⟨_, rfl⟩
    rw [ht] at hts
    rw [ht]
    clear ht
    go_wp2_with fail
    refine (one_any w.heap.size 0 4 _ HC2.out (by omega) (by omega) (by omega)).mono ?_
    rintro e w3 ⟨_, rfl, ⟨y, rfl⟩, hc3, hg3⟩
    have HC3 := Lib.hid hc3
    clear hc3
    have ⟨c3, f3⟩ := gcell hg3
    have hz3 := hg3.size
    (try simp at hz3)
    have hb03 := hb02.trans (gr_to_below (B := w.heap.size) hg3 (by omega) (by omega))
    clear hg3 c3 f3 hb1 hb2 hb01 hb02
    cases y
    · go_wp2
      go_ret
      exact ⟨t, rfl, by omega, by exact bel⟩
    · go_wp2_with fail
      refine (spoilt_any w.heap.size (0 + 2) t ⟨#[10, 117, 97, 32, 112]⟩ _ HC3.out (by omega) (by omega) (by decide) (by decide)).mono ?_
      rintro e w4 ⟨_, rfl, ⟨s, rfl, hs⟩, hc4, hg4⟩
      have HC4 := Lib.hid hc4
      clear hc4
      have ⟨c4, f4⟩ := gcell hg4
      have hz4 := hg4.size
      (try simp at hz4)
      have hq3 := hb03.size
      have hb04 := hb03.trans (gr_to_below (B := w.heap.size) hg4 (by omega) (by omega))
      clear hg4 c4 f4 hb03
      go_wp2
      go_ret
      exact ⟨s, rfl, by omega, by exact bel⟩
  · obtain ⟨b, o, rfl, hc1, hc2⟩ := h.tail (by omega)
    have HI1 := Lib.hid hc1
    have HI2 := Lib.hid hc2
    clear h hc1 hc2
    have hn1 : ¬ ((n : Int) < 1) := by omega
    have hn2 : (1 : Int) ≤ n := by omega
    have hn3 : (n : Int) ≤ c := by omega
    by_cases hc : c = 1
    · obtain rfl : n = 1 := by omega
      subst hc
      go_enter Tryz.func25, Tryz.ntmps25
      go_wp2_with fail
      refine (l1Least_any _ _ _).mono ?_
      rintro e w' ⟨rfl, rfl⟩
      go_wp2_with fail
      refine (drawIVU_any _ _ _ _ (code_in_below HI2.out (show Below w.heap.size w _ by exact bel))).mono ?_
      rintro e w1 ⟨u, v0, v1, v2, v3, rfl, hu, hwt, hb1⟩
      obtain ⟨p1, c1, q1, d1, rfl, rfl, rfl, rfl, -⟩ := hu.form
      have HU := Lib.hid hu
      have HC1 := Lib.hid (HC0.out.below hb1)
      have hb01 := Below.step ((Below.refl w.heap.size w).alloc (Nat.le_refl _) (.cells #[_, .int .i64 0, .int .u64 0] 72)) hb1
      have hqq := hb01.size
      clear hu
      go_wp2_with fail
      refine (l27Lines_any u _ _ _ _ _ HU.out (by omega)).mono ?_
      rintro e w2 ⟨rfl, hb2⟩
      have HC2 := Lib.hid (HC1.out.below hb2)
      have hb02 := Below.step hb01 hb2
      have hqq2 := hb02.size
      have hts : (⟨u.txt.toArray⟩ : ByteArray).size ≤ 30000 := by have := txt_len hwt; simpa [ByteArray.size] using this
      obtain ⟨t, ht⟩ : ∃ t, (⟨u.txt.toArray⟩ : ByteArray) = t := ⟨_, rfl⟩
      rw [ht] at hts
      rw [ht]
      clear ht
      go_wp2_with fail
      refine (one_any w.heap.size 0 4 _ HC2.out (by omega) (by omega) (by omega)).mono ?_
      rintro e w3 ⟨_, rfl, ⟨y, rfl⟩, hc3, hg3⟩
      have HC3 := Lib.hid hc3
      clear hc3
      have ⟨c3, f3⟩ := gcell hg3
      have hz3 := hg3.size
      (try simp at hz3)
      have hb03 := hb02.trans (gr_to_below (B := w.heap.size) hg3 (by omega) (by omega))
      clear hg3 c3 f3 hb1 hb2 hb01 hb02
      cases y
      · go_wp2
        go_ret
        exact ⟨t, rfl, by omega, by exact bel⟩
      · go_wp2_with fail
        refine (spoilt_any w.heap.size (0 + 2) t ⟨#[10, 117, 97, 32, 112]⟩ _ HC3.out (by omega) (by omega) (by decide) (by decide)).mono ?_
        rintro e w4 ⟨_, rfl, ⟨s, rfl, hs⟩, hc4, hg4⟩
        have HC4 := Lib.hid hc4
        clear hc4
        have ⟨c4, f4⟩ := gcell hg4
        have hz4 := hg4.size
        (try simp at hz4)
        have hq3 := hb03.size
        have hb04 := hb03.trans (gr_to_below (B := w.heap.size) hg4 (by omega) (by omega))
        clear hg4 c4 f4 hb03
        go_wp2
        go_ret
        exact ⟨s, rfl, by omega, by exact bel⟩
    · go_enter Tryz.func25, Tryz.ntmps25
      go_wp2_with fail
      refine (l1Least_any _ _ _).mono ?_
      rintro e w' ⟨rfl, rfl⟩
      (try rw [if_neg hn1])
      go_wp2_with fail
      refine (drawIVU_any _ _ _ _ (code_in_below HI1.out (show Below w.heap.size w _ by exact bel))).mono ?_
      rintro e w1 ⟨u, v0, v1, v2, v3, rfl, hu, hwt, hb1⟩
      obtain ⟨p1, c1, q1, d1, rfl, rfl, rfl, rfl, -⟩ := hu.form
      have HU := Lib.hid hu
      have HC1 := Lib.hid (HC0.out.below hb1)
      have hb01 := Below.step ((Below.refl w.heap.size w).alloc (Nat.le_refl _) (.cells #[_, .int .i64 0, .int .u64 0] 72)) hb1
      have hqq := hb01.size
      clear hu
      go_wp2_with fail
      refine (l27Lines_any u _ _ _ _ _ HU.out (by omega)).mono ?_
      rintro e w2 ⟨rfl, hb2⟩
      have HC2 := Lib.hid (HC1.out.below hb2)
      have hb02 := Below.step hb01 hb2
      have hqq2 := hb02.size
      have hts : (⟨u.txt.toArray⟩ : ByteArray).size ≤ 30000 := by have := txt_len hwt; simpa [ByteArray.size] using this
      obtain ⟨t, ht⟩ : ∃ t, (⟨u.txt.toArray⟩ : ByteArray) = t := ⟨_, rfl⟩
      rw [ht] at hts
      rw [ht]
      clear ht
      go_wp2_with fail
      refine (one_any w.heap.size 0 4 _ HC2.out (by omega) (by omega) (by omega)).mono ?_
      rintro e w3 ⟨_, rfl, ⟨y, rfl⟩, hc3, hg3⟩
      have HC3 := Lib.hid hc3
      clear hc3
      have ⟨c3, f3⟩ := gcell hg3
      have hz3 := hg3.size
      (try simp at hz3)
      have hb03 := hb02.trans (gr_to_below (B := w.heap.size) hg3 (by omega) (by omega))
      clear hg3 c3 f3 hb1 hb2 hb01 hb02
      cases y
      · go_wp2
        go_ret
        exact ⟨t, rfl, by omega, by exact bel⟩
      · go_wp2_with fail
        refine (spoilt_any w.heap.size (0 + 2) t ⟨#[10, 117, 97, 32, 112]⟩ _ HC3.out (by omega) (by omega) (by decide) (by decide)).mono ?_
        rintro e w4 ⟨_, rfl, ⟨s, rfl, hs⟩, hc4, hg4⟩
        have HC4 := Lib.hid hc4
        clear hc4
        have ⟨c4, f4⟩ := gcell hg4
        have hz4 := hg4.size
        (try simp at hz4)
        have hq3 := hb03.size
        have hb04 := hb03.trans (gr_to_below (B := w.heap.size) hg4 (by omega) (by omega))
        clear hg4 c4 f4 hb03
        go_wp2
        go_ret
        exact ⟨s, rfl, by omega, by exact bel⟩
end Go.Proofs.YtkgfanajgdelcaaGreatDoor
namespace Go.Proofs.YtkgfanajgdelcaaGreatDoor
open Go.RowKit
/-- A library and a name. -/
def DrawNm (w : World) (e : Ending) (w' : World) : Prop := ∃ (v : Value) (us : List Un) (s : ByteArray), e = .returned (.tuple #[v, .string s]) ∧ UnsAt (NewB w w') w' v us ∧ us.length ≤ 5 ∧ (∀ u ∈ us, u.wt ≤ 1000) ∧ s.size ≤ 1000 ∧ Below w.heap.size w w'
/-- The stages of 'return list, list[c.pick(len(list))].Name'. -/
def DvaSt (g m b o n : Nat) (nm : Nat → ByteArray) (W : World) : Nat → (Nat → Value) → World → Prop
  | 0, _, w => w = W.drew
  | j + 1, u, w => Cur w g m ∧ W.drew.grownBy w (some g) ∧ ∃ r : Nat, r < n ∧ u 5 = .int .i64 r ∧ (1 ≤ j → u 6 = .pointer (some ⟨b, o + r * 4, none⟩)) ∧ (2 ≤ j → u 7 = .pointer (some ⟨b, o + r * 4, none⟩)) ∧ (3 ≤ j → u 8 = .string (nm r)) ∧ (4 ≤ j → u 10 = .string (nm r))
set_option maxRecDepth 100000 in
set_option maxHeartbeats 6400000 in
theorem drawVA_any (p : Option Addr) (n c : Nat) (w : World) (h : CodeIn w (.slice p n c)) : Calls Tryz.prog 69 #[.slice p n c] w (DrawNm w) := by
  have HC0 := Lib.hid (cur_new h (Below.refl w.heap.size w))
  clear h
  go_enter Tryz.func69, Tryz.ntmps69
  go_wp2_with fail
  refine (library_any w.heap.size 0 _ HC0.out (by omega)).mono ?_
  rintro e w1 ⟨_, rfl, ⟨us, hus, hl, hwt⟩, hc1, hg1⟩
  have HC1 := Lib.hid hc1
  clear hc1
  have ⟨c1, f1⟩ := gcell hg1
  have hz1 := hg1.size
  (try simp at hz1)
  rename_i v1
  have hb01 : Below w.heap.size w w1 := (show Below w.heap.size w _ by exact bel).trans (gr_to_below (B := w.heap.size) hg1 (by omega) (by simp))
  obtain ⟨q, d, rfl, -⟩ := hus.form
  have HU := Lib.hid (hus.mono (B' := fun b => w.heap.size < b ∧ b < w1.heap.size) (SameOn.refl _ _) (fun b hb => ⟨by have := hb.1; simp at this; omega, hb.2⟩))
  have HWT := Lib.hid hwt
  clear hus hg1 c1 f1 hwt
  by_cases h0 : us.length = 0
  · rw [h0]
    go_wp2_with fail
    refine (of_lit w.heap.size (0 + 400) 10 3 w1.heap.size _ _ _ (by rfl) (by rfl) HC1.out (by omega) (by decide) (by decide) (by intro v hv; simp at hv; rcases hv with rfl | rfl | rfl <;> exact ⟨_, rfl, by decide⟩)).mono ?_
    rintro e w2 ⟨_, rfl, ⟨s, rfl, hs⟩, hc2, hg2⟩
    have HC2 := Lib.hid hc2
    clear hc2
    have ⟨c2, f2⟩ := gcell hg2
    have hz2 := hg2.size
    (try simp at hz2)
    have hb02 := (show Below w.heap.size w (w1.alloc _) from Below.al hb01 _).trans (gr_to_below (B := w.heap.size) hg2 (by omega) (by simp; omega))
    clear hg2 c2 f2 hb01
    go_wp2
    go_ret2
    exact ⟨_, [], s, rfl, ListAt.nil _ _ _ _ _ _, by simp, (fun _ h => by cases h), by omega, by exact bel⟩
  · have hz0 : ((us.length : Int) == 0) = false := by simp; intro e; exact h0 (by rw [e]; rfl)
    go_wp2_with fail
    refine (one_any w.heap.size (0 + 400) 12 _ HC1.out (by omega) (by omega) (by omega)).mono ?_
    rintro e w2 ⟨_, rfl, ⟨y, rfl⟩, hc2, hg2⟩
    have HC2 := Lib.hid hc2
    clear hc2
    have ⟨c2, f2⟩ := gcell hg2
    have hz2 := hg2.size
    (try simp at hz2)
    have hb02 := hb01.trans (gr_to_below (B := w.heap.size) hg2 (by omega) (by omega))
    have HU2 := Lib.hid (HU.out.mono (w' := w2) (sameOn_grown hg2 (fun b hb => by have := hb.1; omega)) (fun _ h => h))
    have hq2 := hg2.size
    clear hg2 c2 f2 hb01
    cases y
    · have HU2' := Lib.hid (fun (r : Nat) (h : r < us.length) => HU2.out.at_ h)
      obtain ⟨b, o, rfl, hB, -⟩ := HU2.out.at_ (i := 0) (by omega)
      obtain ⟨nm, hnm⟩ : ∃ nm : Nat → ByteArray, nm = fun r => (us.getD r u0).name := ⟨_, rfl⟩
      have HNM := Lib.hid (fun (r : Nat) (h : r < us.length) => (by rw [hnm]; simp only [List.getD_eq_getElem?_getD, List.getElem?_eq_getElem h, Option.getD_some] : nm r = us[r].name))
      clear hnm
      have HAT := Lib.hid (fun (r : Nat) (h : r < us.length) => (by
        obtain ⟨b', o', e, -, p1, c1, p2, c2, h1, -⟩ := HU2.out.at_ h
        simp only [Option.some.injEq, Addr.mk.injEq, and_true] at e
        obtain ⟨rfl, rfl⟩ := e
        rw [HNM.out r h]
        exact h1 : w2.cell? ⟨b, o + r * 4, none⟩ = some (.string (nm r))))
      have hbg : w.heap.size < b := hB.1
      have hb1 : b < w1.heap.size := hB.2
      clear hB HU2'
      go_wp2
      refine wp_region_stages [some (.slice (some ⟨b, o, none⟩) us.length d), some (.slice (some ⟨b, o, none⟩) us.length d), some (.pointer (some ⟨w.heap.size, 0, none⟩)), some (.slice (some ⟨b, o, none⟩) us.length d), some (.int .i64 us.length), none, none, none, none, some (.slice (some ⟨b, o, none⟩) us.length d), none] [5, 6, 7, 8, 10] (DvaSt w.heap.size (0 + 400 + 2 + 2) b o us.length nm w2) (by kernel_rfl) (by kernel_rfl) (by first | kernel_rfl | rfl) (by rfl) rfl ?_
      iterate 5 (refine chain_st rfl rfl (by decide) rfl (by intro j u w' hS; go_simp; first | done | exact ⟨hS, rfl⟩ | exact hS | rfl) ?_; go_simp)
      refine chain_first rfl rfl rfl (by decide) rfl ?_ ?_
      · intro w' hS
        obtain rfl : w' = w2.drew := hS
        go_simp
        refine (pick_any w.heap.size (0 + 400 + 2) us.length _ (HC2.out.below ((Below.refl _ _).drew)) (by omega) (by omega) (by omega)).mono ?_
        rintro e w'' ⟨_, rfl, ⟨r1, rfl, hr1, hr2⟩, hc, hg⟩
        exact ⟨_, rfl, hc, hg, r1.toNat, by omega, by rw [upd_same]; exact congrArg _ (by omega), fun h => absurd h (by decide), fun h => absurd h (by decide), fun h => absurd h (by decide), fun h => absurd h (by decide)⟩
      intro x5
      go_simp
      refine chain_next 0 rfl rfl rfl rfl (by decide) rfl (by first | kernel_rfl | rfl) ?_ ?_
      · rintro w' ⟨hc, hg, r, hr, h5, -⟩
        rw [upd_same] at h5
        subst h5
        have hri : (r : Int) < us.length := by omega
        go_simp
        exact ⟨hc, hg, r, hr, by simp [upd], fun _ => by simp [upd], fun h => absurd h (by decide), fun h => absurd h (by decide), fun h => absurd h (by decide)⟩
      intro x6
      go_simp
      refine chain_next 1 rfl rfl rfl rfl (by decide) rfl (by first | kernel_rfl | rfl) ?_ ?_
      · rintro w' ⟨hc, hg, r, hr, h5, h6, -⟩
        have h6 := h6 (by decide)
        rw [upd_same] at h6
        subst h6
        go_simp
        exact ⟨hc, hg, r, hr, by simpa [upd] using h5, fun _ => by simp [upd], fun _ => by simp [upd], fun h => absurd h (by decide), fun h => absurd h (by decide)⟩
      intro x7
      go_simp
      refine chain_next 2 rfl rfl rfl rfl (by decide) rfl (by first | kernel_rfl | rfl) ?_ ?_
      · rintro w' ⟨hc, hg, r, hr, h5, h6, h7, -⟩
        have h7 := h7 (by decide)
        rw [upd_same] at h7
        subst h7
        have hce := ((gcell hg).1 b (o + r * 4) (by simpa using (by omega : b < w2.heap.size)) (by omega)).trans (HAT.out r hr)
        go_simp
        exact ⟨hc, hg, r, hr, by simpa [upd] using h5, fun _ => by simpa [upd] using h6 (by decide), fun _ => by simp [upd], fun _ => by simp [upd], fun h => absurd h (by decide)⟩
      intro x8
      go_simp
      refine chain_st rfl rfl (by decide) rfl (by intro j u w' hS; go_simp; first | done | exact ⟨hS, rfl⟩ | exact hS | rfl) ?_
      go_simp
      refine chain_next 3 rfl rfl rfl rfl (by decide) rfl (by first | kernel_rfl | rfl) ?_ ?_
      · rintro w' ⟨hc, hg, r, hr, h5, h6, h7, h8, -⟩
        have h8 := h8 (by decide)
        rw [upd_same] at h8
        subst h8
        go_simp
        exact ⟨hc, hg, r, hr, by simpa [upd] using h5, fun _ => by simpa [upd] using h6 (by decide), fun _ => by simpa [upd] using h7 (by decide), fun _ => by simp [upd], fun _ => by simp [upd]⟩
      intro x10
      refine flowU_nil ?_
      intro w3 hS
      obtain ⟨hc, hg, r, hr, h5, h6, h7, h8, h10⟩ := hS
      have h10 := h10 (by decide)
      simp [upd] at h10
      subst h10
      have hb03 := (show Below w.heap.size w w2.drew from Below.dr hb02).trans (gr_to_below (B := w.heap.size) hg (by omega) (by simp; omega))
      have HU3 := Lib.hid (HU2.out.mono (w' := w3) (fun b' hb' hlt => hg.block b' (by simpa using hlt) (fun e => by injection e with e; have := hb'.1; omega)) (fun _ h => h))
      have hq3 := hg.size
      have hwn : (nm r).size ≤ 1000 := by rw [HNM.out r hr]; exact (wt_sizes (HWT.out _ (List.getElem_mem hr))).1
      clear hg h5 h6 h7 h8 hb02
      simp only [World.size_drew] at hq3
      go_wp2
      go_ret2
      exact ⟨_, us, _, rfl, HU3.out.mono (SameOn.refl _ _) (fun b' hb' => ⟨by have := hb'.1; omega, by have := hb'.2; omega⟩), hl, HWT.out, hwn, by exact bel⟩
    · go_wp2_with fail
      refine (of_lit w.heap.size (0 + 400 + 2) 10 3 w2.heap.size _ _ _ (by rfl) (by rfl) HC2.out (by omega) (by decide) (by decide) (by intro v hv; simp at hv; rcases hv with rfl | rfl | rfl <;> exact ⟨_, rfl, by decide⟩)).mono ?_
      rintro e w3 ⟨_, rfl, ⟨s, rfl, hs⟩, hc3, hg3⟩
      have HC3 := Lib.hid hc3
      clear hc3
      have ⟨c3, f3⟩ := gcell hg3
      have hz3 := hg3.size
      (try simp at hz3)
      have hb03 := (show Below w.heap.size w (w2.alloc _) from Below.al hb02 _).trans (gr_to_below (B := w.heap.size) hg3 (by omega) (by simp; omega))
      have HU3 := Lib.hid (HU2.out.mono (w' := w3) (fun b' hb' hlt => (hg3.block b' (by simp; omega) (fun e => by injection e with e; have := hb'.1; omega)).trans (hao _ _ _ hlt)) (fun _ h => h))
      have hq3 := hg3.size
      simp only [World.size_alloc] at hq3
      clear hg3 c3 f3 hb02
      go_wp2
      go_ret2
      exact ⟨_, us, s, rfl, HU3.out.mono (SameOn.refl _ _) (fun b' hb' => ⟨by have := hb'.1; omega, by have := hb'.2; omega⟩), hl, HWT.out, by omega, by exact bel⟩
/-- A library, a name of it and another. -/
def DrawNm2 (w : World) (e : Ending) (w' : World) : Prop := ∃ (v : Value) (us : List Un) (s t : ByteArray), e = .returned (.tuple #[v, .string s, .string t]) ∧ UnsAt (NewB w w') w' v us ∧ us.length ≤ 5 ∧ (∀ u ∈ us, u.wt ≤ 1000) ∧ s.size ≤ 1000 ∧ t.size ≤ 1000 ∧ Below w.heap.size w w'
set_option maxRecDepth 100000 in
set_option maxHeartbeats 3200000 in
theorem drawRU_any (p : Option Addr) (n c : Nat) (w : World) (h : CodeCap w p n c) (hn : n ≤ 65536) : Calls Tryz.prog 27 #[.slice p n c] w (DrawNm2 w) := by
  have HC0 := Lib.hid (cur_new h.1 (Below.refl w.heap.size w))
  have hnc := h.2
  have hg0 : w.heap.size < (w.alloc (.cells #[.slice p n c, .int .i64 0, .int .u64 0] 72)).heap.size := by simp
  by_cases h0 : n = 0
  · have HI := Lib.hid h.1
    subst h0
    clear h
    go_enter Tryz.func27, Tryz.ntmps27
    go_wp2_with fail
    refine (l1Least_any _ _ _).mono ?_
    rintro e w' ⟨rfl, rfl⟩
    go_wp2_with fail
    refine (drawVA_any _ _ _ _ (code_in_below HI.out (show Below w.heap.size w _ by exact bel))).mono ?_
    rintro e w1 ⟨v, us, s, rfl, hus, hl, hwt, hs, hb1⟩
    obtain ⟨q1, d1, rfl, -⟩ := hus.form
    have HU := Lib.hid (hus.mono (B' := fun b => w.heap.size < b ∧ b < w1.heap.size) (SameOn.refl _ _) (fun b hb => ⟨by have := hb.1; simp at this; omega, hb.2⟩))
    have HC1 := Lib.hid (HC0.out.below hb1)
    have HWT := Lib.hid hwt
    have hb01 := Below.step ((Below.refl w.heap.size w).alloc (Nat.le_refl _) (.cells #[_, .int .i64 0, .int .u64 0] 72)) hb1
    have hqq := hb01.size
    clear hus hwt
    go_wp2_with fail
    refine (of_lit w.heap.size 0 10 6 w1.heap.size _ _ _ (by rfl) (by rfl) HC1.out (by omega) (by decide) (by decide) (by intro v hv; simp at hv; rcases hv with rfl | rfl | rfl | rfl | rfl | rfl <;> exact ⟨_, rfl, by decide⟩)).mono ?_
    rintro e w2 ⟨_, rfl, ⟨t, rfl, ht⟩, hc2, hg2⟩
    have HC2 := Lib.hid hc2
    clear hc2
    have ⟨c2, f2⟩ := gcell hg2
    have hz2 := hg2.size
    (try simp at hz2)
    have hb02 := (show Below w.heap.size w (w1.alloc _) from Below.al hb01 _).trans (gr_to_below (B := w.heap.size) hg2 (by omega) (by simp; omega))
    have HU2 := Lib.hid (HU.out.mono (w' := w2) (fun b' hb' hlt => (hg2.block b' (by simp; omega) (fun e => by injection e with e; have := hb'.1; omega)).trans (hao _ _ _ hlt)) (fun _ h => h))
    have hq2 := hg2.size
    simp only [World.size_alloc] at hq2
    clear hg2 c2 f2 hb1 hb01
    go_wp2
    refine bodyPost_ret (v := .tuple #[.slice q1 us.length d1, .string s, .string t]) (by simp only [results, Tryz.results27]; go_simp) rfl ⟨_, us, s, t, rfl, HU2.out.mono (SameOn.refl _ _) (fun b' hb' => ⟨by have := hb'.1; omega, by have := hb'.2; omega⟩), hl, HWT.out, hs, by omega, by exact bel⟩
  · obtain ⟨b, o, rfl, hc1, hc2⟩ := h.tail (by omega)
    have HI1 := Lib.hid hc1
    have HI2 := Lib.hid hc2
    clear h hc1 hc2
    have hn1 : ¬ ((n : Int) < 1) := by omega
    have hn2 : (1 : Int) ≤ n := by omega
    have hn3 : (n : Int) ≤ c := by omega
    by_cases hc : c = 1
    · obtain rfl : n = 1 := by omega
      subst hc
      go_enter Tryz.func27, Tryz.ntmps27
      go_wp2_with fail
      refine (l1Least_any _ _ _).mono ?_
      rintro e w' ⟨rfl, rfl⟩
      go_wp2_with fail
      refine (drawVA_any _ _ _ _ (code_in_below HI2.out (show Below w.heap.size w _ by exact bel))).mono ?_
      rintro e w1 ⟨v, us, s, rfl, hus, hl, hwt, hs, hb1⟩
      obtain ⟨q1, d1, rfl, -⟩ := hus.form
      have HU := Lib.hid (hus.mono (B' := fun b => w.heap.size < b ∧ b < w1.heap.size) (SameOn.refl _ _) (fun b hb => ⟨by have := hb.1; simp at this; omega, hb.2⟩))
      have HC1 := Lib.hid (HC0.out.below hb1)
      have HWT := Lib.hid hwt
      have hb01 := Below.step ((Below.refl w.heap.size w).alloc (Nat.le_refl _) (.cells #[_, .int .i64 0, .int .u64 0] 72)) hb1
      have hqq := hb01.size
      clear hus hwt
      go_wp2_with fail
      refine (of_lit w.heap.size 0 10 6 w1.heap.size _ _ _ (by rfl) (by rfl) HC1.out (by omega) (by decide) (by decide) (by intro v hv; simp at hv; rcases hv with rfl | rfl | rfl | rfl | rfl | rfl <;> exact ⟨_, rfl, by decide⟩)).mono ?_
      rintro e w2 ⟨_, rfl, ⟨t, rfl, ht⟩, hc2, hg2⟩
      have HC2 := Lib.hid hc2
      clear hc2
      have ⟨c2, f2⟩ := gcell hg2
      have hz2 := hg2.size
      (try simp at hz2)
      have hb02 := (show Below w.heap.size w (w1.alloc _) from Below.al hb01 _).trans (gr_to_below (B := w.heap.size) hg2 (by omega) (by simp; omega))
      have HU2 := Lib.hid (HU.out.mono (w' := w2) (fun b' hb' hlt => (hg2.block b' (by simp; omega) (fun e => by injection e with e; have := hb'.1; omega)).trans (hao _ _ _ hlt)) (fun _ h => h))
      have hq2 := hg2.size
      simp only [World.size_alloc] at hq2
      clear hg2 c2 f2 hb1 hb01
      go_wp2
      refine bodyPost_ret (v := .tuple #[.slice q1 us.length d1, .string s, .string t]) (by simp only [results, Tryz.results27]; go_simp) rfl ⟨_, us, s, t, rfl, HU2.out.mono (SameOn.refl _ _) (fun b' hb' => ⟨by have := hb'.1; omega, by have := hb'.2; omega⟩), hl, HWT.out, hs, by omega, by exact bel⟩
    · go_enter Tryz.func27, Tryz.ntmps27
      go_wp2_with fail
      refine (l1Least_any _ _ _).mono ?_
      rintro e w' ⟨rfl, rfl⟩
      (try rw [if_neg hn1])
      go_wp2_with fail
      refine (drawVA_any _ _ _ _ (code_in_below HI1.out (show Below w.heap.size w _ by exact bel))).mono ?_
      rintro e w1 ⟨v, us, s, rfl, hus, hl, hwt, hs, hb1⟩
      obtain ⟨q1, d1, rfl, -⟩ := hus.form
      have HU := Lib.hid (hus.mono (B' := fun b => w.heap.size < b ∧ b < w1.heap.size) (SameOn.refl _ _) (fun b hb => ⟨by have := hb.1; simp at this; omega, hb.2⟩))
      have HC1 := Lib.hid (HC0.out.below hb1)
      have HWT := Lib.hid hwt
      have hb01 := Below.step ((Below.refl w.heap.size w).alloc (Nat.le_refl _) (.cells #[_, .int .i64 0, .int .u64 0] 72)) hb1
      have hqq := hb01.size
      clear hus hwt
      go_wp2_with fail
      refine (of_lit w.heap.size 0 10 6 w1.heap.size _ _ _ (by rfl) (by rfl) HC1.out (by omega) (by decide) (by decide) (by intro v hv; simp at hv; rcases hv with rfl | rfl | rfl | rfl | rfl | rfl <;> exact ⟨_, rfl, by decide⟩)).mono ?_
      rintro e w2 ⟨_, rfl, ⟨t, rfl, ht⟩, hc2, hg2⟩
      have HC2 := Lib.hid hc2
      clear hc2
      have ⟨c2, f2⟩ := gcell hg2
      have hz2 := hg2.size
      (try simp at hz2)
      have hb02 := (show Below w.heap.size w (w1.alloc _) from Below.al hb01 _).trans (gr_to_below (B := w.heap.size) hg2 (by omega) (by simp; omega))
      have HU2 := Lib.hid (HU.out.mono (w' := w2) (fun b' hb' hlt => (hg2.block b' (by simp; omega) (fun e => by injection e with e; have := hb'.1; omega)).trans (hao _ _ _ hlt)) (fun _ h => h))
      have hq2 := hg2.size
      simp only [World.size_alloc] at hq2
      clear hg2 c2 f2 hb1 hb01
      go_wp2
      refine bodyPost_ret (v := .tuple #[.slice q1 us.length d1, .string s, .string t]) (by simp only [results, Tryz.results27]; go_simp) rfl ⟨_, us, s, t, rfl, HU2.out.mono (SameOn.refl _ _) (fun b' hb' => ⟨by have := hb'.1; omega, by have := hb'.2; omega⟩), hl, HWT.out, hs, by omega, by exact bel⟩
end Go.Proofs.YtkgfanajgdelcaaGreatDoor
