import Derived.Test.YtkgfanajgdelcaaGreatDoorUnPart30
import Derived.Test.YtkgfanajgdelcaaGreatDoorUnPart36
namespace Go.Proofs.YtkgfanajgdelcaaGreatDoor
set_option maxRecDepth 100000
open Go.RowKit
theorem cloneS_any {B : Nat → Prop} (us : List ByteArray) (v : Value) (w : World) (h : StrsAt B w v us) (hl : us.length ≤ 2000000) : Calls Tryz.prog 72 #[v] w fun e w' => ∃ v', e = .returned v' ∧ w'.ownsRow w.heap.size 9 1 v' us.length (strW us) ∧ Below w.heap.size w w' := by
  obtain ⟨p, c, rfl, -⟩ := h.form
  cases us with
  | nil =>
    cases p with
    | none => exact (Tryz.slices_Clone_string_nil _ _ _).mono fun e w' ⟨he, hw⟩ => ⟨_, he, ⟨rfl, .inl ⟨rfl, rfl⟩⟩, hw ▸ Below.refl _ _⟩
    | some a => exact (Tryz.slices_Clone_string_zero a c w).mono fun e w' ⟨v', he, ho, _, hb⟩ => ⟨v', he, ho, hb⟩
  | cons a us =>
    obtain ⟨b, o, rfl, -⟩ := h.at_ (i := 0) (by simp)
    refine (Tryz.slices_Clone_string b o (a :: us).length c (a :: us) w (Nat.le_refl _) (by omega) (fun j hj => ?_)).mono fun e w' ⟨v', he, ho, _, hb⟩ => ⟨v', he, ?_, hb⟩
    · obtain ⟨b', o', hp, -, hc, -⟩ := h.at_ hj
      simp only [Option.some.injEq, Addr.mk.injEq, and_true] at hp
      obtain ⟨rfl, rfl⟩ := hp
      rw [hc, List.getD_eq_getElem?_getD, List.getElem?_eq_getElem hj]; rfl
    · rw [List.take_length] at ho; exact ho
theorem renI_snoc (old name : ByteArray) {l : List ByteArray} {j : Nat} (h : j < l.length) : renI old name (l.take (j + 1)) = renI old name (l.take j) ++ [renS old name l[j]] := by
  rw [List.take_succ_eq_append_getElem h, renI, renI, List.map_append]; rfl
theorem renI_len (old name : ByteArray) (l : List ByteArray) : (renI old name l).length = l.length := by rw [renI, List.length_map]
def RuIRel (l : List Un) (old name : ByteArray) (w : World) (out i : Value) (wr : World) : Prop :=
  ∃ (k : Nat) (D : List UC), k ≤ l.length ∧ i = .int .i64 k ∧ D.map UC.u = (l.take k).map (renUn old name) ∧ wr.ownsRow w.heap.size 34 4 out k (flatU D) ∧ Uns 9 w.heap.size wr out D ∧ Below w.heap.size w wr
structure RuMid (a : Un) (old name : ByteArray) (base : Nat) (w3 : World) (bk : Nat) (nm : ByteArray) (p4 p7 : Option Addr) (c4 c7 j : Nat) (wr : World) : Prop where
  box : wr.heap[bk]? = some (.cells #[.string nm, .slice p4 a.incs.length c4, .slice p7 a.axs.length c7, .string a.goal] 34 (0, 0))
  row : wr.ownsRow base 9 1 (.slice p4 a.incs.length c4) a.incs.length (strW (renI old name (a.incs.take j) ++ a.incs.drop j))
  kept : Kept (fun b => b = bk ∨ (Value.slice p4 a.incs.length c4).ownBlock = some b) w3 wr
set_option maxHeartbeats 12800000 in
theorem implRU_any {B : Nat → Prop} (l : List Un) (va : Value) (old name : ByteArray) (w : World) (h : UnsAt B w va l) (hw : l.length + wtU l ≤ 1048576) (hname : name.size ≤ 1048576) :
    Calls Tryz.prog 28 #[va, .string old, .string name] w fun e w' => ∃ v, e = .returned (.tuple #[v, .bool (renOk l old name)]) ∧ UnsOwn 9 34 (NewB w w') w' (renV l old name) v ∧ Below w.heap.size w w' := by
  obtain ⟨p, c, rfl, hlen⟩ := h.form
  unfold maxLen at hlen
  have H := Lib.hid h
  have HO := Lib.hid (show renOk l old name = (unitOf l old && (placeU l name).isNone && symB name.data.toList) from rfl)
  have HV := Lib.hid (show renV l old name = if renOk l old name then renL old name l else [] from rfl)
  clear h
  go_enter Tryz.func28, Tryz.ntmps28
  go_wp2_with fail
  refine (isUnitOf_any l _ old _ (H.out.below (by exact bel)) hw).mono ?_
  rintro e w1 ⟨rfl, hb1⟩
  have ⟨cw1, fw1⟩ := bcell hb1
  have qw1 := hb1.size
  (try simp at qw1)
  (try have zw1w := bsz (show w.heap.size < w1.heap.size by omega))
  cases hu : unitOf l old
  · have HF := Lib.hid (show renOk l old name = false by rw [HO.out, hu]; rfl)
    clear hu
    go_wp2
    go_ret2
    exact ⟨.slice none 0 0, by rw [HF.out]; rfl, by rw [HV.out, HF.out, if_neg (by simp)]; exact OwnRow.nil _ _ _ _ _, by exact bel⟩
  have HU := Lib.hid hu
  clear hu
  go_wp2_with fail
  refine (unitAt_any l _ name _ (H.out.below (by exact bel))).mono ?_
  rintro e w2 ⟨r, rfl, hr, hb2⟩
  have hq2 := hb2.size
  cases hpl : placeU l name with
  | some i =>
    rw [hpl] at hr
    obtain rfl : r = (i : Int) := hr
    have HF := Lib.hid (show renOk l old name = false by rw [HO.out, hpl]; simp)
    have hi0 : (0 : Int) ≤ i := by omega
    clear hpl
    go_wp2
    go_ret2
    exact ⟨.slice none 0 0, by rw [HF.out]; rfl, by rw [HV.out, HF.out, if_neg (by simp)]; exact OwnRow.nil _ _ _ _ _, by exact bel⟩
  | none =>
  rw [hpl] at hr
  obtain rfl : r = -1 := hr
  go_wp2_with fail
  refine (isSymbol_any name _ (by unfold maxLen; omega)).mono ?_
  rintro e w3 ⟨rfl, hb3⟩
  have hq3 := hb3.size
  cases hs : symB name.data.toList
  · have HF := Lib.hid (show renOk l old name = false by rw [HO.out, hs]; simp)
    clear hs hpl
    go_wp2
    go_ret2
    exact ⟨.slice none 0 0, by rw [HF.out]; rfl, by rw [HV.out, HF.out, if_neg (by simp)]; exact OwnRow.nil _ _ _ _ _, by exact bel⟩
  have HT := Lib.hid (show renOk l old name = true by rw [HO.out, HU.out, hpl, hs]; rfl)
  have HGD := Lib.hid (show libGood l = true by have h := HU.out; rw [unitOf, Bool.and_eq_true] at h; exact h.1)
  have HPN := Lib.hid (place_not (l := l) (x := name) (by rw [hpl]; rfl))
  have hl12 := libGood_len HGD.out
  have hb03 : Below w.heap.size w w3 := by exact bel
  clear hs hpl
  go_wp2
  go_loopw [8, 32] (RuIRel l old name w) (fun _ i _ => l.length - (intOf i).toNat)
  case atStart =>
    refine ⟨0, [], Nat.zero_le _, rfl, rfl, row_empty w3 w.heap.size _ _ hb03.size, Uns.nil _ _ _ _, Below.al hb03 _⟩
  case round =>
    obtain ⟨k, D, hk, rfl, hD, hrow, huns, hb⟩ := hrel
    have HD := Lib.hid hD
    have HROW := Lib.hid hrow
    have HUNS := Lib.hid huns
    have hDk : D.length = k := by have := congrArg List.length hD; rw [List.length_map, List.length_map, List.length_take] at this; omega
    obtain ⟨po, co, rfl⟩ := own_slice hrow
    have hqr := hb.size
    clear hD hrow huns
    by_cases hlt : k < l.length
    · obtain ⟨b, o, rfl, hB, p1, c1, p2, c2, hx0, hx1, hx2, hx3, hx⟩ := (H.out.below hb).at_ hlt
      have HTK := Lib.hid (List.take_succ_eq_append_getElem hlt)
      have HRI := Lib.hid (ren_incs (old := old) HGD.out HPN.out (List.getElem_mem hlt))
      have hwu := wtU_le l _ (List.getElem_mem hlt)
      obtain ⟨a, ha⟩ : ∃ a, l[k] = a := ⟨_, rfl⟩
      rw [ha] at hx hx0 hx1 hx2 hx3 HTK HRI hwu
      obtain ⟨_, _, _, _, -, q1, q2, -, -, -, l1, l2, hi, hax⟩ := hx.form
      simp only [Value.slice.injEq, true_and] at q1 q2
      obtain ⟨rfl, rfl⟩ := q1
      obtain ⟨rfl, rfl⟩ := q2
      have HI := Lib.hid hi
      have HA := Lib.hid hax
      have hwa : a.wt = a.name.size + (a.incs.length + wtS a.incs) + (a.axs.length + wtS a.axs) + a.goal.size := rfl
      have hli : a.incs.length ≤ 2000000 ∧ a.axs.length ≤ 2000000 := by
        have := HRI.out.2.1; rw [renI_len] at this
        exact ⟨by omega, by omega⟩
      have zb := bsz (World.block_lt_of_cell? _ _ hx0)
      have hki : (k : Int) < l.length := by omega
      clear ha hx hi hax l1 l2 hwa
      go_wp2
      obtain ⟨W, hW⟩ : ∃ W : World, W = wr.alloc (.cells #[.string a.name, .slice p1 a.incs.length c1, .slice p2 a.axs.length c2, .string a.goal] 34) := ⟨_, rfl⟩
      have hbW : Below wr.heap.size wr W := by rw [hW]; exact (Below.refl _ _).alloc (Nat.le_refl _) _
      have k0 : W.cell? ⟨wr.heap.size, 0, none⟩ = some (.string a.name) := by rw [hW]; go_simp
      have k1 : W.cell? ⟨wr.heap.size, 1, none⟩ = some (.slice p1 a.incs.length c1) := by rw [hW]; go_simp
      have k2 : W.cell? ⟨wr.heap.size, 2, none⟩ = some (.slice p2 a.axs.length c2) := by rw [hW]; go_simp
      have k3 : W.cell? ⟨wr.heap.size, 3, none⟩ = some (.string a.goal) := by rw [hW]; go_simp
      have zW := bsz (World.block_lt_of_cell? _ _ k0)
      have hbwW : Below w.heap.size w W := Below.step hb hbW
      rw [← hW]
      clear hW
      refine wp_region_any3 [some (.pointer (some ⟨wr.heap.size, 0, none⟩)), some (.string a.name), some (.pointer (some ⟨wr.heap.size, 1, none⟩)), some (.slice p1 a.incs.length c1), none, some (.pointer (some ⟨wr.heap.size, 2, none⟩)), some (.slice p2 a.axs.length c2), none, some (.pointer (some ⟨wr.heap.size, 3, none⟩)), some (.string a.goal), none, none, none] (CloD 9 34 W a) (by kernel_rfl) (by kernel_rfl) (fun L hL => CloD.start hL) ?_
      refine flowV_st rfl rfl (by intro u' L w' hun hbe hD; go_simp; first | exact ⟨hD.other 0 (by decide), rfl⟩ | exact hD.other 0 (by decide)) ?_
      go_simp
      refine flowV_st rfl rfl (by intro u' L w' hun hbe hD; have hw' := hD.bel; have e0 := cellQ hw' k0; have ze := bsz (World.block_lt_of_cell? _ _ e0); go_simp; first | exact ⟨hD.other 1 (by decide), rfl⟩ | exact hD.other 1 (by decide)) ?_
      go_simp
      refine flowV_st rfl rfl (by intro u' L w' hun hbe hD; go_simp; first | exact ⟨hD.other 2 (by decide), rfl⟩ | exact hD.other 2 (by decide)) ?_
      go_simp
      refine flowV_st rfl rfl (by intro u' L w' hun hbe hD; have hw' := hD.bel; have e0 := cellQ hw' k1; have ze := bsz (World.block_lt_of_cell? _ _ e0); go_simp; first | exact ⟨hD.other 3 (by decide), rfl⟩ | exact hD.other 3 (by decide)) ?_
      go_simp
      refine flowV_ch rfl rfl (by
        intro u' hu' L w' hun hbe hD
        go_simp
        exact (cloneS_any a.incs _ w' ((HI.out.below hbW).below hD.bel) hli.1).mono fun e w'' ⟨v', he, hr, hb'⟩ => ⟨v', he, hD.c4 hun hr hb'⟩) ?_
      intro x4
      go_simp
      refine flowV_st rfl rfl (by intro u' L w' hun hbe hD; go_simp; first | exact ⟨hD.other 5 (by decide), rfl⟩ | exact hD.other 5 (by decide)) ?_
      go_simp
      refine flowV_st rfl rfl (by intro u' L w' hun hbe hD; have hw' := hD.bel; have e0 := cellQ hw' k2; have ze := bsz (World.block_lt_of_cell? _ _ e0); go_simp; first | exact ⟨hD.other 6 (by decide), rfl⟩ | exact hD.other 6 (by decide)) ?_
      go_simp
      refine flowV_ch rfl rfl (by
        intro u' hu' L w' hun hbe hD
        go_simp
        exact (cloneS_any a.axs _ w' ((HA.out.below hbW).below hD.bel) hli.2).mono fun e w'' ⟨v', he, hr, hb'⟩ => ⟨v', he, hD.c7 hun hr hb'⟩) ?_
      intro x7
      go_simp
      refine flowV_st rfl rfl (by intro u' L w' hun hbe hD; go_simp; first | exact ⟨hD.other 8 (by decide), rfl⟩ | exact hD.other 8 (by decide)) ?_
      go_simp
      refine flowV_st rfl rfl (by intro u' L w' hun hbe hD; have hw' := hD.bel; have e0 := cellQ hw' k3; have ze := bsz (World.block_lt_of_cell? _ _ e0); go_simp; first | exact ⟨hD.other 9 (by decide), rfl⟩ | exact hD.other 9 (by decide)) ?_
      go_simp
      refine flowV_ch rfl rfl (by
        intro u' hu' L w' hun hbe hD
        have h4 := after_behind hbe (p := 4) (by kernel_rfl)
        have h7 := after_behind hbe (p := 7) (by kernel_rfl)
        have hu4 : u' 4 = x4 := (after_eq hu' (by kernel_rfl)).trans (by simp [upd])
        have hu7 : u' 7 = x7 := (after_eq hu' (by kernel_rfl)).trans (by simp [upd])
        have hm := hD.m10 hun h4 h7
        obtain ⟨p4, c4, e4⟩ := own_slice (hD.r4 h4)
        obtain ⟨p7, c7, e7⟩ := own_slice (hD.r7 h7)
        rw [e4, e7] at hm
        obtain rfl : x4 = .slice p4 a.incs.length c4 := hu4.symm.trans e4
        obtain rfl : x7 = .slice p7 a.axs.length c7 := hu7.symm.trans e7
        (first | (go_simp; done) | (go_simp; exact hm))) ?_
      intro x10
      go_simp
      refine flowV_ch rfl rfl (by intro u' hu' L w' hun hbe hD; go_simp; exact hD.a11' hun) ?_
      intro x11
      go_simp
      refine flowV_ch rfl rfl (by
        intro u' hu' L w' hun hbe hD
        have h10 := after_behind hbe (p := 10) (by kernel_rfl)
        have h11 := after_behind hbe (p := 11) (by kernel_rfl)
        have hu10 : u' 10 = x10 := (after_eq hu' (by kernel_rfl)).trans (by simp [upd])
        have hu11 : u' 11 = x11 := (after_eq hu' (by kernel_rfl)).trans (by simp [upd])
        obtain ⟨k', e1, e2, e3, e4, e5, e6, e7⟩ := hD.a11 h11
        obtain ⟨h4, h7⟩ := hD.o10 h10
        obtain ⟨p4, c4, f4⟩ := own_slice (hD.r4 h4)
        obtain ⟨p7, c7, f7⟩ := own_slice (hD.r7 h7)
        have hs := hD.s12 (v' := undef) hun h10 h11 e1
        have hv := hD.b10 h10
        rw [f4, f7] at hv hs
        obtain rfl : x10 = _ := hu10.symm.trans hv
        obtain rfl : x11 = _ := hu11.symm.trans e1
        obtain ⟨d0, d1, d2, d3, df⟩ := row4_cells (e3 (getD_tf hun))
        have ze := bsz e5
        clear e1 e2 e3 e4 e5 e6 e7 hv hu10 hu11 hu' f4 f7
        (first | (go_simp; done) | (go_simp; exact hs))) ?_
      intro x12
      refine flowV_nil ?_
      intro L w4 hL hD
      have h4 : L.getD 4 false = true := by simpa using hL 4 (by simp)
      have h7 : L.getD 7 false = true := by simpa using hL 7 (by simp)
      have h11 : L.getD 11 false = true := by simpa using hL 11 (by simp)
      have h12 : L.getD 12 false = true := by simpa using hL 12 (by simp)
      obtain ⟨bk, e1, e2, -, e4, e5, e6, e7⟩ := hD.a11 h11
      have hx11 : x11 = .pointer (some ⟨bk, 0, none⟩) := by simpa [upd] using e1
      have r4 : w4.ownsRow W.heap.size 9 1 x4 a.incs.length (strW a.incs) := by simpa [upd] using hD.r4 h4
      have r7 : w4.ownsRow W.heap.size 9 1 x7 a.axs.length (strW a.axs) := by simpa [upd] using hD.r7 h7
      have hbox : w4.heap[bk]? = some (.cells #[.string a.name, x4, x7, .string a.goal] 34 (0, 0)) := by simpa [upd] using e4 h12
      have hap : ∀ g, x4.ownBlock = some g → x7.ownBlock ≠ some g := by simpa [upd] using hD.ap h4 h7
      have n4 : x4.ownBlock ≠ some bk := by simpa [upd] using e6 h4
      have n7 : x7.ownBlock ≠ some bk := by simpa [upd] using e7 h7
      have hb4 : Below W.heap.size W w4 := hD.bel
      obtain ⟨p4, c4, rfl⟩ := own_slice r4
      obtain ⟨p7, c7, rfl⟩ := own_slice r7
      subst hx11
      obtain ⟨d0, d1, d2, d3, df⟩ := row4_cells hbox
      have zk := bsz e5
      have HAP := Lib.hid (And.intro hap (And.intro n4 n7))
      have HR7 := Lib.hid r7
      have HBS := Lib.hid (And.intro e2 (And.intro hbW hb4))
      have hzA := hbW.size
      have hz4 := hb4.size
      obtain ⟨wA, hwA⟩ : ∃ q, q = wr := ⟨_, rfl⟩
      subst hwA
      have HB := Lib.hid hb
      clear hD hL h4 h7 h11 h12 e1 e2 e4 e5 e6 e7 hap n4 n7 k0 k1 k2 k3 hx0 hx1 hx2 hx3 zb hb4 hb hbW r7
      cases hN : (a.name.toList == old.toList)
      · have hne : a.name ≠ old := fun e => by rw [e, beq_self_eq_true] at hN; cases hN
        have HM := Lib.hid (show RuMid a old name W.heap.size w4 bk (renS old name a.name) p4 p7 c4 c7 0 w4 from ⟨by rw [renS, if_neg hne]; exact hbox, by simpa [renI] using r4, Kept.refl _ _⟩)
        clear hne hbox r4
        go_wp2
        go_loopw [56] (fun i wr' => ∃ j : Nat, j ≤ a.incs.length ∧ i = .int .i64 j ∧ RuMid a old name W.heap.size w4 bk (renS old name a.name) p4 p7 c4 c7 j wr') (fun i _ => a.incs.length - (intOf i).toNat)
        case atStart => exact ⟨0, Nat.zero_le _, rfl, HM.out⟩
        case round =>
          obtain ⟨j, hj, rfl, hm⟩ := hrel
          have HM2 := Lib.hid hm
          obtain ⟨f0, f1, f2, f3, ff⟩ := row4_cells hm.box
          have zq := bsz (blk_lt hm.box)
          clear HM
          by_cases hjl : j < a.incs.length
          · obtain ⟨g, hpg, -, hgl, hgf, hgc⟩ := rowS_cell hm.row (by omega)
            have hgc0 : wr.cell? ⟨g, j, none⟩ = some (.string a.incs[j]) := hgc j _ (by rw [List.getElem?_append_right (by rw [renI_len, List.length_take]; omega), renI_len, List.length_take, show j - min j a.incs.length = 0 by omega, List.getElem?_drop, Nat.add_zero, List.getElem?_eq_getElem hjl])
            have HSN := Lib.hid (renI_snoc old name hjl)
            have HDR := Lib.hid (List.drop_eq_getElem_cons hjl)
            have hgk : g ≠ bk := fun e => HAP.out.2.1 (by rw [hpg, e]; rfl)
            subst hpg
            obtain ⟨y, hy⟩ : ∃ y, a.incs[j] = y := ⟨_, rfl⟩
            rw [hy] at hgc0 HSN HDR
            have zg := bsz hgl
            have hji : (j : Int) < a.incs.length := by omega
            clear hm hgc hy
            cases hE : (y.toList == old.toList)
            · have hne : y ≠ old := fun e => by rw [e, beq_self_eq_true] at hE; cases hE
              have HNE := Lib.hid hne
              clear hne
              go_wp2
              refine ⟨⟨j + 1, by omega, by go_num, ⟨HM2.out.box, ?_, HM2.out.kept⟩⟩, by simp [intOf]; omega⟩
              have hr := HM2.out.row
              rw [HDR.out] at hr
              rw [HSN.out, renS, if_neg HNE.out]
              simpa using hr
            · have hye : y = old := (Lib.bytes_beq_iff y old).1 hE
              have HYE := Lib.hid hye
              clear hye
              go_wp2
              refine ⟨⟨j + 1, by omega, by go_num, ⟨(heap_setCell_other wr ⟨g, j, none⟩ bk _ (fun e => hgk e.symm)).trans HM2.out.box, ?_, HM2.out.kept.set (.inr rfl) _ _⟩⟩, by simp [intOf]; omega⟩
              have hr := rowS_set (k := j) name HM2.out.row
              rw [HDR.out, List.set_append_right _ _ (by rw [renI_len, List.length_take]; omega), renI_len, List.length_take, show j - min j a.incs.length = 0 by omega] at hr
              rw [HSN.out, renS, if_pos HYE.out]
              simpa using hr
          · obtain rfl : j = a.incs.length := by omega
            have hrw := hm.row
            rw [List.take_length, List.drop_length, List.append_nil] at hrw
            have hs := sortS_any W.heap.size (renI old name a.incs) p4 c4 wr (by rw [renI_len]; exact hrw) HRI.out.2.1 HRI.out.1
            rw [renI_len] at hs
            have HS := Lib.hid hs
            have hji : ¬ (a.incs.length : Int) < a.incs.length := by omega
            have hq4 := hm.kept.size
            clear hm hrw hs
            go_wp2_with fail
            refine HS.out.mono ?_
            rintro e w5 ⟨rfl, hr5, hg5⟩
            have hq5 := hg5.size
            have hK5 : Kept (fun b => b = bk ∨ (Value.slice p4 a.incs.length c4).ownBlock = some b) w4 w5 := HM2.out.kept.grownB hg5 (fun b hb => .inr hb)
            have hbx5 := (hg5.block bk (blk_lt HM2.out.box) (fun e => HAP.out.2.1 e.symm)).trans HM2.out.box
            have hbA4 : Below wA.heap.size wA w4 := Below.step HBS.out.2.1 HBS.out.2.2
            have hbA5 : Below wA.heap.size wA w5 := Kept.belowB hbA4 hK5 (fun b hb => by
              rcases hb with rfl | hb
              · have := HBS.out.1; omega
              · have := own_base hr5 b hb; omega)
            have hr75 : w5.ownsRow W.heap.size 9 1 (.slice p7 a.axs.length c7) a.axs.length (strW a.axs) := own_same HR7.out fun g hg hl => hK5.block g hl (fun e => by
              rcases e with rfl | e
              · exact HAP.out.2.2 hg
              · exact HAP.out.1 g e hg)
            have HOUT5 := Lib.hid (own_below HROW.out hbA5)
            have HX := Lib.hid (show UC.Own 9 w.heap.size w5 ⟨renUn old name a, p4, c4, p7, c7⟩ from ⟨by show w5.ownsRow _ _ 1 (.slice p4 (canG lessB (renI old name a.incs)).length c4) (canG lessB (renI old name a.incs)).length _; rw [canG_len, renI_len]; exact own_lower hr5 (by omega), own_lower hr75 (by omega), by show ∀ g, (Value.slice p4 (canG lessB (renI old name a.incs)).length c4).ownBlock = some g → (Value.slice p7 a.axs.length c7).ownBlock ≠ some g; rw [canG_len, renI_len]; exact HAP.out.1⟩)
            have HXB := Lib.hid (show ∀ b, UC.S ⟨renUn old name a, p4, c4, p7, c7⟩ b → wA.heap.size ≤ b from fun b hb => by
              rcases hb with hb | hb
              · have h' : (Value.slice p4 (canG lessB (renI old name a.incs)).length c4).ownBlock = some b := hb
                rw [canG_len, renI_len] at h'
                have := own_base hr5 b h'; omega
              · have := own_base hr75 b hb; omega)
            obtain ⟨g0, g1, g2, g3, gf⟩ := row4_cells hbx5
            have zq5 := bsz (blk_lt hbx5)
            have HB5 := Lib.hid (And.intro hbA5 (Below.step HB.out hbA5))
            have hbase5 : w.heap.size ≤ w5.heap.size := by omega
            clear hr5 hg5 hK5 hbx5 hbA4 hbA5 hr75 f0 f1 f2 f3 ff
            go_wp2_with (at_builtin; refine wpList_app1 rfl (.tmp 73) (.tmp 75) _ rfl w.heap.size 34 4 80 elemUnit _ _ _ rfl w5 #[.string (renS old name a.name), .slice p4 a.incs.length c4, .slice p7 a.axs.length c7, .string a.goal] rfl _ (by simp) rfl HOUT5.out rfl (by simp [Value.oneCell']) (by omega) (by unfold maxLen; omega) hbase5 ?_; intro v6 w6 ho6 hg6 hn6 hl6)
            refine ⟨⟨k + 1, D ++ [⟨renUn old name a, p4, c4, p7, c7⟩], by omega, by go_num, ?_, ?_, ?_, ?_⟩, by simp [intOf]; omega⟩
            · rw [List.map_append, HD.out, HTK.out, List.map_append]; rfl
            · rw [flatU_app]
              have hcs : flatU [(⟨renUn old name a, p4, c4, p7, c7⟩ : UC)] = [.string (renS old name a.name), .slice p4 a.incs.length c4, .slice p7 a.axs.length c7, .string a.goal] := by
                show [Value.string (renS old name a.name), .slice p4 (canG lessB (renI old name a.incs)).length c4, .slice p7 a.axs.length c7, .string a.goal] ++ [] = _
                rw [canG_len, renI_len]; rfl
              rw [hcs]; exact ho6
            · exact ((HUNS.out.below HB5.out.1).snoc HX.out (fun b hb e => by have h1 := HXB.out b hb; have h2 := own_lt' HROW.out e; omega) (fun z hz b h1 h2 => by have h3 := HXB.out b h2; have h4 := ((HUNS.out.each z hz).blk h1).2; omega)).grown hg6 hn6
            · exact HB5.out.2.grown hg6 HB5.out.2.size (fun q hq => own_base HROW.out q hq)
      · have he : a.name = old := (Lib.bytes_beq_iff a.name old).1 hN
        have HM := Lib.hid (show RuMid a old name W.heap.size w4 bk (renS old name a.name) p4 p7 c4 c7 0 (w4.setCell ⟨bk, 0, none⟩ (.string name)) from ⟨by rw [renS, if_pos he]; have := heap_setCell_same w4 bk 0 _ _ (.string name) hbox; simpa using this, own_same (by simpa [renI] using r4) fun g hg _ => heap_setCell_other w4 ⟨bk, 0, none⟩ g _ (fun e => HAP.out.2.1 (by rw [hg]; exact congrArg some e)), (Kept.refl _ _).set (.inl rfl) _ _⟩)
        clear he hbox r4
        go_wp2
        go_loopw [56] (fun i wr' => ∃ j : Nat, j ≤ a.incs.length ∧ i = .int .i64 j ∧ RuMid a old name W.heap.size w4 bk (renS old name a.name) p4 p7 c4 c7 j wr') (fun i _ => a.incs.length - (intOf i).toNat)
        case atStart => exact ⟨0, Nat.zero_le _, rfl, HM.out⟩
        case round =>
          obtain ⟨j, hj, rfl, hm⟩ := hrel
          have HM2 := Lib.hid hm
          obtain ⟨f0, f1, f2, f3, ff⟩ := row4_cells hm.box
          have zq := bsz (blk_lt hm.box)
          clear HM
          by_cases hjl : j < a.incs.length
          · obtain ⟨g, hpg, -, hgl, hgf, hgc⟩ := rowS_cell hm.row (by omega)
            have hgc0 : wr.cell? ⟨g, j, none⟩ = some (.string a.incs[j]) := hgc j _ (by rw [List.getElem?_append_right (by rw [renI_len, List.length_take]; omega), renI_len, List.length_take, show j - min j a.incs.length = 0 by omega, List.getElem?_drop, Nat.add_zero, List.getElem?_eq_getElem hjl])
            have HSN := Lib.hid (renI_snoc old name hjl)
            have HDR := Lib.hid (List.drop_eq_getElem_cons hjl)
            have hgk : g ≠ bk := fun e => HAP.out.2.1 (by rw [hpg, e]; rfl)
            subst hpg
            obtain ⟨y, hy⟩ : ∃ y, a.incs[j] = y := ⟨_, rfl⟩
            rw [hy] at hgc0 HSN HDR
            have zg := bsz hgl
            have hji : (j : Int) < a.incs.length := by omega
            clear hm hgc hy
            cases hE : (y.toList == old.toList)
            · have hne : y ≠ old := fun e => by rw [e, beq_self_eq_true] at hE; cases hE
              have HNE := Lib.hid hne
              clear hne
              go_wp2
              refine ⟨⟨j + 1, by omega, by go_num, ⟨HM2.out.box, ?_, HM2.out.kept⟩⟩, by simp [intOf]; omega⟩
              have hr := HM2.out.row
              rw [HDR.out] at hr
              rw [HSN.out, renS, if_neg HNE.out]
              simpa using hr
            · have hye : y = old := (Lib.bytes_beq_iff y old).1 hE
              have HYE := Lib.hid hye
              clear hye
              go_wp2
              refine ⟨⟨j + 1, by omega, by go_num, ⟨(heap_setCell_other wr ⟨g, j, none⟩ bk _ (fun e => hgk e.symm)).trans HM2.out.box, ?_, HM2.out.kept.set (.inr rfl) _ _⟩⟩, by simp [intOf]; omega⟩
              have hr := rowS_set (k := j) name HM2.out.row
              rw [HDR.out, List.set_append_right _ _ (by rw [renI_len, List.length_take]; omega), renI_len, List.length_take, show j - min j a.incs.length = 0 by omega] at hr
              rw [HSN.out, renS, if_pos HYE.out]
              simpa using hr
          · obtain rfl : j = a.incs.length := by omega
            have hrw := hm.row
            rw [List.take_length, List.drop_length, List.append_nil] at hrw
            have hs := sortS_any W.heap.size (renI old name a.incs) p4 c4 wr (by rw [renI_len]; exact hrw) HRI.out.2.1 HRI.out.1
            rw [renI_len] at hs
            have HS := Lib.hid hs
            have hji : ¬ (a.incs.length : Int) < a.incs.length := by omega
            have hq4 := hm.kept.size
            clear hm hrw hs
            go_wp2_with fail
            refine HS.out.mono ?_
            rintro e w5 ⟨rfl, hr5, hg5⟩
            have hq5 := hg5.size
            have hK5 : Kept (fun b => b = bk ∨ (Value.slice p4 a.incs.length c4).ownBlock = some b) w4 w5 := HM2.out.kept.grownB hg5 (fun b hb => .inr hb)
            have hbx5 := (hg5.block bk (blk_lt HM2.out.box) (fun e => HAP.out.2.1 e.symm)).trans HM2.out.box
            have hbA4 : Below wA.heap.size wA w4 := Below.step HBS.out.2.1 HBS.out.2.2
            have hbA5 : Below wA.heap.size wA w5 := Kept.belowB hbA4 hK5 (fun b hb => by
              rcases hb with rfl | hb
              · have := HBS.out.1; omega
              · have := own_base hr5 b hb; omega)
            have hr75 : w5.ownsRow W.heap.size 9 1 (.slice p7 a.axs.length c7) a.axs.length (strW a.axs) := own_same HR7.out fun g hg hl => hK5.block g hl (fun e => by
              rcases e with rfl | e
              · exact HAP.out.2.2 hg
              · exact HAP.out.1 g e hg)
            have HOUT5 := Lib.hid (own_below HROW.out hbA5)
            have HX := Lib.hid (show UC.Own 9 w.heap.size w5 ⟨renUn old name a, p4, c4, p7, c7⟩ from ⟨by show w5.ownsRow _ _ 1 (.slice p4 (canG lessB (renI old name a.incs)).length c4) (canG lessB (renI old name a.incs)).length _; rw [canG_len, renI_len]; exact own_lower hr5 (by omega), own_lower hr75 (by omega), by show ∀ g, (Value.slice p4 (canG lessB (renI old name a.incs)).length c4).ownBlock = some g → (Value.slice p7 a.axs.length c7).ownBlock ≠ some g; rw [canG_len, renI_len]; exact HAP.out.1⟩)
            have HXB := Lib.hid (show ∀ b, UC.S ⟨renUn old name a, p4, c4, p7, c7⟩ b → wA.heap.size ≤ b from fun b hb => by
              rcases hb with hb | hb
              · have h' : (Value.slice p4 (canG lessB (renI old name a.incs)).length c4).ownBlock = some b := hb
                rw [canG_len, renI_len] at h'
                have := own_base hr5 b h'; omega
              · have := own_base hr75 b hb; omega)
            obtain ⟨g0, g1, g2, g3, gf⟩ := row4_cells hbx5
            have zq5 := bsz (blk_lt hbx5)
            have HB5 := Lib.hid (And.intro hbA5 (Below.step HB.out hbA5))
            have hbase5 : w.heap.size ≤ w5.heap.size := by omega
            clear hr5 hg5 hK5 hbx5 hbA4 hbA5 hr75 f0 f1 f2 f3 ff
            go_wp2_with (at_builtin; refine wpList_app1 rfl (.tmp 73) (.tmp 75) _ rfl w.heap.size 34 4 80 elemUnit _ _ _ rfl w5 #[.string (renS old name a.name), .slice p4 a.incs.length c4, .slice p7 a.axs.length c7, .string a.goal] rfl _ (by simp) rfl HOUT5.out rfl (by simp [Value.oneCell']) (by omega) (by unfold maxLen; omega) hbase5 ?_; intro v6 w6 ho6 hg6 hn6 hl6)
            refine ⟨⟨k + 1, D ++ [⟨renUn old name a, p4, c4, p7, c7⟩], by omega, by go_num, ?_, ?_, ?_, ?_⟩, by simp [intOf]; omega⟩
            · rw [List.map_append, HD.out, HTK.out, List.map_append]; rfl
            · rw [flatU_app]
              have hcs : flatU [(⟨renUn old name a, p4, c4, p7, c7⟩ : UC)] = [.string (renS old name a.name), .slice p4 a.incs.length c4, .slice p7 a.axs.length c7, .string a.goal] := by
                show [Value.string (renS old name a.name), .slice p4 (canG lessB (renI old name a.incs)).length c4, .slice p7 a.axs.length c7, .string a.goal] ++ [] = _
                rw [canG_len, renI_len]; rfl
              rw [hcs]; exact ho6
            · exact ((HUNS.out.below HB5.out.1).snoc HX.out (fun b hb e => by have h1 := HXB.out b hb; have h2 := own_lt' HROW.out e; omega) (fun z hz b h1 h2 => by have h3 := HXB.out b h2; have h4 := ((HUNS.out.each z hz).blk h1).2; omega)).grown hg6 hn6
            · exact HB5.out.2.grown hg6 HB5.out.2.size (fun q hq => own_base HROW.out q hq)
    · obtain rfl : k = l.length := by omega
      have hdm := HD.out
      rw [List.take_length] at hdm
      have hs := sortU_any w.heap.size D po co wr (by rw [hDk]; exact HROW.out) (by omega) (by have := ren_names (old := old) HGD.out HPN.out; rw [← hdm, List.map_map] at this; exact this)
      rw [hDk] at hs
      have HS := Lib.hid hs
      have HDM := Lib.hid hdm
      have hki : ¬ (l.length : Int) < l.length := by omega
      clear hs hdm
      go_wp2_with fail
      refine HS.out.mono ?_
      rintro e w5 ⟨rfl, hr5, hg5⟩
      have HR5 := Lib.hid hr5
      have HG5 := Lib.hid hg5
      clear hr5 hg5
      go_wp2
      go_ret2
      have hbe : Below w.heap.size w w5 := hb.grown HG5.out hb.size (fun q hq => own_base HROW.out q hq)
      refine ⟨.slice po l.length co, by rw [HT.out]; rfl, ?_, hbe⟩
      have hmap : (canG lessC D).map UC.u = renV l old name := by rw [HV.out, HT.out, if_pos rfl, renL, ← HDM.out]; exact canG_map (lt := lessC) (lt' := lessU) (f := UC.u) (fun _ _ => rfl) D
      have hlen : (renV l old name).length = l.length := by rw [HV.out, HT.out, if_pos rfl, renL_len]
      have hU := ((HUNS.out.grown HG5.out (.inl rfl)).perm (canG_perm D)).own (eU := 34) (S := NewB w w5) (us := renV l old name) (by rw [hlen]; exact HR5.out) hmap (by rw [hlen]; unfold maxLen; omega) (fun u hu => ?_) (fun b h1 h2 => ⟨h1, h2⟩)
      · rw [show (Value.slice po l.length co) = .slice po (renV l old name).length co by rw [hlen]] at *
        exact hU
      · rw [HV.out, HT.out, if_pos rfl, renL] at hu
        obtain ⟨u0, hu0, rfl⟩ := List.mem_map.1 (mem_canG.1 hu)
        have h1 := wtU_le l u0 hu0
        have h2 : u0.wt = u0.name.size + (u0.incs.length + wtS u0.incs) + (u0.axs.length + wtS u0.axs) + u0.goal.size := rfl
        have h3 : (renUn old name u0).wt = (renS old name u0.name).size + ((canG lessB (renI old name u0.incs)).length + wtS (canG lessB (renI old name u0.incs))) + (u0.axs.length + wtS u0.axs) + u0.goal.size := rfl
        have h4 := renS_size old name u0.name
        have h5 := wtS_renI old name u0.incs
        have h6 := (ren_incs (old := old) HGD.out HPN.out hu0).2.1
        rw [renI_len] at h6
        have h7 : name.size * u0.incs.length ≤ name.size * 12 := Nat.mul_le_mul_left _ h6
        rw [wtS_canG, canG_len, renI_len] at h3
        unfold maxLen
        omega
end Go.Proofs.YtkgfanajgdelcaaGreatDoor
