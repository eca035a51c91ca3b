import Derived.Test.YtkgfanajgdelcaaGreatDoorUnPart33
import Derived.Test.YtkgfanajgdelcaaGreatDoorUnPart37
namespace Go.Proofs.YtkgfanajgdelcaaGreatDoor
set_option maxRecDepth 100000
open Go.RowKit
theorem canG_snoc {α : Type} {lt : α → α → Bool} (l : List α) (x : α) : canG lt (l ++ [x]) = insG lt (canG lt l) x := by rw [canG, List.foldl_append]; rfl
theorem renI_new {old name : ByteArray} {l : List ByteArray} {j : Nat} (hd : (renI old name l).Nodup) (h : j < l.length) : renS old name l[j] ∉ canG lessB (renI old name (l.take j)) := by
  intro hm
  rw [mem_canG] at hm
  have e : renI old name l = renI old name (l.take j) ++ renS old name l[j] :: renI old name (l.drop (j + 1)) := by
    have e1 : l = l.take j ++ l[j] :: l.drop (j + 1) := by rw [← List.drop_eq_getElem_cons h, List.take_append_drop]
    have e2 := congrArg (renI old name) e1
    rw [e2, renI, renI, renI, List.map_append, List.map_cons]
  rw [e, List.nodup_append] at hd
  exact hd.2.2 _ hm _ (List.mem_cons_self ..) rfl
theorem unsOwn_empty {e eU : TypeId} {base : Nat} {w : World} {v : Value} {S : Nat → Prop} (h : w.ownsRow base eU 4 v 0 []) (hS : ∀ b, base ≤ b → b < w.heap.size → S b) : UnsOwn e eU S w [] v :=
  Uns.own (D := []) (Uns.nil _ base _ _) h rfl (by unfold maxLen; simp) (by simp) hS
theorem renV_wt {l : List Un} {old name : ByteArray} (hw : l.length + wtU l ≤ 1048576) (hname : name.size ≤ 1048576) (hg : libGood l = true) (hn : ∀ u ∈ l, u.name ≠ name) {u : Un} (hu : u ∈ renL old name l) : u.wt ≤ maxLen := by
  rw [renL] at hu
  obtain ⟨u0, hu0, rfl⟩ := List.mem_map.1 (mem_canG.1 hu)
  have h1 := wtU_le l u0 hu0
  have h2 : u0.wt = u0.name.size + (u0.incs.length + wtS u0.incs) + (u0.axs.length + wtS u0.axs) + u0.goal.size := rfl
  have h3 : (renUn old name u0).wt = (renS old name u0.name).size + ((canG lessB (renI old name u0.incs)).length + wtS (canG lessB (renI old name u0.incs))) + (u0.axs.length + wtS u0.axs) + u0.goal.size := rfl
  have h4 := renS_size old name u0.name
  have h5 := wtS_renI old name u0.incs
  have h6 := (ren_incs (old := old) hg hn hu0).2.1
  rw [renI_len] at h6
  have h7 : name.size * u0.incs.length ≤ name.size * 12 := Nat.mul_le_mul_left _ h6
  rw [wtS_canG, canG_len, renI_len] at h3
  unfold maxLen
  omega
def RuRRel (l : List Un) (old name : ByteArray) (w : World) (out i : Value) (wr : World) : Prop :=
  ∃ (k : Nat) (D : List UC) (g c : Nat), k ≤ l.length ∧ i = .int .i64 k ∧ out = .slice (some ⟨g, 0, none⟩) k c ∧ D.map UC.u = canG lessU ((l.take k).map (renUn old name)) ∧ wr.ownsRow w.heap.size 34 4 (.slice (some ⟨g, 0, none⟩) k c) k (flatU D) ∧ Uns 9 w.heap.size wr (.slice (some ⟨g, 0, none⟩) k c) D ∧ Below w.heap.size w wr
structure RuMidR (a : Un) (old name : ByteArray) (base : Nat) (w3 : World) (bk : Nat) (nm : ByteArray) (p7 : Option Addr) (c7 j : Nat) (p4 : Option Addr) (c4 : Nat) (wr : World) : Prop where
  box : wr.heap[bk]? = some (.cells #[.string nm, .slice p4 j c4, .slice p7 a.axs.length c7, .string a.goal] 34 (0, 0))
  row : wr.ownsRow base 9 1 (.slice p4 j c4) j (strW (canG lessB (renI old name (a.incs.take j))))
  nb : (Value.slice p4 j c4).ownBlock ≠ some bk
  ap : ∀ g, (Value.slice p4 j c4).ownBlock = some g → (Value.slice p7 a.axs.length c7).ownBlock ≠ some g
  kept : Kept (fun b => b = bk) w3 wr
set_option maxHeartbeats 12800000 in
theorem specRU_any {B : Nat → Prop} (l : List Un) (va : Value) (old name : ByteArray) (w : World) (h : UnsAt B w va l) (hw : l.length + wtU l ≤ 1048576) (hname : name.size ≤ 1048576) :
    Calls Tryz.prog 29 #[va, .string old, .string name] w fun e w' => ∃ v, e = .returned (.tuple #[v, .bool (renOk l old name)]) ∧ UnsOwn 9 34 (NewB w w') w' (renV l old name) v ∧ Below w.heap.size w w' := by
  obtain ⟨p, c, rfl, hlen⟩ := h.form
  unfold maxLen at hlen
  have H := Lib.hid h
  have HO := Lib.hid (show renOk l old name = (unitOf l old && (placeU l name).isNone && symB name.data.toList) from rfl)
  have HV := Lib.hid (show renV l old name = if renOk l old name then renL old name l else [] from rfl)
  have HU := Lib.hid (show unitOf l old = (libGood l && (placeU l old).isSome) from rfl)
  clear h
  go_enter Tryz.func29, Tryz.ntmps29
  go_wp2_with fail
  refine (specLib_any l _ _ (H.out.below (by exact bel)) hw).mono ?_
  rintro e w1 ⟨rfl, hb1⟩
  have hb01 : Below w.heap.size w w1 := by exact bel
  have hq1 := hb1.size
  have HE := Lib.hid (own_below (row_empty w w.heap.size 34 4 (Nat.le_refl _)) hb1)
  cases hg : libGood l
  · have HF := Lib.hid (show renOk l old name = false by rw [HO.out, HU.out, hg]; rfl)
    clear hg
    go_wp2
    go_ret2
    exact ⟨_, by rw [HF.out]; rfl, by rw [HV.out, HF.out, if_neg (by simp)]; exact unsOwn_empty (own_below HE.out (by exact bel)) (fun b h1 h2 => ⟨h1, h2⟩), by exact bel⟩
  have HGD := Lib.hid hg
  clear hg
  go_wp2_with fail
  refine (l27Find_any l _ old _ (H.out.below (by exact bel))).mono ?_
  rintro e w2 ⟨r2, rfl, hr2, hb2⟩
  have hq2 := hb2.size
  cases hp : placeU l old with
  | none =>
    rw [hp] at hr2
    obtain rfl : r2 = -1 := hr2
    have HF := Lib.hid (show renOk l old name = false by rw [HO.out, HU.out, hp]; simp)
    clear hp
    go_wp2
    go_ret2
    exact ⟨_, by rw [HF.out]; rfl, by rw [HV.out, HF.out, if_neg (by simp)]; exact unsOwn_empty (own_below HE.out (by exact bel)) (fun b h1 h2 => ⟨h1, h2⟩), by exact bel⟩
  | some i0 =>
  rw [hp] at hr2
  obtain rfl : r2 = (i0 : Int) := hr2
  have hi0 : ¬ ((i0 : Int) < 0) := by omega
  have HU1 := Lib.hid (show unitOf l old = true by rw [HU.out, hp, HGD.out]; rfl)
  clear hp
  go_wp2_with fail
  refine (l27Find_any l _ name _ (H.out.below (by exact bel))).mono ?_
  rintro e w3 ⟨r3, rfl, hr3, hb3⟩
  have hq3 := hb3.size
  cases hpl : placeU l name with
  | some i1 =>
    rw [hpl] at hr3
    obtain rfl : r3 = (i1 : Int) := hr3
    have hi1 : ((i1 : Int) ≥ 0) := by omega
    have HF := Lib.hid (show renOk l old name = false by rw [HO.out, hpl]; simp)
    clear hpl
    go_wp2
    go_ret2
    exact ⟨_, by rw [HF.out]; rfl, by rw [HV.out, HF.out, if_neg (by simp)]; exact unsOwn_empty (own_below HE.out (by exact bel)) (fun b h1 h2 => ⟨h1, h2⟩), by exact bel⟩
  | none =>
  rw [hpl] at hr3
  obtain rfl : r3 = -1 := hr3
  go_wp2_with fail
  refine (l2Symbol_any name _ (by unfold maxLen; omega)).mono ?_
  rintro e w4 ⟨rfl, rfl⟩
  cases hs : symB name.data.toList
  · have HF := Lib.hid (show renOk l old name = false by rw [HO.out, hs]; simp)
    clear hs hpl
    go_wp2
    go_ret2
    exact ⟨_, by rw [HF.out]; rfl, by rw [HV.out, HF.out, if_neg (by simp)]; exact unsOwn_empty (own_below HE.out (by exact bel)) (fun b h1 h2 => ⟨h1, h2⟩), by exact bel⟩
  have HT := Lib.hid (show renOk l old name = true by rw [HO.out, HU1.out, hpl, hs]; rfl)
  have HPN := Lib.hid (place_not (l := l) (x := name) (by rw [hpl]; rfl))
  have hl12 := libGood_len HGD.out
  have HE3 := Lib.hid (own_below HE.out (show Below w1.heap.size w1 w3 by exact bel))
  have hb03 : Below w.heap.size w w3 := by exact bel
  clear hs hpl
  go_wp2
  go_loopw [8, 9] (RuRRel l old name w) (fun _ i _ => l.length - (intOf i).toNat)
  case atStart =>
    refine ⟨0, [], _, _, Nat.zero_le _, rfl, rfl, rfl, HE3.out, Uns.nil _ _ _ _, hb03⟩
  case round =>
    obtain ⟨k, D, g, co, hk, rfl, rfl, hD, hrow, huns, hb⟩ := hrel
    have HD := Lib.hid hD
    have HROW := Lib.hid hrow
    have HUNS := Lib.hid huns
    have hDk : D.length = k := by have := congrArg List.length hD; rw [List.length_map, canG_len, List.length_map, List.length_take] at this; omega
    have hqr := hb.size
    have hgl := own_lt hrow
    have hgb := own_base hrow g rfl
    clear hD hrow huns
    by_cases hlt : k < l.length
    · obtain ⟨b, o, rfl, hB, p1, c1, p2, c2, y0, y1, y2, y3, hx⟩ := H.out.at_ hlt
      have HTK := Lib.hid (List.take_succ_eq_append_getElem hlt)
      have HRI := Lib.hid (ren_incs (old := old) HGD.out HPN.out (List.getElem_mem hlt))
      have hwu := wtU_le l _ (List.getElem_mem hlt)
      obtain ⟨a, ha⟩ : ∃ a, l[k] = a := ⟨_, rfl⟩
      rw [ha] at hx y0 y1 y2 y3 HTK HRI hwu
      obtain ⟨_, _, _, _, -, q1, q2, -, -, -, l1, l2, hi, hax⟩ := hx.form
      simp only [Value.slice.injEq, true_and] at q1 q2
      obtain ⟨rfl, rfl⟩ := q1
      obtain ⟨rfl, rfl⟩ := q2
      have HI := Lib.hid hi
      have HA := Lib.hid (hax.below hb)
      have hwa : a.wt = a.name.size + (a.incs.length + wtS a.incs) + (a.axs.length + wtS a.axs) + a.goal.size := rfl
      have hli : a.incs.length ≤ 12 ∧ a.axs.length ≤ 2000000 := by
        have := HRI.out.2.1; rw [renI_len] at this
        exact ⟨this, by omega⟩
      have hx0 := cellQ hb y0
      have hx1 := cellQ hb y1
      have hx2 := cellQ hb y2
      have hx3 := cellQ hb y3
      have zb := bsz (World.block_lt_of_cell? _ _ hx0)
      have zb0 := bsz (World.block_lt_of_cell? _ _ y0)
      have hki : (k : Int) < l.length := by omega
      have Y1 := Lib.hid y1
      clear ha hx hi hax l1 l2 hwa y0 y1 y2 y3
      go_wp2
      refine wp_region_any3 [some (.slice (some ⟨b, o, none⟩) l.length c), some (.int .i64 k), some (.pointer (some ⟨b, o + k * 4, none⟩)), some (.pointer (some ⟨b, o + k * 4, none⟩)), some (.string a.name), none, some (.slice (some ⟨b, o, none⟩) l.length c), some (.int .i64 k), some (.pointer (some ⟨b, o + k * 4, none⟩)), some (.pointer (some ⟨b, o + k * 4 + 2, none⟩)), some (.slice p2 a.axs.length c2), none, some (.slice (some ⟨b, o, none⟩) l.length c), some (.int .i64 k), some (.pointer (some ⟨b, o + k * 4, none⟩)), some (.pointer (some ⟨b, o + k * 4 + 3, none⟩)), some (.string a.goal), none, none, none] (CloE 9 34 wr a) (by kernel_rfl) (by kernel_rfl) (fun L hL => CloE.start hL) ?_
      refine flowV_st rfl rfl (by intro u' L w' hun hbe hD; have hw' := hD.bel; go_simp; first | exact ⟨hD.other 0 (by decide), rfl⟩ | exact hD.other 0 (by decide)) ?_
      go_simp
      refine flowV_st rfl rfl (by intro u' L w' hun hbe hD; have hw' := hD.bel; go_simp; first | exact ⟨hD.other 1 (by decide), rfl⟩ | exact hD.other 1 (by decide)) ?_
      go_simp
      refine flowV_st rfl rfl (by intro u' L w' hun hbe hD; have hw' := hD.bel; go_simp; first | exact ⟨hD.other 2 (by decide), rfl⟩ | exact hD.other 2 (by decide)) ?_
      go_simp
      refine flowV_st rfl rfl (by intro u' L w' hun hbe hD; have hw' := hD.bel; go_simp; first | exact ⟨hD.other 3 (by decide), rfl⟩ | exact hD.other 3 (by decide)) ?_
      go_simp
      refine flowV_st rfl rfl (by intro u' L w' hun hbe hD; have hw' := hD.bel; have e0 := cellQ hw' hx0; have ze := bsz (World.block_lt_of_cell? _ _ e0); go_simp; first | exact ⟨hD.other 4 (by decide), rfl⟩ | exact hD.other 4 (by decide)) ?_
      go_simp
      refine flowV_ch rfl rfl (by intro u' hu' L w' hun hbe hD; go_simp; exact hD.b5 hun) ?_
      intro x5
      go_simp
      refine flowV_st rfl rfl (by intro u' L w' hun hbe hD; have hw' := hD.bel; go_simp; first | exact ⟨hD.other 6 (by decide), rfl⟩ | exact hD.other 6 (by decide)) ?_
      go_simp
      refine flowV_st rfl rfl (by intro u' L w' hun hbe hD; have hw' := hD.bel; go_simp; first | exact ⟨hD.other 7 (by decide), rfl⟩ | exact hD.other 7 (by decide)) ?_
      go_simp
      refine flowV_st rfl rfl (by intro u' L w' hun hbe hD; have hw' := hD.bel; go_simp; first | exact ⟨hD.other 8 (by decide), rfl⟩ | exact hD.other 8 (by decide)) ?_
      go_simp
      refine flowV_st rfl rfl (by intro u' L w' hun hbe hD; have hw' := hD.bel; go_simp; first | exact ⟨hD.other 9 (by decide), rfl⟩ | exact hD.other 9 (by decide)) ?_
      go_simp
      refine flowV_st rfl rfl (by intro u' L w' hun hbe hD; have hw' := hD.bel; have e0 := cellQ hw' hx2; have ze := bsz (World.block_lt_of_cell? _ _ e0); go_simp; first | exact ⟨hD.other 10 (by decide), rfl⟩ | exact hD.other 10 (by decide)) ?_
      go_simp
      refine flowV_ch rfl rfl ?_ ?_
      · intro u' hu' L w' hun hbe hD
        have hu5 : u' 5 = x5 := (after_eq hu' (by kernel_rfl)).trans (by simp [upd])
        have h5 := after_behind hbe (p := 5) (by kernel_rfl)
        have hw' := hD.bel
        refine each_appS (.tmp 47) (.tmp 52) 26 rfl wr.heap.size 9 16 elemStr (u' 5) 0 [] (by rw [hu5]; rfl) _ a.axs rfl (HA.out.below hw') (hD.r5 h5 (getD_tf hun)) (by omega) (by unfold maxLen; omega) hw'.size ?_
        intro v' w2 hr hg' hn
        exact hD.a11 hun h5 hr hg' hn
      intro x11
      go_simp
      refine flowV_st rfl rfl (by intro u' L w' hun hbe hD; have hw' := hD.bel; go_simp; first | exact ⟨hD.other 12 (by decide), rfl⟩ | exact hD.other 12 (by decide)) ?_
      go_simp
      refine flowV_st rfl rfl (by intro u' L w' hun hbe hD; have hw' := hD.bel; go_simp; first | exact ⟨hD.other 13 (by decide), rfl⟩ | exact hD.other 13 (by decide)) ?_
      go_simp
      refine flowV_st rfl rfl (by intro u' L w' hun hbe hD; have hw' := hD.bel; go_simp; first | exact ⟨hD.other 14 (by decide), rfl⟩ | exact hD.other 14 (by decide)) ?_
      go_simp
      refine flowV_st rfl rfl (by intro u' L w' hun hbe hD; have hw' := hD.bel; go_simp; first | exact ⟨hD.other 15 (by decide), rfl⟩ | exact hD.other 15 (by decide)) ?_
      go_simp
      refine flowV_st rfl rfl (by intro u' L w' hun hbe hD; have hw' := hD.bel; have e0 := cellQ hw' hx3; have ze := bsz (World.block_lt_of_cell? _ _ e0); go_simp; first | exact ⟨hD.other 16 (by decide), rfl⟩ | exact hD.other 16 (by decide)) ?_
      go_simp
      refine flowV_ch rfl rfl (by
        intro u' hu' L w' hun hbe hD
        have h11 := after_behind hbe (p := 11) (by kernel_rfl)
        have hu11 : u' 11 = x11 := (after_eq hu' (by kernel_rfl)).trans (by simp [upd])
        have hm := hD.m17 hun h11
        obtain ⟨p7, c7, e7⟩ := own_slice (hD.r11 h11)
        rw [e7] at hm
        obtain rfl : x11 = .slice p7 a.axs.length c7 := hu11.symm.trans e7
        (first | (go_simp; done) | (go_simp; exact hm))) ?_
      intro x17
      go_simp
      refine flowV_ch rfl rfl (by intro u' hu' L w' hun hbe hD; go_simp; exact hD.a18' hun) ?_
      intro x18
      go_simp
      refine flowV_ch rfl rfl (by
        intro u' hu' L w' hun hbe hD
        have h17 := after_behind hbe (p := 17) (by kernel_rfl)
        have h18 := after_behind hbe (p := 18) (by kernel_rfl)
        have hu17 : u' 17 = x17 := (after_eq hu' (by kernel_rfl)).trans (by simp [upd])
        have hu18 : u' 18 = x18 := (after_eq hu' (by kernel_rfl)).trans (by simp [upd])
        obtain ⟨k', e1, e2, e3, e4, e5, e6, e7⟩ := hD.a18 h18
        have h11 := hD.o17 h17
        obtain ⟨p7, c7, f7⟩ := own_slice (hD.r11 h11)
        have hs := hD.s19 (v' := undef) hun h17 h18 e1
        have hv := hD.b17 h17
        rw [f7] at hv hs
        obtain rfl : x17 = _ := hu17.symm.trans hv
        obtain rfl : x18 = _ := hu18.symm.trans e1
        obtain ⟨d0, d1, d2, d3, df⟩ := row4_cells (e3 (getD_tf hun))
        have ze := bsz e5
        clear e1 e2 e3 e4 e5 e6 e7 hv hu17 hu18 hu' f7
        (first | (go_simp; done) | (go_simp; exact hs))) ?_
      intro x19
      refine flowV_nil ?_
      intro L w4 hL hD
      have h11 : L.getD 11 false = true := by simpa using hL 11 (by simp)
      have h18 : L.getD 18 false = true := by simpa using hL 18 (by simp)
      have h19 : L.getD 19 false = true := by simpa using hL 19 (by simp)
      obtain ⟨bk, e1, e2, -, e4, e5, e6, e7⟩ := hD.a18 h18
      have hx18 : x18 = .pointer (some ⟨bk, 0, none⟩) := by simpa [upd] using e1
      have r7 : w4.ownsRow wr.heap.size 9 1 x11 a.axs.length (strW a.axs) := by simpa [upd] using hD.r11 h11
      have hbox : w4.heap[bk]? = some (.cells #[.string a.name, .slice none 0 0, x11, .string a.goal] 34 (0, 0)) := by simpa [upd] using e4 h19
      have n7 : x11.ownBlock ≠ some bk := by simpa [upd] using e7 h11
      have hb4 : Below wr.heap.size wr w4 := hD.bel
      obtain ⟨p7, c7, rfl⟩ := own_slice r7
      subst hx18
      obtain ⟨d0, d1, d2, d3, df⟩ := row4_cells hbox
      have zk := bsz e5
      have HR7 := Lib.hid r7
      have HBS := Lib.hid (And.intro e2 (And.intro n7 hb4))
      have hz4 := hb4.size
      obtain ⟨wA, hwA⟩ : ∃ q, q = wr := ⟨_, rfl⟩
      subst hwA
      have HB := Lib.hid hb
      have hrow0 : w4.ownsRow wA.heap.size 9 1 (.slice none 0 0) 0 (strW (canG lessB (renI old name (a.incs.take 0)))) := ⟨by simp [renI, canG, strW], .inl ⟨rfl, rfl⟩⟩
      have HROW0 := Lib.hid hrow0
      clear hD hL h11 h18 h19 e1 e2 e4 e5 e6 e7 n7 hx0 hx1 hx2 hx3 hb4 hb r7 hrow0
      cases hN : (a.name.toList == old.toList)
      · have hne : a.name ≠ old := fun e => by rw [e, beq_self_eq_true] at hN; cases hN
        have HM := Lib.hid (show RuMidR a old name wA.heap.size w4 bk (renS old name a.name) p7 c7 0 none 0 w4 from ⟨by rw [renS, if_neg hne]; exact hbox, HROW0.out, by simp [Value.ownBlock], by simp [Value.ownBlock], Kept.refl _ _⟩)
        clear hne hbox
        go_wp2
        go_loopw [11] (fun i wr' => ∃ (j : Nat) (p4 : Option Addr) (c4 : Nat), j ≤ a.incs.length ∧ i = .int .i64 j ∧ RuMidR a old name wA.heap.size w4 bk (renS old name a.name) p7 c7 j p4 c4 wr') (fun i _ => a.incs.length - (intOf i).toNat)
        case atStart => exact ⟨0, none, 0, Nat.zero_le _, rfl, HM.out⟩
        case round =>
          obtain ⟨j, p4, c4, hj, rfl, hm⟩ := hrel
          have HM2 := Lib.hid hm
          obtain ⟨f0, f1, f2, f3, ff⟩ := row4_cells hm.box
          have zq := bsz (blk_lt hm.box)
          have hq4 := hm.kept.size
          have hbA : Below wA.heap.size wA wr := Kept.belowB HBS.out.2.2 hm.kept (fun b hb => by rw [hb]; exact HBS.out.1)
          have hbW : Below w.heap.size w wr := Below.step HB.out hbA
          have g1 := cellQ hbW Y1.out
          have zg := bsz (World.block_lt_of_cell? _ _ g1)
          clear HM
          by_cases hjl : j < a.incs.length
          · obtain ⟨b', o', rfl, -, gs, -⟩ := (HI.out.below hbW).at_ hjl
            have HNW := Lib.hid (renI_new (old := old) (name := name) HRI.out.1 hjl)
            have HSN := Lib.hid (renI_snoc old name hjl)
            obtain ⟨y, hy⟩ : ∃ y, a.incs[j] = y := ⟨_, rfl⟩
            rw [hy] at gs HNW HSN
            have zs := bsz (World.block_lt_of_cell? _ _ gs)
            have hji : (j : Int) < a.incs.length := by omega
            have hcl : (canG lessB (renI old name (a.incs.take j))).length = j := by rw [canG_len, renI_len, List.length_take]; omega
            have HCL := Lib.hid hcl
            have HR0 := Lib.hid (own_lower hm.row (Nat.zero_le _))
            have HBA := Lib.hid hbA
            clear hm hy hcl hbA hbW
            cases hE : (y.toList == old.toList)
            · have HY := Lib.hid (show renS old name y = y from if_neg (fun e => by rw [e, beq_self_eq_true] at hE; cases hE))
              go_wp2_with fail
              refine (l2Put_any (canG lessB (renI old name (a.incs.take j))) _ _ _ (by rw [HCL.out]; exact HR0.out) (by have h := HNW.out; rw [HY.out] at h; exact h) (by rw [HCL.out]; omega)).mono ?_
              rintro e w5 ⟨v5, rfl, hr5, hb5⟩
              rw [HCL.out] at hr5
              obtain ⟨p5, c5, rfl⟩ := own_slice hr5
              have HR5 := Lib.hid (show w5.ownsRow wr.heap.size 9 1 (.slice p5 (j + 1) c5) (j + 1) (strW (canG lessB (renI old name (a.incs.take (j + 1))))) by rw [HSN.out, canG_snoc, HY.out]; exact hr5)
              have HBX5 := Lib.hid ((hb5.block bk (blk_lt HM2.out.box)).trans HM2.out.box)
              obtain ⟨g0, g1', g2, g3, gf⟩ := row4_cells HBX5.out
              have zq5 := bsz (blk_lt HBX5.out)
              have HB5 := Lib.hid hb5
              have hqa := HBA.out.size
              clear hr5 hb5 f0 f1 f2 f3 ff
              go_wp2
              refine ⟨⟨j + 1, p5, c5, by omega, by go_num, ⟨?_, ?_, ?_, ?_, ?_⟩⟩, by simp [intOf]; omega⟩
              · have := heap_setCell_same w5 bk 1 _ _ (.slice p5 (j + 1) c5) HBX5.out
                simpa using this
              · exact own_same (own_lower HR5.out hqa) fun g' hg' _ => heap_setCell_other w5 ⟨bk, 1, none⟩ g' _ (fun e => by have := own_base HR5.out g' hg'; have h2 : g' = bk := e; omega)
              · intro e; have := own_base HR5.out bk e; omega
              · intro g' hg' e; have h1 := own_base HR5.out g' hg'; have h2 := own_lt' HR7.out e; omega
              · exact (HM2.out.kept.below HB5.out).set rfl _ _
            · have HY := Lib.hid (show renS old name y = name from if_pos ((Lib.bytes_beq_iff y old).1 hE))
              go_wp2_with fail
              refine (l2Put_any (canG lessB (renI old name (a.incs.take j))) _ _ _ (by rw [HCL.out]; exact HR0.out) (by have h := HNW.out; rw [HY.out] at h; exact h) (by rw [HCL.out]; omega)).mono ?_
              rintro e w5 ⟨v5, rfl, hr5, hb5⟩
              rw [HCL.out] at hr5
              obtain ⟨p5, c5, rfl⟩ := own_slice hr5
              have HR5 := Lib.hid (show w5.ownsRow wr.heap.size 9 1 (.slice p5 (j + 1) c5) (j + 1) (strW (canG lessB (renI old name (a.incs.take (j + 1))))) by rw [HSN.out, canG_snoc, HY.out]; exact hr5)
              have HBX5 := Lib.hid ((hb5.block bk (blk_lt HM2.out.box)).trans HM2.out.box)
              obtain ⟨g0, g1', g2, g3, gf⟩ := row4_cells HBX5.out
              have zq5 := bsz (blk_lt HBX5.out)
              have HB5 := Lib.hid hb5
              have hqa := HBA.out.size
              clear hr5 hb5 f0 f1 f2 f3 ff
              go_wp2
              refine ⟨⟨j + 1, p5, c5, by omega, by go_num, ⟨?_, ?_, ?_, ?_, ?_⟩⟩, by simp [intOf]; omega⟩
              · have := heap_setCell_same w5 bk 1 _ _ (.slice p5 (j + 1) c5) HBX5.out
                simpa using this
              · exact own_same (own_lower HR5.out hqa) fun g' hg' _ => heap_setCell_other w5 ⟨bk, 1, none⟩ g' _ (fun e => by have := own_base HR5.out g' hg'; have h2 : g' = bk := e; omega)
              · intro e; have := own_base HR5.out bk e; omega
              · intro g' hg' e; have h1 := own_base HR5.out g' hg'; have h2 := own_lt' HR7.out e; omega
              · exact (HM2.out.kept.below HB5.out).set rfl _ _
          · obtain rfl : j = a.incs.length := by omega
            have hji : ¬ (a.incs.length : Int) < a.incs.length := by omega
            have hrw := hm.row
            rw [List.take_length] at hrw
            have hbase : w.heap.size ≤ wA.heap.size := HB.out.size
            have HX := Lib.hid (show UC.Own 9 w.heap.size wr ⟨renUn old name a, p4, c4, p7, c7⟩ from ⟨by show wr.ownsRow _ _ 1 (.slice p4 (canG lessB (renI old name a.incs)).length c4) (canG lessB (renI old name a.incs)).length _; rw [canG_len, renI_len]; exact own_lower hrw hbase, own_lower (own_same HR7.out fun g' hg' hl => hm.kept.block g' hl (fun e => HBS.out.2.1 (hg'.trans (congrArg some e)))) hbase, by show ∀ g, (Value.slice p4 (canG lessB (renI old name a.incs)).length c4).ownBlock = some g → (Value.slice p7 a.axs.length c7).ownBlock ≠ some g; rw [canG_len, renI_len]; exact hm.ap⟩)
            have HXB := Lib.hid (show ∀ b, UC.S ⟨renUn old name a, p4, c4, p7, c7⟩ b → wA.heap.size ≤ b from fun b hb => by
              rcases hb with hb | hb
              · have h' : (Value.slice p4 (canG lessB (renI old name a.incs)).length c4).ownBlock = some b := hb
                rw [canG_len, renI_len] at h'
                exact own_base hrw b h'
              · exact own_base HR7.out b hb)
            obtain ⟨wC, hwC⟩ : ∃ q, q = wr := ⟨_, rfl⟩
            subst hwC
            have HBX := Lib.hid hm.box
            have HBA := Lib.hid hbA
            have hqA := hbA.size
            clear hm hrw hbA hbW
            go_wp2
            clear g1 zg
            go_loopw [13] (fun t wr' => ∃ m : Nat, m ≤ k ∧ t = .int .i64 m ∧ (∀ z ∈ D.take m, lessB z.u.name (renS old name a.name) = true) ∧ Below wC.heap.size wC wr') (fun t _ => k - (intOf t).toNat)
            case atStart => exact ⟨0, Nat.zero_le _, rfl, by simp, by exact bel⟩
            case round =>
              obtain ⟨m, hmk, rfl, hle, hbm⟩ := hrel
              have HLE := Lib.hid hle
              have HBX2 := Lib.hid ((hbm.block bk (blk_lt HBX.out)).trans HBX.out)
              obtain ⟨m0, m1, m2, m3, mf⟩ := row4_cells HBX2.out
              have zm := bsz (blk_lt HBX2.out)
              have HOUT := Lib.hid (own_below (own_below HROW.out HBA.out) hbm)
              have HBM := Lib.hid hbm
              have hqm := hbm.size
              have hzg := bsz (own_lt HOUT.out)
              have hkc : k ≤ co := by
                rcases HOUT.out.2 with ⟨h1, -⟩ | ⟨_, _, _, h1, -, -, h2, -⟩
                · cases h1
                · cases h1; exact h2
              clear hle hbm f0 f1 f2 f3 ff zq
              by_cases hlm : m < k
              · obtain ⟨g', e', -, -, -, hcell⟩ := rowU_cell HOUT.out (by omega)
                obtain rfl : g = g' := by injection e' with e'; injection e'
                have c0 := (hcell m D[m] (List.getElem?_eq_getElem (by omega))).1
                have HTM := Lib.hid (List.take_succ_eq_append_getElem (show m < D.length by omega))
                obtain ⟨z, hz⟩ : ∃ z, D[m].u.name = z := ⟨_, rfl⟩
                rw [hz] at c0
                have HZ := Lib.hid hz
                have hmi : (m : Int) < k := by omega
                have hll : Op.bytesLess z.toList (renS old name a.name).toList = lessB z (renS old name a.name) := by rw [lessB, ByteArray.toList_eq, ByteArray.toList_eq]
                clear hz hcell
                cases hL : lessB z (renS old name a.name)
                · rw [hL] at hll
                  have HL := Lib.hid hL
                  clear hL
                  have hkm : (m : Int) ≤ co := by omega
                  have hkm2 : m ≤ co := by omega
                  have hkk : (k : Int) ≤ co := by omega
                  have hml : (m : Int) ≤ k := by omega
                  have hcm : co ≠ m := by omega
                  go_wp2_with fail
                  go_quiet (fail)
                  go_wp2
                  obtain ⟨wq, hwq⟩ : ∃ q, q = wr.drewN nq := ⟨_, rfl⟩
                  rw [← hwq]
                  have hbq : Below wr.heap.size wr wq := by rw [hwq]; exact bel
                  clear hwq
                  have n0 := cellQ hbq m0
                  have n1 := cellQ hbq m1
                  have n2 := cellQ hbq m2
                  have n3 := cellQ hbq m3
                  have zn := bsz (World.block_lt_of_cell? _ _ n0)
                  have HOQ := Lib.hid (own_below HOUT.out hbq)
                  have HBQ := Lib.hid (Below.step HBM.out hbq)
                  have hqq := hbq.size
                  clear m0 m1 m2 m3 mf
                  refine wp_region_any3 [none, some (.slice (some ⟨g, 0, none⟩) k co), some (.int .i64 (m : Nat)), some (.slice (some ⟨g, 0, none⟩) m co), none, some (.agg #[.string (renS old name a.name), .slice p4 a.incs.length c4, .slice p7 a.axs.length c7, .string a.goal]), none, none, some (.slice (some ⟨g, 0, none⟩) k co), some (.int .i64 (m : Nat)), some (.slice (some ⟨g, m * 4, none⟩) (k - m) (co - m)), none, none] (InsD 34 4 wq m (k + 1) (flatU (D.take m)) (flatU (D.drop m)) (#[.string (renS old name a.name), .slice p4 a.incs.length c4, .slice p7 a.axs.length c7, .string a.goal])) (by kernel_rfl) (by kernel_rfl) (fun L hL => InsD.start hL) ?_
                  refine flowV_ch rfl rfl (by intro u' hu' L w' hun hbe hD; go_simp; exact hD.b0 hun) ?_
                  intro x0
                  go_simp
                  refine flowV_st rfl rfl (by intro u' L w' hun hbe hD; go_simp; first | exact ⟨hD.other 1 (by decide), rfl⟩ | exact hD.other 1 (by decide)) ?_
                  go_simp
                  refine flowV_st rfl rfl (by intro u' L w' hun hbe hD; go_simp; first | exact ⟨hD.other 2 (by decide), rfl⟩ | exact hD.other 2 (by decide)) ?_
                  go_simp
                  refine flowV_st rfl rfl (by intro u' L w' hun hbe hD; go_simp; first | exact ⟨hD.other 3 (by decide), rfl⟩ | exact hD.other 3 (by decide)) ?_
                  go_simp
                  refine flowV_ch rfl rfl ?_ ?_
                  · intro u' hu' L w' hun hbe hD
                    have hu0 : u' 0 = x0 := (after_eq hu' (by kernel_rfl)).trans (by simp [upd])
                    have h0 := after_behind hbe (p := 0) (by kernel_rfl)
                    have hw := hD.bel
                    refine each_app (.tmp 109) (.tmp 112) 24 rfl wq.heap.size 34 4 80 elemUnit (u' 0) 0 [] (by rw [hu0]; rfl) _ m (flatU (D.take m)) rfl ((srcU_head HOQ.out (Nat.le_of_lt hlm) co).below hw) (hD.r0 h0 (getD_tf hun)) (by first | exact flatU_cell _ | simp) (by omega) (by unfold maxLen; omega) hw.size ?_
                    intro v' w2 hr hg hn
                    exact hD.a4 hun h0 hr hg hn
                  intro x4
                  go_simp
                  refine flowV_st rfl rfl (by intro u' L w' hun hbe hD; have hw := hD.bel; have e0 := cellQ hw n0; have e1 := cellQ hw n1; have e2 := cellQ hw n2; have e3 := cellQ hw n3; have ze := bsz (World.block_lt_of_cell? _ _ e0); go_simp; first | exact ⟨hD.other 5 (by decide), rfl⟩ | exact hD.other 5 (by decide)) ?_
                  go_simp
                  refine flowV_ch rfl rfl (by intro u' hu' L w' hun hbe hD; go_simp; exact hD.b6 hun) ?_
                  intro x6
                  go_simp
                  refine flowV_ch rfl rfl ?_ ?_
                  · intro u' hu' L w' hun hbe hD
                    have hu4 : u' 4 = x4 := (after_eq hu' (by kernel_rfl)).trans (by simp [upd])
                    have hu6 : u' 6 = x6 := (after_eq hu' (by kernel_rfl)).trans (by simp [upd])
                    have h4 := after_behind hbe (p := 4) (by kernel_rfl)
                    have h6 := after_behind hbe (p := 6) (by kernel_rfl)
                    have hw := hD.bel
                    obtain ⟨q, hq, hqc, -, -⟩ := hD.r6 h6 (getD_tf hun)
                    refine each_app (.tmp 113) (.tmp 115) 24 rfl wq.heap.size 34 4 80 elemUnit (u' 4) m (flatU (D.take m)) (by rw [hu4]; rfl) (.slice (some ⟨q, 0, none⟩) 1 1) 1 (#[.string (renS old name a.name), .slice p4 a.incs.length c4, .slice p7 a.axs.length c7, .string a.goal]).toList (by rw [← hq, hu6]; rfl) (src_block hqc (by simp)) (hD.r4 h4 (getD_tf hun)) (by simp [Value.oneCell']) (by omega) (by unfold maxLen; omega) hw.size ?_
                    intro v' w2 hr hg hn
                    exact hD.a7 hun h4 h6 hr hg
                  intro x7
                  go_simp
                  refine flowV_st rfl rfl (by intro u' L w' hun hbe hD; go_simp; first | exact ⟨hD.other 8 (by decide), rfl⟩ | exact hD.other 8 (by decide)) ?_
                  go_simp
                  refine flowV_st rfl rfl (by intro u' L w' hun hbe hD; go_simp; first | exact ⟨hD.other 9 (by decide), rfl⟩ | exact hD.other 9 (by decide)) ?_
                  go_simp
                  refine flowV_st rfl rfl (by intro u' L w' hun hbe hD; go_simp; first | exact ⟨hD.other 10 (by decide), rfl⟩ | exact hD.other 10 (by decide)) ?_
                  go_simp
                  refine flowV_ch rfl rfl ?_ ?_
                  · intro u' hu' L w' hun hbe hD
                    have hu7 : u' 7 = x7 := (after_eq hu' (by kernel_rfl)).trans (by simp [upd])
                    have h7 := after_behind hbe (p := 7) (by kernel_rfl)
                    have hw := hD.bel
                    refine each_app (.tmp 116) (.tmp 119) 24 rfl wq.heap.size 34 4 80 elemUnit (u' 7) (m + 1) ((flatU (D.take m)) ++ (#[.string (renS old name a.name), .slice p4 a.incs.length c4, .slice p7 a.axs.length c7, .string a.goal]).toList) (by rw [hu7]; rfl) _ ((k + 1) - (m + 1)) (flatU (D.drop m)) rfl ((srcU_tail HOQ.out (Nat.le_of_lt hlm) (co - m)).below hw) (hD.r7 h7 (getD_tf hun)) (by first | exact flatU_cell _ | simp) (by omega) (by unfold maxLen; omega) hw.size ?_
                    intro v' w2 hr hg hn
                    rw [show m + 1 + ((k + 1) - (m + 1)) = (k + 1) by omega] at hr
                    exact hD.a11 hun h7 hr hg
                  intro x11
                  go_simp
                  refine flowV_ch rfl rfl ?_ ?_
                  · intro u' hu' L w' hun hbe hD
                    have hu11 : u' 11 = x11 := (after_eq hu' (by kernel_rfl)).trans (by simp [upd])
                    have h11 := after_behind hbe (p := 11) (by kernel_rfl)
                    go_simp
                    rw [← hu11]
                    exact hD.m12 hun h11
                  intro x12
                  go_simp
                  refine flowV_nil ?_
                  intro L w3 hL hD
                  have hx12 : x12 = x11 := by have := hD.r12 (by simpa using hL 12 (by simp)); simpa [upd] using this
                  have hrow : w3.ownsRow wq.heap.size 34 4 x11 (k + 1) ((flatU (D.take m)) ++ (#[.string (renS old name a.name), .slice p4 a.incs.length c4, .slice p7 a.axs.length c7, .string a.goal]).toList ++ (flatU (D.drop m))) := by have := hD.r11 (by simpa using hL 11 (by simp)); simpa [upd] using this
                  have hbel3 := hD.bel
                  subst hx12
                  have hrow2 : w3.ownsRow wq.heap.size 34 4 x12 (k + 1) (flatU (D.take m ++ ⟨renUn old name a, p4, c4, p7, c7⟩ :: D.drop m)) := by
                    have hcs : flatU [(⟨renUn old name a, p4, c4, p7, c7⟩ : UC)] = [.string (renS old name a.name), .slice p4 a.incs.length c4, .slice p7 a.axs.length c7, .string a.goal] := by
                      show [Value.string (renS old name a.name), .slice p4 (canG lessB (renI old name a.incs)).length c4, .slice p7 a.axs.length c7, .string a.goal] ++ [] = _
                      rw [canG_len, renI_len]; rfl
                    have e : flatU (D.take m ++ ⟨renUn old name a, p4, c4, p7, c7⟩ :: D.drop m) = flatU (D.take m) ++ flatU [(⟨renUn old name a, p4, c4, p7, c7⟩ : UC)] ++ flatU (D.drop m) := by rw [← flatU_app, ← flatU_app]; simp
                    rw [e, hcs]; exact hrow
                  obtain ⟨g', c', rfl⟩ := own_some hrow2 (by omega)
                  have HROW2 := Lib.hid hrow2
                  have HB3 := Lib.hid hbel3
                  have hqe := hbel3.size
                  clear hrow hrow2 hbel3
                  go_wp2
                  refine ⟨⟨k + 1, D.take m ++ ⟨renUn old name a, p4, c4, p7, c7⟩ :: D.drop m, g', c', by omega, by go_num, rfl, ?_, ?_, ?_, ?_⟩, by simp [intOf]; omega⟩
                  · rw [HTK.out, List.map_append (l₁ := l.take k), List.map_cons, List.map_nil, canG_snoc, ← HD.out, insG_stop (lt := lessU) (renUn old name a) (D.map UC.u) m (fun y hy => by rw [← List.map_take] at hy; obtain ⟨z, hz, rfl⟩ := List.mem_map.1 hy; exact HLE.out z hz) (.inr ⟨by rw [List.length_map]; omega, by rw [List.getElem_map]; show lessB D[m].u.name _ = false; rw [HZ.out]; exact HL.out⟩), List.map_append, List.map_cons, List.map_take, List.map_drop]
                  · exact own_lower HROW2.out (by omega)
                  · have hb2 : Below wC.heap.size wC w3 := Below.step HBQ.out HB3.out
                    have hfD : ∀ z ∈ D, ∀ b, z.S b → b < wA.heap.size := fun z hz b hb => ((HUNS.out.each z hz).blk hb).2
                    have hall : Uns 9 w.heap.size w3 (.slice (some ⟨g', 0, none⟩) (k + 1) c') (D ++ [⟨renUn old name a, p4, c4, p7, c7⟩]) :=
                      (((HUNS.out.below HBA.out).below hb2).row (fun z hz b hb e => by have h1 := own_base HROW2.out b e; have h2 := hfD z hz b hb; omega)).snoc (HX.out.same (fun b _ hl => hb2.block b hl)) (fun b hb e => by have h1 := own_base HROW2.out b e; have h2 := (HX.out.blk hb).2; omega) (fun y hy b h1 h2 => by have h3 := HXB.out b h2; have h4 := hfD y hy b h1; omega)
                    exact hall.perm (List.perm_middle.trans (by rw [List.take_append_drop]; exact (List.perm_append_singleton _ D).symm))
                  · exact Below.step (Below.step (Below.step HB.out HBA.out) HBQ.out) HB3.out
                · rw [hL] at hll
                  have HL := Lib.hid hL
                  clear hL
                  go_wp2_with fail
                  go_quiet (fail)
                  go_wp2
                  refine ⟨⟨m + 1, by omega, by go_num, fun q hq => ?_, by exact bel⟩, by simp [intOf]; omega⟩
                  rw [HTM.out] at hq
                  rcases List.mem_append.1 hq with hq | hq
                  · exact HLE.out q hq
                  · obtain rfl : q = D[m] := by simpa using hq
                    rw [HZ.out]; exact HL.out
              · obtain rfl : k = m := by omega
                have hkk : (k : Int) ≤ co := by omega
                have hmi : ¬ (k : Int) < k := by omega
                by_cases hck : k = co
                · subst hck
                  go_wp2_with fail
                  go_quiet (fail)
                  go_wp2
                  obtain ⟨wq, hwq⟩ : ∃ q, q = wr.drewN nq := ⟨_, rfl⟩
                  rw [← hwq]
                  have hbq : Below wr.heap.size wr wq := by rw [hwq]; exact bel
                  clear hwq
                  have n0 := cellQ hbq m0
                  have n1 := cellQ hbq m1
                  have n2 := cellQ hbq m2
                  have n3 := cellQ hbq m3
                  have zn := bsz (World.block_lt_of_cell? _ _ n0)
                  have HOQ := Lib.hid (own_below HOUT.out hbq)
                  have HBQ := Lib.hid (Below.step HBM.out hbq)
                  have hqq := hbq.size
                  clear m0 m1 m2 m3 mf
                  refine wp_region_any3 [none, some (.slice (some ⟨g, 0, none⟩) k k), some (.int .i64 (k : Nat)), some (.slice (some ⟨g, 0, none⟩) k k), none, some (.agg #[.string (renS old name a.name), .slice p4 a.incs.length c4, .slice p7 a.axs.length c7, .string a.goal]), none, none, some (.slice (some ⟨g, 0, none⟩) k k), some (.int .i64 (k : Nat)), some (.slice (some ⟨g, 0, none⟩) 0 0), none, none] (InsD 34 4 wq k (k + 1) (flatU (D.take k)) (flatU (D.drop k)) (#[.string (renS old name a.name), .slice p4 a.incs.length c4, .slice p7 a.axs.length c7, .string a.goal])) (by kernel_rfl) (by kernel_rfl) (fun L hL => InsD.start hL) ?_
                  refine flowV_ch rfl rfl (by intro u' hu' L w' hun hbe hD; go_simp; exact hD.b0 hun) ?_
                  intro x0
                  go_simp
                  refine flowV_st rfl rfl (by intro u' L w' hun hbe hD; go_simp; first | exact ⟨hD.other 1 (by decide), rfl⟩ | exact hD.other 1 (by decide)) ?_
                  go_simp
                  refine flowV_st rfl rfl (by intro u' L w' hun hbe hD; go_simp; first | exact ⟨hD.other 2 (by decide), rfl⟩ | exact hD.other 2 (by decide)) ?_
                  go_simp
                  refine flowV_st rfl rfl (by intro u' L w' hun hbe hD; go_simp; first | exact ⟨hD.other 3 (by decide), rfl⟩ | exact hD.other 3 (by decide)) ?_
                  go_simp
                  refine flowV_ch rfl rfl ?_ ?_
                  · intro u' hu' L w' hun hbe hD
                    have hu0 : u' 0 = x0 := (after_eq hu' (by kernel_rfl)).trans (by simp [upd])
                    have h0 := after_behind hbe (p := 0) (by kernel_rfl)
                    have hw := hD.bel
                    refine each_app (.tmp 109) (.tmp 112) 24 rfl wq.heap.size 34 4 80 elemUnit (u' 0) 0 [] (by rw [hu0]; rfl) _ k (flatU (D.take k)) rfl ((srcU_head HOQ.out (Nat.le_refl _) k).below hw) (hD.r0 h0 (getD_tf hun)) (by first | exact flatU_cell _ | simp) (by omega) (by unfold maxLen; omega) hw.size ?_
                    intro v' w2 hr hg hn
                    exact hD.a4 hun h0 hr hg hn
                  intro x4
                  go_simp
                  refine flowV_st rfl rfl (by intro u' L w' hun hbe hD; have hw := hD.bel; have e0 := cellQ hw n0; have e1 := cellQ hw n1; have e2 := cellQ hw n2; have e3 := cellQ hw n3; have ze := bsz (World.block_lt_of_cell? _ _ e0); go_simp; first | exact ⟨hD.other 5 (by decide), rfl⟩ | exact hD.other 5 (by decide)) ?_
                  go_simp
                  refine flowV_ch rfl rfl (by intro u' hu' L w' hun hbe hD; go_simp; exact hD.b6 hun) ?_
                  intro x6
                  go_simp
                  refine flowV_ch rfl rfl ?_ ?_
                  · intro u' hu' L w' hun hbe hD
                    have hu4 : u' 4 = x4 := (after_eq hu' (by kernel_rfl)).trans (by simp [upd])
                    have hu6 : u' 6 = x6 := (after_eq hu' (by kernel_rfl)).trans (by simp [upd])
                    have h4 := after_behind hbe (p := 4) (by kernel_rfl)
                    have h6 := after_behind hbe (p := 6) (by kernel_rfl)
                    have hw := hD.bel
                    obtain ⟨q, hq, hqc, -, -⟩ := hD.r6 h6 (getD_tf hun)
                    refine each_app (.tmp 113) (.tmp 115) 24 rfl wq.heap.size 34 4 80 elemUnit (u' 4) k (flatU (D.take k)) (by rw [hu4]; rfl) (.slice (some ⟨q, 0, none⟩) 1 1) 1 (#[.string (renS old name a.name), .slice p4 a.incs.length c4, .slice p7 a.axs.length c7, .string a.goal]).toList (by rw [← hq, hu6]; rfl) (src_block hqc (by simp)) (hD.r4 h4 (getD_tf hun)) (by simp [Value.oneCell']) (by omega) (by unfold maxLen; omega) hw.size ?_
                    intro v' w2 hr hg hn
                    exact hD.a7 hun h4 h6 hr hg
                  intro x7
                  go_simp
                  refine flowV_st rfl rfl (by intro u' L w' hun hbe hD; go_simp; first | exact ⟨hD.other 8 (by decide), rfl⟩ | exact hD.other 8 (by decide)) ?_
                  go_simp
                  refine flowV_st rfl rfl (by intro u' L w' hun hbe hD; go_simp; first | exact ⟨hD.other 9 (by decide), rfl⟩ | exact hD.other 9 (by decide)) ?_
                  go_simp
                  refine flowV_st rfl rfl (by intro u' L w' hun hbe hD; go_simp; first | exact ⟨hD.other 10 (by decide), rfl⟩ | exact hD.other 10 (by decide)) ?_
                  go_simp
                  refine flowV_ch rfl rfl ?_ ?_
                  · intro u' hu' L w' hun hbe hD
                    have hu7 : u' 7 = x7 := (after_eq hu' (by kernel_rfl)).trans (by simp [upd])
                    have h7 := after_behind hbe (p := 7) (by kernel_rfl)
                    have hw := hD.bel
                    refine each_app (.tmp 116) (.tmp 119) 24 rfl wq.heap.size 34 4 80 elemUnit (u' 7) (k + 1) ((flatU (D.take k)) ++ (#[.string (renS old name a.name), .slice p4 a.incs.length c4, .slice p7 a.axs.length c7, .string a.goal]).toList) (by rw [hu7]; rfl) _ ((k + 1) - (k + 1)) (flatU (D.drop k)) rfl (srcU_nil hDk) (hD.r7 h7 (getD_tf hun)) (by first | exact flatU_cell _ | simp) (by omega) (by unfold maxLen; omega) hw.size ?_
                    intro v' w2 hr hg hn
                    rw [show k + 1 + ((k + 1) - (k + 1)) = (k + 1) by omega] at hr
                    exact hD.a11 hun h7 hr hg
                  intro x11
                  go_simp
                  refine flowV_ch rfl rfl ?_ ?_
                  · intro u' hu' L w' hun hbe hD
                    have hu11 : u' 11 = x11 := (after_eq hu' (by kernel_rfl)).trans (by simp [upd])
                    have h11 := after_behind hbe (p := 11) (by kernel_rfl)
                    go_simp
                    rw [← hu11]
                    exact hD.m12 hun h11
                  intro x12
                  go_simp
                  refine flowV_nil ?_
                  intro L w3 hL hD
                  have hx12 : x12 = x11 := by have := hD.r12 (by simpa using hL 12 (by simp)); simpa [upd] using this
                  have hrow : w3.ownsRow wq.heap.size 34 4 x11 (k + 1) ((flatU (D.take k)) ++ (#[.string (renS old name a.name), .slice p4 a.incs.length c4, .slice p7 a.axs.length c7, .string a.goal]).toList ++ (flatU (D.drop k))) := by have := hD.r11 (by simpa using hL 11 (by simp)); simpa [upd] using this
                  have hbel3 := hD.bel
                  subst hx12
                  have hrow2 : w3.ownsRow wq.heap.size 34 4 x12 (k + 1) (flatU (D.take k ++ ⟨renUn old name a, p4, c4, p7, c7⟩ :: D.drop k)) := by
                    have hcs : flatU [(⟨renUn old name a, p4, c4, p7, c7⟩ : UC)] = [.string (renS old name a.name), .slice p4 a.incs.length c4, .slice p7 a.axs.length c7, .string a.goal] := by
                      show [Value.string (renS old name a.name), .slice p4 (canG lessB (renI old name a.incs)).length c4, .slice p7 a.axs.length c7, .string a.goal] ++ [] = _
                      rw [canG_len, renI_len]; rfl
                    have e : flatU (D.take k ++ ⟨renUn old name a, p4, c4, p7, c7⟩ :: D.drop k) = flatU (D.take k) ++ flatU [(⟨renUn old name a, p4, c4, p7, c7⟩ : UC)] ++ flatU (D.drop k) := by rw [← flatU_app, ← flatU_app]; simp
                    rw [e, hcs]; exact hrow
                  obtain ⟨g', c', rfl⟩ := own_some hrow2 (by omega)
                  have HROW2 := Lib.hid hrow2
                  have HB3 := Lib.hid hbel3
                  have hqe := hbel3.size
                  clear hrow hrow2 hbel3
                  go_wp2
                  refine ⟨⟨k + 1, D.take k ++ ⟨renUn old name a, p4, c4, p7, c7⟩ :: D.drop k, g', c', by omega, by go_num, rfl, ?_, ?_, ?_, ?_⟩, by simp [intOf]; omega⟩
                  · rw [HTK.out, List.map_append (l₁ := l.take k), List.map_cons, List.map_nil, canG_snoc, ← HD.out, insG_stop (lt := lessU) (renUn old name a) (D.map UC.u) k (fun y hy => by rw [← List.map_take] at hy; obtain ⟨z, hz, rfl⟩ := List.mem_map.1 hy; exact HLE.out z hz) (.inl (by rw [List.length_map]; omega)), List.map_append, List.map_cons, List.map_take, List.map_drop]
                  · exact own_lower HROW2.out (by omega)
                  · have hb2 : Below wC.heap.size wC w3 := Below.step HBQ.out HB3.out
                    have hfD : ∀ z ∈ D, ∀ b, z.S b → b < wA.heap.size := fun z hz b hb => ((HUNS.out.each z hz).blk hb).2
                    have hall : Uns 9 w.heap.size w3 (.slice (some ⟨g', 0, none⟩) (k + 1) c') (D ++ [⟨renUn old name a, p4, c4, p7, c7⟩]) :=
                      (((HUNS.out.below HBA.out).below hb2).row (fun z hz b hb e => by have h1 := own_base HROW2.out b e; have h2 := hfD z hz b hb; omega)).snoc (HX.out.same (fun b _ hl => hb2.block b hl)) (fun b hb e => by have h1 := own_base HROW2.out b e; have h2 := (HX.out.blk hb).2; omega) (fun y hy b h1 h2 => by have h3 := HXB.out b h2; have h4 := hfD y hy b h1; omega)
                    exact hall.perm (List.perm_middle.trans (by rw [List.take_append_drop]; exact (List.perm_append_singleton _ D).symm))
                  · exact Below.step (Below.step (Below.step HB.out HBA.out) HBQ.out) HB3.out
                · have hcm : co ≠ k := fun e => hck e.symm
                  go_wp2_with fail
                  go_quiet (fail)
                  go_wp2
                  obtain ⟨wq, hwq⟩ : ∃ q, q = wr.drewN nq := ⟨_, rfl⟩
                  rw [← hwq]
                  have hbq : Below wr.heap.size wr wq := by rw [hwq]; exact bel
                  clear hwq
                  have n0 := cellQ hbq m0
                  have n1 := cellQ hbq m1
                  have n2 := cellQ hbq m2
                  have n3 := cellQ hbq m3
                  have zn := bsz (World.block_lt_of_cell? _ _ n0)
                  have HOQ := Lib.hid (own_below HOUT.out hbq)
                  have HBQ := Lib.hid (Below.step HBM.out hbq)
                  have hqq := hbq.size
                  clear m0 m1 m2 m3 mf
                  refine wp_region_any3 [none, some (.slice (some ⟨g, 0, none⟩) k co), some (.int .i64 (k : Nat)), some (.slice (some ⟨g, 0, none⟩) k co), none, some (.agg #[.string (renS old name a.name), .slice p4 a.incs.length c4, .slice p7 a.axs.length c7, .string a.goal]), none, none, some (.slice (some ⟨g, 0, none⟩) k co), some (.int .i64 (k : Nat)), some (.slice (some ⟨g, k * 4, none⟩) 0 (co - k)), none, none] (InsD 34 4 wq k (k + 1) (flatU (D.take k)) (flatU (D.drop k)) (#[.string (renS old name a.name), .slice p4 a.incs.length c4, .slice p7 a.axs.length c7, .string a.goal])) (by kernel_rfl) (by kernel_rfl) (fun L hL => InsD.start hL) ?_
                  refine flowV_ch rfl rfl (by intro u' hu' L w' hun hbe hD; go_simp; exact hD.b0 hun) ?_
                  intro x0
                  go_simp
                  refine flowV_st rfl rfl (by intro u' L w' hun hbe hD; go_simp; first | exact ⟨hD.other 1 (by decide), rfl⟩ | exact hD.other 1 (by decide)) ?_
                  go_simp
                  refine flowV_st rfl rfl (by intro u' L w' hun hbe hD; go_simp; first | exact ⟨hD.other 2 (by decide), rfl⟩ | exact hD.other 2 (by decide)) ?_
                  go_simp
                  refine flowV_st rfl rfl (by intro u' L w' hun hbe hD; go_simp; first | exact ⟨hD.other 3 (by decide), rfl⟩ | exact hD.other 3 (by decide)) ?_
                  go_simp
                  refine flowV_ch rfl rfl ?_ ?_
                  · intro u' hu' L w' hun hbe hD
                    have hu0 : u' 0 = x0 := (after_eq hu' (by kernel_rfl)).trans (by simp [upd])
                    have h0 := after_behind hbe (p := 0) (by kernel_rfl)
                    have hw := hD.bel
                    refine each_app (.tmp 109) (.tmp 112) 24 rfl wq.heap.size 34 4 80 elemUnit (u' 0) 0 [] (by rw [hu0]; rfl) _ k (flatU (D.take k)) rfl ((srcU_head HOQ.out (Nat.le_refl _) co).below hw) (hD.r0 h0 (getD_tf hun)) (by first | exact flatU_cell _ | simp) (by omega) (by unfold maxLen; omega) hw.size ?_
                    intro v' w2 hr hg hn
                    exact hD.a4 hun h0 hr hg hn
                  intro x4
                  go_simp
                  refine flowV_st rfl rfl (by intro u' L w' hun hbe hD; have hw := hD.bel; have e0 := cellQ hw n0; have e1 := cellQ hw n1; have e2 := cellQ hw n2; have e3 := cellQ hw n3; have ze := bsz (World.block_lt_of_cell? _ _ e0); go_simp; first | exact ⟨hD.other 5 (by decide), rfl⟩ | exact hD.other 5 (by decide)) ?_
                  go_simp
                  refine flowV_ch rfl rfl (by intro u' hu' L w' hun hbe hD; go_simp; exact hD.b6 hun) ?_
                  intro x6
                  go_simp
                  refine flowV_ch rfl rfl ?_ ?_
                  · intro u' hu' L w' hun hbe hD
                    have hu4 : u' 4 = x4 := (after_eq hu' (by kernel_rfl)).trans (by simp [upd])
                    have hu6 : u' 6 = x6 := (after_eq hu' (by kernel_rfl)).trans (by simp [upd])
                    have h4 := after_behind hbe (p := 4) (by kernel_rfl)
                    have h6 := after_behind hbe (p := 6) (by kernel_rfl)
                    have hw := hD.bel
                    obtain ⟨q, hq, hqc, -, -⟩ := hD.r6 h6 (getD_tf hun)
                    refine each_app (.tmp 113) (.tmp 115) 24 rfl wq.heap.size 34 4 80 elemUnit (u' 4) k (flatU (D.take k)) (by rw [hu4]; rfl) (.slice (some ⟨q, 0, none⟩) 1 1) 1 (#[.string (renS old name a.name), .slice p4 a.incs.length c4, .slice p7 a.axs.length c7, .string a.goal]).toList (by rw [← hq, hu6]; rfl) (src_block hqc (by simp)) (hD.r4 h4 (getD_tf hun)) (by simp [Value.oneCell']) (by omega) (by unfold maxLen; omega) hw.size ?_
                    intro v' w2 hr hg hn
                    exact hD.a7 hun h4 h6 hr hg
                  intro x7
                  go_simp
                  refine flowV_st rfl rfl (by intro u' L w' hun hbe hD; go_simp; first | exact ⟨hD.other 8 (by decide), rfl⟩ | exact hD.other 8 (by decide)) ?_
                  go_simp
                  refine flowV_st rfl rfl (by intro u' L w' hun hbe hD; go_simp; first | exact ⟨hD.other 9 (by decide), rfl⟩ | exact hD.other 9 (by decide)) ?_
                  go_simp
                  refine flowV_st rfl rfl (by intro u' L w' hun hbe hD; go_simp; first | exact ⟨hD.other 10 (by decide), rfl⟩ | exact hD.other 10 (by decide)) ?_
                  go_simp
                  refine flowV_ch rfl rfl ?_ ?_
                  · intro u' hu' L w' hun hbe hD
                    have hu7 : u' 7 = x7 := (after_eq hu' (by kernel_rfl)).trans (by simp [upd])
                    have h7 := after_behind hbe (p := 7) (by kernel_rfl)
                    have hw := hD.bel
                    refine each_app (.tmp 116) (.tmp 119) 24 rfl wq.heap.size 34 4 80 elemUnit (u' 7) (k + 1) ((flatU (D.take k)) ++ (#[.string (renS old name a.name), .slice p4 a.incs.length c4, .slice p7 a.axs.length c7, .string a.goal]).toList) (by rw [hu7]; rfl) _ ((k + 1) - (k + 1)) (flatU (D.drop k)) rfl (srcU_nil hDk) (hD.r7 h7 (getD_tf hun)) (by first | exact flatU_cell _ | simp) (by omega) (by unfold maxLen; omega) hw.size ?_
                    intro v' w2 hr hg hn
                    rw [show k + 1 + ((k + 1) - (k + 1)) = (k + 1) by omega] at hr
                    exact hD.a11 hun h7 hr hg
                  intro x11
                  go_simp
                  refine flowV_ch rfl rfl ?_ ?_
                  · intro u' hu' L w' hun hbe hD
                    have hu11 : u' 11 = x11 := (after_eq hu' (by kernel_rfl)).trans (by simp [upd])
                    have h11 := after_behind hbe (p := 11) (by kernel_rfl)
                    go_simp
                    rw [← hu11]
                    exact hD.m12 hun h11
                  intro x12
                  go_simp
                  refine flowV_nil ?_
                  intro L w3 hL hD
                  have hx12 : x12 = x11 := by have := hD.r12 (by simpa using hL 12 (by simp)); simpa [upd] using this
                  have hrow : w3.ownsRow wq.heap.size 34 4 x11 (k + 1) ((flatU (D.take k)) ++ (#[.string (renS old name a.name), .slice p4 a.incs.length c4, .slice p7 a.axs.length c7, .string a.goal]).toList ++ (flatU (D.drop k))) := by have := hD.r11 (by simpa using hL 11 (by simp)); simpa [upd] using this
                  have hbel3 := hD.bel
                  subst hx12
                  have hrow2 : w3.ownsRow wq.heap.size 34 4 x12 (k + 1) (flatU (D.take k ++ ⟨renUn old name a, p4, c4, p7, c7⟩ :: D.drop k)) := by
                    have hcs : flatU [(⟨renUn old name a, p4, c4, p7, c7⟩ : UC)] = [.string (renS old name a.name), .slice p4 a.incs.length c4, .slice p7 a.axs.length c7, .string a.goal] := by
                      show [Value.string (renS old name a.name), .slice p4 (canG lessB (renI old name a.incs)).length c4, .slice p7 a.axs.length c7, .string a.goal] ++ [] = _
                      rw [canG_len, renI_len]; rfl
                    have e : flatU (D.take k ++ ⟨renUn old name a, p4, c4, p7, c7⟩ :: D.drop k) = flatU (D.take k) ++ flatU [(⟨renUn old name a, p4, c4, p7, c7⟩ : UC)] ++ flatU (D.drop k) := by rw [← flatU_app, ← flatU_app]; simp
                    rw [e, hcs]; exact hrow
                  obtain ⟨g', c', rfl⟩ := own_some hrow2 (by omega)
                  have HROW2 := Lib.hid hrow2
                  have HB3 := Lib.hid hbel3
                  have hqe := hbel3.size
                  clear hrow hrow2 hbel3
                  go_wp2
                  refine ⟨⟨k + 1, D.take k ++ ⟨renUn old name a, p4, c4, p7, c7⟩ :: D.drop k, g', c', by omega, by go_num, rfl, ?_, ?_, ?_, ?_⟩, by simp [intOf]; omega⟩
                  · rw [HTK.out, List.map_append (l₁ := l.take k), List.map_cons, List.map_nil, canG_snoc, ← HD.out, insG_stop (lt := lessU) (renUn old name a) (D.map UC.u) k (fun y hy => by rw [← List.map_take] at hy; obtain ⟨z, hz, rfl⟩ := List.mem_map.1 hy; exact HLE.out z hz) (.inl (by rw [List.length_map]; omega)), List.map_append, List.map_cons, List.map_take, List.map_drop]
                  · exact own_lower HROW2.out (by omega)
                  · have hb2 : Below wC.heap.size wC w3 := Below.step HBQ.out HB3.out
                    have hfD : ∀ z ∈ D, ∀ b, z.S b → b < wA.heap.size := fun z hz b hb => ((HUNS.out.each z hz).blk hb).2
                    have hall : Uns 9 w.heap.size w3 (.slice (some ⟨g', 0, none⟩) (k + 1) c') (D ++ [⟨renUn old name a, p4, c4, p7, c7⟩]) :=
                      (((HUNS.out.below HBA.out).below hb2).row (fun z hz b hb e => by have h1 := own_base HROW2.out b e; have h2 := hfD z hz b hb; omega)).snoc (HX.out.same (fun b _ hl => hb2.block b hl)) (fun b hb e => by have h1 := own_base HROW2.out b e; have h2 := (HX.out.blk hb).2; omega) (fun y hy b h1 h2 => by have h3 := HXB.out b h2; have h4 := hfD y hy b h1; omega)
                    exact hall.perm (List.perm_middle.trans (by rw [List.take_append_drop]; exact (List.perm_append_singleton _ D).symm))
                  · exact Below.step (Below.step (Below.step HB.out HBA.out) HBQ.out) HB3.out
      · have he : a.name = old := (Lib.bytes_beq_iff a.name old).1 hN
        have HM := Lib.hid (show RuMidR a old name wA.heap.size w4 bk (renS old name a.name) p7 c7 0 none 0 (w4.setCell ⟨bk, 0, none⟩ (.string name)) from ⟨by rw [renS, if_pos he]; have := heap_setCell_same w4 bk 0 _ _ (.string name) hbox; simpa using this, own_same HROW0.out fun g hg _ => by simp [Value.ownBlock] at hg, by simp [Value.ownBlock], by simp [Value.ownBlock], Kept.set (S := fun b => b = bk) (Kept.refl _ _) rfl _ _⟩)
        clear he hbox
        go_wp2
        go_loopw [11] (fun i wr' => ∃ (j : Nat) (p4 : Option Addr) (c4 : Nat), j ≤ a.incs.length ∧ i = .int .i64 j ∧ RuMidR a old name wA.heap.size w4 bk (renS old name a.name) p7 c7 j p4 c4 wr') (fun i _ => a.incs.length - (intOf i).toNat)
        case atStart => exact ⟨0, none, 0, Nat.zero_le _, rfl, HM.out⟩
        case round =>
          obtain ⟨j, p4, c4, hj, rfl, hm⟩ := hrel
          have HM2 := Lib.hid hm
          obtain ⟨f0, f1, f2, f3, ff⟩ := row4_cells hm.box
          have zq := bsz (blk_lt hm.box)
          have hq4 := hm.kept.size
          have hbA : Below wA.heap.size wA wr := Kept.belowB HBS.out.2.2 hm.kept (fun b hb => by rw [hb]; exact HBS.out.1)
          have hbW : Below w.heap.size w wr := Below.step HB.out hbA
          have g1 := cellQ hbW Y1.out
          have zg := bsz (World.block_lt_of_cell? _ _ g1)
          clear HM
          by_cases hjl : j < a.incs.length
          · obtain ⟨b', o', rfl, -, gs, -⟩ := (HI.out.below hbW).at_ hjl
            have HNW := Lib.hid (renI_new (old := old) (name := name) HRI.out.1 hjl)
            have HSN := Lib.hid (renI_snoc old name hjl)
            obtain ⟨y, hy⟩ : ∃ y, a.incs[j] = y := ⟨_, rfl⟩
            rw [hy] at gs HNW HSN
            have zs := bsz (World.block_lt_of_cell? _ _ gs)
            have hji : (j : Int) < a.incs.length := by omega
            have hcl : (canG lessB (renI old name (a.incs.take j))).length = j := by rw [canG_len, renI_len, List.length_take]; omega
            have HCL := Lib.hid hcl
            have HR0 := Lib.hid (own_lower hm.row (Nat.zero_le _))
            have HBA := Lib.hid hbA
            clear hm hy hcl hbA hbW
            cases hE : (y.toList == old.toList)
            · have HY := Lib.hid (show renS old name y = y from if_neg (fun e => by rw [e, beq_self_eq_true] at hE; cases hE))
              go_wp2_with fail
              refine (l2Put_any (canG lessB (renI old name (a.incs.take j))) _ _ _ (by rw [HCL.out]; exact HR0.out) (by have h := HNW.out; rw [HY.out] at h; exact h) (by rw [HCL.out]; omega)).mono ?_
              rintro e w5 ⟨v5, rfl, hr5, hb5⟩
              rw [HCL.out] at hr5
              obtain ⟨p5, c5, rfl⟩ := own_slice hr5
              have HR5 := Lib.hid (show w5.ownsRow wr.heap.size 9 1 (.slice p5 (j + 1) c5) (j + 1) (strW (canG lessB (renI old name (a.incs.take (j + 1))))) by rw [HSN.out, canG_snoc, HY.out]; exact hr5)
              have HBX5 := Lib.hid ((hb5.block bk (blk_lt HM2.out.box)).trans HM2.out.box)
              obtain ⟨g0, g1', g2, g3, gf⟩ := row4_cells HBX5.out
              have zq5 := bsz (blk_lt HBX5.out)
              have HB5 := Lib.hid hb5
              have hqa := HBA.out.size
              clear hr5 hb5 f0 f1 f2 f3 ff
              go_wp2
              refine ⟨⟨j + 1, p5, c5, by omega, by go_num, ⟨?_, ?_, ?_, ?_, ?_⟩⟩, by simp [intOf]; omega⟩
              · have := heap_setCell_same w5 bk 1 _ _ (.slice p5 (j + 1) c5) HBX5.out
                simpa using this
              · exact own_same (own_lower HR5.out hqa) fun g' hg' _ => heap_setCell_other w5 ⟨bk, 1, none⟩ g' _ (fun e => by have := own_base HR5.out g' hg'; have h2 : g' = bk := e; omega)
              · intro e; have := own_base HR5.out bk e; omega
              · intro g' hg' e; have h1 := own_base HR5.out g' hg'; have h2 := own_lt' HR7.out e; omega
              · exact (HM2.out.kept.below HB5.out).set rfl _ _
            · have HY := Lib.hid (show renS old name y = name from if_pos ((Lib.bytes_beq_iff y old).1 hE))
              go_wp2_with fail
              refine (l2Put_any (canG lessB (renI old name (a.incs.take j))) _ _ _ (by rw [HCL.out]; exact HR0.out) (by have h := HNW.out; rw [HY.out] at h; exact h) (by rw [HCL.out]; omega)).mono ?_
              rintro e w5 ⟨v5, rfl, hr5, hb5⟩
              rw [HCL.out] at hr5
              obtain ⟨p5, c5, rfl⟩ := own_slice hr5
              have HR5 := Lib.hid (show w5.ownsRow wr.heap.size 9 1 (.slice p5 (j + 1) c5) (j + 1) (strW (canG lessB (renI old name (a.incs.take (j + 1))))) by rw [HSN.out, canG_snoc, HY.out]; exact hr5)
              have HBX5 := Lib.hid ((hb5.block bk (blk_lt HM2.out.box)).trans HM2.out.box)
              obtain ⟨g0, g1', g2, g3, gf⟩ := row4_cells HBX5.out
              have zq5 := bsz (blk_lt HBX5.out)
              have HB5 := Lib.hid hb5
              have hqa := HBA.out.size
              clear hr5 hb5 f0 f1 f2 f3 ff
              go_wp2
              refine ⟨⟨j + 1, p5, c5, by omega, by go_num, ⟨?_, ?_, ?_, ?_, ?_⟩⟩, by simp [intOf]; omega⟩
              · have := heap_setCell_same w5 bk 1 _ _ (.slice p5 (j + 1) c5) HBX5.out
                simpa using this
              · exact own_same (own_lower HR5.out hqa) fun g' hg' _ => heap_setCell_other w5 ⟨bk, 1, none⟩ g' _ (fun e => by have := own_base HR5.out g' hg'; have h2 : g' = bk := e; omega)
              · intro e; have := own_base HR5.out bk e; omega
              · intro g' hg' e; have h1 := own_base HR5.out g' hg'; have h2 := own_lt' HR7.out e; omega
              · exact (HM2.out.kept.below HB5.out).set rfl _ _
          · obtain rfl : j = a.incs.length := by omega
            have hji : ¬ (a.incs.length : Int) < a.incs.length := by omega
            have hrw := hm.row
            rw [List.take_length] at hrw
            have hbase : w.heap.size ≤ wA.heap.size := HB.out.size
            have HX := Lib.hid (show UC.Own 9 w.heap.size wr ⟨renUn old name a, p4, c4, p7, c7⟩ from ⟨by show wr.ownsRow _ _ 1 (.slice p4 (canG lessB (renI old name a.incs)).length c4) (canG lessB (renI old name a.incs)).length _; rw [canG_len, renI_len]; exact own_lower hrw hbase, own_lower (own_same HR7.out fun g' hg' hl => hm.kept.block g' hl (fun e => HBS.out.2.1 (hg'.trans (congrArg some e)))) hbase, by show ∀ g, (Value.slice p4 (canG lessB (renI old name a.incs)).length c4).ownBlock = some g → (Value.slice p7 a.axs.length c7).ownBlock ≠ some g; rw [canG_len, renI_len]; exact hm.ap⟩)
            have HXB := Lib.hid (show ∀ b, UC.S ⟨renUn old name a, p4, c4, p7, c7⟩ b → wA.heap.size ≤ b from fun b hb => by
              rcases hb with hb | hb
              · have h' : (Value.slice p4 (canG lessB (renI old name a.incs)).length c4).ownBlock = some b := hb
                rw [canG_len, renI_len] at h'
                exact own_base hrw b h'
              · exact own_base HR7.out b hb)
            obtain ⟨wC, hwC⟩ : ∃ q, q = wr := ⟨_, rfl⟩
            subst hwC
            have HBX := Lib.hid hm.box
            have HBA := Lib.hid hbA
            have hqA := hbA.size
            clear hm hrw hbA hbW
            go_wp2
            clear g1 zg
            go_loopw [13] (fun t wr' => ∃ m : Nat, m ≤ k ∧ t = .int .i64 m ∧ (∀ z ∈ D.take m, lessB z.u.name (renS old name a.name) = true) ∧ Below wC.heap.size wC wr') (fun t _ => k - (intOf t).toNat)
            case atStart => exact ⟨0, Nat.zero_le _, rfl, by simp, by exact bel⟩
            case round =>
              obtain ⟨m, hmk, rfl, hle, hbm⟩ := hrel
              have HLE := Lib.hid hle
              have HBX2 := Lib.hid ((hbm.block bk (blk_lt HBX.out)).trans HBX.out)
              obtain ⟨m0, m1, m2, m3, mf⟩ := row4_cells HBX2.out
              have zm := bsz (blk_lt HBX2.out)
              have HOUT := Lib.hid (own_below (own_below HROW.out HBA.out) hbm)
              have HBM := Lib.hid hbm
              have hqm := hbm.size
              have hzg := bsz (own_lt HOUT.out)
              have hkc : k ≤ co := by
                rcases HOUT.out.2 with ⟨h1, -⟩ | ⟨_, _, _, h1, -, -, h2, -⟩
                · cases h1
                · cases h1; exact h2
              clear hle hbm f0 f1 f2 f3 ff zq
              by_cases hlm : m < k
              · obtain ⟨g', e', -, -, -, hcell⟩ := rowU_cell HOUT.out (by omega)
                obtain rfl : g = g' := by injection e' with e'; injection e'
                have c0 := (hcell m D[m] (List.getElem?_eq_getElem (by omega))).1
                have HTM := Lib.hid (List.take_succ_eq_append_getElem (show m < D.length by omega))
                obtain ⟨z, hz⟩ : ∃ z, D[m].u.name = z := ⟨_, rfl⟩
                rw [hz] at c0
                have HZ := Lib.hid hz
                have hmi : (m : Int) < k := by omega
                have hll : Op.bytesLess z.toList (renS old name a.name).toList = lessB z (renS old name a.name) := by rw [lessB, ByteArray.toList_eq, ByteArray.toList_eq]
                clear hz hcell
                cases hL : lessB z (renS old name a.name)
                · rw [hL] at hll
                  have HL := Lib.hid hL
                  clear hL
                  have hkm : (m : Int) ≤ co := by omega
                  have hkm2 : m ≤ co := by omega
                  have hkk : (k : Int) ≤ co := by omega
                  have hml : (m : Int) ≤ k := by omega
                  have hcm : co ≠ m := by omega
                  go_wp2_with fail
                  go_quiet (fail)
                  go_wp2
                  obtain ⟨wq, hwq⟩ : ∃ q, q = wr.drewN nq := ⟨_, rfl⟩
                  rw [← hwq]
                  have hbq : Below wr.heap.size wr wq := by rw [hwq]; exact bel
                  clear hwq
                  have n0 := cellQ hbq m0
                  have n1 := cellQ hbq m1
                  have n2 := cellQ hbq m2
                  have n3 := cellQ hbq m3
                  have zn := bsz (World.block_lt_of_cell? _ _ n0)
                  have HOQ := Lib.hid (own_below HOUT.out hbq)
                  have HBQ := Lib.hid (Below.step HBM.out hbq)
                  have hqq := hbq.size
                  clear m0 m1 m2 m3 mf
                  refine wp_region_any3 [none, some (.slice (some ⟨g, 0, none⟩) k co), some (.int .i64 (m : Nat)), some (.slice (some ⟨g, 0, none⟩) m co), none, some (.agg #[.string (renS old name a.name), .slice p4 a.incs.length c4, .slice p7 a.axs.length c7, .string a.goal]), none, none, some (.slice (some ⟨g, 0, none⟩) k co), some (.int .i64 (m : Nat)), some (.slice (some ⟨g, m * 4, none⟩) (k - m) (co - m)), none, none] (InsD 34 4 wq m (k + 1) (flatU (D.take m)) (flatU (D.drop m)) (#[.string (renS old name a.name), .slice p4 a.incs.length c4, .slice p7 a.axs.length c7, .string a.goal])) (by kernel_rfl) (by kernel_rfl) (fun L hL => InsD.start hL) ?_
                  refine flowV_ch rfl rfl (by intro u' hu' L w' hun hbe hD; go_simp; exact hD.b0 hun) ?_
                  intro x0
                  go_simp
                  refine flowV_st rfl rfl (by intro u' L w' hun hbe hD; go_simp; first | exact ⟨hD.other 1 (by decide), rfl⟩ | exact hD.other 1 (by decide)) ?_
                  go_simp
                  refine flowV_st rfl rfl (by intro u' L w' hun hbe hD; go_simp; first | exact ⟨hD.other 2 (by decide), rfl⟩ | exact hD.other 2 (by decide)) ?_
                  go_simp
                  refine flowV_st rfl rfl (by intro u' L w' hun hbe hD; go_simp; first | exact ⟨hD.other 3 (by decide), rfl⟩ | exact hD.other 3 (by decide)) ?_
                  go_simp
                  refine flowV_ch rfl rfl ?_ ?_
                  · intro u' hu' L w' hun hbe hD
                    have hu0 : u' 0 = x0 := (after_eq hu' (by kernel_rfl)).trans (by simp [upd])
                    have h0 := after_behind hbe (p := 0) (by kernel_rfl)
                    have hw := hD.bel
                    refine each_app (.tmp 109) (.tmp 112) 24 rfl wq.heap.size 34 4 80 elemUnit (u' 0) 0 [] (by rw [hu0]; rfl) _ m (flatU (D.take m)) rfl ((srcU_head HOQ.out (Nat.le_of_lt hlm) co).below hw) (hD.r0 h0 (getD_tf hun)) (by first | exact flatU_cell _ | simp) (by omega) (by unfold maxLen; omega) hw.size ?_
                    intro v' w2 hr hg hn
                    exact hD.a4 hun h0 hr hg hn
                  intro x4
                  go_simp
                  refine flowV_st rfl rfl (by intro u' L w' hun hbe hD; have hw := hD.bel; have e0 := cellQ hw n0; have e1 := cellQ hw n1; have e2 := cellQ hw n2; have e3 := cellQ hw n3; have ze := bsz (World.block_lt_of_cell? _ _ e0); go_simp; first | exact ⟨hD.other 5 (by decide), rfl⟩ | exact hD.other 5 (by decide)) ?_
                  go_simp
                  refine flowV_ch rfl rfl (by intro u' hu' L w' hun hbe hD; go_simp; exact hD.b6 hun) ?_
                  intro x6
                  go_simp
                  refine flowV_ch rfl rfl ?_ ?_
                  · intro u' hu' L w' hun hbe hD
                    have hu4 : u' 4 = x4 := (after_eq hu' (by kernel_rfl)).trans (by simp [upd])
                    have hu6 : u' 6 = x6 := (after_eq hu' (by kernel_rfl)).trans (by simp [upd])
                    have h4 := after_behind hbe (p := 4) (by kernel_rfl)
                    have h6 := after_behind hbe (p := 6) (by kernel_rfl)
                    have hw := hD.bel
                    obtain ⟨q, hq, hqc, -, -⟩ := hD.r6 h6 (getD_tf hun)
                    refine each_app (.tmp 113) (.tmp 115) 24 rfl wq.heap.size 34 4 80 elemUnit (u' 4) m (flatU (D.take m)) (by rw [hu4]; rfl) (.slice (some ⟨q, 0, none⟩) 1 1) 1 (#[.string (renS old name a.name), .slice p4 a.incs.length c4, .slice p7 a.axs.length c7, .string a.goal]).toList (by rw [← hq, hu6]; rfl) (src_block hqc (by simp)) (hD.r4 h4 (getD_tf hun)) (by simp [Value.oneCell']) (by omega) (by unfold maxLen; omega) hw.size ?_
                    intro v' w2 hr hg hn
                    exact hD.a7 hun h4 h6 hr hg
                  intro x7
                  go_simp
                  refine flowV_st rfl rfl (by intro u' L w' hun hbe hD; go_simp; first | exact ⟨hD.other 8 (by decide), rfl⟩ | exact hD.other 8 (by decide)) ?_
                  go_simp
                  refine flowV_st rfl rfl (by intro u' L w' hun hbe hD; go_simp; first | exact ⟨hD.other 9 (by decide), rfl⟩ | exact hD.other 9 (by decide)) ?_
                  go_simp
                  refine flowV_st rfl rfl (by intro u' L w' hun hbe hD; go_simp; first | exact ⟨hD.other 10 (by decide), rfl⟩ | exact hD.other 10 (by decide)) ?_
                  go_simp
                  refine flowV_ch rfl rfl ?_ ?_
                  · intro u' hu' L w' hun hbe hD
                    have hu7 : u' 7 = x7 := (after_eq hu' (by kernel_rfl)).trans (by simp [upd])
                    have h7 := after_behind hbe (p := 7) (by kernel_rfl)
                    have hw := hD.bel
                    refine each_app (.tmp 116) (.tmp 119) 24 rfl wq.heap.size 34 4 80 elemUnit (u' 7) (m + 1) ((flatU (D.take m)) ++ (#[.string (renS old name a.name), .slice p4 a.incs.length c4, .slice p7 a.axs.length c7, .string a.goal]).toList) (by rw [hu7]; rfl) _ ((k + 1) - (m + 1)) (flatU (D.drop m)) rfl ((srcU_tail HOQ.out (Nat.le_of_lt hlm) (co - m)).below hw) (hD.r7 h7 (getD_tf hun)) (by first | exact flatU_cell _ | simp) (by omega) (by unfold maxLen; omega) hw.size ?_
                    intro v' w2 hr hg hn
                    rw [show m + 1 + ((k + 1) - (m + 1)) = (k + 1) by omega] at hr
                    exact hD.a11 hun h7 hr hg
                  intro x11
                  go_simp
                  refine flowV_ch rfl rfl ?_ ?_
                  · intro u' hu' L w' hun hbe hD
                    have hu11 : u' 11 = x11 := (after_eq hu' (by kernel_rfl)).trans (by simp [upd])
                    have h11 := after_behind hbe (p := 11) (by kernel_rfl)
                    go_simp
                    rw [← hu11]
                    exact hD.m12 hun h11
                  intro x12
                  go_simp
                  refine flowV_nil ?_
                  intro L w3 hL hD
                  have hx12 : x12 = x11 := by have := hD.r12 (by simpa using hL 12 (by simp)); simpa [upd] using this
                  have hrow : w3.ownsRow wq.heap.size 34 4 x11 (k + 1) ((flatU (D.take m)) ++ (#[.string (renS old name a.name), .slice p4 a.incs.length c4, .slice p7 a.axs.length c7, .string a.goal]).toList ++ (flatU (D.drop m))) := by have := hD.r11 (by simpa using hL 11 (by simp)); simpa [upd] using this
                  have hbel3 := hD.bel
                  subst hx12
                  have hrow2 : w3.ownsRow wq.heap.size 34 4 x12 (k + 1) (flatU (D.take m ++ ⟨renUn old name a, p4, c4, p7, c7⟩ :: D.drop m)) := by
                    have hcs : flatU [(⟨renUn old name a, p4, c4, p7, c7⟩ : UC)] = [.string (renS old name a.name), .slice p4 a.incs.length c4, .slice p7 a.axs.length c7, .string a.goal] := by
                      show [Value.string (renS old name a.name), .slice p4 (canG lessB (renI old name a.incs)).length c4, .slice p7 a.axs.length c7, .string a.goal] ++ [] = _
                      rw [canG_len, renI_len]; rfl
                    have e : flatU (D.take m ++ ⟨renUn old name a, p4, c4, p7, c7⟩ :: D.drop m) = flatU (D.take m) ++ flatU [(⟨renUn old name a, p4, c4, p7, c7⟩ : UC)] ++ flatU (D.drop m) := by rw [← flatU_app, ← flatU_app]; simp
                    rw [e, hcs]; exact hrow
                  obtain ⟨g', c', rfl⟩ := own_some hrow2 (by omega)
                  have HROW2 := Lib.hid hrow2
                  have HB3 := Lib.hid hbel3
                  have hqe := hbel3.size
                  clear hrow hrow2 hbel3
                  go_wp2
                  refine ⟨⟨k + 1, D.take m ++ ⟨renUn old name a, p4, c4, p7, c7⟩ :: D.drop m, g', c', by omega, by go_num, rfl, ?_, ?_, ?_, ?_⟩, by simp [intOf]; omega⟩
                  · rw [HTK.out, List.map_append (l₁ := l.take k), List.map_cons, List.map_nil, canG_snoc, ← HD.out, insG_stop (lt := lessU) (renUn old name a) (D.map UC.u) m (fun y hy => by rw [← List.map_take] at hy; obtain ⟨z, hz, rfl⟩ := List.mem_map.1 hy; exact HLE.out z hz) (.inr ⟨by rw [List.length_map]; omega, by rw [List.getElem_map]; show lessB D[m].u.name _ = false; rw [HZ.out]; exact HL.out⟩), List.map_append, List.map_cons, List.map_take, List.map_drop]
                  · exact own_lower HROW2.out (by omega)
                  · have hb2 : Below wC.heap.size wC w3 := Below.step HBQ.out HB3.out
                    have hfD : ∀ z ∈ D, ∀ b, z.S b → b < wA.heap.size := fun z hz b hb => ((HUNS.out.each z hz).blk hb).2
                    have hall : Uns 9 w.heap.size w3 (.slice (some ⟨g', 0, none⟩) (k + 1) c') (D ++ [⟨renUn old name a, p4, c4, p7, c7⟩]) :=
                      (((HUNS.out.below HBA.out).below hb2).row (fun z hz b hb e => by have h1 := own_base HROW2.out b e; have h2 := hfD z hz b hb; omega)).snoc (HX.out.same (fun b _ hl => hb2.block b hl)) (fun b hb e => by have h1 := own_base HROW2.out b e; have h2 := (HX.out.blk hb).2; omega) (fun y hy b h1 h2 => by have h3 := HXB.out b h2; have h4 := hfD y hy b h1; omega)
                    exact hall.perm (List.perm_middle.trans (by rw [List.take_append_drop]; exact (List.perm_append_singleton _ D).symm))
                  · exact Below.step (Below.step (Below.step HB.out HBA.out) HBQ.out) HB3.out
                · rw [hL] at hll
                  have HL := Lib.hid hL
                  clear hL
                  go_wp2_with fail
                  go_quiet (fail)
                  go_wp2
                  refine ⟨⟨m + 1, by omega, by go_num, fun q hq => ?_, by exact bel⟩, by simp [intOf]; omega⟩
                  rw [HTM.out] at hq
                  rcases List.mem_append.1 hq with hq | hq
                  · exact HLE.out q hq
                  · obtain rfl : q = D[m] := by simpa using hq
                    rw [HZ.out]; exact HL.out
              · obtain rfl : k = m := by omega
                have hkk : (k : Int) ≤ co := by omega
                have hmi : ¬ (k : Int) < k := by omega
                by_cases hck : k = co
                · subst hck
                  go_wp2_with fail
                  go_quiet (fail)
                  go_wp2
                  obtain ⟨wq, hwq⟩ : ∃ q, q = wr.drewN nq := ⟨_, rfl⟩
                  rw [← hwq]
                  have hbq : Below wr.heap.size wr wq := by rw [hwq]; exact bel
                  clear hwq
                  have n0 := cellQ hbq m0
                  have n1 := cellQ hbq m1
                  have n2 := cellQ hbq m2
                  have n3 := cellQ hbq m3
                  have zn := bsz (World.block_lt_of_cell? _ _ n0)
                  have HOQ := Lib.hid (own_below HOUT.out hbq)
                  have HBQ := Lib.hid (Below.step HBM.out hbq)
                  have hqq := hbq.size
                  clear m0 m1 m2 m3 mf
                  refine wp_region_any3 [none, some (.slice (some ⟨g, 0, none⟩) k k), some (.int .i64 (k : Nat)), some (.slice (some ⟨g, 0, none⟩) k k), none, some (.agg #[.string (renS old name a.name), .slice p4 a.incs.length c4, .slice p7 a.axs.length c7, .string a.goal]), none, none, some (.slice (some ⟨g, 0, none⟩) k k), some (.int .i64 (k : Nat)), some (.slice (some ⟨g, 0, none⟩) 0 0), none, none] (InsD 34 4 wq k (k + 1) (flatU (D.take k)) (flatU (D.drop k)) (#[.string (renS old name a.name), .slice p4 a.incs.length c4, .slice p7 a.axs.length c7, .string a.goal])) (by kernel_rfl) (by kernel_rfl) (fun L hL => InsD.start hL) ?_
                  refine flowV_ch rfl rfl (by intro u' hu' L w' hun hbe hD; go_simp; exact hD.b0 hun) ?_
                  intro x0
                  go_simp
                  refine flowV_st rfl rfl (by intro u' L w' hun hbe hD; go_simp; first | exact ⟨hD.other 1 (by decide), rfl⟩ | exact hD.other 1 (by decide)) ?_
                  go_simp
                  refine flowV_st rfl rfl (by intro u' L w' hun hbe hD; go_simp; first | exact ⟨hD.other 2 (by decide), rfl⟩ | exact hD.other 2 (by decide)) ?_
                  go_simp
                  refine flowV_st rfl rfl (by intro u' L w' hun hbe hD; go_simp; first | exact ⟨hD.other 3 (by decide), rfl⟩ | exact hD.other 3 (by decide)) ?_
                  go_simp
                  refine flowV_ch rfl rfl ?_ ?_
                  · intro u' hu' L w' hun hbe hD
                    have hu0 : u' 0 = x0 := (after_eq hu' (by kernel_rfl)).trans (by simp [upd])
                    have h0 := after_behind hbe (p := 0) (by kernel_rfl)
                    have hw := hD.bel
                    refine each_app (.tmp 109) (.tmp 112) 24 rfl wq.heap.size 34 4 80 elemUnit (u' 0) 0 [] (by rw [hu0]; rfl) _ k (flatU (D.take k)) rfl ((srcU_head HOQ.out (Nat.le_refl _) k).below hw) (hD.r0 h0 (getD_tf hun)) (by first | exact flatU_cell _ | simp) (by omega) (by unfold maxLen; omega) hw.size ?_
                    intro v' w2 hr hg hn
                    exact hD.a4 hun h0 hr hg hn
                  intro x4
                  go_simp
                  refine flowV_st rfl rfl (by intro u' L w' hun hbe hD; have hw := hD.bel; have e0 := cellQ hw n0; have e1 := cellQ hw n1; have e2 := cellQ hw n2; have e3 := cellQ hw n3; have ze := bsz (World.block_lt_of_cell? _ _ e0); go_simp; first | exact ⟨hD.other 5 (by decide), rfl⟩ | exact hD.other 5 (by decide)) ?_
                  go_simp
                  refine flowV_ch rfl rfl (by intro u' hu' L w' hun hbe hD; go_simp; exact hD.b6 hun) ?_
                  intro x6
                  go_simp
                  refine flowV_ch rfl rfl ?_ ?_
                  · intro u' hu' L w' hun hbe hD
                    have hu4 : u' 4 = x4 := (after_eq hu' (by kernel_rfl)).trans (by simp [upd])
                    have hu6 : u' 6 = x6 := (after_eq hu' (by kernel_rfl)).trans (by simp [upd])
                    have h4 := after_behind hbe (p := 4) (by kernel_rfl)
                    have h6 := after_behind hbe (p := 6) (by kernel_rfl)
                    have hw := hD.bel
                    obtain ⟨q, hq, hqc, -, -⟩ := hD.r6 h6 (getD_tf hun)
                    refine each_app (.tmp 113) (.tmp 115) 24 rfl wq.heap.size 34 4 80 elemUnit (u' 4) k (flatU (D.take k)) (by rw [hu4]; rfl) (.slice (some ⟨q, 0, none⟩) 1 1) 1 (#[.string (renS old name a.name), .slice p4 a.incs.length c4, .slice p7 a.axs.length c7, .string a.goal]).toList (by rw [← hq, hu6]; rfl) (src_block hqc (by simp)) (hD.r4 h4 (getD_tf hun)) (by simp [Value.oneCell']) (by omega) (by unfold maxLen; omega) hw.size ?_
                    intro v' w2 hr hg hn
                    exact hD.a7 hun h4 h6 hr hg
                  intro x7
                  go_simp
                  refine flowV_st rfl rfl (by intro u' L w' hun hbe hD; go_simp; first | exact ⟨hD.other 8 (by decide), rfl⟩ | exact hD.other 8 (by decide)) ?_
                  go_simp
                  refine flowV_st rfl rfl (by intro u' L w' hun hbe hD; go_simp; first | exact ⟨hD.other 9 (by decide), rfl⟩ | exact hD.other 9 (by decide)) ?_
                  go_simp
                  refine flowV_st rfl rfl (by intro u' L w' hun hbe hD; go_simp; first | exact ⟨hD.other 10 (by decide), rfl⟩ | exact hD.other 10 (by decide)) ?_
                  go_simp
                  refine flowV_ch rfl rfl ?_ ?_
                  · intro u' hu' L w' hun hbe hD
                    have hu7 : u' 7 = x7 := (after_eq hu' (by kernel_rfl)).trans (by simp [upd])
                    have h7 := after_behind hbe (p := 7) (by kernel_rfl)
                    have hw := hD.bel
                    refine each_app (.tmp 116) (.tmp 119) 24 rfl wq.heap.size 34 4 80 elemUnit (u' 7) (k + 1) ((flatU (D.take k)) ++ (#[.string (renS old name a.name), .slice p4 a.incs.length c4, .slice p7 a.axs.length c7, .string a.goal]).toList) (by rw [hu7]; rfl) _ ((k + 1) - (k + 1)) (flatU (D.drop k)) rfl (srcU_nil hDk) (hD.r7 h7 (getD_tf hun)) (by first | exact flatU_cell _ | simp) (by omega) (by unfold maxLen; omega) hw.size ?_
                    intro v' w2 hr hg hn
                    rw [show k + 1 + ((k + 1) - (k + 1)) = (k + 1) by omega] at hr
                    exact hD.a11 hun h7 hr hg
                  intro x11
                  go_simp
                  refine flowV_ch rfl rfl ?_ ?_
                  · intro u' hu' L w' hun hbe hD
                    have hu11 : u' 11 = x11 := (after_eq hu' (by kernel_rfl)).trans (by simp [upd])
                    have h11 := after_behind hbe (p := 11) (by kernel_rfl)
                    go_simp
                    rw [← hu11]
                    exact hD.m12 hun h11
                  intro x12
                  go_simp
                  refine flowV_nil ?_
                  intro L w3 hL hD
                  have hx12 : x12 = x11 := by have := hD.r12 (by simpa using hL 12 (by simp)); simpa [upd] using this
                  have hrow : w3.ownsRow wq.heap.size 34 4 x11 (k + 1) ((flatU (D.take k)) ++ (#[.string (renS old name a.name), .slice p4 a.incs.length c4, .slice p7 a.axs.length c7, .string a.goal]).toList ++ (flatU (D.drop k))) := by have := hD.r11 (by simpa using hL 11 (by simp)); simpa [upd] using this
                  have hbel3 := hD.bel
                  subst hx12
                  have hrow2 : w3.ownsRow wq.heap.size 34 4 x12 (k + 1) (flatU (D.take k ++ ⟨renUn old name a, p4, c4, p7, c7⟩ :: D.drop k)) := by
                    have hcs : flatU [(⟨renUn old name a, p4, c4, p7, c7⟩ : UC)] = [.string (renS old name a.name), .slice p4 a.incs.length c4, .slice p7 a.axs.length c7, .string a.goal] := by
                      show [Value.string (renS old name a.name), .slice p4 (canG lessB (renI old name a.incs)).length c4, .slice p7 a.axs.length c7, .string a.goal] ++ [] = _
                      rw [canG_len, renI_len]; rfl
                    have e : flatU (D.take k ++ ⟨renUn old name a, p4, c4, p7, c7⟩ :: D.drop k) = flatU (D.take k) ++ flatU [(⟨renUn old name a, p4, c4, p7, c7⟩ : UC)] ++ flatU (D.drop k) := by rw [← flatU_app, ← flatU_app]; simp
                    rw [e, hcs]; exact hrow
                  obtain ⟨g', c', rfl⟩ := own_some hrow2 (by omega)
                  have HROW2 := Lib.hid hrow2
                  have HB3 := Lib.hid hbel3
                  have hqe := hbel3.size
                  clear hrow hrow2 hbel3
                  go_wp2
                  refine ⟨⟨k + 1, D.take k ++ ⟨renUn old name a, p4, c4, p7, c7⟩ :: D.drop k, g', c', by omega, by go_num, rfl, ?_, ?_, ?_, ?_⟩, by simp [intOf]; omega⟩
                  · rw [HTK.out, List.map_append (l₁ := l.take k), List.map_cons, List.map_nil, canG_snoc, ← HD.out, insG_stop (lt := lessU) (renUn old name a) (D.map UC.u) k (fun y hy => by rw [← List.map_take] at hy; obtain ⟨z, hz, rfl⟩ := List.mem_map.1 hy; exact HLE.out z hz) (.inl (by rw [List.length_map]; omega)), List.map_append, List.map_cons, List.map_take, List.map_drop]
                  · exact own_lower HROW2.out (by omega)
                  · have hb2 : Below wC.heap.size wC w3 := Below.step HBQ.out HB3.out
                    have hfD : ∀ z ∈ D, ∀ b, z.S b → b < wA.heap.size := fun z hz b hb => ((HUNS.out.each z hz).blk hb).2
                    have hall : Uns 9 w.heap.size w3 (.slice (some ⟨g', 0, none⟩) (k + 1) c') (D ++ [⟨renUn old name a, p4, c4, p7, c7⟩]) :=
                      (((HUNS.out.below HBA.out).below hb2).row (fun z hz b hb e => by have h1 := own_base HROW2.out b e; have h2 := hfD z hz b hb; omega)).snoc (HX.out.same (fun b _ hl => hb2.block b hl)) (fun b hb e => by have h1 := own_base HROW2.out b e; have h2 := (HX.out.blk hb).2; omega) (fun y hy b h1 h2 => by have h3 := HXB.out b h2; have h4 := hfD y hy b h1; omega)
                    exact hall.perm (List.perm_middle.trans (by rw [List.take_append_drop]; exact (List.perm_append_singleton _ D).symm))
                  · exact Below.step (Below.step (Below.step HB.out HBA.out) HBQ.out) HB3.out
                · have hcm : co ≠ k := fun e => hck e.symm
                  go_wp2_with fail
                  go_quiet (fail)
                  go_wp2
                  obtain ⟨wq, hwq⟩ : ∃ q, q = wr.drewN nq := ⟨_, rfl⟩
                  rw [← hwq]
                  have hbq : Below wr.heap.size wr wq := by rw [hwq]; exact bel
                  clear hwq
                  have n0 := cellQ hbq m0
                  have n1 := cellQ hbq m1
                  have n2 := cellQ hbq m2
                  have n3 := cellQ hbq m3
                  have zn := bsz (World.block_lt_of_cell? _ _ n0)
                  have HOQ := Lib.hid (own_below HOUT.out hbq)
                  have HBQ := Lib.hid (Below.step HBM.out hbq)
                  have hqq := hbq.size
                  clear m0 m1 m2 m3 mf
                  refine wp_region_any3 [none, some (.slice (some ⟨g, 0, none⟩) k co), some (.int .i64 (k : Nat)), some (.slice (some ⟨g, 0, none⟩) k co), none, some (.agg #[.string (renS old name a.name), .slice p4 a.incs.length c4, .slice p7 a.axs.length c7, .string a.goal]), none, none, some (.slice (some ⟨g, 0, none⟩) k co), some (.int .i64 (k : Nat)), some (.slice (some ⟨g, k * 4, none⟩) 0 (co - k)), none, none] (InsD 34 4 wq k (k + 1) (flatU (D.take k)) (flatU (D.drop k)) (#[.string (renS old name a.name), .slice p4 a.incs.length c4, .slice p7 a.axs.length c7, .string a.goal])) (by kernel_rfl) (by kernel_rfl) (fun L hL => InsD.start hL) ?_
                  refine flowV_ch rfl rfl (by intro u' hu' L w' hun hbe hD; go_simp; exact hD.b0 hun) ?_
                  intro x0
                  go_simp
                  refine flowV_st rfl rfl (by intro u' L w' hun hbe hD; go_simp; first | exact ⟨hD.other 1 (by decide), rfl⟩ | exact hD.other 1 (by decide)) ?_
                  go_simp
                  refine flowV_st rfl rfl (by intro u' L w' hun hbe hD; go_simp; first | exact ⟨hD.other 2 (by decide), rfl⟩ | exact hD.other 2 (by decide)) ?_
                  go_simp
                  refine flowV_st rfl rfl (by intro u' L w' hun hbe hD; go_simp; first | exact ⟨hD.other 3 (by decide), rfl⟩ | exact hD.other 3 (by decide)) ?_
                  go_simp
                  refine flowV_ch rfl rfl ?_ ?_
                  · intro u' hu' L w' hun hbe hD
                    have hu0 : u' 0 = x0 := (after_eq hu' (by kernel_rfl)).trans (by simp [upd])
                    have h0 := after_behind hbe (p := 0) (by kernel_rfl)
                    have hw := hD.bel
                    refine each_app (.tmp 109) (.tmp 112) 24 rfl wq.heap.size 34 4 80 elemUnit (u' 0) 0 [] (by rw [hu0]; rfl) _ k (flatU (D.take k)) rfl ((srcU_head HOQ.out (Nat.le_refl _) co).below hw) (hD.r0 h0 (getD_tf hun)) (by first | exact flatU_cell _ | simp) (by omega) (by unfold maxLen; omega) hw.size ?_
                    intro v' w2 hr hg hn
                    exact hD.a4 hun h0 hr hg hn
                  intro x4
                  go_simp
                  refine flowV_st rfl rfl (by intro u' L w' hun hbe hD; have hw := hD.bel; have e0 := cellQ hw n0; have e1 := cellQ hw n1; have e2 := cellQ hw n2; have e3 := cellQ hw n3; have ze := bsz (World.block_lt_of_cell? _ _ e0); go_simp; first | exact ⟨hD.other 5 (by decide), rfl⟩ | exact hD.other 5 (by decide)) ?_
                  go_simp
                  refine flowV_ch rfl rfl (by intro u' hu' L w' hun hbe hD; go_simp; exact hD.b6 hun) ?_
                  intro x6
                  go_simp
                  refine flowV_ch rfl rfl ?_ ?_
                  · intro u' hu' L w' hun hbe hD
                    have hu4 : u' 4 = x4 := (after_eq hu' (by kernel_rfl)).trans (by simp [upd])
                    have hu6 : u' 6 = x6 := (after_eq hu' (by kernel_rfl)).trans (by simp [upd])
                    have h4 := after_behind hbe (p := 4) (by kernel_rfl)
                    have h6 := after_behind hbe (p := 6) (by kernel_rfl)
                    have hw := hD.bel
                    obtain ⟨q, hq, hqc, -, -⟩ := hD.r6 h6 (getD_tf hun)
                    refine each_app (.tmp 113) (.tmp 115) 24 rfl wq.heap.size 34 4 80 elemUnit (u' 4) k (flatU (D.take k)) (by rw [hu4]; rfl) (.slice (some ⟨q, 0, none⟩) 1 1) 1 (#[.string (renS old name a.name), .slice p4 a.incs.length c4, .slice p7 a.axs.length c7, .string a.goal]).toList (by rw [← hq, hu6]; rfl) (src_block hqc (by simp)) (hD.r4 h4 (getD_tf hun)) (by simp [Value.oneCell']) (by omega) (by unfold maxLen; omega) hw.size ?_
                    intro v' w2 hr hg hn
                    exact hD.a7 hun h4 h6 hr hg
                  intro x7
                  go_simp
                  refine flowV_st rfl rfl (by intro u' L w' hun hbe hD; go_simp; first | exact ⟨hD.other 8 (by decide), rfl⟩ | exact hD.other 8 (by decide)) ?_
                  go_simp
                  refine flowV_st rfl rfl (by intro u' L w' hun hbe hD; go_simp; first | exact ⟨hD.other 9 (by decide), rfl⟩ | exact hD.other 9 (by decide)) ?_
                  go_simp
                  refine flowV_st rfl rfl (by intro u' L w' hun hbe hD; go_simp; first | exact ⟨hD.other 10 (by decide), rfl⟩ | exact hD.other 10 (by decide)) ?_
                  go_simp
                  refine flowV_ch rfl rfl ?_ ?_
                  · intro u' hu' L w' hun hbe hD
                    have hu7 : u' 7 = x7 := (after_eq hu' (by kernel_rfl)).trans (by simp [upd])
                    have h7 := after_behind hbe (p := 7) (by kernel_rfl)
                    have hw := hD.bel
                    refine each_app (.tmp 116) (.tmp 119) 24 rfl wq.heap.size 34 4 80 elemUnit (u' 7) (k + 1) ((flatU (D.take k)) ++ (#[.string (renS old name a.name), .slice p4 a.incs.length c4, .slice p7 a.axs.length c7, .string a.goal]).toList) (by rw [hu7]; rfl) _ ((k + 1) - (k + 1)) (flatU (D.drop k)) rfl (srcU_nil hDk) (hD.r7 h7 (getD_tf hun)) (by first | exact flatU_cell _ | simp) (by omega) (by unfold maxLen; omega) hw.size ?_
                    intro v' w2 hr hg hn
                    rw [show k + 1 + ((k + 1) - (k + 1)) = (k + 1) by omega] at hr
                    exact hD.a11 hun h7 hr hg
                  intro x11
                  go_simp
                  refine flowV_ch rfl rfl ?_ ?_
                  · intro u' hu' L w' hun hbe hD
                    have hu11 : u' 11 = x11 := (after_eq hu' (by kernel_rfl)).trans (by simp [upd])
                    have h11 := after_behind hbe (p := 11) (by kernel_rfl)
                    go_simp
                    rw [← hu11]
                    exact hD.m12 hun h11
                  intro x12
                  go_simp
                  refine flowV_nil ?_
                  intro L w3 hL hD
                  have hx12 : x12 = x11 := by have := hD.r12 (by simpa using hL 12 (by simp)); simpa [upd] using this
                  have hrow : w3.ownsRow wq.heap.size 34 4 x11 (k + 1) ((flatU (D.take k)) ++ (#[.string (renS old name a.name), .slice p4 a.incs.length c4, .slice p7 a.axs.length c7, .string a.goal]).toList ++ (flatU (D.drop k))) := by have := hD.r11 (by simpa using hL 11 (by simp)); simpa [upd] using this
                  have hbel3 := hD.bel
                  subst hx12
                  have hrow2 : w3.ownsRow wq.heap.size 34 4 x12 (k + 1) (flatU (D.take k ++ ⟨renUn old name a, p4, c4, p7, c7⟩ :: D.drop k)) := by
                    have hcs : flatU [(⟨renUn old name a, p4, c4, p7, c7⟩ : UC)] = [.string (renS old name a.name), .slice p4 a.incs.length c4, .slice p7 a.axs.length c7, .string a.goal] := by
                      show [Value.string (renS old name a.name), .slice p4 (canG lessB (renI old name a.incs)).length c4, .slice p7 a.axs.length c7, .string a.goal] ++ [] = _
                      rw [canG_len, renI_len]; rfl
                    have e : flatU (D.take k ++ ⟨renUn old name a, p4, c4, p7, c7⟩ :: D.drop k) = flatU (D.take k) ++ flatU [(⟨renUn old name a, p4, c4, p7, c7⟩ : UC)] ++ flatU (D.drop k) := by rw [← flatU_app, ← flatU_app]; simp
                    rw [e, hcs]; exact hrow
                  obtain ⟨g', c', rfl⟩ := own_some hrow2 (by omega)
                  have HROW2 := Lib.hid hrow2
                  have HB3 := Lib.hid hbel3
                  have hqe := hbel3.size
                  clear hrow hrow2 hbel3
                  go_wp2
                  refine ⟨⟨k + 1, D.take k ++ ⟨renUn old name a, p4, c4, p7, c7⟩ :: D.drop k, g', c', by omega, by go_num, rfl, ?_, ?_, ?_, ?_⟩, by simp [intOf]; omega⟩
                  · rw [HTK.out, List.map_append (l₁ := l.take k), List.map_cons, List.map_nil, canG_snoc, ← HD.out, insG_stop (lt := lessU) (renUn old name a) (D.map UC.u) k (fun y hy => by rw [← List.map_take] at hy; obtain ⟨z, hz, rfl⟩ := List.mem_map.1 hy; exact HLE.out z hz) (.inl (by rw [List.length_map]; omega)), List.map_append, List.map_cons, List.map_take, List.map_drop]
                  · exact own_lower HROW2.out (by omega)
                  · have hb2 : Below wC.heap.size wC w3 := Below.step HBQ.out HB3.out
                    have hfD : ∀ z ∈ D, ∀ b, z.S b → b < wA.heap.size := fun z hz b hb => ((HUNS.out.each z hz).blk hb).2
                    have hall : Uns 9 w.heap.size w3 (.slice (some ⟨g', 0, none⟩) (k + 1) c') (D ++ [⟨renUn old name a, p4, c4, p7, c7⟩]) :=
                      (((HUNS.out.below HBA.out).below hb2).row (fun z hz b hb e => by have h1 := own_base HROW2.out b e; have h2 := hfD z hz b hb; omega)).snoc (HX.out.same (fun b _ hl => hb2.block b hl)) (fun b hb e => by have h1 := own_base HROW2.out b e; have h2 := (HX.out.blk hb).2; omega) (fun y hy b h1 h2 => by have h3 := HXB.out b h2; have h4 := hfD y hy b h1; omega)
                    exact hall.perm (List.perm_middle.trans (by rw [List.take_append_drop]; exact (List.perm_append_singleton _ D).symm))
                  · exact Below.step (Below.step (Below.step HB.out HBA.out) HBQ.out) HB3.out
    · obtain rfl : k = l.length := by omega
      have hki : ¬ (l.length : Int) < l.length := by omega
      go_wp2
      go_ret2
      refine ⟨_, by rw [HT.out]; rfl, ?_, by exact bel⟩
      have hdm := HD.out
      rw [List.take_length] at hdm
      have hmap : D.map UC.u = renV l old name := by rw [HV.out, HT.out, if_pos rfl, renL, ← hdm]
      have hlen : (renV l old name).length = l.length := by rw [HV.out, HT.out, if_pos rfl, renL_len]
      have hU := HUNS.out.own (eU := 34) (S := NewB w wr) (us := renV l old name) (by rw [hlen]; exact HROW.out) hmap (by rw [hlen]; unfold maxLen; omega) (fun u hu => renV_wt hw hname HGD.out HPN.out (by rw [HV.out, HT.out, if_pos rfl] at hu; exact hu)) (fun b h1 h2 => ⟨h1, h2⟩)
      rw [show (Value.slice (some ⟨g, 0, none⟩) l.length co) = .slice (some ⟨g, 0, none⟩) (renV l old name).length co by rw [hlen]] at *
      exact hU
end Go.Proofs.YtkgfanajgdelcaaGreatDoor
