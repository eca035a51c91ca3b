/- 'FnLibraries': the law is true for all arguments, over the tables as the program's text lays them. -/
import Derived.OpenShut
import Derived.JoinedCond
import Derived.Deep.DeepHandedRow
import Derived.Lib.SmallJoins
import Derived.Stop.LaidErr
import Derived.Test.YtkgfanajgdelcaaGreatDoorCards
import Derived.Test.YtkgfanajgdelcaaGreatDoorTie
import Derived.ChangeSlices
import Derived.Test.YtkgfanajgdelcaaGreatDoorLbPart1
import Derived.Test.YtkgfanajgdelcaaGreatDoorLbPart12
import Derived.Test.YtkgfanajgdelcaaGreatDoorLbPart14
namespace Go.Proofs.YtkgfanajgdelcaaGreatDoor
open Go.RowKit Go.Shelf Go.Maps
attribute [local go_sem] Oper.semAt_some
theorem stepB_take {l : List Un} {S : List ByteArray} {y : ByteArray} {u : Un} (h : findU l y = some u) (hy : inS S y = true) : stepB l S y = addAll S u.incs := by
  rw [stepB, hy, if_pos rfl, incsOf, h]
/-- The names with their places. -/
abbrev Pl (R : List ByteArray) := { y : Int × ByteArray // y.2 ∈ R }
def plL (R : List ByteArray) : List (Pl R) := List.ofFn fun k : Fin R.length => ⟨((k.val : Int), R[k.val]), List.getElem_mem k.isLt⟩
theorem plL_len (R : List ByteArray) : (plL R).length = R.length := by simp [plL]
theorem plL_at (R : List ByteArray) (k : Nat) (h : k < (plL R).length) : (plL R)[k].1 = ((k : Int), R[k]'(by rw [plL_len] at h; exact h)) := by simp [plL]
theorem plL_names (R : List ByteArray) : (plL R).map (fun y => y.1.2) = R := by
  refine List.ext_getElem (by simp [plL]) fun i h1 h2 => ?_
  simp [plL]
set_option maxRecDepth 100000 in
set_option maxHeartbeats 4000000 in
theorem uses_any (l : List Un) (n : Nat) (va : Value) (x : ByteArray) (w : World) (h : UnsAt (fun b => b < n) w va l) (hn : n ≤ w.heap.size) (hg : libGood l = true) (hw : l.length + wtU l ≤ 1048576) (hx : x.size ≤ maxLen) :
    Calls Tryz.prog 37 #[va, .string x] w fun e w' => ∃ b, e = .returned (.map (some b)) ∧ SetIs w' b 1000 (usesB l (ordL l) x) ∧ w.heap.size ≤ b ∧ Below w.heap.size w w' := by
  obtain ⟨p, c, rfl, hlen⟩ := h.form
  unfold maxLen at hlen
  obtain ⟨h1, h2, h3⟩ := libGood_parts hg
  have h12 : l.length ≤ 12 := by rw [libGood, Bool.and_eq_true, Bool.and_eq_true] at hg; exact of_decide_eq_true hg.1.2
  have H := Lib.hid h
  have HL := Lib.hid h2
  have HD := Lib.hid h1
  have HGD := Lib.hid h3
  have HOI := Lib.hid (fun z (hz : z ∈ ordL l) => (ordL_inv l).sub z hz)
  have hol := (ordL_inv l).len
  have HSZ := Lib.hid (fun y (hy : y ∈ ordL l) => h.name_size hy)
  clear h hg h1 h2 h3
  have hmm := @run_makeMap Tryz.prog
  obtain ⟨W1, hW1⟩ : ∃ W1 : World, W1 = w.alloc (.cells #[.slice p l.length c] 24) := ⟨_, rfl⟩
  have hz1 : W1.heap.size = w.heap.size + 1 := by rw [hW1]; simp
  obtain ⟨wm, hrm, hsm, hgm⟩ := (SetIs.nil W1).add (by omega) x hx
  have hsx : addS [] x = [x] := by simp [addS, inS]
  rw [hsx, hz1] at hsm
  rw [hz1] at hrm hgm
  have hzm := hgm.size
  simp only [World.size_alloc, hz1] at hzm
  have hbm : Below w.heap.size w wm := ⟨hgm.os.trans (by rw [hW1]; rfl), hgm.tape.trans (by rw [hW1]; rfl), hgm.output.trans (by rw [hW1]; rfl), by omega, fun k hk => (hgm.block k (by simp [hz1]; omega) (by simp; omega)).trans ((hao W1 _ k (by omega)).trans (by rw [hW1]; exact hao w _ k hk))⟩
  have hL0 : wm.heap[w.heap.size]? = some (.cells #[.slice p l.length c] 24 (0, 0)) := (hgm.block _ (by simp [hz1]; omega) (by simp)).trans ((hao W1 _ _ (by omega)).trans (by rw [hW1]; exact heap_alloc_new w _))
  have hL0c : wm.cell? ⟨w.heap.size, 0, none⟩ = some (.slice p l.length c) := by rw [cell_of_row wm _ 0 _ _ (0, 0) hL0]; rfl
  have HLB := Lib.hid hL0
  have HSM := Lib.hid hsm
  subst hW1
  have hhz := bsz (show w.heap.size < wm.heap.size by omega)
  clear hsm hL0 hgm hsx
  refine (callsIn_wide (n := 6)).1 ?_
  refine callsIn_of_wp_marks Tryz.func37 rfl trivial ?_ rfl
  simp only [Tryz.ntmps37, List.size_toArray, List.length_cons, List.length_nil, Nat.reduceAdd, Nat.reduceSub, Array.replicate_succ, Array.replicate_zero, List.push_toArray, List.append_toArray, List.nil_append, List.cons_append]
  gi_wp2_with (first | (refine ⟨trivial, ?_⟩; gi_at_call 31; refine (callsIn_wide.2 (order_any l _ _ (H.out.below (by (repeat (first | with_reducible exact Below.refl _ _ | with_reducible assumption | with_reducible refine Below.al ?_ _ | with_reducible refine Below.sc ?_ (by first | exact Nat.le_refl _ | (simp; done) | (simp; omega)) _ | assumption | exact Below.refl _ _ | refine Below.dr ?_ | refine Below.drN ?_ _ | refine Below.step ?_ (by assumption))))) (by omega))).mono ?_; rintro e w2 ⟨hb2, hp⟩; rw [if_pos HL.out] at hp; obtain ⟨v, rfl, hv⟩ := hp; have HV := Lib.hid hv; obtain ⟨pv, cv, rfl, -⟩ := OwnRow.form hv; clear hv; have hq2 := hb2.size; simp at hq2) | (refine ⟨trivial, ?_⟩; gi_at_call 93; refine (backS_in Fence.wide _ trivial rfl _ _ _ _).mono ?_; rintro e w3 ⟨rfl, rfl⟩))
  have HMI := Lib.hid (fun y (hy : y ∈ ordL l) => HSZ.out y hy)
  have hQ : (fun b => wm.heap.size < b ∧ b ≤ w2.heap.size) w2.heap.size := ⟨by omega, Nat.le_refl _⟩
  obtain ⟨W0, hW0⟩ : ∃ W0 : World, W0 = w2.alloc (.cells #[.slice pv (ordL l).length cv] 26) := ⟨_, rfl⟩
  have hb02 : Below w.heap.size w w2 := by (repeat (first | with_reducible exact Below.refl _ _ | with_reducible assumption | with_reducible refine Below.al ?_ _ | with_reducible refine Below.sc ?_ (by first | exact Nat.le_refl _ | (simp; done) | (simp; omega)) _ | assumption | exact Below.refl _ _ | refine Below.dr ?_ | refine Below.drN ?_ _ | refine Below.step ?_ (by assumption)))
  have hB0 : Below w.heap.size w W0 := by rw [hW0]; (repeat (first | with_reducible exact Below.refl _ _ | with_reducible assumption | with_reducible refine Below.al ?_ _ | with_reducible refine Below.sc ?_ (by first | exact Nat.le_refl _ | (simp; done) | (simp; omega)) _ | assumption | exact Below.refl _ _ | refine Below.dr ?_ | refine Below.drN ?_ _ | refine Below.step ?_ (by assumption)))
  have hb20 : Below w2.heap.size w2 W0 := by rw [hW0]; exact (Below.refl _ _).alloc (Nat.le_refl _) _
  have hm2 : Below wm.heap.size wm W0 := by rw [hW0]; exact (((Below.refl wm.heap.size wm).alloc (Nat.le_refl _) _).trans (hb2.mono (by simp))).alloc (by omega) _
  have hs0 : W0.heap.size = w2.heap.size + 1 := by rw [hW0]; simp
  have bS : BoxN W0 w2.heap.size 26 #[.slice pv (ordL l).length cv] := by rw [hW0]; exact heap_alloc_new w2 _
  have bM : BoxN W0 wm.heap.size 66 #[.map (some (w.heap.size + 1))] := (hb20.block _ (by omega)).trans ((hb2.block _ (by simp)).trans (heap_alloc_new wm _))
  have bL : BoxN W0 w.heap.size 24 #[.slice p l.length c] := (hm2.block _ (by omega)).trans HLB.out
  have sM : SetIs W0 (w.heap.size + 1) (1 + 12 * 0) [x] := (HSM.out.kept (hm2.block _ (by omega))).mono (by omega)
  have bS' : W0.cell? ⟨w2.heap.size, 0, none⟩ = some (.slice pv (plL (ordL l)).length cv) := by rw [plL_len]; exact bS.cell 0
  have hbl : ∀ k (h : k < (plL (ordL l)).length), ∃ b o, pv = some ⟨b, o, none⟩ ∧ (fun b => wm.heap.size < b ∧ b ≤ w2.heap.size) b ∧ W0.cell? ⟨b, o + k, none⟩ = some (.string (plL (ordL l))[k].1.2) := fun k hk => by
    rw [plL_len] at hk
    obtain ⟨b', o', e, hB', hy0, -⟩ := (HV.out.at_.below hb20).at_ hk
    have h1 := hB'.1
    simp at h1
    exact ⟨b', o', e, ⟨by omega, by have := hB'.2; omega⟩, by rw [plL_at]; exact hy0⟩
  rw [← hW0]
  clear hW0 hrm bS hbm HLB HSM
  have HBL := Lib.hid hbl
  clear hbl
  refine wpIn_rangeFunc_ownH (F := Fence.wide) (n := 6) rfl (by omega) (gf := 142) (lb := #[.pointer (some ⟨w2.heap.size, 0, none⟩)]) rfl trivial (enters_of Tryz.func142 (by kernel_rfl) rfl)
    (backS_stops (fun y : Pl (ordL l) => y.1.1) (fun y => .string y.1.2) Fence.wide 5 trivial rfl (by omega) w2.heap.size w.heap.size _ hQ pv cv (plL (ordL l)) (by rw [plL_len]; omega) (fun k hk => by rw [plL_at]) W0 bS' HBL.out)
    (fun h k => h.trans k)
    (fun W l o o' hl h h1 h2 => ⟨belowK_b (w := W0) (by omega) W l o o' hl h h1 h2, fun b hb hlt => World.putObj_heap_other (fun e => by have := hb.2; omega)⟩)
    (Below.refl _ _) (fun _ => rfl)
    (fun pre W => ((BoxN W w.heap.size 24 #[.slice p l.length c] ∧ BoxN W wm.heap.size 66 #[.map (some (w.heap.size + 1))]) ∧ SetIs W (w.heap.size + 1) (1 + 12 * pre.length) ((pre.map (fun y => y.1.2)).foldl (stepB l) [x])) ∧ (Below w.heap.size w W ∧ W0.heap.size ≤ W.heap.size))
    (fun _ _ _ => False)
    (OwnFrom.and (OwnFrom.and (OwnFrom.and (Own.from (boxN_own w.heap.size 24 (fun _ => #[.slice p l.length c])) _) (Own.from (boxN_own wm.heap.size 66 (fun _ => #[.map (some (w.heap.size + 1))])) _))
      (fun s X Y row hs hg hr => hs.kept (hg.block _ hs.lt (fun e => by have := (hr _ e.symm).1; omega)))) (OwnFrom.and (ownFrom_below (Nat.le_refl _) (by omega)) (fun s X Y row hs hg hr => Nat.le_trans hs hg.size)))
    (fun _ _ _ _ _ hs _ _ => hs)
    ⟨⟨⟨bL, bM⟩, sM⟩, hB0, Nat.le_refl _⟩
    (fun y a' W => a' = { tmps := #[Value.slice p l.length c, Value.string x, Value.pointer (some ⟨w.heap.size, 0, none⟩), undef, Value.map none, Value.pointer (some ⟨wm.heap.size, 0, none⟩), Value.slice pv (ordL l).length cv, Value.bool true, undef, Value.string y.1.2, undef, undef, Value.map (some (w.heap.size + 1)), Value.string x, Value.map (some (w.heap.size + 1)), Value.tuple #[Value.slice pv (ordL l).length cv, Value.bool true], Value.slice p l.length c, Value.tuple #[Value.slice pv (ordL l).length cv, Value.bool true], Value.slice pv (ordL l).length cv, Value.bool true, Value.slice pv (ordL l).length cv,
      Value.func (Fn.func 142) #[] #[Value.pointer (some ⟨w2.heap.size, 0, none⟩)], Value.int .i64 y.1.1, Value.string y.1.2, undef, undef, undef, undef, undef, undef, undef, undef, undef, undef, undef, undef, undef, undef, undef, undef, undef, undef, undef, undef], defers := [] })
    (fun x a' s X Y row hs hg hr => hs)
    ?assign ?body ?done ?stop
  case assign =>
    rintro l' pre ⟨⟨idx, y⟩, hy⟩ W K hI hK
    gi_wp2
    exact hK _ _ ⟨Nat.le_refl _, fun k o _ h _ => h⟩ ⟨Below.refl _ _, fun _ _ _ => rfl⟩ hI rfl
  case body =>
    rintro l' pre ⟨⟨idx, y⟩, hy⟩ a' W hl' - ⟨⟨⟨bL1, bM1⟩, sM1⟩, ⟨hBW, hsz⟩⟩ rfl hlt
    have hy : y ∈ ordL l := hy
    have HS0 := Lib.hid hs0
    clear hs0
    have hpl := hlt
    rw [plL_len] at hpl
    have hyz := HMI.out y hy
    have k0 := bM1.cell 0
    have l0 := bL1.cell 0
    simp only [List.getElem?_toArray, List.getElem?_cons_zero] at k0 l0
    have zM := bsz bM1.lt
    have zL := bsz bL1.lt
    obtain ⟨u, hul, hux⟩ := List.mem_map.1 (HOI.out y hy)
    have hfu : findU l y = some u := hux ▸ findU_of HD.out hul
    obtain ⟨j, hj, hplc, hlj⟩ := place_some hfu
    have hi12 : u.incs.length ≤ 12 := by have := HGD.out u hul; unfold Un.good at this; simp only [Bool.and_eq_true, decide_eq_true_iff] at this; exact this.1.1.1.1.2
    obtain ⟨S, hS⟩ : ∃ S, (pre.map (fun y => y.1.2)).foldl (stepB l) [x] = S := ⟨_, rfl⟩
    have HFO := Lib.hid (show ((pre ++ [(⟨(idx, y), hy⟩ : Pl (ordL l))]).map (fun y => y.1.2)).foldl (stepB l) [x] = stepB l S y by rw [List.map_append, List.foldl_append, hS]; rfl)
    rw [hS] at sM1
    have hlk := sM1.look y hyz
    obtain ⟨b, o, rfl, hB, p1, c1, p2, c2, -, hx1, -, -, hxu⟩ := (H.out.below hBW).at_ hj
    rw [hlj] at hx1 hxu
    obtain ⟨_, _, _, _, -, q1, -, -, -, -, hil, -, hia, -⟩ := hxu.form
    simp only [Value.slice.injEq, true_and] at q1
    obtain ⟨rfl, rfl⟩ := q1
    clear hxu
    have zb := bsz (World.block_lt_of_cell? _ _ hx1)
    have HIA := Lib.hid hia
    have HST := Lib.hid (fun h => stepB_take (S := S) hfu h)
    clear hS hux hfu hlj hia
    cases hI : inS S y
    · rw [hI] at hlk
      have HI := Lib.hid hI
      have hst : stepB l S y = S := by rw [stepB, hI]; rfl
      rw [hst] at HFO
      clear hI hst
      gi_wp2
      exact ⟨⟨Nat.le_refl _, fun k o _ h _ => h⟩, ⟨Below.refl _ _, fun _ _ _ => rfl⟩, ⟨⟨⟨bL1, bM1⟩, by rw [HFO.out]; exact sM1.mono (by rw [List.length_append]; simp; omega)⟩, hBW, hsz⟩⟩
    · rw [hI] at hlk
      have hst := HST.out hI
      rw [hst] at HFO
      clear hI hst
      have hj0 : (0 : Int) ≤ j := by omega
      have hjl2 : (j : Int) < l.length := by omega
      have h1' : 1 ≤ 6 - 1 - 1 := by omega
      have hmx : Tryz.prog.follows .mixedOrders = true := by kernel_rfl
      gi_wp2
      refine wpIn_mono (Q := fun e a' w4 => e = .normal ∧ a' = { tmps := #[Value.slice (some ⟨b, o, none⟩) l.length c, Value.string x, Value.pointer (some ⟨w.heap.size, 0, none⟩), undef, Value.map none, Value.pointer (some ⟨wm.heap.size, 0, none⟩), Value.slice pv (ordL l).length cv, Value.bool true, undef, Value.string y, undef, undef, Value.map (some (w.heap.size + 1)), Value.string x, Value.map (some (w.heap.size + 1)), Value.tuple #[Value.slice pv (ordL l).length cv, Value.bool true], Value.slice (some ⟨b, o, none⟩) l.length c, Value.tuple #[Value.slice pv (ordL l).length cv, Value.bool true], Value.slice pv (ordL l).length cv, Value.bool true, Value.slice pv (ordL l).length cv, Value.func (Fn.func 142) #[] #[Value.pointer (some ⟨w2.heap.size, 0, none⟩)], Value.int .i64 idx, Value.string y, Value.map (some (w.heap.size + 1)), Value.string y, Value.bool true, Value.bool false, Value.slice (some ⟨b, o, none⟩) l.length c, Value.slice (some ⟨b, o, none⟩) l.length c, Value.string y, Value.int .i64 (j : Int), Value.pointer (some ⟨b, o + j * 4, none⟩), Value.pointer (some ⟨b, o + j * 4 + 1, none⟩), Value.slice p1 u.incs.length c1, Value.int .i64 (u.incs.length : Int), Value.int .i64 0, undef, undef, undef, undef, undef, undef, undef], defers := [] } ∧ Below W.heap.size W w4) ?_ ?_
      · gi_region_with_o (refine ⟨trivial, ?_⟩; gi_at_call 38; refine (CallsIn.inRound l' (callsIn_wide.2 (unitAt_any l _ y _ (H.out.below (by (repeat (first | with_reducible exact Below.refl _ _ | with_reducible assumption | with_reducible refine Below.al ?_ _ | with_reducible refine Below.sc ?_ (by first | exact Nat.le_refl _ | (simp; done) | (simp; omega)) _ | assumption | exact Below.refl _ _ | refine Below.dr ?_ | refine Below.drN ?_ _ | refine Below.step ?_ (by assumption)))))))).mono ?_; rintro e w4 ⟨r, rfl, hr, hb4⟩; rw [hplc] at hr; obtain rfl : r = (j : Int) := hr; have hx14 := (hb4.cell zb.1).trans hx1; have zb4 := bsz (World.block_lt_of_cell? _ _ hx14); have l04 := (hb4.cell zL.1).trans l0; have zL4 := bsz (World.block_lt_of_cell? _ _ l04))
        all_goals exact ⟨rfl, rfl, by (repeat (first | with_reducible exact Below.refl _ _ | with_reducible assumption | with_reducible refine Below.al ?_ _ | with_reducible refine Below.sc ?_ (by first | exact Nat.le_refl _ | (simp; done) | (simp; omega)) _ | assumption | exact Below.refl _ _ | refine Below.dr ?_ | refine Below.drN ?_ _ | refine Below.step ?_ (by assumption)))⟩
      rintro e a' w4 ⟨rfl, rfl, hb4'⟩
      gi_wp2
      have hq4 := hb4'.size
      have hmb : wm.heap.size ≠ w.heap.size + 1 := by omega
      have sM4 := (sM1.kept (hb4'.block _ sM1.lt)).mono (show 1 + 12 * pre.length ≤ 1 + 12 * pre.length + 0 by omega)
      have k4 := (hb4'.cell zM.1).trans k0
      have HI4 := Lib.hid (HIA.out.below hb4')
      clear hlk
      gi_loopw [36] (fun i wr => ∃ k : Nat, k ≤ u.incs.length ∧ i = .int .i64 k ∧ SetIs wr (w.heap.size + 1) (1 + 12 * pre.length + k) (addAll S (u.incs.take k)) ∧ w4.grownBy wr (some (w.heap.size + 1))) (fun i _ => u.incs.length - (intOf i).toNat)
      case atStart => exact ⟨0, Nat.zero_le _, rfl, sM4, ⟨rfl, rfl, rfl, Nat.le_refl _, fun _ _ _ => rfl⟩⟩
      case round =>
        obtain ⟨k, hk, rfl, sM2, hg⟩ := hrel
        have m0 : wr.cell? ⟨wm.heap.size, 0, none⟩ = some (.map (some (w.heap.size + 1))) := (World.cell?_of_block (hg.block _ (World.block_lt_of_cell? _ _ k4) (by simpa using hmb))).trans k4
        have zm := bsz (World.block_lt_of_cell? _ _ m0)
        by_cases hkl : k < u.incs.length
        · obtain ⟨b', o', rfl, hB', hy0, hys⟩ := HI4.out.at_ hkl
          have hbn' : b' < n := hB'
          have HTJ := Lib.hid (addAll_take (out := S) hkl)
          obtain ⟨a, ha⟩ : ∃ a, u.incs[k] = a := ⟨_, rfl⟩
          rw [ha] at hy0 hys HTJ
          clear ha
          have y0 : wr.cell? ⟨b', o' + k, none⟩ = some (.string a) := (World.cell?_of_block (a := ⟨b', o' + k, none⟩) (hg.block _ (World.block_lt_of_cell? _ _ hy0) (by simp; omega))).trans hy0
          have zb' := bsz (World.block_lt_of_cell? _ _ y0)
          obtain ⟨wn, hrun, sM3, hg3⟩ := sM2.add (by omega) a hys
          have HG3 := Lib.hid (And.intro sM3 hg3)
          have hki : (k : Int) < u.incs.length := by omega
          have hk0 : (0 : Int) ≤ k := by omega
          clear sM3 hg3
          gi_wp2
          go_roundw
          case rel => exact ⟨k + 1, by omega, by go_num, by rw [HTJ.out]; exact HG3.out.1, hg.trans HG3.out.2⟩
          case measure => simp [intOf]; omega
        · obtain rfl : k = u.incs.length := by omega
          rw [List.take_length] at sM2
          gi_wp2
          refine ⟨⟨Nat.le_trans hq4 hg.size, fun k o hk hh _ => (hg.block k (Nat.lt_of_lt_of_le (blk_lt hh) hq4) (by have := HS0.out; simp; omega)).trans ((hb4'.block k (blk_lt hh)).trans hh)⟩,
            ⟨(hb4'.mono hBW.size).trans ⟨hg.os, hg.tape, hg.output, hg.size, fun k hk => hg.block k (by omega) (by simp; omega)⟩, fun b hb hlt => (hg.block b (by omega) (by have := hb.1; simp; omega)).trans (hb4'.block b hlt)⟩,
            ⟨⟨⟨(hg.block _ (by omega) (by simp)).trans ((hb4'.block _ bL1.lt).trans bL1), (hg.block _ (by omega) (by simpa using hmb)).trans ((hb4'.block _ bM1.lt).trans bM1)⟩, by rw [HFO.out]; exact sM2.mono (by rw [List.length_append]; simp; omega)⟩, (hBW.trans (hb4'.mono hBW.size)).trans ⟨hg.os, hg.tape, hg.output, hg.size, fun k hk => hg.block k (by omega) (by simp; omega)⟩, by have := hg.size; have := HS0.out; omega⟩⟩
  case done =>
    rintro D ys W hD rfl ⟨⟨⟨bL1, bM1⟩, sM1⟩, ⟨hBW, hsz⟩⟩ hK
    have k0 := bM1.cell 0
    simp only [List.getElem?_toArray, List.getElem?_cons_zero] at k0
    have zM := bsz bM1.lt
    gi_wp2
    refine ⟨by simp, .inl ⟨_, _, rfl, run_takeDeferred hK, ?_⟩⟩
    refine ⟨.map (some (w.heap.size + 1)), ?_, ⟨_, rfl, ?_, by omega, ?_⟩⟩
    · simp [results, Tryz.results37, go_sem]
    · have e : usesB l (ordL l) x = ((plL (ordL l)).reverse.map (fun y => y.1.2)).foldl (stepB l) [x] := by rw [List.map_reverse, plL_names]; rfl
      rw [e]
      exact (sM1.mono (show 1 + 12 * (plL (ordL l)).reverse.length ≤ 1000 by rw [List.length_reverse, plL_len]; omega)).kept (World.putObj_heap_other (fun e => by omega))
    · exact hBW.trans (belowK_b (w := w) (Nat.le_refl _) _ D _ _ (by omega) hK rfl rfl)
  case stop =>
    rintro D c pre W _ _ h _
    exact h.elim
end Go.Proofs.YtkgfanajgdelcaaGreatDoor
namespace Go.Proofs.YtkgfanajgdelcaaGreatDoor
open Go.RowKit Go.Maps
theorem unitAt_at {B : Nat → Prop} (l : List Un) (va : Value) (x : ByteArray) (j : Nat) (w : World) (h : UnsAt B w va l) (hp : placeU l x = some j) :
    Calls Tryz.prog 38 #[va, .string x] w fun e w' => e = .returned (.int .i64 (j : Int)) ∧ Below w.heap.size w w' :=
  (unitAt_any l va x w h).mono (by rintro e w' ⟨r, rfl, hr, hb⟩; rw [hp] at hr; obtain rfl : r = (j : Int) := hr; exact ⟨rfl, hb⟩)
set_option maxRecDepth 100000 in
set_option maxHeartbeats 6400000 in
theorem implVA_any (l : List Un) (n : Nat) (va : Value) (x : ByteArray) (w : World) (h : UnsAt (fun b => b < n) w va l) (hn : n ≤ w.heap.size) (hw : l.length + wtU l ≤ 1048576) (hx : x.size ≤ maxLen) :
    Calls Tryz.prog 12 #[va, .string x] w fun e w' => ∃ v, e = .returned (.tuple #[v, .bool (unitOf l x)]) ∧ StrOwn 9 (NewB w w') w' (visV l x) v ∧ Below w.heap.size w w' := by
  obtain ⟨p, c, rfl, hlen⟩ := h.form
  unfold maxLen at hlen
  have H := Lib.hid h
  clear h
  cases hO : unitOf l x
  · have HO := Lib.hid hO
    go_enter Tryz.func12, Tryz.ntmps12
    go_wp2_with fail
    refine (isUnitOf_any l _ x _ (H.out.below (by (repeat (first | with_reducible exact Below.refl _ _ | with_reducible assumption | with_reducible refine Below.al ?_ _ | with_reducible refine Below.sc ?_ (by first | exact Nat.le_refl _ | (simp; done) | (simp; omega)) _ | assumption | exact Below.refl _ _ | refine Below.dr ?_ | refine Below.drN ?_ _ | refine Below.step ?_ (by assumption))))) hw).mono ?_
    rintro e w1 ⟨rfl, hb1⟩
    have ⟨cw1, fw1⟩ := bcell hb1
    have qw1 := hb1.size
    (try simp at qw1)
    (try have zw1w := bsz (show w.heap.size < w1.heap.size by omega))
    rw [HO.out]
    go_wp2
    go_ret2
    exact ⟨_, rfl, by rw [visV, HO.out, if_neg (by simp)]; exact OwnRow.nil _ _ _ _ _, by (repeat (first | with_reducible exact Below.refl _ _ | with_reducible assumption | with_reducible refine Below.al ?_ _ | with_reducible refine Below.sc ?_ (by first | exact Nat.le_refl _ | (simp; done) | (simp; omega)) _ | assumption | exact Below.refl _ _ | refine Below.dr ?_ | refine Below.drN ?_ _ | refine Below.step ?_ (by assumption)))⟩
  · obtain ⟨h1, h2, h3, h4⟩ := unitOf_parts hO
    have hg : libGood l = true := by rw [unitOf, Bool.and_eq_true] at hO; exact hO.1
    have HO := Lib.hid hO
    have HD := Lib.hid h1
    have HL := Lib.hid h2
    have HVL := Lib.hid (show visV l x = visF l (ordL l) (usesB l (ordL l) x) by rw [visV, HO.out, if_pos rfl]; exact (visL_B h1 h2 h3).symm)
    have HVG := Lib.hid (visF_good l (usesB l (ordL l) x))
    have hal := allAx_len l
    have HAZ := Lib.hid (fun (s : ByteArray) (hs : s ∈ allAx l) => Nat.le_trans (allAx_size hs) (show wtU l ≤ maxLen by unfold maxLen; omega))
    have HOI := Lib.hid (fun z (hz : z ∈ ordL l) => (ordL_inv l).sub z hz)
    have HOZ := Lib.hid (fun y (hy : y ∈ ordL l) => H.out.name_size hy)
    have hol := (ordL_inv l).len
    clear hO h1 h2 h3 h4
    go_enter Tryz.func12, Tryz.ntmps12
    go_wp2_with fail
    refine (isUnitOf_any l _ x _ (H.out.below (by (repeat (first | with_reducible exact Below.refl _ _ | with_reducible assumption | with_reducible refine Below.al ?_ _ | with_reducible refine Below.sc ?_ (by first | exact Nat.le_refl _ | (simp; done) | (simp; omega)) _ | assumption | exact Below.refl _ _ | refine Below.dr ?_ | refine Below.drN ?_ _ | refine Below.step ?_ (by assumption))))) hw).mono ?_
    rintro e w1 ⟨rfl, hb1⟩
    have ⟨cw1, fw1⟩ := bcell hb1
    have qw1 := hb1.size
    (try simp at qw1)
    (try have zw1w := bsz (show w.heap.size < w1.heap.size by omega))
    rw [HO.out]
    go_wp2_with fail
    refine (uses_any l n _ x _ (H.out.below (by (repeat (first | with_reducible exact Below.refl _ _ | with_reducible assumption | with_reducible refine Below.al ?_ _ | with_reducible refine Below.sc ?_ (by first | exact Nat.le_refl _ | (simp; done) | (simp; omega)) _ | assumption | exact Below.refl _ _ | refine Below.dr ?_ | refine Below.drN ?_ _ | refine Below.step ?_ (by assumption))))) (by omega) hg hw hx).mono ?_
    rintro e w2 ⟨bm, rfl, hs2, hbm, hb2⟩
    have q2 := hb2.size
    have hbm2 := hs2.lt
    have HS2 := Lib.hid hs2
    clear hs2 hg
    go_wp2_with fail
    refine (order_any l _ _ (H.out.below (by (repeat (first | with_reducible exact Below.refl _ _ | with_reducible assumption | with_reducible refine Below.al ?_ _ | with_reducible refine Below.sc ?_ (by first | exact Nat.le_refl _ | (simp; done) | (simp; omega)) _ | assumption | exact Below.refl _ _ | refine Below.dr ?_ | refine Below.drN ?_ _ | refine Below.step ?_ (by assumption))))) (by omega)).mono ?_
    rintro e w3 ⟨hb3, hp⟩
    rw [if_pos HL.out] at hp
    obtain ⟨vo, rfl, hv3⟩ := hp
    have q3 := hb3.size
    have HV3 := Lib.hid hv3.at_
    obtain ⟨po, ko, rfl, hol2⟩ := HV3.out.form
    clear hv3
    have hb03 : Below w.heap.size w w3 := by (repeat (first | with_reducible exact Below.refl _ _ | with_reducible assumption | with_reducible refine Below.al ?_ _ | with_reducible refine Below.sc ?_ (by first | exact Nat.le_refl _ | (simp; done) | (simp; omega)) _ | assumption | exact Below.refl _ _ | refine Below.dr ?_ | refine Below.drN ?_ _ | refine Below.step ?_ (by assumption)))
    have HR0 := Lib.hid (row_empty w3 w3.heap.size 9 1 (Nat.le_refl _))
    have HG0 := Lib.hid (Gr.start HR0.out)
    have hv0 : (Value.slice (some ⟨w3.heap.size, 0, none⟩) 0 0).ownBlock = some w3.heap.size := rfl
    obtain ⟨W, hW⟩ : ∃ W : World, W = w3.alloc (.cells #[] 9) := ⟨_, rfl⟩
    rw [← hW] at HG0
    have hb3W : Below w3.heap.size w3 W := by rw [hW]; exact (Below.refl _ _).alloc (Nat.le_refl _) _
    have hb0W : Below w.heap.size w W := Below.step hb03 hb3W
    have hWs : W.heap.size = w3.heap.size + 1 := by rw [hW]; simp
    have HSW := Lib.hid ((HS2.out.kept (hb3.block _ hbm2)).kept (hb3W.block _ (by omega)))
    have HVW := Lib.hid (HV3.out.below hb3W)
    clear HR0
    go_wp2
    rw [← hW]
    clear hW
    go_loopw [9, 29] (fun o i wr => ∃ k : Nat, k ≤ (ordL l).length ∧ i = .int .i64 k ∧ Gr 9 1 W (.slice (some ⟨w3.heap.size, 0, none⟩) 0 0) w3.heap.size (visF l ((ordL l).take k) (usesB l (ordL l) x)).length (strW (visF l ((ordL l).take k) (usesB l (ordL l) x))) o wr) (fun _ i _ => (ordL l).length - (intOf i).toNat)
    case atStart => exact ⟨0, Nat.zero_le _, rfl, HG0.out⟩
    case round =>
      obtain ⟨k, hk, rfl, hgr⟩ := hrel
      have HGR := Lib.hid hgr
      have hbw : Below w.heap.size w wr := hgr.bel hb0W (fun g hg => by rw [hv0] at hg; injection hg with hg; omega)
      have HSM := Lib.hid (fun (B : Nat → Prop) (hB : ∀ b, B b → b ≠ w3.heap.size) => hgr.same (B := B) (fun b hb e => by rw [hv0] at e; injection e with e; exact hB b hb e.symm))
      have hgd := HVG.out ((ordL l).take k)
      have hgl := hgd.len
      have hSR := HSW.out.kept (hgr.block HSW.out.lt (fun e => by rw [hv0] at e; injection e with e; omega))
      clear hgr
      by_cases hlt : k < (ordL l).length
      · have hor := HVW.out.mono (HSM.out _ (fun b hb => by have := hb.2; omega)) (fun _ h => h)
        obtain ⟨b', o', rfl, hB', hy0, hys⟩ := hor.at_ hlt
        have HTK := Lib.hid (visF_take (l := l) (U := usesB l (ordL l) x) hlt)
        have hin := List.getElem_mem hlt
        obtain ⟨a, ha⟩ : ∃ a, (ordL l)[k] = a := ⟨_, rfl⟩
        rw [ha] at hy0 HTK hin hys
        obtain ⟨u, hul2, hua⟩ := List.mem_map.1 (HOI.out a hin)
        have HUA := Lib.hid hua
        clear ha hor hua
        have zb' := bsz (World.block_lt_of_cell? _ _ hy0)
        have hki : (k : Int) < (ordL l).length := by omega
        have hlk := hSR.look a hys
        have HGS := Lib.hid hgd
        clear hgd hSR
        generalize visF l ((ordL l).take k) (usesB l (ordL l) x) = out at *
        cases hI : inS (usesB l (ordL l) x) a
        all_goals rw [hI] at HTK hlk
        · go_wp2
          refine ⟨⟨k + 1, by omega, by go_num, ?_⟩, by simp [intOf]; omega⟩
          rw [HTK.out, if_neg (by simp)]
          exact HGR.out
        · obtain ⟨vr, hvr⟩ : ∃ vr, vr = u9 := ⟨_, rfl⟩
          subst hvr
          have hfu : findU l a = some u := HUA.out ▸ findU_of HD.out hul2
          obtain ⟨j, hj, hpl, hlj⟩ := place_some hfu
          have HAX := Lib.hid (show axsOf l a = u.axs by rw [axsOf, hfu])
          obtain ⟨b, o, rfl, hB, p1, c1, p2, c2, -, -, hx2, -, hxu⟩ := (H.out.below hbw).at_ hj
          rw [hlj] at hx2 hxu
          obtain ⟨_, _, _, _, -, -, q2', -, -, -, -, hal2, -, haa⟩ := hxu.form
          simp only [Value.slice.injEq, true_and] at q2'
          obtain ⟨rfl, rfl⟩ := q2'
          unfold maxLen at hal2
          have HA := Lib.hid haa
          have zb := bsz (World.block_lt_of_cell? _ _ hx2)
          have hj0 : (0 : Int) ≤ j := by omega
          have hjl2 : (j : Int) < l.length := by omega
          have HUAT := Lib.hid (fun (w' : World) (hat : UnsAt (fun b => b < n) w' (.slice (some ⟨b, o, none⟩) l.length c) l) => unitAt_at l _ a j w' hat hpl)
          clear haa hlj hpl hxu hfu
          go_wp2_with fail
          refine (HUAT.out _ (H.out.below hbw)).mono ?_
          rintro e wz ⟨rfl, hbz⟩
          have hx2z := (hbz.cell zb.1).trans hx2
          have zbz := bsz (World.block_lt_of_cell? _ _ hx2z)
          have hrow := own_below HGR.out.row hbz
          have hvol : ∀ g, vr.ownBlock = some g → g < wr.heap.size := fun g hg => own_lt' HGR.out.row hg
          have hvob : ∀ g, vr.ownBlock = some g → w3.heap.size ≤ g := fun g hg => own_base HGR.out.row g hg
          have HG0' := Lib.hid (Gr.start hrow)
          have HAW := Lib.hid (HA.out.below hbz)
          have hqz := hbz.size
          clear hrow
          have HGA := Lib.hid (fun m => HGS.out.addAll (xs := u.axs.take m) (fun z hz => by rw [← HAX.out] at hz; exact axsOf_in z (List.mem_of_mem_take hz)))
          obtain ⟨wA, hwA⟩ : ∃ x, x = wr := ⟨_, rfl⟩
          subst hwA
          have hmin := hbw.size
          go_wp2
          go_loopw [9, 45] (fun o i wr' => ∃ m : Nat, m ≤ u.axs.length ∧ i = .int .i64 m ∧ Gr 9 1 wz vr w3.heap.size (addAll out (u.axs.take m)).length (strW (addAll out (u.axs.take m))) o wr') (fun _ i _ => u.axs.length - (intOf i).toNat)
          case atStart => exact ⟨0, Nat.zero_le _, rfl, HG0'.out⟩
          case round =>
            obtain ⟨m, hm, rfl, hg4⟩ := hrel
            have HG4 := Lib.hid hg4
            have hga := HGA.out m
            have hgal := hga.len
            have hbg := hg4.grown.size
            by_cases hml : m < u.axs.length
            · obtain ⟨b2, o2, rfl, hB2, hz0, -⟩ := (hg4.strs HAW.out (fun b hb e => by have := hvob b e; omega)).at_ hml
              have HTJ := Lib.hid (addAll_take (out := out) hml)
              obtain ⟨a2, ha2⟩ : ∃ a2, u.axs[m] = a2 := ⟨_, rfl⟩
              rw [ha2] at hz0 HTJ
              clear ha2
              have zb2 := bsz (World.block_lt_of_cell? _ _ hz0)
              have HRO := Lib.hid (rowS_own (S := fun _ => True) hg4.row (fun s hs => HAZ.out s (hga.2 s hs)) (by unfold maxLen; omega) (fun _ _ => trivial))
              obtain ⟨p5, k5, rfl, -⟩ := OwnRow.form HRO.out
              clear hg4 hga
              generalize addAll out (u.axs.take m) = cur at *
              have hm2 : (m : Int) < u.axs.length := by omega
              go_wp2_with fail
              refine (containsS_any cur _ a2 _ HRO.out.at_).mono ?_
              rintro e w7 ⟨rfl, hb7⟩
              have ⟨cb7, fb7⟩ := bcell hb7
              have q7 := hb7.size
              have HAD := Lib.hid (show addS cur a2 = if inS cur a2 then cur else cur ++ [a2] from rfl)
              cases hI2 : inS cur a2
              all_goals rw [hI2] at HAD
              · go_wp2_with (at_builtin; refine wpList_app1 rfl (.tmp 53) (.tmp 55) _ rfl w3.heap.size 9 1 16 elemStr _ _ _ rfl w7 #[.string a2] rfl _ (by simp) rfl (own_below HG4.out.row hb7) rfl (by simp [Value.oneCell']) (by omega) (by unfold maxLen; omega) (by have := HGR.out.grown.size; omega) ?_; intro v8 w8 hown8 hg8 hnr8 hlt8)
                obtain ⟨q8, k8, rfl⟩ := own_form hown8 (Nat.succ_pos _)
                refine ⟨⟨m + 1, by omega, by go_num, ?_⟩, by simp [intOf]; omega⟩
                rw [HTJ.out, HAD.out, if_neg (by simp), List.length_append, strW_snoc]
                exact (HG4.out.below hb7).app hown8 hg8 hnr8
              · go_wp2
                refine ⟨⟨m + 1, by omega, by go_num, ?_⟩, by simp [intOf]; omega⟩
                rw [HTJ.out, HAD.out, if_pos (by trivial)]
                exact HG4.out.below hb7
            · obtain rfl : m = u.axs.length := by omega
              rw [List.take_length] at HG4
              go_wp2
              refine ⟨⟨k + 1, by omega, by go_num, ?_⟩, by simp [intOf]; omega⟩
              rw [HTK.out, if_pos (by trivial), HAX.out]
              exact (HGR.out.below hbz).app HG4.out.row HG4.out.grown HG4.out.fresh
      · obtain rfl : k = (ordL l).length := by omega
        rw [List.take_length, ← HVL.out] at HGR
        rw [List.take_length, ← HVL.out] at hgd hgl
        have HRO := Lib.hid (rowS_own (S := NewB w wr) HGR.out.row (fun s hs => HAZ.out s (hgd.2 s hs)) (by unfold maxLen; omega) (fun g hg => ⟨by have := own_base HGR.out.row g hg; omega, own_lt' HGR.out.row hg⟩))
        obtain ⟨pv, cv, rfl, -⟩ := OwnRow.form HRO.out
        go_wp2
        go_ret2
        exact ⟨.slice pv (visV l x).length cv, rfl, HRO.out, hbw⟩
end Go.Proofs.YtkgfanajgdelcaaGreatDoor
namespace Go.Proofs.YtkgfanajgdelcaaGreatDoor
open Go.RowKit
theorem vBigL_any (pp : Option Addr) (nn cc : Nat) (w : World) : Calls Tryz.prog 6 #[.slice pp nn cc] w fun e w' => e = .returned (.bool (decide ((65536 : Int) < (nn : Int)))) ∧ w = w' := by
  go_enter Tryz.func6, Tryz.ntmps6
  go_wp2
  go_ret
  exact ⟨rfl, rfl⟩
theorem elemIntQ : Elem Tryz.prog 30 3 1 8 := elem_of Tryz.underlying30 (z := .int .i64 0) (by kernel_rfl) rfl (by omega)
theorem hashV_bd (l : List Un) (x : ByteArray) : i64B (hashV l x) := by
  rw [hashV]; split
  · have := hashF_bd l l.length x; unfold i64B; rw [hashU]; omega
  · unfold i64B; omega
/-- The hashes of the first k units. -/
def hashesV (l : List Un) (k : Nat) : List Int := (l.take k).map (fun u => hashV l u.name)
theorem hashesV_snoc {l : List Un} {k : Nat} (h : k < l.length) : hashesV l (k + 1) = hashesV l k ++ [hashV l l[k].name] := by
  rw [hashesV, List.take_succ_eq_append_getElem h, List.map_append]; rfl
theorem hashesV_len {l : List Un} {k : Nat} (h : k ≤ l.length) : (hashesV l k).length = k := by rw [hashesV, List.length_map, List.length_take]; omega
set_option maxRecDepth 100000 in
set_option maxHeartbeats 12800000 in
theorem fnLibraries_small (pp : Option Addr) (nn cc : Nat) (w : World) (hE : Env w) (h : CodeIn w (.slice pp nn cc)) (hn : nn ≤ 65536) :
    Calls Tryz.prog 3 #[.slice pp nn cc] w fun e w' => e = .returned (.bool true) ∧ Below w.heap.size w w' := by
  have HE := Lib.hid hE
  have H := Lib.hid h
  have hnn : ¬ (65536 : Int) < (nn : Int) := by omega
  clear hE h
  go_enter Tryz.func3, Tryz.ntmps3
  go_wp2_with fail
  refine (vBigL_any _ _ _ _).mono ?_
  rintro e w' ⟨rfl, rfl⟩
  go_wp2_with fail
  refine (drawLO_any pp nn cc _ H.out).mono ?_
  rintro e w1 ⟨v, l, rfl, hus, hl5, hwt, hb1⟩
  obtain ⟨p, c, rfl, -⟩ := hus.form
  have hwl := wtU_max l hwt
  have hw : l.length + wtU l ≤ 1048576 := by omega
  have HU := Lib.hid (hus.mono (B' := fun b => b < w1.heap.size) (SameOn.refl _ _) (fun b hb => hb.2))
  have hll := loF_len l
  have hq1 := hb1.size
  clear hus hwt
  go_wp2_with fail
  refine (implLO_any l _ _ HU.out hw).mono ?_
  rintro e w2 ⟨vg, rfl, hg2, hb2⟩
  have ⟨cw2, fw2⟩ := bcell hb2
  have qw2 := hb2.size
  (try simp at qw2)
  (try have zw2w := bsz (show w.heap.size < w2.heap.size by omega))
  (try have zw2w1 := bsz (show w1.heap.size < w2.heap.size by omega))
  have HG2 := Lib.hid hg2.at_
  obtain ⟨pg, kg, rfl, -⟩ := OwnRow.form hg2
  clear hg2
  go_wp2_with fail
  refine (specLO_any l _ _ (HU.out.below (by (repeat (first | with_reducible exact Below.refl _ _ | with_reducible assumption | with_reducible refine Below.al ?_ _ | with_reducible refine Below.sc ?_ (by first | exact Nat.le_refl _ | (simp; done) | (simp; omega)) _ | assumption | exact Below.refl _ _ | refine Below.dr ?_ | refine Below.drN ?_ _ | refine Below.step ?_ (by assumption))))) hw).mono ?_
  rintro e w3 ⟨va, rfl, hva, hb3⟩
  have ⟨cw3, fw3⟩ := bcell hb3
  have qw3 := hb3.size
  (try simp at qw3)
  (try have zw3w := bsz (show w.heap.size < w3.heap.size by omega))
  (try have zw3w1 := bsz (show w1.heap.size < w3.heap.size by omega))
  (try have zw3w2 := bsz (show w2.heap.size < w3.heap.size by omega))
  obtain ⟨pa, ka, rfl, -⟩ := hva.form
  clear hva
  cases hG : libGood l
  · have HGF := Lib.hid hG
    have e0 : (loF l).length = 0 := by rw [loF, if_neg (by rw [hG]; simp)]; rfl
    rw [e0]
    clear hG
    go_wp2_with fail
    refine (implLib_any l _ _ (HU.out.below (by (repeat (first | with_reducible exact Below.refl _ _ | with_reducible assumption | with_reducible refine Below.al ?_ _ | with_reducible refine Below.sc ?_ (by first | exact Nat.le_refl _ | (simp; done) | (simp; omega)) _ | assumption | exact Below.refl _ _ | refine Below.dr ?_ | refine Below.drN ?_ _ | refine Below.step ?_ (by assumption))))) hw).mono ?_
    rintro e w4 ⟨rfl, hb4⟩
    have ⟨cw4, fw4⟩ := bcell hb4
    have qw4 := hb4.size
    (try simp at qw4)
    (try have zw4w := bsz (show w.heap.size < w4.heap.size by omega))
    (try have zw4w1 := bsz (show w1.heap.size < w4.heap.size by omega))
    (try have zw4w2 := bsz (show w2.heap.size < w4.heap.size by omega))
    (try have zw4w3 := bsz (show w3.heap.size < w4.heap.size by omega))
    rw [HGF.out]
    go_wp2_with fail
    refine (implLib_any l _ _ (HU.out.below (by (repeat (first | with_reducible exact Below.refl _ _ | with_reducible assumption | with_reducible refine Below.al ?_ _ | with_reducible refine Below.sc ?_ (by first | exact Nat.le_refl _ | (simp; done) | (simp; omega)) _ | assumption | exact Below.refl _ _ | refine Below.dr ?_ | refine Below.drN ?_ _ | refine Below.step ?_ (by assumption))))) hw).mono ?_
    rintro e w5 ⟨rfl, hb5⟩
    have ⟨cw5, fw5⟩ := bcell hb5
    have qw5 := hb5.size
    (try simp at qw5)
    (try have zw5w := bsz (show w.heap.size < w5.heap.size by omega))
    (try have zw5w1 := bsz (show w1.heap.size < w5.heap.size by omega))
    (try have zw5w2 := bsz (show w2.heap.size < w5.heap.size by omega))
    (try have zw5w3 := bsz (show w3.heap.size < w5.heap.size by omega))
    (try have zw5w4 := bsz (show w4.heap.size < w5.heap.size by omega))
    rw [HGF.out]
    go_wp2
    go_ret
    exact ⟨rfl, by (repeat (first | with_reducible exact Below.refl _ _ | with_reducible assumption | with_reducible refine Below.al ?_ _ | with_reducible refine Below.sc ?_ (by first | exact Nat.le_refl _ | (simp; done) | (simp; omega)) _ | assumption | exact Below.refl _ _ | refine Below.dr ?_ | refine Below.drN ?_ _ | refine Below.step ?_ (by assumption)))⟩
  · have HGT := Lib.hid hG
    have HLO := Lib.hid (libGood_lo hG)
    have HUN := Lib.hid (fun (u : Un) (hu : u ∈ l) => libGood_unit hG hu)
    have HIN := Lib.hid (fun (u : Un) (hu : u ∈ l) (y : ByteArray) (hy : y ∈ u.incs) => libGood_inc hG hu hy)
    have HAX := Lib.hid (fun (u : Un) (hu : u ∈ l) => libGood_axs hG hu)
    have HST := Lib.hid (libGood_stale hG)
    clear hG
    go_wp2_with fail
    refine (implLib_any l _ _ (HU.out.below (by (repeat (first | with_reducible exact Below.refl _ _ | with_reducible assumption | with_reducible refine Below.al ?_ _ | with_reducible refine Below.sc ?_ (by first | exact Nat.le_refl _ | (simp; done) | (simp; omega)) _ | assumption | exact Below.refl _ _ | refine Below.dr ?_ | refine Below.drN ?_ _ | refine Below.step ?_ (by assumption))))) hw).mono ?_
    rintro e w4 ⟨rfl, hb4⟩
    have ⟨cw4, fw4⟩ := bcell hb4
    have qw4 := hb4.size
    (try simp at qw4)
    (try have zw4w := bsz (show w.heap.size < w4.heap.size by omega))
    (try have zw4w1 := bsz (show w1.heap.size < w4.heap.size by omega))
    (try have zw4w2 := bsz (show w2.heap.size < w4.heap.size by omega))
    (try have zw4w3 := bsz (show w3.heap.size < w4.heap.size by omega))
    rw [HGT.out]
    have hb24 : Below w2.heap.size w2 w4 := Below.step hb3 hb4
    have hb14 : Below w1.heap.size w1 w4 := Below.step hb2 hb24
    have hb04 : Below w.heap.size w w4 := Below.step hb1 hb14
    obtain ⟨W, hW⟩ : ∃ W : World, W = w4.alloc (.cells #[] 3) := ⟨_, rfl⟩
    have HR0 := Lib.hid (row_empty w4 w4.heap.size 3 1 (Nat.le_refl _))
    have HG0 := Lib.hid (Gr.start HR0.out)
    have hv0 : (Value.slice (some ⟨w4.heap.size, 0, none⟩) 0 0).ownBlock = some w4.heap.size := rfl
    rw [← hW] at HG0
    have hb4W : Below w4.heap.size w4 W := by rw [hW]; exact (Below.refl _ _).alloc (Nat.le_refl _) _
    have hWs : W.heap.size = w4.heap.size + 1 := by rw [hW]; simp
    have HUW := Lib.hid (HU.out.below (Below.step hb14 hb4W))
    have HGW := Lib.hid (HG2.out.below (Below.step hb24 hb4W))
    have hb0W : Below w.heap.size w W := Below.step hb04 hb4W
    have hz24 : w1.heap.size ≤ w2.heap.size ∧ w2.heap.size ≤ w4.heap.size := by omega
    clear HR0 hb1 hb2 hb3 hb4 cw2 fw2 cw3 fw3 cw4 fw4 hb04 hb14 hb24
    go_wp2
    rw [← hW]
    clear hW
    go_loopw [8, 9] (fun o i wr => ∃ k : Nat, k ≤ l.length ∧ i = .int .i64 k ∧ Gr 3 1 W (.slice (some ⟨w4.heap.size, 0, none⟩) 0 0) w4.heap.size k (intW (hashesV l k)) o wr) (fun _ i _ => l.length - (intOf i).toNat)
    case atStart => exact ⟨0, Nat.zero_le _, rfl, HG0.out⟩
    case round =>
      obtain ⟨k, hk, rfl, hgr⟩ := hrel
      have HGR := Lib.hid hgr
      have hbw : Below w.heap.size w wr := hgr.bel hb0W (fun g hg => by rw [hv0] at hg; injection hg with hg; omega)
      have HSM := Lib.hid (fun (B : Nat → Prop) (hB : ∀ b, B b → b < w4.heap.size) => (fun b hb hlt => hgr.block hlt (fun e => by rw [hv0] at e; injection e with e; have := hB b hb; omega) : SameOn B W wr))
      have hqr := hgr.grown.size
      obtain ⟨pv, cv, rfl⟩ := own_slice hgr.row
      have HUR := Lib.hid (HUW.out.mono (HSM.out _ (fun b hb => by omega)) (fun _ h => h))
      have HOR := Lib.hid (HGW.out.mono (HSM.out _ (fun b hb => by have := hb.2; omega)) (fun _ h => h))
      clear hgr HSM
      by_cases hlt : k < l.length
      · obtain ⟨b, o, rfl, hB, p1, c1, p2, c2, hx0, hx1, hx2, hx3, hx⟩ := HUR.out.at_ hlt
        have HSN := Lib.hid (hashesV_snoc hlt)
        have hmem := List.getElem_mem hlt
        have HLX := Lib.hid (fun u (h : l[k] = u) => h)
        obtain ⟨a, ha⟩ : ∃ a, l[k] = a := ⟨_, rfl⟩
        rw [ha] at hx0 hx1 hx2 hx3 hx HSN hmem
        obtain ⟨_, _, _, _, -, q1', q2', -, hns, -, hil, hal, hii, haa⟩ := hx.form
        simp only [Value.slice.injEq, true_and] at q1' q2'
        obtain ⟨rfl, rfl⟩ := q1'
        obtain ⟨rfl, rfl⟩ := q2'
        have HI := Lib.hid hii
        have HA := Lib.hid haa
        have HUA := Lib.hid (HUN.out a hmem)
        have HINA := Lib.hid (HIN.out a hmem)
        have HAXA := Lib.hid (HAX.out a hmem)
        have zb := bsz (World.block_lt_of_cell? _ _ hx0)
        unfold maxLen at hns hil hal
        clear hx hii haa hx3 ha HLX hmem
        go_wp2_with fail
        refine (implUH_any l w1.heap.size _ a.name _ HUR.out (by omega) (HE.out.below hbw) hw).mono ?_
        rintro e w5 ⟨rfl, hb5⟩
        have ⟨cw5, fw5⟩ := bcell hb5
        have qw5 := hb5.size
        (try simp at qw5)
        (try have zw5w := bsz (show w.heap.size < w5.heap.size by omega))
        (try have zw5wr := bsz (show wr.heap.size < w5.heap.size by omega))
        rw [HUA.out]
        have zb5 := bsz (show b < w5.heap.size by omega)
        go_wp2_with fail
        refine (implVA_any l w1.heap.size _ a.name _ (HUR.out.below hb5) (by omega) hw (by unfold maxLen; omega)).mono ?_
        rintro e w6 ⟨vv, rfl, hv6, hb6⟩
        have ⟨cw6, fw6⟩ := bcell hb6
        have qw6 := hb6.size
        (try simp at qw6)
        (try have zw6w := bsz (show w.heap.size < w6.heap.size by omega))
        (try have zw6wr := bsz (show wr.heap.size < w6.heap.size by omega))
        (try have zw6w5 := bsz (show w5.heap.size < w6.heap.size by omega))
        rw [HUA.out]
        have HV6 := Lib.hid hv6.at_
        obtain ⟨pw, cw, rfl, -⟩ := OwnRow.form hv6
        have zb6 := bsz (show b < w6.heap.size by omega)
        have hr6 : Below wr.heap.size wr w6 := Below.step hb5 hb6
        have hb06 : Below w.heap.size w w6 := Below.step hbw hr6
        have hown := own_below HGR.out.row hr6
        have HOW := Lib.hid hown
        clear hv6 hown
        go_wp2_with (at_builtin; refine wpList_app1 rfl (.tmp 92) (.tmp 94) _ rfl w4.heap.size 3 1 8 elemIntQ _ _ (intW (hashesV l k)) rfl w6 #[.int .i64 (hashV l a.name)] rfl _ (by simp) rfl HOW.out rfl (by simp [Value.oneCell']) (by omega) (by unfold maxLen; omega) (by omega) ?_; intro v7 w7 hown7 hg7 hnr7 hlt7)
        have HGZ := Lib.hid ((HGR.out.below hr6).app hown7 hg7 hnr7)
        have hvb : ∀ g, (Value.slice pv k cv).ownBlock = some g → w4.heap.size ≤ g ∧ g < wr.heap.size := fun g hg => ⟨own_base HGR.out.row g hg, own_lt' HGR.out.row hg⟩
        have hbl7 : ∀ b', b' < w4.heap.size → w7.heap[b']? = wr.heap[b']? := fun b' hb' => (hg7.block b' (by omega) (fun e => by have := (hvb _ e.symm).1; omega)).trans (hr6.block b' (by omega))
        have HU7 := Lib.hid (HUR.out.mono (w' := w7) (fun b' hb' _ => hbl7 b' (by omega)) (fun _ h => h))
        have HO7 := Lib.hid (HOR.out.mono (w' := w7) (fun b' hb' _ => hbl7 b' (by have := hb'.2; omega)) (fun _ h => h))
        have HI7 := Lib.hid (HI.out.mono (w' := w7) (fun b' hb' _ => hbl7 b' (by omega)) (fun _ h => h))
        have HA7 := Lib.hid (HA.out.mono (w' := w7) (fun b' hb' _ => hbl7 b' (by omega)) (fun _ h => h))
        have HV7 := Lib.hid (HV6.out.mono (w' := w7) (fun b' hb' hlt' => hg7.block b' hlt' (fun e => by have h1 := (hvb _ e.symm).2; have h2 := hb'.1; omega)) (fun _ h => h))
        have y0 : w7.cell? ⟨b, o + k * 4, none⟩ = some (.string a.name) := (World.cell?_of_block (a := ⟨b, _, none⟩) (hbl7 b (by omega))).trans hx0
        have y1 : w7.cell? ⟨b, o + k * 4 + 1, none⟩ = some (.slice p1 a.incs.length c1) := (World.cell?_of_block (a := ⟨b, _, none⟩) (hbl7 b (by omega))).trans hx1
        have y2 : w7.cell? ⟨b, o + k * 4 + 2, none⟩ = some (.slice p2 a.axs.length c2) := (World.cell?_of_block (a := ⟨b, _, none⟩) (hbl7 b (by omega))).trans hx2
        have zb7 := bsz (World.block_lt_of_cell? _ _ y0)
        have hz7 := hg7.size
        have hb07 : Below w.heap.size w w7 := hb06.grown hg7 (by omega) (fun g hg => by have := (hvb g hg).1; omega)
        have hE7 := HE.out.below hb07
        have HE7 := Lib.hid hE7
        have hkl : (k : Int) < l.length := by omega
        have hz17 : w1.heap.size ≤ w7.heap.size := by omega
        obtain ⟨p7, c7, rfl⟩ := own_slice HGZ.out.row
        obtain ⟨wA, hwA⟩ : ∃ x, x = wr := ⟨_, rfl⟩
        subst hwA
        clear hown7 hg7 hnr7 hvb hbl7 hE7 hx0 hx1 hx2 zb zb5 zb6 hb5 hb6 cw5 fw5 cw6 fw6 hr6 HOW HUR HOR HI HA HV6
        go_wp2
        go_loopw [14] (fun t wr' => ∃ j : Nat, j ≤ a.incs.length ∧ t = .int .i64 j ∧ Below w7.heap.size w7 wr') (fun t _ => a.incs.length - (intOf t).toNat)
        case atStart => exact ⟨0, Nat.zero_le _, rfl, by (repeat (first | with_reducible exact Below.refl _ _ | with_reducible assumption | with_reducible refine Below.al ?_ _ | with_reducible refine Below.sc ?_ (by first | exact Nat.le_refl _ | (simp; done) | (simp; omega)) _ | assumption | exact Below.refl _ _ | refine Below.dr ?_ | refine Below.drN ?_ _ | refine Below.step ?_ (by assumption)))⟩
        case round =>
          obtain ⟨j, hj, rfl, hbm⟩ := hrel
          have m0 := (hbm.cell (p := ⟨b, _, none⟩) zb7.1).trans y0
          have m1 := (hbm.cell (p := ⟨b, _, none⟩) zb7.1).trans y1
          have m2 := (hbm.cell (p := ⟨b, _, none⟩) zb7.1).trans y2
          have zbm := bsz (World.block_lt_of_cell? _ _ m0)
          have hzm := hbm.size
          by_cases hjl : j < a.incs.length
          · obtain ⟨b2, o2, rfl, hB2, hy0, hys⟩ := (HI7.out.below hbm).at_ hjl
            obtain ⟨hu1, hu2, hu3⟩ := HINA.out _ (List.getElem_mem hjl)
            obtain ⟨y, hy⟩ : ∃ y, a.incs[j] = y := ⟨_, rfl⟩
            rw [hy] at hy0 hys hu1 hu2 hu3
            have HUY := Lib.hid hu1
            have HWI := Lib.hid hu3
            have zb2 := bsz (World.block_lt_of_cell? _ _ hy0)
            have hji : (j : Int) < a.incs.length := by omega
            clear hy hu1 hu3
            go_wp2_with fail
            refine (implVA_any l w1.heap.size _ y _ (HU7.out.below hbm) (by omega) hw hys).mono ?_
            rintro e w8 ⟨v2, rfl, hv8, hb8⟩
            rw [HUY.out]
            have HV8 := Lib.hid hv8.at_
            obtain ⟨p8, c8, rfl, -⟩ := OwnRow.form hv8
            have hbm8 := Below.step hbm hb8
            have HA8 := Lib.hid (HV7.out.below hbm8)
            have HO8 := Lib.hid (HO7.out.below hbm8)
            have n0 := (hb8.cell (p := ⟨b, _, none⟩) zbm.1).trans m0
            have n1 := (hb8.cell (p := ⟨b, _, none⟩) zbm.1).trans m1
            have n2 := (hb8.cell (p := ⟨b2, _, none⟩) zb2.1).trans hy0
            have zb8 := bsz (World.block_lt_of_cell? _ _ n0)
            have zb28 := bsz (World.block_lt_of_cell? _ _ n2)
            have hge : decide (placeI (loF l) a.name ≤ placeI (loF l) y) = false := by simp; omega
            have hpl1 := placeI_lo (loF l) y
            have hpl2 := placeI_le (loF l) y
            have hpl3 := placeI_lo (loF l) a.name
            have hpl4 := placeI_le (loF l) a.name
            have HBM := Lib.hid hbm8
            clear hv8 hbm hbm8 hb8 m0 m1 m2 zbm hy0 zb2 hys hb07
            go_wp2
            obtain ⟨C, HC0⟩ := class_of (InF w8.heap.size _ [(⟨b, o + k * 4, none⟩, .string a.name), (⟨b, o + k * 4 + 1, none⟩, .slice (some ⟨b2, o2, none⟩) a.incs.length c1), (⟨b2, o2 + j, none⟩, .string y)] [] [])
            have HC := Lib.hid HC0
            clear HC0
            refine wp_region_flow (C := C) (by kernel_rfl) (by kernel_rfl) (fun L hL => (HC.out _ _).2 (InF.start (by first | (intro _ hs; cases hs; done) | (simp only [List.forall_mem_cons]; go_simp)) (by first | (intro _ hs; cases hs; done) | (simp only [List.forall_mem_cons]; go_simp)) (by first | (intro _ hs; cases hs; done) | (simp only [List.forall_mem_cons]; go_simp)) (by first | (intro _ hs; cases hs; done) | (simp only [List.forall_mem_cons]; go_simp)) L hL)) ?_
            repeat (first | (apply flow_free rfl; (intro L w' hun hrd hC; have hC := (HC.out _ _).1 hC; have hb' := hC.below; (try have hw' : Below w.heap.size w w' := by first | exact Below.trans (by (repeat (first | with_reducible exact Below.refl _ _ | with_reducible assumption | with_reducible refine Below.al ?_ _ | with_reducible refine Below.sc ?_ (by first | exact Nat.le_refl _ | (simp; done) | (simp; omega)) _ | assumption | exact Below.refl _ _ | refine Below.dr ?_ | refine Below.drN ?_ _ | refine Below.step ?_ (by assumption)))) hb' | ((repeat (first | with_reducible exact Below.refl _ _ | with_reducible assumption | with_reducible refine Below.al ?_ _ | with_reducible refine Below.sc ?_ (by first | exact Nat.le_refl _ | (simp; done) | (simp; omega)) _ | assumption | exact Below.refl _ _ | refine Below.dr ?_ | refine Below.drN ?_ _ | refine Below.step ?_ (by assumption))); done)); have hf' := hC.cell; (try simp only [List.forall_mem_cons] at hf'); go_simp; first | exact ⟨(HC.out _ _).2 (hC.skip _ (by rfl)), rfl⟩ | (rw [if_neg]; (exact ⟨(HC.out _ _).2 (hC.skip _ (by rfl)), rfl⟩); omega) | (go_at_call 13; (with_reducible refine (rWithin_any _ _ _ _ _ (HV8.out.below hb') (HA8.out.below hb') HWI.out).mono ?_); rintro e w1 ⟨rfl, hb1⟩; exact ⟨rfl, (HC.out _ _).2 ((hC.next (by first | (simp; done) | (simp; omega) | omega) hb1).skip _ (by rfl))⟩) | (go_at_call 14; (with_reducible refine (rPlace_any (loF l) _ y _ (HO8.out.below hb')).mono ?_); rintro e w1 ⟨rfl, hb1⟩; exact ⟨rfl, (HC.out _ _).2 ((hC.next (by first | (simp; done) | (simp; omega) | omega) hb1).skip _ (by rfl))⟩) | (go_at_call 14; (with_reducible refine (rPlace_any (loF l) _ a.name _ (HO8.out.below hb')).mono ?_); rintro e w1 ⟨rfl, hb1⟩; exact ⟨rfl, (HC.out _ _).2 ((hC.next (by first | (simp; done) | (simp; omega) | omega) hb1).skip _ (by rfl))⟩)); go_simp) | (apply flow_yes; (case hw => go_simp); (intro L w' hun hrd hC; have hC := (HC.out _ _).1 hC; have hb' := hC.below; (try have hw' : Below w.heap.size w w' := by first | exact Below.trans (by (repeat (first | with_reducible exact Below.refl _ _ | with_reducible assumption | with_reducible refine Below.al ?_ _ | with_reducible refine Below.sc ?_ (by first | exact Nat.le_refl _ | (simp; done) | (simp; omega)) _ | assumption | exact Below.refl _ _ | refine Below.dr ?_ | refine Below.drN ?_ _ | refine Below.step ?_ (by assumption)))) hb' | ((repeat (first | with_reducible exact Below.refl _ _ | with_reducible assumption | with_reducible refine Below.al ?_ _ | with_reducible refine Below.sc ?_ (by first | exact Nat.le_refl _ | (simp; done) | (simp; omega)) _ | assumption | exact Below.refl _ _ | refine Below.dr ?_ | refine Below.drN ?_ _ | refine Below.step ?_ (by assumption))); done)); have hf' := hC.cell; (try simp only [List.forall_mem_cons] at hf'); go_simp; first | exact ⟨(HC.out _ _).2 (hC.skip _ (by rfl)), rfl⟩ | (rw [if_neg]; (exact ⟨(HC.out _ _).2 (hC.skip _ (by rfl)), rfl⟩); omega) | (go_at_call 13; (with_reducible refine (rWithin_any _ _ _ _ _ (HV8.out.below hb') (HA8.out.below hb') HWI.out).mono ?_); rintro e w1 ⟨rfl, hb1⟩; exact ⟨rfl, (HC.out _ _).2 ((hC.next (by first | (simp; done) | (simp; omega) | omega) hb1).skip _ (by rfl))⟩) | (go_at_call 14; (with_reducible refine (rPlace_any (loF l) _ y _ (HO8.out.below hb')).mono ?_); rintro e w1 ⟨rfl, hb1⟩; exact ⟨rfl, (HC.out _ _).2 ((hC.next (by first | (simp; done) | (simp; omega) | omega) hb1).skip _ (by rfl))⟩) | (go_at_call 14; (with_reducible refine (rPlace_any (loF l) _ a.name _ (HO8.out.below hb')).mono ?_); rintro e w1 ⟨rfl, hb1⟩; exact ⟨rfl, (HC.out _ _).2 ((hC.next (by first | (simp; done) | (simp; omega) | omega) hb1).skip _ (by rfl))⟩)); go_simp) | (apply flow_no; (case hw => (go_simp; try (intro hh; cases hh))); (intro L w' _ _ hC; exact (HC.out _ _).2 (((HC.out _ _).1 hC).skip _ (by rfl))); go_simp))
            refine flow_nil ?_
            intro L wz hL hz
            have hz := (HC.out _ _).1 hz
            have hbz := hz.below
            have hcz := hz.cell
            try simp only [List.forall_mem_cons] at hcz
            have hdz := hz.done
            try simp only [List.forall_mem_cons] at hdz
            (try have hwz : Below w.heap.size w wz := by first | exact Below.trans (by (repeat (first | with_reducible exact Below.refl _ _ | with_reducible assumption | with_reducible refine Below.al ?_ _ | with_reducible refine Below.sc ?_ (by first | exact Nat.le_refl _ | (simp; done) | (simp; omega)) _ | assumption | exact Below.refl _ _ | refine Below.dr ?_ | refine Below.drN ?_ _ | refine Below.step ?_ (by assumption)))) hbz | ((repeat (first | with_reducible exact Below.refl _ _ | with_reducible assumption | with_reducible refine Below.al ?_ _ | with_reducible refine Below.sc ?_ (by first | exact Nat.le_refl _ | (simp; done) | (simp; omega)) _ | assumption | exact Below.refl _ _ | refine Below.dr ?_ | refine Below.drN ?_ _ | refine Below.step ?_ (by assumption))); done))
            go_wp2
            exact ⟨⟨j + 1, by omega, by go_num, Below.step HBM.out hbz⟩, by simp [intOf]; omega⟩
          · obtain rfl : j = a.incs.length := by omega
            have hji : ¬ (a.incs.length : Int) < a.incs.length := by omega
            go_wp2_with fail
            refine (rWithin_any _ _ _ _ _ (HA7.out.below hbm) (HV7.out.below hbm) HAXA.out).mono ?_
            rintro e w8 ⟨rfl, hb8⟩
            have HGE := Lib.hid ((HGZ.out.below hbm).below hb8)
            go_wp2
            refine ⟨⟨k + 1, by omega, by go_num, ?_⟩, by simp [intOf]; omega⟩
            rw [HSN.out, intW_snoc]
            exact HGE.out
      · obtain rfl : k = l.length := by omega
        have hIO : IntOwn 3 (fun _ => True) wr (hashesV l l.length) (.slice pv l.length cv) := by
          have hl := hashesV_len (l := l) (Nat.le_refl _)
          have := rowI_own (S := fun _ => True) (us := hashesV l l.length) (by rw [hl]; exact HGR.out.row) (fun s hs => by obtain ⟨u, -, rfl⟩ := List.mem_map.1 hs; exact hashV_bd l u.name) (by rw [hl]; unfold maxLen; omega) (fun _ _ => trivial)
          exact this
        have HIO := Lib.hid hIO.at_
        have HS1 := Lib.hid (show staleOk l (hashesV l l.length) = true by rw [hashesV, List.take_length]; exact HST.out.1)
        have HS2 := Lib.hid (show staleF l (hashesV l l.length) = [] by rw [hashesV, List.take_length]; exact HST.out.2)
        have hll2 := HLO.out.2
        have hkl : ¬ (l.length : Int) < l.length := by omega
        clear hIO
        go_wp2_with fail
        refine (implSU_any l (hashesV l l.length) w1.heap.size _ _ _ HUR.out HIO.out (by omega) (HE.out.below hbw) hw).mono ?_
        rintro e w8 ⟨v2, rfl, hv8, hb8⟩
        rw [HS1.out]
        rw [HS2.out] at hv8
        obtain ⟨p8, c8, rfl, -⟩ := OwnRow.form hv8
        clear hv8
        (try rw [hll2])
        go_wp2
        go_ret
        exact ⟨rfl, by (repeat (first | with_reducible exact Below.refl _ _ | with_reducible assumption | with_reducible refine Below.al ?_ _ | with_reducible refine Below.sc ?_ (by first | exact Nat.le_refl _ | (simp; done) | (simp; omega)) _ | assumption | exact Below.refl _ _ | refine Below.dr ?_ | refine Below.drN ?_ _ | refine Below.step ?_ (by assumption)))⟩
set_option maxRecDepth 100000 in
theorem fnLibraries (pp : Option Addr) (nn cc : Nat) (w : World) (hE : Env w) (h : nn ≤ 1000000 → CodeIn w (.slice pp nn cc)) :
    Calls Tryz.prog 3 #[.slice pp nn cc] w fun e w' => e = .returned (.bool true) ∧ Below w.heap.size w w' := by
  by_cases hn : nn ≤ 65536
  · exact fnLibraries_small pp nn cc w hE (h (by omega)) hn
  · have hnn : (65536 : Int) < (nn : Int) := by omega
    clear hE h
    go_enter Tryz.func3, Tryz.ntmps3
    go_wp2_with fail
    refine (vBigL_any _ _ _ _).mono ?_
    rintro e w' ⟨rfl, rfl⟩
    go_wp2
    go_ret
    exact ⟨rfl, by (repeat (first | with_reducible exact Below.refl _ _ | with_reducible assumption | with_reducible refine Below.al ?_ _ | with_reducible refine Below.sc ?_ (by first | exact Nat.le_refl _ | (simp; done) | (simp; omega)) _ | assumption | exact Below.refl _ _ | refine Below.dr ?_ | refine Below.drN ?_ _ | refine Below.step ?_ (by assumption)))⟩
end Go.Proofs.YtkgfanajgdelcaaGreatDoor
namespace Go.Proofs.YtkgfanajgdelcaaGreatDoor
open Go.ChangeShapes Go.WideShapes Go.ChangeAt Go.RowKit Go.Joins
theorem own : ownKnob Tryz.prog.godebug = none := by kernel_rfl
theorem laidOut : laidOutB Tryz.prog = true := by kernel_rfl
theorem trodAll_stays {H : Type} {enc : TypeId × Value → H} {P : Program} (hl : laidOutB P = true) {W W' : World} {sp : Nat → Bool} : ∀ (ts : List TypeId) (vs : List Value) (ds : List (DataW H)) (ps : List MemPlace),
    (∀ t ∈ ts, P.readableRec t = true ∧ t < P.types.size) → DataW.TrodAll enc P W 0 (fun _ => true) true ts vs ds ps → (∀ x ∈ ps, W.sameAt W' x) → (∀ x ∈ ps, sp x.block = true) → DataW.TrodAll enc P W' 0 sp true ts vs ds ps
  | [], vs, ds, ps, _, h, _, _ => by
    cases vs <;> cases ds <;> simp_all [DataW.TrodAll]
  | t :: ts, [], ds, ps, _, h, _, _ => by simp [DataW.TrodAll] at h
  | t :: ts, v :: vs, [], ps, _, h, _, _ => by simp [DataW.TrodAll] at h
  | t :: ts, v :: vs, d :: ds, ps, ht, h, hs, hp => by
    obtain ⟨p, q, h1, h2, rfl⟩ := h
    exact ⟨p, q, WideElems.Trod_stays hl (ht t (by simp)).1 (ht t (by simp)).2 h1 (fun x hx => hs x (by simp [hx])) (fun x hx => hp x (by simp [hx])),
      trodAll_stays hl ts vs ds q (fun t h => ht t (by simp [h])) h2 (fun x hx => hs x (by simp [hx])) (fun x hx => hp x (by simp [hx])), rfl⟩
/-- The row's last step, the same for every law: it answers true, nothing that was there has turned. -/
theorem close_true {H : Type} {enc : TypeId × Value → H} {f : Func} {s : ChangeSpec} {W W' : World} {args : Array Value} {ds gs : List (DataW H)} {before : List MemPlace}
    (hW : DataW.Whole enc Tryz.prog f.params.toList s.vars false W args.toList ds gs before) (hv : s.vars = []) (hr : f.resultTypes = #[4])
    (hp : f.params.toList.all (fun t => Tryz.prog.readableRec t && decide (t < Tryz.prog.types.size)) = true) (hfn : s.fn H ds = { results := [.lit (.bool true)], args := ds }) (hb : Below W.heap.size W W') :
    s.post enc Tryz.prog f false true false false W args (.bool true) W' := by
  have hW2 := hW
  have hlt : ∀ p ∈ before, p.block < W.heap.size := fun p hp => hW.lt p hp
  obtain ⟨p, q, hA, hV, rfl, _, _⟩ := hW2
  rw [hv] at hV
  obtain ⟨rfl, rfl⟩ := trodVars_none hV
  rw [List.append_nil] at hlt
  refine ⟨ds, [], p ++ [], [], p, [], hW, ?_, ?_, ?_, hb.frame _, fun h => by cases h⟩
  · rw [List.append_nil, hfn, hr]; exact trodAll_mk1 (shut_bool Tryz.underlying4 true)
  · rw [List.append_nil, hfn]
    refine trodAll_stays laidOut _ _ _ _ (fun t ht => ?_) hA (fun x hx => hb.same (hlt x hx)) (fun x hx => by simpa using hlt x hx)
    have := List.all_eq_true.1 hp t ht
    simpa using this
  · rw [List.append_nil, hfn, hv]; rfl
def tab32 : List Int := [0, 1, 28, 2, 29, 14, 24, 3, 30, 22, 20, 15, 25, 17, 4, 8, 31, 27, 13, 23, 21, 19, 16, 7, 26, 12, 18, 6, 11, 5, 10, 9]
def tab64 : List Int := [0, 1, 56, 2, 57, 49, 28, 3, 61, 58, 42, 50, 38, 29, 17, 4, 62, 47, 59, 36, 45, 43, 51, 22, 53, 39, 33, 30, 24, 18, 12, 5, 63, 55, 48, 27, 60, 41, 37, 16, 46, 35, 44, 21, 52, 32, 23, 11, 54, 26, 40, 15, 34, 20, 31, 10, 25, 14, 19, 9, 13, 8, 7, 6]
theorem gPowType : (Tryz.prog.globals[1]?).map (·.type) = some 237 := by kernel_rfl
theorem cellsPow : Tryz.prog.cellsOf 237 = 20 := by kernel_rfl
theorem cellsU64 : Tryz.prog.cellsOf 70 = 1 := by kernel_rfl
/-- What the rows' list gives. -/
theorem env_of {W : World} (h : laidMet Tryz.prog [("math/bits.deBruijn32tab", Rows.laid_math_bits_deBruijn32tab), ("math/bits.deBruijn64tab", Rows.laid_math_bits_deBruijn64tab), ("internal/strconv.uint64pow10", Rows.laid_internal_strconv_uint64pow10)] W) (hS : W.ShapedOpen Tryz.prog) : Env W := by
  have h3 : Lib.TabIs Tryz.prog W "internal/strconv.uint64pow10" .u64 Lib.pow10Tab :=
    Lib.tabIs_of_head (rest := []) gPow10 gPowType Tryz.underlying237 Tryz.underlying70 cellsU64 cellsPow (laidMet.tail (laidMet.tail h))
  obtain ⟨m, hm⟩ : ∃ m, W.cell? ⟨0, 0, none⟩ = some (.int .i64 m) := Go.Proofs.cell_of_shapedOpen_int (zero := #[.int .i64 0]) (t := 3) hS (of_decide_eq_true (by kernel_rfl)) (by kernel_rfl) rfl (by kernel_rfl) (by kernel_rfl) Tryz.underlying3
  have hz := World.block_lt_of_cell? W _ hm
  have hm' : W.cell? ⟨0, 0, none⟩ = some (.int .i64 m) := hm
  refine ⟨⟨m, hm'⟩, h3, hz, ?_⟩
  rcases Nat.lt_or_ge 1 W.heap.size with hlt | hge
  · exact hlt
  · have h3' := h3
    unfold Lib.TabIs World.var? at h3'
    rw [gPow10] at h3'
    simp only [Option.bind_some] at h3'
    rw [Array.getElem?_eq_none hge] at h3'
    cases h3'
def layTab (k : IntKind) (zs : List Int) : Obj → Obj
  | .cells _ t frozen => .cells (zs.map fun z => Value.int k z).toArray t frozen
  | o => o
/-- A world for the witness: the settled one, the tables holding what their initialisers lay. -/
noncomputable def laidWorld (os : Os) : World :=
  { World.holding Tryz.prog os ⟨#[], #[], []⟩ with heap := (((World.holding Tryz.prog os ⟨#[], #[], []⟩).heap.modify 1 (layTab .u64 Lib.pow10Tab)).modify 4 (layTab .u8 tab32)).modify 5 (layTab .u8 tab64) }
end Go.Proofs.YtkgfanajgdelcaaGreatDoor
namespace Go.Proofs.YtkgfanajgdelcaaGreatDoor
open Go.RowKit Go.ChangeShapes Go.WideShapes
theorem addr_add0 (b o : Nat) (i : Nat) : (⟨b, o, none⟩ : Addr).add i = ⟨b, o + i, none⟩ := by unfold Addr.add; split <;> simp_all
theorem cell_spot {w : World} {a : Addr} {v : Value} (h : w.cell? a = some v) : a.spot = none := by
  unfold World.cell? at h
  split at h
  · split at h
    · cases h
    · rename_i hs; simpa using hs
  · cases h
theorem bytes_of {H : Type} {enc : TypeId × Value → H} {W : World} {base : Nat} {sp : Nat → Bool} {held : Bool} {a : Option Addr} {len cap : Nat} {d : DataW H} {p : List MemPlace}
    (hsp : ∀ b, sp b = true) (h : DataW.Trod enc Tryz.prog W base sp held 22 (.slice a len cap) d p) : len ≤ 1000000 → CodeIn W (.slice a len cap) := by
  intro hl
  obtain ⟨fuel, hf⟩ := h
  rcases open_ints Tryz.underlying22 Tryz.underlying5 (by kernel_rfl) hf with ⟨hcs, _⟩ | ⟨a', len', cap', zs, hcs, _, hlc, hcm, hz, _, hcell, hwf⟩
  · simp [Value.cells] at hcs
    obtain ⟨rfl, rfl, rfl⟩ := hcs
    exact ⟨[], by simp, ListAt.nil _ _ _ _ _ _⟩
  · simp [Value.cells] at hcs
    obtain ⟨rfl, rfl, rfl⟩ := hcs
    rw [hsp, if_pos rfl] at hz
    have hlen : ((zs.take len).map fun z => UInt8.ofNat z.toNat).length = len := by simp; omega
    refine ⟨(zs.take len).map fun z => UInt8.ofNat z.toNat, by rw [hlen]; exact hl, some a', cap, by rw [hlen], by rw [hlen]; exact Nat.le_trans hlc hcm, fun i x hx => ?_⟩
    have hi : i < len := by
      have := (List.getElem?_eq_some_iff.1 hx).1
      omega
    have hc := hcell i (by omega)
    have h0 := hcell 0 (by omega)
    obtain ⟨b, o, s⟩ := a'
    have hs : s = none := by
      have := cell_spot h0
      simpa [Addr.add] using this
    subst hs
    rw [addr_add0] at hc
    refine ⟨b, o, rfl, World.block_lt_of_cell? W _ hc, [.int .u8 (zs.getD i 0)], rfl, fun j hj => ?_, ?_⟩
    · obtain rfl : j = 0 := by omega
      rw [Nat.mul_one, Nat.add_zero]; exact hc
    · have hz2 : zs.getD i 0 ∈ zs := by
        rw [List.getD_eq_getElem?_getD, List.getElem?_eq_getElem (by omega)]; exact List.getElem_mem _
      have hw := hwf _ hz2
      have hb : 0 ≤ zs.getD i 0 ∧ zs.getD i 0 ≤ 255 := by
        simpa [Lit.wf, IntKind.min, IntKind.max, IntKind.signed, IntKind.bits] using hw
      have hx2 : x = UInt8.ofNat (zs.getD i 0).toNat := by
        rw [List.getElem?_map, List.getElem?_take, if_pos hi, List.getElem?_eq_getElem (by omega)] at hx
        rw [List.getD_eq_getElem?_getD, List.getElem?_eq_getElem (by omega)]
        simpa using hx.symm
      show [Value.int .u8 (zs.getD i 0)] = [.int .u8 (x.toNat : Int)]
      have e : (x.toNat : Int) = zs.getD i 0 := by
        rw [hx2, UInt8.toNat_ofNat']; omega
      rw [e]
end Go.Proofs.YtkgfanajgdelcaaGreatDoor
namespace Go.Proofs.YtkgfanajgdelcaaGreatDoor.fnLibrariesLaw
open Go.ChangeShapes Go.WideShapes Go.ChangeAt Go.RowKit Go.Joins Go.ChangeMaps
set_option maxRecDepth 100000 in
theorem env {W : World} (hL : laidMetH Tryz.prog Rows.fnLibrariesRow.laid W) (hS : W.ShapedOpen Tryz.prog) : Env W := env_of hL hS
set_option maxRecDepth 100000 in
theorem contract (H : Type) (enc : TypeId × Value → H) (W : World) (base : Nat) (args : Array Value) (ds gs : List (DataW H)) (before : List MemPlace)
    (hval : ∀ (j : Nat) t v, Tryz.f3.params[j]? = some t → args[j]? = some v → Value.okWide Tryz.prog W .any base t v)
    (hW : DataW.Whole enc Tryz.prog Tryz.f3.params.toList Rows.fnLibrariesSpec.vars false W args.toList ds gs before) (hE : Env W) :
    Calls Tryz.prog 3 args W fun e W' => ∃ v, e = .returned v ∧ Rows.fnLibrariesSpec.post enc Tryz.prog Tryz.f3 false true false false W args v W' := by
  have hW' := hW
  obtain ⟨p, q, hA0, hV, rfl, hfz, hnd⟩ := hW
  have hA : DataW.TrodAll enc Tryz.prog W 0 (fun _ => true) true Tryz.f3.params.toList args.toList ds p := hA0
  rw [Tryz.params3] at hA hval
  obtain ⟨v0, vs0, d0, ds0, p0, q0, hargs, rfl, rfl, h0, r0⟩ := trodAll_cons hA
  obtain ⟨rfl, rfl, rfl⟩ := trodAll_nil r0
  obtain rfl : args = #[v0] := Array.ext' hargs
  obtain ⟨a0, len0, cap0, rfl⟩ := okWide_slice Tryz.underlying22 (hval 0 22 v0 rfl rfl)
  have hl0 := bytes_of (fun _ => rfl) h0
  clear hA0
  refine (fnLibraries a0 len0 cap0 W hE hl0).mono fun e W' ⟨he, hb⟩ => ?_
  subst he
  exact ⟨_, rfl, close_true hW' rfl (by kernel_rfl) (by kernel_rfl) rfl hb⟩
theorem laid_met (os : Os) : laidMet Tryz.prog Rows.fnLibrariesRow.laid ((laidWorld os).forCall (fun _ _ => 0) ⟨#[], #[.slice none 0 0], []⟩).memory :=
  laidMet_of_run' 8 (by kernel_rfl) (by kernel_rfl)
theorem reads (os : Os) {H : Type} (enc : TypeId × Value → H) : ∃ places, DataW.whole enc Tryz.prog ((laidWorld os).forCall (fun _ _ => 0) ⟨#[], #[.slice none 0 0], []⟩).memory Tryz.f3.params.toList Rows.fnLibrariesSpec.vars false (#[.slice none 0 0] : Array Value).toList 8 = some ([.nil], [], places) :=
  ⟨[], by kernel_rfl⟩
set_option maxRecDepth 100000 in
theorem lifted (os : Os) (started : os.Started) (H : Type) (enc : TypeId × Value → H) (F : Stop.Interp) :
    ReturnsInHanded {} Tryz.checked os 3 .any ((OpenSpec.ofChange Rows.fnLibrariesSpec).preRow enc Tryz.prog Tryz.f3 Rows.fnLibrariesRow.domain false Rows.fnLibrariesRow.laid) (((OpenSpec.ofChange Rows.fnLibrariesSpec).at F).post enc Tryz.prog Tryz.f3 false true false false) := by
  obtain ⟨places, hx⟩ := reads os enc
  refine returnsInHanded_of_row (C := Tryz.checked) (s := OpenSpec.ofChange Rows.fnLibrariesSpec) own started (by kernel_rfl) Tryz.func3
    (witness_row_at (enc := enc) (C := Tryz.checked) false (laidWorld os) #[.slice none 0 0] rfl (by kernel_rfl) (by kernel_rfl) (by kernel_rfl)
      (OpenSpec.preRow_of_cond 8 hx (by kernel_rfl) (fun k hk => by cases hk) (by kernel_rfl) (laid_met os))) ?_
  intro W base args ds gs before hval hW _ _ _ hL hS _
  exact contract H enc W base args ds gs before hval hW (env hL hS)
theorem said : Rows.FnLibrariesSaid :=
  OpenClaim.holds_of_cond 3 Tryz.f3 rfl rfl rfl rfl rfl rfl rfl ⟨rfl, rfl, rfl, rfl, rfl⟩ rfl rfl rfl rfl rfl (by kernel_rfl) Tryz.func3 (by kernel_rfl)
    (of_decide_eq_true (by kernel_rfl)) (by unfold Func.isWrapper; first | (rw [if_pos (by decide +kernel)]; kernel_rfl) | (rw [if_neg (by decide +kernel)]; exact ⟨rfl, rfl⟩))
    (fun os started H enc _ F => by rw [OpenClaim.pre_eq_preRow]; exact lifted os started H enc F)
theorem plain (f : FuncId) (fn : Func) (hf : Tryz.pinned.checked.prog.funcNamed "loop.example/g00892/laws.FnLibraries" = some f) (hfn : Tryz.pinned.checked.prog.funcs[f]? = some fn) :
    false = Tryz.pinned.checked.prog.looks [] ∧ ∀ (j : Nat) t, fn.params[j]? = some t → Tryz.pinned.checked.prog.wantsStandIn t = false := by
  obtain rfl : f = 3 := Option.some.inj ((show Tryz.prog.funcNamed "loop.example/g00892/laws.FnLibraries" = some 3 by kernel_rfl).symm.trans hf) |>.symm
  obtain rfl : fn = Tryz.f3 := (Option.some.inj (Tryz.func3.symm.trans hfn)).symm
  refine ⟨by kernel_rfl, fun j t ht => ?_⟩
  have hall : Tryz.f3.params.toList.all (fun t => Tryz.prog.wantsStandIn t == false) = true := by kernel_rfl
  exact beq_iff_eq.1 (List.all_eq_true.1 hall t (by simpa using Array.mem_of_getElem? ht))
theorem card : Rows.FnLibrariesCardSaid :=
  Claim7.holds_tied_plain_at .later [] _ _ _ _ said (fun _ h => by cases h) (by kernel_rfl) (fun _ h => by cases h) fnLibraries_row_tie rfl ⟨rfl, rfl⟩ (by kernel_rfl) rfl plain (by kernel_rfl)
end Go.Proofs.YtkgfanajgdelcaaGreatDoor.fnLibrariesLaw
