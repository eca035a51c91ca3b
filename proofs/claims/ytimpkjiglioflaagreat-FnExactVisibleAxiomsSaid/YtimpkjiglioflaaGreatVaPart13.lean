/- 'FnExactVisibleAxioms': the law is true for all arguments. -/
import Derived.Maps.OwnSet
import Derived.Maps.StringElems
import Derived.StringKeys
import Derived.RangeFuncNested
import Derived.RangeFuncBound
import Derived.RangeFuncCalls
import Derived.RangeFuncLeaves
import Derived.Shelf.Abstract
import Derived.Shelf.RegionOpen
import Derived.WalkKit
import Derived.OwnWalkIn
import Derived.TacticsInMore
import Derived.LoopNIn
import Derived.LoopIn
import Derived.OpenShut
import Derived.JoinedCond
import Derived.Deep.DeepHandedRow
import Derived.Lib.SmallJoins
import Derived.Stop.LaidErr
import Derived.ChangeSlices
import Derived.Test.YtimpkjiglioflaaGreatVaPart1
import Derived.Test.YtimpkjiglioflaaGreatVaPart11
import Derived.Test.YtimpkjiglioflaaGreatVaPart12
namespace Go.Proofs.YtimpkjiglioflaaGreat
open Go.RowKit
set_option maxRecDepth 100000 in
set_option maxHeartbeats 6400000 in
theorem specVA_any (l : List Un) (n : Nat) (va : Value) (x : ByteArray) (w : World) (h : UnsAt (fun b => b < n) w va l) (hn : n ≤ w.heap.size) (hw : l.length + wtU l ≤ 1048576) :
    Calls Tryz.prog 18 #[va, .string x] w fun e w' => ∃ v, e = .returned (.tuple #[v, .bool (unitOf l x)]) ∧ StrsAt (NewB w w') w' v (visV l x) ∧ Below w.heap.size w w' := by
  obtain ⟨p, c, rfl, hlen⟩ := h.form
  unfold maxLen at hlen
  have H := Lib.hid h
  have HU := Lib.hid (show unitOf l x = (libGood l && (placeU l x).isSome) from rfl)
  clear h
  cases hg : libGood l
  · have HG := Lib.hid hg
    have HO := Lib.hid (show unitOf l x = false by rw [HU.out, hg]; rfl)
    go_enter Tryz.func18, Tryz.ntmps18
    go_wp2_with fail
    refine (specLib_any l _ _ (H.out.below (by (repeat (first | with_reducible exact Below.refl _ _ | with_reducible assumption | with_reducible refine Below.al ?_ _ | with_reducible refine Below.sc ?_ (by first | exact Nat.le_refl _ | (simp; done) | (simp; omega)) _ | assumption | exact Below.refl _ _ | refine Below.dr ?_ | refine Below.drN ?_ _ | refine Below.step ?_ (by assumption))))) hw).mono ?_
    rintro e w1 ⟨rfl, hb1⟩
    have ⟨cw1, fw1⟩ := bcell hb1
    have qw1 := hb1.size
    (try simp at qw1)
    (try have zw1w := bsz (show w.heap.size < w1.heap.size by omega))
    rw [HG.out]
    go_wp2
    go_ret2
    exact ⟨_, by rw [HO.out]; rfl, by rw [visV, HO.out, if_neg (by simp)]; exact StrsAt.nil _ _ _ _, by (repeat (first | with_reducible exact Below.refl _ _ | with_reducible assumption | with_reducible refine Below.al ?_ _ | with_reducible refine Below.sc ?_ (by first | exact Nat.le_refl _ | (simp; done) | (simp; omega)) _ | assumption | exact Below.refl _ _ | refine Below.dr ?_ | refine Below.drN ?_ _ | refine Below.step ?_ (by assumption)))⟩
  cases hp : placeU l x with
  | none =>
    have HG := Lib.hid hg
    have HP := Lib.hid hp
    have HO := Lib.hid (show unitOf l x = false by rw [HU.out, hp]; simp)
    go_enter Tryz.func18, Tryz.ntmps18
    go_wp2_with fail
    refine (specLib_any l _ _ (H.out.below (by (repeat (first | with_reducible exact Below.refl _ _ | with_reducible assumption | with_reducible refine Below.al ?_ _ | with_reducible refine Below.sc ?_ (by first | exact Nat.le_refl _ | (simp; done) | (simp; omega)) _ | assumption | exact Below.refl _ _ | refine Below.dr ?_ | refine Below.drN ?_ _ | refine Below.step ?_ (by assumption))))) hw).mono ?_
    rintro e w1 ⟨rfl, hb1⟩
    have ⟨cw1, fw1⟩ := bcell hb1
    have qw1 := hb1.size
    (try simp at qw1)
    (try have zw1w := bsz (show w.heap.size < w1.heap.size by omega))
    rw [HG.out]
    go_wp2_with fail
    refine (l27Find_any l _ x _ (H.out.below (by (repeat (first | with_reducible exact Below.refl _ _ | with_reducible assumption | with_reducible refine Below.al ?_ _ | with_reducible refine Below.sc ?_ (by first | exact Nat.le_refl _ | (simp; done) | (simp; omega)) _ | assumption | exact Below.refl _ _ | refine Below.dr ?_ | refine Below.drN ?_ _ | refine Below.step ?_ (by assumption)))))).mono ?_
    rintro e w2 ⟨r, rfl, hr, hb2⟩
    rw [HP.out] at hr
    obtain rfl : r = -1 := hr
    go_wp2
    go_ret2
    exact ⟨_, by rw [HO.out]; rfl, by rw [visV, HO.out, if_neg (by simp)]; exact StrsAt.nil _ _ _ _, by (repeat (first | with_reducible exact Below.refl _ _ | with_reducible assumption | with_reducible refine Below.al ?_ _ | with_reducible refine Below.sc ?_ (by first | exact Nat.le_refl _ | (simp; done) | (simp; omega)) _ | assumption | exact Below.refl _ _ | refine Below.dr ?_ | refine Below.drN ?_ _ | refine Below.step ?_ (by assumption)))⟩
  | some i =>
    have HG := Lib.hid hg
    have HP := Lib.hid hp
    have hO : unitOf l x = true := by rw [HU.out, hp, hg]; rfl
    obtain ⟨h1, h2, h3, h4⟩ := unitOf_parts hO
    have HO := Lib.hid hO
    have HD := Lib.hid h1
    have HNE := Lib.hid (fun u hu => good_name ((libGood_parts hg).2.2 u hu))
    have HVL := Lib.hid (show visV l x = visF l (ordL l) (usesF l.length l x) by rw [visV, HO.out, if_pos rfl]; rfl)
    have HVG := Lib.hid (visF_good l (usesF l.length l x))
    have hal := allAx_len l
    have HAZ := Lib.hid (fun (s : ByteArray) (hs : s ∈ allAx l) => Nat.le_trans (allAx_size hs) (show wtU l ≤ maxLen by unfold maxLen; omega))
    have HUI := Lib.hid (usesF_in h1 l.length h3 h4)
    have HOI := Lib.hid (fun z (hz : z ∈ ordL l) => (ordL_inv l).sub z hz)
    have hol := (ordL_inv l).len
    have h4i : (placeU l x).isSome = true := by rw [hp]; rfl
    clear hp h2
    go_enter Tryz.func18, Tryz.ntmps18
    go_wp2_with fail
    refine (specLib_any l _ _ (H.out.below (by (repeat (first | with_reducible exact Below.refl _ _ | with_reducible assumption | with_reducible refine Below.al ?_ _ | with_reducible refine Below.sc ?_ (by first | exact Nat.le_refl _ | (simp; done) | (simp; omega)) _ | assumption | exact Below.refl _ _ | refine Below.dr ?_ | refine Below.drN ?_ _ | refine Below.step ?_ (by assumption))))) hw).mono ?_
    rintro e w1 ⟨rfl, hb1⟩
    have ⟨cw1, fw1⟩ := bcell hb1
    have qw1 := hb1.size
    (try simp at qw1)
    (try have zw1w := bsz (show w.heap.size < w1.heap.size by omega))
    rw [HG.out]
    go_wp2_with fail
    refine (l27Find_any l _ x _ (H.out.below (by (repeat (first | with_reducible exact Below.refl _ _ | with_reducible assumption | with_reducible refine Below.al ?_ _ | with_reducible refine Below.sc ?_ (by first | exact Nat.le_refl _ | (simp; done) | (simp; omega)) _ | assumption | exact Below.refl _ _ | refine Below.dr ?_ | refine Below.drN ?_ _ | refine Below.step ?_ (by assumption)))))).mono ?_
    rintro e w2 ⟨r, rfl, hr, hb2⟩
    rw [HP.out] at hr
    obtain rfl : r = (i : Int) := hr
    have hi0 : ¬ ((i : Int) < 0) := by omega
    have qq := hb2.size
    go_wp2_with fail
    refine (l27Uses_any l n HD.out (by omega) l.length x _ _ h3 h4 (H.out.below (by (repeat (first | with_reducible exact Below.refl _ _ | with_reducible assumption | with_reducible refine Below.al ?_ _ | with_reducible refine Below.sc ?_ (by first | exact Nat.le_refl _ | (simp; done) | (simp; omega)) _ | assumption | exact Below.refl _ _ | refine Below.dr ?_ | refine Below.drN ?_ _ | refine Below.step ?_ (by assumption))))) (by omega)).mono ?_
    rintro e w3 ⟨vu, rfl, hu3, hb3⟩
    have q3 := hb3.size
    have HS3 := Lib.hid (rowS_own (S := fun b => w2.heap.size ≤ b ∧ b < w3.heap.size) hu3 (fun s hs => H.out.name_size (HUI.out s hs)) (own_len hu3) (fun g hg => ⟨own_base hu3 g hg, own_lt' hu3 hg⟩)).at_
    obtain ⟨pu, ku, rfl, hul⟩ := HS3.out.form
    clear hu3
    go_wp2_with fail
    refine (l27Order_any l _ _ (H.out.below (by (repeat (first | with_reducible exact Below.refl _ _ | with_reducible assumption | with_reducible refine Below.al ?_ _ | with_reducible refine Below.sc ?_ (by first | exact Nat.le_refl _ | (simp; done) | (simp; omega)) _ | assumption | exact Below.refl _ _ | refine Below.dr ?_ | refine Below.drN ?_ _ | refine Below.step ?_ (by assumption))))) (by omega) HNE.out).mono ?_
    rintro e w4 ⟨vo, rfl, hv4, hz4, hb4⟩
    have q4 := hb4.size
    have HS4 := Lib.hid (rowS_own (S := fun b => w3.heap.size ≤ b ∧ b < w4.heap.size) hv4 hz4 (own_len hv4) (fun g hg => ⟨own_base hv4 g hg, own_lt' hv4 hg⟩)).at_
    obtain ⟨po, ko, rfl, hol2⟩ := HS4.out.form
    clear hv4 hz4
    have hb04 : Below w.heap.size w w4 := by (repeat (first | with_reducible exact Below.refl _ _ | with_reducible assumption | with_reducible refine Below.al ?_ _ | with_reducible refine Below.sc ?_ (by first | exact Nat.le_refl _ | (simp; done) | (simp; omega)) _ | assumption | exact Below.refl _ _ | refine Below.dr ?_ | refine Below.drN ?_ _ | refine Below.step ?_ (by assumption)))
    have HS34 := Lib.hid (HS3.out.below hb4)
    have HL4 := Lib.hid (H.out.below hb04)
    have HR0 := Lib.hid (show w4.ownsRow w.heap.size 9 1 (.slice (some ⟨w.heap.size, 0, none⟩) 0 0) 0 [] from own_below (own_below (own_below (own_below (row_empty w w.heap.size 9 1 (Nat.le_refl _)) hb1) hb2) hb3) hb4)
    have HG0 := Lib.hid (Gr.start HR0.out)
    have hv0 : (Value.slice (some ⟨w.heap.size, 0, none⟩) 0 0).ownBlock = some w.heap.size := rfl
    clear HR0
    go_wp2
    go_loopw [6, 9] (fun o i wr => ∃ k : Nat, k ≤ (ordL l).length ∧ i = .int .i64 k ∧ Gr 9 1 w4 (.slice (some ⟨w.heap.size, 0, none⟩) 0 0) w.heap.size (visF l ((ordL l).take k) (usesF l.length l x)).length (strW (visF l ((ordL l).take k) (usesF l.length l x))) o wr) (fun _ i _ => (ordL l).length - (intOf i).toNat)
    case atStart => exact ⟨0, Nat.zero_le _, rfl, HG0.out⟩
    case round =>
      obtain ⟨k, hk, rfl, hgr⟩ := hrel
      have HGR := Lib.hid hgr
      have hbw : Below w.heap.size w wr := hgr.bel hb04 (fun g hg => by rw [hv0] at hg; injection hg with hg; omega)
      have HSM := Lib.hid (fun (B : Nat → Prop) (hB : ∀ b, B b → b ≠ w.heap.size) => hgr.same (B := B) (fun b hb e => by rw [hv0] at e; injection e with e; exact hB b hb e.symm))
      have hgd := HVG.out ((ordL l).take k)
      have hgl := hgd.len
      clear hgr
      by_cases hlt : k < (ordL l).length
      · have hor := HS4.out.mono (HSM.out _ (fun b hb => by omega)) (fun _ h => h)
        obtain ⟨b', o', rfl, hB', hy0, hys⟩ := hor.at_ hlt
        have HTK := Lib.hid (visF_take (l := l) (U := usesF l.length l x) hlt)
        have hin := List.getElem_mem hlt
        obtain ⟨a, ha⟩ : ∃ a, (ordL l)[k] = a := ⟨_, rfl⟩
        rw [ha] at hy0 HTK hin
        obtain ⟨u, hul2, hua⟩ := List.mem_map.1 (HOI.out a hin)
        have HUA := Lib.hid hua
        clear ha hor hys hua
        have zb' := bsz (World.block_lt_of_cell? _ _ hy0)
        have hki : (k : Int) < (ordL l).length := by omega
        have HGS := Lib.hid hgd
        clear hgd
        generalize visF l ((ordL l).take k) (usesF l.length l x) = out at *
        go_wp2_with fail
        refine (l2In_any _ _ a _ (HS34.out.mono (HSM.out _ (fun b hb => by omega)) (fun _ h => h))).mono ?_
        rintro e w5 ⟨rfl, hb5⟩
        have ⟨cb5, fb5⟩ := bcell hb5
        have q5 := hb5.size
        cases hI : inS (usesF l.length l x) a
        all_goals rw [hI] at HTK
        · go_wp2
          refine ⟨⟨k + 1, by omega, by go_num, ?_⟩, by simp [intOf]; omega⟩
          rw [HTK.out, if_neg (by simp)]
          exact HGR.out.below hb5
        · obtain ⟨vr, hvr⟩ : ∃ vr, vr = u6 := ⟨_, rfl⟩
          subst hvr
          have hbw5 : Below w.heap.size w w5 := Below.step hbw hb5
          have hfu : findU l a = some u := HUA.out ▸ findU_of HD.out hul2
          obtain ⟨j, hj, hpl, hlj⟩ := place_some hfu
          have HAX := Lib.hid (show axsOf l a = u.axs by rw [axsOf, hfu])
          clear hfu
          go_wp2_with fail
          refine (l27Find_any l _ a _ (H.out.below hbw5)).mono ?_
          rintro e w6 ⟨r, rfl, hr, hb6⟩
          rw [hpl] at hr
          obtain rfl : r = (j : Int) := hr
          have q6 := hb6.size
          obtain ⟨b, o, rfl, hB, p1, c1, p2, c2, hx0, hx1, hx2, hx3, hxu⟩ := (H.out.below (Below.step hbw5 hb6)).at_ hj
          rw [hlj] at hx0 hx1 hx2 hx3 hxu
          obtain ⟨_, _, _, _, q0, q1, q2', q3', -, -, hil, hal2, -, haa⟩ := hxu.form
          simp only [Value.slice.injEq, true_and] at q1 q2'
          obtain ⟨rfl, rfl⟩ := q2'
          clear q0 q1 q3' hxu
          unfold maxLen at hil hal2
          have HA := Lib.hid haa
          have zb := bsz (World.block_lt_of_cell? _ _ hx0)
          have hj0 : (0 : Int) ≤ j := by omega
          have hjl2 : (j : Int) < l.length := by omega
          clear haa hlj hpl
          go_wp2
          obtain ⟨W, hW⟩ : ∃ W : World, W = w6.alloc (.cells #[.string u.name, .slice p1 u.incs.length c1, .slice p2 u.axs.length c2, .string u.goal] 43) := ⟨_, rfl⟩
          have hbW : Below w6.heap.size w6 W := by rw [hW]; exact (Below.refl _ _).alloc (Nat.le_refl _) _
          have hcx : W.cell? ⟨w6.heap.size, 2, none⟩ = some (.slice p2 u.axs.length c2) := by rw [hW]; go_simp
          have hrow := own_below (own_below (own_below HGR.out.row hb5) hb6) hbW
          have hvol : ∀ g, vr.ownBlock = some g → g < wr.heap.size := fun g hg => own_lt' HGR.out.row hg
          have HG0' := Lib.hid (Gr.start hrow)
          have HAW := Lib.hid (HA.out.below hbW)
          have hwW : Below w.heap.size w W := Below.step (Below.step hbw5 hb6) hbW
          rw [← hW]
          clear hW hx0 hx1 hx2 hx3 hrow
          have hzW := World.block_lt_of_cell? _ _ hcx
          have HGA := Lib.hid (fun m => HGS.out.addAll (xs := u.axs.take m) (fun z hz => by rw [← HAX.out] at hz; exact axsOf_in z (List.mem_of_mem_take hz)))
          obtain ⟨wA, hwA⟩ : ∃ x, x = wr := ⟨_, rfl⟩
          subst hwA
          go_loopw [6, 11] (fun o i wr' => ∃ m : Nat, m ≤ u.axs.length ∧ i = .int .i64 m ∧ Gr 9 1 W vr w.heap.size (addAll out (u.axs.take m)).length (strW (addAll out (u.axs.take m))) o wr') (fun _ i _ => u.axs.length - (intOf i).toNat)
          case atStart => exact ⟨0, Nat.zero_le _, rfl, HG0'.out⟩
          case round =>
            obtain ⟨m, hm, rfl, hg4⟩ := hrel
            have HG4 := Lib.hid hg4
            have hga := HGA.out m
            have hgal := hga.len
            have hbg := hg4.grown.size
            have d2 := hg4.cell (fun e => by have := hvol _ e; omega) hcx
            have zd := bsz (World.block_lt_of_cell? _ _ d2)
            by_cases hml : m < u.axs.length
            · obtain ⟨b2, o2, rfl, hB2, hz0, -⟩ := (hg4.strs HAW.out (fun b hb e => by have := own_base HGR.out.row b e; omega)).at_ hml
              have HTJ := Lib.hid (addAll_take (out := out) hml)
              obtain ⟨a2, ha2⟩ : ∃ a2, u.axs[m] = a2 := ⟨_, rfl⟩
              rw [ha2] at hz0 HTJ
              clear ha2
              have zb2 := bsz (World.block_lt_of_cell? _ _ hz0)
              have HRO := Lib.hid (rowS_own (S := fun _ => True) hg4.row (fun s hs => HAZ.out s (hga.2 s hs)) (by unfold maxLen; omega) (fun _ _ => trivial))
              obtain ⟨p5, k5, rfl, -⟩ := OwnRow.form HRO.out
              clear hg4 hga
              generalize addAll out (u.axs.take m) = cur at *
              have hm2 : (m : Int) < u.axs.length := by omega
              go_wp2_with fail
              refine (l2In_any cur _ a2 _ HRO.out.at_).mono ?_
              rintro e w7 ⟨rfl, hb7⟩
              have ⟨cb7, fb7⟩ := bcell hb7
              have q7 := hb7.size
              have HAD := Lib.hid (show addS cur a2 = if inS cur a2 then cur else cur ++ [a2] from rfl)
              cases hI2 : inS cur a2
              all_goals rw [hI2] at HAD
              · go_wp2_with (at_builtin; refine wpList_app1 rfl (.tmp 65) (.tmp 71) _ rfl w.heap.size 9 1 16 elemStr _ _ _ rfl w7 #[.string a2] rfl _ (by simp) rfl (own_below HG4.out.row hb7) rfl (by simp [Value.oneCell']) (by omega) (by unfold maxLen; omega) (by omega) ?_; intro v8 w8 hown8 hg8 hnr8 hlt8)
                obtain ⟨q8, k8, rfl⟩ := own_form hown8 (Nat.succ_pos _)
                refine ⟨⟨m + 1, by omega, by go_num, ?_⟩, by simp [intOf]; omega⟩
                rw [HTJ.out, HAD.out, if_neg (by simp), List.length_append, strW_snoc]
                exact (HG4.out.below hb7).app hown8 hg8 hnr8
              · go_wp2
                refine ⟨⟨m + 1, by omega, by go_num, ?_⟩, by simp [intOf]; omega⟩
                rw [HTJ.out, HAD.out, if_pos (by trivial)]
                exact HG4.out.below hb7
            · obtain rfl : m = u.axs.length := by omega
              rw [List.take_length] at HG4
              go_wp2
              refine ⟨⟨k + 1, by omega, by go_num, ?_⟩, by simp [intOf]; omega⟩
              rw [HTK.out, if_pos (by trivial), HAX.out]
              exact (((HGR.out.below hb5).below hb6).below hbW).app HG4.out.row HG4.out.grown HG4.out.fresh
      · obtain rfl : k = (ordL l).length := by omega
        rw [List.take_length, ← HVL.out] at HGR
        rw [List.take_length, ← HVL.out] at hgd hgl
        have HRO := Lib.hid (rowS_own (S := NewB w wr) HGR.out.row (fun s hs => HAZ.out s (hgd.2 s hs)) (by unfold maxLen; omega) (fun g hg => ⟨own_base HGR.out.row g hg, own_lt' HGR.out.row hg⟩))
        obtain ⟨pv, cv, rfl, -⟩ := OwnRow.form HRO.out
        go_wp2
        go_ret2
        exact ⟨_, by rw [HO.out]; rfl, HRO.out.at_, hbw⟩
end Go.Proofs.YtimpkjiglioflaaGreat
namespace Go.Proofs.YtimpkjiglioflaaGreat
open Go.RowKit Go.Maps Go.WideMaps
/-- Block b is a map that reads as the set U (n: a bound on its entries). -/
def SetIs (w : World) (b n : Nat) (U : List ByteArray) : Prop :=
  ∃ D : DataW Unit, w.ownsMap Tryz.prog 9 (plainElem (H := Unit) Tryz.prog 4) b n D ∧ IsMap D ∧ ∀ s : ByteArray, D.atKey (.string s.data.toList) (.lit (.bool false)) = .lit (.bool (inS U s))
theorem SetIs.lt {w : World} {b n : Nat} {U : List ByteArray} (h : SetIs w b n U) : b < w.heap.size := by obtain ⟨D, h1, _⟩ := h; exact h1.lt
theorem SetIs.mono {w : World} {b n n' : Nat} {U : List ByteArray} (h : SetIs w b n U) (hn : n ≤ n') : SetIs w b n' U := by obtain ⟨D, h1, h2, h3⟩ := h; exact ⟨D, h1.mono hn, h2, h3⟩
theorem SetIs.kept {w w' : World} {b n : Nat} {U : List ByteArray} (h : SetIs w b n U) (hb : w'.heap[b]? = w.heap[b]?) : SetIs w' b n U := by
  obtain ⟨D, ⟨es, clock, h1, h1'⟩, h2, h3⟩ := h
  exact ⟨D, ⟨es, clock, hb.trans h1, h1'⟩, h2, h3⟩
theorem SetIs.nil (w : World) : SetIs (w.alloc (.map #[] 0)) w.heap.size 0 [] := ⟨_, World.ownsMap_made w _ _ _, ⟨[], rfl⟩, fun _ => rfl⟩
set_option maxRecDepth 100000 in
theorem zeroBool (w : World) : (zeroValue 4).run Tryz.prog w = .ok (.bool false) w := by kernel_rfl
set_option maxRecDepth 100000 in
theorem SetIs.look {w : World} {b n : Nat} {U : List ByteArray} (h : SetIs w b n U) (s : ByteArray) (hs : s.size ≤ maxLen) : (Instr.lookup 53 (.map (some b)) (.string s) false).run Tryz.prog w = .ok (.bool (inS U s)) w := by
  obtain ⟨D, h1, h2, h3⟩ := h
  obtain ⟨v, ps, hr, hv⟩ := h1.lookup (t := 53) (e := 4) (string_keyed Tryz.underlying9) Tryz.underlying53 (zeroBool w) (plainElem_bool Tryz.underlying4 false) (keyOf_string_mk Tryz.underlying9 hs)
  rw [h3 s] at hv
  have : v = .bool (inS U s) := by
    unfold plainElem at hv
    rw [Tryz.underlying4] at hv
    split at hv <;> simp_all
  rw [hr, this]
set_option maxRecDepth 100000 in
theorem SetIs.add {w : World} {b n : Nat} {U : List ByteArray} (h : SetIs w b n U) (hn : n < 1000000) (s : ByteArray) (hs : s.size ≤ maxLen) : ∃ w', (Instr.mapUpdate 53 (.map (some b)) (.string s) (.bool true)).run Tryz.prog w = .ok () w' ∧ SetIs w' b (n + 1) (addS U s) ∧ w.grownBy w' (some b) := by
  obtain ⟨D, h1, h2, h3⟩ := h
  obtain ⟨w', hr, h4, hg⟩ := h1.update (t := 53) (e := 4) (string_keyed Tryz.underlying9) Tryz.underlying53 (by unfold maxLen; omega) (keyOf_string_mk Tryz.underlying9 hs) (plainElem_bool Tryz.underlying4 true)
  refine ⟨w', hr, ⟨_, h4, h2.put _ _, fun x => ?_⟩, hg⟩
  by_cases e : x = s
  · subst e
    rw [atKey_put_same h2 (by unfold WideAt.IsKeyLit; trivial)]
    have : inS (addS U x) x = true := by rw [inS, decide_eq_true_iff, mem_addS]; exact .inr rfl
    rw [this]
  · rw [atKey_put_other (by intro h; injection h with h; exact e (ByteArray.ext (Array.toList_inj.1 h))), h3]
    have : inS (addS U s) x = inS U x := by
      rw [inS, inS, decide_eq_decide, mem_addS]
      exact ⟨fun h => h.elim id (fun h => absurd h e), .inl⟩
    rw [this]
end Go.Proofs.YtimpkjiglioflaaGreat
namespace Go.Proofs.YtimpkjiglioflaaGreat
open Go.RowKit Go.Shelf
attribute [local go_sem] Oper.semAt_some
/-- The blocks below n₀ and those that meet Q stay. -/
def KbS (n₀ : Nat) (Q : Nat → Prop) (W W' : World) : Prop := Below n₀ W W' ∧ ∀ b, Q b → b < W.heap.size → W'.heap[b]? = W.heap[b]?
theorem KbS.refl (n₀ : Nat) (Q : Nat → Prop) (W : World) : KbS n₀ Q W W := ⟨Below.refl _ _, fun _ _ _ => rfl⟩
theorem KbS.trans {n₀ : Nat} {Q : Nat → Prop} {X Y Z : World} (h : KbS n₀ Q X Y) (k : KbS n₀ Q Y Z) : KbS n₀ Q X Z := ⟨h.1.trans k.1, fun b hb hl => (k.2 b hb (Nat.lt_of_lt_of_le hl h.1.size)).trans (h.2 b hb hl)⟩
set_option maxRecDepth 100000 in
set_option maxHeartbeats 2000000 in
theorem backS1_in {α : Type} (ix : α → Int) (c0 : α → Value) (F : Fence) (n : Nat) (hF : F.fn 72) (hro : F.round = none) (hn : 1 ≤ n) (l Bs n₀ : Nat) (Q : Nat → Prop) (hQ : Q Bs) (p : Option Addr) (cap : Nat) (zs : List α) (hlen : zs.length ≤ 1048576) (hix : ∀ k (h : k < zs.length), ix zs[k] = k) (J Jx : List α → World → Prop)
    (hY : ∀ pre x W, J pre W → pre.length < zs.length → YieldAt F (n - 1) Tryz.prog l #[.int .i64 (ix x), c0 x] W fun e W' =>
      (e = .returned (.bool true) ∧ J (pre ++ [x]) W' ∧ KbS n₀ Q W W') ∨ (e = .returned (.bool false) ∧ Jx (pre ++ [x]) W'))
    (W : World) (hBs : W.cell? ⟨Bs, 0, none⟩ = some (.slice p zs.length cap))
    (hc : ∀ k (h : k < zs.length), ∃ b o, p = some ⟨b, o, none⟩ ∧ Q b ∧ W.cell? ⟨b, o + k, none⟩ = some (c0 zs[k])) (h0 : J [] W) :
    CallsIn F n Tryz.prog 72 #[.func (.yield l) #[] #[], .pointer (some ⟨Bs, 0, none⟩)] W fun e W' => (∃ v, e = .returned v) ∧
      ((∃ ys, ys = zs.reverse ∧ J ys W') ∨ (∃ pre, True ∧ Jx pre W')) := by
  have HC := Lib.hid hc
  have HIX := Lib.hid hix
  have hBl := World.block_lt_of_cell? _ _ hBs
  clear hc hix
  refine callsIn_of_wp Tryz.func72 rfl hF ?_ hro
  simp only [Tryz.ntmps72, List.size_toArray, List.length_cons, List.length_nil, Nat.reduceAdd, Nat.reduceSub, Array.replicate_succ, Array.replicate_zero, List.push_toArray, List.append_toArray, List.nil_append, List.cons_append]
  have hwr : IntKind.i64.wrap ((zs.length : Int) - 1) = (zs.length : Int) - 1 := IntWalk.i64_in _ (by omega)
  gi_wp2
  gi_loopw [3] (fun i wr => ∃ k : Nat, k ≤ zs.length ∧ i = .int .i64 ((k : Int) - 1) ∧ J (zs.drop k).reverse wr ∧ KbS n₀ Q W wr)
    (fun i _ => (intOf i + 1).toNat)
  case atStart => exact ⟨zs.length, Nat.le_refl _, rfl, by simpa using h0, KbS.refl _ _ _⟩
  case round =>
    obtain ⟨k, hk, rfl, hJs, hnx⟩ := hrel
    have hBr : wr.cell? ⟨Bs, 0, none⟩ = some (.slice p zs.length cap) := (World.cell?_of_block (hnx.2 Bs hQ hBl)).trans hBs
    cases k with
    | zero =>
      gi_wp2
      go_end0
      exact ⟨⟨_, rfl⟩, .inl ⟨_, rfl, by simpa using hJs⟩⟩
    | succ k =>
      obtain ⟨b, o, rfl, hb, hx0⟩ := HC.out k (by omega)
      have hy0 := (World.cell?_of_block (a := ⟨b, o + k, none⟩) (hnx.2 b hb (World.block_lt_of_cell? _ _ hx0))).trans hx0
      have hdr : (zs.drop (k + 1)).reverse ++ [zs[k]] = (zs.drop k).reverse := by rw [List.drop_eq_getElem_cons (by omega : k < zs.length), List.reverse_cons]
      obtain ⟨fn, tmps, assign, body, hy, hR⟩ := hY _ zs[k] wr hJs (by simp; omega)
      rw [HIX.out k (by omega)] at hy
      have hki : ((k + 1 : Nat) : Int) - 1 = k := by omega
      rw [hki]
      have hkl : (k : Int) < zs.length := by omega
      have hk0 : (0 : Int) ≤ k := by omega
      have hwk : IntKind.i64.wrap ((k : Int) - 1) = (k : Int) - 1 := IntWalk.i64_in _ (by omega)
      gi_wp2
      refine hR.mono ?_
      rintro e W3 (⟨rfl, hJ3, hk3⟩ | ⟨rfl, hJx3⟩)
      · gi_wp2
        go_roundw
        case rel => exact ⟨k, by omega, rfl, by rw [← hdr]; exact hJ3, hnx.trans hk3⟩
        case measure => simp [intOf]
      · gi_wp2
        refine bodyPost_ret (results_none rfl _ _ _) rfl ?_
        exact ⟨⟨_, rfl⟩, .inr ⟨_, trivial, hJx3⟩⟩
set_option maxHeartbeats 1000000 in
theorem backS_in (F : Fence) (n : Nat) (hF : F.fn 56) (hro : F.round = none) (a : Option Addr) (len cap : Nat) (w : World) :
    CallsIn F n Tryz.prog 56 #[.slice a len cap] w fun e w' => e = .returned (.func (.func 72) #[] #[.pointer (some ⟨w.heap.size, 0, none⟩)]) ∧ w' = w.alloc (.cells #[.slice a len cap] 29) := by
  refine callsIn_of_wp Tryz.func56 rfl hF ?_ hro
  simp only [Tryz.ntmps56, List.size_toArray, List.length_cons, List.length_nil, Nat.reduceAdd, Nat.reduceSub, Array.replicate_succ, Array.replicate_zero, List.push_toArray, List.append_toArray, List.nil_append, List.cons_append]
  gi_wp2
  go_ret
  exact ⟨rfl, rfl⟩
theorem backS_stops {α : Type} (ix : α → Int) (c0 : α → Value) (F : Fence) (n : Nat) (hF : F.fn 72) (hro : F.round = none) (hn : 1 ≤ n) (Bs n₀ : Nat) (Q : Nat → Prop) (hQ : Q Bs) (p : Option Addr) (cap : Nat) (zs : List α) (hlen : zs.length ≤ 1048576) (hix : ∀ k (h : k < zs.length), ix zs[k] = k) (w : World) (hBs : w.cell? ⟨Bs, 0, none⟩ = some (.slice p zs.length cap))
    (hc : ∀ k (h : k < zs.length), ∃ b o, p = some ⟨b, o, none⟩ ∧ Q b ∧ w.cell? ⟨b, o + k, none⟩ = some (c0 zs[k])) :
    SeqStopsK F n Tryz.prog 72 #[.pointer (some ⟨Bs, 0, none⟩)] (fun x : α => #[Value.int .i64 (ix x), c0 x]) (KbS n₀ Q) (fun ys => ys = zs.reverse) (fun _ => True) zs.length w := fun l J Jx W hW _ _ hY h0 =>
  backS1_in ix c0 F n hF hro hn l Bs n₀ Q hQ p cap zs hlen hix J Jx hY W ((hW.cell (p := ⟨Bs, 0, none⟩) (World.block_lt_of_cell? _ _ hBs)).trans hBs) (fun k h => by
    obtain ⟨b, o, e, hb, h0⟩ := hc k h
    exact ⟨b, o, e, hb, (hW.cell (p := ⟨b, _, none⟩) (World.block_lt_of_cell? _ _ h0)).trans h0⟩) h0
end Go.Proofs.YtimpkjiglioflaaGreat
namespace Go.Proofs.YtimpkjiglioflaaGreat
open Go.RowKit Go.Shelf
/-! ### A box of several cells -/
def BoxN (W : World) (b : Nat) (t : TypeId) (cs : Array Value) : Prop := W.heap[b]? = some (.cells cs t (0, 0))
theorem BoxN.lt {W : World} {b : Nat} {t : TypeId} {cs : Array Value} (h : BoxN W b t cs) : b < W.heap.size := (Array.getElem?_eq_some_iff.1 h).1
theorem BoxN.cell {W : World} {b : Nat} {t : TypeId} {cs : Array Value} (h : BoxN W b t cs) (i : Nat) : W.cell? ⟨b, i, none⟩ = cs[i]? := by simp [World.cell?, show W.heap[b]? = _ from h]
theorem BoxN.kept {W W' : World} {row : Option Nat} {b : Nat} {t : TypeId} {cs : Array Value} (h : BoxN W b t cs) (hg : W.grownBy W' row) (hne : some b ≠ row) : BoxN W' b t cs := (hg.block b h.lt hne).trans h
theorem boxN_own {β : Type} (b : Nat) (t : TypeId) (f : β → Array Value) : Own (fun s W => BoxN W b t (f s)) := fun s X Y row hs hg hrow =>
  hs.kept hg (fun e' => by obtain ⟨o, ho, hc⟩ := hrow b e'.symm; rw [show X.heap[b]? = _ from hs] at ho; cases ho; cases hc)
end Go.Proofs.YtimpkjiglioflaaGreat
namespace Go.Proofs.YtimpkjiglioflaaGreat
open Go.RowKit Go.Shelf Go.Maps
attribute [local go_sem] Oper.semAt_some
theorem stepB_take {l : List Un} {S : List ByteArray} {y : ByteArray} {u : Un} (h : findU l y = some u) (hy : inS S y = true) : stepB l S y = addAll S u.incs := by
  rw [stepB, hy, if_pos rfl, incsOf, h]
/-- The names with their places. -/
abbrev Pl (R : List ByteArray) := { y : Int × ByteArray // y.2 ∈ R }
def plL (R : List ByteArray) : List (Pl R) := List.ofFn fun k : Fin R.length => ⟨((k.val : Int), R[k.val]), List.getElem_mem k.isLt⟩
theorem plL_len (R : List ByteArray) : (plL R).length = R.length := by simp [plL]
theorem plL_at (R : List ByteArray) (k : Nat) (h : k < (plL R).length) : (plL R)[k].1 = ((k : Int), R[k]'(by rw [plL_len] at h; exact h)) := by simp [plL]
theorem plL_names (R : List ByteArray) : (plL R).map (fun y => y.1.2) = R := by
  refine List.ext_getElem (by simp [plL]) fun i h1 h2 => ?_
  simp [plL]
set_option maxRecDepth 100000 in
set_option maxHeartbeats 4000000 in
theorem uses_any (l : List Un) (n : Nat) (va : Value) (x : ByteArray) (w : World) (h : UnsAt (fun b => b < n) w va l) (hn : n ≤ w.heap.size) (hg : libGood l = true) (hw : l.length + wtU l ≤ 1048576) (hx : x.size ≤ maxLen) :
    Calls Tryz.prog 35 #[va, .string x] w fun e w' => ∃ b, e = .returned (.map (some b)) ∧ SetIs w' b 1000 (usesB l (ordL l) x) ∧ w.heap.size ≤ b ∧ Below w.heap.size w w' := by
  obtain ⟨p, c, rfl, hlen⟩ := h.form
  unfold maxLen at hlen
  obtain ⟨h1, h2, h3⟩ := libGood_parts hg
  have h12 : l.length ≤ 12 := by rw [libGood, Bool.and_eq_true, Bool.and_eq_true] at hg; exact of_decide_eq_true hg.1.2
  have H := Lib.hid h
  have HL := Lib.hid h2
  have HD := Lib.hid h1
  have HGD := Lib.hid h3
  have HOI := Lib.hid (fun z (hz : z ∈ ordL l) => (ordL_inv l).sub z hz)
  have hol := (ordL_inv l).len
  have HSZ := Lib.hid (fun y (hy : y ∈ ordL l) => h.name_size hy)
  clear h hg h1 h2 h3
  have hmm := @run_makeMap Tryz.prog
  obtain ⟨W1, hW1⟩ : ∃ W1 : World, W1 = w.alloc (.cells #[.slice p l.length c] 25) := ⟨_, rfl⟩
  have hz1 : W1.heap.size = w.heap.size + 1 := by rw [hW1]; simp
  obtain ⟨wm, hrm, hsm, hgm⟩ := (SetIs.nil W1).add (by omega) x hx
  have hsx : addS [] x = [x] := by simp [addS, inS]
  rw [hsx, hz1] at hsm
  rw [hz1] at hrm hgm
  have hzm := hgm.size
  simp only [World.size_alloc, hz1] at hzm
  have hbm : Below w.heap.size w wm := ⟨hgm.os.trans (by rw [hW1]; rfl), hgm.tape.trans (by rw [hW1]; rfl), hgm.output.trans (by rw [hW1]; rfl), by omega, fun k hk => (hgm.block k (by simp [hz1]; omega) (by simp; omega)).trans ((hao W1 _ k (by omega)).trans (by rw [hW1]; exact hao w _ k hk))⟩
  have hL0 : wm.heap[w.heap.size]? = some (.cells #[.slice p l.length c] 25 (0, 0)) := (hgm.block _ (by simp [hz1]; omega) (by simp)).trans ((hao W1 _ _ (by omega)).trans (by rw [hW1]; exact heap_alloc_new w _))
  have hL0c : wm.cell? ⟨w.heap.size, 0, none⟩ = some (.slice p l.length c) := by rw [cell_of_row wm _ 0 _ _ (0, 0) hL0]; rfl
  have HLB := Lib.hid hL0
  have HSM := Lib.hid hsm
  subst hW1
  have hhz := bsz (show w.heap.size < wm.heap.size by omega)
  clear hsm hL0 hgm hsx
  refine (callsIn_wide (n := 6)).1 ?_
  refine callsIn_of_wp_marks Tryz.func35 rfl trivial ?_ rfl
  simp only [Tryz.ntmps35, List.size_toArray, List.length_cons, List.length_nil, Nat.reduceAdd, Nat.reduceSub, Array.replicate_succ, Array.replicate_zero, List.push_toArray, List.append_toArray, List.nil_append, List.cons_append]
  gi_wp2_with (first | (refine ⟨trivial, ?_⟩; gi_at_call 27; refine (callsIn_wide.2 (order_any l _ _ (H.out.below (by (repeat (first | with_reducible exact Below.refl _ _ | with_reducible assumption | with_reducible refine Below.al ?_ _ | with_reducible refine Below.sc ?_ (by first | exact Nat.le_refl _ | (simp; done) | (simp; omega)) _ | assumption | exact Below.refl _ _ | refine Below.dr ?_ | refine Below.drN ?_ _ | refine Below.step ?_ (by assumption))))) (by omega))).mono ?_; rintro e w2 ⟨hb2, hp⟩; rw [if_pos HL.out] at hp; obtain ⟨v, rfl, hv⟩ := hp; have HV := Lib.hid hv; obtain ⟨pv, cv, rfl, -⟩ := OwnRow.form hv; clear hv; have hq2 := hb2.size; simp at hq2) | (refine ⟨trivial, ?_⟩; gi_at_call 56; refine (backS_in Fence.wide _ trivial rfl _ _ _ _).mono ?_; rintro e w3 ⟨rfl, rfl⟩))
  have HMI := Lib.hid (fun y (hy : y ∈ ordL l) => HSZ.out y hy)
  have hQ : (fun b => wm.heap.size < b ∧ b ≤ w2.heap.size) w2.heap.size := ⟨by omega, Nat.le_refl _⟩
  obtain ⟨W0, hW0⟩ : ∃ W0 : World, W0 = w2.alloc (.cells #[.slice pv (ordL l).length cv] 29) := ⟨_, rfl⟩
  have hb02 : Below w.heap.size w w2 := by (repeat (first | with_reducible exact Below.refl _ _ | with_reducible assumption | with_reducible refine Below.al ?_ _ | with_reducible refine Below.sc ?_ (by first | exact Nat.le_refl _ | (simp; done) | (simp; omega)) _ | assumption | exact Below.refl _ _ | refine Below.dr ?_ | refine Below.drN ?_ _ | refine Below.step ?_ (by assumption)))
  have hB0 : Below w.heap.size w W0 := by rw [hW0]; (repeat (first | with_reducible exact Below.refl _ _ | with_reducible assumption | with_reducible refine Below.al ?_ _ | with_reducible refine Below.sc ?_ (by first | exact Nat.le_refl _ | (simp; done) | (simp; omega)) _ | assumption | exact Below.refl _ _ | refine Below.dr ?_ | refine Below.drN ?_ _ | refine Below.step ?_ (by assumption)))
  have hb20 : Below w2.heap.size w2 W0 := by rw [hW0]; exact (Below.refl _ _).alloc (Nat.le_refl _) _
  have hm2 : Below wm.heap.size wm W0 := by rw [hW0]; exact (((Below.refl wm.heap.size wm).alloc (Nat.le_refl _) _).trans (hb2.mono (by simp))).alloc (by omega) _
  have hs0 : W0.heap.size = w2.heap.size + 1 := by rw [hW0]; simp
  have bS : BoxN W0 w2.heap.size 29 #[.slice pv (ordL l).length cv] := by rw [hW0]; exact heap_alloc_new w2 _
  have bM : BoxN W0 wm.heap.size 53 #[.map (some (w.heap.size + 1))] := (hb20.block _ (by omega)).trans ((hb2.block _ (by simp)).trans (heap_alloc_new wm _))
  have bL : BoxN W0 w.heap.size 25 #[.slice p l.length c] := (hm2.block _ (by omega)).trans HLB.out
  have sM : SetIs W0 (w.heap.size + 1) (1 + 12 * 0) [x] := (HSM.out.kept (hm2.block _ (by omega))).mono (by omega)
  have bS' : W0.cell? ⟨w2.heap.size, 0, none⟩ = some (.slice pv (plL (ordL l)).length cv) := by rw [plL_len]; exact bS.cell 0
  have hbl : ∀ k (h : k < (plL (ordL l)).length), ∃ b o, pv = some ⟨b, o, none⟩ ∧ (fun b => wm.heap.size < b ∧ b ≤ w2.heap.size) b ∧ W0.cell? ⟨b, o + k, none⟩ = some (.string (plL (ordL l))[k].1.2) := fun k hk => by
    rw [plL_len] at hk
    obtain ⟨b', o', e, hB', hy0, -⟩ := (HV.out.at_.below hb20).at_ hk
    have h1 := hB'.1
    simp at h1
    exact ⟨b', o', e, ⟨by omega, by have := hB'.2; omega⟩, by rw [plL_at]; exact hy0⟩
  rw [← hW0]
  clear hW0 hrm bS hbm HLB HSM
  have HBL := Lib.hid hbl
  clear hbl
  refine wpIn_rangeFunc_ownH (F := Fence.wide) (n := 6) rfl (by omega) (gf := 72) (lb := #[.pointer (some ⟨w2.heap.size, 0, none⟩)]) rfl trivial (enters_of Tryz.func72 (by kernel_rfl) rfl)
    (backS_stops (fun y : Pl (ordL l) => y.1.1) (fun y => .string y.1.2) Fence.wide 5 trivial rfl (by omega) w2.heap.size w.heap.size _ hQ pv cv (plL (ordL l)) (by rw [plL_len]; omega) (fun k hk => by rw [plL_at]) W0 bS' HBL.out)
    (fun h k => h.trans k)
    (fun W l o o' hl h h1 h2 => ⟨belowK_b (w := W0) (by omega) W l o o' hl h h1 h2, fun b hb hlt => World.putObj_heap_other (fun e => by have := hb.2; omega)⟩)
    (Below.refl _ _) (fun _ => rfl)
    (fun pre W => ((BoxN W w.heap.size 25 #[.slice p l.length c] ∧ BoxN W wm.heap.size 53 #[.map (some (w.heap.size + 1))]) ∧ SetIs W (w.heap.size + 1) (1 + 12 * pre.length) ((pre.map (fun y => y.1.2)).foldl (stepB l) [x])) ∧ (Below w.heap.size w W ∧ W0.heap.size ≤ W.heap.size))
    (fun _ _ _ => False)
    (OwnFrom.and (OwnFrom.and (OwnFrom.and (Own.from (boxN_own w.heap.size 25 (fun _ => #[.slice p l.length c])) _) (Own.from (boxN_own wm.heap.size 53 (fun _ => #[.map (some (w.heap.size + 1))])) _))
      (fun s X Y row hs hg hr => hs.kept (hg.block _ hs.lt (fun e => by have := (hr _ e.symm).1; omega)))) (OwnFrom.and (ownFrom_below (Nat.le_refl _) (by omega)) (fun s X Y row hs hg hr => Nat.le_trans hs hg.size)))
    (fun _ _ _ _ _ hs _ _ => hs)
    ⟨⟨⟨bL, bM⟩, sM⟩, hB0, Nat.le_refl _⟩
    (fun y a' W => a' = { tmps := #[Value.slice p l.length c, Value.string x, Value.pointer (some ⟨w.heap.size, 0, none⟩), undef, Value.map none, Value.pointer (some ⟨wm.heap.size, 0, none⟩), Value.slice pv (ordL l).length cv, Value.bool true, undef, Value.string y.1.2, undef, undef, Value.map (some (w.heap.size + 1)), Value.string x, Value.map (some (w.heap.size + 1)), Value.tuple #[Value.slice pv (ordL l).length cv, Value.bool true], Value.slice p l.length c, Value.tuple #[Value.slice pv (ordL l).length cv, Value.bool true], Value.slice pv (ordL l).length cv, Value.bool true, Value.slice pv (ordL l).length cv,
      Value.func (Fn.func 72) #[] #[Value.pointer (some ⟨w2.heap.size, 0, none⟩)], Value.int .i64 y.1.1, Value.string y.1.2, undef, undef, undef, undef, undef, undef, undef, undef, undef, undef, undef, undef, undef, undef, undef, undef, undef, undef, undef, undef], defers := [] })
    (fun x a' s X Y row hs hg hr => hs)
    ?assign ?body ?done ?stop
  case assign =>
    rintro l' pre ⟨⟨idx, y⟩, hy⟩ W K hI hK
    gi_wp2
    exact hK _ _ ⟨Nat.le_refl _, fun k o _ h _ => h⟩ ⟨Below.refl _ _, fun _ _ _ => rfl⟩ hI rfl
  case body =>
    rintro l' pre ⟨⟨idx, y⟩, hy⟩ a' W hl' - ⟨⟨⟨bL1, bM1⟩, sM1⟩, ⟨hBW, hsz⟩⟩ rfl hlt
    have hy : y ∈ ordL l := hy
    have HS0 := Lib.hid hs0
    clear hs0
    have hpl := hlt
    rw [plL_len] at hpl
    have hyz := HMI.out y hy
    have k0 := bM1.cell 0
    have l0 := bL1.cell 0
    simp only [List.getElem?_toArray, List.getElem?_cons_zero] at k0 l0
    have zM := bsz bM1.lt
    have zL := bsz bL1.lt
    obtain ⟨u, hul, hux⟩ := List.mem_map.1 (HOI.out y hy)
    have hfu : findU l y = some u := hux ▸ findU_of HD.out hul
    obtain ⟨j, hj, hplc, hlj⟩ := place_some hfu
    have hi12 : u.incs.length ≤ 12 := by have := HGD.out u hul; unfold Un.good at this; simp only [Bool.and_eq_true, decide_eq_true_iff] at this; exact this.1.1.1.1.2
    obtain ⟨S, hS⟩ : ∃ S, (pre.map (fun y => y.1.2)).foldl (stepB l) [x] = S := ⟨_, rfl⟩
    have HFO := Lib.hid (show ((pre ++ [(⟨(idx, y), hy⟩ : Pl (ordL l))]).map (fun y => y.1.2)).foldl (stepB l) [x] = stepB l S y by rw [List.map_append, List.foldl_append, hS]; rfl)
    rw [hS] at sM1
    have hlk := sM1.look y hyz
    obtain ⟨b, o, rfl, hB, p1, c1, p2, c2, -, hx1, -, -, hxu⟩ := (H.out.below hBW).at_ hj
    rw [hlj] at hx1 hxu
    obtain ⟨_, _, _, _, -, q1, -, -, -, -, hil, -, hia, -⟩ := hxu.form
    simp only [Value.slice.injEq, true_and] at q1
    obtain ⟨rfl, rfl⟩ := q1
    clear hxu
    have zb := bsz (World.block_lt_of_cell? _ _ hx1)
    have HIA := Lib.hid hia
    have HST := Lib.hid (fun h => stepB_take (S := S) hfu h)
    clear hS hux hfu hlj hia
    cases hI : inS S y
    · rw [hI] at hlk
      have HI := Lib.hid hI
      have hst : stepB l S y = S := by rw [stepB, hI]; rfl
      rw [hst] at HFO
      clear hI hst
      gi_wp2
      exact ⟨⟨Nat.le_refl _, fun k o _ h _ => h⟩, ⟨Below.refl _ _, fun _ _ _ => rfl⟩, ⟨⟨⟨bL1, bM1⟩, by rw [HFO.out]; exact sM1.mono (by rw [List.length_append]; simp; omega)⟩, hBW, hsz⟩⟩
    · rw [hI] at hlk
      have hst := HST.out hI
      rw [hst] at HFO
      clear hI hst
      have hj0 : (0 : Int) ≤ j := by omega
      have hjl2 : (j : Int) < l.length := by omega
      have h1' : 1 ≤ 6 - 1 - 1 := by omega
      have hmx : Tryz.prog.follows .mixedOrders = true := by kernel_rfl
      gi_wp2
      refine wpIn_mono (Q := fun e a' w4 => e = .normal ∧ a' = { tmps := #[Value.slice (some ⟨b, o, none⟩) l.length c, Value.string x, Value.pointer (some ⟨w.heap.size, 0, none⟩), undef, Value.map none, Value.pointer (some ⟨wm.heap.size, 0, none⟩), Value.slice pv (ordL l).length cv, Value.bool true, undef, Value.string y, undef, undef, Value.map (some (w.heap.size + 1)), Value.string x, Value.map (some (w.heap.size + 1)), Value.tuple #[Value.slice pv (ordL l).length cv, Value.bool true], Value.slice (some ⟨b, o, none⟩) l.length c, Value.tuple #[Value.slice pv (ordL l).length cv, Value.bool true], Value.slice pv (ordL l).length cv, Value.bool true, Value.slice pv (ordL l).length cv, Value.func (Fn.func 72) #[] #[Value.pointer (some ⟨w2.heap.size, 0, none⟩)], Value.int .i64 idx, Value.string y, Value.map (some (w.heap.size + 1)), Value.string y, Value.bool true, Value.bool false, Value.slice (some ⟨b, o, none⟩) l.length c, Value.slice (some ⟨b, o, none⟩) l.length c, Value.string y, Value.int .i64 (j : Int), Value.pointer (some ⟨b, o + j * 4, none⟩), Value.pointer (some ⟨b, o + j * 4 + 1, none⟩), Value.slice p1 u.incs.length c1, Value.int .i64 (u.incs.length : Int), Value.int .i64 0, undef, undef, undef, undef, undef, undef, undef], defers := [] } ∧ Below W.heap.size W w4) ?_ ?_
      · gi_region_with_o (refine ⟨trivial, ?_⟩; gi_at_call 36; refine (CallsIn.inRound l' (callsIn_wide.2 (unitAt_any l _ y _ (H.out.below (by (repeat (first | with_reducible exact Below.refl _ _ | with_reducible assumption | with_reducible refine Below.al ?_ _ | with_reducible refine Below.sc ?_ (by first | exact Nat.le_refl _ | (simp; done) | (simp; omega)) _ | assumption | exact Below.refl _ _ | refine Below.dr ?_ | refine Below.drN ?_ _ | refine Below.step ?_ (by assumption)))))))).mono ?_; rintro e w4 ⟨r, rfl, hr, hb4⟩; rw [hplc] at hr; obtain rfl : r = (j : Int) := hr; have hx14 := (hb4.cell zb.1).trans hx1; have zb4 := bsz (World.block_lt_of_cell? _ _ hx14); have l04 := (hb4.cell zL.1).trans l0; have zL4 := bsz (World.block_lt_of_cell? _ _ l04))
        all_goals exact ⟨rfl, rfl, by (repeat (first | with_reducible exact Below.refl _ _ | with_reducible assumption | with_reducible refine Below.al ?_ _ | with_reducible refine Below.sc ?_ (by first | exact Nat.le_refl _ | (simp; done) | (simp; omega)) _ | assumption | exact Below.refl _ _ | refine Below.dr ?_ | refine Below.drN ?_ _ | refine Below.step ?_ (by assumption)))⟩
      rintro e a' w4 ⟨rfl, rfl, hb4'⟩
      gi_wp2
      have hq4 := hb4'.size
      have hmb : wm.heap.size ≠ w.heap.size + 1 := by omega
      have sM4 := (sM1.kept (hb4'.block _ sM1.lt)).mono (show 1 + 12 * pre.length ≤ 1 + 12 * pre.length + 0 by omega)
      have k4 := (hb4'.cell zM.1).trans k0
      have HI4 := Lib.hid (HIA.out.below hb4')
      clear hlk
      gi_loopw [36] (fun i wr => ∃ k : Nat, k ≤ u.incs.length ∧ i = .int .i64 k ∧ SetIs wr (w.heap.size + 1) (1 + 12 * pre.length + k) (addAll S (u.incs.take k)) ∧ w4.grownBy wr (some (w.heap.size + 1))) (fun i _ => u.incs.length - (intOf i).toNat)
      case atStart => exact ⟨0, Nat.zero_le _, rfl, sM4, ⟨rfl, rfl, rfl, Nat.le_refl _, fun _ _ _ => rfl⟩⟩
      case round =>
        obtain ⟨k, hk, rfl, sM2, hg⟩ := hrel
        have m0 : wr.cell? ⟨wm.heap.size, 0, none⟩ = some (.map (some (w.heap.size + 1))) := (World.cell?_of_block (hg.block _ (World.block_lt_of_cell? _ _ k4) (by simpa using hmb))).trans k4
        have zm := bsz (World.block_lt_of_cell? _ _ m0)
        by_cases hkl : k < u.incs.length
        · obtain ⟨b', o', rfl, hB', hy0, hys⟩ := HI4.out.at_ hkl
          have hbn' : b' < n := hB'
          have HTJ := Lib.hid (addAll_take (out := S) hkl)
          obtain ⟨a, ha⟩ : ∃ a, u.incs[k] = a := ⟨_, rfl⟩
          rw [ha] at hy0 hys HTJ
          clear ha
          have y0 : wr.cell? ⟨b', o' + k, none⟩ = some (.string a) := (World.cell?_of_block (a := ⟨b', o' + k, none⟩) (hg.block _ (World.block_lt_of_cell? _ _ hy0) (by simp; omega))).trans hy0
          have zb' := bsz (World.block_lt_of_cell? _ _ y0)
          obtain ⟨wn, hrun, sM3, hg3⟩ := sM2.add (by omega) a hys
          have HG3 := Lib.hid (And.intro sM3 hg3)
          have hki : (k : Int) < u.incs.length := by omega
          have hk0 : (0 : Int) ≤ k := by omega
          clear sM3 hg3
          gi_wp2
          go_roundw
          case rel => exact ⟨k + 1, by omega, by go_num, by rw [HTJ.out]; exact HG3.out.1, hg.trans HG3.out.2⟩
          case measure => simp [intOf]; omega
        · obtain rfl : k = u.incs.length := by omega
          rw [List.take_length] at sM2
          gi_wp2
          refine ⟨⟨Nat.le_trans hq4 hg.size, fun k o hk hh _ => (hg.block k (Nat.lt_of_lt_of_le (blk_lt hh) hq4) (by have := HS0.out; simp; omega)).trans ((hb4'.block k (blk_lt hh)).trans hh)⟩,
            ⟨(hb4'.mono hBW.size).trans ⟨hg.os, hg.tape, hg.output, hg.size, fun k hk => hg.block k (by omega) (by simp; omega)⟩, fun b hb hlt => (hg.block b (by omega) (by have := hb.1; simp; omega)).trans (hb4'.block b hlt)⟩,
            ⟨⟨⟨(hg.block _ (by omega) (by simp)).trans ((hb4'.block _ bL1.lt).trans bL1), (hg.block _ (by omega) (by simpa using hmb)).trans ((hb4'.block _ bM1.lt).trans bM1)⟩, by rw [HFO.out]; exact sM2.mono (by rw [List.length_append]; simp; omega)⟩, (hBW.trans (hb4'.mono hBW.size)).trans ⟨hg.os, hg.tape, hg.output, hg.size, fun k hk => hg.block k (by omega) (by simp; omega)⟩, by have := hg.size; have := HS0.out; omega⟩⟩
  case done =>
    rintro D ys W hD rfl ⟨⟨⟨bL1, bM1⟩, sM1⟩, ⟨hBW, hsz⟩⟩ hK
    have k0 := bM1.cell 0
    simp only [List.getElem?_toArray, List.getElem?_cons_zero] at k0
    have zM := bsz bM1.lt
    gi_wp2
    refine ⟨by simp, .inl ⟨_, _, rfl, run_takeDeferred hK, ?_⟩⟩
    refine ⟨.map (some (w.heap.size + 1)), ?_, ⟨_, rfl, ?_, by omega, ?_⟩⟩
    · simp [results, Tryz.results35, go_sem]
    · have e : usesB l (ordL l) x = ((plL (ordL l)).reverse.map (fun y => y.1.2)).foldl (stepB l) [x] := by rw [List.map_reverse, plL_names]; rfl
      rw [e]
      exact (sM1.mono (show 1 + 12 * (plL (ordL l)).reverse.length ≤ 1000 by rw [List.length_reverse, plL_len]; omega)).kept (World.putObj_heap_other (fun e => by omega))
    · exact hBW.trans (belowK_b (w := w) (Nat.le_refl _) _ D _ _ (by omega) hK rfl rfl)
  case stop =>
    rintro D c pre W _ _ h _
    exact h.elim
end Go.Proofs.YtimpkjiglioflaaGreat
namespace Go.Proofs.YtimpkjiglioflaaGreat
open Go.RowKit Go.Maps
theorem unitAt_at {B : Nat → Prop} (l : List Un) (va : Value) (x : ByteArray) (j : Nat) (w : World) (h : UnsAt B w va l) (hp : placeU l x = some j) :
    Calls Tryz.prog 36 #[va, .string x] w fun e w' => e = .returned (.int .i64 (j : Int)) ∧ Below w.heap.size w w' :=
  (unitAt_any l va x w h).mono (by rintro e w' ⟨r, rfl, hr, hb⟩; rw [hp] at hr; obtain rfl : r = (j : Int) := hr; exact ⟨rfl, hb⟩)
set_option maxRecDepth 100000 in
set_option maxHeartbeats 6400000 in
theorem implVA_any (l : List Un) (n : Nat) (va : Value) (x : ByteArray) (w : World) (h : UnsAt (fun b => b < n) w va l) (hn : n ≤ w.heap.size) (hw : l.length + wtU l ≤ 1048576) (hx : x.size ≤ maxLen) :
    Calls Tryz.prog 19 #[va, .string x] w fun e w' => ∃ v, e = .returned (.tuple #[v, .bool (unitOf l x)]) ∧ StrOwn 9 (NewB w w') w' (visV l x) v ∧ Below w.heap.size w w' := by
  obtain ⟨p, c, rfl, hlen⟩ := h.form
  unfold maxLen at hlen
  have H := Lib.hid h
  clear h
  cases hO : unitOf l x
  · have HO := Lib.hid hO
    go_enter Tryz.func19, Tryz.ntmps19
    go_wp2_with fail
    refine (isUnitOf_any l _ x _ (H.out.below (by (repeat (first | with_reducible exact Below.refl _ _ | with_reducible assumption | with_reducible refine Below.al ?_ _ | with_reducible refine Below.sc ?_ (by first | exact Nat.le_refl _ | (simp; done) | (simp; omega)) _ | assumption | exact Below.refl _ _ | refine Below.dr ?_ | refine Below.drN ?_ _ | refine Below.step ?_ (by assumption))))) hw).mono ?_
    rintro e w1 ⟨rfl, hb1⟩
    have ⟨cw1, fw1⟩ := bcell hb1
    have qw1 := hb1.size
    (try simp at qw1)
    (try have zw1w := bsz (show w.heap.size < w1.heap.size by omega))
    rw [HO.out]
    go_wp2
    go_ret2
    exact ⟨_, rfl, by rw [visV, HO.out, if_neg (by simp)]; exact OwnRow.nil _ _ _ _ _, by (repeat (first | with_reducible exact Below.refl _ _ | with_reducible assumption | with_reducible refine Below.al ?_ _ | with_reducible refine Below.sc ?_ (by first | exact Nat.le_refl _ | (simp; done) | (simp; omega)) _ | assumption | exact Below.refl _ _ | refine Below.dr ?_ | refine Below.drN ?_ _ | refine Below.step ?_ (by assumption)))⟩
  · obtain ⟨h1, h2, h3, h4⟩ := unitOf_parts hO
    have hg : libGood l = true := by rw [unitOf, Bool.and_eq_true] at hO; exact hO.1
    have HO := Lib.hid hO
    have HD := Lib.hid h1
    have HL := Lib.hid h2
    have HVL := Lib.hid (show visV l x = visF l (ordL l) (usesB l (ordL l) x) by rw [visV, HO.out, if_pos rfl]; exact (visL_B h1 h2 h3).symm)
    have HVG := Lib.hid (visF_good l (usesB l (ordL l) x))
    have hal := allAx_len l
    have HAZ := Lib.hid (fun (s : ByteArray) (hs : s ∈ allAx l) => Nat.le_trans (allAx_size hs) (show wtU l ≤ maxLen by unfold maxLen; omega))
    have HOI := Lib.hid (fun z (hz : z ∈ ordL l) => (ordL_inv l).sub z hz)
    have HOZ := Lib.hid (fun y (hy : y ∈ ordL l) => H.out.name_size hy)
    have hol := (ordL_inv l).len
    clear hO h1 h2 h3 h4
    go_enter Tryz.func19, Tryz.ntmps19
    go_wp2_with fail
    refine (isUnitOf_any l _ x _ (H.out.below (by (repeat (first | with_reducible exact Below.refl _ _ | with_reducible assumption | with_reducible refine Below.al ?_ _ | with_reducible refine Below.sc ?_ (by first | exact Nat.le_refl _ | (simp; done) | (simp; omega)) _ | assumption | exact Below.refl _ _ | refine Below.dr ?_ | refine Below.drN ?_ _ | refine Below.step ?_ (by assumption))))) hw).mono ?_
    rintro e w1 ⟨rfl, hb1⟩
    have ⟨cw1, fw1⟩ := bcell hb1
    have qw1 := hb1.size
    (try simp at qw1)
    (try have zw1w := bsz (show w.heap.size < w1.heap.size by omega))
    rw [HO.out]
    go_wp2_with fail
    refine (uses_any l n _ x _ (H.out.below (by (repeat (first | with_reducible exact Below.refl _ _ | with_reducible assumption | with_reducible refine Below.al ?_ _ | with_reducible refine Below.sc ?_ (by first | exact Nat.le_refl _ | (simp; done) | (simp; omega)) _ | assumption | exact Below.refl _ _ | refine Below.dr ?_ | refine Below.drN ?_ _ | refine Below.step ?_ (by assumption))))) (by omega) hg hw hx).mono ?_
    rintro e w2 ⟨bm, rfl, hs2, hbm, hb2⟩
    have q2 := hb2.size
    have hbm2 := hs2.lt
    have HS2 := Lib.hid hs2
    clear hs2 hg
    go_wp2_with fail
    refine (order_any l _ _ (H.out.below (by (repeat (first | with_reducible exact Below.refl _ _ | with_reducible assumption | with_reducible refine Below.al ?_ _ | with_reducible refine Below.sc ?_ (by first | exact Nat.le_refl _ | (simp; done) | (simp; omega)) _ | assumption | exact Below.refl _ _ | refine Below.dr ?_ | refine Below.drN ?_ _ | refine Below.step ?_ (by assumption))))) (by omega)).mono ?_
    rintro e w3 ⟨hb3, hp⟩
    rw [if_pos HL.out] at hp
    obtain ⟨vo, rfl, hv3⟩ := hp
    have q3 := hb3.size
    have HV3 := Lib.hid hv3.at_
    obtain ⟨po, ko, rfl, hol2⟩ := HV3.out.form
    clear hv3
    have hb03 : Below w.heap.size w w3 := by (repeat (first | with_reducible exact Below.refl _ _ | with_reducible assumption | with_reducible refine Below.al ?_ _ | with_reducible refine Below.sc ?_ (by first | exact Nat.le_refl _ | (simp; done) | (simp; omega)) _ | assumption | exact Below.refl _ _ | refine Below.dr ?_ | refine Below.drN ?_ _ | refine Below.step ?_ (by assumption)))
    have HR0 := Lib.hid (row_empty w3 w3.heap.size 9 1 (Nat.le_refl _))
    have HG0 := Lib.hid (Gr.start HR0.out)
    have hv0 : (Value.slice (some ⟨w3.heap.size, 0, none⟩) 0 0).ownBlock = some w3.heap.size := rfl
    obtain ⟨W, hW⟩ : ∃ W : World, W = w3.alloc (.cells #[] 9) := ⟨_, rfl⟩
    rw [← hW] at HG0
    have hb3W : Below w3.heap.size w3 W := by rw [hW]; exact (Below.refl _ _).alloc (Nat.le_refl _) _
    have hb0W : Below w.heap.size w W := Below.step hb03 hb3W
    have hWs : W.heap.size = w3.heap.size + 1 := by rw [hW]; simp
    have HSW := Lib.hid ((HS2.out.kept (hb3.block _ hbm2)).kept (hb3W.block _ (by omega)))
    have HVW := Lib.hid (HV3.out.below hb3W)
    clear HR0
    go_wp2
    rw [← hW]
    clear hW
    go_loopw [9, 29] (fun o i wr => ∃ k : Nat, k ≤ (ordL l).length ∧ i = .int .i64 k ∧ Gr 9 1 W (.slice (some ⟨w3.heap.size, 0, none⟩) 0 0) w3.heap.size (visF l ((ordL l).take k) (usesB l (ordL l) x)).length (strW (visF l ((ordL l).take k) (usesB l (ordL l) x))) o wr) (fun _ i _ => (ordL l).length - (intOf i).toNat)
    case atStart => exact ⟨0, Nat.zero_le _, rfl, HG0.out⟩
    case round =>
      obtain ⟨k, hk, rfl, hgr⟩ := hrel
      have HGR := Lib.hid hgr
      have hbw : Below w.heap.size w wr := hgr.bel hb0W (fun g hg => by rw [hv0] at hg; injection hg with hg; omega)
      have HSM := Lib.hid (fun (B : Nat → Prop) (hB : ∀ b, B b → b ≠ w3.heap.size) => hgr.same (B := B) (fun b hb e => by rw [hv0] at e; injection e with e; exact hB b hb e.symm))
      have hgd := HVG.out ((ordL l).take k)
      have hgl := hgd.len
      have hSR := HSW.out.kept (hgr.block HSW.out.lt (fun e => by rw [hv0] at e; injection e with e; omega))
      clear hgr
      by_cases hlt : k < (ordL l).length
      · have hor := HVW.out.mono (HSM.out _ (fun b hb => by have := hb.2; omega)) (fun _ h => h)
        obtain ⟨b', o', rfl, hB', hy0, hys⟩ := hor.at_ hlt
        have HTK := Lib.hid (visF_take (l := l) (U := usesB l (ordL l) x) hlt)
        have hin := List.getElem_mem hlt
        obtain ⟨a, ha⟩ : ∃ a, (ordL l)[k] = a := ⟨_, rfl⟩
        rw [ha] at hy0 HTK hin hys
        obtain ⟨u, hul2, hua⟩ := List.mem_map.1 (HOI.out a hin)
        have HUA := Lib.hid hua
        clear ha hor hua
        have zb' := bsz (World.block_lt_of_cell? _ _ hy0)
        have hki : (k : Int) < (ordL l).length := by omega
        have hlk := hSR.look a hys
        have HGS := Lib.hid hgd
        clear hgd hSR
        generalize visF l ((ordL l).take k) (usesB l (ordL l) x) = out at *
        cases hI : inS (usesB l (ordL l) x) a
        all_goals rw [hI] at HTK hlk
        · go_wp2
          refine ⟨⟨k + 1, by omega, by go_num, ?_⟩, by simp [intOf]; omega⟩
          rw [HTK.out, if_neg (by simp)]
          exact HGR.out
        · obtain ⟨vr, hvr⟩ : ∃ vr, vr = u9 := ⟨_, rfl⟩
          subst hvr
          have hfu : findU l a = some u := HUA.out ▸ findU_of HD.out hul2
          obtain ⟨j, hj, hpl, hlj⟩ := place_some hfu
          have HAX := Lib.hid (show axsOf l a = u.axs by rw [axsOf, hfu])
          obtain ⟨b, o, rfl, hB, p1, c1, p2, c2, -, -, hx2, -, hxu⟩ := (H.out.below hbw).at_ hj
          rw [hlj] at hx2 hxu
          obtain ⟨_, _, _, _, -, -, q2', -, -, -, -, hal2, -, haa⟩ := hxu.form
          simp only [Value.slice.injEq, true_and] at q2'
          obtain ⟨rfl, rfl⟩ := q2'
          unfold maxLen at hal2
          have HA := Lib.hid haa
          have zb := bsz (World.block_lt_of_cell? _ _ hx2)
          have hj0 : (0 : Int) ≤ j := by omega
          have hjl2 : (j : Int) < l.length := by omega
          have HUAT := Lib.hid (fun (w' : World) (hat : UnsAt (fun b => b < n) w' (.slice (some ⟨b, o, none⟩) l.length c) l) => unitAt_at l _ a j w' hat hpl)
          clear haa hlj hpl hxu hfu
          go_wp2_with fail
          refine (HUAT.out _ (H.out.below hbw)).mono ?_
          rintro e wz ⟨rfl, hbz⟩
          have hx2z := (hbz.cell zb.1).trans hx2
          have zbz := bsz (World.block_lt_of_cell? _ _ hx2z)
          have hrow := own_below HGR.out.row hbz
          have hvol : ∀ g, vr.ownBlock = some g → g < wr.heap.size := fun g hg => own_lt' HGR.out.row hg
          have hvob : ∀ g, vr.ownBlock = some g → w3.heap.size ≤ g := fun g hg => own_base HGR.out.row g hg
          have HG0' := Lib.hid (Gr.start hrow)
          have HAW := Lib.hid (HA.out.below hbz)
          have hqz := hbz.size
          clear hrow
          have HGA := Lib.hid (fun m => HGS.out.addAll (xs := u.axs.take m) (fun z hz => by rw [← HAX.out] at hz; exact axsOf_in z (List.mem_of_mem_take hz)))
          obtain ⟨wA, hwA⟩ : ∃ x, x = wr := ⟨_, rfl⟩
          subst hwA
          have hmin := hbw.size
          go_wp2
          go_loopw [9, 45] (fun o i wr' => ∃ m : Nat, m ≤ u.axs.length ∧ i = .int .i64 m ∧ Gr 9 1 wz vr w3.heap.size (addAll out (u.axs.take m)).length (strW (addAll out (u.axs.take m))) o wr') (fun _ i _ => u.axs.length - (intOf i).toNat)
          case atStart => exact ⟨0, Nat.zero_le _, rfl, HG0'.out⟩
          case round =>
            obtain ⟨m, hm, rfl, hg4⟩ := hrel
            have HG4 := Lib.hid hg4
            have hga := HGA.out m
            have hgal := hga.len
            have hbg := hg4.grown.size
            by_cases hml : m < u.axs.length
            · obtain ⟨b2, o2, rfl, hB2, hz0, -⟩ := (hg4.strs HAW.out (fun b hb e => by have := hvob b e; omega)).at_ hml
              have HTJ := Lib.hid (addAll_take (out := out) hml)
              obtain ⟨a2, ha2⟩ : ∃ a2, u.axs[m] = a2 := ⟨_, rfl⟩
              rw [ha2] at hz0 HTJ
              clear ha2
              have zb2 := bsz (World.block_lt_of_cell? _ _ hz0)
              have HRO := Lib.hid (rowS_own (S := fun _ => True) hg4.row (fun s hs => HAZ.out s (hga.2 s hs)) (by unfold maxLen; omega) (fun _ _ => trivial))
              obtain ⟨p5, k5, rfl, -⟩ := OwnRow.form HRO.out
              clear hg4 hga
              generalize addAll out (u.axs.take m) = cur at *
              have hm2 : (m : Int) < u.axs.length := by omega
              go_wp2_with fail
              refine (containsS_any cur _ a2 _ HRO.out.at_).mono ?_
              rintro e w7 ⟨rfl, hb7⟩
              have ⟨cb7, fb7⟩ := bcell hb7
              have q7 := hb7.size
              have HAD := Lib.hid (show addS cur a2 = if inS cur a2 then cur else cur ++ [a2] from rfl)
              cases hI2 : inS cur a2
              all_goals rw [hI2] at HAD
              · go_wp2_with (at_builtin; refine wpList_app1 rfl (.tmp 53) (.tmp 55) _ rfl w3.heap.size 9 1 16 elemStr _ _ _ rfl w7 #[.string a2] rfl _ (by simp) rfl (own_below HG4.out.row hb7) rfl (by simp [Value.oneCell']) (by omega) (by unfold maxLen; omega) (by have := HGR.out.grown.size; omega) ?_; intro v8 w8 hown8 hg8 hnr8 hlt8)
                obtain ⟨q8, k8, rfl⟩ := own_form hown8 (Nat.succ_pos _)
                refine ⟨⟨m + 1, by omega, by go_num, ?_⟩, by simp [intOf]; omega⟩
                rw [HTJ.out, HAD.out, if_neg (by simp), List.length_append, strW_snoc]
                exact (HG4.out.below hb7).app hown8 hg8 hnr8
              · go_wp2
                refine ⟨⟨m + 1, by omega, by go_num, ?_⟩, by simp [intOf]; omega⟩
                rw [HTJ.out, HAD.out, if_pos (by trivial)]
                exact HG4.out.below hb7
            · obtain rfl : m = u.axs.length := by omega
              rw [List.take_length] at HG4
              go_wp2
              refine ⟨⟨k + 1, by omega, by go_num, ?_⟩, by simp [intOf]; omega⟩
              rw [HTK.out, if_pos (by trivial), HAX.out]
              exact (HGR.out.below hbz).app HG4.out.row HG4.out.grown HG4.out.fresh
      · obtain rfl : k = (ordL l).length := by omega
        rw [List.take_length, ← HVL.out] at HGR
        rw [List.take_length, ← HVL.out] at hgd hgl
        have HRO := Lib.hid (rowS_own (S := NewB w wr) HGR.out.row (fun s hs => HAZ.out s (hgd.2 s hs)) (by unfold maxLen; omega) (fun g hg => ⟨by have := own_base HGR.out.row g hg; omega, own_lt' HGR.out.row hg⟩))
        obtain ⟨pv, cv, rfl, -⟩ := OwnRow.form HRO.out
        go_wp2
        go_ret2
        exact ⟨.slice pv (visV l x).length cv, rfl, HRO.out, hbw⟩
end Go.Proofs.YtimpkjiglioflaaGreat
namespace Go.Proofs.YtimpkjiglioflaaGreat
open Go.RowKit
set_option maxRecDepth 100000 in
set_option maxHeartbeats 3200000 in
theorem exactVA (l : List Un) (v : Value) (x : ByteArray) (w : World) (h : UnsAt (fun b => b < w.heap.size) w v l) (hx : x.size ≤ maxLen) :
    Calls Tryz.prog 5 #[v, .string x] w fun e w' => e = .returned (.bool true) ∧ Below w.heap.size w w' := by
  obtain ⟨p, c, rfl, hlen⟩ := h.form
  unfold maxLen at hx
  have H := Lib.hid h
  clear h
  by_cases hxs : (1048576 : Int) < x.size
  · go_enter Tryz.func5, Tryz.ntmps5
    go_wp2
    go_ret
    exact ⟨rfl, by (repeat (first | with_reducible exact Below.refl _ _ | with_reducible assumption | with_reducible refine Below.al ?_ _ | with_reducible refine Below.sc ?_ (by first | exact Nat.le_refl _ | (simp; done) | (simp; omega)) _ | assumption | exact Below.refl _ _ | refine Below.dr ?_ | refine Below.drN ?_ _ | refine Below.step ?_ (by assumption)))⟩
  by_cases hw : l.length + wtU l ≤ 1048576
  · have HR := Lib.hid (show szR 1048576 (l.length + wtU l) = 1048576 - ((l.length : Int) + (wtU l : Nat)) by rw [szR, if_pos (by omega)]; omega)
    have hw0 : ¬ (1048576 - ((l.length : Int) + (wtU l : Nat)) < 0) := by omega
    have hpp : (unitOf l x != unitOf l x) = false := by simp
    have hct := ctU_wt l
    have hll := visV_len l x
    go_enter Tryz.func5, Tryz.ntmps5
    go_wp2_with fail
    refine (szUnitS_any l _ _ _ (H.out.below (by (repeat (first | with_reducible exact Below.refl _ _ | with_reducible assumption | with_reducible refine Below.al ?_ _ | with_reducible refine Below.sc ?_ (by first | exact Nat.le_refl _ | (simp; done) | (simp; omega)) _ | assumption | exact Below.refl _ _ | refine Below.dr ?_ | refine Below.drN ?_ _ | refine Below.step ?_ (by assumption))))) (by omega) (by omega)).mono ?_
    rintro e w1 ⟨rfl, hb1⟩
    have ⟨cw1, fw1⟩ := bcell hb1
    have qw1 := hb1.size
    (try simp at qw1)
    (try have zw1w := bsz (show w.heap.size < w1.heap.size by omega))
    rw [HR.out]
    go_wp2_with fail
    refine (toUnitS_own l _ _ (H.out.below (by (repeat (first | with_reducible exact Below.refl _ _ | with_reducible assumption | with_reducible refine Below.al ?_ _ | with_reducible refine Below.sc ?_ (by first | exact Nat.le_refl _ | (simp; done) | (simp; omega)) _ | assumption | exact Below.refl _ _ | refine Below.dr ?_ | refine Below.drN ?_ _ | refine Below.step ?_ (by assumption))))) hw).mono ?_
    rintro e w2 ⟨g1, rfl, hu1, hb2⟩
    have ⟨cw2, fw2⟩ := bcell hb2
    have qw2 := hb2.size
    (try simp at qw2)
    (try have zw2w := bsz (show w.heap.size < w2.heap.size by omega))
    (try have zw2w1 := bsz (show w1.heap.size < w2.heap.size by omega))
    have HU1 := Lib.hid (hu1.at_.mono (B' := fun b => b < w2.heap.size) (SameOn.refl _ _) (fun b hb => hb.2))
    clear hu1
    go_wp2_with fail
    refine (specVA_any l w2.heap.size _ x _ (HU1.out.below (by (repeat (first | with_reducible exact Below.refl _ _ | with_reducible assumption | with_reducible refine Below.al ?_ _ | with_reducible refine Below.sc ?_ (by first | exact Nat.le_refl _ | (simp; done) | (simp; omega)) _ | assumption | exact Below.refl _ _ | refine Below.dr ?_ | refine Below.drN ?_ _ | refine Below.step ?_ (by assumption))))) (Nat.le_refl _) hw).mono ?_
    rintro e w3 ⟨va, rfl, hva, hb3⟩
    have ⟨cw3, fw3⟩ := bcell hb3
    have qw3 := hb3.size
    (try simp at qw3)
    (try have zw3w := bsz (show w.heap.size < w3.heap.size by omega))
    (try have zw3w1 := bsz (show w1.heap.size < w3.heap.size by omega))
    (try have zw3w2 := bsz (show w2.heap.size < w3.heap.size by omega))
    have HA3 := Lib.hid hva
    obtain ⟨pa, ka, rfl, -⟩ := hva.form
    clear hva
    go_wp2_with fail
    refine (toUnitS_own l _ _ (H.out.below (by (repeat (first | with_reducible exact Below.refl _ _ | with_reducible assumption | with_reducible refine Below.al ?_ _ | with_reducible refine Below.sc ?_ (by first | exact Nat.le_refl _ | (simp; done) | (simp; omega)) _ | assumption | exact Below.refl _ _ | refine Below.dr ?_ | refine Below.drN ?_ _ | refine Below.step ?_ (by assumption))))) hw).mono ?_
    rintro e w4 ⟨g2, rfl, hu2, hb4⟩
    have ⟨cw4, fw4⟩ := bcell hb4
    have qw4 := hb4.size
    (try simp at qw4)
    (try have zw4w := bsz (show w.heap.size < w4.heap.size by omega))
    (try have zw4w1 := bsz (show w1.heap.size < w4.heap.size by omega))
    (try have zw4w2 := bsz (show w2.heap.size < w4.heap.size by omega))
    (try have zw4w3 := bsz (show w3.heap.size < w4.heap.size by omega))
    have HU2 := Lib.hid hu2
    clear hu2
    go_wp2_with fail
    refine (implVA_any l w4.heap.size _ x _ ((HU2.out.at_.mono (B' := fun b => b < w4.heap.size) (SameOn.refl _ _) (fun b hb => hb.2)).below (by (repeat (first | with_reducible exact Below.refl _ _ | with_reducible assumption | with_reducible refine Below.al ?_ _ | with_reducible refine Below.sc ?_ (by first | exact Nat.le_refl _ | (simp; done) | (simp; omega)) _ | assumption | exact Below.refl _ _ | refine Below.dr ?_ | refine Below.drN ?_ _ | refine Below.step ?_ (by assumption))))) (Nat.le_refl _) hw hx).mono ?_
    rintro e w5 ⟨vg, rfl, hg5, hb5⟩
    have ⟨cw5, fw5⟩ := bcell hb5
    have qw5 := hb5.size
    (try simp at qw5)
    (try have zw5w := bsz (show w.heap.size < w5.heap.size by omega))
    (try have zw5w1 := bsz (show w1.heap.size < w5.heap.size by omega))
    (try have zw5w2 := bsz (show w2.heap.size < w5.heap.size by omega))
    (try have zw5w3 := bsz (show w3.heap.size < w5.heap.size by omega))
    (try have zw5w4 := bsz (show w4.heap.size < w5.heap.size by omega))
    have HG5 := Lib.hid hg5
    obtain ⟨pg, kg, rfl, -⟩ := OwnRow.form hg5
    clear hg5
    go_wp2_with fail
    refine (eqStringS_same (visV l x) _ _ _ (HG5.out.at_.below (by (repeat (first | with_reducible exact Below.refl _ _ | with_reducible assumption | with_reducible refine Below.al ?_ _ | with_reducible refine Below.sc ?_ (by first | exact Nat.le_refl _ | (simp; done) | (simp; omega)) _ | assumption | exact Below.refl _ _ | refine Below.dr ?_ | refine Below.drN ?_ _ | refine Below.step ?_ (by assumption))))) (HA3.out.below (by (repeat (first | with_reducible exact Below.refl _ _ | with_reducible assumption | with_reducible refine Below.al ?_ _ | with_reducible refine Below.sc ?_ (by first | exact Nat.le_refl _ | (simp; done) | (simp; omega)) _ | assumption | exact Below.refl _ _ | refine Below.dr ?_ | refine Below.drN ?_ _ | refine Below.step ?_ (by assumption)))))).mono ?_
    rintro e w6 ⟨rfl, hb6⟩
    have ⟨cw6, fw6⟩ := bcell hb6
    have qw6 := hb6.size
    (try simp at qw6)
    (try have zw6w := bsz (show w.heap.size < w6.heap.size by omega))
    (try have zw6w1 := bsz (show w1.heap.size < w6.heap.size by omega))
    (try have zw6w2 := bsz (show w2.heap.size < w6.heap.size by omega))
    (try have zw6w3 := bsz (show w3.heap.size < w6.heap.size by omega))
    (try have zw6w4 := bsz (show w4.heap.size < w6.heap.size by omega))
    (try have zw6w5 := bsz (show w5.heap.size < w6.heap.size by omega))
    go_wp2_with fail
    refine (toUnitS_own l _ _ (H.out.below (by (repeat (first | with_reducible exact Below.refl _ _ | with_reducible assumption | with_reducible refine Below.al ?_ _ | with_reducible refine Below.sc ?_ (by first | exact Nat.le_refl _ | (simp; done) | (simp; omega)) _ | assumption | exact Below.refl _ _ | refine Below.dr ?_ | refine Below.drN ?_ _ | refine Below.step ?_ (by assumption))))) hw).mono ?_
    rintro e w7 ⟨g3, rfl, hu3, hb7⟩
    have ⟨cw7, fw7⟩ := bcell hb7
    have qw7 := hb7.size
    (try simp at qw7)
    (try have zw7w := bsz (show w.heap.size < w7.heap.size by omega))
    (try have zw7w1 := bsz (show w1.heap.size < w7.heap.size by omega))
    (try have zw7w2 := bsz (show w2.heap.size < w7.heap.size by omega))
    (try have zw7w3 := bsz (show w3.heap.size < w7.heap.size by omega))
    (try have zw7w4 := bsz (show w4.heap.size < w7.heap.size by omega))
    (try have zw7w5 := bsz (show w5.heap.size < w7.heap.size by omega))
    (try have zw7w6 := bsz (show w6.heap.size < w7.heap.size by omega))
    have HU3 := Lib.hid hu3.at_
    clear hu3
    go_wp2_with fail
    refine (eqUnitS_same l _ _ _ (HU2.out.at_.below (by (repeat (first | with_reducible exact Below.refl _ _ | with_reducible assumption | with_reducible refine Below.al ?_ _ | with_reducible refine Below.sc ?_ (by first | exact Nat.le_refl _ | (simp; done) | (simp; omega)) _ | assumption | exact Below.refl _ _ | refine Below.dr ?_ | refine Below.drN ?_ _ | refine Below.step ?_ (by assumption))))) (HU3.out.below (by (repeat (first | with_reducible exact Below.refl _ _ | with_reducible assumption | with_reducible refine Below.al ?_ _ | with_reducible refine Below.sc ?_ (by first | exact Nat.le_refl _ | (simp; done) | (simp; omega)) _ | assumption | exact Below.refl _ _ | refine Below.dr ?_ | refine Below.drN ?_ _ | refine Below.step ?_ (by assumption)))))).mono ?_
    rintro e w8 ⟨rfl, hb8⟩
    have ⟨cw8, fw8⟩ := bcell hb8
    have qw8 := hb8.size
    (try simp at qw8)
    (try have zw8w := bsz (show w.heap.size < w8.heap.size by omega))
    (try have zw8w1 := bsz (show w1.heap.size < w8.heap.size by omega))
    (try have zw8w2 := bsz (show w2.heap.size < w8.heap.size by omega))
    (try have zw8w3 := bsz (show w3.heap.size < w8.heap.size by omega))
    (try have zw8w4 := bsz (show w4.heap.size < w8.heap.size by omega))
    (try have zw8w5 := bsz (show w5.heap.size < w8.heap.size by omega))
    (try have zw8w6 := bsz (show w6.heap.size < w8.heap.size by omega))
    (try have zw8w7 := bsz (show w7.heap.size < w8.heap.size by omega))
    go_wp2_with fail
    refine (markUnitS_any _ l _ 1 _ (HU2.out.later (by (repeat (first | with_reducible exact Below.refl _ _ | with_reducible assumption | with_reducible refine Below.al ?_ _ | with_reducible refine Below.sc ?_ (by first | exact Nat.le_refl _ | (simp; done) | (simp; omega)) _ | assumption | exact Below.refl _ _ | refine Below.dr ?_ | refine Below.drN ?_ _ | refine Below.step ?_ (by assumption))))) (by decide) (by omega)).mono ?_
    rintro e w9 ⟨rfl, -, hk9⟩
    have hb09 : Below w.heap.size w w9 := Kept.belowB (show Below w.heap.size w w8 by (repeat (first | with_reducible exact Below.refl _ _ | with_reducible assumption | with_reducible refine Below.al ?_ _ | with_reducible refine Below.sc ?_ (by first | exact Nat.le_refl _ | (simp; done) | (simp; omega)) _ | assumption | exact Below.refl _ _ | refine Below.dr ?_ | refine Below.drN ?_ _ | refine Below.step ?_ (by assumption)))) hk9 (fun b hb => by have := hb.1; omega)
    have HG9 := Lib.hid ((HG5.out.later (show Below w5.heap.size w5 w8 by (repeat (first | with_reducible exact Below.refl _ _ | with_reducible assumption | with_reducible refine Below.al ?_ _ | with_reducible refine Below.sc ?_ (by first | exact Nat.le_refl _ | (simp; done) | (simp; omega)) _ | assumption | exact Below.refl _ _ | refine Below.dr ?_ | refine Below.drN ?_ _ | refine Below.step ?_ (by assumption))))).kept hk9 (fun b hb hb' => newB_apart hb' hb (Nat.le_refl _)))
    have HA9 := Lib.hid ((HA3.out.below (show Below w3.heap.size w3 w8 by (repeat (first | with_reducible exact Below.refl _ _ | with_reducible assumption | with_reducible refine Below.al ?_ _ | with_reducible refine Below.sc ?_ (by first | exact Nat.le_refl _ | (simp; done) | (simp; omega)) _ | assumption | exact Below.refl _ _ | refine Below.dr ?_ | refine Below.drN ?_ _ | refine Below.step ?_ (by assumption))))).kept hk9 (fun b hb hb' => newB_apart hb hb' (Nat.le_refl _)))
    have hq9 := hk9.size
    have hkk : ¬ ((1 : Int) + (ctU l : Nat) < 0) := by omega
    have z359 : w3.heap.size ≤ w4.heap.size ∧ w5.heap.size ≤ w9.heap.size := by omega
    clear hk9
    go_wp2_with fail
    refine (eqStringS_same (visV l x) _ _ _ HG9.out.at_ HA9.out).mono ?_
    rintro e w10 ⟨rfl, hb10⟩
    have hq10 := hb10.size
    go_wp2_with fail
    refine (markStringS_any _ (visV l x) _ 1 _ (HG9.out.later hb10) (by decide) (by omega)).mono ?_
    rintro e w11 ⟨rfl, hm11, hk11⟩
    have HM11 := Lib.hid hm11
    have hb011 : Below w.heap.size w w11 := Kept.belowB (Below.step hb09 hb10) hk11 (fun b hb => by have := hb.1; omega)
    have HA11 := Lib.hid ((HA9.out.below hb10).kept hk11 (fun b hb hb' => newB_apart hb hb' z359.1))
    have hq11 := hk11.size
    clear hm11 hk11
    have hkm : ¬ ((1 : Int) + ((visV l x).length : Nat) < 0) := by omega
    go_wp2_with fail
    refine (heldStringS_any (visV l x).length _ 1 _ HM11.out.at_ (by decide) (by omega)).mono ?_
    rintro e w12 ⟨rfl, hb12⟩
    have hq12 := hb12.size
    have hb012 := Below.step hb011 hb12
    go_wp2_with fail
    refine (toUnitS_own l _ _ (H.out.below hb012) hw).mono ?_
    rintro e w13 ⟨g4, rfl, hu4, hb13⟩
    have HU4 := Lib.hid (hu4.at_.mono (B' := fun b => b < w13.heap.size) (SameOn.refl _ _) (fun b hb => hb.2))
    have hq13 := hb13.size
    have hb013 := Below.step hb012 hb13
    clear hu4
    go_wp2_with fail
    refine (implVA_any l w13.heap.size _ x _ HU4.out (Nat.le_refl _) hw hx).mono ?_
    rintro e w14 ⟨vh, rfl, hh14, hb14⟩
    have HH14 := Lib.hid hh14.at_
    obtain ⟨ph, kh, rfl, -⟩ := OwnRow.form hh14
    have hq14 := hb14.size
    have hb014 := Below.step hb013 hb14
    clear hh14
    go_wp2_with fail
    refine (eqStringS_same (visV l x) _ _ _ HH14.out (HA11.out.below (Below.step (Below.step hb12 hb13) hb14))).mono ?_
    rintro e w15 ⟨rfl, hb15⟩
    have hb015 := Below.step hb014 hb15
    go_wp2_with fail
    refine (heldStringS_any (visV l x).length _ 1 _ (HM11.out.at_.below (Below.step (Below.step (Below.step hb12 hb13) hb14) hb15)) (by decide) (by omega)).mono ?_
    rintro e w16 ⟨rfl, hb16⟩
    go_wp2
    go_ret
    exact ⟨rfl, Below.step hb015 hb16⟩
  · have HR := Lib.hid (show szR 1048576 (l.length + wtU l) = -1 from if_neg (by omega))
    go_enter Tryz.func5, Tryz.ntmps5
    go_wp2_with fail
    refine (szUnitS_any l _ _ _ (H.out.below (by (repeat (first | with_reducible exact Below.refl _ _ | with_reducible assumption | with_reducible refine Below.al ?_ _ | with_reducible refine Below.sc ?_ (by first | exact Nat.le_refl _ | (simp; done) | (simp; omega)) _ | assumption | exact Below.refl _ _ | refine Below.dr ?_ | refine Below.drN ?_ _ | refine Below.step ?_ (by assumption))))) (by omega) (by omega)).mono ?_
    rintro e w1 ⟨rfl, hb1⟩
    have ⟨cw1, fw1⟩ := bcell hb1
    have qw1 := hb1.size
    (try simp at qw1)
    (try have zw1w := bsz (show w.heap.size < w1.heap.size by omega))
    rw [HR.out]
    go_wp2
    go_ret
    exact ⟨rfl, by (repeat (first | with_reducible exact Below.refl _ _ | with_reducible assumption | with_reducible refine Below.al ?_ _ | with_reducible refine Below.sc ?_ (by first | exact Nat.le_refl _ | (simp; done) | (simp; omega)) _ | assumption | exact Below.refl _ _ | refine Below.dr ?_ | refine Below.drN ?_ _ | refine Below.step ?_ (by assumption)))⟩
end Go.Proofs.YtimpkjiglioflaaGreat
namespace Go.Proofs.YtimpkjiglioflaaGreat
open Go.ChangeShapes Go.WideShapes Go.ChangeAt Go.RowKit Go.Joins
theorem own : ownKnob Tryz.prog.godebug = none := by kernel_rfl
theorem laidOut : laidOutB Tryz.prog = true := by kernel_rfl
theorem trodAll_stays {H : Type} {enc : TypeId × Value → H} {P : Program} (hl : laidOutB P = true) {W W' : World} {sp : Nat → Bool} : ∀ (ts : List TypeId) (vs : List Value) (ds : List (DataW H)) (ps : List MemPlace),
    (∀ t ∈ ts, P.readableRec t = true ∧ t < P.types.size) → DataW.TrodAll enc P W 0 (fun _ => true) true ts vs ds ps → (∀ x ∈ ps, W.sameAt W' x) → (∀ x ∈ ps, sp x.block = true) → DataW.TrodAll enc P W' 0 sp true ts vs ds ps
  | [], vs, ds, ps, _, h, _, _ => by
    cases vs <;> cases ds <;> simp_all [DataW.TrodAll]
  | t :: ts, [], ds, ps, _, h, _, _ => by simp [DataW.TrodAll] at h
  | t :: ts, v :: vs, [], ps, _, h, _, _ => by simp [DataW.TrodAll] at h
  | t :: ts, v :: vs, d :: ds, ps, ht, h, hs, hp => by
    obtain ⟨p, q, h1, h2, rfl⟩ := h
    exact ⟨p, q, WideElems.Trod_stays hl (ht t (by simp)).1 (ht t (by simp)).2 h1 (fun x hx => hs x (by simp [hx])) (fun x hx => hp x (by simp [hx])),
      trodAll_stays hl ts vs ds q (fun t h => ht t (by simp [h])) h2 (fun x hx => hs x (by simp [hx])) (fun x hx => hp x (by simp [hx])), rfl⟩
/-- The row's last step, the same for every law: it answers true, nothing that was there has turned. -/
theorem close_true {H : Type} {enc : TypeId × Value → H} {f : Func} {s : ChangeSpec} {W W' : World} {args : Array Value} {ds gs : List (DataW H)} {before : List MemPlace}
    (hW : DataW.Whole enc Tryz.prog f.params.toList s.vars false W args.toList ds gs before) (hv : s.vars = []) (hr : f.resultTypes = #[4])
    (hp : f.params.toList.all (fun t => Tryz.prog.readableRec t && decide (t < Tryz.prog.types.size)) = true) (hfn : s.fn H ds = { results := [.lit (.bool true)], args := ds }) (hb : Below W.heap.size W W') :
    s.post enc Tryz.prog f false true false false W args (.bool true) W' := by
  have hW2 := hW
  have hlt : ∀ p ∈ before, p.block < W.heap.size := fun p hp => hW.lt p hp
  obtain ⟨p, q, hA, hV, rfl, _, _⟩ := hW2
  rw [hv] at hV
  obtain ⟨rfl, rfl⟩ := trodVars_none hV
  rw [List.append_nil] at hlt
  refine ⟨ds, [], p ++ [], [], p, [], hW, ?_, ?_, ?_, hb.frame _, fun h => by cases h⟩
  · rw [List.append_nil, hfn, hr]; exact trodAll_mk1 (shut_bool Tryz.underlying4 true)
  · rw [List.append_nil, hfn]
    refine trodAll_stays laidOut _ _ _ _ (fun t ht => ?_) hA (fun x hx => hb.same (hlt x hx)) (fun x hx => by simpa using hlt x hx)
    have := List.all_eq_true.1 hp t ht
    simpa using this
  · rw [List.append_nil, hfn, hv]; rfl
end Go.Proofs.YtimpkjiglioflaaGreat
namespace Go.Proofs.YtimpkjiglioflaaGreat
open Go.RowKit Go.ChangeShapes Go.WideShapes
theorem addr_addN (b o : Nat) (i : Nat) : (⟨b, o, none⟩ : Addr).add i = ⟨b, o + i, none⟩ := by unfold Addr.add; split <;> simp_all
theorem spot_none {w : World} {a : Addr} {v : Value} (h : w.cell? a = some v) : a.spot = none := by
  unfold World.cell? at h
  split at h
  · split at h
    · cases h
    · rename_i hs; simpa using hs
  · cases h
abbrev Old (w : World) : Nat → Prop := fun b => b < w.heap.size
section
variable {H : Type} {enc : TypeId × Value → H} {P : Program} {w : World} {base : Nat} {sp : Nat → Bool} {held : Bool}
theorem listAt_open {α : Type} {R : α → List Value → Prop} {ts e : TypeId} {n fuel : Nat} {cs : List Value} {x : DataW H × List MemPlace} (ht : P.underlying ts = some (.slice e)) (hC : P.cellsOf e = n) (hn : 0 < n)
    (h : DataW.trod enc P w base sp held fuel ts cs = some x) (he : ∀ k cs y, k + 1 = fuel → DataW.trod enc P w base sp held k e cs = some y → ∃ t, R t cs) : ∃ v xs, cs = [v] ∧ ListAt (Old w) w n R v xs := by
  rcases DataW.trod_slice ht h with ⟨rfl, _⟩ | ⟨a, len, cap, elems, rest, m, rfl, rfl, rfl, hb, hl, hm, hlen, hel, _, _⟩
  · exact ⟨_, [], rfl, ListAt.nil _ _ _ _ _ _⟩
  · rw [hC] at hel
    have key : ∀ i : Fin len, ∃ (t : α) (c' : List Value), w.cells? base (a.add (i.val * n)) n = some c' ∧ R t c' := by
      intro i
      have h1 := hel i.val i.isLt
      rw [List.getElem?_eq_getElem (by rw [hlen]; exact i.isLt)] at h1
      obtain ⟨c', h2, h3⟩ := Option.bind_eq_some_iff.1 h1
      obtain ⟨t, h4⟩ := he m c' _ rfl h3
      exact ⟨t, c', h2, h4⟩
    refine ⟨_, List.ofFn (fun i => Classical.choose (key i)), rfl, some a, cap, by rw [List.length_ofFn], by rw [List.length_ofFn]; exact Nat.le_trans hl hm, fun i t hi => ?_⟩
    have hlt : i < len := by have := (List.getElem?_eq_some_iff.1 hi).1; simpa using this
    rw [List.getElem?_eq_getElem (by simpa using hlt), List.getElem_ofFn] at hi
    have ht' := Option.some.inj hi
    obtain ⟨c', h2, h4⟩ := Classical.choose_spec (key ⟨i, hlt⟩)
    rw [ht'] at h4
    obtain ⟨_, hcl, hcell⟩ := World.cells?_some h2
    obtain ⟨b, o, s⟩ := a
    have h0 := hcell 0 hn
    rw [List.getElem?_eq_getElem (by omega)] at h0
    have hs : s = none := by
      obtain ⟨c0, k2, _⟩ := Classical.choose_spec (key ⟨0, by omega⟩)
      obtain ⟨_, kl, kc⟩ := World.cells?_some k2
      have k0 := kc 0 hn
      rw [List.getElem?_eq_getElem (by omega)] at k0
      have := spot_none k0
      simpa [Addr.add] using this
    subst hs
    simp only [addr_addN] at hcell h0
    refine ⟨b, o, rfl, World.block_lt_of_cell? w _ h0, c', hcl, fun j hj => ?_, h4⟩
    have := hcell j hj
    exact this
end
section
variable {H : Type} {enc : TypeId × Value → H} {w : World} {base : Nat} {sp : Nat → Bool} {held : Bool}
set_option maxRecDepth 100000 in
theorem cellsStr : Tryz.prog.cellsOf 9 = 1 := by kernel_rfl
theorem strOne {fuel : Nat} {c : Value} {x : DataW H × List MemPlace} (h : DataW.trod enc Tryz.prog w base sp held fuel 9 [c] = some x) : ∃ s : ByteArray, c = .string s ∧ s.size ≤ maxLen := by
  obtain ⟨s, e, rfl, hs⟩ := DataW.trod_string Tryz.underlying9 h
  simp at e
  subst e
  exact ⟨s, rfl, hs⟩
end
end Go.Proofs.YtimpkjiglioflaaGreat
namespace Go.Proofs.YtimpkjiglioflaaGreat
open Go.RowKit Go.ChangeShapes Go.WideShapes
section
variable {H : Type} {enc : TypeId × Value → H} {w : World} {base : Nat} {sp : Nat → Bool} {held : Bool}
set_option maxRecDepth 100000 in
theorem cellsStrs : Tryz.prog.cellsOf 29 = 1 := by kernel_rfl
set_option maxRecDepth 100000 in
theorem cellsUnit : Tryz.prog.cellsOf 42 = 4 := by kernel_rfl
set_option maxRecDepth 100000 in
theorem strs_open {fuel : Nat} {c : Value} {x : DataW H × List MemPlace} (h : DataW.trod enc Tryz.prog w base sp held fuel 29 [c] = some x) : ∃ us, StrsAt (Old w) w c us := by
  obtain ⟨v, us, hv, hL⟩ := listAt_open (R := StrAt) Tryz.underlying29 cellsStr (by decide) h (fun k cs y hk hy => by
    obtain ⟨s, e, rfl, hs⟩ := DataW.trod_string Tryz.underlying9 hy
    exact ⟨s, e, hs⟩)
  cases hv
  exact ⟨us, hL⟩
set_option maxRecDepth 100000 in
theorem unit_open (fuel : Nat) (cs : List Value) (x : DataW H × List MemPlace) (h : DataW.trod enc Tryz.prog w base sp held fuel 42 cs = some x) : ∃ u, UnAt (Old w) w u cs := by
  obtain ⟨ys, n, rfl, _, hl, hyl, hf⟩ := DataW.trod_struct Tryz.underlying42 h
  rw [cellsUnit] at hl
  match cs, hl with
  | [c0, c1, c2, c3], _ =>
    have h0 := hf 0 _ rfl
    have h1 := hf 1 _ rfl
    have h2 := hf 2 _ rfl
    have h3 := hf 3 _ rfl
    rw [List.getElem?_eq_getElem (by rw [hyl]; decide)] at h0 h1 h2 h3
    obtain ⟨z0, h0'⟩ : ∃ z, DataW.trod enc Tryz.prog w base sp held n 9 [c0] = some z := ⟨ys[0]'(by rw [hyl]; decide), by rw [← h0]; simp [cellsStr]⟩
    obtain ⟨z1, h1'⟩ : ∃ z, DataW.trod enc Tryz.prog w base sp held n 29 [c1] = some z := ⟨ys[1]'(by rw [hyl]; decide), by rw [← h1]; simp [cellsStrs]⟩
    obtain ⟨z2, h2'⟩ : ∃ z, DataW.trod enc Tryz.prog w base sp held n 29 [c2] = some z := ⟨ys[2]'(by rw [hyl]; decide), by rw [← h2]; simp [cellsStrs]⟩
    obtain ⟨z3, h3'⟩ : ∃ z, DataW.trod enc Tryz.prog w base sp held n 9 [c3] = some z := ⟨ys[3]'(by rw [hyl]; decide), by rw [← h3]; simp [cellsStr]⟩
    obtain ⟨s, rfl, hs⟩ := strOne h0'
    obtain ⟨us, hus⟩ := strs_open h1'
    obtain ⟨axl, has⟩ := strs_open h2'
    obtain ⟨g, rfl, hg⟩ := strOne h3'
    exact ⟨⟨s, us, axl, g⟩, _, _, rfl, hs, hg, hus, has⟩
set_option maxRecDepth 100000 in
theorem units_arg {v : Value} {d : DataW H} {p : List MemPlace} {r : Reach} {b0 : Nat} (hv : Value.okWide Tryz.prog w r b0 22 v) (h : DataW.Trod enc Tryz.prog w base sp held 22 v d p) :
    ∃ us, UnsAt (Old w) w v us := by
  obtain ⟨a, len, cap, rfl⟩ := okWide_slice Tryz.underlying22 hv
  obtain ⟨fuel, hf⟩ := h
  obtain ⟨v, us, hv, hL⟩ := listAt_open (R := UnAt (Old w) w) Tryz.underlying22 cellsUnit (by decide) hf (fun k cs y hk hy => unit_open k cs y hy)
  cases hv
  exact ⟨us, hL⟩
end
end Go.Proofs.YtimpkjiglioflaaGreat
namespace Go.Proofs.YtimpkjiglioflaaGreat.fnExactVisibleAxiomsLaw
open Go.ChangeShapes Go.WideShapes Go.ChangeAt Go.RowKit Go.Joins Go.ChangeMaps
set_option maxRecDepth 100000 in
theorem contract (H : Type) (enc : TypeId × Value → H) (W : World) (base : Nat) (args : Array Value) (ds gs : List (DataW H)) (before : List MemPlace)
    (hval : ∀ (j : Nat) t v, Tryz.f5.params[j]? = some t → args[j]? = some v → Value.okWide Tryz.prog W .any base t v)
    (hW : DataW.Whole enc Tryz.prog Tryz.f5.params.toList Rows.fnExactVisibleAxiomsSpec.vars false W args.toList ds gs before) :
    Calls Tryz.prog 5 args W fun e W' => ∃ v, e = .returned v ∧ Rows.fnExactVisibleAxiomsSpec.post enc Tryz.prog Tryz.f5 false true false false W args v W' := by
  have hW' := hW
  obtain ⟨p, q, hA0, hV, rfl, hfz, hnd⟩ := hW
  have hA : DataW.TrodAll enc Tryz.prog W 0 (fun _ => true) true Tryz.f5.params.toList args.toList ds p := hA0
  rw [Tryz.params5] at hA hval
  obtain ⟨v0, vs0, d0, ds0, p0, q0, hargs, rfl, rfl, h0, r0⟩ := trodAll_cons hA
  obtain ⟨v1, vs1, d1, ds1, p1, q1, rfl, rfl, rfl, h1, r1⟩ := trodAll_cons r0
  obtain ⟨rfl, rfl, rfl⟩ := trodAll_nil r1
  obtain rfl : args = #[v0, v1] := Array.ext' hargs
  obtain ⟨us0, ht0⟩ := units_arg (hval 0 22 v0 rfl rfl) h0
  obtain ⟨s1, rfl, rfl, rfl, hs1⟩ := open_string Tryz.underlying9 (hval 1 9 v1 rfl rfl) h1
  clear hA0
  refine (exactVA us0 v0 s1 W ht0 hs1).mono fun e W' ⟨he, hb⟩ => ?_
  subst he
  exact ⟨_, rfl, close_true hW' rfl (by kernel_rfl) (by kernel_rfl) rfl hb⟩
set_option maxRecDepth 100000 in
theorem lifted (os : Os) (started : os.Started) (H : Type) (enc : TypeId × Value → H) :
    ReturnsInHanded {} Tryz.checked os 5 .any (Rows.fnExactVisibleAxiomsSpec.pre6 enc Tryz.prog Tryz.f5 Rows.fnExactVisibleAxiomsRow.domain false) (Rows.fnExactVisibleAxiomsSpec.post enc Tryz.prog Tryz.f5 false true false false) := by
  refine returnsInHanded_of_change (C := Tryz.checked) own started (by kernel_rfl) Tryz.func5
    (ChangeSpec.witness6 (enc := enc) (C := Tryz.checked) false ⟨#[], #[.slice none 0 0, .string ⟨#[]⟩], []⟩ 8 (by kernel_rfl) (by kernel_rfl) (by kernel_rfl) (by kernel_rfl)) ?_
  intro W base args ds gs before hval hW _ _
  exact contract H enc W base args ds gs before hval hW
theorem said : Rows.FnExactVisibleAxiomsSaid :=
  OpenClaim.holds_of_wide 5 Tryz.f5 rfl rfl rfl rfl rfl rfl rfl ⟨rfl, rfl, rfl, rfl, rfl⟩ rfl rfl rfl rfl rfl (by kernel_rfl) Tryz.func5 (by kernel_rfl)
    (of_decide_eq_true (by kernel_rfl)) (by unfold Func.isWrapper; first | (rw [if_pos (by decide +kernel)]; kernel_rfl) | (rw [if_neg (by decide +kernel)]; exact ⟨rfl, rfl⟩))
    (fun os started H enc _ => lifted os started H enc)
end Go.Proofs.YtimpkjiglioflaaGreat.fnExactVisibleAxiomsLaw
