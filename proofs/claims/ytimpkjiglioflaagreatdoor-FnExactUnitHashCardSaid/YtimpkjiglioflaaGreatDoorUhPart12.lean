/- 'FnExactUnitHash': the law is true for all arguments, over the tables as the program's text lays them. -/
import Derived.Shelf.Strings.BuilderF
import Derived.OpenShut
import Derived.JoinedCond
import Derived.Deep.DeepHandedRow
import Derived.Lib.SmallJoins
import Derived.Stop.LaidErr
import Derived.Test.YtimpkjiglioflaaGreatDoorCards
import Derived.Test.YtimpkjiglioflaaGreatDoorTie
import Derived.ChangeSlices
import Derived.Test.YtimpkjiglioflaaGreatDoorUhPart1
import Derived.Test.YtimpkjiglioflaaGreatDoorUhPart10
import Derived.Test.YtimpkjiglioflaaGreatDoorUhPart11
namespace Go.Proofs.YtimpkjiglioflaaGreatDoor
open Go.RowKit
def axT (us : List ByteArray) : List UInt8 := us.flatMap fun a => 10 :: a.data.toList
def inT (g : ByteArray → Int) (us : List ByteArray) : List UInt8 := us.flatMap fun y => [10, 35] ++ Lib.itoa (g y)
theorem txtH_eq (g : ByteArray → Int) (u : Un) : txtH g u = u.name.data.toList ++ axT u.axs ++ [10, 63] ++ u.goal.data.toList ++ inT g u.incs := rfl
theorem axT_take {us : List ByteArray} {k : Nat} (h : k < us.length) : axT (us.take (k + 1)) = axT (us.take k) ++ (10 :: us[k].data.toList) := by
  rw [List.take_succ_eq_append_getElem h, axT, axT, List.flatMap_append]; simp
theorem inT_take (g : ByteArray → Int) {us : List ByteArray} {k : Nat} (h : k < us.length) : inT g (us.take (k + 1)) = inT g (us.take k) ++ ([10, 35] ++ Lib.itoa (g us[k])) := by
  rw [List.take_succ_eq_append_getElem h, inT, inT, List.flatMap_append]; simp
theorem axT_len : ∀ us : List ByteArray, (axT us).length = us.length + wtS us
  | [] => rfl
  | a :: us => by
    have := axT_len us
    rw [axT] at this
    rw [axT, List.flatMap_cons, List.length_append, this, List.length_cons, List.length_cons, wtS, ← size_list]; omega
theorem wtS_take' : ∀ (us : List ByteArray) (i : Nat), wtS (us.take i) ≤ wtS us
  | [], i => by simp [wtS]
  | a :: us, 0 => by simp [wtS]
  | a :: us, i + 1 => by have := wtS_take' us i; rw [List.take_succ_cons, wtS, wtS]; omega
theorem axT_bd {us : List ByteArray} {k : Nat} : (axT (us.take k)).length ≤ us.length + wtS us := by
  rw [axT_len]
  have := wtS_take' us k
  have : (us.take k).length ≤ us.length := by rw [List.length_take]; omega
  omega
theorem hashF_bd (l : List Un) : ∀ (f : Nat) (x : ByteArray), 0 ≤ hashF f l x ∧ hashF f l x < 999979
  | 0, _ => by rw [hashF]; omega
  | f + 1, x => by
    rw [hashF]
    cases findU l x with
    | none => simp
    | some u => exact sumF_bd _
theorem inT_len {g : ByteArray → Int} (hg : ∀ y, 0 ≤ g y ∧ g y < 999979) : ∀ us : List ByteArray, (inT g us).length ≤ 22 * us.length
  | [] => by simp [inT]
  | a :: us => by
    have := inT_len hg us
    rw [inT] at this
    have h1 := itoa_len (g a) (by have := hg a; omega) (by have := hg a; omega)
    rw [inT, List.flatMap_cons, List.length_append, List.length_append, List.length_cons, List.length_cons]
    simp only [List.length_cons, List.length_nil]
    omega
theorem inT_bd {g : ByteArray → Int} (hg : ∀ y, 0 ≤ g y ∧ g y < 999979) {us : List ByteArray} {k : Nat} : (inT g (us.take k)).length ≤ 22 * us.length := by
  have h1 := inT_len hg (us.take k)
  have : (us.take k).length ≤ us.length := by rw [List.length_take]; omega
  omega
theorem Un.wt_parts (u : Un) : u.name.size + (u.incs.length + wtS u.incs) + (u.axs.length + wtS u.axs) + u.goal.size = u.wt := rfl
set_option maxRecDepth 100000 in
set_option maxHeartbeats 6400000 in
theorem l27Hash_any (l : List Un) (n : Nat) (hd : Dist l) (hz : l.length + wtU l ≤ 1048576) : ∀ (f : Nat) (x : ByteArray) (va : Value) (w : World), x ∈ ordL l → (ordL l).idxOf x < f → UnsAt (fun b => b < n) w va l → n ≤ w.heap.size →
    Calls Tryz.prog 53 #[va, .string x] w fun e w' => e = .returned (.int .i64 (hashF f l x)) ∧ Below w.heap.size w w' := by
  intro f
  induction f with
  | zero => intro x va w _ h; omega
  | succ f ih =>
    intro x va w hx hf h hn
    obtain ⟨u, hul, hux⟩ := List.mem_map.1 ((ordL_inv l).sub x hx)
    have hfu : findU l x = some u := hux ▸ findU_of hd hul
    have hin : incsOf l x = u.incs := by rw [incsOf, hfu]
    have HRK := Lib.hid (fun y (hy : y ∈ u.incs) => incs_rank hd (ordL_inv l) hx (by rw [hin]; exact hy))
    have HT := Lib.hid (show hashF (f + 1) l x = sumF (txtH (hashF f l) u) by rw [hashF, hfu])
    have hwl := wtU_le l u hul
    have HWT := Lib.hid (show u.name.size + (u.incs.length + wtS u.incs) + (u.axs.length + wtS u.axs) + u.goal.size ≤ 1048576 by rw [u.wt_parts]; omega)
    obtain ⟨i, hi, hpl, hli⟩ := place_some hfu
    obtain ⟨p, c, rfl, hlen⟩ := h.form
    unfold maxLen at hlen
    have H := Lib.hid h
    have IH := Lib.hid ih
    have HBD := Lib.hid (hashF_bd l f)
    clear h ih hfu hin hux
    go_enter Tryz.func53, Tryz.ntmps53
    go_wp2_with fail
    refine (l27Find_any l _ x _ (H.out.below (by (repeat (first | with_reducible exact Below.refl _ _ | with_reducible assumption | with_reducible refine Below.al ?_ _ | with_reducible refine Below.sc ?_ (by first | exact Nat.le_refl _ | (simp; done) | (simp; omega)) _ | assumption | exact Below.refl _ _ | refine Below.dr ?_ | refine Below.drN ?_ _ | refine Below.step ?_ (by assumption)))))).mono ?_
    rintro e w1 ⟨r, rfl, hr, hb1⟩
    rw [hpl] at hr
    obtain rfl : r = (i : Int) := hr
    have hq1 := hb1.size
    obtain ⟨b, o, rfl, hB, p1, c1, p2, c2, hx0, hx1, hx2, hx3, hxu⟩ := (H.out.below hb1).at_ hi
    rw [hli] at hx0 hx1 hx2 hx3 hxu
    obtain ⟨_, _, _, _, q0, q1, q2, q3, -, -, hil, hal, hia, haa⟩ := hxu.form
    simp only [Value.slice.injEq, true_and] at q1 q2
    obtain ⟨rfl, rfl⟩ := q1
    obtain ⟨rfl, rfl⟩ := q2
    clear q0 q3 hxu
    unfold maxLen at hil hal
    have HI := Lib.hid hia
    have HA := Lib.hid haa
    have zb := bsz (World.block_lt_of_cell? _ _ hx0)
    have hi0 : (0 : Int) ≤ i := by omega
    have hil2 : (i : Int) < l.length := by omega
    clear hia haa hli hpl
    go_wp2
    obtain ⟨W, hW⟩ : ∃ W : World, W = w1.alloc (.cells #[.string u.name, .slice p1 u.incs.length c1, .slice p2 u.axs.length c2, .string u.goal] 24) := ⟨_, rfl⟩
    have hbW : Below w1.heap.size w1 W := by rw [hW]; exact (Below.refl _ _).alloc (Nat.le_refl _) _
    have hc0 : W.cell? ⟨w1.heap.size, 0, none⟩ = some (.string u.name) := by rw [hW]; go_simp
    have hc1 : W.cell? ⟨w1.heap.size, 1, none⟩ = some (.slice p1 u.incs.length c1) := by rw [hW]; go_simp
    have hc2 : W.cell? ⟨w1.heap.size, 2, none⟩ = some (.slice p2 u.axs.length c2) := by rw [hW]; go_simp
    have hc3 : W.cell? ⟨w1.heap.size, 3, none⟩ = some (.string u.goal) := by rw [hW]; go_simp
    rw [← hW]
    clear hW hx0 hx1 hx2 hx3
    have hzW := World.block_lt_of_cell? _ _ hc0
    go_loopw [6, 7] (fun s i wr => ∃ k : Nat, k ≤ u.axs.length ∧ i = .int .i64 k ∧ s = .string ⟨(u.name.data.toList ++ axT (u.axs.take k)).toArray⟩ ∧ Below W.heap.size W wr) (fun _ i _ => u.axs.length - (intOf i).toNat)
    case atStart => exact ⟨0, Nat.zero_le _, rfl, congrArg Value.string (by apply ByteArray.ext; simp [axT]), by (repeat (first | with_reducible exact Below.refl _ _ | with_reducible assumption | with_reducible refine Below.al ?_ _ | with_reducible refine Below.sc ?_ (by first | exact Nat.le_refl _ | (simp; done) | (simp; omega)) _ | assumption | exact Below.refl _ _ | refine Below.dr ?_ | refine Below.drN ?_ _ | refine Below.step ?_ (by assumption)))⟩
    case round =>
      obtain ⟨k, hk, rfl, rfl, hb⟩ := hrel
      have hbw := Below.step hbW hb
      have d1 := (hb.cell (p := ⟨w1.heap.size, 1, none⟩) hzW).trans hc1
      have d2 := (hb.cell (p := ⟨w1.heap.size, 2, none⟩) hzW).trans hc2
      have d3 := (hb.cell (p := ⟨w1.heap.size, 3, none⟩) hzW).trans hc3
      have zu := bsz (World.block_lt_of_cell? _ _ d1)
      have hbd := axT_bd (us := u.axs) (k := k)
      by_cases hlt : k < u.axs.length
      · obtain ⟨b', o', rfl, hB', hy0, hys⟩ := (HA.out.below hbw).at_ hlt
        have HTK := Lib.hid (axT_take hlt)
        have hmw := wtS_le u.axs _ (List.getElem_mem hlt)
        obtain ⟨a, ha⟩ : ∃ a, u.axs[k] = a := ⟨_, rfl⟩
        rw [ha] at hy0 HTK hmw
        clear ha
        have zb' := bsz (World.block_lt_of_cell? _ _ hy0)
        have hki : (k : Int) < u.axs.length := by omega
        generalize axT (u.axs.take k) = L at *
        have g1 : ¬ 9223372036854775807 < u.name.size + L.length + 1 := by have := HWT.out; omega
        have g2 : ¬ 9223372036854775807 < u.name.size + L.length + 1 + a.size := by have := HWT.out; omega
        have hnsz : u.name.data.toList.length = u.name.size := rfl
        have hnsz2 : u.name.data.size = u.name.size := rfl
        go_wp2
        refine ⟨⟨k + 1, by omega, by go_num, ?_, hb⟩, by simp [intOf]; omega⟩
        rw [HTK.out]
        exact congrArg Value.string (by apply ByteArray.ext; simp)
      · obtain rfl : k = u.axs.length := by omega
        rw [List.take_length] at hbd ⊢
        have HTX := Lib.hid (txtH_eq (hashF f l) u)
        have hAl : (u.name.data.toList ++ axT u.axs).length ≤ 3000000 := by rw [List.length_append, ← size_list]; have := HWT.out; omega
        generalize u.name.data.toList ++ axT u.axs = A at *
        have g1 : ¬ 9223372036854775807 < A.length + 2 := by omega
        have g2 : ¬ 9223372036854775807 < A.length + 2 + u.goal.size := by have := HWT.out; omega
        go_wp2
        have hCl : (A ++ [10, 63] ++ u.goal.data.toList).length ≤ 6000000 := by rw [List.length_append, List.length_append, ← size_list]; have := HWT.out; simp only [List.length_cons, List.length_nil]; omega
        have e1 : (⟨A.toArray⟩ : ByteArray) ++ ⟨#[10, 63]⟩ ++ u.goal = ⟨(A ++ [10, 63] ++ u.goal.data.toList).toArray⟩ := by apply ByteArray.ext; simp
        rw [e1]
        have HTX2 := Lib.hid (show txtH (hashF f l) u = A ++ [10, 63] ++ u.goal.data.toList ++ inT (hashF f l) u.incs from HTX.out)
        generalize A ++ [10, 63] ++ u.goal.data.toList = C at *
        go_loopw [6, 8] (fun s i wr => ∃ k : Nat, k ≤ u.incs.length ∧ i = .int .i64 k ∧ s = .string ⟨(C ++ inT (hashF f l) (u.incs.take k)).toArray⟩ ∧ Below W.heap.size W wr) (fun _ i _ => u.incs.length - (intOf i).toNat)
        case atStart => exact ⟨0, Nat.zero_le _, rfl, congrArg Value.string (by apply ByteArray.ext; simp [inT]), hb⟩
        case round =>
          clear hb hbw d1 d2 d3 zu
          obtain ⟨k, hk, rfl, rfl, hb⟩ := hrel
          have hbw := Below.step hbW hb
          have d1 := (hb.cell (p := ⟨w1.heap.size, 1, none⟩) hzW).trans hc1
          have zu := bsz (World.block_lt_of_cell? _ _ d1)
          have hbd := inT_bd HBD.out (us := u.incs) (k := k)
          by_cases hlt : k < u.incs.length
          · obtain ⟨b', o', rfl, hB', hy0, hys⟩ := (HI.out.below hbw).at_ hlt
            have HTK := Lib.hid (inT_take (hashF f l) hlt)
            have hrk := HRK.out _ (List.getElem_mem hlt)
            obtain ⟨a, ha⟩ : ∃ a, u.incs[k] = a := ⟨_, rfl⟩
            rw [ha] at hy0 HTK hrk
            clear ha
            have zb' := bsz (World.block_lt_of_cell? _ _ hy0)
            have hki : (k : Int) < u.incs.length := by omega
            have hbda := HBD.out a
            have hit := itoa_len (hashF f l a) (by omega) (by omega)
            generalize inT (hashF f l) (u.incs.take k) = L at *
            have g1 : ¬ 9223372036854775807 < C.length + L.length + 2 := by have := HWT.out; omega
            have g2 : ¬ 9223372036854775807 < C.length + L.length + 2 + (Lib.itoa (hashF f l a)).length := by have := HWT.out; omega
            go_wp2_with fail
            refine (IH.out a _ _ hrk.1 (by omega) (H.out.below (by (repeat (first | with_reducible exact Below.refl _ _ | with_reducible assumption | with_reducible refine Below.al ?_ _ | with_reducible refine Below.sc ?_ (by first | exact Nat.le_refl _ | (simp; done) | (simp; omega)) _ | assumption | exact Below.refl _ _ | refine Below.dr ?_ | refine Below.drN ?_ _ | refine Below.step ?_ (by assumption))))) (by have := hbw.size; omega)).mono ?_
            rintro e w3 ⟨rfl, hb3⟩
            go_wp2_with fail
            refine (drew_below (l1Num_any _ _ hbda.1 (by omega))).mono ?_
            rintro e w4 ⟨rfl, hb4⟩
            go_wp2
            refine ⟨⟨k + 1, by omega, by go_num, ?_, by (repeat (first | with_reducible exact Below.refl _ _ | with_reducible assumption | with_reducible refine Below.al ?_ _ | with_reducible refine Below.sc ?_ (by first | exact Nat.le_refl _ | (simp; done) | (simp; omega)) _ | assumption | exact Below.refl _ _ | refine Below.dr ?_ | refine Below.drN ?_ _ | refine Below.step ?_ (by assumption)))⟩, by simp [intOf]; omega⟩
            rw [HTK.out]
            exact congrArg Value.string (by apply ByteArray.ext; simp)
          · obtain rfl : k = u.incs.length := by omega
            rw [List.take_length, ← HTX2.out]
            go_wp2_with fail
            refine (same_below (l1Sum_any _ _ ?_)).mono ?_
            · show (txtH (hashF f l) u).toArray.size ≤ maxLen
              have h1 := inT_bd HBD.out (us := u.incs) (k := u.incs.length)
              rw [List.take_length] at h1
              rw [List.size_toArray, HTX2.out, List.length_append]
              have h2 := HWT.out
              unfold maxLen; omega
            rintro e w3 ⟨rfl, hb3⟩
            go_wp2
            go_ret
            exact ⟨ret_int HT.out.symm, by (repeat (first | with_reducible exact Below.refl _ _ | with_reducible assumption | with_reducible refine Below.al ?_ _ | with_reducible refine Below.sc ?_ (by first | exact Nat.le_refl _ | (simp; done) | (simp; omega)) _ | assumption | exact Below.refl _ _ | refine Below.dr ?_ | refine Below.drN ?_ _ | refine Below.step ?_ (by assumption)))⟩
end Go.Proofs.YtimpkjiglioflaaGreatDoor
namespace Go.Proofs.YtimpkjiglioflaaGreatDoor
open Go.RowKit
theorem blk_ltB {w : World} {b : Nat} {o : Obj} (h : w.heap[b]? = some o) : b < w.heap.size := by
  rcases Nat.lt_or_ge b w.heap.size with h' | h'
  · exact h'
  · rw [Array.getElem?_eq_none h'] at h; cases h
set_option maxRecDepth 100000 in
theorem sizeBld : ∃ j, Tryz.prog.info? 102 = some j ∧ j.size = 2 := by
  obtain ⟨j, hj, hs⟩ := Option.map_eq_some_iff.1 (show (Tryz.prog.info? 102).map (·.size) = some 2 by kernel_rfl)
  exact ⟨j, hj, hs⟩
set_option maxRecDepth 100000 in
theorem copyCheck_used (b : Nat) (w : World) (h0 : w.cell? ⟨b, 0, none⟩ = some (.pointer (some ⟨b, 0, none⟩))) :
    Calls Tryz.prog 120 #[.pointer (some ⟨b, 0, none⟩)] w fun e w' => e = .returned (.tuple #[]) ∧ w' = w := by
  obtain ⟨j, hj, _⟩ := sizeBld
  go_enter Tryz.func120, Tryz.ntmps120
  go_wp2
  rw [Lib.run_neq_ptr_same w _ Tryz.underlying100 hj]
  go_wp2
  go_end0
  exact ⟨rfl, rfl⟩
set_option maxRecDepth 100000 in
theorem copyCheck_fresh (b : Nat) (w : World) (h0 : w.cell? ⟨b, 0, none⟩ = some (.pointer none)) (hsh : w.shape? b = some (102, 2)) (hfz : w.frozen? ⟨b, 0, none⟩ = false) :
    Calls Tryz.prog 120 #[.pointer (some ⟨b, 0, none⟩)] w fun e w' => e = .returned (.tuple #[]) ∧ w' = w.setCell ⟨b, 0, none⟩ (.pointer (some ⟨b, 0, none⟩)) := by
  obtain ⟨j, hj, hjs⟩ := sizeBld
  have hlies : liesAt Tryz.prog Tryz.prog.depth 102 (2 / Tryz.prog.cellsOf 102) 0 102 1 = true := by kernel_rfl
  go_enter Tryz.func120, Tryz.ntmps120
  go_wp2
  rw [Lib.run_to_unsafe w ⟨b, 0, none⟩ Tryz.underlying100 Tryz.underlying163 hj (by rw [hjs]; decide) hsh (Nat.zero_lt_succ 1)]
  simp only [Result.andThen]
  rw [Oper.upon_value]
  go_wp2
  rw [run_callFunc_extern Tryz.func157 (by kernel_rfl) (by kernel_rfl) (by kernel_rfl) (e := Extern.AbiNoEscape.same) (by kernel_rfl)]
  rw [Lib.run_noEscape]
  simp only [Result.andThen]
  rw [Oper.upon_value]
  go_wp2
  rw [Lib.run_from_unsafe w ⟨b, 0, none⟩ Tryz.underlying163 Tryz.underlying100 hj hsh hlies]
  simp only [Result.andThen]
  rw [Oper.upon_value]
  go_wp2
  go_end0
  exact ⟨rfl, rfl⟩
theorem copyCheckB (B b : Nat) (bs : List Value) (w : World) (h : Lib.IsBuilderF 102 5 B b bs w) :
    Calls Tryz.prog 120 #[.pointer (some ⟨b, 0, none⟩)] w fun e w' => e = .returned (.tuple #[]) ∧ (Lib.BuilderAtF 102 5 B b (.pointer (some ⟨b, 0, none⟩)) bs w' ∧ Below B w w') := by
  rcases h with h | h
  · refine (copyCheck_fresh b w h.cell0 h.shape h.frozen0).mono ?_
    rintro e w' ⟨rfl, rfl⟩
    exact ⟨rfl, h.used _, (Below.refl B w).setCell (p := ⟨b, 0, none⟩) h.1 _⟩
  · refine (copyCheck_used b w h.cell0).mono ?_
    rintro e w' ⟨rfl, rfl⟩
    exact ⟨rfl, h, Below.refl B _⟩
set_option maxRecDepth 100000 in
set_option maxHeartbeats 1000000 in
theorem writeB (B b : Nat) (bs : List Value) (s : ByteArray) (w : World) (h : Lib.IsBuilderF 102 5 B b bs w) (hlen : bs.length + s.size ≤ 140737488355328) (hBw : B ≤ w.heap.size) :
    Calls Tryz.prog 89 #[.pointer (some ⟨b, 0, none⟩), .string s] w fun e w' => e = .returned (.tuple #[.int .i64 s.size, .nilIface]) ∧ (Lib.BuilderAtF 102 5 B b (.pointer (some ⟨b, 0, none⟩)) (bs ++ Lib.strCells s) w' ∧ Below B w w') := by
  obtain ⟨i0, hi, hz0, hz1, hz2⟩ := info_parts (show (Tryz.prog.info? 5).map (fun i => (i.zero, i.size, i.bytes)) = some (some (.int .u8 0), 1, 1) by kernel_rfl)
  have HC := Lib.hid (copyCheckB B b bs)
  go_enter Tryz.func89, Tryz.ntmps89
  go_wp2_with (go_at_call 120; refine (HC.out _ h).mono ?_)
  rintro e w1 ⟨rfl, h1, hb1⟩
  obtain ⟨hB, v, hbk, hown, hne⟩ := h1
  have c0 : w1.cell? ⟨b, 0, none⟩ = some (.pointer (some ⟨b, 0, none⟩)) := by rw [Lib.cell_of_heap hbk]; rfl
  have c1 : w1.cell? ⟨b, 1, none⟩ = some v := by rw [Lib.cell_of_heap hbk]; rfl
  go_wp2_with (at_builtin; refine Lib.wpList_append_own_stringF _ rfl _ _ 48 9 rfl B 5 i0 Tryz.underlying48 Tryz.underlying9 hi hz0 hz1 hz2 _ _ _ rfl hown s rfl ?c3 ?c4 ?c5 ?_)
  case c3 => unfold maxLen; omega
  case c4 => omega
  case c5 => have := hb1.size; omega
  intro v' w2 hown' hgrow _
  have hlt : b < w1.heap.size := blk_ltB hbk
  have hb2 : w2.heap[b]? = some (.cells #[.pointer (some ⟨b, 0, none⟩), v] 102 (0, 0)) := by
    rw [hgrow.block b hlt (fun e => hne e.symm)]
    exact hbk
  have d0 : w2.cell? ⟨b, 0, none⟩ = some (.pointer (some ⟨b, 0, none⟩)) := by rw [Lib.cell_of_heap hb2]; rfl
  have d1 : w2.cell? ⟨b, 1, none⟩ = some v := by rw [Lib.cell_of_heap hb2]; rfl
  have f1 : w2.frozen? ⟨b, 1, none⟩ = false := Lib.frozen_of_heap hb2 1
  obtain ⟨ao, n', cap, rfl⟩ : ∃ ao n' cap, v' = .slice ao n' cap := by
    rcases hown'.2 with ⟨hv, _⟩ | ⟨g, cap, cur, fz, hv, _⟩
    · exact ⟨_, _, _, hv⟩
    · exact ⟨_, _, _, hv⟩
  go_wp2
  go_ret2
  refine ⟨rfl, ?_, ?_⟩
  · exact Lib.BuilderAtF.put (T := 102) (e := 5) hB hb2 (bs' := bs ++ Lib.strCells s) (by simpa [Lib.strCells_length] using hown') (by decide)
  · exact (hb1.grown hgrow (by have := hb1.size; omega) (fun k hk => (hown.lt k hk).1)).setCell (p := ⟨b, 1, none⟩) hB _
/-- A builder that holds the text l, all its memory from block B on. -/
def Bld (B b : Nat) (l : List UInt8) (w : World) : Prop := Lib.IsBuilderF 102 5 B b (Lib.byteCells l) w
theorem BuilderAtF.later {T e : TypeId} {B b : Nat} {p : Value} {bs : List Value} {w w' : World} (h : Lib.BuilderAtF T e B b p bs w) (hb : Below w.heap.size w w') : Lib.BuilderAtF T e B b p bs w' := by
  obtain ⟨hB, v, h1, h2, h3⟩ := h
  refine ⟨hB, v, (hb.block b (blk_ltB h1)).trans h1, ⟨h2.1, ?_⟩, h3⟩
  rcases h2.2 with h4 | ⟨g, cap, cur, fz, rfl, h5, h6, h7⟩
  · exact .inl h4
  · exact .inr ⟨g, cap, cur, fz, rfl, h5, (hb.block g (blk_ltB h6)).trans h6, h7⟩
theorem Bld.later {B b : Nat} {l : List UInt8} {w w' : World} (h : Bld B b l w) (hb : Below w.heap.size w w') : Bld B b l w' := h.elim (fun h => .inl (BuilderAtF.later h hb)) (fun h => .inr (BuilderAtF.later h hb))
theorem Bld.new (w : World) (b : Nat) (hb : w.heap.size = b) : Bld b b [] (w.alloc (.cells #[.pointer none, .slice none 0 0] 102)) := by
  subst hb
  exact .inl ⟨Nat.le_refl _, _, heap_alloc_new w _, ⟨rfl, .inl ⟨rfl, rfl⟩⟩, by simp [Value.ownBlock]⟩
theorem byteCells_app (l : List UInt8) (s : ByteArray) : Lib.byteCells l ++ Lib.strCells s = Lib.byteCells (l ++ s.data.toList) := by simp [Lib.byteCells, Lib.strCells]
theorem write_any (B b : Nat) (l : List UInt8) (s : ByteArray) (w : World) (h : Bld B b l w) (hlen : l.length + s.size ≤ 140737488355328) (hBw : B ≤ w.heap.size) :
    Calls Tryz.prog 89 #[.pointer (some ⟨b, 0, none⟩), .string s] w fun e w' => e = .returned (.tuple #[.int .i64 s.size, .nilIface]) ∧ Bld B b (l ++ s.data.toList) w' ∧ Below B w w' :=
  (writeB B b _ s w h (by simpa [Lib.byteCells] using hlen) hBw).mono fun e w' ⟨h1, h2, h3⟩ => ⟨h1, .inr (by rw [byteCells_app] at h2; exact h2), h3⟩
end Go.Proofs.YtimpkjiglioflaaGreatDoor
namespace Go.Proofs.YtimpkjiglioflaaGreatDoor
open Go.RowKit
set_option maxRecDepth 100000 in
set_option maxHeartbeats 6400000 in
theorem hashOf_any (l : List Un) (n : Nat) (hd : Dist l) (hz : l.length + wtU l ≤ 1048576) : ∀ (f : Nat) (x : ByteArray) (va : Value) (w : World), x ∈ ordL l → (ordL l).idxOf x < f → UnsAt (fun b => b < n) w va l → n ≤ w.heap.size → Env w →
    Calls Tryz.prog 56 #[va, .string x] w fun e w' => e = .returned (.int .i64 (hashF f l x)) ∧ Below w.heap.size w w' := by
  intro f
  induction f with
  | zero => intro x va w _ h; omega
  | succ f ih =>
    intro x va w hx hf h hn hE
    obtain ⟨u, hul, hux⟩ := List.mem_map.1 ((ordL_inv l).sub x hx)
    have hfu : findU l x = some u := hux ▸ findU_of hd hul
    have hin : incsOf l x = u.incs := by rw [incsOf, hfu]
    have HRK := Lib.hid (fun y (hy : y ∈ u.incs) => incs_rank hd (ordL_inv l) hx (by rw [hin]; exact hy))
    have HT := Lib.hid (show hashF (f + 1) l x = sumF (txtH (hashF f l) u) by rw [hashF, hfu])
    have hwl := wtU_le l u hul
    have HWT := Lib.hid (show u.name.size + (u.incs.length + wtS u.incs) + (u.axs.length + wtS u.axs) + u.goal.size ≤ 1048576 by rw [u.wt_parts]; omega)
    obtain ⟨i, hi, hpl, hli⟩ := place_some hfu
    obtain ⟨p, c, rfl, hlen⟩ := h.form
    unfold maxLen at hlen
    have H := Lib.hid h
    have IH := Lib.hid ih
    have HE := Lib.hid hE
    have HBD := Lib.hid (hashF_bd l f)
    clear h ih hfu hin hux hE
    go_enter Tryz.func56, Tryz.ntmps56
    go_wp2_with fail
    refine (unitAt_any l _ x _ (H.out.below (by (repeat (first | with_reducible exact Below.refl _ _ | with_reducible assumption | with_reducible refine Below.al ?_ _ | with_reducible refine Below.sc ?_ (by first | exact Nat.le_refl _ | (simp; done) | (simp; omega)) _ | assumption | exact Below.refl _ _ | refine Below.dr ?_ | refine Below.drN ?_ _ | refine Below.step ?_ (by assumption)))))).mono ?_
    rintro e w1 ⟨r, rfl, hr, hb1⟩
    rw [hpl] at hr
    obtain rfl : r = (i : Int) := hr
    have hq1 := hb1.size
    obtain ⟨b, o, rfl, hB, p1, c1, p2, c2, hx0, hx1, hx2, hx3, hxu⟩ := (H.out.below hb1).at_ hi
    rw [hli] at hx0 hx1 hx2 hx3 hxu
    obtain ⟨_, _, _, _, q0, q1, q2, q3, -, -, hil, hal, hia, haa⟩ := hxu.form
    simp only [Value.slice.injEq, true_and] at q1 q2
    obtain ⟨rfl, rfl⟩ := q1
    obtain ⟨rfl, rfl⟩ := q2
    clear q0 q3 hxu
    unfold maxLen at hil hal
    have HI := Lib.hid hia
    have HA := Lib.hid haa
    have zb := bsz (World.block_lt_of_cell? _ _ hx0)
    have hi0 : (0 : Int) ≤ i := by omega
    have hil2 : (i : Int) < l.length := by omega
    have HB0 := Lib.hid (Bld.new (w1.alloc (.cells #[.string u.name, .slice p1 u.incs.length c1, .slice p2 u.axs.length c2, .string u.goal] 24)) (w1.heap.size + 1) (by simp))
    clear hia haa hli hpl
    go_wp2_with fail
    refine (write_any (w1.heap.size + 1) (w1.heap.size + 1) [] u.name _ HB0.out (by have := HWT.out; simp; omega) (by simp)).mono ?_
    rw [List.nil_append]
    obtain ⟨W, hW⟩ : ∃ W : World, W = (w1.alloc (.cells #[.string u.name, .slice p1 u.incs.length c1, .slice p2 u.axs.length c2, .string u.goal] 24)).alloc (.cells #[.pointer none, .slice none 0 0] 102) := ⟨_, rfl⟩
    have hbW : Below w1.heap.size w1 W := by rw [hW]; (repeat (first | with_reducible exact Below.refl _ _ | with_reducible assumption | with_reducible refine Below.al ?_ _ | with_reducible refine Below.sc ?_ (by first | exact Nat.le_refl _ | (simp; done) | (simp; omega)) _ | assumption | exact Below.refl _ _ | refine Below.dr ?_ | refine Below.drN ?_ _ | refine Below.step ?_ (by assumption)))
    have hc0 : W.cell? ⟨w1.heap.size, 0, none⟩ = some (.string u.name) := by rw [hW]; go_simp
    have hc1 : W.cell? ⟨w1.heap.size, 1, none⟩ = some (.slice p1 u.incs.length c1) := by rw [hW]; go_simp
    have hc2 : W.cell? ⟨w1.heap.size, 2, none⟩ = some (.slice p2 u.axs.length c2) := by rw [hW]; go_simp
    have hc3 : W.cell? ⟨w1.heap.size, 3, none⟩ = some (.string u.goal) := by rw [hW]; go_simp
    have hzW : w1.heap.size + 1 < W.heap.size := by rw [hW]; simp
    rw [← hW]
    clear hW hx0 hx1 hx2 hx3 HB0
    rintro e w2 ⟨rfl, hB2, hb2⟩
    have HB2 := Lib.hid hB2
    have hlt1 : w1.heap.size < w1.heap.size + 1 := by omega
    have e1 := (hb2.cell (p := ⟨w1.heap.size, 1, none⟩) hlt1).trans hc1
    have e2 := (hb2.cell (p := ⟨w1.heap.size, 2, none⟩) hlt1).trans hc2
    have e3 := (hb2.cell (p := ⟨w1.heap.size, 3, none⟩) hlt1).trans hc3
    have hq2 := hb2.size
    have zu := bsz (World.block_lt_of_cell? _ _ e1)
    clear hB2
    go_wp2
    go_loopw [24] (fun i wr => ∃ k : Nat, k ≤ u.axs.length ∧ i = .int .i64 k ∧ Bld (w1.heap.size + 1) (w1.heap.size + 1) (u.name.data.toList ++ axT (u.axs.take k)) wr ∧ Below (w1.heap.size + 1) W wr) (fun i _ => u.axs.length - (intOf i).toNat)
    case atStart => exact ⟨0, Nat.zero_le _, rfl, by simpa [axT] using HB2.out, hb2⟩
    case round =>
      clear e1 e2 e3 zu
      obtain ⟨k, hk, rfl, hbl, hb⟩ := hrel
      have hbw : Below w1.heap.size w1 wr := hbW.trans (hb.mono (by omega))
      have e1 := (hb.cell (p := ⟨w1.heap.size, 1, none⟩) hlt1).trans hc1
      have e2 := (hb.cell (p := ⟨w1.heap.size, 2, none⟩) hlt1).trans hc2
      have e3 := (hb.cell (p := ⟨w1.heap.size, 3, none⟩) hlt1).trans hc3
      have zu := bsz (World.block_lt_of_cell? _ _ e1)
      have hqr := hb.size
      have hbd := axT_bd (us := u.axs) (k := k)
      have HBL := Lib.hid hbl
      clear hbl
      by_cases hlt : k < u.axs.length
      · obtain ⟨b', o', rfl, hB', hy0, hys⟩ := (HA.out.below hbw).at_ hlt
        have HTK := Lib.hid (axT_take hlt)
        have hmw := wtS_le u.axs _ (List.getElem_mem hlt)
        obtain ⟨a, ha⟩ : ∃ a, u.axs[k] = a := ⟨_, rfl⟩
        rw [ha] at hy0 HTK hmw
        clear ha
        have zb' := bsz (World.block_lt_of_cell? _ _ hy0)
        have hki : (k : Int) < u.axs.length := by omega
        have hgs : ¬ 9223372036854775807 < 1 + a.size := by have := HWT.out; omega
        have hs1 : ((⟨#[10]⟩ : ByteArray) ++ a).size = 1 + a.size := by rw [ByteArray.size_append]; rfl
        have hlen1 : (u.name.data.toList ++ axT (u.axs.take k)).length + ((⟨#[10]⟩ : ByteArray) ++ a).size ≤ 140737488355328 := by
          rw [hs1, List.length_append, ← size_list]; have := HWT.out; omega
        have hle1 : w1.heap.size + 1 ≤ wr.heap.size := by omega
        have HWR := Lib.hid (write_any (w1.heap.size + 1) (w1.heap.size + 1) _ ((⟨#[10]⟩ : ByteArray) ++ a) wr HBL.out hlen1 hle1)
        clear hs1 hlen1
        go_wp2_with fail
        refine HWR.out.mono ?_
        rintro e w3 ⟨rfl, hB3, hb3⟩
        have HB3 := Lib.hid hB3
        clear hB3
        go_wp2
        refine ⟨⟨k + 1, by omega, by go_num, ?_, hb.trans hb3⟩, by simp [intOf]; omega⟩
        rw [HTK.out]
        simpa using HB3.out
      · obtain rfl : k = u.axs.length := by omega
        rw [List.take_length] at hbd HBL
        have HTX := Lib.hid (txtH_eq (hashF f l) u)
        have hAl : (u.name.data.toList ++ axT u.axs).length ≤ 3000000 := by rw [List.length_append, ← size_list]; have := HWT.out; omega
        generalize u.name.data.toList ++ axT u.axs = A at *
        have hgs : ¬ 9223372036854775807 < 2 + u.goal.size := by have := HWT.out; omega
        have hs1 : ((⟨#[10, 63]⟩ : ByteArray) ++ u.goal).size = 2 + u.goal.size := by rw [ByteArray.size_append]; rfl
        have hlen1 : A.length + ((⟨#[10, 63]⟩ : ByteArray) ++ u.goal).size ≤ 140737488355328 := by
          rw [hs1]; have := HWT.out; omega
        have hle1 : w1.heap.size + 1 ≤ wr.heap.size := by omega
        have HWR := Lib.hid (write_any (w1.heap.size + 1) (w1.heap.size + 1) _ ((⟨#[10, 63]⟩ : ByteArray) ++ u.goal) wr HBL.out hlen1 hle1)
        clear hs1 hlen1
        go_wp2_with fail
        refine HWR.out.mono ?_
        rintro e w3 ⟨rfl, hB3, hb3⟩
        have hCl : (A ++ [10, 63] ++ u.goal.data.toList).length ≤ 6000000 := by rw [List.length_append, List.length_append, ← size_list]; have := HWT.out; simp only [List.length_cons, List.length_nil]; omega
        have HB3 := Lib.hid (show Bld (w1.heap.size + 1) (w1.heap.size + 1) (A ++ [10, 63] ++ u.goal.data.toList) w3 by simpa using hB3)
        have HTX2 := Lib.hid (show txtH (hashF f l) u = A ++ [10, 63] ++ u.goal.data.toList ++ inT (hashF f l) u.incs from HTX.out)
        generalize A ++ [10, 63] ++ u.goal.data.toList = C at *
        clear e1 e2 e3 zu hB3
        have hbb := hb.trans hb3
        have e1 := (hbb.cell (p := ⟨w1.heap.size, 1, none⟩) hlt1).trans hc1
        have zu := bsz (World.block_lt_of_cell? _ _ e1)
        go_wp2
        go_loopw [39] (fun i wr => ∃ k : Nat, k ≤ u.incs.length ∧ i = .int .i64 k ∧ Bld (w1.heap.size + 1) (w1.heap.size + 1) (C ++ inT (hashF f l) (u.incs.take k)) wr ∧ Below (w1.heap.size + 1) W wr) (fun i _ => u.incs.length - (intOf i).toNat)
        case atStart => exact ⟨0, Nat.zero_le _, rfl, by simpa [inT] using HB3.out, hbb⟩
        case round =>
          clear hb hb3 hbw e1 zu hbb hqr
          obtain ⟨k, hk, rfl, hbl, hb⟩ := hrel
          have hbw : Below w1.heap.size w1 wr := hbW.trans (hb.mono (by omega))
          have hb0 : Below w.heap.size w wr := Below.step hb1 hbw
          have hqr := hb.size
          have hbd := inT_bd HBD.out (us := u.incs) (k := k)
          have HBL := Lib.hid hbl
          clear hbl
          by_cases hlt : k < u.incs.length
          · obtain ⟨b', o', rfl, hB', hy0, hys⟩ := (HI.out.below hbw).at_ hlt
            have HTK := Lib.hid (inT_take (hashF f l) hlt)
            have hrk := HRK.out _ (List.getElem_mem hlt)
            obtain ⟨a, ha⟩ : ∃ a, u.incs[k] = a := ⟨_, rfl⟩
            rw [ha] at hy0 HTK hrk
            clear ha
            have zb' := bsz (World.block_lt_of_cell? _ _ hy0)
            have hki : (k : Int) < u.incs.length := by omega
            have hbda := HBD.out a
            have hit := itoa_len (hashF f l a) (by omega) (by omega)
            generalize inT (hashF f l) (u.incs.take k) = L at *
            have hgs : ¬ 9223372036854775807 < 2 + (Lib.itoa (hashF f l a)).length := by omega
            go_wp2_with fail
            refine (IH.out a _ _ hrk.1 (by omega) (H.out.below hb0) (by have := hb0.size; omega) (HE.out.below hb0)).mono ?_
            rintro e w4 ⟨rfl, hb4⟩
            go_wp2_with fail
            refine (itoa_any _ (by omega) (by omega) _ (HE.out.below (Below.step hb0 hb4))).mono ?_
            rintro e w5 ⟨rfl, hb5⟩
            have hb45 := Below.step hb4 hb5
            have hs1 : ((⟨#[10, 35]⟩ : ByteArray) ++ ⟨(Lib.itoa (hashF f l a)).toArray⟩).size = 2 + (Lib.itoa (hashF f l a)).length := by rw [ByteArray.size_append]; rfl
            have hlen1 : (C ++ L).length + ((⟨#[10, 35]⟩ : ByteArray) ++ ⟨(Lib.itoa (hashF f l a)).toArray⟩).size ≤ 140737488355328 := by
              rw [hs1, List.length_append]; have := HWT.out; omega
            have hle1 : w1.heap.size + 1 ≤ w5.heap.size := by have := hb45.size; omega
            have HWR := Lib.hid (write_any (w1.heap.size + 1) (w1.heap.size + 1) _ ((⟨#[10, 35]⟩ : ByteArray) ++ ⟨(Lib.itoa (hashF f l a)).toArray⟩) w5 (HBL.out.later hb45) hlen1 hle1)
            clear hs1 hlen1
            go_wp2_with fail
            refine HWR.out.mono ?_
            rintro e w6 ⟨rfl, hB6, hb6⟩
            have HB6 := Lib.hid hB6
            clear hB6
            go_wp2
            refine ⟨⟨k + 1, by omega, by go_num, ?_, (hb.trans (hb45.mono (by omega))).trans hb6⟩, by simp [intOf]; omega⟩
            rw [HTK.out]
            simpa using HB6.out
          · obtain rfl : k = u.incs.length := by omega
            rw [List.take_length, ← HTX2.out] at HBL
            have htl : (txtH (hashF f l) u).length ≤ 100000000 := by
              rw [HTX2.out, List.length_append]
              have h1 := inT_bd HBD.out (us := u.incs) (k := u.incs.length)
              rw [List.take_length] at h1
              have h2 := HWT.out
              omega
            go_wp2_with fail
            refine (Tryz.Builder_String_any_f _ _ _ _ HBL.out (by omega)).mono ?_
            rintro e w3 ⟨rfl, -, hb3⟩
            go_wp2_with fail
            refine (same_below (checksum_any _ _ (show (txtH (hashF f l) u).toArray.size ≤ maxLen by rw [List.size_toArray]; unfold maxLen; omega))).mono ?_
            rintro e w4 ⟨rfl, hb4⟩
            go_wp2
            go_ret
            exact ⟨ret_int HT.out.symm, Below.step (hb0.trans (hb3.mono (by omega))) hb4⟩
end Go.Proofs.YtimpkjiglioflaaGreatDoor
namespace Go.Proofs.YtimpkjiglioflaaGreatDoor
open Go.RowKit
def unitOf (l : List Un) (x : ByteArray) : Bool := libGood l && (placeU l x).isSome
def hashV (l : List Un) (x : ByteArray) : Int := if unitOf l x then hashU l x else 0
theorem libGood_parts {l : List Un} (h : libGood l = true) : Dist l ∧ (ordL l).length = l.length ∧ ∀ u ∈ l, u.good = true := by
  rw [libGood, Bool.and_eq_true, Bool.and_eq_true] at h
  exact ⟨unitsF_dist l none h.1.1, of_decide_eq_true h.2, unitsF_good l none h.1.1⟩
theorem place_mem {l : List Un} {x : ByteArray} (h : (placeU l x).isSome = true) : ∃ u ∈ l, u.name = x := by
  cases hf : findU l x with
  | none => rw [place_none.2 hf] at h; cases h
  | some u => exact ⟨u, findU_some hf⟩
theorem unitOf_parts {l : List Un} {x : ByteArray} (h : unitOf l x = true) : Dist l ∧ (ordL l).length = l.length ∧ x ∈ ordL l ∧ (ordL l).idxOf x < l.length := by
  rw [unitOf, Bool.and_eq_true] at h
  obtain ⟨h1, h2, h3⟩ := libGood_parts h.1
  obtain ⟨u, hu, rfl⟩ := place_mem h.2
  have := full_all h2 u hu
  exact ⟨h1, h2, this, idx_lt h2 this⟩
set_option maxRecDepth 100000 in
set_option maxHeartbeats 800000 in
theorem isUnitOf_any {B : Nat → Prop} (l : List Un) (va : Value) (x : ByteArray) (w : World) (h : UnsAt B w va l) (hw : l.length + wtU l ≤ 1048576) :
    Calls Tryz.prog 55 #[va, .string x] w fun e w' => e = .returned (.bool (unitOf l x)) ∧ Below w.heap.size w w' := by
  obtain ⟨p, c, rfl, hlen⟩ := h.form
  have H := Lib.hid h
  have HU := Lib.hid (show unitOf l x = (libGood l && (placeU l x).isSome) from rfl)
  clear h
  go_enter Tryz.func55, Tryz.ntmps55
  go_wp2_with fail
  refine (implLib_any l _ _ (H.out.below (by (repeat (first | with_reducible exact Below.refl _ _ | with_reducible assumption | with_reducible refine Below.al ?_ _ | with_reducible refine Below.sc ?_ (by first | exact Nat.le_refl _ | (simp; done) | (simp; omega)) _ | assumption | exact Below.refl _ _ | refine Below.dr ?_ | refine Below.drN ?_ _ | refine Below.step ?_ (by assumption))))) hw).mono ?_
  rintro e w1 ⟨rfl, hb1⟩
  have ⟨cw1, fw1⟩ := bcell hb1
  have qw1 := hb1.size
  (try simp at qw1)
  (try have zw1w := bsz (show w.heap.size < w1.heap.size by omega))
  cases hg : libGood l
  · have HG := Lib.hid hg
    go_wp2
    go_ret
    exact ⟨ret_bool (by rw [HU.out, HG.out]; rfl), by (repeat (first | with_reducible exact Below.refl _ _ | with_reducible assumption | with_reducible refine Below.al ?_ _ | with_reducible refine Below.sc ?_ (by first | exact Nat.le_refl _ | (simp; done) | (simp; omega)) _ | assumption | exact Below.refl _ _ | refine Below.dr ?_ | refine Below.drN ?_ _ | refine Below.step ?_ (by assumption)))⟩
  · have HG := Lib.hid hg
    go_wp2_with fail
    refine (unitAt_any l _ x _ (H.out.below (by (repeat (first | with_reducible exact Below.refl _ _ | with_reducible assumption | with_reducible refine Below.al ?_ _ | with_reducible refine Below.sc ?_ (by first | exact Nat.le_refl _ | (simp; done) | (simp; omega)) _ | assumption | exact Below.refl _ _ | refine Below.dr ?_ | refine Below.drN ?_ _ | refine Below.step ?_ (by assumption)))))).mono ?_
    rintro e w2 ⟨r, rfl, hr, hb2⟩
    have HR := Lib.hid (show decide (0 ≤ r) = unitOf l x by rw [hr, atI_neg, HU.out, HG.out, Bool.true_and])
    clear hr
    go_wp2
    go_ret
    exact ⟨ret_bool HR.out, by (repeat (first | with_reducible exact Below.refl _ _ | with_reducible assumption | with_reducible refine Below.al ?_ _ | with_reducible refine Below.sc ?_ (by first | exact Nat.le_refl _ | (simp; done) | (simp; omega)) _ | assumption | exact Below.refl _ _ | refine Below.dr ?_ | refine Below.drN ?_ _ | refine Below.step ?_ (by assumption)))⟩
set_option maxRecDepth 100000 in
set_option maxHeartbeats 800000 in
theorem implUH_any (l : List Un) (n : Nat) (va : Value) (x : ByteArray) (w : World) (h : UnsAt (fun b => b < n) w va l) (hn : n ≤ w.heap.size) (hE : Env w) (hw : l.length + wtU l ≤ 1048576) :
    Calls Tryz.prog 16 #[va, .string x] w fun e w' => e = .returned (.tuple #[.int .i64 (hashV l x), .bool (unitOf l x)]) ∧ Below w.heap.size w w' := by
  obtain ⟨p, c, rfl, hlen⟩ := h.form
  have H := Lib.hid h
  have HE := Lib.hid hE
  clear h hE
  cases hg : unitOf l x
  · have HG := Lib.hid hg
    go_enter Tryz.func16, Tryz.ntmps16
    go_wp2_with fail
    refine (isUnitOf_any l _ x _ (H.out.below (by (repeat (first | with_reducible exact Below.refl _ _ | with_reducible assumption | with_reducible refine Below.al ?_ _ | with_reducible refine Below.sc ?_ (by first | exact Nat.le_refl _ | (simp; done) | (simp; omega)) _ | assumption | exact Below.refl _ _ | refine Below.dr ?_ | refine Below.drN ?_ _ | refine Below.step ?_ (by assumption))))) hw).mono ?_
    rintro e w1 ⟨rfl, hb1⟩
    have ⟨cw1, fw1⟩ := bcell hb1
    have qw1 := hb1.size
    (try simp at qw1)
    (try have zw1w := bsz (show w.heap.size < w1.heap.size by omega))
    rw [HG.out]
    go_wp2
    go_ret2
    exact ⟨by rw [hashV, HG.out]; rfl, by (repeat (first | with_reducible exact Below.refl _ _ | with_reducible assumption | with_reducible refine Below.al ?_ _ | with_reducible refine Below.sc ?_ (by first | exact Nat.le_refl _ | (simp; done) | (simp; omega)) _ | assumption | exact Below.refl _ _ | refine Below.dr ?_ | refine Below.drN ?_ _ | refine Below.step ?_ (by assumption)))⟩
  · have HG := Lib.hid hg
    obtain ⟨h1, h2, h3, h4⟩ := unitOf_parts hg
    go_enter Tryz.func16, Tryz.ntmps16
    go_wp2_with fail
    refine (isUnitOf_any l _ x _ (H.out.below (by (repeat (first | with_reducible exact Below.refl _ _ | with_reducible assumption | with_reducible refine Below.al ?_ _ | with_reducible refine Below.sc ?_ (by first | exact Nat.le_refl _ | (simp; done) | (simp; omega)) _ | assumption | exact Below.refl _ _ | refine Below.dr ?_ | refine Below.drN ?_ _ | refine Below.step ?_ (by assumption))))) hw).mono ?_
    rintro e w1 ⟨rfl, hb1⟩
    have ⟨cw1, fw1⟩ := bcell hb1
    have qw1 := hb1.size
    (try simp at qw1)
    (try have zw1w := bsz (show w.heap.size < w1.heap.size by omega))
    rw [HG.out]
    go_wp2_with fail
    refine (hashOf_any l n h1 hw l.length x _ _ h3 h4 (H.out.below (by (repeat (first | with_reducible exact Below.refl _ _ | with_reducible assumption | with_reducible refine Below.al ?_ _ | with_reducible refine Below.sc ?_ (by first | exact Nat.le_refl _ | (simp; done) | (simp; omega)) _ | assumption | exact Below.refl _ _ | refine Below.dr ?_ | refine Below.drN ?_ _ | refine Below.step ?_ (by assumption))))) (by omega) (HE.out.below (by (repeat (first | with_reducible exact Below.refl _ _ | with_reducible assumption | with_reducible refine Below.al ?_ _ | with_reducible refine Below.sc ?_ (by first | exact Nat.le_refl _ | (simp; done) | (simp; omega)) _ | assumption | exact Below.refl _ _ | refine Below.dr ?_ | refine Below.drN ?_ _ | refine Below.step ?_ (by assumption)))))).mono ?_
    rintro e w2 ⟨rfl, hb2⟩
    have ⟨cw2, fw2⟩ := bcell hb2
    have qw2 := hb2.size
    (try simp at qw2)
    (try have zw2w := bsz (show w.heap.size < w2.heap.size by omega))
    (try have zw2w1 := bsz (show w1.heap.size < w2.heap.size by omega))
    go_wp2
    go_ret2
    exact ⟨by rw [hashV, HG.out, if_pos rfl]; rfl, by (repeat (first | with_reducible exact Below.refl _ _ | with_reducible assumption | with_reducible refine Below.al ?_ _ | with_reducible refine Below.sc ?_ (by first | exact Nat.le_refl _ | (simp; done) | (simp; omega)) _ | assumption | exact Below.refl _ _ | refine Below.dr ?_ | refine Below.drN ?_ _ | refine Below.step ?_ (by assumption)))⟩
set_option maxRecDepth 100000 in
set_option maxHeartbeats 800000 in
theorem specUH_any (l : List Un) (n : Nat) (va : Value) (x : ByteArray) (w : World) (h : UnsAt (fun b => b < n) w va l) (hn : n ≤ w.heap.size) (hw : l.length + wtU l ≤ 1048576) :
    Calls Tryz.prog 14 #[va, .string x] w fun e w' => e = .returned (.tuple #[.int .i64 (hashV l x), .bool (unitOf l x)]) ∧ Below w.heap.size w w' := by
  obtain ⟨p, c, rfl, hlen⟩ := h.form
  have H := Lib.hid h
  have HU := Lib.hid (show unitOf l x = (libGood l && (placeU l x).isSome) from rfl)
  clear h
  cases hg : libGood l
  · have HG := Lib.hid hg
    have HO := Lib.hid (show unitOf l x = false by rw [HU.out, hg]; rfl)
    go_enter Tryz.func14, Tryz.ntmps14
    go_wp2_with fail
    refine (specLib_any l _ _ (H.out.below (by (repeat (first | with_reducible exact Below.refl _ _ | with_reducible assumption | with_reducible refine Below.al ?_ _ | with_reducible refine Below.sc ?_ (by first | exact Nat.le_refl _ | (simp; done) | (simp; omega)) _ | assumption | exact Below.refl _ _ | refine Below.dr ?_ | refine Below.drN ?_ _ | refine Below.step ?_ (by assumption))))) hw).mono ?_
    rintro e w1 ⟨rfl, hb1⟩
    have ⟨cw1, fw1⟩ := bcell hb1
    have qw1 := hb1.size
    (try simp at qw1)
    (try have zw1w := bsz (show w.heap.size < w1.heap.size by omega))
    rw [HG.out]
    go_wp2
    go_ret2
    exact ⟨by rw [hashV, HO.out]; rfl, by (repeat (first | with_reducible exact Below.refl _ _ | with_reducible assumption | with_reducible refine Below.al ?_ _ | with_reducible refine Below.sc ?_ (by first | exact Nat.le_refl _ | (simp; done) | (simp; omega)) _ | assumption | exact Below.refl _ _ | refine Below.dr ?_ | refine Below.drN ?_ _ | refine Below.step ?_ (by assumption)))⟩
  cases hp : placeU l x with
  | none =>
    have HG := Lib.hid hg
    have HP := Lib.hid hp
    have HO := Lib.hid (show unitOf l x = false by rw [HU.out, hp]; simp)
    go_enter Tryz.func14, Tryz.ntmps14
    go_wp2_with fail
    refine (specLib_any l _ _ (H.out.below (by (repeat (first | with_reducible exact Below.refl _ _ | with_reducible assumption | with_reducible refine Below.al ?_ _ | with_reducible refine Below.sc ?_ (by first | exact Nat.le_refl _ | (simp; done) | (simp; omega)) _ | assumption | exact Below.refl _ _ | refine Below.dr ?_ | refine Below.drN ?_ _ | refine Below.step ?_ (by assumption))))) hw).mono ?_
    rintro e w1 ⟨rfl, hb1⟩
    have ⟨cw1, fw1⟩ := bcell hb1
    have qw1 := hb1.size
    (try simp at qw1)
    (try have zw1w := bsz (show w.heap.size < w1.heap.size by omega))
    rw [HG.out]
    go_wp2_with fail
    refine (l27Find_any l _ x _ (H.out.below (by (repeat (first | with_reducible exact Below.refl _ _ | with_reducible assumption | with_reducible refine Below.al ?_ _ | with_reducible refine Below.sc ?_ (by first | exact Nat.le_refl _ | (simp; done) | (simp; omega)) _ | assumption | exact Below.refl _ _ | refine Below.dr ?_ | refine Below.drN ?_ _ | refine Below.step ?_ (by assumption)))))).mono ?_
    rintro e w2 ⟨r, rfl, hr, hb2⟩
    rw [HP.out] at hr
    obtain rfl : r = -1 := hr
    go_wp2
    go_ret2
    exact ⟨by rw [hashV, HO.out]; rfl, by (repeat (first | with_reducible exact Below.refl _ _ | with_reducible assumption | with_reducible refine Below.al ?_ _ | with_reducible refine Below.sc ?_ (by first | exact Nat.le_refl _ | (simp; done) | (simp; omega)) _ | assumption | exact Below.refl _ _ | refine Below.dr ?_ | refine Below.drN ?_ _ | refine Below.step ?_ (by assumption)))⟩
  | some i =>
    have HG := Lib.hid hg
    have HP := Lib.hid hp
    have hO : unitOf l x = true := by rw [HU.out, hp, hg]; rfl
    obtain ⟨h1, h2, h3, h4⟩ := unitOf_parts hO
    have HO := Lib.hid hO
    go_enter Tryz.func14, Tryz.ntmps14
    go_wp2_with fail
    refine (specLib_any l _ _ (H.out.below (by (repeat (first | with_reducible exact Below.refl _ _ | with_reducible assumption | with_reducible refine Below.al ?_ _ | with_reducible refine Below.sc ?_ (by first | exact Nat.le_refl _ | (simp; done) | (simp; omega)) _ | assumption | exact Below.refl _ _ | refine Below.dr ?_ | refine Below.drN ?_ _ | refine Below.step ?_ (by assumption))))) hw).mono ?_
    rintro e w1 ⟨rfl, hb1⟩
    have ⟨cw1, fw1⟩ := bcell hb1
    have qw1 := hb1.size
    (try simp at qw1)
    (try have zw1w := bsz (show w.heap.size < w1.heap.size by omega))
    rw [HG.out]
    go_wp2_with fail
    refine (l27Find_any l _ x _ (H.out.below (by (repeat (first | with_reducible exact Below.refl _ _ | with_reducible assumption | with_reducible refine Below.al ?_ _ | with_reducible refine Below.sc ?_ (by first | exact Nat.le_refl _ | (simp; done) | (simp; omega)) _ | assumption | exact Below.refl _ _ | refine Below.dr ?_ | refine Below.drN ?_ _ | refine Below.step ?_ (by assumption)))))).mono ?_
    rintro e w2 ⟨r, rfl, hr, hb2⟩
    rw [HP.out] at hr
    obtain rfl : r = (i : Int) := hr
    have hi0 : ¬ ((i : Int) < 0) := by omega
    have qq := hb2.size
    go_wp2_with fail
    refine (l27Hash_any l n h1 hw l.length x _ _ h3 h4 (H.out.below (by (repeat (first | with_reducible exact Below.refl _ _ | with_reducible assumption | with_reducible refine Below.al ?_ _ | with_reducible refine Below.sc ?_ (by first | exact Nat.le_refl _ | (simp; done) | (simp; omega)) _ | assumption | exact Below.refl _ _ | refine Below.dr ?_ | refine Below.drN ?_ _ | refine Below.step ?_ (by assumption))))) (by omega)).mono ?_
    rintro e w3 ⟨rfl, hb3⟩
    go_wp2
    go_ret2
    exact ⟨by rw [hashV, HO.out, if_pos rfl]; rfl, by (repeat (first | with_reducible exact Below.refl _ _ | with_reducible assumption | with_reducible refine Below.al ?_ _ | with_reducible refine Below.sc ?_ (by first | exact Nat.le_refl _ | (simp; done) | (simp; omega)) _ | assumption | exact Below.refl _ _ | refine Below.dr ?_ | refine Below.drN ?_ _ | refine Below.step ?_ (by assumption)))⟩
set_option maxRecDepth 100000 in
set_option maxHeartbeats 1600000 in
theorem exactUH {B : Nat → Prop} (l : List Un) (v : Value) (x : ByteArray) (w : World) (hE : Env w) (h : UnsAt B w v l) (hx : x.size ≤ maxLen) :
    Calls Tryz.prog 4 #[v, .string x] w fun e w' => e = .returned (.bool true) ∧ Below w.heap.size w w' := by
  obtain ⟨p, c, rfl, hlen⟩ := h.form
  unfold maxLen at hx
  have H := Lib.hid h
  have HE := Lib.hid hE
  clear h hE
  by_cases hxs : (1048576 : Int) < x.size
  · go_enter Tryz.func4, Tryz.ntmps4
    go_wp2
    go_ret
    exact ⟨rfl, by (repeat (first | with_reducible exact Below.refl _ _ | with_reducible assumption | with_reducible refine Below.al ?_ _ | with_reducible refine Below.sc ?_ (by first | exact Nat.le_refl _ | (simp; done) | (simp; omega)) _ | assumption | exact Below.refl _ _ | refine Below.dr ?_ | refine Below.drN ?_ _ | refine Below.step ?_ (by assumption)))⟩
  by_cases hw : l.length + wtU l ≤ 1048576
  · have HR := Lib.hid (show szR 1048576 (l.length + wtU l) = 1048576 - ((l.length : Int) + (wtU l : Nat)) by rw [szR, if_pos (by omega)]; omega)
    have hw0 : ¬ (1048576 - ((l.length : Int) + (wtU l : Nat)) < 0) := by omega
    have hpp : (unitOf l x != unitOf l x) = false := by simp
    have hpq : (hashV l x != hashV l x) = false := by simp
    go_enter Tryz.func4, Tryz.ntmps4
    go_wp2_with fail
    refine (szUnitS_any l _ _ _ (H.out.below (by (repeat (first | with_reducible exact Below.refl _ _ | with_reducible assumption | with_reducible refine Below.al ?_ _ | with_reducible refine Below.sc ?_ (by first | exact Nat.le_refl _ | (simp; done) | (simp; omega)) _ | assumption | exact Below.refl _ _ | refine Below.dr ?_ | refine Below.drN ?_ _ | refine Below.step ?_ (by assumption))))) (by omega) (by omega)).mono ?_
    rintro e w1 ⟨rfl, hb1⟩
    have ⟨cw1, fw1⟩ := bcell hb1
    have qw1 := hb1.size
    (try simp at qw1)
    (try have zw1w := bsz (show w.heap.size < w1.heap.size by omega))
    rw [HR.out]
    go_wp2_with fail
    refine (toUnitS_own l _ _ (H.out.below (by (repeat (first | with_reducible exact Below.refl _ _ | with_reducible assumption | with_reducible refine Below.al ?_ _ | with_reducible refine Below.sc ?_ (by first | exact Nat.le_refl _ | (simp; done) | (simp; omega)) _ | assumption | exact Below.refl _ _ | refine Below.dr ?_ | refine Below.drN ?_ _ | refine Below.step ?_ (by assumption))))) hw).mono ?_
    rintro e w2 ⟨g1, rfl, hu1, hb2⟩
    have ⟨cw2, fw2⟩ := bcell hb2
    have qw2 := hb2.size
    (try simp at qw2)
    (try have zw2w := bsz (show w.heap.size < w2.heap.size by omega))
    (try have zw2w1 := bsz (show w1.heap.size < w2.heap.size by omega))
    have HU1 := Lib.hid (hu1.at_.mono (B' := fun b => b < w2.heap.size) (SameOn.refl _ _) (fun b hb => hb.2))
    clear hu1
    go_wp2_with fail
    refine (specUH_any l w2.heap.size _ x _ (HU1.out.below (by (repeat (first | with_reducible exact Below.refl _ _ | with_reducible assumption | with_reducible refine Below.al ?_ _ | with_reducible refine Below.sc ?_ (by first | exact Nat.le_refl _ | (simp; done) | (simp; omega)) _ | assumption | exact Below.refl _ _ | refine Below.dr ?_ | refine Below.drN ?_ _ | refine Below.step ?_ (by assumption))))) (Nat.le_refl _) hw).mono ?_
    rintro e w3 ⟨rfl, hb3⟩
    have ⟨cw3, fw3⟩ := bcell hb3
    have qw3 := hb3.size
    (try simp at qw3)
    (try have zw3w := bsz (show w.heap.size < w3.heap.size by omega))
    (try have zw3w1 := bsz (show w1.heap.size < w3.heap.size by omega))
    (try have zw3w2 := bsz (show w2.heap.size < w3.heap.size by omega))
    go_wp2_with fail
    refine (toUnitS_own l _ _ (H.out.below (by (repeat (first | with_reducible exact Below.refl _ _ | with_reducible assumption | with_reducible refine Below.al ?_ _ | with_reducible refine Below.sc ?_ (by first | exact Nat.le_refl _ | (simp; done) | (simp; omega)) _ | assumption | exact Below.refl _ _ | refine Below.dr ?_ | refine Below.drN ?_ _ | refine Below.step ?_ (by assumption))))) hw).mono ?_
    rintro e w4 ⟨g2, rfl, hu2, hb4⟩
    have ⟨cw4, fw4⟩ := bcell hb4
    have qw4 := hb4.size
    (try simp at qw4)
    (try have zw4w := bsz (show w.heap.size < w4.heap.size by omega))
    (try have zw4w1 := bsz (show w1.heap.size < w4.heap.size by omega))
    (try have zw4w2 := bsz (show w2.heap.size < w4.heap.size by omega))
    (try have zw4w3 := bsz (show w3.heap.size < w4.heap.size by omega))
    have HU2 := Lib.hid (hu2.at_.mono (B' := fun b => b < w4.heap.size) (SameOn.refl _ _) (fun b hb => hb.2))
    clear hu2
    go_wp2_with fail
    refine (implUH_any l w4.heap.size _ x _ (HU2.out.below (by (repeat (first | with_reducible exact Below.refl _ _ | with_reducible assumption | with_reducible refine Below.al ?_ _ | with_reducible refine Below.sc ?_ (by first | exact Nat.le_refl _ | (simp; done) | (simp; omega)) _ | assumption | exact Below.refl _ _ | refine Below.dr ?_ | refine Below.drN ?_ _ | refine Below.step ?_ (by assumption))))) (Nat.le_refl _) (HE.out.below (by (repeat (first | with_reducible exact Below.refl _ _ | with_reducible assumption | with_reducible refine Below.al ?_ _ | with_reducible refine Below.sc ?_ (by first | exact Nat.le_refl _ | (simp; done) | (simp; omega)) _ | assumption | exact Below.refl _ _ | refine Below.dr ?_ | refine Below.drN ?_ _ | refine Below.step ?_ (by assumption))))) hw).mono ?_
    rintro e w5 ⟨rfl, hb5⟩
    have ⟨cw5, fw5⟩ := bcell hb5
    have qw5 := hb5.size
    (try simp at qw5)
    (try have zw5w := bsz (show w.heap.size < w5.heap.size by omega))
    (try have zw5w1 := bsz (show w1.heap.size < w5.heap.size by omega))
    (try have zw5w2 := bsz (show w2.heap.size < w5.heap.size by omega))
    (try have zw5w3 := bsz (show w3.heap.size < w5.heap.size by omega))
    (try have zw5w4 := bsz (show w4.heap.size < w5.heap.size by omega))
    go_wp2_with fail
    refine (toUnitS_own l _ _ (H.out.below (by (repeat (first | with_reducible exact Below.refl _ _ | with_reducible assumption | with_reducible refine Below.al ?_ _ | with_reducible refine Below.sc ?_ (by first | exact Nat.le_refl _ | (simp; done) | (simp; omega)) _ | assumption | exact Below.refl _ _ | refine Below.dr ?_ | refine Below.drN ?_ _ | refine Below.step ?_ (by assumption))))) hw).mono ?_
    rintro e w6 ⟨g3, rfl, hu3, hb6⟩
    have ⟨cw6, fw6⟩ := bcell hb6
    have qw6 := hb6.size
    (try simp at qw6)
    (try have zw6w := bsz (show w.heap.size < w6.heap.size by omega))
    (try have zw6w1 := bsz (show w1.heap.size < w6.heap.size by omega))
    (try have zw6w2 := bsz (show w2.heap.size < w6.heap.size by omega))
    (try have zw6w3 := bsz (show w3.heap.size < w6.heap.size by omega))
    (try have zw6w4 := bsz (show w4.heap.size < w6.heap.size by omega))
    (try have zw6w5 := bsz (show w5.heap.size < w6.heap.size by omega))
    have HU3 := Lib.hid hu3.at_
    clear hu3
    go_wp2_with fail
    refine (eqUnitS_same l _ _ _ (HU2.out.below (by (repeat (first | with_reducible exact Below.refl _ _ | with_reducible assumption | with_reducible refine Below.al ?_ _ | with_reducible refine Below.sc ?_ (by first | exact Nat.le_refl _ | (simp; done) | (simp; omega)) _ | assumption | exact Below.refl _ _ | refine Below.dr ?_ | refine Below.drN ?_ _ | refine Below.step ?_ (by assumption))))) (HU3.out.below (by (repeat (first | with_reducible exact Below.refl _ _ | with_reducible assumption | with_reducible refine Below.al ?_ _ | with_reducible refine Below.sc ?_ (by first | exact Nat.le_refl _ | (simp; done) | (simp; omega)) _ | assumption | exact Below.refl _ _ | refine Below.dr ?_ | refine Below.drN ?_ _ | refine Below.step ?_ (by assumption)))))).mono ?_
    rintro e w7 ⟨rfl, hb7⟩
    have ⟨cw7, fw7⟩ := bcell hb7
    have qw7 := hb7.size
    (try simp at qw7)
    (try have zw7w := bsz (show w.heap.size < w7.heap.size by omega))
    (try have zw7w1 := bsz (show w1.heap.size < w7.heap.size by omega))
    (try have zw7w2 := bsz (show w2.heap.size < w7.heap.size by omega))
    (try have zw7w3 := bsz (show w3.heap.size < w7.heap.size by omega))
    (try have zw7w4 := bsz (show w4.heap.size < w7.heap.size by omega))
    (try have zw7w5 := bsz (show w5.heap.size < w7.heap.size by omega))
    (try have zw7w6 := bsz (show w6.heap.size < w7.heap.size by omega))
    go_wp2
    go_ret
    exact ⟨rfl, by (repeat (first | with_reducible exact Below.refl _ _ | with_reducible assumption | with_reducible refine Below.al ?_ _ | with_reducible refine Below.sc ?_ (by first | exact Nat.le_refl _ | (simp; done) | (simp; omega)) _ | assumption | exact Below.refl _ _ | refine Below.dr ?_ | refine Below.drN ?_ _ | refine Below.step ?_ (by assumption)))⟩
  · have HR := Lib.hid (show szR 1048576 (l.length + wtU l) = -1 from if_neg (by omega))
    go_enter Tryz.func4, Tryz.ntmps4
    go_wp2_with fail
    refine (szUnitS_any l _ _ _ (H.out.below (by (repeat (first | with_reducible exact Below.refl _ _ | with_reducible assumption | with_reducible refine Below.al ?_ _ | with_reducible refine Below.sc ?_ (by first | exact Nat.le_refl _ | (simp; done) | (simp; omega)) _ | assumption | exact Below.refl _ _ | refine Below.dr ?_ | refine Below.drN ?_ _ | refine Below.step ?_ (by assumption))))) (by omega) (by omega)).mono ?_
    rintro e w1 ⟨rfl, hb1⟩
    have ⟨cw1, fw1⟩ := bcell hb1
    have qw1 := hb1.size
    (try simp at qw1)
    (try have zw1w := bsz (show w.heap.size < w1.heap.size by omega))
    rw [HR.out]
    go_wp2
    go_ret
    exact ⟨rfl, by (repeat (first | with_reducible exact Below.refl _ _ | with_reducible assumption | with_reducible refine Below.al ?_ _ | with_reducible refine Below.sc ?_ (by first | exact Nat.le_refl _ | (simp; done) | (simp; omega)) _ | assumption | exact Below.refl _ _ | refine Below.dr ?_ | refine Below.drN ?_ _ | refine Below.step ?_ (by assumption)))⟩
end Go.Proofs.YtimpkjiglioflaaGreatDoor
namespace Go.Proofs.YtimpkjiglioflaaGreatDoor
open Go.ChangeShapes Go.WideShapes Go.ChangeAt Go.RowKit Go.Joins
theorem own : ownKnob Tryz.prog.godebug = none := by kernel_rfl
theorem laidOut : laidOutB Tryz.prog = true := by kernel_rfl
theorem trodAll_stays {H : Type} {enc : TypeId × Value → H} {P : Program} (hl : laidOutB P = true) {W W' : World} {sp : Nat → Bool} : ∀ (ts : List TypeId) (vs : List Value) (ds : List (DataW H)) (ps : List MemPlace),
    (∀ t ∈ ts, P.readableRec t = true ∧ t < P.types.size) → DataW.TrodAll enc P W 0 (fun _ => true) true ts vs ds ps → (∀ x ∈ ps, W.sameAt W' x) → (∀ x ∈ ps, sp x.block = true) → DataW.TrodAll enc P W' 0 sp true ts vs ds ps
  | [], vs, ds, ps, _, h, _, _ => by
    cases vs <;> cases ds <;> simp_all [DataW.TrodAll]
  | t :: ts, [], ds, ps, _, h, _, _ => by simp [DataW.TrodAll] at h
  | t :: ts, v :: vs, [], ps, _, h, _, _ => by simp [DataW.TrodAll] at h
  | t :: ts, v :: vs, d :: ds, ps, ht, h, hs, hp => by
    obtain ⟨p, q, h1, h2, rfl⟩ := h
    exact ⟨p, q, WideElems.Trod_stays hl (ht t (by simp)).1 (ht t (by simp)).2 h1 (fun x hx => hs x (by simp [hx])) (fun x hx => hp x (by simp [hx])),
      trodAll_stays hl ts vs ds q (fun t h => ht t (by simp [h])) h2 (fun x hx => hs x (by simp [hx])) (fun x hx => hp x (by simp [hx])), rfl⟩
/-- The row's last step, the same for every law: it answers true, nothing that was there has turned. -/
theorem close_true {H : Type} {enc : TypeId × Value → H} {f : Func} {s : ChangeSpec} {W W' : World} {args : Array Value} {ds gs : List (DataW H)} {before : List MemPlace}
    (hW : DataW.Whole enc Tryz.prog f.params.toList s.vars false W args.toList ds gs before) (hv : s.vars = []) (hr : f.resultTypes = #[4])
    (hp : f.params.toList.all (fun t => Tryz.prog.readableRec t && decide (t < Tryz.prog.types.size)) = true) (hfn : s.fn H ds = { results := [.lit (.bool true)], args := ds }) (hb : Below W.heap.size W W') :
    s.post enc Tryz.prog f false true false false W args (.bool true) W' := by
  have hW2 := hW
  have hlt : ∀ p ∈ before, p.block < W.heap.size := fun p hp => hW.lt p hp
  obtain ⟨p, q, hA, hV, rfl, _, _⟩ := hW2
  rw [hv] at hV
  obtain ⟨rfl, rfl⟩ := trodVars_none hV
  rw [List.append_nil] at hlt
  refine ⟨ds, [], p ++ [], [], p, [], hW, ?_, ?_, ?_, hb.frame _, fun h => by cases h⟩
  · rw [List.append_nil, hfn, hr]; exact trodAll_mk1 (shut_bool Tryz.underlying4 true)
  · rw [List.append_nil, hfn]
    refine trodAll_stays laidOut _ _ _ _ (fun t ht => ?_) hA (fun x hx => hb.same (hlt x hx)) (fun x hx => by simpa using hlt x hx)
    have := List.all_eq_true.1 hp t ht
    simpa using this
  · rw [List.append_nil, hfn, hv]; rfl
def tab32 : List Int := [0, 1, 28, 2, 29, 14, 24, 3, 30, 22, 20, 15, 25, 17, 4, 8, 31, 27, 13, 23, 21, 19, 16, 7, 26, 12, 18, 6, 11, 5, 10, 9]
def tab64 : List Int := [0, 1, 56, 2, 57, 49, 28, 3, 61, 58, 42, 50, 38, 29, 17, 4, 62, 47, 59, 36, 45, 43, 51, 22, 53, 39, 33, 30, 24, 18, 12, 5, 63, 55, 48, 27, 60, 41, 37, 16, 46, 35, 44, 21, 52, 32, 23, 11, 54, 26, 40, 15, 34, 20, 31, 10, 25, 14, 19, 9, 13, 8, 7, 6]
theorem gPowType : (Tryz.prog.globals[3]?).map (·.type) = some 207 := by kernel_rfl
theorem cellsPow : Tryz.prog.cellsOf 207 = 20 := by kernel_rfl
theorem cellsU64 : Tryz.prog.cellsOf 81 = 1 := by kernel_rfl
/-- What the rows' list gives. -/
theorem env_of {W : World} (h : laidMet Tryz.prog [("math/bits.deBruijn32tab", Rows.laid_math_bits_deBruijn32tab), ("math/bits.deBruijn64tab", Rows.laid_math_bits_deBruijn64tab), ("internal/strconv.uint64pow10", Rows.laid_internal_strconv_uint64pow10)] W) (hS : W.ShapedOpen Tryz.prog) : Env W := by
  have h3 : Lib.TabIs Tryz.prog W "internal/strconv.uint64pow10" .u64 Lib.pow10Tab :=
    Lib.tabIs_of_head (rest := []) gPow10 gPowType Tryz.underlying207 Tryz.underlying81 cellsU64 cellsPow (laidMet.tail (laidMet.tail h))
  obtain ⟨m, hm⟩ : ∃ m, W.cell? ⟨0, 0, none⟩ = some (.int .i64 m) := Go.Proofs.cell_of_shapedOpen_int (zero := #[.int .i64 0]) (t := 3) hS (of_decide_eq_true (by kernel_rfl)) (by kernel_rfl) rfl (by kernel_rfl) (by kernel_rfl) Tryz.underlying3
  have hz := World.block_lt_of_cell? W _ hm
  have hm' : W.cell? ⟨0, 0, none⟩ = some (.int .i64 m) := hm
  refine ⟨⟨m, hm'⟩, h3, hz, ?_⟩
  rcases Nat.lt_or_ge 3 W.heap.size with hlt | hge
  · exact hlt
  · have h3' := h3
    unfold Lib.TabIs World.var? at h3'
    rw [gPow10] at h3'
    simp only [Option.bind_some] at h3'
    rw [Array.getElem?_eq_none hge] at h3'
    cases h3'
def layTab (k : IntKind) (zs : List Int) : Obj → Obj
  | .cells _ t frozen => .cells (zs.map fun z => Value.int k z).toArray t frozen
  | o => o
/-- A world for the witness: the settled one, the tables holding what their initialisers lay. -/
noncomputable def laidWorld (os : Os) : World :=
  { World.holding Tryz.prog os ⟨#[], #[], []⟩ with heap := (((World.holding Tryz.prog os ⟨#[], #[], []⟩).heap.modify 3 (layTab .u64 Lib.pow10Tab)).modify 4 (layTab .u8 tab32)).modify 5 (layTab .u8 tab64) }
end Go.Proofs.YtimpkjiglioflaaGreatDoor
namespace Go.Proofs.YtimpkjiglioflaaGreatDoor
open Go.RowKit Go.ChangeShapes Go.WideShapes
theorem addr_addN (b o : Nat) (i : Nat) : (⟨b, o, none⟩ : Addr).add i = ⟨b, o + i, none⟩ := by unfold Addr.add; split <;> simp_all
theorem spot_none {w : World} {a : Addr} {v : Value} (h : w.cell? a = some v) : a.spot = none := by
  unfold World.cell? at h
  split at h
  · split at h
    · cases h
    · rename_i hs; simpa using hs
  · cases h
abbrev Old (w : World) : Nat → Prop := fun b => b < w.heap.size
section
variable {H : Type} {enc : TypeId × Value → H} {P : Program} {w : World} {base : Nat} {sp : Nat → Bool} {held : Bool}
theorem listAt_open {α : Type} {R : α → List Value → Prop} {ts e : TypeId} {n fuel : Nat} {cs : List Value} {x : DataW H × List MemPlace} (ht : P.underlying ts = some (.slice e)) (hC : P.cellsOf e = n) (hn : 0 < n)
    (h : DataW.trod enc P w base sp held fuel ts cs = some x) (he : ∀ k cs y, k + 1 = fuel → DataW.trod enc P w base sp held k e cs = some y → ∃ t, R t cs) : ∃ v xs, cs = [v] ∧ ListAt (Old w) w n R v xs := by
  rcases DataW.trod_slice ht h with ⟨rfl, _⟩ | ⟨a, len, cap, elems, rest, m, rfl, rfl, rfl, hb, hl, hm, hlen, hel, _, _⟩
  · exact ⟨_, [], rfl, ListAt.nil _ _ _ _ _ _⟩
  · rw [hC] at hel
    have key : ∀ i : Fin len, ∃ (t : α) (c' : List Value), w.cells? base (a.add (i.val * n)) n = some c' ∧ R t c' := by
      intro i
      have h1 := hel i.val i.isLt
      rw [List.getElem?_eq_getElem (by rw [hlen]; exact i.isLt)] at h1
      obtain ⟨c', h2, h3⟩ := Option.bind_eq_some_iff.1 h1
      obtain ⟨t, h4⟩ := he m c' _ rfl h3
      exact ⟨t, c', h2, h4⟩
    refine ⟨_, List.ofFn (fun i => Classical.choose (key i)), rfl, some a, cap, by rw [List.length_ofFn], by rw [List.length_ofFn]; exact Nat.le_trans hl hm, fun i t hi => ?_⟩
    have hlt : i < len := by have := (List.getElem?_eq_some_iff.1 hi).1; simpa using this
    rw [List.getElem?_eq_getElem (by simpa using hlt), List.getElem_ofFn] at hi
    have ht' := Option.some.inj hi
    obtain ⟨c', h2, h4⟩ := Classical.choose_spec (key ⟨i, hlt⟩)
    rw [ht'] at h4
    obtain ⟨_, hcl, hcell⟩ := World.cells?_some h2
    obtain ⟨b, o, s⟩ := a
    have h0 := hcell 0 hn
    rw [List.getElem?_eq_getElem (by omega)] at h0
    have hs : s = none := by
      obtain ⟨c0, k2, _⟩ := Classical.choose_spec (key ⟨0, by omega⟩)
      obtain ⟨_, kl, kc⟩ := World.cells?_some k2
      have k0 := kc 0 hn
      rw [List.getElem?_eq_getElem (by omega)] at k0
      have := spot_none k0
      simpa [Addr.add] using this
    subst hs
    simp only [addr_addN] at hcell h0
    refine ⟨b, o, rfl, World.block_lt_of_cell? w _ h0, c', hcl, fun j hj => ?_, h4⟩
    have := hcell j hj
    exact this
end
section
variable {H : Type} {enc : TypeId × Value → H} {w : World} {base : Nat} {sp : Nat → Bool} {held : Bool}
set_option maxRecDepth 100000 in
theorem cellsStr : Tryz.prog.cellsOf 9 = 1 := by kernel_rfl
theorem strOne {fuel : Nat} {c : Value} {x : DataW H × List MemPlace} (h : DataW.trod enc Tryz.prog w base sp held fuel 9 [c] = some x) : ∃ s : ByteArray, c = .string s ∧ s.size ≤ maxLen := by
  obtain ⟨s, e, rfl, hs⟩ := DataW.trod_string Tryz.underlying9 h
  simp at e
  subst e
  exact ⟨s, rfl, hs⟩
end
end Go.Proofs.YtimpkjiglioflaaGreatDoor
namespace Go.Proofs.YtimpkjiglioflaaGreatDoor
open Go.RowKit Go.ChangeShapes Go.WideShapes
section
variable {H : Type} {enc : TypeId × Value → H} {w : World} {base : Nat} {sp : Nat → Bool} {held : Bool}
set_option maxRecDepth 100000 in
theorem cellsStrs : Tryz.prog.cellsOf 22 = 1 := by kernel_rfl
set_option maxRecDepth 100000 in
theorem cellsUnit : Tryz.prog.cellsOf 71 = 4 := by kernel_rfl
set_option maxRecDepth 100000 in
theorem strs_open {fuel : Nat} {c : Value} {x : DataW H × List MemPlace} (h : DataW.trod enc Tryz.prog w base sp held fuel 22 [c] = some x) : ∃ us, StrsAt (Old w) w c us := by
  obtain ⟨v, us, hv, hL⟩ := listAt_open (R := StrAt) Tryz.underlying22 cellsStr (by decide) h (fun k cs y hk hy => by
    obtain ⟨s, e, rfl, hs⟩ := DataW.trod_string Tryz.underlying9 hy
    exact ⟨s, e, hs⟩)
  cases hv
  exact ⟨us, hL⟩
set_option maxRecDepth 100000 in
theorem unit_open (fuel : Nat) (cs : List Value) (x : DataW H × List MemPlace) (h : DataW.trod enc Tryz.prog w base sp held fuel 71 cs = some x) : ∃ u, UnAt (Old w) w u cs := by
  obtain ⟨ys, n, rfl, _, hl, hyl, hf⟩ := DataW.trod_struct Tryz.underlying71 h
  rw [cellsUnit] at hl
  match cs, hl with
  | [c0, c1, c2, c3], _ =>
    have h0 := hf 0 _ rfl
    have h1 := hf 1 _ rfl
    have h2 := hf 2 _ rfl
    have h3 := hf 3 _ rfl
    rw [List.getElem?_eq_getElem (by rw [hyl]; decide)] at h0 h1 h2 h3
    obtain ⟨z0, h0'⟩ : ∃ z, DataW.trod enc Tryz.prog w base sp held n 9 [c0] = some z := ⟨ys[0]'(by rw [hyl]; decide), by rw [← h0]; simp [cellsStr]⟩
    obtain ⟨z1, h1'⟩ : ∃ z, DataW.trod enc Tryz.prog w base sp held n 22 [c1] = some z := ⟨ys[1]'(by rw [hyl]; decide), by rw [← h1]; simp [cellsStrs]⟩
    obtain ⟨z2, h2'⟩ : ∃ z, DataW.trod enc Tryz.prog w base sp held n 22 [c2] = some z := ⟨ys[2]'(by rw [hyl]; decide), by rw [← h2]; simp [cellsStrs]⟩
    obtain ⟨z3, h3'⟩ : ∃ z, DataW.trod enc Tryz.prog w base sp held n 9 [c3] = some z := ⟨ys[3]'(by rw [hyl]; decide), by rw [← h3]; simp [cellsStr]⟩
    obtain ⟨s, rfl, hs⟩ := strOne h0'
    obtain ⟨us, hus⟩ := strs_open h1'
    obtain ⟨axl, has⟩ := strs_open h2'
    obtain ⟨g, rfl, hg⟩ := strOne h3'
    exact ⟨⟨s, us, axl, g⟩, _, _, rfl, hs, hg, hus, has⟩
set_option maxRecDepth 100000 in
theorem units_arg {v : Value} {d : DataW H} {p : List MemPlace} {r : Reach} {b0 : Nat} (hv : Value.okWide Tryz.prog w r b0 30 v) (h : DataW.Trod enc Tryz.prog w base sp held 30 v d p) :
    ∃ us, UnsAt (Old w) w v us := by
  obtain ⟨a, len, cap, rfl⟩ := okWide_slice Tryz.underlying30 hv
  obtain ⟨fuel, hf⟩ := h
  obtain ⟨v, us, hv, hL⟩ := listAt_open (R := UnAt (Old w) w) Tryz.underlying30 cellsUnit (by decide) hf (fun k cs y hk hy => unit_open k cs y hy)
  cases hv
  exact ⟨us, hL⟩
end
end Go.Proofs.YtimpkjiglioflaaGreatDoor
namespace Go.Proofs.YtimpkjiglioflaaGreatDoor.fnExactUnitHashLaw
open Go.ChangeShapes Go.WideShapes Go.ChangeAt Go.RowKit Go.Joins Go.ChangeMaps
set_option maxRecDepth 100000 in
theorem env {W : World} (hL : laidMetH Tryz.prog Rows.fnExactUnitHashRow.laid W) (hS : W.ShapedOpen Tryz.prog) : Env W := env_of hL hS
set_option maxRecDepth 100000 in
theorem contract (H : Type) (enc : TypeId × Value → H) (W : World) (base : Nat) (args : Array Value) (ds gs : List (DataW H)) (before : List MemPlace)
    (hval : ∀ (j : Nat) t v, Tryz.f4.params[j]? = some t → args[j]? = some v → Value.okWide Tryz.prog W .any base t v)
    (hW : DataW.Whole enc Tryz.prog Tryz.f4.params.toList Rows.fnExactUnitHashSpec.vars false W args.toList ds gs before) (hE : Env W) :
    Calls Tryz.prog 4 args W fun e W' => ∃ v, e = .returned v ∧ Rows.fnExactUnitHashSpec.post enc Tryz.prog Tryz.f4 false true false false W args v W' := by
  have hW' := hW
  obtain ⟨p, q, hA0, hV, rfl, hfz, hnd⟩ := hW
  have hA : DataW.TrodAll enc Tryz.prog W 0 (fun _ => true) true Tryz.f4.params.toList args.toList ds p := hA0
  rw [Tryz.params4] at hA hval
  obtain ⟨v0, vs0, d0, ds0, p0, q0, hargs, rfl, rfl, h0, r0⟩ := trodAll_cons hA
  obtain ⟨v1, vs1, d1, ds1, p1, q1, rfl, rfl, rfl, h1, r1⟩ := trodAll_cons r0
  obtain ⟨rfl, rfl, rfl⟩ := trodAll_nil r1
  obtain rfl : args = #[v0, v1] := Array.ext' hargs
  obtain ⟨us0, ht0⟩ := units_arg (hval 0 30 v0 rfl rfl) h0
  obtain ⟨s1, rfl, rfl, rfl, hs1⟩ := open_string Tryz.underlying9 (hval 1 9 v1 rfl rfl) h1
  clear hA0
  refine (exactUH us0 v0 s1 W hE ht0 hs1).mono fun e W' ⟨he, hb⟩ => ?_
  subst he
  exact ⟨_, rfl, close_true hW' rfl (by kernel_rfl) (by kernel_rfl) rfl hb⟩
theorem laid_met (os : Os) : laidMet Tryz.prog Rows.fnExactUnitHashRow.laid ((laidWorld os).forCall (fun _ _ => 0) ⟨#[], #[.slice none 0 0, .string ⟨#[]⟩], []⟩).memory :=
  laidMet_of_run' 8 (by kernel_rfl) (by kernel_rfl)
theorem reads (os : Os) {H : Type} (enc : TypeId × Value → H) : ∃ places, DataW.whole enc Tryz.prog ((laidWorld os).forCall (fun _ _ => 0) ⟨#[], #[.slice none 0 0, .string ⟨#[]⟩], []⟩).memory Tryz.f4.params.toList Rows.fnExactUnitHashSpec.vars false (#[.slice none 0 0, .string ⟨#[]⟩] : Array Value).toList 8 = some ([.nil, .lit (.string [])], [], places) :=
  ⟨[], by kernel_rfl⟩
set_option maxRecDepth 100000 in
theorem lifted (os : Os) (started : os.Started) (H : Type) (enc : TypeId × Value → H) (F : Stop.Interp) :
    ReturnsInHanded {} Tryz.checked os 4 .any ((OpenSpec.ofChange Rows.fnExactUnitHashSpec).preRow enc Tryz.prog Tryz.f4 Rows.fnExactUnitHashRow.domain false Rows.fnExactUnitHashRow.laid) (((OpenSpec.ofChange Rows.fnExactUnitHashSpec).at F).post enc Tryz.prog Tryz.f4 false true false false) := by
  obtain ⟨places, hx⟩ := reads os enc
  refine returnsInHanded_of_row (C := Tryz.checked) (s := OpenSpec.ofChange Rows.fnExactUnitHashSpec) own started (by kernel_rfl) Tryz.func4
    (witness_row_at (enc := enc) (C := Tryz.checked) false (laidWorld os) #[.slice none 0 0, .string ⟨#[]⟩] rfl (by kernel_rfl) (by kernel_rfl) (by kernel_rfl)
      (OpenSpec.preRow_of_cond 8 hx (by kernel_rfl) (fun k hk => by cases hk) (by kernel_rfl) (laid_met os))) ?_
  intro W base args ds gs before hval hW _ _ _ hL hS _
  exact contract H enc W base args ds gs before hval hW (env hL hS)
theorem said : Rows.FnExactUnitHashSaid :=
  OpenClaim.holds_of_cond 4 Tryz.f4 rfl rfl rfl rfl rfl rfl rfl ⟨rfl, rfl, rfl, rfl, rfl⟩ rfl rfl rfl rfl rfl (by kernel_rfl) Tryz.func4 (by kernel_rfl)
    (of_decide_eq_true (by kernel_rfl)) (by unfold Func.isWrapper; first | (rw [if_pos (by decide +kernel)]; kernel_rfl) | (rw [if_neg (by decide +kernel)]; exact ⟨rfl, rfl⟩))
    (fun os started H enc _ F => by rw [OpenClaim.pre_eq_preRow]; exact lifted os started H enc F)
theorem plain (f : FuncId) (fn : Func) (hf : Tryz.pinned.checked.prog.funcNamed "loop.example/g00892/laws.FnExactUnitHash" = some f) (hfn : Tryz.pinned.checked.prog.funcs[f]? = some fn) :
    false = Tryz.pinned.checked.prog.looks [] ∧ ∀ (j : Nat) t, fn.params[j]? = some t → Tryz.pinned.checked.prog.wantsStandIn t = false := by
  obtain rfl : f = 4 := Option.some.inj ((show Tryz.prog.funcNamed "loop.example/g00892/laws.FnExactUnitHash" = some 4 by kernel_rfl).symm.trans hf) |>.symm
  obtain rfl : fn = Tryz.f4 := (Option.some.inj (Tryz.func4.symm.trans hfn)).symm
  refine ⟨by kernel_rfl, fun j t ht => ?_⟩
  have hall : Tryz.f4.params.toList.all (fun t => Tryz.prog.wantsStandIn t == false) = true := by kernel_rfl
  exact beq_iff_eq.1 (List.all_eq_true.1 hall t (by simpa using Array.mem_of_getElem? ht))
theorem card : Rows.FnExactUnitHashCardSaid :=
  Claim7.holds_tied_plain_at .later [] _ _ _ _ said (fun _ h => by cases h) (by kernel_rfl) (fun _ h => by cases h) fnExactUnitHash_row_tie rfl ⟨rfl, rfl⟩ (by kernel_rfl) rfl plain (by kernel_rfl)
end Go.Proofs.YtimpkjiglioflaaGreatDoor.fnExactUnitHashLaw
