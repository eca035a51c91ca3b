import Derived.Test.YtkgfanajgdelcaaGreatDoorUnPart21
namespace Go.Proofs.YtkgfanajgdelcaaGreatDoor
set_option maxRecDepth 100000
open Go.RowKit
def kwUnit : List UInt8 := [117, 110, 105, 116, 32]
def kwInc : List UInt8 := [105, 110, 99, 108, 117, 100, 101, 32]
def kwAx : List UInt8 := [97, 120, 105, 111, 109, 32]
def kwGoal : List UInt8 := [103, 111, 97, 108, 32]
def lineU (k : List UInt8) (s : ByteArray) : List UInt8 := k ++ s.data.toList ++ [10]
def linesU (k : List UInt8) (us : List ByteArray) : List UInt8 := us.flatMap (lineU k)
def Un.txt (u : Un) : List UInt8 := lineU kwUnit u.name ++ linesU kwInc u.incs ++ linesU kwAx u.axs ++ (if u.goal.toList == [] then [] else lineU kwGoal u.goal)
theorem linesU_len (k : List UInt8) : ∀ us : List ByteArray, (linesU k us).length = (k.length + 1) * us.length + wtS us
  | [] => by simp [linesU, wtS]
  | a :: us => by
    have := linesU_len k us
    rw [linesU] at this
    rw [linesU, List.flatMap_cons, List.length_append, this, lineU, wtS, List.length_append, List.length_append, ← size_list]
    simp only [List.length_cons, List.length_nil, Nat.mul_succ]; omega
theorem linesU_take (k : List UInt8) {us : List ByteArray} {i : Nat} (h : i < us.length) : linesU k (us.take (i + 1)) = linesU k (us.take i) ++ lineU k us[i] := by
  rw [List.take_succ_eq_append_getElem h, linesU, linesU, List.flatMap_append]; simp
theorem wtS_take : ∀ (us : List ByteArray) (i : Nat), wtS (us.take i) ≤ wtS us
  | [], i => by simp [wtS]
  | a :: us, 0 => by simp [wtS]
  | a :: us, i + 1 => by have := wtS_take us i; rw [List.take_succ_cons, wtS, wtS]; omega
theorem linesU_bd {k : List UInt8} {us : List ByteArray} {i N : Nat} (hk : k.length = N) (h : i < us.length) : (linesU k (us.take i)).length + us[i].size ≤ (N + 1) * us.length + wtS us := by
  have h1 := linesU_len k (us.take (i + 1))
  rw [linesU_take k h, List.length_append, lineU, List.length_append, List.length_append, ← size_list, hk] at h1
  have h2 := wtS_take us (i + 1)
  have h3 : (us.take (i + 1)).length ≤ us.length := by rw [List.length_take]; omega
  have h4 : (N + 1) * (us.take (i + 1)).length ≤ (N + 1) * us.length := Nat.mul_le_mul_left _ h3
  omega
theorem Un.wt_eq (u : Un) : u.wt = u.name.size + (u.incs.length + wtS u.incs) + (u.axs.length + wtS u.axs) + u.goal.size := rfl
set_option maxHeartbeats 3200000 in
theorem formatUnit_any {B : Nat → Prop} (u : Un) (v0 v1 v2 v3 : Value) (w : World) (h : UnAt B w u [v0, v1, v2, v3]) (hw : u.wt ≤ 1000000000000) :
    Calls Tryz.prog 59 #[.agg #[v0, v1, v2, v3]] w fun e w' => e = .returned (.string ⟨u.txt.toArray⟩) ∧ Below w.heap.size w w' := by
  obtain ⟨p, c, q, d, rfl, rfl, rfl, rfl, hn, hg, l1, l2, hi, ha⟩ := h.form
  unfold maxLen at l1 l2
  have HI := Lib.hid hi
  have HA := Lib.hid ha
  have HU0 := Lib.hid (show UBox u p q c d w (w.alloc (.cells #[.string u.name, .slice p u.incs.length c, .slice q u.axs.length d, .string u.goal] 34)) from ⟨(Below.refl _ _).alloc (Nat.le_refl _) _, heap_alloc_new w _⟩)
  have HW := Lib.hid u.wt_eq
  have hns : u.name.size ≤ 1000000000000 := by have := u.wt_eq; omega
  have hgs : u.goal.size ≤ 1000000000000 := by have := u.wt_eq; omega
  clear h hi ha
  go_enter Tryz.func59, Tryz.ntmps59
  go_wp2
  go_loopw [3, 15] (fun o i wr => ∃ k : Nat, k ≤ u.incs.length ∧ i = .int .i64 k ∧ o = .string ⟨(lineU kwUnit u.name ++ linesU kwInc (u.incs.take k)).toArray⟩ ∧ UBox u p q c d w wr) (fun _ i _ => u.incs.length - (intOf i).toNat)
  case atStart => exact ⟨0, Nat.zero_le _, rfl, congrArg Value.string (by apply ByteArray.ext; simp [lineU, kwUnit, linesU]), HU0.out⟩
  case round =>
    obtain ⟨k, hk, rfl, rfl, hub⟩ := hrel
    have HUB := Lib.hid hub
    have hb := hub.bel
    have hqz := hb.size
    obtain ⟨x0, x1, x2, x3⟩ := hub.cells
    have zub := bsz (heap_lt hub.cell)
    clear hub HU0
    by_cases hlt : k < u.incs.length
    · obtain ⟨b, o, rfl, hB, hx0, hxs⟩ := (HI.out.below hb).at_ hlt
      have HT := Lib.hid (linesU_take kwInc hlt)
      have hbd := linesU_bd (k := kwInc) (N := 8) rfl hlt
      obtain ⟨a, hae⟩ : ∃ a, u.incs[k] = a := ⟨_, rfl⟩
      rw [hae] at hx0 hxs HT hbd
      clear hae
      have zb := bsz (World.block_lt_of_cell? _ _ hx0)
      have hss : (lineU kwUnit u.name).length = 6 + u.name.size := by rw [lineU, List.length_append, List.length_append, ← size_list, kwUnit]; simp only [List.length_cons, List.length_nil]; omega
      have hll : (lineU kwUnit u.name ++ linesU kwInc (u.incs.take k)).length + a.size ≤ 20000000000000 := by
        rw [List.length_append, hss]
        have := HW.out
        omega
      generalize linesU kwInc (u.incs.take k) = L at *
      have hgd : ¬ 9223372036854775807 < 6 + u.name.size + L.length + (8 + a.size + 1) := by rw [List.length_append, hss] at hll; omega
      go_wp2
      refine ⟨⟨k + 1, by omega, by go_num, ?_, HUB.out⟩, by simp [intOf]; omega⟩
      rw [HT.out]
      exact congrArg Value.string (by apply ByteArray.ext; simp [lineU, kwInc])
    · obtain rfl : k = u.incs.length := by omega
      have hA : (lineU kwUnit u.name ++ linesU kwInc (u.incs.take u.incs.length)).length ≤ 10 * u.wt + 10 := by
        rw [List.take_length, List.length_append, linesU_len, lineU, List.length_append, List.length_append, ← size_list, kwUnit, kwInc]
        simp only [List.length_cons, List.length_nil]
        have := HW.out
        omega
      have HTX := Lib.hid (show u.txt = lineU kwUnit u.name ++ linesU kwInc (u.incs.take u.incs.length) ++ linesU kwAx u.axs ++ (if u.goal.toList == [] then [] else lineU kwGoal u.goal) by rw [List.take_length]; rfl)
      generalize lineU kwUnit u.name ++ linesU kwInc (u.incs.take u.incs.length) = A at *
      go_wp2
      go_loopw [3, 28] (fun o i wr => ∃ k : Nat, k ≤ u.axs.length ∧ i = .int .i64 k ∧ o = .string ⟨(A ++ linesU kwAx (u.axs.take k)).toArray⟩ ∧ UBox u p q c d w wr) (fun _ i _ => u.axs.length - (intOf i).toNat)
      case atStart => exact ⟨0, Nat.zero_le _, rfl, congrArg Value.string (by apply ByteArray.ext; simp [linesU]), HUB.out⟩
      case round =>
        clear HUB x0 x1 x2 x3 zub hb
        obtain ⟨k, hk, rfl, rfl, hub⟩ := hrel
        have HUB := Lib.hid hub
        have hb := hub.bel
        have hqz := hb.size
        obtain ⟨x0, x1, x2, x3⟩ := hub.cells
        have zub := bsz (heap_lt hub.cell)
        clear hub
        by_cases hlt : k < u.axs.length
        · obtain ⟨b, o, rfl, hB, hx0, hxs⟩ := (HA.out.below hb).at_ hlt
          have HT := Lib.hid (linesU_take kwAx hlt)
          have hbd := linesU_bd (k := kwAx) (N := 6) rfl hlt
          obtain ⟨a, hae⟩ : ∃ a, u.axs[k] = a := ⟨_, rfl⟩
          rw [hae] at hx0 hxs HT hbd
          clear hae
          have zb := bsz (World.block_lt_of_cell? _ _ hx0)
          generalize linesU kwAx (u.axs.take k) = L at *
          have hgd : ¬ 9223372036854775807 < A.length + L.length + (6 + a.size + 1) := by have := HW.out; omega
          go_wp2
          refine ⟨⟨k + 1, by omega, by go_num, ?_, HUB.out⟩, by simp [intOf]; omega⟩
          rw [HT.out]
          exact congrArg Value.string (by apply ByteArray.ext; simp [lineU, kwAx])
        · obtain rfl : k = u.axs.length := by omega
          have hL : (linesU kwAx (u.axs.take u.axs.length)).length ≤ 10 * u.wt := by
            rw [List.take_length, linesU_len, kwAx]
            simp only [List.length_cons, List.length_nil]
            have := HW.out
            omega
          have HTX2 := Lib.hid (show u.txt = A ++ linesU kwAx (u.axs.take u.axs.length) ++ (if u.goal.toList == [] then [] else lineU kwGoal u.goal) by rw [List.take_length]; exact HTX.out)
          generalize linesU kwAx (u.axs.take u.axs.length) = L at *
          have hgd : ¬ 9223372036854775807 < A.length + L.length + (5 + u.goal.size + 1) := by have := HW.out; omega
          cases h6 : (u.goal.toList == [])
          all_goals
            have H6 := Lib.hid h6
            go_wp2
            go_ret
          · exact ⟨by rw [HTX2.out, H6.out, if_neg (by simp)]; exact congrArg (fun x => Ending.returned (Value.string x)) (by apply ByteArray.ext; simp [lineU, kwGoal]), by exact bel⟩
          · exact ⟨by rw [HTX2.out, H6.out, if_pos rfl, List.append_nil]; rfl, by exact bel⟩
set_option maxHeartbeats 3200000 in
theorem l27Lines_any {B : Nat → Prop} (u : Un) (v0 v1 v2 v3 : Value) (w : World) (h : UnAt B w u [v0, v1, v2, v3]) (hw : u.wt ≤ 1000000000000) :
    Calls Tryz.prog 63 #[.agg #[v0, v1, v2, v3]] w fun e w' => e = .returned (.string ⟨u.txt.toArray⟩) ∧ Below w.heap.size w w' := by
  obtain ⟨p, c, q, d, rfl, rfl, rfl, rfl, hn, hg, l1, l2, hi, ha⟩ := h.form
  unfold maxLen at l1 l2
  have HI := Lib.hid hi
  have HA := Lib.hid ha
  have HU0 := Lib.hid (show UBox u p q c d w (w.alloc (.cells #[.string u.name, .slice p u.incs.length c, .slice q u.axs.length d, .string u.goal] 34)) from ⟨(Below.refl _ _).alloc (Nat.le_refl _) _, heap_alloc_new w _⟩)
  have HW := Lib.hid u.wt_eq
  have hns : u.name.size ≤ 1000000000000 := by have := u.wt_eq; omega
  have hgs : u.goal.size ≤ 1000000000000 := by have := u.wt_eq; omega
  clear h hi ha
  go_enter Tryz.func63, Tryz.ntmps63
  go_wp2
  go_loopw [3, 4] (fun o i wr => ∃ k : Nat, k ≤ u.incs.length ∧ i = .int .i64 k ∧ o = .string ⟨(lineU kwUnit u.name ++ linesU kwInc (u.incs.take k)).toArray⟩ ∧ UBox u p q c d w wr) (fun _ i _ => u.incs.length - (intOf i).toNat)
  case atStart => exact ⟨0, Nat.zero_le _, rfl, congrArg Value.string (by apply ByteArray.ext; simp [lineU, kwUnit, linesU]), HU0.out⟩
  case round =>
    obtain ⟨k, hk, rfl, rfl, hub⟩ := hrel
    have HUB := Lib.hid hub
    have hb := hub.bel
    have hqz := hb.size
    obtain ⟨x0, x1, x2, x3⟩ := hub.cells
    have zub := bsz (heap_lt hub.cell)
    clear hub HU0
    by_cases hlt : k < u.incs.length
    · obtain ⟨b, o, rfl, hB, hx0, hxs⟩ := (HI.out.below hb).at_ hlt
      have HT := Lib.hid (linesU_take kwInc hlt)
      have hbd := linesU_bd (k := kwInc) (N := 8) rfl hlt
      obtain ⟨a, hae⟩ : ∃ a, u.incs[k] = a := ⟨_, rfl⟩
      rw [hae] at hx0 hxs HT hbd
      clear hae
      have zb := bsz (World.block_lt_of_cell? _ _ hx0)
      have hss : (lineU kwUnit u.name).length = 6 + u.name.size := by rw [lineU, List.length_append, List.length_append, ← size_list, kwUnit]; simp only [List.length_cons, List.length_nil]; omega
      generalize linesU kwInc (u.incs.take k) = L at *
      generalize lineU kwUnit u.name = A at *
      have hgd : ¬ 9223372036854775807 < A.length + L.length + 8 := by have := HW.out; omega
      have hge : ¬ 9223372036854775807 < A.length + L.length + 8 + a.size := by have := HW.out; omega
      have hgf : ¬ 9223372036854775807 < A.length + L.length + 8 + a.size + 1 := by have := HW.out; omega
      go_wp2
      refine ⟨⟨k + 1, by omega, by go_num, ?_, HUB.out⟩, by simp [intOf]; omega⟩
      rw [HT.out]
      exact congrArg Value.string (by apply ByteArray.ext; simp [lineU, kwInc])
    · obtain rfl : k = u.incs.length := by omega
      have hA : (lineU kwUnit u.name ++ linesU kwInc (u.incs.take u.incs.length)).length ≤ 10 * u.wt + 10 := by
        rw [List.take_length, List.length_append, linesU_len, lineU, List.length_append, List.length_append, ← size_list, kwUnit, kwInc]
        simp only [List.length_cons, List.length_nil]
        have := HW.out
        omega
      have HTX := Lib.hid (show u.txt = lineU kwUnit u.name ++ linesU kwInc (u.incs.take u.incs.length) ++ linesU kwAx u.axs ++ (if u.goal.toList == [] then [] else lineU kwGoal u.goal) by rw [List.take_length]; rfl)
      generalize lineU kwUnit u.name ++ linesU kwInc (u.incs.take u.incs.length) = A at *
      go_wp2
      go_loopw [3, 5] (fun o i wr => ∃ k : Nat, k ≤ u.axs.length ∧ i = .int .i64 k ∧ o = .string ⟨(A ++ linesU kwAx (u.axs.take k)).toArray⟩ ∧ UBox u p q c d w wr) (fun _ i _ => u.axs.length - (intOf i).toNat)
      case atStart => exact ⟨0, Nat.zero_le _, rfl, congrArg Value.string (by apply ByteArray.ext; simp [linesU]), HUB.out⟩
      case round =>
        clear HUB x0 x1 x2 x3 zub hb
        obtain ⟨k, hk, rfl, rfl, hub⟩ := hrel
        have HUB := Lib.hid hub
        have hb := hub.bel
        have hqz := hb.size
        obtain ⟨x0, x1, x2, x3⟩ := hub.cells
        have zub := bsz (heap_lt hub.cell)
        clear hub
        by_cases hlt : k < u.axs.length
        · obtain ⟨b, o, rfl, hB, hx0, hxs⟩ := (HA.out.below hb).at_ hlt
          have HT := Lib.hid (linesU_take kwAx hlt)
          have hbd := linesU_bd (k := kwAx) (N := 6) rfl hlt
          obtain ⟨a, hae⟩ : ∃ a, u.axs[k] = a := ⟨_, rfl⟩
          rw [hae] at hx0 hxs HT hbd
          clear hae
          have zb := bsz (World.block_lt_of_cell? _ _ hx0)
          generalize linesU kwAx (u.axs.take k) = L at *
          have hgd : ¬ 9223372036854775807 < A.length + L.length + 6 := by have := HW.out; omega
          have hge : ¬ 9223372036854775807 < A.length + L.length + 6 + a.size := by have := HW.out; omega
          have hgf : ¬ 9223372036854775807 < A.length + L.length + 6 + a.size + 1 := by have := HW.out; omega
          go_wp2
          refine ⟨⟨k + 1, by omega, by go_num, ?_, HUB.out⟩, by simp [intOf]; omega⟩
          rw [HT.out]
          exact congrArg Value.string (by apply ByteArray.ext; simp [lineU, kwAx])
        · obtain rfl : k = u.axs.length := by omega
          have hL : (linesU kwAx (u.axs.take u.axs.length)).length ≤ 10 * u.wt := by
            rw [List.take_length, linesU_len, kwAx]
            simp only [List.length_cons, List.length_nil]
            have := HW.out
            omega
          have HTX2 := Lib.hid (show u.txt = A ++ linesU kwAx (u.axs.take u.axs.length) ++ (if u.goal.toList == [] then [] else lineU kwGoal u.goal) by rw [List.take_length]; exact HTX.out)
          generalize linesU kwAx (u.axs.take u.axs.length) = L at *
          have hgd : ¬ 9223372036854775807 < A.length + L.length + 5 := by have := HW.out; omega
          have hge : ¬ 9223372036854775807 < A.length + L.length + 5 + u.goal.size := by have := HW.out; omega
          have hgf : ¬ 9223372036854775807 < A.length + L.length + 5 + u.goal.size + 1 := by have := HW.out; omega
          cases h6 : (u.goal.toList == [])
          all_goals
            have H6 := Lib.hid h6
            go_wp2
            go_ret
          · exact ⟨by rw [HTX2.out, H6.out, if_neg (by simp)]; exact congrArg (fun x => Ending.returned (Value.string x)) (by apply ByteArray.ext; simp [lineU, kwGoal]), by exact bel⟩
          · exact ⟨by rw [HTX2.out, H6.out, if_pos rfl, List.append_nil]; rfl, by exact bel⟩
theorem hasB_cons (a : UInt8) (b : List UInt8) (x : UInt8) : hasB (a :: b) x = ((a == x) || hasB b x) := by simp [hasB]
def cut1 : List UInt8 → UInt8 → List UInt8 × List UInt8 × Bool
  | [], _ => ([], [], false)
  | x :: l, b => if x == b then ([], l, true) else (x :: (cut1 l b).1, (cut1 l b).2.1, (cut1 l b).2.2)
theorem cut_one (l : List UInt8) (b : UInt8) : Lib.cut l [b] = cut1 l b := by
  induction l with
  | nil => simp [Lib.cut, Lib.index, cut1]
  | cons x l ih =>
    have h1 := Lib.index_ge l [b]
    by_cases hx : (x == b) = true
    · have : x = b := by simpa using hx
      subst this
      simp [Lib.cut, Lib.index, cut1]
    · have hp : [b].isPrefixOf (x :: l) = false := by
        simp only [List.isPrefixOf, Bool.and_true, beq_eq_false_iff_ne]
        intro e; exact hx (by simp [e])
      have e : Lib.index (x :: l) [b] = if Lib.index l [b] = -1 then -1 else Lib.index l [b] + 1 := by rw [Lib.index, hp]; simp
      unfold Lib.cut at ih ⊢
      rw [cut1, ← ih, if_neg hx, e]
      by_cases h2 : Lib.index l [b] = -1
      · rw [h2]; rfl
      · rw [if_neg h2, if_pos (by omega), if_pos (by omega)]
        have e2 : (Lib.index l [b] + 1).toNat = (Lib.index l [b]).toNat + 1 := by omega
        rw [e2]
        simp []
theorem cut1_yes (a t : List UInt8) (b : UInt8) (h : hasB a b = false) : cut1 (a ++ b :: t) b = (a, t, true) := by
  induction a with
  | nil => simp [cut1]
  | cons x a ih =>
    rw [hasB_cons, Bool.or_eq_false_iff] at h
    rw [List.cons_append, cut1, if_neg (by simp [h.1]), ih h.2]
theorem cut1_found (l : List UInt8) (b : UInt8) : (cut1 l b).2.2 = true → l = (cut1 l b).1 ++ b :: (cut1 l b).2.1 := by
  induction l with
  | nil => simp [cut1]
  | cons x l ih =>
    rw [cut1]
    by_cases hx : (x == b) = true
    · rw [if_pos hx]; intro _; simpa using hx
    · rw [if_neg hx]; intro h; simp only [List.cons_append]; rw [← ih h]
theorem cut1_lost (l : List UInt8) (b : UInt8) : (cut1 l b).2.2 = false → cut1 l b = (l, [], false) := by
  induction l with
  | nil => simp [cut1]
  | cons x l ih =>
    rw [cut1]
    by_cases hx : (x == b) = true
    · rw [if_pos hx]; intro h; cases h
    · rw [if_neg hx]; intro h; simp only at h; rw [ih h]
theorem splitP_append (b : UInt8) (l : List UInt8) : ∀ st : List (List UInt8) × List UInt8, (l.foldl (splitSt b) st).1 ++ [(l.foldl (splitSt b) st).2] = st.1 ++ (match splitF l b with | [] => [] | p :: ps => (st.2 ++ p) :: ps) := by
  induction l with
  | nil => intro st; simp [splitF, splitP]
  | cons c l ih =>
    intro st
    have h3 : splitF (c :: l) b = (splitSt b ([], []) c).1 ++ (match splitF l b with | [] => [] | p :: ps => ((splitSt b ([], []) c).2 ++ p) :: ps) := by
      rw [splitF, splitP, List.foldl_cons]; exact ih _
    rw [List.foldl_cons, ih, h3]
    by_cases hc : (c == b) = true
    · simp [splitSt, hc]
    · simp only [Bool.not_eq_true] at hc
      simp only [splitSt, hc, Bool.false_eq_true, if_false, List.nil_append]
      cases splitF l b <;> simp
theorem splitF_cons (c : UInt8) (l : List UInt8) (b : UInt8) : splitF (c :: l) b = if c == b then [] :: splitF l b else match splitF l b with | [] => [] | p :: ps => (c :: p) :: ps := by
  rw [splitF, splitP, List.foldl_cons, splitP_append]
  by_cases hc : (c == b) = true
  · simp [splitSt, hc]
    cases splitF l b <;> simp
  · simp only [Bool.not_eq_true] at hc
    simp only [splitSt, hc, Bool.false_eq_true, if_false, List.nil_append]
    cases splitF l b <;> simp
theorem splitF_ne (l : List UInt8) (b : UInt8) : 0 < (splitF l b).length := by simp [splitF]
/-! ### Records -/
/-! ### Valid logs, both ways -/
def baL (l : List UInt8) : ByteArray := ⟨l.toArray⟩
theorem baL_of (x : ByteArray) : baL x.data.toList = x := by rw [baL]
theorem baL_size (l : List UInt8) : (baL l).size = l.length := by rw [size_list]; rfl
theorem baL_list (l : List UInt8) : (baL l).data.toList = l := rfl
theorem split_cut (b : UInt8) : ∀ l : List UInt8, splitF l b = (cut1 l b).1 :: (if (cut1 l b).2.2 then splitF (cut1 l b).2.1 b else [])
  | [] => rfl
  | x :: l => by
    rw [splitF_cons, cut1]
    by_cases h : (x == b) = true
    · rw [if_pos h, if_pos h]; rfl
    · rw [if_neg h, if_neg h, split_cut b l]
theorem index_cut (b : UInt8) : ∀ l : List UInt8, Lib.indexByte l b = if (cut1 l b).2.2 then ((cut1 l b).1.length : Int) else -1
  | [] => rfl
  | x :: l => by
    rw [Lib.indexByte, cut1, index_cut b l]
    by_cases h : (x == b) = true
    · rw [if_pos h, if_pos h]; rfl
    · rw [if_neg h, if_neg h]
      cases hc : (cut1 l b).2.2
      · simp
      · have : ¬ (((cut1 l b).1.length : Int) == -1) = true := by simp <;> omega
        simp only [if_true, if_neg this]
        simp
theorem count_split (b : UInt8) : ∀ l : List UInt8, (splitF l b).length = Lib.countByte l b + 1
  | [] => rfl
  | x :: l => by
    have ih := count_split b l
    rw [splitF_cons, Lib.countByte, List.count_cons]
    rw [Lib.countByte] at ih
    by_cases h : (x == b) = true
    · rw [if_pos h, if_pos h, List.length_cons, ih]
    · rw [if_neg h, if_neg h]
      cases hs : splitF l b with
      | nil => have := splitF_ne l b; rw [hs] at this; simp at this
      | cons p ps => rw [hs] at ih; simpa using ih
theorem split_two {l : List UInt8} {b : UInt8} (h : 2 ≤ (splitF l b).length) : (cut1 l b).2.2 = true ∧ l = (cut1 l b).1 ++ b :: (cut1 l b).2.1 ∧ splitF l b = (cut1 l b).1 :: splitF (cut1 l b).2.1 b := by
  have hc := split_cut b l
  cases hf : (cut1 l b).2.2 with
  | false => rw [hc, hf] at h; simp at h
  | true => rw [hf, if_pos rfl] at hc; exact ⟨rfl, cut1_found l b hf, hc⟩
theorem split_one {l : List UInt8} {b : UInt8} (h : (splitF l b).length = 1) : splitF l b = [l] := by
  have hc := split_cut b l
  cases hf : (cut1 l b).2.2 with
  | false => rw [hf, if_neg (by simp), cut1_lost l b hf] at hc; exact hc
  | true =>
    rw [hf, if_pos rfl] at hc
    rw [hc] at h
    have := splitF_ne (cut1 l b).2.1 b
    simp at h
    rw [h] at this; simp at this
theorem split_drop {L rem : List UInt8} {b : UInt8} {k : Nat} (h : (splitF L b).drop k = splitF rem b) (hk : k + 1 < (splitF L b).length) :
    (cut1 rem b).2.2 = true ∧ rem = (cut1 rem b).1 ++ b :: (cut1 rem b).2.1 ∧ (splitF L b)[k]? = some (cut1 rem b).1 ∧ (splitF L b).drop (k + 1) = splitF (cut1 rem b).2.1 b := by
  have hl : 2 ≤ (splitF rem b).length := by rw [← h, List.length_drop]; omega
  obtain ⟨h1, h2, h3⟩ := split_two hl
  refine ⟨h1, h2, ?_, ?_⟩
  · have : ((splitF L b).drop k)[0]? = some (cut1 rem b).1 := by rw [h, h3]; rfl
    rwa [List.getElem?_drop, Nat.add_zero] at this
  · rw [← List.drop_drop, h, h3]; rfl
theorem split_last {L rem : List UInt8} {b : UInt8} {k : Nat} (h : (splitF L b).drop k = splitF rem b) (hk : k + 1 = (splitF L b).length) : (splitF L b)[k]? = some rem := by
  have hl : (splitF rem b).length = 1 := by rw [← h, List.length_drop]; omega
  have : ((splitF L b).drop k)[0]? = some rem := by rw [h, split_one hl]; rfl
  rwa [List.getElem?_drop, Nat.add_zero] at this
end Go.Proofs.YtkgfanajgdelcaaGreatDoor
