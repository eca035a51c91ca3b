import Derived.Test.YtkgfanajgdelcaaGreatDoorUnPart24
namespace Go.Proofs.YtkgfanajgdelcaaGreatDoor
set_option maxRecDepth 100000
open Go.RowKit
theorem rowS_cell {w : World} {base n c : Nat} {e : TypeId} {p : Option Addr} {D : List ByteArray} (h : w.ownsRow base e 1 (.slice p n c) n (strW D)) (h0 : 0 < n) : ∃ g, p = some ⟨g, 0, none⟩ ∧ base ≤ g ∧ g < w.heap.size ∧ (∀ j, w.frozen? ⟨g, j, none⟩ = false) ∧ ∀ (k : Nat) (y : ByteArray), D[k]? = some y → w.cell? ⟨g, k, none⟩ = some (.string y) := by
  rcases h.2 with ⟨hv, h1⟩ | ⟨g, cap, cur, hv, h1, h2, h3, h4, h5, h6⟩
  · omega
  · simp only [Value.slice.injEq, true_and] at hv
    obtain ⟨rfl, rfl⟩ := hv
    refine ⟨g, rfl, h1, blk_lt h2, fun j => frozen_of_row w g j _ _ h2, fun k y hy => ?_⟩
    rw [cell_of_row w g k cur _ (0, 0) h2]
    have hk : (strW D)[k]? = some (.string y) := by rw [strW, List.getElem?_map, hy]; rfl
    rw [← h6, List.getElem?_take] at hk
    split at hk
    · simpa using hk
    · cases hk
theorem rowS_set {w : World} {base n c g k : Nat} {e : TypeId} {D : List ByteArray} (y : ByteArray) (h : w.ownsRow base e 1 (.slice (some ⟨g, 0, none⟩) n c) n (strW D)) : (w.setCell ⟨g, k, none⟩ (.string y)).ownsRow base e 1 (.slice (some ⟨g, 0, none⟩) n c) n (strW (D.set k y)) := by
  rcases h.2 with ⟨hv, h1⟩ | ⟨g', cap, cur, hv, h1, h2, h3, h4, h5, h6⟩
  · cases hv
  · simp only [Value.slice.injEq, Option.some.injEq, Addr.mk.injEq, and_true, true_and] at hv
    obtain ⟨rfl, rfl⟩ := hv
    refine ⟨by have := h.1; simpa [strW] using this, .inr ⟨g, c, cur.setIfInBounds k (.string y), rfl, h1, heap_setCell_same w g k cur _ _ h2, h3, h4, by simpa using h5, ?_⟩⟩
    rw [Array.toList_setIfInBounds, List.take_set, h6, strW, strW, List.map_set]
theorem set_swap {P R : List ByteArray} {x y : ByteArray} {j : Nat} (hj : 0 < j) (hjp : j ≤ P.length) (hy : P[j - 1]? = some y) : ((P.take j ++ x :: P.drop j ++ R).set j y).set (j - 1) x = P.take (j - 1) ++ x :: P.drop (j - 1) ++ R ∧ ((P.take j ++ x :: P.drop j ++ R).set (j - 1) x).set j y = P.take (j - 1) ++ x :: P.drop (j - 1) ++ R := by
  obtain ⟨i, rfl⟩ : ∃ i, j = i + 1 := ⟨j - 1, by omega⟩
  simp only [Nat.add_sub_cancel] at hy ⊢
  have hi : i < P.length := by omega
  have hy' : P[i] = y := by rw [List.getElem?_eq_getElem hi] at hy; exact Option.some.inj hy
  have e1 : P.take (i + 1) = P.take i ++ [y] := by rw [List.take_succ_eq_append_getElem hi, hy']
  have e2 : P.drop i = y :: P.drop (i + 1) := by rw [List.drop_eq_getElem_cons hi, hy']
  have hl : (P.take i).length = i := by rw [List.length_take]; omega
  have key : ∀ a b : ByteArray, P.take i ++ [a] ++ b :: P.drop (i + 1) ++ R = P.take i ++ (a :: b :: (P.drop (i + 1) ++ R)) := fun a b => by simp
  have s1 : ∀ a b z : ByteArray, (P.take i ++ (a :: b :: (P.drop (i + 1) ++ R))).set i z = P.take i ++ (z :: b :: (P.drop (i + 1) ++ R)) := fun a b z => by
    rw [List.set_append_right _ _ (by omega), hl, Nat.sub_self]; rfl
  have s2 : ∀ a b z : ByteArray, (P.take i ++ (a :: b :: (P.drop (i + 1) ++ R))).set (i + 1) z = P.take i ++ (a :: z :: (P.drop (i + 1) ++ R)) := fun a b z => by
    rw [List.set_append_right _ _ (by omega), hl, show i + 1 - i = 1 by omega]; rfl
  rw [e1, e2, key, s2, s1, s1, s2]
  constructor <;> simp
theorem lessS_any (x y : ByteArray) (w : World) : Calls Tryz.prog 173 #[.string x, .string y] w fun e w' => e = .returned (.bool (lessB x y)) ∧ Below w.heap.size w w' := by
  have hl : Op.bytesLess x.toList y.toList = lessB x y := by rw [lessB, ByteArray.toList_eq, ByteArray.toList_eq]
  go_enter Tryz.func173, Tryz.ntmps173
  go_wp2
  go_ret
  exact ⟨ret_bool (by rw [← hl]), by exact bel⟩
set_option maxHeartbeats 6400000 in
theorem insSort_any (base : Nat) (l : List ByteArray) (p : Option Addr) (c : Nat) (w : World) (h : w.ownsRow base 9 1 (.slice p l.length c) l.length (strW l)) (hn : l.length ≤ 1000000) (hnd : l.Nodup) :
    Calls Tryz.prog 167 #[.slice p l.length c, .int .i64 0, .int .i64 l.length] w fun e w' => e = .returned (.tuple #[]) ∧ w'.ownsRow base 9 1 (.slice p l.length c) l.length (strW (canG lessB l)) ∧ w.grownBy w' (Value.slice p l.length c).ownBlock := by
  have H := Lib.hid h
  have HND := Lib.hid hnd
  clear h hnd
  go_enter Tryz.func167, Tryz.ntmps167
  go_wp2
  go_loopw [6] (fun i wr => ∃ k : Nat, 1 ≤ k ∧ k ≤ l.length + 1 ∧ i = .int .i64 k ∧ wr.ownsRow base 9 1 (.slice p l.length c) l.length (strW (canG lessB (l.take k) ++ l.drop k)) ∧ w.grownBy wr (Value.slice p l.length c).ownBlock) (fun i _ => l.length - (intOf i).toNat)
  case atStart =>
    refine ⟨1, Nat.le_refl _, by omega, rfl, ?_, ⟨rfl, rfl, rfl, Nat.le_refl _, fun _ _ _ => rfl⟩⟩
    have : canG lessB (l.take 1) ++ l.drop 1 = l := by cases l with | nil => rfl | cons a l => rfl
    rw [this]; exact H.out
  case round =>
    obtain ⟨k, hk1, hk2, rfl, hrow, hgr⟩ := hrel
    have HG := Lib.hid hgr
    by_cases hlt : k < l.length
    · have HROW := Lib.hid hrow
      obtain ⟨g, rfl, hbg, hgl, -, -⟩ := rowS_cell hrow (by omega)
      have HCT := Lib.hid (canG_take (lt := lessB) hlt)
      have HDR := Lib.hid (List.drop_eq_getElem_cons hlt)
      have hPl : (canG lessB (l.take k)).length = k := by rw [canG_len, List.length_take]; omega
      have HASC := Lib.hid (canG_asc strictS (nodup_tri (HND.out.sublist (List.take_sublist k l))))
      have HTRI := Lib.hid (show ∀ y ∈ canG lessB (l.take k), lessB y l[k] = true ∨ lessB l[k] y = true from fun y hy => by
        have hy := mem_canG.1 hy
        refine triS (fun e => ?_)
        obtain ⟨i, hi, hie⟩ := List.getElem_of_mem hy
        rw [List.length_take] at hi
        rw [List.getElem_take, e] at hie
        have := (List.getElem_inj HND.out).1 hie
        omega)
      obtain ⟨x, hx⟩ : ∃ x, l[k] = x := ⟨_, rfl⟩
      rw [hx] at HCT HDR HTRI
      clear hx hrow hgr
      generalize hP : canG lessB (l.take k) = P at *
      obtain ⟨wA, hwA⟩ : ∃ q, q = wr := ⟨_, rfl⟩
      subst hwA
      have hki : (k : Int) < l.length := by omega
      clear hP
      go_wp2
      go_loopw [7] (fun jv wr' => ∃ j : Nat, j ≤ k ∧ jv = .int .i64 j ∧ wr'.ownsRow base 9 1 (.slice (some ⟨g, 0, none⟩) l.length c) l.length (strW (P.take j ++ x :: P.drop j ++ l.drop (k + 1))) ∧ (∀ y ∈ P.drop j, lessB x y = true) ∧ wA.grownBy wr' (some g)) (fun jv _ => (intOf jv).toNat)
      case atStart =>
        refine ⟨k, Nat.le_refl _, rfl, ?_, ?_, ⟨rfl, rfl, rfl, Nat.le_refl _, fun _ _ _ => rfl⟩⟩
        · rw [← hPl, List.take_length, List.drop_length, hPl]
          have := HROW.out
          rw [HDR.out] at this
          simpa using this
        · rw [← hPl, List.drop_length]; intro y hy; cases hy
      case round =>
        obtain ⟨j, hj, rfl, hrow, hall, hgi⟩ := hrel
        have HROW2 := Lib.hid hrow
        have HALL := Lib.hid hall
        have HGI := Lib.hid hgi
        obtain ⟨g', hge, -, hgl2, hfz, hcl⟩ := rowS_cell hrow (by omega)
        simp only [Option.some.injEq, Addr.mk.injEq, and_true] at hge
        subst hge
        have zg := bsz hgl2
        have hPt : (P.take j).length = j := by rw [List.length_take]; omega
        have c1 : wr.cell? ⟨g, j, none⟩ = some (.string x) := hcl j x (by rw [List.append_assoc, List.getElem?_append_right (by omega), hPt, Nat.sub_self]; rfl)
        clear hrow hall hgi
        by_cases hj0 : 0 < j
        · have hjp : j - 1 < P.length := by omega
          obtain ⟨y, hy⟩ : ∃ y, P[j - 1] = y := ⟨_, rfl⟩
          have c2 : wr.cell? ⟨g, j - 1, none⟩ = some (.string y) := hcl (j - 1) y (by
            rw [List.append_assoc, List.getElem?_append_left (by omega), List.getElem?_take, if_pos (by omega), List.getElem?_eq_getElem hjp, hy])
          have HY := Lib.hid hy
          have hwj : IntKind.i64.wrap ((j : Int) - 1) = ((j - 1 : Nat) : Int) := by rw [IntWalk.i64_in _ (by omega)]; omega
          have hji : (0 : Int) < j := by omega
          have hjl : (j : Int) < l.length := by omega
          have hjl2 : ((j - 1 : Nat) : Int) < l.length := by omega
          clear hcl hy
          cases hL : lessB x y
          all_goals have HLX := Lib.hid hL
          · go_wp2
            obtain ⟨C, HC0⟩ := class_of (InF wr.heap.size _ [(⟨g, j, none⟩, .string x), (⟨g, j - 1, none⟩, .string y)] [] [])
            have HC := Lib.hid HC0
            clear HC0
            refine wp_region_flow (C := C) (by kernel_rfl) (by kernel_rfl) (fun L hL => (HC.out _ _).2 (InF.start (by first | (intro _ hs; cases hs; done) | (simp only [List.forall_mem_cons]; go_simp)) (by first | (intro _ hs; cases hs; done) | (simp only [List.forall_mem_cons]; go_simp)) (by first | (intro _ hs; cases hs; done) | (simp only [List.forall_mem_cons]; go_simp)) (by first | (intro _ hs; cases hs; done) | (simp only [List.forall_mem_cons]; go_simp)) L hL)) ?_
            repeat (first | ((first | apply flow_free rfl | (apply flow_yes; (case hw => go_simp))); (intro L w' hun hrd hC; have hC := (HC.out _ _).1 hC; have hb' := hC.below; (try have hw' : Below w.heap.size w w' := by first | exact Below.trans (by (repeat (first | with_reducible (first | exact bR _ _ | assumption | refine bA ?_ _ | refine bS ?_ (by first | exact Nat.le_refl _ | (simp; done) | (simp; omega)) _) | assumption | exact bR _ _ | refine bD ?_ | refine bN ?_ _ | refine bT ?_ (by assumption)))) hb' | ((repeat (first | with_reducible (first | exact bR _ _ | assumption | refine bA ?_ _ | refine bS ?_ (by first | exact Nat.le_refl _ | (simp; done) | (simp; omega)) _) | assumption | exact bR _ _ | refine bD ?_ | refine bN ?_ _ | refine bT ?_ (by assumption))); done)); have hf' := hC.cell; (try simp only [List.forall_mem_cons] at hf'); go_simp; first | exact ⟨(HC.out _ _).2 (hC.skip _ (by rfl)), rfl⟩ | (rw [if_neg]; (exact ⟨(HC.out _ _).2 (hC.skip _ (by rfl)), rfl⟩); omega) | (go_at_call 173; refine (lessS_any x y _).mono ?_; rintro e w1 ⟨rfl, hb1⟩; exact ⟨rfl, (HC.out _ _).2 ((hC.next (by first | (simp; done) | (simp; omega) | omega) hb1).skip _ (by rfl))⟩)); go_simp) | (apply flow_no; (case hw => (go_simp; try (intro hh; cases hh))); (intro L w' _ _ hC; exact (HC.out _ _).2 (((HC.out _ _).1 hC).skip _ (by rfl))); go_simp))
            refine flow_nil ?_
            intro L wz hL hz
            have hz := (HC.out _ _).1 hz
            have hbz := hz.below
            have hcz := hz.cell
            try simp only [List.forall_mem_cons] at hcz
            have hdz := hz.done
            try simp only [List.forall_mem_cons] at hdz
            (try have hwz : Below w.heap.size w wz := by first | exact Below.trans (by (repeat (first | with_reducible (first | exact bR _ _ | assumption | refine bA ?_ _ | refine bS ?_ (by first | exact Nat.le_refl _ | (simp; done) | (simp; omega)) _) | assumption | exact bR _ _ | refine bD ?_ | refine bN ?_ _ | refine bT ?_ (by assumption)))) hbz | ((repeat (first | with_reducible (first | exact bR _ _ | assumption | refine bA ?_ _ | refine bS ?_ (by first | exact Nat.le_refl _ | (simp; done) | (simp; omega)) _) | assumption | exact bR _ _ | refine bD ?_ | refine bN ?_ _ | refine bT ?_ (by assumption))); done))
            go_wp2
            refine ⟨⟨k + 1, by omega, by omega, by go_num, ?_, ?_⟩, by simp [intOf]; omega⟩
            · rw [HCT.out, sort_stop (j := j) strictS HASC.out (by omega) HALL.out HTRI.out (.inr ⟨hjp, by rw [HY.out]; exact HLX.out⟩)]
              exact own_below HROW2.out hbz
            · exact (HG.out.trans HGI.out).trans ⟨hbz.os, hbz.tape, hbz.output, hbz.size, fun b hb _ => hbz.block b hb⟩
          · go_wp2
            obtain ⟨C, HC0⟩ := class_of (InF wr.heap.size _ [(⟨g, j, none⟩, .string x), (⟨g, j - 1, none⟩, .string y)] [] [])
            have HC := Lib.hid HC0
            clear HC0
            refine wp_region_flow (C := C) (by kernel_rfl) (by kernel_rfl) (fun L hL => (HC.out _ _).2 (InF.start (by first | (intro _ hs; cases hs; done) | (simp only [List.forall_mem_cons]; go_simp)) (by first | (intro _ hs; cases hs; done) | (simp only [List.forall_mem_cons]; go_simp)) (by first | (intro _ hs; cases hs; done) | (simp only [List.forall_mem_cons]; go_simp)) (by first | (intro _ hs; cases hs; done) | (simp only [List.forall_mem_cons]; go_simp)) L hL)) ?_
            repeat (first | ((first | apply flow_free rfl | (apply flow_yes; (case hw => go_simp))); (intro L w' hun hrd hC; have hC := (HC.out _ _).1 hC; have hb' := hC.below; (try have hw' : Below w.heap.size w w' := by first | exact Below.trans (by (repeat (first | with_reducible (first | exact bR _ _ | assumption | refine bA ?_ _ | refine bS ?_ (by first | exact Nat.le_refl _ | (simp; done) | (simp; omega)) _) | assumption | exact bR _ _ | refine bD ?_ | refine bN ?_ _ | refine bT ?_ (by assumption)))) hb' | ((repeat (first | with_reducible (first | exact bR _ _ | assumption | refine bA ?_ _ | refine bS ?_ (by first | exact Nat.le_refl _ | (simp; done) | (simp; omega)) _) | assumption | exact bR _ _ | refine bD ?_ | refine bN ?_ _ | refine bT ?_ (by assumption))); done)); have hf' := hC.cell; (try simp only [List.forall_mem_cons] at hf'); go_simp; first | exact ⟨(HC.out _ _).2 (hC.skip _ (by rfl)), rfl⟩ | (rw [if_neg]; (exact ⟨(HC.out _ _).2 (hC.skip _ (by rfl)), rfl⟩); omega) | (go_at_call 173; refine (lessS_any x y _).mono ?_; rintro e w1 ⟨rfl, hb1⟩; exact ⟨rfl, (HC.out _ _).2 ((hC.next (by first | (simp; done) | (simp; omega) | omega) hb1).skip _ (by rfl))⟩)); go_simp) | (apply flow_no; (case hw => (go_simp; try (intro hh; cases hh))); (intro L w' _ _ hC; exact (HC.out _ _).2 (((HC.out _ _).1 hC).skip _ (by rfl))); go_simp))
            refine flow_nil ?_
            intro L wz hL hz
            have hz := (HC.out _ _).1 hz
            have hbz := hz.below
            have hcz := hz.cell
            try simp only [List.forall_mem_cons] at hcz
            have hdz := hz.done
            try simp only [List.forall_mem_cons] at hdz
            (try have hwz : Below w.heap.size w wz := by first | exact Below.trans (by (repeat (first | with_reducible (first | exact bR _ _ | assumption | refine bA ?_ _ | refine bS ?_ (by first | exact Nat.le_refl _ | (simp; done) | (simp; omega)) _) | assumption | exact bR _ _ | refine bD ?_ | refine bN ?_ _ | refine bT ?_ (by assumption)))) hbz | ((repeat (first | with_reducible (first | exact bR _ _ | assumption | refine bA ?_ _ | refine bS ?_ (by first | exact Nat.le_refl _ | (simp; done) | (simp; omega)) _) | assumption | exact bR _ _ | refine bD ?_ | refine bN ?_ _ | refine bT ?_ (by assumption))); done))
            have d1 := (hbz.cell hgl2).trans c1
            have d2 := (hbz.cell hgl2).trans c2
            have df : ∀ i, wz.frozen? ⟨g, i, none⟩ = false := fun i => (hbz.frozen (p := ⟨g, i, none⟩) hgl2).trans (hfz i)
            have zgz := bsz (World.block_lt_of_cell? _ _ d1)
            go_wp2
            go_region_with fail
            all_goals go_wp2
            all_goals
              have hpy : P[j - 1]? = some y := by rw [List.getElem?_eq_getElem hjp, HY.out]
              refine ⟨⟨j - 1, by omega, rfl, ?_, ?_, ?_⟩, by simp [intOf]; omega⟩
              · have hr := rowS_set (k := j - 1) x (rowS_set (k := j) y (own_below HROW2.out hbz))
                rw [(set_swap hj0 (by omega) hpy).1] at hr
                exact hr
              · intro q hq
                rw [List.drop_eq_getElem_cons hjp, HY.out] at hq
                rcases List.mem_cons.1 hq with rfl | hq
                · exact HLX.out
                · rw [show j - 1 + 1 = j by omega] at hq; exact HALL.out q hq
              · have hgz : wA.grownBy wz (some g) := HGI.out.trans ⟨hbz.os, hbz.tape, hbz.output, hbz.size, fun b hb _ => hbz.block b hb⟩
                exact ⟨hgz.os, hgz.tape, hgz.output, by simpa using hgz.size, fun b hb hne => (heap_setCell_other _ ⟨g, j - 1, none⟩ b _ (fun e => hne (congrArg some e))).trans ((heap_setCell_other _ ⟨g, j, none⟩ b _ (fun e => hne (congrArg some e))).trans (hgz.block b hb hne))⟩
        · obtain rfl : j = 0 := by omega
          go_wp2
          obtain ⟨C, HC0⟩ := class_of (InF wr.heap.size _ [] [] [])
          have HC := Lib.hid HC0
          clear HC0
          refine wp_region_flow (C := C) (by kernel_rfl) (by kernel_rfl) (fun L hL => (HC.out _ _).2 (InF.start (by first | (intro _ hs; cases hs; done) | (simp only [List.forall_mem_cons]; go_simp)) (by first | (intro _ hs; cases hs; done) | (simp only [List.forall_mem_cons]; go_simp)) (by first | (intro _ hs; cases hs; done) | (simp only [List.forall_mem_cons]; go_simp)) (by first | (intro _ hs; cases hs; done) | (simp only [List.forall_mem_cons]; go_simp)) L hL)) ?_
          repeat (first | ((first | apply flow_free rfl | (apply flow_yes; (case hw => go_simp))); (intro L w' hun hrd hC; have hC := (HC.out _ _).1 hC; have hb' := hC.below; have hf' := hC.cell; (try simp only [List.forall_mem_cons] at hf'); go_simp; first | exact ⟨(HC.out _ _).2 (hC.skip _ (by rfl)), rfl⟩ | (rw [if_neg]; (exact ⟨(HC.out _ _).2 (hC.skip _ (by rfl)), rfl⟩); omega) | fail); go_simp) | (apply flow_no; (case hw => (go_simp; try (intro hh; cases hh))); (intro L w' _ _ hC; exact (HC.out _ _).2 (((HC.out _ _).1 hC).skip _ (by rfl))); go_simp))
          refine flow_nil ?_
          intro L wz hL hz
          have hz := (HC.out _ _).1 hz
          have hbz := hz.below
          have hcz := hz.cell
          try simp only [List.forall_mem_cons] at hcz
          have hdz := hz.done
          try simp only [List.forall_mem_cons] at hdz
          (try have hwz : Below w.heap.size w wz := by first | exact Below.trans (by (repeat (first | with_reducible (first | exact bR _ _ | assumption | refine bA ?_ _ | refine bS ?_ (by first | exact Nat.le_refl _ | (simp; done) | (simp; omega)) _) | assumption | exact bR _ _ | refine bD ?_ | refine bN ?_ _ | refine bT ?_ (by assumption)))) hbz | ((repeat (first | with_reducible (first | exact bR _ _ | assumption | refine bA ?_ _ | refine bS ?_ (by first | exact Nat.le_refl _ | (simp; done) | (simp; omega)) _) | assumption | exact bR _ _ | refine bD ?_ | refine bN ?_ _ | refine bT ?_ (by assumption))); done))
          go_wp2
          refine ⟨⟨k + 1, by omega, by omega, by go_num, ?_, ?_⟩, by simp [intOf]; omega⟩
          · rw [HCT.out, sort_stop (j := 0) strictS HASC.out (by omega) HALL.out HTRI.out (.inl rfl)]
            exact own_below HROW2.out hbz
          · exact (HG.out.trans HGI.out).trans ⟨hbz.os, hbz.tape, hbz.output, hbz.size, fun b hb _ => hbz.block b hb⟩
    · have hck : canG lessB (l.take k) ++ l.drop k = canG lessB l := by rw [List.take_of_length_le (by omega), List.drop_eq_nil_of_le (by omega), List.append_nil]
      rw [hck] at hrow
      have HROW := Lib.hid hrow
      clear hrow hck hgr
      have hkl : ¬ (k : Int) < l.length := by omega
      go_wp2
      go_end0
      exact ⟨rfl, HROW.out, HG.out⟩
set_option maxHeartbeats 3200000 in
theorem pdqS_any (base : Nat) (l : List ByteArray) (p : Option Addr) (c : Nat) (lim : Int) (w : World) (h : w.ownsRow base 9 1 (.slice p l.length c) l.length (strW l)) (hn : l.length ≤ 12) (hnd : l.Nodup) :
    Calls Tryz.prog 132 #[.slice p l.length c, .int .i64 0, .int .i64 l.length, .int .i64 lim] w fun e w' => e = .returned (.tuple #[]) ∧ w'.ownsRow base 9 1 (.slice p l.length c) l.length (strW (canG lessB l)) ∧ w.grownBy w' (Value.slice p l.length c).ownBlock := by
  have H := Lib.hid (insSort_any base l p c w h (by omega) hnd)
  have hi : (l.length : Int) ≤ 12 := by omega
  clear h hnd
  go_enter Tryz.func132, Tryz.ntmps132
  go_wp2
  go_loopw [1, 2] (fun a b wr => a = .int .i64 0 ∧ b = .int .i64 l.length ∧ wr = w) (fun _ _ _ => 0)
  case atStart => exact ⟨rfl, rfl, rfl⟩
  case round =>
    obtain ⟨rfl, rfl, rfl⟩ := hrel
    go_wp2_with fail
    refine H.out.mono ?_
    rintro e w1 ⟨rfl, h1, h2⟩
    have H1 := Lib.hid (And.intro h1 h2)
    clear h1 h2
    go_wp2
    refine bodyPost_ret (results_none rfl _ _ _) rfl ?_
    exact ⟨rfl, H1.out.1, H1.out.2⟩
theorem bitsLen_any (n : Nat) (w : World) (hn : n ≤ 1000000) : Calls Tryz.prog 133 #[.int .u64 n] w fun e w' => ∃ r : Int, e = .returned (.int .i64 r) ∧ w' = w := by
  go_enter Tryz.func133, Tryz.ntmps133
  go_wp2_with fail
  refine (Tryz.bits_Len64 (n : Int) w (by omega) (by omega)).mono ?_
  rintro e w1 ⟨rfl, rfl⟩
  go_wp2
  go_ret
  exact ⟨_, rfl, rfl⟩
set_option maxHeartbeats 1600000 in
theorem sortS_any (base : Nat) (l : List ByteArray) (p : Option Addr) (c : Nat) (w : World) (h : w.ownsRow base 9 1 (.slice p l.length c) l.length (strW l)) (hn : l.length ≤ 12) (hnd : l.Nodup) :
    Calls Tryz.prog 73 #[.slice p l.length c] w fun e w' => e = .returned (.tuple #[]) ∧ w'.ownsRow base 9 1 (.slice p l.length c) l.length (strW (canG lessB l)) ∧ w.grownBy w' (Value.slice p l.length c).ownBlock := by
  have H := Lib.hid (fun lim => pdqS_any base l p c lim w h hn hnd)
  have hw : IntKind.u64.wrap (l.length : Int) = l.length := by simp [IntKind.wrap, IntKind.bits, IntKind.signed]; omega
  clear h hnd
  go_enter Tryz.func73, Tryz.ntmps73
  go_wp2_with fail
  refine (bitsLen_any l.length w (by omega)).mono ?_
  rintro e w1 ⟨r, rfl, rfl⟩
  clear hw
  go_wp2_with fail
  refine (H.out r).mono ?_
  rintro e w2 ⟨rfl, h1, h2⟩
  have H1 := Lib.hid (And.intro h1 h2)
  clear h1 h2
  go_wp2
  go_end0
  exact ⟨rfl, H1.out.1, H1.out.2⟩
structure UC where
  u : Un
  p : Option Addr
  c : Nat
  q : Option Addr
  d : Nat
def UC.cs (x : UC) : List Value := [.string x.u.name, .slice x.p x.u.incs.length x.c, .slice x.q x.u.axs.length x.d, .string x.u.goal]
def flatU (D : List UC) : List Value := D.flatMap UC.cs
theorem flatU_len : ∀ D : List UC, (flatU D).length = D.length * 4
  | [] => rfl
  | x :: D => by
    have := flatU_len D
    rw [flatU] at this
    rw [flatU, List.flatMap_cons, List.length_append, this, List.length_cons]
    show 4 + D.length * 4 = _; omega
theorem flatU_app (A B : List UC) : flatU (A ++ B) = flatU A ++ flatU B := by simp [flatU]
theorem flatU_at {D : List UC} {k : Nat} {y : UC} (h : D[k]? = some y) {i : Nat} (hi : i < 4) : (flatU D)[k * 4 + i]? = y.cs[i]? := by
  obtain ⟨hk, hy⟩ := List.getElem?_eq_some_iff.1 h
  have e : D = D.take k ++ y :: D.drop (k + 1) := by rw [← hy, ← List.drop_eq_getElem_cons hk, List.take_append_drop]
  have hl : (flatU (D.take k)).length = k * 4 := by rw [flatU_len, List.length_take]; congr 1; omega
  rw [e, flatU_app, List.getElem?_append_right (by omega), hl, Nat.add_sub_cancel_left]
  rw [flatU, List.flatMap_cons, List.getElem?_append_left (by show i < 4; exact hi)]
theorem flatU_set {D : List UC} {k : Nat} (hk : k < D.length) (y : UC) : flatU (D.set k y) = ((((flatU D).set (k * 4) (.string y.u.name)).set (k * 4 + 1) (.slice y.p y.u.incs.length y.c)).set (k * 4 + 2) (.slice y.q y.u.axs.length y.d)).set (k * 4 + 3) (.string y.u.goal) := by
  have hl : (flatU (D.take k)).length = k * 4 := by rw [flatU_len, List.length_take]; congr 1; omega
  have e : D = D.take k ++ D[k] :: D.drop (k + 1) := by rw [← List.drop_eq_getElem_cons hk, List.take_append_drop]
  have e2 : D.set k y = D.take k ++ y :: D.drop (k + 1) := by
    rw [List.set_eq_take_append_cons_drop, if_pos hk]
  have e3 : flatU D = flatU (D.take k) ++ (D[k].cs ++ flatU (D.drop (k + 1))) := by
    conv => lhs; rw [e]
    rw [flatU_app]; rfl
  rw [e2, flatU_app, e3]
  have s : ∀ (A : List Value) (i : Nat) (z : Value), (flatU (D.take k) ++ A).set (k * 4 + i) z = flatU (D.take k) ++ A.set i z := fun A i z => by
    rw [List.set_append_right _ _ (by omega), hl, Nat.add_sub_cancel_left]
  have s0 : ∀ (A : List Value) (z : Value), (flatU (D.take k) ++ A).set (k * 4) z = flatU (D.take k) ++ A.set 0 z := fun A z => by have := s A 0 z; rwa [Nat.add_zero] at this
  rw [s0, s, s, s]
  rfl
theorem rowU_cell {w : World} {base n c : Nat} {e : TypeId} {p : Option Addr} {D : List UC} (h : w.ownsRow base e 4 (.slice p n c) n (flatU D)) (h0 : 0 < n) : ∃ g, p = some ⟨g, 0, none⟩ ∧ base ≤ g ∧ g < w.heap.size ∧ (∀ j, w.frozen? ⟨g, j, none⟩ = false) ∧
    ∀ (k : Nat) (y : UC), D[k]? = some y → w.cell? ⟨g, k * 4, none⟩ = some (.string y.u.name) ∧ w.cell? ⟨g, k * 4 + 1, none⟩ = some (.slice y.p y.u.incs.length y.c) ∧ w.cell? ⟨g, k * 4 + 2, none⟩ = some (.slice y.q y.u.axs.length y.d) ∧ w.cell? ⟨g, k * 4 + 3, none⟩ = some (.string y.u.goal) := by
  rcases h.2 with ⟨hv, h1⟩ | ⟨g, cap, cur, hv, h1, h2, h3, h4, h5, h6⟩
  · omega
  · simp only [Value.slice.injEq, true_and] at hv
    obtain ⟨rfl, rfl⟩ := hv
    refine ⟨g, rfl, h1, blk_lt h2, fun j => frozen_of_row w g j _ _ h2, fun k y hy => ?_⟩
    have key : ∀ i, i < 4 → w.cell? ⟨g, k * 4 + i, none⟩ = y.cs[i]? := fun i hi => by
      rw [cell_of_row w g (k * 4 + i) cur _ (0, 0) h2]
      have hk := flatU_at hy hi
      rw [← h6, List.getElem?_take] at hk
      split at hk
      · simpa using hk
      · rw [List.getElem?_eq_getElem (by show i < 4; exact hi)] at hk; cases hk
    exact ⟨key 0 (by omega), key 1 (by omega), key 2 (by omega), key 3 (by omega)⟩
abbrev set4W (W : World) (b o : Nat) (u0 u1 u2 u3 : Value) : World := (((W.setCell ⟨b, o, none⟩ u0).setCell ⟨b, o + 1, none⟩ u1).setCell ⟨b, o + 2, none⟩ u2).setCell ⟨b, o + 3, none⟩ u3
theorem set4_other (W : World) {b o k : Nat} (u0 u1 u2 u3 : Value) (hk : k ≠ b) : (set4W W b o u0 u1 u2 u3).heap[k]? = W.heap[k]? :=
  (heap_setCell_other _ ⟨b, o + 3, none⟩ k _ hk).trans ((heap_setCell_other _ ⟨b, o + 2, none⟩ k _ hk).trans ((heap_setCell_other _ ⟨b, o + 1, none⟩ k _ hk).trans (heap_setCell_other _ ⟨b, o, none⟩ k _ hk)))
theorem rowU_set {w : World} {base n c g k : Nat} {e : TypeId} {D : List UC} (y : UC) (hk : k < D.length) (h : w.ownsRow base e 4 (.slice (some ⟨g, 0, none⟩) n c) n (flatU D)) : (set4W w g (k * 4) (.string y.u.name) (.slice y.p y.u.incs.length y.c) (.slice y.q y.u.axs.length y.d) (.string y.u.goal)).ownsRow base e 4 (.slice (some ⟨g, 0, none⟩) n c) n (flatU (D.set k y)) := by
  rcases h.2 with ⟨hv, h1⟩ | ⟨g', cap, cur, hv, h1, h2, h3, h4, h5, h6⟩
  · cases hv
  · simp only [Value.slice.injEq, Option.some.injEq, Addr.mk.injEq, and_true, true_and] at hv
    obtain ⟨rfl, rfl⟩ := hv
    refine ⟨by have := h.1; rw [flatU_len] at this ⊢; rw [List.length_set]; exact this, .inr ⟨g, c, _, rfl, h1, heap_setCell_same _ g (k * 4 + 3) _ _ _ (heap_setCell_same _ g (k * 4 + 2) _ _ _ (heap_setCell_same _ g (k * 4 + 1) _ _ _ (heap_setCell_same w g (k * 4) cur _ _ h2))), h3, h4, by simpa using h5, ?_⟩⟩
    rw [Array.toList_setIfInBounds, Array.toList_setIfInBounds, Array.toList_setIfInBounds, Array.toList_setIfInBounds, List.take_set, List.take_set, List.take_set, List.take_set, h6, flatU_set hk]
theorem set_swapU {P R : List UC} {x y : UC} {j : Nat} (hj : 0 < j) (hjp : j ≤ P.length) (hy : P[j - 1]? = some y) : ((P.take j ++ x :: P.drop j ++ R).set j y).set (j - 1) x = P.take (j - 1) ++ x :: P.drop (j - 1) ++ R := by
  obtain ⟨i, rfl⟩ : ∃ i, j = i + 1 := ⟨j - 1, by omega⟩
  simp only [Nat.add_sub_cancel] at hy ⊢
  have hi : i < P.length := by omega
  have hy' : P[i] = y := by rw [List.getElem?_eq_getElem hi] at hy; exact Option.some.inj hy
  have e1 : P.take (i + 1) = P.take i ++ [y] := by rw [List.take_succ_eq_append_getElem hi, hy']
  have e2 : P.drop i = y :: P.drop (i + 1) := by rw [List.drop_eq_getElem_cons hi, hy']
  have hl : (P.take i).length = i := by rw [List.length_take]; omega
  have key : ∀ a b : UC, P.take i ++ [a] ++ b :: P.drop (i + 1) ++ R = P.take i ++ (a :: b :: (P.drop (i + 1) ++ R)) := fun a b => by simp
  have s1 : ∀ a b z : UC, (P.take i ++ (a :: b :: (P.drop (i + 1) ++ R))).set i z = P.take i ++ (z :: b :: (P.drop (i + 1) ++ R)) := fun a b z => by
    rw [List.set_append_right _ _ (by omega), hl, Nat.sub_self]; rfl
  have s2 : ∀ a b z : UC, (P.take i ++ (a :: b :: (P.drop (i + 1) ++ R))).set (i + 1) z = P.take i ++ (a :: z :: (P.drop (i + 1) ++ R)) := fun a b z => by
    rw [List.set_append_right _ _ (by omega), hl, show i + 1 - i = 1 by omega]; rfl
  rw [e1, e2, key, s2, s1]
  simp
def lessC (x y : UC) : Bool := lessB x.u.name y.u.name
theorem strictC : Strict lessC := ⟨fun _ => less_irrefl _, fun _ _ _ => less_trans _ _ _⟩
def cmpI (x y : ByteArray) : Int := if lessB x y then -1 else if lessB y x then 1 else 0
theorem cmpI_neg (x y : ByteArray) : decide (cmpI x y < 0) = lessB x y := by
  rw [cmpI]
  cases h : lessB x y
  · cases h2 : lessB y x <;> simp
  · simp
theorem own_drew {w : World} {base n size : Nat} {e : TypeId} {v : Value} {xs : List Value} (h : w.ownsRow base e size v n xs) : w.drew.ownsRow base e size v n xs := h
theorem tri_names {l : List UC} (h : (l.map (fun x => x.u.name)).Nodup) : l.Pairwise (fun a b => lessC a b = true ∨ lessC b a = true) := by
  exact (List.pairwise_map.1 h).imp fun h => triS h
def renS (old name x : ByteArray) : ByteArray := if x = old then name else x
def renI (old name : ByteArray) (l : List ByteArray) : List ByteArray := l.map (renS old name)
def renUn (old name : ByteArray) (u : Un) : Un := ⟨renS old name u.name, canG lessB (renI old name u.incs), u.axs, u.goal⟩
def renL (old name : ByteArray) (l : List Un) : List Un := canG lessU (l.map (renUn old name))
def renOk (l : List Un) (old name : ByteArray) : Bool := unitOf l old && (placeU l name).isNone && symB name.data.toList
def renV (l : List Un) (old name : ByteArray) : List Un := if renOk l old name then renL old name l else []
theorem renS_inj {old name x y : ByteArray} (hx : x ≠ name) (hy : y ≠ name) (h : renS old name x = renS old name y) : x = y := by
  unfold renS at h
  split at h <;> split at h
  · rename_i h1 h2; rw [h1, h2]
  · exact absurd h.symm hy
  · exact absurd h hx
  · exact h
theorem nodup_map_on {α β : Type} {f : α → β} {l : List α} (hd : l.Nodup) (hf : ∀ x ∈ l, ∀ y ∈ l, f x = f y → x = y) : (l.map f).Nodup := by
  rw [List.Nodup, List.pairwise_map]
  exact List.Pairwise.imp_of_mem (fun ha hb hne h => hne (hf _ ha _ hb h)) hd
theorem namesF_asc : ∀ (l : List ByteArray) (p : ByteArray), namesF (some p) l = true → ∀ x ∈ l, lessB p x = true
  | [], _, _, _, hx => by simp at hx
  | a :: l, p, h, x, hx => by
    rw [namesF, Bool.and_eq_true, Bool.and_eq_true] at h
    rcases List.mem_cons.1 hx with rfl | hx
    · exact h.1.2
    · exact less_trans _ _ _ h.1.2 (namesF_asc l a h.2 x hx)
theorem namesF_asc' : ∀ (l : List ByteArray) (p : Option ByteArray), namesF p l = true → Asc lessB l
  | [], _, _ => List.Pairwise.nil
  | a :: l, p, h => by
    rw [namesF, Bool.and_eq_true, Bool.and_eq_true] at h
    rw [Asc, List.pairwise_cons]
    exact ⟨namesF_asc l a h.2, namesF_asc' l _ h.2⟩
theorem asc_nodup {l : List ByteArray} (h : Asc lessB l) : l.Nodup := by
  refine List.Pairwise.imp ?_ h
  intro a b hab e
  rw [e, strictS.irr] at hab; cases hab
theorem good_incs {u : Un} (h : u.good = true) : u.incs.length ≤ 12 ∧ namesF none u.incs = true := by
  unfold Un.good at h
  simp only [Bool.and_eq_true, decide_eq_true_eq] at h
  exact ⟨h.1.1.1.1.2, h.1.1.1.2⟩
theorem place_not {l : List Un} {x : ByteArray} (h : (placeU l x).isNone = true) : ∀ u ∈ l, u.name ≠ x := by
  have h0 : placeU l x = none := by simpa using h
  have h1 := place_none.1 h0
  rw [findU, List.find?_eq_none] at h1
  intro u hu e
  exact absurd (decide_eq_true e) (h1 u hu)
theorem incs_names {l : List Un} (hd : Dist l) (hf : (ordL l).length = l.length) {u : Un} (hu : u ∈ l) {x : ByteArray} (hx : x ∈ u.incs) : ∃ v ∈ l, v.name = x := by
  have h1 := full_all hf u hu
  have h2 := incs_rank hd (ordL_inv l) h1 (y := x) (by rw [incsOf, findU_of hd hu]; exact hx)
  obtain ⟨v, hv, e⟩ := List.mem_map.1 ((ordL_inv l).sub x h2.1)
  exact ⟨v, hv, e⟩
theorem libGood_len {l : List Un} (h : libGood l = true) : l.length ≤ 12 := by
  rw [libGood, Bool.and_eq_true, Bool.and_eq_true] at h
  exact of_decide_eq_true h.1.2
section
variable {l : List Un} {old name : ByteArray}
theorem ren_incs (hg : libGood l = true) (hn : ∀ u ∈ l, u.name ≠ name) {u : Un} (hu : u ∈ l) : (renI old name u.incs).Nodup ∧ (renI old name u.incs).length ≤ 12 ∧ u.incs.Nodup ∧ ∀ x ∈ u.incs, x ≠ name := by
  obtain ⟨hd, hf, hgd⟩ := libGood_parts hg
  obtain ⟨h1, h2⟩ := good_incs (hgd u hu)
  have h3 : ∀ x ∈ u.incs, x ≠ name := fun x hx => by
    obtain ⟨v, hv, rfl⟩ := incs_names hd hf hu hx
    exact hn v hv
  have h4 := asc_nodup (namesF_asc' _ _ h2)
  exact ⟨nodup_map_on h4 fun x hx y hy h => renS_inj (h3 x hx) (h3 y hy) h, by rw [renI, List.length_map]; exact h1, h4, h3⟩
theorem ren_names (hg : libGood l = true) (hn : ∀ u ∈ l, u.name ≠ name) : ((l.map (renUn old name)).map Un.name).Nodup := by
  obtain ⟨hd, -, -⟩ := libGood_parts hg
  have : (l.map (renUn old name)).map Un.name = (l.map Un.name).map (renS old name) := by rw [List.map_map, List.map_map]; rfl
  rw [this]
  refine nodup_map_on hd fun x hx y hy h => ?_
  obtain ⟨u, hu, rfl⟩ := List.mem_map.1 hx
  obtain ⟨v, hv, rfl⟩ := List.mem_map.1 hy
  exact renS_inj (hn u hu) (hn v hv) h
theorem renL_len (l : List Un) : (renL old name l).length = l.length := by rw [renL, canG_len, List.length_map]
end
theorem insG_map {α β : Type} {lt : α → α → Bool} {lt' : β → β → Bool} {f : α → β} (h : ∀ x y, lt' (f x) (f y) = lt x y) (l : List α) (x : α) : (insG lt l x).map f = insG lt' (l.map f) (f x) := by
  have hp : ((fun y => lt' y (f x)) ∘ f) = fun y => lt y x := by funext y; exact h y x
  rw [insG, insG, List.map_append, List.map_cons, List.takeWhile_map, List.dropWhile_map, hp]
theorem foldG_map {α β : Type} {lt : α → α → Bool} {lt' : β → β → Bool} {f : α → β} (h : ∀ x y, lt' (f x) (f y) = lt x y) : ∀ (l out : List α), (l.foldl (insG lt) out).map f = (l.map f).foldl (insG lt') (out.map f)
  | [], out => rfl
  | x :: l, out => by rw [List.foldl_cons, foldG_map h l, insG_map h, List.map_cons, List.foldl_cons]
theorem canG_map {α β : Type} {lt : α → α → Bool} {lt' : β → β → Bool} {f : α → β} (h : ∀ x y, lt' (f x) (f y) = lt x y) (l : List α) : (canG lt l).map f = canG lt' (l.map f) := foldG_map h l []
/-! ### Sizes -/
theorem wtS_canG (l : List ByteArray) : wtS (canG lessB l) = wtS l := by
  have app : ∀ a b : List ByteArray, wtS (a ++ b) = wtS a + wtS b := fun a b => by
    induction a with
    | nil => simp [wtS]
    | cons x a ih => rw [List.cons_append, wtS, wtS, ih]; omega
  have ins : ∀ (out : List ByteArray) (x : ByteArray), wtS (insG lessB out x) = wtS out + x.size := fun out x => by
    have := congrArg wtS (List.takeWhile_append_dropWhile (p := fun y => lessB y x) (l := out))
    rw [app] at this
    rw [insG, app, wtS]; omega
  have fold : ∀ (l out : List ByteArray), wtS (l.foldl (insG lessB) out) = wtS out + wtS l := fun l => by
    induction l with
    | nil => intro out; simp [wtS]
    | cons x l ih => intro out; rw [List.foldl_cons, ih, ins, wtS]; omega
  rw [canG, fold]; simp [wtS]
theorem renS_size (old name x : ByteArray) : (renS old name x).size ≤ x.size + name.size := by unfold renS; split <;> omega
theorem wtS_renI (old name : ByteArray) : ∀ l : List ByteArray, wtS (renI old name l) ≤ wtS l + name.size * l.length
  | [] => by simp [renI, wtS]
  | a :: l => by
    have h1 := wtS_renI old name l
    have h2 := renS_size old name a
    rw [renI] at h1
    rw [renI, List.map_cons, wtS, wtS, List.length_cons, Nat.mul_succ]; omega
end Go.Proofs.YtkgfanajgdelcaaGreatDoor
