import Derived.Test.YtkgfanajgdelcaaGreatEnPart6
namespace Go.Proofs.YtkgfanajgdelcaaGreat
set_option maxRecDepth 100000
open Go.RowKit
theorem join_eq (sep : List UInt8) : ∀ l : List (List UInt8), Lib.join l sep = joinB sep l
  | [] => rfl
  | [a] => by rw [Lib.join_one]; rfl
  | a :: b :: l => by
    rw [joinB, ← join_eq sep (b :: l), Lib.join_cons, Lib.join_cons, Lib.joinTail]
    simp [Lib.joinTail, List.append_assoc]
theorem strs_map (l : List (List UInt8)) : (l.map (fun x => (⟨x.toArray⟩ : ByteArray))).map (·.data.toList) = l := by
  induction l with
  | nil => rfl
  | cons a l ih => rw [List.map_cons, List.map_cons, ih]
theorem join_own {base : Nat} {v : Value} {l : List (List UInt8)} (sp : List UInt8) (w : World) (h : w.ownsRow base 9 1 v l.length (strV l)) (hl : l.length ≤ 1000000) (hlen : (joinB sp l).length ≤ 140737488355328) :
    Calls Tryz.prog 69 #[v, .string ⟨sp.toArray⟩] w fun e w' => e = .returned (.string ⟨(joinB sp l).toArray⟩) ∧ Below w.heap.size w w' := by
  cases l with
  | nil =>
    rcases h.2 with ⟨rfl, _⟩ | ⟨g, cap, cur, rfl, _⟩
    · exact (Tryz.strings_Join_none _ _ _ _).mono fun e w' ⟨he, hw⟩ => ⟨he, hw ▸ Below.refl _ _⟩
    · exact (Tryz.strings_Join_none _ _ _ _).mono fun e w' ⟨he, hw⟩ => ⟨he, hw ▸ Below.refl _ _⟩
  | cons a l =>
    obtain ⟨g, cap, rfl⟩ := own_form h (by simp)
    have hlt := own_lt h
    have hcap : (a :: l).length ≤ cap := by
      rcases h.2 with ⟨h, _⟩ | ⟨g', cap', cur, hv, _, _, hc, _⟩
      · cases h
      · injection hv with e1 e2 e3; subst e3; exact hc
    have := Tryz.strings_Join g 0 cap ((a :: l).map (fun x => (⟨x.toArray⟩ : ByteArray))) ⟨sp.toArray⟩ w (fun j x hx => by
      rw [Nat.zero_add]
      have hj : j < (a :: l).length := by have := (List.getElem?_eq_some_iff.1 hx).1; simpa using this
      rw [h.cellAt j (by omega), strV, List.getElem?_map]
      rw [List.getElem?_map] at hx
      cases hq : (a :: l)[j]? with
      | none => rw [hq] at hx; cases hx
      | some y => rw [hq] at hx; simp only [Option.map_some, Option.some.injEq] at hx; subst hx; rfl) hlt (by simp at hl ⊢; omega) (by simpa using hcap) (by rw [strs_map, join_eq]; exact hlen)
    rw [strs_map, join_eq, List.length_map] at this
    exact this
theorem fmtL_map : ∀ us : List Tm, Tm.fmtL us = us.map Tm.fmt
  | [] => rfl
  | a :: us => by rw [Tm.fmtL, fmtL_map us]; rfl
theorem fmtL_len (us : List Tm) : (Tm.fmtL us).length = us.length := by rw [fmtL_map, List.length_map]
theorem fmtL_at {us : List Tm} {k : Nat} (h : k < us.length) : (Tm.fmtL us)[k]'(by rw [fmtL_len]; exact h) = us[k].fmt := by simp [fmtL_map]
theorem joinB_mem {sep : List UInt8} : ∀ {l : List (List UInt8)} {a : List UInt8}, a ∈ l → a.length ≤ (joinB sep l).length
  | [b], a, h => by simp at h; subst h; exact Nat.le_refl _
  | b :: c :: l, a, h => by
    rw [joinB]
    simp only [List.length_append]
    rcases List.mem_cons.1 h with rfl | h
    · omega
    · have := joinB_mem (sep := sep) h; omega
theorem fmt_arg {us : List Tm} {k : Nat} (h : k < us.length) (sep : List UInt8) : (us[k]).fmt.length ≤ (joinB sep (Tm.fmtL us)).length := by
  refine joinB_mem ?_
  rw [fmtL_map]
  exact List.mem_map_of_mem (List.getElem_mem h)
theorem nodess_arg {us : List Tm} (hn : Tm.nodess us = true) {k : Nat} (h : k < us.length) : (us[k]).nodes = true := by
  induction us generalizing k with
  | nil => simp at h
  | cons a us ih =>
    rw [Tm.nodess, Bool.and_eq_true] at hn
    cases k with
    | zero => exact hn.1
    | succ k => exact ih hn.2 (by simpa using h)
theorem nodes_len {n : ByteArray} {us : List Tm} (h : (Tm.mk n us).nodes = true) : us.length ≤ 4 := by
  rw [Tm.nodes] at h
  split at h
  · cases us <;> simp at h ⊢
  · simp only [Bool.and_eq_true, decide_eq_true_eq] at h; exact h.1.2
theorem nodes_noEq {t : Tm} (h : t.nodes = true) : isEq t.n = false := by
  obtain ⟨n, us⟩ := t
  have := word_not61 (Tm.nodes_mk h).1
  simpa [isEq, Tm.n] using this
def TextsRel (l : List (List UInt8)) (g : Nat) (u : Value) (w : World) (out i : Value) (wr : World) : Prop :=
  ∃ k : Nat, k ≤ l.length ∧ i = .int .i64 k ∧ wr.ownsRow (g + 1) 9 1 out k (strV (l.take k)) ∧ wr.cell? ⟨g, 0, none⟩ = some u ∧ Below w.heap.size w wr
theorem strV_take {l : List (List UInt8)} {k : Nat} (h : k < l.length) : strV (l.take (k + 1)) = strV (l.take k) ++ [.string ⟨(l[k]).toArray⟩] := by
  rw [List.take_succ_eq_append_getElem h, strV_snoc]
set_option maxHeartbeats 1600000 in
theorem formatTerm_any {B : Nat → Prop} : ∀ (m : Nat) (t : Tm) (v0 v1 : Value) (w : World), TmAt B m w t [v0, v1] → t.nodes = true → t.fmt.length ≤ 1000000000000 →
      Calls Tryz.prog 68 #[.agg #[v0, v1]] w fun e w' => e = .returned (.string ⟨t.fmt.toArray⟩) ∧ Below w.heap.size w w' := by
  intro m
  induction m with
  | zero => intro t v0 v1 w h; exact h.elim
  | succ m ih =>
    rintro ⟨s, us⟩ v0 v1 w ⟨va, hcs, hs, hl⟩ hn hz
    simp only [List.cons.injEq, and_true] at hcs
    obtain ⟨rfl, rfl⟩ := hcs
    obtain ⟨p, c, rfl, -⟩ := hl.form
    have hlen := nodes_len hn
    have HQ := Lib.hid (nodes_noEq hn)
    have HM := Lib.hid (Tm.fmt_mk (us := us) (word_not61 (Tm.nodes_mk hn).1))
    have HN := Lib.hid (Tm.nodes_mk hn).2
    have IH := Lib.hid ih
    have HL := Lib.hid hl
    clear ih hl hn
    by_cases h0 : us = []
    · subst h0
      go_enter Tryz.func68, Tryz.ntmps68
      go_wp2_with fail
      refine (isEquality_any _ _ _).mono ?_
      rintro e w1 ⟨rfl, hb1⟩
      have ⟨cw1, fw1⟩ := bcell hb1
      have qw1 := hb1.size
      (try simp at qw1)
      (try have zw1w := bsz (show w.heap.size < w1.heap.size by omega))
      rw [show isEq s = false from HQ.out]
      go_wp2
      go_ret
      exact ⟨ret_strs (by rw [HM.out]; rfl), by exact bel⟩
    · have hm := HM.out
      have hie : us.isEmpty = false := by
        cases us with
        | nil => exact absurd rfl h0
        | cons a l => rfl
      rw [hie, if_neg (by decide)] at hm
      have hfm : (Tm.mk s us).fmt.length = s.size + 1 + (joinB [44] (Tm.fmtL us)).length + 1 := by rw [hm]; simp; omega
      have hjl : s.size + 1 + (joinB [44] (Tm.fmtL us)).length + 1 ≤ 1000000000000 := by omega
      have HM2 := Lib.hid hm
      have hl0 : 0 < us.length := List.length_pos_iff.2 h0
      clear hfm hz hm HM hie
      go_enter Tryz.func68, Tryz.ntmps68
      go_wp2_with fail
      refine (isEquality_any _ _ _).mono ?_
      rintro e w1 ⟨rfl, hb1⟩
      have ⟨cw1, fw1⟩ := bcell hb1
      have qw1 := hb1.size
      (try simp at qw1)
      (try have zw1w := bsz (show w.heap.size < w1.heap.size by omega))
      rw [show isEq s = false from HQ.out]
      go_wp2
      go_loopw [3, 30] (TextsRel (Tm.fmtL us) w.heap.size (.string s) w) (fun _ i _ => us.length - (intOf i).toNat)
      case atStart => exact ⟨0, Nat.zero_le _, rfl, row_empty _ _ _ _ (by omega), by go_simp, by exact bel⟩
      case round =>
        obtain ⟨k, hk, rfl, ho, hc, hb⟩ := hrel
        have HO := Lib.hid ho
        rw [fmtL_len] at hk
        have hqr := hb.size
        have hgr : w.heap.size < wr.heap.size := World.block_lt_of_cell? _ _ hc
        clear ho
        by_cases hlt : k < us.length
        · obtain ⟨b, o, rfl, hB, x0, x1, hx0, hx1, hx⟩ := (HL.out.mono (SameOn.below hb) (fun _ h => h) (fun x cs _ hx => TmAt.below hb hx)).at2 hlt
          have hS := fmtL_at hlt
          have hF := fmt_arg hlt [44]
          have hN := nodess_arg HN.out hlt
          obtain ⟨a, ha⟩ : ∃ a, us[k] = a := ⟨_, rfl⟩
          rw [ha] at hx
          rw [ha] at hS
          rw [ha] at hF
          rw [ha] at hN
          have HX := Lib.hid hx
          have HS := Lib.hid hS
          have HF := Lib.hid hF
          have HN := Lib.hid hN
          clear hx ha hS hF hN
          have zb := bsz (World.block_lt_of_cell? _ _ hx0)
          obtain ⟨pa, ca, rfl, rfl, -, -⟩ := HX.out.form
          have hfl : a.fmt.length ≤ 1000000000000 := by have := HF.out; omega
          go_wp2_with fail
          refine (IH.out a _ _ _ (HX.out.below (by exact bel)) HN.out hfl).mono ?_
          rintro e w2 ⟨rfl, hb2⟩
          have ⟨cw2, fw2⟩ := bcell hb2
          have qw2 := hb2.size
          (try simp at qw2)
          (try have zw2w := bsz (show w.heap.size < w2.heap.size by omega))
          (try have zw2w1 := bsz (show w1.heap.size < w2.heap.size by omega))
          have HO1 := Lib.hid (own_below HO.out (show Below wr.heap.size wr w2 by exact bel))
          have HC1 := Lib.hid ((show Below wr.heap.size wr w2 by exact bel).cell hgr |>.trans hc)
          have hb3 : Below w.heap.size w w2 := by exact bel
          clear hc
          go_wp2_with (at_builtin; refine wpList_app1 rfl (.tmp 34) (.tmp 37) _ rfl (w.heap.size + 1) 9 1 16 elemStr _ _ _ rfl w2 #[.string ⟨a.fmt.toArray⟩] rfl _ (by simp) rfl HO1.out rfl (by simp [Value.oneCell']) (by omega) (by unfold maxLen; omega) (by omega) ?_; intro v1 w3 hown1 hg1 hnr1 hlt1)
          refine ⟨⟨v1, _, _, ⟨k + 1, by rw [fmtL_len]; omega, by go_num, ?_, ?_, hb3.grown hg1 (by omega) (fun k hk => by have := own_base HO1.out k hk; omega)⟩, rfl, rfl, rfl⟩, by simp [intOf]; omega⟩
          · rw [strV_take (by rw [fmtL_len]; omega), HS.out]; exact hown1
          · exact grown_cell hg1 HC1.out (fun e => by have := own_base HO1.out _ e.symm; omega)
        · obtain rfl : k = us.length := by omega
          have ho := HO.out
          rw [← fmtL_len, List.take_length] at ho
          have HO2 := Lib.hid ho
          clear ho HO
          go_wp2
          obtain ⟨C, HC0⟩ := class_of (InF wr.heap.size _ [(⟨w.heap.size, 0, none⟩, .string s)] [] [])
          have HC := Lib.hid HC0
          clear HC0
          refine wp_region_flow (C := C) (by kernel_rfl) (by kernel_rfl) (fun L hL => (HC.out _ _).2 (InF.start (by first | (intro _ hs; cases hs; done) | (simp only [List.forall_mem_cons]; go_simp)) (by first | (intro _ hs; cases hs; done) | (simp only [List.forall_mem_cons]; go_simp)) (by first | (intro _ hs; cases hs; done) | (simp only [List.forall_mem_cons]; go_simp)) (by first | (intro _ hs; cases hs; done) | (simp only [List.forall_mem_cons]; go_simp)) L hL)) ?_
          repeat (first | ((first | apply flow_free rfl | (apply flow_yes; (case hw => go_simp))); (intro L w' hun hrd hC; have hC := (HC.out _ _).1 hC; have hb' := hC.below; (try have hw' : Below w.heap.size w w' := by first | exact Below.trans (by (repeat (first | with_reducible (first | exact bR _ _ | assumption | refine bA ?_ _ | refine bS ?_ (by first | exact Nat.le_refl _ | (simp; done) | (simp; omega)) _) | assumption | exact bR _ _ | refine bD ?_ | refine bN ?_ _ | refine bT ?_ (by assumption)))) hb' | ((repeat (first | with_reducible (first | exact bR _ _ | assumption | refine bA ?_ _ | refine bS ?_ (by first | exact Nat.le_refl _ | (simp; done) | (simp; omega)) _) | assumption | exact bR _ _ | refine bD ?_ | refine bN ?_ _ | refine bT ?_ (by assumption))); done)); have hf' := hC.cell; (try simp only [List.forall_mem_cons] at hf'); go_simp; first | exact ⟨(HC.out _ _).2 (hC.skip _ (by rfl)), rfl⟩ | (rw [if_neg]; (exact ⟨(HC.out _ _).2 (hC.skip _ (by rfl)), rfl⟩); omega) | (go_at_call 69; refine (join_own [44] _ (own_below HO2.out hb') (by rw [fmtL_len]; omega) (by omega)).mono ?_; rintro e w1 ⟨rfl, hb1⟩; exact ⟨rfl, (HC.out _ _).2 ((hC.next (by first | (simp; done) | (simp; omega) | omega) hb1).skip _ (by rfl))⟩)); go_simp) | (apply flow_no; (case hw => (go_simp; try (intro hh; cases hh))); (intro L w' _ _ hC; exact (HC.out _ _).2 (((HC.out _ _).1 hC).skip _ (by rfl))); go_simp))
          refine flow_nil ?_
          intro L wz hL hz
          have hz := (HC.out _ _).1 hz
          have hbz := hz.below
          have hcz := hz.cell
          try simp only [List.forall_mem_cons] at hcz
          have hdz := hz.done
          try simp only [List.forall_mem_cons] at hdz
          (try have hwz : Below w.heap.size w wz := by first | exact Below.trans (by (repeat (first | with_reducible (first | exact bR _ _ | assumption | refine bA ?_ _ | refine bS ?_ (by first | exact Nat.le_refl _ | (simp; done) | (simp; omega)) _) | assumption | exact bR _ _ | refine bD ?_ | refine bN ?_ _ | refine bT ?_ (by assumption)))) hbz | ((repeat (first | with_reducible (first | exact bR _ _ | assumption | refine bA ?_ _ | refine bS ?_ (by first | exact Nat.le_refl _ | (simp; done) | (simp; omega)) _) | assumption | exact bR _ _ | refine bD ?_ | refine bN ?_ _ | refine bT ?_ (by assumption))); done))
          go_wp2
          go_ret
          exact ⟨ret_strs (by rw [HM2.out]; simp), by exact bel⟩
theorem joinB_snoc (sep : List UInt8) : ∀ (l : List (List UInt8)) (a : List UInt8), l ≠ [] → joinB sep (l ++ [a]) = joinB sep l ++ sep ++ a
  | [b], a, _ => rfl
  | b :: c :: l, a, _ => by
    have := joinB_snoc sep (c :: l) a (by simp)
    rw [List.cons_append] at this
    rw [List.cons_append, List.cons_append, joinB, this, joinB]
    simp only [List.append_assoc]
def accT (hd sep : List UInt8) (l : List (List UInt8)) (k : Nat) : List UInt8 := if k = 0 then [] else hd ++ joinB sep (l.take k)
theorem accT_zero (hd sep : List UInt8) (l : List (List UInt8)) : accT hd sep l 0 = [] := rfl
theorem accT_one (hd sep : List UInt8) (l : List (List UInt8)) (h : 0 < l.length) : accT hd sep l 1 = hd ++ l[0] := by
  rw [accT, if_neg (by omega)]
  cases l with
  | nil => simp at h
  | cons a l => rfl
theorem accT_succ (hd sep : List UInt8) (l : List (List UInt8)) {k : Nat} (hk : k ≠ 0) (h : k < l.length) : accT hd sep l (k + 1) = accT hd sep l k ++ sep ++ l[k] := by
  rw [accT, if_neg (by omega), accT, if_neg hk, List.take_succ_eq_append_getElem h, joinB_snoc]
  · simp only [List.append_assoc]
  · intro e
    have := congrArg List.length e
    rw [List.length_take, List.length_nil] at this
    omega
theorem accT_all (hd sep : List UInt8) (l : List (List UInt8)) (h : 0 < l.length) : accT hd sep l l.length = hd ++ joinB sep l := by
  rw [accT, if_neg (by omega), List.take_length]
theorem joinB_take (sep : List UInt8) : ∀ (l : List (List UInt8)) (k : Nat), (joinB sep (l.take k)).length ≤ (joinB sep l).length
  | [], k => by simp
  | [a], 0 => by simp [joinB]
  | [a], k + 1 => by simp
  | a :: b :: l, 0 => by simp [joinB]
  | a :: b :: l, 1 => by simp [joinB]
  | a :: b :: l, k + 2 => by
    have := joinB_take sep (b :: l) (k + 1)
    rw [List.take_succ_cons] at this
    rw [List.take_succ_cons, List.take_succ_cons, joinB, joinB]
    simp only [List.length_append]
    omega
theorem accT_len (hd sep : List UInt8) (l : List (List UInt8)) (k : Nat) : (accT hd sep l k).length ≤ hd.length + (joinB sep l).length := by
  unfold accT
  split
  · simp
  · have := joinB_take sep l k
    simp only [List.length_append]; omega
set_option maxHeartbeats 1600000 in
theorem l3Term_any {B : Nat → Prop} : ∀ (m : Nat) (t : Tm) (v0 v1 : Value) (w : World), TmAt B m w t [v0, v1] → t.nodes = true → t.fmt.length ≤ 1000000000000 →
      Calls Tryz.prog 92 #[.agg #[v0, v1]] w fun e w' => e = .returned (.string ⟨t.fmt.toArray⟩) ∧ Below w.heap.size w w' := by
  intro m
  induction m with
  | zero => intro t v0 v1 w h; exact h.elim
  | succ m ih =>
    rintro ⟨s, us⟩ v0 v1 w ⟨va, hcs, hs, hl⟩ hn hz
    simp only [List.cons.injEq, and_true] at hcs
    obtain ⟨rfl, rfl⟩ := hcs
    obtain ⟨p, c, rfl, -⟩ := hl.form
    have hlen := nodes_len hn
    have hq := isEq_list (nodes_noEq hn)
    simp only [Tm.n] at hq
    have HM := Lib.hid (Tm.fmt_mk (us := us) (word_not61 (Tm.nodes_mk hn).1))
    have HN := Lib.hid (Tm.nodes_mk hn).2
    have hfm : us ≠ [] → (Tm.mk s us).fmt = s.data.toList ++ [40] ++ joinB [44] (Tm.fmtL us) ++ [41] := fun h => by
      rw [HM.out, if_neg (by simpa using h)]
    have HF := Lib.hid hfm
    have hjl : s.size + 1 + (joinB [44] (Tm.fmtL us)).length + 1 ≤ 1000000000002 := by
      by_cases h : us = []
      · subst h; rw [HM.out] at hz; simp [Tm.fmtL, joinB] at hz ⊢; omega
      · rw [hfm h] at hz; simp at hz ⊢; omega
    have IH := Lib.hid ih
    have HL := Lib.hid hl
    clear ih hl hn hz hfm
    go_enter Tryz.func92, Tryz.ntmps92
    go_wp2
    obtain ⟨W, hW⟩ : ∃ W : World, W = w.alloc (.cells #[.string s, .slice p us.length c] 26) := ⟨_, rfl⟩
    have hwb : W.cell? ⟨w.heap.size, 1, none⟩ = some (.slice p us.length c) := by rw [hW]; go_simp
    have hbW : Below w.heap.size w W := by rw [hW]; exact bel
    rw [← hW]
    clear hW
    go_loopw [3, 4] (fun x i wr => ∃ k : Nat, k ≤ us.length ∧ i = .int .i64 k ∧ x = .string ⟨(s.data.toList ++ accT [40] [44] (Tm.fmtL us) k).toArray⟩ ∧ Below W.heap.size W wr) (fun _ i _ => us.length - (intOf i).toNat)
    case atStart => exact ⟨0, Nat.zero_le _, rfl, by rw [accT_zero, List.append_nil], Below.refl _ _⟩
    case round =>
      obtain ⟨k, hk, rfl, rfl, hbr⟩ := hrel
      have hb := Below.step hbW hbr
      have hwr := (hbr.cell (World.block_lt_of_cell? W _ hwb)).trans hwb
      have hal := accT_len [40] [44] (Tm.fmtL us) k
      simp only [List.length_cons, List.length_nil] at hal
      by_cases hlt : k < us.length
      · obtain ⟨b, o, rfl, hB, x0, x1, hx0, hx1, hx⟩ := (HL.out.mono (SameOn.below hb) (fun _ h => h) (fun x cs _ hx => TmAt.below hb hx)).at2 hlt
        have hS := fmtL_at hlt
        have hF := fmt_arg hlt [44]
        have hN := nodess_arg HN.out hlt
        obtain ⟨a, ha⟩ : ∃ a, us[k] = a := ⟨_, rfl⟩
        rw [ha] at hx
        rw [ha] at hS
        rw [ha] at hF
        rw [ha] at hN
        have HX := Lib.hid hx
        have HS := Lib.hid hS
        have HF := Lib.hid hF
        have HN := Lib.hid hN
        clear hx ha hS hF hN
        have zb := bsz (World.block_lt_of_cell? _ _ hx0)
        obtain ⟨pa, ca, rfl, rfl, -, -⟩ := HX.out.form
        have hfl : a.fmt.length ≤ 1000000000000 := by have := HF.out; omega
        by_cases hk0 : k = 0
        · have hk1 : ((k : Int) == 0) = true := by simp; omega
          have HA0 := Lib.hid (show accT [40] [44] (Tm.fmtL us) k = [] by rw [hk0]; rfl)
          have HA := Lib.hid (show accT [40] [44] (Tm.fmtL us) (k + 1) = [40] ++ (Tm.fmtL us)[k]'(by rw [fmtL_len]; exact hlt) by subst hk0; exact accT_one [40] [44] (Tm.fmtL us) (by rw [fmtL_len]; exact hlt))
          generalize accT [40] [44] (Tm.fmtL us) k = x at *
          clear hk0
          go_wp2_with fail
          refine (IH.out a _ _ _ (HX.out.below (by exact bel)) HN.out hfl).mono ?_
          rintro e w1 ⟨rfl, hb1⟩
          have ⟨cw1, fw1⟩ := bcell hb1
          have qw1 := hb1.size
          (try simp at qw1)
          (try have zw1w := bsz (show w.heap.size < w1.heap.size by omega))
          go_wp2
          refine ⟨⟨k + 1, by omega, by go_num, ?_, Below.step hbr hb1⟩, by simp [intOf]; omega⟩
          rw [HA.out, HS.out, HA0.out]
          exact congrArg Value.string (by apply ByteArray.ext; simp)
        · have hk1 : ((k : Int) == 0) = false := by simp; omega
          have HA := Lib.hid (accT_succ [40] [44] (Tm.fmtL us) hk0 (by rw [fmtL_len]; exact hlt))
          generalize accT [40] [44] (Tm.fmtL us) k = x at *
          go_wp2_with fail
          refine (IH.out a _ _ _ (HX.out.below (by exact bel)) HN.out hfl).mono ?_
          rintro e w1 ⟨rfl, hb1⟩
          have ⟨cw1, fw1⟩ := bcell hb1
          have qw1 := hb1.size
          (try simp at qw1)
          (try have zw1w := bsz (show w.heap.size < w1.heap.size by omega))
          go_wp2
          refine ⟨⟨k + 1, by omega, by go_num, ?_, Below.step hbr hb1⟩, by simp [intOf]; omega⟩
          rw [HA.out, HS.out]
          exact congrArg Value.string (by apply ByteArray.ext; simp)
      · obtain rfl : k = us.length := by omega
        by_cases h0 : us = []
        · subst h0
          go_wp2
          go_ret
          exact ⟨ret_str (by rw [HM.out]; simp [accT]), hb⟩
        · have hl0 : 0 < (us.length : Int) := by have := List.length_pos_iff.2 h0; omega
          have HA := Lib.hid (show accT [40] [44] (Tm.fmtL us) us.length = [40] ++ joinB [44] (Tm.fmtL us) by
            have := accT_all [40] [44] (Tm.fmtL us) (by rw [fmtL_len]; omega)
            rw [fmtL_len] at this; exact this)
          have HF0 := Lib.hid (HF.out h0)
          generalize accT [40] [44] (Tm.fmtL us) us.length = x at *
          go_wp2
          go_ret
          exact ⟨ret_strs (by rw [HF0.out, HA.out]; simp), hb⟩
end Go.Proofs.YtkgfanajgdelcaaGreat
