/- Sizes, depths and texts against the allowance that the laws count. No conditions; no program is walked. -/
import Derived.Test.YtcegllnljaapiaaGreatDoorAste2
import Derived.Test.YtcegllnljaapiaaGreatDoorAste4
namespace Go.Proofs.YtcegllnljaapiaaGreatDoor
open Go.RowKit
theorem join_eq (sep : List UInt8) : ∀ l : List (List UInt8), Lib.join l sep = joinB sep l
  | [] => rfl
  | [a] => by rw [Lib.join_one]; rfl
  | a :: b :: l => by
    rw [joinB, ← join_eq sep (b :: l), Lib.join_cons, Lib.join_cons, Lib.joinTail]
    simp [Lib.joinTail, List.append_assoc]
theorem strs_map (l : List (List UInt8)) : (l.map (fun x => (⟨x.toArray⟩ : ByteArray))).map (·.data.toList) = l := by
  induction l with
  | nil => rfl
  | cons a l ih => rw [List.map_cons, List.map_cons, ih]
theorem join_own {base : Nat} {v : Value} {l : List (List UInt8)} (sp : List UInt8) (w : World) (h : w.ownsRow base 9 1 v l.length (strV l)) (hl : l.length ≤ 1000000) (hlen : (joinB sp l).length ≤ 140737488355328) :
    Calls Tryz.prog 137 #[v, .string ⟨sp.toArray⟩] w fun e w' => e = .returned (.string ⟨(joinB sp l).toArray⟩) ∧ Below w.heap.size w w' := by
  cases l with
  | nil =>
    rcases h.2 with ⟨rfl, _⟩ | ⟨g, cap, cur, rfl, _⟩
    · exact (Tryz.strings_Join_none _ _ _ _).mono fun e w' ⟨he, hw⟩ => ⟨he, hw ▸ Below.refl _ _⟩
    · exact (Tryz.strings_Join_none _ _ _ _).mono fun e w' ⟨he, hw⟩ => ⟨he, hw ▸ Below.refl _ _⟩
  | cons a l =>
    obtain ⟨g, cap, rfl⟩ := own_form h (by simp)
    have hlt := own_lt h
    have hcap : (a :: l).length ≤ cap := by
      rcases h.2 with ⟨h, _⟩ | ⟨g', cap', cur, hv, _, _, hc, _⟩
      · cases h
      · injection hv with e1 e2 e3; subst e3; exact hc
    have := Tryz.strings_Join g 0 cap ((a :: l).map (fun x => (⟨x.toArray⟩ : ByteArray))) ⟨sp.toArray⟩ w (fun j x hx => by
      rw [Nat.zero_add]
      have hj : j < (a :: l).length := by have := (List.getElem?_eq_some_iff.1 hx).1; simpa using this
      rw [h.cellAt j (by omega), strV, List.getElem?_map]
      rw [List.getElem?_map] at hx
      cases hq : (a :: l)[j]? with
      | none => rw [hq] at hx; cases hx
      | some y => rw [hq] at hx; simp only [Option.map_some, Option.some.injEq] at hx; subst hx; rfl) hlt (by simp at hl ⊢; omega) (by simpa using hcap) (by rw [strs_map, join_eq]; exact hlen)
    rw [strs_map, join_eq, List.length_map] at this
    exact this
theorem fmtL_map : ∀ us : List Tm, Tm.fmtL us = us.map Tm.fmt
  | [] => rfl
  | a :: us => by rw [Tm.fmtL, fmtL_map us]; rfl
theorem fmtL_len (us : List Tm) : (Tm.fmtL us).length = us.length := by rw [fmtL_map, List.length_map]
theorem fmtL_at {us : List Tm} {k : Nat} (h : k < us.length) : (Tm.fmtL us)[k]'(by rw [fmtL_len]; exact h) = us[k].fmt := by simp [fmtL_map]
theorem joinB_mem {sep : List UInt8} : ∀ {l : List (List UInt8)} {a : List UInt8}, a ∈ l → a.length ≤ (joinB sep l).length
  | [b], a, h => by simp at h; subst h; exact Nat.le_refl _
  | b :: c :: l, a, h => by
    rw [joinB]
    simp only [List.length_append]
    rcases List.mem_cons.1 h with rfl | h
    · omega
    · have := joinB_mem (sep := sep) h; omega
theorem fmt_arg {us : List Tm} {k : Nat} (h : k < us.length) (sep : List UInt8) : (us[k]).fmt.length ≤ (joinB sep (Tm.fmtL us)).length := by
  refine joinB_mem ?_
  rw [fmtL_map]
  exact List.mem_map_of_mem (List.getElem_mem h)
theorem nodess_arg {us : List Tm} (hn : Tm.nodess us = true) {k : Nat} (h : k < us.length) : (us[k]).nodes = true := by
  induction us generalizing k with
  | nil => simp at h
  | cons a us ih =>
    rw [Tm.nodess, Bool.and_eq_true] at hn
    cases k with
    | zero => exact hn.1
    | succ k => exact ih hn.2 (by simpa using h)
theorem nodes_len {n : ByteArray} {us : List Tm} (h : (Tm.mk n us).nodes = true) : us.length ≤ 4 := by
  rw [Tm.nodes] at h
  split at h
  · cases us <;> simp at h ⊢
  · simp only [Bool.and_eq_true, decide_eq_true_eq] at h; exact h.1.2
theorem nodes_noEq {t : Tm} (h : t.nodes = true) : isEq t.n = false := by
  obtain ⟨n, us⟩ := t
  have := word_not61 (Tm.nodes_mk h).1
  simpa [isEq, Tm.n] using this
/-- A list of texts, written one by one into an own row; a cell of block g stays. -/
def TextsRel (l : List (List UInt8)) (g : Nat) (u : Value) (w : World) (out i : Value) (wr : World) : Prop :=
  ∃ k : Nat, k ≤ l.length ∧ i = .int .i64 k ∧ wr.ownsRow (g + 1) 9 1 out k (strV (l.take k)) ∧ wr.cell? ⟨g, 0, none⟩ = some u ∧ Below w.heap.size w wr
theorem strV_take {l : List (List UInt8)} {k : Nat} (h : k < l.length) : strV (l.take (k + 1)) = strV (l.take k) ++ [.string ⟨(l[k]).toArray⟩] := by
  rw [List.take_succ_eq_append_getElem h, strV_snoc]
set_option maxRecDepth 100000 in
set_option maxHeartbeats 1600000 in
theorem formatTerm_any {B : Nat → Prop} : ∀ (m : Nat) (t : Tm) (v0 v1 : Value) (w : World), TmAt B m w t [v0, v1] → t.nodes = true → t.fmt.length ≤ 1000000000000 →
      Calls Tryz.prog 268 #[.agg #[v0, v1]] w fun e w' => e = .returned (.string ⟨t.fmt.toArray⟩) ∧ Below w.heap.size w w' := by
  intro m
  induction m with
  | zero => intro t v0 v1 w h; exact h.elim
  | succ m ih =>
    rintro ⟨s, us⟩ v0 v1 w ⟨va, hcs, hs, hl⟩ hn hz
    simp only [List.cons.injEq, and_true] at hcs
    obtain ⟨rfl, rfl⟩ := hcs
    obtain ⟨p, c, rfl, -⟩ := hl.form
    have hlen := nodes_len hn
    have HQ := Lib.hid (nodes_noEq hn)
    have HM := Lib.hid (Tm.fmt_mk (us := us) (word_not61 (Tm.nodes_mk hn).1))
    have HN := Lib.hid (Tm.nodes_mk hn).2
    have IH := Lib.hid ih
    have HL := Lib.hid hl
    clear ih hl hn
    by_cases h0 : us = []
    · subst h0
      go_enter Tryz.func268, Tryz.ntmps268
      go_wp2_with fail
      refine (isEquality_any _ _ _).mono ?_
      rintro e w1 ⟨rfl, hb1⟩
      have ⟨cw1, fw1⟩ := bcell hb1
      have qw1 := hb1.size
      (try simp at qw1)
      (try have zw1w := bsz (show w.heap.size < w1.heap.size by omega))
      rw [show isEq s = false from HQ.out]
      go_wp2
      go_ret
      exact ⟨ret_strs (by rw [HM.out]; rfl), by (repeat (first | with_reducible exact Below.refl _ _ | with_reducible assumption | with_reducible refine Below.al ?_ _ | with_reducible refine Below.sc ?_ (by first | exact Nat.le_refl _ | (simp; done) | (simp; omega)) _ | assumption | exact Below.refl _ _ | refine Below.dr ?_ | refine Below.drN ?_ _ | refine Below.step ?_ (by assumption)))⟩
    · have hm := HM.out
      have hie : us.isEmpty = false := by
        cases us with
        | nil => exact absurd rfl h0
        | cons a l => rfl
      rw [hie, if_neg (by decide)] at hm
      have hfm : (Tm.mk s us).fmt.length = s.size + 1 + (joinB [44] (Tm.fmtL us)).length + 1 := by rw [hm]; simp; omega
      have hjl : s.size + 1 + (joinB [44] (Tm.fmtL us)).length + 1 ≤ 1000000000000 := by omega
      have HM2 := Lib.hid hm
      have hl0 : 0 < us.length := List.length_pos_iff.2 h0
      clear hfm hz hm HM hie
      go_enter Tryz.func268, Tryz.ntmps268
      go_wp2_with fail
      refine (isEquality_any _ _ _).mono ?_
      rintro e w1 ⟨rfl, hb1⟩
      have ⟨cw1, fw1⟩ := bcell hb1
      have qw1 := hb1.size
      (try simp at qw1)
      (try have zw1w := bsz (show w.heap.size < w1.heap.size by omega))
      rw [show isEq s = false from HQ.out]
      go_wp2
      go_loopw [3, 30] (TextsRel (Tm.fmtL us) w.heap.size (.string s) w) (fun _ i _ => us.length - (intOf i).toNat)
      case atStart => exact ⟨0, Nat.zero_le _, rfl, row_empty _ _ _ _ (by omega), by go_simp, by (repeat (first | with_reducible exact Below.refl _ _ | with_reducible assumption | with_reducible refine Below.al ?_ _ | with_reducible refine Below.sc ?_ (by first | exact Nat.le_refl _ | (simp; done) | (simp; omega)) _ | assumption | exact Below.refl _ _ | refine Below.dr ?_ | refine Below.drN ?_ _ | refine Below.step ?_ (by assumption)))⟩
      case round =>
        obtain ⟨k, hk, rfl, ho, hc, hb⟩ := hrel
        have HO := Lib.hid ho
        rw [fmtL_len] at hk
        have hqr := hb.size
        have hgr : w.heap.size < wr.heap.size := World.block_lt_of_cell? _ _ hc
        clear ho
        by_cases hlt : k < us.length
        · obtain ⟨b, o, rfl, hB, x0, x1, hx0, hx1, hx⟩ := (HL.out.mono (SameOn.below hb) (fun _ h => h) (fun x cs _ hx => TmAt.below hb hx)).at2 hlt
          have hS := fmtL_at hlt
          have hF := fmt_arg hlt [44]
          have hN := nodess_arg HN.out hlt
          obtain ⟨a, ha⟩ : ∃ a, us[k] = a := ⟨_, rfl⟩
          rw [ha] at hx
          rw [ha] at hS
          rw [ha] at hF
          rw [ha] at hN
          have HX := Lib.hid hx
          have HS := Lib.hid hS
          have HF := Lib.hid hF
          have HN := Lib.hid hN
          clear hx ha hS hF hN
          have zb := bsz (World.block_lt_of_cell? _ _ hx0)
          obtain ⟨pa, ca, rfl, rfl, -, -⟩ := HX.out.form
          have hfl : a.fmt.length ≤ 1000000000000 := by have := HF.out; omega
          go_wp2_with fail
          refine (IH.out a _ _ _ (HX.out.below (by (repeat (first | with_reducible exact Below.refl _ _ | with_reducible assumption | with_reducible refine Below.al ?_ _ | with_reducible refine Below.sc ?_ (by first | exact Nat.le_refl _ | (simp; done) | (simp; omega)) _ | assumption | exact Below.refl _ _ | refine Below.dr ?_ | refine Below.drN ?_ _ | refine Below.step ?_ (by assumption))))) HN.out hfl).mono ?_
          rintro e w2 ⟨rfl, hb2⟩
          have ⟨cw2, fw2⟩ := bcell hb2
          have qw2 := hb2.size
          (try simp at qw2)
          (try have zw2w := bsz (show w.heap.size < w2.heap.size by omega))
          (try have zw2w1 := bsz (show w1.heap.size < w2.heap.size by omega))
          have HO1 := Lib.hid (own_below HO.out (show Below wr.heap.size wr w2 by (repeat (first | with_reducible exact Below.refl _ _ | with_reducible assumption | with_reducible refine Below.al ?_ _ | with_reducible refine Below.sc ?_ (by first | exact Nat.le_refl _ | (simp; done) | (simp; omega)) _ | assumption | exact Below.refl _ _ | refine Below.dr ?_ | refine Below.drN ?_ _ | refine Below.step ?_ (by assumption)))))
          have HC1 := Lib.hid ((show Below wr.heap.size wr w2 by (repeat (first | with_reducible exact Below.refl _ _ | with_reducible assumption | with_reducible refine Below.al ?_ _ | with_reducible refine Below.sc ?_ (by first | exact Nat.le_refl _ | (simp; done) | (simp; omega)) _ | assumption | exact Below.refl _ _ | refine Below.dr ?_ | refine Below.drN ?_ _ | refine Below.step ?_ (by assumption)))).cell hgr |>.trans hc)
          have hb3 : Below w.heap.size w w2 := by (repeat (first | with_reducible exact Below.refl _ _ | with_reducible assumption | with_reducible refine Below.al ?_ _ | with_reducible refine Below.sc ?_ (by first | exact Nat.le_refl _ | (simp; done) | (simp; omega)) _ | assumption | exact Below.refl _ _ | refine Below.dr ?_ | refine Below.drN ?_ _ | refine Below.step ?_ (by assumption)))
          clear hc
          go_wp2_with (at_builtin; refine wpList_app1 rfl (.tmp 34) (.tmp 37) _ rfl (w.heap.size + 1) 9 1 16 elemStr _ _ _ rfl w2 #[.string ⟨a.fmt.toArray⟩] rfl _ (by simp) rfl HO1.out rfl (by simp [Value.oneCell']) (by omega) (by unfold maxLen; omega) (by omega) ?_; intro v1 w3 hown1 hg1 hnr1 hlt1)
          refine ⟨⟨v1, _, _, ⟨k + 1, by rw [fmtL_len]; omega, by go_num, ?_, ?_, hb3.grown hg1 (by omega) (fun k hk => by have := own_base HO1.out k hk; omega)⟩, rfl, rfl, rfl⟩, by simp [intOf]; omega⟩
          · rw [strV_take (by rw [fmtL_len]; omega), HS.out]; exact hown1
          · exact grown_cell hg1 HC1.out (fun e => by have := own_base HO1.out _ e.symm; omega)
        · obtain rfl : k = us.length := by omega
          have ho := HO.out
          rw [← fmtL_len, List.take_length] at ho
          have HO2 := Lib.hid ho
          clear ho HO
          go_wp2
          obtain ⟨C, HC0⟩ := class_of (InF wr.heap.size _ [(⟨w.heap.size, 0, none⟩, .string s)] [] [])
          have HC := Lib.hid HC0
          clear HC0
          refine wp_region_flow (C := C) (by kernel_rfl) (by kernel_rfl) (fun L hL => (HC.out _ _).2 (InF.start (by first | (intro _ hs; cases hs; done) | (simp only [List.forall_mem_cons]; go_simp)) (by first | (intro _ hs; cases hs; done) | (simp only [List.forall_mem_cons]; go_simp)) (by first | (intro _ hs; cases hs; done) | (simp only [List.forall_mem_cons]; go_simp)) (by first | (intro _ hs; cases hs; done) | (simp only [List.forall_mem_cons]; go_simp)) L hL)) ?_
          repeat (first | (apply flow_free rfl; (intro L w' hun hrd hC; have hC := (HC.out _ _).1 hC; have hb' := hC.below; (try have hw' : Below w.heap.size w w' := by first | exact Below.trans (by (repeat (first | with_reducible exact Below.refl _ _ | with_reducible assumption | with_reducible refine Below.al ?_ _ | with_reducible refine Below.sc ?_ (by first | exact Nat.le_refl _ | (simp; done) | (simp; omega)) _ | assumption | exact Below.refl _ _ | refine Below.dr ?_ | refine Below.drN ?_ _ | refine Below.step ?_ (by assumption)))) hb' | ((repeat (first | with_reducible exact Below.refl _ _ | with_reducible assumption | with_reducible refine Below.al ?_ _ | with_reducible refine Below.sc ?_ (by first | exact Nat.le_refl _ | (simp; done) | (simp; omega)) _ | assumption | exact Below.refl _ _ | refine Below.dr ?_ | refine Below.drN ?_ _ | refine Below.step ?_ (by assumption))); done)); have hf' := hC.cell; (try simp only [List.forall_mem_cons] at hf'); go_simp; first | exact ⟨(HC.out _ _).2 (hC.skip _ (by rfl)), rfl⟩ | (rw [if_neg]; (exact ⟨(HC.out _ _).2 (hC.skip _ (by rfl)), rfl⟩); omega) | (go_at_call 137; refine (join_own [44] _ (own_below HO2.out hb') (by rw [fmtL_len]; omega) (by omega)).mono ?_; rintro e w1 ⟨rfl, hb1⟩; exact ⟨rfl, (HC.out _ _).2 ((hC.next (by first | (simp; done) | (simp; omega) | omega) hb1).skip _ (by rfl))⟩)); go_simp) | (apply flow_yes; (case hw => go_simp); (intro L w' hun hrd hC; have hC := (HC.out _ _).1 hC; have hb' := hC.below; (try have hw' : Below w.heap.size w w' := by first | exact Below.trans (by (repeat (first | with_reducible exact Below.refl _ _ | with_reducible assumption | with_reducible refine Below.al ?_ _ | with_reducible refine Below.sc ?_ (by first | exact Nat.le_refl _ | (simp; done) | (simp; omega)) _ | assumption | exact Below.refl _ _ | refine Below.dr ?_ | refine Below.drN ?_ _ | refine Below.step ?_ (by assumption)))) hb' | ((repeat (first | with_reducible exact Below.refl _ _ | with_reducible assumption | with_reducible refine Below.al ?_ _ | with_reducible refine Below.sc ?_ (by first | exact Nat.le_refl _ | (simp; done) | (simp; omega)) _ | assumption | exact Below.refl _ _ | refine Below.dr ?_ | refine Below.drN ?_ _ | refine Below.step ?_ (by assumption))); done)); have hf' := hC.cell; (try simp only [List.forall_mem_cons] at hf'); go_simp; first | exact ⟨(HC.out _ _).2 (hC.skip _ (by rfl)), rfl⟩ | (rw [if_neg]; (exact ⟨(HC.out _ _).2 (hC.skip _ (by rfl)), rfl⟩); omega) | (go_at_call 137; refine (join_own [44] _ (own_below HO2.out hb') (by rw [fmtL_len]; omega) (by omega)).mono ?_; rintro e w1 ⟨rfl, hb1⟩; exact ⟨rfl, (HC.out _ _).2 ((hC.next (by first | (simp; done) | (simp; omega) | omega) hb1).skip _ (by rfl))⟩)); go_simp) | (apply flow_no; (case hw => (go_simp; try (intro hh; cases hh))); (intro L w' _ _ hC; exact (HC.out _ _).2 (((HC.out _ _).1 hC).skip _ (by rfl))); go_simp))
          refine flow_nil ?_
          intro L wz hL hz
          have hz := (HC.out _ _).1 hz
          have hbz := hz.below
          have hcz := hz.cell
          try simp only [List.forall_mem_cons] at hcz
          have hdz := hz.done
          try simp only [List.forall_mem_cons] at hdz
          (try have hwz : Below w.heap.size w wz := by first | exact Below.trans (by (repeat (first | with_reducible exact Below.refl _ _ | with_reducible assumption | with_reducible refine Below.al ?_ _ | with_reducible refine Below.sc ?_ (by first | exact Nat.le_refl _ | (simp; done) | (simp; omega)) _ | assumption | exact Below.refl _ _ | refine Below.dr ?_ | refine Below.drN ?_ _ | refine Below.step ?_ (by assumption)))) hbz | ((repeat (first | with_reducible exact Below.refl _ _ | with_reducible assumption | with_reducible refine Below.al ?_ _ | with_reducible refine Below.sc ?_ (by first | exact Nat.le_refl _ | (simp; done) | (simp; omega)) _ | assumption | exact Below.refl _ _ | refine Below.dr ?_ | refine Below.drN ?_ _ | refine Below.step ?_ (by assumption))); done))
          go_wp2
          go_ret
          exact ⟨ret_strs (by rw [HM2.out]; simp), by (repeat (first | with_reducible exact Below.refl _ _ | with_reducible assumption | with_reducible refine Below.al ?_ _ | with_reducible refine Below.sc ?_ (by first | exact Nat.le_refl _ | (simp; done) | (simp; omega)) _ | assumption | exact Below.refl _ _ | refine Below.dr ?_ | refine Below.drN ?_ _ | refine Below.step ?_ (by assumption)))⟩
theorem joinB_snoc (sep : List UInt8) : ∀ (l : List (List UInt8)) (a : List UInt8), l ≠ [] → joinB sep (l ++ [a]) = joinB sep l ++ sep ++ a
  | [b], a, _ => rfl
  | b :: c :: l, a, _ => by
    have := joinB_snoc sep (c :: l) a (by simp)
    rw [List.cons_append] at this
    rw [List.cons_append, List.cons_append, joinB, this, joinB]
    simp only [List.append_assoc]
/-- What a loop that joins has written after k rounds: in front, the first k texts. -/
def accT (hd sep : List UInt8) (l : List (List UInt8)) (k : Nat) : List UInt8 := if k = 0 then [] else hd ++ joinB sep (l.take k)
theorem accT_zero (hd sep : List UInt8) (l : List (List UInt8)) : accT hd sep l 0 = [] := rfl
theorem accT_one (hd sep : List UInt8) (l : List (List UInt8)) (h : 0 < l.length) : accT hd sep l 1 = hd ++ l[0] := by
  rw [accT, if_neg (by omega)]
  cases l with
  | nil => simp at h
  | cons a l => rfl
theorem accT_succ (hd sep : List UInt8) (l : List (List UInt8)) {k : Nat} (hk : k ≠ 0) (h : k < l.length) : accT hd sep l (k + 1) = accT hd sep l k ++ sep ++ l[k] := by
  rw [accT, if_neg (by omega), accT, if_neg hk, List.take_succ_eq_append_getElem h, joinB_snoc]
  · simp only [List.append_assoc]
  · intro e
    have := congrArg List.length e
    rw [List.length_take, List.length_nil] at this
    omega
theorem accT_all (hd sep : List UInt8) (l : List (List UInt8)) (h : 0 < l.length) : accT hd sep l l.length = hd ++ joinB sep l := by
  rw [accT, if_neg (by omega), List.take_length]
theorem joinB_take (sep : List UInt8) : ∀ (l : List (List UInt8)) (k : Nat), (joinB sep (l.take k)).length ≤ (joinB sep l).length
  | [], k => by simp
  | [a], 0 => by simp [joinB]
  | [a], k + 1 => by simp
  | a :: b :: l, 0 => by simp [joinB]
  | a :: b :: l, 1 => by simp [joinB]
  | a :: b :: l, k + 2 => by
    have := joinB_take sep (b :: l) (k + 1)
    rw [List.take_succ_cons] at this
    rw [List.take_succ_cons, List.take_succ_cons, joinB, joinB]
    simp only [List.length_append]
    omega
theorem accT_len (hd sep : List UInt8) (l : List (List UInt8)) (k : Nat) : (accT hd sep l k).length ≤ hd.length + (joinB sep l).length := by
  unfold accT
  split
  · simp
  · have := joinB_take sep l k
    simp only [List.length_append]; omega
set_option maxRecDepth 100000 in
set_option maxHeartbeats 1600000 in
theorem l3Term_any {B : Nat → Prop} : ∀ (m : Nat) (t : Tm) (v0 v1 : Value) (w : World), TmAt B m w t [v0, v1] → t.nodes = true → t.fmt.length ≤ 1000000000000 →
      Calls Tryz.prog 311 #[.agg #[v0, v1]] w fun e w' => e = .returned (.string ⟨t.fmt.toArray⟩) ∧ Below w.heap.size w w' := by
  intro m
  induction m with
  | zero => intro t v0 v1 w h; exact h.elim
  | succ m ih =>
    rintro ⟨s, us⟩ v0 v1 w ⟨va, hcs, hs, hl⟩ hn hz
    simp only [List.cons.injEq, and_true] at hcs
    obtain ⟨rfl, rfl⟩ := hcs
    obtain ⟨p, c, rfl, -⟩ := hl.form
    have hlen := nodes_len hn
    have hq := isEq_list (nodes_noEq hn)
    simp only [Tm.n] at hq
    have HM := Lib.hid (Tm.fmt_mk (us := us) (word_not61 (Tm.nodes_mk hn).1))
    have HN := Lib.hid (Tm.nodes_mk hn).2
    have hfm : us ≠ [] → (Tm.mk s us).fmt = s.data.toList ++ [40] ++ joinB [44] (Tm.fmtL us) ++ [41] := fun h => by
      rw [HM.out, if_neg (by simpa using h)]
    have HF := Lib.hid hfm
    have hjl : s.size + 1 + (joinB [44] (Tm.fmtL us)).length + 1 ≤ 1000000000002 := by
      by_cases h : us = []
      · subst h; rw [HM.out] at hz; simp [Tm.fmtL, joinB] at hz ⊢; omega
      · rw [hfm h] at hz; simp at hz ⊢; omega
    have IH := Lib.hid ih
    have HL := Lib.hid hl
    clear ih hl hn hz hfm
    go_enter Tryz.func311, Tryz.ntmps311
    go_wp2
    obtain ⟨W, hW⟩ : ∃ W : World, W = w.alloc (.cells #[.string s, .slice p us.length c] 57) := ⟨_, rfl⟩
    have hwb : W.cell? ⟨w.heap.size, 1, none⟩ = some (.slice p us.length c) := by rw [hW]; go_simp
    have hbW : Below w.heap.size w W := by rw [hW]; (repeat (first | with_reducible exact Below.refl _ _ | with_reducible assumption | with_reducible refine Below.al ?_ _ | with_reducible refine Below.sc ?_ (by first | exact Nat.le_refl _ | (simp; done) | (simp; omega)) _ | assumption | exact Below.refl _ _ | refine Below.dr ?_ | refine Below.drN ?_ _ | refine Below.step ?_ (by assumption)))
    rw [← hW]
    clear hW
    go_loopw [3, 4] (fun x i wr => ∃ k : Nat, k ≤ us.length ∧ i = .int .i64 k ∧ x = .string ⟨(s.data.toList ++ accT [40] [44] (Tm.fmtL us) k).toArray⟩ ∧ Below W.heap.size W wr) (fun _ i _ => us.length - (intOf i).toNat)
    case atStart => exact ⟨0, Nat.zero_le _, rfl, by rw [accT_zero, List.append_nil], Below.refl _ _⟩
    case round =>
      obtain ⟨k, hk, rfl, rfl, hbr⟩ := hrel
      have hb := Below.step hbW hbr
      have hwr := (hbr.cell (World.block_lt_of_cell? W _ hwb)).trans hwb
      have hal := accT_len [40] [44] (Tm.fmtL us) k
      simp only [List.length_cons, List.length_nil] at hal
      by_cases hlt : k < us.length
      · obtain ⟨b, o, rfl, hB, x0, x1, hx0, hx1, hx⟩ := (HL.out.mono (SameOn.below hb) (fun _ h => h) (fun x cs _ hx => TmAt.below hb hx)).at2 hlt
        have hS := fmtL_at hlt
        have hF := fmt_arg hlt [44]
        have hN := nodess_arg HN.out hlt
        obtain ⟨a, ha⟩ : ∃ a, us[k] = a := ⟨_, rfl⟩
        rw [ha] at hx
        rw [ha] at hS
        rw [ha] at hF
        rw [ha] at hN
        have HX := Lib.hid hx
        have HS := Lib.hid hS
        have HF := Lib.hid hF
        have HN := Lib.hid hN
        clear hx ha hS hF hN
        have zb := bsz (World.block_lt_of_cell? _ _ hx0)
        obtain ⟨pa, ca, rfl, rfl, -, -⟩ := HX.out.form
        have hfl : a.fmt.length ≤ 1000000000000 := by have := HF.out; omega
        by_cases hk0 : k = 0
        · have hk1 : ((k : Int) == 0) = true := by simp; omega
          have HA0 := Lib.hid (show accT [40] [44] (Tm.fmtL us) k = [] by rw [hk0]; rfl)
          have HA := Lib.hid (show accT [40] [44] (Tm.fmtL us) (k + 1) = [40] ++ (Tm.fmtL us)[k]'(by rw [fmtL_len]; exact hlt) by subst hk0; exact accT_one [40] [44] (Tm.fmtL us) (by rw [fmtL_len]; exact hlt))
          generalize accT [40] [44] (Tm.fmtL us) k = x at *
          clear hk0
          go_wp2_with fail
          refine (IH.out a _ _ _ (HX.out.below (by (repeat (first | with_reducible exact Below.refl _ _ | with_reducible assumption | with_reducible refine Below.al ?_ _ | with_reducible refine Below.sc ?_ (by first | exact Nat.le_refl _ | (simp; done) | (simp; omega)) _ | assumption | exact Below.refl _ _ | refine Below.dr ?_ | refine Below.drN ?_ _ | refine Below.step ?_ (by assumption))))) HN.out hfl).mono ?_
          rintro e w1 ⟨rfl, hb1⟩
          have ⟨cw1, fw1⟩ := bcell hb1
          have qw1 := hb1.size
          (try simp at qw1)
          (try have zw1w := bsz (show w.heap.size < w1.heap.size by omega))
          go_wp2
          refine ⟨⟨k + 1, by omega, by go_num, ?_, Below.step hbr hb1⟩, by simp [intOf]; omega⟩
          rw [HA.out, HS.out, HA0.out]
          exact congrArg Value.string (by apply ByteArray.ext; simp)
        · have hk1 : ((k : Int) == 0) = false := by simp; omega
          have HA := Lib.hid (accT_succ [40] [44] (Tm.fmtL us) hk0 (by rw [fmtL_len]; exact hlt))
          generalize accT [40] [44] (Tm.fmtL us) k = x at *
          go_wp2_with fail
          refine (IH.out a _ _ _ (HX.out.below (by (repeat (first | with_reducible exact Below.refl _ _ | with_reducible assumption | with_reducible refine Below.al ?_ _ | with_reducible refine Below.sc ?_ (by first | exact Nat.le_refl _ | (simp; done) | (simp; omega)) _ | assumption | exact Below.refl _ _ | refine Below.dr ?_ | refine Below.drN ?_ _ | refine Below.step ?_ (by assumption))))) HN.out hfl).mono ?_
          rintro e w1 ⟨rfl, hb1⟩
          have ⟨cw1, fw1⟩ := bcell hb1
          have qw1 := hb1.size
          (try simp at qw1)
          (try have zw1w := bsz (show w.heap.size < w1.heap.size by omega))
          go_wp2
          refine ⟨⟨k + 1, by omega, by go_num, ?_, Below.step hbr hb1⟩, by simp [intOf]; omega⟩
          rw [HA.out, HS.out]
          exact congrArg Value.string (by apply ByteArray.ext; simp)
      · obtain rfl : k = us.length := by omega
        by_cases h0 : us = []
        · subst h0
          go_wp2
          go_ret
          exact ⟨ret_str (by rw [HM.out]; simp [accT]), hb⟩
        · have hl0 : 0 < (us.length : Int) := by have := List.length_pos_iff.2 h0; omega
          have HA := Lib.hid (show accT [40] [44] (Tm.fmtL us) us.length = [40] ++ joinB [44] (Tm.fmtL us) by
            have := accT_all [40] [44] (Tm.fmtL us) (by rw [fmtL_len]; omega)
            rw [fmtL_len] at this; exact this)
          have HF0 := Lib.hid (HF.out h0)
          generalize accT [40] [44] (Tm.fmtL us) us.length = x at *
          go_wp2
          go_ret
          exact ⟨ret_strs (by rw [HF0.out, HA.out]; simp), hb⟩
end Go.Proofs.YtcegllnljaapiaaGreatDoor
namespace Go.Proofs.YtcegllnljaapiaaGreatDoor
open Go.RowKit
theorem TmAt.pair {B : Nat → Prop} {m : Nat} {w : World} {a b : Tm} {p : Option Addr} {c : Nat} (h : ListAt B w 2 (TmAt B m w) (.slice p 2 c) [a, b]) :
    ∃ g o pa ca pb cb, p = some ⟨g, o, none⟩ ∧ w.cell? ⟨g, o, none⟩ = some (.string a.n) ∧ w.cell? ⟨g, o + 1, none⟩ = some (.slice pa a.us.length ca) ∧ w.cell? ⟨g, o + 2, none⟩ = some (.string b.n) ∧ w.cell? ⟨g, o + 3, none⟩ = some (.slice pb b.us.length cb) ∧
      TmAt B m w a [.string a.n, .slice pa a.us.length ca] ∧ TmAt B m w b [.string b.n, .slice pb b.us.length cb] := by
  obtain ⟨g, o, rfl, _, x0, x1, hx0, hx1, hx⟩ := h.at2 (i := 0) (by simp)
  obtain ⟨g', o', he, _, y0, y1, hy0, hy1, hy⟩ := h.at2 (i := 1) (by simp)
  simp only [Option.some.injEq, Addr.mk.injEq, and_true] at he
  obtain ⟨rfl, rfl⟩ := he
  obtain ⟨pa, ca, rfl, rfl, -, -⟩ := hx.form
  obtain ⟨pb, cb, rfl, rfl, -, -⟩ := hy.form
  exact ⟨g, o, pa, ca, pb, cb, rfl, by simpa using hx0, by simpa using hx1, by simpa using hy0, by simpa using hy1, hx, hy⟩
set_option maxRecDepth 100000 in
set_option maxHeartbeats 1600000 in
theorem atomEnglish_any {B : Nat → Prop} (m : Nat) (t : Tm) (v0 v1 : Value) (w : World) (h : TmAt B m w t [v0, v1]) (hn : t.atom = true) (hz : t.eng.length ≤ 1000000000000) :
      Calls Tryz.prog 203 #[.agg #[v0, v1]] w fun e w' => e = .returned (.string ⟨t.eng.toArray⟩) ∧ Below w.heap.size w w' := by
  have hl := h.args
  obtain ⟨p, c, rfl, rfl, -, -⟩ := h.form
  clear h
  cases atom_cases hn with
  | eq a b ha hb =>
    have hl2 : ListAt B w 2 (TmAt B m w) (.slice p 2 c) [a, b] := hl
    obtain ⟨g, o, pa, ca, pb, cb, rfl, hx0, hx1, hx2, hx3, hta, htb⟩ := TmAt.pair hl2
    have HE := Lib.hid (eng_eq a b)
    have hz2 : a.fmt.length + b.fmt.length + 8 ≤ 1000000000000 := by rw [eng_eq] at hz; simp [sEquals] at hz; omega
    have HA := Lib.hid (And.intro hta ha)
    have HB := Lib.hid (And.intro htb hb)
    clear hl hl2 hn hta htb ha hb hz
    show Calls Tryz.prog 203 #[.agg #[.string ⟨#[61]⟩, .slice (some ⟨g, o, none⟩) 2 c]] w _
    go_enter Tryz.func203, Tryz.ntmps203
    go_wp2_with fail
    refine (isEquality_any _ _ _).mono ?_
    rintro e w1 ⟨rfl, hb1⟩
    have ⟨cw1, fw1⟩ := bcell hb1
    have qw1 := hb1.size
    (try simp at qw1)
    (try have zw1w := bsz (show w.heap.size < w1.heap.size by omega))
    rw [show isEq ⟨#[61]⟩ = true from rfl]
    go_wp2
    have zg := bsz (World.block_lt_of_cell? _ _ hx0)
    obtain ⟨C, HC0⟩ := class_of (InF w1.heap.size _ [(⟨w.heap.size, 1, none⟩, .slice (some ⟨g, o, none⟩) 2 c), (⟨g, o, none⟩, .string a.n), (⟨g, o + 1, none⟩, .slice pa a.us.length ca), (⟨g, o + 2, none⟩, .string b.n), (⟨g, o + 3, none⟩, .slice pb b.us.length cb)] [] [])
    have HC := Lib.hid HC0
    clear HC0
    refine wp_region_flow (C := C) (by kernel_rfl) (by kernel_rfl) (fun L hL => (HC.out _ _).2 (InF.start (by first | (intro _ hs; cases hs; done) | (simp only [List.forall_mem_cons]; go_simp)) (by first | (intro _ hs; cases hs; done) | (simp only [List.forall_mem_cons]; go_simp)) (by first | (intro _ hs; cases hs; done) | (simp only [List.forall_mem_cons]; go_simp)) (by first | (intro _ hs; cases hs; done) | (simp only [List.forall_mem_cons]; go_simp)) L hL)) ?_
    repeat (first | (apply flow_free rfl; (intro L w' hun hrd hC; have hC := (HC.out _ _).1 hC; have hb' := hC.below; (try have hw' : Below w.heap.size w w' := by first | exact Below.trans (by (repeat (first | with_reducible exact Below.refl _ _ | with_reducible assumption | with_reducible refine Below.al ?_ _ | with_reducible refine Below.sc ?_ (by first | exact Nat.le_refl _ | (simp; done) | (simp; omega)) _ | assumption | exact Below.refl _ _ | refine Below.dr ?_ | refine Below.drN ?_ _ | refine Below.step ?_ (by assumption)))) hb' | ((repeat (first | with_reducible exact Below.refl _ _ | with_reducible assumption | with_reducible refine Below.al ?_ _ | with_reducible refine Below.sc ?_ (by first | exact Nat.le_refl _ | (simp; done) | (simp; omega)) _ | assumption | exact Below.refl _ _ | refine Below.dr ?_ | refine Below.drN ?_ _ | refine Below.step ?_ (by assumption))); done)); have hf' := hC.cell; (try simp only [List.forall_mem_cons] at hf'); go_simp; first | exact ⟨(HC.out _ _).2 (hC.skip _ (by rfl)), rfl⟩ | (rw [if_neg]; (exact ⟨(HC.out _ _).2 (hC.skip _ (by rfl)), rfl⟩); omega) | (go_at_call 268; (with_reducible refine (formatTerm_any m a _ _ _ (HA.out.1.below hw') HA.out.2 (by omega)).mono ?_); rintro e w1 ⟨rfl, hb1⟩; exact ⟨rfl, (HC.out _ _).2 ((hC.next (by first | (simp; done) | (simp; omega) | omega) hb1).skip _ (by rfl))⟩) | (go_at_call 268; (with_reducible refine (formatTerm_any m b _ _ _ (HB.out.1.below hw') HB.out.2 (by omega)).mono ?_); rintro e w1 ⟨rfl, hb1⟩; exact ⟨rfl, (HC.out _ _).2 ((hC.next (by first | (simp; done) | (simp; omega) | omega) hb1).skip _ (by rfl))⟩)); go_simp) | (apply flow_yes; (case hw => go_simp); (intro L w' hun hrd hC; have hC := (HC.out _ _).1 hC; have hb' := hC.below; (try have hw' : Below w.heap.size w w' := by first | exact Below.trans (by (repeat (first | with_reducible exact Below.refl _ _ | with_reducible assumption | with_reducible refine Below.al ?_ _ | with_reducible refine Below.sc ?_ (by first | exact Nat.le_refl _ | (simp; done) | (simp; omega)) _ | assumption | exact Below.refl _ _ | refine Below.dr ?_ | refine Below.drN ?_ _ | refine Below.step ?_ (by assumption)))) hb' | ((repeat (first | with_reducible exact Below.refl _ _ | with_reducible assumption | with_reducible refine Below.al ?_ _ | with_reducible refine Below.sc ?_ (by first | exact Nat.le_refl _ | (simp; done) | (simp; omega)) _ | assumption | exact Below.refl _ _ | refine Below.dr ?_ | refine Below.drN ?_ _ | refine Below.step ?_ (by assumption))); done)); have hf' := hC.cell; (try simp only [List.forall_mem_cons] at hf'); go_simp; first | exact ⟨(HC.out _ _).2 (hC.skip _ (by rfl)), rfl⟩ | (rw [if_neg]; (exact ⟨(HC.out _ _).2 (hC.skip _ (by rfl)), rfl⟩); omega) | (go_at_call 268; (with_reducible refine (formatTerm_any m a _ _ _ (HA.out.1.below hw') HA.out.2 (by omega)).mono ?_); rintro e w1 ⟨rfl, hb1⟩; exact ⟨rfl, (HC.out _ _).2 ((hC.next (by first | (simp; done) | (simp; omega) | omega) hb1).skip _ (by rfl))⟩) | (go_at_call 268; (with_reducible refine (formatTerm_any m b _ _ _ (HB.out.1.below hw') HB.out.2 (by omega)).mono ?_); rintro e w1 ⟨rfl, hb1⟩; exact ⟨rfl, (HC.out _ _).2 ((hC.next (by first | (simp; done) | (simp; omega) | omega) hb1).skip _ (by rfl))⟩)); go_simp) | (apply flow_no; (case hw => (go_simp; try (intro hh; cases hh))); (intro L w' _ _ hC; exact (HC.out _ _).2 (((HC.out _ _).1 hC).skip _ (by rfl))); go_simp))
    refine flow_nil ?_
    intro L wz hL hz
    have hz := (HC.out _ _).1 hz
    have hbz := hz.below
    have hcz := hz.cell
    try simp only [List.forall_mem_cons] at hcz
    have hdz := hz.done
    try simp only [List.forall_mem_cons] at hdz
    (try have hwz : Below w.heap.size w wz := by first | exact Below.trans (by (repeat (first | with_reducible exact Below.refl _ _ | with_reducible assumption | with_reducible refine Below.al ?_ _ | with_reducible refine Below.sc ?_ (by first | exact Nat.le_refl _ | (simp; done) | (simp; omega)) _ | assumption | exact Below.refl _ _ | refine Below.dr ?_ | refine Below.drN ?_ _ | refine Below.step ?_ (by assumption)))) hbz | ((repeat (first | with_reducible exact Below.refl _ _ | with_reducible assumption | with_reducible refine Below.al ?_ _ | with_reducible refine Below.sc ?_ (by first | exact Nat.le_refl _ | (simp; done) | (simp; omega)) _ | assumption | exact Below.refl _ _ | refine Below.dr ?_ | refine Below.drN ?_ _ | refine Below.step ?_ (by assumption))); done))
    go_wp2
    go_ret
    exact ⟨ret_strs (by rw [HE.out]; simp [sEquals]), by (repeat (first | with_reducible exact Below.refl _ _ | with_reducible assumption | with_reducible refine Below.al ?_ _ | with_reducible refine Below.sc ?_ (by first | exact Nat.le_refl _ | (simp; done) | (simp; omega)) _ | assumption | exact Below.refl _ _ | refine Below.dr ?_ | refine Below.drN ?_ _ | refine Below.step ?_ (by assumption)))⟩
  | pred n us hs hu hd =>
    have hlen := nodes_len hd
    have HQ := Lib.hid (nodes_noEq hd)
    have HE := Lib.hid (eng_pred (us := us) hs)
    have HL := Lib.hid (show ListAt B w 2 (TmAt B m w) (.slice p us.length c) us from hl)
    have HN := Lib.hid hu
    clear hl hn hs hu hd
    show Calls Tryz.prog 203 #[.agg #[.string n, .slice p us.length c]] w _
    by_cases h0 : us = []
    · have hz2 : n.size + 6 ≤ 1000000000000 := by rw [HE.out, h0] at hz; simp [sHolds] at hz; omega
      subst h0
      clear hz
      go_enter Tryz.func203, Tryz.ntmps203
      go_wp2_with fail
      refine (isEquality_any _ _ _).mono ?_
      rintro e w1 ⟨rfl, hb1⟩
      have ⟨cw1, fw1⟩ := bcell hb1
      have qw1 := hb1.size
      (try simp at qw1)
      (try have zw1w := bsz (show w.heap.size < w1.heap.size by omega))
      rw [show isEq n = false from HQ.out]
      go_wp2
      go_ret
      exact ⟨ret_strs (by rw [HE.out]; simp [sHolds]), by (repeat (first | with_reducible exact Below.refl _ _ | with_reducible assumption | with_reducible refine Below.al ?_ _ | with_reducible refine Below.sc ?_ (by first | exact Nat.le_refl _ | (simp; done) | (simp; omega)) _ | assumption | exact Below.refl _ _ | refine Below.dr ?_ | refine Below.drN ?_ _ | refine Below.step ?_ (by assumption)))⟩
    · have hm := HE.out
      have hie : us.isEmpty = false := by
        cases us with
        | nil => exact absurd rfl h0
        | cons a l => rfl
      rw [hie, if_neg (by decide)] at hm
      have hjl : n.size + 10 + (joinB sComma (Tm.fmtL us)).length ≤ 1000000000000 := by rw [hm] at hz; simp [sHoldsOf] at hz ⊢; omega
      have HM2 := Lib.hid hm
      have hl0 : 0 < us.length := List.length_pos_iff.2 h0
      clear hz hm hie HE
      go_enter Tryz.func203, Tryz.ntmps203
      go_wp2_with fail
      refine (isEquality_any _ _ _).mono ?_
      rintro e w1 ⟨rfl, hb1⟩
      have ⟨cw1, fw1⟩ := bcell hb1
      have qw1 := hb1.size
      (try simp at qw1)
      (try have zw1w := bsz (show w.heap.size < w1.heap.size by omega))
      rw [show isEq n = false from HQ.out]
      go_wp2
      go_loopw [3, 33] (TextsRel (Tm.fmtL us) w.heap.size (.string n) w) (fun _ i _ => us.length - (intOf i).toNat)
      case atStart => exact ⟨0, Nat.zero_le _, rfl, row_empty _ _ _ _ (by omega), by go_simp, by (repeat (first | with_reducible exact Below.refl _ _ | with_reducible assumption | with_reducible refine Below.al ?_ _ | with_reducible refine Below.sc ?_ (by first | exact Nat.le_refl _ | (simp; done) | (simp; omega)) _ | assumption | exact Below.refl _ _ | refine Below.dr ?_ | refine Below.drN ?_ _ | refine Below.step ?_ (by assumption)))⟩
      case round =>
        obtain ⟨k, hk, rfl, ho, hc, hb⟩ := hrel
        have HO := Lib.hid ho
        rw [fmtL_len] at hk
        have hqr := hb.size
        have hgr : w.heap.size < wr.heap.size := World.block_lt_of_cell? _ _ hc
        clear ho
        by_cases hlt : k < us.length
        · obtain ⟨b, o, rfl, hB, x0, x1, hx0, hx1, hx⟩ := (HL.out.mono (SameOn.below hb) (fun _ h => h) (fun x cs _ hx => TmAt.below hb hx)).at2 hlt
          have hS := fmtL_at hlt
          have hF := fmt_arg hlt sComma
          have hN := nodess_arg HN.out hlt
          obtain ⟨a, ha⟩ : ∃ a, us[k] = a := ⟨_, rfl⟩
          rw [ha] at hx
          rw [ha] at hS
          rw [ha] at hF
          rw [ha] at hN
          have HX := Lib.hid hx
          have HS := Lib.hid hS
          have HF := Lib.hid hF
          have HN := Lib.hid hN
          clear hx ha hS hF hN
          have zb := bsz (World.block_lt_of_cell? _ _ hx0)
          obtain ⟨pa, ca, rfl, rfl, -, -⟩ := HX.out.form
          have hfl : a.fmt.length ≤ 1000000000000 := by have := HF.out; omega
          go_wp2_with fail
          refine (formatTerm_any m a _ _ _ (HX.out.below (by (repeat (first | with_reducible exact Below.refl _ _ | with_reducible assumption | with_reducible refine Below.al ?_ _ | with_reducible refine Below.sc ?_ (by first | exact Nat.le_refl _ | (simp; done) | (simp; omega)) _ | assumption | exact Below.refl _ _ | refine Below.dr ?_ | refine Below.drN ?_ _ | refine Below.step ?_ (by assumption))))) HN.out hfl).mono ?_
          rintro e wq ⟨rfl, hbq⟩
          have ⟨cwq, fwq⟩ := bcell hbq
          have qwq := hbq.size
          (try simp at qwq)
          have HO1 := Lib.hid (own_below HO.out (show Below wr.heap.size wr wq by (repeat (first | with_reducible exact Below.refl _ _ | with_reducible assumption | with_reducible refine Below.al ?_ _ | with_reducible refine Below.sc ?_ (by first | exact Nat.le_refl _ | (simp; done) | (simp; omega)) _ | assumption | exact Below.refl _ _ | refine Below.dr ?_ | refine Below.drN ?_ _ | refine Below.step ?_ (by assumption)))))
          have HC1 := Lib.hid ((show Below wr.heap.size wr wq by (repeat (first | with_reducible exact Below.refl _ _ | with_reducible assumption | with_reducible refine Below.al ?_ _ | with_reducible refine Below.sc ?_ (by first | exact Nat.le_refl _ | (simp; done) | (simp; omega)) _ | assumption | exact Below.refl _ _ | refine Below.dr ?_ | refine Below.drN ?_ _ | refine Below.step ?_ (by assumption)))).cell hgr |>.trans hc)
          have hb3 : Below w.heap.size w wq := by (repeat (first | with_reducible exact Below.refl _ _ | with_reducible assumption | with_reducible refine Below.al ?_ _ | with_reducible refine Below.sc ?_ (by first | exact Nat.le_refl _ | (simp; done) | (simp; omega)) _ | assumption | exact Below.refl _ _ | refine Below.dr ?_ | refine Below.drN ?_ _ | refine Below.step ?_ (by assumption)))
          clear hc
          go_wp2_with (at_builtin; refine wpList_app1 rfl (.tmp 37) (.tmp 40) _ rfl (w.heap.size + 1) 9 1 16 elemStr _ _ _ rfl wq #[.string ⟨a.fmt.toArray⟩] rfl _ (by simp) rfl HO1.out rfl (by simp [Value.oneCell']) (by omega) (by unfold maxLen; omega) (by omega) ?_; intro v1 wz hown1 hg1 hnr1 hlt1)
          refine ⟨⟨v1, _, _, ⟨k + 1, by rw [fmtL_len]; omega, by go_num, ?_, ?_, hb3.grown hg1 (by omega) (fun k hk => by have := own_base HO1.out k hk; omega)⟩, rfl, rfl, rfl⟩, by simp [intOf]; omega⟩
          · rw [strV_take (by rw [fmtL_len]; omega), HS.out]; exact hown1
          · exact grown_cell hg1 HC1.out (fun e => by have := own_base HO1.out _ e.symm; omega)
        · obtain rfl : k = us.length := by omega
          have ho := HO.out
          rw [← fmtL_len, List.take_length] at ho
          have HO2 := Lib.hid ho
          clear ho HO
          go_wp2
          obtain ⟨C, HC0⟩ := class_of (InF wr.heap.size _ [(⟨w.heap.size, 0, none⟩, .string n)] [] [])
          have HC := Lib.hid HC0
          clear HC0
          refine wp_region_flow (C := C) (by kernel_rfl) (by kernel_rfl) (fun L hL => (HC.out _ _).2 (InF.start (by first | (intro _ hs; cases hs; done) | (simp only [List.forall_mem_cons]; go_simp)) (by first | (intro _ hs; cases hs; done) | (simp only [List.forall_mem_cons]; go_simp)) (by first | (intro _ hs; cases hs; done) | (simp only [List.forall_mem_cons]; go_simp)) (by first | (intro _ hs; cases hs; done) | (simp only [List.forall_mem_cons]; go_simp)) L hL)) ?_
          repeat (first | (apply flow_free rfl; (intro L w' hun hrd hC; have hC := (HC.out _ _).1 hC; have hb' := hC.below; (try have hw' : Below w.heap.size w w' := by first | exact Below.trans (by (repeat (first | with_reducible exact Below.refl _ _ | with_reducible assumption | with_reducible refine Below.al ?_ _ | with_reducible refine Below.sc ?_ (by first | exact Nat.le_refl _ | (simp; done) | (simp; omega)) _ | assumption | exact Below.refl _ _ | refine Below.dr ?_ | refine Below.drN ?_ _ | refine Below.step ?_ (by assumption)))) hb' | ((repeat (first | with_reducible exact Below.refl _ _ | with_reducible assumption | with_reducible refine Below.al ?_ _ | with_reducible refine Below.sc ?_ (by first | exact Nat.le_refl _ | (simp; done) | (simp; omega)) _ | assumption | exact Below.refl _ _ | refine Below.dr ?_ | refine Below.drN ?_ _ | refine Below.step ?_ (by assumption))); done)); have hf' := hC.cell; (try simp only [List.forall_mem_cons] at hf'); go_simp; first | exact ⟨(HC.out _ _).2 (hC.skip _ (by rfl)), rfl⟩ | (rw [if_neg]; (exact ⟨(HC.out _ _).2 (hC.skip _ (by rfl)), rfl⟩); omega) | (go_at_call 137; refine (join_own sComma _ (own_below HO2.out hb') (by rw [fmtL_len]; omega) (by omega)).mono ?_; rintro e w1 ⟨rfl, hb1⟩; exact ⟨rfl, (HC.out _ _).2 ((hC.next (by first | (simp; done) | (simp; omega) | omega) hb1).skip _ (by rfl))⟩)); go_simp) | (apply flow_yes; (case hw => go_simp); (intro L w' hun hrd hC; have hC := (HC.out _ _).1 hC; have hb' := hC.below; (try have hw' : Below w.heap.size w w' := by first | exact Below.trans (by (repeat (first | with_reducible exact Below.refl _ _ | with_reducible assumption | with_reducible refine Below.al ?_ _ | with_reducible refine Below.sc ?_ (by first | exact Nat.le_refl _ | (simp; done) | (simp; omega)) _ | assumption | exact Below.refl _ _ | refine Below.dr ?_ | refine Below.drN ?_ _ | refine Below.step ?_ (by assumption)))) hb' | ((repeat (first | with_reducible exact Below.refl _ _ | with_reducible assumption | with_reducible refine Below.al ?_ _ | with_reducible refine Below.sc ?_ (by first | exact Nat.le_refl _ | (simp; done) | (simp; omega)) _ | assumption | exact Below.refl _ _ | refine Below.dr ?_ | refine Below.drN ?_ _ | refine Below.step ?_ (by assumption))); done)); have hf' := hC.cell; (try simp only [List.forall_mem_cons] at hf'); go_simp; first | exact ⟨(HC.out _ _).2 (hC.skip _ (by rfl)), rfl⟩ | (rw [if_neg]; (exact ⟨(HC.out _ _).2 (hC.skip _ (by rfl)), rfl⟩); omega) | (go_at_call 137; refine (join_own sComma _ (own_below HO2.out hb') (by rw [fmtL_len]; omega) (by omega)).mono ?_; rintro e w1 ⟨rfl, hb1⟩; exact ⟨rfl, (HC.out _ _).2 ((hC.next (by first | (simp; done) | (simp; omega) | omega) hb1).skip _ (by rfl))⟩)); go_simp) | (apply flow_no; (case hw => (go_simp; try (intro hh; cases hh))); (intro L w' _ _ hC; exact (HC.out _ _).2 (((HC.out _ _).1 hC).skip _ (by rfl))); go_simp))
          refine flow_nil ?_
          intro L wz hL hz
          have hz := (HC.out _ _).1 hz
          have hbz := hz.below
          have hcz := hz.cell
          try simp only [List.forall_mem_cons] at hcz
          have hdz := hz.done
          try simp only [List.forall_mem_cons] at hdz
          (try have hwz : Below w.heap.size w wz := by first | exact Below.trans (by (repeat (first | with_reducible exact Below.refl _ _ | with_reducible assumption | with_reducible refine Below.al ?_ _ | with_reducible refine Below.sc ?_ (by first | exact Nat.le_refl _ | (simp; done) | (simp; omega)) _ | assumption | exact Below.refl _ _ | refine Below.dr ?_ | refine Below.drN ?_ _ | refine Below.step ?_ (by assumption)))) hbz | ((repeat (first | with_reducible exact Below.refl _ _ | with_reducible assumption | with_reducible refine Below.al ?_ _ | with_reducible refine Below.sc ?_ (by first | exact Nat.le_refl _ | (simp; done) | (simp; omega)) _ | assumption | exact Below.refl _ _ | refine Below.dr ?_ | refine Below.drN ?_ _ | refine Below.step ?_ (by assumption))); done))
          go_wp2
          go_ret
          exact ⟨ret_strs (by rw [HM2.out]; simp [sHoldsOf]), by (repeat (first | with_reducible exact Below.refl _ _ | with_reducible assumption | with_reducible refine Below.al ?_ _ | with_reducible refine Below.sc ?_ (by first | exact Nat.le_refl _ | (simp; done) | (simp; omega)) _ | assumption | exact Below.refl _ _ | refine Below.dr ?_ | refine Below.drN ?_ _ | refine Below.step ?_ (by assumption)))⟩
set_option maxRecDepth 100000 in
set_option maxHeartbeats 1600000 in
theorem l26Atom_any {B : Nat → Prop} (m : Nat) (t : Tm) (v0 v1 : Value) (w : World) (h : TmAt B m w t [v0, v1]) (hn : t.atom = true) (hz : t.eng.length ≤ 1000000000000) :
      Calls Tryz.prog 258 #[.agg #[v0, v1]] w fun e w' => e = .returned (.string ⟨t.eng.toArray⟩) ∧ Below w.heap.size w w' := by
  have hl := h.args
  obtain ⟨p, c, rfl, rfl, -, -⟩ := h.form
  clear h
  cases atom_cases hn with
  | eq a b ha hb =>
    have hl2 : ListAt B w 2 (TmAt B m w) (.slice p 2 c) [a, b] := hl
    obtain ⟨g, o, pa, ca, pb, cb, rfl, hx0, hx1, hx2, hx3, hta, htb⟩ := TmAt.pair hl2
    have HE := Lib.hid (eng_eq a b)
    have hz2 : a.fmt.length + b.fmt.length + 8 ≤ 1000000000000 := by rw [eng_eq] at hz; simp [sEquals] at hz; omega
    have HA := Lib.hid (And.intro hta ha)
    have HB := Lib.hid (And.intro htb hb)
    clear hl hl2 hn hta htb ha hb hz
    show Calls Tryz.prog 258 #[.agg #[.string ⟨#[61]⟩, .slice (some ⟨g, o, none⟩) 2 c]] w _
    go_enter Tryz.func258, Tryz.ntmps258
    go_wp2
    have zg := bsz (World.block_lt_of_cell? _ _ hx0)
    obtain ⟨W, hW⟩ : ∃ W : World, W = w.alloc (.cells #[.string ⟨#[61]⟩, .slice (some ⟨g, o, none⟩) 2 c] 57) := ⟨_, rfl⟩
    have hwb : W.cell? ⟨w.heap.size, 1, none⟩ = some (.slice (some ⟨g, o, none⟩) 2 c) := by rw [hW]; go_simp
    have hbW : Below w.heap.size w W := by rw [hW]; (repeat (first | with_reducible exact Below.refl _ _ | with_reducible assumption | with_reducible refine Below.al ?_ _ | with_reducible refine Below.sc ?_ (by first | exact Nat.le_refl _ | (simp; done) | (simp; omega)) _ | assumption | exact Below.refl _ _ | refine Below.dr ?_ | refine Below.drN ?_ _ | refine Below.step ?_ (by assumption)))
    rw [← hW]
    clear hW
    have ⟨cW, fW⟩ := bcell hbW
    obtain ⟨C, HC0⟩ := class_of (InF W.heap.size _ [(⟨w.heap.size, 1, none⟩, .slice (some ⟨g, o, none⟩) 2 c), (⟨g, o, none⟩, .string a.n), (⟨g, o + 1, none⟩, .slice pa a.us.length ca), (⟨g, o + 2, none⟩, .string b.n), (⟨g, o + 3, none⟩, .slice pb b.us.length cb)] [] [])
    have HC := Lib.hid HC0
    clear HC0
    refine wp_region_flow (C := C) (by kernel_rfl) (by kernel_rfl) (fun L hL => (HC.out _ _).2 (InF.start (by first | (intro _ hs; cases hs; done) | (simp only [List.forall_mem_cons]; go_simp)) (by first | (intro _ hs; cases hs; done) | (simp only [List.forall_mem_cons]; go_simp)) (by first | (intro _ hs; cases hs; done) | (simp only [List.forall_mem_cons]; go_simp)) (by first | (intro _ hs; cases hs; done) | (simp only [List.forall_mem_cons]; go_simp)) L hL)) ?_
    repeat (first | (apply flow_free rfl; (intro L w' hun hrd hC; have hC := (HC.out _ _).1 hC; have hb' := hC.below; (try have hw' : Below w.heap.size w w' := by first | exact Below.trans (by (repeat (first | with_reducible exact Below.refl _ _ | with_reducible assumption | with_reducible refine Below.al ?_ _ | with_reducible refine Below.sc ?_ (by first | exact Nat.le_refl _ | (simp; done) | (simp; omega)) _ | assumption | exact Below.refl _ _ | refine Below.dr ?_ | refine Below.drN ?_ _ | refine Below.step ?_ (by assumption)))) hb' | ((repeat (first | with_reducible exact Below.refl _ _ | with_reducible assumption | with_reducible refine Below.al ?_ _ | with_reducible refine Below.sc ?_ (by first | exact Nat.le_refl _ | (simp; done) | (simp; omega)) _ | assumption | exact Below.refl _ _ | refine Below.dr ?_ | refine Below.drN ?_ _ | refine Below.step ?_ (by assumption))); done)); have hf' := hC.cell; (try simp only [List.forall_mem_cons] at hf'); go_simp; first | exact ⟨(HC.out _ _).2 (hC.skip _ (by rfl)), rfl⟩ | (rw [if_neg]; (exact ⟨(HC.out _ _).2 (hC.skip _ (by rfl)), rfl⟩); omega) | (go_at_call 311; (with_reducible refine (l3Term_any m a _ _ _ (HA.out.1.below hw') HA.out.2 (by omega)).mono ?_); rintro e w1 ⟨rfl, hb1⟩; exact ⟨rfl, (HC.out _ _).2 ((hC.next (by first | (simp; done) | (simp; omega) | omega) hb1).skip _ (by rfl))⟩) | (go_at_call 311; (with_reducible refine (l3Term_any m b _ _ _ (HB.out.1.below hw') HB.out.2 (by omega)).mono ?_); rintro e w1 ⟨rfl, hb1⟩; exact ⟨rfl, (HC.out _ _).2 ((hC.next (by first | (simp; done) | (simp; omega) | omega) hb1).skip _ (by rfl))⟩)); go_simp) | (apply flow_yes; (case hw => go_simp); (intro L w' hun hrd hC; have hC := (HC.out _ _).1 hC; have hb' := hC.below; (try have hw' : Below w.heap.size w w' := by first | exact Below.trans (by (repeat (first | with_reducible exact Below.refl _ _ | with_reducible assumption | with_reducible refine Below.al ?_ _ | with_reducible refine Below.sc ?_ (by first | exact Nat.le_refl _ | (simp; done) | (simp; omega)) _ | assumption | exact Below.refl _ _ | refine Below.dr ?_ | refine Below.drN ?_ _ | refine Below.step ?_ (by assumption)))) hb' | ((repeat (first | with_reducible exact Below.refl _ _ | with_reducible assumption | with_reducible refine Below.al ?_ _ | with_reducible refine Below.sc ?_ (by first | exact Nat.le_refl _ | (simp; done) | (simp; omega)) _ | assumption | exact Below.refl _ _ | refine Below.dr ?_ | refine Below.drN ?_ _ | refine Below.step ?_ (by assumption))); done)); have hf' := hC.cell; (try simp only [List.forall_mem_cons] at hf'); go_simp; first | exact ⟨(HC.out _ _).2 (hC.skip _ (by rfl)), rfl⟩ | (rw [if_neg]; (exact ⟨(HC.out _ _).2 (hC.skip _ (by rfl)), rfl⟩); omega) | (go_at_call 311; (with_reducible refine (l3Term_any m a _ _ _ (HA.out.1.below hw') HA.out.2 (by omega)).mono ?_); rintro e w1 ⟨rfl, hb1⟩; exact ⟨rfl, (HC.out _ _).2 ((hC.next (by first | (simp; done) | (simp; omega) | omega) hb1).skip _ (by rfl))⟩) | (go_at_call 311; (with_reducible refine (l3Term_any m b _ _ _ (HB.out.1.below hw') HB.out.2 (by omega)).mono ?_); rintro e w1 ⟨rfl, hb1⟩; exact ⟨rfl, (HC.out _ _).2 ((hC.next (by first | (simp; done) | (simp; omega) | omega) hb1).skip _ (by rfl))⟩)); go_simp) | (apply flow_no; (case hw => (go_simp; try (intro hh; cases hh))); (intro L w' _ _ hC; exact (HC.out _ _).2 (((HC.out _ _).1 hC).skip _ (by rfl))); go_simp))
    refine flow_nil ?_
    intro L wz hL hz
    have hz := (HC.out _ _).1 hz
    have hbz := hz.below
    have hcz := hz.cell
    try simp only [List.forall_mem_cons] at hcz
    have hdz := hz.done
    try simp only [List.forall_mem_cons] at hdz
    (try have hwz : Below w.heap.size w wz := by first | exact Below.trans (by (repeat (first | with_reducible exact Below.refl _ _ | with_reducible assumption | with_reducible refine Below.al ?_ _ | with_reducible refine Below.sc ?_ (by first | exact Nat.le_refl _ | (simp; done) | (simp; omega)) _ | assumption | exact Below.refl _ _ | refine Below.dr ?_ | refine Below.drN ?_ _ | refine Below.step ?_ (by assumption)))) hbz | ((repeat (first | with_reducible exact Below.refl _ _ | with_reducible assumption | with_reducible refine Below.al ?_ _ | with_reducible refine Below.sc ?_ (by first | exact Nat.le_refl _ | (simp; done) | (simp; omega)) _ | assumption | exact Below.refl _ _ | refine Below.dr ?_ | refine Below.drN ?_ _ | refine Below.step ?_ (by assumption))); done))
    go_wp2
    go_ret
    exact ⟨ret_strs (by rw [HE.out]; simp [sEquals]), by (repeat (first | with_reducible exact Below.refl _ _ | with_reducible assumption | with_reducible refine Below.al ?_ _ | with_reducible refine Below.sc ?_ (by first | exact Nat.le_refl _ | (simp; done) | (simp; omega)) _ | assumption | exact Below.refl _ _ | refine Below.dr ?_ | refine Below.drN ?_ _ | refine Below.step ?_ (by assumption)))⟩
  | pred n us hs hu hd =>
    have hlen := nodes_len hd
    have hq := isEq_list (nodes_noEq hd)
    simp only [Tm.n] at hq
    have HE := Lib.hid (eng_pred (us := us) hs)
    have HL := Lib.hid (show ListAt B w 2 (TmAt B m w) (.slice p us.length c) us from hl)
    have HN := Lib.hid hu
    clear hl hn hs hu hd
    show Calls Tryz.prog 258 #[.agg #[.string n, .slice p us.length c]] w _
    by_cases h0 : us = []
    · have hz2 : n.size + 6 ≤ 1000000000000 := by rw [HE.out, h0] at hz; simp [sHolds] at hz; omega
      subst h0
      clear hz
      go_enter Tryz.func258, Tryz.ntmps258
      go_wp2
      go_ret
      exact ⟨ret_strs (by rw [HE.out]; simp [sHolds]), by (repeat (first | with_reducible exact Below.refl _ _ | with_reducible assumption | with_reducible refine Below.al ?_ _ | with_reducible refine Below.sc ?_ (by first | exact Nat.le_refl _ | (simp; done) | (simp; omega)) _ | assumption | exact Below.refl _ _ | refine Below.dr ?_ | refine Below.drN ?_ _ | refine Below.step ?_ (by assumption)))⟩
    · have hm := HE.out
      have hie : us.isEmpty = false := by
        cases us with
        | nil => exact absurd rfl h0
        | cons a l => rfl
      rw [hie, if_neg (by decide)] at hm
      have hjl : n.size + 10 + (joinB sComma (Tm.fmtL us)).length ≤ 1000000000000 := by rw [hm] at hz; simp [sHoldsOf] at hz ⊢; omega
      have HM2 := Lib.hid hm
      have hl0 : 0 < us.length := List.length_pos_iff.2 h0
      have hl1 : ((us.length : Int) == 0) = false := by simp; omega
      clear hz hm hie HE
      go_enter Tryz.func258, Tryz.ntmps258
      go_wp2
      obtain ⟨W, hW⟩ : ∃ W : World, W = w.alloc (.cells #[.string n, .slice p us.length c] 57) := ⟨_, rfl⟩
      have hwb : W.cell? ⟨w.heap.size, 1, none⟩ = some (.slice p us.length c) := by rw [hW]; go_simp
      have hbW : Below w.heap.size w W := by rw [hW]; (repeat (first | with_reducible exact Below.refl _ _ | with_reducible assumption | with_reducible refine Below.al ?_ _ | with_reducible refine Below.sc ?_ (by first | exact Nat.le_refl _ | (simp; done) | (simp; omega)) _ | assumption | exact Below.refl _ _ | refine Below.dr ?_ | refine Below.drN ?_ _ | refine Below.step ?_ (by assumption)))
      rw [← hW]
      clear hW
      go_loopw [3, 4] (fun x i wr => ∃ k : Nat, k ≤ us.length ∧ i = .int .i64 k ∧ x = .string ⟨(n.data.toList ++ sHoldsOf ++ accT [] sComma (Tm.fmtL us) k).toArray⟩ ∧ Below W.heap.size W wr) (fun _ i _ => us.length - (intOf i).toNat)
      case atStart => exact ⟨0, Nat.zero_le _, rfl, by rw [accT_zero]; exact congrArg Value.string (by apply ByteArray.ext; simp [sHoldsOf]), Below.refl _ _⟩
      case round =>
        obtain ⟨k, hk, rfl, rfl, hbr⟩ := hrel
        have hb := Below.step hbW hbr
        have hwr := (hbr.cell (World.block_lt_of_cell? W _ hwb)).trans hwb
        have hal := accT_len [] sComma (Tm.fmtL us) k
        simp only [List.length_nil] at hal
        have hsl : sHoldsOf.length = 10 := rfl
        have HSL := Lib.hid hsl
        have hnl : (n.data.toList ++ sHoldsOf ++ accT [] sComma (Tm.fmtL us) k).length ≤ n.size + 10 + (joinB sComma (Tm.fmtL us)).length := by simp only [List.length_append, hsl]; rw [← size_list]; omega
        by_cases hlt : k < us.length
        · obtain ⟨b, o, rfl, hB, x0, x1, hx0, hx1, hx⟩ := (HL.out.mono (SameOn.below hb) (fun _ h => h) (fun x cs _ hx => TmAt.below hb hx)).at2 hlt
          have hS := fmtL_at hlt
          have hF := fmt_arg hlt sComma
          have hN := nodess_arg HN.out hlt
          obtain ⟨a, ha⟩ : ∃ a, us[k] = a := ⟨_, rfl⟩
          rw [ha] at hx
          rw [ha] at hS
          rw [ha] at hF
          rw [ha] at hN
          have HX := Lib.hid hx
          have HS := Lib.hid hS
          have HF := Lib.hid hF
          have HN := Lib.hid hN
          clear hx ha hS hF hN
          have zb := bsz (World.block_lt_of_cell? _ _ hx0)
          obtain ⟨pa, ca, rfl, rfl, -, -⟩ := HX.out.form
          have hfl : a.fmt.length ≤ 1000000000000 := by have := HF.out; omega
          by_cases hk0 : k = 0
          · have hk1 : ¬ 0 < (k : Int) := by omega
            have HA0 := Lib.hid (show accT [] sComma (Tm.fmtL us) k = [] by rw [hk0]; rfl)
            have HA := Lib.hid (show accT [] sComma (Tm.fmtL us) (k + 1) = [] ++ (Tm.fmtL us)[k]'(by rw [fmtL_len]; exact hlt) by subst hk0; exact accT_one [] sComma (Tm.fmtL us) (by rw [fmtL_len]; exact hlt))
            generalize hq : n.data.toList ++ sHoldsOf ++ accT [] sComma (Tm.fmtL us) k = x at *
            have HX0 := Lib.hid hq
            clear hk0 hq hsl
            go_wp2_with fail
            refine (l3Term_any m a _ _ _ (HX.out.below (by (repeat (first | with_reducible exact Below.refl _ _ | with_reducible assumption | with_reducible refine Below.al ?_ _ | with_reducible refine Below.sc ?_ (by first | exact Nat.le_refl _ | (simp; done) | (simp; omega)) _ | assumption | exact Below.refl _ _ | refine Below.dr ?_ | refine Below.drN ?_ _ | refine Below.step ?_ (by assumption))))) HN.out hfl).mono ?_
            rintro e w1 ⟨rfl, hb1⟩
            have ⟨cw1, fw1⟩ := bcell hb1
            have qw1 := hb1.size
            (try simp at qw1)
            (try have zw1w := bsz (show w.heap.size < w1.heap.size by omega))
            go_wp2
            refine ⟨⟨k + 1, by omega, by go_num, ?_, Below.step hbr hb1⟩, by simp [intOf]; omega⟩
            rw [HA.out, HS.out, ← HX0.out, HA0.out]
            exact congrArg Value.string (by apply ByteArray.ext; simp)
          · have hk1 : 0 < (k : Int) := by omega
            have HA := Lib.hid (accT_succ [] sComma (Tm.fmtL us) hk0 (by rw [fmtL_len]; exact hlt))
            generalize hq : n.data.toList ++ sHoldsOf ++ accT [] sComma (Tm.fmtL us) k = x at *
            have HX0 := Lib.hid hq
            clear hk0 hq hsl
            go_wp2_with fail
            refine (l3Term_any m a _ _ _ (HX.out.below (by (repeat (first | with_reducible exact Below.refl _ _ | with_reducible assumption | with_reducible refine Below.al ?_ _ | with_reducible refine Below.sc ?_ (by first | exact Nat.le_refl _ | (simp; done) | (simp; omega)) _ | assumption | exact Below.refl _ _ | refine Below.dr ?_ | refine Below.drN ?_ _ | refine Below.step ?_ (by assumption))))) HN.out hfl).mono ?_
            rintro e w1 ⟨rfl, hb1⟩
            have ⟨cw1, fw1⟩ := bcell hb1
            have qw1 := hb1.size
            (try simp at qw1)
            (try have zw1w := bsz (show w.heap.size < w1.heap.size by omega))
            go_wp2
            refine ⟨⟨k + 1, by omega, by go_num, ?_, Below.step hbr hb1⟩, by simp [intOf]; omega⟩
            rw [HA.out, HS.out, ← HX0.out]
            exact congrArg Value.string (by apply ByteArray.ext; simp [sComma])
        · obtain rfl : k = us.length := by omega
          have HA := Lib.hid (show accT [] sComma (Tm.fmtL us) us.length = [] ++ joinB sComma (Tm.fmtL us) by
            have := accT_all [] sComma (Tm.fmtL us) (by rw [fmtL_len]; omega)
            rw [fmtL_len] at this; exact this)
          generalize accT [] sComma (Tm.fmtL us) us.length = x at *
          clear hsl
          go_wp2
          go_ret
          exact ⟨ret_str (by rw [HM2.out, HA.out]; simp), hb⟩
end Go.Proofs.YtcegllnljaapiaaGreatDoor
namespace Go.Proofs.YtcegllnljaapiaaGreatDoor
open Go.RowKit
/-- The texts in front of, between and behind the parts. -/
theorem eng_neg (g : Fm) : (opF 4 [g]).eng = sNot ++ g.eng := by rw [opF, Fm.eng]; rfl
theorem eng_and (g h : Fm) : (opF 5 [g, h]).eng = sBoth ++ g.eng ++ sAnd ++ h.eng := by rw [opF, Fm.eng]; rfl
theorem eng_or (g h : Fm) : (opF 6 [g, h]).eng = sEither ++ g.eng ++ sOr ++ h.eng := by rw [opF, Fm.eng]; rfl
theorem eng_imp (g h : Fm) : (opF 7 [g, h]).eng = sIf ++ g.eng ++ sThen ++ h.eng := by rw [opF, Fm.eng]; rfl
theorem eng_all (v : List UInt8) (g : Fm) : (quantF 8 v g).eng = sEvery ++ v ++ sComma ++ g.eng := by rw [quantF, Fm.eng]; rfl
theorem eng_ex (v : List UInt8) (g : Fm) : (quantF 9 v g).eng = sThere ++ v ++ sSuch ++ g.eng := by rw [quantF, Fm.eng]; rfl
theorem eng_atm (a : Tm) : (atomOfF a).eng = a.eng := by rw [atomOfF, Fm.eng]; rfl
def EngAt (P : Program) (k : FuncId) (B : Nat → Prop) (m : Nat) : Prop := ∀ (t : Fm) (v0 v1 v2 v3 v4 : Value) (w : World), FmAt B m w t [v0, v1, v2, v3, v4] → t.form = true → t.eng.length ≤ 1000000000000 →
      Calls P k #[.agg #[v0, v1, v2, v3, v4]] w fun e w' => e = .returned (.string ⟨t.eng.toArray⟩) ∧ Below w.heap.size w w'
theorem englishPart_of {B : Nat → Prop} (m : Nat) (ih : EngAt Tryz.prog 138 B m) (ps : List Fm) (q : Option Addr) (d g : Nat) (w : World) (hc : w.cell? ⟨g, 4, none⟩ = some (.slice q ps.length d))
    (hl : ListAt B w 5 (FmAt B m w) (.slice q ps.length d) ps) (k : Nat) (i : Int) (hi : i = k) (hk : k < ps.length) (hf : (ps[k]).form = true) (hz : (ps[k]).eng.length ≤ 1000000000000) :
    Calls Tryz.prog 202 #[.int .i64 i, .pointer (some ⟨g, 0, none⟩)] w fun e w' => e = .returned (.string ⟨(ps[k]).eng.toArray⟩) ∧ Below w.heap.size w w' := by
  subst hi
  obtain ⟨b, o, rfl, hB, x0, x1, x2, x3, x4, hx0, hx1, hx2, hx3, hx4, hx⟩ := hl.at5 hk
  obtain ⟨a, ha⟩ : ∃ a, ps[k] = a := ⟨_, rfl⟩
  rw [ha] at hx hf hz ⊢
  obtain ⟨pa, ca, qa, da, rfl, rfl, rfl, rfl, rfl, -⟩ := hx.form
  have HX := Lib.hid hx
  have IH := Lib.hid ih
  have HF := Lib.hid (And.intro hf hz)
  clear hl ha hx ih hf hz
  go_enter Tryz.func202, Tryz.ntmps202
  go_wp2_with fail
  refine (IH.out a _ _ _ _ _ _ (HX.out.below (by (repeat (first | with_reducible exact Below.refl _ _ | with_reducible assumption | with_reducible refine Below.al ?_ _ | with_reducible refine Below.sc ?_ (by first | exact Nat.le_refl _ | (simp; done) | (simp; omega)) _ | assumption | exact Below.refl _ _ | refine Below.dr ?_ | refine Below.drN ?_ _ | refine Below.step ?_ (by assumption))))) HF.out.1 HF.out.2).mono ?_
  rintro e w1 ⟨rfl, hb1⟩
  have ⟨cw1, fw1⟩ := bcell hb1
  have qw1 := hb1.size
  (try simp at qw1)
  (try have zw1w := bsz (show w.heap.size < w1.heap.size by omega))
  go_wp2
  go_ret
  exact ⟨rfl, by (repeat (first | with_reducible exact Below.refl _ _ | with_reducible assumption | with_reducible refine Below.al ?_ _ | with_reducible refine Below.sc ?_ (by first | exact Nat.le_refl _ | (simp; done) | (simp; omega)) _ | assumption | exact Below.refl _ _ | refine Below.dr ?_ | refine Below.drN ?_ _ | refine Below.step ?_ (by assumption)))⟩
set_option maxRecDepth 100000 in
set_option maxHeartbeats 3200000 in
theorem english_any {B : Nat → Prop} : ∀ m : Nat, EngAt Tryz.prog 138 B m := by
  intro m
  induction m with
  | zero => intro t v0 v1 v2 v3 v4 w h; exact h.elim
  | succ m ih =>
    intro t v0 v1 v2 v3 v4 w hfm hf hz
    have HP := Lib.hid (englishPart_of m ih)
    clear ih
    cases form_cases hf with
    | tru =>
      obtain ⟨p, c, q, d, rfl, rfl, rfl, rfl, rfl, -⟩ := hfm.form
      clear hfm hf hz
      show Calls Tryz.prog 138 #[.agg #[.int .i64 1, .string ⟨#[]⟩, .slice p 0 c, .string ⟨#[]⟩, .slice q 0 d]] w _
      go_enter Tryz.func138, Tryz.ntmps138
      go_wp2
      go_ret
      exact ⟨ret_str (by rw [opF, Fm.eng]; rfl), by (repeat (first | with_reducible exact Below.refl _ _ | with_reducible assumption | with_reducible refine Below.al ?_ _ | with_reducible refine Below.sc ?_ (by first | exact Nat.le_refl _ | (simp; done) | (simp; omega)) _ | assumption | exact Below.refl _ _ | refine Below.dr ?_ | refine Below.drN ?_ _ | refine Below.step ?_ (by assumption)))⟩
    | fal =>
      obtain ⟨p, c, q, d, rfl, rfl, rfl, rfl, rfl, -⟩ := hfm.form
      clear hfm hf hz
      show Calls Tryz.prog 138 #[.agg #[.int .i64 2, .string ⟨#[]⟩, .slice p 0 c, .string ⟨#[]⟩, .slice q 0 d]] w _
      go_enter Tryz.func138, Tryz.ntmps138
      go_wp2
      go_ret
      exact ⟨ret_str (by rw [opF, Fm.eng]; rfl), by (repeat (first | with_reducible exact Below.refl _ _ | with_reducible assumption | with_reducible refine Below.al ?_ _ | with_reducible refine Below.sc ?_ (by first | exact Nat.le_refl _ | (simp; done) | (simp; omega)) _ | assumption | exact Below.refl _ _ | refine Below.dr ?_ | refine Below.drN ?_ _ | refine Below.step ?_ (by assumption)))⟩
    | atm a ha =>
      have HA := Lib.hid (show TmAt B (m + 1) w a _ from hfm.atm)
      obtain ⟨p, c, q, d, rfl, rfl, rfl, rfl, rfl, -⟩ := hfm.form
      rw [eng_atm] at hz ⊢
      have HZ := Lib.hid (And.intro ha hz)
      clear hfm hf hz
      show Calls Tryz.prog 138 #[.agg #[.int .i64 3, .string a.n, .slice p a.us.length c, .string ⟨#[]⟩, .slice q 0 d]] w _
      go_enter Tryz.func138, Tryz.ntmps138
      go_wp2_with fail
      refine (atomEnglish_any (m + 1) a _ _ _ (HA.out.below (by (repeat (first | with_reducible exact Below.refl _ _ | with_reducible assumption | with_reducible refine Below.al ?_ _ | with_reducible refine Below.sc ?_ (by first | exact Nat.le_refl _ | (simp; done) | (simp; omega)) _ | assumption | exact Below.refl _ _ | refine Below.dr ?_ | refine Below.drN ?_ _ | refine Below.step ?_ (by assumption))))) HZ.out.1 HZ.out.2).mono ?_
      rintro e w1 ⟨rfl, hb1⟩
      have ⟨cw1, fw1⟩ := bcell hb1
      have qw1 := hb1.size
      (try simp at qw1)
      (try have zw1w := bsz (show w.heap.size < w1.heap.size by omega))
      go_wp2
      go_ret
      exact ⟨rfl, by (repeat (first | with_reducible exact Below.refl _ _ | with_reducible assumption | with_reducible refine Below.al ?_ _ | with_reducible refine Below.sc ?_ (by first | exact Nat.le_refl _ | (simp; done) | (simp; omega)) _ | assumption | exact Below.refl _ _ | refine Below.dr ?_ | refine Below.drN ?_ _ | refine Below.step ?_ (by assumption)))⟩
    | neg g hg =>
      obtain ⟨p, c, q, d, rfl, rfl, rfl, rfl, rfl, -⟩ := hfm.form
      obtain ⟨vn, va, vp, hcs, hop, hs, ht, hl⟩ := hfm
      simp only [List.cons.injEq, and_true] at hcs
      obtain ⟨-, -, -, -, rfl⟩ := hcs
      have HL := Lib.hid (show ListAt B w 5 (FmAt B m w) (.slice q 1 d) [g] from hl)
      have hz2 : g.eng.length + 24 ≤ 1000000000000 := by rw [eng_neg] at hz; simp [sNot] at hz; omega
      have HG := Lib.hid hg
      clear hf hz ht hl
      show Calls Tryz.prog 138 #[.agg #[.int .i64 4, .string ⟨#[]⟩, .slice p 0 c, .string ⟨#[]⟩, .slice q 1 d]] w _
      go_enter Tryz.func138, Tryz.ntmps138
      go_wp2_with fail
      refine (HP.out [g] q d _ _ (by go_simp) (HL.out.mono (SameOn.below (by (repeat (first | with_reducible exact Below.refl _ _ | with_reducible assumption | with_reducible refine Below.al ?_ _ | with_reducible refine Below.sc ?_ (by first | exact Nat.le_refl _ | (simp; done) | (simp; omega)) _ | assumption | exact Below.refl _ _ | refine Below.dr ?_ | refine Below.drN ?_ _ | refine Below.step ?_ (by assumption))))) (fun _ h => h) (fun x cs _ hx => FmAt.below (by (repeat (first | with_reducible exact Below.refl _ _ | with_reducible assumption | with_reducible refine Below.al ?_ _ | with_reducible refine Below.sc ?_ (by first | exact Nat.le_refl _ | (simp; done) | (simp; omega)) _ | assumption | exact Below.refl _ _ | refine Below.dr ?_ | refine Below.drN ?_ _ | refine Below.step ?_ (by assumption)))) hx)) 0 _ rfl (by simp) HG.out (by show g.eng.length ≤ _; omega)).mono ?_
      rintro e w1 ⟨rfl, hb1⟩
      have ⟨cw1, fw1⟩ := bcell hb1
      have qw1 := hb1.size
      (try simp at qw1)
      (try have zw1w := bsz (show w.heap.size < w1.heap.size by omega))
      simp only [List.getElem_cons_zero]
      go_wp2
      go_ret
      exact ⟨ret_strs (by rw [eng_neg]; simp [sNot]), by (repeat (first | with_reducible exact Below.refl _ _ | with_reducible assumption | with_reducible refine Below.al ?_ _ | with_reducible refine Below.sc ?_ (by first | exact Nat.le_refl _ | (simp; done) | (simp; omega)) _ | assumption | exact Below.refl _ _ | refine Below.dr ?_ | refine Below.drN ?_ _ | refine Below.step ?_ (by assumption)))⟩
    | bin op g h ho hg hh =>
      obtain ⟨p, c, q, d, rfl, rfl, rfl, rfl, rfl, -⟩ := hfm.form
      obtain ⟨vn, va, vp, hcs, hop, hs, ht, hl⟩ := hfm
      simp only [List.cons.injEq, and_true] at hcs
      obtain ⟨-, -, -, -, rfl⟩ := hcs
      have HL := Lib.hid (show ListAt B w 5 (FmAt B m w) (.slice q 2 d) [g, h] from hl)
      have HG := Lib.hid (And.intro hg hh)
      clear hf ht hl hg hh
      rcases ho with rfl | rfl | rfl
      · have hz2 : g.eng.length + h.eng.length + 30 ≤ 1000000000030 := by rw [eng_and] at hz; simp at hz; omega
        clear hz
        show Calls Tryz.prog 138 #[.agg #[.int .i64 5, .string ⟨#[]⟩, .slice p 0 c, .string ⟨#[]⟩, .slice q 2 d]] w _
        go_enter Tryz.func138, Tryz.ntmps138
        go_wp2_with fail
        refine (HP.out [g, h] q d _ _ (by go_simp) (HL.out.mono (SameOn.below (by (repeat (first | with_reducible exact Below.refl _ _ | with_reducible assumption | with_reducible refine Below.al ?_ _ | with_reducible refine Below.sc ?_ (by first | exact Nat.le_refl _ | (simp; done) | (simp; omega)) _ | assumption | exact Below.refl _ _ | refine Below.dr ?_ | refine Below.drN ?_ _ | refine Below.step ?_ (by assumption))))) (fun _ h => h) (fun x cs _ hx => FmAt.below (by (repeat (first | with_reducible exact Below.refl _ _ | with_reducible assumption | with_reducible refine Below.al ?_ _ | with_reducible refine Below.sc ?_ (by first | exact Nat.le_refl _ | (simp; done) | (simp; omega)) _ | assumption | exact Below.refl _ _ | refine Below.dr ?_ | refine Below.drN ?_ _ | refine Below.step ?_ (by assumption)))) hx)) 0 _ rfl (by simp) HG.out.1 (by show g.eng.length ≤ _; omega)).mono ?_
        rintro e w1 ⟨rfl, hb1⟩
        have ⟨cw1, fw1⟩ := bcell hb1
        have qw1 := hb1.size
        (try simp at qw1)
        (try have zw1w := bsz (show w.heap.size < w1.heap.size by omega))
        simp only [List.getElem_cons_zero]
        go_wp2_with fail
        refine (HP.out [g, h] q d _ _ (by go_simp) (HL.out.mono (SameOn.below (by (repeat (first | with_reducible exact Below.refl _ _ | with_reducible assumption | with_reducible refine Below.al ?_ _ | with_reducible refine Below.sc ?_ (by first | exact Nat.le_refl _ | (simp; done) | (simp; omega)) _ | assumption | exact Below.refl _ _ | refine Below.dr ?_ | refine Below.drN ?_ _ | refine Below.step ?_ (by assumption))))) (fun _ h => h) (fun x cs _ hx => FmAt.below (by (repeat (first | with_reducible exact Below.refl _ _ | with_reducible assumption | with_reducible refine Below.al ?_ _ | with_reducible refine Below.sc ?_ (by first | exact Nat.le_refl _ | (simp; done) | (simp; omega)) _ | assumption | exact Below.refl _ _ | refine Below.dr ?_ | refine Below.drN ?_ _ | refine Below.step ?_ (by assumption)))) hx)) 1 _ rfl (by simp) HG.out.2 (by show h.eng.length ≤ _; omega)).mono ?_
        rintro e w2 ⟨rfl, hb2⟩
        have ⟨cw2, fw2⟩ := bcell hb2
        have qw2 := hb2.size
        (try simp at qw2)
        (try have zw2w := bsz (show w.heap.size < w2.heap.size by omega))
        (try have zw2w1 := bsz (show w1.heap.size < w2.heap.size by omega))
        simp only [List.getElem_cons_succ, List.getElem_cons_zero]
        go_wp2
        go_ret
        exact ⟨ret_strs (by rw [eng_and]; simp [sBoth, sAnd]), by (repeat (first | with_reducible exact Below.refl _ _ | with_reducible assumption | with_reducible refine Below.al ?_ _ | with_reducible refine Below.sc ?_ (by first | exact Nat.le_refl _ | (simp; done) | (simp; omega)) _ | assumption | exact Below.refl _ _ | refine Below.dr ?_ | refine Below.drN ?_ _ | refine Below.step ?_ (by assumption)))⟩
      · have hz2 : g.eng.length + h.eng.length + 30 ≤ 1000000000030 := by rw [eng_or] at hz; simp at hz; omega
        clear hz
        show Calls Tryz.prog 138 #[.agg #[.int .i64 6, .string ⟨#[]⟩, .slice p 0 c, .string ⟨#[]⟩, .slice q 2 d]] w _
        go_enter Tryz.func138, Tryz.ntmps138
        go_wp2_with fail
        refine (HP.out [g, h] q d _ _ (by go_simp) (HL.out.mono (SameOn.below (by (repeat (first | with_reducible exact Below.refl _ _ | with_reducible assumption | with_reducible refine Below.al ?_ _ | with_reducible refine Below.sc ?_ (by first | exact Nat.le_refl _ | (simp; done) | (simp; omega)) _ | assumption | exact Below.refl _ _ | refine Below.dr ?_ | refine Below.drN ?_ _ | refine Below.step ?_ (by assumption))))) (fun _ h => h) (fun x cs _ hx => FmAt.below (by (repeat (first | with_reducible exact Below.refl _ _ | with_reducible assumption | with_reducible refine Below.al ?_ _ | with_reducible refine Below.sc ?_ (by first | exact Nat.le_refl _ | (simp; done) | (simp; omega)) _ | assumption | exact Below.refl _ _ | refine Below.dr ?_ | refine Below.drN ?_ _ | refine Below.step ?_ (by assumption)))) hx)) 0 _ rfl (by simp) HG.out.1 (by show g.eng.length ≤ _; omega)).mono ?_
        rintro e w1 ⟨rfl, hb1⟩
        have ⟨cw1, fw1⟩ := bcell hb1
        have qw1 := hb1.size
        (try simp at qw1)
        (try have zw1w := bsz (show w.heap.size < w1.heap.size by omega))
        simp only [List.getElem_cons_zero]
        go_wp2_with fail
        refine (HP.out [g, h] q d _ _ (by go_simp) (HL.out.mono (SameOn.below (by (repeat (first | with_reducible exact Below.refl _ _ | with_reducible assumption | with_reducible refine Below.al ?_ _ | with_reducible refine Below.sc ?_ (by first | exact Nat.le_refl _ | (simp; done) | (simp; omega)) _ | assumption | exact Below.refl _ _ | refine Below.dr ?_ | refine Below.drN ?_ _ | refine Below.step ?_ (by assumption))))) (fun _ h => h) (fun x cs _ hx => FmAt.below (by (repeat (first | with_reducible exact Below.refl _ _ | with_reducible assumption | with_reducible refine Below.al ?_ _ | with_reducible refine Below.sc ?_ (by first | exact Nat.le_refl _ | (simp; done) | (simp; omega)) _ | assumption | exact Below.refl _ _ | refine Below.dr ?_ | refine Below.drN ?_ _ | refine Below.step ?_ (by assumption)))) hx)) 1 _ rfl (by simp) HG.out.2 (by show h.eng.length ≤ _; omega)).mono ?_
        rintro e w2 ⟨rfl, hb2⟩
        have ⟨cw2, fw2⟩ := bcell hb2
        have qw2 := hb2.size
        (try simp at qw2)
        (try have zw2w := bsz (show w.heap.size < w2.heap.size by omega))
        (try have zw2w1 := bsz (show w1.heap.size < w2.heap.size by omega))
        simp only [List.getElem_cons_succ, List.getElem_cons_zero]
        go_wp2
        go_ret
        exact ⟨ret_strs (by rw [eng_or]; simp [sEither, sOr]), by (repeat (first | with_reducible exact Below.refl _ _ | with_reducible assumption | with_reducible refine Below.al ?_ _ | with_reducible refine Below.sc ?_ (by first | exact Nat.le_refl _ | (simp; done) | (simp; omega)) _ | assumption | exact Below.refl _ _ | refine Below.dr ?_ | refine Below.drN ?_ _ | refine Below.step ?_ (by assumption)))⟩
      · have hz2 : g.eng.length + h.eng.length + 30 ≤ 1000000000030 := by rw [eng_imp] at hz; simp at hz; omega
        clear hz
        show Calls Tryz.prog 138 #[.agg #[.int .i64 7, .string ⟨#[]⟩, .slice p 0 c, .string ⟨#[]⟩, .slice q 2 d]] w _
        go_enter Tryz.func138, Tryz.ntmps138
        go_wp2_with fail
        refine (HP.out [g, h] q d _ _ (by go_simp) (HL.out.mono (SameOn.below (by (repeat (first | with_reducible exact Below.refl _ _ | with_reducible assumption | with_reducible refine Below.al ?_ _ | with_reducible refine Below.sc ?_ (by first | exact Nat.le_refl _ | (simp; done) | (simp; omega)) _ | assumption | exact Below.refl _ _ | refine Below.dr ?_ | refine Below.drN ?_ _ | refine Below.step ?_ (by assumption))))) (fun _ h => h) (fun x cs _ hx => FmAt.below (by (repeat (first | with_reducible exact Below.refl _ _ | with_reducible assumption | with_reducible refine Below.al ?_ _ | with_reducible refine Below.sc ?_ (by first | exact Nat.le_refl _ | (simp; done) | (simp; omega)) _ | assumption | exact Below.refl _ _ | refine Below.dr ?_ | refine Below.drN ?_ _ | refine Below.step ?_ (by assumption)))) hx)) 0 _ rfl (by simp) HG.out.1 (by show g.eng.length ≤ _; omega)).mono ?_
        rintro e w1 ⟨rfl, hb1⟩
        have ⟨cw1, fw1⟩ := bcell hb1
        have qw1 := hb1.size
        (try simp at qw1)
        (try have zw1w := bsz (show w.heap.size < w1.heap.size by omega))
        simp only [List.getElem_cons_zero]
        go_wp2_with fail
        refine (HP.out [g, h] q d _ _ (by go_simp) (HL.out.mono (SameOn.below (by (repeat (first | with_reducible exact Below.refl _ _ | with_reducible assumption | with_reducible refine Below.al ?_ _ | with_reducible refine Below.sc ?_ (by first | exact Nat.le_refl _ | (simp; done) | (simp; omega)) _ | assumption | exact Below.refl _ _ | refine Below.dr ?_ | refine Below.drN ?_ _ | refine Below.step ?_ (by assumption))))) (fun _ h => h) (fun x cs _ hx => FmAt.below (by (repeat (first | with_reducible exact Below.refl _ _ | with_reducible assumption | with_reducible refine Below.al ?_ _ | with_reducible refine Below.sc ?_ (by first | exact Nat.le_refl _ | (simp; done) | (simp; omega)) _ | assumption | exact Below.refl _ _ | refine Below.dr ?_ | refine Below.drN ?_ _ | refine Below.step ?_ (by assumption)))) hx)) 1 _ rfl (by simp) HG.out.2 (by show h.eng.length ≤ _; omega)).mono ?_
        rintro e w2 ⟨rfl, hb2⟩
        have ⟨cw2, fw2⟩ := bcell hb2
        have qw2 := hb2.size
        (try simp at qw2)
        (try have zw2w := bsz (show w.heap.size < w2.heap.size by omega))
        (try have zw2w1 := bsz (show w1.heap.size < w2.heap.size by omega))
        simp only [List.getElem_cons_succ, List.getElem_cons_zero]
        go_wp2
        go_ret
        exact ⟨ret_strs (by rw [eng_imp]; simp [sIf, sThen]), by (repeat (first | with_reducible exact Below.refl _ _ | with_reducible assumption | with_reducible refine Below.al ?_ _ | with_reducible refine Below.sc ?_ (by first | exact Nat.le_refl _ | (simp; done) | (simp; omega)) _ | assumption | exact Below.refl _ _ | refine Below.dr ?_ | refine Below.drN ?_ _ | refine Below.step ?_ (by assumption)))⟩
    | qua op v g ho hv hg =>
      obtain ⟨p, c, q, d, rfl, rfl, rfl, rfl, rfl, -⟩ := hfm.form
      obtain ⟨vn, va, vp, hcs, hop, hs, ht, hl⟩ := hfm
      simp only [List.cons.injEq, and_true] at hcs
      obtain ⟨-, -, -, -, rfl⟩ := hcs
      have HL := Lib.hid (show ListAt B w 5 (FmAt B m w) (.slice q 1 d) [g] from hl)
      have HG := Lib.hid hg
      clear hf ht hl hg
      rcases ho with rfl | rfl
      · have hz2 : g.eng.length + v.length + 30 ≤ 1000000000030 := by rw [eng_all] at hz; simp at hz; omega
        clear hz
        show Calls Tryz.prog 138 #[.agg #[.int .i64 8, .string ⟨#[]⟩, .slice p 0 c, .string ⟨v.toArray⟩, .slice q 1 d]] w _
        go_enter Tryz.func138, Tryz.ntmps138
        go_wp2
        obtain ⟨W, hW⟩ : ∃ W : World, W = w.alloc (.cells #[.int .i64 8, .string ⟨#[]⟩, .slice p 0 c, .string ⟨v.toArray⟩, .slice q 1 d] 60) := ⟨_, rfl⟩
        have hwb : W.cell? ⟨w.heap.size, 3, none⟩ = some (.string ⟨v.toArray⟩) := by rw [hW]; go_simp
        have hwc : W.cell? ⟨w.heap.size, 4, none⟩ = some (.slice q 1 d) := by rw [hW]; go_simp
        have hbW : Below w.heap.size w W := by rw [hW]; (repeat (first | with_reducible exact Below.refl _ _ | with_reducible assumption | with_reducible refine Below.al ?_ _ | with_reducible refine Below.sc ?_ (by first | exact Nat.le_refl _ | (simp; done) | (simp; omega)) _ | assumption | exact Below.refl _ _ | refine Below.dr ?_ | refine Below.drN ?_ _ | refine Below.step ?_ (by assumption)))
        rw [← hW]
        clear hW
        have zW := bsz (World.block_lt_of_cell? _ _ hwb)
        obtain ⟨C, HC0⟩ := class_of (InF W.heap.size _ [(⟨w.heap.size, 3, none⟩, .string ⟨v.toArray⟩), (⟨w.heap.size, 4, none⟩, .slice q 1 d)] [] [])
        have HC := Lib.hid HC0
        clear HC0
        refine wp_region_flow (C := C) (by kernel_rfl) (by kernel_rfl) (fun L hL => (HC.out _ _).2 (InF.start (by first | (intro _ hs; cases hs; done) | (simp only [List.forall_mem_cons]; go_simp)) (by first | (intro _ hs; cases hs; done) | (simp only [List.forall_mem_cons]; go_simp)) (by first | (intro _ hs; cases hs; done) | (simp only [List.forall_mem_cons]; go_simp)) (by first | (intro _ hs; cases hs; done) | (simp only [List.forall_mem_cons]; go_simp)) L hL)) ?_
        repeat (first | (apply flow_free rfl; (intro L w' hun hrd hC; have hC := (HC.out _ _).1 hC; have hb' := hC.below; (try have hw' : Below w.heap.size w w' := by first | exact Below.trans (by (repeat (first | with_reducible exact Below.refl _ _ | with_reducible assumption | with_reducible refine Below.al ?_ _ | with_reducible refine Below.sc ?_ (by first | exact Nat.le_refl _ | (simp; done) | (simp; omega)) _ | assumption | exact Below.refl _ _ | refine Below.dr ?_ | refine Below.drN ?_ _ | refine Below.step ?_ (by assumption)))) hb' | ((repeat (first | with_reducible exact Below.refl _ _ | with_reducible assumption | with_reducible refine Below.al ?_ _ | with_reducible refine Below.sc ?_ (by first | exact Nat.le_refl _ | (simp; done) | (simp; omega)) _ | assumption | exact Below.refl _ _ | refine Below.dr ?_ | refine Below.drN ?_ _ | refine Below.step ?_ (by assumption))); done)); have hf' := hC.cell; (try simp only [List.forall_mem_cons] at hf'); go_simp; first | exact ⟨(HC.out _ _).2 (hC.skip _ (by rfl)), rfl⟩ | (rw [if_neg]; (exact ⟨(HC.out _ _).2 (hC.skip _ (by rfl)), rfl⟩); omega) | (go_at_call 202; refine (HP.out [g] q d _ _ hf'.2.1 (HL.out.mono (SameOn.below hw') (fun _ h => h) (fun x cs _ hx => FmAt.below hw' hx)) 0 _ rfl (by simp) HG.out (by show g.eng.length ≤ _; omega)).mono ?_; rintro e w1 ⟨rfl, hb1⟩; exact ⟨rfl, (HC.out _ _).2 ((hC.next (by first | (simp; done) | (simp; omega) | omega) hb1).skip _ (by rfl))⟩)); go_simp) | (apply flow_yes; (case hw => go_simp); (intro L w' hun hrd hC; have hC := (HC.out _ _).1 hC; have hb' := hC.below; (try have hw' : Below w.heap.size w w' := by first | exact Below.trans (by (repeat (first | with_reducible exact Below.refl _ _ | with_reducible assumption | with_reducible refine Below.al ?_ _ | with_reducible refine Below.sc ?_ (by first | exact Nat.le_refl _ | (simp; done) | (simp; omega)) _ | assumption | exact Below.refl _ _ | refine Below.dr ?_ | refine Below.drN ?_ _ | refine Below.step ?_ (by assumption)))) hb' | ((repeat (first | with_reducible exact Below.refl _ _ | with_reducible assumption | with_reducible refine Below.al ?_ _ | with_reducible refine Below.sc ?_ (by first | exact Nat.le_refl _ | (simp; done) | (simp; omega)) _ | assumption | exact Below.refl _ _ | refine Below.dr ?_ | refine Below.drN ?_ _ | refine Below.step ?_ (by assumption))); done)); have hf' := hC.cell; (try simp only [List.forall_mem_cons] at hf'); go_simp; first | exact ⟨(HC.out _ _).2 (hC.skip _ (by rfl)), rfl⟩ | (rw [if_neg]; (exact ⟨(HC.out _ _).2 (hC.skip _ (by rfl)), rfl⟩); omega) | (go_at_call 202; refine (HP.out [g] q d _ _ hf'.2.1 (HL.out.mono (SameOn.below hw') (fun _ h => h) (fun x cs _ hx => FmAt.below hw' hx)) 0 _ rfl (by simp) HG.out (by show g.eng.length ≤ _; omega)).mono ?_; rintro e w1 ⟨rfl, hb1⟩; exact ⟨rfl, (HC.out _ _).2 ((hC.next (by first | (simp; done) | (simp; omega) | omega) hb1).skip _ (by rfl))⟩)); go_simp) | (apply flow_no; (case hw => (go_simp; try (intro hh; cases hh))); (intro L w' _ _ hC; exact (HC.out _ _).2 (((HC.out _ _).1 hC).skip _ (by rfl))); go_simp))
        refine flow_nil ?_
        intro L wz hL hz
        have hz := (HC.out _ _).1 hz
        have hbz := hz.below
        have hcz := hz.cell
        try simp only [List.forall_mem_cons] at hcz
        have hdz := hz.done
        try simp only [List.forall_mem_cons] at hdz
        (try have hwz : Below w.heap.size w wz := by first | exact Below.trans (by (repeat (first | with_reducible exact Below.refl _ _ | with_reducible assumption | with_reducible refine Below.al ?_ _ | with_reducible refine Below.sc ?_ (by first | exact Nat.le_refl _ | (simp; done) | (simp; omega)) _ | assumption | exact Below.refl _ _ | refine Below.dr ?_ | refine Below.drN ?_ _ | refine Below.step ?_ (by assumption)))) hbz | ((repeat (first | with_reducible exact Below.refl _ _ | with_reducible assumption | with_reducible refine Below.al ?_ _ | with_reducible refine Below.sc ?_ (by first | exact Nat.le_refl _ | (simp; done) | (simp; omega)) _ | assumption | exact Below.refl _ _ | refine Below.dr ?_ | refine Below.drN ?_ _ | refine Below.step ?_ (by assumption))); done))
        go_wp2
        go_ret
        exact ⟨ret_strs (by rw [eng_all]; simp [sEvery, sComma]), by (repeat (first | with_reducible exact Below.refl _ _ | with_reducible assumption | with_reducible refine Below.al ?_ _ | with_reducible refine Below.sc ?_ (by first | exact Nat.le_refl _ | (simp; done) | (simp; omega)) _ | assumption | exact Below.refl _ _ | refine Below.dr ?_ | refine Below.drN ?_ _ | refine Below.step ?_ (by assumption)))⟩
      · have hz2 : g.eng.length + v.length + 30 ≤ 1000000000030 := by rw [eng_ex] at hz; simp at hz; omega
        clear hz
        show Calls Tryz.prog 138 #[.agg #[.int .i64 9, .string ⟨#[]⟩, .slice p 0 c, .string ⟨v.toArray⟩, .slice q 1 d]] w _
        go_enter Tryz.func138, Tryz.ntmps138
        go_wp2
        obtain ⟨W, hW⟩ : ∃ W : World, W = w.alloc (.cells #[.int .i64 9, .string ⟨#[]⟩, .slice p 0 c, .string ⟨v.toArray⟩, .slice q 1 d] 60) := ⟨_, rfl⟩
        have hwb : W.cell? ⟨w.heap.size, 3, none⟩ = some (.string ⟨v.toArray⟩) := by rw [hW]; go_simp
        have hwc : W.cell? ⟨w.heap.size, 4, none⟩ = some (.slice q 1 d) := by rw [hW]; go_simp
        have hbW : Below w.heap.size w W := by rw [hW]; (repeat (first | with_reducible exact Below.refl _ _ | with_reducible assumption | with_reducible refine Below.al ?_ _ | with_reducible refine Below.sc ?_ (by first | exact Nat.le_refl _ | (simp; done) | (simp; omega)) _ | assumption | exact Below.refl _ _ | refine Below.dr ?_ | refine Below.drN ?_ _ | refine Below.step ?_ (by assumption)))
        rw [← hW]
        clear hW
        have zW := bsz (World.block_lt_of_cell? _ _ hwb)
        obtain ⟨C, HC0⟩ := class_of (InF W.heap.size _ [(⟨w.heap.size, 3, none⟩, .string ⟨v.toArray⟩), (⟨w.heap.size, 4, none⟩, .slice q 1 d)] [] [])
        have HC := Lib.hid HC0
        clear HC0
        refine wp_region_flow (C := C) (by kernel_rfl) (by kernel_rfl) (fun L hL => (HC.out _ _).2 (InF.start (by first | (intro _ hs; cases hs; done) | (simp only [List.forall_mem_cons]; go_simp)) (by first | (intro _ hs; cases hs; done) | (simp only [List.forall_mem_cons]; go_simp)) (by first | (intro _ hs; cases hs; done) | (simp only [List.forall_mem_cons]; go_simp)) (by first | (intro _ hs; cases hs; done) | (simp only [List.forall_mem_cons]; go_simp)) L hL)) ?_
        repeat (first | (apply flow_free rfl; (intro L w' hun hrd hC; have hC := (HC.out _ _).1 hC; have hb' := hC.below; (try have hw' : Below w.heap.size w w' := by first | exact Below.trans (by (repeat (first | with_reducible exact Below.refl _ _ | with_reducible assumption | with_reducible refine Below.al ?_ _ | with_reducible refine Below.sc ?_ (by first | exact Nat.le_refl _ | (simp; done) | (simp; omega)) _ | assumption | exact Below.refl _ _ | refine Below.dr ?_ | refine Below.drN ?_ _ | refine Below.step ?_ (by assumption)))) hb' | ((repeat (first | with_reducible exact Below.refl _ _ | with_reducible assumption | with_reducible refine Below.al ?_ _ | with_reducible refine Below.sc ?_ (by first | exact Nat.le_refl _ | (simp; done) | (simp; omega)) _ | assumption | exact Below.refl _ _ | refine Below.dr ?_ | refine Below.drN ?_ _ | refine Below.step ?_ (by assumption))); done)); have hf' := hC.cell; (try simp only [List.forall_mem_cons] at hf'); go_simp; first | exact ⟨(HC.out _ _).2 (hC.skip _ (by rfl)), rfl⟩ | (rw [if_neg]; (exact ⟨(HC.out _ _).2 (hC.skip _ (by rfl)), rfl⟩); omega) | (go_at_call 202; refine (HP.out [g] q d _ _ hf'.2.1 (HL.out.mono (SameOn.below hw') (fun _ h => h) (fun x cs _ hx => FmAt.below hw' hx)) 0 _ rfl (by simp) HG.out (by show g.eng.length ≤ _; omega)).mono ?_; rintro e w1 ⟨rfl, hb1⟩; exact ⟨rfl, (HC.out _ _).2 ((hC.next (by first | (simp; done) | (simp; omega) | omega) hb1).skip _ (by rfl))⟩)); go_simp) | (apply flow_yes; (case hw => go_simp); (intro L w' hun hrd hC; have hC := (HC.out _ _).1 hC; have hb' := hC.below; (try have hw' : Below w.heap.size w w' := by first | exact Below.trans (by (repeat (first | with_reducible exact Below.refl _ _ | with_reducible assumption | with_reducible refine Below.al ?_ _ | with_reducible refine Below.sc ?_ (by first | exact Nat.le_refl _ | (simp; done) | (simp; omega)) _ | assumption | exact Below.refl _ _ | refine Below.dr ?_ | refine Below.drN ?_ _ | refine Below.step ?_ (by assumption)))) hb' | ((repeat (first | with_reducible exact Below.refl _ _ | with_reducible assumption | with_reducible refine Below.al ?_ _ | with_reducible refine Below.sc ?_ (by first | exact Nat.le_refl _ | (simp; done) | (simp; omega)) _ | assumption | exact Below.refl _ _ | refine Below.dr ?_ | refine Below.drN ?_ _ | refine Below.step ?_ (by assumption))); done)); have hf' := hC.cell; (try simp only [List.forall_mem_cons] at hf'); go_simp; first | exact ⟨(HC.out _ _).2 (hC.skip _ (by rfl)), rfl⟩ | (rw [if_neg]; (exact ⟨(HC.out _ _).2 (hC.skip _ (by rfl)), rfl⟩); omega) | (go_at_call 202; refine (HP.out [g] q d _ _ hf'.2.1 (HL.out.mono (SameOn.below hw') (fun _ h => h) (fun x cs _ hx => FmAt.below hw' hx)) 0 _ rfl (by simp) HG.out (by show g.eng.length ≤ _; omega)).mono ?_; rintro e w1 ⟨rfl, hb1⟩; exact ⟨rfl, (HC.out _ _).2 ((hC.next (by first | (simp; done) | (simp; omega) | omega) hb1).skip _ (by rfl))⟩)); go_simp) | (apply flow_no; (case hw => (go_simp; try (intro hh; cases hh))); (intro L w' _ _ hC; exact (HC.out _ _).2 (((HC.out _ _).1 hC).skip _ (by rfl))); go_simp))
        refine flow_nil ?_
        intro L wz hL hz
        have hz := (HC.out _ _).1 hz
        have hbz := hz.below
        have hcz := hz.cell
        try simp only [List.forall_mem_cons] at hcz
        have hdz := hz.done
        try simp only [List.forall_mem_cons] at hdz
        (try have hwz : Below w.heap.size w wz := by first | exact Below.trans (by (repeat (first | with_reducible exact Below.refl _ _ | with_reducible assumption | with_reducible refine Below.al ?_ _ | with_reducible refine Below.sc ?_ (by first | exact Nat.le_refl _ | (simp; done) | (simp; omega)) _ | assumption | exact Below.refl _ _ | refine Below.dr ?_ | refine Below.drN ?_ _ | refine Below.step ?_ (by assumption)))) hbz | ((repeat (first | with_reducible exact Below.refl _ _ | with_reducible assumption | with_reducible refine Below.al ?_ _ | with_reducible refine Below.sc ?_ (by first | exact Nat.le_refl _ | (simp; done) | (simp; omega)) _ | assumption | exact Below.refl _ _ | refine Below.dr ?_ | refine Below.drN ?_ _ | refine Below.step ?_ (by assumption))); done))
        go_wp2
        go_ret
        exact ⟨ret_strs (by rw [eng_ex]; simp [sThere, sSuch]), by (repeat (first | with_reducible exact Below.refl _ _ | with_reducible assumption | with_reducible refine Below.al ?_ _ | with_reducible refine Below.sc ?_ (by first | exact Nat.le_refl _ | (simp; done) | (simp; omega)) _ | assumption | exact Below.refl _ _ | refine Below.dr ?_ | refine Below.drN ?_ _ | refine Below.step ?_ (by assumption)))⟩
end Go.Proofs.YtcegllnljaapiaaGreatDoor
namespace Go.Proofs.YtcegllnljaapiaaGreatDoor
open Go.RowKit
mutual
theorem Tm.sz_wt : ∀ t : Tm, t.sz ≤ t.wt + 1
  | .mk n us => by have := Tm.szs_wt us; rw [Tm.sz, Tm.wt]; omega
theorem Tm.szs_wt : ∀ us : List Tm, Tm.szs us ≤ us.length + Tm.wts us
  | [] => by simp [Tm.szs]
  | a :: us => by have := Tm.sz_wt a; have := Tm.szs_wt us; rw [Tm.szs, Tm.wts, List.length_cons]; omega
end
theorem joinB_len (sep : List UInt8) : ∀ l : List (List UInt8), (joinB sep l).length ≤ (l.map (fun a => a.length + sep.length)).sum
  | [] => by simp [joinB]
  | [a] => by simp [joinB]
  | a :: b :: l => by
    have := joinB_len sep (b :: l)
    rw [joinB]
    simp only [List.length_append, List.map_cons, List.sum_cons] at this ⊢
    omega
mutual
theorem Tm.fmt_wt : ∀ t : Tm, t.nodes = true → t.fmt.length ≤ 3 * t.wt + 2
  | .mk n us, h => by
    have h1 := Tm.nodes_mk h
    have h2 := Tm.fmts_wt us h1.2
    have h3 := joinB_len [44] (Tm.fmtL us)
    rw [Tm.fmt_mk (word_not61 h1.1), Tm.wt]
    simp only [List.length_cons, List.length_nil] at h3
    have hn : n.data.toList.length = n.size := rfl
    split
    · omega
    · simp only [List.length_append, List.length_cons, List.length_nil, hn]; omega
theorem Tm.fmts_wt : ∀ us : List Tm, Tm.nodess us = true → ((Tm.fmtL us).map (fun a => a.length + (0 + 1))).sum ≤ 3 * us.length + 3 * Tm.wts us
  | [], _ => by simp [Tm.fmtL]
  | a :: us, h => by
    rw [Tm.nodess, Bool.and_eq_true] at h
    have h1 := Tm.fmt_wt a h.1
    have h2 := Tm.fmts_wt us h.2
    rw [Tm.fmtL, List.map_cons, List.sum_cons, Tm.wts, List.length_cons]; omega
end
theorem fmts_wt2 : ∀ us : List Tm, Tm.nodess us = true → ((Tm.fmtL us).map (fun a => a.length + sComma.length)).sum ≤ 4 * us.length + 3 * Tm.wts us
  | [], _ => by simp [Tm.fmtL]
  | a :: us, h => by
    rw [Tm.nodess, Bool.and_eq_true] at h
    have h1 := Tm.fmt_wt a h.1
    have h2 := fmts_wt2 us h.2
    have h3 : sComma.length = 2 := rfl
    rw [Tm.fmtL, List.map_cons, List.sum_cons, Tm.wts, List.length_cons]; omega
theorem Tm.eng_wt {t : Tm} (h : t.atom = true) : t.eng.length ≤ 4 * t.wt + 20 := by
  cases atom_cases h with
  | eq a b ha hb =>
    have h1 := Tm.fmt_wt a ha
    have h2 := Tm.fmt_wt b hb
    have h3 : sEquals.length = 8 := rfl
    rw [eng_eq, eqTm, Tm.wt, Tm.wts, Tm.wts, Tm.wts]
    simp only [List.length_append]; omega
  | pred n us hs hu hd =>
    rw [eng_pred hs, Tm.wt]
    have h3 : sHolds.length = 6 := rfl
    have h4 : sHoldsOf.length = 10 := rfl
    have hn : n.data.toList.length = n.size := rfl
    have h5 := joinB_len sComma (Tm.fmtL us)
    have h6 := fmts_wt2 us hu
    split <;> simp only [List.length_append, hn] <;> omega
theorem Fm.eng_wt : ∀ (k : Nat) (t : Fm), t.sz ≤ k → t.form = true → t.eng.length ≤ 30 * t.wt + 30
  | 0, .mk _ _ _ _, hk, _ => by rw [Fm.sz] at hk; omega
  | k + 1, t, hk, hf => by
    cases form_cases hf with
    | tru => rw [opF, Fm.eng]; simp [sTruth]
    | fal => rw [opF, Fm.eng]; simp [sFalsity]
    | atm a ha =>
      have := Tm.eng_wt ha
      rw [eng_atm, atomOfF, Fm.wt]; omega
    | neg g hg =>
      rw [opF, Fm.sz, Fm.szs, Fm.szs] at hk
      have h1 := Fm.eng_wt k g (by omega) hg
      have h2 : sNot.length = 24 := rfl
      rw [eng_neg, opF, Fm.wt, Fm.wts, Fm.wts, List.length_append, List.length_cons, List.length_nil]; omega
    | bin op g h ho hg hh =>
      rw [opF, Fm.sz, Fm.szs, Fm.szs, Fm.szs] at hk
      have h1 := Fm.eng_wt k g (by omega) hg
      have h2 := Fm.eng_wt k h (by omega) hh
      have h3 : sBoth.length = 5 ∧ sAnd.length = 5 ∧ sEither.length = 7 ∧ sOr.length = 4 ∧ sIf.length = 3 ∧ sThen.length = 6 := ⟨rfl, rfl, rfl, rfl, rfl, rfl⟩
      have hw : (opF op [g, h]).wt = tm0.wt + 0 + 2 + (g.wt + (h.wt + 0)) := by rw [opF, Fm.wt, Fm.wts, Fm.wts, Fm.wts]; rfl
      rcases ho with rfl | rfl | rfl
      · rw [eng_and, hw]; simp only [List.length_append]; omega
      · rw [eng_or, hw]; simp only [List.length_append]; omega
      · rw [eng_imp, hw]; simp only [List.length_append]; omega
    | qua op v g ho hv hg =>
      rw [quantF, Fm.sz, Fm.szs, Fm.szs] at hk
      have h1 := Fm.eng_wt k g (by omega) hg
      have h3 : sEvery.length = 10 ∧ sComma.length = 2 ∧ sThere.length = 9 ∧ sSuch.length = 11 := ⟨rfl, rfl, rfl, rfl⟩
      have hw : (quantF op v g).wt = tm0.wt + v.length + 1 + (g.wt + 0) := by rw [quantF, Fm.wt, Fm.wts, Fm.wts]; rfl
      rcases ho with rfl | rfl
      · rw [eng_all, hw]; simp only [List.length_append]; omega
      · rw [eng_ex, hw]; simp only [List.length_append]; omega
end Go.Proofs.YtcegllnljaapiaaGreatDoor
