/- A struct in the making whose rows are its own. No conditions; no program is walked. -/
import Derived.Test.YtkgfanajgdelcaaGreatDoorLbPart1
import Derived.Test.YtkgfanajgdelcaaGreatDoorLbPart2
import Derived.Test.YtkgfanajgdelcaaGreatDoorLbPart3
namespace Go.Proofs.YtkgfanajgdelcaaGreatDoor
open Go.RowKit
theorem join_eq (sep : List UInt8) : ∀ l : List (List UInt8), Lib.join l sep = joinB sep l
  | [] => rfl
  | [a] => by rw [Lib.join_one]; rfl
  | a :: b :: l => by
    rw [joinB, ← join_eq sep (b :: l), Lib.join_cons, Lib.join_cons, Lib.joinTail]
    simp [Lib.joinTail, List.append_assoc]
theorem strs_map (l : List (List UInt8)) : (l.map (fun x => (⟨x.toArray⟩ : ByteArray))).map (·.data.toList) = l := by
  induction l with
  | nil => rfl
  | cons a l ih => rw [List.map_cons, List.map_cons, ih]
theorem join_own {base : Nat} {v : Value} {l : List (List UInt8)} (sp : List UInt8) (w : World) (h : w.ownsRow base 9 1 v l.length (strV l)) (hl : l.length ≤ 1000000) (hlen : (joinB sp l).length ≤ 140737488355328) :
    Calls Tryz.prog 261 #[v, .string ⟨sp.toArray⟩] w fun e w' => e = .returned (.string ⟨(joinB sp l).toArray⟩) ∧ Below w.heap.size w w' := by
  cases l with
  | nil =>
    rcases h.2 with ⟨rfl, _⟩ | ⟨g, cap, cur, rfl, _⟩
    · exact (Tryz.strings_Join_none _ _ _ _).mono fun e w' ⟨he, hw⟩ => ⟨he, hw ▸ Below.refl _ _⟩
    · exact (Tryz.strings_Join_none _ _ _ _).mono fun e w' ⟨he, hw⟩ => ⟨he, hw ▸ Below.refl _ _⟩
  | cons a l =>
    obtain ⟨g, cap, rfl⟩ := own_form h (by simp)
    have hlt := own_lt h
    have hcap : (a :: l).length ≤ cap := by
      rcases h.2 with ⟨h, _⟩ | ⟨g', cap', cur, hv, _, _, hc, _⟩
      · cases h
      · injection hv with e1 e2 e3; subst e3; exact hc
    have := Tryz.strings_Join g 0 cap ((a :: l).map (fun x => (⟨x.toArray⟩ : ByteArray))) ⟨sp.toArray⟩ w (fun j x hx => by
      rw [Nat.zero_add]
      have hj : j < (a :: l).length := by have := (List.getElem?_eq_some_iff.1 hx).1; simpa using this
      rw [h.cellAt j (by omega), strV, List.getElem?_map]
      rw [List.getElem?_map] at hx
      cases hq : (a :: l)[j]? with
      | none => rw [hq] at hx; cases hx
      | some y => rw [hq] at hx; simp only [Option.map_some, Option.some.injEq] at hx; subst hx; rfl) hlt (by simp at hl ⊢; omega) (by simpa using hcap) (by rw [strs_map, join_eq]; exact hlen)
    rw [strs_map, join_eq, List.length_map] at this
    exact this
theorem fmtL_map : ∀ us : List Tm, Tm.fmtL us = us.map Tm.fmt
  | [] => rfl
  | a :: us => by rw [Tm.fmtL, fmtL_map us]; rfl
theorem fmtL_len (us : List Tm) : (Tm.fmtL us).length = us.length := by rw [fmtL_map, List.length_map]
theorem fmtL_at {us : List Tm} {k : Nat} (h : k < us.length) : (Tm.fmtL us)[k]'(by rw [fmtL_len]; exact h) = us[k].fmt := by simp [fmtL_map]
theorem joinB_mem {sep : List UInt8} : ∀ {l : List (List UInt8)} {a : List UInt8}, a ∈ l → a.length ≤ (joinB sep l).length
  | [b], a, h => by simp at h; subst h; exact Nat.le_refl _
  | b :: c :: l, a, h => by
    rw [joinB]
    simp only [List.length_append]
    rcases List.mem_cons.1 h with rfl | h
    · omega
    · have := joinB_mem (sep := sep) h; omega
theorem fmt_arg {us : List Tm} {k : Nat} (h : k < us.length) (sep : List UInt8) : (us[k]).fmt.length ≤ (joinB sep (Tm.fmtL us)).length := by
  refine joinB_mem ?_
  rw [fmtL_map]
  exact List.mem_map_of_mem (List.getElem_mem h)
theorem nodess_arg {us : List Tm} (hn : Tm.nodess us = true) {k : Nat} (h : k < us.length) : (us[k]).nodes = true := by
  induction us generalizing k with
  | nil => simp at h
  | cons a us ih =>
    rw [Tm.nodess, Bool.and_eq_true] at hn
    cases k with
    | zero => exact hn.1
    | succ k => exact ih hn.2 (by simpa using h)
theorem nodes_len {n : ByteArray} {us : List Tm} (h : (Tm.mk n us).nodes = true) : us.length ≤ 4 := by
  rw [Tm.nodes] at h
  split at h
  · cases us <;> simp at h ⊢
  · simp only [Bool.and_eq_true, decide_eq_true_eq] at h; exact h.1.2
theorem nodes_noEq {t : Tm} (h : t.nodes = true) : isEq t.n = false := by
  obtain ⟨n, us⟩ := t
  have := word_not61 (Tm.nodes_mk h).1
  simpa [isEq, Tm.n] using this
/-- A list of texts, written one by one into an own row; a cell of block g stays. -/
def TextsRel (l : List (List UInt8)) (g : Nat) (u : Value) (w : World) (out i : Value) (wr : World) : Prop :=
  ∃ k : Nat, k ≤ l.length ∧ i = .int .i64 k ∧ wr.ownsRow (g + 1) 9 1 out k (strV (l.take k)) ∧ wr.cell? ⟨g, 0, none⟩ = some u ∧ Below w.heap.size w wr
theorem strV_take {l : List (List UInt8)} {k : Nat} (h : k < l.length) : strV (l.take (k + 1)) = strV (l.take k) ++ [.string ⟨(l[k]).toArray⟩] := by
  rw [List.take_succ_eq_append_getElem h, strV_snoc]
set_option maxRecDepth 100000 in
set_option maxHeartbeats 1600000 in
theorem formatTerm_any {B : Nat → Prop} : ∀ (m : Nat) (t : Tm) (v0 v1 : Value) (w : World), TmAt B m w t [v0, v1] → t.nodes = true → t.fmt.length ≤ 1000000000000 →
      Calls Tryz.prog 230 #[.agg #[v0, v1]] w fun e w' => e = .returned (.string ⟨t.fmt.toArray⟩) ∧ Below w.heap.size w w' := by
  intro m
  induction m with
  | zero => intro t v0 v1 w h; exact h.elim
  | succ m ih =>
    rintro ⟨s, us⟩ v0 v1 w ⟨va, hcs, hs, hl⟩ hn hz
    simp only [List.cons.injEq, and_true] at hcs
    obtain ⟨rfl, rfl⟩ := hcs
    obtain ⟨p, c, rfl, -⟩ := hl.form
    have hlen := nodes_len hn
    have HQ := Lib.hid (nodes_noEq hn)
    have HM := Lib.hid (Tm.fmt_mk (us := us) (word_not61 (Tm.nodes_mk hn).1))
    have HN := Lib.hid (Tm.nodes_mk hn).2
    have IH := Lib.hid ih
    have HL := Lib.hid hl
    clear ih hl hn
    by_cases h0 : us = []
    · subst h0
      go_enter Tryz.func230, Tryz.ntmps230
      go_wp2_with fail
      refine (isEquality_any _ _ _).mono ?_
      rintro e w1 ⟨rfl, hb1⟩
      have ⟨cw1, fw1⟩ := bcell hb1
      have qw1 := hb1.size
      (try simp at qw1)
      (try have zw1w := bsz (show w.heap.size < w1.heap.size by omega))
      rw [show isEq s = false from HQ.out]
      go_wp2
      go_ret
      exact ⟨ret_strs (by rw [HM.out]; rfl), by (repeat (first | with_reducible exact Below.refl _ _ | with_reducible assumption | with_reducible refine Below.al ?_ _ | with_reducible refine Below.sc ?_ (by first | exact Nat.le_refl _ | (simp; done) | (simp; omega)) _ | assumption | exact Below.refl _ _ | refine Below.dr ?_ | refine Below.drN ?_ _ | refine Below.step ?_ (by assumption)))⟩
    · have hm := HM.out
      have hie : us.isEmpty = false := by
        cases us with
        | nil => exact absurd rfl h0
        | cons a l => rfl
      rw [hie, if_neg (by decide)] at hm
      have hfm : (Tm.mk s us).fmt.length = s.size + 1 + (joinB [44] (Tm.fmtL us)).length + 1 := by rw [hm]; simp; omega
      have hjl : s.size + 1 + (joinB [44] (Tm.fmtL us)).length + 1 ≤ 1000000000000 := by omega
      have HM2 := Lib.hid hm
      have hl0 : 0 < us.length := List.length_pos_iff.2 h0
      clear hfm hz hm HM hie
      go_enter Tryz.func230, Tryz.ntmps230
      go_wp2_with fail
      refine (isEquality_any _ _ _).mono ?_
      rintro e w1 ⟨rfl, hb1⟩
      have ⟨cw1, fw1⟩ := bcell hb1
      have qw1 := hb1.size
      (try simp at qw1)
      (try have zw1w := bsz (show w.heap.size < w1.heap.size by omega))
      rw [show isEq s = false from HQ.out]
      go_wp2
      go_loopw [3, 30] (TextsRel (Tm.fmtL us) w.heap.size (.string s) w) (fun _ i _ => us.length - (intOf i).toNat)
      case atStart => exact ⟨0, Nat.zero_le _, rfl, row_empty _ _ _ _ (by omega), by go_simp, by (repeat (first | with_reducible exact Below.refl _ _ | with_reducible assumption | with_reducible refine Below.al ?_ _ | with_reducible refine Below.sc ?_ (by first | exact Nat.le_refl _ | (simp; done) | (simp; omega)) _ | assumption | exact Below.refl _ _ | refine Below.dr ?_ | refine Below.drN ?_ _ | refine Below.step ?_ (by assumption)))⟩
      case round =>
        obtain ⟨k, hk, rfl, ho, hc, hb⟩ := hrel
        have HO := Lib.hid ho
        rw [fmtL_len] at hk
        have hqr := hb.size
        have hgr : w.heap.size < wr.heap.size := World.block_lt_of_cell? _ _ hc
        clear ho
        by_cases hlt : k < us.length
        · obtain ⟨b, o, rfl, hB, x0, x1, hx0, hx1, hx⟩ := (HL.out.mono (SameOn.below hb) (fun _ h => h) (fun x cs _ hx => TmAt.below hb hx)).at2 hlt
          have hS := fmtL_at hlt
          have hF := fmt_arg hlt [44]
          have hN := nodess_arg HN.out hlt
          obtain ⟨a, ha⟩ : ∃ a, us[k] = a := ⟨_, rfl⟩
          rw [ha] at hx
          rw [ha] at hS
          rw [ha] at hF
          rw [ha] at hN
          have HX := Lib.hid hx
          have HS := Lib.hid hS
          have HF := Lib.hid hF
          have HN := Lib.hid hN
          clear hx ha hS hF hN
          have zb := bsz (World.block_lt_of_cell? _ _ hx0)
          obtain ⟨pa, ca, rfl, rfl, -, -⟩ := HX.out.form
          have hfl : a.fmt.length ≤ 1000000000000 := by have := HF.out; omega
          go_wp2_with fail
          refine (IH.out a _ _ _ (HX.out.below (by (repeat (first | with_reducible exact Below.refl _ _ | with_reducible assumption | with_reducible refine Below.al ?_ _ | with_reducible refine Below.sc ?_ (by first | exact Nat.le_refl _ | (simp; done) | (simp; omega)) _ | assumption | exact Below.refl _ _ | refine Below.dr ?_ | refine Below.drN ?_ _ | refine Below.step ?_ (by assumption))))) HN.out hfl).mono ?_
          rintro e w2 ⟨rfl, hb2⟩
          have ⟨cw2, fw2⟩ := bcell hb2
          have qw2 := hb2.size
          (try simp at qw2)
          (try have zw2w := bsz (show w.heap.size < w2.heap.size by omega))
          (try have zw2w1 := bsz (show w1.heap.size < w2.heap.size by omega))
          have HO1 := Lib.hid (own_below HO.out (show Below wr.heap.size wr w2 by (repeat (first | with_reducible exact Below.refl _ _ | with_reducible assumption | with_reducible refine Below.al ?_ _ | with_reducible refine Below.sc ?_ (by first | exact Nat.le_refl _ | (simp; done) | (simp; omega)) _ | assumption | exact Below.refl _ _ | refine Below.dr ?_ | refine Below.drN ?_ _ | refine Below.step ?_ (by assumption)))))
          have HC1 := Lib.hid ((show Below wr.heap.size wr w2 by (repeat (first | with_reducible exact Below.refl _ _ | with_reducible assumption | with_reducible refine Below.al ?_ _ | with_reducible refine Below.sc ?_ (by first | exact Nat.le_refl _ | (simp; done) | (simp; omega)) _ | assumption | exact Below.refl _ _ | refine Below.dr ?_ | refine Below.drN ?_ _ | refine Below.step ?_ (by assumption)))).cell hgr |>.trans hc)
          have hb3 : Below w.heap.size w w2 := by (repeat (first | with_reducible exact Below.refl _ _ | with_reducible assumption | with_reducible refine Below.al ?_ _ | with_reducible refine Below.sc ?_ (by first | exact Nat.le_refl _ | (simp; done) | (simp; omega)) _ | assumption | exact Below.refl _ _ | refine Below.dr ?_ | refine Below.drN ?_ _ | refine Below.step ?_ (by assumption)))
          clear hc
          go_wp2_with (at_builtin; refine wpList_app1 rfl (.tmp 34) (.tmp 37) _ rfl (w.heap.size + 1) 9 1 16 elemStr _ _ _ rfl w2 #[.string ⟨a.fmt.toArray⟩] rfl _ (by simp) rfl HO1.out rfl (by simp [Value.oneCell']) (by omega) (by unfold maxLen; omega) (by omega) ?_; intro v1 w3 hown1 hg1 hnr1 hlt1)
          refine ⟨⟨v1, _, _, ⟨k + 1, by rw [fmtL_len]; omega, by go_num, ?_, ?_, hb3.grown hg1 (by omega) (fun k hk => by have := own_base HO1.out k hk; omega)⟩, rfl, rfl, rfl⟩, by simp [intOf]; omega⟩
          · rw [strV_take (by rw [fmtL_len]; omega), HS.out]; exact hown1
          · exact grown_cell hg1 HC1.out (fun e => by have := own_base HO1.out _ e.symm; omega)
        · obtain rfl : k = us.length := by omega
          have ho := HO.out
          rw [← fmtL_len, List.take_length] at ho
          have HO2 := Lib.hid ho
          clear ho HO
          go_wp2
          obtain ⟨C, HC0⟩ := class_of (InF wr.heap.size _ [(⟨w.heap.size, 0, none⟩, .string s)] [] [])
          have HC := Lib.hid HC0
          clear HC0
          refine wp_region_flow (C := C) (by kernel_rfl) (by kernel_rfl) (fun L hL => (HC.out _ _).2 (InF.start (by first | (intro _ hs; cases hs; done) | (simp only [List.forall_mem_cons]; go_simp)) (by first | (intro _ hs; cases hs; done) | (simp only [List.forall_mem_cons]; go_simp)) (by first | (intro _ hs; cases hs; done) | (simp only [List.forall_mem_cons]; go_simp)) (by first | (intro _ hs; cases hs; done) | (simp only [List.forall_mem_cons]; go_simp)) L hL)) ?_
          repeat (first | (apply flow_free rfl; (intro L w' hun hrd hC; have hC := (HC.out _ _).1 hC; have hb' := hC.below; (try have hw' : Below w.heap.size w w' := by first | exact Below.trans (by (repeat (first | with_reducible exact Below.refl _ _ | with_reducible assumption | with_reducible refine Below.al ?_ _ | with_reducible refine Below.sc ?_ (by first | exact Nat.le_refl _ | (simp; done) | (simp; omega)) _ | assumption | exact Below.refl _ _ | refine Below.dr ?_ | refine Below.drN ?_ _ | refine Below.step ?_ (by assumption)))) hb' | ((repeat (first | with_reducible exact Below.refl _ _ | with_reducible assumption | with_reducible refine Below.al ?_ _ | with_reducible refine Below.sc ?_ (by first | exact Nat.le_refl _ | (simp; done) | (simp; omega)) _ | assumption | exact Below.refl _ _ | refine Below.dr ?_ | refine Below.drN ?_ _ | refine Below.step ?_ (by assumption))); done)); have hf' := hC.cell; (try simp only [List.forall_mem_cons] at hf'); go_simp; first | exact ⟨(HC.out _ _).2 (hC.skip _ (by rfl)), rfl⟩ | (rw [if_neg]; (exact ⟨(HC.out _ _).2 (hC.skip _ (by rfl)), rfl⟩); omega) | (go_at_call 261; refine (join_own [44] _ (own_below HO2.out hb') (by rw [fmtL_len]; omega) (by omega)).mono ?_; rintro e w1 ⟨rfl, hb1⟩; exact ⟨rfl, (HC.out _ _).2 ((hC.next (by first | (simp; done) | (simp; omega) | omega) hb1).skip _ (by rfl))⟩)); go_simp) | (apply flow_yes; (case hw => go_simp); (intro L w' hun hrd hC; have hC := (HC.out _ _).1 hC; have hb' := hC.below; (try have hw' : Below w.heap.size w w' := by first | exact Below.trans (by (repeat (first | with_reducible exact Below.refl _ _ | with_reducible assumption | with_reducible refine Below.al ?_ _ | with_reducible refine Below.sc ?_ (by first | exact Nat.le_refl _ | (simp; done) | (simp; omega)) _ | assumption | exact Below.refl _ _ | refine Below.dr ?_ | refine Below.drN ?_ _ | refine Below.step ?_ (by assumption)))) hb' | ((repeat (first | with_reducible exact Below.refl _ _ | with_reducible assumption | with_reducible refine Below.al ?_ _ | with_reducible refine Below.sc ?_ (by first | exact Nat.le_refl _ | (simp; done) | (simp; omega)) _ | assumption | exact Below.refl _ _ | refine Below.dr ?_ | refine Below.drN ?_ _ | refine Below.step ?_ (by assumption))); done)); have hf' := hC.cell; (try simp only [List.forall_mem_cons] at hf'); go_simp; first | exact ⟨(HC.out _ _).2 (hC.skip _ (by rfl)), rfl⟩ | (rw [if_neg]; (exact ⟨(HC.out _ _).2 (hC.skip _ (by rfl)), rfl⟩); omega) | (go_at_call 261; refine (join_own [44] _ (own_below HO2.out hb') (by rw [fmtL_len]; omega) (by omega)).mono ?_; rintro e w1 ⟨rfl, hb1⟩; exact ⟨rfl, (HC.out _ _).2 ((hC.next (by first | (simp; done) | (simp; omega) | omega) hb1).skip _ (by rfl))⟩)); go_simp) | (apply flow_no; (case hw => (go_simp; try (intro hh; cases hh))); (intro L w' _ _ hC; exact (HC.out _ _).2 (((HC.out _ _).1 hC).skip _ (by rfl))); go_simp))
          refine flow_nil ?_
          intro L wz hL hz
          have hz := (HC.out _ _).1 hz
          have hbz := hz.below
          have hcz := hz.cell
          try simp only [List.forall_mem_cons] at hcz
          have hdz := hz.done
          try simp only [List.forall_mem_cons] at hdz
          (try have hwz : Below w.heap.size w wz := by first | exact Below.trans (by (repeat (first | with_reducible exact Below.refl _ _ | with_reducible assumption | with_reducible refine Below.al ?_ _ | with_reducible refine Below.sc ?_ (by first | exact Nat.le_refl _ | (simp; done) | (simp; omega)) _ | assumption | exact Below.refl _ _ | refine Below.dr ?_ | refine Below.drN ?_ _ | refine Below.step ?_ (by assumption)))) hbz | ((repeat (first | with_reducible exact Below.refl _ _ | with_reducible assumption | with_reducible refine Below.al ?_ _ | with_reducible refine Below.sc ?_ (by first | exact Nat.le_refl _ | (simp; done) | (simp; omega)) _ | assumption | exact Below.refl _ _ | refine Below.dr ?_ | refine Below.drN ?_ _ | refine Below.step ?_ (by assumption))); done))
          go_wp2
          go_ret
          exact ⟨ret_strs (by rw [HM2.out]; simp), by (repeat (first | with_reducible exact Below.refl _ _ | with_reducible assumption | with_reducible refine Below.al ?_ _ | with_reducible refine Below.sc ?_ (by first | exact Nat.le_refl _ | (simp; done) | (simp; omega)) _ | assumption | exact Below.refl _ _ | refine Below.dr ?_ | refine Below.drN ?_ _ | refine Below.step ?_ (by assumption)))⟩
theorem joinB_snoc (sep : List UInt8) : ∀ (l : List (List UInt8)) (a : List UInt8), l ≠ [] → joinB sep (l ++ [a]) = joinB sep l ++ sep ++ a
  | [b], a, _ => rfl
  | b :: c :: l, a, _ => by
    have := joinB_snoc sep (c :: l) a (by simp)
    rw [List.cons_append] at this
    rw [List.cons_append, List.cons_append, joinB, this, joinB]
    simp only [List.append_assoc]
/-- What a loop that joins has written after k rounds: in front, the first k texts. -/
def accT (hd sep : List UInt8) (l : List (List UInt8)) (k : Nat) : List UInt8 := if k = 0 then [] else hd ++ joinB sep (l.take k)
theorem accT_zero (hd sep : List UInt8) (l : List (List UInt8)) : accT hd sep l 0 = [] := rfl
theorem accT_one (hd sep : List UInt8) (l : List (List UInt8)) (h : 0 < l.length) : accT hd sep l 1 = hd ++ l[0] := by
  rw [accT, if_neg (by omega)]
  cases l with
  | nil => simp at h
  | cons a l => rfl
theorem accT_succ (hd sep : List UInt8) (l : List (List UInt8)) {k : Nat} (hk : k ≠ 0) (h : k < l.length) : accT hd sep l (k + 1) = accT hd sep l k ++ sep ++ l[k] := by
  rw [accT, if_neg (by omega), accT, if_neg hk, List.take_succ_eq_append_getElem h, joinB_snoc]
  · simp only [List.append_assoc]
  · intro e
    have := congrArg List.length e
    rw [List.length_take, List.length_nil] at this
    omega
theorem accT_all (hd sep : List UInt8) (l : List (List UInt8)) (h : 0 < l.length) : accT hd sep l l.length = hd ++ joinB sep l := by
  rw [accT, if_neg (by omega), List.take_length]
theorem joinB_take (sep : List UInt8) : ∀ (l : List (List UInt8)) (k : Nat), (joinB sep (l.take k)).length ≤ (joinB sep l).length
  | [], k => by simp
  | [a], 0 => by simp [joinB]
  | [a], k + 1 => by simp
  | a :: b :: l, 0 => by simp [joinB]
  | a :: b :: l, 1 => by simp [joinB]
  | a :: b :: l, k + 2 => by
    have := joinB_take sep (b :: l) (k + 1)
    rw [List.take_succ_cons] at this
    rw [List.take_succ_cons, List.take_succ_cons, joinB, joinB]
    simp only [List.length_append]
    omega
theorem accT_len (hd sep : List UInt8) (l : List (List UInt8)) (k : Nat) : (accT hd sep l k).length ≤ hd.length + (joinB sep l).length := by
  unfold accT
  split
  · simp
  · have := joinB_take sep l k
    simp only [List.length_append]; omega
set_option maxRecDepth 100000 in
set_option maxHeartbeats 1600000 in
theorem l3Term_any {B : Nat → Prop} : ∀ (m : Nat) (t : Tm) (v0 v1 : Value) (w : World), TmAt B m w t [v0, v1] → t.nodes = true → t.fmt.length ≤ 1000000000000 →
      Calls Tryz.prog 255 #[.agg #[v0, v1]] w fun e w' => e = .returned (.string ⟨t.fmt.toArray⟩) ∧ Below w.heap.size w w' := by
  intro m
  induction m with
  | zero => intro t v0 v1 w h; exact h.elim
  | succ m ih =>
    rintro ⟨s, us⟩ v0 v1 w ⟨va, hcs, hs, hl⟩ hn hz
    simp only [List.cons.injEq, and_true] at hcs
    obtain ⟨rfl, rfl⟩ := hcs
    obtain ⟨p, c, rfl, -⟩ := hl.form
    have hlen := nodes_len hn
    have hq := isEq_list (nodes_noEq hn)
    simp only [Tm.n] at hq
    have HM := Lib.hid (Tm.fmt_mk (us := us) (word_not61 (Tm.nodes_mk hn).1))
    have HN := Lib.hid (Tm.nodes_mk hn).2
    have hfm : us ≠ [] → (Tm.mk s us).fmt = s.data.toList ++ [40] ++ joinB [44] (Tm.fmtL us) ++ [41] := fun h => by
      rw [HM.out, if_neg (by simpa using h)]
    have HF := Lib.hid hfm
    have hjl : s.size + 1 + (joinB [44] (Tm.fmtL us)).length + 1 ≤ 1000000000002 := by
      by_cases h : us = []
      · subst h; rw [HM.out] at hz; simp [Tm.fmtL, joinB] at hz ⊢; omega
      · rw [hfm h] at hz; simp at hz ⊢; omega
    have IH := Lib.hid ih
    have HL := Lib.hid hl
    clear ih hl hn hz hfm
    go_enter Tryz.func255, Tryz.ntmps255
    go_wp2
    obtain ⟨W, hW⟩ : ∃ W : World, W = w.alloc (.cells #[.string s, .slice p us.length c] 41) := ⟨_, rfl⟩
    have hwb : W.cell? ⟨w.heap.size, 1, none⟩ = some (.slice p us.length c) := by rw [hW]; go_simp
    have hbW : Below w.heap.size w W := by rw [hW]; (repeat (first | with_reducible exact Below.refl _ _ | with_reducible assumption | with_reducible refine Below.al ?_ _ | with_reducible refine Below.sc ?_ (by first | exact Nat.le_refl _ | (simp; done) | (simp; omega)) _ | assumption | exact Below.refl _ _ | refine Below.dr ?_ | refine Below.drN ?_ _ | refine Below.step ?_ (by assumption)))
    rw [← hW]
    clear hW
    go_loopw [3, 4] (fun x i wr => ∃ k : Nat, k ≤ us.length ∧ i = .int .i64 k ∧ x = .string ⟨(s.data.toList ++ accT [40] [44] (Tm.fmtL us) k).toArray⟩ ∧ Below W.heap.size W wr) (fun _ i _ => us.length - (intOf i).toNat)
    case atStart => exact ⟨0, Nat.zero_le _, rfl, by rw [accT_zero, List.append_nil], Below.refl _ _⟩
    case round =>
      obtain ⟨k, hk, rfl, rfl, hbr⟩ := hrel
      have hb := Below.step hbW hbr
      have hwr := (hbr.cell (World.block_lt_of_cell? W _ hwb)).trans hwb
      have hal := accT_len [40] [44] (Tm.fmtL us) k
      simp only [List.length_cons, List.length_nil] at hal
      by_cases hlt : k < us.length
      · obtain ⟨b, o, rfl, hB, x0, x1, hx0, hx1, hx⟩ := (HL.out.mono (SameOn.below hb) (fun _ h => h) (fun x cs _ hx => TmAt.below hb hx)).at2 hlt
        have hS := fmtL_at hlt
        have hF := fmt_arg hlt [44]
        have hN := nodess_arg HN.out hlt
        obtain ⟨a, ha⟩ : ∃ a, us[k] = a := ⟨_, rfl⟩
        rw [ha] at hx
        rw [ha] at hS
        rw [ha] at hF
        rw [ha] at hN
        have HX := Lib.hid hx
        have HS := Lib.hid hS
        have HF := Lib.hid hF
        have HN := Lib.hid hN
        clear hx ha hS hF hN
        have zb := bsz (World.block_lt_of_cell? _ _ hx0)
        obtain ⟨pa, ca, rfl, rfl, -, -⟩ := HX.out.form
        have hfl : a.fmt.length ≤ 1000000000000 := by have := HF.out; omega
        by_cases hk0 : k = 0
        · have hk1 : ((k : Int) == 0) = true := by simp; omega
          have HA0 := Lib.hid (show accT [40] [44] (Tm.fmtL us) k = [] by rw [hk0]; rfl)
          have HA := Lib.hid (show accT [40] [44] (Tm.fmtL us) (k + 1) = [40] ++ (Tm.fmtL us)[k]'(by rw [fmtL_len]; exact hlt) by subst hk0; exact accT_one [40] [44] (Tm.fmtL us) (by rw [fmtL_len]; exact hlt))
          generalize accT [40] [44] (Tm.fmtL us) k = x at *
          clear hk0
          go_wp2_with fail
          refine (IH.out a _ _ _ (HX.out.below (by (repeat (first | with_reducible exact Below.refl _ _ | with_reducible assumption | with_reducible refine Below.al ?_ _ | with_reducible refine Below.sc ?_ (by first | exact Nat.le_refl _ | (simp; done) | (simp; omega)) _ | assumption | exact Below.refl _ _ | refine Below.dr ?_ | refine Below.drN ?_ _ | refine Below.step ?_ (by assumption))))) HN.out hfl).mono ?_
          rintro e w1 ⟨rfl, hb1⟩
          have ⟨cw1, fw1⟩ := bcell hb1
          have qw1 := hb1.size
          (try simp at qw1)
          (try have zw1w := bsz (show w.heap.size < w1.heap.size by omega))
          go_wp2
          refine ⟨⟨k + 1, by omega, by go_num, ?_, Below.step hbr hb1⟩, by simp [intOf]; omega⟩
          rw [HA.out, HS.out, HA0.out]
          exact congrArg Value.string (by apply ByteArray.ext; simp)
        · have hk1 : ((k : Int) == 0) = false := by simp; omega
          have HA := Lib.hid (accT_succ [40] [44] (Tm.fmtL us) hk0 (by rw [fmtL_len]; exact hlt))
          generalize accT [40] [44] (Tm.fmtL us) k = x at *
          go_wp2_with fail
          refine (IH.out a _ _ _ (HX.out.below (by (repeat (first | with_reducible exact Below.refl _ _ | with_reducible assumption | with_reducible refine Below.al ?_ _ | with_reducible refine Below.sc ?_ (by first | exact Nat.le_refl _ | (simp; done) | (simp; omega)) _ | assumption | exact Below.refl _ _ | refine Below.dr ?_ | refine Below.drN ?_ _ | refine Below.step ?_ (by assumption))))) HN.out hfl).mono ?_
          rintro e w1 ⟨rfl, hb1⟩
          have ⟨cw1, fw1⟩ := bcell hb1
          have qw1 := hb1.size
          (try simp at qw1)
          (try have zw1w := bsz (show w.heap.size < w1.heap.size by omega))
          go_wp2
          refine ⟨⟨k + 1, by omega, by go_num, ?_, Below.step hbr hb1⟩, by simp [intOf]; omega⟩
          rw [HA.out, HS.out]
          exact congrArg Value.string (by apply ByteArray.ext; simp)
      · obtain rfl : k = us.length := by omega
        by_cases h0 : us = []
        · subst h0
          go_wp2
          go_ret
          exact ⟨ret_str (by rw [HM.out]; simp [accT]), hb⟩
        · have hl0 : 0 < (us.length : Int) := by have := List.length_pos_iff.2 h0; omega
          have HA := Lib.hid (show accT [40] [44] (Tm.fmtL us) us.length = [40] ++ joinB [44] (Tm.fmtL us) by
            have := accT_all [40] [44] (Tm.fmtL us) (by rw [fmtL_len]; omega)
            rw [fmtL_len] at this; exact this)
          have HF0 := Lib.hid (HF.out h0)
          generalize accT [40] [44] (Tm.fmtL us) us.length = x at *
          go_wp2
          go_ret
          exact ⟨ret_strs (by rw [HF0.out, HA.out]; simp), hb⟩
end Go.Proofs.YtkgfanajgdelcaaGreatDoor
namespace Go.Proofs.YtkgfanajgdelcaaGreatDoor
open Go.RowKit
theorem TmAt.pair {B : Nat → Prop} {m : Nat} {w : World} {a b : Tm} {p : Option Addr} {c : Nat} (h : ListAt B w 2 (TmAt B m w) (.slice p 2 c) [a, b]) :
    ∃ g o pa ca pb cb, p = some ⟨g, o, none⟩ ∧ w.cell? ⟨g, o, none⟩ = some (.string a.n) ∧ w.cell? ⟨g, o + 1, none⟩ = some (.slice pa a.us.length ca) ∧ w.cell? ⟨g, o + 2, none⟩ = some (.string b.n) ∧ w.cell? ⟨g, o + 3, none⟩ = some (.slice pb b.us.length cb) ∧
      TmAt B m w a [.string a.n, .slice pa a.us.length ca] ∧ TmAt B m w b [.string b.n, .slice pb b.us.length cb] := by
  obtain ⟨g, o, rfl, _, x0, x1, hx0, hx1, hx⟩ := h.at2 (i := 0) (by simp)
  obtain ⟨g', o', he, _, y0, y1, hy0, hy1, hy⟩ := h.at2 (i := 1) (by simp)
  simp only [Option.some.injEq, Addr.mk.injEq, and_true] at he
  obtain ⟨rfl, rfl⟩ := he
  obtain ⟨pa, ca, rfl, rfl, -, -⟩ := hx.form
  obtain ⟨pb, cb, rfl, rfl, -, -⟩ := hy.form
  exact ⟨g, o, pa, ca, pb, cb, rfl, by simpa using hx0, by simpa using hx1, by simpa using hy0, by simpa using hy1, hx, hy⟩
end Go.Proofs.YtkgfanajgdelcaaGreatDoor
namespace Go.Proofs.YtkgfanajgdelcaaGreatDoor
open Go.RowKit
mutual
theorem Tm.sz_wt : ∀ t : Tm, t.sz ≤ t.wt + 1
  | .mk n us => by have := Tm.szs_wt us; rw [Tm.sz, Tm.wt]; omega
theorem Tm.szs_wt : ∀ us : List Tm, Tm.szs us ≤ us.length + Tm.wts us
  | [] => by simp [Tm.szs]
  | a :: us => by have := Tm.sz_wt a; have := Tm.szs_wt us; rw [Tm.szs, Tm.wts, List.length_cons]; omega
end
mutual
theorem Fm.sz_wt : ∀ t : Fm, t.sz ≤ t.wt + 1
  | .mk op a v us => by have := Fm.szs_wt us; rw [Fm.sz, Fm.wt]; omega
theorem Fm.szs_wt : ∀ us : List Fm, Fm.szs us ≤ us.length + Fm.wts us
  | [] => by simp [Fm.szs]
  | a :: us => by have := Fm.sz_wt a; have := Fm.szs_wt us; rw [Fm.szs, Fm.wts, List.length_cons]; omega
end
mutual
theorem Fm.asz_wt : ∀ t : Fm, t.asz ≤ t.wt + 1
  | .mk op a v us => by have := Fm.aszs_wt us; have := a.sz_wt; rw [Fm.asz, Fm.wt]; omega
theorem Fm.aszs_wt : ∀ us : List Fm, Fm.aszs us ≤ us.length + Fm.wts us
  | [] => by simp [Fm.aszs]
  | a :: us => by have := Fm.asz_wt a; have := Fm.aszs_wt us; rw [Fm.aszs, Fm.wts, List.length_cons]; omega
end
end Go.Proofs.YtkgfanajgdelcaaGreatDoor
namespace Go.Proofs.YtkgfanajgdelcaaGreatDoor
open Go.RowKit
theorem Tm.wts_snoc (us : List Tm) (a : Tm) : Tm.wts (us ++ [a]) = Tm.wts us + a.wt := by
  induction us with
  | nil => simp [Tm.wts]
  | cons b us ih => rw [List.cons_append, Tm.wts, ih, Tm.wts]; omega
theorem rWordL_le (L : List UInt8) (k : Nat) (hk : k ≤ L.length) : k + (rWordL L k).length ≤ L.length := by
  have : (rWordL L k).length ≤ (L.drop k).length := (List.takeWhile_sublist _).length_le
  rw [List.length_drop] at this; omega
theorem size_arr (l : List UInt8) : (⟨l.toArray⟩ : ByteArray).size = l.length := by simp [ByteArray.size]
theorem get_lt {L : List UInt8} {k : Nat} {c : UInt8} (h : L[k]? = some c) : k < L.length := (List.getElem?_eq_some_iff.1 h).1
mutual
theorem rTerm_wt (L : List UInt8) : ∀ (f k : Nat) (t : Tm) (j : Nat), k ≤ L.length → rTerm L f k = some (t, j) → t.wt + k ≤ j ∧ j ≤ L.length ∧ k < j
  | 0, _, _, _, _, h => by rw [rTerm] at h; cases h
  | f + 1, k, t, j, hk, h => by
    have h1 := rWordL_le L k hk
    rw [rTerm] at h
    split at h
    · cases h
    · rename_i h0
      have h2 : 0 < (rWordL L k).length := List.length_pos_iff.2 (by simpa using h0)
      split at h
      · rename_i h3
        have := rArgs_wt L f (rWordL L k) [] _ t j (get_lt h3) h
        simp only [List.length_nil, Tm.wts] at this
        omega
      · injection h with h
        injection h with ht hj
        subst ht hj
        simp only [Tm.wt, Tm.wts, List.length_nil, size_arr]; omega
theorem rArgs_wt (L : List UInt8) : ∀ (f : Nat) (n : List UInt8) (acc : List Tm) (e : Nat) (t : Tm) (j : Nat), e < L.length → rArgs L n f acc e = some (t, j) → t.wt + e ≤ j + n.length + acc.length + Tm.wts acc ∧ j ≤ L.length ∧ e < j
  | 0, _, _, _, _, _, _, h => by rw [rArgs] at h; cases h
  | f + 1, n, acc, e, t, j, he, h => by
    rw [rArgs] at h
    split at h
    · cases h
    · rename_i a i ha
      have h1 := rTerm_wt L f (e + 1) a i he ha
      split at h
      · rename_i h2
        have := rArgs_wt L f n (acc ++ [a]) i t j (get_lt h2) h
        rw [Tm.wts_snoc, List.length_append, List.length_singleton] at this
        omega
      · split at h
        · rename_i h2
          have := get_lt h2
          injection h with h
          injection h with ht hj
          subst ht hj
          simp only [Tm.wt, Tm.wts_snoc, List.length_append, List.length_singleton, size_arr]; omega
        · cases h
end
end Go.Proofs.YtkgfanajgdelcaaGreatDoor
namespace Go.Proofs.YtkgfanajgdelcaaGreatDoor
open Go.RowKit
theorem l3Word_any (c : UInt8) (w : World) : Calls Tryz.prog 272 #[.int .u8 (c.toNat : Int)] w fun e w' => e = .returned (.bool (wordC c)) ∧ w = w' := by
  have h95 : ((c.toNat : Int) == 95) = (c == 95) := by
    rw [Bool.eq_iff_iff, beq_iff_eq, beq_iff_eq]
    exact ⟨fun e => UInt8.toNat_inj.1 (show c.toNat = 95 by omega), fun e => by subst e; rfl⟩
  have e95 : (c = 95) = (c.toNat = 95) := propext ⟨fun e => by rw [e]; rfl, fun e => UInt8.toNat_inj.1 e⟩
  go_enter Tryz.func272, Tryz.ntmps272
  go_wp2_with (first | (go_at_call 137; refine (l2Small_any _ _).mono ?_; rintro e w' ⟨rfl, rfl⟩))
  all_goals go_ret
  all_goals refine ⟨ret_bool ?_, rfl⟩
  all_goals rw [Bool.eq_iff_iff]
  all_goals (simp_all only [wordC, loC, upC, diC, smC, decide_eq_true_eq, Bool.and_eq_true, Bool.or_eq_true, true_iff, not_and, not_or, beq_iff_eq])
  all_goals omega
theorem isPrefixOf_take (t l : List UInt8) : t.isPrefixOf l = decide (l.take t.length = t) := by
  rw [Bool.eq_iff_iff, List.isPrefixOf_iff_prefix, decide_eq_true_eq, List.prefix_iff_eq_take]
  exact ⟨fun h => h.symm, fun h => h.symm⟩
theorem starts_list (s t : ByteArray) (k : Nat) (hk : k ≤ s.size) : t.data.toList.isPrefixOf (s.data.toList.drop k) = (decide (k + t.size ≤ s.size) && decide (s.extract k (k + t.size) = t)) := by
  rw [isPrefixOf_take, Bool.eq_iff_iff, Bool.and_eq_true, decide_eq_true_eq, decide_eq_true_eq, decide_eq_true_eq]
  constructor
  · intro h
    have hl := congrArg List.length h
    rw [List.length_take, List.length_drop, ← size_list, ← size_list] at hl
    refine ⟨by omega, ?_⟩
    apply ByteArray.ext; apply Array.ext'
    rw [extract_list, ← h, List.drop_take, size_list t]
    congr 1; omega
  · rintro ⟨h1, h2⟩
    have h3 := congrArg (fun b : ByteArray => b.data.toList) h2
    simp only [extract_list, List.drop_take] at h3
    rw [← size_list t, ← h3, show k + t.size - k = t.size by omega]
theorem starts_eq (s t : ByteArray) (k m : Nat) : (List.drop k (List.take m s.data.toList) == t.data.toList) = decide (s.extract k m = t) := by
  rw [Bool.eq_iff_iff, beq_iff_eq, decide_eq_true_eq, ← extract_list]
  exact ⟨fun h => ByteArray.ext (Array.ext' h), fun h => by rw [h]⟩
set_option maxRecDepth 100000 in
set_option maxHeartbeats 1600000 in
theorem l8Starts_any (s t : ByteArray) (k : Nat) (w : World) (hk : k ≤ s.size) (hs : s.size ≤ 1000000000000) (ht : t.size ≤ 1000000) :
    Calls Tryz.prog 251 #[.string s, .int .i64 (k : Nat), .string t] w fun e w' => e = .returned (.bool (t.data.toList.isPrefixOf (s.data.toList.drop k))) ∧ w = w' := by
  have HS := Lib.hid (starts_list s t k hk)
  go_enter Tryz.func251, Tryz.ntmps251
  by_cases h1 : ((k : Int) + t.size ≤ s.size)
  · have HD := Lib.hid (show decide (k + t.size ≤ s.size) = true by simp; omega)
    go_wp2
    go_ret
    refine ⟨ret_bool ?_, rfl⟩
    rw [HS.out, HD.out, Bool.true_and]
    rw [ByteArray.toList_eq, ByteArray.toList_eq]
    exact starts_eq s t k _
  · have HD := Lib.hid (show decide (k + t.size ≤ s.size) = false by simp; omega)
    go_wp2
    go_ret
    exact ⟨ret_bool (by rw [HS.out, HD.out, Bool.false_and]), rfl⟩
end Go.Proofs.YtkgfanajgdelcaaGreatDoor
namespace Go.Proofs.YtkgfanajgdelcaaGreatDoor
open Go.RowKit
section
variable {P : Program} {ops : Array Oper} {md : Region.Mode} {vs : List (Option Value)} {D : (Nat → Value) → Array Bool → World → Prop}
def upd (u : Nat → Value) (k : Nat) (x : Value) : Nat → Value := fun i => if i = k then x else u i
theorem upd_same (u : Nat → Value) (k : Nat) (x : Value) : upd u k x k = x := if_pos rfl
theorem upd_other (u : Nat → Value) {k i : Nat} (x : Value) (h : i ≠ k) : upd u k x i = u i := if_neg h
/-- Is operation i one whose value is known beforehand? -/
def stB (vs : List (Option Value)) (i : Nat) : Bool := (vs.getD i none).isSome
def baseV (vs : List (Option Value)) (i : Nat) : Value := (vs.getD i none).getD undef
theorem baseV0 (v : Value) (l : List (Option Value)) : baseV (some v :: l) 0 = v := rfl
theorem baseV1 (x : Option Value) (v : Value) (l : List (Option Value)) : baseV (x :: some v :: l) 1 = v := rfl
theorem baseV2 (x y : Option Value) (v : Value) (l : List (Option Value)) : baseV (x :: y :: some v :: l) 2 = v := rfl
theorem baseV3 (x y z : Option Value) (v : Value) (l : List (Option Value)) : baseV (x :: y :: z :: some v :: l) 3 = v := rfl
theorem baseV4 (x y z a : Option Value) (v : Value) (l : List (Option Value)) : baseV (x :: y :: z :: a :: some v :: l) 4 = v := rfl
theorem baseV5 (x y z a b : Option Value) (v : Value) (l : List (Option Value)) : baseV (x :: y :: z :: a :: b :: some v :: l) 5 = v := rfl
theorem baseV6 (x y z a b c : Option Value) (v : Value) (l : List (Option Value)) : baseV (x :: y :: z :: a :: b :: c :: some v :: l) 6 = v := rfl
theorem baseV7 (x y z a b c d : Option Value) (v : Value) (l : List (Option Value)) : baseV (x :: y :: z :: a :: b :: c :: d :: some v :: l) 7 = v := rfl
theorem baseV8 (x y z a b c d e : Option Value) (v : Value) (l : List (Option Value)) : baseV (x :: y :: z :: a :: b :: c :: d :: e :: some v :: l) 8 = v := rfl
attribute [go_sem] baseV0 baseV1 baseV2 baseV3 baseV4 baseV5 baseV6 baseV7 baseV8
/-- What an operation of the chain comes to: some value x. -/
def eachUpon (P : Program) (E : Value → World → Prop) : Result Next → Prop
  | .ok (.value x) w' => E x w'
  | .ok .skip w' => E undef w'
  | .ok (.enter f args) w' => Calls P f args w' (fun e w'' => ∃ x, e = .returned x ∧ E x w'')
  | _ => False
attribute [go_sem] eachUpon
def GS (P : Program) (md : Region.Mode) (ops : Array Oper) (vs : List (Option Value)) (D : (Nat → Value) → Array Bool → World → Prop) (o : Oper) (i : Nat) (a : Act) : Prop := ∀ u, Goes P md ops (D u) o i (baseV vs i) a
def GU (P : Program) (md : Region.Mode) (ops : Array Oper) (D : (Nat → Value) → Array Bool → World → Prop) (o : Oper) (i : Nat) (a : Act) (u : Nat → Value) : Prop :=
  Region.wanted o (yielded ops a.tmps) = true ∧ ∀ L w, L.getD i true = false → Behind md o L → D u L w → eachUpon P (fun x w' => D (upd u i x) (L.setIfInBounds i true) w') ((execOp a.eval o).run P w)
theorem GS.eval {o : Oper} {i : Nat} {a a' : Act} (h : GS P md ops vs D o i a) (he : execOp a'.eval o = execOp a.eval o) (hw : Region.wanted o (yielded ops a'.tmps) = Region.wanted o (yielded ops a.tmps)) : GS P md ops vs D o i a' :=
  fun u => Goes.byEval _ _ _ _ _ (h u) he hw
theorem GU.eval {o : Oper} {i : Nat} {a a' : Act} {u : Nat → Value} (h : GU P md ops D o i a u) (he : execOp a'.eval o = execOp a.eval o) (hw : Region.wanted o (yielded ops a'.tmps) = Region.wanted o (yielded ops a.tmps)) : GU P md ops D o i a' u := by
  unfold GU at *
  rw [he, hw]; exact h
def opU (P : Program) (md : Region.Mode) (ops : Array Oper) (vs : List (Option Value)) (D : (Nat → Value) → Array Bool → World → Prop) (i : Nat) (K : Act → (Nat → Value) → Prop) (a : Act) (u : Nat → Value) : Prop :=
  ∃ o, ops[i]? = some o ∧ ((stB vs i = true ∧ GS P md ops vs D o i a ∧ K (a.put o.dst (baseV vs i)) u) ∨ (stB vs i = false ∧ GU P md ops D o i a u ∧ ∀ x, K (a.put o.dst x) (upd u i x)))
def anyU (P : Program) (md : Region.Mode) (ops : Array Oper) (vs : List (Option Value)) (D : (Nat → Value) → Array Bool → World → Prop) (Q : Array Bool → Act → (Nat → Value) → Prop) : Nat → Array Bool → Act → (Nat → Value) → Prop
  | 0, L, a, u => Region.ready md ops L = [] ∧ Q L a u
  | fuel + 1, L, a, u => (Region.ready md ops L = [] → Q L a u) ∧ ∀ i ∈ Region.ready md ops L, opU P md ops vs D i (anyU P md ops vs D Q fuel (L.setIfInBounds i true)) a u
theorem wpAny_of_anyU {Q : Array Bool → Act → (Nat → Value) → Prop} {Q' : Exit → Act → World → Prop} (hQ : ∀ L a u w, D u L w → Q L a u → Q' .normal a w) : ∀ (fuel : Nat) (L : Array Bool) (a : Act) (u : Nat → Value) (w : World), D u L w →
    anyU P md ops vs D Q fuel L a u → wpAny P md ops Q' fuel L a w
  | 0, _, _, _, _, hw, h => ⟨h.1, hQ _ _ _ _ hw h.2⟩
  | fuel + 1, L, a, u, w, hw, h => by
    refine ⟨fun h0 => hQ _ _ _ _ hw (h.1 h0), fun i hi => ?_⟩
    obtain ⟨o, ho, ⟨hs, hg, hK⟩ | ⟨hs, hg, hK⟩⟩ := h.2 i hi
    · exact wpOp_of_flowOp (C := D u) (K := fun a' => anyU P md ops vs D Q fuel (L.setIfInBounds i true) a' u) hi hw (fun a' w' hw' hK => wpAny_of_anyU hQ fuel _ a' u w' hw' hK) ⟨o, _, ho, hg u, hK⟩
    · obtain ⟨hun, oj, hoj, hall⟩ := mem_ready.1 hi
      obtain rfl : oj = o := Option.some.inj (hoj.symm.trans ho)
      have hbe : Behind md oj L := fun e he hb => by simpa using hall e he hb
      have h3 := hg.2 L w hun hbe hw
      unfold wpOp
      simp only [ho]
      rw [if_pos hg.1]
      refine .inl ?_
      unfold Oper.wp
      generalize (execOp a.eval oj).run P w = r at *
      cases r with
      | ok n w' =>
        cases n <;> simp only [eachUpon] at h3 <;> simp only [Oper.upon]
        case value x => exact wpAny_of_anyU hQ fuel _ _ _ _ h3 (hK x)
        case skip => exact wpAny_of_anyU hQ fuel _ _ _ _ h3 (hK undef)
        case enter f args => exact h3.mono fun e w'' ⟨x, he, hw''⟩ => by subst he; exact wpAny_of_anyU hQ fuel _ _ _ _ hw'' (hK x)
      | halt x w' => simp only [eachUpon] at h3
/-- Whatever is behind has all behind it that must be. -/
def Closed (md : Region.Mode) (ops : Array Oper) (L : Array Bool) : Prop := ∀ c oc, ops[c]? = some oc → L.getD c false = true → Behind md oc L
theorem getD_tf {L : Array Bool} {i : Nat} (h : L.getD i true = false) : L.getD i false = false := by
  rcases Nat.lt_or_ge i L.size with h' | h'
  · simp [h'] at h ⊢; exact h
  · simp [Array.getElem?_eq_none h']
theorem set_mono {L : Array Bool} {i j : Nat} (h : L.getD i false = true) : (L.setIfInBounds j true).getD i false = true := by
  by_cases e : j = i
  · subst e
    have hlt : j < L.size := by
      rcases Nat.lt_or_ge j L.size with h' | h'
      · exact h'
      · simp [Array.getElem?_eq_none h'] at h
    simp [hlt]
  · rw [getD_set_ne false e]; exact h
theorem Closed.set {L : Array Bool} {j : Nat} (h : Closed md ops L) (hj : j ∈ Region.ready md ops L) : Closed md ops (L.setIfInBounds j true) := by
  intro c oc hc hl e he hb
  obtain ⟨_, oj, hoj, hall⟩ := mem_ready.1 hj
  by_cases e1 : j = c
  · subst e1
    obtain rfl : oj = oc := Option.some.inj (hoj.symm.trans hc)
    exact set_mono (by simpa using hall e he hb)
  · rw [getD_set_ne false e1] at hl
    exact set_mono (h c oc hc hl e he hb)
/-- Each operation of the chain waits for the chain's earlier ones. -/
def chainB (l : List Oper) (vs : List (Option Value)) : Bool :=
  (List.range l.length).all fun j => stB vs j || (List.range j).all fun i => stB vs i || ((l[j]?.map fun o => o.after.any fun e => Region.binds .any e && decide (i ≤ e.on) && decide (e.on < j) && !stB vs e.on).getD false)
def Chained (md : Region.Mode) (ops : Array Oper) (vs : List (Option Value)) : Prop :=
  ∀ j oj i, ops[j]? = some oj → i < j → stB vs j = false → stB vs i = false → ∃ e ∈ oj.after, Region.binds md e = true ∧ i ≤ e.on ∧ e.on < j ∧ stB vs e.on = false
theorem Chained.of {l : List Oper} (h : chainB l vs = true) : Chained .any l.toArray vs := by
  intro j oj i hj hij hsj hsi
  have hjl : j < l.length := by
    have := (Array.getElem?_eq_some_iff.1 hj).1
    simpa using this
  have h1 := List.all_eq_true.1 h j (List.mem_range.2 hjl)
  rw [hsj, Bool.false_or] at h1
  have h2 := List.all_eq_true.1 h1 i (List.mem_range.2 hij)
  rw [hsi, Bool.false_or] at h2
  have hl : l[j]? = some oj := by simpa using hj
  rw [hl] at h2
  obtain ⟨e, he, hb⟩ := Array.any_eq_true'.1 (show (oj.after.any _) = true from h2)
  simp only [Bool.and_eq_true, decide_eq_true_eq, Bool.not_eq_true'] at hb
  exact ⟨e, he, hb.1.1.1, hb.1.1.2, hb.1.2, hb.2⟩
theorem chain_listed {L : Array Bool} (hc : Chained md ops vs) (hL : Closed md ops L) {i : Nat} (hi : stB vs i = false) (hsz : L.size = ops.size) : ∀ c, i ≤ c → stB vs c = false → L.getD c false = true → L.getD i false = true := by
  intro c
  induction c using Nat.strongRecOn with
  | _ c ih =>
    intro hic hs hl
    by_cases e : i = c
    · subst e; exact hl
    · have hlt : c < L.size := by
        rcases Nat.lt_or_ge c L.size with h' | h'
        · exact h'
        · simp [Array.getElem?_eq_none h'] at hl
      have hoc : ops[c]? = some (ops[c]'(by omega)) := Array.getElem?_eq_getElem (by omega)
      obtain ⟨e, he, hb, h1, h2, h3⟩ := hc c _ i hoc (by omega) hs hi
      exact ih e.on h2 h1 h3 (hL c _ hoc hl e he hb)
theorem no_other {L : Array Bool} (hc : Chained md ops vs) (hL : Closed md ops L) (hsz : L.size = ops.size) {i j : Nat} (hi : stB vs i = false) (hun : L.getD i true = false) (hall : ∀ k, k < i → L.getD k false = true) (hj : j ∈ Region.ready md ops L) (hne : j ≠ i) : stB vs j = true := by
  rcases hs : stB vs j with _ | _
  · exfalso
    obtain ⟨hju, oj, hoj, hb⟩ := mem_ready.1 hj
    have hij : i < j := by
      rcases Nat.lt_or_ge j i with h' | h'
      · have := hall j h'
        rw [getD_tf hju] at this; cases this
      · omega
    obtain ⟨e, he, hbe, h1, h2, h3⟩ := hc j oj i hoj hij hs hi
    have := chain_listed hc hL hi hsz e.on h1 h3 (by simpa using hb e he hbe)
    rw [getD_tf hun] at this; cases this
  · rfl
theorem anyU_firstS {Q : Array Bool → Act → (Nat → Value) → Prop} {i : Nat} {oi : Oper} (hi : ops[i]? = some oi) (hst : stB vs i = true) (hsel : ∀ (j : Nat) (o : Oper) cs b, ops[j]? = some o → o.op ≠ .select cs b) :
    ∀ (fuel : Nat) (L : Array Bool) (a : Act) (u : Nat → Value),
      (∀ j oj, ops[j]? = some oj → j ≠ i → L.getD j true = false → (∀ e ∈ oj.after, Region.binds md e = true → e.on ≠ i) → oi.apart ops oj = true) →
      i ∈ Region.ready md ops L → GS P md ops vs D oi i a →
      anyU P md ops vs D Q fuel (L.setIfInBounds i true) (a.put oi.dst (baseV vs i)) u → anyU P md ops vs D Q (fuel + 1) L a u := by
  intro fuel
  induction fuel with
  | zero =>
    intro L a u _ hr hy H
    refine ⟨fun h => (by rw [h] at hr; cases hr), fun j hj => ?_⟩
    by_cases hji : j = i
    · subst hji; exact ⟨oi, hi, .inl ⟨hst, hy, H⟩⟩
    · have := ready_mono hj hji
      rw [H.1] at this
      cases this
  | succ fuel ih =>
    intro L a u hfree hr hy H
    refine ⟨fun h => (by rw [h] at hr; cases hr), fun j hj => ?_⟩
    by_cases hji : j = i
    · subst hji; exact ⟨oi, hi, .inl ⟨hst, hy, H⟩⟩
    · obtain ⟨hjun, oj, hoj, hall⟩ := mem_ready.1 hj
      have hnot : ∀ e ∈ oj.after, Region.binds md e = true → e.on ≠ i := fun e he hb heq => by
        have h1 := hall e he hb
        have h0 := (mem_ready.1 hr).1
        rw [heq] at h1
        rw [getD_tf h0] at h1; cases h1
      obtain ⟨p1, p2, p3⟩ := Oper.apart_spec (hfree j oj hoj hji hjun hnot)
      have hfree' : ∀ k ok, ops[k]? = some ok → k ≠ i → (L.setIfInBounds j true).getD k true = false →
          (∀ e ∈ ok.after, Region.binds md e = true → e.on ≠ i) → oi.apart ops ok = true := fun k ok hk hki hun hno => by
        refine hfree k ok hk hki ?_ hno
        by_cases hjk : j = k
        · subst hjk; exact hjun
        · rw [getD_set_ne true hjk] at hun; exact hun
      obtain ⟨o, ho, hcase⟩ := H.2 j (ready_mono hj hji)
      obtain rfl : oj = o := Option.some.inj (hoj.symm.trans ho)
      have hej := execOp_put oj (fun cs b => hsel j oj cs b hoj) a oi.dst (baseV vs i) p1
      have hwj := wanted_put (ops := ops) oj a oi.dst (baseV vs i) p1
      rcases hcase with ⟨hs, hg, hK⟩ | ⟨hs, hg, hK⟩
      · refine ⟨oj, hoj, .inl ⟨hs, hg.eval hej.symm hwj.symm, ih (L.setIfInBounds j true) _ u hfree' (ready_mono hr (Ne.symm hji)) (hy.eval (execOp_put oi (fun cs b => hsel i oi cs b hi) a oj.dst _ p3) (wanted_put oi a oj.dst _ p3)) ?_⟩⟩
        rw [Array.setIfInBounds_comm _ _ hji, ← Act.put_comm a _ _ p2]; exact hK
      · refine ⟨oj, hoj, .inr ⟨hs, hg.eval hej.symm hwj.symm, fun x => ih (L.setIfInBounds j true) _ _ hfree' (ready_mono hr (Ne.symm hji)) (hy.eval (execOp_put oi (fun cs b => hsel i oi cs b hi) a oj.dst x p3) (wanted_put oi a oj.dst x p3)) ?_⟩⟩
        rw [Array.setIfInBounds_comm _ _ hji, ← Act.put_comm a _ _ p2]; exact hK x
theorem anyU_firstU {Q : Array Bool → Act → (Nat → Value) → Prop} {i : Nat} {oi : Oper} (hi : ops[i]? = some oi) (hst : stB vs i = false) (hc : Chained md ops vs) (hsel : ∀ (j : Nat) (o : Oper) cs b, ops[j]? = some o → o.op ≠ .select cs b) :
    ∀ (fuel : Nat) (L : Array Bool) (a : Act) (u : Nat → Value), Closed md ops L → L.size = ops.size → (∀ k, k < i → L.getD k false = true) →
      (∀ j oj, ops[j]? = some oj → j ≠ i → L.getD j true = false → (∀ e ∈ oj.after, Region.binds md e = true → e.on ≠ i) → oi.apart ops oj = true) →
      i ∈ Region.ready md ops L → GU P md ops D oi i a u →
      (∀ x, anyU P md ops vs D Q fuel (L.setIfInBounds i true) (a.put oi.dst x) (upd u i x)) → anyU P md ops vs D Q (fuel + 1) L a u := by
  intro fuel
  induction fuel with
  | zero =>
    intro L a u _ _ _ _ hr hy H
    refine ⟨fun h => (by rw [h] at hr; cases hr), fun j hj => ?_⟩
    by_cases hji : j = i
    · subst hji; exact ⟨oi, hi, .inr ⟨hst, hy, H⟩⟩
    · have := ready_mono hj hji
      rw [(H undef).1] at this
      cases this
  | succ fuel ih =>
    intro L a u hcl hsz hlow hfree hr hy H
    refine ⟨fun h => (by rw [h] at hr; cases hr), fun j hj => ?_⟩
    by_cases hji : j = i
    · subst hji; exact ⟨oi, hi, .inr ⟨hst, hy, H⟩⟩
    · obtain ⟨hjun, oj, hoj, hall⟩ := mem_ready.1 hj
      have hsj := no_other hc hcl hsz hst (mem_ready.1 hr).1 hlow hj hji
      have hnot : ∀ e ∈ oj.after, Region.binds md e = true → e.on ≠ i := fun e he hb heq => by
        have h1 := hall e he hb
        have h0 := (mem_ready.1 hr).1
        rw [heq] at h1
        rw [getD_tf h0] at h1; cases h1
      obtain ⟨p1, p2, p3⟩ := Oper.apart_spec (hfree j oj hoj hji hjun hnot)
      have hfree' : ∀ k ok, ops[k]? = some ok → k ≠ i → (L.setIfInBounds j true).getD k true = false →
          (∀ e ∈ ok.after, Region.binds md e = true → e.on ≠ i) → oi.apart ops ok = true := fun k ok hk hki hun hno => by
        refine hfree k ok hk hki ?_ hno
        by_cases hjk : j = k
        · subst hjk; exact hjun
        · rw [getD_set_ne true hjk] at hun; exact hun
      have hx : ∀ x, GS P md ops vs D oj j a ∧ anyU P md ops vs D Q fuel ((L.setIfInBounds i true).setIfInBounds j true) ((a.put oi.dst x).put oj.dst (baseV vs j)) (upd u i x) := fun x => by
        obtain ⟨o, ho, hcase⟩ := (H x).2 j (ready_mono hj hji)
        obtain rfl : oj = o := Option.some.inj (hoj.symm.trans ho)
        rcases hcase with ⟨hs, hg, hK⟩ | ⟨hs, hg, hK⟩
        · exact ⟨hg.eval (execOp_put oj (fun cs b => hsel j oj cs b hoj) a oi.dst x p1).symm (wanted_put (ops := ops) oj a oi.dst x p1).symm, hK⟩
        · rw [hs] at hsj; cases hsj
      refine ⟨oj, hoj, .inl ⟨hsj, (hx undef).1, ih (L.setIfInBounds j true) _ u (hcl.set hj) (by simpa using hsz) (fun k hk => set_mono (hlow k hk)) hfree' (ready_mono hr (Ne.symm hji)) (hy.eval (execOp_put oi (fun cs b => hsel i oi cs b hi) a oj.dst _ p3) (wanted_put oi a oj.dst _ p3)) fun x => ?_⟩⟩
      rw [Array.setIfInBounds_comm _ _ hji, ← Act.put_comm a _ _ p2]; exact (hx x).2
/-- The walk in the text's order. -/
def flowU (P : Program) (md : Region.Mode) (ops : Array Oper) (vs : List (Option Value)) (D : (Nat → Value) → Array Bool → World → Prop) (Q : Act → (Nat → Value) → Prop) : Nat → List Oper → Act → (Nat → Value) → Prop
  | _, [], a, u => Q a u
  | k, o :: rest, a, u => (stB vs k = true ∧ GS P md ops vs D o k a ∧ flowU P md ops vs D Q (k + 1) rest (a.put o.dst (baseV vs k)) u) ∨ (stB vs k = false ∧ GU P md ops D o k a u ∧ ∀ x, flowU P md ops vs D Q (k + 1) rest (a.put o.dst x) (upd u k x))
theorem anyU_lex (hc : Chained md ops vs) {Q : Act → (Nat → Value) → Prop} (hs : Region.noSelect ops = true) : ∀ (l : List Oper) (k : Nat) (L : Array Bool) (a : Act) (u : Nat → Value), (∀ j, l[j]? = ops[k + j]?) → L.size = ops.size → k + l.length = ops.size → (∀ i, i < k → L.getD i false = true) → Closed md ops L →
    Region.lexFrom md ops l.length k L = true → flowU P md ops vs D Q k l a u → anyU P md ops vs D (fun L a u => (∀ i, i < ops.size → L.getD i false = true) ∧ Q a u) l.length L a u
  | [], k, _, _, _, _, _, hk, hall, _, hB, h => ⟨by simpa [Region.lexFrom] using hB, fun i hi => hall i (by simp at hk; omega), h⟩
  | o :: l, k, L, a, u, hl, hz, hk, hall, hcl, hB, h => by
    have h0 : ops[k]? = some o := by simpa using (hl 0).symm
    simp only [List.length_cons, Region.lexFrom, Bool.and_eq_true] at hB
    obtain ⟨⟨hr, hf⟩, hB'⟩ := hB
    have hlt : k < L.size := by simp only [List.length_cons] at hk; omega
    have hrk : k ∈ Region.ready md ops L := by simpa using hr
    have next : ∀ a u, flowU P md ops vs D Q (k + 1) l a u → anyU P md ops vs D (fun L a u => (∀ i, i < ops.size → L.getD i false = true) ∧ Q a u) l.length (L.setIfInBounds k true) a u := fun a u hK =>
      anyU_lex hc hs l (k + 1) _ _ u (fun j => by have := hl (j + 1); simpa [Nat.add_assoc, Nat.add_comm 1 j] using this) (by simpa using hz) (by simp only [List.length_cons] at hk; omega)
        (fun i hi => by
          by_cases hik : i = k
          · subst hik; simp [hlt]
          · rw [getD_set_ne false (Ne.symm hik)]; exact hall i (by omega)) (hcl.set hrk) hB' hK
    rcases h with ⟨hst, hy, hK⟩ | ⟨hst, hy, hK⟩
    · exact anyU_firstS h0 hst (Region.noSelect_spec hs) l.length L a u (Region.free_spec h0 hf) hrk hy (next _ _ hK)
    · exact anyU_firstU h0 hst hc (Region.noSelect_spec hs) l.length L a u hcl hz hall (Region.free_spec h0 hf) hrk hy (fun x => next _ _ (hK x))
theorem wp_region_chain {id : Nat} {Q : Exit → Act → World → Prop} {a : Act} {w : World} {l : List Oper} (vs : List (Option Value)) (D : (Nat → Value) → Array Bool → World → Prop) (hm : P.follows .mixedOrders = true) (hB : Region.lexB .any l.toArray = true) (hch : chainB l vs = true)
    (hC : ∀ L : Array Bool, (∀ i, L.getD i false = false) → D (fun _ => undef) L { w with drawn := w.drawn + 1 })
    (h : flowU P .any l.toArray vs D (fun a' u => ∀ L w', (∀ i, i < l.length → L.getD i false = true) → D u L w' → Q .normal a' w') 0 l a (fun _ => undef)) : (Code.region id l.toArray true).wp P Q a w := by
  simp only [Region.lexB, Bool.and_eq_true] at hB
  refine wp_region_any hm (wpAny_of_anyU (vs := vs) (D := D) (Q := fun L a u => (∀ i, i < l.toArray.size → L.getD i false = true) ∧ ∀ L w', (∀ i, i < l.length → L.getD i false = true) → D u L w' → Q .normal a w')
    (fun L a u w' hw' h => h.2 L w' (by simpa using h.1) hw') _ _ _ (fun _ => undef) _ (hC _ (fun i => getD_replicate_none _ _)) ?_)
  have := anyU_lex (Chained.of hch) hB.1 l 0 (Array.replicate l.length false) a (fun _ => undef) (by simp) (by simp) (by simp) (fun i hi => absurd hi (by omega)) (fun c oc _ hl => by rw [getD_replicate_none] at hl; cases hl) (by simpa using hB.2) h
  simpa using this
theorem flowU_st {Q : Act → (Nat → Value) → Prop} {k : Nat} {o : Oper} {rest : List Oper} {a : Act} {u : Nat → Value} (hs : stB vs k = true) (hg : o.guard = none)
    (h1 : ∀ u L w, L.getD k true = false → Behind md o L → D u L w → goesUpon P (D u (L.setIfInBounds k true)) (baseV vs k) ((execOp a.eval o).run P w)) (h2 : flowU P md ops vs D Q (k + 1) rest (a.put o.dst (baseV vs k)) u) : flowU P md ops vs D Q k (o :: rest) a u :=
  .inl ⟨hs, fun u => .inl ⟨by simp [Region.wanted, hg], h1 u⟩, h2⟩
theorem flowU_ch {Q : Act → (Nat → Value) → Prop} {k : Nat} {o : Oper} {rest : List Oper} {a : Act} {u : Nat → Value} (hs : stB vs k = false) (hg : o.guard = none)
    (h1 : ∀ L w, L.getD k true = false → Behind md o L → D u L w → eachUpon P (fun x w' => D (upd u k x) (L.setIfInBounds k true) w') ((execOp a.eval o).run P w)) (h2 : ∀ x, flowU P md ops vs D Q (k + 1) rest (a.put o.dst x) (upd u k x)) : flowU P md ops vs D Q k (o :: rest) a u :=
  .inr ⟨hs, ⟨by simp [Region.wanted, hg], h1⟩, h2⟩
theorem flowU_imp {Q Q' : Act → (Nat → Value) → Prop} : ∀ (l : List Oper) (k : Nat) (a : Act) (u : Nat → Value), (∀ a u, Q a u → Q' a u) → flowU P md ops vs D Q k l a u → flowU P md ops vs D Q' k l a u
  | [], _, _, _, hq, h => hq _ _ h
  | o :: rest, k, a, u, hq, h => by
    rcases h with ⟨h1, h2, h3⟩ | ⟨h1, h2, h3⟩
    · exact .inl ⟨h1, h2, flowU_imp rest (k + 1) _ _ hq h3⟩
    · exact .inr ⟨h1, h2, fun x => flowU_imp rest (k + 1) _ _ hq (h3 x)⟩
theorem flowU_nil {Q : Act → (Nat → Value) → Prop} {k : Nat} {a : Act} {u : Nat → Value} (h : Q a u) : flowU P md ops vs D Q k [] a u := h
end
end Go.Proofs.YtkgfanajgdelcaaGreatDoor
namespace Go.Proofs.YtkgfanajgdelcaaGreatDoor
open Go.RowKit
section
variable {P : Program} {ops : Array Oper} {vs : List (Option Value)} {cs : List Nat} {St : Nat → (Nat → Value) → World → Prop}
/-- The first j operations of the chain are behind, the others aren't. -/
def StageIs (cs : List Nat) (L : Array Bool) (j : Nat) : Prop := j ≤ cs.length ∧ ∀ k c, cs[k]? = some c → (k < j → L.getD c false = true) ∧ (j ≤ k → L.getD c false = false)
def DS (ops : Array Oper) (cs : List Nat) (St : Nat → (Nat → Value) → World → Prop) (u : Nat → Value) (L : Array Bool) (w : World) : Prop := Closed .any ops L ∧ ∃ j, StageIs cs L j ∧ St j u w
theorem Closed.put {L : Array Bool} {k : Nat} {o : Oper} (h : Closed .any ops L) (ho : ops[k]? = some o) (hb : Behind .any o L) : Closed .any ops (L.setIfInBounds k true) := by
  intro c oc hc hl e he hbi
  by_cases e1 : k = c
  · subst e1
    obtain rfl : o = oc := Option.some.inj (ho.symm.trans hc)
    exact set_mono (hb e he hbi)
  · rw [getD_set_ne false e1] at hl
    exact set_mono (h c oc hc hl e he hbi)
theorem StageIs.other {L : Array Bool} {j i : Nat} (h : StageIs cs L j) (hi : i ∉ cs) : StageIs cs (L.setIfInBounds i true) j :=
  ⟨h.1, fun k c hc => by
    have hne : i ≠ c := fun e => hi (e ▸ List.mem_of_getElem? hc)
    rw [getD_set_ne false hne]; exact h.2 k c hc⟩
theorem StageIs.next {L : Array Bool} {k c : Nat} (h : StageIs cs L k) (hc : cs[k]? = some c) (hd : cs.Nodup) (hlt : c < L.size) : StageIs cs (L.setIfInBounds c true) (k + 1) := by
  have hk : k < cs.length := (List.getElem?_eq_some_iff.1 hc).1
  refine ⟨hk, fun k' c' hc' => ?_⟩
  by_cases e : k' = k
  · subst e
    obtain rfl : c = c' := Option.some.inj (hc.symm.trans hc')
    exact ⟨fun _ => by simp [hlt], fun h => absurd h (by omega)⟩
  · have hne : c ≠ c' := fun e' => by
      subst e'
      exact e ((List.getElem_inj (h₀ := (List.getElem?_eq_some_iff.1 hc').1) (h₁ := hk) hd).1 ((List.getElem?_eq_some_iff.1 hc').2.trans (List.getElem?_eq_some_iff.1 hc).2.symm))
    rw [getD_set_ne false hne]
    have := h.2 k' c' hc'
    exact ⟨fun hlt => this.1 (by omega), fun hle => this.2 (by omega)⟩
theorem goesUpon_mono {D D' : World → Prop} {v : Value} {r : Result Next} (h : ∀ w, D w → D' w) (hr : goesUpon P D v r) : goesUpon P D' v r := by
  cases r with
  | ok n w' =>
    cases n <;> simp only [goesUpon] at hr ⊢
    case value u => exact ⟨h _ hr.1, hr.2⟩
    case skip => exact ⟨h _ hr.1, hr.2⟩
    case enter f args => exact hr.mono fun e w'' ⟨he, hw⟩ => ⟨he, h _ hw⟩
  | halt x w' => simp only [goesUpon] at hr
theorem eachUpon_mono {E E' : Value → World → Prop} {r : Result Next} (h : ∀ x w, E x w → E' x w) (hr : eachUpon P E r) : eachUpon P E' r := by
  cases r with
  | ok n w' =>
    cases n <;> simp only [eachUpon] at hr ⊢
    case value u => exact h _ _ hr
    case skip => exact h _ _ hr
    case enter f args => exact hr.mono fun e w'' ⟨x, he, hw⟩ => ⟨x, he, h _ _ hw⟩
  | halt x w' => simp only [eachUpon] at hr
theorem chain_start {w : World} {L : Array Bool} (hL : ∀ i, L.getD i false = false) (h : St 0 (fun _ => undef) w) : DS ops cs St (fun _ => undef) L w :=
  ⟨fun c oc _ hl => (by rw [hL] at hl; cases hl), 0, ⟨Nat.zero_le _, fun k c _ => ⟨fun h => absurd h (by omega), fun _ => hL c⟩⟩, h⟩
theorem chain_st {Q : Act → (Nat → Value) → Prop} {k : Nat} {o : Oper} {rest : List Oper} {a : Act} {u : Nat → Value} (ho : ops[k]? = some o) (hs : stB vs k = true) (hk : k ∉ cs) (hg : o.guard = none)
    (h1 : ∀ j u w, St j u w → goesUpon P (St j u) (baseV vs k) ((execOp a.eval o).run P w)) (h2 : flowU P .any ops vs (DS ops cs St) Q (k + 1) rest (a.put o.dst (baseV vs k)) u) : flowU P .any ops vs (DS ops cs St) Q k (o :: rest) a u :=
  flowU_st hs hg (fun u _ w _ hbe ⟨hcl, j, hj, hS⟩ => goesUpon_mono (fun _ hw' => ⟨hcl.put ho hbe, j, hj.other hk, hw'⟩) (h1 j u w hS)) h2
/-- .. where the chain's operation number b waits for it: no stage behind that one. -/
theorem chain_stb (b : Nat) {Q : Act → (Nat → Value) → Prop} {k c : Nat} {o oc : Oper} {rest : List Oper} {a : Act} {u : Nat → Value} (ho : ops[k]? = some o) (hs : stB vs k = true) (hk : k ∉ cs) (hg : o.guard = none) (hc : cs[b]? = some c) (hoc : ops[c]? = some oc) (he : (oc.after.any fun e => Region.binds .any e && e.on == k) = true)
    (h1 : ∀ j u w, j ≤ b → St j u w → goesUpon P (St j u) (baseV vs k) ((execOp a.eval o).run P w)) (h2 : flowU P .any ops vs (DS ops cs St) Q (k + 1) rest (a.put o.dst (baseV vs k)) u) : flowU P .any ops vs (DS ops cs St) Q k (o :: rest) a u :=
  flowU_st hs hg (fun u L w hun hbe ⟨hcl, j, hj, hS⟩ => by
    refine goesUpon_mono (fun w' hw' => ⟨hcl.put ho hbe, j, hj.other hk, hw'⟩) (h1 j u w ?_ hS)
    rcases Nat.lt_or_ge b j with h | h
    · exfalso
      have h3 := (hj.2 b c hc).1 h
      obtain ⟨e, he1, he2⟩ := Array.any_eq_true'.1 he
      simp only [Bool.and_eq_true, beq_iff_eq] at he2
      have h4 := hcl c oc hoc h3 e he1 he2.1
      rw [he2.2, getD_tf hun] at h4; cases h4
    · exact h) h2
theorem chain_first {Q : Act → (Nat → Value) → Prop} {k : Nat} {o : Oper} {rest : List Oper} {a : Act} {u : Nat → Value} (ho : ops[k]? = some o) (hs : stB vs k = false) (hk : cs[0]? = some k) (hd : cs.Nodup) (hg : o.guard = none)
    (h1 : ∀ w, St 0 u w → eachUpon P (fun x w' => St 1 (upd u k x) w') ((execOp a.eval o).run P w)) (h2 : ∀ x, flowU P .any ops vs (DS ops cs St) Q (k + 1) rest (a.put o.dst x) (upd u k x)) : flowU P .any ops vs (DS ops cs St) Q k (o :: rest) a u :=
  flowU_ch hs hg (fun L w hun hbe ⟨hcl, j, hj, hS⟩ => by
    have h0 := (hj.2 0 k hk).1
    obtain rfl : j = 0 := by
      rcases Nat.eq_zero_or_pos j with h | h
      · exact h
      · have := h0 h; rw [getD_tf hun] at this; cases this
    have hlt : k < L.size := by
      rcases Nat.lt_or_ge k L.size with h' | h'
      · exact h'
      · simp [Array.getElem?_eq_none h'] at hun
    exact eachUpon_mono (fun x w' hw' => ⟨hcl.put ho hbe, 1, hj.next hk hd hlt, hw'⟩) (h1 w hS)) h2
theorem chain_next (n : Nat) {Q : Act → (Nat → Value) → Prop} {k p : Nat} {o : Oper} {rest : List Oper} {a : Act} {u : Nat → Value} (ho : ops[k]? = some o) (hs : stB vs k = false) (hk : cs[n + 1]? = some k) (hp : cs[n]? = some p) (hd : cs.Nodup) (hg : o.guard = none) (he : (o.after.any fun e => Region.binds .any e && e.on == p) = true)
    (h1 : ∀ w, St (n + 1) u w → eachUpon P (fun x w' => St (n + 2) (upd u k x) w') ((execOp a.eval o).run P w)) (h2 : ∀ x, flowU P .any ops vs (DS ops cs St) Q (k + 1) rest (a.put o.dst x) (upd u k x)) : flowU P .any ops vs (DS ops cs St) Q k (o :: rest) a u :=
  flowU_ch hs hg (fun L w hun hbe ⟨hcl, j, hj, hS⟩ => by
    obtain ⟨e, he1, he2⟩ := Array.any_eq_true'.1 he
    simp only [Bool.and_eq_true, beq_iff_eq] at he2
    have hb := hbe e he1 he2.1
    rw [he2.2] at hb
    obtain rfl : j = n + 1 := by
      rcases Nat.lt_trichotomy j (n + 1) with h | h | h
      · have := (hj.2 n p hp).2 (by omega); rw [this] at hb; cases hb
      · exact h
      · have := (hj.2 (n + 1) k hk).1 h; rw [getD_tf hun] at this; cases this
    have hlt : k < L.size := by
      rcases Nat.lt_or_ge k L.size with h' | h'
      · exact h'
      · simp [Array.getElem?_eq_none h'] at hun
    exact eachUpon_mono (fun x w' hw' => ⟨hcl.put ho hbe, n + 2, hj.next hk hd hlt, hw'⟩) (h1 w hS)) h2
theorem chain_end {u : Nat → Value} {L : Array Bool} {w : World} {n : Nat} (hl : ∀ i, i < n → L.getD i false = true) (hc : cs.all (fun c => decide (c < n)) = true) (h : DS ops cs St u L w) : St cs.length u w := by
  obtain ⟨_, j, hj, hS⟩ := h
  obtain rfl : j = cs.length := by
    rcases Nat.lt_or_ge j cs.length with h' | h'
    · have h1 := (hj.2 j cs[j] (List.getElem?_eq_getElem h')).2 (Nat.le_refl _)
      have h2 := List.all_eq_true.1 hc cs[j] (List.getElem_mem h')
      rw [hl _ (by simpa using h2)] at h1; cases h1
    · exact Nat.le_antisymm hj.1 h'
  exact hS
theorem wp_region_stages {id : Nat} {Q : Exit → Act → World → Prop} {a : Act} {w : World} {l : List Oper} (vs : List (Option Value)) (cs : List Nat) (St : Nat → (Nat → Value) → World → Prop) (hm : P.follows .mixedOrders = true) (hB : Region.lexB .any l.toArray = true) (hch : chainB l vs = true) (hcs : cs.all (fun c => decide (c < l.length)) = true)
    (h0 : St 0 (fun _ => undef) w.drew) (h : flowU P .any l.toArray vs (DS l.toArray cs St) (fun a' u => ∀ w', St cs.length u w' → Q .normal a' w') 0 l a (fun _ => undef)) : (Code.region id l.toArray true).wp P Q a w :=
  wp_region_chain vs (DS l.toArray cs St) hm hB hch (fun _ hL => chain_start hL h0) (flowU_imp l 0 a _ (fun _ _ hq _ w' hL hD => hq w' (chain_end hL hcs hD)) h)
/-- An append of one element, at the level of its run. -/
theorem each_app1 {w : World} {o : Oper} {a : Act} {E : Value → World → Prop} (s x : Operand) (t : TypeId) (ho : o.op = .call { callee := .builtin .append, args := #[s, x], argTypes := #[t, t] })
    (base : Nat) (e : TypeId) (size bytes : Nat) (hE : Elem P t e size bytes) (v : Value) (n : Nat) (xs : List Value) (hs : a.eval s = v) (wr : World) (ce : Array Value) (hw : w = wr.alloc (.cells ce e)) (hx : a.eval x = .slice (some ⟨wr.heap.size, 0, none⟩) 1 1)
    (hown : wr.ownsRow base e size v n xs) (hcs : ce.size = size) (h1 : ∀ u ∈ ce.toList, u.oneCell' = true) (hbytes : (n + 1) * bytes ≤ 140737488355328) (h63 : n + 1 ≤ maxLen) (hbase : base ≤ wr.heap.size)
    (h : ∀ v' w', (∀ b xs', wr.ownsRow b e size v n xs' → b ≤ wr.heap.size → w'.ownsRow b e size v' (n + 1) (xs' ++ ce.toList)) → wr.grownBy w' v.ownBlock → NewRow v v' wr.heap.size → wr.heap.size < w'.heap.size → E v' w') : eachUpon P E ((execOp a.eval o).run P w) := by
  obtain ⟨ht, i, z, hi, hz, hsz, hby, hzs, hpos⟩ := hE
  subst hw
  have hnews : ∀ j u, ce.toList[j]? = some u → (wr.alloc (.cells ce e)).cell? ((⟨wr.heap.size, 0, none⟩ : Addr).add j) = some u := by
    intro j u hu
    have hb := heap_alloc_new wr (.cells ce e)
    have : ((⟨wr.heap.size, 0, none⟩ : Addr).add j) = ⟨wr.heap.size, j, none⟩ := by unfold Addr.add; split <;> simp_all
    rw [this, cell_of_row _ _ j ce e (0, 0) hb]
    simpa using hu
  have key := fun (b : Nat) (xs' : List Value) (hown : wr.ownsRow b e size v n xs') (hb : b ≤ wr.heap.size) => run_append_own_at (P := P) (wr.alloc (.cells ce e)) b t o.type e i z size bytes ht hi hz hsz hby hzs hpos v n xs' (hown.alloc _) ⟨wr.heap.size, 0, none⟩ 1 1 ce.toList (by rw [Array.length_toList, hcs, Nat.one_mul]) hnews h1 h63 hbytes (Nat.le_trans hb (by simp))
  obtain ⟨v', w', hrun, h2, h3, _, h5⟩ := key base xs hown hbase
  unfold execOp
  simp only [ho, resolve, invoke, builtin, Sem.run_bind, Sem.run_pure, Result.andThen_ok, List.map_toArray, List.map_cons, List.map_nil, hs, hx, hrun]
  refine h v' w' (fun b xs' hb hbb => ?_) ⟨h3.os, h3.tape, h3.output, Nat.le_trans (by simp) h3.size, fun k hk hne => (h3.block k (by simp; omega) hne).trans (Below.heap_alloc wr _ k hk)⟩ ?_ ?_
  · obtain ⟨v2, w2, hrun2, g2, _⟩ := key b xs' hb hbb
    rw [hrun] at hrun2
    injection hrun2 with e1 e2
    subst e1 e2
    exact g2
  · rcases h5 with h5 | h5
    · exact .inl h5
    · exact .inr ⟨_, h5, by simp⟩
  · have := h3.size
    simp at this; omega
end
end Go.Proofs.YtkgfanajgdelcaaGreatDoor
namespace Go.Proofs.YtkgfanajgdelcaaGreatDoor
open Go.RowKit
/-- A row of its own, its elements' memory apart from it and from one another, all in blocks that meet S. -/
def OwnRow {α : Type} (S : Nat → Prop) (w : World) (e : TypeId) (size : Nat) (R : (Nat → Prop) → α → List Value → Prop) (v : Value) (xs : List α) : Prop :=
  xs.length ≤ maxLen ∧ ∃ (vals : List Value) (Ss : Nat → Nat → Prop), w.ownsRow 0 e size v xs.length vals ∧ (∀ g, v.ownBlock = some g → S g) ∧
    (∀ i x, xs[i]? = some x → R (Ss i) x ((vals.drop (i * size)).take size) ∧ ∀ b, Ss i b → S b ∧ v.ownBlock ≠ some b) ∧
    ∀ i j b, i < xs.length → j < xs.length → i ≠ j → Ss i b → ¬ Ss j b
theorem own_same {w w' : World} {base : Nat} {e : TypeId} {size : Nat} {v : Value} {n : Nat} {xs : List Value} (h : w.ownsRow base e size v n xs) (hs : ∀ g, v.ownBlock = some g → g < w.heap.size → w'.heap[g]? = w.heap[g]?) : w'.ownsRow base e size v n xs := by
  refine ⟨h.1, ?_⟩
  rcases h.2 with h2 | ⟨g, cap, cur, rfl, hb, hh, h3⟩
  · exact .inl h2
  · have hlt : g < w.heap.size := by
      rcases Nat.lt_or_ge g w.heap.size with h' | h'
      · exact h'
      · rw [Array.getElem?_eq_none h'] at hh; cases hh
    exact .inr ⟨g, cap, cur, rfl, hb, (hs g rfl hlt).trans hh, h3⟩
theorem OwnRow.mono {α : Type} {S S' : Nat → Prop} {w w' : World} {e : TypeId} {size : Nat} {R R' : (Nat → Prop) → α → List Value → Prop} {v : Value} {xs : List α} (h : OwnRow S w e size R v xs) (hs : SameOn S w w') (hS : ∀ b, S b → S' b)
    (hR : ∀ T x cs, x ∈ xs → (∀ b, T b → S b) → R T x cs → R' T x cs) : OwnRow S' w' e size R' v xs := by
  obtain ⟨hm, vals, Ss, h1, h2, h3, h4⟩ := h
  refine ⟨hm, vals, Ss, own_same h1 (fun g hg hlt => hs g (h2 g hg) hlt), fun g hg => hS g (h2 g hg), fun i x hx => ⟨hR _ _ _ (List.mem_of_getElem? hx) (fun b hb => ((h3 i x hx).2 b hb).1) (h3 i x hx).1, fun b hb => ⟨hS b ((h3 i x hx).2 b hb).1, ((h3 i x hx).2 b hb).2⟩⟩, h4⟩
theorem OwnRow.listAt {α : Type} {S : Nat → Prop} {w : World} {e : TypeId} {size : Nat} (hz : 0 < size) {R : (Nat → Prop) → α → List Value → Prop} {R' : α → List Value → Prop} {v : Value} {xs : List α} (h : OwnRow S w e size R v xs)
    (hR : ∀ T x cs, x ∈ xs → (∀ b, T b → S b) → R T x cs → R' x cs) : ListAt S w size R' v xs := by
  obtain ⟨hm, vals, Ss, h1, h2, h3, _⟩ := h
  rcases h1.2 with ⟨rfl, h0⟩ | ⟨g, cap, cur, rfl, _⟩
  · obtain rfl : xs = [] := List.eq_nil_of_length_eq_zero h0
    exact ListAt.nil _ _ _ _ _ _
  · refine ⟨_, _, rfl, hm, fun i x hx => ⟨g, 0, rfl, h2 g rfl, (vals.drop (i * size)).take size, ?_, fun j hj => ?_, hR _ _ _ (List.mem_of_getElem? hx) (fun b hb => ((h3 i x hx).2 b hb).1) (h3 i x hx).1⟩⟩
    · have hi : i < xs.length := (List.getElem?_eq_some_iff.1 hx).1
      have h5 : (i + 1) * size ≤ xs.length * size := Nat.mul_le_mul_right _ hi
      rw [Nat.succ_mul] at h5
      rw [List.length_take, List.length_drop, h1.1]; omega
    · have hi : i < xs.length := (List.getElem?_eq_some_iff.1 hx).1
      have h5 : (i + 1) * size ≤ xs.length * size := Nat.mul_le_mul_right _ hi
      rw [Nat.succ_mul] at h5
      rw [Nat.zero_add, h1.cellAt (i * size + j) (by omega), List.getElem?_take, if_pos hj, List.getElem?_drop]
theorem OwnRow.form {α : Type} {S : Nat → Prop} {w : World} {e : TypeId} {size : Nat} {R : (Nat → Prop) → α → List Value → Prop} {v : Value} {xs : List α} (h : OwnRow S w e size R v xs) : ∃ p c, v = .slice p xs.length c ∧ xs.length ≤ maxLen := by
  obtain ⟨hm, vals, Ss, h1, _⟩ := h
  rcases h1.2 with ⟨rfl, h0⟩ | ⟨g, cap, cur, rfl, _⟩
  · exact ⟨none, 0, by rw [h0], hm⟩
  · exact ⟨_, _, rfl, hm⟩
theorem OwnRow.nil {α : Type} (S : Nat → Prop) (w : World) (e : TypeId) (size : Nat) (R : (Nat → Prop) → α → List Value → Prop) : OwnRow S w e size R (.slice none 0 0) [] :=
  ⟨Nat.zero_le _, [], fun _ _ => False, ⟨by simp, .inl ⟨rfl, rfl⟩⟩, fun g hg => by simp [Value.ownBlock] at hg, fun i x hx => by simp at hx, fun i j b hi => by simp at hi⟩
/-- One element more. -/
theorem OwnRow.snoc {α : Type} {S Sx S' : Nat → Prop} {w w' : World} {e : TypeId} {size : Nat} {R R' : (Nat → Prop) → α → List Value → Prop} {v v' : Value} {xs : List α} {x : α} {cs : List Value} (h : OwnRow S w e size R v xs) (hx : R Sx x cs) (hl : cs.length = size)
    (hown : ∀ vals : List Value, w.ownsRow 0 e size v xs.length vals → w'.ownsRow 0 e size v' (xs.length + 1) (vals ++ cs)) (_ : w.grownBy w' v.ownBlock) (hn : NewRow v v' w.heap.size) (hm : xs.length + 1 ≤ maxLen)
    (hSx : ∀ b, Sx b → ¬ S b) (hSlt : ∀ b, S b → b < w.heap.size) (hSxlt : ∀ b, Sx b → b < w.heap.size) (h1 : ∀ b, S b → S' b) (h2 : ∀ b, Sx b → S' b) (h3 : ∀ g, v'.ownBlock = some g → S' g)
    (hR : ∀ T y c, (∀ b, T b → b < w.heap.size ∧ v.ownBlock ≠ some b) → R T y c → R' T y c) : OwnRow S' w' e size R' v' (xs ++ [x]) := by
  obtain ⟨_, vals, Ss, g1, g2, g3, g4⟩ := h
  have hvl : vals.length = xs.length * size := g1.1
  have hxne : ∀ b, Sx b → v.ownBlock ≠ some b := fun b hb e => hSx b hb (g2 b e)
  have hne : ∀ b, b < w.heap.size → v.ownBlock ≠ some b → v'.ownBlock ≠ some b := fun b hlt hv e => by
    rcases hn with hn | ⟨g, hn, hge⟩
    · rw [hn] at e; exact hv e
    · rw [hn] at e; injection e with e; omega
  refine ⟨by simpa using hm, vals ++ cs, fun i => if i = xs.length then Sx else Ss i, by simpa using hown vals g1, h3, fun i y hy => ?_, fun i j b hi hj hij hb => ?_⟩
  · have hi : i < xs.length + 1 := by have := (List.getElem?_eq_some_iff.1 hy).1; simpa using this
    by_cases e : i = xs.length
    · subst e
      rw [List.getElem?_append_right (Nat.le_refl _), Nat.sub_self] at hy
      obtain rfl : x = y := by simpa using hy
      show R' (if xs.length = xs.length then Sx else _) _ _ ∧ ∀ b, (if xs.length = xs.length then Sx else _) b → _
      rw [if_pos rfl, ← hvl, List.drop_left, List.take_of_length_le (by omega)]
      exact ⟨hR _ _ _ (fun b hb => ⟨hSxlt b hb, hxne b hb⟩) hx, fun b hb => ⟨h2 b hb, hne b (hSxlt b hb) (hxne b hb)⟩⟩
    · have hlt : i < xs.length := by omega
      rw [List.getElem?_append_left hlt] at hy
      have h5 : (i + 1) * size ≤ xs.length * size := Nat.mul_le_mul_right _ hlt
      rw [Nat.succ_mul] at h5
      obtain ⟨k1, k2⟩ := g3 i y hy
      show R' (if i = xs.length then Sx else Ss i) _ _ ∧ ∀ b, (if i = xs.length then Sx else Ss i) b → _
      rw [if_neg e, List.drop_append_of_le_length (by omega), List.take_append_of_le_length (by rw [List.length_drop]; omega)]
      exact ⟨hR _ _ _ (fun b hb => ⟨hSlt b (k2 b hb).1, (k2 b hb).2⟩) k1, fun b hb => ⟨h1 b (k2 b hb).1, hne b (hSlt b (k2 b hb).1) (k2 b hb).2⟩⟩
  · simp only [List.length_append, List.length_cons, List.length_nil] at hi hj
    change (if i = xs.length then Sx else Ss i) b at hb
    show ¬ (if j = xs.length then Sx else Ss j) b
    by_cases ei : i = xs.length
    · rw [if_pos ei] at hb
      have hj' : j < xs.length := by omega
      rw [if_neg (by omega)]
      exact fun hjb => hSx b hb ((g3 j _ (List.getElem?_eq_getElem hj')).2 b hjb).1
    · rw [if_neg ei] at hb
      have hi' : i < xs.length := by omega
      by_cases ej : j = xs.length
      · rw [if_pos ej]
        exact fun hjb => hSx b hjb ((g3 i _ (List.getElem?_eq_getElem hi')).2 b hb).1
      · rw [if_neg ej]
        exact g4 i j b hi' (by omega) hij hb
def TmOwn (e : TypeId) : Nat → (Nat → Prop) → World → Tm → List Value → Prop
  | 0, _, _, _, _ => False
  | n + 1, S, w, .mk s us, cs => ∃ va, cs = [.string s, va] ∧ s.size ≤ maxLen ∧ OwnRow S w e 2 (fun T t c => TmOwn e n T w t c) va us
theorem TmOwn.mono {e : TypeId} : ∀ (n m : Nat) {S S' : Nat → Prop} {w w' : World} (t : Tm) (cs : List Value), n ≤ m → SameOn S w w' → (∀ b, S b → S' b) → TmOwn e n S w t cs → TmOwn e m S' w' t cs
  | 0, _, _, _, _, _, _, _, _, _, _, h => h.elim
  | n + 1, 0, _, _, _, _, _, _, hm, _, _, _ => by omega
  | n + 1, m + 1, S, S', w, w', .mk s us, cs, hm, hs, hS, h => by
    obtain ⟨va, h1, h2, h3⟩ := h
    exact ⟨va, h1, h2, h3.mono hs hS fun T x c _ hT hx => TmOwn.mono n m x c (by omega) (fun b hb hlt => hs b (hT b hb) hlt) (fun _ h => h) hx⟩
theorem TmOwn.at_ {e : TypeId} : ∀ (n : Nat) {S : Nat → Prop} {w : World} (t : Tm) (cs : List Value), TmOwn e n S w t cs → TmAt S n w t cs
  | 0, _, _, _, _, h => h.elim
  | n + 1, S, w, .mk s us, cs, h => by
    obtain ⟨va, h1, h2, h3⟩ := h
    exact ⟨va, h1, h2, h3.listAt (by omega) fun T x c _ hT hx => TmAt.mono (SameOn.refl _ _) hT n n x c (Nat.le_refl _) (TmOwn.at_ n x c hx)⟩
theorem TmOwn.below {e : TypeId} {n : Nat} {S : Nat → Prop} {w w' : World} {t : Tm} {cs : List Value} (hb : Below w.heap.size w w') (h : TmOwn e n S w t cs) : TmOwn e n S w' t cs := TmOwn.mono n n t cs (Nat.le_refl _) (SameOn.below hb) (fun _ h => h) h
theorem TmOwn.form {e : TypeId} {n : Nat} {S : Nat → Prop} {w : World} {t : Tm} {v0 v1 : Value} (h : TmOwn e n S w t [v0, v1]) : ∃ p c, v0 = .string t.n ∧ v1 = .slice p t.us.length c ∧ t.n.size ≤ maxLen ∧ t.us.length ≤ maxLen := (TmOwn.at_ n t _ h).form
end Go.Proofs.YtkgfanajgdelcaaGreatDoor
namespace Go.Proofs.YtkgfanajgdelcaaGreatDoor
open Go.RowKit
/-- What a call of the reader leaves: a tree in new memory, its value x. -/
def TermP (T : TypeId) (g lo : Nat) (s : ByteArray) (f : Nat) (t : Tm) (p' : PSt) (TP : TypeId) (W : World) (x : Value) (w : World) : Prop :=
  ∃ v0 v1, x = .agg #[v0, v1] ∧ TmOwn T f (fun b => lo ≤ b ∧ b < w.heap.size) w t [v0, v1] ∧ PAt TP w g s p' ∧ W.grownBy w (some g)
theorem TermP.mono {T TP : TypeId} {g lo f f' : Nat} {s : ByteArray} {t : Tm} {p' : PSt} {W w : World} {x : Value} (hf : f ≤ f') (h : TermP T g lo s f t p' TP W x w) : TermP T g lo s f' t p' TP W x w := by
  obtain ⟨v0, v1, h1, h2, h3⟩ := h
  exact ⟨v0, v1, h1, TmOwn.mono f f' t _ hf (SameOn.refl _ _) (fun _ h => h) h2, h3⟩
/-- The stages of 't.Args = append(t.Args, p.term())': i, j, k, l are the numbers of the call, the slice built, the append, the store. -/
def AppSt (T : TypeId) (_g bt : Nat) (CP : Value → World → Prop) (v : Value) (n : Nat) (W : World) (i j k : Nat) : Nat → (Nat → Value) → World → Prop
  | 0, _, w => w = W.drew
  | 1, u, w => CP (u i) w
  | 2, u, w => ∃ w1 v0 v1, CP (.agg #[v0, v1]) w1 ∧ u j = .slice (some ⟨w1.heap.size, 0, none⟩) 1 1 ∧ w = w1.alloc (.cells #[v0, v1] T)
  | 3, u, w => ∃ w1 v0 v1, CP (.agg #[v0, v1]) w1 ∧ (∀ b xs, w1.ownsRow b T 2 v n xs → b ≤ w1.heap.size → w.ownsRow b T 2 (u k) (n + 1) (xs ++ [v0, v1])) ∧ w1.grownBy w v.ownBlock ∧ NewRow v (u k) w1.heap.size ∧ w1.heap.size < w.heap.size
  | 4, u, w => ∃ w1 w3 v0 v1, CP (.agg #[v0, v1]) w1 ∧ (∀ b xs, w1.ownsRow b T 2 v n xs → b ≤ w1.heap.size → w3.ownsRow b T 2 (u k) (n + 1) (xs ++ [v0, v1])) ∧ w1.grownBy w3 v.ownBlock ∧ NewRow v (u k) w1.heap.size ∧ w1.heap.size < w3.heap.size ∧ w = w3.setCell ⟨bt, 1, none⟩ (u k)
  | _, _, _ => False
theorem AppSt.cell {T : TypeId} {g bt n i j k : Nat} {CP : Value → World → Prop} {v v' : Value} {W : World} (hG : ∀ x w', CP x w' → W.grownBy w' (some g)) (hc : W.cell? ⟨bt, 1, none⟩ = some v') (hne : bt ≠ g) {m : Nat} (hm : m ≤ 2) {u : Nat → Value} {w : World} (h : AppSt T g bt CP v n W i j k m u w) : w.cell? ⟨bt, 1, none⟩ = some v' := by
  match m, hm, h with
  | 0, _, h => obtain rfl : w = W.drew := h; exact hc
  | 1, _, h => exact grown_cell (hG _ _ h) hc (by simpa using hne)
  | 2, _, h =>
    obtain ⟨w1, v0, v1, h1, _, rfl⟩ := h
    have h2 := grown_cell (hG _ _ h1) hc (by simpa using hne)
    exact (((Below.refl w1.heap.size w1).alloc (Nat.le_refl _) _).cell (World.block_lt_of_cell? w1 _ h2)).trans h2
/-- The middle of a reading: block rb waits for the result, block bt is the struct in the making (a name, the arguments xs so far), the reader is in state p. -/
structure TSt (T TP : TypeId) (ro : Obj) (w : World) (g rb bt : Nat) (s : ByteArray) (n : List UInt8) (p : PSt) (v : Value) (xs : List Tm) (f : Nat) (W : World) : Prop where
  at_ : PAt TP W g s p
  cell : W.heap[bt]? = some (.cells #[.string ⟨n.toArray⟩, v] T (0, 0))
  res : W.heap[rb]? = some ro
  row : OwnRow (fun b => rb < b ∧ b ≠ bt ∧ b < W.heap.size) W T 2 (fun S x c => TmOwn T f S W x c) v xs
  gr : w.grownBy W (some g)
  lt : g < w.heap.size ∧ w.heap.size ≤ rb ∧ rb < bt ∧ bt < W.heap.size
theorem heap_lt {w : World} {b : Nat} {o : Obj} (h : w.heap[b]? = some o) : b < w.heap.size := by
  rcases Nat.lt_or_ge b w.heap.size with h' | h'
  · exact h'
  · rw [Array.getElem?_eq_none h'] at h; cases h
theorem own_lt' {w : World} {base : Nat} {e : TypeId} {size : Nat} {v : Value} {n : Nat} {xs : List Value} (h : w.ownsRow base e size v n xs) {g : Nat} (hg : v.ownBlock = some g) : g < w.heap.size := by
  rcases h.2 with ⟨rfl, _⟩ | ⟨g', cap, cur, rfl, _, hh, _⟩
  · simp [Value.ownBlock] at hg
  · have : g' = g := by simpa [Value.ownBlock] using hg
    subst this; exact heap_lt hh
theorem elemTmI : Elem Tryz.prog 39 41 2 40 := elem_of Tryz.underlying39 (z := .agg #[.string ⟨#[]⟩, .slice none 0 0]) (by kernel_rfl) rfl (by omega)
theorem TSt.three {T TP : TypeId} {ro : Obj} {w W w' : World} {g rb bt : Nat} {s : ByteArray} {n : List UInt8} {p : PSt} {v z : Value} {xs : List Tm} {f : Nat} {CP : Value → World → Prop} (h : TSt T TP ro w g rb bt s n p v xs f W) (hG : ∀ x w', CP x w' → W.grownBy w' (some g))
    {w1 : World} {v0 v1 x : Value} (hcp : CP x w1) (happ : ∀ b ys, w1.ownsRow b T 2 v xs.length ys → b ≤ w1.heap.size → w'.ownsRow b T 2 z (xs.length + 1) (ys ++ [v0, v1])) (hg3 : w1.grownBy w' v.ownBlock) :
    (∃ q c, z = .slice (some ⟨q, 0, none⟩) (xs.length + 1) c) ∧ w'.heap[bt]? = some (.cells #[.string ⟨n.toArray⟩, v] T (0, 0)) := by
  obtain ⟨l1, l2, l3, l4⟩ := h.lt
  have hG1 := hG _ _ hcp
  have hz1 := hG1.size
  obtain ⟨hm, vals, Ss, r1, r2, r3, r4⟩ := h.row
  have h1 := happ 0 vals (own_same r1 fun b hb hl => hG1.block b hl (by have := r2 b hb; simp; omega)) (Nat.zero_le _)
  refine ⟨own_form h1 (by omega), ?_⟩
  exact (hg3.block bt (by omega) (fun e => (r2 bt e.symm).2.1 rfl)).trans ((hG1.block bt l4 (by simp; omega)).trans h.cell)
theorem TSt.app {T TP : TypeId} {ro : Obj} {w W w4 : World} {g rb bt : Nat} {s : ByteArray} {n : List UInt8} {p p' : PSt} {v : Value} {xs : List Tm} {f i j k : Nat} {t : Tm} {u : Nat → Value} (h : TSt T TP ro w g rb bt s n p v xs f W)
    (hA : AppSt T g bt (TermP T g W.heap.size s f t p' TP W.drew) v xs.length W i j k 4 u w4) (hlen : xs.length + 1 ≤ 1000000) : TSt T TP ro w g rb bt s n p' (u k) (xs ++ [t]) f w4 := by
  obtain ⟨w1, w3, v0, v1, ⟨v0', v1', he, hO, hP, hG⟩, happ, hg3, hnr, hsz, rfl⟩ := hA
  simp only [Value.agg.injEq, Array.mk.injEq, List.cons.injEq, and_true] at he
  obtain ⟨rfl, rfl⟩ := he
  obtain ⟨l1, l2, l3, l4⟩ := h.lt
  have hG1 : W.grownBy w1 (some g) := ⟨hG.os, hG.tape, hG.output, hG.size, hG.block⟩
  have hz1 := hG1.size
  obtain ⟨hm, vals, Ss, r1, r2, r3, r4⟩ := h.row
  have hvb : ∀ b, v.ownBlock = some b → rb < b ∧ b ≠ bt ∧ b < W.heap.size := fun b hb => r2 b hb
  have keep : ∀ b, b < W.heap.size → b ≠ g → v.ownBlock ≠ some b → w3.heap[b]? = W.heap[b]? := fun b hb hne hv => (hg3.block b (by omega) (fun e => hv e.symm)).trans (hG1.block b hb (by simpa using hne))
  have nob : ∀ b, (b ≤ rb ∨ b = bt) → v.ownBlock ≠ some b := fun b hb e => by have := hvb b e; omega
  have hrow1 := h.row.mono (S' := fun b => rb < b ∧ b ≠ bt ∧ b < W.heap.size) (w' := w1) (R' := fun S x c => TmOwn T f S w1 x c) (fun b hb hlt => hG1.block b hlt (by simp; omega)) (fun _ h => h)
    (fun S x c _ hS hx => TmOwn.mono f f x c (Nat.le_refl _) (fun b hb hlt => hG1.block b hlt (by have := hS b hb; simp; omega)) (fun _ h => h) hx)
  have hown3 : ∀ b, (u k).ownBlock = some b → b < w3.heap.size := fun b hb => own_lt' (happ 0 vals (own_same r1 fun b' hb' hlt => hG1.block b' hlt (by have := hvb b' hb'; simp; omega)) (Nat.zero_le _)) hb
  have hrow3 := OwnRow.snoc (S' := fun b => rb < b ∧ b ≠ bt ∧ b < w3.heap.size) (R' := fun S x c => TmOwn T f S w3 x c) hrow1 hO rfl (fun vals' hv => happ 0 vals' hv (Nat.zero_le _)) hg3 hnr (by unfold maxLen; omega)
    (fun b hb hS => by omega) (fun b hb => by omega) (fun b hb => hb.2) (fun b hb => by omega) (fun b hb => by omega)
    (fun b hb => ⟨by
      rcases hnr with e | ⟨b', e, hge⟩
      · rw [e] at hb; exact (hvb b hb).1
      · rw [e] at hb; injection hb with hb; omega, by
      rcases hnr with e | ⟨b', e, hge⟩
      · rw [e] at hb; exact (hvb b hb).2.1
      · rw [e] at hb; injection hb with hb; omega, hown3 b hb⟩)
    (fun S x c hS hx => TmOwn.mono f f x c (Nat.le_refl _) (fun b hb hlt => hg3.block b hlt (fun e => (hS b hb).2 e.symm)) (fun _ h => h) hx)
  have hbt3 : w3.heap[bt]? = some (.cells #[.string ⟨n.toArray⟩, v] T (0, 0)) := (keep bt l4 (by omega) (nob bt (.inr rfl))).trans h.cell
  refine ⟨?_, ?_, ?_, ?_, ?_, l1, l2, l3, by simp; omega⟩
  · have h3 : PAt TP w3 g s p' := (hg3.block g (by omega) (fun e => nob g (.inl (by omega)) e.symm)).trans hP
    exact (heap_setCell_other w3 ⟨bt, 1, none⟩ g (u k) (by simp; omega)).trans h3
  · have := heap_setCell_same w3 bt 1 _ T (u k) hbt3
    simpa using this
  · exact (heap_setCell_other w3 ⟨bt, 1, none⟩ rb (u k) (by simp; omega)).trans ((keep rb (by omega) (by omega) (nob rb (.inl (Nat.le_refl _)))).trans h.res)
  · exact hrow3.mono (fun b hb hlt => heap_setCell_other w3 ⟨bt, 1, none⟩ b (u k) (by simp; omega)) (fun b hb => by simpa using hb)
      (fun S x c _ hS hx => TmOwn.mono f f x c (Nat.le_refl _) (fun b hb hlt => heap_setCell_other w3 ⟨bt, 1, none⟩ b (u k) (by have := hS b hb; simp; omega)) (fun _ h => h) hx)
  · have h1 := gr_trans h.gr hG1
    have h3 : w.grownBy w3 (some g) := ⟨hg3.os.trans h1.os, hg3.tape.trans h1.tape, hg3.output.trans h1.output, Nat.le_trans h1.size (Nat.le_of_lt (Nat.lt_of_le_of_lt (Nat.le_refl _) hsz)), fun b hb hne => (hg3.block b (Nat.lt_of_lt_of_le hb h1.size) (fun e => nob b (.inl (by omega)) e.symm)).trans (h1.block b hb hne)⟩
    exact gr_sc h3 (.inr (by simp; omega)) _
/-- The reader moves on. -/
theorem TSt.reader {T TP : TypeId} {ro : Obj} {w W w' : World} {g rb bt : Nat} {s : ByteArray} {n : List UInt8} {p p' : PSt} {v : Value} {xs : List Tm} {f : Nat} (h : TSt T TP ro w g rb bt s n p v xs f W) (hP : PAt TP w' g s p') (hG : W.grownBy w' (some g)) : TSt T TP ro w g rb bt s n p' v xs f w' := by
  obtain ⟨l1, l2, l3, l4⟩ := h.lt
  have hz := hG.size
  refine ⟨hP, (hG.block bt l4 (by simp; omega)).trans h.cell, (hG.block rb (by omega) (by simp; omega)).trans h.res, ?_, gr_trans h.gr hG, l1, l2, l3, by omega⟩
  exact h.row.mono (fun b hb hlt => hG.block b hlt (by simp; omega)) (fun b hb => by omega)
    (fun S x c _ hS hx => TmOwn.mono f f x c (Nat.le_refl _) (fun b hb hlt => hG.block b hlt (by have := hS b hb; simp; omega)) (fun _ h => h) hx)
theorem cells2_cell {w : World} {g : Nat} {x y : Value} {t : TypeId} (h : w.heap[g]? = some (.cells #[x, y] t (0, 0))) : w.cell? ⟨g, 0, none⟩ = some x ∧ w.cell? ⟨g, 1, none⟩ = some y ∧ (∀ j, w.frozen? ⟨g, j, none⟩ = false) := by
  refine ⟨?_, ?_, fun j => frozen_of_row w g j _ _ h⟩
  · rw [cell_of_row w g 0 _ _ (0, 0) h]; rfl
  · rw [cell_of_row w g 1 _ _ (0, 0) h]; rfl
theorem TSt.init {T TP : TypeId} {w w1 w2 : World} {g : Nat} {s : ByteArray} {n : List UInt8} {p : PSt} {f : Nat} (hg : g < w.heap.size) (hg1 : (w.alloc (.cells #[.string ⟨#[]⟩, .slice none 0 0] T)).grownBy w1 (some g))
    (hg2 : (w1.alloc (.cells #[.string ⟨n.toArray⟩, .slice none 0 0] T)).grownBy w2 (some g)) (hP : PAt TP w2 g s p) : TSt T TP (.cells #[.string ⟨#[]⟩, .slice none 0 0] T (0, 0)) w g w.heap.size w1.heap.size s n p (.slice none 0 0) [] f w2 := by
  have h1 := hg1.size
  have h2 := hg2.size
  simp at h1 h2
  have ha := gr_trans (gr_al (gr_refl w g) _) hg1
  refine ⟨hP, ?_, ?_, OwnRow.nil _ _ _ _ _, gr_trans (gr_al ha _) hg2, hg, Nat.le_refl _, by omega, by omega⟩
  · exact (hg2.block w1.heap.size (by simp) (by simp; omega)).trans (heap_alloc_new w1 _)
  · refine (hg2.block w.heap.size (by simp; omega) (by simp; omega)).trans ((hao w1 _ _ (by omega)).trans ?_)
    exact (hg1.block w.heap.size (by simp) (by simp; omega)).trans (heap_alloc_new w _)
/-- The struct is handed over. -/
theorem TSt.done {T TP : TypeId} {ro : Obj} {w W : World} {g rb bt : Nat} {s : ByteArray} {n : List UInt8} {p : PSt} {v : Value} {xs : List Tm} {f : Nat} (h : TSt T TP ro w g rb bt s n p v xs f W) (hn : n.length ≤ 1000000) (a b : Value) :
    TermP T g w.heap.size s (f + 1) (.mk ⟨n.toArray⟩ xs) p TP w (.agg #[.string ⟨n.toArray⟩, v]) ((W.setCell ⟨rb, 0, none⟩ a).setCell ⟨rb, 1, none⟩ b) := by
  obtain ⟨l1, l2, l3, l4⟩ := h.lt
  have hk : ∀ c, c ≠ rb → ((W.setCell ⟨rb, 0, none⟩ a).setCell ⟨rb, 1, none⟩ b).heap[c]? = W.heap[c]? := fun c hc => (heap_setCell_other _ ⟨rb, 1, none⟩ c b (fun e => hc e)).trans (heap_setCell_other W ⟨rb, 0, none⟩ c a (fun e => hc e))
  refine ⟨_, _, rfl, ⟨_, rfl, by show n.toArray.size ≤ _; unfold maxLen; simp; omega, ?_⟩, ?_, gr_sc (gr_sc h.gr (.inr l2) _) (.inr l2) _⟩
  · exact h.row.mono (fun c hc _ => hk c (by omega)) (fun c hc => by simp; omega)
      (fun S x c _ hS hx => TmOwn.mono f f x c (Nat.le_refl _) (fun d hd _ => hk d (by have := (hS d hd).1; omega)) (fun _ h => h) hx)
  · exact (hk g (by omega)).trans h.at_
end Go.Proofs.YtkgfanajgdelcaaGreatDoor
namespace Go.Proofs.YtkgfanajgdelcaaGreatDoor
open Go.RowKit
theorem own_unique {w : World} {base : Nat} {e : TypeId} {size : Nat} {v : Value} {n : Nat} {xs ys : List Value} (h : w.ownsRow base e size v n xs) (h' : w.ownsRow base e size v n ys) : xs = ys := by
  obtain ⟨l1, h1⟩ := h
  obtain ⟨l2, h2⟩ := h'
  rcases h1 with ⟨rfl, h0⟩ | ⟨g, cap, cur, rfl, hb, hh, h3, h4, h5, h6⟩
  · subst h0
    rw [Nat.zero_mul] at l1 l2
    rw [List.eq_nil_of_length_eq_zero l1, List.eq_nil_of_length_eq_zero l2]
  · rcases h2 with ⟨hv, _⟩ | ⟨g', cap', cur', hv, _, hh', _, _, _, h6'⟩
    · cases hv
    · simp only [Value.slice.injEq, Option.some.injEq, Addr.mk.injEq] at hv
      obtain ⟨⟨rfl, -⟩, -, rfl⟩ := hv
      rw [hh] at hh'
      simp only [Option.some.injEq, Obj.cells.injEq] at hh'
      rw [← h6, ← h6', hh'.1]
/-- The middle of a parsing: block rb waits for the result, block bt is the struct in the making (a name, the arguments us so far). -/
structure LSt (T : TypeId) (rb bt : Nat) (n : ByteArray) (w : World) (f : Nat) (v : Value) (us : List Tm) (W : World) : Prop where
  res : W.heap[rb]? = some (.cells #[.string ⟨#[]⟩, .slice none 0 0] T (0, 0))
  cell : W.heap[bt]? = some (.cells #[.string n, v] T (0, 0))
  row : OwnRow (fun b => bt < b ∧ b < W.heap.size) W T 2 (fun S x c => TmOwn T f S W x c) v us
  bel : Below w.heap.size w W
  lt : w.heap.size ≤ rb ∧ rb < bt ∧ bt < W.heap.size
theorem LSt.later {T : TypeId} {rb bt : Nat} {n : ByteArray} {w W W' : World} {f : Nat} {v : Value} {us : List Tm} (h : LSt T rb bt n w f v us W) (hb : Below W.heap.size W W') : LSt T rb bt n w f v us W' := by
  have hz := hb.size
  obtain ⟨l1, l2, l3⟩ := h.lt
  exact ⟨(hb.block _ (by omega)).trans h.res, (hb.block _ l3).trans h.cell, h.row.mono (SameOn.below hb) (fun b h => ⟨h.1, by omega⟩) (fun S x c _ _ hx => TmOwn.below hb hx), ⟨hb.os.trans h.bel.os, hb.tape.trans h.bel.tape, hb.output.trans h.bel.output, Nat.le_trans h.bel.size hb.size, fun b hlt => (hb.block b (Nat.lt_of_lt_of_le hlt h.bel.size)).trans (h.bel.block b hlt)⟩, l1, l2, by omega⟩
theorem LSt.app {T : TypeId} {rb bt : Nat} {n : ByteArray} {w W W2 w3 : World} {f : Nat} {v v' v0 v1 : Value} {us : List Tm} {a : Tm} (h : LSt T rb bt n w f v us W) (hb : Below W.heap.size W W2) (hO : TmOwn T f (fun b => W.heap.size ≤ b ∧ b < W2.heap.size) W2 a [v0, v1])
    {vals : List Value} (hv : W2.ownsRow 0 T 2 v us.length vals) (happ : w3.ownsRow 0 T 2 v' (us.length + 1) (vals ++ [v0, v1])) (hg : W2.grownBy w3 v.ownBlock) (hnr : NewRow v v' W2.heap.size) (hlen : us.length + 1 ≤ 1048576) :
    LSt T rb bt n w f v' (us ++ [a]) (w3.setCell ⟨bt, 1, none⟩ v') := by
  have H2 := h.later hb
  obtain ⟨l1, l2, l3⟩ := h.lt
  obtain ⟨-, -, l4⟩ := H2.lt
  have hz := hb.size
  have hz3 := hg.size
  obtain ⟨hm, vals0, Ss, r1, r2, r3, r4⟩ := h.row
  have hvb : ∀ b, v.ownBlock = some b → bt < b ∧ b < W.heap.size := fun b hb => r2 b hb
  have nob : ∀ b, b ≤ bt → v.ownBlock ≠ some b := fun b hb e => by have := hvb b e; omega
  have hnew : ∀ b, v'.ownBlock = some b → bt < b ∧ b < w3.heap.size := fun b hb => ⟨by
    rcases hnr with e | ⟨b', e, hge⟩
    · rw [e] at hb; exact (hvb b hb).1
    · rw [e] at hb; injection hb with hb; omega, own_lt' happ hb⟩
  have hrow := OwnRow.snoc (S' := fun b => bt < b ∧ b < w3.heap.size) (R' := fun S x c => TmOwn T f S w3 x c)
    (h.row.mono (S' := fun b => bt < b ∧ b < W.heap.size) (w' := W2) (R' := fun S x c => TmOwn T f S W2 x c) (SameOn.below hb) (fun _ h => h) (fun S x c _ _ hx => TmOwn.below hb hx)) hO rfl
    (fun vs hvs => by rw [own_unique hvs hv]; exact happ) hg hnr (by unfold maxLen; omega) (fun b hb hS => by omega) (fun b hb => by omega) (fun b hb => hb.2) (fun b hb => by omega) (fun b hb => by omega) hnew
    (fun S x c hS hx => TmOwn.mono f f x c (Nat.le_refl _) (fun b hb hlt => hg.block b hlt (fun e => (hS b hb).2 e.symm)) (fun _ h => h) hx)
  have hbt3 : w3.heap[bt]? = some (.cells #[.string n, v] T (0, 0)) := (hg.block bt l4 (fun e => nob bt (Nat.le_refl _) e.symm)).trans H2.cell
  refine ⟨?_, ?_, ?_, ?_, l1, l2, by simp; omega⟩
  · exact (heap_setCell_other w3 ⟨bt, 1, none⟩ rb v' (by simp; omega)).trans ((hg.block rb (by omega) (fun e => nob rb (by omega) e.symm)).trans H2.res)
  · have := heap_setCell_same w3 bt 1 _ T v' hbt3
    simpa using this
  · exact hrow.mono (fun b hb hlt => heap_setCell_other w3 ⟨bt, 1, none⟩ b v' (by simp; omega)) (fun b hb => by simpa using hb)
      (fun S x c _ hS hx => TmOwn.mono f f x c (Nat.le_refl _) (fun b hb hlt => heap_setCell_other w3 ⟨bt, 1, none⟩ b v' (by have := hS b hb; simp; omega)) (fun _ h => h) hx)
  · have hb2 := H2.bel
    exact ⟨hg.os.trans hb2.os, hg.tape.trans hb2.tape, hg.output.trans hb2.output, by have := hb2.size; simp; omega, fun b hlt => (heap_setCell_other w3 ⟨bt, 1, none⟩ b v' (by simp; omega)).trans ((hg.block b (by have := hb2.size; omega) (fun e => nob b (by omega) e.symm)).trans (hb2.block b hlt))⟩
/-- What the parsing of a term answers. -/
def GotTm (T : TypeId) (f : Nat) (r : Option (Tm × Nat)) (w : World) (x : Value) (w' : World) : Prop :=
  Below w.heap.size w w' ∧ ∃ (s : ByteArray) (p : Option Addr) (k c : Nat) (z : Int), x = .tuple #[.agg #[.string s, .slice p k c], .int .i64 z] ∧ match r with
    | none => z = -1
    | some (t, j) => z = (j : Nat) ∧ TmOwn T f (fun b => w.heap.size ≤ b ∧ b < w'.heap.size) w' t [.string s, .slice p k c]
/-- The struct is handed over. -/
theorem LSt.done {T : TypeId} {rb bt : Nat} {n : ByteArray} {w W : World} {f : Nat} {p : Option Addr} {k c : Nat} {us : List Tm} (h : LSt T rb bt n w f (.slice p k c) us W) (hn : n.size ≤ maxLen) (a b : Value) (j : Nat) :
    GotTm T (f + 1) (some (.mk n us, j)) w (.tuple #[.agg #[.string n, .slice p k c], .int .i64 (j : Nat)]) ((W.setCell ⟨rb, 0, none⟩ a).setCell ⟨rb, 1, none⟩ b) := by
  obtain ⟨l1, l2, l3⟩ := h.lt
  have hk : ∀ c, c ≠ rb → ((W.setCell ⟨rb, 0, none⟩ a).setCell ⟨rb, 1, none⟩ b).heap[c]? = W.heap[c]? := fun c hc => (heap_setCell_other _ ⟨rb, 1, none⟩ c b (fun e => hc e)).trans (heap_setCell_other W ⟨rb, 0, none⟩ c a (fun e => hc e))
  have hb := h.bel
  refine ⟨⟨hb.os, hb.tape, hb.output, by simpa using hb.size, fun c hc => (hk c (by omega)).trans (hb.block c hc)⟩, _, _, _, _, _, rfl, rfl, _, rfl, hn, ?_⟩
  exact h.row.mono (fun c hc _ => hk c (by omega)) (fun c hc => by simp; omega)
      (fun S x c _ hS hx => TmOwn.mono f f x c (Nat.le_refl _) (fun d hd _ => hk d (by have := (hS d hd).1; omega)) (fun _ h => h) hx)
theorem LSt.none {T : TypeId} {rb bt : Nat} {n : ByteArray} {w W : World} {f f' : Nat} {p : Option Addr} {k c : Nat} {us : List Tm} (h : LSt T rb bt n w f (.slice p k c) us W) (a b : Value) :
    GotTm T f' none w (.tuple #[.agg #[.string n, .slice p k c], .int .i64 (-1)]) ((W.setCell ⟨rb, 0, none⟩ a).setCell ⟨rb, 1, none⟩ b) := by
  obtain ⟨l1, l2, l3⟩ := h.lt
  have hb := h.bel
  exact ⟨⟨hb.os, hb.tape, hb.output, by simpa using hb.size, fun c hc => ((heap_setCell_other _ ⟨rb, 1, Option.none⟩ c b (by simp; omega)).trans (heap_setCell_other W ⟨rb, 0, Option.none⟩ c a (by simp; omega))).trans (hb.block c hc)⟩, _, _, _, _, _, rfl, rfl⟩
theorem LSt.init {T : TypeId} {n : ByteArray} {w wr : World} {f : Nat} (hbr : Below (w.alloc (.cells #[.string ⟨#[]⟩, .slice Option.none 0 0] T)).heap.size (w.alloc (.cells #[.string ⟨#[]⟩, .slice Option.none 0 0] T)) wr) :
    LSt T w.heap.size wr.heap.size n w f (.slice Option.none 0 0) [] (wr.alloc (.cells #[.string n, .slice Option.none 0 0] T)) := by
  have hz := hbr.size
  simp at hz
  refine ⟨(hao wr _ _ (by omega)).trans ((hbr.block _ (by simp)).trans (heap_alloc_new w _)), heap_alloc_new wr _, OwnRow.nil _ _ _ _ _, ⟨hbr.os, hbr.tape, hbr.output, by simp; omega, fun b hlt => (hao wr _ _ (by omega)).trans ((hbr.block b (by simp; omega)).trans (hao w _ _ hlt))⟩, Nat.le_refl _, by omega, by simp⟩
theorem LSt.three {T : TypeId} {rb bt : Nat} {n : ByteArray} {w W w3 : World} {f : Nat} {v v' : Value} {us : List Tm} {ys : List Value} (h : LSt T rb bt n w f v us W) (happ : w3.ownsRow 0 T 2 v' (us.length + 1) ys) (hg : W.grownBy w3 v.ownBlock) :
    (∃ q c, v' = .slice (some ⟨q, 0, Option.none⟩) (us.length + 1) c) ∧ w3.heap[bt]? = some (.cells #[.string n, v] T (0, 0)) ∧ w3.heap[rb]? = some (.cells #[.string ⟨#[]⟩, .slice Option.none 0 0] T (0, 0)) := by
  obtain ⟨l1, l2, l3⟩ := h.lt
  obtain ⟨hm, vals, Ss, r1, r2, r3, r4⟩ := h.row
  exact ⟨own_form happ (by omega), (hg.block bt l3 (fun e => by have := (r2 bt e.symm).1; omega)).trans h.cell, (hg.block rb (by omega) (fun e => by have := (r2 rb e.symm).1; omega)).trans h.res⟩
theorem byte_40 (c : UInt8) : ((c.toNat : Int) == 40) = (c == 40) := by
  rw [Bool.eq_iff_iff, beq_iff_eq, beq_iff_eq]
  exact ⟨fun e => UInt8.toNat_inj.1 (show c.toNat = 40 by omega), fun e => by subst e; rfl⟩
theorem byte_41 (c : UInt8) : ((c.toNat : Int) == 41) = (c == 41) := by
  rw [Bool.eq_iff_iff, beq_iff_eq, beq_iff_eq]
  exact ⟨fun e => UInt8.toNat_inj.1 (show c.toNat = 41 by omega), fun e => by subst e; rfl⟩
theorem byte_44 (c : UInt8) : ((c.toNat : Int) == 44) = (c == 44) := by
  rw [Bool.eq_iff_iff, beq_iff_eq, beq_iff_eq]
  exact ⟨fun e => UInt8.toNat_inj.1 (show c.toNat = 44 by omega), fun e => by subst e; rfl⟩
theorem extract_le (s : ByteArray) (k j : Nat) (h : s.size ≤ 1000000) : (s.extract k j).size ≤ maxLen := by
  rw [size_list, extract_list, List.length_drop, List.length_take, ← size_list]; unfold maxLen; omega
theorem list_at (s : ByteArray) (j : Nat) (h : j < s.size) : s.data.toList[j]? = some s[j] := by
  rw [List.getElem?_eq_getElem (by rw [← size_list]; exact h)]; rfl
end Go.Proofs.YtkgfanajgdelcaaGreatDoor
