import Derived.Test.YtkgfanajgdelcaaGreatEnPart7
namespace Go.Proofs.YtkgfanajgdelcaaGreat
set_option maxRecDepth 100000
open Go.RowKit
theorem TmAt.pair {B : Nat → Prop} {m : Nat} {w : World} {a b : Tm} {p : Option Addr} {c : Nat} (h : ListAt B w 2 (TmAt B m w) (.slice p 2 c) [a, b]) :
    ∃ g o pa ca pb cb, p = some ⟨g, o, none⟩ ∧ w.cell? ⟨g, o, none⟩ = some (.string a.n) ∧ w.cell? ⟨g, o + 1, none⟩ = some (.slice pa a.us.length ca) ∧ w.cell? ⟨g, o + 2, none⟩ = some (.string b.n) ∧ w.cell? ⟨g, o + 3, none⟩ = some (.slice pb b.us.length cb) ∧
      TmAt B m w a [.string a.n, .slice pa a.us.length ca] ∧ TmAt B m w b [.string b.n, .slice pb b.us.length cb] := by
  obtain ⟨g, o, rfl, _, x0, x1, hx0, hx1, hx⟩ := h.at2 (i := 0) (by simp)
  obtain ⟨g', o', he, _, y0, y1, hy0, hy1, hy⟩ := h.at2 (i := 1) (by simp)
  simp only [Option.some.injEq, Addr.mk.injEq, and_true] at he
  obtain ⟨rfl, rfl⟩ := he
  obtain ⟨pa, ca, rfl, rfl, -, -⟩ := hx.form
  obtain ⟨pb, cb, rfl, rfl, -, -⟩ := hy.form
  exact ⟨g, o, pa, ca, pb, cb, rfl, by simpa using hx0, by simpa using hx1, by simpa using hy0, by simpa using hy1, hx, hy⟩
set_option maxHeartbeats 1600000 in
theorem atomEnglish_any {B : Nat → Prop} (m : Nat) (t : Tm) (v0 v1 : Value) (w : World) (h : TmAt B m w t [v0, v1]) (hn : t.atom = true) (hz : t.eng.length ≤ 1000000000000) :
      Calls Tryz.prog 35 #[.agg #[v0, v1]] w fun e w' => e = .returned (.string ⟨t.eng.toArray⟩) ∧ Below w.heap.size w w' := by
  have hl := h.args
  obtain ⟨p, c, rfl, rfl, -, -⟩ := h.form
  clear h
  cases atom_cases hn with
  | eq a b ha hb =>
    have hl2 : ListAt B w 2 (TmAt B m w) (.slice p 2 c) [a, b] := hl
    obtain ⟨g, o, pa, ca, pb, cb, rfl, hx0, hx1, hx2, hx3, hta, htb⟩ := TmAt.pair hl2
    have HE := Lib.hid (eng_eq a b)
    have hz2 : a.fmt.length + b.fmt.length + 8 ≤ 1000000000000 := by rw [eng_eq] at hz; simp [sEquals] at hz; omega
    have HA := Lib.hid (And.intro hta ha)
    have HB := Lib.hid (And.intro htb hb)
    clear hl hl2 hn hta htb ha hb hz
    show Calls Tryz.prog 35 #[.agg #[.string ⟨#[61]⟩, .slice (some ⟨g, o, none⟩) 2 c]] w _
    go_enter Tryz.func35, Tryz.ntmps35
    go_wp2_with fail
    refine (isEquality_any _ _ _).mono ?_
    rintro e w1 ⟨rfl, hb1⟩
    have ⟨cw1, fw1⟩ := bcell hb1
    have qw1 := hb1.size
    (try simp at qw1)
    (try have zw1w := bsz (show w.heap.size < w1.heap.size by omega))
    rw [show isEq ⟨#[61]⟩ = true from rfl]
    go_wp2
    have zg := bsz (World.block_lt_of_cell? _ _ hx0)
    obtain ⟨C, HC0⟩ := class_of (InF w1.heap.size _ [(⟨w.heap.size, 1, none⟩, .slice (some ⟨g, o, none⟩) 2 c), (⟨g, o, none⟩, .string a.n), (⟨g, o + 1, none⟩, .slice pa a.us.length ca), (⟨g, o + 2, none⟩, .string b.n), (⟨g, o + 3, none⟩, .slice pb b.us.length cb)] [] [])
    have HC := Lib.hid HC0
    clear HC0
    refine wp_region_flow (C := C) (by kernel_rfl) (by kernel_rfl) (fun L hL => (HC.out _ _).2 (InF.start (by first | (intro _ hs; cases hs; done) | (simp only [List.forall_mem_cons]; go_simp)) (by first | (intro _ hs; cases hs; done) | (simp only [List.forall_mem_cons]; go_simp)) (by first | (intro _ hs; cases hs; done) | (simp only [List.forall_mem_cons]; go_simp)) (by first | (intro _ hs; cases hs; done) | (simp only [List.forall_mem_cons]; go_simp)) L hL)) ?_
    repeat (first | ((first | apply flow_free rfl | (apply flow_yes; (case hw => go_simp))); (intro L w' hun hrd hC; have hC := (HC.out _ _).1 hC; have hb' := hC.below; (try have hw' : Below w.heap.size w w' := by first | exact Below.trans (by (repeat (first | with_reducible (first | exact bR _ _ | assumption | refine bA ?_ _ | refine bS ?_ (by first | exact Nat.le_refl _ | (simp; done) | (simp; omega)) _) | assumption | exact bR _ _ | refine bD ?_ | refine bN ?_ _ | refine bT ?_ (by assumption)))) hb' | ((repeat (first | with_reducible (first | exact bR _ _ | assumption | refine bA ?_ _ | refine bS ?_ (by first | exact Nat.le_refl _ | (simp; done) | (simp; omega)) _) | assumption | exact bR _ _ | refine bD ?_ | refine bN ?_ _ | refine bT ?_ (by assumption))); done)); have hf' := hC.cell; (try simp only [List.forall_mem_cons] at hf'); go_simp; first | exact ⟨(HC.out _ _).2 (hC.skip _ (by rfl)), rfl⟩ | (rw [if_neg]; (exact ⟨(HC.out _ _).2 (hC.skip _ (by rfl)), rfl⟩); omega) | (go_at_call 68; (with_reducible refine (formatTerm_any m a _ _ _ (HA.out.1.below hw') HA.out.2 (by omega)).mono ?_); rintro e w1 ⟨rfl, hb1⟩; exact ⟨rfl, (HC.out _ _).2 ((hC.next (by first | (simp; done) | (simp; omega) | omega) hb1).skip _ (by rfl))⟩) | (go_at_call 68; (with_reducible refine (formatTerm_any m b _ _ _ (HB.out.1.below hw') HB.out.2 (by omega)).mono ?_); rintro e w1 ⟨rfl, hb1⟩; exact ⟨rfl, (HC.out _ _).2 ((hC.next (by first | (simp; done) | (simp; omega) | omega) hb1).skip _ (by rfl))⟩)); go_simp) | (apply flow_no; (case hw => (go_simp; try (intro hh; cases hh))); (intro L w' _ _ hC; exact (HC.out _ _).2 (((HC.out _ _).1 hC).skip _ (by rfl))); go_simp))
    refine flow_nil ?_
    intro L wz hL hz
    have hz := (HC.out _ _).1 hz
    have hbz := hz.below
    have hcz := hz.cell
    try simp only [List.forall_mem_cons] at hcz
    have hdz := hz.done
    try simp only [List.forall_mem_cons] at hdz
    (try have hwz : Below w.heap.size w wz := by first | exact Below.trans (by (repeat (first | with_reducible (first | exact bR _ _ | assumption | refine bA ?_ _ | refine bS ?_ (by first | exact Nat.le_refl _ | (simp; done) | (simp; omega)) _) | assumption | exact bR _ _ | refine bD ?_ | refine bN ?_ _ | refine bT ?_ (by assumption)))) hbz | ((repeat (first | with_reducible (first | exact bR _ _ | assumption | refine bA ?_ _ | refine bS ?_ (by first | exact Nat.le_refl _ | (simp; done) | (simp; omega)) _) | assumption | exact bR _ _ | refine bD ?_ | refine bN ?_ _ | refine bT ?_ (by assumption))); done))
    go_wp2
    go_ret
    exact ⟨ret_strs (by rw [HE.out]; simp [sEquals]), by exact bel⟩
  | pred n us hs hu hd =>
    have hlen := nodes_len hd
    have HQ := Lib.hid (nodes_noEq hd)
    have HE := Lib.hid (eng_pred (us := us) hs)
    have HL := Lib.hid (show ListAt B w 2 (TmAt B m w) (.slice p us.length c) us from hl)
    have HN := Lib.hid hu
    clear hl hn hs hu hd
    show Calls Tryz.prog 35 #[.agg #[.string n, .slice p us.length c]] w _
    by_cases h0 : us = []
    · have hz2 : n.size + 6 ≤ 1000000000000 := by rw [HE.out, h0] at hz; simp [sHolds] at hz; omega
      subst h0
      clear hz
      go_enter Tryz.func35, Tryz.ntmps35
      go_wp2_with fail
      refine (isEquality_any _ _ _).mono ?_
      rintro e w1 ⟨rfl, hb1⟩
      have ⟨cw1, fw1⟩ := bcell hb1
      have qw1 := hb1.size
      (try simp at qw1)
      (try have zw1w := bsz (show w.heap.size < w1.heap.size by omega))
      rw [show isEq n = false from HQ.out]
      go_wp2
      go_ret
      exact ⟨ret_strs (by rw [HE.out]; simp [sHolds]), by exact bel⟩
    · have hm := HE.out
      have hie : us.isEmpty = false := by
        cases us with
        | nil => exact absurd rfl h0
        | cons a l => rfl
      rw [hie, if_neg (by decide)] at hm
      have hjl : n.size + 10 + (joinB sComma (Tm.fmtL us)).length ≤ 1000000000000 := by rw [hm] at hz; simp [sHoldsOf] at hz ⊢; omega
      have HM2 := Lib.hid hm
      have hl0 : 0 < us.length := List.length_pos_iff.2 h0
      clear hz hm hie HE
      go_enter Tryz.func35, Tryz.ntmps35
      go_wp2_with fail
      refine (isEquality_any _ _ _).mono ?_
      rintro e w1 ⟨rfl, hb1⟩
      have ⟨cw1, fw1⟩ := bcell hb1
      have qw1 := hb1.size
      (try simp at qw1)
      (try have zw1w := bsz (show w.heap.size < w1.heap.size by omega))
      rw [show isEq n = false from HQ.out]
      go_wp2
      go_loopw [3, 33] (TextsRel (Tm.fmtL us) w.heap.size (.string n) w) (fun _ i _ => us.length - (intOf i).toNat)
      case atStart => exact ⟨0, Nat.zero_le _, rfl, row_empty _ _ _ _ (by omega), by go_simp, by exact bel⟩
      case round =>
        obtain ⟨k, hk, rfl, ho, hc, hb⟩ := hrel
        have HO := Lib.hid ho
        rw [fmtL_len] at hk
        have hqr := hb.size
        have hgr : w.heap.size < wr.heap.size := World.block_lt_of_cell? _ _ hc
        clear ho
        by_cases hlt : k < us.length
        · obtain ⟨b, o, rfl, hB, x0, x1, hx0, hx1, hx⟩ := (HL.out.mono (SameOn.below hb) (fun _ h => h) (fun x cs _ hx => TmAt.below hb hx)).at2 hlt
          have hS := fmtL_at hlt
          have hF := fmt_arg hlt sComma
          have hN := nodess_arg HN.out hlt
          obtain ⟨a, ha⟩ : ∃ a, us[k] = a := ⟨_, rfl⟩
          rw [ha] at hx
          rw [ha] at hS
          rw [ha] at hF
          rw [ha] at hN
          have HX := Lib.hid hx
          have HS := Lib.hid hS
          have HF := Lib.hid hF
          have HN := Lib.hid hN
          clear hx ha hS hF hN
          have zb := bsz (World.block_lt_of_cell? _ _ hx0)
          obtain ⟨pa, ca, rfl, rfl, -, -⟩ := HX.out.form
          have hfl : a.fmt.length ≤ 1000000000000 := by have := HF.out; omega
          go_wp2_with fail
          refine (formatTerm_any m a _ _ _ (HX.out.below (by exact bel)) HN.out hfl).mono ?_
          rintro e wq ⟨rfl, hbq⟩
          have ⟨cwq, fwq⟩ := bcell hbq
          have qwq := hbq.size
          (try simp at qwq)
          have HO1 := Lib.hid (own_below HO.out (show Below wr.heap.size wr wq by exact bel))
          have HC1 := Lib.hid ((show Below wr.heap.size wr wq by exact bel).cell hgr |>.trans hc)
          have hb3 : Below w.heap.size w wq := by exact bel
          clear hc
          go_wp2_with (at_builtin; refine wpList_app1 rfl (.tmp 37) (.tmp 40) _ rfl (w.heap.size + 1) 9 1 16 elemStr _ _ _ rfl wq #[.string ⟨a.fmt.toArray⟩] rfl _ (by simp) rfl HO1.out rfl (by simp [Value.oneCell']) (by omega) (by unfold maxLen; omega) (by omega) ?_; intro v1 wz hown1 hg1 hnr1 hlt1)
          refine ⟨⟨v1, _, _, ⟨k + 1, by rw [fmtL_len]; omega, by go_num, ?_, ?_, hb3.grown hg1 (by omega) (fun k hk => by have := own_base HO1.out k hk; omega)⟩, rfl, rfl, rfl⟩, by simp [intOf]; omega⟩
          · rw [strV_take (by rw [fmtL_len]; omega), HS.out]; exact hown1
          · exact grown_cell hg1 HC1.out (fun e => by have := own_base HO1.out _ e.symm; omega)
        · obtain rfl : k = us.length := by omega
          have ho := HO.out
          rw [← fmtL_len, List.take_length] at ho
          have HO2 := Lib.hid ho
          clear ho HO
          go_wp2
          obtain ⟨C, HC0⟩ := class_of (InF wr.heap.size _ [(⟨w.heap.size, 0, none⟩, .string n)] [] [])
          have HC := Lib.hid HC0
          clear HC0
          refine wp_region_flow (C := C) (by kernel_rfl) (by kernel_rfl) (fun L hL => (HC.out _ _).2 (InF.start (by first | (intro _ hs; cases hs; done) | (simp only [List.forall_mem_cons]; go_simp)) (by first | (intro _ hs; cases hs; done) | (simp only [List.forall_mem_cons]; go_simp)) (by first | (intro _ hs; cases hs; done) | (simp only [List.forall_mem_cons]; go_simp)) (by first | (intro _ hs; cases hs; done) | (simp only [List.forall_mem_cons]; go_simp)) L hL)) ?_
          repeat (first | ((first | apply flow_free rfl | (apply flow_yes; (case hw => go_simp))); (intro L w' hun hrd hC; have hC := (HC.out _ _).1 hC; have hb' := hC.below; (try have hw' : Below w.heap.size w w' := by first | exact Below.trans (by (repeat (first | with_reducible (first | exact bR _ _ | assumption | refine bA ?_ _ | refine bS ?_ (by first | exact Nat.le_refl _ | (simp; done) | (simp; omega)) _) | assumption | exact bR _ _ | refine bD ?_ | refine bN ?_ _ | refine bT ?_ (by assumption)))) hb' | ((repeat (first | with_reducible (first | exact bR _ _ | assumption | refine bA ?_ _ | refine bS ?_ (by first | exact Nat.le_refl _ | (simp; done) | (simp; omega)) _) | assumption | exact bR _ _ | refine bD ?_ | refine bN ?_ _ | refine bT ?_ (by assumption))); done)); have hf' := hC.cell; (try simp only [List.forall_mem_cons] at hf'); go_simp; first | exact ⟨(HC.out _ _).2 (hC.skip _ (by rfl)), rfl⟩ | (rw [if_neg]; (exact ⟨(HC.out _ _).2 (hC.skip _ (by rfl)), rfl⟩); omega) | (go_at_call 69; refine (join_own sComma _ (own_below HO2.out hb') (by rw [fmtL_len]; omega) (by omega)).mono ?_; rintro e w1 ⟨rfl, hb1⟩; exact ⟨rfl, (HC.out _ _).2 ((hC.next (by first | (simp; done) | (simp; omega) | omega) hb1).skip _ (by rfl))⟩)); go_simp) | (apply flow_no; (case hw => (go_simp; try (intro hh; cases hh))); (intro L w' _ _ hC; exact (HC.out _ _).2 (((HC.out _ _).1 hC).skip _ (by rfl))); go_simp))
          refine flow_nil ?_
          intro L wz hL hz
          have hz := (HC.out _ _).1 hz
          have hbz := hz.below
          have hcz := hz.cell
          try simp only [List.forall_mem_cons] at hcz
          have hdz := hz.done
          try simp only [List.forall_mem_cons] at hdz
          (try have hwz : Below w.heap.size w wz := by first | exact Below.trans (by (repeat (first | with_reducible (first | exact bR _ _ | assumption | refine bA ?_ _ | refine bS ?_ (by first | exact Nat.le_refl _ | (simp; done) | (simp; omega)) _) | assumption | exact bR _ _ | refine bD ?_ | refine bN ?_ _ | refine bT ?_ (by assumption)))) hbz | ((repeat (first | with_reducible (first | exact bR _ _ | assumption | refine bA ?_ _ | refine bS ?_ (by first | exact Nat.le_refl _ | (simp; done) | (simp; omega)) _) | assumption | exact bR _ _ | refine bD ?_ | refine bN ?_ _ | refine bT ?_ (by assumption))); done))
          go_wp2
          go_ret
          exact ⟨ret_strs (by rw [HM2.out]; simp [sHoldsOf]), by exact bel⟩
set_option maxHeartbeats 1600000 in
theorem l26Atom_any {B : Nat → Prop} (m : Nat) (t : Tm) (v0 v1 : Value) (w : World) (h : TmAt B m w t [v0, v1]) (hn : t.atom = true) (hz : t.eng.length ≤ 1000000000000) :
      Calls Tryz.prog 54 #[.agg #[v0, v1]] w fun e w' => e = .returned (.string ⟨t.eng.toArray⟩) ∧ Below w.heap.size w w' := by
  have hl := h.args
  obtain ⟨p, c, rfl, rfl, -, -⟩ := h.form
  clear h
  cases atom_cases hn with
  | eq a b ha hb =>
    have hl2 : ListAt B w 2 (TmAt B m w) (.slice p 2 c) [a, b] := hl
    obtain ⟨g, o, pa, ca, pb, cb, rfl, hx0, hx1, hx2, hx3, hta, htb⟩ := TmAt.pair hl2
    have HE := Lib.hid (eng_eq a b)
    have hz2 : a.fmt.length + b.fmt.length + 8 ≤ 1000000000000 := by rw [eng_eq] at hz; simp [sEquals] at hz; omega
    have HA := Lib.hid (And.intro hta ha)
    have HB := Lib.hid (And.intro htb hb)
    clear hl hl2 hn hta htb ha hb hz
    show Calls Tryz.prog 54 #[.agg #[.string ⟨#[61]⟩, .slice (some ⟨g, o, none⟩) 2 c]] w _
    go_enter Tryz.func54, Tryz.ntmps54
    go_wp2
    have zg := bsz (World.block_lt_of_cell? _ _ hx0)
    obtain ⟨W, hW⟩ : ∃ W : World, W = w.alloc (.cells #[.string ⟨#[61]⟩, .slice (some ⟨g, o, none⟩) 2 c] 26) := ⟨_, rfl⟩
    have hwb : W.cell? ⟨w.heap.size, 1, none⟩ = some (.slice (some ⟨g, o, none⟩) 2 c) := by rw [hW]; go_simp
    have hbW : Below w.heap.size w W := by rw [hW]; exact bel
    rw [← hW]
    clear hW
    have ⟨cW, fW⟩ := bcell hbW
    obtain ⟨C, HC0⟩ := class_of (InF W.heap.size _ [(⟨w.heap.size, 1, none⟩, .slice (some ⟨g, o, none⟩) 2 c), (⟨g, o, none⟩, .string a.n), (⟨g, o + 1, none⟩, .slice pa a.us.length ca), (⟨g, o + 2, none⟩, .string b.n), (⟨g, o + 3, none⟩, .slice pb b.us.length cb)] [] [])
    have HC := Lib.hid HC0
    clear HC0
    refine wp_region_flow (C := C) (by kernel_rfl) (by kernel_rfl) (fun L hL => (HC.out _ _).2 (InF.start (by first | (intro _ hs; cases hs; done) | (simp only [List.forall_mem_cons]; go_simp)) (by first | (intro _ hs; cases hs; done) | (simp only [List.forall_mem_cons]; go_simp)) (by first | (intro _ hs; cases hs; done) | (simp only [List.forall_mem_cons]; go_simp)) (by first | (intro _ hs; cases hs; done) | (simp only [List.forall_mem_cons]; go_simp)) L hL)) ?_
    repeat (first | ((first | apply flow_free rfl | (apply flow_yes; (case hw => go_simp))); (intro L w' hun hrd hC; have hC := (HC.out _ _).1 hC; have hb' := hC.below; (try have hw' : Below w.heap.size w w' := by first | exact Below.trans (by (repeat (first | with_reducible (first | exact bR _ _ | assumption | refine bA ?_ _ | refine bS ?_ (by first | exact Nat.le_refl _ | (simp; done) | (simp; omega)) _) | assumption | exact bR _ _ | refine bD ?_ | refine bN ?_ _ | refine bT ?_ (by assumption)))) hb' | ((repeat (first | with_reducible (first | exact bR _ _ | assumption | refine bA ?_ _ | refine bS ?_ (by first | exact Nat.le_refl _ | (simp; done) | (simp; omega)) _) | assumption | exact bR _ _ | refine bD ?_ | refine bN ?_ _ | refine bT ?_ (by assumption))); done)); have hf' := hC.cell; (try simp only [List.forall_mem_cons] at hf'); go_simp; first | exact ⟨(HC.out _ _).2 (hC.skip _ (by rfl)), rfl⟩ | (rw [if_neg]; (exact ⟨(HC.out _ _).2 (hC.skip _ (by rfl)), rfl⟩); omega) | (go_at_call 92; (with_reducible refine (l3Term_any m a _ _ _ (HA.out.1.below hw') HA.out.2 (by omega)).mono ?_); rintro e w1 ⟨rfl, hb1⟩; exact ⟨rfl, (HC.out _ _).2 ((hC.next (by first | (simp; done) | (simp; omega) | omega) hb1).skip _ (by rfl))⟩) | (go_at_call 92; (with_reducible refine (l3Term_any m b _ _ _ (HB.out.1.below hw') HB.out.2 (by omega)).mono ?_); rintro e w1 ⟨rfl, hb1⟩; exact ⟨rfl, (HC.out _ _).2 ((hC.next (by first | (simp; done) | (simp; omega) | omega) hb1).skip _ (by rfl))⟩)); go_simp) | (apply flow_no; (case hw => (go_simp; try (intro hh; cases hh))); (intro L w' _ _ hC; exact (HC.out _ _).2 (((HC.out _ _).1 hC).skip _ (by rfl))); go_simp))
    refine flow_nil ?_
    intro L wz hL hz
    have hz := (HC.out _ _).1 hz
    have hbz := hz.below
    have hcz := hz.cell
    try simp only [List.forall_mem_cons] at hcz
    have hdz := hz.done
    try simp only [List.forall_mem_cons] at hdz
    (try have hwz : Below w.heap.size w wz := by first | exact Below.trans (by (repeat (first | with_reducible (first | exact bR _ _ | assumption | refine bA ?_ _ | refine bS ?_ (by first | exact Nat.le_refl _ | (simp; done) | (simp; omega)) _) | assumption | exact bR _ _ | refine bD ?_ | refine bN ?_ _ | refine bT ?_ (by assumption)))) hbz | ((repeat (first | with_reducible (first | exact bR _ _ | assumption | refine bA ?_ _ | refine bS ?_ (by first | exact Nat.le_refl _ | (simp; done) | (simp; omega)) _) | assumption | exact bR _ _ | refine bD ?_ | refine bN ?_ _ | refine bT ?_ (by assumption))); done))
    go_wp2
    go_ret
    exact ⟨ret_strs (by rw [HE.out]; simp [sEquals]), by exact bel⟩
  | pred n us hs hu hd =>
    have hlen := nodes_len hd
    have hq := isEq_list (nodes_noEq hd)
    simp only [Tm.n] at hq
    have HE := Lib.hid (eng_pred (us := us) hs)
    have HL := Lib.hid (show ListAt B w 2 (TmAt B m w) (.slice p us.length c) us from hl)
    have HN := Lib.hid hu
    clear hl hn hs hu hd
    show Calls Tryz.prog 54 #[.agg #[.string n, .slice p us.length c]] w _
    by_cases h0 : us = []
    · have hz2 : n.size + 6 ≤ 1000000000000 := by rw [HE.out, h0] at hz; simp [sHolds] at hz; omega
      subst h0
      clear hz
      go_enter Tryz.func54, Tryz.ntmps54
      go_wp2
      go_ret
      exact ⟨ret_strs (by rw [HE.out]; simp [sHolds]), by exact bel⟩
    · have hm := HE.out
      have hie : us.isEmpty = false := by
        cases us with
        | nil => exact absurd rfl h0
        | cons a l => rfl
      rw [hie, if_neg (by decide)] at hm
      have hjl : n.size + 10 + (joinB sComma (Tm.fmtL us)).length ≤ 1000000000000 := by rw [hm] at hz; simp [sHoldsOf] at hz ⊢; omega
      have HM2 := Lib.hid hm
      have hl0 : 0 < us.length := List.length_pos_iff.2 h0
      have hl1 : ((us.length : Int) == 0) = false := by simp; omega
      clear hz hm hie HE
      go_enter Tryz.func54, Tryz.ntmps54
      go_wp2
      obtain ⟨W, hW⟩ : ∃ W : World, W = w.alloc (.cells #[.string n, .slice p us.length c] 26) := ⟨_, rfl⟩
      have hwb : W.cell? ⟨w.heap.size, 1, none⟩ = some (.slice p us.length c) := by rw [hW]; go_simp
      have hbW : Below w.heap.size w W := by rw [hW]; exact bel
      rw [← hW]
      clear hW
      go_loopw [3, 4] (fun x i wr => ∃ k : Nat, k ≤ us.length ∧ i = .int .i64 k ∧ x = .string ⟨(n.data.toList ++ sHoldsOf ++ accT [] sComma (Tm.fmtL us) k).toArray⟩ ∧ Below W.heap.size W wr) (fun _ i _ => us.length - (intOf i).toNat)
      case atStart => exact ⟨0, Nat.zero_le _, rfl, by rw [accT_zero]; exact congrArg Value.string (by apply ByteArray.ext; simp [sHoldsOf]), Below.refl _ _⟩
      case round =>
        obtain ⟨k, hk, rfl, rfl, hbr⟩ := hrel
        have hb := Below.step hbW hbr
        have hwr := (hbr.cell (World.block_lt_of_cell? W _ hwb)).trans hwb
        have hal := accT_len [] sComma (Tm.fmtL us) k
        simp only [List.length_nil] at hal
        have hsl : sHoldsOf.length = 10 := rfl
        have HSL := Lib.hid hsl
        have hnl : (n.data.toList ++ sHoldsOf ++ accT [] sComma (Tm.fmtL us) k).length ≤ n.size + 10 + (joinB sComma (Tm.fmtL us)).length := by simp only [List.length_append, hsl]; rw [← size_list]; omega
        by_cases hlt : k < us.length
        · obtain ⟨b, o, rfl, hB, x0, x1, hx0, hx1, hx⟩ := (HL.out.mono (SameOn.below hb) (fun _ h => h) (fun x cs _ hx => TmAt.below hb hx)).at2 hlt
          have hS := fmtL_at hlt
          have hF := fmt_arg hlt sComma
          have hN := nodess_arg HN.out hlt
          obtain ⟨a, ha⟩ : ∃ a, us[k] = a := ⟨_, rfl⟩
          rw [ha] at hx
          rw [ha] at hS
          rw [ha] at hF
          rw [ha] at hN
          have HX := Lib.hid hx
          have HS := Lib.hid hS
          have HF := Lib.hid hF
          have HN := Lib.hid hN
          clear hx ha hS hF hN
          have zb := bsz (World.block_lt_of_cell? _ _ hx0)
          obtain ⟨pa, ca, rfl, rfl, -, -⟩ := HX.out.form
          have hfl : a.fmt.length ≤ 1000000000000 := by have := HF.out; omega
          by_cases hk0 : k = 0
          · have hk1 : ¬ 0 < (k : Int) := by omega
            have HA0 := Lib.hid (show accT [] sComma (Tm.fmtL us) k = [] by rw [hk0]; rfl)
            have HA := Lib.hid (show accT [] sComma (Tm.fmtL us) (k + 1) = [] ++ (Tm.fmtL us)[k]'(by rw [fmtL_len]; exact hlt) by subst hk0; exact accT_one [] sComma (Tm.fmtL us) (by rw [fmtL_len]; exact hlt))
            generalize hq : n.data.toList ++ sHoldsOf ++ accT [] sComma (Tm.fmtL us) k = x at *
            have HX0 := Lib.hid hq
            clear hk0 hq hsl
            go_wp2_with fail
            refine (l3Term_any m a _ _ _ (HX.out.below (by exact bel)) HN.out hfl).mono ?_
            rintro e w1 ⟨rfl, hb1⟩
            have ⟨cw1, fw1⟩ := bcell hb1
            have qw1 := hb1.size
            (try simp at qw1)
            (try have zw1w := bsz (show w.heap.size < w1.heap.size by omega))
            go_wp2
            refine ⟨⟨k + 1, by omega, by go_num, ?_, Below.step hbr hb1⟩, by simp [intOf]; omega⟩
            rw [HA.out, HS.out, ← HX0.out, HA0.out]
            exact congrArg Value.string (by apply ByteArray.ext; simp)
          · have hk1 : 0 < (k : Int) := by omega
            have HA := Lib.hid (accT_succ [] sComma (Tm.fmtL us) hk0 (by rw [fmtL_len]; exact hlt))
            generalize hq : n.data.toList ++ sHoldsOf ++ accT [] sComma (Tm.fmtL us) k = x at *
            have HX0 := Lib.hid hq
            clear hk0 hq hsl
            go_wp2_with fail
            refine (l3Term_any m a _ _ _ (HX.out.below (by exact bel)) HN.out hfl).mono ?_
            rintro e w1 ⟨rfl, hb1⟩
            have ⟨cw1, fw1⟩ := bcell hb1
            have qw1 := hb1.size
            (try simp at qw1)
            (try have zw1w := bsz (show w.heap.size < w1.heap.size by omega))
            go_wp2
            refine ⟨⟨k + 1, by omega, by go_num, ?_, Below.step hbr hb1⟩, by simp [intOf]; omega⟩
            rw [HA.out, HS.out, ← HX0.out]
            exact congrArg Value.string (by apply ByteArray.ext; simp [sComma])
        · obtain rfl : k = us.length := by omega
          have HA := Lib.hid (show accT [] sComma (Tm.fmtL us) us.length = [] ++ joinB sComma (Tm.fmtL us) by
            have := accT_all [] sComma (Tm.fmtL us) (by rw [fmtL_len]; omega)
            rw [fmtL_len] at this; exact this)
          generalize accT [] sComma (Tm.fmtL us) us.length = x at *
          clear hsl
          go_wp2
          go_ret
          exact ⟨ret_str (by rw [HM2.out, HA.out]; simp), hb⟩
end Go.Proofs.YtkgfanajgdelcaaGreat
