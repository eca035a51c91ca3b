import Derived.Test.YtmbkjdkjemlfkaaGreatDoorDfPart18
namespace Go.Proofs.YtmbkjdkjemlfkaaGreatDoor
set_option maxRecDepth 100000
open Go.RowKit
def Fm.notNnf (f : Fm) : Bool := !f.nnf
theorem nnfs_any : ∀ us : List Fm, us.any Fm.notNnf = !Fm.nnfs us
  | [] => rfl
  | a :: us => by rw [List.any_cons, nnfs_any us, Fm.nnfs, Fm.notNnf]; cases a.nnf <;> rfl
def Fm.isQ (f : Fm) : Bool := !f.nq
theorem nqs_any : ∀ us : List Fm, us.any Fm.isQ = !Fm.nqs us
  | [] => rfl
  | a :: us => by rw [List.any_cons, nqs_any us, Fm.nqs, Fm.isQ]; cases a.nq <;> rfl
theorem form_mem {us : List Fm} {t : Fm} (h : Fm.forms us = true) (ht : t ∈ us) : t.form = true := by
  obtain ⟨k, hk, rfl⟩ := List.getElem_of_mem ht
  exact forms_get h hk
theorem indexNnf {B : Nat → Prop} (m : Nat) (us : List Fm) (HC : ∀ (t : Fm) (v0 v1 v2 v3 v4 : Value) (w : World), t ∈ us → FmAt B m w t [v0, v1, v2, v3, v4] → Calls Tryz.prog 36 #[.agg #[v0, v1, v2, v3, v4]] w fun e w' => e = .returned (.bool (Fm.notNnf t)) ∧ Below w.heap.size w w')
    (va : Value) (w : World) (h : ListAt B w 5 (FmAt B m w) va us) :
    Calls Tryz.prog 66 #[va, .func (.func 36) #[] #[]] w (FirstAt (us.any Fm.notNnf) w) := by
  obtain ⟨p, c, rfl, hlen⟩ := h.form
  unfold maxLen at hlen
  have H := Lib.hid h
  have HN1 := Lib.hid HC
  clear h HC
  go_enter Tryz.func66, Tryz.ntmps66
  go_wp2
  go_loopw [8] (fun i wr => ∃ k : Nat, k ≤ us.length ∧ i = .int .i64 k ∧ us.any Fm.notNnf = (us.drop k).any Fm.notNnf ∧ Below w.heap.size w wr) (fun i _ => us.length - (intOf i).toNat)
  case atStart => exact ⟨0, Nat.zero_le _, rfl, rfl, by exact bel⟩
  case round =>
    obtain ⟨k, hk, rfl, he, hb⟩ := hrel
    have HE := Lib.hid he
    clear he
    by_cases hlt : k < us.length
    · obtain ⟨b, o, rfl, hB, x0, x1, x2, x3, x4, hx0, hx1, hx2, hx3, hx4, hx⟩ := (H.out.mono (SameOn.below hb) (fun _ h => h) (fun x cs _ hx => FmAt.below hb hx)).at5 hlt
      have hD := any_drop us Fm.notNnf hlt
      have hM := List.getElem_mem hlt
      obtain ⟨a, ha⟩ : ∃ a, us[k] = a := ⟨_, rfl⟩
      rw [ha] at hx
      rw [ha] at hD
      rw [ha] at hM
      have HX := Lib.hid hx
      have HD := Lib.hid hD
      have HM := Lib.hid hM
      clear hx ha hD hM
      have zb := bsz (World.block_lt_of_cell? _ _ hx0)
      cases hN : Fm.notNnf a
      all_goals
        have HN := Lib.hid hN
        go_wp2_with fail
        refine (HN1.out a x0 x1 x2 x3 x4 _ HM.out HX.out).mono ?_
        rintro e w1 ⟨rfl, hb1⟩
        have ⟨cw1, fw1⟩ := bcell hb1
        have qw1 := hb1.size
        (try simp at qw1)
        (try have zw1w := bsz (show w.heap.size < w1.heap.size by omega))
        rw [HN.out]
        go_wp2
      · refine ⟨⟨k + 1, by omega, by go_num, ?_, by exact bel⟩, by simp [intOf]; omega⟩
        rw [HE.out, HD.out, HN.out]; rfl
      · go_ret
        exact ⟨k, rfl, by rw [HE.out, HD.out, HN.out]; simp, by exact bel⟩
    · obtain rfl : k = us.length := by omega
      have he := HE.out
      rw [List.drop_length, List.any_nil] at he
      have HE2 := Lib.hid he
      clear he
      go_wp2
      go_ret
      exact ⟨-1, rfl, by rw [HE2.out]; rfl, by exact bel⟩
theorem containsNnf {B : Nat → Prop} (m : Nat) (us : List Fm) (HC : ∀ (t : Fm) (v0 v1 v2 v3 v4 : Value) (w : World), t ∈ us → FmAt B m w t [v0, v1, v2, v3, v4] → Calls Tryz.prog 36 #[.agg #[v0, v1, v2, v3, v4]] w fun e w' => e = .returned (.bool (Fm.notNnf t)) ∧ Below w.heap.size w w')
    (va : Value) (w : World) (h : ListAt B w 5 (FmAt B m w) va us) :
    Calls Tryz.prog 34 #[va, .func (.func 36) #[] #[]] w fun e w' => e = .returned (.bool (us.any Fm.notNnf)) ∧ Below w.heap.size w w' := by
  have H := Lib.hid h
  have IH := Lib.hid (indexNnf m us HC)
  clear h HC
  go_enter Tryz.func34, Tryz.ntmps34
  go_wp2_with fail
  refine (IH.out va _ H.out).mono ?_
  rintro e w1 ⟨r, rfl, hr, hb1⟩
  have HR := Lib.hid hr
  clear hr
  go_wp2
  go_ret
  exact ⟨ret_bool HR.out, hb1⟩
set_option maxHeartbeats 3200000 in
theorem isNN_any {B : Nat → Prop} : ∀ (m : Nat) (t : Fm) (v0 v1 v2 v3 v4 : Value) (w : World), FmAt B m w t [v0, v1, v2, v3, v4] → t.form = true →
      Calls Tryz.prog 13 #[.agg #[v0, v1, v2, v3, v4]] w fun e w' => e = .returned (.bool t.nnf) ∧ Below w.heap.size w w' := by
  intro m
  induction m with
  | zero => intro t v0 v1 v2 v3 v4 w h; exact h.elim
  | succ m ih =>
    rintro ⟨op, a, x, ps⟩ v0 v1 v2 v3 v4 w hfm hf
    have hl := fm_parts hfm
    have hfs : Fm.forms ps = true := by rw [Fm.form, Bool.and_eq_true] at hf; exact hf.2
    have HC := Lib.hid (fun (va : Value) (w : World) (h : ListAt B w 5 (FmAt B m w) va ps) => by
      have := containsNnf (B := B) m ps (fun t v0 v1 v2 v3 v4 w ht h => by
        have hft := form_mem hfs ht
        obtain ⟨p1, c1, q1, d1, rfl, rfl, rfl, rfl, rfl, -⟩ := h.form
        have HX := Lib.hid h
        have IH := Lib.hid ih
        clear h ih hfs hf hl hfm
        go_enter Tryz.func36, Tryz.ntmps36
        go_wp2_with fail
        refine (IH.out t _ _ _ _ _ _ (HX.out.below (by exact bel)) hft).mono ?_
        rintro e w1 ⟨rfl, hb1⟩
        have ⟨cw1, fw1⟩ := bcell hb1
        have qw1 := hb1.size
        (try simp at qw1)
        (try have zw1w := bsz (show w.heap.size < w1.heap.size by omega))
        go_wp2
        go_ret
        exact ⟨rfl, by exact bel⟩) va w h
      rw [nnfs_any] at this
      exact this)
    obtain ⟨p, c, q, d, rfl, rfl, rfl, rfl, rfl, -, -, -, -, hlen⟩ := hfm.form
    simp only [Fm.op, Fm.a, Fm.v, Fm.ps] at *
    unfold maxLen at hlen
    have HL := Lib.hid hl
    clear hfm hl hfs ih
    by_cases h7 : op = 7
    · subst h7
      clear hf
      go_enter Tryz.func13, Tryz.ntmps13
      go_wp2
      go_ret
      exact ⟨ret_bool (by rw [Fm.nnf]; rfl), by exact bel⟩
    · have e7 : (op == 7) = false := by simpa using h7
      by_cases h4 : op = 4
      · subst h4
        have h0 := form_not hf
        obtain ⟨b, o, hq, hB, x0, x1, x2, x3, x4, hx0, -, -, -, -, hx⟩ := HL.out.at5 h0
        subst hq
        have hhd := hdOp_get h0
        obtain ⟨g, hg⟩ : ∃ g, ps[0] = g := ⟨_, rfl⟩
        rw [hg] at hx hhd
        obtain ⟨-, -, -, -, rfl, -⟩ := hx.form
        simp only [Nat.zero_mul, Nat.add_zero] at hx0
        have zb := bsz (World.block_lt_of_cell? _ _ hx0)
        have hi0 : (0 : Int) < ps.length := by omega
        clear hf hx hg
        by_cases h3 : g.op = 3
        · have HN := Lib.hid (show Fm.nnf (.mk 4 a x ps) = Fm.nnfs ps by rw [Fm.nnf, hhd, h3]; rfl)
          have e3 : (g.op != 3) = false := by simpa using h3
          clear hhd h3
          go_enter Tryz.func13, Tryz.ntmps13
          go_wp2_with fail
          refine (HC.out _ _ (HL.out.mono (SameOn.below (by exact bel)) (fun _ h => h) (fun x cs _ hx => FmAt.below (by exact bel) hx))).mono ?_
          rintro e w1 ⟨rfl, hb1⟩
          have ⟨cw1, fw1⟩ := bcell hb1
          have qw1 := hb1.size
          (try simp at qw1)
          (try have zw1w := bsz (show w.heap.size < w1.heap.size by omega))
          go_wp2
          go_ret
          exact ⟨ret_bool (by rw [HN.out]; first | done | rw [Bool.not_not]), by (repeat (first | with_reducible (first | exact bR _ _ | assumption | refine bA ?_ _ | refine bS ?_ (by first | exact Nat.le_refl _ | (simp; done) | (simp; omega)) _) | assumption | exact bR _ _ | refine bD ?_ | refine bN ?_ _ | refine bT ?_ (by assumption)))⟩
        · have HN := Lib.hid (show Fm.nnf (.mk 4 a x ps) = false by rw [Fm.nnf, hhd]; simp [h3])
          have e3 : (g.op != 3) = true := by simpa using h3
          clear hhd
          go_enter Tryz.func13, Tryz.ntmps13
          go_wp2
          go_ret
          exact ⟨ret_bool HN.out.symm, by exact bel⟩
      · have e4 : (op == 4) = false := by simpa using h4
        have HN := Lib.hid (show Fm.nnf (.mk op a x ps) = Fm.nnfs ps by rw [Fm.nnf, e7, e4]; simp)
        clear hf h4 h7
        go_enter Tryz.func13, Tryz.ntmps13
        go_wp2_with fail
        refine (HC.out _ _ (HL.out.mono (SameOn.below (by exact bel)) (fun _ h => h) (fun x cs _ hx => FmAt.below (by exact bel) hx))).mono ?_
        rintro e w1 ⟨rfl, hb1⟩
        have ⟨cw1, fw1⟩ := bcell hb1
        have qw1 := hb1.size
        (try simp at qw1)
        (try have zw1w := bsz (show w.heap.size < w1.heap.size by omega))
        go_wp2
        go_ret
        exact ⟨ret_bool (by rw [HN.out]; first | done | rw [Bool.not_not]), by (repeat (first | with_reducible (first | exact bR _ _ | assumption | refine bA ?_ _ | refine bS ?_ (by first | exact Nat.le_refl _ | (simp; done) | (simp; omega)) _) | assumption | exact bR _ _ | refine bD ?_ | refine bN ?_ _ | refine bT ?_ (by assumption)))⟩
theorem index89 {w : World} {g c : Nat} (z : Int) (h0 : w.cell? ⟨g, 0, none⟩ = some (.int .i64 8)) (h1 : w.cell? ⟨g, 1, none⟩ = some (.int .i64 9)) :
    Calls Tryz.prog 65 #[.slice (some ⟨g, 0, none⟩) 2 c, .int .i64 z] w fun e w' => (∃ r : Int, e = .returned (.int .i64 r) ∧ decide (0 ≤ r) = (z == 8 || z == 9)) ∧ w = w' := by
  have zg := bsz (World.block_lt_of_cell? _ _ h0)
  go_enter Tryz.func65, Tryz.ntmps65
  go_wp2
  go_loopw [8] (fun i wr => ∃ k : Nat, k ≤ 2 ∧ i = .int .i64 k ∧ (1 ≤ k → z ≠ 8) ∧ (2 ≤ k → z ≠ 9) ∧ w = wr) (fun i _ => 2 - (intOf i).toNat)
  case atStart => exact ⟨0, by omega, rfl, fun h => by omega, fun h => by omega, rfl⟩
  case round =>
    obtain ⟨k, hk, rfl, hz8, hz9, rfl⟩ := hrel
    rcases (by omega : k = 0 ∨ k = 1 ∨ k = 2) with rfl | rfl | rfl
    · cases hz : (z == 8)
      · have hz' : ¬ z = 8 := by simpa using hz
        go_wp2
        refine ⟨⟨1, by omega, by go_num, fun _ => hz', fun h => (by omega), ?_⟩, by simp [intOf]⟩
        first | rfl | trivial
      · go_wp2
        go_ret
        exact ⟨⟨0, rfl, by rw [hz]; rfl⟩, rfl⟩
    · have h8 := hz8 (by omega)
      have e8 : (z == 8) = false := by simpa using h8
      cases hz : (z == 9)
      · have hz' : ¬ z = 9 := by simpa using hz
        go_wp2
        refine ⟨⟨2, by omega, by go_num, fun _ => h8, fun _ => hz', ?_⟩, by simp [intOf]⟩
        first | rfl | trivial
      · go_wp2
        go_ret
        exact ⟨⟨1, rfl, by rw [e8, hz]; rfl⟩, rfl⟩
    · have h8 := hz8 (by omega)
      have h9 := hz9 (by omega)
      have e8 : (z == 8) = false := by simpa using h8
      have e9 : (z == 9) = false := by simpa using h9
      go_wp2
      go_ret
      exact ⟨⟨-1, rfl, by rw [e8, e9]; rfl⟩, rfl⟩
theorem contains89 {w : World} {g c : Nat} (z : Int) (h0 : w.cell? ⟨g, 0, none⟩ = some (.int .i64 8)) (h1 : w.cell? ⟨g, 1, none⟩ = some (.int .i64 9)) :
    Calls Tryz.prog 33 #[.slice (some ⟨g, 0, none⟩) 2 c, .int .i64 z] w fun e w' => e = .returned (.bool (z == 8 || z == 9)) ∧ w = w' := by
  go_enter Tryz.func33, Tryz.ntmps33
  go_wp2_with fail
  refine (index89 z h0 h1).mono ?_
  rintro e w1 ⟨⟨r, rfl, hr⟩, rfl⟩
  have HR := Lib.hid hr
  clear hr
  go_wp2
  go_ret
  exact ⟨ret_bool HR.out, rfl⟩
def Ops89 (w : World) (g : Nat) : Prop := w.cell? ⟨g, 0, none⟩ = some (.int .i64 8) ∧ w.cell? ⟨g, 1, none⟩ = some (.int .i64 9)
theorem Ops89.below {w w' : World} {g : Nat} (h : Ops89 w g) (hb : Below w.heap.size w w') : Ops89 w' g := ⟨(hb.cell (World.block_lt_of_cell? w _ h.1)).trans h.1, (hb.cell (World.block_lt_of_cell? w _ h.2)).trans h.2⟩
theorem indexOp {B : Nat → Prop} (m : Nat) (us : List Fm) (k : Nat) (W0 : World) (HC : ∀ (t : Fm) (v0 v1 v2 v3 v4 : Value) (w : World), t ∈ us → Below W0.heap.size W0 w → FmAt B m w t [v0, v1, v2, v3, v4] → Calls Tryz.prog 35 #[.agg #[v0, v1, v2, v3, v4], .pointer (some ⟨k, 0, none⟩)] w fun e w' => e = .returned (.bool (Fm.isQ t)) ∧ Below w.heap.size w w')
    (va : Value) (w : World) (hW0 : Below W0.heap.size W0 w) (h : ListAt B w 5 (FmAt B m w) va us) :
    Calls Tryz.prog 66 #[va, .func (.func 35) #[] #[.pointer (some ⟨k, 0, none⟩)]] w (FirstAt (us.any Fm.isQ) w) := by
  obtain ⟨p, c, rfl, hlen⟩ := h.form
  unfold maxLen at hlen
  have H := Lib.hid h
  have HN1 := Lib.hid HC
  clear h HC
  go_enter Tryz.func66, Tryz.ntmps66
  go_wp2
  go_loopw [8] (fun i wr => ∃ k : Nat, k ≤ us.length ∧ i = .int .i64 k ∧ us.any Fm.isQ = (us.drop k).any Fm.isQ ∧ Below w.heap.size w wr) (fun i _ => us.length - (intOf i).toNat)
  case atStart => exact ⟨0, Nat.zero_le _, rfl, rfl, by exact bel⟩
  case round =>
    obtain ⟨k, hk, rfl, he, hb⟩ := hrel
    have HE := Lib.hid he
    clear he
    by_cases hlt : k < us.length
    · obtain ⟨b, o, rfl, hB, x0, x1, x2, x3, x4, hx0, hx1, hx2, hx3, hx4, hx⟩ := (H.out.mono (SameOn.below hb) (fun _ h => h) (fun x cs _ hx => FmAt.below hb hx)).at5 hlt
      have hD := any_drop us Fm.isQ hlt
      have hM := List.getElem_mem hlt
      obtain ⟨a, ha⟩ : ∃ a, us[k] = a := ⟨_, rfl⟩
      rw [ha] at hx
      rw [ha] at hD
      rw [ha] at hM
      have HX := Lib.hid hx
      have HD := Lib.hid hD
      have HM := Lib.hid hM
      clear hx ha hD hM
      have zb := bsz (World.block_lt_of_cell? _ _ hx0)
      cases hN : Fm.isQ a
      all_goals
        have HN := Lib.hid hN
        go_wp2_with fail
        refine (HN1.out a x0 x1 x2 x3 x4 _ HM.out (Below.step hW0 hb) HX.out).mono ?_
        rintro e w1 ⟨rfl, hb1⟩
        have ⟨cw1, fw1⟩ := bcell hb1
        have qw1 := hb1.size
        (try simp at qw1)
        (try have zw1w := bsz (show w.heap.size < w1.heap.size by omega))
        rw [HN.out]
        go_wp2
      · refine ⟨⟨k + 1, by omega, by go_num, ?_, by exact bel⟩, by simp [intOf]; omega⟩
        rw [HE.out, HD.out, HN.out]; rfl
      · go_ret
        exact ⟨k, rfl, by rw [HE.out, HD.out, HN.out]; simp, by exact bel⟩
    · obtain rfl : k = us.length := by omega
      have he := HE.out
      rw [List.drop_length, List.any_nil] at he
      have HE2 := Lib.hid he
      clear he
      go_wp2
      go_ret
      exact ⟨-1, rfl, by rw [HE2.out]; rfl, by exact bel⟩
theorem containsOp {B : Nat → Prop} (m : Nat) (us : List Fm) (k : Nat) (W0 : World) (HC : ∀ (t : Fm) (v0 v1 v2 v3 v4 : Value) (w : World), t ∈ us → Below W0.heap.size W0 w → FmAt B m w t [v0, v1, v2, v3, v4] → Calls Tryz.prog 35 #[.agg #[v0, v1, v2, v3, v4], .pointer (some ⟨k, 0, none⟩)] w fun e w' => e = .returned (.bool (Fm.isQ t)) ∧ Below w.heap.size w w')
    (va : Value) (w : World) (hW0 : Below W0.heap.size W0 w) (h : ListAt B w 5 (FmAt B m w) va us) :
    Calls Tryz.prog 34 #[va, .func (.func 35) #[] #[.pointer (some ⟨k, 0, none⟩)]] w fun e w' => e = .returned (.bool (us.any Fm.isQ)) ∧ Below w.heap.size w w' := by
  have H := Lib.hid h
  have IH := Lib.hid (indexOp m us k W0 HC)
  clear h HC
  go_enter Tryz.func34, Tryz.ntmps34
  go_wp2_with fail
  refine (IH.out va _ hW0 H.out).mono ?_
  rintro e w1 ⟨r, rfl, hr, hb1⟩
  have HR := Lib.hid hr
  clear hr
  go_wp2
  go_ret
  exact ⟨ret_bool HR.out, hb1⟩
set_option maxHeartbeats 3200000 in
theorem hasOp_any {B : Nat → Prop} (g c : Nat) : ∀ (m : Nat) (t : Fm) (v0 v1 v2 v3 v4 : Value) (w : World), FmAt B m w t [v0, v1, v2, v3, v4] → Ops89 w g →
      Calls Tryz.prog 12 #[.agg #[v0, v1, v2, v3, v4], .slice (some ⟨g, 0, none⟩) 2 c] w fun e w' => e = .returned (.bool (!t.nq)) ∧ Below w.heap.size w w' := by
  intro m
  induction m with
  | zero => intro t v0 v1 v2 v3 v4 w h; exact h.elim
  | succ m ih =>
    rintro ⟨op, a, x, ps⟩ v0 v1 v2 v3 v4 w hfm ho
    have hl := fm_parts hfm
    obtain ⟨p, pc, q, d, rfl, rfl, rfl, rfl, rfl, -, -, -, -, hlen⟩ := hfm.form
    simp only [Fm.op, Fm.a, Fm.v, Fm.ps] at *
    unfold maxLen at hlen
    obtain ⟨W, hW⟩ : ∃ W : World, W = (w.alloc (.cells #[.int .i64 op, .string a.n, .slice p a.us.length pc, .string x, .slice q ps.length d] 29)).alloc (.cells #[.slice (some ⟨g, 0, none⟩) 2 c] 71) := ⟨_, rfl⟩
    have hsW : W.heap.size = w.heap.size + 2 := by rw [hW]; simp
    have hbW : Below w.heap.size w W := by rw [hW]; exact bel
    have A0 : W.heap[w.heap.size]? = some (.cells #[.int .i64 op, .string a.n, .slice p a.us.length pc, .string x, .slice q ps.length d] 29 (0, 0)) := by rw [hW]; exact (hao _ _ _ (by simp)).trans (heap_alloc_new w _)
    have A1 : W.heap[w.heap.size + 1]? = some (.cells #[.slice (some ⟨g, 0, none⟩) 2 c] 71 (0, 0)) := by rw [hW]; have := heap_alloc_new (w.alloc (.cells #[.int .i64 op, .string a.n, .slice p a.us.length pc, .string x, .slice q ps.length d] 29)) (.cells #[.slice (some ⟨g, 0, none⟩) 2 c] 71); simpa using this
    have hoW := ho.below hbW
    have HC := Lib.hid (fun (va : Value) (w' : World) (hb : Below W.heap.size W w') (h : ListAt B w' 5 (FmAt B m w') va ps) => by
      have := containsOp (B := B) m ps (w.heap.size + 1) W (fun t v0 v1 v2 v3 v4 w2 ht hb2 h => by
        obtain ⟨p1, c1, q1, d1, rfl, rfl, rfl, rfl, rfl, -⟩ := h.form
        have HX := Lib.hid h
        have IH := Lib.hid ih
        have hz2 := hb2.size
        have HO := Lib.hid (hoW.below hb2)
        have k0 : w2.cell? ⟨w.heap.size + 1, 0, none⟩ = some (.slice (some ⟨g, 0, none⟩) 2 c) := by rw [cell_of_row w2 _ 0 _ _ (0, 0) ((hb2.block _ (by omega)).trans A1)]; rfl
        have zk := bsz (show w.heap.size + 1 < w2.heap.size by omega)
        clear h ih hl hfm ho hW hbW A0 A1 hoW
        go_enter Tryz.func35, Tryz.ntmps35
        go_wp2_with fail
        refine (IH.out t _ _ _ _ _ _ (HX.out.below (by exact bel)) (HO.out.below (by exact bel))).mono ?_
        rintro e w1 ⟨rfl, hb1⟩
        have ⟨cw1, fw1⟩ := bcell hb1
        have qw1 := hb1.size
        (try simp at qw1)
        (try have zw1w := bsz (show w.heap.size < w1.heap.size by omega))
        go_wp2
        go_ret
        exact ⟨rfl, by exact bel⟩) va w' hb h
      rw [nqs_any] at this
      exact this)
    have HL := Lib.hid (hl.mono (SameOn.below hbW) (fun _ h => h) (fun x cs _ hx => FmAt.below hbW hx))
    obtain ⟨a0, a1, a2, a3, a4⟩ := five_at A0
    have b0 : W.cell? ⟨w.heap.size + 1, 0, none⟩ = some (.slice (some ⟨g, 0, none⟩) 2 c) := by rw [cell_of_row W _ 0 _ _ (0, 0) A1]; rfl
    have za := bsz (show w.heap.size < W.heap.size by omega)
    have zb := bsz (show w.heap.size + 1 < W.heap.size by omega)
    have HO := Lib.hid hoW
    have HN := Lib.hid (show Fm.nq (.mk op a x ps) = (!(op == 8 || op == 9) && Fm.nqs ps) by rw [Fm.nq]; cases (op == 8) <;> cases (op == 9) <;> rfl)
    clear hfm hl ih ho A0 A1 hoW
    go_enter Tryz.func12, Tryz.ntmps12
    go_wp2_with fail
    rw [← hW]
    clear hW
    refine (contains89 op HO.out.1 HO.out.2).mono ?_
    rintro e w1 ⟨rfl, rfl⟩
    cases h89 : (op == 8 || op == 9)
    · have HN2 := Lib.hid h89
      go_wp2_with fail
      refine (HC.out _ _ (Below.refl _ _) HL.out).mono ?_
      rintro e w2 ⟨rfl, hb2⟩
      go_wp2
      go_ret
      exact ⟨ret_bool (by rw [HN.out, HN2.out]; rfl), Below.step hbW hb2⟩
    · have HN2 := Lib.hid h89
      go_wp2
      go_ret
      exact ⟨ret_bool (by rw [HN.out, HN2.out]; rfl), hbW⟩
end Go.Proofs.YtmbkjdkjemlfkaaGreatDoor
