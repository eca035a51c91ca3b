import Derived.Test.YtmbkjdkjemlfkaaGreatDoorDfPart9
namespace Go.Proofs.YtmbkjdkjemlfkaaGreatDoor
set_option maxRecDepth 100000
open Go.RowKit
theorem GF.parts {n W : Nat} {S : Nat → Prop} {w : World} {v0 v1 v2 v3 v4 : Value} (h : GF (n + 1) W S w (.agg #[v0, v1, v2, v3, v4])) :
    ∃ (op : Int) (a : Tm) (va : Value) (x : ByteArray) (ps : List Fm) (vp : Value) (Sa Sp : Nat → Prop), v0 = .int .i64 op ∧ v1 = .string a.n ∧ v2 = va ∧ v3 = .string x ∧ v4 = vp ∧ (-9223372036854775808 ≤ op ∧ op ≤ 9223372036854775807) ∧ x.size ≤ maxLen ∧
      TmOwn 26 n Sa w a [.string a.n, va] ∧ OwnRow Sp w 29 5 (fun T f c => FmOwn 26 29 n T w f c) vp ps ∧ (∀ b, Sa b → S b ∧ ¬ Sp b) ∧ (∀ b, Sp b → S b) ∧ a.wt + x.size + ps.length + Fm.wts ps ≤ W := by
  obtain ⟨f, va, vp, e, h2, h3⟩ := h
  obtain ⟨op, a, x, ps⟩ := f
  obtain ⟨rfl, rfl, rfl, rfl, rfl⟩ : v0 = .int .i64 op ∧ v1 = .string a.n ∧ v2 = va ∧ v3 = .string x ∧ v4 = vp := by simpa [Fm.op, Fm.a, Fm.v] using e
  obtain ⟨vn, va', vp', Sa, Sp, h1, h4, h5, h6, h7, h8, h9⟩ := h2
  simp only [Fm.op, Fm.a, Fm.v, List.cons.injEq, and_true, true_and] at h1
  obtain ⟨rfl, rfl, rfl⟩ := h1
  exact ⟨op, a, _, x, ps, _, Sa, Sp, rfl, rfl, rfl, rfl, rfl, h4, h5, h6, h7, h8, h9, h3⟩
theorem GF.of_parts {n W : Nat} {S Sa Sp : Nat → Prop} {w : World} {op : Int} {a : Tm} {va vp : Value} {x : ByteArray} {ps : List Fm} (ho : -9223372036854775808 ≤ op ∧ op ≤ 9223372036854775807) (hx : x.size ≤ maxLen) (ha : TmOwn 26 n Sa w a [.string a.n, va])
    (hp : OwnRow Sp w 29 5 (fun T f c => FmOwn 26 29 n T w f c) vp ps) (h1 : ∀ b, Sa b → S b ∧ ¬ Sp b) (h2 : ∀ b, Sp b → S b) (hW : a.wt + x.size + ps.length + Fm.wts ps ≤ W) : GF (n + 1) W S w (.agg #[.int .i64 op, .string a.n, va, .string x, vp]) :=
  ⟨.mk op a x ps, va, vp, rfl, ⟨_, _, _, Sa, Sp, rfl, ho, hx, ha, hp, h1, h2⟩, hW⟩
theorem GF.setOp {n W : Nat} {S : Nat → Prop} {w : World} {v0 v1 v2 v3 v4 : Value} {op : Int} (h : GF (n + 1) W S w (.agg #[v0, v1, v2, v3, v4])) (ho : -9223372036854775808 ≤ op ∧ op ≤ 9223372036854775807) : GF (n + 1) W S w (.agg #[.int .i64 op, v1, v2, v3, v4]) := by
  obtain ⟨op0, a, va, x, ps, vp, Sa, Sp, rfl, rfl, rfl, rfl, rfl, -, h5, h6, h7, h8, h9, h10⟩ := h.parts
  exact GF.of_parts ho h5 h6 h7 h8 h9 h10
theorem GF.setVar {n W : Nat} {S : Nat → Prop} {w : World} {v0 v1 v2 v3 v4 : Value} {y : ByteArray} (h : GF (n + 1) W S w (.agg #[v0, v1, v2, v3, v4])) (hy : y.size ≤ maxLen) : GF (n + 1) (W + y.size) S w (.agg #[v0, v1, v2, .string y, v4]) := by
  obtain ⟨op0, a, va, x, ps, vp, Sa, Sp, rfl, rfl, rfl, rfl, rfl, h4, h5, h6, h7, h8, h9, h10⟩ := h.parts
  exact GF.of_parts h4 hy h6 h7 h8 h9 (by omega)
theorem GF.setAtom {n W W2 : Nat} {S T S' : Nat → Prop} {w : World} {v0 v1 v2 v3 v4 u0 u1 : Value} (h : GF (n + 1) W S w (.agg #[v0, v1, v2, v3, v4])) (hu : GT n W2 T w (.agg #[u0, u1])) (hT : ∀ b, T b → S' b ∧ ¬ S b) (hS : ∀ b, S b → S' b) : GF (n + 1) (W + W2) S' w (.agg #[v0, u0, u1, v3, v4]) := by
  obtain ⟨op0, a, va, x, ps, vp, Sa, Sp, rfl, rfl, rfl, rfl, rfl, h4, h5, h6, h7, h8, h9, h10⟩ := h.parts
  obtain ⟨t, vt, e, k2, k3⟩ := hu
  obtain ⟨rfl, rfl⟩ : u0 = .string t.n ∧ u1 = vt := by simpa using e
  exact GF.of_parts h4 h5 k2 h7 (fun b hb => ⟨(hT b hb).1, fun h' => (hT b hb).2 (h9 b h')⟩) (fun b hb => hS b (h9 b hb)) (by omega)
def SB (w : World) (k N : Nat) (b : Nat) : Prop := w.heap.size < b ∧ b < N ∧ b ≠ k
structure FBx (n Wt : Nat) (w : World) (g m k N : Nat) (v0 v1 v2 v3 v4 : Value) (wr : World) : Prop where
  cur : Cur wr g m
  box : wr.heap[k]? = some (.cells #[v0, v1, v2, v3, v4] 29 (0, 0))
  res : wr.heap[w.heap.size]? = some (.cells fmZ 29 (0, 0))
  gf : GF n Wt (SB w k N) wr (.agg #[v0, v1, v2, v3, v4])
  gr : w.grownBy wr (some g)
  lt : g < w.heap.size ∧ w.heap.size < k ∧ N ≤ wr.heap.size
section
variable {n Wt : Nat} {w wr w2 : World} {g m m' k N : Nat} {v0 v1 v2 v3 v4 : Value}
theorem FBx.later (h : FBx n Wt w g m k N v0 v1 v2 v3 v4 wr) (hg : wr.grownBy w2 (some g)) (hc : Cur w2 g m') : FBx n Wt w g m' k N v0 v1 v2 v3 v4 w2 := by
  obtain ⟨l1, l2, l3⟩ := h.lt
  have bl : ∀ b, b < wr.heap.size → g < b → w2.heap[b]? = wr.heap[b]? := fun b hb hgb => hg.block b hb (fun e => by injection e with e; omega)
  exact ⟨hc, (bl k (blk_lt h.box) (by omega)).trans h.box, (bl _ (blk_lt h.res) l1).trans h.res, h.gf.mono (Nat.le_refl _) (Nat.le_refl _) (fun b hb hlt => bl b hlt (by have := hb.1; omega)) (fun _ h => h), gr_trans h.gr hg, l1, l2, Nat.le_trans l3 hg.size⟩
theorem FBx.cells (h : FBx n Wt w g m k N v0 v1 v2 v3 v4 wr) : (wr.cell? ⟨k, 0, none⟩ = some v0 ∧ wr.cell? ⟨k, 1, none⟩ = some v1 ∧ wr.cell? ⟨k, 2, none⟩ = some v2 ∧ wr.cell? ⟨k, 3, none⟩ = some v3 ∧ wr.cell? ⟨k, 4, none⟩ = some v4 ∧ (∀ j, wr.frozen? ⟨k, j, none⟩ = false)) ∧
    (wr.cell? ⟨w.heap.size, 0, none⟩ = some (.int .i64 0) ∧ wr.cell? ⟨w.heap.size, 1, none⟩ = some (.string ⟨#[]⟩) ∧ wr.cell? ⟨w.heap.size, 2, none⟩ = some (.slice none 0 0) ∧ wr.cell? ⟨w.heap.size, 3, none⟩ = some (.string ⟨#[]⟩) ∧ wr.cell? ⟨w.heap.size, 4, none⟩ = some (.slice none 0 0) ∧ (∀ j, wr.frozen? ⟨w.heap.size, j, none⟩ = false)) ∧ k < wr.heap.size ∧ w.heap.size < wr.heap.size :=
  ⟨row5_at h.box, row5_at h.res, blk_lt h.box, blk_lt h.res⟩
abbrev set5F (W : World) (b : Nat) (v0 v1 v2 v3 v4 : Value) : World := ((((W.setCell ⟨b, 0, none⟩ v0).setCell ⟨b, 1, none⟩ v1).setCell ⟨b, 2, none⟩ v2).setCell ⟨b, 3, none⟩ v3).setCell ⟨b, 4, none⟩ v4
theorem FBx.done {n' W' : Nat} (h : FBx n Wt w g m k N v0 v1 v2 v3 v4 wr) (hn : n ≤ n') (hW : Wt ≤ W') : GF n' W' (NewB w (set5F wr w.heap.size v0 v1 v2 v3 v4)) (set5F wr w.heap.size v0 v1 v2 v3 v4) (.agg #[v0, v1, v2, v3, v4]) ∧ Cur (set5F wr w.heap.size v0 v1 v2 v3 v4) g m ∧ w.grownBy (set5F wr w.heap.size v0 v1 v2 v3 v4) (some g) := by
  obtain ⟨l1, l2, l3⟩ := h.lt
  refine ⟨h.gf.mono hn hW ((((((SameOn.refl _ _).sc ?_ _).sc ?_ _).sc ?_ _).sc ?_ _).sc ?_ _) ?_, ?_, ?_⟩
  · intro b hb e; have := hb.1; simp at e; omega
  · intro b hb e; have := hb.1; simp at e; omega
  · intro b hb e; have := hb.1; simp at e; omega
  · intro b hb e; have := hb.1; simp at e; omega
  · intro b hb e; have := hb.1; simp at e; omega
  · intro b hb; have h1 := hb.1; have h2 := hb.2.1; unfold NewB; simp; omega
  · exact ((((h.cur.sc (p := ⟨_, _, none⟩) l1 _).sc (p := ⟨_, _, none⟩) l1 _).sc (p := ⟨_, _, none⟩) l1 _).sc (p := ⟨_, _, none⟩) l1 _).sc (p := ⟨_, _, none⟩) l1 _
  · exact gr_sc (gr_sc (gr_sc (gr_sc (gr_sc h.gr (.inr (Nat.le_refl _)) _) (.inr (Nat.le_refl _)) _) (.inr (Nat.le_refl _)) _) (.inr (Nat.le_refl _)) _) (.inr (Nat.le_refl _)) _
theorem FBx.set {n' W' N' : Nat} {u0 u1 u2 u3 u4 u : Value} {i : Nat} (h : FBx n Wt w g m k N v0 v1 v2 v3 v4 wr) (hc : (#[v0, v1, v2, v3, v4] : Array Value).setIfInBounds i u = #[u0, u1, u2, u3, u4]) (hN : N' ≤ wr.heap.size) (hgf : GF n' W' (SB w k N') wr (.agg #[u0, u1, u2, u3, u4])) : FBx n' W' w g m k N' u0 u1 u2 u3 u4 (wr.setCell ⟨k, i, none⟩ u) := by
  obtain ⟨l1, l2, l3⟩ := h.lt
  refine ⟨h.cur.sc (p := ⟨_, _, none⟩) (by show g < k; omega) _, ?_, (heap_setCell_other wr ⟨k, i, none⟩ _ _ (by show w.heap.size ≠ k; omega)).trans h.res, hgf.mono (Nat.le_refl _) (Nat.le_refl _) ((SameOn.refl _ _).sc (fun b hb e => hb.2.2 e) _) (fun _ h => h), gr_sc h.gr (.inr (by show w.heap.size ≤ k; omega)) _, l1, l2, by simpa using hN⟩
  have := heap_setCell_same wr k i _ _ u h.box
  rw [hc] at this
  exact this
end
set_option maxHeartbeats 1600000 in
theorem formula_any (g m : Nat) (w : World) (h : Cur w g m) (hm : m + 600 ≤ 1000000000) :
    Calls Tryz.prog 84 #[.pointer (some ⟨g, 0, none⟩)] w (StepO g m 572 (fun w' v => GF 8 253 (NewB w w') w' v) w) := by
  have hlt := h.lt
  have H := Lib.hid h
  have hne : w.heap.size ≠ g := by omega
  clear h
  go_enter Tryz.func84, Tryz.ntmps84
  go_wp2_with fail
  refine (pick_any g m 4 _ (H.out.al _) (by omega) (by omega) (by omega)).mono ?_
  rintro e w1 ⟨_, rfl, ⟨r, rfl, hr0, hr1⟩, hc1, hg1⟩
  have HC1 := Lib.hid hc1
  clear hc1
  have ⟨c1, f1⟩ := gcell hg1
  have hz1 := hg1.size
  (try simp at hz1)
  go_wp2_with fail
  refine (built_any g 3 (m + 2) (1 + r) _ HC1.out (by omega) (by omega) (by omega) (by omega)).mono ?_
  rintro e w2 ⟨_, rfl, ht, hc2, hg2⟩
  have HC2 := Lib.hid hc2
  clear hc2
  have ⟨c2, f2⟩ := gcell hg2
  have hz2 := hg2.size
  (try simp at hz2)
  obtain ⟨o3, s3, x3, p3, k3, e3, q3, j3, d3, rfl, -⟩ := ht.form
  have ⟨r0, r1, r2, r3, r4, rf⟩ := agg5_cells (gr_trans hg1 hg2) rfl hne
  have HA := Lib.hid (gr_trans (gr_trans (gr_al (gr_refl w g) _) hg1) hg2)
  have HT := Lib.hid ht
  have z01 := bsz (show w.heap.size < w2.heap.size by omega)
  have HZ := Lib.hid (show w.heap.size < w1.heap.size ∧ w1.heap.size ≤ w2.heap.size by omega)
  clear hg1 hg2 c1 f1 c2 f2 ht
  go_wp2_with fail
  refine bodyPost_ret (v := .agg #[.int .i64 o3, .string s3, .slice p3 k3 e3, .string x3, .slice q3 j3 d3]) (by simp only [results, Tryz.results84]; go_simp) rfl ⟨_, rfl, HT.out.mono (Nat.le_refl _) (by decide) ((((((SameOn.refl _ _).sc ?_ _).sc ?_ _).sc ?_ _).sc ?_ _).sc ?_ _) ?_, ?_, ?_⟩
  all_goals first
    | exact (((((HC2.out.more (by omega) (by omega)).sc hlt _).sc hlt _).sc hlt _).sc hlt _).sc hlt _
    | exact gr_sc (gr_sc (gr_sc (gr_sc (gr_sc HA.out (.inr (Nat.le_refl _)) _) (.inr (Nat.le_refl _)) _) (.inr (Nat.le_refl _)) _) (.inr (Nat.le_refl _)) _) (.inr (Nat.le_refl _)) _
    | (intro b hb e; have := HZ.out; unfold NewB at hb; simp at e; omega)
    | (intro b hb; have := HZ.out; unfold NewB at hb ⊢; simp; omega)
theorem upC_iff (c : UInt8) : upC c = true ↔ ¬ (c.toNat : Int) < 65 ∧ ¬ 90 < (c.toNat : Int) := by
  simp only [upC, Bool.and_eq_true, decide_eq_true_eq]; omega
theorem loC_iff (c : UInt8) : loC c = true ↔ ¬ (c.toNat : Int) < 97 ∧ ¬ 122 < (c.toNat : Int) := by
  simp only [loC, Bool.and_eq_true, decide_eq_true_eq]; omega
theorem varB_eq (s : ByteArray) : varB s.data.toList = (inB (s.size : Int) 1 4 && headTail upC smC s.data.toList) := by
  unfold varB inB; rw [← size_list]
  congr 1
  rw [Bool.eq_iff_iff]; simp; omega
theorem symB_eq (s : ByteArray) : symB s.data.toList = (inB (s.size : Int) 1 6 && headTail loC unC s.data.toList && !keyW.contains s.data.toList) := by
  unfold symB inB; rw [← size_list]
  congr 2
  rw [Bool.eq_iff_iff]; simp; omega
set_option maxHeartbeats 1600000 in
theorem l2Var_any (s : ByteArray) (w : World) (hs : s.size ≤ maxLen) :
    Calls Tryz.prog 76 #[.string s] w fun e w' => e = .returned (.bool (varB s.data.toList)) ∧ w = w' := by
  unfold maxLen at hs
  have HV := Lib.hid (varB_eq s)
  cases hB : inB (s.size : Int) 1 4
  · have HB := Lib.hid hB
    go_enter Tryz.func76, Tryz.ntmps76
    go_wp2_with (first | (go_at_call 106; refine (l1In_any _ _ _ _).mono ?_; rintro e w' ⟨rfl, rfl⟩))
    go_ret
    exact ⟨ret_bool (by rw [HV.out, HB.out]; rfl), rfl⟩
  · have HB := Lib.hid hB
    have hsz : 0 < s.size := by simp only [inB, Bool.and_eq_true, decide_eq_true_eq] at hB; omega
    have H0 := Lib.hid (headTail_take upC smC s 0 hsz)
    have HN0 := Lib.hid (headTail_no upC smC s 0 hsz)
    cases hU : upC s[0]
    · have HU := Lib.hid hU
      have hor : (s[0].toNat : Int) < 65 ∨ 90 < (s[0].toNat : Int) := by
        have := (not_congr (upC_iff s[0])).1 (by rw [hU]; simp)
        omega
      rcases hor with h1 | h1
      · go_enter Tryz.func76, Tryz.ntmps76
        go_wp2_with (first | (go_at_call 106; refine (l1In_any _ _ _ _).mono ?_; rintro e w' ⟨rfl, rfl⟩))
        go_ret
        exact ⟨ret_bool (by rw [HV.out, HN0.out (by simpa using HU.out)]; simp), rfl⟩
      · have h2 : ¬ (s[0].toNat : Int) < 65 := by omega
        go_enter Tryz.func76, Tryz.ntmps76
        go_wp2_with (first | (go_at_call 106; refine (l1In_any _ _ _ _).mono ?_; rintro e w' ⟨rfl, rfl⟩))
        go_ret
        exact ⟨ret_bool (by rw [HV.out, HN0.out (by simpa using HU.out)]; simp), rfl⟩
    · have HU := Lib.hid hU
      obtain ⟨h1, h2⟩ := (upC_iff s[0]).1 hU
      go_enter Tryz.func76, Tryz.ntmps76
      go_wp2_with (first | (go_at_call 106; refine (l1In_any _ _ _ _).mono ?_; rintro e w' ⟨rfl, rfl⟩))
      go_loop [3] (fun i => ∃ k : Nat, 1 ≤ k ∧ k ≤ s.size ∧ i = .int .i64 k ∧ headTail upC smC (s.data.toList.take k) = true) (fun i => s.size - (intOf i).toNat)
      case atStart => exact ⟨1, by omega, by omega, rfl, by rw [H0.out]; simp [HU.out, headTail]⟩
      case round =>
        obtain ⟨k, hk1, hk, rfl, hp⟩ := hrel
        have HP := Lib.hid hp; clear hp
        by_cases hlt : k < s.size
        · have HT := Lib.hid (headTail_take upC smC s k hlt)
          have HN := Lib.hid (headTail_no upC smC s k hlt)
          have hk0 : ¬ k = 0 := by omega
          cases hL : smC s[k]
          all_goals
            have HL := Lib.hid hL
            go_wp2_with (first | (go_at_call 107; refine (l2Small_any _ _).mono ?_; rintro e w' ⟨rfl, rfl⟩))
          · go_ret
            exact ⟨ret_bool (by rw [HV.out, HN.out (by rw [if_neg hk0, HL.out])]; simp), rfl⟩
          · refine ⟨⟨k + 1, by omega, by omega, by go_num, ?_⟩, by simp [intOf]; omega⟩
            rw [HT.out, HP.out, if_neg hk0, HL.out]; rfl
        · go_wp2
          go_ret
          exact ⟨ret_bool (by have := HP.out; rw [take_all _ _ (by omega)] at this; rw [HV.out, this, HB.out]; rfl), rfl⟩
theorem key_no {s : ByteArray} (h : keyW.contains s.data.toList = false) : ∀ l ∈ keyW, (s.toList == l) = false := by
  intro l hl
  rw [beq_eq_false_iff_ne, ByteArray.toList_eq]
  rintro rfl
  rw [← Bool.not_eq_true, List.contains_iff_mem] at h
  exact h hl
theorem key_yes {s : ByteArray} (h : keyW.contains s.data.toList = true) : s.toList ∈ keyW := by
  rw [ByteArray.toList_eq]; exact List.contains_iff_mem.1 h
set_option maxHeartbeats 1600000 in
theorem l2Symbol_any (s : ByteArray) (w : World) (hs : s.size ≤ maxLen) :
    Calls Tryz.prog 130 #[.string s] w fun e w' => e = .returned (.bool (symB s.data.toList)) ∧ w = w' := by
  unfold maxLen at hs
  have HV := Lib.hid (symB_eq s)
  cases hB : inB (s.size : Int) 1 6
  · have HB := Lib.hid hB
    go_enter Tryz.func130, Tryz.ntmps130
    go_wp2_with (first | (go_at_call 106; refine (l1In_any _ _ _ _).mono ?_; rintro e w' ⟨rfl, rfl⟩))
    go_ret
    exact ⟨ret_bool (by rw [HV.out, HB.out]; rfl), rfl⟩
  · have HB := Lib.hid hB
    have hsz : 0 < s.size := by simp only [inB, Bool.and_eq_true, decide_eq_true_eq] at hB; omega
    have H0 := Lib.hid (headTail_take loC unC s 0 hsz)
    have HN0 := Lib.hid (headTail_no loC unC s 0 hsz)
    cases hU : loC s[0]
    · have HU := Lib.hid hU
      have hor : (s[0].toNat : Int) < 97 ∨ 122 < (s[0].toNat : Int) := by
        have := (not_congr (loC_iff s[0])).1 (by rw [hU]; simp)
        omega
      rcases hor with h1 | h1
      · go_enter Tryz.func130, Tryz.ntmps130
        go_wp2_with (first | (go_at_call 106; refine (l1In_any _ _ _ _).mono ?_; rintro e w' ⟨rfl, rfl⟩))
        go_ret
        exact ⟨ret_bool (by rw [HV.out, HN0.out (by simpa using HU.out)]; simp), rfl⟩
      · have h2 : ¬ (s[0].toNat : Int) < 97 := by omega
        go_enter Tryz.func130, Tryz.ntmps130
        go_wp2_with (first | (go_at_call 106; refine (l1In_any _ _ _ _).mono ?_; rintro e w' ⟨rfl, rfl⟩))
        go_ret
        exact ⟨ret_bool (by rw [HV.out, HN0.out (by simpa using HU.out)]; simp), rfl⟩
    · have HU := Lib.hid hU
      obtain ⟨h1, h2⟩ := (loC_iff s[0]).1 hU
      cases hK : keyW.contains s.data.toList
      · have HK := Lib.hid hK
        have k0 : (s.toList == [116, 114, 117, 101]) = false := key_no HK.out _ (by decide)
        have k1 : (s.toList == [102, 97, 108, 115, 101]) = false := key_no HK.out _ (by decide)
        have k2 : (s.toList == [116, 114, 117, 116, 104]) = false := key_no HK.out _ (by decide)
        have k3 : (s.toList == [98, 111, 116, 104]) = false := key_no HK.out _ (by decide)
        have k4 : (s.toList == [101, 105, 116, 104, 101, 114]) = false := key_no HK.out _ (by decide)
        have k5 : (s.toList == [105, 102]) = false := key_no HK.out _ (by decide)
        have k6 : (s.toList == [97, 108, 108]) = false := key_no HK.out _ (by decide)
        have k7 : (s.toList == [115, 111, 109, 101]) = false := key_no HK.out _ (by decide)
        go_enter Tryz.func130, Tryz.ntmps130
        go_wp2_with (first | (go_at_call 106; refine (l1In_any _ _ _ _).mono ?_; rintro e w' ⟨rfl, rfl⟩))
        go_loop [3] (fun i => ∃ k : Nat, 1 ≤ k ∧ k ≤ s.size ∧ i = .int .i64 k ∧ headTail loC unC (s.data.toList.take k) = true) (fun i => s.size - (intOf i).toNat)
        case atStart => exact ⟨1, by omega, by omega, rfl, by rw [H0.out]; simp [HU.out, headTail]⟩
        case round =>
          obtain ⟨k, hk1, hk, rfl, hp⟩ := hrel
          have HP := Lib.hid hp; clear hp
          by_cases hlt : k < s.size
          · have HT := Lib.hid (headTail_take loC unC s k hlt)
            have HN := Lib.hid (headTail_no loC unC s k hlt)
            have hk0 : ¬ k = 0 := by omega
            have HUN := Lib.hid (show unC s[k] = (smC s[k] || (s[k] == 95)) from rfl)
            cases hL : smC s[k]
            · have HL := Lib.hid hL
              by_cases h9 : s[k] = 95
              · have H9 := Lib.hid h9
                have h91 : ((s[k].toNat : Int) != 95) = false := by rw [h9]; rfl
                clear h9
                go_wp2_with (first | (go_at_call 107; refine (l2Small_any _ _).mono ?_; rintro e w' ⟨rfl, rfl⟩))
                refine ⟨⟨k + 1, by omega, by omega, by go_num, ?_⟩, by simp [intOf]; omega⟩
                rw [HT.out, HP.out, if_neg hk0, HUN.out, H9.out]; rfl
              · have H9 := Lib.hid (show (s[k] == 95) = false by simpa using h9)
                have h91 : ((s[k].toNat : Int) != 95) = true := by
                  have h9n : ¬ (s[k].toNat : Int) = 95 := fun e => h9 (UInt8.toNat_inj.1 (show s[k].toNat = 95 by omega))
                  simpa using h9n
                clear h9
                go_wp2_with (first | (go_at_call 107; refine (l2Small_any _ _).mono ?_; rintro e w' ⟨rfl, rfl⟩))
                go_ret
                exact ⟨ret_bool (by rw [HV.out, HN.out (by rw [if_neg hk0, HUN.out, HL.out, H9.out]; rfl)]; simp), rfl⟩
            · have HL := Lib.hid hL
              go_wp2_with (first | (go_at_call 107; refine (l2Small_any _ _).mono ?_; rintro e w' ⟨rfl, rfl⟩))
              refine ⟨⟨k + 1, by omega, by omega, by go_num, ?_⟩, by simp [intOf]; omega⟩
              rw [HT.out, HP.out, if_neg hk0, HUN.out, HL.out]; rfl
          · go_wp2
            go_ret
            exact ⟨ret_bool (by have := HP.out; rw [take_all _ _ (by omega)] at this; rw [HV.out, this, HB.out, HK.out]; rfl), rfl⟩
      · have HK := Lib.hid hK
        have hmem := key_yes hK
        simp only [keyW, List.mem_cons, List.not_mem_nil, or_false] at hmem
        rcases hmem with h | h | h | h | h | h | h | h
        all_goals
          go_enter Tryz.func130, Tryz.ntmps130
          go_wp2_with (first | (go_at_call 106; refine (l1In_any _ _ _ _).mono ?_; rintro e w' ⟨rfl, rfl⟩))
          go_ret
          exact ⟨ret_bool (by rw [HV.out, HK.out]; simp), rfl⟩
theorem Tm.szs_drop (us : List Tm) {k : Nat} (h : k < us.length) : Tm.szs (us.drop k) = us[k].sz + Tm.szs (us.drop (k + 1)) := by
  rw [List.drop_eq_getElem_cons h, Tm.szs]
theorem Tm.szIs_drop (us : List Tm) {k : Nat} (h : k < us.length) (n : Nat) : Tm.szIs n (us.drop k) = if 30 < n then n else Tm.szIs (n + us[k].szI) (us.drop (k + 1)) := by
  rw [List.drop_eq_getElem_cons h, Tm.szIs]
theorem Tm.manys_drop (us : List Tm) {k : Nat} (h : k < us.length) (n m : Nat) : Tm.manys n (us.drop k) m = if n ≤ m then Tm.manys (n + us[k].many (m - n)) (us.drop (k + 1)) m else n := by
  rw [List.drop_eq_getElem_cons h, Tm.manys]
theorem Tm.dps_drop (us : List Tm) {k : Nat} (h : k < us.length) : Tm.dps (us.drop k) = max us[k].dp (Tm.dps (us.drop (k + 1))) := by
  rw [List.drop_eq_getElem_cons h, Tm.dps]
set_option maxHeartbeats 1600000 in
theorem size_any {B : Nat → Prop} : ∀ (m : Nat) (t : Tm) (v0 v1 : Value) (w : World), TmAt B m w t [v0, v1] → t.sz ≤ 100000000 →
      Calls Tryz.prog 112 #[.agg #[v0, v1]] w fun e w' => e = .returned (.int .i64 (t.szI : Nat)) ∧ Below w.heap.size w w' := by
  intro m
  induction m with
  | zero => intro t v0 v1 w h; exact h.elim
  | succ m ih =>
    rintro ⟨s, us⟩ v0 v1 w ⟨va, hcs, hs, hl⟩ hz
    simp only [List.cons.injEq, and_true] at hcs
    obtain ⟨rfl, rfl⟩ := hcs
    rw [Tm.sz] at hz
    obtain ⟨p, c, rfl, hlen⟩ := hl.form
    unfold maxLen at hlen
    have IH := Lib.hid ih
    have HL := Lib.hid hl
    have HSZ := Lib.hid (show (Tm.mk s us).szI = Tm.szIs 1 us from rfl)
    clear ih hl
    go_enter Tryz.func112, Tryz.ntmps112
    go_wp2
    go_loopw [3, 9] (fun n i wr => ∃ k acc : Nat, k ≤ us.length ∧ i = .int .i64 k ∧ n = .int .i64 acc ∧ Tm.szIs acc (us.drop k) = Tm.szIs 1 us ∧ acc + Tm.szs (us.drop k) ≤ 1 + Tm.szs us ∧ Below w.heap.size w wr) (fun _ i _ => us.length - (intOf i).toNat)
    case atStart => exact ⟨0, 1, Nat.zero_le _, rfl, rfl, rfl, Nat.le_refl _, by exact bel⟩
    case round =>
      obtain ⟨k, acc, hk, rfl, rfl, he, hle, hb⟩ := hrel
      have HE := Lib.hid he
      clear he
      by_cases hlt : k < us.length
      · obtain ⟨b, o, rfl, hB, x0, x1, hx0, hx1, hx⟩ := (HL.out.mono (SameOn.below hb) (fun _ h => h) (fun x cs _ hx => TmAt.below hb hx)).at2 hlt
        obtain ⟨pa, ca, rfl, rfl, -, -⟩ := hx.form
        have HD := Lib.hid (Tm.szIs_drop us hlt acc)
        have HZ := Lib.hid (Tm.szs_drop us hlt)
        obtain ⟨a, ha⟩ : ∃ a, us[k] = a := ⟨_, rfl⟩
        rw [ha] at hx HD HZ hx0 hx1
        have HX := Lib.hid hx
        have hlaw := a.szI_law
        have hzz := HZ.out
        rw [hzz] at hle
        clear hx ha hzz
        by_cases h30 : 30 < (acc : Int)
        · go_wp2
          go_ret
          exact ⟨ret_int (by rw [HSZ.out, ← HE.out, HD.out, if_pos (by omega)]), by exact bel⟩
        · go_wp2_with fail
          refine (IH.out a _ _ _ (HX.out.below (by exact bel)) (by omega)).mono ?_
          rintro e w1 ⟨rfl, hb1⟩
          have ⟨cw1, fw1⟩ := bcell hb1
          have qw1 := hb1.size
          (try simp at qw1)
          (try have zw1w := bsz (show w.heap.size < w1.heap.size by omega))
          go_wp2
          refine ⟨⟨k + 1, acc + a.szI, by omega, by go_num, by go_num, ?_, by omega, by exact bel⟩, by simp [intOf]; omega⟩
          rw [← HE.out, HD.out, if_neg (by omega)]
      · obtain rfl : k = us.length := by omega
        have he := HE.out
        rw [List.drop_length, Tm.szIs] at he
        have HE2 := Lib.hid he
        clear he
        go_wp2
        go_ret
        exact ⟨ret_int (by rw [HSZ.out, ← HE2.out]), by exact bel⟩
set_option maxHeartbeats 1600000 in
theorem depth_any {B : Nat → Prop} : ∀ (m : Nat) (t : Tm) (v0 v1 : Value) (w : World), TmAt B m w t [v0, v1] → t.sz ≤ 100000000 →
      Calls Tryz.prog 113 #[.agg #[v0, v1]] w fun e w' => e = .returned (.int .i64 (t.dp : Nat)) ∧ Below w.heap.size w w' := by
  intro m
  induction m with
  | zero => intro t v0 v1 w h; exact h.elim
  | succ m ih =>
    rintro ⟨s, us⟩ v0 v1 w ⟨va, hcs, hs, hl⟩ hz
    simp only [List.cons.injEq, and_true] at hcs
    obtain ⟨rfl, rfl⟩ := hcs
    rw [Tm.sz] at hz
    obtain ⟨p, c, rfl, hlen⟩ := hl.form
    unfold maxLen at hlen
    have IH := Lib.hid ih
    have HL := Lib.hid hl
    have HSZ := Lib.hid (show (Tm.mk s us).dp = Tm.dps us + 1 from rfl)
    clear ih hl
    go_enter Tryz.func113, Tryz.ntmps113
    go_wp2
    go_loopw [3, 9] (fun n i wr => ∃ k acc : Nat, k ≤ us.length ∧ i = .int .i64 k ∧ n = .int .i64 acc ∧ max acc (Tm.dps (us.drop k)) = Tm.dps us ∧ acc + Tm.szs (us.drop k) ≤ Tm.szs us ∧ Below w.heap.size w wr) (fun _ i _ => us.length - (intOf i).toNat)
    case atStart => exact ⟨0, 0, Nat.zero_le _, rfl, rfl, by simp, by simp, by exact bel⟩
    case round =>
      obtain ⟨k, acc, hk, rfl, rfl, he, hle, hb⟩ := hrel
      have HE := Lib.hid he
      clear he
      by_cases hlt : k < us.length
      · obtain ⟨b, o, rfl, hB, x0, x1, hx0, hx1, hx⟩ := (HL.out.mono (SameOn.below hb) (fun _ h => h) (fun x cs _ hx => TmAt.below hb hx)).at2 hlt
        obtain ⟨pa, ca, rfl, rfl, -, -⟩ := hx.form
        have HD := Lib.hid (Tm.dps_drop us hlt)
        have HZ := Lib.hid (Tm.szs_drop us hlt)
        obtain ⟨a, ha⟩ : ∃ a, us[k] = a := ⟨_, rfl⟩
        rw [ha] at hx HD HZ hx0 hx1
        have HX := Lib.hid hx
        have hlaw := a.dp_le
        have hzz := HZ.out
        rw [hzz] at hle
        clear hx ha hzz
        go_wp2_with fail
        refine (IH.out a _ _ _ (HX.out.below (by exact bel)) (by omega)).mono ?_
        rintro e w1 ⟨rfl, hb1⟩
        have ⟨cw1, fw1⟩ := bcell hb1
        have qw1 := hb1.size
        (try simp at qw1)
        (try have zw1w := bsz (show w.heap.size < w1.heap.size by omega))
        go_wp2
        refine ⟨⟨k + 1, max acc a.dp, by omega, by go_num, ?_, ?_, by omega, by exact bel⟩, by simp [intOf]; omega⟩
        · exact congrArg (Value.int .i64) (by omega)
        · rw [← HE.out, HD.out]; omega
      · obtain rfl : k = us.length := by omega
        have he := HE.out
        rw [List.drop_length, Tm.dps] at he
        have HE2 := Lib.hid he
        clear he
        go_wp2
        go_ret
        exact ⟨ret_int (by rw [HSZ.out, ← HE2.out]; omega), by exact bel⟩
theorem l1Most_any (a b : Int) (w : World) : Calls Tryz.prog 154 #[.int .i64 a, .int .i64 b] w fun e w' => e = .returned (.int .i64 (max a b)) ∧ w = w' := by
  by_cases h : b < a
  all_goals
    go_enter Tryz.func154, Tryz.ntmps154
    go_wp2
    go_ret
    exact ⟨ret_int (by omega), rfl⟩
set_option maxHeartbeats 1600000 in
theorem l2Depth_any {B : Nat → Prop} : ∀ (m : Nat) (t : Tm) (v0 v1 : Value) (w : World), TmAt B m w t [v0, v1] → t.sz ≤ 100000000 →
      Calls Tryz.prog 148 #[.agg #[v0, v1]] w fun e w' => e = .returned (.int .i64 (t.dp : Nat)) ∧ Below w.heap.size w w' := by
  intro m
  induction m with
  | zero => intro t v0 v1 w h; exact h.elim
  | succ m ih =>
    rintro ⟨s, us⟩ v0 v1 w ⟨va, hcs, hs, hl⟩ hz
    simp only [List.cons.injEq, and_true] at hcs
    obtain ⟨rfl, rfl⟩ := hcs
    rw [Tm.sz] at hz
    obtain ⟨p, c, rfl, hlen⟩ := hl.form
    unfold maxLen at hlen
    have IH := Lib.hid ih
    have HL := Lib.hid hl
    have HSZ := Lib.hid (show (Tm.mk s us).dp = Tm.dps us + 1 from rfl)
    clear ih hl
    go_enter Tryz.func148, Tryz.ntmps148
    go_wp2
    obtain ⟨W, hW⟩ : ∃ W, W = w.alloc (.cells #[.string s, .slice p us.length c] 26) := ⟨_, rfl⟩
    have hw0 : W.cell? ⟨w.heap.size, 1, none⟩ = some (.slice p us.length c) := by rw [hW]; go_simp
    have hbW : Below w.heap.size w W := by rw [hW]; exact bel
    rw [← hW]
    clear hW
    go_loopw [3, 4] (fun n i wr => ∃ k acc : Nat, k ≤ us.length ∧ i = .int .i64 k ∧ n = .int .i64 acc ∧ max acc (Tm.dps (us.drop k)) = Tm.dps us ∧ acc + Tm.szs (us.drop k) ≤ Tm.szs us ∧ Below W.heap.size W wr) (fun _ i _ => us.length - (intOf i).toNat)
    case atStart => exact ⟨0, 0, Nat.zero_le _, rfl, rfl, by simp, by simp, Below.refl _ _⟩
    case round =>
      obtain ⟨k, acc, hk, rfl, rfl, he, hle, hbr⟩ := hrel
      have HE := Lib.hid he
      clear he
      have hb := Below.step hbW hbr
      have hw1 : wr.cell? ⟨w.heap.size, 1, none⟩ = some (.slice p us.length c) := (hbr.cell (World.block_lt_of_cell? W _ hw0)).trans hw0
      by_cases hlt : k < us.length
      · obtain ⟨b, o, rfl, hB, x0, x1, hx0, hx1, hx⟩ := (HL.out.mono (SameOn.below hb) (fun _ h => h) (fun x cs _ hx => TmAt.below hb hx)).at2 hlt
        obtain ⟨pa, ca, rfl, rfl, -, -⟩ := hx.form
        have HD := Lib.hid (Tm.dps_drop us hlt)
        have HZ := Lib.hid (Tm.szs_drop us hlt)
        obtain ⟨a, ha⟩ : ∃ a, us[k] = a := ⟨_, rfl⟩
        rw [ha] at hx HD HZ hx0 hx1
        have HX := Lib.hid hx
        have hlaw := a.dp_le
        have hzz := HZ.out
        rw [hzz] at hle
        clear hx ha hzz
        go_wp2_with fail
        refine (IH.out a _ _ _ HX.out (by omega)).mono ?_
        rintro e w1 ⟨rfl, hb1⟩
        have ⟨cw1, fw1⟩ := bcell hb1
        have qw1 := hb1.size
        (try simp at qw1)
        (try have zw1w := bsz (show w.heap.size < w1.heap.size by omega))
        have hbb := Below.step hbr hb1
        go_wp2_with ((go_at_call 154; refine (l1Most_any _ _ _).mono ?_; rintro e w' ⟨rfl, rfl⟩))
        refine ⟨⟨k + 1, max acc a.dp, by omega, by go_num, ?_, ?_, by omega, hbb⟩, by simp [intOf]; omega⟩
        · exact congrArg (Value.int .i64) (by omega)
        · rw [← HE.out, HD.out]; omega
      · obtain rfl : k = us.length := by omega
        have he := HE.out
        rw [List.drop_length, Tm.dps] at he
        have HE2 := Lib.hid he
        clear he
        go_wp2
        go_ret
        exact ⟨ret_int (by rw [HSZ.out, ← HE2.out]; omega), hb⟩
set_option maxHeartbeats 1600000 in
theorem l2Many_any {B : Nat → Prop} : ∀ (m : Nat) (t : Tm) (v0 v1 : Value) (M : Nat) (z : Int) (w : World), TmAt B m w t [v0, v1] → t.sz ≤ 100000000 → z = (M : Int) → M ≤ 1000 →
      Calls Tryz.prog 147 #[.agg #[v0, v1], .int .i64 z] w fun e w' => e = .returned (.int .i64 (t.many M : Nat)) ∧ Below w.heap.size w w' := by
  intro m
  induction m with
  | zero => intro t v0 v1 M z w h; exact h.elim
  | succ m ih =>
    rintro ⟨s, us⟩ v0 v1 M z w ⟨va, hcs, hs, hl⟩ hz rfl hM
    simp only [List.cons.injEq, and_true] at hcs
    obtain ⟨rfl, rfl⟩ := hcs
    rw [Tm.sz] at hz
    obtain ⟨p, c, rfl, hlen⟩ := hl.form
    unfold maxLen at hlen
    have IH := Lib.hid ih
    have HL := Lib.hid hl
    have HSZ := Lib.hid (show (Tm.mk s us).many M = Tm.manys 1 us M from rfl)
    clear ih hl
    go_enter Tryz.func147, Tryz.ntmps147
    go_wp2
    obtain ⟨W, hW⟩ : ∃ W, W = w.alloc (.cells #[.string s, .slice p us.length c] 26) := ⟨_, rfl⟩
    have hw0 : W.cell? ⟨w.heap.size, 1, none⟩ = some (.slice p us.length c) := by rw [hW]; go_simp
    have hbW : Below w.heap.size w W := by rw [hW]; exact bel
    rw [← hW]
    clear hW
    go_loopw [5, 6] (fun n i wr => ∃ k acc : Nat, k ≤ us.length ∧ i = .int .i64 k ∧ n = .int .i64 acc ∧ Tm.manys acc (us.drop k) M = Tm.manys 1 us M ∧ acc + Tm.szs (us.drop k) ≤ 1 + Tm.szs us ∧ Below W.heap.size W wr) (fun _ i _ => us.length - (intOf i).toNat)
    case atStart => exact ⟨0, 1, Nat.zero_le _, rfl, rfl, rfl, Nat.le_refl _, Below.refl _ _⟩
    case round =>
      obtain ⟨k, acc, hk, rfl, rfl, he, hle, hbr⟩ := hrel
      have HE := Lib.hid he
      clear he
      have hb := Below.step hbW hbr
      have hw1 : wr.cell? ⟨w.heap.size, 1, none⟩ = some (.slice p us.length c) := (hbr.cell (World.block_lt_of_cell? W _ hw0)).trans hw0
      by_cases hlt : k < us.length
      · obtain ⟨b, o, rfl, hB, x0, x1, hx0, hx1, hx⟩ := (HL.out.mono (SameOn.below hb) (fun _ h => h) (fun x cs _ hx => TmAt.below hb hx)).at2 hlt
        obtain ⟨pa, ca, rfl, rfl, -, -⟩ := hx.form
        have HD := Lib.hid (Tm.manys_drop us hlt acc M)
        have HZ := Lib.hid (Tm.szs_drop us hlt)
        obtain ⟨a, ha⟩ : ∃ a, us[k] = a := ⟨_, rfl⟩
        rw [ha] at hx HD HZ hx0 hx1
        have HX := Lib.hid hx
        have hlaw := a.many_law (M - acc)
        have hzz := HZ.out
        rw [hzz] at hle
        clear hx ha hzz
        by_cases hac : acc ≤ M
        · have hac1 : (acc : Int) ≤ (M : Int) := by omega
          go_wp2_with fail
          refine (IH.out a _ _ (M - acc) _ _ HX.out (by omega) (by omega) (by omega)).mono ?_
          rintro e w1 ⟨rfl, hb1⟩
          have ⟨cw1, fw1⟩ := bcell hb1
          have qw1 := hb1.size
          (try simp at qw1)
          (try have zw1w := bsz (show w.heap.size < w1.heap.size by omega))
          have hbb := Below.step hbr hb1
          go_wp2
          refine ⟨⟨k + 1, acc + a.many (M - acc), by omega, by go_num, by go_num, ?_, by omega, hbb⟩, by simp [intOf]; omega⟩
          rw [← HE.out, HD.out, if_pos hac]
        · have hac1 : ¬ (acc : Int) ≤ (M : Int) := by omega
          go_wp2
          go_ret
          exact ⟨ret_int (by rw [HSZ.out, ← HE.out, HD.out, if_neg hac]), hb⟩
      · obtain rfl : k = us.length := by omega
        have he := HE.out
        rw [List.drop_length, Tm.manys] at he
        have HE2 := Lib.hid he
        clear he
        go_wp2
        go_ret
        exact ⟨ret_int (by rw [HSZ.out, ← HE2.out]), hb⟩
end Go.Proofs.YtmbkjdkjemlfkaaGreatDoor
