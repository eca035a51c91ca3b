import Derived.Test.YtkgfanajgdelcaaGreatEnPart31
import Derived.Test.YtkgfanajgdelcaaGreatEnPart33
import Derived.Test.YtkgfanajgdelcaaGreatEnPart34
namespace Go.Proofs.YtkgfanajgdelcaaGreat
set_option maxRecDepth 100000
open Go.RowKit
theorem code_below {w w1 : World} {v : Value} (h : CodeIn w v) (hb : Below w.heap.size w w1) : CodeIn w1 v := by
  obtain ⟨code, h1, h2⟩ := h
  exact ⟨code, h1, h2.mono (fun b hb' hlt => hb.block b hlt) (fun b hb' => Nat.lt_of_lt_of_le hb' hb.size) (fun _ _ _ h => h)⟩
theorem text_sz (l : List UInt8) : (⟨l.toArray⟩ : ByteArray).size = l.length := rfl
def DrawFm (w : World) (e : Ending) (w' : World) : Prop := ∃ v, e = .returned v ∧ GF 60 1000 (NewB w w') w' v ∧ Below w.heap.size w w'
set_option maxHeartbeats 3200000 in
theorem drawIVF_any (pp : Option Addr) (nn cc : Nat) (w : World) (h : CodeIn w (.slice pp nn cc)) : Calls Tryz.prog 16 #[.slice pp nn cc] w (DrawFm w) := by
  have H := Lib.hid (fun (w1 : World) (hb : Below w.heap.size w w1) => cur_new h hb)
  clear h
  go_enter Tryz.func16, Tryz.ntmps16
  have HW := Lib.hid (H.out (w.alloc (.cells fmZ 29)) (by exact bel))
  go_wp2_with fail
  refine (anyFormula_any (w.heap.size + 1) 0 _ (by simpa [fmZ] using HW.out) (by omega)).mono ?_
  rintro e w1 ⟨_, rfl, hf, hc1, hg1⟩
  have HC1 := Lib.hid hc1
  clear hc1
  have ⟨c1, f1⟩ := gcell hg1
  have hz1 := hg1.size
  (try simp at hz1)
  obtain ⟨o3, s3, x3, p3, k3, e3, q3, j3, d3, rfl, -⟩ := hf.form
  have hb1 : Below w.heap.size w w1 := (show Below w.heap.size w _ by exact bel).trans (gr_to_below (B := w.heap.size) hg1 (by omega) (by simp; omega))
  have hR := (hg1.block w.heap.size (by simp; omega) (by simp)).trans ((hao _ _ _ (by simp)).trans (heap_alloc_new w _))
  obtain ⟨r0, r1, r2, r3, r4, rf⟩ := row5_at hR
  have hz0 := hg1.size
  simp at hz0
  have z01 := bsz (show w.heap.size < w1.heap.size by omega)
  have HT := Lib.hid hf
  have HB := Lib.hid hb1
  clear hR hg1 c1 f1 hf hb1
  go_wp2_with fail
  refine bodyPost_ret (v := .agg #[.int .i64 o3, .string s3, .slice p3 k3 e3, .string x3, .slice q3 j3 d3]) (by simp only [results, Tryz.results16]; go_simp) rfl ⟨_, rfl, HT.out.mono (Nat.le_refl _) (Nat.le_refl _) ((((((SameOn.refl _ _).sc ?_ _).sc ?_ _).sc ?_ _).sc ?_ _).sc ?_ _) ?_, ?_⟩
  all_goals first
    | (intro b hb e; unfold NewB at hb; simp at e hb; omega)
    | (intro b hb; unfold NewB at hb ⊢; simp at hb ⊢; omega)
    | (have hb01 := HB.out; exact bel)
set_option maxHeartbeats 3200000 in
theorem drawFTE_any (pp : Option Addr) (nn cc : Nat) (w : World) (h : CodeIn w (.slice pp nn cc)) : Calls Tryz.prog 5 #[.slice pp nn cc] w (DrawFm w) := by
  obtain ⟨W, hW⟩ : ∃ W : World, W = w.alloc (.cells fmZ 29) := ⟨_, rfl⟩
  have hbW : Below w.heap.size w W := by rw [hW]; exact bel
  have hWs : W.heap.size = w.heap.size + 1 := by rw [hW]; simp
  have HR0 := Lib.hid (show W.heap[w.heap.size]? = some (.cells fmZ 29 (0, 0)) by rw [hW]; exact heap_alloc_new w _)
  have H := Lib.hid (code_below h hbW)
  unfold fmZ at hW
  clear h
  go_enter Tryz.func5, Tryz.ntmps5
  go_wp2_with fail
  rw [← hW]
  clear hW
  refine (drawIVF_any pp nn cc _ H.out).mono ?_
  rintro e w1 ⟨v, rfl, hf, hb1⟩
  obtain ⟨o3, s3, x3, p3, k3, e3, q3, j3, d3, rfl, -⟩ := hf.form
  have hr1 := (hb1.block _ (by omega)).trans HR0.out
  obtain ⟨r0, r1, r2, r3, r4, rf⟩ := row5_at hr1
  have zr1 := bsz (blk_lt hr1)
  have hb01 := Below.step hbW hb1
  have HT := Lib.hid hf
  have hqz := hb1.size
  clear hf hr1
  go_wp2_with fail
  refine bodyPost_ret (v := .agg #[.int .i64 o3, .string s3, .slice p3 k3 e3, .string x3, .slice q3 j3 d3]) (by simp only [results, Tryz.results5]; go_simp) rfl ⟨_, rfl, HT.out.mono (Nat.le_refl _) (Nat.le_refl _) ((((((SameOn.refl _ _).sc ?_ _).sc ?_ _).sc ?_ _).sc ?_ _).sc ?_ _) ?_, ?_⟩
  all_goals first
    | (intro b hb e; unfold NewB at hb; simp at e; omega)
    | (intro b hb; unfold NewB at hb ⊢; simp; omega)
    | exact bel
def DrawTx (n : Nat) (w : World) (e : Ending) (w' : World) : Prop := ∃ s : ByteArray, e = .returned (.string s) ∧ s.size ≤ n ∧ Below w.heap.size w w'
set_option maxHeartbeats 3200000 in
theorem drawETF_any (pp : Option Addr) (nn cc : Nat) (w : World) (h : CodeIn w (.slice pp nn cc)) : Calls Tryz.prog 15 #[.slice pp nn cc] w (DrawTx 8000 w) := by
  have H := Lib.hid (cur_new h (Below.refl _ _))
  clear h
  go_enter Tryz.func15, Tryz.ntmps15
  go_wp2_with fail
  refine (formula_val w.heap.size 0 _ H.out (by omega)).mono ?_
  rintro e w1 ⟨_, rfl, hf, hc1, hg1⟩
  have HC1 := Lib.hid hc1
  clear hc1
  have ⟨c1, f1⟩ := gcell hg1
  have hz1 := hg1.size
  (try simp at hz1)
  obtain ⟨f, va, vp, rfl, hO, hw, hform⟩ := hf
  obtain ⟨p, c, q, d, -, -, rfl, -, rfl, -⟩ := hO.form
  have hel : f.eng.length ≤ 7999 := by have := Fm.eng_wt _ f (Nat.le_refl _) hform; omega
  have HO := Lib.hid (And.intro hO hform)
  have hb1 : Below w.heap.size w w1 := (show Below w.heap.size w _ by exact bel).trans (gr_to_below (B := w.heap.size) hg1 (by omega) (by simp))
  have HB1 := Lib.hid hb1
  clear hO hform hg1 c1 f1 hb1
  go_wp2_with fail
  refine (l26Formula_any 8 f _ _ _ _ _ _ HO.out.1.at_ HO.out.2 (by omega)).mono ?_
  rintro e w2 ⟨rfl, hb2⟩
  have HC2 := Lib.hid (HC1.out.below hb2)
  have HB2 := Lib.hid (Below.step HB1.out hb2)
  clear hb2
  go_wp2_with fail
  refine (blurred_any w.heap.size _ ⟨f.eng.toArray⟩ _ HC2.out (by omega) (by rw [text_sz]; omega)).mono ?_
  rintro e w3 ⟨v3, rfl, ⟨s, rfl, hs⟩, hc3, hg3⟩
  have HB3 := Lib.hid (HB2.out.trans (gr_to_below (B := w.heap.size) hg3 (by omega) HB2.out.size))
  clear hg3 hc3
  go_wp2_with fail
  go_ret
  have hs2 : s.size ≤ f.eng.length + 1 := hs
  exact ⟨s, rfl, by omega, HB3.out⟩
abbrev ltZ : Array Value := #[.bool false, .string ⟨#[]⟩, .slice none 0 0]
structure LBx (n Wt : Nat) (w : World) (g m k N : Nat) (v0 v1 v2 : Value) (wr : World) : Prop where
  cur : Cur wr g m
  box : wr.heap[k]? = some (.cells #[v0, v1, v2] 57 (0, 0))
  res : wr.heap[w.heap.size]? = some (.cells ltZ 57 (0, 0))
  gl : GL n Wt (SB w k N) wr (.agg #[v0, v1, v2])
  gr : w.grownBy wr (some g)
  lt : g < w.heap.size ∧ w.heap.size < k ∧ N ≤ wr.heap.size
section
variable {n Wt : Nat} {w wr w2 : World} {g m m' k N : Nat} {v0 v1 v2 : Value}
theorem LBx.later (h : LBx n Wt w g m k N v0 v1 v2 wr) (hg : wr.grownBy w2 (some g)) (hc : Cur w2 g m') : LBx n Wt w g m' k N v0 v1 v2 w2 := by
  obtain ⟨l1, l2, l3⟩ := h.lt
  have bl : ∀ b, b < wr.heap.size → g < b → w2.heap[b]? = wr.heap[b]? := fun b hb hgb => hg.block b hb (fun e => by injection e with e; omega)
  exact ⟨hc, (bl k (blk_lt h.box) (by omega)).trans h.box, (bl _ (blk_lt h.res) l1).trans h.res, h.gl.mono (Nat.le_refl _) (Nat.le_refl _) (fun b hb hlt => bl b hlt (by have := hb.1; omega)) (fun _ h => h), gr_trans h.gr hg, l1, l2, Nat.le_trans l3 hg.size⟩
theorem LBx.cells (h : LBx n Wt w g m k N v0 v1 v2 wr) : (wr.cell? ⟨k, 0, none⟩ = some v0 ∧ wr.cell? ⟨k, 1, none⟩ = some v1 ∧ wr.cell? ⟨k, 2, none⟩ = some v2 ∧ (∀ j, wr.frozen? ⟨k, j, none⟩ = false)) ∧
    (wr.cell? ⟨w.heap.size, 0, none⟩ = some (.bool false) ∧ wr.cell? ⟨w.heap.size, 1, none⟩ = some (.string ⟨#[]⟩) ∧ wr.cell? ⟨w.heap.size, 2, none⟩ = some (.slice none 0 0) ∧ (∀ j, wr.frozen? ⟨w.heap.size, j, none⟩ = false)) ∧ k < wr.heap.size ∧ w.heap.size < wr.heap.size :=
  ⟨cells3_cell h.box, cells3_cell h.res, blk_lt h.box, blk_lt h.res⟩
abbrev set3W (W : World) (b : Nat) (v0 v1 v2 : Value) : World := ((W.setCell ⟨b, 0, none⟩ v0).setCell ⟨b, 1, none⟩ v1).setCell ⟨b, 2, none⟩ v2
theorem LBx.done {n' W' : Nat} (h : LBx n Wt w g m k N v0 v1 v2 wr) (hn : n ≤ n') (hW : Wt ≤ W') : GL n' W' (NewB w (set3W wr w.heap.size v0 v1 v2)) (set3W wr w.heap.size v0 v1 v2) (.agg #[v0, v1, v2]) ∧ Cur (set3W wr w.heap.size v0 v1 v2) g m ∧ w.grownBy (set3W wr w.heap.size v0 v1 v2) (some g) := by
  obtain ⟨l1, l2, l3⟩ := h.lt
  refine ⟨h.gl.mono hn hW ((((SameOn.refl _ _).sc ?_ _).sc ?_ _).sc ?_ _) ?_, ?_, ?_⟩
  · intro b hb e; have := hb.1; simp at e; omega
  · intro b hb e; have := hb.1; simp at e; omega
  · intro b hb e; have := hb.1; simp at e; omega
  · intro b hb; have h1 := hb.1; have h2 := hb.2.1; unfold NewB; simp; omega
  · exact ((h.cur.sc (p := ⟨_, _, none⟩) l1 _).sc (p := ⟨_, _, none⟩) l1 _).sc (p := ⟨_, _, none⟩) l1 _
  · exact gr_sc (gr_sc (gr_sc h.gr (.inr (Nat.le_refl _)) _) (.inr (Nat.le_refl _)) _) (.inr (Nat.le_refl _)) _
theorem LBx.setA {n' W' N' : Nat} {u1 u2 : Value} {b0 : Bool} (h : LBx n Wt w g m k N (.bool b0) v1 v2 wr) (hN : N' ≤ wr.heap.size) (hgt : GT n' W' (SB w k N') wr (.agg #[u1, u2])) : LBx n' W' w g m k N' (.bool b0) u1 u2 ((wr.setCell ⟨k, 1, none⟩ u1).setCell ⟨k, 2, none⟩ u2) := by
  obtain ⟨l1, l2, l3⟩ := h.lt
  refine ⟨(h.cur.sc (p := ⟨_, _, none⟩) (by show g < k; omega) _).sc (p := ⟨_, _, none⟩) (by show g < k; omega) _, ?_, (heap_setCell_other _ ⟨k, 2, none⟩ _ _ (by show w.heap.size ≠ k; omega)).trans ((heap_setCell_other wr ⟨k, 1, none⟩ _ _ (by show w.heap.size ≠ k; omega)).trans h.res), (hgt.lit b0).mono (Nat.le_refl _) (Nat.le_refl _) (((SameOn.refl _ _).sc (fun b hb e => hb.2.2 e) _).sc (fun b hb e => hb.2.2 e) _) (fun _ h => h), gr_sc (gr_sc h.gr (p := ⟨_, _, none⟩) (.inr (by show w.heap.size ≤ k; omega)) _) (p := ⟨_, _, none⟩) (.inr (by show w.heap.size ≤ k; omega)) _, l1, l2, by simpa using hN⟩
  exact heap_setCell_same _ k 2 _ _ u2 (heap_setCell_same wr k 1 _ _ u1 h.box)
theorem LBx.parts {v : Value} (h : LBx (n + 1) Wt w g m k N v0 v1 v wr) : ∃ (b : Bool) (s : ByteArray) (us : List Tm), v0 = .bool b ∧ v1 = .string s ∧ s.size ≤ maxLen ∧ OwnRow (SB w k N) wr 26 2 (fun T t c => TmOwn 26 n T wr t c) v us ∧ s.size + us.length + Tm.wts us ≤ Wt := by
  obtain ⟨⟨b, s, us⟩, va, e, ⟨va', e2, hs, hr⟩, hw⟩ := h.gl
  simp only [Tm.n, List.cons.injEq, and_true, true_and, Value.agg.injEq, Array.mk.injEq] at e e2
  obtain ⟨rfl, rfl, rfl⟩ := e
  subst e2
  exact ⟨b, s, us, rfl, rfl, hs, hr, hw⟩
theorem LBx.row {q : Option Addr} {l d : Nat} (h : LBx (n + 1) Wt w g m k N v0 v1 (.slice q l d) wr) : l ≤ Wt ∧ (∃ vals, wr.ownsRow 0 26 2 (.slice q l d) l vals) ∧ ∀ b, (Value.slice q l d).ownBlock = some b → w.heap.size < b ∧ b < wr.heap.size ∧ b ≠ k := by
  obtain ⟨b, s, us, rfl, rfl, hs, hr, hw⟩ := h.parts
  obtain ⟨l1, l2, l3⟩ := h.lt
  obtain ⟨p', c', e, -⟩ := hr.form
  simp only [Value.slice.injEq] at e
  obtain ⟨rfl, rfl, rfl⟩ := e
  obtain ⟨hm, vals, Ss, r1, r2, r3, r4⟩ := hr
  exact ⟨by omega, ⟨vals, r1⟩, fun b hb => by have := r2 b hb; exact ⟨this.1, by have := this.2.1; omega, this.2.2⟩⟩
theorem LBx.app {W1 w3 : World} {q q' : Option Addr} {l d d' W2 : Nat} {c0 c1 : Value} (h : LBx (n + 1) Wt w g m k N v0 v1 (.slice q l d) wr) (hG : wr.grownBy W1 (some g)) (hC : Cur W1 g m') (hgt : GT n W2 (NewB wr W1) W1 (.agg #[c0, c1]))
    (happ : ∀ b xs, W1.ownsRow b 26 2 (.slice q l d) l xs → b ≤ W1.heap.size → w3.ownsRow b 26 2 (.slice q' (l + 1) d') (l + 1) (xs ++ [c0, c1])) (hg3 : W1.grownBy w3 (Value.slice q l d).ownBlock) (hnr : NewRow (.slice q l d) (.slice q' (l + 1) d') W1.heap.size) (hWt : Wt ≤ 1000000) :
    LBx (n + 1) (Wt + W2 + 1) w g m' k w3.heap.size v0 v1 (.slice q' (l + 1) d') (w3.setCell ⟨k, 2, none⟩ (.slice q' (l + 1) d')) := by
  obtain ⟨-, -, hob⟩ := h.row
  obtain ⟨bb, s, us, rfl, rfl, hs, h7, h10⟩ := h.parts
  obtain ⟨l1, l2, l3⟩ := h.lt
  have hk := blk_lt h.box
  have hr := blk_lt h.res
  obtain ⟨p', c', e, -⟩ := h7.form
  simp only [Value.slice.injEq] at e
  obtain ⟨rfl, rfl, rfl⟩ := e
  obtain ⟨f, vf, ef, hf, hfw⟩ := hgt
  have hz1 := hG.size
  have hz3 := hg3.size
  have keep : ∀ b, b < wr.heap.size → b ≠ g → (Value.slice q us.length d).ownBlock ≠ some b → w3.heap[b]? = wr.heap[b]? := fun b hb hne hv => (hg3.block b (by omega) (fun e => hv e.symm)).trans (hG.block b hb (by simpa using hne))
  have hSg : ∀ b, SB w k N b → b ≠ g := fun b hb => by have := hb.1; omega
  have hrow1 := h7.mono (S' := SB w k N) (w' := W1) (R' := fun T f c => TmOwn 26 n T W1 f c) (fun b hb hlt => hG.block b hlt (by simpa using hSg b hb)) (fun _ h => h)
    (fun T y c _ hT hy => TmOwn.mono n n y c (Nat.le_refl _) (fun b hb hlt => hG.block b hlt (by simpa using hSg b (hT b hb))) (fun _ h => h) hy)
  have hcs : [c0, c1] = [.string f.n, vf] := by simpa using ef
  have hO : TmOwn 26 n (NewB wr W1) W1 f [c0, c1] := by rw [hcs]; exact hf
  obtain ⟨_, vals, _, r1, r2, _⟩ := id h7
  have hown3 : ∀ b, (Value.slice q' (us.length + 1) d').ownBlock = some b → b < w3.heap.size := fun b hb => own_lt' (happ 0 vals (own_same r1 fun b' hb' hlt => hG.block b' hlt (by simpa using hSg b' (r2 b' hb'))) (Nat.zero_le _)) hb
  have hrow3 := OwnRow.snoc (S' := SB w k w3.heap.size) (R' := fun T f c => TmOwn 26 n T w3 f c) hrow1 hO rfl (fun vals' hv => happ 0 vals' hv (Nat.zero_le _)) hg3 hnr (by unfold maxLen; omega)
    (fun b hb hS => by have h1 := hb.1; have h2 := hS.2.1; omega) (fun b hb => by have := hb.2.1; omega) (fun b hb => hb.2)
    (fun b hb => ⟨hb.1, by have := hb.2.1; omega, hb.2.2⟩) (fun b hb => ⟨by have := hb.1; omega, by have := hb.2; omega, by have := hb.1; omega⟩)
    (fun b hb => by
      rcases hnr with e | ⟨b', e, hge⟩
      · rw [e] at hb
        have hs := r2 b hb
        exact ⟨hs.1, by have := hs.2.1; omega, hs.2.2⟩
      · have hl := hown3 b hb
        rw [e] at hb; injection hb with hb
        exact ⟨by omega, hl, by omega⟩)
    (fun T y c hT hy => TmOwn.mono n n y c (Nat.le_refl _) (fun b hb hlt => hg3.block b hlt (fun e => (hT b hb).2 e.symm)) (fun _ h => h) hy)
  have hsub : ∀ b, b ≠ k → (w3.setCell ⟨k, 2, none⟩ (.slice q' (us.length + 1) d')).heap[b]? = w3.heap[b]? := fun b hb => heap_setCell_other w3 ⟨k, 2, none⟩ b _ hb
  have hg3c : Cur w3 g m' := hC.own hg3 (fun b hb => by have := (hob b hb).1; omega)
  have hgr3 : w.grownBy w3 (some g) := by
    have h1 := gr_trans h.gr hG
    exact ⟨hg3.os.trans h1.os, hg3.tape.trans h1.tape, hg3.output.trans h1.output, Nat.le_trans h1.size hz3, fun b hb hne => (hg3.block b (Nat.lt_of_lt_of_le hb h1.size) (fun e => by have := (hob b e.symm).1; omega)).trans (h1.block b hb hne)⟩
  have e : (us ++ [f]).length = us.length + 1 := by simp
  have e2 : ∀ l : List Tm, Tm.wts (l ++ [f]) = Tm.wts l + f.wt := fun l => by
    induction l with
    | nil => simp [Tm.wts]
    | cons y l ih => rw [List.cons_append, Tm.wts, Tm.wts, ih]; omega
  refine ⟨hg3c.sc (p := ⟨_, _, none⟩) (by show g < k; omega) _, ?_, (hsub _ (by omega)).trans ((keep _ hr (by omega) (fun e => by have := (hob _ e).1; omega)).trans h.res), ?_, gr_sc hgr3 (.inr (by show w.heap.size ≤ k; omega)) _, l1, l2, by simp⟩
  · have := heap_setCell_same w3 k 2 _ _ (.slice q' (us.length + 1) d') ((keep k hk (by omega) (fun e => (hob k e).2.2 rfl)).trans h.box)
    exact this
  · refine ⟨⟨bb, .mk s (us ++ [f])⟩, _, rfl, ⟨_, rfl, hs, ?_⟩, ?_⟩
    · exact hrow3.mono (fun b hb hlt => hsub b hb.2.2) (fun _ h => h) (fun T y c _ hT hy => TmOwn.mono n n y c (Nat.le_refl _) (fun b hb hlt => hsub b (hT b hb).2.2) (fun _ h => h) hy)
    · rw [Tm.wt, e2, e]; omega
end
def TmCP (g m : Nat) (W : World) (x : Value) (w : World) : Prop := GT 3 13 (NewB W.drew w) w x ∧ Cur w g (m + 30) ∧ W.drew.grownBy w (some g)
theorem TmCP.gr {g m : Nat} {W w : World} {x : Value} (h : TmCP g m W x w) : W.grownBy w (some g) := ⟨h.2.2.os, h.2.2.tape, h.2.2.output, h.2.2.size, h.2.2.block⟩
theorem TmCP.agg {g m : Nat} {W w : World} {x : Value} (h : TmCP g m W x w) : ∃ v0 v1, x = .agg #[v0, v1] ∧ v0.oneCell' = true ∧ v1.oneCell' = true := by
  obtain ⟨s3, p3, k3, e3, rfl, -⟩ := h.1.form
  exact ⟨_, _, rfl, rfl, rfl⟩
set_option maxHeartbeats 6400000 in
theorem anyLiteral_any (g m : Nat) (w : World) (h : Cur w g m) (hm : m + 300 ≤ 1000000000) :
    Calls Tryz.prog 79 #[.pointer (some ⟨g, 0, none⟩)] w (StepO g m 210 (fun w' v => GL 12 120 (NewB w w') w' v) w) := by
  have hlt := h.lt
  have H := Lib.hid h
  have hne : w.heap.size ≠ g := by omega
  clear h
  go_enter Tryz.func79, Tryz.ntmps79
  go_wp2_with fail
  refine (literal_any g m _ (H.out.al _) (by omega)).mono ?_
  rintro e w1 ⟨_, rfl, ht, hc1, hg1⟩
  have HC1 := Lib.hid hc1
  clear hc1
  have ⟨c1, f1⟩ := gcell hg1
  have hz1 := hg1.size
  (try simp at hz1)
  obtain ⟨b3, x3, q3, j3, d3, rfl, -⟩ := ht.form
  have hz0 : w.heap.size + 1 ≤ w1.heap.size := by simpa using hg1.size
  obtain ⟨W, hW⟩ : ∃ q : World, q = w1.alloc (.cells #[.bool b3, .string x3, .slice q3 j3 d3] 57) := ⟨_, rfl⟩
  have hbW : Below w1.heap.size w1 W := by rw [hW]; exact (Below.refl _ _).alloc (Nat.le_refl _) _
  have HF0 := Lib.hid (show LBx 4 29 w g (m + 64) w1.heap.size w1.heap.size (.bool b3) (.string x3) (.slice q3 j3 d3) W from
    ⟨HC1.out.below hbW, by rw [hW]; exact heap_alloc_new w1 _, (hbW.block _ (by omega)).trans ((hg1.block w.heap.size (by simp) (by simpa using hne)).trans (heap_alloc_new w _)), ht.mono (Nat.le_refl _) (Nat.le_refl _) (SameOn.below hbW) (fun b hb => ⟨by have := (show _ ≤ b from hb.1); simp at this; omega, hb.2, by have := hb.2; omega⟩), gr_below (gr_trans (gr_al (gr_refl w g) _) hg1) hbW, hlt, by omega, hbW.size⟩)
  clear ht hg1 c1 f1 hbW
  go_wp2_with fail
  rw [← hW]
  clear hW
  refine (pick_any g (m + 64) 16 _ HF0.out.cur (by omega) (by omega) (by omega)).mono ?_
  rintro e w2 ⟨_, rfl, ⟨r, rfl, hr0, hr1⟩, hc2, hg2⟩
  have HF := Lib.hid (HF0.out.later hg2 hc2)
  have hzW := hg2.size
  have HC2 := Lib.hid hc2
  clear hg2 hc2
  obtain ⟨⟨b0, b1, b2, bf⟩, ⟨r0, r1, r2, rf⟩, zk, zr⟩ := HF.out.cells
  have zk := bsz zk
  have zr := bsz zr
  rcases (by omega : r = 0 ∨ r = 1 ∨ (1 < r ∧ r ≤ 15)) with rfl | rfl | ⟨hra, hrb⟩
  · go_wp2_with fail
    refine (anyTerm_any g (m + 64 + 2) _ HC2.out (by omega)).mono ?_
    rintro e w3 ⟨_, rfl, ht, hc3, hg3⟩
    have HC3 := Lib.hid hc3
    clear hc3
    have ⟨c3, f3⟩ := gcell hg3
    have hz3 := hg3.size
    (try simp at hz3)
    obtain ⟨s4, p4, k4, e4, rfl, -⟩ := ht.form
    have HT := Lib.hid ht
    clear ht
    have HF3 := Lib.hid (HF.out.later (hg3) HC3.out)
    have hzq := (hg3).size
    clear b0 b1 b2 bf r0 r1 r2 rf zk zr hg3 c3 f3
    obtain ⟨⟨b0, b1, b2, bf⟩, ⟨r0, r1, r2, rf⟩, zk, zr⟩ := HF3.out.cells
    have zk := bsz zk
    have zr := bsz zr
    have HQ := Lib.hid ((HF3.out.setA (u1 := .string s4) (u2 := .slice p4 k4 e4) (Nat.le_refl _) (HT.out.mono (Nat.le_refl _) (Nat.le_refl _) (SameOn.refl _ _) (fun b hb => ⟨by have := (show _ ≤ b from hb.1); omega, hb.2, by have := (show _ ≤ b from hb.1); omega⟩))).done (n' := 12) (W' := 120) (by omega) (by omega))
    go_wp2
    refine bodyPost_ret (v := .agg #[.bool b3, .string s4, .slice p4 k4 e4]) (by simp only [results, Tryz.results79]; go_simp) rfl ?_
    obtain ⟨q1, q2, q3'⟩ := HQ.out
    have q2 := q2.more (n := m + 210) (by omega) (by omega)
    dsimp only [set3W] at q1 q2 q3'
    refine ⟨_, rfl, ?_, ?_, ?_⟩
    · with_reducible exact q1
    · with_reducible exact q2
    · with_reducible exact q3'
  · obtain ⟨hj3, hvals, hob⟩ := HF.out.row
    have HVALS := Lib.hid hvals
    have HOB := Lib.hid hob
    have HB4 := Lib.hid b2
    have hneB : w1.heap.size ≠ g := by omega
    clear hvals hob
    go_wp2_with fail
    go_wp2
    refine wp_region_stages [some (.pointer (some ⟨w1.heap.size, 1, none⟩)), some (.pointer (some ⟨w1.heap.size, 2, none⟩)), some (.slice q3 j3 d3), some (.pointer (some ⟨g, 0, none⟩)), none, none, none, some (.pointer (some ⟨w1.heap.size, 1, none⟩)), some (.pointer (some ⟨w1.heap.size, 2, none⟩)), none] [4, 5, 6, 9] (AppG 26 2 w1.heap.size 2 (TmCP g (m + 64 + 2) w2) (.slice q3 j3 d3) j3 w2 4 5 6) (by kernel_rfl) (by kernel_rfl) (by first | kernel_rfl | rfl) (by rfl) rfl ?_
    refine chain_st rfl rfl (by decide) rfl (by intro j u w' hS; go_simp; first | done | exact ⟨hS, rfl⟩ | exact hS | rfl) ?_
    go_simp
    refine chain_st rfl rfl (by decide) rfl (by intro j u w' hS; go_simp; first | done | exact ⟨hS, rfl⟩ | exact hS | rfl) ?_
    go_simp
    refine chain_stb (c := 6) 2 rfl rfl (by decide) rfl rfl rfl (by first | kernel_rfl | rfl) ?_ ?_
    · intro j u w' hj hS
      have hc := AppG.cell (fun _ _ h => TmCP.gr h) HB4.out hneB hj hS
      go_simp
      first | done | exact ⟨hS, rfl⟩ | exact hS | rfl
    go_simp
    refine chain_st rfl rfl (by decide) rfl (by intro j u w' hS; go_simp; first | done | exact ⟨hS, rfl⟩ | exact hS | rfl) ?_
    go_simp
    refine chain_first rfl rfl rfl (by decide) rfl ?_ ?_
    · intro w' hS
      obtain rfl : w' = w2.drew := hS
      go_simp
      refine (term_any' g (m + 64 + 2) w2.drew (HC2.out.below ((Below.refl _ _).drew)) (by omega)).mono ?_
      rintro e w'' ⟨x, he, h1, h2, h3⟩
      exact ⟨x, he, by show TmCP _ _ _ (upd _ 4 x 4) w''; rw [upd_same]; exact ⟨h1, h2, h3⟩⟩
    intro x
    go_simp
    refine chain_next 0 rfl rfl rfl rfl (by decide) rfl (by first | kernel_rfl | rfl) ?_ ?_
    · intro w' hS
      have hS : TmCP g (m + 64 + 2) w2 (upd _ 4 x 4) w' := hS
      rw [upd_same] at hS
      obtain ⟨u0, u1, rfl, o0, o1⟩ := hS.agg
      go_simp
      exact ⟨w', #[u0, u1], hS, by rw [upd_same], rfl⟩
    intro y
    go_simp
    refine chain_next 1 rfl rfl rfl rfl (by decide) rfl (by first | kernel_rfl | rfl) ?_ ?_
    · intro w' hS
      obtain ⟨w1', cs, hcp, hy, rfl⟩ := hS
      rw [upd_same] at hy
      subst hy
      obtain ⟨u0, u1, he, o0, o1⟩ := hcp.agg
      simp only [Value.agg.injEq] at he
      subst he
      have hG1 := hcp.gr
      obtain ⟨vals, r1⟩ := HVALS.out
      refine each_app1 (.tmp 17) (.tmp 20) _ rfl 0 26 2 40 elemTmI (.slice q3 j3 d3) j3 vals rfl w1' #[u0, u1] rfl rfl (own_same r1 fun b hb hl => hG1.block b hl (by have := HOB.out b hb; simp; omega)) rfl (by intro u hu; simp at hu; rcases hu with rfl | rfl <;> assumption) (by omega) (by unfold maxLen; omega) (Nat.zero_le _) ?_
      intro v' w3 happ hg3 hnr hsz
      exact ⟨w1', #[u0, u1], hcp, by rw [upd_same]; exact happ, hg3, by rw [upd_same]; exact hnr, hsz⟩
    intro z
    go_simp
    refine chain_st rfl rfl (by decide) rfl (by intro j u w' hS; go_simp; first | done | exact ⟨hS, rfl⟩ | exact hS | rfl) ?_
    go_simp
    refine chain_st rfl rfl (by decide) rfl (by intro j u w' hS; go_simp; first | done | exact ⟨hS, rfl⟩ | exact hS | rfl) ?_
    go_simp
    refine chain_next 2 rfl rfl rfl rfl (by decide) rfl (by first | kernel_rfl | rfl) ?_ ?_
    · intro w' hS
      obtain ⟨w1', cs, hcp, happ, hg3, hnr, hsz⟩ := hS
      rw [upd_same] at happ hnr
      obtain ⟨vals, r1⟩ := HVALS.out
      have hG1 := hcp.gr
      have hw1 := hG1.size
      have h1 := happ 0 vals (own_same r1 fun b hb hl => hG1.block b hl (by have := HOB.out b hb; simp; omega)) (Nat.zero_le _)
      obtain ⟨q', c', rfl⟩ := own_form h1 (by omega)
      have hbt : w'.heap[w1.heap.size]? = some (.cells #[.bool b3, .string x3, .slice q3 j3 d3] 57 (0, 0)) := (hg3.block _ (by omega) (fun e => (HOB.out _ e.symm).2.2 rfl)).trans ((hG1.block _ zk.1 (by simpa using hneB)).trans HF.out.box)
      have hcell : w'.cell? ⟨w1.heap.size, 2, none⟩ = some (.slice q3 j3 d3) := by rw [cell_of_row w' _ 2 _ _ (0, 0) hbt]; rfl
      have hfro : w'.frozen? ⟨w1.heap.size, 2, none⟩ = false := frozen_of_row w' _ 2 _ _ hbt
      clear hbt
      go_simp
      refine ⟨w1', w', cs, hcp, ?_, hg3, ?_, hsz, ?_⟩
      · rw [upd_other _ _ (by decide), upd_same]; exact happ
      · rw [upd_other _ _ (by decide), upd_same]; exact hnr
      · rw [upd_other _ _ (by decide), upd_same]
    intro x'
    refine flowU_nil ?_
    intro wz hz
    obtain ⟨w1', w3', cs, hcp, happ, hg3, hnr, hsz, rfl⟩ := hz
    simp only [upd_other _ _ (show (6 : Nat) ≠ 9 by decide), upd_same] at happ hnr
    rw [upd_other _ _ (by decide), upd_same]
    obtain ⟨u0, u1, he, -⟩ := hcp.agg
    simp only [Value.agg.injEq] at he
    subst he
    obtain ⟨vals, r1⟩ := HVALS.out
    have hG1 := hcp.gr
    have hw1 := hG1.size
    have h1 := happ 0 vals (own_same r1 fun b hb hl => hG1.block b hl (by have := HOB.out b hb; simp; omega)) (Nat.zero_le _)
    obtain ⟨q', c', rfl⟩ := own_form h1 (by omega)
    have HF5 := Lib.hid (HF.out.app hG1 hcp.2.1 (hcp.1.mono (Nat.le_refl _) (Nat.le_refl _) (SameOn.refl _ _) (fun b hb => ⟨by simpa using hb.1, hb.2⟩)) happ hg3 hnr (by omega))
    obtain ⟨W5, hW5⟩ : ∃ q, q = w3'.setCell ⟨w1.heap.size, 2, none⟩ (.slice (some ⟨q', 0, none⟩) (j3 + 1) c') := ⟨_, rfl⟩
    rw [← hW5] at HF5 ⊢
    clear hW5 b0 b1 b2 bf r0 r1 r2 rf zk zr h1 hcp happ hg3 hnr hsz hG1 hw1
    obtain ⟨⟨b0, b1, b2, bf⟩, ⟨r0, r1, r2, rf⟩, zk, zr⟩ := HF5.out.cells
    have zk := bsz zk
    have zr := bsz zr
    have HQ := Lib.hid (HF5.out.done (n' := 12) (W' := 120) (by omega) (by omega))
    go_wp2
    refine bodyPost_ret (v := .agg #[.bool b3, .string x3, .slice (some ⟨q', 0, none⟩) (j3 + 1) c']) (by simp only [results, Tryz.results79]; go_simp) rfl ?_
    obtain ⟨q1, q2, q3'⟩ := HQ.out
    have q2 := q2.more (n := m + 210) (by omega) (by omega)
    dsimp only [set3W] at q1 q2 q3'
    refine ⟨_, rfl, ?_, ?_, ?_⟩
    · with_reducible exact q1
    · with_reducible exact q2
    · with_reducible exact q3'
  · have e0 : (r == 0) = false := by simp; omega
    have e1 : (r == 1) = false := by simp; omega
    have HQ := Lib.hid (HF.out.done (n' := 12) (W' := 120) (by omega) (by omega))
    go_wp2
    refine bodyPost_ret (v := .agg #[.bool b3, .string x3, .slice q3 j3 d3]) (by simp only [results, Tryz.results79]; go_simp) rfl ?_
    obtain ⟨q1, q2, q3'⟩ := HQ.out
    have q2 := q2.more (n := m + 210) (by omega) (by omega)
    dsimp only [set3W] at q1 q2 q3'
    refine ⟨_, rfl, ?_, ?_, ?_⟩
    · with_reducible exact q1
    · with_reducible exact q2
    · with_reducible exact q3'
def OwnC (B : Nat → Prop) (m : Nat) : Prop := ∀ (t : Tm) (v0 v1 : Value) (w : World), TmAt B m w t [v0, v1] → t.wt ≤ 1048576 →
  Calls Tryz.prog 135 #[.agg #[v0, v1]] w fun e w' => ∃ u0 u1, e = .returned (.agg #[u0, u1]) ∧ TmOwn 26 m (fun b => w.heap.size ≤ b ∧ b < w'.heap.size) w' t [u0, u1] ∧ Below w.heap.size w w'
def OwnRel (n : ByteArray) (us : List Tm) (m rb bt : Nat) (w : World) (i : Value) (wr : World) : Prop :=
  ∃ (k : Nat) (v : Value), k ≤ us.length ∧ i = .int .i64 (k : Nat) ∧ LSt 26 rb bt n w m v (us.take k) wr
set_option maxHeartbeats 3200000 in
theorem l2Own_any {B : Nat → Prop} : ∀ m : Nat, OwnC B m := by
  intro m
  induction m with
  | zero => intro t v0 v1 w h; exact h.elim
  | succ m ih =>
    rintro ⟨n, us⟩ v0 v1 w ⟨va, he, hn, hl⟩ hw
    simp only [List.cons.injEq, and_true] at he
    obtain ⟨rfl, rfl⟩ := he
    obtain ⟨p, c, rfl, hlen⟩ := hl.form
    rw [Tm.wt] at hw
    unfold maxLen at hlen
    have HL := Lib.hid hl
    have HN := Lib.hid hn
    have IH := Lib.hid ih
    clear ih hl hn
    go_enter Tryz.func135, Tryz.ntmps135
    go_wp2
    obtain ⟨wp, hwp⟩ : ∃ wp : World, wp = w.alloc (.cells #[.string n, .slice p us.length c] 26) := ⟨_, rfl⟩
    have hsz : wp.heap.size = w.heap.size + 1 := by rw [hwp]; simp
    have hbp : Below w.heap.size w wp := by rw [hwp]; exact bel
    have hpb : wp.heap[w.heap.size]? = some (.cells #[.string n, .slice p us.length c] 26 (0, 0)) := by rw [hwp]; exact heap_alloc_new w _
    rw [← hwp]
    clear hwp
    have HL0 := Lib.hid (LSt.init (T := 26) (n := n) (w := wp) (f := m) (Below.refl _ _))
    simp only [World.size_alloc, hsz] at HL0
    have HLP := Lib.hid (HL.out.mono (SameOn.below hbp) (fun _ h => h) (fun x cs _ hx => TmAt.below hbp hx))
    go_loopw [4] (OwnRel n us m (w.heap.size + 1) (w.heap.size + 1 + 1) wp) (fun i _ => us.length - (intOf i).toNat)
    case atStart => exact ⟨0, _, Nat.zero_le _, rfl, HL0.out⟩
    case round =>
      obtain ⟨k, v, hk, rfl, hls⟩ := hrel
      have HLS := Lib.hid hls
      clear hls HL0
      have hlt0 := HLS.out.lt
      have hbw := HLS.out.bel
      have hzr := hbw.size
      have hpr : wr.heap[w.heap.size]? = _ := (hbw.block _ (by omega)).trans hpb
      obtain ⟨a0, a1, af⟩ := cells2_cell hpr
      have za := bsz (show w.heap.size < wr.heap.size by omega)
      by_cases hlt : k < us.length
      · have hlti : (k : Int) < us.length := by omega
        obtain ⟨b, o, hpe, hB, x0, x1, hx0, hx1, hx⟩ := HLP.out.at2 hlt
        subst hpe
        have hwa := Tm.wts_le us hlt
        have hbl : b < wp.heap.size := World.block_lt_of_cell? _ _ hx0
        obtain ⟨a, ha⟩ : ∃ a, us[k] = a := ⟨_, rfl⟩
        have HTK := Lib.hid (show us.take (k + 1) = us.take k ++ [a] by rw [List.take_succ_eq_append_getElem hlt, ha])
        rw [ha] at hx hwa
        have HX := Lib.hid (TmAt.below hbw hx)
        clear hx ha
        have hlk : (us.take k).length = k := by rw [List.length_take]; omega
        obtain ⟨pa, ca, rfl, rfl, -⟩ := HX.out.form
        have hy0 : wr.cell? ⟨b, o + k * 2, none⟩ = some (.string a.n) := (World.cell?_of_block (hbw.block _ hbl)).trans hx0
        have hy1 : wr.cell? ⟨b, o + k * 2 + 1, none⟩ = some (.slice pa a.us.length ca) := (World.cell?_of_block (hbw.block _ hbl)).trans hx1
        obtain ⟨hm, vals, Ss, hv1, hv2, -⟩ := HLS.out.row
        have hnb : ∀ b', b' ≤ w.heap.size + 1 + 1 → v.ownBlock ≠ some b' := fun b' hb' e => by have := (hv2 b' e).1; omega
        rw [hlk] at hv1
        obtain ⟨b0, b1, bf⟩ := cells2_cell HLS.out.cell
        have HB1 := Lib.hid b1
        have HY := Lib.hid (And.intro a1 (And.intro hy0 hy1))
        have HNB := Lib.hid hnb
        have HV := Lib.hid hv1
        clear hv1 hv2 hnb hx0 hx1 hy0 hy1 b0 b1 bf
        go_wp2
        clear a0 a1 af
        obtain ⟨CP, hCP0⟩ : ∃ CP : Value → World → Prop, CP = fun x w' => ∃ u0 u1, x = .agg #[u0, u1] ∧ TmOwn 26 m (fun b => wr.heap.size ≤ b ∧ b < w'.heap.size) w' a [u0, u1] ∧ Below wr.heap.size wr w' := ⟨_, rfl⟩
        have HCP := Lib.hid hCP0
        have HGR := Lib.hid (show ∀ x w', CP x w' → wr.grownBy w' (some (w.heap.size + 1)) from by
          rw [hCP0]; rintro x w' ⟨_, _, _, _, hG⟩; exact ⟨hG.os, hG.tape, hG.output, hG.size, fun k hk _ => hG.block k hk⟩)
        have HAGG := Lib.hid (show ∀ x w', CP x w' → ∃ v0 v1, x = .agg #[v0, v1] ∧ v0.oneCell' = true ∧ v1.oneCell' = true from by
          rw [hCP0]; rintro x w' ⟨v0, v1, hx, hO, _⟩
          obtain ⟨pp, cc, rfl, rfl, -⟩ := hO.form
          exact ⟨_, _, hx, rfl, rfl⟩)
        clear hCP0
        have HKEEP := Lib.hid (show ∀ (b' j : Nat) (u : Nat → Value) (w' : World), AppSt 26 (w.heap.size + 1) (w.heap.size + 1 + 1) CP v k wr 7 8 9 j u w' → b' < wp.heap.size → w'.heap[b']? = wr.heap[b']? from
          fun b' j u w' h hlt => AppSt.keep HGR.out (by omega) (by omega) (HNB.out b' (by omega)) (by omega) h)
        refine wp_region_stages [some (.pointer (some ⟨w.heap.size + 1 + 1, 1, none⟩)), some v, some (.pointer (some ⟨w.heap.size, 1, none⟩)), some (.slice (some ⟨b, o, none⟩) us.length c), some (.int .i64 (k : Nat)), some (.pointer (some ⟨b, o + k * 2, none⟩)), some (.agg #[.string a.n, .slice pa a.us.length ca]), none, none, none, some (.pointer (some ⟨w.heap.size + 1 + 1, 1, none⟩)), none] [7, 8, 9, 11] (AppSt 26 (w.heap.size + 1) (w.heap.size + 1 + 1) CP v k wr 7 8 9) (by kernel_rfl) (by kernel_rfl) (by first | kernel_rfl | rfl) (by rfl) rfl ?_
        refine chain_st rfl rfl (by decide) rfl (by intro j u w' hS; go_simp; first | done | exact ⟨hS, rfl⟩ | exact hS | rfl) ?_
        go_simp
        refine chain_stb (c := 9) 2 rfl rfl (by decide) rfl rfl rfl (by first | kernel_rfl | rfl) ?_ ?_
        · intro j u w' hj hS
          have hc := AppSt.cell HGR.out HB1.out (by omega) hj hS
          go_simp
          first | done | exact ⟨hS, rfl⟩ | exact hS | rfl
        go_simp
        refine chain_st rfl rfl (by decide) rfl (by intro j u w' hS; go_simp; first | done | exact ⟨hS, rfl⟩ | exact hS | rfl) ?_
        go_simp
        refine chain_st rfl rfl (by decide) rfl ?_ ?_
        · intro j u w' hS
          have hc : w'.cell? ⟨w.heap.size, 1, none⟩ = _ := (World.cell?_of_block (HKEEP.out w.heap.size j u w' hS (by omega))).trans HY.out.1
          go_simp
          first | done | exact ⟨hS, rfl⟩ | exact hS | rfl
        go_simp
        refine chain_st rfl rfl (by decide) rfl (by intro j u w' hS; go_simp; first | done | exact ⟨hS, rfl⟩ | exact hS | rfl) ?_
        go_simp
        refine chain_st rfl rfl (by decide) rfl (by intro j u w' hS; go_simp; first | done | exact ⟨hS, rfl⟩ | exact hS | rfl) ?_
        go_simp
        refine chain_st rfl rfl (by decide) rfl ?_ ?_
        · intro j u w' hS
          have hc0 : w'.cell? ⟨b, o + k * 2, none⟩ = _ := (World.cell?_of_block (HKEEP.out b j u w' hS hbl)).trans HY.out.2.1
          have hc1 : w'.cell? ⟨b, o + k * 2 + 1, none⟩ = _ := (World.cell?_of_block (HKEEP.out b j u w' hS hbl)).trans HY.out.2.2
          go_simp
          first | done | exact ⟨hS, rfl⟩ | exact hS | rfl
        go_simp
        refine chain_first rfl rfl rfl (by decide) rfl ?_ ?_
        · intro w' hS
          obtain rfl : w' = wr.drew := hS
          go_simp
          refine (IH.out a _ _ _ (TmAt.below (by exact bel) HX.out) (by omega)).mono ?_
          rintro e w'' ⟨u0, u1, he, hx⟩
          refine ⟨_, he, ?_⟩
          show CP (upd _ 7 _ 7) w''
          rw [upd_same, HCP.out]
          exact ⟨u0, u1, rfl, hx.1, ⟨hx.2.os, hx.2.tape, hx.2.output, hx.2.size, hx.2.block⟩⟩
        intro x
        go_simp
        refine chain_next 0 rfl rfl rfl rfl (by decide) rfl (by first | kernel_rfl | rfl) ?_ ?_
        · intro w' hS
          have hS : CP (upd _ 7 x 7) w' := hS
          rw [upd_same] at hS
          obtain ⟨v0, v1, rfl, o0, o1⟩ := HAGG.out _ _ hS
          go_simp
          exact ⟨w', v0, v1, hS, by rw [upd_same], rfl⟩
        intro y
        go_simp
        refine chain_next 1 rfl rfl rfl rfl (by decide) rfl (by first | kernel_rfl | rfl) ?_ ?_
        · intro w' hS
          obtain ⟨w1', v0, v1, hcp, hy, rfl⟩ := hS
          rw [upd_same] at hy
          subst hy
          obtain ⟨v0', v1', he, o0, o1⟩ := HAGG.out _ _ hcp
          simp only [Value.agg.injEq, Array.mk.injEq, List.cons.injEq, and_true] at he
          obtain ⟨rfl, rfl⟩ := he
          have hG1 := HGR.out _ _ hcp
          have hv2 := HV.out
          have hkw : w1'.ownsRow 0 26 2 v k vals := own_same hv2 (fun b' hb' hl => hG1.block b' hl (by
            obtain ⟨-, vals2, Ss2, -, q2, -⟩ := HLS.out.row
            have := q2 b' hb'
            simp; omega))
          refine each_app1 (.tmp 16) (.tmp 23) _ rfl 0 26 2 40 elemTmI v k vals rfl w1' #[v0, v1] rfl rfl hkw rfl (by intro u hu; simp at hu; rcases hu with rfl | rfl <;> assumption) (by omega) (by unfold maxLen; omega) (Nat.zero_le _) ?_
          intro v' w3 happ hg3 hnr hsz
          exact ⟨w1', v0, v1, hcp, by rw [upd_same]; exact happ, hg3, by rw [upd_same]; exact hnr, hsz⟩
        intro z
        go_simp
        refine chain_st rfl rfl (by decide) rfl (by intro j u w' hS; simp only [baseV10]; go_simp; first | done | exact ⟨hS, rfl⟩ | exact hS | rfl) ?_
        simp only [baseV10]
        go_simp
        refine chain_next 2 rfl rfl rfl rfl (by decide) rfl (by first | kernel_rfl | rfl) ?_ ?_
        · intro w' hS
          obtain ⟨w1', v0, v1, hcp, happ, hg3, hnr, hsz⟩ := hS
          rw [upd_same] at happ hnr
          have hcp2 := hcp
          rw [HCP.out] at hcp2
          obtain ⟨u0, u1, he, hO, hB1⟩ := hcp2
          simp only [Value.agg.injEq, Array.mk.injEq, List.cons.injEq, and_true] at he
          obtain ⟨rfl, rfl⟩ := he
          have HL1 := HLS.out.later hB1
          have hkw : w1'.ownsRow 0 26 2 v k vals := own_same HV.out (fun b' hb' hl => hB1.block b' hl)
          have happ0 := happ 0 vals hkw (Nat.zero_le _)
          rw [← hlk] at happ0
          obtain ⟨⟨q', c', rfl⟩, hbt, -⟩ := HL1.three happ0 hg3
          have hcell : w'.cell? ⟨w.heap.size + 1 + 1, 1, none⟩ = some v := by rw [cell_of_row w' _ 1 _ _ (0, 0) hbt]; rfl
          have hfro : w'.frozen? ⟨w.heap.size + 1 + 1, 1, none⟩ = false := frozen_of_row w' _ 1 _ _ hbt
          clear hbt
          rw [hlk] at happ0
          simp only [hlk] at happ hnr
          go_simp
          refine ⟨w1', w', v0, v1, hcp, ?_, hg3, ?_, hsz, ?_⟩
          · rw [upd_other _ _ (by decide), upd_same]; exact happ
          · rw [upd_other _ _ (by decide), upd_same]; exact hnr
          · rw [upd_other _ _ (by decide), upd_same]
        intro x'
        refine flowU_nil ?_
        intro wz hz
        obtain ⟨w1', w3', v0, v1, hcp, happ, hg3, hnr, hsz, rfl⟩ := hz
        rw [upd_other _ _ (by decide), upd_same] at happ hnr
        rw [HCP.out] at hcp
        obtain ⟨u0, u1, he, hO, hB1⟩ := hcp
        simp only [Value.agg.injEq, Array.mk.injEq, List.cons.injEq, and_true] at he
        obtain ⟨rfl, rfl⟩ := he
        have hkw : w1'.ownsRow 0 26 2 v (us.take k).length vals := by rw [hlk]; exact own_same HV.out (fun b' hb' hl => hB1.block b' hl)
        have happ0 := happ 0 vals (by rw [hlk] at hkw; exact hkw) (Nat.zero_le _)
        have HZ := Lib.hid (HLS.out.app (a := a) hB1 hO hkw (by rw [hlk]; exact happ0) hg3 hnr (by omega))
        rw [← HTK.out] at HZ
        have hu9 : upd (upd (upd (upd (fun x => undef) 7 x) 8 y) 9 z) 11 x' 9 = z := by rw [upd_other _ _ (by decide), upd_same]
        rw [hu9]
        clear happ hnr hO hB1 hkw happ0 hg3 hsz
        go_simp
        go_wp2
        exact ⟨⟨k + 1, z, by omega, by go_num, HZ.out⟩, by simp [intOf]; omega⟩
      · obtain rfl : k = us.length := by omega
        have HTA := Lib.hid (show us.take us.length = us from List.take_length)
        rw [HTA.out] at HLS
        obtain ⟨pv, cv, hvv, -⟩ := HLS.out.row.form
        subst hvv
        obtain ⟨b0, b1, bf⟩ := cells2_cell HLS.out.cell
        obtain ⟨r0, r1, rf⟩ := cells2_cell HLS.out.res
        have zb := bsz (show w.heap.size + 1 < wr.heap.size by omega)
        have zb1 := bsz (show w.heap.size + 1 + 1 < wr.heap.size by omega)
        go_wp2
        refine bodyPost_ret (v := .agg #[.string n, .slice pv us.length cv]) (by simp only [results, Tryz.results135]; go_simp) rfl ⟨_, _, rfl, ?_⟩
        obtain ⟨h1, h2⟩ := LSt.out HLS.out HN.out (.string n) (.slice pv us.length cv)
        exact ⟨TmOwn.mono _ _ _ _ (Nat.le_refl _) (SameOn.refl _ _) (fun q hq => ⟨by omega, hq.2⟩) h2, hbp.trans (h1.mono hbp.size)⟩
end Go.Proofs.YtkgfanajgdelcaaGreat
