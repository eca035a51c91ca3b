import Derived.Test.YtmbkjdkjemlfkaaGreatDoorDfPart7
namespace Go.Proofs.YtmbkjdkjemlfkaaGreatDoor
set_option maxRecDepth 100000
open Go.RowKit
theorem setsName0 (T : TypeId) (v : Value) : ∀ (w : World) (bt : Nat) (s s' : ByteArray), w.heap[bt]? = some (mkNm s T v) → (w.setCell ⟨bt, 0, none⟩ (.string s')).heap[bt]? = some (mkNm s' T v) := fun w bt s s' h => by simpa [mkNm] using heap_setCell_same w bt 0 _ T (.string s') h
theorem NSt.named {R : (Nat → Prop) → World → Tm → List Value → Prop} (hR : KeepR R) {eT : TypeId} {sz : Nat} {s s' : ByteArray} {T : TypeId} {X : Nat → Prop} {w W : World} {g m bt : Nat} {v : Value} {xs : List Tm} (h : NSt R eT sz (mkNm s T) X w g m bt v xs W) : NSt R eT sz (mkNm s' T) X w g m bt v xs (W.setCell ⟨bt, 0, none⟩ (.string s')) := by
  obtain ⟨l1, l2⟩ := h.lt
  refine ⟨h.cur.sc (by show g < bt; omega) _, setsName0 T v W bt s s' h.cell, ?_, gr_sc h.gr (.inr l2) _, h.lt, h.x.1, fun b hb => by simpa using h.x.2 b hb⟩
  exact h.row.mono (fun b hb hlt => heap_setCell_other W ⟨bt, 0, none⟩ b _ (fun e => by have e' : b = bt := e; exact hb.2.2 (e' ▸ h.x.1))) (fun b hb => by simpa using hb)
      (fun S x c _ hS hx => hR _ _ _ _ _ _ (fun b hb hlt => heap_setCell_other W ⟨bt, 0, none⟩ b _ (fun e => by have e' : b = bt := e; exact (hS b hb).2.2 (e' ▸ h.x.1))) (fun _ h => h) hx)
def T3P (g m : Nat) (W : World) (x : Value) (w : World) : Prop := GT 3 13 (NewB W w) w x ∧ Cur w g m ∧ W.grownBy w (some g)
def C3 (g m : Nat) (W : World) (a b c : Value) (w : World) : Prop := ∃ w1 w2, T3P g (m + 30) W a w1 ∧ T3P g (m + 60) w1 b w2 ∧ T3P g (m + 90) w2 c w
def App3 (g m bt : Nat) (vv : Value) (n : Nat) (W : World) : Nat → (Nat → Value) → World → Prop
  | 0, _, w => w = W.drew
  | 1, u, w => T3P g (m + 30) W.drew (u 3) w
  | 2, u, w => ∃ w1, T3P g (m + 30) W.drew (u 3) w1 ∧ T3P g (m + 60) w1 (u 5) w
  | 3, u, w => C3 g m W.drew (u 3) (u 5) (u 7) w
  | 4, u, w => ∃ w3 a0 a1 b0 b1 c0 c1, C3 g m W.drew (.agg #[a0, a1]) (.agg #[b0, b1]) (.agg #[c0, c1]) w3 ∧ u 8 = .slice (some ⟨w3.heap.size, 0, none⟩) 3 3 ∧ w = w3.alloc (.cells #[a0, a1, b0, b1, c0, c1] 26)
  | 5, u, w => ∃ w3 a0 a1 b0 b1 c0 c1, C3 g m W.drew (.agg #[a0, a1]) (.agg #[b0, b1]) (.agg #[c0, c1]) w3 ∧ (∀ b xs, w3.ownsRow b 26 2 vv n xs → b ≤ w3.heap.size → w.ownsRow b 26 2 (u 9) (n + 3) (xs ++ [a0, a1, b0, b1, c0, c1])) ∧ w3.grownBy w vv.ownBlock ∧ NewRow vv (u 9) w3.heap.size ∧ w3.heap.size < w.heap.size
  | 6, u, w => ∃ w3 w5 a0 a1 b0 b1 c0 c1, C3 g m W.drew (.agg #[a0, a1]) (.agg #[b0, b1]) (.agg #[c0, c1]) w3 ∧ (∀ b xs, w3.ownsRow b 26 2 vv n xs → b ≤ w3.heap.size → w5.ownsRow b 26 2 (u 9) (n + 3) (xs ++ [a0, a1, b0, b1, c0, c1])) ∧ w3.grownBy w5 vv.ownBlock ∧ NewRow vv (u 9) w3.heap.size ∧ w3.heap.size < w5.heap.size ∧ w = w5.setCell ⟨bt, 1, none⟩ (u 9)
  | _, _, _ => False
theorem T3P.gr {g m : Nat} {W w : World} {x : Value} (h : T3P g m W x w) : W.grownBy w (some g) := h.2.2
theorem C3.gr {g m : Nat} {W w : World} {x y z : Value} (h : C3 g m W x y z w) : W.grownBy w (some g) := by
  obtain ⟨w1, w2, h1, h2, h3⟩ := h
  exact gr_trans (gr_trans h1.gr h2.gr) h3.gr
theorem C3.parts {g m : Nat} {W w3 : World} {a0 a1 b0 b1 c0 c1 : Value} (hg : g < W.heap.size) (h : C3 g m W (.agg #[a0, a1]) (.agg #[b0, b1]) (.agg #[c0, c1]) w3) : ∃ (w1 w2 : World) (t1 t2 t3 : Tm), W.heap.size ≤ w1.heap.size ∧ w1.heap.size ≤ w2.heap.size ∧ w2.heap.size ≤ w3.heap.size ∧ Cur w3 g (m + 90) ∧ t1.wt ≤ 13 ∧ t2.wt ≤ 13 ∧ t3.wt ≤ 13 ∧
    TmR 3 (NewB W w1) w3 t1 [a0, a1] ∧ TmR 3 (NewB w1 w2) w3 t2 [b0, b1] ∧ TmR 3 (NewB w2 w3) w3 t3 [c0, c1] := by
  obtain ⟨w1, w2, ⟨⟨t1, v1, e1, h1, g1⟩, _, r1⟩, ⟨⟨t2, v2, e2, h2, g2⟩, _, r2⟩, ⟨⟨t3, v3, e3, h3, g3⟩, hc, r3⟩⟩ := h
  simp only [Value.agg.injEq, Array.mk.injEq, List.cons.injEq, and_true] at e1 e2 e3
  obtain ⟨rfl, rfl⟩ := e1
  obtain ⟨rfl, rfl⟩ := e2
  obtain ⟨rfl, rfl⟩ := e3
  have z1 := r1.size
  have z2 := r2.size
  have z3 := r3.size
  refine ⟨w1, w2, t1, t2, t3, z1, z2, z3, hc, g1, g2, g3, TmOwn.mono _ _ _ _ (Nat.le_refl _) (sameOn_grown (gr_trans r2 r3) (fun b hb => by have := hb.1; omega)) (fun _ h => h) h1, TmOwn.mono _ _ _ _ (Nat.le_refl _) (sameOn_grown r3 (fun b hb => by have := hb.1; omega)) (fun _ h => h) h2, h3⟩
theorem NSt.app3 {mk : Value → Obj} {X : Nat → Prop} {w W w3 w5 : World} {g m m' bt : Nat} {v' : Value} {p : Option Addr} {c : Nat} {us : List Tm} {a0 a1 b0 b1 c0 c1 : Value} (hmk : SetsTo mk 1) (h : NSt (TmR 3) 26 2 mk X w g m bt (.slice p us.length c) us W) (hC : C3 g m' W.drew (.agg #[a0, a1]) (.agg #[b0, b1]) (.agg #[c0, c1]) w3)
    (happ : ∀ b xs, w3.ownsRow b 26 2 (.slice p us.length c) us.length xs → b ≤ w3.heap.size → w5.ownsRow b 26 2 v' (us.length + 3) (xs ++ [a0, a1, b0, b1, c0, c1])) (hg : w3.grownBy w5 (Value.slice p us.length c).ownBlock) (hnr : NewRow (.slice p us.length c) v' w3.heap.size) (hlen : us.length ≤ 1000000) :
    ∃ t1 t2 t3 : Tm, t1.wt ≤ 13 ∧ t2.wt ≤ 13 ∧ t3.wt ≤ 13 ∧ NSt (TmR 3) 26 2 mk X w g (m' + 90) bt v' (us ++ [t1] ++ [t2] ++ [t3]) (w5.setCell ⟨bt, 1, none⟩ v') := by
  have hgw : g < W.heap.size := h.cur.lt
  obtain ⟨w1, w2, t1, t2, t3, z1, z2, z3, hcur, g1, g2, g3, o1, o2, o3⟩ := hC.parts (by simpa using hgw)
  simp only [World.size_drew] at z1
  have hGW : W.grownBy w3 (some g) := gr_trans (gr_dr (gr_refl W g)) hC.gr
  have H3 := h.later (keepTmR 3) hGW hcur
  obtain ⟨l1, l2⟩ := h.lt
  have hz5 := hg.size
  have hz0 := h.gr.size
  have hvb := h.vb
  have hxl := h.x.2
  obtain ⟨vals, hv⟩ := H3.own
  have ho := happ 0 vals hv (Nat.zero_le _)
  obtain ⟨q, c', rfl⟩ := own_form ho (by omega)
  have hq5 : q < w5.heap.size := own_lt' ho (g := q) rfl
  have hq : (w.heap.size ≤ q ∧ q < W.heap.size ∧ ¬ X q) ∨ w3.heap.size ≤ q := by
    rcases hnr with e | ⟨b', e, hge⟩
    · exact .inl (hvb q e.symm)
    · have e' : q = b' := by simpa [Value.ownBlock] using e
      exact .inr (by omega)
  have hvl : vals.length = us.length * 2 := hv.1
  have hrow0 : OwnRow (fun b => w.heap.size ≤ b ∧ b < W.heap.size ∧ ¬ X b) w3 26 2 (fun S x c => TmR 3 S w3 x c) (.slice p us.length c) us :=
    h.row.mono (fun b hb hlt => hGW.block b hlt (by simp; omega)) (fun _ h => h) (fun S x c _ hS hx => keepTmR 3 _ _ _ _ _ _ (fun b hb hlt => hGW.block b hlt (by have := hS b hb; simp; omega)) (fun _ h => h) hx)
  have k1 : ∀ (T : Nat → Prop) (y : Tm) (cs : List Value), (∀ b, T b → b < w3.heap.size ∧ (Value.slice p us.length c).ownBlock ≠ some b) → TmR 3 T w3 y cs → TmR 3 T w5 y cs :=
    fun T y cs hT hx => keepTmR 3 _ _ _ _ _ _ (fun b hb hlt => hg.block b hlt (fun e => (hT b hb).2 e.symm)) (fun _ h => h) hx
  have hrow1 := OwnRow.snoc (w' := w5) (v' := .slice (some ⟨q, 0, none⟩) (us.length + 1) c') (R' := fun S x c => TmR 3 S w5 x c) (S' := fun b => (w.heap.size ≤ b ∧ b < W.heap.size ∧ ¬ X b) ∨ NewB W w1 b ∨ b = q) hrow0 (Sx := NewB W w1) (x := t1) o1 rfl (fun vs hvs => by
      rw [own_unique hvs hv]
      have := own_take (k := us.length + 1) ho (by omega) (by omega)
      rw [List.take_append, hvl] at this
      rw [show (us.length + 1) * 2 - us.length * 2 = 2 by omega, List.take_of_length_le (show vals.length ≤ (us.length + 1) * 2 by omega)] at this
      exact this) hg (by
      rcases hnr with e | ⟨b', e, hge⟩
      · exact .inl e
      · exact .inr ⟨b', e, hge⟩) (by unfold maxLen; omega) (fun b hb hS => by have := hb.1; omega) (fun b hb => by omega) (fun b hb => by have := hb.2; omega) (fun b hb => .inl hb) (fun b hb => .inr (.inl hb)) (fun b hb => by injection hb with hb; exact .inr (.inr hb.symm)) k1
  have nv : ∀ b, NewB w1 w3 b → (Value.slice p us.length c).ownBlock ≠ some b := fun b hb e => by have := hvb b e; have := hb.1; omega
  have e1 : (us ++ [t1]).length = us.length + 1 := by simp
  have e2 : (us ++ [t1] ++ [t2]).length = us.length + 2 := by simp
  have hrow2 := OwnRow.grow (size := 2) (S' := fun b => ((w.heap.size ≤ b ∧ b < W.heap.size ∧ ¬ X b) ∨ NewB W w1 b ∨ b = q) ∨ NewB w1 w2 b) (xs := us ++ [t1]) (x := t2) (cs := [b0, b1]) (by rw [e1]; exact hrow1) (Sx := NewB w1 w2) (k1 _ _ _ (fun b hb => ⟨by have := hb.2; omega, nv b ⟨hb.1, by have := hb.2; omega⟩⟩) o2) rfl ho (by omega)
    (by rw [e1, List.drop_append, hvl, List.drop_of_length_le (by omega)]; rw [show (us.length + 1) * 2 - us.length * 2 = 2 by omega]; rfl)
    (fun b hb hS => by
      have h1 := hb.1
      have h2 := hb.2
      rcases hS with hS | hS | hS
      · omega
      · have := hS.2; omega
      · subst hS; omega) (fun b hb => by
      rcases hb with hS | hS | hS
      · omega
      · have := hS.2; omega
      · omega) (fun b hb => by have := hb.2; omega) (fun b hb => .inl hb) (fun b hb => .inr hb)
  have hrow3 := OwnRow.grow (size := 2) (S' := fun b => w.heap.size ≤ b ∧ b < w5.heap.size ∧ ¬ X b) (xs := us ++ [t1] ++ [t2]) (x := t3) (cs := [c0, c1]) (by rw [e2]; rw [e1] at hrow2; exact hrow2) (Sx := NewB w2 w3) (k1 _ _ _ (fun b hb => ⟨hb.2, nv b ⟨by have := hb.1; omega, hb.2⟩⟩) o3) rfl ho (by omega)
    (by rw [e2, List.drop_append, hvl, List.drop_of_length_le (by omega)]; rw [show (us.length + 2) * 2 - us.length * 2 = 4 by omega]; rfl)
    (fun b hb hS => by
      have h1 := hb.1
      have h2 := hb.2
      rcases hS with (hS | hS | hS) | hS
      · omega
      · have := hS.2; omega
      · subst hS; omega
      · have := hS.2; omega) (fun b hb => by
      rcases hb with (hS | hS | hS) | hS
      · omega
      · have := hS.2; omega
      · omega
      · have := hS.2; omega) (fun b hb => by have := hb.2; omega) (fun b hb => by
      rcases hb with (hS | hS | hS) | hS
      · exact ⟨hS.1, by omega, hS.2.2⟩
      · have h1 := hS.1; have h2 := hS.2; exact ⟨by omega, by omega, fun hx => by have := hxl b hx; omega⟩
      · subst hS
        rcases hq with hq | hq
        · exact ⟨hq.1, hq5, hq.2.2⟩
        · exact ⟨by omega, hq5, fun hx => by have := hxl b hx; omega⟩
      · have h1 := hS.1; have h2 := hS.2; exact ⟨by omega, by omega, fun hx => by have := hxl b hx; omega⟩) (fun b hb => by have h1 := hb.1; have h2 := hb.2; exact ⟨by omega, by omega, fun hx => by have := hxl b hx; omega⟩)
  rw [e2] at hrow3
  have hxk := (H3.three (n := us.length + 3) (by omega) ho hg).2
  refine ⟨t1, t2, t3, g1, g2, g3, ?_, hmk w5 bt _ _ ((hxk bt h.x.1).trans H3.cell), ?_, ?_, h.lt, h.x.1, fun b hb => by have := hxl b hb; simp; omega⟩
  · exact (hcur.own hg (fun b hb => by have := hvb b hb; omega)).sc (by show g < bt; omega) _
  · exact hrow3.mono (fun b hb hlt => heap_setCell_other w5 ⟨bt, 1, none⟩ b _ (fun e => by have e' : b = bt := e; exact hb.2.2 (e' ▸ h.x.1))) (fun b hb => by simpa using hb)
      (fun S x c _ hS hx => keepTmR 3 _ _ _ _ _ _ (fun b hb hlt => heap_setCell_other w5 ⟨bt, 1, none⟩ b _ (fun e => by have e' : b = bt := e; exact (hS b hb).2.2 (e' ▸ h.x.1))) (fun _ h => h) hx)
  · have h2 := H3.gr
    exact gr_sc ⟨hg.os.trans h2.os, hg.tape.trans h2.tape, hg.output.trans h2.output, Nat.le_trans h2.size hg.size, fun b hb hne => (hg.block b (by omega) (fun e => by have := hvb b e.symm; omega)).trans (h2.block b hb hne)⟩ (.inr (by show w.heap.size ≤ bt; omega)) _
theorem App3.cell {g m bt n : Nat} {vv v' : Value} {W : World} {b o : Nat} (hc : W.cell? ⟨b, o, none⟩ = some v') (hne : b ≠ g) {j : Nat} (hj : j ≤ 4) {u : Nat → Value} {w : World} (h : App3 g m bt vv n W j u w) : w.cell? ⟨b, o, none⟩ = some v' := by
  have hc' : W.drew.cell? ⟨b, o, none⟩ = some v' := hc
  match j, hj, h with
  | 0, _, h => obtain rfl : w = W.drew := h; exact hc'
  | 1, _, h => exact grown_cell (T3P.gr h) hc' (by simpa using hne)
  | 2, _, h => obtain ⟨w1, h1, h2⟩ := h; exact grown_cell (gr_trans h1.gr h2.gr) hc' (by simpa using hne)
  | 3, _, h => exact grown_cell (C3.gr h) hc' (by simpa using hne)
  | 4, _, h =>
    obtain ⟨w3, a0, a1, b0, b1, c0, c1, h1, _, rfl⟩ := h
    have h2 := grown_cell h1.gr hc' (by simpa using hne)
    exact (((Below.refl w3.heap.size w3).alloc (Nat.le_refl _) _).cell (World.block_lt_of_cell? w3 _ h2)).trans h2
theorem Tm.wts_set : ∀ (us : List Tm) (i : Nat) (a : Tm) (h : i < us.length), Tm.wts (us.set i a) + us[i].wt = Tm.wts us + a.wt
  | b :: us, 0, a, _ => by simp only [List.set_cons_zero, Tm.wts, List.getElem_cons_zero]; omega
  | b :: us, i + 1, a, h => by
    have := Tm.wts_set us i a (by simpa using h)
    simp only [List.set_cons_succ, Tm.wts, List.getElem_cons_succ]; omega
def Put0 (g m q : Nat) (va : Value) (ce : Array Value) (T : TypeId) (W : World) : Nat → (Nat → Value) → World → Prop
  | 0, _, w => w = W.drew
  | 1, u, w => u 3 = .slice (some ⟨W.heap.size, 0, none⟩) 4 4 ∧ w = W.drew.alloc (.cells ce T)
  | 2, u, w => ∃ s : ByteArray, u 4 = .string s ∧ s.size ≤ 2 ∧ Cur w g (m + 2) ∧ W.grownBy w (some g)
  | 3, u, w => ∃ s : ByteArray, u 10 = .agg #[.string s, va] ∧ s.size ≤ 2 ∧ Cur w g (m + 2) ∧ W.grownBy w (some g)
  | 4, _, w => ∃ (s : ByteArray) (w3 : World), s.size ≤ 2 ∧ Cur w3 g (m + 2) ∧ W.grownBy w3 (some g) ∧ w = (w3.setCell ⟨q, 0, none⟩ (.string s)).setCell ⟨q, 1, none⟩ va
  | _, _, _ => False
theorem Put0.cell {g m q : Nat} {va v' : Value} {ce : Array Value} {T : TypeId} {W : World} {b o : Nat} (hc : W.cell? ⟨b, o, none⟩ = some v') (hne : b ≠ g) {j : Nat} (hj : j ≤ 3) {u : Nat → Value} {w : World} (h : Put0 g m q va ce T W j u w) : w.cell? ⟨b, o, none⟩ = some v' := by
  have hc' : W.drew.cell? ⟨b, o, none⟩ = some v' := hc
  match j, hj, h with
  | 0, _, h => obtain rfl : w = W.drew := h; exact hc'
  | 1, _, h => obtain ⟨_, rfl⟩ := h; exact (((Below.refl W.drew.heap.size W.drew).alloc (Nat.le_refl _) _).cell (World.block_lt_of_cell? W.drew _ hc')).trans hc'
  | 2, _, h => obtain ⟨s, _, _, _, h4⟩ := h; exact grown_cell h4 hc (by simpa using hne)
  | 3, _, h => obtain ⟨s, _, _, _, h4⟩ := h; exact grown_cell h4 hc (by simpa using hne)
set_option maxHeartbeats 3200000 in
theorem anyTerm_any (g m : Nat) (w : World) (h : Cur w g m) (hm : m + 200 ≤ 1000000000) :
    Calls Tryz.prog 86 #[.pointer (some ⟨g, 0, none⟩)] w (StepO g m 140 (fun w' v => GT 12 120 (NewB w w') w' v) w) := by
  have hlt := h.lt
  have H := Lib.hid h
  have hne : w.heap.size ≠ g := by omega
  clear h
  go_enter Tryz.func86, Tryz.ntmps86
  go_wp2_with fail
  refine (term_any' g m _ (H.out.al _) (by omega)).mono ?_
  rintro e w1 ⟨_, rfl, ht, hc1, hg1⟩
  have HC1 := Lib.hid hc1
  clear hc1
  have ⟨c1, f1⟩ := gcell hg1
  have hz1 := hg1.size
  (try simp at hz1)
  obtain ⟨⟨n, us⟩, va, rfl, hO, hW⟩ := ht
  obtain ⟨va', he, hn, hrow⟩ := hO
  simp only [Tm.n, List.cons.injEq, and_true, true_and] at he
  subst he
  obtain ⟨p, c, rfl, hul⟩ := hrow.form
  rw [Tm.wt] at hW
  have hl1 := lt_of_block (heap_alloc_new w (.cells #[.string ⟨#[]⟩, .slice none 0 0] 26))
  have HN0 := Lib.hid (show NSt (TmR 2) 26 2 (mkNm n 26) (fun b => b = w.heap.size ∨ b = w1.heap.size) w g (m + 30) w1.heap.size (.slice p us.length c) us (w1.alloc (.cells #[.string n, .slice p us.length c] 26)) from
    ⟨HC1.out.al _, heap_alloc_new _ _, hrow.mono (SameOn.below ((Below.refl _ _).alloc (Nat.le_refl _) _)) (fun b hb => by have h1 := hb.1; have h2 := hb.2; simp at h1 ⊢; omega) (fun T x cs _ hT hx => TmOwn.mono _ _ _ _ (Nat.le_refl _) (SameOn.below ((Below.refl _ _).alloc (Nat.le_refl _) _)) (fun _ h => h) hx), gr_al (gr_trans (gr_al (gr_refl w g) _) hg1) _, ⟨hlt, by omega⟩, .inr rfl, fun b hb => by simp; omega⟩)
  have hR0 := (hao w1 (.cells #[.string n, .slice p us.length c] 26) w.heap.size (by omega)).trans ((hg1.block w.heap.size (by simp) (by simpa using hne)).trans (heap_alloc_new w _))
  have HR0 := Lib.hid hR0
  have HW := Lib.hid hW
  clear hg1 c1 f1 hrow hR0 hW
  go_wp2_with fail
  refine (pick_any g (m + 30) 24 _ HN0.out.cur (by omega) (by omega) (by omega)).mono ?_
  rintro e w2 ⟨_, rfl, ⟨r, rfl, hr0, hr1⟩, hc2, hg2⟩
  have HC2 := Lib.hid hc2
  clear hc2
  have ⟨c2, f2⟩ := gcell hg2
  have hz2 := hg2.size
  (try simp at hz2)
  have HN := Lib.hid (HN0.out.later (keepTmR 2) hg2 HC2.out)
  have hR := (hg2.block w.heap.size (by simp; omega) (by simp; omega)).trans HR0.out
  have HR := Lib.hid hR
  have ⟨r0, r1, rf⟩ := row2_at hR
  have ⟨b0, b1, bf⟩ := row2_at HN.out.cell
  have zR := bsz (show w.heap.size < w2.heap.size by omega)
  have zB := bsz (show w1.heap.size < w2.heap.size by omega)
  clear hg2 c2 f2 hR
  have hgr := HN.out.gr.size
  rcases (by omega : r = 0 ∨ r = 1 ∨ r = 2 ∨ r = 3 ∨ r = 4 ∨ (4 < r ∧ r ≤ 23)) with rfl | rfl | rfl | rfl | rfl | ⟨hra, hrb⟩
  · go_wp2_with fail
    refine (of_lit g (m + 30 + 2) 7 14 w2.heap.size _ _ _ (by rfl) (by simp) HC2.out (by omega) (by decide) (by decide) (by intro v hv; simp at hv; rcases hv with rfl | rfl | rfl | rfl | rfl | rfl | rfl | rfl | rfl | rfl | rfl | rfl | rfl | rfl <;> exact ⟨_, rfl, by decide⟩)).mono ?_
    rintro e w3 ⟨_, rfl, ⟨s1, rfl, hs1⟩, hc3, hg3⟩
    have HC3 := Lib.hid hc3
    clear hc3
    have ⟨c3, f3⟩ := gcell hg3
    have hz3 := hg3.size
    (try simp at hz3)
    have HN3 := Lib.hid ((HN.out.later (keepTmR 2) (gr_trans (gr_al (gr_refl _ g) _) hg3) HC3.out).named (keepTmR 2) (s' := s1))
    have hR3 := (hg3.block w.heap.size (by simp; omega) (by simp; omega)).trans ((hao _ _ _ (by omega)).trans HR.out)
    have hB3 := (HN.out.later (keepTmR 2) (gr_trans (gr_al (gr_refl _ g) _) hg3) HC3.out).cell
    have zR3 := bsz (show w.heap.size < w3.heap.size by omega)
    have zB3 := bsz (show w1.heap.size < w3.heap.size by omega)
    have hgr3 := HN3.out.gr.size
    simp at hgr3
    clear r0 r1 rf b0 b1 bf
    have ⟨r0, r1, rf⟩ := row2_at hR3
    have ⟨b0, b1, bf⟩ := row2_at hB3
    clear hR3 hB3 hg3 c3 f3
    go_wp2_with fail
    refine bodyPost_ret (v := .agg #[.string s1, .slice p us.length c]) (by simp only [results, Tryz.results86]; go_simp) rfl ⟨_, rfl, (HN3.out.gt (Wt := 120) (by have := HW.out; unfold maxLen; omega) (by have := HW.out; omega)).mono (by omega) (Nat.le_refl _) (((SameOn.refl _ _).sc ?_ _).sc ?_ _) ?_, ?_, ?_⟩
    all_goals first
      | exact ((HN3.out.cur.more (by omega) (by omega)).sc hlt _).sc hlt _
      | exact gr_sc (gr_sc HN3.out.gr (.inr (Nat.le_refl _)) _) (.inr (Nat.le_refl _)) _
      | (intro b hb e; simp at e; omega)
      | (intro b hb; unfold NewB; simp at hb ⊢; omega)
  · go_wp2_with fail
    refine (pick_any g (m + 30 + 2) 3 _ HC2.out (by omega) (by omega) (by omega)).mono ?_
    rintro e w3 ⟨_, rfl, ⟨x, rfl, hx0, hx1⟩, hc3, hg3⟩
    have HC3 := Lib.hid hc3
    clear hc3
    have ⟨c3, f3⟩ := gcell hg3
    have hz3 := hg3.size
    (try simp at hz3)
    go_wp2_with fail
    refine (tower_any g (m + 30 + 2 + 2) (7 + x) _ HC3.out (by omega) (by omega)).mono ?_
    rintro e w4 ⟨_, rfl, ht4, hc4, hg4⟩
    have HC4 := Lib.hid hc4
    clear hc4
    have ⟨c4, f4⟩ := gcell hg4
    have hz4 := hg4.size
    (try simp at hz4)
    obtain ⟨s4, p4, k4, e4, rfl, -⟩ := ht4.form
    have HT := Lib.hid ht4
    have HG4 := Lib.hid (gr_trans HN.out.gr (gr_trans hg3 hg4))
    have ⟨q0, q1, qf⟩ := row2_at (((gr_trans hg3 hg4).block w.heap.size (by omega) (by simpa using hne)).trans HR.out)
    have zR4 := bsz (show w.heap.size < w4.heap.size by omega)
    clear r0 r1 rf b0 b1 bf hg3 hg4 c3 f3 c4 f4 ht4
    go_wp2_with fail
    refine bodyPost_ret (v := .agg #[.string s4, .slice p4 k4 e4]) (by simp only [results, Tryz.results86]; go_simp) rfl ⟨_, rfl, HT.out.mono (by omega) (by omega) (((SameOn.refl _ _).sc ?_ _).sc ?_ _) ?_, ?_, ?_⟩
    all_goals first
      | exact ((HC4.out.more (by omega) (by omega)).sc hlt _).sc hlt _
      | exact gr_sc (gr_sc HG4.out (.inr (Nat.le_refl _)) _) (.inr (Nat.le_refl _)) _
      | (intro b hb e; have := hb.1; simp at e; omega)
      | (intro b hb; unfold NewB at hb ⊢; simp at hb ⊢; omega)
  · go_wp2_with fail
    refine (wide_any g (m + 30 + 2) _ HC2.out (by omega)).mono ?_
    rintro e w3 ⟨_, rfl, ht4, hc3, hg3⟩
    have HC3 := Lib.hid hc3
    clear hc3
    have ⟨c3, f3⟩ := gcell hg3
    have hz3 := hg3.size
    (try simp at hz3)
    obtain ⟨s4, p4, k4, e4, rfl, -⟩ := ht4.form
    have HT := Lib.hid ht4
    have HG4 := Lib.hid (gr_trans HN.out.gr hg3)
    have ⟨q0, q1, qf⟩ := row2_at ((hg3.block w.heap.size (by omega) (by simpa using hne)).trans HR.out)
    have zR4 := bsz (show w.heap.size < w3.heap.size by omega)
    clear r0 r1 rf b0 b1 bf hg3 c3 f3 ht4
    go_wp2_with fail
    refine bodyPost_ret (v := .agg #[.string s4, .slice p4 k4 e4]) (by simp only [results, Tryz.results86]; go_simp) rfl ⟨_, rfl, HT.out.mono (by omega) (by omega) (((SameOn.refl _ _).sc ?_ _).sc ?_ _) ?_, ?_, ?_⟩
    all_goals first
      | exact ((HC3.out.more (by omega) (by omega)).sc hlt _).sc hlt _
      | exact gr_sc (gr_sc HG4.out (.inr (Nat.le_refl _)) _) (.inr (Nat.le_refl _)) _
      | (intro b hb e; have := hb.1; simp at e; omega)
      | (intro b hb; unfold NewB at hb ⊢; simp at hb ⊢; omega)
  · go_wp2_with fail
    have HVB := Lib.hid HN.out.vb
    have HOWN := Lib.hid HN.out.own
    have hB1 := b1
    have HB1 := Lib.hid b1
    have hneB : w1.heap.size ≠ g := by omega
    have HCC := Lib.hid HC2.out
    clear hB1
    refine wp_region_stages [some (.pointer (some ⟨w1.heap.size, 1, none⟩)), some (.slice p us.length c), some (.pointer (some ⟨g, 0, none⟩)), none, some (.pointer (some ⟨g, 0, none⟩)), none, some (.pointer (some ⟨g, 0, none⟩)), none, none, none, some (.pointer (some ⟨w1.heap.size, 1, none⟩)), none] [3, 5, 7, 8, 9, 11] (App3 g (m + 32) w1.heap.size (.slice p us.length c) us.length w2) (by kernel_rfl) (by kernel_rfl) (by first | kernel_rfl | rfl) (by rfl) rfl ?_
    refine chain_st rfl rfl (by decide) rfl (by intro j u w' hS; go_simp; first | done | exact ⟨hS, rfl⟩ | exact hS | rfl) ?_
    go_simp
    refine chain_stb (c := 9) 4 rfl rfl (by decide) rfl rfl rfl (by first | kernel_rfl | rfl) ?_ ?_
    · intro j u w' hj hS
      have hc := App3.cell HB1.out hneB hj hS
      go_simp
      first | done | exact ⟨hS, rfl⟩ | exact hS | rfl
    go_simp
    refine chain_st rfl rfl (by decide) rfl (by intro j u w' hS; go_simp; first | done | exact ⟨hS, rfl⟩ | exact hS | rfl) ?_
    go_simp
    refine chain_first rfl rfl rfl (by decide) rfl ?_ ?_
    · intro w' hS
      obtain rfl : w' = w2.drew := hS
      go_simp
      refine (term_any' g (m + 32) _ (HCC.out.below (Below.refl _ _).drew) (by omega)).mono ?_
      rintro e w'' ⟨x, he, hx, hc, hg⟩
      exact ⟨x, he, by show T3P g (m + 32 + 30) w2.drew (upd _ 3 x 3) w''; rw [upd_same]; exact ⟨hx, hc, hg⟩⟩
    intro x
    go_simp
    refine chain_st rfl rfl (by decide) rfl (by intro j u w' hS; go_simp; first | done | exact ⟨hS, rfl⟩ | exact hS | rfl) ?_
    go_simp
    refine chain_next 0 rfl rfl rfl rfl (by decide) rfl (by first | kernel_rfl | rfl) ?_ ?_
    · intro w' hS
      have hS : T3P g (m + 32 + 30) w2.drew (upd _ 3 x 3) w' := hS
      rw [upd_same] at hS
      go_simp
      refine (term_any' g (m + 32 + 30) _ hS.2.1 (by omega)).mono ?_
      rintro e w'' ⟨y, he, hx, hc, hg⟩
      exact ⟨y, he, ⟨w', by rw [upd_other _ _ (by decide), upd_same]; exact hS, by rw [upd_same]; exact ⟨hx, hc, hg⟩⟩⟩
    intro y
    go_simp
    refine chain_st rfl rfl (by decide) rfl (by intro j u w' hS; go_simp; first | done | exact ⟨hS, rfl⟩ | exact hS | rfl) ?_
    go_simp
    refine chain_next 1 rfl rfl rfl rfl (by decide) rfl (by first | kernel_rfl | rfl) ?_ ?_
    · intro w' hS
      obtain ⟨w1', hS1, hS2⟩ := hS
      rw [upd_other _ _ (by decide), upd_same] at hS1
      rw [upd_same] at hS2
      go_simp
      refine (term_any' g (m + 32 + 60) _ hS2.2.1 (by omega)).mono ?_
      rintro e w'' ⟨z, he, hx, hc, hg⟩
      refine ⟨z, he, ⟨w1', w', ?_, ?_, ?_⟩⟩
      · rw [upd_other _ _ (by decide), upd_other _ _ (by decide), upd_same]; exact hS1
      · rw [upd_other _ _ (by decide), upd_same]; exact hS2
      · rw [upd_same]; exact ⟨hx, hc, hg⟩
    intro z
    go_simp
    refine chain_next 2 rfl rfl rfl rfl (by decide) rfl (by first | kernel_rfl | rfl) ?_ ?_
    · intro w' hS
      have hS : C3 g (m + 32) w2.drew (upd (upd (upd _ 3 x) 5 y) 7 z 3) (upd (upd (upd _ 3 x) 5 y) 7 z 5) (upd (upd (upd _ 3 x) 5 y) 7 z 7) w' := hS
      rw [upd_other _ _ (by decide), upd_other _ _ (by decide), upd_same, upd_other _ _ (by decide), upd_same, upd_same] at hS
      have hS0 := hS
      obtain ⟨wa, wb, hS1, hS2, hS3⟩ := hS
      obtain ⟨s1, p1, k1, c1, rfl, -⟩ := hS1.1.form
      obtain ⟨s2, p2, k2, c2, rfl, -⟩ := hS2.1.form
      obtain ⟨s3, p3, k3, c3, rfl, -⟩ := hS3.1.form
      go_simp
      exact ⟨w', _, _, _, _, _, _, hS0, by rw [upd_same], rfl⟩
    intro y8
    go_simp
    refine chain_next 3 rfl rfl rfl rfl (by decide) rfl (by first | kernel_rfl | rfl) ?_ ?_
    · intro w' hS
      obtain ⟨w3', a0, a1, b0', b1', c0, c1', hcp, hy, rfl⟩ := hS
      rw [upd_same] at hy
      subst hy
      have hG3 := hcp.gr
      have hone : a0.oneCell' = true ∧ a1.oneCell' = true ∧ b0'.oneCell' = true ∧ b1'.oneCell' = true ∧ c0.oneCell' = true ∧ c1'.oneCell' = true := by
        obtain ⟨wa, wb, hS1, hS2, hS3⟩ := hcp
        obtain ⟨s1, p1, k1, c1, e1, -⟩ := hS1.1.form
        obtain ⟨s2, p2, k2, c2, e2, -⟩ := hS2.1.form
        obtain ⟨s3, p3, k3, c3, e3, -⟩ := hS3.1.form
        simp only [Value.agg.injEq, Array.mk.injEq, List.cons.injEq, and_true] at e1 e2 e3
        obtain ⟨rfl, rfl⟩ := e1
        obtain ⟨rfl, rfl⟩ := e2
        obtain ⟨rfl, rfl⟩ := e3
        exact ⟨rfl, rfl, rfl, rfl, rfl, rfl⟩
      obtain ⟨o1, o2, o3, o4, o5, o6⟩ := hone
      obtain ⟨vals, hv⟩ := HOWN.out
      have hwt := HW.out
      refine each_appn (.tmp 28) (.tmp 35) _ rfl 0 26 2 40 elemTmI (.slice p us.length c) _ 3 vals rfl w3' #[a0, a1, b0', b1', c0, c1'] rfl rfl (own_same hv fun b hb hl => hG3.block b hl (by have := HVB.out b hb; simp; omega)) rfl (by intro u hu; simp at hu; rcases hu with rfl | rfl | rfl | rfl | rfl | rfl <;> assumption) (by omega) (by unfold maxLen; omega) (Nat.zero_le _) ?_
      intro v' w5 happ hg5 hnr hsz
      exact ⟨w3', _, _, _, _, _, _, hcp, by rw [upd_same]; exact happ, hg5, by rw [upd_same]; exact hnr, hsz⟩
    intro y9
    go_simp
    refine chain_st rfl rfl (by decide) rfl (by intro j u w' hS; go_simp; first | done | exact ⟨hS, rfl⟩ | exact hS | rfl) ?_
    go_simp
    refine chain_next 4 rfl rfl rfl rfl (by decide) rfl (by first | kernel_rfl | rfl) ?_ ?_
    · intro w' hS
      obtain ⟨w3', a0, a1, b0', b1', c0, c1', hcp, happ, hg5, hnr, hsz⟩ := hS
      rw [upd_same] at happ hnr
      have hG3 := hcp.gr
      obtain ⟨vals, hv⟩ := HOWN.out
      obtain ⟨q', c', rfl⟩ := own_form (happ 0 _ (own_same hv fun b hb hl => hG3.block b hl (by have := HVB.out b hb; simp; omega)) (Nat.zero_le _)) (by omega)
      have hbt : w'.heap[w1.heap.size]? = some (mkNm n 26 (.slice p us.length c)) :=
        (hg5.block w1.heap.size (by have := hG3.size; simp at this; omega) (fun e => by have := HVB.out _ e.symm; simp at this)).trans ((hG3.block w1.heap.size (by simp; omega) (by simpa using hneB)).trans HN.out.cell)
      have hcell : w'.cell? ⟨w1.heap.size, 1, none⟩ = some (.slice p us.length c) := by rw [cell_of_row w' _ 1 _ _ (0, 0) hbt]; rfl
      have hfro : w'.frozen? ⟨w1.heap.size, 1, none⟩ = false := frozen_of_row w' _ 1 _ _ hbt
      clear hbt
      go_simp
      refine ⟨w3', w', _, _, _, _, _, _, hcp, ?_, hg5, ?_, hsz, ?_⟩
      · rw [upd_other _ _ (by decide), upd_same]; exact happ
      · rw [upd_other _ _ (by decide), upd_same]; exact hnr
      · rw [upd_other _ _ (by decide), upd_same]
    intro x'
    refine flowU_nil ?_
    intro wz hz
    obtain ⟨w3', w5, a0, a1, b0', b1', c0, c1', hcp, happ, hg5, hnr, hsz, rfl⟩ := hz
    rw [upd_other _ _ (by decide), upd_same] at happ hnr ⊢
    have hlu : us.length ≤ 13 := by have := HW.out; omega
    have HN3 : NSt (TmR 3) 26 2 (mkNm n 26) (fun b => b = w.heap.size ∨ b = w1.heap.size) w g (m + 30 + 2) w1.heap.size (.slice p us.length c) us w2 :=
      ⟨HN.out.cur, HN.out.cell, HN.out.row.mono (SameOn.refl _ _) (fun _ h => h) (fun T x cs _ hT hx => TmOwn.mono 2 3 _ _ (by omega) (SameOn.refl _ _) (fun _ h => h) hx), HN.out.gr, HN.out.lt, HN.out.x⟩
    obtain ⟨t1, t2, t3, ht1, ht2, ht3, hN4⟩ := NSt.app3 (setsName _ _) HN3 hcp happ hg5 hnr (by omega)
    have hR4 : (w5.setCell ⟨w1.heap.size, 1, none⟩ y9).heap[w.heap.size]? = some (.cells #[.string ⟨#[]⟩, .slice none 0 0] 26 (0, 0)) :=
      (heap_setCell_other w5 ⟨w1.heap.size, 1, none⟩ w.heap.size y9 (by show w.heap.size ≠ w1.heap.size; omega)).trans ((hg5.block w.heap.size (by have := hcp.gr.size; simp at this; omega) (fun e => by have := HVB.out _ e.symm; simp at this)).trans ((hcp.gr.block w.heap.size (by simp; omega) (by simpa using hne)).trans HR.out))
    have hwt4 : n.size + (us ++ [t1] ++ [t2] ++ [t3]).length + Tm.wts (us ++ [t1] ++ [t2] ++ [t3]) ≤ 60 := by
      rw [Tm.wts_snoc, Tm.wts_snoc, Tm.wts_snoc]; simp only [List.length_append, List.length_cons, List.length_nil]; have := HW.out; omega
    clear happ hnr hsz hg5 hcp HN3 r0 r1 rf b0 b1 bf zR zB
    generalize us ++ [t1] ++ [t2] ++ [t3] = us4 at *
    obtain ⟨p4, c4, rfl, -⟩ := hN4.form
    generalize w5.setCell ⟨w1.heap.size, 1, none⟩ (.slice p4 us4.length c4) = wz at *
    have ⟨r0, r1, rf⟩ := row2_at hR4
    have ⟨b0, b1, bf⟩ := row2_at hN4.cell
    have zR := bsz (lt_of_block hR4)
    have zB := bsz (lt_of_block hN4.cell)
    have hgr4 := hN4.gr.size
    have HN4 := Lib.hid hN4
    have HWT4 := Lib.hid hwt4
    clear hN4 hR4 hwt4
    go_simp
    go_wp2_with fail
    refine bodyPost_ret (v := .agg #[.string n, .slice p4 us4.length c4]) (by simp only [results, Tryz.results86]; go_simp) rfl ⟨_, rfl, (HN4.out.gt (Wt := 120) (by have := HWT4.out; unfold maxLen; omega) (by have := HWT4.out; omega)).mono (by omega) (Nat.le_refl _) (((SameOn.refl _ _).sc ?_ _).sc ?_ _) ?_, ?_, ?_⟩
    all_goals first
      | exact ((HN4.out.cur.more (by omega) (by omega)).sc hlt _).sc hlt _
      | exact gr_sc (gr_sc HN4.out.gr (.inr (Nat.le_refl _)) _) (.inr (Nat.le_refl _)) _
      | (intro b hb e; simp at e; omega)
      | (intro b hb; unfold NewB; simp at hb ⊢; omega)
  · by_cases hul0 : 0 < us.length
    · have hul1 : (0 : Int) < us.length := by omega
      obtain ⟨q, cap, cs, Si, cur, hv, hSq, hblk, hcl, hcs, hcc, hRx, hSi, hupd⟩ := HN.out.row.elem (i := 0) (x := us[0]) (List.getElem?_eq_getElem hul0)
      simp only [Value.slice.injEq, true_and] at hv
      obtain ⟨rfl, rfl⟩ := hv
      obtain ⟨⟨s0, us0⟩, hu0⟩ : ∃ t, us[0] = t := ⟨_, rfl⟩
      rw [hu0] at hRx
      obtain ⟨va0, rfl, hs0, hrow0⟩ := hRx
      obtain ⟨p0, k0, rfl, -⟩ := hrow0.form
      have d0 : w2.cell? ⟨q, 0, none⟩ = some (.string s0) := by rw [cell_of_row w2 q 0 _ _ (0, 0) hblk]; simpa using hcc 0 (by omega)
      have d1 : w2.cell? ⟨q, 1, none⟩ = some (.slice p0 us0.length k0) := by rw [cell_of_row w2 q 1 _ _ (0, 0) hblk]; simpa using hcc 1 (by omega)
      have df : ∀ j, w2.frozen? ⟨q, j, none⟩ = false := fun j => frozen_of_row w2 q j _ _ hblk
      have HQ := Lib.hid hSq
      have HBK := Lib.hid hblk
      have HUP := Lib.hid hupd
      have HSI := Lib.hid hSi
      have HR0' := Lib.hid hrow0
      have HC0 := Lib.hid (And.intro hcs hcc)
      have HB1 := Lib.hid b1
      have HD0 := Lib.hid (And.intro d0 d1)
      have hqg : q ≠ g := by omega
      have hneB : w1.heap.size ≠ g := by omega
      have HCC := Lib.hid HC2.out
      have hq2 : q < w2.heap.size := hSq.2.1
      have zq := bsz hq2
      clear hupd hblk hrow0 hcc hSi
      go_wp2_with fail
      refine wp_region_stages [some (.pointer (some ⟨w1.heap.size, 1, none⟩)), some (.slice (some ⟨q, 0, none⟩) us.length c), some (.pointer (some ⟨g, 0, none⟩)), none, none, some (.pointer (some ⟨w1.heap.size, 1, none⟩)), some (.slice (some ⟨q, 0, none⟩) us.length c), some (.pointer (some ⟨q, 0, none⟩)), some (.pointer (some ⟨q, 1, none⟩)), some (.slice p0 us0.length k0), none, some (.pointer (some ⟨q, 0, none⟩)), none] [3, 4, 10, 12] (Put0 g (m + 32) q (.slice p0 us0.length k0) #[.string ⟨#[61]⟩, .string ⟨#[]⟩, .string ⟨#[81, 49]⟩, .string ⟨#[98, 50]⟩] 9 w2) (by kernel_rfl) (by kernel_rfl) (by first | kernel_rfl | rfl) (by rfl) rfl ?_
      refine chain_st rfl rfl (by decide) rfl (by intro j u w' hS; go_simp; first | done | exact ⟨hS, rfl⟩ | exact hS | rfl) ?_
      go_simp
      refine chain_stb (c := 12) 3 rfl rfl (by decide) rfl rfl rfl (by first | kernel_rfl | rfl) ?_ ?_
      · intro j u w' hj hS
        have hc := Put0.cell HB1.out hneB hj hS
        go_simp
        first | done | exact ⟨hS, rfl⟩ | exact hS | rfl
      go_simp
      refine chain_st rfl rfl (by decide) rfl (by intro j u w' hS; go_simp; first | done | exact ⟨hS, rfl⟩ | exact hS | rfl) ?_
      go_simp
      refine chain_first rfl rfl rfl (by decide) rfl ?_ ?_
      · intro w' hS
        obtain rfl : w' = w2.drew := hS
        go_simp
        exact ⟨by rw [upd_same], rfl⟩
      intro y3
      go_simp
      refine chain_next 0 rfl rfl rfl rfl (by decide) rfl (by first | kernel_rfl | rfl) ?_ ?_
      · intro w' hS
        obtain ⟨hy, rfl⟩ := hS
        rw [upd_same] at hy
        subst hy
        go_simp
        refine (of_lit g (m + 32) 2 4 w2.heap.size w2.drew _ _ (by rfl) (by simp) (HCC.out.below (Below.refl _ _).drew) (by omega) (by decide) (by decide) (by intro v hv; simp at hv; rcases hv with rfl | rfl | rfl | rfl <;> exact ⟨_, rfl, by decide⟩)).mono ?_
        rintro e w'' ⟨x, he, ⟨s1, rfl, hs1⟩, hc, hg⟩
        exact ⟨_, he, s1, by rw [upd_same], hs1, hc, gr_trans (gr_al (gr_dr (gr_refl _ _)) _) hg⟩
      intro y4
      go_simp
      refine chain_st rfl rfl (by decide) rfl (by intro j u w' hS; go_simp; first | done | exact ⟨hS, rfl⟩ | exact hS | rfl) ?_
      go_simp
      refine chain_stb (c := 12) 3 rfl rfl (by decide) rfl rfl rfl (by first | kernel_rfl | rfl) ?_ ?_
      · intro j u w' hj hS
        have hc := Put0.cell HB1.out hneB hj hS
        go_simp
        first | done | exact ⟨hS, rfl⟩ | exact hS | rfl
      go_simp
      refine chain_stb (c := 12) 3 rfl rfl (by decide) rfl rfl rfl (by first | kernel_rfl | rfl) ?_ ?_
      · intro j u w' hj hS
        have hc := Put0.cell HB1.out hneB hj hS
        go_simp
        first | done | exact ⟨hS, rfl⟩ | exact hS | rfl
      go_simp
      refine chain_st rfl rfl (by decide) rfl (by intro j u w' hS; go_simp; first | done | exact ⟨hS, rfl⟩ | exact hS | rfl) ?_
      go_simp
      refine chain_stb (c := 12) 3 rfl rfl (by decide) rfl rfl rfl (by first | kernel_rfl | rfl) ?_ ?_
      · intro j u w' hj hS
        have hc := Put0.cell HD0.out.2 hqg hj hS
        go_simp
        first | done | exact ⟨hS, rfl⟩ | exact hS | rfl
      go_simp
      refine chain_next 1 rfl rfl rfl rfl (by decide) rfl (by first | kernel_rfl | rfl) ?_ ?_
      · intro w' hS
        obtain ⟨s1, hy, hs1, hc, hg⟩ := hS
        rw [upd_same] at hy
        subst hy
        go_simp
        exact ⟨s1, by rw [upd_same], hs1, hc, hg⟩
      intro y10
      go_simp
      refine chain_st rfl rfl (by decide) rfl (by intro j u w' hS; go_simp; first | done | exact ⟨hS, rfl⟩ | exact hS | rfl) ?_
      go_simp
      refine chain_next 2 rfl rfl rfl rfl (by decide) rfl (by first | kernel_rfl | rfl) ?_ ?_
      · intro w' hS
        obtain ⟨s1, hy, hs1, hc, hg⟩ := hS
        rw [upd_same] at hy
        subst hy
        have hblk' : w'.heap[q]? = some (.cells cur 26 (0, 0)) := (hg.block q hq2 (by simpa using hqg)).trans HBK.out
        have e0 : w'.cell? ⟨q, 0, none⟩ = some (.string s0) := (World.cell?_of_block (hg.block q hq2 (by simpa using hqg))).trans HD0.out.1
        have e1 : w'.cell? ⟨q, 1, none⟩ = some (.slice p0 us0.length k0) := (World.cell?_of_block (hg.block q hq2 (by simpa using hqg))).trans HD0.out.2
        have ef : ∀ j, w'.frozen? ⟨q, j, none⟩ = false := fun j => frozen_of_row w' q j _ _ hblk'
        clear hblk'
        go_simp
        exact ⟨s1, w', hs1, hc, hg, rfl⟩
      intro x'
      refine flowU_nil ?_
      intro wz hz
      obtain ⟨s1, w3, hs1, hc, hg, rfl⟩ := hz
      have hz3 := hg.size
      have hq3 : w3.heap[q]? = some (.cells cur 26 (0, 0)) := (hg.block q hq2 (by simpa using hqg)).trans HBK.out
      have hSq' := HQ.out
      have hgq : g < q := by omega
      have hbo : ∀ b, b ≠ q → ((w3.setCell ⟨q, 0, none⟩ (.string s1)).setCell ⟨q, 1, none⟩ (.slice p0 us0.length k0)).heap[b]? = w3.heap[b]? := fun b hb => block2_other hb
      have hrow4 := HUP.out ((w3.setCell ⟨q, 0, none⟩ (.string s1)).setCell ⟨q, 1, none⟩ (.slice p0 us0.length k0)) (.mk s1 us0) [.string s1, .slice p0 us0.length k0] ((cur.setIfInBounds 0 (.string s1)).setIfInBounds 1 (.slice p0 us0.length k0)) (fun S x c => TmR 2 S ((w3.setCell ⟨q, 0, none⟩ (.string s1)).setCell ⟨q, 1, none⟩ (.slice p0 us0.length k0)) x c) rfl
        (heap_setCell_same _ q 1 _ _ _ (heap_setCell_same w3 q 0 _ _ _ hq3))
        (by
          have h1 := (Patch.refl (o := 0 * 2) (cs := [.string s0, .slice p0 us0.length k0]) (fun j hj => HC0.out.2 j hj)).set (j := 0) (by simp) HC0.out.1 (.string s1)
          have h2 := h1.set (j := 1) (by simp) (by simpa using HC0.out.1) (.slice p0 us0.length k0)
          simpa using h2)
        ⟨_, rfl, by unfold maxLen; omega, HR0'.out.mono (fun b hb hlt => (hbo b (by have := HSI.out b hb; exact this.2)).trans (hg.block b hlt (by have := (HSI.out b hb).1.1; simp; omega))) (fun _ h => h) (fun T x cs _ hT hx => TmOwn.mono _ _ _ _ (Nat.le_refl _) (fun b hb hlt => (hbo b (by have := HSI.out b (hT b hb); exact this.2)).trans (hg.block b hlt (by have := (HSI.out b (hT b hb)).1.1; simp; omega))) (fun _ h => h) hx)⟩
        (fun T y cs hT hx => TmOwn.mono _ _ _ _ (Nat.le_refl _) (fun b hb hlt => (hbo b (hT b hb).2.1).trans (hg.block b hlt (by have := (hT b hb).1.1; simp; omega))) (fun _ h => h) hx)
      have hN4 : NSt (TmR 2) 26 2 (mkNm n 26) (fun b => b = w.heap.size ∨ b = w1.heap.size) w g (m + 32 + 2) w1.heap.size (.slice (some ⟨q, 0, none⟩) us.length c) (us.set 0 (.mk s1 us0)) ((w3.setCell ⟨q, 0, none⟩ (.string s1)).setCell ⟨q, 1, none⟩ (.slice p0 us0.length k0)) :=
        ⟨(hc.sc hgq _).sc hgq _, (hbo _ (by omega)).trans ((hg.block _ (by omega) (by simpa using hneB)).trans HN.out.cell), hrow4.mono (SameOn.refl _ _) (fun b hb => ⟨hb.1, by simp; omega, hb.2.2⟩) (fun _ _ _ _ _ h => h), gr_sc (gr_sc (gr_trans HN.out.gr hg) (.inr hSq'.1) _) (.inr hSq'.1) _, HN.out.lt, HN.out.x.1, fun b hb => by have := HN.out.x.2 b hb; simp; omega⟩
      have hR4 := (hbo w.heap.size (by omega)).trans ((hg.block w.heap.size (by omega) (by simpa using hne)).trans HR.out)
      have hwt4 : n.size + (us.set 0 (.mk s1 us0)).length + Tm.wts (us.set 0 (.mk s1 us0)) ≤ 60 := by
        have h1 := Tm.wts_set us 0 (.mk s1 us0) hul0
        rw [hu0] at h1
        have h2 := HW.out
        rw [Tm.wt, Tm.wt] at h1
        rw [List.length_set]; omega
      have hlen4 : (us.set 0 (.mk s1 us0)).length = us.length := List.length_set
      rw [← hlen4] at hN4
      have HWT4 := Lib.hid hwt4
      clear r0 r1 rf b0 b1 bf zR zB hrow4 hbo hwt4 hq3 hg hlen4 d0 d1 df
      generalize us.set 0 (.mk s1 us0) = us4 at *
      generalize (w3.setCell ⟨q, 0, none⟩ (.string s1)).setCell ⟨q, 1, none⟩ (.slice p0 us0.length k0) = wz at *
      have ⟨r0, r1, rf⟩ := row2_at hR4
      have ⟨b0, b1, bf⟩ := row2_at hN4.cell
      have zR := bsz (lt_of_block hR4)
      have zB := bsz (lt_of_block hN4.cell)
      have hgr4 := hN4.gr.size
      have HN4 := Lib.hid hN4
      clear hN4 hR4
      go_simp
      go_wp2_with fail
      refine bodyPost_ret (v := .agg #[.string n, .slice (some ⟨q, 0, none⟩) us4.length c]) (by simp only [results, Tryz.results86]; go_simp) rfl ⟨_, rfl, (HN4.out.gt (Wt := 120) (by have := HWT4.out; unfold maxLen; omega) (by have := HWT4.out; omega)).mono (by omega) (Nat.le_refl _) (((SameOn.refl _ _).sc ?_ _).sc ?_ _) ?_, ?_, ?_⟩
      all_goals first
        | exact ((HN4.out.cur.more (by omega) (by omega)).sc hlt _).sc hlt _
        | exact gr_sc (gr_sc HN4.out.gr (.inr (Nat.le_refl _)) _) (.inr (Nat.le_refl _)) _
        | (intro b hb e; simp at e; omega)
        | (intro b hb; unfold NewB; simp at hb ⊢; omega)
    · have hul1 : ¬ (0 : Int) < us.length := by omega
      go_wp2_with fail
      refine bodyPost_ret (v := .agg #[.string n, .slice p us.length c]) (by simp only [results, Tryz.results86]; go_simp) rfl ⟨_, rfl, (HN.out.gt (Wt := 120) (by have := HW.out; unfold maxLen; omega) (by have := HW.out; omega)).mono (by omega) (Nat.le_refl _) (((SameOn.refl _ _).sc ?_ _).sc ?_ _) ?_, ?_, ?_⟩
      all_goals first
        | exact ((HN.out.cur.more (by omega) (by omega)).sc hlt _).sc hlt _
        | exact gr_sc (gr_sc HN.out.gr (.inr (Nat.le_refl _)) _) (.inr (Nat.le_refl _)) _
        | (intro b hb e; simp at e; omega)
        | (intro b hb; unfold NewB; simp at hb ⊢; omega)
  · have e0 : (r == 0) = false := by simp; omega
    have e1 : (r == 1) = false := by simp; omega
    have e2 : (r == 2) = false := by simp; omega
    have e3 : (r == 3) = false := by simp; omega
    have e4 : (r == 4) = false := by simp; omega
    go_wp2_with fail
    refine bodyPost_ret (v := .agg #[.string n, .slice p us.length c]) (by simp only [results, Tryz.results86]; go_simp) rfl ⟨_, rfl, (HN.out.gt (Wt := 120) (by have := HW.out; unfold maxLen; omega) (by have := HW.out; omega)).mono (by omega) (Nat.le_refl _) (((SameOn.refl _ _).sc ?_ _).sc ?_ _) ?_, ?_, ?_⟩
    all_goals first
      | exact ((HN.out.cur.more (by omega) (by omega)).sc hlt _).sc hlt _
      | exact gr_sc (gr_sc HN.out.gr (.inr (Nat.le_refl _)) _) (.inr (Nat.le_refl _)) _
      | (intro b hb e; simp at e; omega)
      | (intro b hb; unfold NewB; simp at hb ⊢; omega)
end Go.Proofs.YtmbkjdkjemlfkaaGreatDoor
