import Derived.Test.YtkgfanajgdelcaaGreatEnPart39
namespace Go.Proofs.YtkgfanajgdelcaaGreat
set_option maxRecDepth 100000
open Go.RowKit
set_option maxHeartbeats 1600000 in
theorem clause_any (g m : Nat) (w : World) (h : Cur w g m) (hm : m + 1000 ≤ 1000000000) :
    Calls Tryz.prog 78 #[.pointer (some ⟨g, 0, none⟩)] w (fun e w' => ∃ (og oc : Nat) (D : List LC), e = .returned (.agg #[.slice (some ⟨og, 0, none⟩) D.length oc]) ∧ LsC 57 4 (w.heap.size + 1) w.heap.size (.slice (some ⟨og, 0, none⟩) D.length oc) D w' ∧ D.length ≤ 5 ∧ (∀ x ∈ D, x.l.a.wt ≤ 29) ∧ Cur w' g (m + 340) ∧ w.grownBy w' (some g)) := by
  have hlt := h.lt
  have hne : w.heap.size ≠ g := by omega
  have H := Lib.hid h
  clear h
  go_enter Tryz.func78, Tryz.ntmps78
  go_wp2_with fail
  refine (literals_any g m _ (H.out.al _) (by omega)).mono ?_
  rintro e w1 ⟨v, rfl, xs, hxl, hst⟩
  have HS := Lib.hid hst
  have hr1 := (hst.gr.block w.heap.size (by simp) (by simpa using hne)).trans (heap_alloc_new w _)
  have hz1 := hst.gr.size
  simp at hz1
  clear hst
  go_wp2_with fail
  refine (l7Make_any xs v _ (ClsOwn.at_ HS.out.row) (by omega) (fun l hl => by have := (HS.out.wt l hl).1; omega)).mono ?_
  rintro e w2 ⟨og, oc, D, rfl, hL, hD, hmem, hb2⟩
  have HL := Lib.hid hL
  have HB2 := Lib.hid hb2
  have hr2 := (hb2.block _ (by omega)).trans hr1
  have r0 : w2.cell? ⟨w.heap.size, 0, none⟩ = some (.slice none 0 0) := by rw [cell_of_row w2 _ 0 _ _ (0, 0) hr2]; rfl
  have rf := frozen_of_row w2 w.heap.size 0 _ _ hr2
  have zr := bsz (blk_lt hr2)
  have hG := Lib.hid (gr_below (gr_trans (gr_al (gr_refl w g) _) HS.out.gr) hb2)
  have HC := Lib.hid (HS.out.cur.below hb2)
  have HM := Lib.hid hmem
  clear hL hmem hr1 hr2 hb2
  go_wp2_with fail
  refine bodyPost_ret (v := .agg #[.slice (some ⟨og, 0, none⟩) D.length oc]) (by simp only [results, Tryz.results78]; go_simp) rfl ⟨og, oc, D, rfl, ?_, by omega, fun x hx => (HS.out.wt _ (HM.out x hx)).1, ?_, ?_⟩
  · have h1 := HL.out.sc (a := ⟨w.heap.size, 0, none⟩) (.inl (by simp; omega)) (.slice (some ⟨og, 0, none⟩) D.length oc)
    refine ⟨own_lower h1.row (by omega), fun x hx => LitAt.mono (SameOn.refl _ _) (fun b hb => ⟨by have := hb.1; omega, hb.2.1, by have := hb.1; omega, hb.2.2.2⟩) (Nat.le_refl _) (h1.each x hx), fun e => by have := own_base h1.row _ e; omega, h1.len⟩
  · exact HC.out.sc hlt _
  · exact gr_sc hG.out (.inr (Nat.le_refl _)) _
structure CBx (n : Nat) (w : World) (g m k : Nat) (v : Value) (D : List LC) (wr : World) : Prop where
  cur : Cur wr g m
  box : wr.heap[k]? = some (.cells #[v] 39 (0, 0))
  res : wr.heap[w.heap.size]? = some (.cells #[.slice none 0 0] 39 (0, 0))
  ls : LsC 57 n (w.heap.size + 1) k v D wr
  gr : w.grownBy wr (some g)
  lt : g < w.heap.size ∧ w.heap.size < k
section
variable {n : Nat} {w wr w2 : World} {g m m' k : Nat} {v : Value} {D : List LC}
theorem CBx.later (h : CBx n w g m k v D wr) (hg : wr.grownBy w2 (some g)) (hc : Cur w2 g m') : CBx n w g m' k v D w2 := by
  obtain ⟨l1, l2⟩ := h.lt
  have bl : ∀ b, b < wr.heap.size → g < b → w2.heap[b]? = wr.heap[b]? := fun b hb hgb => hg.block b hb (fun e => by injection e with e; omega)
  exact ⟨hc, (bl k (blk_lt h.box) (by omega)).trans h.box, (bl _ (blk_lt h.res) l1).trans h.res, h.ls.grown hg (by omega), gr_trans h.gr hg, l1, l2⟩
theorem CBx.cells (h : CBx n w g m k v D wr) : (wr.cell? ⟨k, 0, none⟩ = some v ∧ (∀ j, wr.frozen? ⟨k, j, none⟩ = false)) ∧ (wr.cell? ⟨w.heap.size, 0, none⟩ = some (.slice none 0 0) ∧ (∀ j, wr.frozen? ⟨w.heap.size, j, none⟩ = false)) ∧ k < wr.heap.size ∧ w.heap.size < wr.heap.size :=
  ⟨⟨by rw [cell_of_row wr _ 0 _ _ (0, 0) h.box]; rfl, fun j => frozen_of_row wr k j _ _ h.box⟩, ⟨by rw [cell_of_row wr _ 0 _ _ (0, 0) h.res]; rfl, fun j => frozen_of_row wr _ j _ _ h.res⟩, blk_lt h.box, blk_lt h.res⟩
def GC (w : World) (w' : World) (v : Value) : Prop :=
  ∃ (p : Option Addr) (d : Nat) (c : List Lit3), v = .agg #[.slice p c.length d] ∧ ClsAt (NewB w w') 12 w' c (.slice p c.length d) ∧ c.length ≤ d ∧ c.length ≤ 10 ∧ ∀ l ∈ c, l.a.wt ≤ 120
theorem own_cap' {T : TypeId} {base sz l d : Nat} {q : Option Addr} {xs : List Value} (h : w.ownsRow base T sz (.slice q l d) l xs) : l ≤ d := by
  rcases h.2 with ⟨e, h0⟩ | ⟨g, cap, cur, e, _, _, hc, _⟩
  · omega
  · injection e with _ _ e; omega
theorem CBx.done {q : Option Addr} {d i : Nat} (h : CBx 12 w g m k (.slice q i d) D wr) (hi : i = D.length) (hl : D.length ≤ 10) (hw : ∀ x ∈ D, x.l.a.wt ≤ 120) : GC w (wr.setCell ⟨w.heap.size, 0, none⟩ (.slice q i d)) (.agg #[.slice q i d]) ∧ Cur (wr.setCell ⟨w.heap.size, 0, none⟩ (.slice q i d)) g m ∧ w.grownBy (wr.setCell ⟨w.heap.size, 0, none⟩ (.slice q i d)) (some g) := by
  subst hi
  obtain ⟨l1, l2⟩ := h.lt
  have h1 := h.ls.sc (a := ⟨w.heap.size, 0, none⟩) (.inl (by simp)) (.slice q D.length d)
  have h2 := h1.at_
  have e : (D.map (·.l)).length = D.length := List.length_map ..
  refine ⟨⟨q, d, D.map (·.l), by rw [e], ?_, ?_, by rw [e]; exact hl, ?_⟩, h.cur.sc (p := ⟨_, _, none⟩) l1 _, gr_sc h.gr (.inr (Nat.le_refl _)) _⟩
  · rw [e]
    exact ClsAt.mono (SameOn.refl _ _) (fun b hb => ⟨by have := hb.1; omega, hb.2⟩) (Nat.le_refl _) h2
  · rw [e]; exact own_cap' h.ls.row
  · intro l hl
    obtain ⟨x, hx, rfl⟩ := List.mem_map.1 hl
    exact hw x hx
theorem CBx.app {W1 w3 : World} {q q' : Option Addr} {d d' : Nat} {x : LC} (h : CBx n w g m k (.slice q D.length d) D wr) (hG : wr.grownBy W1 (some g)) (hC : Cur W1 g m') (hx : LitAt (fun b => w.heap.size + 1 ≤ b ∧ b < W1.heap.size ∧ b ≠ k ∧ (Value.slice q D.length d).ownBlock ≠ some b) n W1 x.l x.cs)
    (happ : ∀ b xs, W1.ownsRow b 57 3 (.slice q D.length d) D.length xs → b ≤ W1.heap.size → w3.ownsRow b 57 3 (.slice q' (D.length + 1) d') (D.length + 1) (xs ++ x.cs)) (hg3 : W1.grownBy w3 (Value.slice q D.length d).ownBlock) (hnr : NewRow (.slice q D.length d) (.slice q' (D.length + 1) d') W1.heap.size) (hl : D.length ≤ 1000) :
    CBx n w g m' k (.slice q' (D.length + 1) d') (D ++ [x]) (w3.setCell ⟨k, 0, none⟩ (.slice q' (D.length + 1) d')) := by
  obtain ⟨l1, l2⟩ := h.lt
  have hk := blk_lt h.box
  have hr := blk_lt h.res
  have hz1 := hG.size
  have hz3 := hg3.size
  have hl1 := h.ls.grown hG (by omega)
  have hob : ∀ b, (Value.slice q D.length d).ownBlock = some b → w.heap.size + 1 ≤ b := fun b hb => own_base h.ls.row b hb
  have hl3 := hl1.snoc (v' := .slice q' (D.length + 1) d') hx hg3 (happ _ _ hl1.row (by omega)) hnr (by omega) (by omega)
  have keep : ∀ b, b < wr.heap.size → b ≠ g → (Value.slice q D.length d).ownBlock ≠ some b → w3.heap[b]? = wr.heap[b]? := fun b hb hne hv => (hg3.block b (by omega) (fun e => hv e.symm)).trans (hG.block b hb (by simpa using hne))
  have hgr3 : w.grownBy w3 (some g) := by
    have h1 := gr_trans h.gr hG
    exact ⟨hg3.os.trans h1.os, hg3.tape.trans h1.tape, hg3.output.trans h1.output, Nat.le_trans h1.size hz3, fun b hb hne => (hg3.block b (Nat.lt_of_lt_of_le hb h1.size) (fun e => by have := hob b e.symm; omega)).trans (h1.block b hb hne)⟩
  refine ⟨(hC.own hg3 (fun b hb => by have := hob b hb; omega)).sc (p := ⟨_, _, none⟩) (by show g < k; omega) _, ?_, (heap_setCell_other w3 ⟨k, 0, none⟩ _ _ (by show w.heap.size ≠ k; omega)).trans ((keep _ hr (by omega) (fun e => by have := hob _ e; omega)).trans h.res), hl3.sc (.inr rfl) _, gr_sc hgr3 (.inr (by show w.heap.size ≤ k; omega)) _, l1, l2⟩
  have := heap_setCell_same w3 k 0 _ _ (.slice q' (D.length + 1) d') ((keep k hk (by omega) (fun e => h.ls.nk e)).trans h.box)
  simpa using this
theorem CBx.set {d i j og : Nat} {y : LC} (h : CBx n w g m k (.slice (some ⟨og, 0, none⟩) i d) D wr) (hi : i = D.length) (hj : j < D.length) (hy : LitAt (fun b => w.heap.size + 1 ≤ b ∧ b < wr.heap.size ∧ b ≠ k ∧ og ≠ b) n wr y.l y.cs) : CBx n w g m k (.slice (some ⟨og, 0, none⟩) i d) (D.set j y) (set3C wr og (j * 3) (.bool y.l.pos) (.string y.l.a.n) (.slice y.p y.l.a.us.length y.c)) := by
  obtain ⟨l1, l2⟩ := h.lt
  have hog := own_base h.ls.row og rfl
  have hk : k ≠ og := fun e => h.ls.nk (by rw [e]; rfl)
  refine ⟨((h.cur.sc (p := ⟨_, _, none⟩) (by show g < og; omega) _).sc (p := ⟨_, _, none⟩) (by show g < og; omega) _).sc (p := ⟨_, _, none⟩) (by show g < og; omega) _, (set3_other wr _ _ _ hk).trans h.box, (set3_other wr _ _ _ (by omega)).trans h.res, h.ls.set hj hi hy, gr_sc (gr_sc (gr_sc h.gr (.inr (by show w.heap.size ≤ og; omega)) _) (.inr (by show w.heap.size ≤ og; omega)) _) (.inr (by show w.heap.size ≤ og; omega)) _, l1, l2⟩
structure CRw (w : World) (g m : Nat) (v : Value) (D : List LC) (wr : World) : Prop where
  cur : Cur wr g m
  res : wr.heap[w.heap.size]? = some (.cells #[.slice none 0 0] 39 (0, 0))
  ls : LsC 57 12 (w.heap.size + 1) w.heap.size v D wr
  gr : w.grownBy wr (some g)
  lt : g < w.heap.size
theorem CRw.later (h : CRw w g m v D wr) (hg : wr.grownBy w2 (some g)) (hc : Cur w2 g m') : CRw w g m' v D w2 := by
  have l1 := h.lt
  exact ⟨hc, (hg.block _ (blk_lt h.res) (fun e => by injection e with e; omega)).trans h.res, h.ls.grown hg (by omega), gr_trans h.gr hg, l1⟩
theorem CRw.done {q : Option Addr} {d i : Nat} (h : CRw w g m (.slice q i d) D wr) (hi : i = D.length) (hl : D.length ≤ 10) (hw : ∀ x ∈ D, x.l.a.wt ≤ 120) : GC w (wr.setCell ⟨w.heap.size, 0, none⟩ (.slice q i d)) (.agg #[.slice q i d]) ∧ Cur (wr.setCell ⟨w.heap.size, 0, none⟩ (.slice q i d)) g m ∧ w.grownBy (wr.setCell ⟨w.heap.size, 0, none⟩ (.slice q i d)) (some g) := by
  subst hi
  have h1 := h.ls.sc (a := ⟨w.heap.size, 0, none⟩) (.inl (by simp)) (.slice q D.length d)
  have h2 := h1.at_
  have e : (D.map (·.l)).length = D.length := List.length_map ..
  refine ⟨⟨q, d, D.map (·.l), by rw [e], ?_, ?_, by rw [e]; exact hl, ?_⟩, h.cur.sc (p := ⟨_, _, none⟩) h.lt _, gr_sc h.gr (.inr (Nat.le_refl _)) _⟩
  · rw [e]
    exact ClsAt.mono (SameOn.refl _ _) (fun b hb => ⟨by have := hb.1; omega, hb.2⟩) (Nat.le_refl _) h2
  · rw [e]; exact own_cap' h.ls.row
  · intro l hl
    obtain ⟨x, hx, rfl⟩ := List.mem_map.1 hl
    exact hw x hx
theorem CRw.snoc {W1 w3 : World} {v' : Value} {x : LC} (h : CRw w g m v D W1) (hx : LitAt (fun b => w.heap.size + 1 ≤ b ∧ b < W1.heap.size ∧ b ≠ w.heap.size ∧ v.ownBlock ≠ some b) 12 W1 x.l x.cs) (hr : w3.ownsRow (w.heap.size + 1) 57 3 v' (D.length + 1) (flatL D ++ x.cs)) (hg3 : W1.grownBy w3 v.ownBlock) (hnr : NewRow v v' W1.heap.size) (hl : D.length ≤ 1000) : CRw w g m v' (D ++ [x]) w3 := by
  have l1 := h.lt
  have hz3 := hg3.size
  have hr0 := blk_lt h.res
  have hob : ∀ b, v.ownBlock = some b → w.heap.size + 1 ≤ b := fun b hb => own_base h.ls.row b hb
  have h1 := h.gr
  exact ⟨h.cur.own hg3 (fun b hb => by have := hob b hb; omega), (hg3.block _ hr0 (fun e => by have := hob _ e.symm; omega)).trans h.res, h.ls.snoc hx hg3 hr hnr (by omega) (by omega),
    ⟨hg3.os.trans h1.os, hg3.tape.trans h1.tape, hg3.output.trans h1.output, Nat.le_trans h1.size hz3, fun b hb hne => (hg3.block b (Nat.lt_of_lt_of_le hb h1.size) (fun e => by have := hob b e.symm; omega)).trans (h1.block b hb hne)⟩, l1⟩
theorem lit_px {B : Nat → Prop} {W : World} {a : Nat} {pn y : ByteArray} {t : TypeId} (h : W.heap[a]? = some (.cells #[.string y, .slice none 0 0] t (0, 0))) (hB : B a) (hp : pn.size ≤ maxLen) (hy : y.size ≤ maxLen) : LitAt B 12 W ⟨true, .mk pn [.mk y []]⟩ [.bool true, .string pn, .slice (some ⟨a, 0, none⟩) 1 1] := by
  refine ⟨_, _, rfl, _, rfl, hp, some ⟨a, 0, none⟩, 1, rfl, by show 1 ≤ maxLen; decide, fun i x hx => ?_⟩
  obtain ⟨hi, hx'⟩ := List.getElem?_eq_some_iff.1 hx
  obtain rfl : i = 0 := by simp at hi; omega
  obtain rfl : Tm.mk y [] = x := hx'
  refine ⟨a, 0, rfl, hB, [.string y, .slice none 0 0], rfl, fun j hj => ?_, _, rfl, hy, ListAt.nil _ _ _ _ _ _⟩
  rw [cell_of_row W a _ _ _ (0, 0) h]
  match j, hj with
  | 0, _ => rfl
  | 1, _ => rfl
theorem CBx.row {q : Option Addr} {d : Nat} (h : CBx n w g m k (.slice q D.length d) D wr) : (∃ vals, wr.ownsRow 0 57 3 (.slice q D.length d) D.length vals) ∧ ∀ b, (Value.slice q D.length d).ownBlock = some b → w.heap.size < b ∧ b < wr.heap.size ∧ b ≠ k :=
  ⟨⟨_, own_lower h.ls.row (Nat.zero_le _)⟩, fun b hb => ⟨own_base h.ls.row b hb, own_lt' h.ls.row hb, fun e => h.ls.nk (by rw [hb, e])⟩⟩
end
def LiCP (g m : Nat) (W : World) (x : Value) (w : World) : Prop := GL 12 120 (NewB W.drew w) w x ∧ Cur w g (m + 210) ∧ W.drew.grownBy w (some g)
theorem LiCP.gr {g m : Nat} {W w : World} {x : Value} (h : LiCP g m W x w) : W.grownBy w (some g) := ⟨h.2.2.os, h.2.2.tape, h.2.2.output, h.2.2.size, h.2.2.block⟩
theorem LiCP.agg {g m : Nat} {W w : World} {x : Value} (h : LiCP g m W x w) : ∃ (l : Lit3) (p : Option Addr) (c : Nat), x = .agg #[.bool l.pos, .string l.a.n, .slice p l.a.us.length c] ∧ LitAt (NewB W.drew w) 12 w l [.bool l.pos, .string l.a.n, .slice p l.a.us.length c] ∧ l.a.wt ≤ 120 := by
  obtain ⟨l, va, rfl, hO, hw⟩ := h.1
  obtain ⟨p, c, -, rfl, -⟩ := hO.form
  exact ⟨l, p, c, rfl, ⟨_, _, rfl, hO.at_⟩, hw⟩
def LaSt (eT : TypeId) (v : Value) (j b : Nat) (cs : Array Value) (bt : Nat) (W : World) : Nat → (Nat → Value) → World → Prop
  | 0, _, w => w = W.drew
  | 1, u, w => w = W.drew ∧ u 5 = v
  | 2, u, w => w = W.drew ∧ u 6 = .int .i64 ((j + 1 : Nat) : Int)
  | 3, u, w => w = W.drew ∧ u 7 = .int .i64 (j : Nat)
  | 4, u, w => w = W.drew ∧ u 8 = .pointer (some ⟨b, j * 3, none⟩)
  | 5, u, w => w = W.drew ∧ u 9 = .agg cs
  | 6, u, w => u 10 = .slice (some ⟨W.heap.size, 0, none⟩) 1 1 ∧ w = W.drew.alloc (.cells cs eT)
  | 7, u, w => (∀ b xs, W.drew.ownsRow b eT 3 v (j + 1) xs → b ≤ W.heap.size → w.ownsRow b eT 3 (u 11) (j + 1 + 1) (xs ++ cs.toList)) ∧ W.drew.grownBy w v.ownBlock ∧ NewRow v (u 11) W.heap.size ∧ W.heap.size < w.heap.size
  | 8, u, w => ∃ w3, (∀ b xs, W.drew.ownsRow b eT 3 v (j + 1) xs → b ≤ W.heap.size → w3.ownsRow b eT 3 (u 11) (j + 1 + 1) (xs ++ cs.toList)) ∧ W.drew.grownBy w3 v.ownBlock ∧ NewRow v (u 11) W.heap.size ∧ W.heap.size < w3.heap.size ∧ w = w3.setCell ⟨bt, 0, none⟩ (u 11)
  | _, _, _ => False
theorem LaSt.cell {eT : TypeId} {v v' : Value} {j b bt : Nat} {cs : Array Value} {W : World} {c o : Nat} (hc : W.cell? ⟨c, o, none⟩ = some v') {i : Nat} (hi : i ≤ 6) {u : Nat → Value} {w : World} (h : LaSt eT v j b cs bt W i u w) : w.cell? ⟨c, o, none⟩ = some v' := by
  match i, hi, h with
  | 0, _, h => obtain rfl : w = W.drew := h; exact hc
  | 1, _, h => obtain ⟨rfl, -⟩ := h; exact hc
  | 2, _, h => obtain ⟨rfl, -⟩ := h; exact hc
  | 3, _, h => obtain ⟨rfl, -⟩ := h; exact hc
  | 4, _, h => obtain ⟨rfl, -⟩ := h; exact hc
  | 5, _, h => obtain ⟨rfl, -⟩ := h; exact hc
  | 6, _, h =>
    obtain ⟨-, rfl⟩ := h
    exact (((Below.refl W.drew.heap.size W.drew).alloc (Nat.le_refl _) _).cell (World.block_lt_of_cell? W _ hc)).trans hc
def SwSt (b : Nat) (u0 u1 u2 : Value) (W : World) : Nat → (Nat → Value) → World → Prop
  | 0, _, w => w = W.drew
  | 1, _, w => w = set3C W.drew b 0 u0 u1 u2
  | _, _, _ => False
theorem SwSt.cell {b c o : Nat} {u0 u1 u2 v' : Value} {W : World} (hc : W.cell? ⟨c, o, none⟩ = some v') (hne : c ≠ b ∨ 3 ≤ o) {i : Nat} {u : Nat → Value} {w : World} (h : SwSt b u0 u1 u2 W i u w) : w.cell? ⟨c, o, none⟩ = some v' := by
  match i, h with
  | 0, h => obtain rfl : w = W.drew := h; exact hc
  | 1, h =>
    obtain rfl : w = set3C W.drew b 0 u0 u1 u2 := h
    rcases hne with hne | ho
    · exact (World.cell?_of_block (set3_other W.drew u0 u1 u2 hne)).trans hc
    · have s : ∀ (w : World) (i : Nat) (u : Value), i < 3 → (w.setCell ⟨b, i, none⟩ u).cell? ⟨c, o, none⟩ = w.cell? ⟨c, o, none⟩ := fun w i u hi => by go_simp
      rw [s _ _ _ (by omega), s _ _ _ (by omega), s _ _ _ (by omega)]
      exact hc
end Go.Proofs.YtkgfanajgdelcaaGreat
