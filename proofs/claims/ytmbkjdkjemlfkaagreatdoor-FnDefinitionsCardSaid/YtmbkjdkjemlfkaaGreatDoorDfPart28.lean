import Derived.Maps.OwnSet
import Derived.StringKeys
import Derived.Test.YtmbkjdkjemlfkaaGreatDoorDfPart27
namespace Go.Proofs.YtmbkjdkjemlfkaaGreatDoor
set_option maxRecDepth 100000
open Go.RowKit
mutual
theorem dfn_cnt {S : ByteArray → Bool} {vf : Fm → List ByteArray} : ∀ (f : Fm) (b : Bool) (k : Nat), (dfn S vf f b k).2.2.length ≤ f.sz
  | .mk op a x ps, b, k => by
    have := dfnL_cnt (S := S) (vf := vf) ps (op == 6) k
    rw [dfn, Fm.sz]
    simp only
    split
    · show (_ ++ _ : List Dfn).length ≤ _
      rw [List.length_append, List.length_singleton]; omega
    · show (dfnL S vf ps (op == 6) k).2.2.length ≤ _
      omega
theorem dfnL_cnt {S : ByteArray → Bool} {vf : Fm → List ByteArray} : ∀ (fs : List Fm) (b : Bool) (k : Nat), (dfnL S vf fs b k).2.2.length ≤ Fm.szs fs
  | [], b, k => by rw [dfnL]; simp
  | f :: fs, b, k => by
    have h1 := dfn_cnt (S := S) (vf := vf) f b k
    have h2 := dfnL_cnt (S := S) (vf := vf) fs b (dfn S vf f b k).2.1
    rw [dfnL, Fm.szs]
    show (_ ++ _ : List Dfn).length ≤ _
    rw [List.length_append]; omega
end
def tooMany (E : List Dfn) : Bool := E.any fun d => decide (4 < d.vars.length)
theorem tooMany_app (E F : List Dfn) : tooMany (E ++ F) = (tooMany E || tooMany F) := by simp [tooMany]
theorem Env.of_block {w w' : World} (h : Env w) (hb : w'.heap[0]? = w.heap[0]?) (hz : w.heap.size ≤ w'.heap.size) : Env w' := by
  have h3 := h.pow10
  refine ⟨?_, Nat.lt_of_lt_of_le h.size hz⟩
  unfold Lib.TabIs World.var? at h3 ⊢
  rw [gPow10] at h3 ⊢
  simp only [Option.bind_some] at h3 ⊢
  rw [hb]; exact h3
def Rest (X : Nat → Prop) (x0 g : Nat) (lv : Value) (b : Nat) : Prop := X b ∧ b ≠ x0 ∧ b ≠ g ∧ lv.ownBlock ≠ some b
structure DSt (ob : Option Obj) (us : List ByteArray) (N base x0 g k : Nat) (E : List Dfn) (uv lv : Value) (D : List DC) (X : Nat → Prop) (w : World) : Prop where
  box : w.heap[x0]? = some (.cells #[.pointer (some ⟨g, 0, none⟩), lv, .bool (tooMany E)] 51 (0, 0))
  nm : w.heap[g]? = some (.cells (nmrI k uv) 49 (0, 0))
  tk : StrsAt (Rest X x0 g lv) w uv us
  row : w.ownsRow base 60 7 lv D.length (flatD D)
  ds : D.map DC.d = E
  each : ∀ x ∈ D, DAt (Rest X x0 g lv) N w x
  xx : X x0
  xg : X g
  xl : ∀ b, lv.ownBlock = some b → X b
  foot : ∀ b, X b → b < w.heap.size
  ne : x0 ≠ g
  lt : x0 < base ∧ g < base
  env : Env w
  xe : X 0 ∧ 0 < x0 ∧ 0 < g
  tab : w.heap[0]? = ob
section
variable {ob : Option Obj} {us : List ByteArray} {N base x0 g k : Nat} {E : List Dfn} {uv lv : Value} {D : List DC} {X X' : Nat → Prop} {w w' : World}
theorem DSt.nl (h : DSt ob us N base x0 g k E uv lv D X w) : lv.ownBlock ≠ some x0 ∧ lv.ownBlock ≠ some g := by
  have := h.lt
  exact ⟨fun e => by have := own_base h.row _ e; omega, fun e => by have := own_base h.row _ e; omega⟩
theorem DSt.stab (h : DSt ob us N base x0 g k E uv lv D X w) (hk : Kp (fun b => ¬ X b) w w') : DSt ob us N base x0 g k E uv lv D X w' := by
  have hs : ∀ b, X b → w'.heap[b]? = w.heap[b]? := fun b hb => hk.block b (h.foot b hb) (fun e => e hb)
  exact ⟨(hs _ h.xx).trans h.box, (hs _ h.xg).trans h.nm, h.tk.mono (fun b hb _ => hs b hb.1) (fun _ h => h), own_same h.row (fun b hb _ => hs b (h.xl b hb)), h.ds, fun x hx => (h.each x hx).mono (fun b hb _ => hs b hb.1) (fun _ h => h) (Nat.le_refl _), h.xx, h.xg, h.xl, fun b hb => Nat.lt_of_lt_of_le (h.foot b hb) hk.size, h.ne, h.lt, h.env.of_block (hs _ h.xe.1) hk.size, h.xe, (hs _ h.xe.1).trans h.tab⟩
theorem DSt.be (h : DSt ob us N base x0 g k E uv lv D X w) (hb : Below w.heap.size w w') : DSt ob us N base x0 g k E uv lv D X w' := h.stab (Kp.of_below hb)
theorem DSt.named (h : DSt ob us N base x0 g k E uv lv D X w) {n : Nat} (hn : w'.heap[g]? = some (.cells (nmrI n uv) 49 (0, 0))) (hg : w.grownBy w' (some g)) : DSt ob us N base x0 g n E uv lv D X w' := by
  have hs : ∀ b, X b → b ≠ g → w'.heap[b]? = w.heap[b]? := fun b hb hne => hg.block b (h.foot b hb) (fun e => hne (Option.some.inj e))
  have hl := h.nl
  exact ⟨(hs _ h.xx h.ne).trans h.box, hn, h.tk.mono (fun b hb _ => hs b hb.1 hb.2.2.1) (fun _ h => h), own_same h.row (fun b hb _ => hs b (h.xl b hb) (fun e => hl.2 (e ▸ hb))), h.ds, fun x hx => (h.each x hx).mono (fun b hb _ => hs b hb.1 hb.2.2.1) (fun _ h => h) (Nat.le_refl _), h.xx, h.xg, h.xl, fun b hb => Nat.lt_of_lt_of_le (h.foot b hb) hg.size, h.ne, h.lt, h.env.of_block (hs _ h.xe.1 (by have := h.xe.2; omega)) hg.size, h.xe, (hs _ h.xe.1 (by have := h.xe.2; omega)).trans h.tab⟩
theorem DSt.grown {lv' : Value} {x : DC} {w4 : World} (h : DSt ob us N base x0 g k E uv lv D X w) (hx : DAt (fun b => b < w.heap.size ∧ X' b ∧ ¬ X b) N w x) (hX : ∀ b, X b → X' b) (hf : ∀ b, X' b → b < w.heap.size)
    (hr : w4.ownsRow base 60 7 lv' (D.length + 1) (flatD D ++ x.cs)) (hnr : NewRow lv lv' w.heap.size) (hb4 : w4.heap[x0]? = some (.cells #[.pointer (some ⟨g, 0, none⟩), lv', .bool (tooMany (E ++ [x.d]))] 51 (0, 0)))
    (hs : ∀ b, b < w.heap.size → b ≠ x0 → lv.ownBlock ≠ some b → w4.heap[b]? = w.heap[b]?) (hz : w.heap.size ≤ w4.heap.size) :
    DSt ob us N base x0 g k (E ++ [x.d]) uv lv' (D ++ [x]) (fun b => X' b ∨ lv'.ownBlock = some b) w4 := by
  have hl := h.nl
  have hlt := h.lt
  have hg0 := h.foot _ h.xg
  have hx0 := h.foot _ h.xx
  have hxe := h.foot _ h.xe.1
  have hxe2 := h.xe.2
  have hv'e : ∀ b, lv'.ownBlock = some b → lv.ownBlock = some b ∨ w.heap.size ≤ b := fun b e => by
    rcases hnr with e1 | ⟨b', e1, hge⟩
    · exact .inl (e1 ▸ e)
    · rw [e1] at e; injection e with e; exact .inr (by omega)
  have hv'x : lv'.ownBlock ≠ some x0 := fun e => (hv'e _ e).elim hl.1 (fun e => by omega)
  have hv'g : lv'.ownBlock ≠ some g := fun e => (hv'e _ e).elim hl.2 (fun e => by omega)
  have hle : lv.ownBlock ≠ some 0 := fun e => by have := own_base h.row _ e; omega
  refine ⟨hb4, (hs g hg0 (Ne.symm h.ne) hl.2).trans h.nm, ?_, ?_, by rw [List.map_append, h.ds]; rfl, fun y hy => ?_, .inl (hX _ h.xx), .inl (hX _ h.xg), fun b hb => .inr hb, fun b hb => ?_, h.ne, h.lt, h.env.of_block (hs _ hxe (by omega) hle) hz, ⟨.inl (hX _ h.xe.1), h.xe.2⟩, (hs _ hxe (by omega) hle).trans h.tab⟩
  · exact h.tk.mono (fun b hb hlt => hs b hlt hb.2.1 hb.2.2.2) (fun b hb => ⟨.inl (hX _ hb.1), hb.2.1, hb.2.2.1, fun e => (hv'e b e).elim hb.2.2.2 (fun e => by have := h.foot b hb.1; omega)⟩)
  · rw [List.length_append, flatD_app]
    simpa [flatD] using hr
  · rcases List.mem_append.1 hy with hy | hy
    · exact (h.each y hy).mono (fun b hb hlt => hs b hlt hb.2.1 hb.2.2.2) (fun b hb => ⟨.inl (hX _ hb.1), hb.2.1, hb.2.2.1, fun e => (hv'e b e).elim hb.2.2.2 (fun e => by have := h.foot b hb.1; omega)⟩) (Nat.le_refl _)
    · obtain rfl : y = x := by simpa using hy
      exact hx.mono (fun b hb hlt => hs b hlt (fun e => hb.2.2 (e ▸ h.xx)) (fun e => hb.2.2 (h.xl b e))) (fun b hb => ⟨.inl hb.2.1, fun e => hb.2.2 (e ▸ h.xx), fun e => hb.2.2 (e ▸ h.xg), fun e => (hv'e b e).elim (fun e => hb.2.2 (h.xl b e)) (fun e => by have := hb.1; omega)⟩) (Nat.le_refl _)
  · rcases hb with hb | hb
    · have := hf b hb; omega
    · have := own_lt' hr hb
      omega
end
structure TOm (T : TypeId) (m base k : Nat) (X : Nat → Prop) (h0 v : Value) (D : List TC) (w : World) : Prop where
  box : w.heap[k]? = some (.cells #[h0, v] T (0, 0))
  row : w.ownsRow base T 2 v D.length (flatT D)
  each : ∀ x ∈ D, TmAt (fun b => base ≤ b ∧ b < w.heap.size ∧ ¬ X b ∧ v.ownBlock ≠ some b) m w x.t x.cs
  lt : k < base
  kX : ¬ X k
  vX : ∀ b, v.ownBlock = some b → ¬ X b
  len : D.length ≤ 1000000
section
variable {T : TypeId} {m base k : Nat} {X X' : Nat → Prop} {h0 v v' : Value} {D : List TC} {w w' w1 w3 : World}
theorem TOm.nk (h : TOm T m base k X h0 v D w) : v.ownBlock ≠ some k := fun e => by have := own_base h.row k e; have := h.lt; omega
theorem TOm.kp (h : TOm T m base k X h0 v D w) (hk : Kp X w w') (hf : ∀ b, X' b → X b ∨ w.heap.size ≤ b) : TOm T m base k X' h0 v D w' := by
  have hkk := blk_lt h.box
  have hz := hk.size
  refine ⟨(hk.block k hkk h.kX).trans h.box, own_same h.row (fun b hb hl => hk.block b hl (h.vX b hb)), fun x hx => ?_, h.lt, fun e => (hf k e).elim h.kX (fun e => by omega), fun b hb e => (hf b e).elim (h.vX b hb) (fun e => by have := own_lt' h.row hb; omega), h.len⟩
  exact TmAt.mono (fun b hb hl => hk.block b hl hb.2.2.1) (fun b hb => ⟨hb.1, by omega, fun e => (hf b e).elim hb.2.2.1 (fun e => by omega), hb.2.2.2⟩) _ _ _ _ (Nat.le_refl _) (h.each x hx)
theorem TOm.cells (h : TOm T m base k X h0 v D w) : w.cell? ⟨k, 0, none⟩ = some h0 ∧ w.cell? ⟨k, 1, none⟩ = some v ∧ (∀ j, w.frozen? ⟨k, j, none⟩ = false) ∧ k < w.heap.size := by
  refine ⟨?_, ?_, fun j => frozen_of_row w k j _ _ h.box, blk_lt h.box⟩
  · rw [cell_of_row w k 0 _ _ (0, 0) h.box]; rfl
  · rw [cell_of_row w k 1 _ _ (0, 0) h.box]; rfl
theorem TOm.app {x : TC} (h : TOm T m base k X h0 v D w) (hk : Kp X w w1) (hf : ∀ b, X' b → X b ∨ (w.heap.size ≤ b ∧ b < w1.heap.size)) (hx0 : ∀ b, X b → b < w.heap.size) (hx : TmAt (fun b => w.heap.size ≤ b ∧ b < w1.heap.size ∧ ¬ X' b) m w1 x.t x.cs) (hbw : base ≤ w.heap.size)
    (happ : ∀ b xs, w1.ownsRow b T 2 v D.length xs → b ≤ w1.heap.size → w3.ownsRow b T 2 v' (D.length + 1) (xs ++ x.cs)) (hg3 : w1.grownBy w3 v.ownBlock) (hnr : NewRow v v' w1.heap.size) (hl : D.length + 1 ≤ 1000000) :
    TOm T m base k X' h0 v' (D ++ [x]) (w3.setCell ⟨k, 1, none⟩ v') ∧ Kp (fun b => ¬ X' b) w1 (w3.setCell ⟨k, 1, none⟩ v') := by
  have hkk := blk_lt h.box
  have hlk := h.lt
  have hz := hk.size
  have hz3 := hg3.size
  have h1' := h.kp hk (fun b e => (hf b e).imp id (fun e => e.1))
  have hvw : ∀ b, v.ownBlock = some b → b < w.heap.size ∧ ¬ X' b := fun b e => ⟨own_lt' h.row e, h1'.vX b e⟩
  have hr3 := happ _ _ h1'.row (by omega)
  have hb3 : w3.heap[k]? = _ := (hg3.block k (by omega) (fun e => h.nk e.symm)).trans h1'.box
  have hX'1 : ∀ b, X' b → b < w1.heap.size := fun b e => (hf b e).elim (fun e => by have := hx0 b e; omega) (fun e => e.2)
  have hX'k : ¬ X' k := h1'.kX
  have hv'X : ∀ b, v'.ownBlock = some b → ¬ X' b ∧ b ≠ k := fun b e => by
    rcases hnr with e' | ⟨b', e', hge⟩
    · rw [e'] at e; exact ⟨(hvw b e).2, fun e2 => h.nk (e2 ▸ e)⟩
    · rw [e'] at e; injection e with e; subst e
      exact ⟨fun e2 => by have := hX'1 _ e2; omega, by omega⟩
  have same : ∀ b, b < w1.heap.size → v.ownBlock ≠ some b → b ≠ k → (w3.setCell ⟨k, 1, none⟩ v').heap[b]? = w1.heap[b]? := fun b h1 h2 h3 => (heap_setCell_other w3 ⟨k, 1, none⟩ b v' h3).trans (hg3.block b h1 (fun e => h2 e.symm))
  have key : ∀ b, b < w1.heap.size → v.ownBlock ≠ some b → v'.ownBlock ≠ some b := fun b h1 h2 => by
    rcases hnr with e' | ⟨b', e', hge⟩
    · rw [e']; exact h2
    · rw [e']; intro e; injection e with e; omega
  refine ⟨⟨?_, ?_, fun y hy => ?_, hlk, hX'k, fun b e => (hv'X b e).1, by rw [List.length_append]; exact hl⟩, ⟨hg3.os, hg3.tape, hg3.output, by simpa using hz3, fun b hb hn => ?_⟩⟩
  · have := heap_setCell_same w3 k 1 _ _ v' hb3
    simpa using this
  · rw [List.length_append, flatT_app]
    refine own_same (by simpa [flatT] using hr3) (fun b hb _ => heap_setCell_other w3 ⟨k, 1, none⟩ b v' (hv'X b hb).2)
  · rcases List.mem_append.1 hy with hy | hy
    · refine TmAt.mono (fun b hb _ => same b hb.2.1 hb.2.2.2 (by have := hb.1; omega)) (fun b hb => ⟨hb.1, by have := hb.2.1; simp; omega, hb.2.2.1, key b hb.2.1 hb.2.2.2⟩) _ _ _ _ (Nat.le_refl _) (h1'.each y hy)
    · obtain rfl : y = x := by simpa using hy
      have hv2 : ∀ b, w.heap.size ≤ b → v.ownBlock ≠ some b := fun b hb e => by have := (hvw b e).1; omega
      refine TmAt.mono (fun b hb _ => same b hb.2.1 (hv2 b hb.1) (by have := hb.1; omega)) (fun b hb => ⟨by have := hb.1; omega, by have := hb.2.1; simp; omega, hb.2.2, key b hb.2.1 (hv2 b hb.1)⟩) _ _ _ _ (Nat.le_refl _) hx
  · have hb' : X' b := Classical.not_not.1 hn
    exact same b hb (fun e => (hvw b e).2 hb') (fun e => hX'k (e ▸ hb'))
theorem TOm.at_ (h : TOm T m base k X h0 v D w) : ListAt (fun b => base ≤ b ∧ b < w.heap.size ∧ ¬ X b) w 2 (TmAt (fun b => base ≤ b ∧ b < w.heap.size ∧ ¬ X b) m w) v (D.map (·.t)) := by
  obtain ⟨p, c, rfl⟩ := own_slice h.row
  have hlen := h.len
  refine ⟨p, c, by rw [List.length_map], by rw [List.length_map]; unfold maxLen; omega, fun i x hx => ?_⟩
  rw [List.getElem?_map] at hx
  cases hy : D[i]? with
  | none => rw [hy] at hx; cases hx
  | some y =>
    rw [hy] at hx
    obtain rfl : y.t = x := Option.some.inj hx
    have hi := (List.getElem?_eq_some_iff.1 hy).1
    obtain ⟨g, e, h1, h2, h3⟩ := rowT_cell h.row (by omega)
    obtain ⟨c0, c1⟩ := h3 i y hy
    have hgX : ¬ X g := h.vX g (by rw [e]; rfl)
    refine ⟨g, 0, e, ⟨h1, h2, hgX⟩, y.cs, rfl, fun j hj => ?_, TmAt.mono (SameOn.refl _ _) (fun b hb => ⟨hb.1, hb.2.1, hb.2.2.1⟩) _ _ _ _ (Nat.le_refl _) (h.each y (List.mem_of_getElem? hy))⟩
    match j, hj with
    | 0, _ => rw [Nat.zero_add, Nat.add_zero]; exact c0
    | 1, _ => rw [Nat.zero_add]; exact c1
end
open Go.RowKit Go.Maps Go.WideMaps
def heldE (v : Value) : Option (DataW Value × List MemPlace) := some (.held v, [])
def findC (L : List (ByteArray × TC)) (s : ByteArray) : Option TC := (L.reverse.find? (fun p => sameN p.1 s)).map (·.2)
def zTerm : Value := .agg #[.string ⟨#[]⟩, .slice none 0 0]
def valC (o : Option TC) (z : Value) : Value := match o with | some x => .agg x.cs.toArray | none => z
theorem sameN_self (s : ByteArray) : sameN s s = true := by rw [sameN]; simp
theorem sameN_ne {x s : ByteArray} (h : x ≠ s) : sameN x s = false := by
  cases h' : sameN x s with
  | false => rfl
  | true => exact absurd (sameN_eq h') h
theorem findC_same (L : List (ByteArray × TC)) (s : ByteArray) (x : TC) : findC (L ++ [(s, x)]) s = some x := by
  rw [findC, List.reverse_append, List.reverse_singleton, List.singleton_append, List.find?_cons_of_pos (by exact sameN_self s)]; rfl
theorem findC_other (L : List (ByteArray × TC)) {s s' : ByteArray} (h : s ≠ s') (x : TC) : findC (L ++ [(s, x)]) s' = findC L s' := by
  rw [findC, List.reverse_append, List.reverse_singleton, List.singleton_append, List.find?_cons_of_neg (by rw [sameN_ne h]; decide)]; rfl
def MapT (w : World) (b n : Nat) (L : List (ByteArray × TC)) : Prop :=
  ∃ D : DataW Value, w.ownsMap Tryz.prog 9 heldE b n D ∧ IsMap D ∧ ∀ s : ByteArray, (∀ z, D.atKey (.string s.data.toList) (.held z) = .held (valC (findC L s) z)) ∧ has D (.string s.data.toList) = (findC L s).isSome
theorem MapT.kept {w w' : World} {b n : Nat} {L : List (ByteArray × TC)} (h : MapT w b n L) (hb : w'.heap[b]? = w.heap[b]?) : MapT w' b n L := by
  obtain ⟨D, ⟨es, clock, h1, h1'⟩, h2, h3⟩ := h
  exact ⟨D, ⟨es, clock, hb.trans h1, h1'⟩, h2, h3⟩
theorem MapT.nil (w : World) : MapT (w.alloc (.map #[] 0)) w.heap.size 0 [] := ⟨_, World.ownsMap_made w _ _ _, ⟨[], rfl⟩, fun _ => ⟨fun _ => rfl, rfl⟩⟩
theorem zeroTm (w : World) : (zeroValue 26).run Tryz.prog w = .ok zTerm w := by kernel_rfl
theorem MapT.look {w : World} {b n : Nat} {L : List (ByteArray × TC)} (h : MapT w b n L) (s : ByteArray) (hs : s.size ≤ maxLen) : (Instr.lookup 86 (.map (some b)) (.string s) true).run Tryz.prog w = .ok (.tuple #[valC (findC L s) zTerm, .bool (findC L s).isSome]) w := by
  obtain ⟨D, h1, h2, h3⟩ := h
  obtain ⟨v, ps, hr, hv⟩ := h1.look_ok (t := 86) (e := 26) (string_keyed Tryz.underlying9) Tryz.underlying86 (zeroTm w) (show heldE zTerm = some (.held zTerm, []) from rfl) (keyOf_string_mk Tryz.underlying9 hs)
  obtain ⟨h4, h5⟩ := h3 s
  rw [h4 zTerm] at hv
  have : v = valC (findC L s) zTerm := by
    rw [heldE] at hv
    simp only [Option.some.injEq, Prod.mk.injEq, DataW.held.injEq] at hv
    exact hv.1
  rw [hr, this, h5]
theorem MapT.add {w : World} {b n : Nat} {L : List (ByteArray × TC)} (h : MapT w b n L) (hn : n < 1000000) (s : ByteArray) (hs : s.size ≤ maxLen) (x : TC) : ∃ w', (Instr.mapUpdate 86 (.map (some b)) (.string s) (.agg x.cs.toArray)).run Tryz.prog w = .ok () w' ∧ MapT w' b (n + 1) (L ++ [(s, x)]) ∧ w.grownBy w' (some b) := by
  obtain ⟨D, h1, h2, h3⟩ := h
  obtain ⟨w', hr, h4, hg⟩ := h1.update (t := 86) (e := 26) (string_keyed Tryz.underlying9) Tryz.underlying86 (by unfold maxLen; omega) (keyOf_string_mk Tryz.underlying9 hs) (show heldE (.agg x.cs.toArray) = some (.held (.agg x.cs.toArray), []) from rfl)
  refine ⟨w', hr, ⟨_, h4, h2.put _ _, fun y => ?_⟩, hg⟩
  by_cases e : y = s
  · subst e
    rw [findC_same]
    exact ⟨fun z => atKey_put_same h2 (by unfold WideAt.IsKeyLit; trivial) _ _, has_put_same h2 (by unfold WideAt.IsKeyLit; trivial) _⟩
  · rw [findC_other _ (fun h => e h.symm)]
    have hne : Lit.string y.data.toList ≠ Lit.string s.data.toList := by intro h; injection h with h; exact e (ByteArray.ext (Array.toList_inj.1 h))
    exact ⟨fun z => (atKey_put_other hne _ _).trans ((h3 y).1 z), (has_put_other hne _).trans (h3 y).2⟩
end Go.Proofs.YtmbkjdkjemlfkaaGreatDoor
