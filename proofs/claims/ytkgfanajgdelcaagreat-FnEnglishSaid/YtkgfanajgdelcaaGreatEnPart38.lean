import Derived.Test.YtkgfanajgdelcaaGreatEnPart37
namespace Go.Proofs.YtkgfanajgdelcaaGreat
open Go.RowKit
def litN : Array Value := #[.bool false, .string ⟨#[]⟩, .slice none 0 0]
theorem row3_cells {w : World} {k : Nat} {x0 x1 x2 : Value} {t : TypeId} (h : w.heap[k]? = some (.cells #[x0, x1, x2] t (0, 0))) :
    w.cell? ⟨k, 0, none⟩ = some x0 ∧ w.cell? ⟨k, 1, none⟩ = some x1 ∧ w.cell? ⟨k, 2, none⟩ = some x2 ∧ ∀ j, w.frozen? ⟨k, j, none⟩ = false := by
  refine ⟨?_, ?_, ?_, fun j => frozen_of_row w k j _ _ h⟩
  · rw [cell_of_row w k 0 _ _ (0, 0) h]; rfl
  · rw [cell_of_row w k 1 _ _ (0, 0) h]; rfl
  · rw [cell_of_row w k 2 _ _ (0, 0) h]; rfl
structure MkD (eL : TypeId) (m : Nat) (W : World) (pos : Bool) (t : Tm) (u : Nat → Value) (L : Array Bool) (w : World) : Prop where
  bel : Below W.heap.size W w
  o11 : L.getD 11 false = true → L.getD 10 false = true
  o13 : L.getD 13 false = true → L.getD 11 false = true ∧ L.getD 12 false = true
  r10 : L.getD 10 false = true → ∃ p c, u 10 = .agg #[.string t.n, .slice p t.us.length c] ∧ TmAt (fun b => W.heap.size ≤ b ∧ b < w.heap.size ∧ (L.getD 12 false = true → u 12 ≠ .pointer (some ⟨b, 0, none⟩))) m w t [.string t.n, .slice p t.us.length c]
  b11 : L.getD 11 false = true → ∀ p c, u 10 = .agg #[.string t.n, .slice p t.us.length c] → u 11 = .agg #[.bool pos, .string t.n, .slice p t.us.length c]
  a12 : L.getD 12 false = true → ∃ k, u 12 = .pointer (some ⟨k, 0, none⟩) ∧ W.heap.size ≤ k ∧ k < w.heap.size ∧ (L.getD 13 false = false → w.heap[k]? = some (.cells litN eL (0, 0))) ∧ (L.getD 13 false = true → ∀ p c, u 10 = .agg #[.string t.n, .slice p t.us.length c] → w.heap[k]? = some (.cells #[.bool pos, .string t.n, .slice p t.us.length c] eL (0, 0)))
section
variable {eL : TypeId} {m : Nat} {W w w' : World} {pos : Bool} {t : Tm} {u : Nat → Value} {L : Array Bool} {v' : Value}
theorem MkD.start (hL : ∀ i, L.getD i false = false) : MkD eL m W pos t (fun _ => undef) L W.drew := by
  refine ⟨(Below.refl _ _).drew, ?_, ?_, ?_, ?_, ?_⟩ <;> (intro h; exact absurd h (by rw [hL]; decide))
theorem MkD.other (h : MkD eL m W pos t u L w) (k : Nat) (hk : k ∉ [10, 11, 12, 13]) : MkD eL m W pos t u (L.setIfInBounds k true) w := by
  simp only [List.mem_cons, List.not_mem_nil, or_false, not_or] at hk
  obtain ⟨k10, k11, k12, k13⟩ := hk
  obtain ⟨h1, h2, h3, h4, h5, h6⟩ := h
  refine ⟨h1, ?_, ?_, ?_, ?_, ?_⟩ <;> simp only [getD_set_ne false k10, getD_set_ne false k11, getD_set_ne false k12, getD_set_ne false k13] <;> assumption
theorem MkD.c10 {p : Option Addr} {c : Nat} (h : MkD eL m W pos t u L w) (hun : L.getD 10 true = false) (hr : TmAt (fun b => w.heap.size ≤ b ∧ b < w'.heap.size) m w' t [.string t.n, .slice p t.us.length c]) (hb : Below w.heap.size w w') : MkD eL m W pos t (upd u 10 (.agg #[.string t.n, .slice p t.us.length c])) (L.setIfInBounds 10 true) w' := by
  have hn := getD_tf hun
  obtain ⟨h1, h2, h3, h4, h5, h6⟩ := h
  have n11 : L.getD 11 false = false := by
    cases h' : L.getD 11 false with
    | false => rfl
    | true => have := h2 h'; rw [hn] at this; cases this
  have n13 : L.getD 13 false = false := by
    cases h' : L.getD 13 false with
    | false => rfl
    | true => have := (h3 h').1; rw [n11] at this; cases this
  have hz := h1.size
  have hz2 := hb.size
  refine ⟨h1.trans (hb.mono hz), ?_, ?_, ?_, ?_, ?_⟩ <;> simp only [getD_set_ne false (show (10 : Nat) ≠ 11 by decide), getD_set_ne false (show (10 : Nat) ≠ 12 by decide), getD_set_ne false (show (10 : Nat) ≠ 13 by decide), getD_now hun, upd_same, upd_other u _ (show (11 : Nat) ≠ 10 by decide), upd_other u _ (show (12 : Nat) ≠ 10 by decide)]
  · intro a; rw [n11] at a; cases a
  · intro a; rw [n13] at a; cases a
  · intro _
    refine ⟨p, c, rfl, TmAt.mono (SameOn.refl _ _) (fun b hb2 => ⟨by omega, hb2.2, fun a e => ?_⟩) m m t _ (Nat.le_refl _) hr⟩
    obtain ⟨k, e1, e2, e3, -⟩ := h6 a
    rw [e1] at e
    injection e with e
    injection e with e
    injection e with e
    omega
  · intro a; rw [n11] at a; cases a
  · intro a
    obtain ⟨k, e1, e2, e3, e4, e5⟩ := h6 a
    exact ⟨k, e1, e2, by omega, fun c => (hb.block k e3).trans (e4 c), fun c => (by rw [n13] at c; cases c)⟩
theorem MkD.m11 {p : Option Addr} {c : Nat} (h : MkD eL m W pos t u L w) (hun : L.getD 11 true = false) (k10 : L.getD 10 false = true) (hu : u 10 = .agg #[.string t.n, .slice p t.us.length c]) : MkD eL m W pos t (upd u 11 (.agg #[.bool pos, .string t.n, .slice p t.us.length c])) (L.setIfInBounds 11 true) w := by
  obtain ⟨h1, h2, h3, h4, h5, h6⟩ := h
  refine ⟨h1, ?_, ?_, ?_, ?_, ?_⟩ <;> simp only [getD_set_ne false (show (11 : Nat) ≠ 10 by decide), getD_set_ne false (show (11 : Nat) ≠ 12 by decide), getD_set_ne false (show (11 : Nat) ≠ 13 by decide), getD_now hun, upd_same, upd_other u _ (show (10 : Nat) ≠ 11 by decide), upd_other u _ (show (12 : Nat) ≠ 11 by decide)]
  · intro _; exact k10
  · intro a; exact ⟨trivial, (h3 a).2⟩
  · exact h4
  · intro _ p' c' e
    rw [hu] at e
    simp only [Value.agg.injEq, Array.mk.injEq, List.cons.injEq, Value.slice.injEq, true_and, and_true] at e
    obtain ⟨rfl, rfl⟩ := e
    rfl
  · exact h6
theorem MkD.a12' (h : MkD eL m W pos t u L w) (hun : L.getD 12 true = false) : MkD eL m W pos t (upd u 12 (.pointer (some ⟨w.heap.size, 0, none⟩))) (L.setIfInBounds 12 true) (w.alloc (.cells litN eL)) := by
  have hb := (Below.refl w.heap.size w).alloc (Nat.le_refl _) (.cells litN eL)
  have hn := getD_tf hun
  obtain ⟨h1, h2, h3, h4, h5, h6⟩ := h
  have n13 : L.getD 13 false = false := by
    cases h' : L.getD 13 false with
    | false => rfl
    | true => have := (h3 h').2; rw [hn] at this; cases this
  refine ⟨h1.alloc h1.size _, ?_, ?_, ?_, ?_, ?_⟩ <;> simp only [getD_set_ne false (show (12 : Nat) ≠ 10 by decide), getD_set_ne false (show (12 : Nat) ≠ 11 by decide), getD_set_ne false (show (12 : Nat) ≠ 13 by decide), getD_now hun, upd_same, upd_other u _ (show (10 : Nat) ≠ 12 by decide), upd_other u _ (show (11 : Nat) ≠ 12 by decide)]
  · exact h2
  · intro a; rw [n13] at a; cases a
  · intro a
    obtain ⟨p, c, e1, e2⟩ := h4 a
    refine ⟨p, c, e1, TmAt.mono (SameOn.below hb) (fun b hb2 => ⟨hb2.1, by have := hb2.2.1; simp; omega, fun _ e => ?_⟩) m m t _ (Nat.le_refl _) e2⟩
    injection e with e
    injection e with e
    injection e with e
    have := hb2.2.1
    omega
  · exact h5
  · intro _
    exact ⟨_, rfl, h1.size, by simp, fun _ => heap_alloc_new w _, fun c => (by rw [n13] at c; cases c)⟩
theorem MkD.s13 {p : Option Addr} {c k : Nat} (h : MkD eL m W pos t u L w) (hun : L.getD 13 true = false) (k11 : L.getD 11 false = true) (k12 : L.getD 12 false = true) (hu : u 10 = .agg #[.string t.n, .slice p t.us.length c]) (hk : u 12 = .pointer (some ⟨k, 0, none⟩)) : MkD eL m W pos t (upd u 13 v') (L.setIfInBounds 13 true) (set3C w k 0 (.bool pos) (.string t.n) (.slice p t.us.length c)) := by
  have hn := getD_tf hun
  obtain ⟨h1, h2, h3, h4, h5, h6⟩ := h
  obtain ⟨k', e1, e2, e3, e4, e5⟩ := h6 k12
  rw [hk] at e1
  injection e1 with e1
  injection e1 with e1
  injection e1 with e1
  subst e1
  have hsame : ∀ b, b ≠ k → (set3C w k 0 (.bool pos) (.string t.n) (.slice p t.us.length c)).heap[b]? = w.heap[b]? := fun b hb => set3_other w _ _ _ hb
  refine ⟨⟨h1.os, h1.tape, h1.output, by simpa using h1.size, fun b hb => (hsame b (by omega)).trans (h1.block b hb)⟩, ?_, ?_, ?_, ?_, ?_⟩ <;> simp only [getD_set_ne false (show (13 : Nat) ≠ 10 by decide), getD_set_ne false (show (13 : Nat) ≠ 11 by decide), getD_set_ne false (show (13 : Nat) ≠ 12 by decide), getD_now hun, upd_other u _ (show (10 : Nat) ≠ 13 by decide), upd_other u _ (show (11 : Nat) ≠ 13 by decide), upd_other u _ (show (12 : Nat) ≠ 13 by decide)]
  · exact h2
  · intro _; exact ⟨k11, k12⟩
  · intro a
    obtain ⟨p', c', e6, e7⟩ := h4 a
    refine ⟨p', c', e6, TmAt.mono (fun b hb2 _ => hsame b (fun e => hb2.2.2 k12 (by rw [hk, e]))) (fun b hb2 => ⟨hb2.1, by simpa using hb2.2.1, hb2.2.2⟩) m m t _ (Nat.le_refl _) e7⟩
  · exact h5
  · intro _
    refine ⟨k, hk, e2, by simpa using e3, fun c => (by cases c), fun _ p' c' e => ?_⟩
    rw [hu] at e
    simp only [Value.agg.injEq, Array.mk.injEq, List.cons.injEq, Value.slice.injEq, true_and, and_true] at e
    obtain ⟨rfl, rfl⟩ := e
    have := heap_setCell_same _ k 2 _ _ (.slice p t.us.length c) (heap_setCell_same _ k 1 _ _ (.string t.n) (heap_setCell_same w k 0 _ _ (.bool pos) (e4 hn)))
    simpa [litN] using this
theorem MkD.done (h : MkD eL m W pos t u L w) (hL : ∀ i, i < 14 → L.getD i false = true) : ∃ k p c, u 12 = .pointer (some ⟨k, 0, none⟩) ∧ W.heap.size ≤ k ∧ w.heap[k]? = some (.cells #[.bool pos, .string t.n, .slice p t.us.length c] eL (0, 0)) ∧ TmAt (fun b => W.heap.size ≤ b ∧ b < w.heap.size ∧ b ≠ k) m w t [.string t.n, .slice p t.us.length c] ∧ Below W.heap.size W w := by
  obtain ⟨h1, h2, h3, h4, h5, h6⟩ := h
  obtain ⟨p, c, e1, e2⟩ := h4 (hL 10 (by omega))
  obtain ⟨k, f1, f2, f3, f4, f5⟩ := h6 (hL 12 (by omega))
  exact ⟨k, p, c, f1, f2, f5 (hL 13 (by omega)) p c e1, TmAt.mono (SameOn.refl _ _) (fun b hb => ⟨hb.1, hb.2.1, fun e => hb.2.2 (hL 12 (by omega)) (by rw [f1, e])⟩) m m t _ (Nat.le_refl _) e2, h1⟩
end
end Go.Proofs.YtkgfanajgdelcaaGreat
