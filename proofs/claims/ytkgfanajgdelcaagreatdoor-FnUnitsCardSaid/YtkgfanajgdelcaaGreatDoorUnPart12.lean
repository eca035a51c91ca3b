/- The generator of a library: its end, one unit put back. Conditions: sizes. -/
import Derived.BigQuiet
import Derived.Test.YtkgfanajgdelcaaGreatDoorUnPart10
import Derived.Test.YtkgfanajgdelcaaGreatDoorUnPart11
namespace Go.Proofs.YtkgfanajgdelcaaGreatDoor
open Go.RowKit
theorem Cur.kept {S : Nat → Prop} {w w' : World} {g m : Nat} (h : Cur w g m) (hk : Kept S w w') (hS : ∀ b, b ≤ g → ¬ S b) : Cur w' g m := by
  have hlt := h.lt
  obtain ⟨u, a, s, h1, h2, h3, h4, h5, code, h6, h7⟩ := h
  exact ⟨u, a, s, (hk.block g hlt (hS g (Nat.le_refl _))).trans h1, h2, h3, h4, h5, code, h6, h7.mono (fun b hb hlt => hk.block b hlt (hS b (Nat.le_of_lt hb))) (fun _ h => h) (fun _ _ _ h => h)⟩
theorem grown_kept {S : Nat → Prop} {w w1 w2 : World} {g : Nat} (h : w.grownBy w1 (some g)) (hk : Kept S w1 w2) (hS : ∀ b, S b → b = g ∨ w.heap.size ≤ b) : w.grownBy w2 (some g) :=
  ⟨hk.os.trans h.os, hk.tape.trans h.tape, hk.output.trans h.output, Nat.le_trans h.size hk.size, fun b hb hne => (hk.block b (Nat.lt_of_lt_of_le hb h.size) (fun hs => by
    rcases hS b hs with e | e
    · exact hne (by rw [e])
    · omega)).trans (h.block b hb hne)⟩
theorem kept_grown {S : Nat → Prop} {w1 w2 : World} {g : Nat} (h : w1.grownBy w2 (some g)) (hS : S g) : Kept S w1 w2 := ⟨h.os, h.tape, h.output, h.size, fun b hb hne => h.block b hb (fun e => by injection e with e; exact hne (e ▸ hS))⟩
theorem getD_set_mono {L : Array Bool} {k i : Nat} (h : L.getD i false = true) : (L.setIfInBounds k true).getD i false = true := by
  by_cases e : k = i
  · subst e
    have hk : k < L.size := by
      rcases Nat.lt_or_ge k L.size with h' | h'
      · exact h'
      · simp [Array.getElem?_eq_none h'] at h
    simp [hk]
  · rw [getD_set_ne false e]; exact h
/-- The middle of a unit's making: cursor g; the result's block, the unit's, its texts'. -/
structure UGs (w : World) (g m : Nat) (nm goal : ByteArray) (tc : Array Value) (incs axs : List ByteArray) (p4 : Option Addr) (c4 : Nat) (p7 : Option Addr) (c7 : Nat) (wr : World) : Prop where
  cur : Cur wr g m
  lt : g < w.heap.size
  gr : w.grownBy wr (some g)
  box0 : wr.heap[w.heap.size]? = some (.cells unitN 34 (0, 0))
  box1 : wr.heap[w.heap.size + 1]? = some (.cells #[.string nm, .slice p4 incs.length c4, .slice p7 axs.length c7, .string goal] 34 (0, 0))
  box2 : wr.heap[w.heap.size + 2]? = some (.cells tc 9 (0, 0))
  r4 : wr.ownsRow (w.heap.size + 3) 9 1 (.slice p4 incs.length c4) incs.length (strW incs)
  r7 : wr.ownsRow (w.heap.size + 3) 9 1 (.slice p7 axs.length c7) axs.length (strW axs)
  ap : ∀ b, (Value.slice p4 incs.length c4).ownBlock = some b → (Value.slice p7 axs.length c7).ownBlock ≠ some b
section
variable {w W w2 w3 : World} {g m m' : Nat} {nm goal x : ByteArray} {tc : Array Value} {incs axs : List ByteArray} {p4 p7 : Option Addr} {c4 c7 : Nat} {u : Nat → Value} {L : Array Bool} {v' : Value}
theorem UGs.later (h : UGs w g m nm goal tc incs axs p4 c4 p7 c7 W) (hg : W.grownBy w2 (some g)) (hc : Cur w2 g m') : UGs w g m' nm goal tc incs axs p4 c4 p7 c7 w2 := by
  have hl := h.lt
  have blk : ∀ b, b < W.heap.size → g < b → w2.heap[b]? = W.heap[b]? := fun b hb hgb => hg.block b hb (fun e => by injection e with e; omega)
  refine ⟨hc, hl, gr_trans h.gr hg, (blk _ (blk_lt h.box0) hl).trans h.box0, (blk _ (blk_lt h.box1) (by omega)).trans h.box1, (blk _ (blk_lt h.box2) (by omega)).trans h.box2, ?_, ?_, h.ap⟩
  · exact own_same h.r4 fun b hb hlt => blk b hlt (by have := own_base h.r4 b hb; omega)
  · exact own_same h.r7 fun b hb hlt => blk b hlt (by have := own_base h.r7 b hb; omega)
/-- Operations 6 (the call of l2Put) and 8 (the store). -/
structure PutD (w : World) (nm goal x : ByteArray) (incs : List ByteArray) (W : World) (u : Nat → Value) (L : Array Bool) (w2 : World) : Prop where
  kept : Kept (fun b => b = w.heap.size + 1) W w2
  o8 : L.getD 8 false = true → L.getD 6 false = true
  b0 : L.getD 8 false = false → w2.heap[w.heap.size + 1]? = W.heap[w.heap.size + 1]?
  r6 : L.getD 6 false = true → ∃ incs' : List ByteArray, w2.ownsRow (w.heap.size + 3) 9 1 (u 6) incs'.length (strW incs') ∧ incs'.length ≤ incs.length + 1 ∧ wtS incs' ≤ wtS incs + x.size
  b8 : L.getD 8 false = true → w2.heap[w.heap.size + 1]? = some (.cells #[.string nm, u 6, .slice none 0 0, .string goal] 34 (0, 0))
  o6 : L.getD 6 false = true → L.getD 1 false = true
theorem PutD.start (hL : ∀ i, L.getD i false = false) : PutD w nm goal x incs W (fun _ => undef) L W.drew :=
  ⟨(Kept.refl _ W).below ((Below.refl _ _).drew), fun h => (by rw [hL] at h; cases h), fun _ => rfl, fun h => (by rw [hL] at h; cases h), fun h => (by rw [hL] at h; cases h), fun h => (by rw [hL] at h; cases h)⟩
theorem PutD.other (h : PutD w nm goal x incs W u L w2) (k : Nat) (hk : k ∉ [6, 8]) : PutD w nm goal x incs W u (L.setIfInBounds k true) w2 := by
  simp only [List.mem_cons, List.not_mem_nil, or_false, not_or] at hk
  obtain ⟨k6, k8⟩ := hk
  obtain ⟨h1, h2, h3, h4, h5, h6⟩ := h
  refine ⟨h1, ?_, ?_, ?_, ?_, ?_⟩ <;> simp only [getD_set_ne false k6, getD_set_ne false k8] <;> first | assumption | exact fun h => getD_set_mono (h6 h)
theorem PutD.c6 (h : PutD w nm goal x incs W u L w2) (hun : L.getD 6 true = false) (k1' : L.getD 1 false = true) {incs' : List ByteArray} (hz : w.heap.size + 1 < w2.heap.size) (hb : Below w2.heap.size w2 w3) (hr : w3.ownsRow (w.heap.size + 3) 9 1 v' incs'.length (strW incs')) (h1 : incs'.length ≤ incs.length + 1) (h2 : wtS incs' ≤ wtS incs + x.size) : PutD w nm goal x incs W (upd u 6 v') (L.setIfInBounds 6 true) w3 := by
  have hn := getD_tf hun
  obtain ⟨k1, k2, k3, k4, k5, k9⟩ := h
  have n8 : L.getD 8 false = false := by
    cases h' : L.getD 8 false with
    | false => rfl
    | true => have := k2 h'; rw [hn] at this; cases this
  refine ⟨k1.below hb, ?_, ?_, ?_, ?_, ?_⟩ <;> simp only [getD_set_ne false (show (6 : Nat) ≠ 8 by decide), getD_set_ne false (show (6 : Nat) ≠ 1 by decide), getD_now hun, n8, upd_same]
  · intro h; cases h
  · intro _; exact (hb.block _ hz).trans (k3 n8)
  · intro _; exact ⟨incs', hr, h1, h2⟩
  · intro h; cases h
  · intro _; exact k1'
theorem PutD.s8 (h : PutD w nm goal x incs W u L w2) (hun : L.getD 8 true = false) (k6 : L.getD 6 false = true) {v4 : Value} (hbx : W.heap[w.heap.size + 1]? = some (.cells #[.string nm, v4, .slice none 0 0, .string goal] 34 (0, 0))) : PutD w nm goal x incs W (upd u 8 v') (L.setIfInBounds 8 true) (w2.setCell ⟨w.heap.size + 1, 1, none⟩ (u 6)) := by
  have hn := getD_tf hun
  obtain ⟨k1, k2, k3, k4, k5, k9⟩ := h
  refine ⟨k1.set rfl _ _, ?_, ?_, ?_, ?_, ?_⟩ <;> simp only [getD_set_ne false (show (8 : Nat) ≠ 6 by decide), getD_set_ne false (show (8 : Nat) ≠ 1 by decide), getD_now hun, k6, upd_other u _ (show (6 : Nat) ≠ 8 by decide)]
  · intro _; trivial
  · intro h; cases h
  · intro _
    obtain ⟨i', e1, e2, e3⟩ := k4 k6
    exact ⟨i', own_same e1 fun b hb _ => heap_setCell_other w2 ⟨w.heap.size + 1, 1, none⟩ b _ (fun e => by have := own_base e1 b hb; have e' : b = w.heap.size + 1 := e; omega), e2, e3⟩
  · intro _
    have := heap_setCell_same w2 (w.heap.size + 1) 1 _ _ (u 6) ((k3 hn).trans hbx)
    simpa using this
  · intro _; exact k9 k6
/-- Operations 4 (the call of of), 5 (the one text as a slice), 6 (the append), 8 (the store). -/
structure AxD (w : World) (g m : Nat) (nm goal : ByteArray) (axs : List ByteArray) (v4 v7 : Value) (W : World) (u : Nat → Value) (L : Array Bool) (w2 : World) : Prop where
  kept : Kept (fun b => b = g ∨ b = w.heap.size + 1 ∨ v7.ownBlock = some b) W w2
  o5 : L.getD 5 false = true → L.getD 4 false = true
  o6 : L.getD 6 false = true → L.getD 5 false = true
  o8 : L.getD 8 false = true → L.getD 6 false = true
  c0 : L.getD 4 false = false → Cur w2 g m
  c4 : L.getD 4 false = true → Cur w2 g (m + 2)
  s4 : L.getD 4 false = true → IsStr 30 (u 4)
  r5 : L.getD 5 false = true → L.getD 6 false = false → ∃ q, u 5 = .slice (some ⟨q, 0, none⟩) 1 1 ∧ w2.heap[q]? = some (.cells #[u 4] 9 (0, 0)) ∧ W.heap.size ≤ q
  r7 : L.getD 6 false = false → w2.ownsRow (w.heap.size + 3) 9 1 v7 axs.length (strW axs)
  r6 : L.getD 6 false = true → w2.ownsRow (w.heap.size + 3) 9 1 (u 6) (axs.length + 1) (strW axs ++ [u 4]) ∧ ∀ b, (u 6).ownBlock = some b → v7.ownBlock = some b ∨ W.heap.size ≤ b
  b0 : L.getD 8 false = false → w2.heap[w.heap.size + 1]? = W.heap[w.heap.size + 1]?
  b8 : L.getD 8 false = true → w2.heap[w.heap.size + 1]? = some (.cells #[.string nm, v4, u 6, .string goal] 34 (0, 0))
  o1 : L.getD 6 false = true → L.getD 1 false = true
variable {v4 v7 : Value}
theorem AxD.start (hL : ∀ i, L.getD i false = false) (hc : Cur W g m) (hr : W.ownsRow (w.heap.size + 3) 9 1 v7 axs.length (strW axs)) : AxD w g m nm goal axs v4 v7 W (fun _ => undef) L W.drew := by
  have hb := (Below.refl W.heap.size W).drew
  refine ⟨(Kept.refl _ W).below hb, ?_, ?_, ?_, fun _ => hc.below hb, ?_, ?_, ?_, fun _ => own_below hr hb, ?_, fun _ => rfl, ?_, ?_⟩ <;> (intro h; exact absurd h (by rw [hL]; decide))
theorem AxD.other (h : AxD w g m nm goal axs v4 v7 W u L w2) (k : Nat) (hk : k ∉ [4, 5, 6, 8]) : AxD w g m nm goal axs v4 v7 W u (L.setIfInBounds k true) w2 := by
  simp only [List.mem_cons, List.not_mem_nil, or_false, not_or] at hk
  obtain ⟨k4, k5, k6, k8⟩ := hk
  obtain ⟨h1, h2, h3, h4, h5, h6, h7, h8, h9, h10, h11, h12, h13⟩ := h
  refine ⟨h1, ?_, ?_, ?_, ?_, ?_, ?_, ?_, ?_, ?_, ?_, ?_, ?_⟩ <;> simp only [getD_set_ne false k4, getD_set_ne false k5, getD_set_ne false k6, getD_set_ne false k8] <;> first | assumption | exact fun h => getD_set_mono (h13 h)
theorem AxD.call (h : AxD w g m nm goal axs v4 v7 W u L w2) (hun : L.getD 4 true = false) (hg : w2.grownBy w3 (some g)) (hc : Cur w3 g (m + 2)) (hs : IsStr 30 v') (hgl : g < w.heap.size) (hz : w.heap.size + 1 < W.heap.size) : AxD w g m nm goal axs v4 v7 W (upd u 4 v') (L.setIfInBounds 4 true) w3 := by
  have hn := getD_tf hun
  obtain ⟨h1, h2, h3, h4, h5, h6, h7, h8, h9, h10, h11, h12, h13⟩ := h
  have n5 : L.getD 5 false = false := by
    cases h' : L.getD 5 false with
    | false => rfl
    | true => have := h2 h'; rw [hn] at this; cases this
  have n6 : L.getD 6 false = false := by
    cases h' : L.getD 6 false with
    | false => rfl
    | true => have := h3 h'; rw [n5] at this; cases this
  have n8 : L.getD 8 false = false := by
    cases h' : L.getD 8 false with
    | false => rfl
    | true => have := h4 h'; rw [n6] at this; cases this
  have blk : ∀ b, b < w2.heap.size → g < b → w3.heap[b]? = w2.heap[b]? := fun b hb hgb => hg.block b hb (fun e => by injection e with e; omega)
  refine ⟨h1.trans (kept_grown hg (.inl rfl)), ?_, ?_, ?_, ?_, ?_, ?_, ?_, ?_, ?_, ?_, ?_, ?_⟩ <;> simp only [getD_set_ne false (show (4 : Nat) ≠ 1 by decide), getD_set_ne false (show (4 : Nat) ≠ 5 by decide), getD_set_ne false (show (4 : Nat) ≠ 6 by decide), getD_set_ne false (show (4 : Nat) ≠ 8 by decide), getD_now hun, n5, n6, n8, upd_same]
  · intro h; cases h
  · intro h; cases h
  · intro h; cases h
  · intro h; cases h
  · intro _; exact hc
  · intro _; exact hs
  · intro h; cases h
  · intro _; exact own_same (h9 n6) fun b hb hlt => blk b hlt (by have := own_base (h9 n6) b hb; omega)
  · intro h; cases h
  · intro _; exact (blk _ (by have := h1.size; omega) (by omega)).trans (h11 n8)
  · intro h; cases h
  · intro h; cases h
theorem AxD.bld (h : AxD w g m nm goal axs v4 v7 W u L w2) (hun : L.getD 5 true = false) (k4 : L.getD 4 false = true) (hz : w.heap.size + 1 < W.heap.size) : AxD w g m nm goal axs v4 v7 W (upd u 5 (.slice (some ⟨w2.heap.size, 0, none⟩) 1 1)) (L.setIfInBounds 5 true) (w2.alloc (.cells #[u 4] 9)) := by
  have hn := getD_tf hun
  have hb := (Below.refl w2.heap.size w2).alloc (Nat.le_refl _) (.cells #[u 4] 9)
  obtain ⟨h1, h2, h3, h4, h5, h6, h7, h8, h9, h10, h11, h12, h13⟩ := h
  have hsz := h1.size
  have n6 : L.getD 6 false = false := by
    cases h' : L.getD 6 false with
    | false => rfl
    | true => have := h3 h'; rw [hn] at this; cases this
  have n8 : L.getD 8 false = false := by
    cases h' : L.getD 8 false with
    | false => rfl
    | true => have := h4 h'; rw [n6] at this; cases this
  refine ⟨h1.below hb, ?_, ?_, ?_, ?_, ?_, ?_, ?_, ?_, ?_, ?_, ?_, ?_⟩ <;> simp only [getD_set_ne false (show (5 : Nat) ≠ 1 by decide), getD_set_ne false (show (5 : Nat) ≠ 4 by decide), getD_set_ne false (show (5 : Nat) ≠ 6 by decide), getD_set_ne false (show (5 : Nat) ≠ 8 by decide), getD_now hun, k4, n6, n8, upd_same, upd_other u _ (show (4 : Nat) ≠ 5 by decide), upd_other u _ (show (6 : Nat) ≠ 5 by decide)]
  · intro _; trivial
  · intro h; cases h
  · intro h; cases h
  · intro h; cases h
  · intro _; exact (h6 k4).below hb
  · intro _; exact h7 k4
  · intro _ _; exact ⟨_, rfl, heap_alloc_new w2 _, hsz⟩
  · intro _; exact own_below (h9 n6) hb
  · intro h; cases h
  · intro _; exact (hb.block _ (by omega)).trans (h11 n8)
  · intro h; cases h
  · intro h; cases h
theorem AxD.app (h : AxD w g m nm goal axs v4 v7 W u L w2) (hun : L.getD 6 true = false) (k1' : L.getD 1 false = true) (k5 : L.getD 5 false = true) (hgl : g < w.heap.size) (hz : w.heap.size + 1 < W.heap.size) (hr : w3.ownsRow (w.heap.size + 3) 9 1 v' (axs.length + 1) (strW axs ++ [u 4])) (hg : w2.grownBy w3 v7.ownBlock) (hnr : NewRow v7 v' w2.heap.size) : AxD w g m nm goal axs v4 v7 W (upd u 6 v') (L.setIfInBounds 6 true) w3 := by
  have hn := getD_tf hun
  obtain ⟨h1, h2, h3, h4, h5, h6, h7, h8, h9, h10, h11, h12, h13⟩ := h
  have hsz := h1.size
  have ho := h9 hn
  have k4 := h2 k5
  have n8 : L.getD 8 false = false := by
    cases h' : L.getD 8 false with
    | false => rfl
    | true => have := h4 h'; rw [hn] at this; cases this
  have hv : ∀ b, v7.ownBlock = some b → w.heap.size + 3 ≤ b := fun b hb => own_base ho b hb
  refine ⟨h1.grownB hg (fun b hb => .inr (.inr hb)), ?_, ?_, ?_, ?_, ?_, ?_, ?_, ?_, ?_, ?_, ?_, ?_⟩ <;> simp only [getD_set_ne false (show (6 : Nat) ≠ 1 by decide), getD_set_ne false (show (6 : Nat) ≠ 4 by decide), getD_set_ne false (show (6 : Nat) ≠ 5 by decide), getD_set_ne false (show (6 : Nat) ≠ 8 by decide), getD_now hun, k4, k5, n8, upd_same, upd_other u _ (show (4 : Nat) ≠ 6 by decide), upd_other u _ (show (5 : Nat) ≠ 6 by decide)]
  · intro _; trivial
  · intro _; trivial
  · intro h; cases h
  · intro h; cases h
  · intro _; exact (h6 k4).own hg (fun b hb => by have := hv b hb; omega)
  · intro _; exact h7 k4
  · intro _ h; cases h
  · intro h; cases h
  · intro _
    refine ⟨hr, fun b hb => ?_⟩
    rcases hnr with e | ⟨b', e, hge⟩
    · exact .inl (e ▸ hb)
    · rw [e] at hb; injection hb with hb; exact .inr (by omega)
  · intro _; exact (hg.block _ (by omega) (fun e => by have := hv _ e.symm; omega)).trans (h11 n8)
  · intro h; cases h
  · intro _; exact k1'
theorem AxD.s8 (h : AxD w g m nm goal axs v4 v7 W u L w2) (hun : L.getD 8 true = false) (k6 : L.getD 6 false = true) (hgl : g < w.heap.size) (hbx : W.heap[w.heap.size + 1]? = some (.cells #[.string nm, v4, v7, .string goal] 34 (0, 0))) : AxD w g m nm goal axs v4 v7 W (upd u 8 v') (L.setIfInBounds 8 true) (w2.setCell ⟨w.heap.size + 1, 2, none⟩ (u 6)) := by
  have hn := getD_tf hun
  obtain ⟨h1, h2, h3, h4, h5, h6, h7, h8, h9, h10, h11, h12, h13⟩ := h
  have k5 := h3 k6
  have k4 := h2 k5
  refine ⟨h1.set (.inr (.inl rfl)) _ _, ?_, ?_, ?_, ?_, ?_, ?_, ?_, ?_, ?_, ?_, ?_, ?_⟩ <;> simp only [getD_set_ne false (show (8 : Nat) ≠ 1 by decide), getD_set_ne false (show (8 : Nat) ≠ 4 by decide), getD_set_ne false (show (8 : Nat) ≠ 5 by decide), getD_set_ne false (show (8 : Nat) ≠ 6 by decide), getD_now hun, k4, k5, k6, upd_other u _ (show (4 : Nat) ≠ 8 by decide), upd_other u _ (show (5 : Nat) ≠ 8 by decide), upd_other u _ (show (6 : Nat) ≠ 8 by decide)]
  · intro _; trivial
  · intro _; trivial
  · intro _; trivial
  · intro h; cases h
  · intro _; exact (h6 k4).sc (by show g < w.heap.size + 1; omega) _
  · intro _; exact h7 k4
  · intro _ h; cases h
  · intro h; cases h
  · intro _
    obtain ⟨e1, e2⟩ := h10 k6
    exact ⟨own_same e1 fun b hb _ => heap_setCell_other w2 ⟨w.heap.size + 1, 2, none⟩ b _ (fun e => by have := own_base e1 b hb; have e' : b = w.heap.size + 1 := e; omega), e2⟩
  · intro h; cases h
  · intro _
    have := heap_setCell_same w2 (w.heap.size + 1) 2 _ _ (u 6) ((h11 hn).trans hbx)
    simpa using this
  · intro _; exact h13 k6
theorem UGs.put {incs' : List ByteArray} {v5 : Value} (h : UGs w g m nm goal tc incs [] p4 c4 none 0 W) (hk : Kept (fun b => b = w.heap.size + 1) W w2) (hb : w2.heap[w.heap.size + 1]? = some (.cells #[.string nm, v5, .slice none 0 0, .string goal] 34 (0, 0))) (hr : w2.ownsRow (w.heap.size + 3) 9 1 v5 incs'.length (strW incs')) : ∃ p5 c5, v5 = .slice p5 incs'.length c5 ∧ UGs w g m nm goal tc incs' [] p5 c5 none 0 w2 := by
  obtain ⟨p5, c5, rfl⟩ := own_slice hr
  have hl := h.lt
  refine ⟨p5, c5, rfl, h.cur.kept hk (fun b hb e => by omega), hl, grown_kept h.gr hk (fun b hb => .inr (by omega)), (hk.block _ (blk_lt h.box0) (by omega)).trans h.box0, hb, (hk.block _ (blk_lt h.box2) (by omega)).trans h.box2, hr, ⟨by simp [strW], .inl ⟨rfl, rfl⟩⟩, fun b _ e => by simp [Value.ownBlock] at e⟩
theorem UGs.ax {s : ByteArray} {v5 : Value} (h : UGs w g m nm goal tc incs axs p4 c4 p7 c7 W) (hk : Kept (fun b => b = g ∨ b = w.heap.size + 1 ∨ (Value.slice p7 axs.length c7).ownBlock = some b) W w2) (hc : Cur w2 g m') (hb : w2.heap[w.heap.size + 1]? = some (.cells #[.string nm, .slice p4 incs.length c4, v5, .string goal] 34 (0, 0))) (hr : w2.ownsRow (w.heap.size + 3) 9 1 v5 (axs.length + 1) (strW axs ++ [.string s])) (hn : ∀ b, v5.ownBlock = some b → (Value.slice p7 axs.length c7).ownBlock = some b ∨ W.heap.size ≤ b) : ∃ p5 c5, v5 = .slice p5 (axs ++ [s]).length c5 ∧ UGs w g m' nm goal tc incs (axs ++ [s]) p4 c4 p5 c5 w2 := by
  obtain ⟨p5, c5, rfl⟩ := own_slice hr
  have hl := h.lt
  have hv : ∀ b, (Value.slice p7 axs.length c7).ownBlock = some b → w.heap.size + 3 ≤ b := fun b hb => own_base h.r7 b hb
  have e : (axs ++ [s]).length = axs.length + 1 := by simp
  have e2 : strW (axs ++ [s]) = strW axs ++ [.string s] := by simp [strW]
  have bl : ∀ b, b < W.heap.size → b ≠ g → b ≠ w.heap.size + 1 → (Value.slice p7 axs.length c7).ownBlock ≠ some b → w2.heap[b]? = W.heap[b]? := fun b h1 h2 h3 h4 => hk.block b h1 (fun e => by rcases e with e | e | e <;> contradiction)
  refine ⟨p5, c5, by rw [e], hc, hl, grown_kept h.gr hk (fun b hb => by rcases hb with e | e | e; exact .inl e; exact .inr (by omega); exact .inr (by have := hv b e; omega)), (bl _ (blk_lt h.box0) (by omega) (by omega) (fun e => by have := hv _ e; omega)).trans h.box0, by rw [e]; exact hb, (bl _ (blk_lt h.box2) (by omega) (by omega) (fun e => by have := hv _ e; omega)).trans h.box2, ?_, by rw [e, e2]; exact hr, ?_⟩
  · exact own_same h.r4 fun b hb hlt => bl b hlt (by have := own_base h.r4 b hb; omega) (by have := own_base h.r4 b hb; omega) (h.ap b hb)
  · rw [e]
    intro b hb e'
    rcases hn b e' with h1 | h1
    · exact h.ap b hb h1
    · have := own_lt' h.r4 hb; omega
theorem UGs.setGoal {s : ByteArray} (h : UGs w g m nm goal tc incs axs p4 c4 p7 c7 W) : UGs w g m nm s tc incs axs p4 c4 p7 c7 (W.setCell ⟨w.heap.size + 1, 3, none⟩ (.string s)) := by
  have hl := h.lt
  have bl : ∀ b, b ≠ w.heap.size + 1 → (W.setCell ⟨w.heap.size + 1, 3, none⟩ (.string s)).heap[b]? = W.heap[b]? := fun b hb => heap_setCell_other W ⟨w.heap.size + 1, 3, none⟩ b _ hb
  have hb1 := heap_setCell_same W (w.heap.size + 1) 3 _ _ (.string s) h.box1
  refine ⟨h.cur.sc (by show g < w.heap.size + 1; omega) _, hl, gr_sc h.gr (.inr (by show w.heap.size ≤ w.heap.size + 1; omega)) _, (bl _ (by omega)).trans h.box0, by simpa using hb1, (bl _ (by omega)).trans h.box2, ?_, ?_, h.ap⟩
  · exact own_same h.r4 fun b hb _ => bl b (by have := own_base h.r4 b hb; omega)
  · exact own_same h.r7 fun b hb _ => bl b (by have := own_base h.r7 b hb; omega)
theorem UGs.init (h : Cur w g m) (nm : ByteArray) (tc : Array Value) : UGs w g m nm ⟨#[]⟩ tc [] [] none 0 none 0 (((w.alloc (.cells unitN 34)).alloc (.cells #[.string nm, .slice none 0 0, .slice none 0 0, .string ⟨#[]⟩] 34)).alloc (.cells tc 9)) := by
  have hl := h.lt
  obtain ⟨W1, hW1⟩ : ∃ W1, W1 = w.alloc (.cells unitN 34) := ⟨_, rfl⟩
  have hz1 : W1.heap.size = w.heap.size + 1 := by rw [hW1]; simp
  have b0 : W1.heap[w.heap.size]? = some (.cells unitN 34 (0, 0)) := by rw [hW1]; exact heap_alloc_new w _
  have hc1 : Cur W1 g m := by rw [hW1]; exact h.al _
  have hg1 : w.grownBy W1 (some g) := by rw [hW1]; exact gr_al (gr_refl w g) _
  rw [← hW1]
  clear hW1
  obtain ⟨W2, hW2⟩ : ∃ W2, W2 = W1.alloc (.cells #[.string nm, .slice none 0 0, .slice none 0 0, .string ⟨#[]⟩] 34) := ⟨_, rfl⟩
  have hz2 : W2.heap.size = w.heap.size + 2 := by rw [hW2]; simp [hz1]
  have d0 : W2.heap[w.heap.size]? = some (.cells unitN 34 (0, 0)) := by
    rw [hW2]; exact (((Below.refl _ W1).alloc (Nat.le_refl _) _).block _ (by omega)).trans b0
  have d1 : W2.heap[w.heap.size + 1]? = some (.cells #[.string nm, .slice none 0 0, .slice none 0 0, .string ⟨#[]⟩] 34 (0, 0)) := by
    have := heap_alloc_new W1 (.cells #[.string nm, .slice none 0 0, .slice none 0 0, .string ⟨#[]⟩] 34)
    rw [hz1] at this; rw [hW2]; exact this
  have hc2 : Cur W2 g m := by rw [hW2]; exact hc1.al _
  have hg2 : w.grownBy W2 (some g) := by rw [hW2]; exact gr_al hg1 _
  rw [← hW2]
  clear hW2
  have hb := (Below.refl W2.heap.size W2).alloc (Nat.le_refl _) (.cells tc 9)
  refine ⟨hc2.al _, hl, gr_al hg2 _, (hb.block _ (by omega)).trans d0, (hb.block _ (by omega)).trans d1, ?_, ⟨by simp [strW], .inl ⟨rfl, rfl⟩⟩, ⟨by simp [strW], .inl ⟨rfl, rfl⟩⟩, fun b e => by simp [Value.ownBlock] at e⟩
  have := heap_alloc_new W2 (.cells tc 9)
  rw [hz2] at this; exact this
/-- The result's block is filled. -/
theorem UGs.done (h : UGs w g m nm goal tc incs axs p4 c4 p7 c7 W) {a b c d : Value} : Cur (set4W W w.heap.size 0 a b c d) g m ∧ w.grownBy (set4W W w.heap.size 0 a b c d) (some g) ∧ UC.Own 9 w.heap.size (set4W W w.heap.size 0 a b c d) ⟨⟨nm, incs, axs, goal⟩, p4, c4, p7, c7⟩ := by
  have hl := h.lt
  have hwb : w.heap.size ≤ w.heap.size := Nat.le_refl _
  refine ⟨(((h.cur.sc (p := ⟨_, _, none⟩) hl _).sc (p := ⟨_, _, none⟩) hl _).sc (p := ⟨_, _, none⟩) hl _).sc (p := ⟨_, _, none⟩) hl _, gr_sc (gr_sc (gr_sc (gr_sc h.gr (p := ⟨_, _, none⟩) (.inr hwb) _) (p := ⟨_, _, none⟩) (.inr hwb) _) (p := ⟨_, _, none⟩) (.inr hwb) _) (p := ⟨_, _, none⟩) (.inr hwb) _, ?_, ?_, h.ap⟩
  · exact own_lower (own_same h.r4 fun b hb _ => set4_other W _ _ _ _ (by have := own_base h.r4 b hb; omega)) (by omega)
  · exact own_lower (own_same h.r7 fun b hb _ => set4_other W _ _ _ _ (by have := own_base h.r7 b hb; omega)) (by omega)
end
end Go.Proofs.YtkgfanajgdelcaaGreatDoor
namespace Go.Proofs.YtkgfanajgdelcaaGreatDoor
open Go.RowKit
def unitTx : Array Value := #[.string ⟨([112, 40, 97, 41]).toArray⟩, .string ⟨([97, 108, 108, 32, 88, 46, 40, 112, 40, 88, 41, 32, 61, 62, 32, 112, 40, 102, 40, 88, 41, 41, 41]).toArray⟩, .string ⟨([114]).toArray⟩, .string ⟨([40, 114, 32, 61, 62, 32, 112, 40, 98, 41, 41]).toArray⟩, .string ⟨([97, 108, 108, 32, 88, 46, 115, 111, 109, 101, 32, 89, 46, 113, 40, 88, 44, 89, 41]).toArray⟩, .string ⟨([126, 112, 40, 102, 40, 97, 41, 41]).toArray⟩, .string ⟨([97, 32, 61, 32, 98]).toArray⟩, .string ⟨([40, 112, 40, 97, 41, 32, 124, 32, 114, 41]).toArray⟩]
theorem Kept.cell {S : Nat → Prop} {w w' : World} (h : Kept S w w') {a : Addr} (hb : a.block < w.heap.size) (hS : ¬ S a.block) : w'.cell? a = w.cell? a := by
  have := h.block a.block hb hS
  unfold World.cell?
  rw [this]
theorem unitTx_str : ∀ v ∈ unitTx, IsStr 30 v := by
  intro v hv
  simp only [unitTx, List.mem_toArray, List.mem_cons, List.not_mem_nil, or_false] at hv
  rcases hv with rfl | rfl | rfl | rfl | rfl | rfl | rfl | rfl <;> exact ⟨_, rfl, by decide⟩
/-- The first loop: k names looked at. -/
def UnRel1 (w : World) (g m : Nat) (nm : ByteArray) (n : Nat) (i : Value) (wr : World) : Prop :=
  ∃ (k : Nat) (incs : List ByteArray) (p4 : Option Addr) (c4 : Nat), k ≤ n ∧ i = .int .i64 k ∧ incs.length ≤ k ∧ wtS incs ≤ 10 * k ∧ UGs w g (m + k * 2) nm ⟨#[]⟩ unitTx incs [] p4 c4 none 0 wr
/-- The second: k axioms still to be drawn. -/
def UnRel2 (w : World) (g m : Nat) (nm : ByteArray) (incs : List ByteArray) (p4 : Option Addr) (c4 : Nat) (i : Value) (wr : World) : Prop :=
  ∃ (k : Nat) (axs : List ByteArray) (p7 : Option Addr) (c7 : Nat), k + axs.length ≤ 2 ∧ i = .int .i64 k ∧ wtS axs ≤ 30 * axs.length ∧ UGs w g (m + axs.length * 2) nm ⟨#[]⟩ unitTx incs axs p4 c4 p7 c7 wr
set_option maxRecDepth 100000 in
set_option maxHeartbeats 6400000 in
theorem unit_any {B : Nat → Prop} (g m : Nat) (nm : ByteArray) (vn : Value) (names : List ByteArray) (w : World) (h : Cur w g m) (hm : m + 60 ≤ 1000000000) (hn : StrsAt B w vn names) (hB : ∀ b, B b → b ≠ g) (hnm : nm.size ≤ 10) (hl : names.length ≤ 5) (hs : ∀ s ∈ names, s.size ≤ 10) :
    Calls Tryz.prog 123 #[.pointer (some ⟨g, 0, none⟩), .string nm, vn] w (StepO g m 40 (fun w' v => ∃ (u : Un) (p4 : Option Addr) (c4 : Nat) (p7 : Option Addr) (c7 : Nat), v = .agg #[.string nm, .slice p4 u.incs.length c4, .slice p7 u.axs.length c7, .string u.goal] ∧ u.name = nm ∧ UC.Own 9 w.heap.size w' ⟨u, p4, c4, p7, c7⟩ ∧ u.wt ≤ 400) w) := by
  obtain ⟨p, c, rfl, hlen⟩ := hn.form
  have hgl := h.lt
  have H := Lib.hid h
  have HN := Lib.hid hn
  have HS := Lib.hid hs
  clear h hn hs hlen
  go_enter Tryz.func123, Tryz.ntmps123
  go_wp2_with fail
  go_loopw [9] (UnRel1 w g m nm names.length) (fun i _ => names.length - (intOf i).toNat)
  case atStart =>
    refine ⟨0, [], none, 0, Nat.zero_le _, rfl, Nat.le_refl _, by simp [wtS], ?_⟩
    rw [Nat.zero_mul, Nat.add_zero]
    exact UGs.init (m := m) H.out nm unitTx
  case round =>
    obtain ⟨k, incs, p4, c4, hk, rfl, hil, hiw, hu⟩ := hrel
    have HU := Lib.hid hu
    have hq := hu.gr.size
    have hz2 := blk_lt hu.box2
    clear hu
    by_cases hlt : k < names.length
    · have hki : (k : Int) < names.length := by omega
      go_wp2_with fail
      refine (one_any g (m + k * 2) 2 _ HU.out.cur (by omega) (by omega) (by omega)).mono ?_
      rintro e w1 ⟨_, rfl, ⟨y1, rfl⟩, hc1, hg1⟩
      have HC1 := Lib.hid hc1
      clear hc1
      have ⟨c1, f1⟩ := gcell hg1
      have hz1 := hg1.size
      (try simp at hz1)
      have HU1 := Lib.hid (HU.out.later hg1 HC1.out)
      have hgz := hg1.size
      clear hg1 c1 f1
      cases y1
      · go_wp2
        refine ⟨⟨k + 1, incs, p4, c4, by omega, by go_num, by omega, by omega, ?_⟩, by simp [intOf]; omega⟩
        rw [show m + (k + 1) * 2 = m + k * 2 + 2 by omega]; exact HU1.out
      · obtain ⟨nb, no, rfl, hBn, hxw0, -⟩ := HN.out.at_ hlt
        have hnw := World.block_lt_of_cell? _ _ hxw0
        have hxc := ((gcell HU1.out.gr).1 nb (no + k) hnw (hB nb hBn)).trans hxw0
        have hxs := HS.out _ (List.getElem_mem hlt)
        obtain ⟨x, hx⟩ : ∃ x, names[k] = x := ⟨_, rfl⟩
        rw [hx] at hxc hxs
        clear hxw0
        have zx := bsz (World.block_lt_of_cell? _ _ hxc)
        obtain ⟨d0, d1, d2, d3, df⟩ := row4_cells HU1.out.box1
        have zb := bsz (blk_lt HU1.out.box1)
        have hnb : nb ≠ w.heap.size + 1 := fun e => by have h' : nb < w.heap.size := hnw; omega
        clear hx
        go_wp2
        refine wp_region_any3 [some (.pointer (some ⟨w.heap.size + 1, 1, none⟩)), some (.slice p4 incs.length c4), some (.slice (some ⟨nb, no, none⟩) names.length c), some (.int .i64 k), some (.pointer (some ⟨nb, no + k, none⟩)), some (.string x), none, some (.pointer (some ⟨w.heap.size + 1, 1, none⟩)), none] (PutD w nm ⟨#[]⟩ x incs w1) (by kernel_rfl) (by kernel_rfl) (fun L hL => PutD.start hL) ?_
        refine flowV_st rfl rfl (by intro u' L w' hun hbe hD; go_simp; first | exact ⟨hD.other 0 (by decide), rfl⟩ | exact hD.other 0 (by decide)) ?_
        go_simp
        refine flowV_st rfl rfl (by
          intro u' L w' hun hbe hD
          have n6 : L.getD 6 false = false := by
            cases h' : L.getD 6 false with
            | false => rfl
            | true => have := hD.o6 h'; rw [getD_tf hun] at this; cases this
          have n8 : L.getD 8 false = false := by
            cases h' : L.getD 8 false with
            | false => rfl
            | true => have := hD.o8 h'; rw [n6] at this; cases this
          obtain ⟨e0, e1, e2, e3, ef⟩ := row4_cells ((hD.b0 n8).trans HU1.out.box1)
          have hks := hD.kept.size
          have ze := bsz (show w.heap.size + 1 < w'.heap.size by omega)
          clear hbe
          go_simp; first | exact ⟨hD.other 1 (by decide), rfl⟩ | exact hD.other 1 (by decide)) ?_
        go_simp
        refine flowV_st rfl rfl (by intro u' L w' hun hbe hD; go_simp; first | exact ⟨hD.other 2 (by decide), rfl⟩ | exact hD.other 2 (by decide)) ?_
        go_simp
        refine flowV_st rfl rfl (by intro u' L w' hun hbe hD; go_simp; first | exact ⟨hD.other 3 (by decide), rfl⟩ | exact hD.other 3 (by decide)) ?_
        go_simp
        refine flowV_st rfl rfl (by intro u' L w' hun hbe hD; go_simp; first | exact ⟨hD.other 4 (by decide), rfl⟩ | exact hD.other 4 (by decide)) ?_
        go_simp
        refine flowV_st rfl rfl (by
          intro u' L w' hun hbe hD
          have hxw : w'.cell? ⟨nb, no + k, none⟩ = some (.string x) := (hD.kept.cell (by simpa using zx.1) (show ¬ nb = w.heap.size + 1 from hnb)).trans hxc
          have hks := hD.kept.size
          have ze := bsz (show nb < w'.heap.size by omega)
          go_simp; first | exact ⟨hD.other 5 (by decide), rfl⟩ | exact hD.other 5 (by decide)) ?_
        go_simp
        refine flowV_ch rfl rfl (by
          intro u' hu' L w' hun hbe hD
          have h1 := after_behind hbe (p := 1) (by kernel_rfl)
          have hks := hD.kept.size
          go_simp
          refine (l2Put_gen (w.heap.size + 3) incs _ x w' (own_same HU1.out.r4 fun b hb hlt => hD.kept.block b hlt (fun e => by have := own_base HU1.out.r4 b hb; omega)) (by omega) (by omega)).mono fun e w'' ⟨l', v', he, hr, h2, h3, hb'⟩ => ⟨v', he, ?_⟩
          exact hD.c6 hun h1 (by omega) hb' hr h2 h3) ?_
        intro x6
        go_simp
        refine flowV_st rfl rfl (by intro u' L w' hun hbe hD; go_simp; first | exact ⟨hD.other 7 (by decide), rfl⟩ | exact hD.other 7 (by decide)) ?_
        go_simp
        refine flowV_ch rfl rfl (by
          intro u' hu' L w' hun hbe hD
          have h6 := after_behind hbe (p := 6) (by kernel_rfl)
          have hu6 : u' 6 = x6 := (after_eq hu' (by kernel_rfl)).trans (by simp [upd])
          have hs := hD.s8 (v' := undef) hun h6 HU1.out.box1
          obtain ⟨l6, hr6, -, -⟩ := hD.r6 h6
          obtain ⟨p6, c6, e6⟩ := own_slice hr6
          rw [e6] at hs
          obtain rfl : x6 = .slice p6 l6.length c6 := hu6.symm.trans e6
          obtain ⟨e0, e1, e2, e3, ef⟩ := row4_cells ((hD.b0 (getD_tf hun)).trans HU1.out.box1)
          have hks := hD.kept.size
          have ze := bsz (show w.heap.size + 1 < w'.heap.size by omega)
          clear hu6 hu' e6 hr6
          (first | (go_simp; done) | (go_simp; exact hs))) ?_
        intro x8
        refine flowV_nil ?_
        intro L w3 hL hD
        have h6 : L.getD 6 false = true := by simpa using hL 6 (by simp)
        have h8 : L.getD 8 false = true := by simpa using hL 8 (by simp)
        obtain ⟨incs', hr, h2, h3⟩ := hD.r6 h6
        obtain ⟨p5, c5, -, hU3⟩ := HU1.out.put hD.kept (hD.b8 h8) hr
        have HU3 := Lib.hid hU3
        clear hD hL hr hU3
        go_wp2
        refine ⟨⟨k + 1, incs', p5, c5, by omega, by go_num, by omega, by omega, ?_⟩, by simp [intOf]; omega⟩
        rw [show m + (k + 1) * 2 = m + k * 2 + 2 by omega]; exact HU3.out
    · obtain rfl : k = names.length := by omega
      have hki : ¬ (names.length : Int) < names.length := by omega
      go_wp2_with fail
      refine (pick_any g (m + names.length * 2) 3 _ HU.out.cur (by omega) (by omega) (by omega)).mono ?_
      rintro e w1 ⟨_, rfl, ⟨r1, rfl, hr0, hr2⟩, hc1, hg1⟩
      have HC1 := Lib.hid hc1
      clear hc1
      have ⟨c1, f1⟩ := gcell hg1
      have hz1 := hg1.size
      (try simp at hz1)
      have HU1 := Lib.hid (HU.out.later hg1 HC1.out)
      have hgz := hg1.size
      clear hg1 c1 f1
      obtain ⟨n1, rfl⟩ : ∃ n1 : Nat, r1 = (n1 : Int) := ⟨r1.toNat, by omega⟩
      go_wp2
      go_loopw [10] (UnRel2 w g (m + names.length * 2 + 2) nm incs p4 c4) (fun i _ => (intOf i).toNat)
      case atStart => exact ⟨n1, [], none, 0, by simp; omega, rfl, by simp [wtS], HU1.out⟩
      case round =>
        obtain ⟨n, axs, p7, c7, hn, rfl, haw, hu⟩ := hrel
        have HU2 := Lib.hid hu
        have hq2 := hu.gr.size
        have hz3 := blk_lt hu.box2
        clear hu
        by_cases hn0 : 0 < n
        · have hni : (0 : Int) < n := by omega
          obtain ⟨d0, d1, d2, d3, df⟩ := row4_cells HU2.out.box1
          have zb := bsz (blk_lt HU2.out.box1)
          go_wp2
          refine wp_region_any3 [some (.pointer (some ⟨w.heap.size + 1, 2, none⟩)), some (.slice p7 axs.length c7), some (.pointer (some ⟨g, 0, none⟩)), some (.slice (some ⟨w.heap.size + 2, 0, none⟩) 8 8), none, none, none, some (.pointer (some ⟨w.heap.size + 1, 2, none⟩)), none] (AxD w g (m + names.length * 2 + 2 + axs.length * 2) nm ⟨#[]⟩ axs (.slice p4 incs.length c4) (.slice p7 axs.length c7) wr) (by kernel_rfl) (by kernel_rfl) (fun L hL => AxD.start hL HU2.out.cur HU2.out.r7) ?_
          refine flowV_st rfl rfl (by intro u' L w' hun hbe hD; go_simp; first | exact ⟨hD.other 0 (by decide), rfl⟩ | exact hD.other 0 (by decide)) ?_
          go_simp
          refine flowV_st rfl rfl (by
            intro u' L w' hun hbe hD
            have n6 : L.getD 6 false = false := by
              cases h' : L.getD 6 false with
              | false => rfl
              | true => have := hD.o1 h'; rw [getD_tf hun] at this; cases this
            have n8 : L.getD 8 false = false := by
              cases h' : L.getD 8 false with
              | false => rfl
              | true => have := hD.o8 h'; rw [n6] at this; cases this
            obtain ⟨e0, e1, e2, e3, ef⟩ := row4_cells ((hD.b0 n8).trans HU2.out.box1)
            have hks := hD.kept.size
            have ze := bsz (show w.heap.size + 1 < w'.heap.size by omega)
            clear hbe
            go_simp; first | exact ⟨hD.other 1 (by decide), rfl⟩ | exact hD.other 1 (by decide)) ?_
          go_simp
          refine flowV_st rfl rfl (by intro u' L w' hun hbe hD; go_simp; first | exact ⟨hD.other 2 (by decide), rfl⟩ | exact hD.other 2 (by decide)) ?_
          go_simp
          refine flowV_st rfl rfl (by intro u' L w' hun hbe hD; go_simp; first | exact ⟨hD.other 3 (by decide), rfl⟩ | exact hD.other 3 (by decide)) ?_
          go_simp
          refine flowV_ch rfl rfl (by
            intro u' hu' L w' hun hbe hD
            have hks := hD.kept.size
            have hb2 : w'.heap[w.heap.size + 2]? = some (.cells unitTx 9 (0, 0)) := (hD.kept.block _ hz3 (fun e => by
              rcases e with e | e | e
              · omega
              · omega
              · have := own_base HU2.out.r7 _ e; omega)).trans HU2.out.box2
            go_simp
            refine (of_any g (m + names.length * 2 + 2 + axs.length * 2) (w.heap.size + 2) 8 30 unitTx 9 (0, 0) w' (hD.c0 (getD_tf hun)) (by omega) hb2 (by omega) (by decide) (by decide) unitTx_str).mono fun e w'' ⟨v', he, hv, hc, hg⟩ => ⟨v', he, ?_⟩
            exact hD.call hun hg hc hv hgl (by omega)) ?_
          intro x4
          go_simp
          refine flowV_ch rfl rfl (by
            intro u' hu' L w' hun hbe hD
            have h4 := after_behind hbe (p := 4) (by kernel_rfl)
            have hu4 : u' 4 = x4 := (after_eq hu' (by kernel_rfl)).trans (by simp [upd])
            obtain ⟨s, e4, -⟩ := hD.s4 h4
            obtain rfl : x4 = .string s := hu4.symm.trans e4
            have hs := hD.bld hun h4 (by omega)
            rw [e4] at hs
            clear hu4 hu' e4
            (first | (go_simp; done) | (go_simp; exact hs))) ?_
          intro x5
          go_simp
          refine flowV_ch rfl rfl (by
            intro u' hu' L w' hun hbe hD
            have h5 := after_behind hbe (p := 5) (by kernel_rfl)
            have h1 := after_behind hbe (p := 1) (by kernel_rfl)
            have hu5 : u' 5 = x5 := (after_eq hu' (by kernel_rfl)).trans (by simp [upd])
            obtain ⟨q, hq, hqc, -⟩ := hD.r5 h5 (getD_tf hun)
            have hks := hD.kept.size
            refine each_app (.tmp 37) (.tmp 41) 26 rfl (w.heap.size + 3) 9 1 16 elemStr (.slice p7 axs.length c7) axs.length (strW axs) rfl (.slice (some ⟨q, 0, none⟩) 1 1) 1 (#[u' 4] : Array Value).toList (by rw [← hq, hu5]; rfl) (src_block hqc (by simp)) (hD.r7 (getD_tf hun)) (fun v hv => by obtain ⟨s, e4, -⟩ := hD.s4 (hD.o5 h5); rw [e4] at hv; simp at hv; rw [hv]; rfl) (by omega) (by unfold maxLen; omega) (by omega) ?_
            intro v' w2 hr hg hn
            exact hD.app hun h1 h5 hgl (by omega) hr hg hn) ?_
          intro x6
          go_simp
          refine flowV_st rfl rfl (by intro u' L w' hun hbe hD; go_simp; first | exact ⟨hD.other 7 (by decide), rfl⟩ | exact hD.other 7 (by decide)) ?_
          go_simp
          refine flowV_ch rfl rfl (by
            intro u' hu' L w' hun hbe hD
            have h6 := after_behind hbe (p := 6) (by kernel_rfl)
            have hu6 : u' 6 = x6 := (after_eq hu' (by kernel_rfl)).trans (by simp [upd])
            have hs := hD.s8 (v' := undef) hun h6 hgl HU2.out.box1
            obtain ⟨hr6, -⟩ := hD.r6 h6
            obtain ⟨p6, c6, e6⟩ := own_slice hr6
            rw [e6] at hs
            obtain rfl : x6 = .slice p6 (axs.length + 1) c6 := hu6.symm.trans e6
            obtain ⟨e0, e1, e2, e3, ef⟩ := row4_cells ((hD.b0 (getD_tf hun)).trans HU2.out.box1)
            have hks := hD.kept.size
            have ze := bsz (show w.heap.size + 1 < w'.heap.size by omega)
            clear hu6 hu' e6 hr6
            (first | (go_simp; done) | (go_simp; exact hs))) ?_
          intro x8
          refine flowV_nil ?_
          intro L w3 hL hD
          have h4 : L.getD 4 false = true := by simpa using hL 4 (by simp)
          have h6 : L.getD 6 false = true := by simpa using hL 6 (by simp)
          have h8 : L.getD 8 false = true := by simpa using hL 8 (by simp)
          obtain ⟨s, e4, hs30⟩ := hD.s4 h4
          obtain ⟨hr6, hn6⟩ := hD.r6 h6
          rw [e4] at hr6
          obtain ⟨p5, c5, -, hU3⟩ := HU2.out.ax hD.kept (hD.c4 h4) (hD.b8 h8) hr6 hn6
          have HU3 := Lib.hid hU3
          clear hD hL hr6 hn6 hU3 e4
          go_wp2
          refine ⟨⟨n - 1, axs ++ [s], p5, c5, by simp; omega, by go_num, by rw [wtS_snoc, List.length_append]; simp; omega, ?_⟩, by simp [intOf]; omega⟩
          rw [show (axs ++ [s]).length = axs.length + 1 by simp, show m + names.length * 2 + 2 + (axs.length + 1) * 2 = m + names.length * 2 + 2 + axs.length * 2 + 2 by omega]
          exact HU3.out
        · obtain rfl : n = 0 := by omega
          go_wp2_with fail
          refine (one_any g (m + names.length * 2 + 2 + axs.length * 2) 2 _ HU2.out.cur (by omega) (by omega) (by omega)).mono ?_
          rintro e w2 ⟨_, rfl, ⟨y2, rfl⟩, hc2, hg2⟩
          have HC2 := Lib.hid hc2
          clear hc2
          have ⟨c2, f2⟩ := gcell hg2
          have hz2 := hg2.size
          (try simp at hz2)
          have HU3 := Lib.hid (HU2.out.later hg2 HC2.out)
          have hgz2 := hg2.size
          clear hg2 c2 f2
          cases y2
          · obtain ⟨d0, d1, d2, d3, df⟩ := row4_cells HU3.out.box1
            obtain ⟨e0, e1, e2, e3, ef⟩ := row4_cells HU3.out.box0
            have zb := bsz (blk_lt HU3.out.box1)
            have zb0 := bsz (blk_lt HU3.out.box0)
            go_wp2
            obtain ⟨r1, r2, r3⟩ := HU3.out.done (a := .string nm) (b := .slice p4 incs.length c4) (c := .slice p7 axs.length c7) (d := .string ⟨#[]⟩)
            refine bodyPost_ret (v := .agg #[.string nm, .slice p4 incs.length c4, .slice p7 axs.length c7, .string ⟨#[]⟩]) (by simp only [results, Tryz.results123]; go_simp) rfl ⟨_, rfl, ⟨⟨nm, incs, axs, ⟨#[]⟩⟩, p4, c4, p7, c7, rfl, rfl, r3, ?_⟩, r1.more (by omega) (by omega), r2⟩
            · show nm.size + (incs.length + wtS incs) + (axs.length + wtS axs) + ByteArray.size ⟨#[]⟩ ≤ 400
              have : ByteArray.size ⟨#[]⟩ ≤ 30 := by first | exact hs30 | decide
              omega
          · go_wp2_with fail
            refine (of_any g _ (w.heap.size + 2) 8 30 unitTx 9 (0, 0) _ HU3.out.cur (by omega) HU3.out.box2 (by omega) (by decide) (by decide) unitTx_str).mono ?_
            rintro e w3 ⟨_, rfl, ⟨s, rfl, hs30⟩, hc3, hg3⟩
            have HC3 := Lib.hid hc3
            clear hc3
            have ⟨c3, f3⟩ := gcell hg3
            have hz3 := hg3.size
            (try simp at hz3)
            have HU4 := Lib.hid (HU3.out.later hg3 HC3.out)
            have hgz3 := hg3.size
            obtain ⟨d0, d1, d2, d3, df⟩ := row4_cells HU4.out.box1
            have zb := bsz (blk_lt HU4.out.box1)
            clear hg3 c3 f3
            have HU5 := Lib.hid (HU4.out.setGoal (s := s))
            obtain ⟨e0, e1, e2, e3, ef⟩ := row4_cells HU4.out.box0
            have zb0 := bsz (blk_lt HU4.out.box0)
            go_wp2
            obtain ⟨r1, r2, r3⟩ := HU5.out.done (a := .string nm) (b := .slice p4 incs.length c4) (c := .slice p7 axs.length c7) (d := .string s)
            refine bodyPost_ret (v := .agg #[.string nm, .slice p4 incs.length c4, .slice p7 axs.length c7, .string s]) (by simp only [results, Tryz.results123]; go_simp) rfl ⟨_, rfl, ⟨⟨nm, incs, axs, s⟩, p4, c4, p7, c7, rfl, rfl, r3, ?_⟩, r1.more (by omega) (by omega), r2⟩
            · show nm.size + (incs.length + wtS incs) + (axs.length + wtS axs) + ByteArray.size s ≤ 400
              have : ByteArray.size s ≤ 30 := by first | exact hs30 | decide
              omega
end Go.Proofs.YtkgfanajgdelcaaGreatDoor
namespace Go.Proofs.YtkgfanajgdelcaaGreatDoor
open Go.RowKit
theorem flatU_split (D : List UC) (m : Nat) : flatU (D.take m) = (flatU D).take (m * 4) ∧ flatU (D.drop m) = (flatU D).drop (m * 4) := by
  by_cases hm : m ≤ D.length
  · have hl : (flatU (D.take m)).length = m * 4 := by rw [flatU_len, List.length_take, Nat.min_eq_left hm]
    have e : flatU D = flatU (D.take m) ++ flatU (D.drop m) := by rw [← flatU_app, List.take_append_drop]
    rw [e]
    exact ⟨by rw [← hl, List.take_left], by rw [← hl, List.drop_left]⟩
  · rw [List.take_of_length_le (by omega), List.drop_eq_nil_of_le (by omega), List.take_of_length_le (by rw [flatU_len]; omega), List.drop_eq_nil_of_le (by rw [flatU_len]; omega)]
    exact ⟨rfl, rfl⟩
theorem Uns.row {e : TypeId} {base : Nat} {w : World} {ov ov' : Value} {D : List UC} (h : Uns e base w ov D) (hf : ∀ x ∈ D, ∀ b, x.S b → ov'.ownBlock ≠ some b) : Uns e base w ov' D := ⟨h.each, hf, h.pair⟩
theorem flatU_cell (D : List UC) : ∀ u ∈ flatU D, u.oneCell' = true := by
  intro u hu
  rw [flatU, List.mem_flatMap] at hu
  obtain ⟨x, -, hx⟩ := hu
  simp only [UC.cs, List.mem_cons, List.not_mem_nil, or_false] at hx
  rcases hx with rfl | rfl | rfl | rfl <;> rfl
theorem own_some {w : World} {base n size : Nat} {e : TypeId} {v : Value} {xs : List Value} (h : w.ownsRow base e size v n xs) (h0 : 0 < n) : ∃ g c, v = .slice (some ⟨g, 0, none⟩) n c := by
  rcases h.2 with ⟨rfl, h1⟩ | ⟨g, cap, cur, rfl, _⟩
  · omega
  · exact ⟨_, _, rfl⟩
theorem srcU_head {w : World} {base : Nat} {e : TypeId} {g c k m : Nat} {D : List UC} (h : w.ownsRow base e 4 (.slice (some ⟨g, 0, none⟩) k c) k (flatU D)) (hm : m ≤ k) (c' : Nat) : SrcIs w 4 (.slice (some ⟨g, 0, none⟩) m c') m (flatU (D.take m)) := by
  rw [(flatU_split D m).1]; exact src_head h hm c'
theorem srcU_tail {w : World} {base : Nat} {e : TypeId} {g c k m : Nat} {D : List UC} (h : w.ownsRow base e 4 (.slice (some ⟨g, 0, none⟩) k c) k (flatU D)) (hm : m ≤ k) (c' : Nat) : SrcIs w 4 (.slice (some ⟨g, m * 4, none⟩) (k - m) c') (k + 1 - (m + 1)) (flatU (D.drop m)) := by
  rw [(flatU_split D m).2, show k + 1 - (m + 1) = k - m by omega]; exact src_tail h hm c'
theorem srcU_nil {w : World} {g o c k : Nat} {D : List UC} (hk : D.length = k) : SrcIs w 4 (.slice (some ⟨g, o, none⟩) 0 c) (k + 1 - (k + 1)) (flatU (D.drop k)) := by
  rw [List.drop_eq_nil_of_le (by omega)]; exact srcNil (by omega)
end Go.Proofs.YtkgfanajgdelcaaGreatDoor
namespace Go.Proofs.YtkgfanajgdelcaaGreatDoor
open Go.RowKit
def libNm : List ByteArray := [⟨([115, 101, 116, 115]).toArray⟩, ⟨([98, 97, 115, 101]).toArray⟩, ⟨([111, 114, 100, 101, 114]).toArray⟩, ⟨([108, 111, 103, 105, 99]).toArray⟩, ⟨([122, 49]).toArray⟩]
def libTx : Array Value := (strW libNm).toArray
theorem libNm_size : ∀ s ∈ libNm, s.size ≤ 10 := by decide
/-- The library so far: cursor g, the names' block (w's size and 2), the row of names used, the row of units. -/
structure LibS (w : World) (g m : Nat) (nmv : Value) (ns : List ByteArray) (og oc : Nat) (D : List UC) (wr : World) : Prop where
  cur : Cur wr g m
  lt : g < w.heap.size
  gr : w.grownBy wr (some g)
  tx : wr.heap[w.heap.size + 2]? = some (.cells libTx 9 (0, 0))
  nr : wr.ownsRow w.heap.size 9 1 nmv ns.length (strW ns)
  or : wr.ownsRow w.heap.size 34 4 (.slice (some ⟨og, 0, none⟩) D.length oc) D.length (flatU D)
  uns : Uns 9 (w.heap.size + 3) wr (.slice (some ⟨og, 0, none⟩) D.length oc) D
  nd : ∀ b, nmv.ownBlock = some b → b ≠ og ∧ b ≠ w.heap.size + 2 ∧ ∀ x ∈ D, ¬ x.S b
  ot : og ≠ w.heap.size + 2
  wt : ∀ x ∈ D, x.u.wt ≤ 400
section
variable {w W w2 w3 : World} {g m m' og oc : Nat} {nmv v' : Value} {ns : List ByteArray} {D : List UC}
theorem Uns.sameB {e : TypeId} {base : Nat} {w w' : World} {ov : Value} {D : List UC} (h : Uns e base w ov D) (hs : ∀ b, base ≤ b → b < w.heap.size → (∀ x ∈ D, x.S b → w'.heap[b]? = w.heap[b]?)) : Uns e base w' ov D :=
  ⟨fun x hx => (h.each x hx).same fun b hb hl => hs b ((h.each x hx).blk hb).1 hl x hx hb, h.far, h.pair⟩
theorem LibS.later (h : LibS w g m nmv ns og oc D W) (hg : W.grownBy w2 (some g)) (hc : Cur w2 g m') : LibS w g m' nmv ns og oc D w2 := by
  have hl := h.lt
  have blk : ∀ b, b < W.heap.size → g < b → w2.heap[b]? = W.heap[b]? := fun b hb hgb => hg.block b hb (fun e => by injection e with e; omega)
  refine ⟨hc, hl, gr_trans h.gr hg, (blk _ (blk_lt h.tx) (by omega)).trans h.tx, ?_, ?_, ?_, h.nd, h.ot, h.wt⟩
  · exact own_same h.nr fun b hb hlt => blk b hlt (by have := own_base h.nr b hb; omega)
  · exact own_same h.or fun b hb hlt => blk b hlt (by have := own_base h.or b hb; omega)
  · exact h.uns.sameB fun b hb hlt _ _ _ => blk b hlt (by omega)
theorem LibS.below (h : LibS w g m nmv ns og oc D W) (hb : Below W.heap.size W w2) : LibS w g m nmv ns og oc D w2 := h.later (gr_below (gr_refl W g) hb) (h.cur.below hb)
/-- One name more. -/
theorem LibS.name {s : ByteArray} (h : LibS w g m nmv ns og oc D W) (hr : w2.ownsRow w.heap.size 9 1 v' (ns.length + 1) (strW ns ++ [.string s])) (hg : W.grownBy w2 nmv.ownBlock) (hn : NewRow nmv v' W.heap.size) : LibS w g m v' (ns ++ [s]) og oc D w2 := by
  have hl := h.lt
  have e : (ns ++ [s]).length = ns.length + 1 := by simp
  have e2 : strW (ns ++ [s]) = strW ns ++ [.string s] := by simp [strW]
  have hv : ∀ b, nmv.ownBlock = some b → w.heap.size ≤ b := fun b hb => own_base h.nr b hb
  have hz := h.gr.size
  refine ⟨h.cur.own hg (fun b hb => by have := hv b hb; omega), hl, ?_, (hg.block _ (blk_lt h.tx) (fun e => (h.nd _ e.symm).2.1 rfl)).trans h.tx, by rw [e, e2]; exact hr, ?_, ?_, ?_, h.ot, h.wt⟩
  · exact ⟨hg.os.trans h.gr.os, hg.tape.trans h.gr.tape, hg.output.trans h.gr.output, Nat.le_trans hz hg.size, fun b hb hne => (hg.block b (by omega) (fun e => by have := hv b e.symm; omega)).trans (h.gr.block b hb hne)⟩
  · exact own_same h.or fun b hb hlt => hg.block b hlt (fun e => (h.nd b e.symm).1 (by simpa [Value.ownBlock] using hb.symm))
  · exact h.uns.sameB fun b _ hlt x hx hb => hg.block b hlt (fun e => (h.nd b e.symm).2.2 x hx hb)
  · intro b hb
    rcases hn with e | ⟨b', e, hge⟩
    · rw [e] at hb; exact h.nd b hb
    · rw [e] at hb
      injection hb with hb
      have h1 := own_lt h.or
      have h2 := blk_lt h.tx
      exact ⟨by omega, by omega, fun x hx hxb => by have := ((h.uns.each x hx).blk hxb).2; omega⟩
/-- One unit more, in a new row. -/
theorem LibS.put {x : UC} {k : Nat} {og' oc' : Nat} (h : LibS w g m nmv ns og oc D W) (hb : Below W.heap.size W w2) (hx : x.Own 9 (w.heap.size + 3) W) (hxw : x.u.wt ≤ 400) (hxd : ∀ y ∈ D, ∀ b, y.S b → ¬ x.S b) (hxn : ∀ b, nmv.ownBlock = some b → ¬ x.S b)
    (hr : w2.ownsRow W.heap.size 34 4 (.slice (some ⟨og', 0, none⟩) (D.length + 1) oc') (D.length + 1) (flatU (D.take k ++ x :: D.drop k))) : LibS w g m nmv ns og' oc' (D.take k ++ x :: D.drop k) w2 := by
  have hz := h.gr.size
  have hog : W.heap.size ≤ og' := own_base hr og' rfl
  have hlen : (D.take k ++ x :: D.drop k).length = D.length + 1 := by
    have := congrArg List.length (List.take_append_drop k D)
    rw [List.length_append] at this
    rw [List.length_append, List.length_cons]; omega
  have hp : (D.take k ++ x :: D.drop k).Perm (D ++ [x]) := List.perm_middle.trans (by rw [List.take_append_drop]; exact (List.perm_append_singleton _ D).symm)
  have h1 := own_lt h.or
  have h2 := blk_lt h.tx
  refine ⟨h.cur.below hb, h.lt, gr_below h.gr hb, (hb.block _ h2).trans h.tx, own_below h.nr hb, by rw [hlen]; exact own_lower hr hz, ?_, ?_, by omega, ?_⟩
  · rw [hlen]
    exact (((h.uns.below hb).row (fun y hy b hyb e => by have := ((h.uns.each y hy).blk hyb).2; simp only [Value.ownBlock, Option.some.injEq] at e; omega)).snoc (hx.same (fun b _ hl => hb.block b hl)) (fun b hxb e => by have := (hx.blk hxb).2; simp only [Value.ownBlock, Option.some.injEq] at e; omega) hxd).perm hp
  · intro b hb'
    have hbl := own_lt' h.nr hb'
    exact ⟨by omega, (h.nd b hb').2.1, fun y hy hyb => by
      rcases List.mem_append.1 (hp.mem_iff.1 hy) with hy | hy
      · exact (h.nd b hb').2.2 y hy hyb
      · obtain rfl : y = x := by simpa using hy
        exact hxn b hb' hyb⟩
  · intro y hy
    rcases List.mem_append.1 (hp.mem_iff.1 hy) with hy | hy
    · exact h.wt y hy
    · obtain rfl : y = x := by simpa using hy
      exact hxw
theorem LibS.init (h : Cur w g m) : LibS w g m (.slice (some ⟨w.heap.size + 1, 0, none⟩) 0 0) [] w.heap.size 0 [] (((w.alloc (.cells #[] 34)).alloc (.cells #[] 9)).alloc (.cells libTx 9)) := by
  have hl := h.lt
  obtain ⟨W1, hW1⟩ : ∃ W1, W1 = w.alloc (.cells #[] 34) := ⟨_, rfl⟩
  have hz1 : W1.heap.size = w.heap.size + 1 := by rw [hW1]; simp
  have r0 : W1.ownsRow w.heap.size 34 4 (.slice (some ⟨w.heap.size, 0, none⟩) 0 0) 0 [] := by rw [hW1]; exact row_empty w _ _ _ (Nat.le_refl _)
  have hc1 : Cur W1 g m := by rw [hW1]; exact h.al _
  have hg1 : w.grownBy W1 (some g) := by rw [hW1]; exact gr_al (gr_refl w g) _
  rw [← hW1]
  clear hW1
  obtain ⟨W2, hW2⟩ : ∃ W2, W2 = W1.alloc (.cells #[] 9) := ⟨_, rfl⟩
  have hz2 : W2.heap.size = w.heap.size + 2 := by rw [hW2]; simp [hz1]
  have hb2 : Below W1.heap.size W1 W2 := by rw [hW2]; exact (Below.refl _ _).alloc (Nat.le_refl _) _
  have r1 : W2.ownsRow w.heap.size 9 1 (.slice (some ⟨w.heap.size + 1, 0, none⟩) 0 0) 0 [] := by
    have := row_empty W1 w.heap.size 9 1 (by omega)
    rw [hz1] at this; rw [hW2]; exact this
  have hc2 : Cur W2 g m := hc1.below hb2
  have hg2 : w.grownBy W2 (some g) := gr_below hg1 hb2
  rw [← hW2]
  clear hW2
  have hb := (Below.refl W2.heap.size W2).alloc (Nat.le_refl _) (.cells libTx 9)
  refine ⟨hc2.below hb, hl, gr_below hg2 hb, ?_, own_below r1 hb, own_below (own_below r0 hb2) hb, Uns.nil _ _ _ _, fun b e => ?_, by omega, fun x hx => by cases hx⟩
  · have := heap_alloc_new W2 (.cells libTx 9)
    rw [hz2] at this; exact this
  · simp only [Value.ownBlock, Option.some.injEq] at e
    exact ⟨by omega, by omega, fun x hx => by cases hx⟩
end
end Go.Proofs.YtkgfanajgdelcaaGreatDoor
namespace Go.Proofs.YtkgfanajgdelcaaGreatDoor
open Go.RowKit
/-- A whole block as a row. -/
theorem own_block {w : World} {k : Nat} {cur : Array Value} {e : TypeId} {base size n c : Nat} (h : w.heap[k]? = some (.cells cur e (0, 0))) (hb : base ≤ k) (hn : n ≤ c) (hc : c ≤ maxLen) (hs : cur.size = c * size) {xs : List Value} (hx : cur.toList.take (n * size) = xs) : w.ownsRow base e size (.slice (some ⟨k, 0, none⟩) n c) n xs := by
  have hle : n * size ≤ c * size := Nat.mul_le_mul_right _ hn
  refine ⟨by rw [← hx, List.length_take, Array.length_toList]; omega, .inr ⟨k, c, cur, rfl, hb, h, hn, hc, hs, hx⟩⟩
theorem Uns.replace {e : TypeId} {base : Nat} {w : World} {ov : Value} {D : List UC} {k n : Nat} {x y : UC} (h : Uns e base w ov D) (hx : D[k]? = some x) (hlt : ∀ z ∈ D, ∀ b, z.S b → b < n) (hov : ∀ b, ov.ownBlock = some b → b < n) (hy : y.Own e base w) (hS : ∀ b, y.S b → x.S b ∨ n ≤ b) : Uns e base w ov (D.set k y) := by
  obtain ⟨hk, rfl⟩ := List.getElem?_eq_some_iff.1 hx
  have hne : ∀ (j : Nat) (hj : j < D.length), j ≠ k → ∀ b, D[j].S b → ¬ y.S b := fun j hj hjk b h1 h2 => by
    rcases hS b h2 with h3 | h3
    · rcases Nat.lt_or_gt_of_ne hjk with hl | hl
      · exact List.pairwise_iff_getElem.1 h.pair j k hj hk hl b h1 h3
      · exact List.pairwise_iff_getElem.1 h.pair k j hk hj hl b h3 h1
    · have := hlt _ (List.getElem_mem hj) b h1; omega
  refine ⟨fun z hz => ?_, fun z hz b hb => ?_, ?_⟩
  · rcases List.mem_or_eq_of_mem_set hz with hz | rfl
    · exact h.each z hz
    · exact hy
  · rcases List.mem_or_eq_of_mem_set hz with hz | rfl
    · exact h.far z hz b hb
    · rcases hS b hb with h1 | h1
      · exact h.far _ (List.getElem_mem hk) b h1
      · intro e; have := hov b e; omega
  · rw [List.pairwise_iff_getElem]
    intro i j hi hj hij b h1 h2
    rw [List.length_set] at hi hj
    rw [List.getElem_set] at h1 h2
    by_cases hik : k = i
    · rw [if_pos hik] at h1
      rw [if_neg (by omega)] at h2
      exact hne j hj (by omega) b h2 h1
    · rw [if_neg hik] at h1
      by_cases hjk : k = j
      · rw [if_pos hjk] at h2
        exact hne i hi (by omega) b h1 h2
      · rw [if_neg hjk] at h2
        exact List.pairwise_iff_getElem.1 h.pair i j hi hj hij b h1 h2
theorem src_own {w : World} {base : Nat} {e : TypeId} {size n : Nat} {v : Value} {xs : List Value} (h : w.ownsRow base e size v n xs) : SrcIs w size v n xs := by
  rcases h.2 with ⟨rfl, rfl⟩ | ⟨g, cap, cur, rfl, -⟩
  · exact .inl ⟨rfl, rfl, List.eq_nil_of_length_eq_zero (by rw [h.1]; omega)⟩
  · have := src_head h (Nat.le_refl _) cap
    rwa [List.take_of_length_le (by rw [h.1]; exact Nat.le_refl _)] at this
theorem gr_own {w W w2 : World} {g : Nat} {v : Value} (h : w.grownBy W (some g)) (hg : W.grownBy w2 v.ownBlock) (hv : ∀ b, v.ownBlock = some b → w.heap.size ≤ b) : w.grownBy w2 (some g) := by
  have hz := h.size
  exact ⟨hg.os.trans h.os, hg.tape.trans h.tape, hg.output.trans h.output, Nat.le_trans hz hg.size, fun b hb hne => (hg.block b (by omega) (fun e => by have := hv b e.symm; omega)).trans (h.block b hb hne)⟩
theorem UC.Own.grownG {e : TypeId} {base g : Nat} {W w3 : World} {x : UC} (h : x.Own e base W) (hg : W.grownBy w3 (some g)) (hgb : g < base) : x.Own e base w3 :=
  h.same fun b hb hl => hg.block b hl (fun e => by injection e with e; have := (h.blk hb).1; omega)
theorem UC.Own.newI {e : TypeId} {base g c : Nat} {W w3 : World} {x : UC} {l : List ByteArray} {p : Option Addr} (h : x.Own e base W) (hg : W.grownBy w3 (some g)) (hgb : g < base) (hz : base ≤ W.heap.size) (hr : w3.ownsRow W.heap.size e 1 (.slice p l.length c) l.length (strW l)) :
    (⟨⟨x.u.name, l, x.u.axs, x.u.goal⟩, p, c, x.q, x.d⟩ : UC).Own e base w3 ∧ ∀ b, (⟨⟨x.u.name, l, x.u.axs, x.u.goal⟩, p, c, x.q, x.d⟩ : UC).S b → x.S b ∨ W.heap.size ≤ b := by
  have h3 := h.grownG hg hgb
  refine ⟨⟨own_lower hr hz, h3.rb, fun b h1 h2 => ?_⟩, fun b hb => ?_⟩
  · have := own_base hr b h1
    have := (h.blk (.inr h2)).2; omega
  · rcases hb with hb | hb
    · exact .inr (own_base hr b hb)
    · exact .inl (.inr hb)
theorem UC.Own.newA {e : TypeId} {base g c : Nat} {W w3 : World} {x : UC} {l : List ByteArray} {p : Option Addr} (h : x.Own e base W) (hg : W.grownBy w3 (some g)) (hgb : g < base) (hz : base ≤ W.heap.size) (hr : w3.ownsRow W.heap.size e 1 (.slice p l.length c) l.length (strW l)) :
    (⟨⟨x.u.name, x.u.incs, l, x.u.goal⟩, x.p, x.c, p, c⟩ : UC).Own e base w3 ∧ ∀ b, (⟨⟨x.u.name, x.u.incs, l, x.u.goal⟩, x.p, x.c, p, c⟩ : UC).S b → x.S b ∨ W.heap.size ≤ b := by
  have h3 := h.grownG hg hgb
  refine ⟨⟨h3.ra, own_lower hr hz, fun b h1 h2 => ?_⟩, fun b hb => ?_⟩
  · have := own_base hr b h2
    have := (h.blk (.inl h1)).2; omega
  · rcases hb with hb | hb
    · exact .inl (.inl hb)
    · exact .inr (own_base hr b hb)
theorem UC.Own.newT {e : TypeId} {base g : Nat} {W w3 : World} {x : UC} (nm gl : ByteArray) (h : x.Own e base W) (hg : W.grownBy w3 (some g)) (hgb : g < base) :
    (⟨⟨nm, x.u.incs, x.u.axs, gl⟩, x.p, x.c, x.q, x.d⟩ : UC).Own e base w3 ∧ ∀ b, (⟨⟨nm, x.u.incs, x.u.axs, gl⟩, x.p, x.c, x.q, x.d⟩ : UC).S b → x.S b ∨ W.heap.size ≤ b :=
  have h3 := h.grownG hg hgb
  ⟨⟨h3.ra, h3.rb, h3.ap⟩, fun _ hb => .inl hb⟩
theorem set4_alloc (w4 : World) (o : Obj) {b1 og k i : Nat} (v u0 u1 u2 u3 : Value) (h1 : b1 < w4.heap.size) (h2 : og < w4.heap.size) : set4W ((w4.alloc o).setCell ⟨b1, i, none⟩ v) og k u0 u1 u2 u3 = (set4W (w4.setCell ⟨b1, i, none⟩ v) og k u0 u1 u2 u3).alloc o := by
  unfold set4W
  rw [World.setCell_alloc_past _ _ _ _ h1, World.setCell_alloc_past _ _ _ _ (by simpa using h2), World.setCell_alloc_past _ _ _ _ (by simpa using h2), World.setCell_alloc_past _ _ _ _ (by simpa using h2), World.setCell_alloc_past _ _ _ _ (by simpa using h2)]
section
variable {w W w3 : World} {g m m' og oc r : Nat} {nmv : Value} {ns : List ByteArray} {D : List UC} {x y : UC}
theorem LibS.fro (h : LibS w g m nmv ns og oc D W) (hx : D[r]? = some x) : W.cell? ⟨og, r * 4, none⟩ = some (.string x.u.name) ∧ W.cell? ⟨og, r * 4 + 1, none⟩ = some (.slice x.p x.u.incs.length x.c) ∧ W.cell? ⟨og, r * 4 + 2, none⟩ = some (.slice x.q x.u.axs.length x.d) ∧ W.cell? ⟨og, r * 4 + 3, none⟩ = some (.string x.u.goal) ∧ (∀ j, W.frozen? ⟨og, j, none⟩ = false) ∧ og < W.heap.size := by
  have h0 := (List.getElem?_eq_some_iff.1 hx).1
  obtain ⟨g', e', -, h2, h3, h4⟩ := rowU_cell h.or (by omega)
  obtain rfl : og = g' := by injection e' with e'; injection e'
  obtain ⟨a, b, c, d⟩ := h4 r x hx
  exact ⟨a, b, c, d, h3, h2⟩
theorem LibS.done (h : LibS w g m nmv ns og oc D W) (hg : W.grownBy w3 (some g)) (hc : Cur w3 g m') (hx : D[r]? = some x) (hy : y.Own 9 (w.heap.size + 3) w3) (hS : ∀ b, y.S b → x.S b ∨ W.heap.size ≤ b) (hwt : y.u.wt ≤ 1000) (hl : D.length ≤ 5) :
    Cur (set4W w3 og (r * 4) (.string y.u.name) (.slice y.p y.u.incs.length y.c) (.slice y.q y.u.axs.length y.d) (.string y.u.goal)) g m' ∧
    w.grownBy (set4W w3 og (r * 4) (.string y.u.name) (.slice y.p y.u.incs.length y.c) (.slice y.q y.u.axs.length y.d) (.string y.u.goal)) (some g) ∧
    ∃ us : List Un, UnsAt (NewB w (set4W w3 og (r * 4) (.string y.u.name) (.slice y.p y.u.incs.length y.c) (.slice y.q y.u.axs.length y.d) (.string y.u.goal))) (set4W w3 og (r * 4) (.string y.u.name) (.slice y.p y.u.incs.length y.c) (.slice y.q y.u.axs.length y.d) (.string y.u.goal)) (.slice (some ⟨og, 0, none⟩) D.length oc) us ∧ us.length ≤ 5 ∧ ∀ u ∈ us, u.wt ≤ 1000 := by
  have h3 := h.later hg hc
  obtain ⟨hr, rfl⟩ := List.getElem?_eq_some_iff.1 hx
  have hU3 := h3.uns.replace hx (fun z hz b hb => ((h.uns.each z hz).blk hb).2) (fun b hb => own_lt' h.or hb) hy hS
  have hrow := rowU_set y hr h3.or
  have hog := own_base h3.or og rfl
  have hlt := h.lt
  have hot : ∀ b, b ≠ og → (set4W w3 og (r * 4) (.string y.u.name) (.slice y.p y.u.incs.length y.c) (.slice y.q y.u.axs.length y.d) (.string y.u.goal)).heap[b]? = w3.heap[b]? := fun b hb => set4_other w3 _ _ _ _ hb
  have hz4 : (set4W w3 og (r * 4) (.string y.u.name) (.slice y.p y.u.incs.length y.c) (.slice y.q y.u.axs.length y.d) (.string y.u.goal)).heap.size = w3.heap.size := by simp [set4W]
  have hcur : Cur (set4W w3 og (r * 4) (.string y.u.name) (.slice y.p y.u.incs.length y.c) (.slice y.q y.u.axs.length y.d) (.string y.u.goal)) g m' := (((h3.cur.sc (p := ⟨_, _, none⟩) (by show g < og; omega) _).sc (p := ⟨_, _, none⟩) (by show g < og; omega) _).sc (p := ⟨_, _, none⟩) (by show g < og; omega) _).sc (p := ⟨_, _, none⟩) (by show g < og; omega) _
  have hgr : w.grownBy (set4W w3 og (r * 4) (.string y.u.name) (.slice y.p y.u.incs.length y.c) (.slice y.q y.u.axs.length y.d) (.string y.u.goal)) (some g) := gr_sc (gr_sc (gr_sc (gr_sc h3.gr (p := ⟨_, _, none⟩) (.inr hog) _) (p := ⟨_, _, none⟩) (.inr hog) _) (p := ⟨_, _, none⟩) (.inr hog) _) (p := ⟨_, _, none⟩) (.inr hog) _
  obtain ⟨w4, hw4⟩ : ∃ w4, w4 = set4W w3 og (r * 4) (.string y.u.name) (.slice y.p y.u.incs.length y.c) (.slice y.q y.u.axs.length y.d) (.string y.u.goal) := ⟨_, rfl⟩
  rw [← hw4] at hrow hot hz4 hcur hgr ⊢
  clear hw4
  have hU4 : Uns 9 (w.heap.size + 3) w4 (.slice (some ⟨og, 0, none⟩) D.length oc) (D.set r y) := hU3.sameB fun b _ _ z hz hzb => hot b (fun e => hU3.far z hz b hzb (by rw [e]; rfl))
  have hlen : (D.set r y).length = ((D.set r y).map UC.u).length := by rw [List.length_map]
  have hln : ((D.set r y).map UC.u).length = D.length := by rw [List.length_map, List.length_set]
  have hwt' : ∀ u ∈ (D.set r y).map UC.u, u.wt ≤ 1000 := by
    intro u hu
    obtain ⟨z, hz, rfl⟩ := List.mem_map.1 hu
    rcases List.mem_or_eq_of_mem_set hz with hz | rfl
    · have := h.wt z hz; omega
    · exact hwt
  refine ⟨hcur, hgr, (D.set r y).map UC.u, ?_, by omega, hwt'⟩
  have hUl : Uns 9 w.heap.size w4 (.slice (some ⟨og, 0, none⟩) D.length oc) (D.set r y) := ⟨fun z hz => ⟨own_lower (hU4.each z hz).ra (by omega), own_lower (hU4.each z hz).rb (by omega), (hU4.each z hz).ap⟩, hU4.far, hU4.pair⟩
  have hown := hUl.own (S := NewB w w4) (us := (D.set r y).map UC.u) (eU := 34) (by rw [hln]; exact hrow) rfl (by rw [hln]; unfold maxLen; omega) (fun u hu => by have := hwt' u hu; unfold maxLen; omega) (fun b h1 h2 => ⟨h1, h2⟩)
  exact hown.at_
end
end Go.Proofs.YtkgfanajgdelcaaGreatDoor
