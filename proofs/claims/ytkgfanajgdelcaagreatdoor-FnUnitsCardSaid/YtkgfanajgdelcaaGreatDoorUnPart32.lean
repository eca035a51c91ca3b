import Derived.Test.YtkgfanajgdelcaaGreatDoorUnPart31
namespace Go.Proofs.YtkgfanajgdelcaaGreatDoor
open Go.RowKit
theorem Cur.kept {S : Nat → Prop} {w w' : World} {g m : Nat} (h : Cur w g m) (hk : Kept S w w') (hS : ∀ b, b ≤ g → ¬ S b) : Cur w' g m := by
  have hlt := h.lt
  obtain ⟨u, a, s, h1, h2, h3, h4, h5, code, h6, h7⟩ := h
  exact ⟨u, a, s, (hk.block g hlt (hS g (Nat.le_refl _))).trans h1, h2, h3, h4, h5, code, h6, h7.mono (fun b hb hlt => hk.block b hlt (hS b (Nat.le_of_lt hb))) (fun _ h => h) (fun _ _ _ h => h)⟩
theorem grown_kept {S : Nat → Prop} {w w1 w2 : World} {g : Nat} (h : w.grownBy w1 (some g)) (hk : Kept S w1 w2) (hS : ∀ b, S b → b = g ∨ w.heap.size ≤ b) : w.grownBy w2 (some g) :=
  ⟨hk.os.trans h.os, hk.tape.trans h.tape, hk.output.trans h.output, Nat.le_trans h.size hk.size, fun b hb hne => (hk.block b (Nat.lt_of_lt_of_le hb h.size) (fun hs => by
    rcases hS b hs with e | e
    · exact hne (by rw [e])
    · omega)).trans (h.block b hb hne)⟩
theorem kept_grown {S : Nat → Prop} {w1 w2 : World} {g : Nat} (h : w1.grownBy w2 (some g)) (hS : S g) : Kept S w1 w2 := ⟨h.os, h.tape, h.output, h.size, fun b hb hne => h.block b hb (fun e => by injection e with e; exact hne (e ▸ hS))⟩
theorem getD_set_mono {L : Array Bool} {k i : Nat} (h : L.getD i false = true) : (L.setIfInBounds k true).getD i false = true := by
  by_cases e : k = i
  · subst e
    have hk : k < L.size := by
      rcases Nat.lt_or_ge k L.size with h' | h'
      · exact h'
      · simp [Array.getElem?_eq_none h'] at h
    simp [hk]
  · rw [getD_set_ne false e]; exact h
structure UGs (w : World) (g m : Nat) (nm goal : ByteArray) (tc : Array Value) (incs axs : List ByteArray) (p4 : Option Addr) (c4 : Nat) (p7 : Option Addr) (c7 : Nat) (wr : World) : Prop where
  cur : Cur wr g m
  lt : g < w.heap.size
  gr : w.grownBy wr (some g)
  box0 : wr.heap[w.heap.size]? = some (.cells unitN 34 (0, 0))
  box1 : wr.heap[w.heap.size + 1]? = some (.cells #[.string nm, .slice p4 incs.length c4, .slice p7 axs.length c7, .string goal] 34 (0, 0))
  box2 : wr.heap[w.heap.size + 2]? = some (.cells tc 9 (0, 0))
  r4 : wr.ownsRow (w.heap.size + 3) 9 1 (.slice p4 incs.length c4) incs.length (strW incs)
  r7 : wr.ownsRow (w.heap.size + 3) 9 1 (.slice p7 axs.length c7) axs.length (strW axs)
  ap : ∀ b, (Value.slice p4 incs.length c4).ownBlock = some b → (Value.slice p7 axs.length c7).ownBlock ≠ some b
section
variable {w W w2 w3 : World} {g m m' : Nat} {nm goal x : ByteArray} {tc : Array Value} {incs axs : List ByteArray} {p4 p7 : Option Addr} {c4 c7 : Nat} {u : Nat → Value} {L : Array Bool} {v' : Value}
theorem UGs.later (h : UGs w g m nm goal tc incs axs p4 c4 p7 c7 W) (hg : W.grownBy w2 (some g)) (hc : Cur w2 g m') : UGs w g m' nm goal tc incs axs p4 c4 p7 c7 w2 := by
  have hl := h.lt
  have blk : ∀ b, b < W.heap.size → g < b → w2.heap[b]? = W.heap[b]? := fun b hb hgb => hg.block b hb (fun e => by injection e with e; omega)
  refine ⟨hc, hl, gr_trans h.gr hg, (blk _ (blk_lt h.box0) hl).trans h.box0, (blk _ (blk_lt h.box1) (by omega)).trans h.box1, (blk _ (blk_lt h.box2) (by omega)).trans h.box2, ?_, ?_, h.ap⟩
  · exact own_same h.r4 fun b hb hlt => blk b hlt (by have := own_base h.r4 b hb; omega)
  · exact own_same h.r7 fun b hb hlt => blk b hlt (by have := own_base h.r7 b hb; omega)
structure PutD (w : World) (nm goal x : ByteArray) (incs : List ByteArray) (W : World) (u : Nat → Value) (L : Array Bool) (w2 : World) : Prop where
  kept : Kept (fun b => b = w.heap.size + 1) W w2
  o8 : L.getD 8 false = true → L.getD 6 false = true
  b0 : L.getD 8 false = false → w2.heap[w.heap.size + 1]? = W.heap[w.heap.size + 1]?
  r6 : L.getD 6 false = true → ∃ incs' : List ByteArray, w2.ownsRow (w.heap.size + 3) 9 1 (u 6) incs'.length (strW incs') ∧ incs'.length ≤ incs.length + 1 ∧ wtS incs' ≤ wtS incs + x.size
  b8 : L.getD 8 false = true → w2.heap[w.heap.size + 1]? = some (.cells #[.string nm, u 6, .slice none 0 0, .string goal] 34 (0, 0))
  o6 : L.getD 6 false = true → L.getD 1 false = true
theorem PutD.start (hL : ∀ i, L.getD i false = false) : PutD w nm goal x incs W (fun _ => undef) L W.drew :=
  ⟨(Kept.refl _ W).below ((Below.refl _ _).drew), fun h => (by rw [hL] at h; cases h), fun _ => rfl, fun h => (by rw [hL] at h; cases h), fun h => (by rw [hL] at h; cases h), fun h => (by rw [hL] at h; cases h)⟩
theorem PutD.other (h : PutD w nm goal x incs W u L w2) (k : Nat) (hk : k ∉ [6, 8]) : PutD w nm goal x incs W u (L.setIfInBounds k true) w2 := by
  simp only [List.mem_cons, List.not_mem_nil, or_false, not_or] at hk
  obtain ⟨k6, k8⟩ := hk
  obtain ⟨h1, h2, h3, h4, h5, h6⟩ := h
  refine ⟨h1, ?_, ?_, ?_, ?_, ?_⟩ <;> simp only [getD_set_ne false k6, getD_set_ne false k8] <;> first | assumption | exact fun h => getD_set_mono (h6 h)
theorem PutD.c6 (h : PutD w nm goal x incs W u L w2) (hun : L.getD 6 true = false) (k1' : L.getD 1 false = true) {incs' : List ByteArray} (hz : w.heap.size + 1 < w2.heap.size) (hb : Below w2.heap.size w2 w3) (hr : w3.ownsRow (w.heap.size + 3) 9 1 v' incs'.length (strW incs')) (h1 : incs'.length ≤ incs.length + 1) (h2 : wtS incs' ≤ wtS incs + x.size) : PutD w nm goal x incs W (upd u 6 v') (L.setIfInBounds 6 true) w3 := by
  have hn := getD_tf hun
  obtain ⟨k1, k2, k3, k4, k5, k9⟩ := h
  have n8 : L.getD 8 false = false := by
    cases h' : L.getD 8 false with
    | false => rfl
    | true => have := k2 h'; rw [hn] at this; cases this
  refine ⟨k1.below hb, ?_, ?_, ?_, ?_, ?_⟩ <;> simp only [getD_set_ne false (show (6 : Nat) ≠ 8 by decide), getD_set_ne false (show (6 : Nat) ≠ 1 by decide), getD_now hun, n8, upd_same]
  · intro h; cases h
  · intro _; exact (hb.block _ hz).trans (k3 n8)
  · intro _; exact ⟨incs', hr, h1, h2⟩
  · intro h; cases h
  · intro _; exact k1'
theorem PutD.s8 (h : PutD w nm goal x incs W u L w2) (hun : L.getD 8 true = false) (k6 : L.getD 6 false = true) {v4 : Value} (hbx : W.heap[w.heap.size + 1]? = some (.cells #[.string nm, v4, .slice none 0 0, .string goal] 34 (0, 0))) : PutD w nm goal x incs W (upd u 8 v') (L.setIfInBounds 8 true) (w2.setCell ⟨w.heap.size + 1, 1, none⟩ (u 6)) := by
  have hn := getD_tf hun
  obtain ⟨k1, k2, k3, k4, k5, k9⟩ := h
  refine ⟨k1.set rfl _ _, ?_, ?_, ?_, ?_, ?_⟩ <;> simp only [getD_set_ne false (show (8 : Nat) ≠ 6 by decide), getD_set_ne false (show (8 : Nat) ≠ 1 by decide), getD_now hun, k6, upd_other u _ (show (6 : Nat) ≠ 8 by decide)]
  · intro _; trivial
  · intro h; cases h
  · intro _
    obtain ⟨i', e1, e2, e3⟩ := k4 k6
    exact ⟨i', own_same e1 fun b hb _ => heap_setCell_other w2 ⟨w.heap.size + 1, 1, none⟩ b _ (fun e => by have := own_base e1 b hb; have e' : b = w.heap.size + 1 := e; omega), e2, e3⟩
  · intro _
    have := heap_setCell_same w2 (w.heap.size + 1) 1 _ _ (u 6) ((k3 hn).trans hbx)
    simpa using this
  · intro _; exact k9 k6
structure AxD (w : World) (g m : Nat) (nm goal : ByteArray) (axs : List ByteArray) (v4 v7 : Value) (W : World) (u : Nat → Value) (L : Array Bool) (w2 : World) : Prop where
  kept : Kept (fun b => b = g ∨ b = w.heap.size + 1 ∨ v7.ownBlock = some b) W w2
  o5 : L.getD 5 false = true → L.getD 4 false = true
  o6 : L.getD 6 false = true → L.getD 5 false = true
  o8 : L.getD 8 false = true → L.getD 6 false = true
  c0 : L.getD 4 false = false → Cur w2 g m
  c4 : L.getD 4 false = true → Cur w2 g (m + 2)
  s4 : L.getD 4 false = true → IsStr 30 (u 4)
  r5 : L.getD 5 false = true → L.getD 6 false = false → ∃ q, u 5 = .slice (some ⟨q, 0, none⟩) 1 1 ∧ w2.heap[q]? = some (.cells #[u 4] 9 (0, 0)) ∧ W.heap.size ≤ q
  r7 : L.getD 6 false = false → w2.ownsRow (w.heap.size + 3) 9 1 v7 axs.length (strW axs)
  r6 : L.getD 6 false = true → w2.ownsRow (w.heap.size + 3) 9 1 (u 6) (axs.length + 1) (strW axs ++ [u 4]) ∧ ∀ b, (u 6).ownBlock = some b → v7.ownBlock = some b ∨ W.heap.size ≤ b
  b0 : L.getD 8 false = false → w2.heap[w.heap.size + 1]? = W.heap[w.heap.size + 1]?
  b8 : L.getD 8 false = true → w2.heap[w.heap.size + 1]? = some (.cells #[.string nm, v4, u 6, .string goal] 34 (0, 0))
  o1 : L.getD 6 false = true → L.getD 1 false = true
variable {v4 v7 : Value}
theorem AxD.start (hL : ∀ i, L.getD i false = false) (hc : Cur W g m) (hr : W.ownsRow (w.heap.size + 3) 9 1 v7 axs.length (strW axs)) : AxD w g m nm goal axs v4 v7 W (fun _ => undef) L W.drew := by
  have hb := (Below.refl W.heap.size W).drew
  refine ⟨(Kept.refl _ W).below hb, ?_, ?_, ?_, fun _ => hc.below hb, ?_, ?_, ?_, fun _ => own_below hr hb, ?_, fun _ => rfl, ?_, ?_⟩ <;> (intro h; exact absurd h (by rw [hL]; decide))
theorem AxD.other (h : AxD w g m nm goal axs v4 v7 W u L w2) (k : Nat) (hk : k ∉ [4, 5, 6, 8]) : AxD w g m nm goal axs v4 v7 W u (L.setIfInBounds k true) w2 := by
  simp only [List.mem_cons, List.not_mem_nil, or_false, not_or] at hk
  obtain ⟨k4, k5, k6, k8⟩ := hk
  obtain ⟨h1, h2, h3, h4, h5, h6, h7, h8, h9, h10, h11, h12, h13⟩ := h
  refine ⟨h1, ?_, ?_, ?_, ?_, ?_, ?_, ?_, ?_, ?_, ?_, ?_, ?_⟩ <;> simp only [getD_set_ne false k4, getD_set_ne false k5, getD_set_ne false k6, getD_set_ne false k8] <;> first | assumption | exact fun h => getD_set_mono (h13 h)
theorem AxD.call (h : AxD w g m nm goal axs v4 v7 W u L w2) (hun : L.getD 4 true = false) (hg : w2.grownBy w3 (some g)) (hc : Cur w3 g (m + 2)) (hs : IsStr 30 v') (hgl : g < w.heap.size) (hz : w.heap.size + 1 < W.heap.size) : AxD w g m nm goal axs v4 v7 W (upd u 4 v') (L.setIfInBounds 4 true) w3 := by
  have hn := getD_tf hun
  obtain ⟨h1, h2, h3, h4, h5, h6, h7, h8, h9, h10, h11, h12, h13⟩ := h
  have n5 : L.getD 5 false = false := by
    cases h' : L.getD 5 false with
    | false => rfl
    | true => have := h2 h'; rw [hn] at this; cases this
  have n6 : L.getD 6 false = false := by
    cases h' : L.getD 6 false with
    | false => rfl
    | true => have := h3 h'; rw [n5] at this; cases this
  have n8 : L.getD 8 false = false := by
    cases h' : L.getD 8 false with
    | false => rfl
    | true => have := h4 h'; rw [n6] at this; cases this
  have blk : ∀ b, b < w2.heap.size → g < b → w3.heap[b]? = w2.heap[b]? := fun b hb hgb => hg.block b hb (fun e => by injection e with e; omega)
  refine ⟨h1.trans (kept_grown hg (.inl rfl)), ?_, ?_, ?_, ?_, ?_, ?_, ?_, ?_, ?_, ?_, ?_, ?_⟩ <;> simp only [getD_set_ne false (show (4 : Nat) ≠ 1 by decide), getD_set_ne false (show (4 : Nat) ≠ 5 by decide), getD_set_ne false (show (4 : Nat) ≠ 6 by decide), getD_set_ne false (show (4 : Nat) ≠ 8 by decide), getD_now hun, n5, n6, n8, upd_same]
  · intro h; cases h
  · intro h; cases h
  · intro h; cases h
  · intro h; cases h
  · intro _; exact hc
  · intro _; exact hs
  · intro h; cases h
  · intro _; exact own_same (h9 n6) fun b hb hlt => blk b hlt (by have := own_base (h9 n6) b hb; omega)
  · intro h; cases h
  · intro _; exact (blk _ (by have := h1.size; omega) (by omega)).trans (h11 n8)
  · intro h; cases h
  · intro h; cases h
theorem AxD.bld (h : AxD w g m nm goal axs v4 v7 W u L w2) (hun : L.getD 5 true = false) (k4 : L.getD 4 false = true) (hz : w.heap.size + 1 < W.heap.size) : AxD w g m nm goal axs v4 v7 W (upd u 5 (.slice (some ⟨w2.heap.size, 0, none⟩) 1 1)) (L.setIfInBounds 5 true) (w2.alloc (.cells #[u 4] 9)) := by
  have hn := getD_tf hun
  have hb := (Below.refl w2.heap.size w2).alloc (Nat.le_refl _) (.cells #[u 4] 9)
  obtain ⟨h1, h2, h3, h4, h5, h6, h7, h8, h9, h10, h11, h12, h13⟩ := h
  have hsz := h1.size
  have n6 : L.getD 6 false = false := by
    cases h' : L.getD 6 false with
    | false => rfl
    | true => have := h3 h'; rw [hn] at this; cases this
  have n8 : L.getD 8 false = false := by
    cases h' : L.getD 8 false with
    | false => rfl
    | true => have := h4 h'; rw [n6] at this; cases this
  refine ⟨h1.below hb, ?_, ?_, ?_, ?_, ?_, ?_, ?_, ?_, ?_, ?_, ?_, ?_⟩ <;> simp only [getD_set_ne false (show (5 : Nat) ≠ 1 by decide), getD_set_ne false (show (5 : Nat) ≠ 4 by decide), getD_set_ne false (show (5 : Nat) ≠ 6 by decide), getD_set_ne false (show (5 : Nat) ≠ 8 by decide), getD_now hun, k4, n6, n8, upd_same, upd_other u _ (show (4 : Nat) ≠ 5 by decide), upd_other u _ (show (6 : Nat) ≠ 5 by decide)]
  · intro _; trivial
  · intro h; cases h
  · intro h; cases h
  · intro h; cases h
  · intro _; exact (h6 k4).below hb
  · intro _; exact h7 k4
  · intro _ _; exact ⟨_, rfl, heap_alloc_new w2 _, hsz⟩
  · intro _; exact own_below (h9 n6) hb
  · intro h; cases h
  · intro _; exact (hb.block _ (by omega)).trans (h11 n8)
  · intro h; cases h
  · intro h; cases h
theorem AxD.app (h : AxD w g m nm goal axs v4 v7 W u L w2) (hun : L.getD 6 true = false) (k1' : L.getD 1 false = true) (k5 : L.getD 5 false = true) (hgl : g < w.heap.size) (hz : w.heap.size + 1 < W.heap.size) (hr : w3.ownsRow (w.heap.size + 3) 9 1 v' (axs.length + 1) (strW axs ++ [u 4])) (hg : w2.grownBy w3 v7.ownBlock) (hnr : NewRow v7 v' w2.heap.size) : AxD w g m nm goal axs v4 v7 W (upd u 6 v') (L.setIfInBounds 6 true) w3 := by
  have hn := getD_tf hun
  obtain ⟨h1, h2, h3, h4, h5, h6, h7, h8, h9, h10, h11, h12, h13⟩ := h
  have hsz := h1.size
  have ho := h9 hn
  have k4 := h2 k5
  have n8 : L.getD 8 false = false := by
    cases h' : L.getD 8 false with
    | false => rfl
    | true => have := h4 h'; rw [hn] at this; cases this
  have hv : ∀ b, v7.ownBlock = some b → w.heap.size + 3 ≤ b := fun b hb => own_base ho b hb
  refine ⟨h1.grownB hg (fun b hb => .inr (.inr hb)), ?_, ?_, ?_, ?_, ?_, ?_, ?_, ?_, ?_, ?_, ?_, ?_⟩ <;> simp only [getD_set_ne false (show (6 : Nat) ≠ 1 by decide), getD_set_ne false (show (6 : Nat) ≠ 4 by decide), getD_set_ne false (show (6 : Nat) ≠ 5 by decide), getD_set_ne false (show (6 : Nat) ≠ 8 by decide), getD_now hun, k4, k5, n8, upd_same, upd_other u _ (show (4 : Nat) ≠ 6 by decide), upd_other u _ (show (5 : Nat) ≠ 6 by decide)]
  · intro _; trivial
  · intro _; trivial
  · intro h; cases h
  · intro h; cases h
  · intro _; exact (h6 k4).own hg (fun b hb => by have := hv b hb; omega)
  · intro _; exact h7 k4
  · intro _ h; cases h
  · intro h; cases h
  · intro _
    refine ⟨hr, fun b hb => ?_⟩
    rcases hnr with e | ⟨b', e, hge⟩
    · exact .inl (e ▸ hb)
    · rw [e] at hb; injection hb with hb; exact .inr (by omega)
  · intro _; exact (hg.block _ (by omega) (fun e => by have := hv _ e.symm; omega)).trans (h11 n8)
  · intro h; cases h
  · intro _; exact k1'
theorem AxD.s8 (h : AxD w g m nm goal axs v4 v7 W u L w2) (hun : L.getD 8 true = false) (k6 : L.getD 6 false = true) (hgl : g < w.heap.size) (hbx : W.heap[w.heap.size + 1]? = some (.cells #[.string nm, v4, v7, .string goal] 34 (0, 0))) : AxD w g m nm goal axs v4 v7 W (upd u 8 v') (L.setIfInBounds 8 true) (w2.setCell ⟨w.heap.size + 1, 2, none⟩ (u 6)) := by
  have hn := getD_tf hun
  obtain ⟨h1, h2, h3, h4, h5, h6, h7, h8, h9, h10, h11, h12, h13⟩ := h
  have k5 := h3 k6
  have k4 := h2 k5
  refine ⟨h1.set (.inr (.inl rfl)) _ _, ?_, ?_, ?_, ?_, ?_, ?_, ?_, ?_, ?_, ?_, ?_, ?_⟩ <;> simp only [getD_set_ne false (show (8 : Nat) ≠ 1 by decide), getD_set_ne false (show (8 : Nat) ≠ 4 by decide), getD_set_ne false (show (8 : Nat) ≠ 5 by decide), getD_set_ne false (show (8 : Nat) ≠ 6 by decide), getD_now hun, k4, k5, k6, upd_other u _ (show (4 : Nat) ≠ 8 by decide), upd_other u _ (show (5 : Nat) ≠ 8 by decide), upd_other u _ (show (6 : Nat) ≠ 8 by decide)]
  · intro _; trivial
  · intro _; trivial
  · intro _; trivial
  · intro h; cases h
  · intro _; exact (h6 k4).sc (by show g < w.heap.size + 1; omega) _
  · intro _; exact h7 k4
  · intro _ h; cases h
  · intro h; cases h
  · intro _
    obtain ⟨e1, e2⟩ := h10 k6
    exact ⟨own_same e1 fun b hb _ => heap_setCell_other w2 ⟨w.heap.size + 1, 2, none⟩ b _ (fun e => by have := own_base e1 b hb; have e' : b = w.heap.size + 1 := e; omega), e2⟩
  · intro h; cases h
  · intro _
    have := heap_setCell_same w2 (w.heap.size + 1) 2 _ _ (u 6) ((h11 hn).trans hbx)
    simpa using this
  · intro _; exact h13 k6
theorem UGs.put {incs' : List ByteArray} {v5 : Value} (h : UGs w g m nm goal tc incs [] p4 c4 none 0 W) (hk : Kept (fun b => b = w.heap.size + 1) W w2) (hb : w2.heap[w.heap.size + 1]? = some (.cells #[.string nm, v5, .slice none 0 0, .string goal] 34 (0, 0))) (hr : w2.ownsRow (w.heap.size + 3) 9 1 v5 incs'.length (strW incs')) : ∃ p5 c5, v5 = .slice p5 incs'.length c5 ∧ UGs w g m nm goal tc incs' [] p5 c5 none 0 w2 := by
  obtain ⟨p5, c5, rfl⟩ := own_slice hr
  have hl := h.lt
  refine ⟨p5, c5, rfl, h.cur.kept hk (fun b hb e => by omega), hl, grown_kept h.gr hk (fun b hb => .inr (by omega)), (hk.block _ (blk_lt h.box0) (by omega)).trans h.box0, hb, (hk.block _ (blk_lt h.box2) (by omega)).trans h.box2, hr, ⟨by simp [strW], .inl ⟨rfl, rfl⟩⟩, fun b _ e => by simp [Value.ownBlock] at e⟩
theorem UGs.ax {s : ByteArray} {v5 : Value} (h : UGs w g m nm goal tc incs axs p4 c4 p7 c7 W) (hk : Kept (fun b => b = g ∨ b = w.heap.size + 1 ∨ (Value.slice p7 axs.length c7).ownBlock = some b) W w2) (hc : Cur w2 g m') (hb : w2.heap[w.heap.size + 1]? = some (.cells #[.string nm, .slice p4 incs.length c4, v5, .string goal] 34 (0, 0))) (hr : w2.ownsRow (w.heap.size + 3) 9 1 v5 (axs.length + 1) (strW axs ++ [.string s])) (hn : ∀ b, v5.ownBlock = some b → (Value.slice p7 axs.length c7).ownBlock = some b ∨ W.heap.size ≤ b) : ∃ p5 c5, v5 = .slice p5 (axs ++ [s]).length c5 ∧ UGs w g m' nm goal tc incs (axs ++ [s]) p4 c4 p5 c5 w2 := by
  obtain ⟨p5, c5, rfl⟩ := own_slice hr
  have hl := h.lt
  have hv : ∀ b, (Value.slice p7 axs.length c7).ownBlock = some b → w.heap.size + 3 ≤ b := fun b hb => own_base h.r7 b hb
  have e : (axs ++ [s]).length = axs.length + 1 := by simp
  have e2 : strW (axs ++ [s]) = strW axs ++ [.string s] := by simp [strW]
  have bl : ∀ b, b < W.heap.size → b ≠ g → b ≠ w.heap.size + 1 → (Value.slice p7 axs.length c7).ownBlock ≠ some b → w2.heap[b]? = W.heap[b]? := fun b h1 h2 h3 h4 => hk.block b h1 (fun e => by rcases e with e | e | e <;> contradiction)
  refine ⟨p5, c5, by rw [e], hc, hl, grown_kept h.gr hk (fun b hb => by rcases hb with e | e | e; exact .inl e; exact .inr (by omega); exact .inr (by have := hv b e; omega)), (bl _ (blk_lt h.box0) (by omega) (by omega) (fun e => by have := hv _ e; omega)).trans h.box0, by rw [e]; exact hb, (bl _ (blk_lt h.box2) (by omega) (by omega) (fun e => by have := hv _ e; omega)).trans h.box2, ?_, by rw [e, e2]; exact hr, ?_⟩
  · exact own_same h.r4 fun b hb hlt => bl b hlt (by have := own_base h.r4 b hb; omega) (by have := own_base h.r4 b hb; omega) (h.ap b hb)
  · rw [e]
    intro b hb e'
    rcases hn b e' with h1 | h1
    · exact h.ap b hb h1
    · have := own_lt' h.r4 hb; omega
theorem UGs.setGoal {s : ByteArray} (h : UGs w g m nm goal tc incs axs p4 c4 p7 c7 W) : UGs w g m nm s tc incs axs p4 c4 p7 c7 (W.setCell ⟨w.heap.size + 1, 3, none⟩ (.string s)) := by
  have hl := h.lt
  have bl : ∀ b, b ≠ w.heap.size + 1 → (W.setCell ⟨w.heap.size + 1, 3, none⟩ (.string s)).heap[b]? = W.heap[b]? := fun b hb => heap_setCell_other W ⟨w.heap.size + 1, 3, none⟩ b _ hb
  have hb1 := heap_setCell_same W (w.heap.size + 1) 3 _ _ (.string s) h.box1
  refine ⟨h.cur.sc (by show g < w.heap.size + 1; omega) _, hl, gr_sc h.gr (.inr (by show w.heap.size ≤ w.heap.size + 1; omega)) _, (bl _ (by omega)).trans h.box0, by simpa using hb1, (bl _ (by omega)).trans h.box2, ?_, ?_, h.ap⟩
  · exact own_same h.r4 fun b hb _ => bl b (by have := own_base h.r4 b hb; omega)
  · exact own_same h.r7 fun b hb _ => bl b (by have := own_base h.r7 b hb; omega)
theorem UGs.init (h : Cur w g m) (nm : ByteArray) (tc : Array Value) : UGs w g m nm ⟨#[]⟩ tc [] [] none 0 none 0 (((w.alloc (.cells unitN 34)).alloc (.cells #[.string nm, .slice none 0 0, .slice none 0 0, .string ⟨#[]⟩] 34)).alloc (.cells tc 9)) := by
  have hl := h.lt
  obtain ⟨W1, hW1⟩ : ∃ W1, W1 = w.alloc (.cells unitN 34) := ⟨_, rfl⟩
  have hz1 : W1.heap.size = w.heap.size + 1 := by rw [hW1]; simp
  have b0 : W1.heap[w.heap.size]? = some (.cells unitN 34 (0, 0)) := by rw [hW1]; exact heap_alloc_new w _
  have hc1 : Cur W1 g m := by rw [hW1]; exact h.al _
  have hg1 : w.grownBy W1 (some g) := by rw [hW1]; exact gr_al (gr_refl w g) _
  rw [← hW1]
  clear hW1
  obtain ⟨W2, hW2⟩ : ∃ W2, W2 = W1.alloc (.cells #[.string nm, .slice none 0 0, .slice none 0 0, .string ⟨#[]⟩] 34) := ⟨_, rfl⟩
  have hz2 : W2.heap.size = w.heap.size + 2 := by rw [hW2]; simp [hz1]
  have d0 : W2.heap[w.heap.size]? = some (.cells unitN 34 (0, 0)) := by
    rw [hW2]; exact (((Below.refl _ W1).alloc (Nat.le_refl _) _).block _ (by omega)).trans b0
  have d1 : W2.heap[w.heap.size + 1]? = some (.cells #[.string nm, .slice none 0 0, .slice none 0 0, .string ⟨#[]⟩] 34 (0, 0)) := by
    have := heap_alloc_new W1 (.cells #[.string nm, .slice none 0 0, .slice none 0 0, .string ⟨#[]⟩] 34)
    rw [hz1] at this; rw [hW2]; exact this
  have hc2 : Cur W2 g m := by rw [hW2]; exact hc1.al _
  have hg2 : w.grownBy W2 (some g) := by rw [hW2]; exact gr_al hg1 _
  rw [← hW2]
  clear hW2
  have hb := (Below.refl W2.heap.size W2).alloc (Nat.le_refl _) (.cells tc 9)
  refine ⟨hc2.al _, hl, gr_al hg2 _, (hb.block _ (by omega)).trans d0, (hb.block _ (by omega)).trans d1, ?_, ⟨by simp [strW], .inl ⟨rfl, rfl⟩⟩, ⟨by simp [strW], .inl ⟨rfl, rfl⟩⟩, fun b e => by simp [Value.ownBlock] at e⟩
  have := heap_alloc_new W2 (.cells tc 9)
  rw [hz2] at this; exact this
theorem UGs.done (h : UGs w g m nm goal tc incs axs p4 c4 p7 c7 W) {a b c d : Value} : Cur (set4W W w.heap.size 0 a b c d) g m ∧ w.grownBy (set4W W w.heap.size 0 a b c d) (some g) ∧ UC.Own 9 w.heap.size (set4W W w.heap.size 0 a b c d) ⟨⟨nm, incs, axs, goal⟩, p4, c4, p7, c7⟩ := by
  have hl := h.lt
  have hwb : w.heap.size ≤ w.heap.size := Nat.le_refl _
  refine ⟨(((h.cur.sc (p := ⟨_, _, none⟩) hl _).sc (p := ⟨_, _, none⟩) hl _).sc (p := ⟨_, _, none⟩) hl _).sc (p := ⟨_, _, none⟩) hl _, gr_sc (gr_sc (gr_sc (gr_sc h.gr (p := ⟨_, _, none⟩) (.inr hwb) _) (p := ⟨_, _, none⟩) (.inr hwb) _) (p := ⟨_, _, none⟩) (.inr hwb) _) (p := ⟨_, _, none⟩) (.inr hwb) _, ?_, ?_, h.ap⟩
  · exact own_lower (own_same h.r4 fun b hb _ => set4_other W _ _ _ _ (by have := own_base h.r4 b hb; omega)) (by omega)
  · exact own_lower (own_same h.r7 fun b hb _ => set4_other W _ _ _ _ (by have := own_base h.r7 b hb; omega)) (by omega)
end
end Go.Proofs.YtkgfanajgdelcaaGreatDoor
