/- The generator of logs. Conditions: sizes. -/
import Derived.Test.YtofamefmodmekaaDoorCur3
import Derived.Test.YtofamefmodmekaaDoorLogA
import Derived.Deep.RegionWith
namespace Go.Proofs.YtofamefmodmekaaDoor
open Go.RowKit
/-- A log of so many bytes at most. -/
def IsLog (k : Nat) (b : Int) (v : Value) : Prop := ∃ (d p : ByteArray) (n : Int), v = .agg #[.string d, .string p, .int .i64 n] ∧ d.size + p.size ≤ k ∧ -1 ≤ n ∧ n ≤ b
theorem heap_alloc_old' (w : World) (o : Obj) (k : Nat) (h : k < w.heap.size) : (w.alloc o).heap[k]? = w.heap[k]? := heap_alloc_old w o h
theorem cells3_keep {w w1 : World} {L : Nat} {x y z : Value} {t : TypeId} (h : w.heap[L]? = some (.cells #[x, y, z] t (0, 0))) (he : w1.heap[L]? = w.heap[L]?) : w1.cell? ⟨L, 0, none⟩ = some x ∧ w1.cell? ⟨L, 1, none⟩ = some y ∧ w1.cell? ⟨L, 2, none⟩ = some z ∧ (∀ j, w1.frozen? ⟨L, j, none⟩ = false) := cells3_cell (he.trans h)
theorem specAppend_some (k : Nat) (d p c r : ByteArray) (n : Int) (w : World) (hs : d.size + p.size ≤ k) (hk : k ≤ 100000000) (hn : -1 ≤ n ∧ n ≤ 999) (hc : c.size ≤ 1000) (hr : r.size ≤ 1000) :
    Calls Tryd.prog 28 #[.agg #[.string d, .string p, .int .i64 n], .agg #[.string c, .string r]] w fun e w' => ∃ (d' p' : ByteArray) (n' x : Int), e = .returned (.tuple #[.agg #[.string d', .string p', .int .i64 n'], .int .i64 x]) ∧ d'.size + p'.size ≤ k + 404 ∧ (-1 ≤ n' ∧ n' ≤ 999) ∧ Below w.heap.size w w' := by
  have hm : ∀ a : ByteArray, a.size ≤ 100000000 → a.size ≤ maxLen := by intro a ha; unfold maxLen; omega
  cases hv : validS d.data.toList p.data.toList n && goodB c.data.toList r.data.toList
  · exact (specAppend_no d p c r n w (hm _ (by omega)) (hm _ (by omega)) (by omega) (hm _ (by omega)) (hm _ (by omega)) hv).mono fun e w' ⟨h1, h2⟩ => ⟨_, _, _, _, h1, by omega, hn, h2⟩
  · have hv2 : validS d.data.toList p.data.toList n = true ∧ goodB c.data.toList r.data.toList = true := by simpa using hv
    by_cases h60 : n = 60
    · exact (specAppend_full d p c r n w (hm _ (by omega)) (hm _ (by omega)) (by omega) (hm _ (by omega)) (hm _ (by omega)) hv2.1 hv2.2 h60).mono fun e w' ⟨h1, h2⟩ => ⟨_, _, _, _, h1, by omega, hn, h2⟩
    · have hnn := valid_n hv2.1
      have hel := encF_len n hnn.1 (by omega) hv2.2
      refine (specAppend_yes d p c r n w (hm _ (by omega)) (hm _ (by omega)) (by omega) (hm _ (by omega)) (hm _ (by omega)) hv2.1 hv2.2 h60).mono fun e w' ⟨h1, h2⟩ => ⟨_, _, _, _, h1, ?_, by omega, h2⟩
      have e1 : (p ++ (⟨(encF n c.data.toList r.data.toList).toArray⟩ : ByteArray)).size = p.size + (encF n c.data.toList r.data.toList).length := by rw [ByteArray.size_append]; rfl
      omega
theorem specSync_some (k : Nat) (d p : ByteArray) (n : Int) (w : World) (hs : d.size + p.size ≤ k) (hk : k ≤ 100000000) (hn : -1 ≤ n ∧ n ≤ 999) :
    Calls Tryd.prog 26 #[.agg #[.string d, .string p, .int .i64 n]] w fun e w' => ∃ (d' p' : ByteArray) (n' : Int) (x : Bool), e = .returned (.tuple #[.agg #[.string d', .string p', .int .i64 n'], .bool x]) ∧ d'.size + p'.size ≤ k ∧ (-1 ≤ n' ∧ n' ≤ 999) ∧ Below w.heap.size w w' := by
  have hm : ∀ a : ByteArray, a.size ≤ 100000000 → a.size ≤ maxLen := by intro a ha; unfold maxLen; omega
  refine (specSyncLog_any d p n w (hm _ (by omega)) (hm _ (by omega)) (by omega)).mono fun e w' ⟨h1, h2⟩ => ?_
  split at h1
  · exact ⟨_, _, _, _, h1, by rw [ByteArray.size_append]; show d.size + p.size + 0 ≤ k; omega, hn, h2⟩
  · exact ⟨_, _, _, _, h1, Nat.zero_le _, by omega, h2⟩
theorem Cur.dr {w : World} {g m : Nat} (h : Cur w g m) : Cur w.drew g m := h.below (Below.refl _ _).drew
/-- Where a log is being made: the cursor, the log's box L, the result's box R. -/
structure LogSt (g m L R : Nat) (w wr : World) (d p : ByteArray) (n : Int) : Prop where
  cur : Cur wr g m
  gr : w.grownBy wr (some g)
  l : wr.heap[L]? = some (.cells #[.string d, .string p, .int .i64 n] 31 (0, 0))
  r : wr.heap[R]? = some (.cells #[.string ⟨#[]⟩, .string ⟨#[]⟩, .int .i64 0] 31 (0, 0))
section
variable {g m m2 L R : Nat} {w wr w2 : World} {d p d' p' : ByteArray} {n n' : Int}
theorem LogSt.below (h : LogSt g m L R w wr d p n) (hb : Below wr.heap.size wr w2) : LogSt g m L R w w2 d p n :=
  ⟨h.cur.below hb, gr_below h.gr hb, (hb.block _ (lt_of_block h.l)).trans h.l, (hb.block _ (lt_of_block h.r)).trans h.r⟩
theorem LogSt.step (h : LogSt g m L R w wr d p n) (hg : wr.grownBy w2 (some g)) (hc : Cur w2 g m2) (hL : g < L) (hR : g < R) : LogSt g m2 L R w w2 d p n :=
  ⟨hc, gr_trans h.gr hg, (hg.block _ (lt_of_block h.l) (by simp; omega)).trans h.l, (hg.block _ (lt_of_block h.r) (by simp; omega)).trans h.r⟩
theorem block3_all {w : World} {g : Nat} {x y z x' y' z' : Value} {t : TypeId} (h : w.heap[g]? = some (.cells #[x, y, z] t (0, 0))) :
    (((w.setCell ⟨g, 0, none⟩ x').setCell ⟨g, 1, none⟩ y').setCell ⟨g, 2, none⟩ z').heap[g]? = some (.cells #[x', y', z'] t (0, 0)) := by
  have h1 := heap_setCell_same w g 0 #[x, y, z] t x' h
  have h2 := heap_setCell_same _ g 1 _ t y' h1
  have h3 := heap_setCell_same _ g 2 _ t z' h2
  simpa using h3
theorem LogSt.store (h : LogSt g m L R w wr d p n) (hL : g < L) (hw : w.heap.size ≤ L) (hne : R ≠ L) (d' p' : ByteArray) (n' : Int) :
    LogSt g m L R w (((wr.setCell ⟨L, 0, none⟩ (.string d')).setCell ⟨L, 1, none⟩ (.string p')).setCell ⟨L, 2, none⟩ (.int .i64 n')) d' p' n' :=
  ⟨((h.cur.sc hL _).sc hL _).sc hL _, gr_sc (gr_sc (gr_sc h.gr (.inr hw) _) (.inr hw) _) (.inr hw) _, block3_all h.l,
    (heap_setCell_other _ ⟨L, 2, none⟩ R _ (fun e => hne e)).trans ((heap_setCell_other _ ⟨L, 1, none⟩ R _ (fun e => hne e)).trans ((heap_setCell_other _ ⟨L, 0, none⟩ R _ (fun e => hne e)).trans h.r))⟩
theorem LogSt.cells (h : LogSt g m L R w wr d p n) : (wr.cell? ⟨L, 0, none⟩ = some (.string d) ∧ wr.cell? ⟨L, 1, none⟩ = some (.string p) ∧ wr.cell? ⟨L, 2, none⟩ = some (.int .i64 n) ∧ (∀ j, wr.frozen? ⟨L, j, none⟩ = false)) ∧
    (wr.cell? ⟨R, 0, none⟩ = some (.string ⟨#[]⟩) ∧ wr.cell? ⟨R, 1, none⟩ = some (.string ⟨#[]⟩) ∧ wr.cell? ⟨R, 2, none⟩ = some (.int .i64 0) ∧ (∀ j, wr.frozen? ⟨R, j, none⟩ = false)) := ⟨cells3_cell h.l, cells3_cell h.r⟩
end
def LogRel (g m L R : Nat) (w : World) (v : Value) (wr : World) : Prop :=
  ∃ (k : Nat) (d p : ByteArray) (n : Int), k ≤ 6 ∧ v = .int .i64 k ∧ LogSt g (m + 2 + 12 * (6 - k)) L R w wr d p n ∧ d.size + p.size ≤ 404 * (6 - k) ∧ (-1 ≤ n ∧ n ≤ 999)
set_option maxRecDepth 100000 in
set_option maxHeartbeats 3200000 in
theorem log_any (g m : Nat) (w : World) (h : Cur w g m) (hm : m + 80 ≤ 1000000000) : Calls Tryd.prog 60 #[.pointer (some ⟨g, 0, none⟩)] w (Step g m 80 (IsLog 2424 999) w) := by
  have hlt := h.lt
  have H := Lib.hid h
  clear h
  go_enter Tryd.func60, Tryd.ntmps60
  go_wp2_with fail
  refine (pick_any g m 7 _ ((H.out.al _).al _) (by omega) (by omega) (by omega)).mono ?_
  rintro e w1 ⟨_, rfl, ⟨r, rfl, hr0, hr1⟩, hc1, hg1⟩
  have HC1 := Lib.hid hc1
  clear hc1
  have ⟨c1, f1⟩ := gcell hg1
  have hz1 := hg1.size
  (try simp at hz1)
  obtain ⟨k0, rfl⟩ := Int.eq_ofNat_of_zero_le hr0
  have hA := gr_trans (gr_al (gr_al (gr_refl w g) _) _) hg1
  have hL : w1.heap[w.heap.size + 1]? = some (.cells #[.string ⟨#[]⟩, .string ⟨#[]⟩, .int .i64 0] 31 (0, 0)) := (hg1.block (w.heap.size + 1) (by simp) (by simp; omega)).trans (by rw [show w.heap.size + 1 = (w.alloc (.cells #[.string ⟨#[]⟩, .string ⟨#[]⟩, .int .i64 0] 31)).heap.size by simp]; exact heap_alloc_new _ _)
  have hR : w1.heap[w.heap.size]? = some (.cells #[.string ⟨#[]⟩, .string ⟨#[]⟩, .int .i64 0] 31 (0, 0)) := (hg1.block w.heap.size (by simp; omega) (by simp; omega)).trans ((heap_alloc_old' _ _ _ (by simp)).trans (heap_alloc_new w _))
  have HS := Lib.hid (show LogSt g (m + 2) (w.heap.size + 1) w.heap.size w w1 ⟨#[]⟩ ⟨#[]⟩ 0 from ⟨HC1.out, hA, hL, hR⟩)
  clear hA hL hR hg1 c1 f1
  go_wp2
  go_loopw [4] (LogRel g m (w.heap.size + 1) w.heap.size w) (fun v _ => (intOf v).toNat)
  case atStart => exact ⟨k0, _, _, _, by omega, rfl, ⟨HC1.out.more (by omega) (by omega), HS.out.gr, HS.out.l, HS.out.r⟩, Nat.zero_le _, by omega⟩
  case round =>
    obtain ⟨k, d, p, n, hk, rfl, hst, hs, hn⟩ := hrel
    have HST := Lib.hid hst
    have HN := Lib.hid (And.intro hs hn)
    clear hs hn hst HS
    obtain ⟨⟨l0, l1, l2, lf⟩, ⟨r0, r1, r2, rf⟩⟩ := HST.out.cells
    by_cases hk0 : 0 < (k : Int)
    · go_wp2
      go_region_with
        (first | (go_at_call 56; refine (logRecord_any g (m + 2 + 12 * (6 - k)) _ (HST.out.below (Below.refl _ _).drew).cur (by omega)).mono ?_; rintro e w2 ⟨_, rfl, ⟨c, r, rfl, hcs, hrs⟩, hc2, hg2⟩; have H2 : Hid (LogSt g (m + 2 + 12 * (6 - k) + 10) (w.heap.size + 1) w.heap.size w w2 d p n) := Lib.hid ((HST.out.below (Below.refl _ _).drew).step hg2 hc2 (by omega) hlt); clear hc2 hg2; obtain ⟨⟨k20, k21, k22, kf2⟩, -⟩ := H2.out.cells) | (go_at_call 28; refine (specAppend_some (404 * (6 - k)) d p c r n _ HN.out.1 (by omega) HN.out.2 (by omega) (by omega)).mono ?_; rintro e w3 ⟨d', p', n', x, rfl, hs', hn', hb3⟩; have H3 := Lib.hid (H2.out.below hb3); clear hb3; have HN3 := Lib.hid (And.intro hs' hn'); clear hs' hn'; obtain ⟨⟨k30, k31, k32, kf3⟩, -⟩ := H3.out.cells))
      all_goals
        have H4 := Lib.hid (H3.out.store (by omega) (by omega) (by omega) d' p' n')
        obtain ⟨w4, hw4⟩ : ∃ w4, w4 = (((w3.setCell ⟨w.heap.size + 1, 0, none⟩ (.string d')).setCell ⟨w.heap.size + 1, 1, none⟩ (.string p')).setCell ⟨w.heap.size + 1, 2, none⟩ (.int .i64 n')) := ⟨_, rfl⟩
        rw [← hw4] at H4 ⊢
        clear hw4 H3 H2 k20 k21 k22 kf2 k30 k31 k32 kf3 l0 l1 l2 lf r0 r1 r2 rf
        go_wp2_with fail
        refine (one_any g _ 4 _ H4.out.cur (by omega) (by omega) (by omega)).mono ?_
        rintro e w5 ⟨_, rfl, ⟨bb, rfl⟩, hc5, hg5⟩
        have HC5 := Lib.hid hc5
        clear hc5
        have ⟨c5, f5⟩ := gcell hg5
        have hz5 := hg5.size
        (try simp at hz5)
        have H5 := Lib.hid (H4.out.step hg5 HC5.out (by omega) hlt)
        clear H4 HC5 hg5 c5 f5 hz5
        obtain ⟨⟨l0, l1, l2, lf⟩, ⟨r0, r1, r2, rf⟩⟩ := H5.out.cells
        obtain ⟨q, rfl⟩ : ∃ q, k = q + 1 := ⟨k - 1, by omega⟩
        cases bb
        · go_wp2
          refine ⟨⟨q, d', p', n', by omega, by go_num, ⟨H5.out.cur.more (by omega) (by omega), H5.out.gr, H5.out.l, H5.out.r⟩, ?_, HN3.out.2⟩, by simp [intOf]⟩
          have := HN3.out.1; omega
        · go_wp2_with fail
          refine (specSync_some (404 * (6 - (q + 1)) + 404) d' p' n' _ HN3.out.1 (by omega) HN3.out.2).mono ?_
          rintro e w6 ⟨d6, p6, n6, x6, rfl, hs6, hn6, hb6⟩
          have H6 := Lib.hid (H5.out.below hb6)
          have HN6 := Lib.hid (And.intro hs6 hn6)
          clear H5 hb6 l0 l1 l2 lf r0 r1 r2 rf hs6 hn6
          obtain ⟨⟨l0, l1, l2, lf⟩, -⟩ := H6.out.cells
          go_wp2
          have H7 := H6.out.store (by omega) (by omega) (by omega) d6 p6 n6
          refine ⟨⟨q, d6, p6, n6, by omega, by go_num, ⟨H7.cur.more (by omega) (by omega), H7.gr, H7.l, H7.r⟩, ?_, HN6.out.2⟩, by simp [intOf]⟩
          have := HN6.out.1; omega
    · go_wp2
      refine bodyPost_ret (v := .agg #[.string d, .string p, .int .i64 n]) (by simp only [results, Tryd.results60]; go_simp) rfl ⟨_, rfl, ⟨_, _, _, rfl, by have := HN.out.1; omega, by have := HN.out.2; omega⟩, ?_, ?_⟩
      · exact (((HST.out.cur.more (by omega) (by omega)).sc hlt _).sc hlt _).sc hlt _
      · exact gr_sc (gr_sc (gr_sc HST.out.gr (.inr (Nat.le_refl _)) _) (.inr (Nat.le_refl _)) _) (.inr (Nat.le_refl _)) _
end Go.Proofs.YtofamefmodmekaaDoor
