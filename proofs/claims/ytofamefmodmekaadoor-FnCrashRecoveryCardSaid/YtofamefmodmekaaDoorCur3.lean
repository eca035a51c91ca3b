/- The generators of records and logs: what they may yield, and that the cursor alone turns. Conditions: sizes. -/
import Derived.Test.YtofamefmodmekaaDoorCur2
namespace Go.Proofs.YtofamefmodmekaaDoor
open Go.RowKit
/-- A record of short texts. -/
def IsRec (k : Nat) (v : Value) : Prop := ∃ c r : ByteArray, v = .agg #[.string c, .string r] ∧ c.size ≤ k ∧ r.size ≤ k
theorem of_lit (g m k n b : Nat) (W : World) (cs : Array Value) (t : TypeId) (hn : n = cs.size) (hb : b = W.heap.size) (h : Cur W g m) (hm : m + 2 ≤ 1000000000) (h0 : 0 < cs.size) (h1 : cs.size ≤ 1000000000) (hs : ∀ v ∈ cs, IsStr k v) :
    Calls Tryd.prog 72 #[.pointer (some ⟨g, 0, none⟩), .slice (some ⟨b, 0, none⟩) n n] (W.alloc (.cells cs t)) (Step g m 2 (IsStr k) (W.alloc (.cells cs t))) := by
  subst hn hb
  have hlt := h.lt
  exact of_any g m W.heap.size cs.size k cs t (0, 0) _ (h.below ((Below.refl _ _).alloc (Nat.le_refl _) _)) hm (heap_alloc_new W _) (by omega) h0 h1 hs
theorem Cur.al {w : World} {g m : Nat} (h : Cur w g m) (o : Obj) : Cur (w.alloc o) g m := h.below ((Below.refl _ _).alloc (Nat.le_refl _) o)
theorem Cur.sc {w : World} {g m : Nat} (h : Cur w g m) {p : Addr} (hp : g < p.block) (u : Value) : Cur (w.setCell p u) g m := by
  obtain ⟨v, a, s, h1, h2, h3, h4, h5, code, h6, h7⟩ := h
  exact ⟨v, a, s, (heap_setCell_other w p g u (fun e => by omega)).trans h1, h2, h3, h4, h5, code, h6, h7.mono (SameOn.store w (fun b hb e => by omega) u) (fun _ h => h) (fun _ _ _ h => h)⟩
theorem row2_at {w : World} {g : Nat} {x y : Value} {t : TypeId} (h : w.heap[g]? = some (.cells #[x, y] t (0, 0))) :
    w.cell? ⟨g, 0, none⟩ = some x ∧ w.cell? ⟨g, 1, none⟩ = some y ∧ (∀ j, w.frozen? ⟨g, j, none⟩ = false) := by
  refine ⟨?_, ?_, fun j => frozen_of_row w g j _ _ h⟩
  · rw [cell_of_row w g 0 _ _ (0, 0) h]; rfl
  · rw [cell_of_row w g 1 _ _ (0, 0) h]; rfl
theorem make3 (w : World) : (Instr.makeSlice 53 (.int .i64 3) (.int .i64 3)).run Tryd.prog w = .ok (.slice (some ⟨w.heap.size, 0, none⟩) 3 3) (w.alloc (.cells #[.int .u8 0, .int .u8 0, .int .u8 0] 5)) := by kernel_rfl
theorem conv3 (w : World) : (convert 53 9 (.slice (some ⟨w.heap.size, 0, none⟩) 3 3)).run Tryd.prog (w.alloc (.cells #[.int .u8 0, .int .u8 0, .int .u8 0] 5)) = .ok (.string ⟨#[0, 0, 0]⟩) (w.alloc (.cells #[.int .u8 0, .int .u8 0, .int .u8 0] 5)) := by
  have h := run_convert_bytes_back (P := Tryd.prog) (w.alloc (.cells #[.int .u8 0, .int .u8 0, .int .u8 0] 5)) 53 9 5 ⟨w.heap.size, 0, none⟩ 3 [0, 0, 0] Tryd.underlying53 Tryd.underlying5 Tryd.underlying9 ?_
  · exact h
  · intro j hj
    have hj3 : j < 3 := by simpa using hj
    have e : (⟨w.heap.size, 0, none⟩ : Addr).add j = ⟨w.heap.size, j, none⟩ := by unfold Addr.add; split <;> simp_all
    rw [e, World.cell?_alloc_new]
    match j, hj3 with
    | 0, _ => rfl
    | 1, _ => rfl
    | 2, _ => rfl
set_option maxRecDepth 100000 in
set_option maxHeartbeats 400000 in
theorem logRecord_any (g m : Nat) (w : World) (h : Cur w g m) (hm : m + 10 ≤ 1000000000) : Calls Tryd.prog 56 #[.pointer (some ⟨g, 0, none⟩)] w (Step g m 10 (IsRec 20) w) := by
  have hlt := h.lt
  have H := Lib.hid h
  clear h
  go_enter Tryd.func56, Tryd.ntmps56
  have hne : w.heap.size ≠ g := by omega
  go_wp2_with fail
  refine (of_lit g m 20 5 (w.heap.size + 1) _ _ _ (by rfl) (by simp) (H.out.al _) (by omega) (by decide) (by decide) (by intro v hv; simp at hv; rcases hv with rfl | rfl | rfl | rfl | rfl <;> exact ⟨_, rfl, by decide⟩)).mono ?_
  rintro e w1 ⟨_, rfl, ⟨s1, rfl, hs1⟩, hc1, hg1⟩
  have HC1 := Lib.hid hc1
  clear hc1
  have ⟨c1, f1⟩ := gcell hg1
  have hz1 := hg1.size
  (try simp at hz1)
  go_wp2_with fail
  refine (of_lit g (m + 2) 20 5 w1.heap.size _ _ _ (by rfl) (by simp) HC1.out (by omega) (by decide) (by decide) (by intro v hv; simp at hv; rcases hv with rfl | rfl | rfl | rfl | rfl <;> exact ⟨_, rfl, by decide⟩)).mono ?_
  rintro e w2 ⟨_, rfl, ⟨s2, rfl, hs2⟩, hc2, hg2⟩
  have HC2 := Lib.hid hc2
  clear hc2
  have ⟨c2, f2⟩ := gcell hg2
  have hz2 := hg2.size
  (try simp at hz2)
  have hne2 : w2.heap.size ≠ g := by omega
  have hA2 := gr_trans (gr_al (gr_trans (gr_al (gr_refl _ g) _) hg1) _) hg2
  go_wp2_with fail
  refine (pick_any g (m + 4) 24 _ (HC2.out.al _) (by omega) (by omega) (by omega)).mono ?_
  rintro e w3 ⟨_, rfl, ⟨r, rfl, hr0, hr1⟩, hc3, hg3⟩
  have HC3 := Lib.hid hc3
  clear hc3
  have ⟨c3, f3⟩ := gcell hg3
  have hz3 := hg3.size
  (try simp at hz3)
  have hA3 := gr_trans (gr_al hA2 _) hg3
  rcases (by omega : r = 0 ∨ r = 1 ∨ (1 < r ∧ r ≤ 23)) with rfl | rfl | ⟨hra, hrb⟩
  · have hmk := make3
    have hcv := conv3
    go_wp2_with fail
    refine (of_lit g (m + 6) 20 5 (w3.heap.size + 1) _ _ _ (by rfl) (by simp) (HC3.out.al _) (by omega) (by decide) (by decide) (by intro v hv; simp at hv; rcases hv with rfl | rfl | rfl | rfl | rfl <;> exact ⟨_, rfl, by decide⟩)).mono ?_
    rintro e w4 ⟨_, rfl, ⟨s4, rfl, hs4⟩, hc4, hg4⟩
    have HC4 := Lib.hid hc4
    clear hc4
    have ⟨c4, f4⟩ := gcell hg4
    have hz4 := hg4.size
    (try simp at hz4)
    have hA4 := gr_trans (gr_al (gr_al hA3 _) _) hg4
    have ⟨r0, r1, rf⟩ := row2_at ((hA4.block w.heap.size (by simp) (by simpa using hne)).trans (heap_alloc_new w _))
    have ⟨e0, e1, ef⟩ := row2_at (((gr_trans (gr_al (gr_al hg3 _) _) hg4).block w2.heap.size (by simp) (by simpa using hne2)).trans (heap_alloc_new w2 _))
    have HA := Lib.hid hA4
    have z02 := bsz (show w.heap.size < w2.heap.size by omega)
    have zg2 : g < w2.heap.size := by omega
    clear hg1 hg2 hg3 hg4 hA2 hA3 hA4 c1 c2 c3 c4 f1 f2 f3 f4 hmk hcv
    go_wp2_with fail
    refine bodyPost_ret (v := .agg #[.string s4, .string s2]) (by simp only [results, Tryd.results56]; go_simp) rfl ⟨_, rfl, ⟨_, _, rfl, hs4, hs2⟩, ?_, ?_⟩
    · exact ((((HC4.out.more (by omega) (by omega)).sc zg2 _).sc hlt _).sc hlt _)
    · exact gr_sc (gr_sc (gr_sc (gr_trans (gr_al (gr_refl _ _) _) HA.out) (.inr (by show w.heap.size ≤ w2.heap.size; omega)) _) (.inr (Nat.le_refl _)) _) (.inr (Nat.le_refl _)) _
  · go_wp2_with fail
    refine (of_lit g (m + 6) 20 3 w3.heap.size _ _ _ (by rfl) (by simp) (HC3.out) (by omega) (by decide) (by decide) (by intro v hv; simp at hv; rcases hv with rfl | rfl | rfl <;> exact ⟨_, rfl, by decide⟩)).mono ?_
    rintro e w4 ⟨_, rfl, ⟨s4, rfl, hs4⟩, hc4, hg4⟩
    have HC4 := Lib.hid hc4
    clear hc4
    have ⟨c4, f4⟩ := gcell hg4
    have hz4 := hg4.size
    (try simp at hz4)
    have hA4 := gr_trans (gr_al hA3 _) hg4
    have ⟨r0, r1, rf⟩ := row2_at ((hA4.block w.heap.size (by simp) (by simpa using hne)).trans (heap_alloc_new w _))
    have ⟨e0, e1, ef⟩ := row2_at (((gr_trans (gr_al hg3 _) hg4).block w2.heap.size (by simp) (by simpa using hne2)).trans (heap_alloc_new w2 _))
    have HA := Lib.hid hA4
    have z02 := bsz (show w.heap.size < w2.heap.size by omega)
    have zg2 : g < w2.heap.size := by omega
    clear hg1 hg2 hg3 hg4 hA2 hA3 hA4 c1 c2 c3 c4 f1 f2 f3 f4
    go_wp2_with fail
    refine bodyPost_ret (v := .agg #[.string s1, .string s4]) (by simp only [results, Tryd.results56]; go_simp) rfl ⟨_, rfl, ⟨_, _, rfl, hs1, hs4⟩, ?_, ?_⟩
    · exact ((((HC4.out.more (by omega) (by omega)).sc zg2 _).sc hlt _).sc hlt _)
    · exact gr_sc (gr_sc (gr_sc (gr_trans (gr_al (gr_refl _ _) _) HA.out) (.inr (by show w.heap.size ≤ w2.heap.size; omega)) _) (.inr (Nat.le_refl _)) _) (.inr (Nat.le_refl _)) _
  · have hr2 : (r == 0) = false := by simp; omega
    have hr3 : (r == 1) = false := by simp; omega
    have ⟨r0, r1, rf⟩ := row2_at ((hA3.block w.heap.size (by simp) (by simpa using hne)).trans (heap_alloc_new w _))
    have ⟨e0, e1, ef⟩ := row2_at ((hg3.block w2.heap.size (by simp) (by simpa using hne2)).trans (heap_alloc_new w2 _))
    have HA := Lib.hid hA3
    have z02 := bsz (show w.heap.size < w2.heap.size by omega)
    clear hg1 hg2 hg3 hA2 hA3 c1 c2 c3 f1 f2 f3
    go_wp2_with fail
    refine bodyPost_ret (v := .agg #[.string s1, .string s2]) (by simp only [results, Tryd.results56]; go_simp) rfl ⟨_, rfl, ⟨_, _, rfl, hs1, hs2⟩, ?_, ?_⟩
    · exact ((HC3.out.more (by omega) (by omega)).sc hlt _).sc hlt _
    · exact gr_sc (gr_sc (gr_trans (gr_al (gr_refl _ _) _) HA.out) (.inr (Nat.le_refl _)) _) (.inr (Nat.le_refl _)) _
end Go.Proofs.YtofamefmodmekaaDoor
