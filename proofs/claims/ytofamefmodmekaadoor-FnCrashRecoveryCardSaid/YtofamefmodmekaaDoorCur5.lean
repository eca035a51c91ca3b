/- The generators of the logs' laws' arguments. Conditions: sizes. -/
import Derived.Test.YtofamefmodmekaaDoorCur4
namespace Go.Proofs.YtofamefmodmekaaDoor
open Go.RowKit
set_option maxRecDepth 100000 in
set_option maxHeartbeats 3200000 in
theorem anyLog_any (g m : Nat) (w : World) (h : Cur w g m) (hm : m + 100 ≤ 1000000000) : Calls Tryd.prog 53 #[.pointer (some ⟨g, 0, none⟩)] w (Step g m 100 (IsLog 5000 1000) w) := by
  have hlt := h.lt
  have H := Lib.hid h
  clear h
  go_enter Tryd.func53, Tryd.ntmps53
  go_wp2_with fail
  refine (log_any g m _ (H.out.al _) (by omega)).mono ?_
  rintro e w1 ⟨_, rfl, ⟨d, p, n, rfl, hs, hn⟩, hc1, hg1⟩
  have HC1 := Lib.hid hc1
  clear hc1
  have ⟨c1, f1⟩ := gcell hg1
  have hz1 := hg1.size
  (try simp at hz1)
  have hR : w1.heap[w.heap.size]? = some (.cells #[.string ⟨#[]⟩, .string ⟨#[]⟩, .int .i64 0] 31 (0, 0)) := (hg1.block w.heap.size (by simp) (by simp; omega)).trans (heap_alloc_new w _)
  have HS := Lib.hid (show LogSt g (m + 80) w1.heap.size w.heap.size w (w1.alloc (.cells #[.string d, .string p, .int .i64 n] 31)) d p n from ⟨HC1.out.al _, gr_al (gr_trans (gr_al (gr_refl _ _) _) hg1) _, heap_alloc_new _ _, (heap_alloc_old' _ _ _ (lt_of_block hR)).trans hR⟩)
  clear hR hg1 c1 f1 HC1
  go_wp2_with fail
  refine (pick_any g (m + 80) 24 _ HS.out.cur (by omega) (by omega) (by omega)).mono ?_
  rintro e w2 ⟨_, rfl, ⟨r, rfl, hr0, hr1⟩, hc2, hg2⟩
  have HC2 := Lib.hid hc2
  clear hc2
  have ⟨c2, f2⟩ := gcell hg2
  have hz2 := hg2.size
  (try simp at hz2)
  have H2 := Lib.hid (HS.out.step hg2 HC2.out (by omega) hlt)
  clear HS HC2 hg2 c2 f2
  obtain ⟨⟨l0, l1, l2, lf⟩, ⟨r0, r1, r2, rf⟩⟩ := H2.out.cells
  rcases (by omega : r = 0 ∨ r = 1 ∨ r = 2 ∨ (2 < r ∧ r ≤ 23)) with rfl | rfl | rfl | ⟨hra, hrb⟩
  · go_wp2
    refine bodyPost_ret (v := .agg #[.string d, .string p, .int .i64 (n + 1)]) (by simp only [results, Tryd.results53]; go_simp) rfl ⟨_, rfl, ⟨_, _, _, rfl, by omega, by omega⟩, ?_, ?_⟩
    · exact ((((H2.out.cur.more (by omega) (by omega)).sc (by show g < w1.heap.size; omega) _).sc hlt _).sc hlt _).sc hlt _
    · exact gr_sc (gr_sc (gr_sc (gr_sc H2.out.gr (.inr (by show w.heap.size ≤ w1.heap.size; omega)) _) (.inr (Nat.le_refl _)) _) (.inr (Nat.le_refl _)) _) (.inr (Nat.le_refl _)) _
  · go_wp2_with fail
    refine (spoilt_any g (m + 82) p _ _ H2.out.cur (by omega) (by omega) (by decide) (by decide)).mono ?_
    rintro e w3 ⟨_, rfl, ⟨s3, rfl, hs3⟩, hc3, hg3⟩
    have HC3 := Lib.hid hc3
    clear hc3
    have ⟨c3, f3⟩ := gcell hg3
    have hz3 := hg3.size
    (try simp at hz3)
    have H3 := Lib.hid (H2.out.step hg3 HC3.out (by omega) hlt)
    clear H2 HC3 hg3 c3 f3 l0 l1 l2 lf r0 r1 r2 rf
    obtain ⟨⟨l0, l1, l2, lf⟩, ⟨r0, r1, r2, rf⟩⟩ := H3.out.cells
    go_wp2
    refine bodyPost_ret (v := .agg #[.string d, .string s3, .int .i64 n]) (by simp only [results, Tryd.results53]; go_simp) rfl ⟨_, rfl, ⟨_, _, _, rfl, by omega, by omega⟩, ?_, ?_⟩
    · exact ((((H3.out.cur.more (by omega) (by omega)).sc (by show g < w1.heap.size; omega) _).sc hlt _).sc hlt _).sc hlt _
    · exact gr_sc (gr_sc (gr_sc (gr_sc H3.out.gr (.inr (by show w.heap.size ≤ w1.heap.size; omega)) _) (.inr (Nat.le_refl _)) _) (.inr (Nat.le_refl _)) _) (.inr (Nat.le_refl _)) _
  · have hcat : ¬ 9223372036854775807 < d.size + p.size := by omega
    go_wp2
    refine bodyPost_ret (v := .agg #[.string (d ++ p), .string p, .int .i64 n]) (by simp only [results, Tryd.results53]; go_simp) rfl ⟨_, rfl, ⟨_, _, _, rfl, by rw [ByteArray.size_append]; omega, by omega⟩, ?_, ?_⟩
    · exact ((((H2.out.cur.more (by omega) (by omega)).sc (by show g < w1.heap.size; omega) _).sc hlt _).sc hlt _).sc hlt _
    · exact gr_sc (gr_sc (gr_sc (gr_sc H2.out.gr (.inr (by show w.heap.size ≤ w1.heap.size; omega)) _) (.inr (Nat.le_refl _)) _) (.inr (Nat.le_refl _)) _) (.inr (Nat.le_refl _)) _
  · have hr2 : (r == 0) = false := by simp; omega
    have hr3 : (r == 1) = false := by simp; omega
    have hr4 : (r == 2) = false := by simp; omega
    go_wp2
    refine bodyPost_ret (v := .agg #[.string d, .string p, .int .i64 n]) (by simp only [results, Tryd.results53]; go_simp) rfl ⟨_, rfl, ⟨_, _, _, rfl, by omega, by omega⟩, ?_, ?_⟩
    · exact (((H2.out.cur.more (by omega) (by omega)).sc hlt _).sc hlt _).sc hlt _
    · exact gr_sc (gr_sc (gr_sc H2.out.gr (.inr (Nat.le_refl _)) _) (.inr (Nat.le_refl _)) _) (.inr (Nat.le_refl _)) _
/-- The bytes that came in. -/
def CodeIn (w : World) (v : Value) : Prop := ∃ code : List UInt8, code.length ≤ 1000000 ∧ ListAt (fun b => b < w.heap.size) w 1 (fun x cs => cs = [.int .u8 (x.toNat : Int)]) v code
theorem cur_new {w w1 : World} {v : Value} (h : CodeIn w v) (hb : Below w.heap.size w w1) : Cur (w1.alloc (.cells #[v, .int .i64 0, .int .u64 0] 75)) w1.heap.size 0 := by
  obtain ⟨code, h1, h2⟩ := h
  have hz := hb.size
  refine ⟨v, 0, 0, heap_alloc_new _ _, Nat.le_refl _, by omega, by omega, by omega, code, h1, ?_⟩
  exact (h2.mono (w' := w1.alloc _) (fun b hb' hlt => (heap_alloc_old' w1 _ b (by omega)).trans (hb.block b hlt)) (fun b hb' => by omega) (fun _ _ _ h => h))
theorem among_lit (g m n b : Nat) (lo hi : Int) (W : World) (cs : Array Value) (t : TypeId) (hn : n = cs.size) (hb : b = W.heap.size) (h : Cur W g m) (hm : m + 2 ≤ 1000000000) (h0 : 0 < cs.size) (h1 : cs.size ≤ 1000000000) (hs : ∀ v ∈ cs, IsIn lo hi v) :
    Calls Tryd.prog 59 #[.pointer (some ⟨g, 0, none⟩), .slice (some ⟨b, 0, none⟩) n n] (W.alloc (.cells cs t)) (Step g m 2 (IsIn lo hi) (W.alloc (.cells cs t))) := by
  subst hn hb
  have hlt := h.lt
  exact among_any g m W.heap.size cs.size lo hi cs t (0, 0) _ (h.below ((Below.refl _ _).alloc (Nat.le_refl _) _)) hm (heap_alloc_new W _) (by omega) h0 h1 hs
def DrawEncPost (w : World) (e : Ending) (w' : World) : Prop := ∃ (k : Int) (c r : ByteArray), e = .returned (.tuple #[.int .i64 k, .agg #[.string c, .string r]]) ∧ (-1 ≤ k ∧ k ≤ 60) ∧ c.size ≤ 20 ∧ r.size ≤ 20 ∧ Below w.heap.size w w'
set_option maxRecDepth 100000 in
set_option maxHeartbeats 3200000 in
theorem drawEncode_any (pp : Option Addr) (nn cc : Nat) (w : World) (h : CodeIn w (.slice pp nn cc)) : Calls Tryd.prog 39 #[.slice pp nn cc] w (DrawEncPost w) := by
  have H := Lib.hid (fun (w1 : World) (hb : Below w.heap.size w w1) => cur_new h hb)
  clear h
  go_enter Tryd.func39, Tryd.ntmps39
  have HW := Lib.hid (H.out (w.alloc (.cells #[.string ⟨#[]⟩, .string ⟨#[]⟩] 27)) (by (repeat (first | exact Below.refl _ _ | assumption | refine Below.al ?_ _ | refine Below.sc ?_ (by first | exact Nat.le_refl _ | (simp; done) | (simp; omega)) _ | refine Below.dr ?_ | refine Below.drN ?_ _ | refine Below.step ?_ (by assumption)))))
  go_wp2_with fail
  refine (among_lit (w.heap.size + 1) 0 6 (w.heap.size + 1 + 1) (-1) 60 _ _ _ (by rfl) (by simp) (by simpa using HW.out) (by omega) (by decide) (by decide) (by intro v hv; simp at hv; rcases hv with rfl | rfl | rfl | rfl | rfl | rfl <;> exact ⟨_, rfl, by decide, by decide⟩)).mono ?_
  rintro e w1 ⟨_, rfl, ⟨k, rfl, hk0, hk1⟩, hc1, hg1⟩
  have HC1 := Lib.hid hc1
  clear hc1
  have ⟨c1, f1⟩ := gcell hg1
  have hz1 := hg1.size
  (try simp at hz1)
  go_wp2_with fail
  refine (logRecord_any (w.heap.size + 1) 2 _ HC1.out (by omega)).mono ?_
  rintro e w2 ⟨_, rfl, ⟨c, r, rfl, hcs, hrs⟩, hc2, hg2⟩
  have HC2 := Lib.hid hc2
  clear hc2
  have ⟨c2, f2⟩ := gcell hg2
  have hz2 := hg2.size
  (try simp at hz2)
  have hb1 : Below w.heap.size w w2 := by
    have h1 := gr_to_below (B := w.heap.size) (gr_trans hg1 hg2) (by omega) (by simp; omega)
    exact (show Below w.heap.size w _ by (repeat (first | exact Below.refl _ _ | assumption | refine Below.al ?_ _ | refine Below.sc ?_ (by first | exact Nat.le_refl _ | (simp; done) | (simp; omega)) _ | refine Below.dr ?_ | refine Below.drN ?_ _ | refine Below.step ?_ (by assumption)))).trans h1
  have hR := ((gr_trans hg1 hg2).block w.heap.size (by simp; omega) (by simp)).trans ((heap_alloc_old' _ _ _ (by simp; omega)).trans ((heap_alloc_old' _ _ _ (by simp)).trans (heap_alloc_new w _)))
  obtain ⟨r0, r1, rf⟩ := row2_at hR
  clear hR hg1 hg2 c1 f1 c2 f2
  go_wp2
  refine bodyPost_ret (v := .tuple #[.int .i64 k, .agg #[.string c, .string r]]) (by simp only [results, Tryd.results39]; go_simp) rfl ⟨_, _, _, rfl, ⟨hk0, hk1⟩, hcs, hrs, by (repeat (first | exact Below.refl _ _ | assumption | refine Below.al ?_ _ | refine Below.sc ?_ (by first | exact Nat.le_refl _ | (simp; done) | (simp; omega)) _ | refine Below.dr ?_ | refine Below.drN ?_ _ | refine Below.step ?_ (by assumption)))⟩
end Go.Proofs.YtofamefmodmekaaDoor
