/- The generators of the logs' laws' arguments, on. Conditions: sizes. -/
import Derived.Test.YtofamefmodmekaaDoorCur5
namespace Go.Proofs.YtofamefmodmekaaDoor
open Go.RowKit
/-- Where a generator stands: its cursor g, whatever lies below g unturned since W, a log's box L. -/
structure DrawSt (g m L : Nat) (W wr : World) (d p : ByteArray) (n : Int) : Prop where
  cur : Cur wr g m
  bel : Below g W wr
  l : wr.heap[L]? = some (.cells #[.string d, .string p, .int .i64 n] 31 (0, 0))
section
variable {g m m2 L : Nat} {W wr w2 : World} {d p d' p' : ByteArray} {n n' : Int}
theorem DrawSt.below (h : DrawSt g m L W wr d p n) (hb : Below wr.heap.size wr w2) : DrawSt g m L W w2 d p n :=
  ⟨h.cur.below hb, h.bel.trans (hb.mono (Nat.le_of_lt h.cur.lt)), (hb.block _ (lt_of_block h.l)).trans h.l⟩
theorem DrawSt.step (h : DrawSt g m L W wr d p n) (hg : wr.grownBy w2 (some g)) (hc : Cur w2 g m2) (hL : g < L) : DrawSt g m2 L W w2 d p n :=
  ⟨hc, h.bel.trans (gr_to_below hg (Nat.le_refl _) (Nat.le_of_lt h.cur.lt)), (hg.block _ (lt_of_block h.l) (by simp; omega)).trans h.l⟩
theorem DrawSt.store (h : DrawSt g m L W wr d p n) (hL : g < L) (d' p' : ByteArray) (n' : Int) :
    DrawSt g m L W (((wr.setCell ⟨L, 0, none⟩ (.string d')).setCell ⟨L, 1, none⟩ (.string p')).setCell ⟨L, 2, none⟩ (.int .i64 n')) d' p' n' :=
  ⟨((h.cur.sc hL _).sc hL _).sc hL _, ((h.bel.setCell (Nat.le_of_lt hL) _).setCell (Nat.le_of_lt hL) _).setCell (Nat.le_of_lt hL) _, block3_all h.l⟩
end
theorem gr_bel {g : Nat} {W w2 : World} (hg : W.grownBy w2 (some g)) (h : g < W.heap.size) : Below g W w2 := gr_to_below hg (Nat.le_refl _) (Nat.le_of_lt h)
def DrawCrashPost (w : World) (e : Ending) (w' : World) : Prop := ∃ (d p : ByteArray) (n k : Int) (t : Bool), e = .returned (.tuple #[.agg #[.string d, .string p, .int .i64 n], .int .i64 k, .bool t]) ∧ d.size + p.size ≤ 5000 ∧ (-1 ≤ n ∧ n ≤ 1000) ∧ (-1 ≤ k ∧ k ≤ 10000) ∧ Below w.heap.size w w'
set_option maxRecDepth 100000 in
set_option maxHeartbeats 3200000 in
theorem drawCrash_any (pp : Option Addr) (nn cc : Nat) (w : World) (h : CodeIn w (.slice pp nn cc)) : Calls Tryd.prog 41 #[.slice pp nn cc] w (DrawCrashPost w) := by
  have H := Lib.hid (fun (w1 : World) (hb : Below w.heap.size w w1) => cur_new h hb)
  clear h
  go_enter Tryd.func41, Tryd.ntmps41
  have HW := Lib.hid (H.out (w.alloc (.cells #[.string ⟨#[]⟩, .string ⟨#[]⟩, .int .i64 0] 31)) (by (repeat (first | exact Below.refl _ _ | assumption | refine Below.al ?_ _ | refine Below.sc ?_ (by first | exact Nat.le_refl _ | (simp; done) | (simp; omega)) _ | refine Below.dr ?_ | refine Below.drN ?_ _ | refine Below.step ?_ (by assumption)))))
  go_wp2_with fail
  refine (anyLog_any (w.heap.size + 1) 0 _ (by simpa using HW.out) (by omega)).mono ?_
  rintro e w1 ⟨_, rfl, ⟨d, p, n, rfl, hs, hn⟩, hc1, hg1⟩
  have HC1 := Lib.hid hc1
  clear hc1
  have ⟨c1, f1⟩ := gcell hg1
  have hz1 := hg1.size
  (try simp at hz1)
  have HS := Lib.hid (show DrawSt (w.heap.size + 1) 100 w1.heap.size _ (w1.alloc (.cells #[.string d, .string p, .int .i64 n] 31)) d p n from ⟨HC1.out.al _, (gr_bel hg1 (by simp)).alloc (by omega) _, heap_alloc_new _ _⟩)
  obtain ⟨l0, l1, l2, lf⟩ := cells3_cell HS.out.l
  clear hg1 c1 f1
  go_wp2_with fail
  refine (pick_any (w.heap.size + 1) 100 _ _ HS.out.cur (by omega) (by omega) (by omega)).mono ?_
  rintro e w2 ⟨_, rfl, ⟨r, rfl, hr0, hr1⟩, hc2, hg2⟩
  have HC2 := Lib.hid hc2
  clear hc2
  have ⟨c2, f2⟩ := gcell hg2
  have hz2 := hg2.size
  (try simp at hz2)
  have H2 := Lib.hid (HS.out.step hg2 HC2.out (by omega))
  clear HS l0 l1 l2 lf hg2 c2 f2
  obtain ⟨l0, l1, l2, lf⟩ := cells3_cell H2.out.l
  have hne : ¬ w1.heap.size = w.heap.size := by omega
  have hne2 : ¬ w.heap.size = w1.heap.size := by omega
  have hR := (H2.out.bel.block w.heap.size (by omega)).trans ((heap_alloc_old' _ _ _ (by simp)).trans (heap_alloc_new w _))
  have HR := Lib.hid hR
  clear hR
  go_wp2
  go_region_held3 (fun w' => w'.cell? ⟨w1.heap.size, 0, none⟩ = some (.string d) ∧ w'.cell? ⟨w1.heap.size, 1, none⟩ = some (.string p) ∧ w'.cell? ⟨w1.heap.size, 2, none⟩ = some (.int .i64 n)) (go_keep)
    (first | (go_at_call 54; refine (one_any (w.heap.size + 1) 102 2 _ (H2.out.cur.below (Below.refl _ _).drew) (by omega) (by omega) (by omega)).mono ?_; rintro e w3 ⟨_, rfl, ⟨t, rfl⟩, hc3, hg3⟩; have H3 := Lib.hid ((H2.out.below (Below.refl _ _).drew).step hg3 hc3 (by omega)); clear hc3 hg3; obtain ⟨k0, k1, k2, kf⟩ := cells3_cell H3.out.l; obtain ⟨r0, r1, r2, rf⟩ := cells3_cell ((H3.out.bel.block w.heap.size (by omega)).trans ((heap_alloc_old' _ _ _ (by simp)).trans (heap_alloc_new w _)))))
  have hb3 : Below w.heap.size w w3 := (show Below w.heap.size w _ by (repeat (first | exact Below.refl _ _ | assumption | refine Below.al ?_ _ | refine Below.sc ?_ (by first | exact Nat.le_refl _ | (simp; done) | (simp; omega)) _ | refine Below.dr ?_ | refine Below.drN ?_ _ | refine Below.step ?_ (by assumption)))).trans (H3.out.bel.mono (by omega))
  go_wp2
  refine bodyPost_ret (v := .tuple #[.agg #[.string d, .string p, .int .i64 n], .int .i64 (r - 1), .bool t]) (by simp only [results, Tryd.results41]; go_simp) rfl ⟨_, _, _, _, _, rfl, hs, hn, ⟨by omega, by omega⟩, by (repeat (first | exact Below.refl _ _ | assumption | refine Below.al ?_ _ | refine Below.sc ?_ (by first | exact Nat.le_refl _ | (simp; done) | (simp; omega)) _ | refine Below.dr ?_ | refine Below.drN ?_ _ | refine Below.step ?_ (by assumption)))⟩
def DrawAppPost (w : World) (e : Ending) (w' : World) : Prop := ∃ (d p : ByteArray) (n : Int) (c r : ByteArray), e = .returned (.tuple #[.agg #[.string d, .string p, .int .i64 n], .agg #[.string c, .string r]]) ∧ d.size + p.size ≤ 50000 ∧ (-1 ≤ n ∧ n ≤ 1000) ∧ c.size ≤ 20 ∧ r.size ≤ 20 ∧ Below w.heap.size w w'
/-- The last statement: the log and a record are drawn and returned. -/
def DrawAppRel (g L : Nat) (W : World) (v : Value) (wr : World) : Prop :=
  ∃ (k : Nat) (d p : ByteArray) (n : Int), k ≤ 60 ∧ v = .int .i64 k ∧ DrawSt g 104 L W wr d p n ∧ d.size + p.size ≤ 404 * (60 - k) ∧ (-1 ≤ n ∧ n ≤ 999)
set_option maxRecDepth 100000 in
set_option maxHeartbeats 3200000 in
theorem drawAppend_any (pp : Option Addr) (nn cc : Nat) (w : World) (h : CodeIn w (.slice pp nn cc)) : Calls Tryd.prog 36 #[.slice pp nn cc] w (DrawAppPost w) := by
  have H := Lib.hid (fun (w1 : World) (hb : Below w.heap.size w w1) => cur_new h hb)
  clear h
  go_enter Tryd.func36, Tryd.ntmps36
  have HW := Lib.hid (H.out ((w.alloc (.cells #[.string ⟨#[]⟩, .string ⟨#[]⟩, .int .i64 0] 31)).alloc (.cells #[.string ⟨#[]⟩, .string ⟨#[]⟩] 27)) (by (repeat (first | exact Below.refl _ _ | assumption | refine Below.al ?_ _ | refine Below.sc ?_ (by first | exact Nat.le_refl _ | (simp; done) | (simp; omega)) _ | refine Below.dr ?_ | refine Below.drN ?_ _ | refine Below.step ?_ (by assumption)))))
  go_wp2_with fail
  refine (anyLog_any (w.heap.size + 1 + 1) 0 _ (by simpa using HW.out) (by omega)).mono ?_
  rintro e w1 ⟨_, rfl, ⟨d, p, n, rfl, hs, hn⟩, hc1, hg1⟩
  have HC1 := Lib.hid hc1
  clear hc1
  have ⟨c1, f1⟩ := gcell hg1
  have hz1 := hg1.size
  (try simp at hz1)
  have HS := Lib.hid (show DrawSt (w.heap.size + 1 + 1) 100 w1.heap.size _ (w1.alloc (.cells #[.string d, .string p, .int .i64 n] 31)) d p n from ⟨HC1.out.al _, (gr_bel hg1 (by simp)).alloc (by omega) _, heap_alloc_new _ _⟩)
  clear hg1 c1 f1 HC1
  go_wp2_with fail
  refine (one_any (w.heap.size + 1 + 1) 100 40 _ HS.out.cur (by omega) (by omega) (by omega)).mono ?_
  rintro e w2 ⟨_, rfl, ⟨b, rfl⟩, hc2, hg2⟩
  have HC2 := Lib.hid hc2
  clear hc2
  have ⟨c2, f2⟩ := gcell hg2
  have hz2 := hg2.size
  (try simp at hz2)
  have H2 := Lib.hid (HS.out.step hg2 HC2.out (by omega))
  clear HS HC2 hg2 c2 f2
  obtain ⟨l0, l1, l2, lf⟩ := cells3_cell H2.out.l
  have hne : ¬ w1.heap.size = w.heap.size := by omega
  have hne2 : ¬ w.heap.size = w1.heap.size := by omega
  have hne3 : ¬ w1.heap.size = w.heap.size + 1 := by omega
  have hne4 : ¬ w.heap.size + 1 = w1.heap.size := by omega
  cases b
  · go_wp2
    go_region_held3 (fun w' => w'.cell? ⟨w1.heap.size, 0, none⟩ = some (.string d) ∧ w'.cell? ⟨w1.heap.size, 1, none⟩ = some (.string p) ∧ w'.cell? ⟨w1.heap.size, 2, none⟩ = some (.int .i64 n)) (go_keep)
      (first | (go_at_call 56; refine (logRecord_any (w.heap.size + 1 + 1) 102 _ (H2.out.cur.below (Below.refl _ _).drew) (by omega)).mono ?_; rintro e w3 ⟨_, rfl, ⟨c, r, rfl, hcs, hrs⟩, hc3, hg3⟩; have H3 := Lib.hid ((H2.out.below (Below.refl _ _).drew).step hg3 hc3 (by omega)); clear hc3 hg3; obtain ⟨k0, k1, k2, kf⟩ := cells3_cell H3.out.l; obtain ⟨r0, r1, r2, rf⟩ := cells3_cell ((H3.out.bel.block w.heap.size (by omega)).trans ((heap_alloc_old' _ _ _ (by simp; omega)).trans ((heap_alloc_old' _ _ _ (by simp)).trans (heap_alloc_new w _)))); obtain ⟨s0, s1, sf⟩ := row2_at ((H3.out.bel.block (w.heap.size + 1) (by omega)).trans ((heap_alloc_old' _ _ _ (by simp)).trans (by rw [show w.heap.size + 1 = (w.alloc (.cells #[.string ⟨#[]⟩, .string ⟨#[]⟩, .int .i64 0] 31)).heap.size by simp]; exact heap_alloc_new _ _)))))
    have hb3 : Below w.heap.size w w3 := (show Below w.heap.size w _ by (repeat (first | exact Below.refl _ _ | assumption | refine Below.al ?_ _ | refine Below.sc ?_ (by first | exact Nat.le_refl _ | (simp; done) | (simp; omega)) _ | refine Below.dr ?_ | refine Below.drN ?_ _ | refine Below.step ?_ (by assumption)))).trans (H3.out.bel.mono (by omega))
    go_wp2
    refine bodyPost_ret (v := .tuple #[.agg #[.string d, .string p, .int .i64 n], .agg #[.string c, .string r]]) (by simp only [results, Tryd.results36]; go_simp) rfl ⟨_, _, _, _, _, rfl, by omega, by omega, hcs, hrs, by (repeat (first | exact Below.refl _ _ | assumption | refine Below.al ?_ _ | refine Below.sc ?_ (by first | exact Nat.le_refl _ | (simp; done) | (simp; omega)) _ | refine Below.dr ?_ | refine Below.drN ?_ _ | refine Below.step ?_ (by assumption)))⟩
  · go_wp2_with fail
    refine (pick_any (w.heap.size + 1 + 1) 102 2 _ (H2.out.store (by omega) ⟨#[]⟩ ⟨#[]⟩ 0).cur (by omega) (by omega) (by omega)).mono ?_
    rintro e w4 ⟨_, rfl, ⟨r4, rfl, hr40, hr41⟩, hc4, hg4⟩
    have H4 := Lib.hid ((H2.out.store (by omega) ⟨#[]⟩ ⟨#[]⟩ 0).step hg4 hc4 (by omega))
    clear H2 hc4 hg4 l0 l1 l2 lf hs hn
    obtain ⟨k0, hk0⟩ : ∃ k0 : Nat, 59 + r4 = k0 := ⟨(59 + r4).toNat, by omega⟩
    have hk60 : k0 ≤ 60 := by omega
    go_wp2
    go_loopw [6] (DrawAppRel (w.heap.size + 1 + 1) w1.heap.size _) (fun v _ => (intOf v).toNat)
    case atStart => exact ⟨k0, _, _, _, hk60, rfl, H4.out, Nat.zero_le _, by omega⟩
    case round =>
      clear H4
      obtain ⟨k, d, p, n, hk, rfl, hst, hs, hn⟩ := hrel
      have HST := Lib.hid hst
      have HN := Lib.hid (And.intro hs hn)
      clear hst
      obtain ⟨l0, l1, l2, lf⟩ := cells3_cell HST.out.l
      by_cases hkp : 0 < (k : Int)
      · clear hs hn
        go_wp2_with fail
        refine (specAppend_some (404 * (60 - k)) d p ⟨#[120]⟩ ⟨#[]⟩ n _ HN.out.1 (by omega) HN.out.2 (by decide) (by decide)).mono ?_
        rintro e w5 ⟨d5, p5, n5, x5, rfl, hs5, hn5, hb5⟩
        have H5 := Lib.hid (HST.out.below hb5)
        clear hb5 l0 l1 l2 lf
        obtain ⟨l0, l1, l2, lf⟩ := cells3_cell H5.out.l
        have HN5 := Lib.hid (And.intro hs5 hn5)
        clear hs5 hn5
        obtain ⟨q, rfl⟩ : ∃ q, k = q + 1 := ⟨k - 1, by omega⟩
        go_wp2
        refine ⟨⟨q, d5, p5, n5, by omega, by go_num, H5.out.store (by omega) d5 p5 n5, ?_, HN5.out.2⟩, by simp [intOf]⟩
        have := HN5.out.1; omega
      · go_wp2
        go_region_held3 (fun w' => w'.cell? ⟨w1.heap.size, 0, none⟩ = some (.string d) ∧ w'.cell? ⟨w1.heap.size, 1, none⟩ = some (.string p) ∧ w'.cell? ⟨w1.heap.size, 2, none⟩ = some (.int .i64 n)) (go_keep)
          (first | (go_at_call 56; refine (logRecord_any (w.heap.size + 1 + 1) 104 _ (HST.out.cur.below (Below.refl _ _).drew) (by omega)).mono ?_; rintro e w3 ⟨_, rfl, ⟨c, r, rfl, hcs, hrs⟩, hc3, hg3⟩; have H3 := Lib.hid ((HST.out.below (Below.refl _ _).drew).step hg3 hc3 (by omega)); clear hc3 hg3; obtain ⟨k0, k1, k2, kf⟩ := cells3_cell H3.out.l; obtain ⟨r0, r1, r2, rf⟩ := cells3_cell ((H3.out.bel.block w.heap.size (by omega)).trans ((heap_alloc_old' _ _ _ (by simp; omega)).trans ((heap_alloc_old' _ _ _ (by simp)).trans (heap_alloc_new w _)))); obtain ⟨s0, s1, sf⟩ := row2_at ((H3.out.bel.block (w.heap.size + 1) (by omega)).trans ((heap_alloc_old' _ _ _ (by simp)).trans (by rw [show w.heap.size + 1 = (w.alloc (.cells #[.string ⟨#[]⟩, .string ⟨#[]⟩, .int .i64 0] 31)).heap.size by simp]; exact heap_alloc_new _ _)))))
        have hb3 : Below w.heap.size w w3 := (show Below w.heap.size w _ by (repeat (first | exact Below.refl _ _ | assumption | refine Below.al ?_ _ | refine Below.sc ?_ (by first | exact Nat.le_refl _ | (simp; done) | (simp; omega)) _ | refine Below.dr ?_ | refine Below.drN ?_ _ | refine Below.step ?_ (by assumption)))).trans (H3.out.bel.mono (by omega))
        go_wp2
        refine bodyPost_ret (v := .tuple #[.agg #[.string d, .string p, .int .i64 n], .agg #[.string c, .string r]]) (by simp only [results, Tryd.results36]; go_simp) rfl ⟨_, _, _, _, _, rfl, by omega, by omega, hcs, hrs, by (repeat (first | exact Below.refl _ _ | assumption | refine Below.al ?_ _ | refine Below.sc ?_ (by first | exact Nat.le_refl _ | (simp; done) | (simp; omega)) _ | refine Below.dr ?_ | refine Below.drN ?_ _ | refine Below.step ?_ (by assumption)))⟩
end Go.Proofs.YtofamefmodmekaaDoor
