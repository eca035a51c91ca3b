/- Valid terms and atoms, both sides. Conditions: sizes. -/
import Derived.Laws.OwnMore
import Derived.Laws.Bits64b
import Derived.Test.YtkgfanajgdelcaaGreatDoorUnPart1
namespace Go.Proofs.YtkgfanajgdelcaaGreatDoor
open Go.RowKit
/-! Worlds that differ in one block alone. -/
section
variable {w w1 w2 : World} {g : Nat}
theorem gr_refl (w : World) (g : Nat) : w.grownBy w (some g) := ⟨rfl, rfl, rfl, Nat.le_refl _, fun _ _ _ => rfl⟩
theorem gr_trans (h : w.grownBy w1 (some g)) (h2 : w1.grownBy w2 (some g)) : w.grownBy w2 (some g) :=
  ⟨h2.os.trans h.os, h2.tape.trans h.tape, h2.output.trans h.output, Nat.le_trans h.size h2.size, fun k hk hne => (h2.block k (Nat.lt_of_lt_of_le hk h.size) hne).trans (h.block k hk hne)⟩
theorem gr_below (h : w.grownBy w1 (some g)) (hb : Below w1.heap.size w1 w2) : w.grownBy w2 (some g) :=
  gr_trans h ⟨hb.os, hb.tape, hb.output, hb.size, fun k hk _ => hb.block k hk⟩
theorem gr_al (h : w.grownBy w1 (some g)) (o : Obj) : w.grownBy (w1.alloc o) (some g) := gr_below h ((Below.refl _ _).alloc (Nat.le_refl _) o)
theorem gr_dr (h : w.grownBy w1 (some g)) : w.grownBy w1.drew (some g) := gr_below h ((Below.refl _ _).drew)
theorem gr_sc (h : w.grownBy w1 (some g)) {p : Addr} (hp : p.block = g ∨ w.heap.size ≤ p.block) (u : Value) : w.grownBy (w1.setCell p u) (some g) := by
  refine ⟨h.os, h.tape, h.output, by simpa using h.size, fun k hk hne => ?_⟩
  refine (heap_setCell_other w1 p k u (fun e => ?_)).trans (h.block k hk hne)
  rcases hp with hp | hp
  · exact hne (by rw [← hp, e])
  · omega
theorem gr_to_below {B : Nat} (h : w.grownBy w1 (some g)) (hB : B ≤ g) (hBw : B ≤ w.heap.size) : Below B w w1 :=
  ⟨h.os, h.tape, h.output, h.size, fun k hk => h.block k (by omega) (by simp; omega)⟩
theorem gcell (h : w.grownBy w1 (some g)) : (∀ b o, b < w.heap.size → b ≠ g → w1.cell? ⟨b, o, none⟩ = w.cell? ⟨b, o, none⟩) ∧ (∀ b o, b < w.heap.size → b ≠ g → w1.frozen? ⟨b, o, none⟩ = w.frozen? ⟨b, o, none⟩) :=
  ⟨fun b o hb hne => World.cell?_of_block (h.block b hb (by simpa using hne)), fun b o hb hne => World.frozen?_of_block (h.block b hb (by simpa using hne))⟩
end
def CodeIs (w : World) (g : Nat) (v : Value) : Prop := ∃ code : List UInt8, code.length ≤ 1000000 ∧ ListAt (fun b => b < g) w 1 (fun x cs => cs = [.int .u8 (x.toNat : Int)]) v code
theorem CodeIs.grown {w w1 : World} {g : Nat} {v : Value} (h : CodeIs w g v) (hg : w.grownBy w1 (some g)) : CodeIs w1 g v := by
  obtain ⟨code, h1, h2⟩ := h
  exact ⟨code, h1, h2.mono (fun b hb hlt => hg.block b hlt (by simp; omega)) (fun _ h => h) (fun _ _ _ h => h)⟩
def Cur (w : World) (g m : Nat) : Prop :=
  ∃ (v : Value) (a : Nat) (s : Int), w.heap[g]? = some (.cells #[v, .int .i64 a, .int .u64 s] 72 (0, 0)) ∧ a ≤ m ∧ m ≤ 1000000000 ∧ 0 ≤ s ∧ s ≤ 18446744073709551615 ∧ CodeIs w g v
theorem Cur.lt {w : World} {g m : Nat} (h : Cur w g m) : g < w.heap.size := by
  obtain ⟨v, a, s, h, _⟩ := h
  rcases Nat.lt_or_ge g w.heap.size with h' | h'
  · exact h'
  · rw [Array.getElem?_eq_none h'] at h; cases h
theorem Cur.below {w w1 : World} {g m : Nat} (h : Cur w g m) (hb : Below w.heap.size w w1) : Cur w1 g m := by
  have hlt := h.lt
  obtain ⟨v, a, s, h1, h2, h3, h4, h5, h6⟩ := h
  exact ⟨v, a, s, (hb.block g hlt).trans h1, h2, h3, h4, h5, h6.grown ⟨hb.os, hb.tape, hb.output, hb.size, fun k hk _ => hb.block k hk⟩⟩
theorem Cur.more {w : World} {g m n : Nat} (h : Cur w g m) (hn : m ≤ n) (hm : n ≤ 1000000000) : Cur w g n := by
  obtain ⟨v, a, s, h1, h2, h3, h4⟩ := h
  exact ⟨v, a, s, h1, Nat.le_trans h2 hn, hm, h4⟩
def Step (g m k : Nat) (p : Value → Prop) (w : World) (e : Ending) (w' : World) : Prop :=
  ∃ v, e = .returned v ∧ p v ∧ Cur w' g (m + k) ∧ w.grownBy w' (some g)
def IsIn (lo hi : Int) (v : Value) : Prop := ∃ r : Int, v = .int .i64 r ∧ lo ≤ r ∧ r ≤ hi
theorem cells3_cell {w : World} {g : Nat} {x y z : Value} {t : TypeId} (h : w.heap[g]? = some (.cells #[x, y, z] t (0, 0))) :
    w.cell? ⟨g, 0, none⟩ = some x ∧ w.cell? ⟨g, 1, none⟩ = some y ∧ w.cell? ⟨g, 2, none⟩ = some z ∧ (∀ j, w.frozen? ⟨g, j, none⟩ = false) := by
  refine ⟨?_, ?_, ?_, fun j => frozen_of_row w g j _ _ h⟩
  · rw [cell_of_row w g 0 _ _ (0, 0) h]; rfl
  · rw [cell_of_row w g 1 _ _ (0, 0) h]; rfl
  · rw [cell_of_row w g 2 _ _ (0, 0) h]; rfl
theorem u64_bd (n : Int) : 0 ≤ IntKind.u64.wrap n ∧ IntKind.u64.wrap n ≤ 18446744073709551615 := by
  rw [IntKind.wrap_u64]; omega
theorem and255 (x : Int) (h0 : 0 ≤ x) (h1 : x ≤ 18446744073709551615) : 0 ≤ wrap64 (bits .and .u64 (x / 1099511627776) 255) ∧ wrap64 (bits .and .u64 (x / 1099511627776) 255) ≤ 255 := by
  have hq0 : 0 ≤ x / 1099511627776 := by omega
  have hq1 : x / 1099511627776 ≤ 18446744073709551615 := by omega
  generalize x / 1099511627776 = q at *
  obtain ⟨a, rfl⟩ := Int.eq_ofNat_of_zero_le hq0
  have h := bits_and_u64_nat a 255 (by omega) (by omega)
  rw [show ((255 : Nat) : Int) = 255 from rfl] at h
  rw [h]
  have hle : a &&& 255 ≤ 255 := Nat.and_le_right
  rw [IntWalk.wrap64_in _ (by omega)]; omega
theorem Cur.stepped {w' : World} {g m a : Nat} {v : Value} {s : Int} (hb : w'.heap[g]? = some (.cells #[v, .int .i64 ((a : Int) + 1), .int .u64 s] 72 (0, 0))) (h1 : a ≤ m) (hm : m + 1 ≤ 1000000000) (h2 : 0 ≤ s ∧ s ≤ 18446744073709551615) (h3 : CodeIs w' g v) : Cur w' g (m + 1) :=
  ⟨v, a + 1, s, by simpa using hb, by omega, hm, h2.1, h2.2, h3⟩
theorem block3_set {w : World} {g : Nat} {x y z y' z' : Value} {t : TypeId} (h : w.heap[g]? = some (.cells #[x, y, z] t (0, 0))) :
    ((w.setCell ⟨g, 1, none⟩ y').setCell ⟨g, 2, none⟩ z').heap[g]? = some (.cells #[x, y', z'] t (0, 0)) := by
  have h1 := heap_setCell_same w g 1 #[x, y, z] t y' h
  have h2 := heap_setCell_same _ g 2 _ t z' h1
  simpa using h2
theorem next_end {g m a : Nat} {w y1 wz : World} {v : Value} {s s' r : Int} (hlt : g < w.heap.size) (hb : w.heap[g]? = some (.cells #[v, .int .i64 a, .int .u64 s] 72 (0, 0))) (h1 : a ≤ m) (hm : m + 1 ≤ 1000000000) (hc : CodeIs w g v)
    (hb1 : Below w.heap.size w y1) (hb2 : Below y1.heap.size ((y1.setCell ⟨g, 1, none⟩ (.int .i64 ((a : Int) + 1))).setCell ⟨g, 2, none⟩ (.int .u64 s')) wz) (hs : 0 ≤ s' ∧ s' ≤ 18446744073709551615) (hr : 0 ≤ r ∧ r ≤ 255) :
    Step g m 1 (IsIn 0 255) w (.returned (.int .i64 r)) wz := by
  have hg : w.grownBy wz (some g) := gr_below (gr_sc (gr_sc (gr_below (gr_refl w g) hb1) (.inl rfl) _) (.inl rfl) _) (by simpa using hb2)
  have hlt1 := hb1.size
  exact ⟨_, rfl, ⟨r, rfl, hr.1, hr.2⟩, Cur.stepped (w' := wz) ((hb2.block g (by omega)).trans (block3_set ((hb1.block g hlt).trans hb))) h1 hm hs (hc.grown hg), hg⟩
set_option maxRecDepth 100000 in
set_option maxHeartbeats 1600000 in
theorem next_any (g m : Nat) (w : World) (h : Cur w g m) (hm : m + 1 ≤ 1000000000) : Calls Tryz.prog 161 #[.pointer (some ⟨g, 0, none⟩)] w (Step g m 1 (IsIn 0 255) w) := by
  have hlt := h.lt
  obtain ⟨v, a, s, h1, h2, _, h4, h5, h6⟩ := h
  obtain ⟨hc0, hc1, hc2, hfr⟩ := cells3_cell h1
  have H1 := Lib.hid h1
  have H6 := Lib.hid h6
  clear h1
  obtain ⟨code, hlen, hl⟩ := h6
  obtain ⟨p, cap, rfl, -⟩ := hl.form
  have HL := Lib.hid hl
  clear hl
  by_cases ha : a < code.length
  · obtain ⟨b, o, rfl, hne, x0, hx, hx0⟩ := HL.out.at1 ha
    obtain ⟨x, hxx⟩ : ∃ x, code[a] = x := ⟨_, rfl⟩
    rw [hxx] at hx0
    simp only [List.cons.injEq, and_true] at hx0
    subst hx0
    clear hxx
    have hx256 := x.toNat_lt
    have hwx := wrap64_byte x
    have hix : IntKind.i64.wrap (x.toNat : Int) = x.toNat := IntWalk.i64_in _ (by omega)
    go_enter Tryz.func161, Tryz.ntmps161
    go_wp2
    obtain ⟨C, HC0⟩ := class_of (InF w.heap.size _ [(⟨g, 0, none⟩, .slice (some ⟨b, o, none⟩) code.length cap), (⟨g, 1, none⟩, .int .i64 a), (⟨g, 2, none⟩, .int .u64 s)] [] [])
    have HC := Lib.hid HC0
    clear HC0
    refine wp_region_flow (C := C) (by kernel_rfl) (by kernel_rfl) (fun L hL => (HC.out _ _).2 (InF.start (by first | (intro _ hs; cases hs; done) | (simp only [List.forall_mem_cons]; go_simp)) (by first | (intro _ hs; cases hs; done) | (simp only [List.forall_mem_cons]; go_simp)) (by first | (intro _ hs; cases hs; done) | (simp only [List.forall_mem_cons]; go_simp)) (by first | (intro _ hs; cases hs; done) | (simp only [List.forall_mem_cons]; go_simp)) L hL)) ?_
    repeat (first | ((first | apply flow_free rfl | (apply flow_yes; (case hw => go_simp))); (intro L w' hun hrd hC; have hC := (HC.out _ _).1 hC; have hb' := hC.below; have hf' := hC.cell; (try simp only [List.forall_mem_cons] at hf'); go_simp; first | exact ⟨(HC.out _ _).2 (hC.skip _ (by rfl)), rfl⟩ | (rw [if_neg]; (exact ⟨(HC.out _ _).2 (hC.skip _ (by rfl)), rfl⟩); omega) | fail); go_simp) | (apply flow_no; (case hw => (go_simp; try (intro hh; cases hh))); (intro L w' _ _ hC; exact (HC.out _ _).2 (((HC.out _ _).1 hC).skip _ (by rfl))); go_simp))
    refine flow_nil ?_
    intro L wz hL hz
    have hz := (HC.out _ _).1 hz
    have hbz := hz.below
    have hcz := hz.cell
    try simp only [List.forall_mem_cons] at hcz
    have hdz := hz.done
    try simp only [List.forall_mem_cons] at hdz
    (try have hwz : Below w.heap.size w wz := by first | exact Below.trans (by (repeat (first | with_reducible (first | exact bR _ _ | assumption | refine bA ?_ _ | refine bS ?_ (by first | exact Nat.le_refl _ | (simp; done) | (simp; omega)) _) | assumption | exact bR _ _ | refine bD ?_ | refine bN ?_ _ | refine bT ?_ (by assumption)))) hbz | ((repeat (first | with_reducible (first | exact bR _ _ | assumption | refine bA ?_ _ | refine bS ?_ (by first | exact Nat.le_refl _ | (simp; done) | (simp; omega)) _) | assumption | exact bR _ _ | refine bD ?_ | refine bN ?_ _ | refine bT ?_ (by assumption))); done))
    have ⟨cz, fz⟩ := bcell hbz
    have hgz : g < wz.heap.size := Nat.lt_of_lt_of_le hlt hbz.size
    have hxz := (hbz.cell (World.block_lt_of_cell? w _ hx)).trans hx
    have hb1 := hbz
    obtain ⟨y0, hy0⟩ : ∃ y, y = wz := ⟨_, rfl⟩
    subst hy0
    go_wp2
    obtain ⟨C, HC0⟩ := class_of (InF y0.heap.size _ [(⟨g, 0, none⟩, .slice (some ⟨b, o, none⟩) code.length cap), (⟨g, 1, none⟩, .int .i64 a), (⟨g, 2, none⟩, .int .u64 s), (⟨b, o + a, none⟩, .int .u8 (x.toNat : Int))] [] [])
    have HC := Lib.hid HC0
    clear HC0
    refine wp_region_flow (C := C) (by kernel_rfl) (by kernel_rfl) (fun L hL => (HC.out _ _).2 (InF.start (by first | (intro _ hs; cases hs; done) | (simp only [List.forall_mem_cons]; go_simp)) (by first | (intro _ hs; cases hs; done) | (simp only [List.forall_mem_cons]; go_simp)) (by first | (intro _ hs; cases hs; done) | (simp only [List.forall_mem_cons]; go_simp)) (by first | (intro _ hs; cases hs; done) | (simp only [List.forall_mem_cons]; go_simp)) L hL)) ?_
    repeat (first | ((first | apply flow_free rfl | (apply flow_yes; (case hw => go_simp))); (intro L w' hun hrd hC; have hC := (HC.out _ _).1 hC; have hb' := hC.below; have hf' := hC.cell; (try simp only [List.forall_mem_cons] at hf'); go_simp; first | exact ⟨(HC.out _ _).2 (hC.skip _ (by rfl)), rfl⟩ | (rw [if_neg]; (exact ⟨(HC.out _ _).2 (hC.skip _ (by rfl)), rfl⟩); omega) | fail); go_simp) | (apply flow_no; (case hw => (go_simp; try (intro hh; cases hh))); (intro L w' _ _ hC; exact (HC.out _ _).2 (((HC.out _ _).1 hC).skip _ (by rfl))); go_simp))
    refine flow_nil ?_
    intro L wz hL hz
    have hz := (HC.out _ _).1 hz
    have hbz := hz.below
    have hcz := hz.cell
    try simp only [List.forall_mem_cons] at hcz
    have hdz := hz.done
    try simp only [List.forall_mem_cons] at hdz
    (try have hwz : Below w.heap.size w wz := by first | exact Below.trans (by (repeat (first | with_reducible (first | exact bR _ _ | assumption | refine bA ?_ _ | refine bS ?_ (by first | exact Nat.le_refl _ | (simp; done) | (simp; omega)) _) | assumption | exact bR _ _ | refine bD ?_ | refine bN ?_ _ | refine bT ?_ (by assumption)))) hbz | ((repeat (first | with_reducible (first | exact bR _ _ | assumption | refine bA ?_ _ | refine bS ?_ (by first | exact Nat.le_refl _ | (simp; done) | (simp; omega)) _) | assumption | exact bR _ _ | refine bD ?_ | refine bN ?_ _ | refine bT ?_ (by assumption))); done))
    have ⟨cz2, fz2⟩ := bcell hbz
    have hb1 := Below.step hb1 hbz
    have hgz2 : g < wz.heap.size := Nat.lt_of_lt_of_le hlt hb1.size
    obtain ⟨y1, hy1⟩ : ∃ y, y = wz := ⟨_, rfl⟩
    subst hy1
    go_wp2
    obtain ⟨C, HC0⟩ := class_of (InF y1.heap.size _ [(⟨g, 0, none⟩, .slice (some ⟨b, o, none⟩) code.length cap), (⟨g, 1, none⟩, .int .i64 (a + 1)), (⟨g, 2, none⟩, .int .u64 (IntKind.u64.wrap (IntKind.u64.wrap (IntKind.u64.wrap (s * 6364136223846793005) + x.toNat) + 892892)))] [] [])
    have HC := Lib.hid HC0
    clear HC0
    refine wp_region_flow (C := C) (by kernel_rfl) (by kernel_rfl) (fun L hL => (HC.out _ _).2 (InF.start (by first | (intro _ hs; cases hs; done) | (simp only [List.forall_mem_cons]; go_simp)) (by first | (intro _ hs; cases hs; done) | (simp only [List.forall_mem_cons]; go_simp)) (by first | (intro _ hs; cases hs; done) | (simp only [List.forall_mem_cons]; go_simp)) (by first | (intro _ hs; cases hs; done) | (simp only [List.forall_mem_cons]; go_simp)) L hL)) ?_
    repeat (first | ((first | apply flow_free rfl | (apply flow_yes; (case hw => go_simp))); (intro L w' hun hrd hC; have hC := (HC.out _ _).1 hC; have hb' := hC.below; have hf' := hC.cell; (try simp only [List.forall_mem_cons] at hf'); go_simp; first | exact ⟨(HC.out _ _).2 (hC.skip _ (by rfl)), rfl⟩ | (rw [if_neg]; (exact ⟨(HC.out _ _).2 (hC.skip _ (by rfl)), rfl⟩); omega) | fail); go_simp) | (apply flow_no; (case hw => (go_simp; try (intro hh; cases hh))); (intro L w' _ _ hC; exact (HC.out _ _).2 (((HC.out _ _).1 hC).skip _ (by rfl))); go_simp))
    refine flow_nil ?_
    intro L wz hL hz
    have hz := (HC.out _ _).1 hz
    have hbz := hz.below
    have hcz := hz.cell
    try simp only [List.forall_mem_cons] at hcz
    have hdz := hz.done
    try simp only [List.forall_mem_cons] at hdz
    (try have hwz : Below w.heap.size w wz := by first | exact Below.trans (by (repeat (first | with_reducible (first | exact bR _ _ | assumption | refine bA ?_ _ | refine bS ?_ (by first | exact Nat.le_refl _ | (simp; done) | (simp; omega)) _) | assumption | exact bR _ _ | refine bD ?_ | refine bN ?_ _ | refine bT ?_ (by assumption)))) hbz | ((repeat (first | with_reducible (first | exact bR _ _ | assumption | refine bA ?_ _ | refine bS ?_ (by first | exact Nat.le_refl _ | (simp; done) | (simp; omega)) _) | assumption | exact bR _ _ | refine bD ?_ | refine bN ?_ _ | refine bT ?_ (by assumption))); done))
    go_wp2
    go_ret
    exact next_end hlt H1.out h2 hm H6.out hb1 hbz (u64_bd _) (by omega)
  · have ha1 : ¬ (a : Int) < code.length := by omega
    have ha2 : ¬ (a : Int) + 1 ≤ code.length := by omega
    go_enter Tryz.func161, Tryz.ntmps161
    go_wp2
    obtain ⟨C, HC0⟩ := class_of (InF w.heap.size _ [(⟨g, 0, none⟩, .slice p code.length cap), (⟨g, 1, none⟩, .int .i64 a), (⟨g, 2, none⟩, .int .u64 s)] [] [])
    have HC := Lib.hid HC0
    clear HC0
    refine wp_region_flow (C := C) (by kernel_rfl) (by kernel_rfl) (fun L hL => (HC.out _ _).2 (InF.start (by first | (intro _ hs; cases hs; done) | (simp only [List.forall_mem_cons]; go_simp)) (by first | (intro _ hs; cases hs; done) | (simp only [List.forall_mem_cons]; go_simp)) (by first | (intro _ hs; cases hs; done) | (simp only [List.forall_mem_cons]; go_simp)) (by first | (intro _ hs; cases hs; done) | (simp only [List.forall_mem_cons]; go_simp)) L hL)) ?_
    repeat (first | ((first | apply flow_free rfl | (apply flow_yes; (case hw => go_simp))); (intro L w' hun hrd hC; have hC := (HC.out _ _).1 hC; have hb' := hC.below; have hf' := hC.cell; (try simp only [List.forall_mem_cons] at hf'); go_simp; first | exact ⟨(HC.out _ _).2 (hC.skip _ (by rfl)), rfl⟩ | (rw [if_neg]; (exact ⟨(HC.out _ _).2 (hC.skip _ (by rfl)), rfl⟩); omega) | fail); go_simp) | (apply flow_no; (case hw => (go_simp; try (intro hh; cases hh))); (intro L w' _ _ hC; exact (HC.out _ _).2 (((HC.out _ _).1 hC).skip _ (by rfl))); go_simp))
    refine flow_nil ?_
    intro L wz hL hz
    have hz := (HC.out _ _).1 hz
    have hbz := hz.below
    have hcz := hz.cell
    try simp only [List.forall_mem_cons] at hcz
    have hdz := hz.done
    try simp only [List.forall_mem_cons] at hdz
    (try have hwz : Below w.heap.size w wz := by first | exact Below.trans (by (repeat (first | with_reducible (first | exact bR _ _ | assumption | refine bA ?_ _ | refine bS ?_ (by first | exact Nat.le_refl _ | (simp; done) | (simp; omega)) _) | assumption | exact bR _ _ | refine bD ?_ | refine bN ?_ _ | refine bT ?_ (by assumption)))) hbz | ((repeat (first | with_reducible (first | exact bR _ _ | assumption | refine bA ?_ _ | refine bS ?_ (by first | exact Nat.le_refl _ | (simp; done) | (simp; omega)) _) | assumption | exact bR _ _ | refine bD ?_ | refine bN ?_ _ | refine bT ?_ (by assumption))); done))
    have ⟨cz, fz⟩ := bcell hbz
    have hb1 := hbz
    obtain ⟨y1, hy1⟩ : ∃ y, y = wz := ⟨_, rfl⟩
    subst hy1
    go_wp2
    obtain ⟨C, HC0⟩ := class_of (InF y1.heap.size _ [(⟨g, 0, none⟩, .slice p code.length cap), (⟨g, 1, none⟩, .int .i64 (a + 1)), (⟨g, 2, none⟩, .int .u64 (IntKind.u64.wrap (IntKind.u64.wrap (IntKind.u64.wrap (s * 6364136223846793005)) + 892892)))] [] [])
    have HC := Lib.hid HC0
    clear HC0
    refine wp_region_flow (C := C) (by kernel_rfl) (by kernel_rfl) (fun L hL => (HC.out _ _).2 (InF.start (by first | (intro _ hs; cases hs; done) | (simp only [List.forall_mem_cons]; go_simp)) (by first | (intro _ hs; cases hs; done) | (simp only [List.forall_mem_cons]; go_simp)) (by first | (intro _ hs; cases hs; done) | (simp only [List.forall_mem_cons]; go_simp)) (by first | (intro _ hs; cases hs; done) | (simp only [List.forall_mem_cons]; go_simp)) L hL)) ?_
    repeat (first | ((first | apply flow_free rfl | (apply flow_yes; (case hw => go_simp))); (intro L w' hun hrd hC; have hC := (HC.out _ _).1 hC; have hb' := hC.below; have hf' := hC.cell; (try simp only [List.forall_mem_cons] at hf'); go_simp; first | exact ⟨(HC.out _ _).2 (hC.skip _ (by rfl)), rfl⟩ | (rw [if_neg]; (exact ⟨(HC.out _ _).2 (hC.skip _ (by rfl)), rfl⟩); omega) | fail); go_simp) | (apply flow_no; (case hw => (go_simp; try (intro hh; cases hh))); (intro L w' _ _ hC; exact (HC.out _ _).2 (((HC.out _ _).1 hC).skip _ (by rfl))); go_simp))
    refine flow_nil ?_
    intro L wz hL hz
    have hz := (HC.out _ _).1 hz
    have hbz := hz.below
    have hcz := hz.cell
    try simp only [List.forall_mem_cons] at hcz
    have hdz := hz.done
    try simp only [List.forall_mem_cons] at hdz
    (try have hwz : Below w.heap.size w wz := by first | exact Below.trans (by (repeat (first | with_reducible (first | exact bR _ _ | assumption | refine bA ?_ _ | refine bS ?_ (by first | exact Nat.le_refl _ | (simp; done) | (simp; omega)) _) | assumption | exact bR _ _ | refine bD ?_ | refine bN ?_ _ | refine bT ?_ (by assumption)))) hbz | ((repeat (first | with_reducible (first | exact bR _ _ | assumption | refine bA ?_ _ | refine bS ?_ (by first | exact Nat.le_refl _ | (simp; done) | (simp; omega)) _) | assumption | exact bR _ _ | refine bD ?_ | refine bN ?_ _ | refine bT ?_ (by assumption))); done))
    go_wp2
    go_ret
    exact next_end hlt H1.out h2 hm H6.out hb1 hbz (u64_bd _) (and255 _ (u64_bd _).1 (u64_bd _).2)
set_option maxRecDepth 100000 in
set_option maxHeartbeats 1600000 in
theorem pick_any (g m : Nat) (n : Int) (w : World) (h : Cur w g m) (hm : m + 2 ≤ 1000000000) (h1 : 1 ≤ n) (h2 : n ≤ 1000000000) : Calls Tryz.prog 124 #[.pointer (some ⟨g, 0, none⟩), .int .i64 n] w (Step g m 2 (IsIn 0 (n - 1)) w) := by
  have H := Lib.hid h
  clear h
  by_cases ha : n ≤ 1
  · go_enter Tryz.func124, Tryz.ntmps124
    go_wp2
    go_ret
    exact ⟨_, rfl, ⟨0, rfl, by omega, by omega⟩, H.out.more (by omega) (by omega), gr_refl _ _⟩
  · by_cases hb : 200 < n
    · go_enter Tryz.func124, Tryz.ntmps124
      go_wp2_with fail
      refine (next_any g m _ H.out (by omega)).mono ?_
      rintro e w1 ⟨_, rfl, ⟨r1, rfl, hr1, hs1⟩, hc1, hg1⟩
      have HC1 := Lib.hid hc1
      clear hc1
      go_wp2_with fail
      refine (next_any g (m + 1) _ HC1.out (by omega)).mono ?_
      rintro e w2 ⟨_, rfl, ⟨r2, rfl, hr2, hs2⟩, hc2, hg2⟩
      have HC2 := Lib.hid hc2
      clear hc2
      go_wp2_with fail
      go_ret
      refine ⟨_, rfl, ⟨_, rfl, ?_, ?_⟩, HC2.out, gr_trans hg1 hg2⟩
      · exact Int.emod_nonneg _ (by omega)
      · have := Int.emod_lt_of_pos (r1 * 256 + r2) (show 0 < n by omega); omega
    · go_enter Tryz.func124, Tryz.ntmps124
      go_wp2_with fail
      refine (next_any g m _ H.out (by omega)).mono ?_
      rintro e w1 ⟨_, rfl, ⟨r1, rfl, hr1, hs1⟩, hc1, hg1⟩
      have HC1 := Lib.hid hc1
      clear hc1
      go_wp2_with fail
      go_ret
      refine ⟨_, rfl, ⟨_, rfl, ?_, ?_⟩, HC1.out.more (by omega) (by omega), hg1⟩
      · exact Int.emod_nonneg _ (by omega)
      · have := Int.emod_lt_of_pos r1 (show 0 < n by omega); omega
def IsBool (v : Value) : Prop := ∃ b, v = .bool b
theorem one_any (g m : Nat) (n : Int) (w : World) (h : Cur w g m) (hm : m + 2 ≤ 1000000000) (h1 : 1 ≤ n) (h2 : n ≤ 1000000000) : Calls Tryz.prog 65 #[.pointer (some ⟨g, 0, none⟩), .int .i64 n] w (Step g m 2 IsBool w) := by
  have H := Lib.hid h
  clear h
  go_enter Tryz.func65, Tryz.ntmps65
  go_wp2_with fail
  refine (pick_any g m n _ H.out hm h1 h2).mono ?_
  rintro e w1 ⟨_, rfl, ⟨r1, rfl, hr1, hs1⟩, hc1, hg1⟩
  have HC1 := Lib.hid hc1
  clear hc1
  go_wp2_with fail
  go_ret
  exact ⟨_, rfl, ⟨_, rfl⟩, HC1.out, hg1⟩
def IsStr (k : Nat) (v : Value) : Prop := ∃ s : ByteArray, v = .string s ∧ s.size ≤ k
set_option maxRecDepth 100000 in
theorem of_any (g m b c k : Nat) (cs : Array Value) (t : TypeId) (fr : Nat × Nat) (w : World) (h : Cur w g m) (hm : m + 2 ≤ 1000000000) (hb : w.heap[b]? = some (.cells cs t fr)) (hbg : b ≠ g) (h0 : 0 < cs.size) (h1 : cs.size ≤ 1000000000) (hs : ∀ v ∈ cs, IsStr k v) :
    Calls Tryz.prog 70 #[.pointer (some ⟨g, 0, none⟩), .slice (some ⟨b, 0, none⟩) cs.size c] w (Step g m 2 (IsStr k) w) := by
  have H := Lib.hid h
  have HB := Lib.hid hb
  have HS := Lib.hid hs
  clear h hb hs
  go_enter Tryz.func70, Tryz.ntmps70
  go_wp2_with fail
  refine (pick_any g m _ _ H.out hm (by omega) (by omega)).mono ?_
  rintro e w1 ⟨_, rfl, ⟨r1, rfl, hr1, hs1⟩, hc1, hg1⟩
  obtain ⟨j, rfl⟩ := Int.eq_ofNat_of_zero_le hr1
  have hj : j < cs.size := by omega
  have hblt := lt_of_block HB.out
  obtain ⟨s, hv, hsz⟩ := HS.out cs[j] (Array.getElem_mem hj)
  have hcell : w1.cell? ⟨b, j, none⟩ = some (.string s) := by
    rw [((gcell hg1).1 b j hblt hbg), cell_of_row w b j cs t fr HB.out, ← hv]; exact Array.getElem?_eq_getElem hj
  have HC1 := Lib.hid hc1
  clear hc1 hv
  go_wp2_with fail
  go_ret
  exact ⟨_, rfl, ⟨_, rfl, hsz⟩, HC1.out, hg1⟩
open Go.RowKit
def PAt (T : TypeId) (w : World) (g : Nat) (s : ByteArray) (p : PSt) : Prop := w.heap[g]? = some (.cells #[.string s, .int .i64 (p.pos : Nat), .bool p.bad] T (0, 0))
theorem PAt.cells {T : TypeId} {w : World} {g : Nat} {s : ByteArray} {p : PSt} (h : PAt T w g s p) : w.cell? ⟨g, 0, none⟩ = some (.string s) ∧ w.cell? ⟨g, 1, none⟩ = some (.int .i64 (p.pos : Nat)) ∧ w.cell? ⟨g, 2, none⟩ = some (.bool p.bad) ∧ (∀ j, w.frozen? ⟨g, j, none⟩ = false) := by
  refine ⟨?_, ?_, ?_, fun j => frozen_of_row w g j _ _ h⟩
  · rw [cell_of_row w g 0 _ _ (0, 0) h]; rfl
  · rw [cell_of_row w g 1 _ _ (0, 0) h]; rfl
  · rw [cell_of_row w g 2 _ _ (0, 0) h]; rfl
theorem PAt.lt {T : TypeId} {w : World} {g : Nat} {s : ByteArray} {p : PSt} (h : PAt T w g s p) : g < w.heap.size := by
  rcases Nat.lt_or_ge g w.heap.size with h' | h'
  · exact h'
  · unfold PAt at h; rw [Array.getElem?_eq_none h'] at h; cases h
theorem PAt.below {T : TypeId} {w w1 : World} {g : Nat} {s : ByteArray} {p : PSt} (h : PAt T w g s p) (hb : Below w.heap.size w w1) : PAt T w1 g s p := (hb.block g h.lt).trans h
theorem PAt.pos {T : TypeId} {w : World} {g : Nat} {s : ByteArray} {p : PSt} (h : PAt T w g s p) (k : Nat) : PAt T (w.setCell ⟨g, 1, none⟩ (.int .i64 (k : Nat))) g s ⟨k, p.bad⟩ := by
  have := heap_setCell_same w g 1 _ T (.int .i64 (k : Nat)) h
  simpa [PAt] using this
theorem PAt.fail {T : TypeId} {w : World} {g : Nat} {s : ByteArray} {p : PSt} (h : PAt T w g s p) : PAt T (w.setCell ⟨g, 2, none⟩ (.bool true)) g s ⟨p.pos, true⟩ := by
  have := heap_setCell_same w g 2 _ T (.bool true) h
  simpa [PAt] using this
def PStep (T : TypeId) (g : Nat) (s : ByteArray) (p' : PSt) (P : Value → World → Prop) (w : World) (e : Ending) (w' : World) : Prop := ∃ v, e = .returned v ∧ P v w' ∧ PAt T w' g s p' ∧ w.grownBy w' (some g)
theorem hasPrefix_eq (l p : List UInt8) : Lib.hasPrefix l p = p.isPrefixOf l := by
  rfl
theorem pTake_list (s t : ByteArray) (p : PSt) (h : p.bad = false) : pTake s.data.toList t.data.toList p = t.data.toList.isPrefixOf (s.data.toList.drop p.pos) := by rw [pTake, h]; rfl
theorem hasPrefix_any (s p : ByteArray) (w : World) : Calls Tryz.prog 274 #[.string s, .string p] w fun e w' => e = .returned (.bool (Lib.hasPrefix s.data.toList p.data.toList)) ∧ Below w.heap.size w w' :=
  (Tryz.strings_HasPrefix s p w).mono fun _ _ ⟨he, hw⟩ => ⟨he, hw ▸ Below.refl _ _⟩
set_option maxRecDepth 100000 in
set_option maxHeartbeats 1600000 in
theorem has_any (g : Nat) (s t : ByteArray) (p : PSt) (w : World) (h : PAt 190 w g s p) (hp : p.pos ≤ s.size) (_hs : s.size ≤ maxLen) :
    Calls Tryz.prog 258 #[.pointer (some ⟨g, 0, none⟩), .string t] w fun e w' => e = .returned (.bool (pTake s.data.toList t.data.toList p)) ∧ Below w.heap.size w w' := by
  obtain ⟨c0, c1, c2, -⟩ := h.cells
  have hg := bsz h.lt
  unfold maxLen at _hs
  obtain ⟨k, bad⟩ := p
  simp only at hp c1 c2
  clear h
  cases bad
  · have HT := Lib.hid (pTake_list s t ⟨k, false⟩ rfl)
    go_enter Tryz.func258, Tryz.ntmps258
    go_wp2
    obtain ⟨C, HC0⟩ := class_of (InF w.heap.size _ [(⟨g, 0, none⟩, .string s), (⟨g, 1, none⟩, .int .i64 (k : Nat)), (⟨g, 2, none⟩, .bool false)] [] [])
    have HC := Lib.hid HC0
    clear HC0
    refine wp_region_flow (C := C) (by kernel_rfl) (by kernel_rfl) (fun L hL => (HC.out _ _).2 (InF.start (by first | (intro _ _hs; cases _hs; done) | (simp only [List.forall_mem_cons]; go_simp)) (by first | (intro _ _hs; cases _hs; done) | (simp only [List.forall_mem_cons]; go_simp)) (by first | (intro _ _hs; cases _hs; done) | (simp only [List.forall_mem_cons]; go_simp)) (by first | (intro _ _hs; cases _hs; done) | (simp only [List.forall_mem_cons]; go_simp)) L hL)) ?_
    repeat (first | ((first | apply flow_free rfl | (apply flow_yes; (case hw => go_simp))); (intro L w' hun hrd hC; have hC := (HC.out _ _).1 hC; have hb' := hC.below; (try have hw' : Below w.heap.size w w' := by first | exact Below.trans (by (repeat (first | with_reducible (first | exact bR _ _ | assumption | refine bA ?_ _ | refine bS ?_ (by first | exact Nat.le_refl _ | (simp; done) | (simp; omega)) _) | assumption | exact bR _ _ | refine bD ?_ | refine bN ?_ _ | refine bT ?_ (by assumption)))) hb' | ((repeat (first | with_reducible (first | exact bR _ _ | assumption | refine bA ?_ _ | refine bS ?_ (by first | exact Nat.le_refl _ | (simp; done) | (simp; omega)) _) | assumption | exact bR _ _ | refine bD ?_ | refine bN ?_ _ | refine bT ?_ (by assumption))); done)); have hf' := hC.cell; (try simp only [List.forall_mem_cons] at hf'); go_simp; first | exact ⟨(HC.out _ _).2 (hC.skip _ (by rfl)), rfl⟩ | (rw [if_neg]; (exact ⟨(HC.out _ _).2 (hC.skip _ (by rfl)), rfl⟩); omega) | (go_at_call 274; refine (hasPrefix_any _ _ _).mono ?_; rintro e w1 ⟨rfl, hb1⟩; exact ⟨rfl, (HC.out _ _).2 ((hC.next (by first | (simp; done) | (simp; omega) | omega) hb1).skip _ (by rfl))⟩)); go_simp) | (apply flow_no; (case hw => (go_simp; try (intro hh; cases hh))); (intro L w' _ _ hC; exact (HC.out _ _).2 (((HC.out _ _).1 hC).skip _ (by rfl))); go_simp))
    refine flow_nil ?_
    intro L wz hL hz
    have hz := (HC.out _ _).1 hz
    have hbz := hz.below
    have hcz := hz.cell
    try simp only [List.forall_mem_cons] at hcz
    have hdz := hz.done
    try simp only [List.forall_mem_cons] at hdz
    (try have hwz : Below w.heap.size w wz := by first | exact Below.trans (by (repeat (first | with_reducible (first | exact bR _ _ | assumption | refine bA ?_ _ | refine bS ?_ (by first | exact Nat.le_refl _ | (simp; done) | (simp; omega)) _) | assumption | exact bR _ _ | refine bD ?_ | refine bN ?_ _ | refine bT ?_ (by assumption)))) hbz | ((repeat (first | with_reducible (first | exact bR _ _ | assumption | refine bA ?_ _ | refine bS ?_ (by first | exact Nat.le_refl _ | (simp; done) | (simp; omega)) _) | assumption | exact bR _ _ | refine bD ?_ | refine bN ?_ _ | refine bT ?_ (by assumption))); done))
    go_wp2
    go_ret
    exact ⟨ret_bool (by rw [HT.out, List.take_of_length_le (by simp), hasPrefix_eq]), by exact bel⟩
  · have HT := Lib.hid (show pTake s.data.toList t.data.toList ⟨k, true⟩ = false from rfl)
    go_enter Tryz.func258, Tryz.ntmps258
    go_wp2
    obtain ⟨C, HC0⟩ := class_of (InF w.heap.size _ [(⟨g, 0, none⟩, .string s), (⟨g, 1, none⟩, .int .i64 (k : Nat)), (⟨g, 2, none⟩, .bool true)] [] [])
    have HC := Lib.hid HC0
    clear HC0
    refine wp_region_flow (C := C) (by kernel_rfl) (by kernel_rfl) (fun L hL => (HC.out _ _).2 (InF.start (by first | (intro _ _hs; cases _hs; done) | (simp only [List.forall_mem_cons]; go_simp)) (by first | (intro _ _hs; cases _hs; done) | (simp only [List.forall_mem_cons]; go_simp)) (by first | (intro _ _hs; cases _hs; done) | (simp only [List.forall_mem_cons]; go_simp)) (by first | (intro _ _hs; cases _hs; done) | (simp only [List.forall_mem_cons]; go_simp)) L hL)) ?_
    repeat (first | ((first | apply flow_free rfl | (apply flow_yes; (case hw => go_simp))); (intro L w' hun hrd hC; have hC := (HC.out _ _).1 hC; have hb' := hC.below; have hf' := hC.cell; (try simp only [List.forall_mem_cons] at hf'); go_simp; first | exact ⟨(HC.out _ _).2 (hC.skip _ (by rfl)), rfl⟩ | (rw [if_neg]; (exact ⟨(HC.out _ _).2 (hC.skip _ (by rfl)), rfl⟩); omega) | fail); go_simp) | (apply flow_no; (case hw => (go_simp; try (intro hh; cases hh))); (intro L w' _ _ hC; exact (HC.out _ _).2 (((HC.out _ _).1 hC).skip _ (by rfl))); go_simp))
    refine flow_nil ?_
    intro L wz hL hz
    have hz := (HC.out _ _).1 hz
    have hbz := hz.below
    have hcz := hz.cell
    try simp only [List.forall_mem_cons] at hcz
    have hdz := hz.done
    try simp only [List.forall_mem_cons] at hdz
    (try have hwz : Below w.heap.size w wz := by first | exact Below.trans (by (repeat (first | with_reducible (first | exact bR _ _ | assumption | refine bA ?_ _ | refine bS ?_ (by first | exact Nat.le_refl _ | (simp; done) | (simp; omega)) _) | assumption | exact bR _ _ | refine bD ?_ | refine bN ?_ _ | refine bT ?_ (by assumption)))) hbz | ((repeat (first | with_reducible (first | exact bR _ _ | assumption | refine bA ?_ _ | refine bS ?_ (by first | exact Nat.le_refl _ | (simp; done) | (simp; omega)) _) | assumption | exact bR _ _ | refine bD ?_ | refine bN ?_ _ | refine bT ?_ (by assumption))); done))
    go_wp2
    go_ret
    exact ⟨ret_bool (by rw [HT.out]), by exact bel⟩
set_option maxRecDepth 100000 in
set_option maxHeartbeats 1600000 in
theorem take_any (g : Nat) (s t : ByteArray) (p : PSt) (w : World) (h : PAt 190 w g s p) (hp : p.pos ≤ s.size) (hs : s.size ≤ 1000000000000) (ht : t.size ≤ 1000000) :
    Calls Tryz.prog 223 #[.pointer (some ⟨g, 0, none⟩), .string t] w (PStep 190 g s (if pTake s.data.toList t.data.toList p then pAdv t.data.toList p else p) (fun v _ => v = .bool (pTake s.data.toList t.data.toList p)) w) := by
  have H := Lib.hid h
  have hg := bsz h.lt
  obtain ⟨k, bad⟩ := p
  simp only at hp
  obtain ⟨c0, c1, c2, cf⟩ := h.cells
  simp only at c1 c2
  clear h
  cases hT : pTake s.data.toList t.data.toList ⟨k, bad⟩
  · have HT := Lib.hid hT
    go_enter Tryz.func223, Tryz.ntmps223
    go_wp2_with fail
    refine (has_any g s t ⟨k, bad⟩ _ (H.out.below (by exact bel)) hp (by unfold maxLen; omega)).mono ?_
    rintro e w1 ⟨rfl, hb1⟩
    have ⟨cw1, fw1⟩ := bcell hb1
    have qw1 := hb1.size
    (try simp at qw1)
    (try have zw1w := bsz (show w.heap.size < w1.heap.size by omega))
    rw [HT.out]
    go_wp2
    go_ret
    exact ⟨_, rfl, rfl, H.out.below (by exact bel), gr_below (gr_refl w g) (by exact bel)⟩
  · have HT := Lib.hid hT
    go_enter Tryz.func223, Tryz.ntmps223
    go_wp2_with fail
    refine (has_any g s t ⟨k, bad⟩ _ (H.out.below (by exact bel)) hp (by unfold maxLen; omega)).mono ?_
    rintro e w1 ⟨rfl, hb1⟩
    have ⟨cw1, fw1⟩ := bcell hb1
    have qw1 := hb1.size
    (try simp at qw1)
    (try have zw1w := bsz (show w.heap.size < w1.heap.size by omega))
    rw [HT.out]
    go_wp2
    go_ret
    exact ⟨_, rfl, rfl, (H.out.below hb1).pos (k + t.size), gr_sc (gr_below (gr_refl w g) hb1) (.inl rfl) _⟩
set_option maxRecDepth 100000 in
set_option maxHeartbeats 1600000 in
theorem must_any (g : Nat) (s t : ByteArray) (p : PSt) (w : World) (h : PAt 190 w g s p) (hp : p.pos ≤ s.size) (hs : s.size ≤ 1000000000000) (ht : t.size ≤ 1000000) :
    Calls Tryz.prog 225 #[.pointer (some ⟨g, 0, none⟩), .string t] w (PStep 190 g s (pMust s.data.toList t.data.toList p) (fun v _ => v = .tuple #[]) w) := by
  have H := Lib.hid h
  have hg := bsz h.lt
  cases hT : pTake s.data.toList t.data.toList p
  · have HT := Lib.hid hT
    have HM := Lib.hid (show pMust s.data.toList t.data.toList p = ⟨p.pos, true⟩ by rw [pMust, hT]; rfl)
    clear h
    go_enter Tryz.func225, Tryz.ntmps225
    go_wp2_with fail
    refine (take_any g s t p _ H.out hp hs ht).mono ?_
    rw [HT.out]
    rintro e w1 ⟨v, rfl, rfl, h1, hg1⟩
    have H1 := Lib.hid h1
    have ⟨c1, f1⟩ := gcell hg1
    have hz := hg1.size
    obtain ⟨d0, d1, d2, df⟩ := h1.cells
    clear h1
    go_wp2
    go_end0
    exact ⟨_, rfl, rfl, by rw [HM.out]; exact H1.out.fail, gr_sc hg1 (.inl rfl) _⟩
  · have HT := Lib.hid hT
    have HM := Lib.hid (show pMust s.data.toList t.data.toList p = pAdv t.data.toList p by rw [pMust, hT]; rfl)
    clear h
    go_enter Tryz.func225, Tryz.ntmps225
    go_wp2_with fail
    refine (take_any g s t p _ H.out hp hs ht).mono ?_
    rw [HT.out]
    rintro e w1 ⟨v, rfl, rfl, h1, hg1⟩
    have H1 := Lib.hid h1
    clear h1
    go_wp2
    go_end0
    exact ⟨_, rfl, rfl, by rw [HM.out]; exact H1.out, hg1⟩
set_option maxRecDepth 100000 in
set_option maxHeartbeats 1600000 in
theorem ended_any (g : Nat) (s : ByteArray) (p : PSt) (w : World) (h : PAt 190 w g s p) :
    Calls Tryz.prog 187 #[.pointer (some ⟨g, 0, none⟩)] w fun e w' => e = .returned (.bool (!p.bad && p.pos == s.size)) ∧ Below w.heap.size w w' := by
  obtain ⟨c0, c1, c2, -⟩ := h.cells
  have hg := bsz h.lt
  obtain ⟨k, bad⟩ := p
  simp only at c1 c2
  clear h
  cases bad
  · go_enter Tryz.func187, Tryz.ntmps187
    go_wp2
    obtain ⟨C, HC0⟩ := class_of (InF w.heap.size _ [(⟨g, 0, none⟩, .string s), (⟨g, 1, none⟩, .int .i64 (k : Nat)), (⟨g, 2, none⟩, .bool false)] [] [])
    have HC := Lib.hid HC0
    clear HC0
    refine wp_region_flow (C := C) (by kernel_rfl) (by kernel_rfl) (fun L hL => (HC.out _ _).2 (InF.start (by first | (intro _ hs; cases hs; done) | (simp only [List.forall_mem_cons]; go_simp)) (by first | (intro _ hs; cases hs; done) | (simp only [List.forall_mem_cons]; go_simp)) (by first | (intro _ hs; cases hs; done) | (simp only [List.forall_mem_cons]; go_simp)) (by first | (intro _ hs; cases hs; done) | (simp only [List.forall_mem_cons]; go_simp)) L hL)) ?_
    repeat (first | ((first | apply flow_free rfl | (apply flow_yes; (case hw => go_simp))); (intro L w' hun hrd hC; have hC := (HC.out _ _).1 hC; have hb' := hC.below; have hf' := hC.cell; (try simp only [List.forall_mem_cons] at hf'); go_simp; first | exact ⟨(HC.out _ _).2 (hC.skip _ (by rfl)), rfl⟩ | (rw [if_neg]; (exact ⟨(HC.out _ _).2 (hC.skip _ (by rfl)), rfl⟩); omega) | fail); go_simp) | (apply flow_no; (case hw => (go_simp; try (intro hh; cases hh))); (intro L w' _ _ hC; exact (HC.out _ _).2 (((HC.out _ _).1 hC).skip _ (by rfl))); go_simp))
    refine flow_nil ?_
    intro L wz hL hz
    have hz := (HC.out _ _).1 hz
    have hbz := hz.below
    have hcz := hz.cell
    try simp only [List.forall_mem_cons] at hcz
    have hdz := hz.done
    try simp only [List.forall_mem_cons] at hdz
    (try have hwz : Below w.heap.size w wz := by first | exact Below.trans (by (repeat (first | with_reducible (first | exact bR _ _ | assumption | refine bA ?_ _ | refine bS ?_ (by first | exact Nat.le_refl _ | (simp; done) | (simp; omega)) _) | assumption | exact bR _ _ | refine bD ?_ | refine bN ?_ _ | refine bT ?_ (by assumption)))) hbz | ((repeat (first | with_reducible (first | exact bR _ _ | assumption | refine bA ?_ _ | refine bS ?_ (by first | exact Nat.le_refl _ | (simp; done) | (simp; omega)) _) | assumption | exact bR _ _ | refine bD ?_ | refine bN ?_ _ | refine bT ?_ (by assumption))); done))
    go_wp2
    go_ret
    exact ⟨ret_bool (by rw [Bool.eq_iff_iff]; simp; omega), by exact bel⟩
  · go_enter Tryz.func187, Tryz.ntmps187
    go_wp2
    obtain ⟨C, HC0⟩ := class_of (InF w.heap.size _ [(⟨g, 0, none⟩, .string s), (⟨g, 1, none⟩, .int .i64 (k : Nat)), (⟨g, 2, none⟩, .bool true)] [] [])
    have HC := Lib.hid HC0
    clear HC0
    refine wp_region_flow (C := C) (by kernel_rfl) (by kernel_rfl) (fun L hL => (HC.out _ _).2 (InF.start (by first | (intro _ hs; cases hs; done) | (simp only [List.forall_mem_cons]; go_simp)) (by first | (intro _ hs; cases hs; done) | (simp only [List.forall_mem_cons]; go_simp)) (by first | (intro _ hs; cases hs; done) | (simp only [List.forall_mem_cons]; go_simp)) (by first | (intro _ hs; cases hs; done) | (simp only [List.forall_mem_cons]; go_simp)) L hL)) ?_
    repeat (first | ((first | apply flow_free rfl | (apply flow_yes; (case hw => go_simp))); (intro L w' hun hrd hC; have hC := (HC.out _ _).1 hC; have hb' := hC.below; have hf' := hC.cell; (try simp only [List.forall_mem_cons] at hf'); go_simp; first | exact ⟨(HC.out _ _).2 (hC.skip _ (by rfl)), rfl⟩ | (rw [if_neg]; (exact ⟨(HC.out _ _).2 (hC.skip _ (by rfl)), rfl⟩); omega) | fail); go_simp) | (apply flow_no; (case hw => (go_simp; try (intro hh; cases hh))); (intro L w' _ _ hC; exact (HC.out _ _).2 (((HC.out _ _).1 hC).skip _ (by rfl))); go_simp))
    refine flow_nil ?_
    intro L wz hL hz
    have hz := (HC.out _ _).1 hz
    have hbz := hz.below
    have hcz := hz.cell
    try simp only [List.forall_mem_cons] at hcz
    have hdz := hz.done
    try simp only [List.forall_mem_cons] at hdz
    (try have hwz : Below w.heap.size w wz := by first | exact Below.trans (by (repeat (first | with_reducible (first | exact bR _ _ | assumption | refine bA ?_ _ | refine bS ?_ (by first | exact Nat.le_refl _ | (simp; done) | (simp; omega)) _) | assumption | exact bR _ _ | refine bD ?_ | refine bN ?_ _ | refine bT ?_ (by assumption)))) hbz | ((repeat (first | with_reducible (first | exact bR _ _ | assumption | refine bA ?_ _ | refine bS ?_ (by first | exact Nat.le_refl _ | (simp; done) | (simp; omega)) _) | assumption | exact bR _ _ | refine bD ?_ | refine bN ?_ _ | refine bT ?_ (by assumption))); done))
    go_wp2
    go_ret
    exact ⟨ret_bool (by simp), by exact bel⟩
theorem wordL_at {s : ByteArray} {k j : Nat} {bad : Bool} (hall : ∀ i, k ≤ i → (h : i < j) → (h2 : i < s.size) → wordC s[i] = true) (h1 : k ≤ j) (h2 : j ≤ s.size) (hst : ∀ h : j < s.size, wordC s[j] = false) : pWordL s.data.toList ⟨k, bad⟩ = (s.data.toList.drop k).take (j - k) := by
  have e : s.data.toList.drop k = (s.data.toList.drop k).take (j - k) ++ s.data.toList.drop j := by
    have := (List.take_append_drop (j - k) (s.data.toList.drop k)).symm
    rw [List.drop_drop, show k + (j - k) = j by omega] at this; exact this
  show (s.data.toList.drop k).takeWhile wordC = _
  rw [e, takeWhile_app]
  · rw [List.take_append_of_le_length (by rw [List.length_take, List.length_drop, ← size_list]; omega), List.take_take, Nat.min_self]
  · rw [List.all_eq_true]
    intro c hc
    obtain ⟨i, hi, rfl⟩ := List.getElem_of_mem hc
    rw [List.length_take, List.length_drop, ← size_list] at hi
    rw [List.getElem_take, List.getElem_drop]
    exact hall (k + i) (by omega) (by omega) (by omega)
  · intro c hc
    rw [List.head?_drop] at hc
    obtain ⟨hlt, rfl⟩ := List.getElem?_eq_some_iff.1 hc
    exact hst (by simpa using hlt)
theorem pWord_empty {L : List UInt8} {k : Nat} {bad : Bool} (h : (pWordL L ⟨k, bad⟩).length = 0) : pWord L ⟨k, bad⟩ = ([], ⟨k + (pWordL L ⟨k, bad⟩).length, true⟩) := by
  rw [pWord, if_pos (by simp [List.length_eq_zero_iff.1 h])]
theorem pWord_bad {L : List UInt8} {k : Nat} : pWord L ⟨k, true⟩ = ([], ⟨k + (pWordL L ⟨k, true⟩).length, true⟩) := by rw [pWord, if_pos (by simp)]
theorem pWord_some {L : List UInt8} {k : Nat} (h : (pWordL L ⟨k, false⟩).length ≠ 0) : pWord L ⟨k, false⟩ = (pWordL L ⟨k, false⟩, ⟨k + (pWordL L ⟨k, false⟩).length, false⟩) := by
  rw [pWord, if_neg]
  cases hq : pWordL L ⟨k, false⟩ with
  | nil => rw [hq] at h; exact absurd rfl h
  | cons a l => simp
def posOf (w : World) (g : Nat) : Nat := (intOf ((w.cell? ⟨g, 1, none⟩).getD undef)).toNat
theorem PAt.posOf {T : TypeId} {w : World} {g : Nat} {s : ByteArray} {p : PSt} (h : PAt T w g s p) : posOf w g = p.pos := by rw [Go.Proofs.YtkgfanajgdelcaaGreatDoor.posOf, h.cells.2.1]; simp [intOf]
open Go.RowKit
def rWordL (L : List UInt8) (k : Nat) : List UInt8 := (L.drop k).takeWhile wordC
mutual
def rTerm (L : List UInt8) : Nat → Nat → Option (Tm × Nat)
  | 0, _ => none
  | f + 1, k =>
    if (rWordL L k).isEmpty then none
    else if L[k + (rWordL L k).length]? = some 40 then rArgs L (rWordL L k) f [] (k + (rWordL L k).length)
    else some (.mk ⟨(rWordL L k).toArray⟩ [], k + (rWordL L k).length)
def rArgs (L n : List UInt8) : Nat → List Tm → Nat → Option (Tm × Nat)
  | 0, _, _ => none
  | f + 1, us, e =>
    match rTerm L f (e + 1) with
    | none => none
    | some (a, j) => if L[j]? = some 44 then rArgs L n f (us ++ [a]) j else if L[j]? = some 41 then some (.mk ⟨n.toArray⟩ (us ++ [a]), j + 1) else none
end
/-! ### What is written is read back -/
theorem drop_get {L R : List UInt8} {k : Nat} (h : L.drop k = R) : L[k]? = R.head? := by rw [← h, List.head?_drop]
mutual
theorem rTerm_ok {L : List UInt8} : ∀ (f : Nat) (t : Tm) (k : Nat) (R : List UInt8), t.nodes = true → L.drop k = t.fmt ++ R → stopC R → t.fmt.length < f → rTerm L f k = some (t, k + t.fmt.length)
  | 0, _, _, _, _, _, _, h => absurd h (by omega)
  | f + 1, .mk n us, k, R, hn, hL, hR, hf => by
    have h1 := Tm.nodes_mk hn
    have hm := Tm.fmt_mk (us := us) (word_not61 h1.1)
    cases us with
    | nil =>
      rw [if_pos (by rfl)] at hm
      rw [hm] at hL ⊢
      have hw : rWordL L k = n.data.toList := by rw [rWordL, hL, takeWhile_app h1.1.1 (fun c hc => (hR c hc).1)]
      have e1 := drop_adv hL
      have hno : L[k + n.data.toList.length]? ≠ some 40 := by rw [drop_get e1]; intro h; exact (hR 40 h).2 rfl
      rw [rTerm, hw, if_neg (by simpa using h1.1.2), if_neg hno, ba_eq]
    | cons a us =>
      rw [if_neg (by simp), joinB_cons] at hm
      have h2 : a.nodes = true ∧ Tm.nodess us = true := by simpa [Tm.nodess] using h1.2
      have hlen : (Tm.mk n (a :: us)).fmt.length = n.data.toList.length + 1 + a.fmt.length + (sepAll [44] us).length + 1 := by rw [hm]; simp; omega
      have e0 : L.drop k = n.data.toList ++ ([40] ++ (a.fmt ++ (sepAll [44] us ++ ([41] ++ R)))) := by rw [hL, hm]; simp [List.append_assoc]
      have hw : rWordL L k = n.data.toList := by rw [rWordL, e0, takeWhile_app h1.1.1 (fun c hc => by simp at hc; subst hc; decide)]
      have e1 := drop_adv e0
      have hp : 0 < n.data.toList.length := List.length_pos_iff.2 h1.1.2
      rw [rTerm, hw, if_neg (by simpa using h1.1.2), if_pos (by rw [drop_get e1]; rfl)]
      rw [rArgs_ok f n.data.toList [] a us (k + n.data.toList.length) 40 R h2.1 h2.2 e1 (by omega), ba_eq, hlen]
      refine congrArg some (Prod.ext rfl ?_)
      show _ = _
      simp only; omega
theorem rArgs_ok {L : List UInt8} : ∀ (f : Nat) (n : List UInt8) (acc : List Tm) (a : Tm) (us : List Tm) (e : Nat) (c : UInt8) (R : List UInt8), a.nodes = true → Tm.nodess us = true → L.drop e = [c] ++ (a.fmt ++ (sepAll [44] us ++ ([41] ++ R))) → a.fmt.length + (sepAll [44] us).length + 1 < f →
    rArgs L n f acc e = some (.mk ⟨n.toArray⟩ (acc ++ a :: us), e + 1 + a.fmt.length + (sepAll [44] us).length + 1)
  | 0, _, _, _, _, _, _, _, _, _, _, h => absurd h (by omega)
  | f + 1, n, acc, a, us, e, c, R, ha, hu, hL, hf => by
    have s41 : stopC ([41] ++ R) := by intro c hc; simp at hc; subst hc; decide
    have s44 : stopC [44] := by intro c hc; simp at hc; subst hc; decide
    have e1 := drop_adv hL
    have e2 := drop_adv e1
    have h1 := rTerm_ok f a (e + 1) _ ha e1 (stop_sep s44 (by simp) s41) (by omega)
    rw [rArgs, h1]
    simp only
    have e2' : L.drop (e + 1 + a.fmt.length) = sepAll [44] us ++ ([41] ++ R) := e2
    cases us with
    | nil =>
      have hg : L[e + 1 + a.fmt.length]? = some 41 := by rw [drop_get e2']; rfl
      rw [hg, if_neg (by decide), if_pos rfl]
      simp [sepAll]
    | cons b us =>
      have h2 : b.nodes = true ∧ Tm.nodess us = true := by simpa [Tm.nodess] using hu
      have hg : L[e + 1 + a.fmt.length]? = some 44 := by rw [drop_get e2']; simp [sepAll]
      rw [hg, if_pos rfl]
      have hlen : (sepAll [44] (b :: us)).length = 1 + b.fmt.length + (sepAll [44] us).length := by rw [sepAll]; simp; omega
      rw [rArgs_ok f n (acc ++ [a]) b us (e + 1 + a.fmt.length) 44 R h2.1 h2.2 (by rw [e2', sepAll]; simp [List.append_assoc]) (by omega), hlen, List.append_assoc]
      refine congrArg some (Prod.ext rfl ?_)
      show _ = _
      simp only; omega
end
open Go.RowKit
theorem pTake_le {L t : List UInt8} {p : PSt} (h : pTake L t p = true) (hp : p.pos ≤ L.length) : p.pos + t.length ≤ L.length := by
  simp only [pTake, Bool.and_eq_true] at h
  have := (List.isPrefixOf_iff_prefix.1 h.2).length_le
  rw [List.length_drop] at this; omega
theorem pWordL_le (L : List UInt8) (p : PSt) (hp : p.pos ≤ L.length) : p.pos + (pWordL L p).length ≤ L.length := by
  have : (pWordL L p).length ≤ (L.drop p.pos).length := (List.takeWhile_sublist _).length_le
  rw [List.length_drop] at this; omega
theorem pWord_len (L : List UInt8) (p : PSt) : (pWord L p).1.length ≤ L.length := by
  have h : (pWordL L p).length ≤ (L.drop p.pos).length := (List.takeWhile_sublist _).length_le
  rw [List.length_drop] at h
  unfold pWord; split <;> simp <;> omega
theorem pWord_pos (L : List UInt8) (p : PSt) (hp : p.pos ≤ L.length) : p.pos ≤ (pWord L p).2.pos ∧ (pWord L p).2.pos ≤ L.length := by
  have := pWordL_le L p hp
  unfold pWord; split <;> (constructor <;> simp <;> omega)
theorem pMust_pos (L t : List UInt8) (p : PSt) (hp : p.pos ≤ L.length) : p.pos ≤ (pMust L t p).pos ∧ (pMust L t p).pos ≤ L.length := by
  unfold pMust
  split
  · rename_i h; have := pTake_le h hp; simp only [pAdv]; omega
  · exact ⟨Nat.le_refl _, hp⟩
mutual
theorem pTerm_pos (L : List UInt8) : ∀ (f : Nat) (p : PSt), p.pos ≤ L.length → p.pos ≤ (pTerm L f p).2.pos ∧ (pTerm L f p).2.pos ≤ L.length
  | 0, p, hp => by rw [pTerm]; exact ⟨Nat.le_refl _, hp⟩
  | f + 1, p, hp => by
    have h1 := pWord_pos L p hp
    rw [pTerm]
    split
    · rename_i ht
      have h2 := pTake_le ht h1.2
      have h3 := pTerm_pos L f (pAdv [40] (pWord L p).2) h2
      have h4 := pArgs_pos L [44] f _ h3.2
      have h5 := pMust_pos L [41] _ h4.2
      simp only [pAdv] at h3 h4 h5 ⊢
      omega
    · exact h1
theorem pArgs_pos (L sep : List UInt8) : ∀ (f : Nat) (p : PSt), p.pos ≤ L.length → p.pos ≤ (pArgs L sep f p).2.pos ∧ (pArgs L sep f p).2.pos ≤ L.length
  | 0, p, hp => by rw [pArgs]; exact ⟨Nat.le_refl _, hp⟩
  | f + 1, p, hp => by
    rw [pArgs]
    split
    · rename_i ht
      have h2 := pTake_le ht hp
      have h3 := pTerm_pos L f (pAdv sep p) h2
      have h4 := pArgs_pos L sep f _ h3.2
      simp only [pAdv] at h3 h4 ⊢
      omega
    · exact ⟨Nat.le_refl _, hp⟩
end
open Go.RowKit
mutual
def Fm.wt : Fm → Nat | .mk _ a v us => a.wt + v.size + us.length + Fm.wts us
def Fm.wts : List Fm → Nat | [] => 0 | a :: us => a.wt + Fm.wts us
end
open Go.RowKit
theorem upC_iff (c : UInt8) : upC c = true ↔ ¬ (c.toNat : Int) < 65 ∧ ¬ 90 < (c.toNat : Int) := by
  simp only [upC, Bool.and_eq_true, decide_eq_true_eq]; omega
theorem loC_iff (c : UInt8) : loC c = true ↔ ¬ (c.toNat : Int) < 97 ∧ ¬ 122 < (c.toNat : Int) := by
  simp only [loC, Bool.and_eq_true, decide_eq_true_eq]; omega
theorem varB_eq (s : ByteArray) : varB s.data.toList = (inB (s.size : Int) 1 4 && headTail upC smC s.data.toList) := by
  unfold varB inB; rw [← size_list]
  congr 1
  rw [Bool.eq_iff_iff]; simp; omega
theorem symB_eq (s : ByteArray) : symB s.data.toList = (inB (s.size : Int) 1 6 && headTail loC unC s.data.toList && !keyW.contains s.data.toList) := by
  unfold symB inB; rw [← size_list]
  congr 2
  rw [Bool.eq_iff_iff]; simp; omega
set_option maxHeartbeats 1600000 in
theorem l2Var_any (s : ByteArray) (w : World) (hs : s.size ≤ maxLen) :
    Calls Tryz.prog 157 #[.string s] w fun e w' => e = .returned (.bool (varB s.data.toList)) ∧ w = w' := by
  unfold maxLen at hs
  have HV := Lib.hid (varB_eq s)
  cases hB : inB (s.size : Int) 1 4
  · have HB := Lib.hid hB
    go_enter Tryz.func157, Tryz.ntmps157
    go_wp2_with (first | (go_at_call 136; refine (l1In_any _ _ _ _).mono ?_; rintro e w' ⟨rfl, rfl⟩))
    go_ret
    exact ⟨ret_bool (by rw [HV.out, HB.out]; rfl), rfl⟩
  · have HB := Lib.hid hB
    have hsz : 0 < s.size := by simp only [inB, Bool.and_eq_true, decide_eq_true_eq] at hB; omega
    have H0 := Lib.hid (headTail_take upC smC s 0 hsz)
    have HN0 := Lib.hid (headTail_no upC smC s 0 hsz)
    cases hU : upC s[0]
    · have HU := Lib.hid hU
      have hor : (s[0].toNat : Int) < 65 ∨ 90 < (s[0].toNat : Int) := by
        have := (not_congr (upC_iff s[0])).1 (by rw [hU]; simp)
        omega
      rcases hor with h1 | h1
      · go_enter Tryz.func157, Tryz.ntmps157
        go_wp2_with (first | (go_at_call 136; refine (l1In_any _ _ _ _).mono ?_; rintro e w' ⟨rfl, rfl⟩))
        go_ret
        exact ⟨ret_bool (by rw [HV.out, HN0.out (by simpa using HU.out)]; simp), rfl⟩
      · have h2 : ¬ (s[0].toNat : Int) < 65 := by omega
        go_enter Tryz.func157, Tryz.ntmps157
        go_wp2_with (first | (go_at_call 136; refine (l1In_any _ _ _ _).mono ?_; rintro e w' ⟨rfl, rfl⟩))
        go_ret
        exact ⟨ret_bool (by rw [HV.out, HN0.out (by simpa using HU.out)]; simp), rfl⟩
    · have HU := Lib.hid hU
      obtain ⟨h1, h2⟩ := (upC_iff s[0]).1 hU
      go_enter Tryz.func157, Tryz.ntmps157
      go_wp2_with (first | (go_at_call 136; refine (l1In_any _ _ _ _).mono ?_; rintro e w' ⟨rfl, rfl⟩))
      go_loop [3] (fun i => ∃ k : Nat, 1 ≤ k ∧ k ≤ s.size ∧ i = .int .i64 k ∧ headTail upC smC (s.data.toList.take k) = true) (fun i => s.size - (intOf i).toNat)
      case atStart => exact ⟨1, by omega, by omega, rfl, by rw [H0.out]; simp [HU.out, headTail]⟩
      case round =>
        obtain ⟨k, hk1, hk, rfl, hp⟩ := hrel
        have HP := Lib.hid hp; clear hp
        by_cases hlt : k < s.size
        · have HT := Lib.hid (headTail_take upC smC s k hlt)
          have HN := Lib.hid (headTail_no upC smC s k hlt)
          have hk0 : ¬ k = 0 := by omega
          cases hL : smC s[k]
          all_goals
            have HL := Lib.hid hL
            go_wp2_with (first | (go_at_call 137; refine (l2Small_any _ _).mono ?_; rintro e w' ⟨rfl, rfl⟩))
          · go_ret
            exact ⟨ret_bool (by rw [HV.out, HN.out (by rw [if_neg hk0, HL.out])]; simp), rfl⟩
          · refine ⟨⟨k + 1, by omega, by omega, by go_num, ?_⟩, by simp [intOf]; omega⟩
            rw [HT.out, HP.out, if_neg hk0, HL.out]; rfl
        · go_wp2
          go_ret
          exact ⟨ret_bool (by have := HP.out; rw [take_all _ _ (by omega)] at this; rw [HV.out, this, HB.out]; rfl), rfl⟩
theorem key_no {s : ByteArray} (h : keyW.contains s.data.toList = false) : ∀ l ∈ keyW, (s.toList == l) = false := by
  intro l hl
  rw [beq_eq_false_iff_ne, ByteArray.toList_eq]
  rintro rfl
  rw [← Bool.not_eq_true, List.contains_iff_mem] at h
  exact h hl
theorem key_yes {s : ByteArray} (h : keyW.contains s.data.toList = true) : s.toList ∈ keyW := by
  rw [ByteArray.toList_eq]; exact List.contains_iff_mem.1 h
set_option maxHeartbeats 1600000 in
theorem l2Symbol_any (s : ByteArray) (w : World) (hs : s.size ≤ maxLen) :
    Calls Tryz.prog 78 #[.string s] w fun e w' => e = .returned (.bool (symB s.data.toList)) ∧ w = w' := by
  unfold maxLen at hs
  have HV := Lib.hid (symB_eq s)
  cases hB : inB (s.size : Int) 1 6
  · have HB := Lib.hid hB
    go_enter Tryz.func78, Tryz.ntmps78
    go_wp2_with (first | (go_at_call 136; refine (l1In_any _ _ _ _).mono ?_; rintro e w' ⟨rfl, rfl⟩))
    go_ret
    exact ⟨ret_bool (by rw [HV.out, HB.out]; rfl), rfl⟩
  · have HB := Lib.hid hB
    have hsz : 0 < s.size := by simp only [inB, Bool.and_eq_true, decide_eq_true_eq] at hB; omega
    have H0 := Lib.hid (headTail_take loC unC s 0 hsz)
    have HN0 := Lib.hid (headTail_no loC unC s 0 hsz)
    cases hU : loC s[0]
    · have HU := Lib.hid hU
      have hor : (s[0].toNat : Int) < 97 ∨ 122 < (s[0].toNat : Int) := by
        have := (not_congr (loC_iff s[0])).1 (by rw [hU]; simp)
        omega
      rcases hor with h1 | h1
      · go_enter Tryz.func78, Tryz.ntmps78
        go_wp2_with (first | (go_at_call 136; refine (l1In_any _ _ _ _).mono ?_; rintro e w' ⟨rfl, rfl⟩))
        go_ret
        exact ⟨ret_bool (by rw [HV.out, HN0.out (by simpa using HU.out)]; simp), rfl⟩
      · have h2 : ¬ (s[0].toNat : Int) < 97 := by omega
        go_enter Tryz.func78, Tryz.ntmps78
        go_wp2_with (first | (go_at_call 136; refine (l1In_any _ _ _ _).mono ?_; rintro e w' ⟨rfl, rfl⟩))
        go_ret
        exact ⟨ret_bool (by rw [HV.out, HN0.out (by simpa using HU.out)]; simp), rfl⟩
    · have HU := Lib.hid hU
      obtain ⟨h1, h2⟩ := (loC_iff s[0]).1 hU
      cases hK : keyW.contains s.data.toList
      · have HK := Lib.hid hK
        have k0 : (s.toList == [116, 114, 117, 101]) = false := key_no HK.out _ (by decide)
        have k1 : (s.toList == [102, 97, 108, 115, 101]) = false := key_no HK.out _ (by decide)
        have k2 : (s.toList == [116, 114, 117, 116, 104]) = false := key_no HK.out _ (by decide)
        have k3 : (s.toList == [98, 111, 116, 104]) = false := key_no HK.out _ (by decide)
        have k4 : (s.toList == [101, 105, 116, 104, 101, 114]) = false := key_no HK.out _ (by decide)
        have k5 : (s.toList == [105, 102]) = false := key_no HK.out _ (by decide)
        have k6 : (s.toList == [97, 108, 108]) = false := key_no HK.out _ (by decide)
        have k7 : (s.toList == [115, 111, 109, 101]) = false := key_no HK.out _ (by decide)
        go_enter Tryz.func78, Tryz.ntmps78
        go_wp2_with (first | (go_at_call 136; refine (l1In_any _ _ _ _).mono ?_; rintro e w' ⟨rfl, rfl⟩))
        go_loop [3] (fun i => ∃ k : Nat, 1 ≤ k ∧ k ≤ s.size ∧ i = .int .i64 k ∧ headTail loC unC (s.data.toList.take k) = true) (fun i => s.size - (intOf i).toNat)
        case atStart => exact ⟨1, by omega, by omega, rfl, by rw [H0.out]; simp [HU.out, headTail]⟩
        case round =>
          obtain ⟨k, hk1, hk, rfl, hp⟩ := hrel
          have HP := Lib.hid hp; clear hp
          by_cases hlt : k < s.size
          · have HT := Lib.hid (headTail_take loC unC s k hlt)
            have HN := Lib.hid (headTail_no loC unC s k hlt)
            have hk0 : ¬ k = 0 := by omega
            have HUN := Lib.hid (show unC s[k] = (smC s[k] || (s[k] == 95)) from rfl)
            cases hL : smC s[k]
            · have HL := Lib.hid hL
              by_cases h9 : s[k] = 95
              · have H9 := Lib.hid h9
                have h91 : ((s[k].toNat : Int) != 95) = false := by rw [h9]; rfl
                clear h9
                go_wp2_with (first | (go_at_call 137; refine (l2Small_any _ _).mono ?_; rintro e w' ⟨rfl, rfl⟩))
                refine ⟨⟨k + 1, by omega, by omega, by go_num, ?_⟩, by simp [intOf]; omega⟩
                rw [HT.out, HP.out, if_neg hk0, HUN.out, H9.out]; rfl
              · have H9 := Lib.hid (show (s[k] == 95) = false by simpa using h9)
                have h91 : ((s[k].toNat : Int) != 95) = true := by
                  have h9n : ¬ (s[k].toNat : Int) = 95 := fun e => h9 (UInt8.toNat_inj.1 (show s[k].toNat = 95 by omega))
                  simpa using h9n
                clear h9
                go_wp2_with (first | (go_at_call 137; refine (l2Small_any _ _).mono ?_; rintro e w' ⟨rfl, rfl⟩))
                go_ret
                exact ⟨ret_bool (by rw [HV.out, HN.out (by rw [if_neg hk0, HUN.out, HL.out, H9.out]; rfl)]; simp), rfl⟩
            · have HL := Lib.hid hL
              go_wp2_with (first | (go_at_call 137; refine (l2Small_any _ _).mono ?_; rintro e w' ⟨rfl, rfl⟩))
              refine ⟨⟨k + 1, by omega, by omega, by go_num, ?_⟩, by simp [intOf]; omega⟩
              rw [HT.out, HP.out, if_neg hk0, HUN.out, HL.out]; rfl
          · go_wp2
            go_ret
            exact ⟨ret_bool (by have := HP.out; rw [take_all _ _ (by omega)] at this; rw [HV.out, this, HB.out, HK.out]; rfl), rfl⟩
      · have HK := Lib.hid hK
        have hmem := key_yes hK
        simp only [keyW, List.mem_cons, List.not_mem_nil, or_false] at hmem
        rcases hmem with h | h | h | h | h | h | h | h
        all_goals
          go_enter Tryz.func78, Tryz.ntmps78
          go_wp2_with (first | (go_at_call 136; refine (l1In_any _ _ _ _).mono ?_; rintro e w' ⟨rfl, rfl⟩))
          go_ret
          exact ⟨ret_bool (by rw [HV.out, HK.out]; simp), rfl⟩
open Go.RowKit
theorem Tm.szs_drop (us : List Tm) {k : Nat} (h : k < us.length) : Tm.szs (us.drop k) = us[k].sz + Tm.szs (us.drop (k + 1)) := by
  rw [List.drop_eq_getElem_cons h, Tm.szs]
theorem Tm.szIs_drop (us : List Tm) {k : Nat} (h : k < us.length) (n : Nat) : Tm.szIs n (us.drop k) = if 30 < n then n else Tm.szIs (n + us[k].szI) (us.drop (k + 1)) := by
  rw [List.drop_eq_getElem_cons h, Tm.szIs]
theorem Tm.manys_drop (us : List Tm) {k : Nat} (h : k < us.length) (n m : Nat) : Tm.manys n (us.drop k) m = if n ≤ m then Tm.manys (n + us[k].many (m - n)) (us.drop (k + 1)) m else n := by
  rw [List.drop_eq_getElem_cons h, Tm.manys]
theorem Tm.dps_drop (us : List Tm) {k : Nat} (h : k < us.length) : Tm.dps (us.drop k) = max us[k].dp (Tm.dps (us.drop (k + 1))) := by
  rw [List.drop_eq_getElem_cons h, Tm.dps]
set_option maxRecDepth 100000 in
set_option maxHeartbeats 1600000 in
theorem size_any {B : Nat → Prop} : ∀ (m : Nat) (t : Tm) (v0 v1 : Value) (w : World), TmAt B m w t [v0, v1] → t.sz ≤ 100000000 →
      Calls Tryz.prog 240 #[.agg #[v0, v1]] w fun e w' => e = .returned (.int .i64 (t.szI : Nat)) ∧ Below w.heap.size w w' := by
  intro m
  induction m with
  | zero => intro t v0 v1 w h; exact h.elim
  | succ m ih =>
    rintro ⟨s, us⟩ v0 v1 w ⟨va, hcs, hs, hl⟩ hz
    simp only [List.cons.injEq, and_true] at hcs
    obtain ⟨rfl, rfl⟩ := hcs
    rw [Tm.sz] at hz
    obtain ⟨p, c, rfl, hlen⟩ := hl.form
    unfold maxLen at hlen
    have IH := Lib.hid ih
    have HL := Lib.hid hl
    have HSZ := Lib.hid (show (Tm.mk s us).szI = Tm.szIs 1 us from rfl)
    clear ih hl
    go_enter Tryz.func240, Tryz.ntmps240
    go_wp2
    go_loopw [3, 9] (fun n i wr => ∃ k acc : Nat, k ≤ us.length ∧ i = .int .i64 k ∧ n = .int .i64 acc ∧ Tm.szIs acc (us.drop k) = Tm.szIs 1 us ∧ acc + Tm.szs (us.drop k) ≤ 1 + Tm.szs us ∧ Below w.heap.size w wr) (fun _ i _ => us.length - (intOf i).toNat)
    case atStart => exact ⟨0, 1, Nat.zero_le _, rfl, rfl, rfl, Nat.le_refl _, by exact bel⟩
    case round =>
      obtain ⟨k, acc, hk, rfl, rfl, he, hle, hb⟩ := hrel
      have HE := Lib.hid he
      clear he
      by_cases hlt : k < us.length
      · obtain ⟨b, o, rfl, hB, x0, x1, hx0, hx1, hx⟩ := (HL.out.mono (SameOn.below hb) (fun _ h => h) (fun x cs _ hx => TmAt.below hb hx)).at2 hlt
        obtain ⟨pa, ca, rfl, rfl, -, -⟩ := hx.form
        have HD := Lib.hid (Tm.szIs_drop us hlt acc)
        have HZ := Lib.hid (Tm.szs_drop us hlt)
        obtain ⟨a, ha⟩ : ∃ a, us[k] = a := ⟨_, rfl⟩
        rw [ha] at hx HD HZ hx0 hx1
        have HX := Lib.hid hx
        have hlaw := a.szI_law
        have hzz := HZ.out
        rw [hzz] at hle
        clear hx ha hzz
        by_cases h30 : 30 < (acc : Int)
        · go_wp2
          go_ret
          exact ⟨ret_int (by rw [HSZ.out, ← HE.out, HD.out, if_pos (by omega)]), by exact bel⟩
        · go_wp2_with fail
          refine (IH.out a _ _ _ (HX.out.below (by exact bel)) (by omega)).mono ?_
          rintro e w1 ⟨rfl, hb1⟩
          have ⟨cw1, fw1⟩ := bcell hb1
          have qw1 := hb1.size
          (try simp at qw1)
          (try have zw1w := bsz (show w.heap.size < w1.heap.size by omega))
          go_wp2
          refine ⟨⟨k + 1, acc + a.szI, by omega, by go_num, by go_num, ?_, by omega, by exact bel⟩, by simp [intOf]; omega⟩
          rw [← HE.out, HD.out, if_neg (by omega)]
      · obtain rfl : k = us.length := by omega
        have he := HE.out
        rw [List.drop_length, Tm.szIs] at he
        have HE2 := Lib.hid he
        clear he
        go_wp2
        go_ret
        exact ⟨ret_int (by rw [HSZ.out, ← HE2.out]), by exact bel⟩
set_option maxRecDepth 100000 in
set_option maxHeartbeats 1600000 in
theorem depth_any {B : Nat → Prop} : ∀ (m : Nat) (t : Tm) (v0 v1 : Value) (w : World), TmAt B m w t [v0, v1] → t.sz ≤ 100000000 →
      Calls Tryz.prog 241 #[.agg #[v0, v1]] w fun e w' => e = .returned (.int .i64 (t.dp : Nat)) ∧ Below w.heap.size w w' := by
  intro m
  induction m with
  | zero => intro t v0 v1 w h; exact h.elim
  | succ m ih =>
    rintro ⟨s, us⟩ v0 v1 w ⟨va, hcs, hs, hl⟩ hz
    simp only [List.cons.injEq, and_true] at hcs
    obtain ⟨rfl, rfl⟩ := hcs
    rw [Tm.sz] at hz
    obtain ⟨p, c, rfl, hlen⟩ := hl.form
    unfold maxLen at hlen
    have IH := Lib.hid ih
    have HL := Lib.hid hl
    have HSZ := Lib.hid (show (Tm.mk s us).dp = Tm.dps us + 1 from rfl)
    clear ih hl
    go_enter Tryz.func241, Tryz.ntmps241
    go_wp2
    go_loopw [3, 9] (fun n i wr => ∃ k acc : Nat, k ≤ us.length ∧ i = .int .i64 k ∧ n = .int .i64 acc ∧ max acc (Tm.dps (us.drop k)) = Tm.dps us ∧ acc + Tm.szs (us.drop k) ≤ Tm.szs us ∧ Below w.heap.size w wr) (fun _ i _ => us.length - (intOf i).toNat)
    case atStart => exact ⟨0, 0, Nat.zero_le _, rfl, rfl, by simp, by simp, by exact bel⟩
    case round =>
      obtain ⟨k, acc, hk, rfl, rfl, he, hle, hb⟩ := hrel
      have HE := Lib.hid he
      clear he
      by_cases hlt : k < us.length
      · obtain ⟨b, o, rfl, hB, x0, x1, hx0, hx1, hx⟩ := (HL.out.mono (SameOn.below hb) (fun _ h => h) (fun x cs _ hx => TmAt.below hb hx)).at2 hlt
        obtain ⟨pa, ca, rfl, rfl, -, -⟩ := hx.form
        have HD := Lib.hid (Tm.dps_drop us hlt)
        have HZ := Lib.hid (Tm.szs_drop us hlt)
        obtain ⟨a, ha⟩ : ∃ a, us[k] = a := ⟨_, rfl⟩
        rw [ha] at hx HD HZ hx0 hx1
        have HX := Lib.hid hx
        have hlaw := a.dp_le
        have hzz := HZ.out
        rw [hzz] at hle
        clear hx ha hzz
        go_wp2_with fail
        refine (IH.out a _ _ _ (HX.out.below (by exact bel)) (by omega)).mono ?_
        rintro e w1 ⟨rfl, hb1⟩
        have ⟨cw1, fw1⟩ := bcell hb1
        have qw1 := hb1.size
        (try simp at qw1)
        (try have zw1w := bsz (show w.heap.size < w1.heap.size by omega))
        go_wp2
        refine ⟨⟨k + 1, max acc a.dp, by omega, by go_num, ?_, ?_, by omega, by exact bel⟩, by simp [intOf]; omega⟩
        · exact congrArg (Value.int .i64) (by omega)
        · rw [← HE.out, HD.out]; omega
      · obtain rfl : k = us.length := by omega
        have he := HE.out
        rw [List.drop_length, Tm.dps] at he
        have HE2 := Lib.hid he
        clear he
        go_wp2
        go_ret
        exact ⟨ret_int (by rw [HSZ.out, ← HE2.out]; omega), by exact bel⟩
theorem l1Most_any (a b : Int) (w : World) : Calls Tryz.prog 278 #[.int .i64 a, .int .i64 b] w fun e w' => e = .returned (.int .i64 (max a b)) ∧ w = w' := by
  by_cases h : b < a
  all_goals
    go_enter Tryz.func278, Tryz.ntmps278
    go_wp2
    go_ret
    exact ⟨ret_int (by omega), rfl⟩
set_option maxRecDepth 100000 in
set_option maxHeartbeats 1600000 in
theorem l2Depth_any {B : Nat → Prop} : ∀ (m : Nat) (t : Tm) (v0 v1 : Value) (w : World), TmAt B m w t [v0, v1] → t.sz ≤ 100000000 →
      Calls Tryz.prog 271 #[.agg #[v0, v1]] w fun e w' => e = .returned (.int .i64 (t.dp : Nat)) ∧ Below w.heap.size w w' := by
  intro m
  induction m with
  | zero => intro t v0 v1 w h; exact h.elim
  | succ m ih =>
    rintro ⟨s, us⟩ v0 v1 w ⟨va, hcs, hs, hl⟩ hz
    simp only [List.cons.injEq, and_true] at hcs
    obtain ⟨rfl, rfl⟩ := hcs
    rw [Tm.sz] at hz
    obtain ⟨p, c, rfl, hlen⟩ := hl.form
    unfold maxLen at hlen
    have IH := Lib.hid ih
    have HL := Lib.hid hl
    have HSZ := Lib.hid (show (Tm.mk s us).dp = Tm.dps us + 1 from rfl)
    clear ih hl
    go_enter Tryz.func271, Tryz.ntmps271
    go_wp2
    obtain ⟨W, hW⟩ : ∃ W, W = w.alloc (.cells #[.string s, .slice p us.length c] 41) := ⟨_, rfl⟩
    have hw0 : W.cell? ⟨w.heap.size, 1, none⟩ = some (.slice p us.length c) := by rw [hW]; go_simp
    have hbW : Below w.heap.size w W := by rw [hW]; exact bel
    rw [← hW]
    clear hW
    go_loopw [3, 4] (fun n i wr => ∃ k acc : Nat, k ≤ us.length ∧ i = .int .i64 k ∧ n = .int .i64 acc ∧ max acc (Tm.dps (us.drop k)) = Tm.dps us ∧ acc + Tm.szs (us.drop k) ≤ Tm.szs us ∧ Below W.heap.size W wr) (fun _ i _ => us.length - (intOf i).toNat)
    case atStart => exact ⟨0, 0, Nat.zero_le _, rfl, rfl, by simp, by simp, Below.refl _ _⟩
    case round =>
      obtain ⟨k, acc, hk, rfl, rfl, he, hle, hbr⟩ := hrel
      have HE := Lib.hid he
      clear he
      have hb := Below.step hbW hbr
      have hw1 : wr.cell? ⟨w.heap.size, 1, none⟩ = some (.slice p us.length c) := (hbr.cell (World.block_lt_of_cell? W _ hw0)).trans hw0
      by_cases hlt : k < us.length
      · obtain ⟨b, o, rfl, hB, x0, x1, hx0, hx1, hx⟩ := (HL.out.mono (SameOn.below hb) (fun _ h => h) (fun x cs _ hx => TmAt.below hb hx)).at2 hlt
        obtain ⟨pa, ca, rfl, rfl, -, -⟩ := hx.form
        have HD := Lib.hid (Tm.dps_drop us hlt)
        have HZ := Lib.hid (Tm.szs_drop us hlt)
        obtain ⟨a, ha⟩ : ∃ a, us[k] = a := ⟨_, rfl⟩
        rw [ha] at hx HD HZ hx0 hx1
        have HX := Lib.hid hx
        have hlaw := a.dp_le
        have hzz := HZ.out
        rw [hzz] at hle
        clear hx ha hzz
        go_wp2_with fail
        refine (IH.out a _ _ _ HX.out (by omega)).mono ?_
        rintro e w1 ⟨rfl, hb1⟩
        have ⟨cw1, fw1⟩ := bcell hb1
        have qw1 := hb1.size
        (try simp at qw1)
        (try have zw1w := bsz (show w.heap.size < w1.heap.size by omega))
        have hbb := Below.step hbr hb1
        go_wp2_with ((go_at_call 278; refine (l1Most_any _ _ _).mono ?_; rintro e w' ⟨rfl, rfl⟩))
        refine ⟨⟨k + 1, max acc a.dp, by omega, by go_num, ?_, ?_, by omega, hbb⟩, by simp [intOf]; omega⟩
        · exact congrArg (Value.int .i64) (by omega)
        · rw [← HE.out, HD.out]; omega
      · obtain rfl : k = us.length := by omega
        have he := HE.out
        rw [List.drop_length, Tm.dps] at he
        have HE2 := Lib.hid he
        clear he
        go_wp2
        go_ret
        exact ⟨ret_int (by rw [HSZ.out, ← HE2.out]; omega), hb⟩
set_option maxRecDepth 100000 in
set_option maxHeartbeats 1600000 in
theorem l2Many_any {B : Nat → Prop} : ∀ (m : Nat) (t : Tm) (v0 v1 : Value) (M : Nat) (z : Int) (w : World), TmAt B m w t [v0, v1] → t.sz ≤ 100000000 → z = (M : Int) → M ≤ 1000 →
      Calls Tryz.prog 270 #[.agg #[v0, v1], .int .i64 z] w fun e w' => e = .returned (.int .i64 (t.many M : Nat)) ∧ Below w.heap.size w w' := by
  intro m
  induction m with
  | zero => intro t v0 v1 M z w h; exact h.elim
  | succ m ih =>
    rintro ⟨s, us⟩ v0 v1 M z w ⟨va, hcs, hs, hl⟩ hz rfl hM
    simp only [List.cons.injEq, and_true] at hcs
    obtain ⟨rfl, rfl⟩ := hcs
    rw [Tm.sz] at hz
    obtain ⟨p, c, rfl, hlen⟩ := hl.form
    unfold maxLen at hlen
    have IH := Lib.hid ih
    have HL := Lib.hid hl
    have HSZ := Lib.hid (show (Tm.mk s us).many M = Tm.manys 1 us M from rfl)
    clear ih hl
    go_enter Tryz.func270, Tryz.ntmps270
    go_wp2
    obtain ⟨W, hW⟩ : ∃ W, W = w.alloc (.cells #[.string s, .slice p us.length c] 41) := ⟨_, rfl⟩
    have hw0 : W.cell? ⟨w.heap.size, 1, none⟩ = some (.slice p us.length c) := by rw [hW]; go_simp
    have hbW : Below w.heap.size w W := by rw [hW]; exact bel
    rw [← hW]
    clear hW
    go_loopw [5, 6] (fun n i wr => ∃ k acc : Nat, k ≤ us.length ∧ i = .int .i64 k ∧ n = .int .i64 acc ∧ Tm.manys acc (us.drop k) M = Tm.manys 1 us M ∧ acc + Tm.szs (us.drop k) ≤ 1 + Tm.szs us ∧ Below W.heap.size W wr) (fun _ i _ => us.length - (intOf i).toNat)
    case atStart => exact ⟨0, 1, Nat.zero_le _, rfl, rfl, rfl, Nat.le_refl _, Below.refl _ _⟩
    case round =>
      obtain ⟨k, acc, hk, rfl, rfl, he, hle, hbr⟩ := hrel
      have HE := Lib.hid he
      clear he
      have hb := Below.step hbW hbr
      have hw1 : wr.cell? ⟨w.heap.size, 1, none⟩ = some (.slice p us.length c) := (hbr.cell (World.block_lt_of_cell? W _ hw0)).trans hw0
      by_cases hlt : k < us.length
      · obtain ⟨b, o, rfl, hB, x0, x1, hx0, hx1, hx⟩ := (HL.out.mono (SameOn.below hb) (fun _ h => h) (fun x cs _ hx => TmAt.below hb hx)).at2 hlt
        obtain ⟨pa, ca, rfl, rfl, -, -⟩ := hx.form
        have HD := Lib.hid (Tm.manys_drop us hlt acc M)
        have HZ := Lib.hid (Tm.szs_drop us hlt)
        obtain ⟨a, ha⟩ : ∃ a, us[k] = a := ⟨_, rfl⟩
        rw [ha] at hx HD HZ hx0 hx1
        have HX := Lib.hid hx
        have hlaw := a.many_law (M - acc)
        have hzz := HZ.out
        rw [hzz] at hle
        clear hx ha hzz
        by_cases hac : acc ≤ M
        · have hac1 : (acc : Int) ≤ (M : Int) := by omega
          go_wp2_with fail
          refine (IH.out a _ _ (M - acc) _ _ HX.out (by omega) (by omega) (by omega)).mono ?_
          rintro e w1 ⟨rfl, hb1⟩
          have ⟨cw1, fw1⟩ := bcell hb1
          have qw1 := hb1.size
          (try simp at qw1)
          (try have zw1w := bsz (show w.heap.size < w1.heap.size by omega))
          have hbb := Below.step hbr hb1
          go_wp2
          refine ⟨⟨k + 1, acc + a.many (M - acc), by omega, by go_num, by go_num, ?_, by omega, hbb⟩, by simp [intOf]; omega⟩
          rw [← HE.out, HD.out, if_pos hac]
        · have hac1 : ¬ (acc : Int) ≤ (M : Int) := by omega
          go_wp2
          go_ret
          exact ⟨ret_int (by rw [HSZ.out, ← HE.out, HD.out, if_neg hac]), hb⟩
      · obtain rfl : k = us.length := by omega
        have he := HE.out
        rw [List.drop_length, Tm.manys] at he
        have HE2 := Lib.hid he
        clear he
        go_wp2
        go_ret
        exact ⟨ret_int (by rw [HSZ.out, ← HE2.out]), hb⟩
open Go.RowKit
theorem Tm.nodess_drop (us : List Tm) {k : Nat} (h : k < us.length) : Tm.nodess (us.drop k) = (us[k].nodes && Tm.nodess (us.drop (k + 1))) := by
  rw [List.drop_eq_getElem_cons h, Tm.nodess]
theorem hasNames1_of {B : Nat → Prop} (m : Nat) (ih : ∀ (t : Tm) (v0 v1 : Value) (w : World), TmAt B m w t [v0, v1] →
      Calls Tryz.prog 199 #[.agg #[v0, v1]] w fun e w' => e = .returned (.bool t.nodes) ∧ Below w.heap.size w w')
    (t : Tm) (v0 v1 : Value) (w : World) (h : TmAt B m w t [v0, v1]) :
    Calls Tryz.prog 243 #[.agg #[v0, v1]] w fun e w' => e = .returned (.bool (!t.nodes)) ∧ Below w.heap.size w w' := by
  obtain ⟨p, c, rfl, rfl, -, -⟩ := h.form
  have H := Lib.hid h
  have IH := Lib.hid ih
  clear h ih
  go_enter Tryz.func243, Tryz.ntmps243
  go_wp2_with fail
  refine (IH.out t _ _ _ (H.out.below (by exact bel))).mono ?_
  rintro e w1 ⟨rfl, hb1⟩
  have ⟨cw1, fw1⟩ := bcell hb1
  have qw1 := hb1.size
  (try simp at qw1)
  (try have zw1w := bsz (show w.heap.size < w1.heap.size by omega))
  go_wp2
  go_ret
  exact ⟨rfl, by exact bel⟩
def FirstBad (us : List Tm) (w : World) (e : Ending) (w' : World) : Prop := ∃ r : Int, e = .returned (.int .i64 r) ∧ decide (0 ≤ r) = !Tm.nodess us ∧ Below w.heap.size w w'
set_option maxRecDepth 100000 in
set_option maxHeartbeats 1600000 in
theorem indexNames_of {B : Nat → Prop} (m : Nat) (ih : ∀ (t : Tm) (v0 v1 : Value) (w : World), TmAt B m w t [v0, v1] →
      Calls Tryz.prog 199 #[.agg #[v0, v1]] w fun e w' => e = .returned (.bool t.nodes) ∧ Below w.heap.size w w')
    (us : List Tm) (va : Value) (w : World) (h : ListAt B w 2 (TmAt B m w) va us) :
    Calls Tryz.prog 269 #[va, .func (.func 243) #[] #[]] w (FirstBad us w) := by
  obtain ⟨p, c, rfl, hlen⟩ := h.form
  unfold maxLen at hlen
  have H := Lib.hid h
  have HN1 := Lib.hid (hasNames1_of m ih)
  clear h ih
  go_enter Tryz.func269, Tryz.ntmps269
  go_wp2
  go_loopw [8] (fun i wr => ∃ k : Nat, k ≤ us.length ∧ i = .int .i64 k ∧ Tm.nodess us = Tm.nodess (us.drop k) ∧ Below w.heap.size w wr) (fun i _ => us.length - (intOf i).toNat)
  case atStart => exact ⟨0, Nat.zero_le _, rfl, rfl, by exact bel⟩
  case round =>
    obtain ⟨k, hk, rfl, he, hb⟩ := hrel
    have HE := Lib.hid he
    clear he
    by_cases hlt : k < us.length
    · obtain ⟨b, o, rfl, hB, x0, x1, hx0, hx1, hx⟩ := (H.out.mono (SameOn.below hb) (fun _ h => h) (fun x cs _ hx => TmAt.below hb hx)).at2 hlt
      obtain ⟨pa, ca, rfl, rfl, -, -⟩ := hx.form
      have HD := Lib.hid (Tm.nodess_drop us hlt)
      obtain ⟨a, ha⟩ : ∃ a, us[k] = a := ⟨_, rfl⟩
      rw [ha] at hx HD hx0 hx1
      have HX := Lib.hid hx
      clear hx ha
      cases hN : a.nodes
      all_goals
        have HN := Lib.hid hN
        go_wp2_with fail
        refine (HN1.out a _ _ _ HX.out).mono ?_
        rintro e w1 ⟨rfl, hb1⟩
        have ⟨cw1, fw1⟩ := bcell hb1
        have qw1 := hb1.size
        (try simp at qw1)
        (try have zw1w := bsz (show w.heap.size < w1.heap.size by omega))
        rw [HN.out]
        go_wp2
      · go_ret
        exact ⟨k, rfl, by rw [HE.out, HD.out, HN.out]; simp, by exact bel⟩
      · refine ⟨⟨k + 1, by omega, by go_num, ?_, by exact bel⟩, by simp [intOf]; omega⟩
        rw [HE.out, HD.out, HN.out]; rfl
    · obtain rfl : k = us.length := by omega
      have he := HE.out
      rw [List.drop_length, Tm.nodess] at he
      have HE2 := Lib.hid he
      clear he
      go_wp2
      go_ret
      exact ⟨-1, rfl, by rw [HE2.out]; rfl, by exact bel⟩
set_option maxRecDepth 100000 in
set_option maxHeartbeats 1600000 in
theorem containsNames_of {B : Nat → Prop} (m : Nat) (ih : ∀ (t : Tm) (v0 v1 : Value) (w : World), TmAt B m w t [v0, v1] →
      Calls Tryz.prog 199 #[.agg #[v0, v1]] w fun e w' => e = .returned (.bool t.nodes) ∧ Below w.heap.size w w')
    (us : List Tm) (va : Value) (w : World) (h : ListAt B w 2 (TmAt B m w) va us) :
    Calls Tryz.prog 242 #[va, .func (.func 243) #[] #[]] w fun e w' => e = .returned (.bool (!Tm.nodess us)) ∧ Below w.heap.size w w' := by
  have H := Lib.hid h
  have IH := Lib.hid (indexNames_of m ih)
  clear h ih
  go_enter Tryz.func242, Tryz.ntmps242
  go_wp2_with fail
  refine (IH.out us va _ H.out).mono ?_
  rintro e w1 ⟨r, rfl, hr, hb1⟩
  have HR := Lib.hid hr
  clear hr
  go_wp2
  go_ret
  exact ⟨ret_bool HR.out, hb1⟩
set_option maxRecDepth 100000 in
set_option maxHeartbeats 1600000 in
theorem hasNames_any {B : Nat → Prop} : ∀ (m : Nat) (t : Tm) (v0 v1 : Value) (w : World), TmAt B m w t [v0, v1] →
      Calls Tryz.prog 199 #[.agg #[v0, v1]] w fun e w' => e = .returned (.bool t.nodes) ∧ Below w.heap.size w w' := by
  intro m
  induction m with
  | zero => intro t v0 v1 w h; exact h.elim
  | succ m ih =>
    rintro ⟨s, us⟩ v0 v1 w ⟨va, hcs, hs, hl⟩
    simp only [List.cons.injEq, and_true] at hcs
    obtain ⟨rfl, rfl⟩ := hcs
    obtain ⟨p, c, rfl, hlen⟩ := hl.form
    unfold maxLen at hlen
    have IH := Lib.hid (containsNames_of m ih)
    have HL := Lib.hid hl
    have HS := Lib.hid hs
    have HN := Lib.hid (show (Tm.mk s us).nodes = if varB s.data.toList then us.isEmpty else symB s.data.toList && decide (us.length ≤ 4) && Tm.nodess us from rfl)
    clear ih hl hs
    cases hv : varB s.data.toList
    · have HV := Lib.hid hv
      cases hy : symB s.data.toList
      · have HY := Lib.hid hy
        go_enter Tryz.func199, Tryz.ntmps199
        go_wp2_with (first | (go_at_call 119; refine (isVariable_any _ _ HS.out).mono ?_; rintro e w' ⟨rfl, rfl⟩) | (go_at_call 71; refine (isSymbol_any _ _ HS.out).mono ?_; rintro e w1 ⟨rfl, hb1⟩; have ⟨cw1, fw1⟩ := bcell hb1; have qw1 := hb1.size; (try simp at qw1); (try have zw1w := bsz (show w.heap.size < w1.heap.size by omega))))
        go_ret
        exact ⟨ret_bool (by rw [HN.out, HV.out, HY.out]; rfl), by exact bel⟩
      · have HY := Lib.hid hy
        by_cases h4 : (us.length : Int) ≤ 4
        · have H4 := Lib.hid (show decide (us.length ≤ 4) = true by simp; omega)
          go_enter Tryz.func199, Tryz.ntmps199
          go_wp2_with (first | (go_at_call 119; refine (isVariable_any _ _ HS.out).mono ?_; rintro e w' ⟨rfl, rfl⟩) | (go_at_call 71; refine (isSymbol_any _ _ HS.out).mono ?_; rintro e w1 ⟨rfl, hb1⟩; have ⟨cw1, fw1⟩ := bcell hb1; have qw1 := hb1.size; (try simp at qw1); (try have zw1w := bsz (show w.heap.size < w1.heap.size by omega))) | (go_at_call 242; refine (IH.out us _ _ (HL.out.mono (SameOn.below (by (repeat (first | with_reducible (first | exact bR _ _ | assumption | refine bA ?_ _ | refine bS ?_ (by first | exact Nat.le_refl _ | (simp; done) | (simp; omega)) _) | assumption | exact bR _ _ | refine bD ?_ | refine bN ?_ _ | refine bT ?_ (by assumption))))) (fun _ h => h) (fun x cs _ hx => TmAt.below (by (repeat (first | with_reducible (first | exact bR _ _ | assumption | refine bA ?_ _ | refine bS ?_ (by first | exact Nat.le_refl _ | (simp; done) | (simp; omega)) _) | assumption | exact bR _ _ | refine bD ?_ | refine bN ?_ _ | refine bT ?_ (by assumption)))) hx))).mono ?_; rintro e w2 ⟨rfl, hb2⟩; have ⟨cw2, fw2⟩ := bcell hb2; have qw2 := hb2.size; (try simp at qw2); (try have zw2w := bsz (show w.heap.size < w2.heap.size by omega)); (try have zw2w1 := bsz (show w1.heap.size < w2.heap.size by omega))))
          go_ret
          exact ⟨ret_bool (by rw [HN.out, HV.out, HY.out, H4.out]; simp), by exact bel⟩
        · have H4 := Lib.hid (show decide (us.length ≤ 4) = false by simp; omega)
          go_enter Tryz.func199, Tryz.ntmps199
          go_wp2_with (first | (go_at_call 119; refine (isVariable_any _ _ HS.out).mono ?_; rintro e w' ⟨rfl, rfl⟩) | (go_at_call 71; refine (isSymbol_any _ _ HS.out).mono ?_; rintro e w1 ⟨rfl, hb1⟩; have ⟨cw1, fw1⟩ := bcell hb1; have qw1 := hb1.size; (try simp at qw1); (try have zw1w := bsz (show w.heap.size < w1.heap.size by omega))))
          go_ret
          exact ⟨ret_bool (by rw [HN.out, HV.out, HY.out, H4.out]; rfl), by exact bel⟩
    · have HV := Lib.hid hv
      have HE := Lib.hid (show us.isEmpty = ((us.length : Int) == 0) by cases us <;> simp; omega)
      go_enter Tryz.func199, Tryz.ntmps199
      go_wp2_with (first | (go_at_call 119; refine (isVariable_any _ _ HS.out).mono ?_; rintro e w' ⟨rfl, rfl⟩))
      go_ret
      exact ⟨ret_bool (by rw [HN.out, HV.out, if_pos rfl, HE.out]), by exact bel⟩
open Go.RowKit
theorem isEmpty_int {α : Type} (us : List α) : us.isEmpty = ((us.length : Int) == 0) := by cases us <;> simp; omega
set_option maxRecDepth 100000 in
set_option maxHeartbeats 1600000 in
theorem l2Nodes_any {B : Nat → Prop} : ∀ (m : Nat) (t : Tm) (v0 v1 : Value) (w : World), TmAt B m w t [v0, v1] →
      Calls Tryz.prog 245 #[.agg #[v0, v1]] w fun e w' => e = .returned (.bool t.nodes) ∧ Below w.heap.size w w' := by
  intro m
  induction m with
  | zero => intro t v0 v1 w h; exact h.elim
  | succ m ih =>
    rintro ⟨s, us⟩ v0 v1 w ⟨va, hcs, hs, hl⟩
    simp only [List.cons.injEq, and_true] at hcs
    obtain ⟨rfl, rfl⟩ := hcs
    obtain ⟨p, c, rfl, hlen⟩ := hl.form
    unfold maxLen at hlen
    have IH := Lib.hid ih
    have HL := Lib.hid hl
    have HS := Lib.hid hs
    have HN := Lib.hid (show (Tm.mk s us).nodes = if varB s.data.toList then us.isEmpty else symB s.data.toList && decide (us.length ≤ 4) && Tm.nodess us from rfl)
    clear ih hl hs
    cases hv : varB s.data.toList
    · have HV := Lib.hid hv
      cases hy : symB s.data.toList
      · have HY := Lib.hid hy
        go_enter Tryz.func245, Tryz.ntmps245
        go_wp2_with (first | (go_at_call 157; refine (l2Var_any _ _ HS.out).mono ?_; rintro e w' ⟨rfl, rfl⟩) | (go_at_call 78; refine (l2Symbol_any _ _ HS.out).mono ?_; rintro e w' ⟨rfl, rfl⟩))
        go_ret
        exact ⟨ret_bool (by rw [HN.out, HV.out, HY.out]; rfl), by exact bel⟩
      · have HY := Lib.hid hy
        by_cases h4 : 4 < (us.length : Int)
        · have H4 := Lib.hid (show decide (us.length ≤ 4) = false by simp; omega)
          go_enter Tryz.func245, Tryz.ntmps245
          go_wp2_with (first | (go_at_call 157; refine (l2Var_any _ _ HS.out).mono ?_; rintro e w' ⟨rfl, rfl⟩) | (go_at_call 78; refine (l2Symbol_any _ _ HS.out).mono ?_; rintro e w' ⟨rfl, rfl⟩))
          go_ret
          exact ⟨ret_bool (by rw [HN.out, HV.out, HY.out, H4.out]; rfl), by exact bel⟩
        · have H4 := Lib.hid (show decide (us.length ≤ 4) = true by simp; omega)
          go_enter Tryz.func245, Tryz.ntmps245
          go_wp2_with (first | (go_at_call 157; refine (l2Var_any _ _ HS.out).mono ?_; rintro e w' ⟨rfl, rfl⟩) | (go_at_call 78; refine (l2Symbol_any _ _ HS.out).mono ?_; rintro e w' ⟨rfl, rfl⟩))
          obtain ⟨W, hW⟩ : ∃ W, W = w.alloc (.cells #[.string s, .slice p us.length c] 41) := ⟨_, rfl⟩
          have hw0 : W.cell? ⟨w.heap.size, 1, none⟩ = some (.slice p us.length c) := by rw [hW]; go_simp
          have hbW : Below w.heap.size w W := by rw [hW]; exact bel
          rw [← hW]
          clear hW
          go_loopw [3] (fun i wr => ∃ k : Nat, k ≤ us.length ∧ i = .int .i64 k ∧ Tm.nodess us = Tm.nodess (us.drop k) ∧ Below W.heap.size W wr) (fun i _ => us.length - (intOf i).toNat)
          case atStart => exact ⟨0, Nat.zero_le _, rfl, rfl, Below.refl _ _⟩
          case round =>
            obtain ⟨k, hk, rfl, he, hbr⟩ := hrel
            have HE := Lib.hid he
            clear he
            have hb := Below.step hbW hbr
            have hw1 : wr.cell? ⟨w.heap.size, 1, none⟩ = some (.slice p us.length c) := (hbr.cell (World.block_lt_of_cell? W _ hw0)).trans hw0
            by_cases hlt : k < us.length
            · obtain ⟨b, o, rfl, hB, x0, x1, hx0, hx1, hx⟩ := (HL.out.mono (SameOn.below hb) (fun _ h => h) (fun x cs _ hx => TmAt.below hb hx)).at2 hlt
              obtain ⟨pa, ca, rfl, rfl, -, -⟩ := hx.form
              have HD := Lib.hid (Tm.nodess_drop us hlt)
              obtain ⟨a, ha⟩ : ∃ a, us[k] = a := ⟨_, rfl⟩
              rw [ha] at hx HD hx0 hx1
              have HX := Lib.hid hx
              clear hx ha
              cases hN : a.nodes
              all_goals
                have HA := Lib.hid hN
                go_wp2_with fail
                refine (IH.out a _ _ _ HX.out).mono ?_
                rintro e w1 ⟨rfl, hb1⟩
                have ⟨cw1, fw1⟩ := bcell hb1
                have qw1 := hb1.size
                (try simp at qw1)
                (try have zw1w := bsz (show w.heap.size < w1.heap.size by omega))
                have hbb := Below.step hbr hb1
                have hbw := Below.step hb hb1
                rw [HA.out]
                go_wp2
              · go_ret
                exact ⟨ret_bool (by rw [HN.out, HV.out, HY.out, H4.out, HE.out, HD.out, HA.out]; rfl), hbw⟩
              · refine ⟨⟨k + 1, by omega, by go_num, ?_, hbb⟩, by simp [intOf]; omega⟩
                rw [HE.out, HD.out, HA.out]; rfl
            · obtain rfl : k = us.length := by omega
              have he := HE.out
              rw [List.drop_length, Tm.nodess] at he
              have HE2 := Lib.hid he
              clear he
              go_wp2
              go_ret
              exact ⟨ret_bool (by rw [HN.out, HV.out, HY.out, H4.out, HE2.out]; rfl), hb⟩
    · have HV := Lib.hid hv
      have HE := Lib.hid (isEmpty_int us)
      go_enter Tryz.func245, Tryz.ntmps245
      go_wp2_with (first | (go_at_call 157; refine (l2Var_any _ _ HS.out).mono ?_; rintro e w' ⟨rfl, rfl⟩))
      go_ret
      exact ⟨ret_bool (by rw [HN.out, HV.out, if_pos rfl, HE.out]), by exact bel⟩
theorem isSmall_any {B : Nat → Prop} (m : Nat) (t : Tm) (v0 v1 : Value) (w : World) (h : TmAt B m w t [v0, v1]) (hz : t.sz ≤ 100000000) :
      Calls Tryz.prog 198 #[.agg #[v0, v1]] w fun e w' => e = .returned (.bool t.small) ∧ Below w.heap.size w w' := by
  obtain ⟨p, c, rfl, rfl, -, -⟩ := h.form
  have H := Lib.hid h
  have HT := Lib.hid (show t.small = (decide (t.szI ≤ 30) && decide (t.dp ≤ 8)) by rw [Tm.small, Tm.szI_iff])
  clear h
  by_cases h1 : (t.szI : Int) ≤ 30
  · have H1 := Lib.hid (show decide (t.szI ≤ 30) = true by simp; omega)
    have HD := Lib.hid (show decide (t.dp ≤ 8) = decide ((t.dp : Int) ≤ 8) by rw [decide_eq_decide]; omega)
    go_enter Tryz.func198, Tryz.ntmps198
    go_wp2_with (first | (go_at_call 240; refine (size_any m t _ _ _ (H.out.below (by (repeat (first | with_reducible (first | exact bR _ _ | assumption | refine bA ?_ _ | refine bS ?_ (by first | exact Nat.le_refl _ | (simp; done) | (simp; omega)) _) | assumption | exact bR _ _ | refine bD ?_ | refine bN ?_ _ | refine bT ?_ (by assumption))))) hz).mono ?_; rintro e w1 ⟨rfl, hb1⟩; have ⟨cw1, fw1⟩ := bcell hb1; have qw1 := hb1.size; (try simp at qw1); (try have zw1w := bsz (show w.heap.size < w1.heap.size by omega))) | (go_at_call 241; refine (depth_any m t _ _ _ (H.out.below (by (repeat (first | with_reducible (first | exact bR _ _ | assumption | refine bA ?_ _ | refine bS ?_ (by first | exact Nat.le_refl _ | (simp; done) | (simp; omega)) _) | assumption | exact bR _ _ | refine bD ?_ | refine bN ?_ _ | refine bT ?_ (by assumption))))) hz).mono ?_; rintro e w2 ⟨rfl, hb2⟩; have ⟨cw2, fw2⟩ := bcell hb2; have qw2 := hb2.size; (try simp at qw2); (try have zw2w := bsz (show w.heap.size < w2.heap.size by omega)); (try have zw2w1 := bsz (show w1.heap.size < w2.heap.size by omega))))
    go_ret
    exact ⟨ret_bool (by rw [HT.out, H1.out, HD.out]; rfl), by exact bel⟩
  · have H1 := Lib.hid (show decide (t.szI ≤ 30) = false by simp; omega)
    go_enter Tryz.func198, Tryz.ntmps198
    go_wp2_with (first | (go_at_call 240; refine (size_any m t _ _ _ (H.out.below (by (repeat (first | with_reducible (first | exact bR _ _ | assumption | refine bA ?_ _ | refine bS ?_ (by first | exact Nat.le_refl _ | (simp; done) | (simp; omega)) _) | assumption | exact bR _ _ | refine bD ?_ | refine bN ?_ _ | refine bT ?_ (by assumption))))) hz).mono ?_; rintro e w1 ⟨rfl, hb1⟩; have ⟨cw1, fw1⟩ := bcell hb1; have qw1 := hb1.size; (try simp at qw1); (try have zw1w := bsz (show w.heap.size < w1.heap.size by omega))))
    go_ret
    exact ⟨ret_bool (by rw [HT.out, H1.out]; rfl), by exact bel⟩
theorem l2Fits_any {B : Nat → Prop} (m : Nat) (t : Tm) (v0 v1 : Value) (w : World) (h : TmAt B m w t [v0, v1]) (hz : t.sz ≤ 100000000) :
      Calls Tryz.prog 244 #[.agg #[v0, v1]] w fun e w' => e = .returned (.bool t.small) ∧ Below w.heap.size w w' := by
  obtain ⟨p, c, rfl, rfl, -, -⟩ := h.form
  have H := Lib.hid h
  have HT := Lib.hid (show t.small = (decide (t.many 30 ≤ 30) && decide (t.dp ≤ 8)) by rw [Tm.small, Tm.many_iff])
  clear h
  by_cases h1 : (t.many 30 : Int) ≤ 30
  · have H1 := Lib.hid (show decide (t.many 30 ≤ 30) = true by simp; omega)
    have HD := Lib.hid (show decide (t.dp ≤ 8) = decide ((t.dp : Int) ≤ 8) by rw [decide_eq_decide]; omega)
    go_enter Tryz.func244, Tryz.ntmps244
    go_wp2_with (first | (go_at_call 270; refine (l2Many_any m t _ _ 30 _ _ (H.out.below (by (repeat (first | with_reducible (first | exact bR _ _ | assumption | refine bA ?_ _ | refine bS ?_ (by first | exact Nat.le_refl _ | (simp; done) | (simp; omega)) _) | assumption | exact bR _ _ | refine bD ?_ | refine bN ?_ _ | refine bT ?_ (by assumption))))) hz (by rfl) (by decide)).mono ?_; rintro e w1 ⟨rfl, hb1⟩; have ⟨cw1, fw1⟩ := bcell hb1; have qw1 := hb1.size; (try simp at qw1); (try have zw1w := bsz (show w.heap.size < w1.heap.size by omega))) | (go_at_call 271; refine (l2Depth_any m t _ _ _ (H.out.below (by (repeat (first | with_reducible (first | exact bR _ _ | assumption | refine bA ?_ _ | refine bS ?_ (by first | exact Nat.le_refl _ | (simp; done) | (simp; omega)) _) | assumption | exact bR _ _ | refine bD ?_ | refine bN ?_ _ | refine bT ?_ (by assumption))))) hz).mono ?_; rintro e w2 ⟨rfl, hb2⟩; have ⟨cw2, fw2⟩ := bcell hb2; have qw2 := hb2.size; (try simp at qw2); (try have zw2w := bsz (show w.heap.size < w2.heap.size by omega)); (try have zw2w1 := bsz (show w1.heap.size < w2.heap.size by omega))))
    go_ret
    exact ⟨ret_bool (by rw [HT.out, H1.out, HD.out]; rfl), by exact bel⟩
  · have H1 := Lib.hid (show decide (t.many 30 ≤ 30) = false by simp; omega)
    go_enter Tryz.func244, Tryz.ntmps244
    go_wp2_with (first | (go_at_call 270; refine (l2Many_any m t _ _ 30 _ _ (H.out.below (by (repeat (first | with_reducible (first | exact bR _ _ | assumption | refine bA ?_ _ | refine bS ?_ (by first | exact Nat.le_refl _ | (simp; done) | (simp; omega)) _) | assumption | exact bR _ _ | refine bD ?_ | refine bN ?_ _ | refine bT ?_ (by assumption))))) hz (by rfl) (by decide)).mono ?_; rintro e w1 ⟨rfl, hb1⟩; have ⟨cw1, fw1⟩ := bcell hb1; have qw1 := hb1.size; (try simp at qw1); (try have zw1w := bsz (show w.heap.size < w1.heap.size by omega))))
    go_ret
    exact ⟨ret_bool (by rw [HT.out, H1.out]; rfl), by exact bel⟩
end Go.Proofs.YtkgfanajgdelcaaGreatDoor
