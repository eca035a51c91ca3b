import Derived.Laws.OwnMore
import Derived.Laws.Bits64b
import Derived.Test.YtmbkjdkjemlfkaaGreatDoorDfPart1
namespace Go.Proofs.YtmbkjdkjemlfkaaGreatDoor
set_option maxRecDepth 100000
open Go.RowKit
/-! Worlds that differ in one block alone. -/
section
variable {w w1 w2 : World} {g : Nat}
theorem gr_refl (w : World) (g : Nat) : w.grownBy w (some g) := ⟨rfl, rfl, rfl, Nat.le_refl _, fun _ _ _ => rfl⟩
theorem gr_trans (h : w.grownBy w1 (some g)) (h2 : w1.grownBy w2 (some g)) : w.grownBy w2 (some g) :=
  ⟨h2.os.trans h.os, h2.tape.trans h.tape, h2.output.trans h.output, Nat.le_trans h.size h2.size, fun k hk hne => (h2.block k (Nat.lt_of_lt_of_le hk h.size) hne).trans (h.block k hk hne)⟩
theorem gr_below (h : w.grownBy w1 (some g)) (hb : Below w1.heap.size w1 w2) : w.grownBy w2 (some g) :=
  gr_trans h ⟨hb.os, hb.tape, hb.output, hb.size, fun k hk _ => hb.block k hk⟩
theorem gr_al (h : w.grownBy w1 (some g)) (o : Obj) : w.grownBy (w1.alloc o) (some g) := gr_below h ((Below.refl _ _).alloc (Nat.le_refl _) o)
theorem gr_dr (h : w.grownBy w1 (some g)) : w.grownBy w1.drew (some g) := gr_below h ((Below.refl _ _).drew)
theorem gr_sc (h : w.grownBy w1 (some g)) {p : Addr} (hp : p.block = g ∨ w.heap.size ≤ p.block) (u : Value) : w.grownBy (w1.setCell p u) (some g) := by
  refine ⟨h.os, h.tape, h.output, by simpa using h.size, fun k hk hne => ?_⟩
  refine (heap_setCell_other w1 p k u (fun e => ?_)).trans (h.block k hk hne)
  rcases hp with hp | hp
  · exact hne (by rw [← hp, e])
  · omega
theorem gr_to_below {B : Nat} (h : w.grownBy w1 (some g)) (hB : B ≤ g) (hBw : B ≤ w.heap.size) : Below B w w1 :=
  ⟨h.os, h.tape, h.output, h.size, fun k hk => h.block k (by omega) (by simp; omega)⟩
theorem gcell (h : w.grownBy w1 (some g)) : (∀ b o, b < w.heap.size → b ≠ g → w1.cell? ⟨b, o, none⟩ = w.cell? ⟨b, o, none⟩) ∧ (∀ b o, b < w.heap.size → b ≠ g → w1.frozen? ⟨b, o, none⟩ = w.frozen? ⟨b, o, none⟩) :=
  ⟨fun b o hb hne => World.cell?_of_block (h.block b hb (by simpa using hne)), fun b o hb hne => World.frozen?_of_block (h.block b hb (by simpa using hne))⟩
end
def CodeIs (w : World) (g : Nat) (v : Value) : Prop := ∃ code : List UInt8, code.length ≤ 1000000 ∧ ListAt (fun b => b < g) w 1 (fun x cs => cs = [.int .u8 (x.toNat : Int)]) v code
theorem CodeIs.grown {w w1 : World} {g : Nat} {v : Value} (h : CodeIs w g v) (hg : w.grownBy w1 (some g)) : CodeIs w1 g v := by
  obtain ⟨code, h1, h2⟩ := h
  exact ⟨code, h1, h2.mono (fun b hb hlt => hg.block b hlt (by simp; omega)) (fun _ h => h) (fun _ _ _ h => h)⟩
def Cur (w : World) (g m : Nat) : Prop :=
  ∃ (v : Value) (a : Nat) (s : Int), w.heap[g]? = some (.cells #[v, .int .i64 a, .int .u64 s] 40 (0, 0)) ∧ a ≤ m ∧ m ≤ 1000000000 ∧ 0 ≤ s ∧ s ≤ 18446744073709551615 ∧ CodeIs w g v
theorem Cur.lt {w : World} {g m : Nat} (h : Cur w g m) : g < w.heap.size := by
  obtain ⟨v, a, s, h, _⟩ := h
  rcases Nat.lt_or_ge g w.heap.size with h' | h'
  · exact h'
  · rw [Array.getElem?_eq_none h'] at h; cases h
theorem Cur.below {w w1 : World} {g m : Nat} (h : Cur w g m) (hb : Below w.heap.size w w1) : Cur w1 g m := by
  have hlt := h.lt
  obtain ⟨v, a, s, h1, h2, h3, h4, h5, h6⟩ := h
  exact ⟨v, a, s, (hb.block g hlt).trans h1, h2, h3, h4, h5, h6.grown ⟨hb.os, hb.tape, hb.output, hb.size, fun k hk _ => hb.block k hk⟩⟩
theorem Cur.more {w : World} {g m n : Nat} (h : Cur w g m) (hn : m ≤ n) (hm : n ≤ 1000000000) : Cur w g n := by
  obtain ⟨v, a, s, h1, h2, h3, h4⟩ := h
  exact ⟨v, a, s, h1, Nat.le_trans h2 hn, hm, h4⟩
def Step (g m k : Nat) (p : Value → Prop) (w : World) (e : Ending) (w' : World) : Prop :=
  ∃ v, e = .returned v ∧ p v ∧ Cur w' g (m + k) ∧ w.grownBy w' (some g)
def IsIn (lo hi : Int) (v : Value) : Prop := ∃ r : Int, v = .int .i64 r ∧ lo ≤ r ∧ r ≤ hi
theorem cells3_cell {w : World} {g : Nat} {x y z : Value} {t : TypeId} (h : w.heap[g]? = some (.cells #[x, y, z] t (0, 0))) :
    w.cell? ⟨g, 0, none⟩ = some x ∧ w.cell? ⟨g, 1, none⟩ = some y ∧ w.cell? ⟨g, 2, none⟩ = some z ∧ (∀ j, w.frozen? ⟨g, j, none⟩ = false) := by
  refine ⟨?_, ?_, ?_, fun j => frozen_of_row w g j _ _ h⟩
  · rw [cell_of_row w g 0 _ _ (0, 0) h]; rfl
  · rw [cell_of_row w g 1 _ _ (0, 0) h]; rfl
  · rw [cell_of_row w g 2 _ _ (0, 0) h]; rfl
theorem u64_bd (n : Int) : 0 ≤ IntKind.u64.wrap n ∧ IntKind.u64.wrap n ≤ 18446744073709551615 := by
  rw [IntKind.wrap_u64]; omega
theorem and255 (x : Int) (h0 : 0 ≤ x) (h1 : x ≤ 18446744073709551615) : 0 ≤ wrap64 (bits .and .u64 (x / 1099511627776) 255) ∧ wrap64 (bits .and .u64 (x / 1099511627776) 255) ≤ 255 := by
  have hq0 : 0 ≤ x / 1099511627776 := by omega
  have hq1 : x / 1099511627776 ≤ 18446744073709551615 := by omega
  generalize x / 1099511627776 = q at *
  obtain ⟨a, rfl⟩ := Int.eq_ofNat_of_zero_le hq0
  have h := bits_and_u64_nat a 255 (by omega) (by omega)
  rw [show ((255 : Nat) : Int) = 255 from rfl] at h
  rw [h]
  have hle : a &&& 255 ≤ 255 := Nat.and_le_right
  rw [IntWalk.wrap64_in _ (by omega)]; omega
theorem Cur.stepped {w' : World} {g m a : Nat} {v : Value} {s : Int} (hb : w'.heap[g]? = some (.cells #[v, .int .i64 ((a : Int) + 1), .int .u64 s] 40 (0, 0))) (h1 : a ≤ m) (hm : m + 1 ≤ 1000000000) (h2 : 0 ≤ s ∧ s ≤ 18446744073709551615) (h3 : CodeIs w' g v) : Cur w' g (m + 1) :=
  ⟨v, a + 1, s, by simpa using hb, by omega, hm, h2.1, h2.2, h3⟩
theorem block3_set {w : World} {g : Nat} {x y z y' z' : Value} {t : TypeId} (h : w.heap[g]? = some (.cells #[x, y, z] t (0, 0))) :
    ((w.setCell ⟨g, 1, none⟩ y').setCell ⟨g, 2, none⟩ z').heap[g]? = some (.cells #[x, y', z'] t (0, 0)) := by
  have h1 := heap_setCell_same w g 1 #[x, y, z] t y' h
  have h2 := heap_setCell_same _ g 2 _ t z' h1
  simpa using h2
theorem next_end {g m a : Nat} {w y1 wz : World} {v : Value} {s s' r : Int} (hlt : g < w.heap.size) (hb : w.heap[g]? = some (.cells #[v, .int .i64 a, .int .u64 s] 40 (0, 0))) (h1 : a ≤ m) (hm : m + 1 ≤ 1000000000) (hc : CodeIs w g v)
    (hb1 : Below w.heap.size w y1) (hb2 : Below y1.heap.size ((y1.setCell ⟨g, 1, none⟩ (.int .i64 ((a : Int) + 1))).setCell ⟨g, 2, none⟩ (.int .u64 s')) wz) (hs : 0 ≤ s' ∧ s' ≤ 18446744073709551615) (hr : 0 ≤ r ∧ r ≤ 255) :
    Step g m 1 (IsIn 0 255) w (.returned (.int .i64 r)) wz := by
  have hg : w.grownBy wz (some g) := gr_below (gr_sc (gr_sc (gr_below (gr_refl w g) hb1) (.inl rfl) _) (.inl rfl) _) (by simpa using hb2)
  have hlt1 := hb1.size
  exact ⟨_, rfl, ⟨r, rfl, hr.1, hr.2⟩, Cur.stepped (w' := wz) ((hb2.block g (by omega)).trans (block3_set ((hb1.block g hlt).trans hb))) h1 hm hs (hc.grown hg), hg⟩
set_option maxHeartbeats 1600000 in
theorem next_any (g m : Nat) (w : World) (h : Cur w g m) (hm : m + 1 ≤ 1000000000) : Calls Tryz.prog 91 #[.pointer (some ⟨g, 0, none⟩)] w (Step g m 1 (IsIn 0 255) w) := by
  have hlt := h.lt
  obtain ⟨v, a, s, h1, h2, _, h4, h5, h6⟩ := h
  obtain ⟨hc0, hc1, hc2, hfr⟩ := cells3_cell h1
  have H1 := Lib.hid h1
  have H6 := Lib.hid h6
  clear h1
  obtain ⟨code, hlen, hl⟩ := h6
  obtain ⟨p, cap, rfl, -⟩ := hl.form
  have HL := Lib.hid hl
  clear hl
  by_cases ha : a < code.length
  · obtain ⟨b, o, rfl, hne, x0, hx, hx0⟩ := HL.out.at1 ha
    obtain ⟨x, hxx⟩ : ∃ x, code[a] = x := ⟨_, rfl⟩
    rw [hxx] at hx0
    simp only [List.cons.injEq, and_true] at hx0
    subst hx0
    clear hxx
    have hx256 := x.toNat_lt
    have hwx := wrap64_byte x
    have hix : IntKind.i64.wrap (x.toNat : Int) = x.toNat := IntWalk.i64_in _ (by omega)
    go_enter Tryz.func91, Tryz.ntmps91
    go_wp2
    obtain ⟨C, HC0⟩ := class_of (InF w.heap.size _ [(⟨g, 0, none⟩, .slice (some ⟨b, o, none⟩) code.length cap), (⟨g, 1, none⟩, .int .i64 a), (⟨g, 2, none⟩, .int .u64 s)] [] [])
    have HC := Lib.hid HC0
    clear HC0
    refine wp_region_flow (C := C) (by kernel_rfl) (by kernel_rfl) (fun L hL => (HC.out _ _).2 (InF.start (by first | (intro _ hs; cases hs; done) | (simp only [List.forall_mem_cons]; go_simp)) (by first | (intro _ hs; cases hs; done) | (simp only [List.forall_mem_cons]; go_simp)) (by first | (intro _ hs; cases hs; done) | (simp only [List.forall_mem_cons]; go_simp)) (by first | (intro _ hs; cases hs; done) | (simp only [List.forall_mem_cons]; go_simp)) L hL)) ?_
    repeat (first | ((first | apply flow_free rfl | (apply flow_yes; (case hw => go_simp))); (intro L w' hun hrd hC; have hC := (HC.out _ _).1 hC; have hb' := hC.below; have hf' := hC.cell; (try simp only [List.forall_mem_cons] at hf'); go_simp; first | exact ⟨(HC.out _ _).2 (hC.skip _ (by rfl)), rfl⟩ | (rw [if_neg]; (exact ⟨(HC.out _ _).2 (hC.skip _ (by rfl)), rfl⟩); omega) | fail); go_simp) | (apply flow_no; (case hw => (go_simp; try (intro hh; cases hh))); (intro L w' _ _ hC; exact (HC.out _ _).2 (((HC.out _ _).1 hC).skip _ (by rfl))); go_simp))
    refine flow_nil ?_
    intro L wz hL hz
    have hz := (HC.out _ _).1 hz
    have hbz := hz.below
    have hcz := hz.cell
    try simp only [List.forall_mem_cons] at hcz
    have hdz := hz.done
    try simp only [List.forall_mem_cons] at hdz
    (try have hwz : Below w.heap.size w wz := by first | exact Below.trans (by (repeat (first | with_reducible (first | exact bR _ _ | assumption | refine bA ?_ _ | refine bS ?_ (by first | exact Nat.le_refl _ | (simp; done) | (simp; omega)) _) | assumption | exact bR _ _ | refine bD ?_ | refine bN ?_ _ | refine bT ?_ (by assumption)))) hbz | ((repeat (first | with_reducible (first | exact bR _ _ | assumption | refine bA ?_ _ | refine bS ?_ (by first | exact Nat.le_refl _ | (simp; done) | (simp; omega)) _) | assumption | exact bR _ _ | refine bD ?_ | refine bN ?_ _ | refine bT ?_ (by assumption))); done))
    have ⟨cz, fz⟩ := bcell hbz
    have hgz : g < wz.heap.size := Nat.lt_of_lt_of_le hlt hbz.size
    have hxz := (hbz.cell (World.block_lt_of_cell? w _ hx)).trans hx
    have hb1 := hbz
    obtain ⟨y0, hy0⟩ : ∃ y, y = wz := ⟨_, rfl⟩
    subst hy0
    go_wp2
    obtain ⟨C, HC0⟩ := class_of (InF y0.heap.size _ [(⟨g, 0, none⟩, .slice (some ⟨b, o, none⟩) code.length cap), (⟨g, 1, none⟩, .int .i64 a), (⟨g, 2, none⟩, .int .u64 s), (⟨b, o + a, none⟩, .int .u8 (x.toNat : Int))] [] [])
    have HC := Lib.hid HC0
    clear HC0
    refine wp_region_flow (C := C) (by kernel_rfl) (by kernel_rfl) (fun L hL => (HC.out _ _).2 (InF.start (by first | (intro _ hs; cases hs; done) | (simp only [List.forall_mem_cons]; go_simp)) (by first | (intro _ hs; cases hs; done) | (simp only [List.forall_mem_cons]; go_simp)) (by first | (intro _ hs; cases hs; done) | (simp only [List.forall_mem_cons]; go_simp)) (by first | (intro _ hs; cases hs; done) | (simp only [List.forall_mem_cons]; go_simp)) L hL)) ?_
    repeat (first | ((first | apply flow_free rfl | (apply flow_yes; (case hw => go_simp))); (intro L w' hun hrd hC; have hC := (HC.out _ _).1 hC; have hb' := hC.below; have hf' := hC.cell; (try simp only [List.forall_mem_cons] at hf'); go_simp; first | exact ⟨(HC.out _ _).2 (hC.skip _ (by rfl)), rfl⟩ | (rw [if_neg]; (exact ⟨(HC.out _ _).2 (hC.skip _ (by rfl)), rfl⟩); omega) | fail); go_simp) | (apply flow_no; (case hw => (go_simp; try (intro hh; cases hh))); (intro L w' _ _ hC; exact (HC.out _ _).2 (((HC.out _ _).1 hC).skip _ (by rfl))); go_simp))
    refine flow_nil ?_
    intro L wz hL hz
    have hz := (HC.out _ _).1 hz
    have hbz := hz.below
    have hcz := hz.cell
    try simp only [List.forall_mem_cons] at hcz
    have hdz := hz.done
    try simp only [List.forall_mem_cons] at hdz
    (try have hwz : Below w.heap.size w wz := by first | exact Below.trans (by (repeat (first | with_reducible (first | exact bR _ _ | assumption | refine bA ?_ _ | refine bS ?_ (by first | exact Nat.le_refl _ | (simp; done) | (simp; omega)) _) | assumption | exact bR _ _ | refine bD ?_ | refine bN ?_ _ | refine bT ?_ (by assumption)))) hbz | ((repeat (first | with_reducible (first | exact bR _ _ | assumption | refine bA ?_ _ | refine bS ?_ (by first | exact Nat.le_refl _ | (simp; done) | (simp; omega)) _) | assumption | exact bR _ _ | refine bD ?_ | refine bN ?_ _ | refine bT ?_ (by assumption))); done))
    have ⟨cz2, fz2⟩ := bcell hbz
    have hb1 := Below.step hb1 hbz
    have hgz2 : g < wz.heap.size := Nat.lt_of_lt_of_le hlt hb1.size
    obtain ⟨y1, hy1⟩ : ∃ y, y = wz := ⟨_, rfl⟩
    subst hy1
    go_wp2
    obtain ⟨C, HC0⟩ := class_of (InF y1.heap.size _ [(⟨g, 0, none⟩, .slice (some ⟨b, o, none⟩) code.length cap), (⟨g, 1, none⟩, .int .i64 (a + 1)), (⟨g, 2, none⟩, .int .u64 (IntKind.u64.wrap (IntKind.u64.wrap (IntKind.u64.wrap (s * 6364136223846793005) + x.toNat) + 892892)))] [] [])
    have HC := Lib.hid HC0
    clear HC0
    refine wp_region_flow (C := C) (by kernel_rfl) (by kernel_rfl) (fun L hL => (HC.out _ _).2 (InF.start (by first | (intro _ hs; cases hs; done) | (simp only [List.forall_mem_cons]; go_simp)) (by first | (intro _ hs; cases hs; done) | (simp only [List.forall_mem_cons]; go_simp)) (by first | (intro _ hs; cases hs; done) | (simp only [List.forall_mem_cons]; go_simp)) (by first | (intro _ hs; cases hs; done) | (simp only [List.forall_mem_cons]; go_simp)) L hL)) ?_
    repeat (first | ((first | apply flow_free rfl | (apply flow_yes; (case hw => go_simp))); (intro L w' hun hrd hC; have hC := (HC.out _ _).1 hC; have hb' := hC.below; have hf' := hC.cell; (try simp only [List.forall_mem_cons] at hf'); go_simp; first | exact ⟨(HC.out _ _).2 (hC.skip _ (by rfl)), rfl⟩ | (rw [if_neg]; (exact ⟨(HC.out _ _).2 (hC.skip _ (by rfl)), rfl⟩); omega) | fail); go_simp) | (apply flow_no; (case hw => (go_simp; try (intro hh; cases hh))); (intro L w' _ _ hC; exact (HC.out _ _).2 (((HC.out _ _).1 hC).skip _ (by rfl))); go_simp))
    refine flow_nil ?_
    intro L wz hL hz
    have hz := (HC.out _ _).1 hz
    have hbz := hz.below
    have hcz := hz.cell
    try simp only [List.forall_mem_cons] at hcz
    have hdz := hz.done
    try simp only [List.forall_mem_cons] at hdz
    (try have hwz : Below w.heap.size w wz := by first | exact Below.trans (by (repeat (first | with_reducible (first | exact bR _ _ | assumption | refine bA ?_ _ | refine bS ?_ (by first | exact Nat.le_refl _ | (simp; done) | (simp; omega)) _) | assumption | exact bR _ _ | refine bD ?_ | refine bN ?_ _ | refine bT ?_ (by assumption)))) hbz | ((repeat (first | with_reducible (first | exact bR _ _ | assumption | refine bA ?_ _ | refine bS ?_ (by first | exact Nat.le_refl _ | (simp; done) | (simp; omega)) _) | assumption | exact bR _ _ | refine bD ?_ | refine bN ?_ _ | refine bT ?_ (by assumption))); done))
    go_wp2
    go_ret
    exact next_end hlt H1.out h2 hm H6.out hb1 hbz (u64_bd _) (by omega)
  · have ha1 : ¬ (a : Int) < code.length := by omega
    have ha2 : ¬ (a : Int) + 1 ≤ code.length := by omega
    go_enter Tryz.func91, Tryz.ntmps91
    go_wp2
    obtain ⟨C, HC0⟩ := class_of (InF w.heap.size _ [(⟨g, 0, none⟩, .slice p code.length cap), (⟨g, 1, none⟩, .int .i64 a), (⟨g, 2, none⟩, .int .u64 s)] [] [])
    have HC := Lib.hid HC0
    clear HC0
    refine wp_region_flow (C := C) (by kernel_rfl) (by kernel_rfl) (fun L hL => (HC.out _ _).2 (InF.start (by first | (intro _ hs; cases hs; done) | (simp only [List.forall_mem_cons]; go_simp)) (by first | (intro _ hs; cases hs; done) | (simp only [List.forall_mem_cons]; go_simp)) (by first | (intro _ hs; cases hs; done) | (simp only [List.forall_mem_cons]; go_simp)) (by first | (intro _ hs; cases hs; done) | (simp only [List.forall_mem_cons]; go_simp)) L hL)) ?_
    repeat (first | ((first | apply flow_free rfl | (apply flow_yes; (case hw => go_simp))); (intro L w' hun hrd hC; have hC := (HC.out _ _).1 hC; have hb' := hC.below; have hf' := hC.cell; (try simp only [List.forall_mem_cons] at hf'); go_simp; first | exact ⟨(HC.out _ _).2 (hC.skip _ (by rfl)), rfl⟩ | (rw [if_neg]; (exact ⟨(HC.out _ _).2 (hC.skip _ (by rfl)), rfl⟩); omega) | fail); go_simp) | (apply flow_no; (case hw => (go_simp; try (intro hh; cases hh))); (intro L w' _ _ hC; exact (HC.out _ _).2 (((HC.out _ _).1 hC).skip _ (by rfl))); go_simp))
    refine flow_nil ?_
    intro L wz hL hz
    have hz := (HC.out _ _).1 hz
    have hbz := hz.below
    have hcz := hz.cell
    try simp only [List.forall_mem_cons] at hcz
    have hdz := hz.done
    try simp only [List.forall_mem_cons] at hdz
    (try have hwz : Below w.heap.size w wz := by first | exact Below.trans (by (repeat (first | with_reducible (first | exact bR _ _ | assumption | refine bA ?_ _ | refine bS ?_ (by first | exact Nat.le_refl _ | (simp; done) | (simp; omega)) _) | assumption | exact bR _ _ | refine bD ?_ | refine bN ?_ _ | refine bT ?_ (by assumption)))) hbz | ((repeat (first | with_reducible (first | exact bR _ _ | assumption | refine bA ?_ _ | refine bS ?_ (by first | exact Nat.le_refl _ | (simp; done) | (simp; omega)) _) | assumption | exact bR _ _ | refine bD ?_ | refine bN ?_ _ | refine bT ?_ (by assumption))); done))
    have ⟨cz, fz⟩ := bcell hbz
    have hb1 := hbz
    obtain ⟨y1, hy1⟩ : ∃ y, y = wz := ⟨_, rfl⟩
    subst hy1
    go_wp2
    obtain ⟨C, HC0⟩ := class_of (InF y1.heap.size _ [(⟨g, 0, none⟩, .slice p code.length cap), (⟨g, 1, none⟩, .int .i64 (a + 1)), (⟨g, 2, none⟩, .int .u64 (IntKind.u64.wrap (IntKind.u64.wrap (IntKind.u64.wrap (s * 6364136223846793005)) + 892892)))] [] [])
    have HC := Lib.hid HC0
    clear HC0
    refine wp_region_flow (C := C) (by kernel_rfl) (by kernel_rfl) (fun L hL => (HC.out _ _).2 (InF.start (by first | (intro _ hs; cases hs; done) | (simp only [List.forall_mem_cons]; go_simp)) (by first | (intro _ hs; cases hs; done) | (simp only [List.forall_mem_cons]; go_simp)) (by first | (intro _ hs; cases hs; done) | (simp only [List.forall_mem_cons]; go_simp)) (by first | (intro _ hs; cases hs; done) | (simp only [List.forall_mem_cons]; go_simp)) L hL)) ?_
    repeat (first | ((first | apply flow_free rfl | (apply flow_yes; (case hw => go_simp))); (intro L w' hun hrd hC; have hC := (HC.out _ _).1 hC; have hb' := hC.below; have hf' := hC.cell; (try simp only [List.forall_mem_cons] at hf'); go_simp; first | exact ⟨(HC.out _ _).2 (hC.skip _ (by rfl)), rfl⟩ | (rw [if_neg]; (exact ⟨(HC.out _ _).2 (hC.skip _ (by rfl)), rfl⟩); omega) | fail); go_simp) | (apply flow_no; (case hw => (go_simp; try (intro hh; cases hh))); (intro L w' _ _ hC; exact (HC.out _ _).2 (((HC.out _ _).1 hC).skip _ (by rfl))); go_simp))
    refine flow_nil ?_
    intro L wz hL hz
    have hz := (HC.out _ _).1 hz
    have hbz := hz.below
    have hcz := hz.cell
    try simp only [List.forall_mem_cons] at hcz
    have hdz := hz.done
    try simp only [List.forall_mem_cons] at hdz
    (try have hwz : Below w.heap.size w wz := by first | exact Below.trans (by (repeat (first | with_reducible (first | exact bR _ _ | assumption | refine bA ?_ _ | refine bS ?_ (by first | exact Nat.le_refl _ | (simp; done) | (simp; omega)) _) | assumption | exact bR _ _ | refine bD ?_ | refine bN ?_ _ | refine bT ?_ (by assumption)))) hbz | ((repeat (first | with_reducible (first | exact bR _ _ | assumption | refine bA ?_ _ | refine bS ?_ (by first | exact Nat.le_refl _ | (simp; done) | (simp; omega)) _) | assumption | exact bR _ _ | refine bD ?_ | refine bN ?_ _ | refine bT ?_ (by assumption))); done))
    go_wp2
    go_ret
    exact next_end hlt H1.out h2 hm H6.out hb1 hbz (u64_bd _) (and255 _ (u64_bd _).1 (u64_bd _).2)
set_option maxHeartbeats 1600000 in
theorem pick_any (g m : Nat) (n : Int) (w : World) (h : Cur w g m) (hm : m + 2 ≤ 1000000000) (h1 : 1 ≤ n) (h2 : n ≤ 1000000000) : Calls Tryz.prog 59 #[.pointer (some ⟨g, 0, none⟩), .int .i64 n] w (Step g m 2 (IsIn 0 (n - 1)) w) := by
  have H := Lib.hid h
  clear h
  by_cases ha : n ≤ 1
  · go_enter Tryz.func59, Tryz.ntmps59
    go_wp2
    go_ret
    exact ⟨_, rfl, ⟨0, rfl, by omega, by omega⟩, H.out.more (by omega) (by omega), gr_refl _ _⟩
  · by_cases hb : 200 < n
    · go_enter Tryz.func59, Tryz.ntmps59
      go_wp2_with fail
      refine (next_any g m _ H.out (by omega)).mono ?_
      rintro e w1 ⟨_, rfl, ⟨r1, rfl, hr1, hs1⟩, hc1, hg1⟩
      have HC1 := Lib.hid hc1
      clear hc1
      go_wp2_with fail
      refine (next_any g (m + 1) _ HC1.out (by omega)).mono ?_
      rintro e w2 ⟨_, rfl, ⟨r2, rfl, hr2, hs2⟩, hc2, hg2⟩
      have HC2 := Lib.hid hc2
      clear hc2
      go_wp2_with fail
      go_ret
      refine ⟨_, rfl, ⟨_, rfl, ?_, ?_⟩, HC2.out, gr_trans hg1 hg2⟩
      · exact Int.emod_nonneg _ (by omega)
      · have := Int.emod_lt_of_pos (r1 * 256 + r2) (show 0 < n by omega); omega
    · go_enter Tryz.func59, Tryz.ntmps59
      go_wp2_with fail
      refine (next_any g m _ H.out (by omega)).mono ?_
      rintro e w1 ⟨_, rfl, ⟨r1, rfl, hr1, hs1⟩, hc1, hg1⟩
      have HC1 := Lib.hid hc1
      clear hc1
      go_wp2_with fail
      go_ret
      refine ⟨_, rfl, ⟨_, rfl, ?_, ?_⟩, HC1.out.more (by omega) (by omega), hg1⟩
      · exact Int.emod_nonneg _ (by omega)
      · have := Int.emod_lt_of_pos r1 (show 0 < n by omega); omega
def IsBool (v : Value) : Prop := ∃ b, v = .bool b
theorem one_any (g m : Nat) (n : Int) (w : World) (h : Cur w g m) (hm : m + 2 ≤ 1000000000) (h1 : 1 ≤ n) (h2 : n ≤ 1000000000) : Calls Tryz.prog 29 #[.pointer (some ⟨g, 0, none⟩), .int .i64 n] w (Step g m 2 IsBool w) := by
  have H := Lib.hid h
  clear h
  go_enter Tryz.func29, Tryz.ntmps29
  go_wp2_with fail
  refine (pick_any g m n _ H.out hm h1 h2).mono ?_
  rintro e w1 ⟨_, rfl, ⟨r1, rfl, hr1, hs1⟩, hc1, hg1⟩
  have HC1 := Lib.hid hc1
  clear hc1
  go_wp2_with fail
  go_ret
  exact ⟨_, rfl, ⟨_, rfl⟩, HC1.out, hg1⟩
def IsStr (k : Nat) (v : Value) : Prop := ∃ s : ByteArray, v = .string s ∧ s.size ≤ k
theorem of_any (g m b c k : Nat) (cs : Array Value) (t : TypeId) (fr : Nat × Nat) (w : World) (h : Cur w g m) (hm : m + 2 ≤ 1000000000) (hb : w.heap[b]? = some (.cells cs t fr)) (hbg : b ≠ g) (h0 : 0 < cs.size) (h1 : cs.size ≤ 1000000000) (hs : ∀ v ∈ cs, IsStr k v) :
    Calls Tryz.prog 85 #[.pointer (some ⟨g, 0, none⟩), .slice (some ⟨b, 0, none⟩) cs.size c] w (Step g m 2 (IsStr k) w) := by
  have H := Lib.hid h
  have HB := Lib.hid hb
  have HS := Lib.hid hs
  clear h hb hs
  go_enter Tryz.func85, Tryz.ntmps85
  go_wp2_with fail
  refine (pick_any g m _ _ H.out hm (by omega) (by omega)).mono ?_
  rintro e w1 ⟨_, rfl, ⟨r1, rfl, hr1, hs1⟩, hc1, hg1⟩
  obtain ⟨j, rfl⟩ := Int.eq_ofNat_of_zero_le hr1
  have hj : j < cs.size := by omega
  have hblt := lt_of_block HB.out
  obtain ⟨s, hv, hsz⟩ := HS.out cs[j] (Array.getElem_mem hj)
  have hcell : w1.cell? ⟨b, j, none⟩ = some (.string s) := by
    rw [((gcell hg1).1 b j hblt hbg), cell_of_row w b j cs t fr HB.out, ← hv]; exact Array.getElem?_eq_getElem hj
  have HC1 := Lib.hid hc1
  clear hc1 hv
  go_wp2_with fail
  go_ret
  exact ⟨_, rfl, ⟨_, rfl, hsz⟩, HC1.out, hg1⟩
theorem among_any (g m b c : Nat) (lo hi : Int) (cs : Array Value) (t : TypeId) (fr : Nat × Nat) (w : World) (h : Cur w g m) (hm : m + 2 ≤ 1000000000) (hb : w.heap[b]? = some (.cells cs t fr)) (hbg : b ≠ g) (h0 : 0 < cs.size) (h1 : cs.size ≤ 1000000000) (hs : ∀ v ∈ cs, IsIn lo hi v) :
    Calls Tryz.prog 134 #[.pointer (some ⟨g, 0, none⟩), .slice (some ⟨b, 0, none⟩) cs.size c] w (Step g m 2 (IsIn lo hi) w) := by
  have H := Lib.hid h
  have HB := Lib.hid hb
  have HS := Lib.hid hs
  clear h hb hs
  go_enter Tryz.func134, Tryz.ntmps134
  go_wp2_with fail
  refine (pick_any g m _ _ H.out hm (by omega) (by omega)).mono ?_
  rintro e w1 ⟨_, rfl, ⟨r1, rfl, hr1, hs1⟩, hc1, hg1⟩
  obtain ⟨j, rfl⟩ := Int.eq_ofNat_of_zero_le hr1
  have hj : j < cs.size := by omega
  have hblt := lt_of_block HB.out
  obtain ⟨s, hv, hsz⟩ := HS.out cs[j] (Array.getElem_mem hj)
  have hcell : w1.cell? ⟨b, j, none⟩ = some (.int .i64 s) := by
    rw [((gcell hg1).1 b j hblt hbg), cell_of_row w b j cs t fr HB.out, ← hv]; exact Array.getElem?_eq_getElem hj
  have HC1 := Lib.hid hc1
  clear hc1 hv
  go_wp2_with fail
  go_ret
  exact ⟨_, rfl, ⟨_, rfl, hsz⟩, HC1.out, hg1⟩
theorem of_lit (g m k n b : Nat) (W : World) (cs : Array Value) (t : TypeId) (hn : n = cs.size) (hb : b = W.heap.size) (h : Cur W g m) (hm : m + 2 ≤ 1000000000) (h0 : 0 < cs.size) (h1 : cs.size ≤ 1000000000) (hs : ∀ v ∈ cs, IsStr k v) :
    Calls Tryz.prog 85 #[.pointer (some ⟨g, 0, none⟩), .slice (some ⟨b, 0, none⟩) n n] (W.alloc (.cells cs t)) (Step g m 2 (IsStr k) (W.alloc (.cells cs t))) := by
  subst hn hb
  have hlt := h.lt
  exact of_any g m W.heap.size cs.size k cs t (0, 0) _ (h.below ((Below.refl _ _).alloc (Nat.le_refl _) _)) hm (heap_alloc_new W _) (by omega) h0 h1 hs
theorem Cur.al {w : World} {g m : Nat} (h : Cur w g m) (o : Obj) : Cur (w.alloc o) g m := h.below ((Below.refl _ _).alloc (Nat.le_refl _) o)
theorem Cur.sc {w : World} {g m : Nat} (h : Cur w g m) {p : Addr} (hp : g < p.block) (u : Value) : Cur (w.setCell p u) g m := by
  obtain ⟨v, a, s, h1, h2, h3, h4, h5, code, h6, h7⟩ := h
  exact ⟨v, a, s, (heap_setCell_other w p g u (fun e => by omega)).trans h1, h2, h3, h4, h5, code, h6, h7.mono (SameOn.store w (fun b hb e => by omega) u) (fun _ h => h) (fun _ _ _ h => h)⟩
theorem row2_at {w : World} {g : Nat} {x y : Value} {t : TypeId} (h : w.heap[g]? = some (.cells #[x, y] t (0, 0))) :
    w.cell? ⟨g, 0, none⟩ = some x ∧ w.cell? ⟨g, 1, none⟩ = some y ∧ (∀ j, w.frozen? ⟨g, j, none⟩ = false) := by
  refine ⟨?_, ?_, fun j => frozen_of_row w g j _ _ h⟩
  · rw [cell_of_row w g 0 _ _ (0, 0) h]; rfl
  · rw [cell_of_row w g 1 _ _ (0, 0) h]; rfl
end Go.Proofs.YtmbkjdkjemlfkaaGreatDoor
