import Derived.Laws.IdiomStrings
import Derived.Test.YtkgfanajgdelcaaGreatEnPart16
namespace Go.Proofs.YtkgfanajgdelcaaGreat
set_option maxRecDepth 100000
open Go.RowKit Go.Shelf
attribute [local go_sem] Oper.semAt_some
def disF (f : Fm) (ls : List Lit3) : Fm := ls.foldl (fun f l => opF 6 [l.fm, f]) f
theorem disF_snoc (f : Fm) (ls : List Lit3) (l : Lit3) : disF f (ls ++ [l]) = opF 6 [l.fm, disF f ls] := by simp [disF]
def disj (c : List Lit3) : Fm := match c.reverse with | [] => opF 2 [] | l :: ls => disF l.fm ls
theorem disj_of {c : List Lit3} (h : 0 < c.length) : disj c = disF (c[c.length - 1]'(by omega)).fm (c.take (c.length - 1)).reverse := by
  obtain ⟨ls, l, rfl⟩ : ∃ ls l, c = ls ++ [l] := ⟨c.dropLast, c.getLast (List.ne_nil_of_length_pos h), (List.dropLast_concat_getLast _).symm⟩
  simp [disj]
theorem FmAt.turned {B : Nat → Prop} {X Y : World} {row : Option Nat} {n : Nat} {t : Fm} {cs : List Value} (h : FmAt B n X t cs) (hg : X.grownBy Y row) (hr : ∀ r, row = some r → ∃ o : Obj, X.heap[r]? = some o ∧ o.isCells = false) : FmAt B n Y t cs :=
  FmAt.mono (fun b hb hl => hg.block b hl (fun e => by obtain ⟨o, ho, hc⟩ := hr b e.symm; obtain ⟨o', ho', hc'⟩ := hb.2; rw [ho] at ho'; cases ho'; rw [hc] at hc'; cases hc')) (fun _ hb => hb.1) _ _ _ _ (Nat.le_refl _) (FmAt.cells _ _ _ h)
/-! ### What comes of the range -/
abbrev BackX (B : Nat → Prop) (m : Nat) (w : World) := { x : Lit3 × Int × Value × Value × Value // LitAt B m w x.1 [x.2.2.1, x.2.2.2.1, x.2.2.2.2] ∧ x.1.a.wt ≤ 1048576 }
theorem backs {B : Nat → Prop} {m : Nat} {w : World} {p : Option Addr} {c : Nat} {xs : List Lit3} (h : ListAt B w 3 (LitAt B m w) (.slice p xs.length c) xs) (hw : ∀ l ∈ xs, l.a.wt ≤ 1048576) : ∀ n, n ≤ xs.length →
    ∃ zs : List (BackX B m w), zs.length = n ∧ zs.map (·.1.1) = xs.take n ∧ (∀ k (h : k < zs.length), zs[k].1.2.1 = k) ∧ ∀ k (h : k < zs.length), ∃ b o, p = some ⟨b, o, none⟩ ∧ b < w.heap.size ∧ w.cell? ⟨b, o + k * 3, none⟩ = some zs[k].1.2.2.1 ∧ w.cell? ⟨b, o + k * 3 + 1, none⟩ = some zs[k].1.2.2.2.1 ∧ w.cell? ⟨b, o + k * 3 + 2, none⟩ = some zs[k].1.2.2.2.2
  | 0, _ => ⟨[], rfl, by simp, by simp, by simp⟩
  | n + 1, hn => by
    obtain ⟨zs, h1, h2, h3, h4⟩ := backs h hw n (by omega)
    obtain ⟨b, o, hp, -, x0, x1, x2, hx0, hx1, hx2, hx⟩ := h.at3 (show n < xs.length by omega)
    obtain ⟨e, he⟩ : ∃ e : BackX B m w, e.1 = (xs[n], (n : Int), x0, x1, x2) := ⟨⟨(xs[n], (n : Int), x0, x1, x2), hx, hw _ (List.getElem_mem _)⟩, rfl⟩
    refine ⟨zs ++ [e], by rw [List.length_append, h1]; rfl, by rw [List.map_append, h2, List.map_cons, he, List.map_nil, List.take_append_getElem], fun k hk => ?_, fun k hk => ?_⟩
    · by_cases hkn : k < zs.length
      · rw [List.getElem_append_left hkn]; exact h3 k hkn
      · rw [List.length_append] at hk
        simp only [List.length_cons, List.length_nil] at hk
        obtain rfl : k = n := by omega
        rw [List.getElem_append_right (by omega)]
        simp [h1, he]
    · by_cases hkn : k < zs.length
      · rw [List.getElem_append_left hkn]; exact h4 k hkn
      · rw [List.length_append] at hk
        simp only [List.length_cons, List.length_nil] at hk
        obtain rfl : k = n := by omega
        rw [List.getElem_append_right (by omega)]
        exact ⟨b, o, hp, World.block_lt_of_cell? _ _ hx0, by simpa [h1, he] using hx0, by simpa [h1, he] using hx1, by simpa [h1, he] using hx2⟩
set_option maxHeartbeats 4000000 in
theorem disjunction_any {B : Nat → Prop} (m : Nat) (c : List Lit3) (v : Value) (w : World) (h : ListAt B w 3 (LitAt B m w) v c) (hn : c.length ≤ 8) (hcap : ∀ p d, v = .slice p c.length d → c.length ≤ d) (hw : ∀ l ∈ c, l.a.wt ≤ 1048576) :
    Calls Tryz.prog 48 #[v] w fun e w' => ∃ u0 u1 u2 u3 u4, e = .returned (.agg #[u0, u1, u2, u3, u4]) ∧ FmAt (fun b => w.heap.size ≤ b) (m + 2 + c.length) w' (disj c) [u0, u1, u2, u3, u4] ∧ Below w.heap.size w w' := by
  obtain ⟨p, d, rfl, -⟩ := h.form
  have hcd := hcap _ _ rfl
  clear hcap
  have H := Lib.hid h
  have HW := Lib.hid hw
  by_cases hc0 : c.length = 0
  · obtain rfl : c = [] := List.eq_nil_of_length_eq_zero hc0
    clear h hw
    go_enter Tryz.func48, Tryz.ntmps48
    go_wp2
    refine bodyPost_ret (v := .agg #[.int .i64 2, .string ⟨#[]⟩, .slice none 0 0, .string ⟨#[]⟩, .slice none 0 0]) (by simp only [results, Tryz.results48]; go_simp) rfl ⟨_, _, _, _, _, rfl, ?_, by exact bel⟩
    exact opF_at (by omega) (ListAt.nil _ _ _ _ _ _)
  have hlast : c.length - 1 < c.length := by omega
  obtain ⟨b, o, rfl, hB, x0, x1, x2, hx0, hx1, hx2, hx⟩ := h.at3 hlast
  have hwt := hw _ (List.getElem_mem hlast)
  obtain ⟨zs, hz1, hz2, hz3, hz4⟩ := backs h hw (c.length - 1) (by omega)
  have HD := Lib.hid (disj_of (by omega : 0 < c.length))
  obtain ⟨a, ha⟩ : ∃ a, c[c.length - 1] = a := ⟨_, rfl⟩
  rw [ha] at hx hwt
  rw [ha] at HD
  have HX := Lib.hid hx
  have HZ2 := Lib.hid hz2
  have HZ3 := Lib.hid hz3
  have HZ4 := Lib.hid hz4
  clear h hw ha hx hz2 hz3 hz4
  have hci : ((c.length : Int) == 0) = false := by rw [beq_eq_false_iff_ne]; omega
  have hci1 : IntKind.i64.wrap ((c.length : Int) - 1) = ((c.length - 1 : Nat) : Int) := by rw [IntWalk.i64_in _ (by omega)]; omega
  refine (callsIn_wide (n := 6)).1 ?_
  refine callsIn_of_wp_marks Tryz.func48 rfl trivial ?_ rfl
  simp only [Tryz.ntmps48, List.size_toArray, List.length_cons, List.length_nil, Nat.reduceAdd, Nat.reduceSub, Array.replicate_succ, Array.replicate_zero, List.push_toArray, List.append_toArray, List.nil_append, List.cons_append]
  have zb := bsz (World.block_lt_of_cell? _ _ hx0)
  have R0 : BoxN (w.alloc (.cells #[.int .i64 0, .string ⟨#[]⟩, .slice none 0 0, .string ⟨#[]⟩, .slice none 0 0] 29)) w.heap.size 29 #[.int .i64 0, .string ⟨#[]⟩, .slice none 0 0, .string ⟨#[]⟩, .slice none 0 0] := heap_alloc_new w _
  gi_wp2_with (first | (refine ⟨trivial, ?_⟩; gi_at_call 85; refine (callsIn_wide.2 (formulaOfLiteral_any m a _ _ _ _ (HX.out.below (by (repeat (first | with_reducible (first | exact bR _ _ | assumption | refine bA ?_ _ | refine bS ?_ (by first | exact Nat.le_refl _ | (simp; done) | (simp; omega)) _) | assumption | exact bR _ _ | refine bD ?_ | refine bN ?_ _ | refine bT ?_ (by assumption))))) hwt)).mono ?_; rintro e w1 ⟨u0, u1, u2, u3, u4, rfl, hu, hb1⟩; obtain ⟨pu, cu, qu, du, rfl, rfl, rfl, rfl, rfl, -⟩ := hu.form; have HU := Lib.hid hu; clear hu; have hq1 := hb1.size; simp at hq1) | (refine ⟨trivial, ?_⟩; gi_at_call 86; refine (back_in Fence.wide _ trivial rfl _ _ _ _).mono ?_; rintro e w2 ⟨rfl, rfl⟩))
  have hu2 := FmAt.lies HU.out
  obtain ⟨y0, hy0⟩ : ∃ y, y = Value.int IntKind.i64 a.fm.op := ⟨_, rfl⟩
  obtain ⟨y1, hy1⟩ : ∃ y, y = Value.string a.fm.a.n := ⟨_, rfl⟩
  obtain ⟨y2, hy2⟩ : ∃ y, y = Value.slice pu a.fm.a.us.length cu := ⟨_, rfl⟩
  obtain ⟨y3, hy3⟩ : ∃ y, y = Value.string a.fm.v := ⟨_, rfl⟩
  obtain ⟨y4, hy4⟩ : ∃ y, y = Value.slice qu a.fm.ps.length du := ⟨_, rfl⟩
  rw [← hy0, ← hy1, ← hy2, ← hy3, ← hy4] at hu2 ⊢
  clear hy0 hy1 hy2 hy3 hy4 HU
  obtain ⟨W0, hW0⟩ : ∃ W0 : World, W0 = (w1.alloc (.cells #[y0, y1, y2, y3, y4] 29)).alloc (.cells #[.slice (some ⟨b, o, none⟩) (c.length - 1) d] 37) := ⟨_, rfl⟩
  have bxF : BoxN W0 w1.heap.size 29 #[y0, y1, y2, y3, y4] := by rw [hW0]; exact BoxN.al (heap_alloc_new w1 _) _
  have bxS : BoxN W0 (w1.heap.size + 1) 37 #[.slice (some ⟨b, o, none⟩) (c.length - 1) d] := by rw [hW0]; exact alloc_new_at (by simp)
  have bxR : BoxN W0 w.heap.size 29 #[.int .i64 0, .string ⟨#[]⟩, .slice none 0 0, .string ⟨#[]⟩, .slice none 0 0] := by rw [hW0]; exact (R0.below hb1 (by simp)).al _ |>.al _
  have hB0 : Below w.heap.size w W0 := by rw [hW0]; exact bel
  have hs0 : W0.heap.size = w1.heap.size + 2 := by rw [hW0]; simp
  have hB1 : Below w1.heap.size w1 W0 := by rw [hW0]; exact bel
  have hF0 : FmAt (fun b => w.heap.size < b ∧ b ≠ w1.heap.size) (m + 2) W0 a.fm [y0, y1, y2, y3, y4] := FmAt.mono (SameOn.below hB1) (fun b hb => by simp at hb; omega) _ _ _ _ (Nat.le_refl _) hu2
  rw [← hW0]
  clear hW0 hu2 hB1 R0 hb1
  have bxS' : W0.cell? ⟨w1.heap.size + 1, 0, none⟩ = some (.slice (some ⟨b, o, none⟩) zs.length d) := by rw [hz1]; exact bxS.cell 0
  have hbl : ∀ k (h : k < zs.length), ∃ b' o', some (⟨b, o, none⟩ : Addr) = some ⟨b', o', none⟩ ∧ b' < w.heap.size ∧ W0.cell? ⟨b', o' + k * 3, none⟩ = some zs[k].1.2.2.1 ∧ W0.cell? ⟨b', o' + k * 3 + 1, none⟩ = some zs[k].1.2.2.2.1 ∧ W0.cell? ⟨b', o' + k * 3 + 2, none⟩ = some zs[k].1.2.2.2.2 := fun k h => by
    obtain ⟨b', o', e, h1, h2, h3, h4⟩ := HZ4.out k h
    exact ⟨b', o', e, h1, (hB0.cell (p := ⟨b', _, none⟩) h1).trans h2, (hB0.cell (p := ⟨b', _, none⟩) h1).trans h3, (hB0.cell (p := ⟨b', _, none⟩) h1).trans h4⟩
  refine wpIn_rangeFunc_ownH (F := Fence.wide) (n := 6) rfl (by omega) (gf := 119) (lb := #[.pointer (some ⟨w1.heap.size + 1, 0, none⟩)]) rfl trivial (enters_of Tryz.func119 (by kernel_rfl) rfl)
    (back_stops (fun x : BackX B m w => x.1.2.1) (fun x => x.1.2.2.1) (fun x => x.1.2.2.2.1) (fun x => x.1.2.2.2.2) Fence.wide 5 trivial rfl (by omega) (w1.heap.size + 1) w.heap.size (some ⟨b, o, none⟩) d zs (by omega) HZ3.out W0 (by omega) bxS' hbl)
    (fun h k => h.trans k)
    (fun W l o o' hl h h1 h2 => ⟨belowK_b (w := W0) (by omega) W l o o' hl h h1 h2, fun hlt => World.putObj_heap_other (fun e => by omega)⟩)
    (Below.refl _ _) (fun _ => rfl)
    (fun pre W => ((∃ u0 u1 u2 u3 u4, BoxN W w1.heap.size 29 #[u0, u1, u2, u3, u4] ∧ FmAt (fun b => w.heap.size < b ∧ b ≠ w1.heap.size) (m + 2 + pre.length) W (disF a.fm (pre.map (·.1.1))) [u0, u1, u2, u3, u4]) ∧
      BoxN W w.heap.size 29 #[.int .i64 0, .string ⟨#[]⟩, .slice none 0 0, .string ⟨#[]⟩, .slice none 0 0]) ∧ (Below w.heap.size w W ∧ W0.heap.size ≤ W.heap.size))
    (fun _ _ _ => False)
    (OwnFrom.and (OwnFrom.and (fun s X Y row hs hg hr => by
      obtain ⟨u0, u1, u2, u3, u4, h1, h2⟩ := hs
      exact ⟨u0, u1, u2, u3, u4, boxN_own w1.heap.size 29 (fun (_ : Unit) => #[u0, u1, u2, u3, u4]) () X Y row h1 hg (fun r e => (hr r e).2), h2.turned hg (fun r e => (hr r e).2)⟩) (Own.from (boxN_own _ _ _) _)) (OwnFrom.and (ownFrom_below (Nat.le_refl _) (by omega)) (fun s X Y row hs hg hr => Nat.le_trans hs hg.size)))
    (fun _ _ _ _ _ hs _ _ => hs)
    ⟨⟨⟨_, _, _, _, _, bxF, hF0⟩, bxR⟩, hB0, Nat.le_refl _⟩
    (fun x a' W => ∃ Bx, w1.heap.size + 1 < Bx ∧ BoxN W Bx 57 #[x.1.2.2.1, x.1.2.2.2.1, x.1.2.2.2.2] ∧ a' = { tmps := #[Value.slice (some ⟨b, o, none⟩) c.length d, undef, Value.pointer (some ⟨w.heap.size, 0, none⟩), Value.pointer (some ⟨w1.heap.size, 0, none⟩), undef, Value.pointer (some ⟨Bx, 0, none⟩), Value.slice (some ⟨b, o, none⟩) c.length d, Value.int IntKind.i64 c.length, Value.bool false, undef, Value.slice (some ⟨b, o, none⟩) c.length d, Value.slice (some ⟨b, o, none⟩) c.length d, Value.int IntKind.i64 c.length, Value.int IntKind.i64 (c.length - 1 : Nat), Value.pointer (some ⟨b, o + (c.length - 1) * 3, none⟩), Value.agg #[x0, x1, x2], Value.agg #[y0, y1, y2, y3, y4], Value.slice (some ⟨b, o, none⟩) c.length d, Value.slice (some ⟨b, o, none⟩) c.length d, Value.int IntKind.i64 c.length, Value.int IntKind.i64 (c.length - 1 : Nat), Value.slice (some ⟨b, o, none⟩) (c.length - 1) d, Value.func (Fn.func 119) #[] #[Value.pointer (some ⟨w1.heap.size + 1, 0, none⟩)], Value.int .i64 x.1.2.1, Value.agg #[x.1.2.2.1, x.1.2.2.2.1, x.1.2.2.2.2], undef, undef, undef, undef, undef], defers := [] })
    (fun x a' _ X Y row hs hg hr => by
      obtain ⟨Bx, h1, h2, h3⟩ := hs
      exact ⟨Bx, h1, boxN_own Bx 57 (fun (_ : Unit) => #[x.1.2.2.1, x.1.2.2.2.1, x.1.2.2.2.2]) () X Y row h2 hg (fun r e => (hr r e).2), h3⟩)
    ?assign ?body ?done ?stop
  case assign =>
    rintro l pre ⟨⟨li, idx, v0, v1, v2⟩, hxl, hxw⟩ W K ⟨⟨⟨u0, u1, u2, u3, u4, h1, h2⟩, h3⟩, ⟨hBW, hsz⟩⟩ hK
    have hxl' : LitAt B m w li [v0, v1, v2] := hxl
    obtain ⟨px, cx, rfl, rfl, rfl, -⟩ := hxl'.form
    gi_wp2
    exact hK _ _ ((KeepsOthers.alloc _ _).from _) ⟨(Below.refl _ W).alloc hBW.size _, fun hl => Below.heap_alloc W _ _ hl⟩
      ⟨⟨⟨_, _, _, _, _, h1.al _, FmAt.below ((Below.refl _ W).alloc (Nat.le_refl _) _) h2⟩, h3.al _⟩, hBW.alloc hBW.size _, by simp; omega⟩ ⟨W.heap.size, by omega, heap_alloc_new W _, rfl⟩
  case body =>
    rintro l pre ⟨⟨li, idx, v0, v1, v2⟩, hxl, hxw⟩ a' W hl - ⟨⟨⟨u0, u1, u2, u3, u4, bF1, hf⟩, bR1⟩, ⟨hBW, hsz⟩⟩ ⟨Bx, hBx, bX, rfl⟩ hlt
    have hxl' : LitAt B m w li [v0, v1, v2] := hxl
    obtain ⟨px, cx, rfl, rfl, rfl, -⟩ := hxl'.form
    obtain ⟨pf, cf, qf, df, rfl, rfl, rfl, rfl, rfl, -⟩ := hf.form
    simp only at bX
    have hpl : pre.length < 8 := by omega
    have HLIT := Lib.hid (LitAt.below hBW hxl')
    have HF1 := Lib.hid (FmAt.lies hf)
    have hxw' : li.a.wt ≤ 1048576 := hxw
    clear hxl' hf
    have k0 := bX.cell 0
    have k1 := bX.cell 1
    have k2 := bX.cell 2
    have f0 := bF1.cell 0
    have f1 := bF1.cell 1
    have f2 := bF1.cell 2
    have f3 := bF1.cell 3
    have f4 := bF1.cell 4
    have zX := bsz bX.lt
    have zF := bsz bF1.lt
    simp only [List.getElem?_toArray, List.getElem?_cons_zero, List.getElem?_cons_succ] at k0 k1 k2 f0 f1 f2 f3 f4
    have h1' : 1 ≤ 6 - 1 - 1 := by omega
    have hmx : Tryz.prog.follows .mixedOrders = true := by kernel_rfl
    gi_wp2
    gi_region_with_o (refine ⟨trivial, ?_⟩; (first | (gi_at_call 85; refine (CallsIn.inRound l (callsIn_wide.2 (formulaOfLiteral_any m li _ _ _ _ (HLIT.out.below (by (repeat (first | with_reducible (first | exact bR _ _ | assumption | refine bA ?_ _ | refine bS ?_ (by first | exact Nat.le_refl _ | (simp; done) | (simp; omega)) _) | assumption | exact bR _ _ | refine bD ?_ | refine bN ?_ _ | refine bT ?_ (by assumption))))) hxw'))).mono ?_; rintro e w2 ⟨y0, y1, y2, y3, y4, rfl, hy, hb2⟩; obtain ⟨py, cy, qy, dy, rfl, rfl, rfl, rfl, rfl, -⟩ := hy.form; have HY := Lib.hid (FmAt.lies hy); clear hy; have hb2' : Below W.heap.size W w2 := (by (repeat (first | with_reducible (first | exact bR _ _ | assumption | refine bA ?_ _ | refine bS ?_ (by first | exact Nat.le_refl _ | (simp; done) | (simp; omega)) _) | assumption | exact bR _ _ | refine bD ?_ | refine bN ?_ _ | refine bT ?_ (by assumption)))); have bF2 := bF1.below hb2' bF1.lt; have f20 := bF2.cell 0; have f21 := bF2.cell 1; have f22 := bF2.cell 2; have f23 := bF2.cell 3; have f24 := bF2.cell 4) | (gi_at_call 71; refine (CallsIn.inRound l (callsIn_wide.2 (binary_at (m + 1 + pre.length) 6 (by omega) li.fm (disF a.fm (pre.map (·.1.1))) _ _ _ _ _ _ _ _ _ _ _ (FmAt.mono (B' := fun b => b ≠ w1.heap.size ∧ w.heap.size < b) (SameOn.below (by (repeat (first | with_reducible (first | exact bR _ _ | assumption | refine bA ?_ _ | refine bS ?_ (by first | exact Nat.le_refl _ | (simp; done) | (simp; omega)) _) | assumption | exact bR _ _ | refine bD ?_ | refine bN ?_ _ | refine bT ?_ (by assumption))))) (fun b hb => by (try simp at hb ⊢); omega) _ _ _ _ (by omega) HY.out) (FmAt.mono (SameOn.below (by (repeat (first | with_reducible (first | exact bR _ _ | assumption | refine bA ?_ _ | refine bS ?_ (by first | exact Nat.le_refl _ | (simp; done) | (simp; omega)) _) | assumption | exact bR _ _ | refine bD ?_ | refine bN ?_ _ | refine bT ?_ (by assumption))))) (fun b hb => by (try simp at hb ⊢); omega) _ _ _ _ (by omega) HF1.out)))).mono ?_; rintro e w3 ⟨z0, z1, z2, z3, z4, rfl, hz, hb3⟩; obtain ⟨pz, cz, qz, dz, rfl, rfl, rfl, rfl, rfl, -⟩ := hz.form; have HZ := Lib.hid (FmAt.lies hz); clear hz; have hb3' : Below w2.heap.size w2 w3 := (by (repeat (first | with_reducible (first | exact bR _ _ | assumption | refine bA ?_ _ | refine bS ?_ (by first | exact Nat.le_refl _ | (simp; done) | (simp; omega)) _) | assumption | exact bR _ _ | refine bD ?_ | refine bN ?_ _ | refine bT ?_ (by assumption)))); have bF3 := bF2.below hb3' bF2.lt; have f30 := bF3.cell 0; have f31 := bF3.cell 1; have f32 := bF3.cell 2; have f33 := bF3.cell 3; have f34 := bF3.cell 4; have f3f := fun j => bF3.frozen j)))
    all_goals gi_wp2
    all_goals
      have hb4 : Below W.heap.size W w3 := hb2'.trans (hb3'.mono hb2'.size)
      have hq4 := hb4.size
      have hq2 := hb2'.size
      have hlF := bF1.lt
      have hlR := bR1.lt
      refine ⟨(keepsFrom_below hb4).trans ((set5_keeps w3 w1.heap.size _ _ _ _ _).from _), ⟨(hb4.mono hBW.size).trans (set5_below w3 _ _ _ _ _ (by omega)), fun hl => (set5_other w3 _ _ _ _ _ (by omega)).trans (hb4.block _ hl)⟩,
        ⟨⟨_, _, _, _, _, bF3.set5 _ _ _ _ _, ?_⟩, (set5_other w3 _ _ _ _ _ (by omega)).trans ((hb4.block _ hlR).trans bR1)⟩, (hBW.trans (hb4.mono hBW.size)).trans (set5_below w3 _ _ _ _ _ (by omega)), Nat.le_trans hsz (Nat.le_trans hq4 (set5_keeps w3 w1.heap.size _ _ _ _ _).size)⟩
      rw [List.map_append, List.map_cons, List.map_nil, disF_snoc]
      exact FmAt.mono (fun b hb _ => set5_other w3 _ _ _ _ _ (by simp at hb; omega)) (fun b hb => by simp at hb ⊢; omega) _ _ _ _ (by simp; omega) HZ.out
  case done =>
    rintro D ys W hD rfl ⟨⟨⟨u0, u1, u2, u3, u4, bF1, hf⟩, bR1⟩, ⟨hBW, hsz⟩⟩ hK
    obtain ⟨pf, cf, qf, df, rfl, rfl, rfl, rfl, rfl, -⟩ := hf.form
    have f0 := bF1.cell 0
    have f1 := bF1.cell 1
    have f2 := bF1.cell 2
    have f3 := bF1.cell 3
    have f4 := bF1.cell 4
    have g0 := bR1.cell 0
    have g1 := bR1.cell 1
    have g2 := bR1.cell 2
    have g3 := bR1.cell 3
    have g4 := bR1.cell 4
    have gf := fun j => bR1.frozen j
    simp only [List.getElem?_toArray, List.getElem?_cons_zero, List.getElem?_cons_succ] at f0 f1 f2 f3 f4 g0 g1 g2 g3 g4
    gi_wp2
    have hK' := (set5_keeps W w.heap.size (Value.int IntKind.i64 (disF a.fm (List.map (fun x => x.1.1) zs).reverse).op) (Value.string (disF a.fm (List.map (fun x => x.1.1) zs).reverse).a.n) (Value.slice pf (disF a.fm (List.map (fun x => x.1.1) zs).reverse).a.us.length cf) (Value.string (disF a.fm (List.map (fun x => x.1.1) zs).reverse).v) (Value.slice qf (disF a.fm (List.map (fun x => x.1.1) zs).reverse).ps.length df)).same D _ hK rfl
    refine ⟨by simp, .inl ⟨_, _, rfl, run_takeDeferred hK', ?_⟩⟩
    have bR2 := bR1.set5 (Value.int IntKind.i64 (disF a.fm (List.map (fun x => x.1.1) zs).reverse).op) (Value.string (disF a.fm (List.map (fun x => x.1.1) zs).reverse).a.n) (Value.slice pf (disF a.fm (List.map (fun x => x.1.1) zs).reverse).a.us.length cf) (Value.string (disF a.fm (List.map (fun x => x.1.1) zs).reverse).v) (Value.slice qf (disF a.fm (List.map (fun x => x.1.1) zs).reverse).ps.length df)
    have hne : D ≠ w.heap.size := by omega
    have bR3 := bR2.kept (grownBy_putObj' _ D (.deferred none)) (fun e => hne (by cases e; rfl))
    have p0 := bR3.cell 0
    have p1 := bR3.cell 1
    have p2 := bR3.cell 2
    have p3 := bR3.cell 3
    have p4 := bR3.cell 4
    simp only [List.getElem?_toArray, List.getElem?_cons_zero, List.getElem?_cons_succ] at p0 p1 p2 p3 p4
    refine ⟨.agg #[Value.int IntKind.i64 (disF a.fm (List.map (fun x => x.1.1) zs).reverse).op, Value.string (disF a.fm (List.map (fun x => x.1.1) zs).reverse).a.n, Value.slice pf (disF a.fm (List.map (fun x => x.1.1) zs).reverse).a.us.length cf, Value.string (disF a.fm (List.map (fun x => x.1.1) zs).reverse).v, Value.slice qf (disF a.fm (List.map (fun x => x.1.1) zs).reverse).ps.length df], ?_, ⟨_, _, _, _, _, rfl, ?_, ?_⟩⟩
    · simp [results, Tryz.results48, go_sem, p0, p1, p2, p3, p4]
    · have e : disj c = disF a.fm (List.map (fun x => x.1.1) zs).reverse := by rw [HD.out, HZ2.out]
      rw [e]
      simp only [List.map_reverse, List.length_reverse] at hf
      have key := fun u0 u1 u2 u3 u4 => FmAt.mono (w' := set5W W w.heap.size u0 u1 u2 u3 u4) (B' := fun b => w.heap.size < b ∧ b ≠ w1.heap.size) (fun b hb _ => set5_other W u0 u1 u2 u3 u4 (by omega)) (fun b hb => hb) _ _ _ _ (Nat.le_refl _) hf
      exact FmAt.mono (SameOn.refl _ _) (fun b hb => by omega) _ _ _ _ (by omega) ((key _ _ _ _ _).turned (grownBy_putObj' _ D (.deferred none)) (fun r e => by cases e; exact ⟨_, hK', rfl⟩))
    · exact (hBW.trans (set5_below W _ _ _ _ _ (Nat.le_refl _))).trans (belowK_b (w := w) (Nat.le_refl _) _ D _ _ (by omega) hK' rfl rfl)
  case stop =>
    rintro D c pre W _ _ h _
    exact h.elim
open Go.RowKit
theorem atomOfF_form (a : Tm) : (atomOfF a).form = a.atom := by simp [atomOfF, Fm.form, Fm.forms, Fm.form1, arity, isQ, Fm.op, Fm.a, Fm.v, Fm.ps]
theorem tm0_none : tm0.none = true := rfl
theorem neg_form (g : Fm) : (opF 4 [g]).form = g.form := by simp [opF, Fm.form, Fm.forms, Fm.form1, arity, isQ, Fm.op, Fm.a, Fm.v, Fm.ps, tm0_none]
theorem or_form (g h : Fm) : (opF 6 [g, h]).form = (g.form && h.form) := by simp [opF, Fm.form, Fm.forms, Fm.form1, arity, isQ, Fm.op, Fm.a, Fm.v, Fm.ps, tm0_none]
theorem Lit3.fm_form (l : Lit3) (h : l.a.atom = true) : l.fm.form = true := by
  rw [Lit3.fm]; split
  · rw [atomOfF_form, h]
  · rw [neg_form, atomOfF_form, h]
theorem size_nil : (⟨#[]⟩ : ByteArray).size = 0 := rfl
theorem Lit3.fm_wt (l : Lit3) : l.fm.wt ≤ l.a.wt + 1 := by
  rw [Lit3.fm]; split <;> simp [opF, atomOfF, Fm.wt, Fm.wts, tm0, Tm.wt, Tm.wts, size_nil] <;> omega
theorem or_wt (g h : Fm) : (opF 6 [g, h]).wt = 2 + g.wt + h.wt := by simp [opF, Fm.wt, Fm.wts, tm0, Tm.wt, Tm.wts, size_nil]; omega
def Cls.wts : List Lit3 → Nat | [] => 0 | l :: ls => l.a.wt + Cls.wts ls
theorem Cls.wts_le (c : List Lit3) : ∀ l ∈ c, l.a.wt ≤ Cls.wts c := by
  induction c with
  | nil => simp
  | cons a c ih =>
    intro l hl
    rw [Cls.wts]
    rcases List.mem_cons.1 hl with rfl | h
    · omega
    · have := ih l h; omega
theorem disj_one (l : Lit3) : disj [l] = l.fm := rfl
theorem disj_cons (l a : Lit3) (c : List Lit3) : disj (l :: a :: c) = opF 6 [l.fm, disj (a :: c)] := by
  have h : ∀ (x y : Lit3) (ys : List Lit3), disj (x :: (y :: ys)) = opF 6 [x.fm, disj (y :: ys)] := by
    intro x y ys
    rw [disj_of (c := x :: (y :: ys)) (by simp), disj_of (c := y :: ys) (by simp)]
    have e1 : (x :: (y :: ys)).length - 1 = ((y :: ys).length - 1) + 1 := by simp
    simp only [e1, List.take_succ_cons, List.reverse_cons, List.getElem_cons_succ, disF_snoc]
  exact h l a c
theorem disj_form : ∀ (c : List Lit3), 0 < c.length → (∀ l ∈ c, l.a.atom = true) → (disj c).form = true
  | [], h, _ => absurd h (by simp)
  | [l], _, h => by rw [disj_one]; exact l.fm_form (h l (by simp))
  | l :: a :: c, _, h => by rw [disj_cons, or_form, l.fm_form (h l (by simp)), disj_form (a :: c) (by simp) (fun x hx => h x (List.mem_cons_of_mem _ hx))]; rfl
theorem disj_wt : ∀ (c : List Lit3), 0 < c.length → (disj c).wt ≤ Cls.wts c + 3 * c.length
  | [], h => absurd h (by simp)
  | [l], _ => by have := l.fm_wt; rw [disj_one, Cls.wts, Cls.wts]; simp; omega
  | l :: a :: c, _ => by
    have h1 := l.fm_wt
    have h2 := disj_wt (a :: c) (by simp)
    rw [disj_cons, or_wt, Cls.wts]; simp only [List.length_cons] at h2 ⊢; omega
theorem okF_atoms : ∀ (c : List Lit3) (p : Option Lit3), Cls.okF p c = true → ∀ l ∈ c, l.a.atom = true
  | [], _, _ => by simp
  | a :: c, p, h => by
    rw [Cls.okF, Bool.and_eq_true, Bool.and_eq_true] at h
    intro l hl
    rcases List.mem_cons.1 hl with rfl | h'
    · exact h.1.1
    · exact okF_atoms c _ h.2 l h'
theorem good_atoms {c : List Lit3} (h : Cls.good c = true) : c.length ≤ 8 ∧ ∀ l ∈ c, l.a.atom = true := by
  rw [Cls.good, Bool.and_eq_true] at h
  exact ⟨of_decide_eq_true h.1, okF_atoms c none h.2⟩
def sContr : List UInt8 := [97, 32, 99, 111, 110, 116, 114, 97, 100, 105, 99, 116, 105, 111, 110]
def Cls.eng (c : List Lit3) : List UInt8 := if c.length = 0 then sContr else (disj c).eng
def Cls.engG (c : List Lit3) : List UInt8 := if Cls.good c then Cls.eng c else []
theorem disj_len {c : List Lit3} (h0 : 0 < c.length) (h8 : c.length ≤ 8) (ha : ∀ l ∈ c, l.a.atom = true) (hw : Cls.wts c ≤ 1048576) : (disj c).eng.length ≤ 40000000 := by
  have h1 := Fm.eng_wt _ (disj c) (Nat.le_refl _) (disj_form c h0 ha)
  have h2 := disj_wt c h0
  omega
def EtfPost (n : Nat) (ok : Bool) (F : Fm) (w : World) (e : Ending) (w' : World) : Prop :=
  Below w.heap.size w w' ∧ if ok = true then ∃ x, e = .returned (.tuple #[x, .bool true]) ∧ FmV n (NewB w w') w' F x
    else e = .returned (.tuple #[.agg #[.int .i64 0, .string ⟨#[]⟩, .slice none 0 0, .string ⟨#[]⟩, .slice none 0 0], .bool false])
theorem EtfPost.no {n : Nat} {ok : Bool} {F : Fm} {w w' : World} (h : ok = false) (hb : Below w.heap.size w w') : EtfPost n ok F w (.returned (.tuple #[.agg #[.int .i64 0, .string ⟨#[]⟩, .slice none 0 0, .string ⟨#[]⟩, .slice none 0 0], .bool false])) w' := by
  subst h; exact ⟨hb, rfl⟩
theorem pTerm_name (L : List UInt8) : ∀ (f : Nat) (p : PSt), (pTerm L f p).1.n.data.toList.length ≤ L.length
  | 0, p => by rw [pTerm]; simp [Tm.n]
  | f + 1, p => by
    have := pWord_len L p
    rw [pTerm]
    split <;> simpa [Tm.n] using this
theorem pAtom_pos (L : List UInt8) (f : Nat) (p : PSt) (hp : p.pos ≤ L.length) : p.pos ≤ (pAtom L f p).2.pos ∧ (pAtom L f p).2.pos ≤ L.length := by
  have h1 := pTerm_pos L f p hp
  rw [pAtom]
  split
  · rename_i h
    have h2 := pTake_le h h1.2
    have h3 := pTerm_pos L f (pAdv sEquals (pTerm L f p).2) h2
    simp only [pAdv] at h3 ⊢; omega
  · split
    · rename_i h
      have h2 := pTake_le h h1.2
      have h3 := pTerm_pos L f (pAdv sHoldsOf (pTerm L f p).2) h2
      have h4 := pArgs_pos L sComma f _ h3.2
      simp only [pAdv] at h3 h4 ⊢; omega
    · have h5 := pMust_pos L sHolds _ h1.2
      show p.pos ≤ (pMust L sHolds (pTerm L f p).2).pos ∧ (pMust L sHolds (pTerm L f p).2).pos ≤ L.length
      omega
theorem pEng_pos (L : List UInt8) : ∀ (f : Nat) (p : PSt), p.pos ≤ L.length → p.pos ≤ (pEng L f p).2.pos ∧ (pEng L f p).2.pos ≤ L.length
  | 0, p, hp => by rw [pEng]; exact ⟨Nat.le_refl _, hp⟩
  | f + 1, p, hp => by
    have pair : ∀ (word kw : List UInt8), pTake L kw p = true → p.pos ≤ (pEng L f (pMust L word (pEng L f (pAdv kw p)).2)).2.pos ∧ (pEng L f (pMust L word (pEng L f (pAdv kw p)).2)).2.pos ≤ L.length := fun word kw h => by
      have h2 := pTake_le h hp
      have h3 := pEng_pos L f (pAdv kw p) h2
      have h4 := pMust_pos L word _ h3.2
      have h5 := pEng_pos L f _ h4.2
      simp only [pAdv] at h3 h4 h5 ⊢; omega
    have bound : ∀ (word kw : List UInt8), pTake L kw p = true → p.pos ≤ (pEng L f (pMust L word (pWord L (pAdv kw p)).2)).2.pos ∧ (pEng L f (pMust L word (pWord L (pAdv kw p)).2)).2.pos ≤ L.length := fun word kw h => by
      have h2 := pTake_le h hp
      have h3 := pWord_pos L (pAdv kw p) h2
      have h4 := pMust_pos L word _ h3.2
      have h5 := pEng_pos L f _ h4.2
      simp only [pAdv] at h3 h4 h5 ⊢; omega
    have adv : ∀ kw : List UInt8, pTake L kw p = true → p.pos ≤ (pAdv kw p).pos ∧ (pAdv kw p).pos ≤ L.length := fun kw h => ⟨by simp only [pAdv]; omega, pTake_le h hp⟩
    have neg : pTake L sNot p = true → p.pos ≤ (pEng L f (pAdv sNot p)).2.pos ∧ (pEng L f (pAdv sNot p)).2.pos ≤ L.length := fun h => by
      have h1 := adv _ h
      have h2 := pEng_pos L f _ h1.2
      omega
    rw [pEng]
    split
    · exact adv _ ‹_›
    · split
      · exact adv _ ‹_›
      · split
        · exact neg ‹_›
        · split
          · exact pair _ _ ‹_›
          · split
            · exact pair _ _ ‹_›
            · split
              · exact pair _ _ ‹_›
              · split
                · exact bound _ _ ‹_›
                · split
                  · exact bound _ _ ‹_›
                  · exact pAtom_pos L f p hp
theorem pWord_wt (L : List UInt8) (p : PSt) : (pWord L p).1.length + p.pos ≤ (pWord L p).2.pos := by
  unfold pWord; split <;> simp <;> omega
theorem pMust_up (L t : List UInt8) (p : PSt) : p.pos ≤ (pMust L t p).pos := by
  unfold pMust; split <;> simp [pAdv]
theorem size_toBytes (l : List UInt8) : (⟨l.toArray⟩ : ByteArray).size = l.length := by simp [ByteArray.size]
mutual
theorem pTerm_wt (L : List UInt8) : ∀ (f : Nat) (p : PSt), (pTerm L f p).1.wt + p.pos ≤ (pTerm L f p).2.pos
  | 0, p => by rw [pTerm]; simp [Tm.wt, Tm.wts, ByteArray.size]
  | f + 1, p => by
    have h1 := pWord_wt L p
    have h2 := pTerm_wt L f (pAdv [40] (pWord L p).2)
    have h3 := pArgs_wt L [44] (by decide) f (pTerm L f (pAdv [40] (pWord L p).2)).2
    have h4 := pMust_up L [41] (pArgs L [44] f (pTerm L f (pAdv [40] (pWord L p).2)).2).2
    have h5 : (pAdv [40] (pWord L p).2).pos = (pWord L p).2.pos + 1 := rfl
    rw [pTerm]
    split
    · simp only [Tm.wt, Tm.wts, List.length_cons, size_toBytes]; omega
    · simp only [Tm.wt, Tm.wts, List.length_nil, size_toBytes]; omega
theorem pArgs_wt (L sep : List UInt8) (hs : 0 < sep.length) : ∀ (f : Nat) (p : PSt), (pArgs L sep f p).1.length + Tm.wts (pArgs L sep f p).1 + p.pos ≤ (pArgs L sep f p).2.pos
  | 0, p => by rw [pArgs]; simp [Tm.wts]
  | f + 1, p => by
    have h2 := pTerm_wt L f (pAdv sep p)
    have h3 := pArgs_wt L sep hs f (pTerm L f (pAdv sep p)).2
    have h5 : (pAdv sep p).pos = p.pos + sep.length := rfl
    rw [pArgs]
    split
    · simp only [Tm.wts, List.length_cons]; omega
    · simp [Tm.wts]
end
theorem tm0_wt : tm0.wt = 0 := by simp [tm0, Tm.wt, Tm.wts, ByteArray.size]
theorem nil_size : (⟨#[]⟩ : ByteArray).size = 0 := rfl
theorem pAtom_wt (L : List UInt8) (f : Nat) (p : PSt) : (pAtom L f p).1.wt + p.pos ≤ (pAtom L f p).2.pos := by
  have h1 := pTerm_wt L f p
  have h2 := pTerm_wt L f (pAdv sEquals (pTerm L f p).2)
  have h3 := pTerm_wt L f (pAdv sHoldsOf (pTerm L f p).2)
  have h4 := pArgs_wt L sComma (by decide) f (pTerm L f (pAdv sHoldsOf (pTerm L f p).2)).2
  have h5 := pMust_up L sHolds (pTerm L f p).2
  have e1 : (pAdv sEquals (pTerm L f p).2).pos = (pTerm L f p).2.pos + sEquals.length := rfl
  have e2 : (pAdv sHoldsOf (pTerm L f p).2).pos = (pTerm L f p).2.pos + sHoldsOf.length := rfl
  have l1 : 3 ≤ sEquals.length := by decide
  have l2 : 3 ≤ sHoldsOf.length := by decide
  have hn : (pTerm L f p).1.n.size ≤ (pTerm L f p).1.wt := by
    cases (pTerm L f p).1; simp only [Tm.wt, Tm.n]; omega
  have hq : (⟨#[61]⟩ : ByteArray).size = 1 := rfl
  unfold pAtom
  split
  · simp only [atomOfF, eqTm, Fm.wt, Fm.wts, Tm.wt, Tm.wts, List.length_cons, List.length_nil, nil_size, hq]; omega
  · split
    · simp only [atomOfF, Fm.wt, Fm.wts, Tm.wt, Tm.wts, List.length_cons, List.length_nil, nil_size]; omega
    · simp only [atomOfF, Fm.wt, Fm.wts, List.length_nil, nil_size]; omega
theorem pEng_wt (L : List UInt8) : ∀ (f : Nat) (p : PSt), (pEng L f p).1.wt + p.pos ≤ (pEng L f p).2.pos
  | 0, p => by rw [pEng]; simp [opF, Fm.wt, Fm.wts, tm0_wt, nil_size]
  | f + 1, p => by
    have pair : ∀ (op : Int) (word kw : List UInt8), 2 ≤ kw.length → (opF op [(pEng L f (pAdv kw p)).1, (pEng L f (pMust L word (pEng L f (pAdv kw p)).2)).1]).wt + p.pos ≤ (pEng L f (pMust L word (pEng L f (pAdv kw p)).2)).2.pos := fun op word kw hk => by
      have h1 := pEng_wt L f (pAdv kw p)
      have h2 := pMust_up L word (pEng L f (pAdv kw p)).2
      have h3 := pEng_wt L f (pMust L word (pEng L f (pAdv kw p)).2)
      have e1 : (pAdv kw p).pos = p.pos + kw.length := rfl
      simp only [opF, Fm.wt, Fm.wts, tm0_wt, nil_size, List.length_cons, List.length_nil]; omega
    have bound : ∀ (op : Int) (word kw : List UInt8), 1 ≤ kw.length → (quantF op (pWord L (pAdv kw p)).1 (pEng L f (pMust L word (pWord L (pAdv kw p)).2)).1).wt + p.pos ≤ (pEng L f (pMust L word (pWord L (pAdv kw p)).2)).2.pos := fun op word kw hk => by
      have h1 := pWord_wt L (pAdv kw p)
      have h2 := pMust_up L word (pWord L (pAdv kw p)).2
      have h3 := pEng_wt L f (pMust L word (pWord L (pAdv kw p)).2)
      have e1 : (pAdv kw p).pos = p.pos + kw.length := rfl
      simp only [quantF, Fm.wt, Fm.wts, tm0_wt, size_toBytes, List.length_cons, List.length_nil]; omega
    have hnot := pEng_wt L f (pAdv sNot p)
    have hat := pAtom_wt L f p
    have e1 : (pAdv sNot p).pos = p.pos + sNot.length := rfl
    have l1 : 2 ≤ sNot.length := by decide
    rw [pEng]
    simp only
    repeat' split
    · simp [opF, Fm.wt, Fm.wts, tm0_wt, nil_size, pAdv]
    · simp [opF, Fm.wt, Fm.wts, tm0_wt, nil_size, pAdv]
    · simp only [opF, Fm.wt, Fm.wts, tm0_wt, nil_size, List.length_cons, List.length_nil]; omega
    · exact pair _ _ _ (by decide)
    · exact pair _ _ _ (by decide)
    · exact pair _ _ _ (by decide)
    · exact bound _ _ _ (by decide)
    · exact bound _ _ _ (by decide)
    · exact hat
def pRead (L : List UInt8) : Fm × PSt := pEng L (L.length + 2) ⟨0, false⟩
def pOk (L : List UInt8) : Bool := !(pRead L).2.bad && (pRead L).2.pos == L.length && (pRead L).1.good && (pRead L).1.eng == L
theorem pRead_eng {F : Fm} (hg : F.good = true) : pRead F.eng = (F, ⟨F.eng.length, false⟩) := by
  have hf : F.form = true := by rw [Fm.good, Bool.and_eq_true] at hg; exact hg.2
  have h := pEng_ok (L := F.eng) (F.eng.length + 2) F 0 [] hf (by simp) (by first | exact goodR_nil | exact GoodR.nil | exact Or.inl rfl | (unfold GoodR; simp [stopC]) | (constructor <;> simp [stopC])) (by omega)
  simpa [pRead] using h
theorem pOk_iff {L : List UInt8} : pOk L = true ↔ ∃ F : Fm, F.good = true ∧ F.eng = L := by
  constructor
  · intro h
    simp only [pOk, Bool.and_eq_true, beq_iff_eq] at h
    exact ⟨_, h.1.2, h.2⟩
  · rintro ⟨F, hg, rfl⟩
    simp [pOk, pRead_eng hg, hg]
theorem pOk_read {F : Fm} {L : List UInt8} (hg : F.good = true) (he : F.eng = L) : (pRead L).1 = F := by subst he; rw [pRead_eng hg]
theorem Tm.wts_snoc (us : List Tm) (a : Tm) : Tm.wts (us ++ [a]) = Tm.wts us + a.wt := by
  induction us with
  | nil => simp [Tm.wts]
  | cons b us ih => rw [List.cons_append, Tm.wts, ih, Tm.wts]; omega
theorem blk_lt {w : World} {b : Nat} {o : Obj} (h : w.heap[b]? = some o) : b < w.heap.size := by
  rcases Nat.lt_or_ge b w.heap.size with h' | h'
  · exact h'
  · rw [Array.getElem?_eq_none h'] at h; cases h
def Patch (cur cur' : Array Value) (o : Nat) (cs : List Value) : Prop := cur'.size = cur.size ∧ (∀ j, j < cs.length → cur'[o + j]? = cs[j]?) ∧ ∀ k, (k < o ∨ o + cs.length ≤ k) → cur'[k]? = cur[k]?
theorem Patch.refl {cur : Array Value} {o : Nat} {cs : List Value} (h : ∀ j, j < cs.length → cur[o + j]? = cs[j]?) : Patch cur cur o cs := ⟨rfl, h, fun _ _ => rfl⟩
theorem Patch.set {cur cur' : Array Value} {o : Nat} {cs : List Value} (h : Patch cur cur' o cs) {j : Nat} (hj : j < cs.length) (hb : o + cs.length ≤ cur.size) (v : Value) : Patch cur (cur'.setIfInBounds (o + j) v) o (cs.set j v) := by
  obtain ⟨h1, h2, h3⟩ := h
  refine ⟨by simpa using h1, fun i hi => ?_, fun k hk => ?_⟩
  · rw [List.length_set] at hi
    by_cases e : j = i
    · subst e
      rw [Array.getElem?_setIfInBounds_self_of_lt (by omega), List.getElem?_set_self hj]
    · rw [Array.getElem?_setIfInBounds_ne (by omega), List.getElem?_set_ne e, h2 i hi]
  · rw [List.length_set] at hk
    rw [Array.getElem?_setIfInBounds_ne (by omega), h3 k hk]
theorem OwnRow.elem {α : Type} {S : Nat → Prop} {w : World} {e : TypeId} {size : Nat} {R : (Nat → Prop) → α → List Value → Prop} {v : Value} {xs : List α} {i : Nat} {x : α} (h : OwnRow S w e size R v xs) (hi : xs[i]? = some x) :
    ∃ (g cap : Nat) (cs : List Value) (Si : Nat → Prop) (cur : Array Value), v = .slice (some ⟨g, 0, none⟩) xs.length cap ∧ S g ∧ w.heap[g]? = some (.cells cur e (0, 0)) ∧ cs.length = size ∧ i * size + size ≤ cur.size ∧ (∀ j, j < size → cur[i * size + j]? = cs[j]?) ∧ R Si x cs ∧ (∀ b, Si b → S b ∧ b ≠ g) ∧
      ∀ (w' : World) (x' : α) (cs' : List Value) (cur' : Array Value) (R' : (Nat → Prop) → α → List Value → Prop), cs'.length = size → w'.heap[g]? = some (.cells cur' e (0, 0)) → Patch cur cur' (i * size) cs' → R' Si x' cs' → (∀ T y c, (∀ b, T b → S b ∧ b ≠ g ∧ ¬ Si b) → R T y c → R' T y c) → OwnRow S w' e size R' v (xs.set i x') := by
  obtain ⟨hm, vals, Ss, h1, h2, h3, h4⟩ := h
  have hlt : i < xs.length := (List.getElem?_eq_some_iff.1 hi).1
  rcases h1.2 with ⟨rfl, h0⟩ | ⟨g, cap, cur, rfl, _, hh, hc1, hc2, hc3, hc4⟩
  · omega
  have h5 : (i + 1) * size ≤ xs.length * size := Nat.mul_le_mul_right _ hlt
  rw [Nat.succ_mul] at h5
  have h6 : xs.length * size ≤ cap * size := Nat.mul_le_mul_right _ hc1
  have hvl : vals.length = xs.length * size := h1.1
  have hcv : ∀ k, k < xs.length * size → cur[k]? = vals[k]? := fun k hk => by
    rw [← hc4, List.getElem?_take, if_pos hk]; simp
  refine ⟨g, cap, (vals.drop (i * size)).take size, Ss i, cur, rfl, h2 g rfl, hh, by rw [List.length_take, List.length_drop]; omega, by omega, fun j hj => ?_, (h3 i x hi).1, fun b hb => ⟨((h3 i x hi).2 b hb).1, fun e => ((h3 i x hi).2 b hb).2 (by rw [e]; rfl)⟩, ?_⟩
  · rw [hcv _ (by omega), List.getElem?_take, if_pos hj, List.getElem?_drop]
  · intro w' x' cs' cur' R' hl hh' hp hx' hR
    have hcur' : ∀ k, k < xs.length * size → (cur'.toList.take (xs.length * size))[k]? = cur'[k]? := fun k hk => by rw [List.getElem?_take, if_pos hk]; simp
    have e1 : cur'.toList.length = cap * size := (Array.length_toList (xs := cur')).trans (hp.1.trans hc3)
    have hlen' : (cur'.toList.take (xs.length * size)).length = (xs.set i x').length * size := by rw [List.length_take, e1, List.length_set]; omega
    refine ⟨by simpa using hm, cur'.toList.take (xs.length * size), Ss, ⟨hlen', .inr ⟨g, cap, cur', by rw [List.length_set], Nat.zero_le _, hh', by rw [List.length_set]; exact hc1, hc2, by rw [hp.1]; exact hc3, by rw [List.length_set]⟩⟩, h2, fun j y hy => ?_, fun j j' b hj hj' hne => h4 j j' b (by simpa using hj) (by simpa using hj') hne⟩
    have hj : j < xs.length := by have := (List.getElem?_eq_some_iff.1 hy).1; simpa using this
    have h7 : (j + 1) * size ≤ xs.length * size := Nat.mul_le_mul_right _ hj
    rw [Nat.succ_mul] at h7
    by_cases ej : i = j
    · subst ej
      rw [List.getElem?_set_self hlt] at hy
      obtain rfl : x' = y := Option.some.inj hy
      refine ⟨?_, (h3 i x hi).2⟩
      have : ((cur'.toList.take (xs.length * size)).drop (i * size)).take size = cs' := by
        apply List.ext_getElem?
        intro k
        rw [List.getElem?_take]
        split
        · rename_i hk
          rw [List.getElem?_drop, hcur' _ (by omega), hp.2.1 k (by omega)]
        · rw [List.getElem?_eq_none (by omega)]
      rw [this]; exact hx'
    · rw [List.getElem?_set_ne ej] at hy
      obtain ⟨k1, k2⟩ := h3 j y hy
      refine ⟨?_, k2⟩
      have : ((cur'.toList.take (xs.length * size)).drop (j * size)).take size = (vals.drop (j * size)).take size := by
        apply List.ext_getElem?
        intro k
        rw [List.getElem?_take, List.getElem?_take]
        split
        · rename_i hk
          have hside : j * size + k < i * size ∨ i * size + size ≤ j * size + k := by
            rcases Nat.lt_or_ge j i with hlt2 | hge
            · have h8 : (j + 1) * size ≤ i * size := Nat.mul_le_mul_right _ hlt2
              rw [Nat.succ_mul] at h8; omega
            · have h8 : (i + 1) * size ≤ j * size := Nat.mul_le_mul_right _ (by omega)
              rw [Nat.succ_mul] at h8; omega
          rw [List.getElem?_drop, List.getElem?_drop, hcur' _ (by omega), hp.2.2 _ (by omega), hcv _ (by omega)]
        · rfl
      rw [this]
      exact hR _ _ _ (fun b hb => ⟨(k2 b hb).1, fun e => (k2 b hb).2 (by rw [e]; rfl), fun e => h4 i j b hlt hj ej e hb⟩) k1
end Go.Proofs.YtkgfanajgdelcaaGreat
