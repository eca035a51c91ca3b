import Derived.Test.YtabkdonplmlbcaaGreatDoorStPart10
namespace Go.Proofs.YtabkdonplmlbcaaGreatDoor
set_option maxRecDepth 100000
open Go.RowKit Go.Shelf
attribute [local go_sem] Oper.semAt_some
def disF (f : Fm) (ls : List Lit3) : Fm := ls.foldl (fun f l => opF 6 [l.fm, f]) f
theorem disF_snoc (f : Fm) (ls : List Lit3) (l : Lit3) : disF f (ls ++ [l]) = opF 6 [l.fm, disF f ls] := by simp [disF]
def disj (c : List Lit3) : Fm := match c.reverse with | [] => opF 2 [] | l :: ls => disF l.fm ls
theorem disj_of {c : List Lit3} (h : 0 < c.length) : disj c = disF (c[c.length - 1]'(by omega)).fm (c.take (c.length - 1)).reverse := by
 obtain ⟨ls, l, rfl⟩ : ∃ ls l, c = ls ++ [l] := ⟨c.dropLast, c.getLast (List.ne_nil_of_length_pos h), (List.dropLast_concat_getLast _).symm⟩
 simp [disj]
theorem FmAt.turned {B : Nat → Prop} {X Y : World} {row : Option Nat} {n : Nat} {t : Fm} {cs : List Value} (h : FmAt B n X t cs) (hg : X.grownBy Y row) (hr : ∀ r, row = some r → ∃ o : Obj, X.heap[r]? = some o ∧ o.isCells = false) : FmAt B n Y t cs :=
 FmAt.mono (fun b hb hl => hg.block b hl (fun e => by obtain ⟨o, ho, hc⟩ := hr b e.symm; obtain ⟨o', ho', hc'⟩ := hb.2; rw [ho] at ho'; cases ho'; rw [hc] at hc'; cases hc')) (fun _ hb => hb.1) _ _ _ _ (Nat.le_refl _) (FmAt.cells _ _ _ h)
abbrev BackX (B : Nat → Prop) (m : Nat) (w : World) := { x : Lit3 × Int × Value × Value × Value // LitAt B m w x.1 [x.2.2.1, x.2.2.2.1, x.2.2.2.2] ∧ x.1.a.wt ≤ 1048576 }
theorem backs {B : Nat → Prop} {m : Nat} {w : World} {p : Option Addr} {c : Nat} {xs : List Lit3} (h : ListAt B w 3 (LitAt B m w) (.slice p xs.length c) xs) (hw : ∀ l ∈ xs, l.a.wt ≤ 1048576) : ∀ n, n ≤ xs.length →
  ∃ zs : List (BackX B m w), zs.length = n ∧ zs.map (·.1.1) = xs.take n ∧ (∀ k (h : k < zs.length), zs[k].1.2.1 = k) ∧ ∀ k (h : k < zs.length), ∃ b o, p = some ⟨b, o, none⟩ ∧ b < w.heap.size ∧ w.cell? ⟨b, o + k * 3, none⟩ = some zs[k].1.2.2.1 ∧ w.cell? ⟨b, o + k * 3 + 1, none⟩ = some zs[k].1.2.2.2.1 ∧ w.cell? ⟨b, o + k * 3 + 2, none⟩ = some zs[k].1.2.2.2.2
 | 0, _ => ⟨[], rfl, by simp, by simp, by simp⟩
 | n + 1, hn => by
  obtain ⟨zs, h1, h2, h3, h4⟩ := backs h hw n (by omega)
  obtain ⟨b, o, hp, -, x0, x1, x2, hx0, hx1, hx2, hx⟩ := h.at3 (show n < xs.length by omega)
  obtain ⟨e, he⟩ : ∃ e : BackX B m w, e.1 = (xs[n], (n : Int), x0, x1, x2) := ⟨⟨(xs[n], (n : Int), x0, x1, x2), hx, hw _ (List.getElem_mem _)⟩, rfl⟩
  refine ⟨zs ++ [e], by rw [List.length_append, h1]; rfl, by rw [List.map_append, h2, List.map_cons, he, List.map_nil, List.take_append_getElem], fun k hk => ?_, fun k hk => ?_⟩
  ·by_cases hkn : k < zs.length
   ·rw [List.getElem_append_left hkn]; exact h3 k hkn
   ·rw [List.length_append] at hk
    simp only [List.length_cons, List.length_nil] at hk
    obtain rfl : k = n := by omega
    rw [List.getElem_append_right (by omega)]
    simp [h1, he]
  ·by_cases hkn : k < zs.length
   ·rw [List.getElem_append_left hkn]; exact h4 k hkn
   ·rw [List.length_append] at hk
    simp only [List.length_cons, List.length_nil] at hk
    obtain rfl : k = n := by omega
    rw [List.getElem_append_right (by omega)]
    exact ⟨b, o, hp, World.block_lt_of_cell? _ _ hx0, by simpa [h1, he] using hx0, by simpa [h1, he] using hx1, by simpa [h1, he] using hx2⟩
set_option maxHeartbeats 4000000 in
theorem disjunction_any {B : Nat → Prop} (m : Nat) (c : List Lit3) (v : Value) (w : World) (h : ListAt B w 3 (LitAt B m w) v c) (hn : c.length ≤ 8) (hcap : ∀ p d, v = .slice p c.length d → c.length ≤ d) (hw : ∀ l ∈ c, l.a.wt ≤ 1048576) :
  Calls Tryz.prog 72 #[v] w fun e w' => ∃ u0 u1 u2 u3 u4, e = .returned (.agg #[u0, u1, u2, u3, u4]) ∧ FmAt (fun b => w.heap.size ≤ b) (m + 2 + c.length) w' (disj c) [u0, u1, u2, u3, u4] ∧ Below w.heap.size w w' := by
 obtain ⟨p, d, rfl, -⟩ := h.form
 have hcd := hcap _ _ rfl
 clear hcap
 have H := Lib.hid h
 have HW := Lib.hid hw
 by_cases hc0 : c.length = 0
 ·obtain rfl : c = [] := List.eq_nil_of_length_eq_zero hc0
  clear h hw
  go_enter Tryz.func72, Tryz.ntmps72
  go_wp2
  refine bodyPost_ret (v := .agg #[.int .i64 2, .string ⟨#[]⟩, .slice none 0 0, .string ⟨#[]⟩, .slice none 0 0]) (by simp only [results, Tryz.results72]; go_simp) rfl ⟨_, _, _, _, _, rfl, ?_, by exact bel⟩
  exact opF_at (by omega) (ListAt.nil _ _ _ _ _ _)
 have hlast : c.length - 1 < c.length := by omega
 obtain ⟨b, o, rfl, hB, x0, x1, x2, hx0, hx1, hx2, hx⟩ := h.at3 hlast
 have hwt := hw _ (List.getElem_mem hlast)
 obtain ⟨zs, hz1, hz2, hz3, hz4⟩ := backs h hw (c.length - 1) (by omega)
 have HD := Lib.hid (disj_of (by omega : 0 < c.length))
 obtain ⟨a, ha⟩ : ∃ a, c[c.length - 1] = a := ⟨_, rfl⟩
 rw [ha] at hx hwt
 rw [ha] at HD
 have HX := Lib.hid hx
 have HZ2 := Lib.hid hz2
 have HZ3 := Lib.hid hz3
 have HZ4 := Lib.hid hz4
 clear h hw ha hx hz2 hz3 hz4
 have hci : ((c.length : Int) == 0) = false := by rw [beq_eq_false_iff_ne]; omega
 have hci1 : IntKind.i64.wrap ((c.length : Int) - 1) = ((c.length - 1 : Nat) : Int) := by rw [IntWalk.i64_in _ (by omega)]; omega
 refine (callsIn_wide (n := 6)).1 ?_
 refine callsIn_of_wp_marks Tryz.func72 rfl trivial ?_ rfl
 simp only [Tryz.ntmps72, List.size_toArray, List.length_cons, List.length_nil, Nat.reduceAdd, Nat.reduceSub, Array.replicate_succ, Array.replicate_zero, List.push_toArray, List.append_toArray, List.nil_append, List.cons_append]
 have zb := bsz (World.block_lt_of_cell? _ _ hx0)
 have R0 : BoxN (w.alloc (.cells #[.int .i64 0, .string ⟨#[]⟩, .slice none 0 0, .string ⟨#[]⟩, .slice none 0 0] 67)) w.heap.size 67 #[.int .i64 0, .string ⟨#[]⟩, .slice none 0 0, .string ⟨#[]⟩, .slice none 0 0] := heap_alloc_new w _
 gi_wp2_with (first | (refine ⟨trivial, ?_⟩; gi_at_call 110; refine (callsIn_wide.2 (formulaOfLiteral_any m a _ _ _ _ (HX.out.below (by exact bel)) hwt)).mono ?_; rintro e w1 ⟨u0, u1, u2, u3, u4, rfl, hu, hb1⟩; obtain ⟨pu, cu, qu, du, rfl, rfl, rfl, rfl, rfl, -⟩ := hu.form; have HU := Lib.hid hu; clear hu; have hq1 := hb1.size; simp at hq1) | (refine ⟨trivial, ?_⟩; gi_at_call 111; refine (back_in Fence.wide _ trivial rfl _ _ _ _).mono ?_; rintro e w2 ⟨rfl, rfl⟩))
 have hu2 := FmAt.lies HU.out
 obtain ⟨y0, hy0⟩ : ∃ y, y = Value.int IntKind.i64 a.fm.op := ⟨_, rfl⟩
 obtain ⟨y1, hy1⟩ : ∃ y, y = Value.string a.fm.a.n := ⟨_, rfl⟩
 obtain ⟨y2, hy2⟩ : ∃ y, y = Value.slice pu a.fm.a.us.length cu := ⟨_, rfl⟩
 obtain ⟨y3, hy3⟩ : ∃ y, y = Value.string a.fm.v := ⟨_, rfl⟩
 obtain ⟨y4, hy4⟩ : ∃ y, y = Value.slice qu a.fm.ps.length du := ⟨_, rfl⟩
 rw [← hy0, ← hy1, ← hy2, ← hy3, ← hy4] at hu2 ⊢
 clear hy0 hy1 hy2 hy3 hy4 HU
 obtain ⟨W0, hW0⟩ : ∃ W0 : World, W0 = (w1.alloc (.cells #[y0, y1, y2, y3, y4] 67)).alloc (.cells #[.slice (some ⟨b, o, none⟩) (c.length - 1) d] 23) := ⟨_, rfl⟩
 have bxF : BoxN W0 w1.heap.size 67 #[y0, y1, y2, y3, y4] := by rw [hW0]; exact BoxN.al (heap_alloc_new w1 _) _
 have bxS : BoxN W0 (w1.heap.size + 1) 23 #[.slice (some ⟨b, o, none⟩) (c.length - 1) d] := by rw [hW0]; exact alloc_new_at (by simp)
 have bxR : BoxN W0 w.heap.size 67 #[.int .i64 0, .string ⟨#[]⟩, .slice none 0 0, .string ⟨#[]⟩, .slice none 0 0] := by rw [hW0]; exact (R0.below hb1 (by simp)).al _ |>.al _
 have hB0 : Below w.heap.size w W0 := by rw [hW0]; exact bel
 have hs0 : W0.heap.size = w1.heap.size + 2 := by rw [hW0]; simp
 have hB1 : Below w1.heap.size w1 W0 := by rw [hW0]; exact bel
 have hF0 : FmAt (fun b => w.heap.size < b ∧ b ≠ w1.heap.size) (m + 2) W0 a.fm [y0, y1, y2, y3, y4] := FmAt.mono (SameOn.below hB1) (fun b hb => by simp at hb; omega) _ _ _ _ (Nat.le_refl _) hu2
 rw [← hW0]
 clear hW0 hu2 hB1 R0 hb1
 have bxS' : W0.cell? ⟨w1.heap.size + 1, 0, none⟩ = some (.slice (some ⟨b, o, none⟩) zs.length d) := by rw [hz1]; exact bxS.cell 0
 have hbl : ∀ k (h : k < zs.length), ∃ b' o', some (⟨b, o, none⟩ : Addr) = some ⟨b', o', none⟩ ∧ b' < w.heap.size ∧ W0.cell? ⟨b', o' + k * 3, none⟩ = some zs[k].1.2.2.1 ∧ W0.cell? ⟨b', o' + k * 3 + 1, none⟩ = some zs[k].1.2.2.2.1 ∧ W0.cell? ⟨b', o' + k * 3 + 2, none⟩ = some zs[k].1.2.2.2.2 := fun k h => by
  obtain ⟨b', o', e, h1, h2, h3, h4⟩ := HZ4.out k h
  exact ⟨b', o', e, h1, (hB0.cell (p := ⟨b', _, none⟩) h1).trans h2, (hB0.cell (p := ⟨b', _, none⟩) h1).trans h3, (hB0.cell (p := ⟨b', _, none⟩) h1).trans h4⟩
 refine wpIn_rangeFunc_ownH (F := Fence.wide) (n := 6) rfl (by omega) (gf := 152) (lb := #[.pointer (some ⟨w1.heap.size + 1, 0, none⟩)]) rfl trivial (enters_of Tryz.func152 (by kernel_rfl) rfl)
  (back_stops (fun x : BackX B m w => x.1.2.1) (fun x => x.1.2.2.1) (fun x => x.1.2.2.2.1) (fun x => x.1.2.2.2.2) Fence.wide 5 trivial rfl (by omega) (w1.heap.size + 1) w.heap.size (some ⟨b, o, none⟩) d zs (by omega) HZ3.out W0 (by omega) bxS' hbl)
  (fun h k => h.trans k)
  (fun W l o o' hl h h1 h2 => ⟨belowK_b (w := W0) (by omega) W l o o' hl h h1 h2, fun hlt => World.putObj_heap_other (fun e => by omega)⟩)
  (Below.refl _ _) (fun _ => rfl)
  (fun pre W => ((∃ u0 u1 u2 u3 u4, BoxN W w1.heap.size 67 #[u0, u1, u2, u3, u4] ∧ FmAt (fun b => w.heap.size < b ∧ b ≠ w1.heap.size) (m + 2 + pre.length) W (disF a.fm (pre.map (·.1.1))) [u0, u1, u2, u3, u4]) ∧
   BoxN W w.heap.size 67 #[.int .i64 0, .string ⟨#[]⟩, .slice none 0 0, .string ⟨#[]⟩, .slice none 0 0]) ∧ (Below w.heap.size w W ∧ W0.heap.size ≤ W.heap.size))
  (fun _ _ _ => False)
  (OwnFrom.and (OwnFrom.and (fun s X Y row hs hg hr => by
   obtain ⟨u0, u1, u2, u3, u4, h1, h2⟩ := hs
   exact ⟨u0, u1, u2, u3, u4, boxN_own w1.heap.size 67 (fun (_ : Unit) => #[u0, u1, u2, u3, u4]) () X Y row h1 hg (fun r e => (hr r e).2), h2.turned hg (fun r e => (hr r e).2)⟩) (Own.from (boxN_own _ _ _) _)) (OwnFrom.and (ownFrom_below (Nat.le_refl _) (by omega)) (fun s X Y row hs hg hr => Nat.le_trans hs hg.size)))
  (fun _ _ _ _ _ hs _ _ => hs)
  ⟨⟨⟨_, _, _, _, _, bxF, hF0⟩, bxR⟩, hB0, Nat.le_refl _⟩
  (fun x a' W => ∃ Bx, w1.heap.size + 1 < Bx ∧ BoxN W Bx 81 #[x.1.2.2.1, x.1.2.2.2.1, x.1.2.2.2.2] ∧ a' = { tmps := #[Value.slice (some ⟨b, o, none⟩) c.length d, undef, Value.pointer (some ⟨w.heap.size, 0, none⟩), Value.pointer (some ⟨w1.heap.size, 0, none⟩), undef, Value.pointer (some ⟨Bx, 0, none⟩), Value.slice (some ⟨b, o, none⟩) c.length d, Value.int IntKind.i64 c.length, Value.bool false, undef, Value.slice (some ⟨b, o, none⟩) c.length d, Value.slice (some ⟨b, o, none⟩) c.length d, Value.int IntKind.i64 c.length, Value.int IntKind.i64 (c.length - 1 : Nat), Value.pointer (some ⟨b, o + (c.length - 1) * 3, none⟩), Value.agg #[x0, x1, x2], Value.agg #[y0, y1, y2, y3, y4], Value.slice (some ⟨b, o, none⟩) c.length d, Value.slice (some ⟨b, o, none⟩) c.length d, Value.int IntKind.i64 c.length, Value.int IntKind.i64 (c.length - 1 : Nat), Value.slice (some ⟨b, o, none⟩) (c.length - 1) d, Value.func (Fn.func 152) #[] #[Value.pointer (some ⟨w1.heap.size + 1, 0, none⟩)], Value.int .i64 x.1.2.1, Value.agg #[x.1.2.2.1, x.1.2.2.2.1, x.1.2.2.2.2], undef, undef, undef, undef, undef], defers := [] })
  (fun x a' _ X Y row hs hg hr => by
   obtain ⟨Bx, h1, h2, h3⟩ := hs
   exact ⟨Bx, h1, boxN_own Bx 81 (fun (_ : Unit) => #[x.1.2.2.1, x.1.2.2.2.1, x.1.2.2.2.2]) () X Y row h2 hg (fun r e => (hr r e).2), h3⟩)
  ?assign ?body ?done ?stop
 case assign =>
  rintro l pre ⟨⟨li, idx, v0, v1, v2⟩, hxl, hxw⟩ W K ⟨⟨⟨u0, u1, u2, u3, u4, h1, h2⟩, h3⟩, ⟨hBW, hsz⟩⟩ hK
  have hxl' : LitAt B m w li [v0, v1, v2] := hxl
  obtain ⟨px, cx, rfl, rfl, rfl, -⟩ := hxl'.form
  gi_wp2
  exact hK _ _ ((KeepsOthers.alloc _ _).from _) ⟨(Below.refl _ W).alloc hBW.size _, fun hl => Below.heap_alloc W _ _ hl⟩
   ⟨⟨⟨_, _, _, _, _, h1.al _, FmAt.below ((Below.refl _ W).alloc (Nat.le_refl _) _) h2⟩, h3.al _⟩, hBW.alloc hBW.size _, by simp; omega⟩ ⟨W.heap.size, by omega, heap_alloc_new W _, rfl⟩
 case body =>
  rintro l pre ⟨⟨li, idx, v0, v1, v2⟩, hxl, hxw⟩ a' W hl - ⟨⟨⟨u0, u1, u2, u3, u4, bF1, hf⟩, bR1⟩, ⟨hBW, hsz⟩⟩ ⟨Bx, hBx, bX, rfl⟩ hlt
  have hxl' : LitAt B m w li [v0, v1, v2] := hxl
  obtain ⟨px, cx, rfl, rfl, rfl, -⟩ := hxl'.form
  obtain ⟨pf, cf, qf, df, rfl, rfl, rfl, rfl, rfl, -⟩ := hf.form
  simp only at bX
  have hpl : pre.length < 8 := by omega
  have HLIT := Lib.hid (LitAt.below hBW hxl')
  have HF1 := Lib.hid (FmAt.lies hf)
  have hxw' : li.a.wt ≤ 1048576 := hxw
  clear hxl' hf
  have k0 := bX.cell 0
  have k1 := bX.cell 1
  have k2 := bX.cell 2
  have f0 := bF1.cell 0
  have f1 := bF1.cell 1
  have f2 := bF1.cell 2
  have f3 := bF1.cell 3
  have f4 := bF1.cell 4
  have zX := bsz bX.lt
  have zF := bsz bF1.lt
  simp only [List.getElem?_toArray, List.getElem?_cons_zero, List.getElem?_cons_succ] at k0 k1 k2 f0 f1 f2 f3 f4
  have h1' : 1 ≤ 6 - 1 - 1 := by omega
  have hmx : Tryz.prog.follows .mixedOrders = true := by kernel_rfl
  gi_wp2
  gi_region_with_o (refine ⟨trivial, ?_⟩; (first | (gi_at_call 110; refine (CallsIn.inRound l (callsIn_wide.2 (formulaOfLiteral_any m li _ _ _ _ (HLIT.out.below (by exact bel)) hxw'))).mono ?_; rintro e w2 ⟨y0, y1, y2, y3, y4, rfl, hy, hb2⟩; obtain ⟨py, cy, qy, dy, rfl, rfl, rfl, rfl, rfl, -⟩ := hy.form; have HY := Lib.hid (FmAt.lies hy); clear hy; have hb2' : Below W.heap.size W w2 := (by exact bel); have bF2 := bF1.below hb2' bF1.lt; have f20 := bF2.cell 0; have f21 := bF2.cell 1; have f22 := bF2.cell 2; have f23 := bF2.cell 3; have f24 := bF2.cell 4) | (gi_at_call 112; refine (CallsIn.inRound l (callsIn_wide.2 (binary_at (m + 1 + pre.length) 6 (by omega) li.fm (disF a.fm (pre.map (·.1.1))) _ _ _ _ _ _ _ _ _ _ _ (FmAt.mono (B' := fun b => b ≠ w1.heap.size ∧ w.heap.size < b) (SameOn.below (by exact bel)) (fun b hb => by (try simp at hb ⊢); omega) _ _ _ _ (by omega) HY.out) (FmAt.mono (SameOn.below (by exact bel)) (fun b hb => by (try simp at hb ⊢); omega) _ _ _ _ (by omega) HF1.out)))).mono ?_; rintro e w3 ⟨z0, z1, z2, z3, z4, rfl, hz, hb3⟩; obtain ⟨pz, cz, qz, dz, rfl, rfl, rfl, rfl, rfl, -⟩ := hz.form; have HZ := Lib.hid (FmAt.lies hz); clear hz; have hb3' : Below w2.heap.size w2 w3 := (by exact bel); have bF3 := bF2.below hb3' bF2.lt; have f30 := bF3.cell 0; have f31 := bF3.cell 1; have f32 := bF3.cell 2; have f33 := bF3.cell 3; have f34 := bF3.cell 4; have f3f := fun j => bF3.frozen j)))
  all_goals gi_wp2
  all_goals
   have hb4 : Below W.heap.size W w3 := hb2'.trans (hb3'.mono hb2'.size)
   have hq4 := hb4.size
   have hq2 := hb2'.size
   have hlF := bF1.lt
   have hlR := bR1.lt
   refine ⟨(keepsFrom_below hb4).trans ((set5_keeps w3 w1.heap.size _ _ _ _ _).from _), ⟨(hb4.mono hBW.size).trans (set5_below w3 _ _ _ _ _ (by omega)), fun hl => (set5_other w3 _ _ _ _ _ (by omega)).trans (hb4.block _ hl)⟩,
    ⟨⟨_, _, _, _, _, bF3.set5 _ _ _ _ _, ?_⟩, (set5_other w3 _ _ _ _ _ (by omega)).trans ((hb4.block _ hlR).trans bR1)⟩, (hBW.trans (hb4.mono hBW.size)).trans (set5_below w3 _ _ _ _ _ (by omega)), Nat.le_trans hsz (Nat.le_trans hq4 (set5_keeps w3 w1.heap.size _ _ _ _ _).size)⟩
   rw [List.map_append, List.map_cons, List.map_nil, disF_snoc]
   exact FmAt.mono (fun b hb _ => set5_other w3 _ _ _ _ _ (by simp at hb; omega)) (fun b hb => by simp at hb ⊢; omega) _ _ _ _ (by simp; omega) HZ.out
 case done =>
  rintro D ys W hD rfl ⟨⟨⟨u0, u1, u2, u3, u4, bF1, hf⟩, bR1⟩, ⟨hBW, hsz⟩⟩ hK
  obtain ⟨pf, cf, qf, df, rfl, rfl, rfl, rfl, rfl, -⟩ := hf.form
  have f0 := bF1.cell 0
  have f1 := bF1.cell 1
  have f2 := bF1.cell 2
  have f3 := bF1.cell 3
  have f4 := bF1.cell 4
  have g0 := bR1.cell 0
  have g1 := bR1.cell 1
  have g2 := bR1.cell 2
  have g3 := bR1.cell 3
  have g4 := bR1.cell 4
  have gf := fun j => bR1.frozen j
  simp only [List.getElem?_toArray, List.getElem?_cons_zero, List.getElem?_cons_succ] at f0 f1 f2 f3 f4 g0 g1 g2 g3 g4
  gi_wp2
  have hK' := (set5_keeps W w.heap.size (Value.int IntKind.i64 (disF a.fm (List.map (fun x => x.1.1) zs).reverse).op) (Value.string (disF a.fm (List.map (fun x => x.1.1) zs).reverse).a.n) (Value.slice pf (disF a.fm (List.map (fun x => x.1.1) zs).reverse).a.us.length cf) (Value.string (disF a.fm (List.map (fun x => x.1.1) zs).reverse).v) (Value.slice qf (disF a.fm (List.map (fun x => x.1.1) zs).reverse).ps.length df)).same D _ hK rfl
  refine ⟨by simp, .inl ⟨_, _, rfl, run_takeDeferred hK', ?_⟩⟩
  have bR2 := bR1.set5 (Value.int IntKind.i64 (disF a.fm (List.map (fun x => x.1.1) zs).reverse).op) (Value.string (disF a.fm (List.map (fun x => x.1.1) zs).reverse).a.n) (Value.slice pf (disF a.fm (List.map (fun x => x.1.1) zs).reverse).a.us.length cf) (Value.string (disF a.fm (List.map (fun x => x.1.1) zs).reverse).v) (Value.slice qf (disF a.fm (List.map (fun x => x.1.1) zs).reverse).ps.length df)
  have hne : D ≠ w.heap.size := by omega
  have bR3 := bR2.kept (grownBy_putObj' _ D (.deferred none)) (fun e => hne (by cases e; rfl))
  have p0 := bR3.cell 0
  have p1 := bR3.cell 1
  have p2 := bR3.cell 2
  have p3 := bR3.cell 3
  have p4 := bR3.cell 4
  simp only [List.getElem?_toArray, List.getElem?_cons_zero, List.getElem?_cons_succ] at p0 p1 p2 p3 p4
  refine ⟨.agg #[Value.int IntKind.i64 (disF a.fm (List.map (fun x => x.1.1) zs).reverse).op, Value.string (disF a.fm (List.map (fun x => x.1.1) zs).reverse).a.n, Value.slice pf (disF a.fm (List.map (fun x => x.1.1) zs).reverse).a.us.length cf, Value.string (disF a.fm (List.map (fun x => x.1.1) zs).reverse).v, Value.slice qf (disF a.fm (List.map (fun x => x.1.1) zs).reverse).ps.length df], ?_, ⟨_, _, _, _, _, rfl, ?_, ?_⟩⟩
  ·simp [results, Tryz.results72, go_sem, p0, p1, p2, p3, p4]
  ·have e : disj c = disF a.fm (List.map (fun x => x.1.1) zs).reverse := by rw [HD.out, HZ2.out]
   rw [e]
   simp only [List.map_reverse, List.length_reverse] at hf
   have key := fun u0 u1 u2 u3 u4 => FmAt.mono (w' := set5W W w.heap.size u0 u1 u2 u3 u4) (B' := fun b => w.heap.size < b ∧ b ≠ w1.heap.size) (fun b hb _ => set5_other W u0 u1 u2 u3 u4 (by omega)) (fun b hb => hb) _ _ _ _ (Nat.le_refl _) hf
   exact FmAt.mono (SameOn.refl _ _) (fun b hb => by omega) _ _ _ _ (by omega) ((key _ _ _ _ _).turned (grownBy_putObj' _ D (.deferred none)) (fun r e => by cases e; exact ⟨_, hK', rfl⟩))
  ·exact (hBW.trans (set5_below W _ _ _ _ _ (Nat.le_refl _))).trans (belowK_b (w := w) (Nat.le_refl _) _ D _ _ (by omega) hK' rfl rfl)
 case stop =>
  rintro D c pre W _ _ h _
  exact h.elim
open Go.RowKit
mutual
def Fm.wt : Fm → Nat | .mk _ a v us => a.wt + v.size + us.length + Fm.wts us
def Fm.wts : List Fm → Nat | [] => 0 | a :: us => a.wt + Fm.wts us
end
theorem Fm.szs_drop (us : List Fm) {k : Nat} (h : k < us.length) : Fm.szs (us.drop k) = us[k].sz + Fm.szs (us.drop (k + 1)) := by
 rw [List.drop_eq_getElem_cons h, Fm.szs]
theorem Fm.szIs_drop (us : List Fm) {k : Nat} (h : k < us.length) (n : Nat) : Fm.szIs n (us.drop k) = if 40 < n then n else Fm.szIs (n + us[k].szI) (us.drop (k + 1)) := by
 rw [List.drop_eq_getElem_cons h, Fm.szIs]
theorem FmAt.parts {B : Nat → Prop} {w : World} : ∀ {n : Nat} {t : Fm} {v0 v1 v2 v3 v4 : Value}, FmAt B n w t [v0, v1, v2, v3, v4] → ListAt B w 5 (FmAt B n w) v4 t.ps
 | 0, _, _, _, _, _, _, h => h.elim
 | n + 1, .mk op a x ps, v0, v1, v2, v3, v4, h => by
  obtain ⟨vn, va, vp, h1, h2, h3, h4, h5⟩ := h
  simp only [List.cons.injEq, and_true] at h1
  obtain ⟨rfl, rfl, rfl, rfl, rfl⟩ := h1
  exact h5.mono (SameOn.refl _ _) (fun _ h => h) (fun x cs _ hx => FmAt.mono (SameOn.refl _ _) (fun _ h => h) n (n + 1) x cs (by omega) hx)
theorem FmAt.atm {B : Nat → Prop} {w : World} : ∀ {n : Nat} {t : Fm} {v0 v1 v2 v3 v4 : Value}, FmAt B n w t [v0, v1, v2, v3, v4] → TmAt B n w t.a [v1, v2]
 | 0, _, _, _, _, _, _, h => h.elim
 | n + 1, .mk op a x ps, v0, v1, v2, v3, v4, h => by
  obtain ⟨vn, va, vp, h1, h2, h3, h4, h5⟩ := h
  simp only [List.cons.injEq, and_true] at h1
  obtain ⟨rfl, rfl, rfl, rfl, rfl⟩ := h1
  exact TmAt.mono (SameOn.refl _ _) (fun _ h => h) n (n + 1) a _ (by omega) h4
set_option maxHeartbeats 1600000 in
theorem sizeOf_any {B : Nat → Prop} : ∀ (m : Nat) (t : Fm) (v0 v1 v2 v3 v4 : Value) (w : World), FmAt B m w t [v0, v1, v2, v3, v4] → t.sz ≤ 100000000 →
   Calls Tryz.prog 106 #[.agg #[v0, v1, v2, v3, v4]] w fun e w' => e = .returned (.int .i64 (t.szI : Nat)) ∧ Below w.heap.size w w' := by
 intro m
 induction m with
 | zero => intro t v0 v1 v2 v3 v4 w h; exact h.elim
 | succ m ih =>
  rintro ⟨op, t0, s, us⟩ v0 v1 v2 v3 v4 w ⟨vn, va, vp, hcs, hop, hs, ht, hl⟩ hz
  simp only [List.cons.injEq, and_true] at hcs
  obtain ⟨rfl, rfl, rfl, rfl, rfl⟩ := hcs
  rw [Fm.sz] at hz
  obtain ⟨p, c, rfl, hlen⟩ := hl.form
  obtain ⟨p1, c1, rfl, rfl, -, -⟩ := ht.form
  unfold maxLen at hlen
  have IH := Lib.hid ih
  have HL := Lib.hid hl
  have HSZ := Lib.hid (show (Fm.mk op t0 s us).szI = Fm.szIs 1 us from rfl)
  clear ih hl
  go_enter Tryz.func106, Tryz.ntmps106
  go_wp2
  go_loopw [3, 9] (fun n i wr => ∃ k acc : Nat, k ≤ us.length ∧ i = .int .i64 k ∧ n = .int .i64 acc ∧ Fm.szIs acc (us.drop k) = Fm.szIs 1 us ∧ acc + Fm.szs (us.drop k) ≤ 1 + Fm.szs us ∧ Below w.heap.size w wr) (fun _ i _ => us.length - (intOf i).toNat)
  case atStart => exact ⟨0, 1, Nat.zero_le _, rfl, rfl, rfl, Nat.le_refl _, by exact bel⟩
  case round =>
   obtain ⟨k, acc, hk, rfl, rfl, he, hle, hb⟩ := hrel
   have HE := Lib.hid he
   clear he
   by_cases hlt : k < us.length
   ·obtain ⟨b, o, rfl, hB, x0, x1, x2, x3, x4, hx0, hx1, hx2, hx3, hx4, hx⟩ := (HL.out.mono (SameOn.below hb) (fun _ h => h) (fun x cs _ hx => FmAt.below hb hx)).at5 hlt
    have hD := Fm.szIs_drop us hlt acc
    have hZ := Fm.szs_drop us hlt
    obtain ⟨a, ha⟩ : ∃ a, us[k] = a := ⟨_, rfl⟩
    rw [ha] at hx
    rw [ha] at hD
    rw [ha] at hZ
    have HX := Lib.hid hx
    have HD := Lib.hid hD
    have HZ := Lib.hid hZ
    clear hx ha hD hZ
    have zb := bsz (World.block_lt_of_cell? _ _ hx0)
    obtain ⟨pa, ca, qa, da, rfl, rfl, rfl, rfl, rfl, -⟩ := HX.out.form
    have hlaw := a.szI_law
    have hzz := HZ.out
    rw [hzz] at hle
    clear hzz
    by_cases h40 : 40 < (acc : Int)
    ·go_wp2
     go_ret
     exact ⟨ret_int (by rw [HSZ.out, ← HE.out, HD.out, if_pos (by omega)]), by exact bel⟩
    ·go_wp2_with fail
     refine (IH.out a _ _ _ _ _ _ (HX.out.below (by exact bel)) (by omega)).mono ?_
     rintro e w1 ⟨rfl, hb1⟩
     have ⟨cw1, fw1⟩ := bcell hb1
     have qw1 := hb1.size
     (try simp at qw1)
     (try have zw1w := bsz (show w.heap.size < w1.heap.size by omega))
     go_wp2
     refine ⟨⟨k + 1, acc + a.szI, by omega, by go_num, by go_num, ?_, by omega, by exact bel⟩, by simp [intOf]; omega⟩
     rw [← HE.out, HD.out, if_neg (by omega)]
   ·obtain rfl : k = us.length := by omega
    have he := HE.out
    rw [List.drop_length, Fm.szIs] at he
    have HE2 := Lib.hid he
    clear he
    go_wp2
    go_ret
    exact ⟨ret_int (by rw [HSZ.out, ← HE2.out]), by exact bel⟩
theorem isQuantifier_any (op : Int) (w : World) : Calls Tryz.prog 143 #[.int .i64 op] w fun e w' => e = .returned (.bool (op == 8 || op == 9)) ∧ w = w' := by
 by_cases h : op = 8
 ·obtain rfl := h
  go_enter Tryz.func143, Tryz.ntmps143
  go_wp2
  go_ret
  exact ⟨rfl, rfl⟩
 ·have h1 : (op == 8) = false := by simpa using h
  go_enter Tryz.func143, Tryz.ntmps143
  go_wp2
  go_ret
  exact ⟨ret_bool (by simp [h]), rfl⟩
theorem isBinary_any (op : Int) (w : World) : Calls Tryz.prog 144 #[.int .i64 op] w fun e w' => e = .returned (.bool (op == 5 || op == 6 || op == 7)) ∧ w = w' := by
 by_cases h5 : op = 5
 ·obtain rfl := h5
  go_enter Tryz.func144, Tryz.ntmps144
  go_wp2
  go_ret
  exact ⟨rfl, rfl⟩
 ·have h1 : (op == 5) = false := by simpa using h5
  by_cases h6 : op = 6
  ·obtain rfl := h6
   go_enter Tryz.func144, Tryz.ntmps144
   go_wp2
   go_ret
   exact ⟨rfl, rfl⟩
  ·have h2 : (op == 6) = false := by simpa using h6
   go_enter Tryz.func144, Tryz.ntmps144
   go_wp2
   go_ret
   exact ⟨ret_bool (by simp [h5, h6]), rfl⟩
def FirstAt (b : Bool) (w : World) (e : Ending) (w' : World) : Prop := ∃ r : Int, e = .returned (.int .i64 r) ∧ decide (0 ≤ r) = b ∧ Below w.heap.size w w'
theorem any_drop {α : Type} (us : List α) (P : α → Bool) {k : Nat} (h : k < us.length) : (us.drop k).any P = (P us[k] || (us.drop (k + 1)).any P) := by
 rw [List.drop_eq_getElem_cons h, List.any_cons]
theorem empt_iff (s : ByteArray) : s.toList.isEmpty = s.data.toList.isEmpty := by rw [ByteArray.toList_eq]
theorem isZeroTerm_any {B : Nat → Prop} (m : Nat) (t : Tm) (v0 v1 : Value) (w : World) (h : TmAt B m w t [v0, v1]) : Calls Tryz.prog 146 #[.agg #[v0, v1]] w fun e w' => e = .returned (.bool t.none) ∧ Below w.heap.size w w' := by
 obtain ⟨p, c, rfl, rfl, -, -⟩ := h.form
 clear h
 have HN := Lib.hid (show t.none = (t.n.toList.isEmpty && ((t.us.length : Int) == 0)) by rw [empt_iff, Tm.none]; cases t.us <;> simp; omega)
 go_enter Tryz.func146, Tryz.ntmps146
 go_wp2
 all_goals
  go_ret
  exact ⟨ret_bool (by rw [HN.out]; simp_all), by exact bel⟩
theorem len0 {α : Type} {l : List α} : (0 = l.length) = (l = []) := propext ⟨fun h => List.eq_nil_of_length_eq_zero h.symm, fun h => by rw [h]; rfl⟩
theorem len1 {n : Nat} : (1 = n) = ((n : Int) = 1) := propext ⟨fun h => by omega, fun h => by omega⟩
theorem len2 {n : Nat} : (2 = n) = ((n : Int) = 2) := propext ⟨fun h => by omega, fun h => by omega⟩
theorem op_cases (op : Int) : op = 1 ∨ op = 2 ∨ op = 3 ∨ op = 4 ∨ op = 5 ∨ op = 6 ∨ op = 7 ∨ op = 8 ∨ op = 9 ∨ (¬op = 1 ∧ ¬op = 2 ∧ ¬op = 3 ∧ ¬op = 4 ∧ ¬op = 5 ∧ ¬op = 6 ∧ ¬op = 7 ∧ ¬op = 8 ∧ ¬op = 9) := by omega
def Fm.notForm (f : Fm) : Bool := !f.form
theorem forms_any : ∀ us : List Fm, us.any Fm.notForm = !Fm.forms us
 | [] => rfl
 | a :: us => by rw [List.any_cons, forms_any us, Fm.forms, Fm.notForm]; cases a.form <;> rfl
mutual
def Fm.asz : Fm → Nat | .mk _ a _ ps => max a.sz (Fm.aszs ps)
def Fm.aszs : List Fm → Nat | [] => 0 | a :: us => max a.asz (Fm.aszs us)
end
theorem Fm.asz_arg (us : List Fm) {k : Nat} (h : k < us.length) : us[k].asz ≤ Fm.aszs us := by
 induction us generalizing k with
 | nil => simp at h
 | cons a us ih =>
  cases k with
  | zero => simp only [List.getElem_cons_zero, Fm.aszs]; omega
  | succ k => have := ih (k := k) (by simpa using h); simp only [List.getElem_cons_succ, Fm.aszs]; omega
set_option maxHeartbeats 3200000 in
theorem hasForm_of {B : Nat → Prop} (m : Nat) (ih : ∀ (us : List Fm) (va : Value) (w : World), Fm.aszs us ≤ 100000000 → ListAt B w 5 (FmAt B m w) va us →
   Calls Tryz.prog 147 #[va, .func (.func 148) #[] #[]] w fun e w' => e = .returned (.bool (!Fm.forms us)) ∧ Below w.heap.size w w')
  (op : Int) (a : Tm) (x : ByteArray) (ps : List Fm) (v1 v2 v4 : Value) (w : World) (ha : TmAt B m w a [v1, v2]) (hl : ListAt B w 5 (FmAt B m w) v4 ps) (hv : x.size ≤ maxLen) (hz : a.sz ≤ 100000000) (hzs : Fm.aszs ps ≤ 100000000) :
  Calls Tryz.prog 107 #[.agg #[.int .i64 op, v1, v2, .string x, v4]] w fun e w' => e = .returned (.bool ((Fm.mk op a x ps).form1 && Fm.forms ps)) ∧ Below w.heap.size w w' := by
 have HA := Lib.hid ha
 have HL := Lib.hid hl
 have HV := Lib.hid hv
 have IH := Lib.hid ih
 obtain ⟨p, c, rfl, rfl, -, -⟩ := ha.form
 obtain ⟨q, d, rfl, hps⟩ := hl.form
 unfold maxLen at hps
 clear ha hl hv ih
 rcases op_cases op with rfl | rfl | rfl | rfl | rfl | rfl | rfl | rfl | rfl | ⟨h1, h2, h3, h4, h5, h6, h7, h8, h9⟩
 all_goals
  go_enter Tryz.func107, Tryz.ntmps107
  go_wp2_with (first | (go_at_call 146; refine (isZeroTerm_any m a _ _ _ (HA.out.below (by exact bel))).mono ?_; rintro e w1 ⟨rfl, hb1⟩; have ⟨cw1, fw1⟩ := bcell hb1; have qw1 := hb1.size; (try simp at qw1); (try have zw1w := bsz (show w.heap.size < w1.heap.size by omega))) | (go_at_call 114; refine (isValidAtom_any m a _ _ _ (HA.out.below (by exact bel)) hz).mono ?_; rintro e w1 ⟨rfl, hb1⟩; have ⟨cw1, fw1⟩ := bcell hb1; have qw1 := hb1.size; (try simp at qw1); (try have zw1w := bsz (show w.heap.size < w1.heap.size by omega))) | (go_at_call 145; refine (isVariable_any _ _ HV.out).mono ?_; rintro e w' ⟨rfl, rfl⟩) | (go_at_call 143; refine (isQuantifier_any _ _).mono ?_; rintro e w' ⟨rfl, rfl⟩) | (go_at_call 144; refine (isBinary_any _ _).mono ?_; rintro e w' ⟨rfl, rfl⟩) | (go_at_call 147; refine (IH.out ps _ _ hzs (HL.out.mono (SameOn.below (by exact bel)) (fun _ h => h) (fun x cs _ hx => FmAt.below (by exact bel) hx))).mono ?_; rintro e w2 ⟨rfl, hb2⟩; have ⟨cw2, fw2⟩ := bcell hb2; have qw2 := hb2.size; (try simp at qw2); (try have zw2w := bsz (show w.heap.size < w2.heap.size by omega)); (try have zw2w1 := bsz (show w1.heap.size < w2.heap.size by omega))) | (go_at_call 147; refine (IH.out [] _ _ (Nat.zero_le _) (ListAt.nil _ _ _ _ _ _)).mono ?_; rintro e w2 ⟨rfl, hb2⟩; have ⟨cw2, fw2⟩ := bcell hb2; have qw2 := hb2.size; (try simp at qw2); (try have zw2w := bsz (show w.heap.size < w2.heap.size by omega)); (try have zw2w1 := bsz (show w1.heap.size < w2.heap.size by omega))))
 all_goals
  go_ret
  exact ⟨ret_bool (by simp_all [Fm.form1, arity, isQ, Fm.forms, Fm.op, Fm.a, Fm.v, Fm.ps, empt_iff, len0, len1, len2]), by exact bel⟩
theorem indexForm {B : Nat → Prop} (m : Nat) (us : List Fm) (HC : ∀ (t : Fm) (v0 v1 v2 v3 v4 : Value) (w : World), t ∈ us → FmAt B m w t [v0, v1, v2, v3, v4] → Calls Tryz.prog 148 #[.agg #[v0, v1, v2, v3, v4]] w fun e w' => e = .returned (.bool (Fm.notForm t)) ∧ Below w.heap.size w w')
  (va : Value) (w : World) (h : ListAt B w 5 (FmAt B m w) va us) :
  Calls Tryz.prog 177 #[va, .func (.func 148) #[] #[]] w (FirstAt (us.any Fm.notForm) w) := by
 obtain ⟨p, c, rfl, hlen⟩ := h.form
 unfold maxLen at hlen
 have H := Lib.hid h
 have HN1 := Lib.hid HC
 clear h HC
 go_enter Tryz.func177, Tryz.ntmps177
 go_wp2
 go_loopw [8] (fun i wr => ∃ k : Nat, k ≤ us.length ∧ i = .int .i64 k ∧ us.any Fm.notForm = (us.drop k).any Fm.notForm ∧ Below w.heap.size w wr) (fun i _ => us.length - (intOf i).toNat)
 case atStart => exact ⟨0, Nat.zero_le _, rfl, rfl, by exact bel⟩
 case round =>
  obtain ⟨k, hk, rfl, he, hb⟩ := hrel
  have HE := Lib.hid he
  clear he
  by_cases hlt : k < us.length
  ·obtain ⟨b, o, rfl, hB, x0, x1, x2, x3, x4, hx0, hx1, hx2, hx3, hx4, hx⟩ := (H.out.mono (SameOn.below hb) (fun _ h => h) (fun x cs _ hx => FmAt.below hb hx)).at5 hlt
   have hD := any_drop us Fm.notForm hlt
   have hM := List.getElem_mem hlt
   obtain ⟨a, ha⟩ : ∃ a, us[k] = a := ⟨_, rfl⟩
   rw [ha] at hx
   rw [ha] at hD
   rw [ha] at hM
   have HX := Lib.hid hx
   have HD := Lib.hid hD
   have HM := Lib.hid hM
   clear hx ha hD hM
   have zb := bsz (World.block_lt_of_cell? _ _ hx0)
   cases hN : Fm.notForm a
   all_goals
    have HN := Lib.hid hN
    go_wp2_with fail
    refine (HN1.out a x0 x1 x2 x3 x4 _ HM.out HX.out).mono ?_
    rintro e w1 ⟨rfl, hb1⟩
    have ⟨cw1, fw1⟩ := bcell hb1
    have qw1 := hb1.size
    (try simp at qw1)
    (try have zw1w := bsz (show w.heap.size < w1.heap.size by omega))
    rw [HN.out]
    go_wp2
   ·refine ⟨⟨k + 1, by omega, by go_num, ?_, by exact bel⟩, by simp [intOf]; omega⟩
    rw [HE.out, HD.out, HN.out]; rfl
   ·go_ret
    exact ⟨k, rfl, by rw [HE.out, HD.out, HN.out]; simp, by exact bel⟩
  ·obtain rfl : k = us.length := by omega
   have he := HE.out
   rw [List.drop_length, List.any_nil] at he
   have HE2 := Lib.hid he
   clear he
   go_wp2
   go_ret
   exact ⟨-1, rfl, by rw [HE2.out]; rfl, by exact bel⟩
theorem containsForm {B : Nat → Prop} (m : Nat) (us : List Fm) (HC : ∀ (t : Fm) (v0 v1 v2 v3 v4 : Value) (w : World), t ∈ us → FmAt B m w t [v0, v1, v2, v3, v4] → Calls Tryz.prog 148 #[.agg #[v0, v1, v2, v3, v4]] w fun e w' => e = .returned (.bool (Fm.notForm t)) ∧ Below w.heap.size w w')
  (va : Value) (w : World) (h : ListAt B w 5 (FmAt B m w) va us) :
  Calls Tryz.prog 147 #[va, .func (.func 148) #[] #[]] w fun e w' => e = .returned (.bool (us.any Fm.notForm)) ∧ Below w.heap.size w w' := by
 have H := Lib.hid h
 have IH := Lib.hid (indexForm m us HC)
 clear h HC
 go_enter Tryz.func147, Tryz.ntmps147
 go_wp2_with fail
 refine (IH.out va _ H.out).mono ?_
 rintro e w1 ⟨r, rfl, hr, hb1⟩
 have HR := Lib.hid hr
 clear hr
 go_wp2
 go_ret
 exact ⟨ret_bool HR.out, hb1⟩
set_option maxHeartbeats 1600000 in
theorem hasForm_any {B : Nat → Prop} : ∀ (m : Nat) (t : Fm) (v0 v1 v2 v3 v4 : Value) (w : World), FmAt B m w t [v0, v1, v2, v3, v4] → t.asz ≤ 100000000 →
   Calls Tryz.prog 107 #[.agg #[v0, v1, v2, v3, v4]] w fun e w' => e = .returned (.bool t.form) ∧ Below w.heap.size w w' := by
 intro m
 induction m with
 | zero => intro t v0 v1 v2 v3 v4 w h; exact h.elim
 | succ m ih =>
  rintro ⟨op, a, x, us⟩ v0 v1 v2 v3 v4 w ⟨vn, va, vp, hcs, hop, hs, ht, hl⟩ hz
  simp only [List.cons.injEq, and_true] at hcs
  obtain ⟨rfl, rfl, rfl, rfl, rfl⟩ := hcs
  rw [Fm.asz] at hz
  have hza : a.sz ≤ 100000000 := by omega
  have hzs : Fm.aszs us ≤ 100000000 := by omega
  have HR := hasForm_of m (fun us va w hu h => by
   have := containsForm (B := B) m us (fun t v0 v1 v2 v3 v4 w ht h => by
    obtain ⟨k, hk, e⟩ := List.getElem_of_mem ht
    have hbb : t.asz ≤ 100000000 := by have := Fm.asz_arg us hk; rw [e] at this; omega
    obtain ⟨p1, c1, q1, d1, rfl, rfl, rfl, rfl, rfl, -⟩ := h.form
    have HX := Lib.hid h
    have IH := Lib.hid ih
    clear h ih e
    go_enter Tryz.func148, Tryz.ntmps148
    go_wp2_with fail
    refine (IH.out t _ _ _ _ _ _ (HX.out.below (by exact bel)) hbb).mono ?_
    rintro e w1 ⟨rfl, hb1⟩
    have ⟨cw1, fw1⟩ := bcell hb1
    have qw1 := hb1.size
    (try simp at qw1)
    (try have zw1w := bsz (show w.heap.size < w1.heap.size by omega))
    go_wp2
    go_ret
    exact ⟨rfl, by exact bel⟩) va w h
   rw [forms_any] at this
   exact this) op a x us v1 v2 v4 w ht hl hs hza hzs
  rw [Fm.form]
  exact HR
theorem isValidFormula_any {B : Nat → Prop} (m : Nat) (t : Fm) (v0 v1 v2 v3 v4 : Value) (w : World) (h : FmAt B m w t [v0, v1, v2, v3, v4]) (hz : t.sz ≤ 100000000) (hz2 : t.asz ≤ 100000000) :
   Calls Tryz.prog 69 #[.agg #[v0, v1, v2, v3, v4]] w fun e w' => e = .returned (.bool t.good) ∧ Below w.heap.size w w' := by
 obtain ⟨p, c, q, d, rfl, rfl, rfl, rfl, rfl, -⟩ := h.form
 have H := Lib.hid h
 have HT := Lib.hid (show t.good = (decide ((t.szI : Int) ≤ 40) && t.form) by rw [Fm.good, ← Fm.szI_iff]; congr 1; rw [decide_eq_decide]; omega)
 clear h
 go_enter Tryz.func69, Tryz.ntmps69
 go_wp2_with fail
 refine (sizeOf_any m t _ _ _ _ _ _ (H.out.below (by exact bel)) hz).mono ?_
 rintro e w1 ⟨rfl, hb1⟩
 have ⟨cw1, fw1⟩ := bcell hb1
 have qw1 := hb1.size
 (try simp at qw1)
 (try have zw1w := bsz (show w.heap.size < w1.heap.size by omega))
 go_wp2_with (first | (go_at_call 107; refine (hasForm_any m t _ _ _ _ _ _ (H.out.below (by exact bel)) hz2).mono ?_; rintro e w2 ⟨rfl, hb2⟩; have ⟨cw2, fw2⟩ := bcell hb2; have qw2 := hb2.size; (try simp at qw2); (try have zw2w := bsz (show w.heap.size < w2.heap.size by omega)); (try have zw2w1 := bsz (show w1.heap.size < w2.heap.size by omega))))
 all_goals
  go_ret
  exact ⟨ret_bool (by rw [HT.out]; simp_all <;> (intros; omega)), by exact bel⟩
end Go.Proofs.YtabkdonplmlbcaaGreatDoor
