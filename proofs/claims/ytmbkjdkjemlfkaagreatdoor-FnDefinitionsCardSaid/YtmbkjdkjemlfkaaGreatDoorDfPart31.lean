import Derived.Test.YtmbkjdkjemlfkaaGreatDoorDfPart30
namespace Go.Proofs.YtmbkjdkjemlfkaaGreatDoor
set_option maxRecDepth 100000
open Go.RowKit
def UfQ (n : Nat) (d : Dfn) (t : Fm) (w : World) (e : Ending) (w' : World) : Prop := ∃ y : FC, e = .returned (.tuple #[.agg y.cs.toArray, .bool (unfD d t).2]) ∧ y.f = (unfD d t).1 ∧ FmAt (fun b => w.heap.size ≤ b ∧ b < w'.heap.size) n w' y.f y.cs ∧ Below w.heap.size w w'
theorem seven_at {w : World} {k : Nat} {x0 x1 x2 x3 x4 x5 x6 : Value} {t : TypeId} (h : w.heap[k]? = some (.cells #[x0, x1, x2, x3, x4, x5, x6] t (0, 0))) :
    w.cell? ⟨k, 0, none⟩ = some x0 ∧ w.cell? ⟨k, 1, none⟩ = some x1 ∧ w.cell? ⟨k, 2, none⟩ = some x2 ∧ w.cell? ⟨k, 3, none⟩ = some x3 ∧ w.cell? ⟨k, 4, none⟩ = some x4 ∧ w.cell? ⟨k, 5, none⟩ = some x5 ∧ w.cell? ⟨k, 6, none⟩ = some x6 := by
  refine ⟨?_, ?_, ?_, ?_, ?_, ?_, ?_⟩
  · rw [cell_of_row w k 0 _ _ (0, 0) h]; rfl
  · rw [cell_of_row w k 1 _ _ (0, 0) h]; rfl
  · rw [cell_of_row w k 2 _ _ (0, 0) h]; rfl
  · rw [cell_of_row w k 3 _ _ (0, 0) h]; rfl
  · rw [cell_of_row w k 4 _ _ (0, 0) h]; rfl
  · rw [cell_of_row w k 5 _ _ (0, 0) h]; rfl
  · rw [cell_of_row w k 6 _ _ (0, 0) h]; rfl
theorem three_new {w W : World} {a b c : Array Value} {t u v : TypeId} (h : W = ((w.alloc (.cells a t)).alloc (.cells b u)).alloc (.cells c v)) : W.heap.size = w.heap.size + 3 ∧ Below w.heap.size w W ∧ W.heap[w.heap.size]? = some (.cells a t (0, 0)) ∧ W.heap[w.heap.size + 1]? = some (.cells b u (0, 0)) ∧ W.heap[w.heap.size + 2]? = some (.cells c v (0, 0)) := by
  subst h
  refine ⟨by simp, by exact bel, (hao _ _ _ (by simp; omega)).trans ((hao _ _ _ (by simp)).trans (heap_alloc_new _ _)), (hao _ _ _ (by simp)).trans ?_, ?_⟩
  · have := heap_alloc_new (w.alloc (.cells a t)) (.cells b u)
    rwa [World.size_alloc] at this
  · have := heap_alloc_new ((w.alloc (.cells a t)).alloc (.cells b u)) (.cells c v)
    rwa [World.size_alloc, World.size_alloc] at this
theorem uf_world (w1 : World) (zf rb : Nat) (bv u0 u1 u2 u3 u4 : Value) (o : Obj) {a0 a1 a2 a3 a4 : Value} {T : TypeId} (hr : w1.heap[rb]? = some (.cells #[a0, a1, a2, a3, a4] T (0, 0))) (hne : rb ≠ zf) :
    Kp (fun b => b = zf ∨ b = rb) w1 ((set5C (w1.setCell ⟨zf, 0, none⟩ bv) rb u0 u1 u2 u3 u4).alloc o) ∧ Kp (fun b => b = rb) (w1.setCell ⟨zf, 0, none⟩ bv) ((set5C (w1.setCell ⟨zf, 0, none⟩ bv) rb u0 u1 u2 u3 u4).alloc o) ∧ ((set5C (w1.setCell ⟨zf, 0, none⟩ bv) rb u0 u1 u2 u3 u4).alloc o).heap[rb]? = some (.cells #[u0, u1, u2, u3, u4] T (0, 0)) := by
  have h0 : Kp (fun b => b = zf) w1 (w1.setCell ⟨zf, 0, none⟩ bv) := (Kp.refl (fun b => b = zf) w1).sc (a := ⟨zf, 0, none⟩) (.inl rfl) bv
  have h1 : ∀ W : World, Kp (fun b => b = rb) W (set5C W rb u0 u1 u2 u3 u4) := fun W =>
    (((((Kp.refl (fun b => b = rb) W).sc (a := ⟨rb, 0, none⟩) (.inl rfl) u0).sc (a := ⟨rb, 1, none⟩) (.inl rfl) u1).sc (a := ⟨rb, 2, none⟩) (.inl rfl) u2).sc (a := ⟨rb, 3, none⟩) (.inl rfl) u3).sc (a := ⟨rb, 4, none⟩) (.inl rfl) u4
  have h2 := (h1 (w1.setCell ⟨zf, 0, none⟩ bv)).alloc o
  have h3 := set5_cells (w1.setCell ⟨zf, 0, none⟩ bv) (u0 := u0) (u1 := u1) (u2 := u2) (u3 := u3) (u4 := u4) ((heap_setCell_other w1 ⟨zf, 0, none⟩ rb bv hne).trans hr)
  exact ⟨(h0.mono (fun b e => .inl (.inl e))).trans h2 (fun b e => .inl (.inr e)), h2, (hao _ _ _ (blk_lt h3)).trans h3⟩
theorem set5_world (W : World) (rb : Nat) (u0 u1 u2 u3 u4 : Value) {a0 a1 a2 a3 a4 : Value} {T : TypeId} (hr : W.heap[rb]? = some (.cells #[a0, a1, a2, a3, a4] T (0, 0))) :
    Kp (fun b => b = rb) W (set5C W rb u0 u1 u2 u3 u4) ∧ (set5C W rb u0 u1 u2 u3 u4).heap[rb]? = some (.cells #[u0, u1, u2, u3, u4] T (0, 0)) :=
  ⟨(((((Kp.refl (fun b => b = rb) W).sc (a := ⟨rb, 0, none⟩) (.inl rfl) u0).sc (a := ⟨rb, 1, none⟩) (.inl rfl) u1).sc (a := ⟨rb, 2, none⟩) (.inl rfl) u2).sc (a := ⟨rb, 3, none⟩) (.inl rfl) u3).sc (a := ⟨rb, 4, none⟩) (.inl rfl) u4, set5_cells W hr⟩
def Uf1Q (n zf : Nat) (b0 : Bool) (d : Dfn) (t : Fm) (w : World) (e : Ending) (w' : World) : Prop := ∃ y : FC, e = .returned (.agg y.cs.toArray) ∧ y.f = (unfD d t).1 ∧ FmAt (fun b => w.heap.size ≤ b ∧ b < w'.heap.size) n w' y.f y.cs ∧ w'.heap[zf]? = some (.cells #[.bool (b0 && (unfD d t).2)] 4 (0, 0)) ∧ w.grownBy w' (some zf)
set_option maxHeartbeats 3200000 in
theorem unfold1_of (base n zd zf : Nat) (x : DC) (b0 : Bool) (t : Fm) (u0 u1 u2 u3 u4 : Value) (wr : World) (hx : ∃ m, FmAt (fun b => b < base) m wr t [u0, u1, u2, u3, u4]) (hc : wr.heap[zd]? = some (.cells x.cs.toArray 60 (0, 0))) (hf : wr.heap[zf]? = some (.cells #[.bool b0] 4 (0, 0)))
    (H : ∀ W : World, Below wr.heap.size wr W → Calls Tryz.prog 26 #[.agg #[u0, u1, u2, u3, u4], .agg x.cs.toArray] W (UfQ n x.d t W)) :
    Calls Tryz.prog 56 #[.agg #[u0, u1, u2, u3, u4], .pointer (some ⟨zd, 0, none⟩), .pointer (some ⟨zf, 0, none⟩)] wr (Uf1Q n zf b0 x.d t wr) := by
  obtain ⟨m, hx⟩ := hx
  obtain ⟨p, pc, q, d, rfl, rfl, rfl, rfl, rfl, -⟩ := hx.form
  have hxc : x.cs.toArray = #[.string x.name, .slice x.p x.vars.length x.c, .int .i64 x.f.f.op, .string x.f.f.a.n, .slice x.f.p x.f.f.a.us.length x.f.c, .string x.f.f.v, .slice x.f.q x.f.f.ps.length x.f.d] := rfl
  rw [hxc] at hc H
  clear hxc
  obtain ⟨W, hW⟩ : ∃ W : World, W = (wr.alloc (.cells #[.int .i64 t.op, .string t.a.n, .slice p t.a.us.length pc, .string t.v, .slice q t.ps.length d] 29)).alloc (.cells #[.int .i64 0, .string ⟨#[]⟩, .slice none 0 0, .string ⟨#[]⟩, .slice none 0 0] 29) := ⟨_, rfl⟩
  obtain ⟨hsW, hbW, A0, A1⟩ := two_new hW
  obtain ⟨a0, a1, a2, a3, a4⟩ := five_at A0
  have za := bsz (show wr.heap.size < W.heap.size by omega)
  have HR0 := Lib.hid A1
  have HBW := Lib.hid hbW
  have hzl := blk_lt hc
  obtain ⟨d0, d1, d2, d3, d4, d5, d6⟩ := seven_at hc
  have zc := bsz hzl
  have HFZ := Lib.hid hf
  have HH := Lib.hid H
  have hfl := blk_lt hf
  clear hx A0 A1 hbW hc H hzl hf
  go_enter Tryz.func56, Tryz.ntmps56
  go_wp2_with fail
  rw [← hW]
  clear hW
  refine (HH.out W HBW.out).mono ?_
  rintro e w1 ⟨y, rfl, hy, h1, h2⟩
  obtain ⟨r, hr⟩ : ∃ r, (unfD x.d t).2 = r := ⟨_, rfl⟩
  rw [hr]
  have HRR := Lib.hid hr
  have HY := Lib.hid hy
  have HF1 := Lib.hid ((h2.block zf (by omega)).trans ((HBW.out.block zf hfl).trans HFZ.out))
  have hz1 := h2.size
  have f0 : w1.cell? ⟨zf, 0, none⟩ = some (.bool b0) := by rw [cell_of_row w1 zf 0 _ _ (0, 0) HF1.out]; rfl
  have ff : ∀ j, w1.frozen? ⟨zf, j, none⟩ = false := fun j => frozen_of_row w1 _ j _ _ HF1.out
  have zf1 := bsz (blk_lt HF1.out)
  have HRB := Lib.hid ((h2.block (wr.heap.size + 1) (by omega)).trans HR0.out)
  obtain ⟨r0, r1, r2, r3, r4⟩ := five_at HRB.out
  have rf : ∀ j, w1.frozen? ⟨wr.heap.size + 1, j, none⟩ = false := fun j => frozen_of_row w1 _ j _ _ HRB.out
  have zr := bsz (blk_lt HRB.out)
  have H1 := Lib.hid h1
  have HB1 := Lib.hid (Below.step HBW.out h2)
  clear a0 a1 a2 a3 a4 za d0 d1 d2 d3 d4 d5 d6 zc hr hy h1 h2
  rw [show y.cs.toArray = #[.int .i64 y.f.op, .string y.f.a.n, .slice y.p y.f.a.us.length y.c, .string y.f.v, .slice y.q y.f.ps.length y.d] from rfl]
  cases b0
  · go_wp2
    obtain ⟨hk, hk2, hk3⟩ := uf_world w1 zf (wr.heap.size + 1) (.bool false) (.int .i64 y.f.op) (.string y.f.a.n) (.slice y.p y.f.a.us.length y.c) (.string y.f.v) (.slice y.q y.f.ps.length y.d) (.cells #[.int .i64 y.f.op, .string y.f.a.n, .slice y.p y.f.a.us.length y.c, .string y.f.v, .slice y.q y.f.ps.length y.d] 29) HRB.out (by omega)
    obtain ⟨F, hF⟩ : ∃ F, F = (set5C (w1.setCell ⟨zf, 0, none⟩ (.bool false)) (wr.heap.size + 1) (.int .i64 y.f.op) (.string y.f.a.n) (.slice y.p y.f.a.us.length y.c) (.string y.f.v) (.slice y.q y.f.ps.length y.d)).alloc (.cells #[.int .i64 y.f.op, .string y.f.a.n, .slice y.p y.f.a.us.length y.c, .string y.f.v, .slice y.q y.f.ps.length y.d] 29) := ⟨_, rfl⟩
    rw [← hF] at hk hk2 hk3 ⊢
    clear hF r0 r1 r2 r3 r4 rf zr
    obtain ⟨r0, r1, r2, r3, r4⟩ := five_at hk3
    have zr := bsz (blk_lt hk3)
    have hbz : zf < w1.heap.size := blk_lt HF1.out
    have hzk := hk.size
    refine bodyPost_ret (v := .agg #[.int .i64 y.f.op, .string y.f.a.n, .slice y.p y.f.a.us.length y.c, .string y.f.v, .slice y.q y.f.ps.length y.d]) (by simp only [results, Tryz.results56]; go_simp) rfl ⟨y, rfl, HY.out, FmAt.mono (hk.same (fun b hb => by omega)) (fun b hb => ⟨by omega, by omega⟩) _ _ _ _ (Nat.le_refl _) H1.out, ?_, ?_⟩
    · refine (hk2.block zf (by simpa using hbz) (by omega)).trans ?_
      have h0 := heap_setCell_same w1 zf 0 _ _ (.bool false) HF1.out
      rw [HRR.out]
      exact h0
    · exact ⟨hk.os.trans HB1.out.os, hk.tape.trans HB1.out.tape, hk.output.trans HB1.out.output, by have := HB1.out.size; omega, fun b hb hne => (hk.block b (by have := HB1.out.size; omega) (fun e => e.elim (fun e => hne (by rw [e])) (fun e => by omega))).trans (HB1.out.block b hb)⟩
  · go_wp2
    obtain ⟨hk, hk2, hk3⟩ := uf_world w1 zf (wr.heap.size + 1) (.bool r) (.int .i64 y.f.op) (.string y.f.a.n) (.slice y.p y.f.a.us.length y.c) (.string y.f.v) (.slice y.q y.f.ps.length y.d) (.cells #[.int .i64 y.f.op, .string y.f.a.n, .slice y.p y.f.a.us.length y.c, .string y.f.v, .slice y.q y.f.ps.length y.d] 29) HRB.out (by omega)
    obtain ⟨F, hF⟩ : ∃ F, F = (set5C (w1.setCell ⟨zf, 0, none⟩ (.bool r)) (wr.heap.size + 1) (.int .i64 y.f.op) (.string y.f.a.n) (.slice y.p y.f.a.us.length y.c) (.string y.f.v) (.slice y.q y.f.ps.length y.d)).alloc (.cells #[.int .i64 y.f.op, .string y.f.a.n, .slice y.p y.f.a.us.length y.c, .string y.f.v, .slice y.q y.f.ps.length y.d] 29) := ⟨_, rfl⟩
    rw [← hF] at hk hk2 hk3 ⊢
    clear hF r0 r1 r2 r3 r4 rf zr
    obtain ⟨r0, r1, r2, r3, r4⟩ := five_at hk3
    have zr := bsz (blk_lt hk3)
    have hbz : zf < w1.heap.size := blk_lt HF1.out
    have hzk := hk.size
    refine bodyPost_ret (v := .agg #[.int .i64 y.f.op, .string y.f.a.n, .slice y.p y.f.a.us.length y.c, .string y.f.v, .slice y.q y.f.ps.length y.d]) (by simp only [results, Tryz.results56]; go_simp) rfl ⟨y, rfl, HY.out, FmAt.mono (hk.same (fun b hb => by omega)) (fun b hb => ⟨by omega, by omega⟩) _ _ _ _ (Nat.le_refl _) H1.out, ?_, ?_⟩
    · refine (hk2.block zf (by simpa using hbz) (by omega)).trans ?_
      have h0 := heap_setCell_same w1 zf 0 _ _ (.bool r) HF1.out
      rw [HRR.out]
      exact h0
    · exact ⟨hk.os.trans HB1.out.os, hk.tape.trans HB1.out.tape, hk.output.trans HB1.out.output, by have := HB1.out.size; omega, fun b hb hne => (hk.block b (by have := HB1.out.size; omega) (fun e => e.elim (fun e => hne (by rw [e])) (fun e => by omega))).trans (HB1.out.block b hb)⟩
def StF (zf : Nat) (d : Dfn) (ps : List Fm) : Nat → (Nat → Prop) → World → Prop := fun k X w => X = (fun b => b = zf) ∧ w.heap[zf]? = some (.cells #[.bool ((ps.take k).all (fun p => (unfD d p).2))] 4 (0, 0))
theorem StF.ok (zf : Nat) (d : Dfn) (ps : List Fm) : StOk (StF zf d ps) := by
  refine ⟨fun k X w h b hb => ?_, fun k X w w' h hk => ⟨h.1, ?_⟩⟩
  · obtain ⟨rfl, h⟩ := h
    obtain rfl : b = zf := hb
    exact blk_lt h
  · obtain ⟨rfl, h⟩ := h
    exact (hk.block zf (blk_lt h) (fun e => e rfl)).trans h
theorem unfDs_eq (d : Dfn) : ∀ ps : List Fm, unfDs d ps = (ps.map (fun p => (unfD d p).1), ps.all (fun p => (unfD d p).2))
  | [] => by rw [unfDs]; rfl
  | f :: fs => by rw [unfDs, unfDs_eq d fs]; rfl
set_option maxHeartbeats 6400000 in
theorem unfold_any (base Md : Nat) (x : DC) (hxw : x.f.f.wt ≤ 1000000) : ∀ (m : Nat) (t : Fm) (v0 v1 v2 v3 v4 : Value) (w : World), FmAt (fun b => b < base) m w t [v0, v1, v2, v3, v4] → base ≤ w.heap.size → DAt (fun b => b < base) Md w x → t.wt ≤ 1000000 →
    Calls Tryz.prog 26 #[.agg #[v0, v1, v2, v3, v4], .agg x.cs.toArray] w (UfQ (m + Md) x.d t w) := by
  intro m
  induction m with
  | zero => intro t v0 v1 v2 v3 v4 w h; exact h.elim
  | succ m ih =>
    rintro ⟨op, a, xv, ps⟩ v0 v1 v2 v3 v4 w h hb hd hw
    obtain ⟨p, pc, q, d, rfl, rfl, rfl, rfl, rfl, -⟩ := h.form
    simp only [Fm.op, Fm.a, Fm.v, Fm.ps] at h ⊢
    have HT := Lib.hid h
    have HD := Lib.hid hd
    have hnm := hd.nm
    have hxc : x.cs.toArray = #[.string x.name, .slice x.p x.vars.length x.c, .int .i64 x.f.f.op, .string x.f.f.a.n, .slice x.f.p x.f.f.a.us.length x.f.c, .string x.f.f.v, .slice x.f.q x.f.f.ps.length x.f.d] := rfl
    obtain ⟨W, hW⟩ : ∃ W : World, W = ((w.alloc (.cells #[.int .i64 op, .string a.n, .slice p a.us.length pc, .string xv, .slice q ps.length d] 29)).alloc (.cells #[.string x.name, .slice x.p x.vars.length x.c, .int .i64 x.f.f.op, .string x.f.f.a.n, .slice x.f.p x.f.f.a.us.length x.f.c, .string x.f.f.v, .slice x.f.q x.f.f.ps.length x.f.d] 60)).alloc (.cells #[.int .i64 0, .string ⟨#[]⟩, .slice none 0 0, .string ⟨#[]⟩, .slice none 0 0] 29) := ⟨_, rfl⟩
    obtain ⟨hsW, hbW, A0, A1, A2⟩ := three_new hW
    obtain ⟨a0, a1, a2, a3, a4⟩ := five_at A0
    obtain ⟨d0, d1, d2, d3, d4, d5, d6⟩ := seven_at A1
    have za := bsz (show w.heap.size < W.heap.size by omega)
    have zd := bsz (show w.heap.size + 1 < W.heap.size by omega)
    have HR0 := Lib.hid A2
    have HA0 := Lib.hid A0
    have HA1 := Lib.hid A1
    have HBW := Lib.hid hbW
    have HC : Hid (¬ (op = 3 ∧ a.n = x.name) → Calls Tryz.prog 39 #[.agg #[.int .i64 op, .string a.n, .slice p a.us.length pc, .string xv, .slice q ps.length d], .func (.func 56) #[] #[.pointer (some ⟨w.heap.size + 1, 0, none⟩), .pointer (some ⟨w.heap.size + 3, 0, none⟩)]] (W.alloc (.cells #[.bool true] 4)) (fun e w' => ∃ y : FC, e = .returned (.agg y.cs.toArray) ∧ y.f = .mk op a xv (unfDs x.d ps).1 ∧ FmAt (fun b => w.heap.size + 4 ≤ b ∧ b < w'.heap.size) (m + 1 + Md) w' y.f y.cs ∧ w'.heap[w.heap.size + 3]? = some (.cells #[.bool (unfDs x.d ps).2] 4 (0, 0)) ∧ (W.alloc (.cells #[.bool true] 4)).grownBy w' (some (w.heap.size + 3)))) := by
      refine Lib.hid (fun hne => ?_)
      obtain ⟨W3, hW3⟩ : ∃ W3, W3 = W.alloc (.cells #[.bool true] 4) := ⟨_, rfl⟩
      have hs3 : W3.heap.size = w.heap.size + 4 := by rw [hW3]; simp; omega
      have hb3 : Below W.heap.size W W3 := by rw [hW3]; exact (Below.refl _ _).alloc (Nat.le_refl _) _
      have hf3 : W3.heap[w.heap.size + 3]? = some (.cells #[.bool true] 4 (0, 0)) := by rw [hW3, ← hsW]; exact heap_alloc_new W _
      rw [← hW3]
      have hb03 := Below.step hbW hb3
      refine (mapParts_any 56 #[.pointer (some ⟨w.heap.size + 1, 0, none⟩), .pointer (some ⟨w.heap.size + 3, 0, none⟩)] (fun _ _ => rfl) (StF (w.heap.size + 3) x.d ps) (StF.ok _ _ _) (m + Md) m (by omega) (fun k => (unfD x.d (ps.getD k fmZero)).1) op a xv ps _ _ _ _ _ W3 (fun b => b = w.heap.size + 3) (fun b hb' e => by have hb'' : b < base := hb'; omega) (FmAt.below hb03 h) hw ⟨rfl, by rw [List.take_zero]; exact hf3⟩
        (fun k hk X wr u0 u1 u2 u3 u4 hst hkp hxx hx => by
          obtain ⟨rfl, hz⟩ := hst
          have hzr := hkp.size
          have hwr : Below w.heap.size w wr := ⟨hkp.os.trans hb03.os, hkp.tape.trans hb03.tape, hkp.output.trans hb03.output, by omega, fun b hb' => (hkp.block b (by omega) (by omega)).trans (hb03.block b hb')⟩
          have hcd : wr.heap[w.heap.size + 1]? = some (.cells x.cs.toArray 60 (0, 0)) := (hkp.block _ (by omega) (by omega)).trans ((hb3.block _ (by omega)).trans A1)
          refine (unfold1_of base (m + Md) (w.heap.size + 1) (w.heap.size + 3) x _ ps[k] u0 u1 u2 u3 u4 wr ⟨m, hx⟩ hcd hz (fun W' hW' => ih ps[k] u0 u1 u2 u3 u4 W' (FmAt.below hW' hx) (by have := hW'.size; omega) (hd.mono (SameOn.be (SameOn.below hwr) hwr.size hW') (fun _ h => h) (Nat.le_refl _)) (by have := Fm.wts_le ps hk; rw [Fm.wt] at hw; omega))).mono ?_
          rintro e w' ⟨y, h1, h2, h3, h4, h5⟩
          refine ⟨y, fun b => b = w.heap.size + 3, h1, h2.trans (by simp [hk]), FmAt.mono (SameOn.refl _ _) (fun b hb' => ⟨hb'.1, hb'.2, by omega⟩) _ _ _ _ (Nat.le_refl _) h3, ⟨rfl, ?_⟩, fun b e => .inl e, (Kp.of_gr h5).mono (fun b e => .inl (by injection e with e; exact e.symm))⟩
          rw [h4, List.take_succ_eq_append_getElem hk, List.all_append]
          simp)).mono ?_
      rintro e w' ⟨y, X', h1, h2, h3, ⟨rfl, hz⟩, h5, h6⟩
      rw [List.take_length] at hz
      rw [range_get (fun f => (unfD x.d f).1)] at h2
      refine ⟨y, h1, by rw [h2, unfDs_eq], FmAt.mono (SameOn.refl _ _) (fun b hb' => ⟨by omega, hb'.2.1⟩) _ _ _ _ (by omega) h3, by rw [hz, unfDs_eq], ⟨h6.os, h6.tape, h6.output, h6.size, fun b hb' hn => h6.block b hb' (fun e => hn (by rw [e]))⟩⟩
    rw [hxc]
    clear A0 A1 A2 hbW ih h
    by_cases h3 : op = 3
    · subst h3
      by_cases hn : a.n = x.name
      · have hnb : (a.n.toList == x.name.toList) = true := by rw [hn]; exact beq_self_eq_true _
        by_cases hl : a.us.length = x.vars.length
        · have hlb : ((a.us.length : Int) != x.vars.length) = false := by rw [hl]; simp
          have HU := Lib.hid (show unfD x.d (.mk 3 a xv ps) = (insF (lookV x.vars a.us) x.f.f, true) by rw [unfD, if_pos ⟨rfl, hn⟩]; show (if a.us.length = x.vars.length then _ else _) = _; rw [if_pos hl]; rfl)
          have HLN := Lib.hid hl
          clear HC hl hn
          have hmm := @run_makeMap Tryz.prog
          go_enter Tryz.func26, Tryz.ntmps26
          go_wp2_with fail
          rw [← hW]
          clear hW
          go_wp2_with fail
          go_wp2
          obtain ⟨W4, hW4⟩ : ∃ q', q' = W.alloc (.map #[] 0) := ⟨_, rfl⟩
          have hs4 : W4.heap.size = w.heap.size + 4 := by rw [hW4]; simp; omega
          have hb4 : Below W.heap.size W W4 := by rw [hW4]; exact (Below.refl _ _).alloc (Nat.le_refl _) _
          have HM4 := Lib.hid (show MapT W4 (w.heap.size + 1 + 1 + 1) 0 [] by
            rw [hW4]
            have := MapT.nil W
            rwa [hsW] at this)
          rw [← hW4]
          clear hW4 a0 a1 a2 a3 a4 za d0 d1 d2 d3 d4 d5 d6 zd hmm
          obtain ⟨vn, va, vp, hcs, -, -, hta, -⟩ := HT.out
          simp only [List.cons.injEq, and_true] at hcs
          obtain ⟨-, rfl, rfl, -, -⟩ := hcs
          have HAR := Lib.hid hta.args
          have HB4 := Lib.hid (Below.step HBW.out hb4)
          have HA4 := Lib.hid ((hb4.block w.heap.size (by omega)).trans HA0.out)
          have HD4 := Lib.hid ((hb4.block (w.heap.size + 1) (by omega)).trans HA1.out)
          have HR4 := Lib.hid ((hb4.block (w.heap.size + 2) (by omega)).trans HR0.out)
          have hau : Tm.wts a.us ≤ 1000000 := by
            have e : a.wt = a.n.size + a.us.length + Tm.wts a.us := by obtain ⟨n, us⟩ := a; rfl
            rw [Fm.wt] at hw; omega
          have hul : a.us.length ≤ 1000000 := by
            have e : a.wt = a.n.size + a.us.length + Tm.wts a.us := by obtain ⟨n, us⟩ := a; rfl
            rw [Fm.wt] at hw; omega
          have hlv := HLN.out
          have hvl : x.vars.length ≤ 1000000 := by omega
          have HVL := Lib.hid hlv
          clear hta hb4 hlv
          go_loopw [35] (fun iv wr => ∃ (i : Nat) (L : List (ByteArray × TC)), i ≤ x.vars.length ∧ iv = .int .i64 i ∧ L.map (fun p => (p.1, p.2.t)) = (x.vars.zip a.us).take i ∧ (∀ p ∈ L, TmAt (fun b => b < base) m w p.2.t p.2.cs ∧ p.2.t.wt ≤ 1000000) ∧ MapT wr (w.heap.size + 1 + 1 + 1) i L ∧ Kp (fun b => b = w.heap.size + 3) W4 wr) (fun iv _ => x.vars.length - (intOf iv).toNat)
          case atStart => exact ⟨0, [], Nat.zero_le _, rfl, rfl, fun p hp => by simp at hp, HM4.out, Kp.refl _ _⟩
          case round =>
            obtain ⟨i, L, hi, rfl, hL, hE, hM, hkp⟩ := hrel
            have HLL := Lib.hid hL
            have HE := Lib.hid hE
            have HMM := Lib.hid hM
            have HKP := Lib.hid hkp
            have hzr := hkp.size
            have HWR := Lib.hid (show Below w.heap.size w wr from ⟨hkp.os.trans HB4.out.os, hkp.tape.trans HB4.out.tape, hkp.output.trans HB4.out.output, by omega, fun b hb' => (hkp.block b (by omega) (by omega)).trans (HB4.out.block b hb')⟩)
            obtain ⟨a0, a1, a2, a3, a4⟩ := five_at ((hkp.block w.heap.size (by omega) (by omega)).trans HA4.out)
            obtain ⟨d0, d1, d2, d3, d4, d5, d6⟩ := seven_at ((hkp.block (w.heap.size + 1) (by omega) (by omega)).trans HD4.out)
            have za := bsz (show w.heap.size < wr.heap.size by omega)
            have zd := bsz (show w.heap.size + 1 < wr.heap.size by omega)
            by_cases hlt : i < x.vars.length
            · have hlti : (i : Int) < x.vars.length := by omega
              have hlta : (i : Int) < a.us.length := by have := HVL.out; omega
              have hltn : i < a.us.length := by have := HVL.out; omega
              obtain ⟨b, o, hpe, hBb, hx0, hxs⟩ := (HD.out.vs.below HWR.out).at_ hlt
              obtain ⟨nm, hnm'⟩ : ∃ nm, x.vars[i] = nm := ⟨_, rfl⟩
              have HNM := Lib.hid hnm'
              rw [hnm'] at hx0 hxs
              obtain ⟨b', o', hpe', hBb', y0, y1, hy0, hy1, hy⟩ := HAR.out.at2 hltn
              obtain ⟨u, hu⟩ : ∃ u, a.us[i] = u := ⟨_, rfl⟩
              have HUU := Lib.hid hu
              rw [hu] at hy
              obtain ⟨pu, cu, rfl, rfl, -⟩ := hy.form
              have hyw := HWR.out
              have hy0' := cellQ hyw hy0
              have hy1' := cellQ hyw hy1
              obtain ⟨W7, hrun, hM7, hg7⟩ := hM.add (by omega) nm hxs ⟨u, pu, cu⟩
              have zb := bsz (World.block_lt_of_cell? _ _ hx0)
              have zb' := bsz (World.block_lt_of_cell? _ _ hy0')
              have HY := Lib.hid hy
              have huw : u.wt ≤ 1000000 := by have := Tm.wts_le a.us hltn; rw [hu] at this; omega
              rw [show (TC.cs ⟨u, pu, cu⟩).toArray = #[.string u.n, .slice pu u.us.length cu] from rfl] at hrun
              subst hpe'
              rw [hpe] at d1 ⊢
              clear hpe hL hE hM hkp hnm' hu hy hy0 hy1 hyw
              go_wp2
              refine ⟨⟨i + 1, L ++ [(nm, ⟨u, pu, cu⟩)], by omega, by go_num, ?_, ?_, hM7, ?_⟩, by simp [intOf]; omega⟩
              · rw [List.map_append, HLL.out, List.take_succ_eq_append_getElem (by rw [List.length_zip]; omega), List.getElem_zip, HNM.out, HUU.out]; rfl
              · intro p hp
                rcases List.mem_append.1 hp with hp | hp
                · exact HE.out p hp
                · obtain rfl : p = _ := by simpa using hp
                  exact ⟨HY.out, huw⟩
              · exact HKP.out.trans (Kp.of_gr hg7) (fun b e => .inl (by injection e with e; exact e.symm))
            · obtain rfl : i = x.vars.length := by omega
              have hLT : lookT L = lookV x.vars a.us := by
                funext s
                rw [lookT, findC, lookV, ← List.take_length (l := x.vars.zip a.us), show (x.vars.zip a.us).length = x.vars.length by rw [List.length_zip]; have := HVL.out; omega, ← hL, ← List.map_reverse, List.find?_map]
                simp [Function.comp_def]
              have HLT := Lib.hid hLT
              clear hL hE hM hkp hLT
              go_wp2_with fail
              obtain ⟨px, qx, rx, sx, e0, e1, e2, e3, e4, -⟩ := HD.out.fm.form
              refine (instance_any wr.heap.size m (w.heap.size + 1 + 1 + 1) x.vars.length L Md x.f.f _ _ _ _ _ wr (FmAt.mono (SameOn.below HWR.out) (fun b hb' => by have hb'' : b < base := hb'; show b < wr.heap.size; omega) _ _ _ _ (Nat.le_refl _) HD.out.fm) (Nat.le_refl _) ⟨HMM.out, by omega, fun p hp => ⟨TmAt.mono (SameOn.below HWR.out) (fun b hb' => by have hb'' : b < base := hb'; show b < wr.heap.size; omega) _ _ _ _ (Nat.le_refl _) (HE.out p hp).1, (HE.out p hp).2⟩⟩ hxw).mono ?_
              rintro e w1 ⟨y, rfl, hy, h1, h2⟩
              have hz1 := h2.size
              have HR6 : w1.heap[w.heap.size + 1 + 1]? = _ := (h2.block (w.heap.size + 2) (by omega)).trans ((HKP.out.block _ (by omega) (by omega)).trans HR4.out)
              obtain ⟨r0, r1, r2, r3, r4⟩ := five_at HR6
              have rf : ∀ j, w1.frozen? ⟨w.heap.size + 1 + 1, j, none⟩ = false := fun j => frozen_of_row w1 _ j _ _ HR6
              have zr := bsz (blk_lt HR6)
              have HYF := Lib.hid hy
              have H1 := Lib.hid h1
              have HB1 := Lib.hid (Below.step HWR.out h2)
              clear a0 a1 a2 a3 a4 za d0 d1 d2 d3 d4 d5 d6 zd hy h1 h2
              rw [show y.cs.toArray = #[.int .i64 y.f.op, .string y.f.a.n, .slice y.p y.f.a.us.length y.c, .string y.f.v, .slice y.q y.f.ps.length y.d] from rfl]
              go_wp2
              refine bodyPost_ret (v := .tuple #[.agg #[.int .i64 y.f.op, .string y.f.a.n, .slice y.p y.f.a.us.length y.c, .string y.f.v, .slice y.q y.f.ps.length y.d], .bool true]) (by simp only [results, Tryz.results26]; go_simp) rfl ⟨y, by rw [HU.out]; rfl, by rw [HU.out, HYF.out, HLT.out], ?_, ?_⟩
              · refine FmAt.mono ((((((SameOn.refl _ _).sc ?_ _).sc ?_ _).sc ?_ _).sc ?_ _).sc ?_ _) (fun b hb => ⟨by omega, by simp; omega⟩) _ _ _ _ (by omega) H1.out
                all_goals (intro b hb e; simp at e; omega)
              · have hk := HB1.out
                exact bel
        · have hlb : ((a.us.length : Int) != x.vars.length) = true := by rw [bne_iff_ne]; omega
          have HU := Lib.hid (show unfD x.d (.mk 3 a xv ps) = (fmZero, false) by rw [unfD, if_pos ⟨rfl, hn⟩]; show (if a.us.length = x.vars.length then _ else _) = _; rw [if_neg hl])
          obtain ⟨vn, va, vp, -, -, -, hta, -⟩ := HT.out
          have hm1 : 1 ≤ m := by
            cases m with
            | zero => exact hta.elim
            | succ m => omega
          clear HC hl hn hta
          obtain ⟨r0, r1, r2, r3, r4⟩ := five_at HR0.out
          have rf : ∀ j, W.frozen? ⟨w.heap.size + 2, j, none⟩ = false := fun j => frozen_of_row W _ j _ _ HR0.out
          have zr := bsz (blk_lt HR0.out)
          go_enter Tryz.func26, Tryz.ntmps26
          go_wp2_with fail
          rw [← hW]
          clear hW
          go_wp2
          obtain ⟨k, hk⟩ : ∃ k, m + Md = k + 1 := ⟨m + Md - 1, by omega⟩
          refine bodyPost_ret (v := .tuple #[.agg #[.int .i64 0, .string ⟨#[]⟩, .slice none 0 0, .string ⟨#[]⟩, .slice none 0 0], .bool false]) (by simp only [results, Tryz.results26]; go_simp) rfl ⟨⟨fmZero, none, 0, none, 0⟩, by rw [HU.out]; rfl, by rw [HU.out], ?_, HBW.out⟩
          rw [show m + 1 + Md = k + 1 + 1 by omega]
          exact ⟨_, _, _, rfl, by omega, Nat.zero_le _, ⟨_, rfl, Nat.zero_le _, ListAt.nil _ _ _ _ _ _⟩, ListAt.nil _ _ _ _ _ _⟩
      · have hnb : (a.n.toList == x.name.toList) = false := by
          rw [ByteArray.toList_eq, ByteArray.toList_eq, beq_eq_false_iff_ne]
          exact fun e => hn (ByteArray.ext (Array.toList_inj.1 e))
        have HU := Lib.hid (show unfD x.d (.mk 3 a xv ps) = (.mk 3 a xv (unfDs x.d ps).1, (unfDs x.d ps).2) by rw [unfD, if_neg (fun h => hn h.2)])
        have HM := Lib.hid (HC.out (fun h => hn h.2))
        clear HC hn
        go_enter Tryz.func26, Tryz.ntmps26
        go_wp2_with fail
        rw [← hW]
        clear hW
        go_wp2_with fail
        refine HM.out.mono ?_
        rintro e w1 ⟨y, rfl, hy, h1, hz, hg⟩
        have hz1 := hg.size
        rw [World.size_alloc] at hz1
        have hkw : ∀ b, b < w.heap.size + 3 → w1.heap[b]? = W.heap[b]? := fun b hb' => (hg.block b (by simp; omega) (by simp; omega)).trans (hao _ _ _ (by omega))
        obtain ⟨W6, hW6⟩ : ∃ q', q' = w1.alloc (.cells #[.int .i64 y.f.op, .string y.f.a.n, .slice y.p y.f.a.us.length y.c, .string y.f.v, .slice y.q y.f.ps.length y.d] 29) := ⟨_, rfl⟩
        have hs6 : W6.heap.size = w1.heap.size + 1 := by rw [hW6]; simp
        have hb6 : Below w1.heap.size w1 W6 := by rw [hW6]; exact (Below.refl _ _).alloc (Nat.le_refl _) _
        have B6 : W6.heap[w1.heap.size]? = some (.cells #[.int .i64 y.f.op, .string y.f.a.n, .slice y.p y.f.a.us.length y.c, .string y.f.v, .slice y.q y.f.ps.length y.d] 29 (0, 0)) := by rw [hW6]; exact heap_alloc_new w1 _
        have HZ6 : W6.heap[w.heap.size + 1 + 1 + 1]? = some (.cells #[.bool (unfDs x.d ps).2] 4 (0, 0)) := (hb6.block (w.heap.size + 3) (by omega)).trans hz
        have HR6 : W6.heap[w.heap.size + 1 + 1]? = _ := (hb6.block (w.heap.size + 2) (by omega)).trans ((hkw _ (by omega)).trans HR0.out)
        have HKW := Lib.hid hkw
        have HY := Lib.hid hy
        have HB6 := Lib.hid hb6
        have HG := Lib.hid hg
        have H1 := Lib.hid h1
        clear hy h1 hz hg hkw hb6 a0 a1 a2 a3 a4 za d0 d1 d2 d3 d4 d5 d6 zd
        rw [show y.cs.toArray = #[.int .i64 y.f.op, .string y.f.a.n, .slice y.p y.f.a.us.length y.c, .string y.f.v, .slice y.q y.f.ps.length y.d] from rfl]
        go_wp2_with fail
        rw [← hW6]
        clear hW6
        obtain ⟨b0, b1, b2, b3, b4⟩ := five_at B6
        have zb := bsz (blk_lt B6)
        have f0 : W6.cell? ⟨w.heap.size + 1 + 1 + 1, 0, none⟩ = some (.bool (unfDs x.d ps).2) := by rw [cell_of_row W6 _ 0 _ _ (0, 0) HZ6]; rfl
        have zf := bsz (blk_lt HZ6)
        obtain ⟨r0, r1, r2, r3, r4⟩ := five_at HR6
        have rf : ∀ j, W6.frozen? ⟨w.heap.size + 1 + 1, j, none⟩ = false := fun j => frozen_of_row W6 _ j _ _ HR6
        have zr := bsz (blk_lt HR6)
        go_region
        obtain ⟨F, hF⟩ : ∃ F, F = ((((W6.setCell ⟨w.heap.size + 1 + 1, 0, none⟩ (.int .i64 y.f.op)).setCell ⟨w.heap.size + 1 + 1, 1, none⟩ (.string y.f.a.n)).setCell ⟨w.heap.size + 1 + 1, 2, none⟩ (.slice y.p y.f.a.us.length y.c)).setCell ⟨w.heap.size + 1 + 1, 3, none⟩ (.string y.f.v)).setCell ⟨w.heap.size + 1 + 1, 4, none⟩ (.slice y.q y.f.ps.length y.d) := ⟨_, rfl⟩
        obtain ⟨hk, hk3⟩ : Kp (fun b => b = w.heap.size + 1 + 1) W6 F ∧ F.heap[w.heap.size + 1 + 1]? = some (.cells #[.int .i64 y.f.op, .string y.f.a.n, .slice y.p y.f.a.us.length y.c, .string y.f.v, .slice y.q y.f.ps.length y.d] 29 (0, 0)) := by rw [hF]; exact set5_world W6 (w.heap.size + 1 + 1) (.int .i64 y.f.op) (.string y.f.a.n) (.slice y.p y.f.a.us.length y.c) (.string y.f.v) (.slice y.q y.f.ps.length y.d) HR6
        rw [← hF]
        clear hF r0 r1 r2 r3 r4 rf zr
        obtain ⟨r0, r1, r2, r3, r4⟩ := five_at hk3
        have zr := bsz (blk_lt hk3)
        have hzk := hk.size
        go_wp2
        refine bodyPost_ret (v := .tuple #[.agg #[.int .i64 y.f.op, .string y.f.a.n, .slice y.p y.f.a.us.length y.c, .string y.f.v, .slice y.q y.f.ps.length y.d], .bool (unfDs x.d ps).2]) (by simp only [results, Tryz.results26]; go_simp) rfl ⟨y, by rw [HU.out]; rfl, by rw [HU.out]; exact HY.out, FmAt.mono (w' := F.drew) (B' := fun b => w.heap.size ≤ b ∧ b < F.drew.heap.size) (fun b hb hl => (hk.block b (by omega) (by omega)).trans (HB6.out.block b (by omega))) (fun b hb => ⟨by omega, by show b < F.heap.size; omega⟩) _ _ _ _ (Nat.le_refl _) H1.out, ⟨hk.os.trans (HB6.out.os.trans (HG.out.os.trans HBW.out.os)), hk.tape.trans (HB6.out.tape.trans (HG.out.tape.trans HBW.out.tape)), hk.output.trans (HB6.out.output.trans (HG.out.output.trans HBW.out.output)), by show _ ≤ F.heap.size; omega, fun b hb => (hk.block b (by omega) (by omega)).trans ((HB6.out.block b (by omega)).trans ((HKW.out b (by omega)).trans (HBW.out.block b hb)))⟩⟩
    · have e3 : (op == 3) = false := by simpa using h3
      have HU := Lib.hid (show unfD x.d (.mk op a xv ps) = (.mk op a xv (unfDs x.d ps).1, (unfDs x.d ps).2) by rw [unfD, if_neg (fun h => h3 h.1)])
      have HM := Lib.hid (HC.out (fun h => h3 h.1))
      clear HC h3
      go_enter Tryz.func26, Tryz.ntmps26
      go_wp2_with fail
      rw [← hW]
      clear hW
      go_wp2_with fail
      refine HM.out.mono ?_
      rintro e w1 ⟨y, rfl, hy, h1, hz, hg⟩
      have hz1 := hg.size
      rw [World.size_alloc] at hz1
      have hkw : ∀ b, b < w.heap.size + 3 → w1.heap[b]? = W.heap[b]? := fun b hb' => (hg.block b (by simp; omega) (by simp; omega)).trans (hao _ _ _ (by omega))
      obtain ⟨W6, hW6⟩ : ∃ q', q' = w1.alloc (.cells #[.int .i64 y.f.op, .string y.f.a.n, .slice y.p y.f.a.us.length y.c, .string y.f.v, .slice y.q y.f.ps.length y.d] 29) := ⟨_, rfl⟩
      have hs6 : W6.heap.size = w1.heap.size + 1 := by rw [hW6]; simp
      have hb6 : Below w1.heap.size w1 W6 := by rw [hW6]; exact (Below.refl _ _).alloc (Nat.le_refl _) _
      have B6 : W6.heap[w1.heap.size]? = some (.cells #[.int .i64 y.f.op, .string y.f.a.n, .slice y.p y.f.a.us.length y.c, .string y.f.v, .slice y.q y.f.ps.length y.d] 29 (0, 0)) := by rw [hW6]; exact heap_alloc_new w1 _
      have HZ6 : W6.heap[w.heap.size + 1 + 1 + 1]? = some (.cells #[.bool (unfDs x.d ps).2] 4 (0, 0)) := (hb6.block (w.heap.size + 3) (by omega)).trans hz
      have HR6 : W6.heap[w.heap.size + 1 + 1]? = _ := (hb6.block (w.heap.size + 2) (by omega)).trans ((hkw _ (by omega)).trans HR0.out)
      have HKW := Lib.hid hkw
      have HY := Lib.hid hy
      have HB6 := Lib.hid hb6
      have HG := Lib.hid hg
      have H1 := Lib.hid h1
      clear hy h1 hz hg hkw hb6 a0 a1 a2 a3 a4 za d0 d1 d2 d3 d4 d5 d6 zd
      rw [show y.cs.toArray = #[.int .i64 y.f.op, .string y.f.a.n, .slice y.p y.f.a.us.length y.c, .string y.f.v, .slice y.q y.f.ps.length y.d] from rfl]
      go_wp2_with fail
      rw [← hW6]
      clear hW6
      obtain ⟨b0, b1, b2, b3, b4⟩ := five_at B6
      have zb := bsz (blk_lt B6)
      have f0 : W6.cell? ⟨w.heap.size + 1 + 1 + 1, 0, none⟩ = some (.bool (unfDs x.d ps).2) := by rw [cell_of_row W6 _ 0 _ _ (0, 0) HZ6]; rfl
      have zf := bsz (blk_lt HZ6)
      obtain ⟨r0, r1, r2, r3, r4⟩ := five_at HR6
      have rf : ∀ j, W6.frozen? ⟨w.heap.size + 1 + 1, j, none⟩ = false := fun j => frozen_of_row W6 _ j _ _ HR6
      have zr := bsz (blk_lt HR6)
      go_region
      obtain ⟨F, hF⟩ : ∃ F, F = ((((W6.setCell ⟨w.heap.size + 1 + 1, 0, none⟩ (.int .i64 y.f.op)).setCell ⟨w.heap.size + 1 + 1, 1, none⟩ (.string y.f.a.n)).setCell ⟨w.heap.size + 1 + 1, 2, none⟩ (.slice y.p y.f.a.us.length y.c)).setCell ⟨w.heap.size + 1 + 1, 3, none⟩ (.string y.f.v)).setCell ⟨w.heap.size + 1 + 1, 4, none⟩ (.slice y.q y.f.ps.length y.d) := ⟨_, rfl⟩
      obtain ⟨hk, hk3⟩ : Kp (fun b => b = w.heap.size + 1 + 1) W6 F ∧ F.heap[w.heap.size + 1 + 1]? = some (.cells #[.int .i64 y.f.op, .string y.f.a.n, .slice y.p y.f.a.us.length y.c, .string y.f.v, .slice y.q y.f.ps.length y.d] 29 (0, 0)) := by rw [hF]; exact set5_world W6 (w.heap.size + 1 + 1) (.int .i64 y.f.op) (.string y.f.a.n) (.slice y.p y.f.a.us.length y.c) (.string y.f.v) (.slice y.q y.f.ps.length y.d) HR6
      rw [← hF]
      clear hF r0 r1 r2 r3 r4 rf zr
      obtain ⟨r0, r1, r2, r3, r4⟩ := five_at hk3
      have zr := bsz (blk_lt hk3)
      have hzk := hk.size
      go_wp2
      refine bodyPost_ret (v := .tuple #[.agg #[.int .i64 y.f.op, .string y.f.a.n, .slice y.p y.f.a.us.length y.c, .string y.f.v, .slice y.q y.f.ps.length y.d], .bool (unfDs x.d ps).2]) (by simp only [results, Tryz.results26]; go_simp) rfl ⟨y, by rw [HU.out]; rfl, by rw [HU.out]; exact HY.out, FmAt.mono (w' := F.drew) (B' := fun b => w.heap.size ≤ b ∧ b < F.drew.heap.size) (fun b hb hl => (hk.block b (by omega) (by omega)).trans (HB6.out.block b (by omega))) (fun b hb => ⟨by omega, by show b < F.heap.size; omega⟩) _ _ _ _ (Nat.le_refl _) H1.out, ⟨hk.os.trans (HB6.out.os.trans (HG.out.os.trans HBW.out.os)), hk.tape.trans (HB6.out.tape.trans (HG.out.tape.trans HBW.out.tape)), hk.output.trans (HB6.out.output.trans (HG.out.output.trans HBW.out.output)), by show _ ≤ F.heap.size; omega, fun b hb => (hk.block b (by omega) (by omega)).trans ((HB6.out.block b (by omega)).trans ((HKW.out b (by omega)).trans (HBW.out.block b hb)))⟩⟩
def set7C (W : World) (b : Nat) (u0 u1 u2 u3 u4 u5 u6 : Value) : World := ((((((W.setCell ⟨b, 0, none⟩ u0).setCell ⟨b, 1, none⟩ u1).setCell ⟨b, 2, none⟩ u2).setCell ⟨b, 3, none⟩ u3).setCell ⟨b, 4, none⟩ u4).setCell ⟨b, 5, none⟩ u5).setCell ⟨b, 6, none⟩ u6
set_option maxHeartbeats 3200000 in
theorem set7_cells (W : World) {b : Nat} {eL : TypeId} {a0 a1 a2 a3 a4 a5 a6 : Value} (u0 u1 u2 u3 u4 u5 u6 : Value) (h : W.heap[b]? = some (.cells #[a0, a1, a2, a3, a4, a5, a6] eL (0, 0))) : (set7C W b u0 u1 u2 u3 u4 u5 u6).heap[b]? = some (.cells #[u0, u1, u2, u3, u4, u5, u6] eL (0, 0)) := by
  have h0 := heap_setCell_same W b 0 _ _ u0 h
  have h1 := heap_setCell_same _ b 1 _ _ u1 h0
  have h2 := heap_setCell_same _ b 2 _ _ u2 h1
  have h3 := heap_setCell_same _ b 3 _ _ u3 h2
  have h4 := heap_setCell_same _ b 4 _ _ u4 h3
  have h5 := heap_setCell_same _ b 5 _ _ u5 h4
  have h6 := heap_setCell_same _ b 6 _ _ u6 h5
  rw [set7C]
  exact h6
theorem set7_kp {X : Nat → Prop} {w W : World} {b : Nat} (h : Kp X w W) (hb : X b ∨ w.heap.size ≤ b) (u0 u1 u2 u3 u4 u5 u6 : Value) : Kp X w (set7C W b u0 u1 u2 u3 u4 u5 u6) :=
  ((((((h.sc (a := ⟨b, 0, none⟩) hb u0).sc (a := ⟨b, 1, none⟩) hb u1).sc (a := ⟨b, 2, none⟩) hb u2).sc (a := ⟨b, 3, none⟩) hb u3).sc (a := ⟨b, 4, none⟩) hb u4).sc (a := ⟨b, 5, none⟩) hb u5).sc (a := ⟨b, 6, none⟩) hb u6
def StoD (k nb : Nat) (u : Nat → Value) (w0 w : World) : Prop := ∃ (kk : Nat) (x0 x1 x2 x3 x4 x5 x6 : Value), u nb = .pointer (some ⟨kk, 0, none⟩) ∧ u k = .agg #[x0, x1, x2, x3, x4, x5, x6] ∧ w = set7C w0 kk x0 x1 x2 x3 x4 x5 x6
theorem elemDf : Elem Tryz.prog 31 60 7 128 := elem_of Tryz.underlying31 (z := .agg #[.string ⟨#[]⟩, .slice none 0 0, .int .i64 0, .string ⟨#[]⟩, .slice none 0 0, .string ⟨#[]⟩, .slice none 0 0]) (by kernel_rfl) rfl (by omega)
theorem leafs_at {w : World} {base : Nat} {e : TypeId} {v : Value} {l : List ByteArray} (h : w.ownsRow base e 2 v l.length (flatT (l.map leafC))) (hs : ∀ s ∈ l, s.size ≤ maxLen) (hl : l.length ≤ maxLen) : ListAt (fun b => base ≤ b ∧ b < w.heap.size) w 2 (TmAt (fun b => base ≤ b ∧ b < w.heap.size) 1 w) v (l.map leafT) := by
  obtain ⟨p, c, rfl⟩ := own_slice h
  refine ⟨p, c, by rw [List.length_map], by rw [List.length_map]; exact hl, fun i x hx => ?_⟩
  rw [List.getElem?_map] at hx
  cases hy : l[i]? with
  | none => rw [hy] at hx; cases hx
  | some y =>
    rw [hy] at hx
    obtain rfl : leafT y = x := Option.some.inj hx
    have hi := (List.getElem?_eq_some_iff.1 hy).1
    obtain ⟨g, rfl, h1, h2, h3⟩ := rowT_cell (D := l.map leafC) h (by omega)
    obtain ⟨c0, c1⟩ := h3 i (leafC y) (by rw [List.getElem?_map, hy]; rfl)
    refine ⟨g, 0, rfl, ⟨h1, h2⟩, [.string y, .slice none 0 0], rfl, fun j hj => ?_, ⟨_, rfl, hs y (List.mem_of_getElem? hy), ListAt.nil _ _ _ _ _ _⟩⟩
    match j, hj with
    | 0, _ => rw [Nat.zero_add, Nat.add_zero]; exact c0
    | 1, _ => rw [Nat.zero_add]; exact c1
theorem dNm_small {n : Nat} (h : n ≤ 10000000) : (dNm n).size ≤ maxLen := by
  have := itoa_len (n : Int) (by omega) (by omega)
  have e : (dNm n).size = 1 + (Lib.itoa (n : Int)).length := by rw [dNm]; simp [ByteArray.size]; omega
  unfold maxLen; omega
end Go.Proofs.YtmbkjdkjemlfkaaGreatDoor
