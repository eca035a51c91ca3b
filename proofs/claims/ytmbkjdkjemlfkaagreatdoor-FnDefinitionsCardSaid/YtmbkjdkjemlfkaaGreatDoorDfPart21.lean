import Derived.Test.YtmbkjdkjemlfkaaGreatDoorDfPart20
namespace Go.Proofs.YtmbkjdkjemlfkaaGreatDoor
set_option maxRecDepth 100000
open Go.RowKit
def MadeP (b0 n wt : Nat) (v : Value) (w : World) : Prop := ∃ y : FC, v = .agg y.cs.toArray ∧ FmAt (fun b => b0 ≤ b ∧ b < w.heap.size) n w y.f y.cs ∧ y.f.wt ≤ wt
theorem FmAt.inb' {B : Nat → Prop} {n : Nat} {t : Fm} {cs : List Value} {w : World} (h : FmAt B n w t cs) : FmAt (fun b => B b ∧ b < w.heap.size) n w t cs := FmAt.inb n t cs h
theorem MadeP.later {b0 n wt : Nat} {v : Value} {w w' : World} (hb : Below w.heap.size w w') (h : MadeP b0 n wt v w) : MadeP b0 n wt v w' := by
  obtain ⟨y, h1, h2, h3⟩ := h
  have := hb.size
  exact ⟨y, h1, FmAt.mono (SameOn.below hb) (fun b hb => ⟨hb.1, by omega⟩) _ _ _ _ (Nat.le_refl _) h2, h3⟩
theorem MadeP.mono {b0 b1 n n' wt wt' : Nat} {v : Value} {w : World} (h : MadeP b0 n wt v w) (hb : b1 ≤ b0) (hn : n ≤ n') (hw : wt ≤ wt') : MadeP b1 n' wt' v w := by
  obtain ⟨y, h1, h2, h3⟩ := h
  exact ⟨y, h1, FmAt.mono (SameOn.refl _ _) (fun b hb => ⟨by omega, hb.2⟩) _ _ _ _ hn h2, by omega⟩
def MadeQ (b0 n wt : Nat) (w : World) (e : Ending) (w' : World) : Prop := ∃ v, e = .returned v ∧ MadeP b0 n wt v w' ∧ Below w.heap.size w w'
theorem MdQ.made {n : Nat} {t : Fm} {w w' : World} {e : Ending} (h : MdQ n t w e w') : MadeQ w.heap.size n t.wt w e w' := by
  obtain ⟨y, h1, h2, h3, h4⟩ := h
  exact ⟨_, h1, ⟨y, rfl, h3, by rw [h2]; exact Nat.le_refl _⟩, h4⟩
theorem opF_wt (op : Int) (ps : List Fm) : (opF op ps).wt = ps.length + Fm.wts ps := by
  rw [opF, Fm.wt, tm0_wt, show (⟨#[]⟩ : ByteArray).size = 0 from rfl]; omega
theorem form_split {op : Int} {a : Tm} {xv : ByteArray} {ps : List Fm} (h : (Fm.mk op a xv ps).form = true) : ((op = 1 ∨ op = 2) ∧ ps = []) ∨ (op = 3 ∧ ps = []) ∨ (∃ g, op = 4 ∧ ps = [g] ∧ g.form = true) ∨ (∃ g r, (op = 5 ∨ op = 6 ∨ op = 7) ∧ ps = [g, r] ∧ g.form = true ∧ r.form = true) ∨ (∃ g, (op = 8 ∨ op = 9) ∧ ps = [g] ∧ g.form = true) := by
  cases form_cases h with
  | tru => exact .inl ⟨.inl rfl, rfl⟩
  | fal => exact .inl ⟨.inr rfl, rfl⟩
  | atm a ha => exact .inr (.inl ⟨rfl, rfl⟩)
  | neg g hg => exact .inr (.inr (.inl ⟨g, rfl, rfl, hg⟩))
  | bin op g r ho hg hr => exact .inr (.inr (.inr (.inl ⟨g, r, ho, rfl, hg, hr⟩)))
  | qua op v g ho hv hg => exact .inr (.inr (.inr (.inr ⟨g, ho, rfl, hg⟩)))
def SlcP (T : TypeId) (b0 n wt : Nat) (v : Value) (w : World) : Prop := ∃ (k : Nat) (y : FC), v = .slice (some ⟨k, 0, none⟩) 1 1 ∧ b0 ≤ k ∧ w.heap[k]? = some (.cells y.cs.toArray T (0, 0)) ∧ FmAt (fun b => b0 ≤ b ∧ b < w.heap.size) n w y.f y.cs ∧ y.f.wt ≤ wt
theorem SlcP.later {T : TypeId} {b0 n wt : Nat} {v : Value} {w w' : World} (hb : Below w.heap.size w w') (h : SlcP T b0 n wt v w) : SlcP T b0 n wt v w' := by
  obtain ⟨k, y, h1, h2, h3, h4, h5⟩ := h
  have := hb.size
  exact ⟨k, y, h1, h2, (hb.block k (blk_lt h3)).trans h3, FmAt.mono (SameOn.below hb) (fun b hb => ⟨hb.1, by omega⟩) _ _ _ _ (Nat.le_refl _) h4, h5⟩
theorem set5C_size (W : World) (r : Nat) (u0 u1 u2 u3 u4 : Value) : (set5C W r u0 u1 u2 u3 u4).heap.size = W.heap.size := by simp
theorem set5C_below {n : Nat} {w W : World} {r : Nat} (h : Below n w W) (hr : n ≤ r) (u0 u1 u2 u3 u4 : Value) : Below n w (set5C W r u0 u1 u2 u3 u4) :=
  ((((h.setCell (p := ⟨r, 0, none⟩) hr u0).setCell (p := ⟨r, 1, none⟩) hr u1).setCell (p := ⟨r, 2, none⟩) hr u2).setCell (p := ⟨r, 3, none⟩) hr u3).setCell (p := ⟨r, 4, none⟩) hr u4
theorem FmAt.set5C {W : World} {r lo n : Nat} {t : Fm} {cs : List Value} (h : FmAt (fun b => lo + 2 ≤ b ∧ b < W.heap.size) n W t cs) (hr : r < lo + 2) (u0 u1 u2 u3 u4 : Value) : FmAt (fun b => lo ≤ b ∧ b < (Proofs.YtmbkjdkjemlfkaaGreatDoor.set5C W r u0 u1 u2 u3 u4).heap.size) n (Proofs.YtmbkjdkjemlfkaaGreatDoor.set5C W r u0 u1 u2 u3 u4) t cs :=
  FmAt.mono (fun b hb _ => set5C_other W u0 u1 u2 u3 u4 (fun e => by have := hb.1; omega)) (fun b hb => ⟨by have := hb.1; omega, by rw [set5C_size]; exact hb.2⟩) _ _ _ _ (Nat.le_refl _) h
def StoR (r k : Nat) (u : Nat → Value) (w0 w : World) : Prop := ∃ y : FC, u k = .agg y.cs.toArray ∧ w = set5C w0 r (.int .i64 y.f.op) (.string y.f.a.n) (.slice y.p y.f.a.us.length y.c) (.string y.f.v) (.slice y.q y.f.ps.length y.d)
set_option maxHeartbeats 800000 in
theorem l9Not_made (b0 m wt : Nat) (x : Value) (w : World) (h : MadeP b0 (m + 1) wt x w) (hb0 : b0 ≤ w.heap.size) :
    Calls Tryz.prog 89 #[x] w (MadeQ b0 (m + 2) (wt + 1) w) := by
  obtain ⟨y, rfl, h1, h2⟩ := h
  have HF := Lib.hid h1
  have H2 := Lib.hid h2
  clear h1 h2
  rw [show y.cs.toArray = #[.int .i64 y.f.op, .string y.f.a.n, .slice y.p y.f.a.us.length y.c, .string y.f.v, .slice y.q y.f.ps.length y.d] from rfl]
  go_enter Tryz.func89, Tryz.ntmps89
  go_wp2
  refine bodyPost_ret (v := .agg #[.int .i64 4, .string ⟨#[]⟩, .slice none 0 0, .string ⟨#[]⟩, .slice (some ⟨w.heap.size + 1 + 1, 0, none⟩) 1 1]) (by simp only [results, Tryz.results89]; go_simp) rfl ⟨_, rfl, ⟨⟨opF 4 [y.f], none, 0, some ⟨w.heap.size + 1 + 1, 0, none⟩, 1⟩, rfl, FmAt.inb' (opF_at (by omega) ?_), ?_⟩, by exact bel⟩
  · refine list_one (e := 29) (cs := #[.int .i64 y.f.op, .string y.f.a.n, .slice y.p y.f.a.us.length y.c, .string y.f.v, .slice y.q y.f.ps.length y.d]) ?_ (show b0 ≤ w.heap.size + 1 + 1 by omega) rfl (FmAt.mono (SameOn.below (by exact bel)) (fun b hb => hb.1) _ _ _ _ (Nat.le_refl _) HF.out)
    exact alloc_new_at (by simp)
  · show (opF 4 [y.f]).wt ≤ _
    have := H2.out
    rw [opF_wt, Fm.wts, Fm.wts]; simp only [List.length_cons, List.length_nil]; omega
set_option maxHeartbeats 800000 in
theorem l9Pair_made (b0 m wt1 wt2 : Nat) (op : Int) (ho : -9223372036854775808 ≤ op ∧ op ≤ 9223372036854775807) (x x' : Value) (w : World) (h : MadeP b0 (m + 1) wt1 x w) (h' : MadeP b0 (m + 1) wt2 x' w) (hb0 : b0 ≤ w.heap.size) :
    Calls Tryz.prog 90 #[.int .i64 op, x, x'] w (MadeQ b0 (m + 2) (wt1 + wt2 + 2) w) := by
  obtain ⟨y, rfl, h1, h2⟩ := h
  obtain ⟨z, rfl, h3, h4⟩ := h'
  have HF := Lib.hid h1
  have HG := Lib.hid h3
  have H2 := Lib.hid (And.intro h2 h4)
  clear h1 h2 h3 h4
  rw [show y.cs.toArray = #[.int .i64 y.f.op, .string y.f.a.n, .slice y.p y.f.a.us.length y.c, .string y.f.v, .slice y.q y.f.ps.length y.d] from rfl, show z.cs.toArray = #[.int .i64 z.f.op, .string z.f.a.n, .slice z.p z.f.a.us.length z.c, .string z.f.v, .slice z.q z.f.ps.length z.d] from rfl]
  go_enter Tryz.func90, Tryz.ntmps90
  go_wp2
  refine bodyPost_ret (v := .agg #[.int .i64 op, .string ⟨#[]⟩, .slice none 0 0, .string ⟨#[]⟩, .slice (some ⟨w.heap.size + 1 + 1 + 1, 0, none⟩) 2 2]) (by simp only [results, Tryz.results90]; go_simp) rfl ⟨_, rfl, ⟨⟨opF op [y.f, z.f], none, 0, some ⟨w.heap.size + 1 + 1 + 1, 0, none⟩, 2⟩, rfl, FmAt.inb' (opF_at ho ?_), ?_⟩, by exact bel⟩
  · refine list_two (e := 29) (cs := y.cs) (ds := z.cs) rfl ?_ (show b0 ≤ w.heap.size + 1 + 1 + 1 by omega) rfl rfl (FmAt.mono (SameOn.below (by exact bel)) (fun b hb => hb.1) _ _ _ _ (Nat.le_refl _) HF.out) (FmAt.mono (SameOn.below (by exact bel)) (fun b hb => hb.1) _ _ _ _ (Nat.le_refl _) HG.out)
    exact alloc_new_at (by simp)
  · show (opF op [y.f, z.f]).wt ≤ _
    have := H2.out
    rw [opF_wt, Fm.wts, Fm.wts, Fm.wts]; simp only [List.length_cons, List.length_nil]; omega
set_option maxHeartbeats 12800000 in
theorem l9Nnf_any {B : Nat → Prop} : ∀ (m : Nat) (t : Fm) (pb : Bool) (v0 v1 v2 v3 v4 : Value) (w : World), FmAt B m w t [v0, v1, v2, v3, v4] → t.form = true → t.wt ≤ 1000000 →
    Calls Tryz.prog 58 #[.agg #[v0, v1, v2, v3, v4], .bool pb] w (MadeQ w.heap.size (m + 1) (t.wt + t.sz) w) := by
  intro m
  induction m with
  | zero => intro t pb v0 v1 v2 v3 v4 w h; exact h.elim
  | succ m ih =>
    rintro ⟨op, a, xv, ps⟩ pb v0 v1 v2 v3 v4 w h hf hw
    have HT := Lib.hid h
    obtain ⟨vn, va, vp, hcs, hop, hs, ht, hl⟩ := h
    simp only [List.cons.injEq, and_true] at hcs
    obtain ⟨rfl, rfl, rfl, rfl, rfl⟩ := hcs
    obtain ⟨p, pc, rfl, rfl, -⟩ := ht.form
    obtain ⟨pq, pd, rfl, hlen⟩ := hl.form
    unfold maxLen at hlen
    have HL := Lib.hid hl
    have IH := Lib.hid ih
    have HE := Lib.hid (show (Fm.mk op a xv ps).wt + (Fm.mk op a xv ps).sz = a.wt + xv.size + ps.length + Fm.wts ps + (1 + Fm.szs ps) by rw [Fm.wt, Fm.sz])
    have hwp : a.wt + xv.size + ps.length + Fm.wts ps ≤ 1000000 := by rw [Fm.wt] at hw; exact hw
    obtain ⟨W, hW⟩ : ∃ W : World, W = (w.alloc (.cells #[.int .i64 op, .string a.n, .slice p a.us.length pc, .string xv, .slice pq ps.length pd] 29)).alloc (.cells #[.int .i64 0, .string ⟨#[]⟩, .slice none 0 0, .string ⟨#[]⟩, .slice none 0 0] 29) := ⟨_, rfl⟩
    obtain ⟨hsW, hbW, A0, A1⟩ := two_new hW
    obtain ⟨a0, a1, a2, a3, a4⟩ := five_at A0
    have za := bsz (show w.heap.size < W.heap.size by omega)
    obtain ⟨r0, r1, r2, r3, r4⟩ := five_at A1
    have rf : ∀ j, W.frozen? ⟨w.heap.size + 1, j, none⟩ = false := fun j => frozen_of_row W _ j _ _ A1
    have zr := bsz (show w.heap.size + 1 < W.heap.size by omega)
    have HA0 := Lib.hid A0
    have HR0 := Lib.hid A1
    have HBW := Lib.hid hbW
    have HX := Lib.hid (And.intro hop hs)
    rw [HE.out]
    clear ht hl ih A0 A1 hbW hop hs hw
    rcases form_split hf with ⟨h12, hps⟩ | ⟨rfl, hps⟩ | ⟨g, rfl, hps, hg⟩ | ⟨g, r, ho, hps, hg, hr⟩ | ⟨g, ho, hps, hg⟩
    · clear hf
      rcases h12 with rfl | rfl
      all_goals
        cases pb
        all_goals
          clear hW a0 a1 a2 a3 a4 za r0 r1 r2 r3 r4 rf zr
          go_enter Tryz.func58, Tryz.ntmps58
          go_wp2
      · refine bodyPost_ret (v := .agg #[.int .i64 2, .string ⟨#[]⟩, .slice none 0 0, .string ⟨#[]⟩, .slice none 0 0]) (by simp only [results, Tryz.results58]; go_simp) rfl ⟨_, rfl, ⟨⟨opF 2 [], none, 0, none, 0⟩, rfl, FmAt.inb' (B := fun b => w.heap.size ≤ b) (opF_at (by omega) (ListAt.nil _ _ _ _ _ _)), ?_⟩, ?_⟩
        · show (opF 2 []).wt ≤ _
          rw [opF_wt, Fm.wts]; simp
        · have hk := HBW.out
          exact bel
      · refine bodyPost_ret (v := .agg #[.int .i64 1, .string ⟨#[]⟩, .slice none 0 0, .string ⟨#[]⟩, .slice none 0 0]) (by simp only [results, Tryz.results58]; go_simp) rfl ⟨_, rfl, ⟨⟨opF 1 [], none, 0, none, 0⟩, rfl, FmAt.inb' (B := fun b => w.heap.size ≤ b) (opF_at (by omega) (ListAt.nil _ _ _ _ _ _)), ?_⟩, ?_⟩
        · show (opF 1 []).wt ≤ _
          rw [opF_wt, Fm.wts]; simp
        · have hk := HBW.out
          exact bel
      · refine bodyPost_ret (v := .agg #[.int .i64 1, .string ⟨#[]⟩, .slice none 0 0, .string ⟨#[]⟩, .slice none 0 0]) (by simp only [results, Tryz.results58]; go_simp) rfl ⟨_, rfl, ⟨⟨opF 1 [], none, 0, none, 0⟩, rfl, FmAt.inb' (B := fun b => w.heap.size ≤ b) (opF_at (by omega) (ListAt.nil _ _ _ _ _ _)), ?_⟩, ?_⟩
        · show (opF 1 []).wt ≤ _
          rw [opF_wt, Fm.wts]; simp
        · have hk := HBW.out
          exact bel
      · refine bodyPost_ret (v := .agg #[.int .i64 2, .string ⟨#[]⟩, .slice none 0 0, .string ⟨#[]⟩, .slice none 0 0]) (by simp only [results, Tryz.results58]; go_simp) rfl ⟨_, rfl, ⟨⟨opF 2 [], none, 0, none, 0⟩, rfl, FmAt.inb' (B := fun b => w.heap.size ≤ b) (opF_at (by omega) (ListAt.nil _ _ _ _ _ _)), ?_⟩, ?_⟩
        · show (opF 2 []).wt ≤ _
          rw [opF_wt, Fm.wts]; simp
        · have hk := HBW.out
          exact bel
    · clear hf hps
      cases pb
      · go_enter Tryz.func58, Tryz.ntmps58
        go_wp2_with fail
        rw [← hW]
        clear hW
        refine (l8Own_any (m + 1) (.mk 3 a xv ps) _ _ _ _ _ W (FmAt.below HBW.out HT.out) (by rw [Fm.wt]; omega)).mono ?_
        rintro e w1 hq
        obtain ⟨v, rfl, hv, hb1⟩ := hq.made
        have HV := Lib.hid hv
        have hz1 := hb1.size
        have HB1 := Lib.hid (Below.step HBW.out hb1)
        have HR1 := Lib.hid ((hb1.block _ (by omega)).trans HR0.out)
        clear hv hq hb1 r0 r1 r2 r3 r4 rf zr a0 a1 a2 a3 a4 za
        go_wp2_with fail
        refine (l9Not_made W.heap.size m _ v w1 HV.out (by omega)).mono ?_
        rintro e w2 ⟨v, rfl, hv, hb2⟩
        have hwb : (Fm.mk 3 a xv ps).wt + 1 ≤ a.wt + xv.size + ps.length + Fm.wts ps + (1 + Fm.szs ps) := by rw [Fm.wt]; omega
        obtain ⟨y, rfl, h1, h2⟩ := hv
        have HRB := Lib.hid ((hb2.block (w.heap.size + 1) (by omega)).trans HR1.out)
        (try clear r0 r1 r2 r3 r4 rf zr)
        (try clear a0 a1 a2 a3 a4 za)
        obtain ⟨r0, r1, r2, r3, r4⟩ := five_at HRB.out
        have rf : ∀ j, w2.frozen? ⟨w.heap.size + 1, j, none⟩ = false := fun j => frozen_of_row w2 _ j _ _ HRB.out
        have zr := bsz (blk_lt HRB.out)
        have H1 := Lib.hid h1
        have H2 := Lib.hid (Nat.le_trans h2 hwb)
        have HBE := Lib.hid (Below.step HB1.out hb2)
        clear h1 h2 hwb hb2
        rw [show y.cs.toArray = #[.int .i64 y.f.op, .string y.f.a.n, .slice y.p y.f.a.us.length y.c, .string y.f.v, .slice y.q y.f.ps.length y.d] from rfl]
        go_wp2
        refine bodyPost_ret (v := .agg #[.int .i64 y.f.op, .string y.f.a.n, .slice y.p y.f.a.us.length y.c, .string y.f.v, .slice y.q y.f.ps.length y.d]) (by simp only [results, Tryz.results58]; go_simp) rfl ⟨_, rfl, ⟨y, rfl, FmAt.mono ((((((SameOn.refl _ _).sc ?_ _).sc ?_ _).sc ?_ _).sc ?_ _).sc ?_ _) (fun b hb => ⟨by omega, by simp; omega⟩) _ _ _ _ (by omega) H1.out, H2.out⟩, ?_⟩
        · intro b hb e; simp at e; omega
        · intro b hb e; simp at e; omega
        · intro b hb e; simp at e; omega
        · intro b hb e; simp at e; omega
        · intro b hb e; simp at e; omega
        · have hk := HBE.out
          exact bel
      · go_enter Tryz.func58, Tryz.ntmps58
        go_wp2_with fail
        rw [← hW]
        clear hW
        refine (l8Own_any (m + 1) (.mk 3 a xv ps) _ _ _ _ _ W (FmAt.below HBW.out HT.out) (by rw [Fm.wt]; omega)).mono ?_
        rintro e w2 hq
        obtain ⟨v, rfl, hv, hb2⟩ := hq.made
        have hv := hv.mono (b1 := W.heap.size) (by omega) (Nat.le_succ _) (Nat.le_refl _)
        have hwb : (Fm.mk 3 a xv ps).wt ≤ a.wt + xv.size + ps.length + Fm.wts ps + (1 + Fm.szs ps) := by rw [Fm.wt]; omega
        clear hq
        obtain ⟨y, rfl, h1, h2⟩ := hv
        have HRB := Lib.hid ((hb2.block (w.heap.size + 1) (by omega)).trans HR0.out)
        (try clear r0 r1 r2 r3 r4 rf zr)
        (try clear a0 a1 a2 a3 a4 za)
        obtain ⟨r0, r1, r2, r3, r4⟩ := five_at HRB.out
        have rf : ∀ j, w2.frozen? ⟨w.heap.size + 1, j, none⟩ = false := fun j => frozen_of_row w2 _ j _ _ HRB.out
        have zr := bsz (blk_lt HRB.out)
        have H1 := Lib.hid h1
        have H2 := Lib.hid (Nat.le_trans h2 hwb)
        have HBE := Lib.hid (Below.step HBW.out hb2)
        clear h1 h2 hwb hb2
        rw [show y.cs.toArray = #[.int .i64 y.f.op, .string y.f.a.n, .slice y.p y.f.a.us.length y.c, .string y.f.v, .slice y.q y.f.ps.length y.d] from rfl]
        go_wp2
        refine bodyPost_ret (v := .agg #[.int .i64 y.f.op, .string y.f.a.n, .slice y.p y.f.a.us.length y.c, .string y.f.v, .slice y.q y.f.ps.length y.d]) (by simp only [results, Tryz.results58]; go_simp) rfl ⟨_, rfl, ⟨y, rfl, FmAt.mono ((((((SameOn.refl _ _).sc ?_ _).sc ?_ _).sc ?_ _).sc ?_ _).sc ?_ _) (fun b hb => ⟨by omega, by simp; omega⟩) _ _ _ _ (by omega) H1.out, H2.out⟩, ?_⟩
        · intro b hb e; simp at e; omega
        · intro b hb e; simp at e; omega
        · intro b hb e; simp at e; omega
        · intro b hb e; simp at e; omega
        · intro b hb e; simp at e; omega
        · have hk := HBE.out
          exact bel
    · clear hf
      have h0n : 0 < ps.length := by rw [hps]; exact Nat.zero_lt_succ _
      have h0i : (0 : Int) < ps.length := by omega
      obtain ⟨b, o, hpe, hBb, x0, x1, x2, x3, x4, hx0, hx1, hx2, hx3, hx4, hx⟩ := HL.out.at5 h0n
      subst hpe
      rw [show ps[0] = g by simp [hps]] at hx
      simp only [Nat.zero_mul, Nat.add_zero] at hx0 hx1 hx2 hx3 hx4
      have hbb : b < w.heap.size := World.block_lt_of_cell? _ _ hx0
      have HXG := Lib.hid (FmAt.below HBW.out hx)
      have zb := bsz hbb
      have zbW := bsz (show b < W.heap.size by omega)
      have y0 := (HBW.out.cell (p := ⟨b, o, none⟩) hbb).trans hx0
      have y1 := (HBW.out.cell (p := ⟨b, o + 1, none⟩) hbb).trans hx1
      have y2 := (HBW.out.cell (p := ⟨b, o + 2, none⟩) hbb).trans hx2
      have y3 := (HBW.out.cell (p := ⟨b, o + 3, none⟩) hbb).trans hx3
      have y4 := (HBW.out.cell (p := ⟨b, o + 4, none⟩) hbb).trans hx4
      clear hx
      have hwg : Fm.wts ps = g.wt ∧ Fm.szs ps = g.sz := by rw [hps, Fm.wts, Fm.wts, Fm.szs, Fm.szs]; exact ⟨by omega, by omega⟩
      clear hps
      cases pb
      all_goals
        go_enter Tryz.func58, Tryz.ntmps58
        go_wp2_with fail
        rw [← hW]
        clear hW
      · refine (IH.out g true _ _ _ _ _ W HXG.out hg (by omega)).mono ?_
        rintro e w2 ⟨v, rfl, hv, hb2⟩
        have hv := hv.mono (b1 := W.heap.size) (by omega) (Nat.le_succ _) (Nat.le_refl _)
        have hwb : g.wt + g.sz ≤ a.wt + xv.size + ps.length + Fm.wts ps + (1 + Fm.szs ps) := by omega
        obtain ⟨y, rfl, h1, h2⟩ := hv
        have HRB := Lib.hid ((hb2.block (w.heap.size + 1) (by omega)).trans HR0.out)
        (try clear r0 r1 r2 r3 r4 rf zr)
        (try clear a0 a1 a2 a3 a4 za)
        obtain ⟨r0, r1, r2, r3, r4⟩ := five_at HRB.out
        have rf : ∀ j, w2.frozen? ⟨w.heap.size + 1, j, none⟩ = false := fun j => frozen_of_row w2 _ j _ _ HRB.out
        have zr := bsz (blk_lt HRB.out)
        have H1 := Lib.hid h1
        have H2 := Lib.hid (Nat.le_trans h2 hwb)
        have HBE := Lib.hid (Below.step HBW.out hb2)
        clear h1 h2 hwb hb2
        rw [show y.cs.toArray = #[.int .i64 y.f.op, .string y.f.a.n, .slice y.p y.f.a.us.length y.c, .string y.f.v, .slice y.q y.f.ps.length y.d] from rfl]
        go_wp2
        refine bodyPost_ret (v := .agg #[.int .i64 y.f.op, .string y.f.a.n, .slice y.p y.f.a.us.length y.c, .string y.f.v, .slice y.q y.f.ps.length y.d]) (by simp only [results, Tryz.results58]; go_simp) rfl ⟨_, rfl, ⟨y, rfl, FmAt.mono ((((((SameOn.refl _ _).sc ?_ _).sc ?_ _).sc ?_ _).sc ?_ _).sc ?_ _) (fun b hb => ⟨by omega, by simp; omega⟩) _ _ _ _ (by omega) H1.out, H2.out⟩, ?_⟩
        · intro b hb e; simp at e; omega
        · intro b hb e; simp at e; omega
        · intro b hb e; simp at e; omega
        · intro b hb e; simp at e; omega
        · intro b hb e; simp at e; omega
        · have hk := HBE.out
          exact bel
      · refine (IH.out g false _ _ _ _ _ W HXG.out hg (by omega)).mono ?_
        rintro e w2 ⟨v, rfl, hv, hb2⟩
        have hv := hv.mono (b1 := W.heap.size) (by omega) (Nat.le_succ _) (Nat.le_refl _)
        have hwb : g.wt + g.sz ≤ a.wt + xv.size + ps.length + Fm.wts ps + (1 + Fm.szs ps) := by omega
        obtain ⟨y, rfl, h1, h2⟩ := hv
        have HRB := Lib.hid ((hb2.block (w.heap.size + 1) (by omega)).trans HR0.out)
        (try clear r0 r1 r2 r3 r4 rf zr)
        (try clear a0 a1 a2 a3 a4 za)
        obtain ⟨r0, r1, r2, r3, r4⟩ := five_at HRB.out
        have rf : ∀ j, w2.frozen? ⟨w.heap.size + 1, j, none⟩ = false := fun j => frozen_of_row w2 _ j _ _ HRB.out
        have zr := bsz (blk_lt HRB.out)
        have H1 := Lib.hid h1
        have H2 := Lib.hid (Nat.le_trans h2 hwb)
        have HBE := Lib.hid (Below.step HBW.out hb2)
        clear h1 h2 hwb hb2
        rw [show y.cs.toArray = #[.int .i64 y.f.op, .string y.f.a.n, .slice y.p y.f.a.us.length y.c, .string y.f.v, .slice y.q y.f.ps.length y.d] from rfl]
        go_wp2
        refine bodyPost_ret (v := .agg #[.int .i64 y.f.op, .string y.f.a.n, .slice y.p y.f.a.us.length y.c, .string y.f.v, .slice y.q y.f.ps.length y.d]) (by simp only [results, Tryz.results58]; go_simp) rfl ⟨_, rfl, ⟨y, rfl, FmAt.mono ((((((SameOn.refl _ _).sc ?_ _).sc ?_ _).sc ?_ _).sc ?_ _).sc ?_ _) (fun b hb => ⟨by omega, by simp; omega⟩) _ _ _ _ (by omega) H1.out, H2.out⟩, ?_⟩
        · intro b hb e; simp at e; omega
        · intro b hb e; simp at e; omega
        · intro b hb e; simp at e; omega
        · intro b hb e; simp at e; omega
        · intro b hb e; simp at e; omega
        · have hk := HBE.out
          exact bel
    · clear hf
      have h0n : 0 < ps.length := by rw [hps]; exact Nat.zero_lt_succ _
      have h0i : (0 : Int) < ps.length := by omega
      obtain ⟨b, o, hpe, hBb, x0, x1, x2, x3, x4, hx0, hx1, hx2, hx3, hx4, hx⟩ := HL.out.at5 h0n
      subst hpe
      rw [show ps[0] = g by simp [hps]] at hx
      simp only [Nat.zero_mul, Nat.add_zero] at hx0 hx1 hx2 hx3 hx4
      have hbb : b < w.heap.size := World.block_lt_of_cell? _ _ hx0
      have HXG := Lib.hid (FmAt.below HBW.out hx)
      have zb := bsz hbb
      have zbW := bsz (show b < W.heap.size by omega)
      have y0 := (HBW.out.cell (p := ⟨b, o, none⟩) hbb).trans hx0
      have y1 := (HBW.out.cell (p := ⟨b, o + 1, none⟩) hbb).trans hx1
      have y2 := (HBW.out.cell (p := ⟨b, o + 2, none⟩) hbb).trans hx2
      have y3 := (HBW.out.cell (p := ⟨b, o + 3, none⟩) hbb).trans hx3
      have y4 := (HBW.out.cell (p := ⟨b, o + 4, none⟩) hbb).trans hx4
      clear hx
      have h1n : 1 < ps.length := by rw [hps]; simp
      have h1i : (1 : Int) < ps.length := by omega
      obtain ⟨b', o', hpe, hBb', z0, z1, z2, z3, z4, hz0, hz1, hz2, hz3, hz4, hz⟩ := HL.out.at5 h1n
      simp only [Option.some.injEq, Addr.mk.injEq, and_true] at hpe
      obtain ⟨rfl, rfl⟩ := hpe
      rw [show ps[1] = r by simp [hps]] at hz
      simp only [Nat.one_mul] at hz0 hz1 hz2 hz3 hz4
      have HXR := Lib.hid (FmAt.below HBW.out hz)
      have HCG := Lib.hid (And.intro y0 (And.intro y1 (And.intro y2 (And.intro y3 y4))))
      have HCR := Lib.hid (And.intro ((HBW.out.cell (p := ⟨b, o + 5, none⟩) hbb).trans hz0) (And.intro ((HBW.out.cell (p := ⟨b, o + 5 + 1, none⟩) hbb).trans hz1) (And.intro ((HBW.out.cell (p := ⟨b, o + 5 + 2, none⟩) hbb).trans hz2) (And.intro ((HBW.out.cell (p := ⟨b, o + 5 + 3, none⟩) hbb).trans hz3) ((HBW.out.cell (p := ⟨b, o + 5 + 4, none⟩) hbb).trans hz4)))))
      clear hz hz0 hz1 hz2 hz3 hz4 hx0 hx1 hx2 hx3 hx4
      have hwg : Fm.wts ps = g.wt + r.wt ∧ Fm.szs ps = g.sz + r.sz := by rw [hps, Fm.wts, Fm.wts, Fm.wts, Fm.szs, Fm.szs, Fm.szs]; exact ⟨by omega, by omega⟩
      have hwb : (g.wt + g.sz) + (r.wt + r.sz) + 2 ≤ a.wt + xv.size + ps.length + Fm.wts ps + (1 + Fm.szs ps) := by omega
      have hlb : b < W.heap.size := by omega
      clear hps
      rcases (show (op = 5 ∨ op = 6) ∨ op = 7 by omega) with ho | rfl
      · rcases ho with rfl | rfl <;> cases pb
        all_goals
          go_enter Tryz.func58, Tryz.ntmps58
          go_wp2_with fail
          rw [← hW]
          clear hW
          go_wp2
          clear a0 a1 a2 a3 a4 za r0 r1 r2 r3 r4 rf zr y0 y1 y2 y3 y4
        focus
          obtain ⟨zz, hzz, hzr⟩ : ∃ zz : Int, zz = 6 ∧ 5 ≤ zz ∧ zz ≤ 9 := ⟨_, rfl, by omega, by omega⟩
          obtain ⟨bb, hbb⟩ : ∃ bb : Bool, Value.bool bb = Value.bool false := ⟨_, rfl⟩
          rw [← hzz, ← hbb]
          clear hzz hbb
        rotate_left
        focus
          obtain ⟨zz, hzz, hzr⟩ : ∃ zz : Int, zz = 5 ∧ 5 ≤ zz ∧ zz ≤ 9 := ⟨_, rfl, by omega, by omega⟩
          obtain ⟨bb, hbb⟩ : ∃ bb : Bool, Value.bool bb = Value.bool true := ⟨_, rfl⟩
          rw [← hzz, ← hbb]
          clear hzz hbb
        rotate_left
        focus
          obtain ⟨zz, hzz, hzr⟩ : ∃ zz : Int, zz = 5 ∧ 5 ≤ zz ∧ zz ≤ 9 := ⟨_, rfl, by omega, by omega⟩
          obtain ⟨bb, hbb⟩ : ∃ bb : Bool, Value.bool bb = Value.bool false := ⟨_, rfl⟩
          rw [← hzz, ← hbb]
          clear hzz hbb
        rotate_left
        focus
          obtain ⟨zz, hzz, hzr⟩ : ∃ zz : Int, zz = 6 ∧ 5 ≤ zz ∧ zz ≤ 9 := ⟨_, rfl, by omega, by omega⟩
          obtain ⟨bb, hbb⟩ : ∃ bb : Bool, Value.bool bb = Value.bool true := ⟨_, rfl⟩
          rw [← hzz, ← hbb]
          clear hzz hbb
        rotate_left
        all_goals
          refine wp_region_grow [some (.int .i64 zz), some (.pointer (some ⟨w.heap.size, 4, none⟩)), some (.slice (some ⟨b, o, none⟩) ps.length pd), some (.pointer (some ⟨b, o, none⟩)), some (.agg #[x0, x1, x2, x3, x4]), some (.bool bb), none, some (.pointer (some ⟨w.heap.size, 4, none⟩)), some (.slice (some ⟨b, o, none⟩) ps.length pd), some (.pointer (some ⟨b, o + 5, none⟩)), some (.agg #[z0, z1, z2, z3, z4]), some (.bool bb), none, none, none] 14 [(6, MadeP (w.heap.size + 2) (m + 1) (g.wt + g.sz)), (12, MadeP (w.heap.size + 2) (m + 1) (r.wt + r.sz)), (13, MadeP (w.heap.size + 2) (m + 2) ((g.wt + g.sz) + (r.wt + r.sz) + 2))] (StoR (w.heap.size + 1) 13) (by kernel_rfl) (by kernel_rfl) ?_
          go_simp
          refine InG.rd 24 rfl rfl rfl (by kernel_rfl) (by intro w' hw' D hD; skip; go_simp; first | exact hD | exact ⟨hD, rfl⟩) ?_
          go_simp
          refine InG.rd 24 rfl rfl rfl (by kernel_rfl) (by intro w' hw' D hD; skip; go_simp; first | exact hD | exact ⟨hD, rfl⟩) ?_
          go_simp
          refine InG.rd 24 rfl rfl rfl (by kernel_rfl) (by intro w' hw' D hD; obtain ⟨e0, e1, e2, e3, e4⟩ := five_at ((hw'.block w.heap.size (by omega)).trans HA0.out); have ze := bsz (World.block_lt_of_cell? _ _ e0); go_simp; first | exact hD | exact ⟨hD, rfl⟩) ?_
          go_simp
          refine InG.rd 24 rfl rfl rfl (by kernel_rfl) (by intro w' hw' D hD; skip; go_simp; first | exact hD | exact ⟨hD, rfl⟩) ?_
          go_simp
          refine InG.rd 24 rfl rfl rfl (by kernel_rfl) (by intro w' hw' D hD; have e0 := (hw'.cell (p := ⟨b, o, none⟩) hlb).trans HCG.out.1; have e1 := (hw'.cell (p := ⟨b, o + 1, none⟩) hlb).trans HCG.out.2.1; have e2 := (hw'.cell (p := ⟨b, o + 2, none⟩) hlb).trans HCG.out.2.2.1; have e3 := (hw'.cell (p := ⟨b, o + 3, none⟩) hlb).trans HCG.out.2.2.2.1; have e4 := (hw'.cell (p := ⟨b, o + 4, none⟩) hlb).trans HCG.out.2.2.2.2; have ze := bsz (World.block_lt_of_cell? _ _ e0); go_simp; first | exact hD | exact ⟨hD, rfl⟩) ?_
          go_simp
          refine InG.rd 24 rfl rfl rfl (by kernel_rfl) (by intro w' hw' D hD; skip; go_simp; first | exact hD | exact ⟨hD, rfl⟩) ?_
          go_simp
          refine flowV_ch rfl rfl (by
            intro u' hu' L w' hun hbe hD
            have hpr := hD.pre (n := 24) hun (by kernel_rfl)
            have hw' := hpr.2.1
            go_simp
            refine (IH.out g bb _ _ _ _ _ w' (FmAt.below hw' HXG.out) hg (by omega)).mono ?_
            rintro e w'' ⟨v, he, hv, hb⟩
            exact ⟨v, he, hD.call (n := 24) rfl hbe hun (by decide) (by kernel_rfl) (by intro p hp v w w' hb h; simp only [List.mem_cons, List.not_mem_nil, or_false] at hp; rcases hp with rfl | rfl | rfl <;> exact MadeP.later hb h) hb (hv.mono (by have := hw'.size; omega) (Nat.le_refl _) (Nat.le_refl _))⟩) ?_
          intro xa
          go_simp
          refine InG.rd 24 rfl rfl rfl (by kernel_rfl) (by intro w' hw' D hD; skip; go_simp; first | exact hD | exact ⟨hD, rfl⟩) ?_
          go_simp
          refine InG.rd 24 rfl rfl rfl (by kernel_rfl) (by intro w' hw' D hD; obtain ⟨e0, e1, e2, e3, e4⟩ := five_at ((hw'.block w.heap.size (by omega)).trans HA0.out); have ze := bsz (World.block_lt_of_cell? _ _ e0); go_simp; first | exact hD | exact ⟨hD, rfl⟩) ?_
          go_simp
          refine InG.rd 24 rfl rfl rfl (by kernel_rfl) (by intro w' hw' D hD; skip; go_simp; first | exact hD | exact ⟨hD, rfl⟩) ?_
          go_simp
          refine InG.rd 24 rfl rfl rfl (by kernel_rfl) (by intro w' hw' D hD; have e0 := (hw'.cell (p := ⟨b, o + 5, none⟩) hlb).trans HCR.out.1; have e1 := (hw'.cell (p := ⟨b, o + 5 + 1, none⟩) hlb).trans HCR.out.2.1; have e2 := (hw'.cell (p := ⟨b, o + 5 + 2, none⟩) hlb).trans HCR.out.2.2.1; have e3 := (hw'.cell (p := ⟨b, o + 5 + 3, none⟩) hlb).trans HCR.out.2.2.2.1; have e4 := (hw'.cell (p := ⟨b, o + 5 + 4, none⟩) hlb).trans HCR.out.2.2.2.2; have ze := bsz (World.block_lt_of_cell? _ _ e0); go_simp; first | exact hD | exact ⟨hD, rfl⟩) ?_
          go_simp
          refine InG.rd 24 rfl rfl rfl (by kernel_rfl) (by intro w' hw' D hD; skip; go_simp; first | exact hD | exact ⟨hD, rfl⟩) ?_
          go_simp
          refine flowV_ch rfl rfl (by
            intro u' hu' L w' hun hbe hD
            have hpr := hD.pre (n := 24) hun (by kernel_rfl)
            have hw' := hpr.2.1
            go_simp
            refine (IH.out r bb _ _ _ _ _ w' (FmAt.below hw' HXR.out) hr (by omega)).mono ?_
            rintro e w'' ⟨v, he, hv, hb⟩
            exact ⟨v, he, hD.call (n := 24) rfl hbe hun (by decide) (by kernel_rfl) (by intro p hp v w w' hb h; simp only [List.mem_cons, List.not_mem_nil, or_false] at hp; rcases hp with rfl | rfl | rfl <;> exact MadeP.later hb h) hb (hv.mono (by have := hw'.size; omega) (Nat.le_refl _) (Nat.le_refl _))⟩) ?_
          intro xb
          go_simp
          refine flowV_ch rfl rfl (by
            intro u' hu' L w' hun hbe hD
            have hpr := hD.pre (n := 24) hun (by kernel_rfl)
            have hw' := hpr.2.1
            have qa : MadeP (w.heap.size + 2) (m + 1) (g.wt + g.sz) xa w' := by
              have := hpr.2.2 6 (after_behind hbe (p := 6) (by kernel_rfl))
              rw [show u' 6 = xa from (after_eq hu' (p := 6) (by kernel_rfl)).trans (by simp [upd])] at this
              exact this
            have qb : MadeP (w.heap.size + 2) (m + 1) (r.wt + r.sz) xb w' := by
              have := hpr.2.2 12 (after_behind hbe (p := 12) (by kernel_rfl))
              rw [show u' 12 = xb from (after_eq hu' (p := 12) (by kernel_rfl)).trans (by simp [upd])] at this
              exact this
            go_simp
            refine (l9Pair_made (w.heap.size + 2) m _ _ zz (by omega) xa xb w' qa qb (by have := hw'.size; omega)).mono ?_
            rintro e w'' ⟨v, he, hv, hb⟩
            exact ⟨v, he, hD.call (n := 24) rfl hbe hun (by decide) (by kernel_rfl) (by intro p hp v w w' hb h; simp only [List.mem_cons, List.not_mem_nil, or_false] at hp; rcases hp with rfl | rfl | rfl <;> exact MadeP.later hb h) hb hv⟩) ?_
          intro xp
          go_simp
          refine flowV_ch rfl rfl (by
            intro u' hu' L w' hun hbe hD
            have hpr := hD.pre (n := 24) hun (by kernel_rfl)
            have hw' := hpr.2.1
            have hu := (after_eq hu' (p := 13) (by kernel_rfl)).trans (show upd _ 13 xp 13 = xp by simp [upd])
            have qp : MadeP (w.heap.size + 2) (m + 2) ((g.wt + g.sz) + (r.wt + r.sz) + 2) xp w' := by
              have := hpr.2.2 13 (after_behind hbe (p := 13) (by kernel_rfl))
              rw [hu] at this
              exact this
            obtain ⟨y, rfl, -, -⟩ := qp
            rw [show y.cs.toArray = #[.int .i64 y.f.op, .string y.f.a.n, .slice y.p y.f.a.us.length y.c, .string y.f.v, .slice y.q y.f.ps.length y.d] from rfl] at hu ⊢
            have hR := (hw'.block (w.heap.size + 1) (by omega)).trans HR0.out
            obtain ⟨d0, d1, d2, d3, d4⟩ := five_at hR
            have df : ∀ j, w'.frozen? ⟨w.heap.size + 1, j, none⟩ = false := fun j => frozen_of_row w' _ j _ _ hR
            have ze := bsz (blk_lt hR)
            clear hR
            go_simp
            exact hD.store rfl hbe hun ⟨y, by rw [upd_other _ _ (by decide)]; exact hu, rfl⟩) ?_
          intro xs
          refine flowV_nil ?_
          intro L wz hL hD
          obtain ⟨w0, hb0, hq0, y, hy, rfl⟩ := hD.done (fun i hi => by simpa using hL i (by simpa using hi)) (by decide)
          have qp : MadeP (w.heap.size + 2) (m + 2) ((g.wt + g.sz) + (r.wt + r.sz) + 2) (.agg y.cs.toArray) w0 := by
            have := hq0 13 (by decide) (by decide)
            rw [show (_ : Value) = _ from hy] at this
            exact this
          obtain ⟨y', he, h1, h2⟩ := qp
          have HYE := Lib.hid (show y.cs = y'.cs by simpa using he)
          obtain ⟨wz, hwz⟩ : ∃ wz : World, wz = set5C w0 (w.heap.size + 1) (.int .i64 y.f.op) (.string y.f.a.n) (.slice y.p y.f.a.us.length y.c) (.string y.f.v) (.slice y.q y.f.ps.length y.d) := ⟨_, rfl⟩
          have HRB := Lib.hid (show wz.heap[w.heap.size + 1]? = some (.cells #[.int .i64 y.f.op, .string y.f.a.n, .slice y.p y.f.a.us.length y.c, .string y.f.v, .slice y.q y.f.ps.length y.d] 29 (0, 0)) from hwz ▸ set5_cells w0 ((hb0.block _ (by omega)).trans HR0.out))
          have HBE := Lib.hid (show Below w.heap.size w wz from hwz ▸ set5C_below (Below.step HBW.out hb0) (Nat.le_succ _) _ _ _ _ _)
          have H1 := Lib.hid (show FmAt (fun b => w.heap.size ≤ b ∧ b < wz.heap.size) (m + 2) wz y'.f y'.cs from hwz ▸ FmAt.set5C h1 (by omega) _ _ _ _ _)
          have H2 := Lib.hid (Nat.le_trans h2 hwb)
          rw [← hwz]
          clear hwz hb0 hq0 hy he h1 h2 hL hD
          obtain ⟨r0, r1, r2, r3, r4⟩ := five_at HRB.out
          have rf : ∀ j, wz.frozen? ⟨w.heap.size + 1, j, none⟩ = false := fun j => frozen_of_row wz _ j _ _ HRB.out
          have zr := bsz (blk_lt HRB.out)
          go_wp2
          refine bodyPost_ret (v := .agg #[.int .i64 y.f.op, .string y.f.a.n, .slice y.p y.f.a.us.length y.c, .string y.f.v, .slice y.q y.f.ps.length y.d]) (by simp only [results, Tryz.results58]; go_simp) rfl ⟨_, rfl, ⟨y', ?_, H1.out, H2.out⟩, HBE.out⟩
          show Value.agg y.cs.toArray = _
          rw [HYE.out]
      · cases pb
        all_goals
          go_enter Tryz.func58, Tryz.ntmps58
          go_wp2_with fail
          rw [← hW]
          clear hW
          go_wp2
          clear a0 a1 a2 a3 a4 za r0 r1 r2 r3 r4 rf zr y0 y1 y2 y3 y4
        · refine wp_region_grow [some (.pointer (some ⟨w.heap.size, 4, none⟩)), some (.slice (some ⟨b, o, none⟩) ps.length pd), some (.pointer (some ⟨b, o, none⟩)), some (.agg #[x0, x1, x2, x3, x4]), none, some (.pointer (some ⟨w.heap.size, 4, none⟩)), some (.slice (some ⟨b, o, none⟩) ps.length pd), some (.pointer (some ⟨b, o + 5, none⟩)), some (.agg #[z0, z1, z2, z3, z4]), none, none, none] 11 [(4, MadeP (w.heap.size + 2) (m + 1) (g.wt + g.sz)), (9, MadeP (w.heap.size + 2) (m + 1) (r.wt + r.sz)), (10, MadeP (w.heap.size + 2) (m + 2) ((g.wt + g.sz) + (r.wt + r.sz) + 2))] (StoR (w.heap.size + 1) 10) (by kernel_rfl) (by kernel_rfl) ?_
          go_simp
          refine InG.rd 24 rfl rfl rfl (by kernel_rfl) (by intro w' hw' D hD; skip; go_simp; first | exact hD | exact ⟨hD, rfl⟩) ?_
          go_simp
          refine InG.rd 24 rfl rfl rfl (by kernel_rfl) (by intro w' hw' D hD; obtain ⟨e0, e1, e2, e3, e4⟩ := five_at ((hw'.block w.heap.size (by omega)).trans HA0.out); have ze := bsz (World.block_lt_of_cell? _ _ e0); go_simp; first | exact hD | exact ⟨hD, rfl⟩) ?_
          go_simp
          refine InG.rd 24 rfl rfl rfl (by kernel_rfl) (by intro w' hw' D hD; skip; go_simp; first | exact hD | exact ⟨hD, rfl⟩) ?_
          go_simp
          refine InG.rd 24 rfl rfl rfl (by kernel_rfl) (by intro w' hw' D hD; have e0 := (hw'.cell (p := ⟨b, o, none⟩) hlb).trans HCG.out.1; have e1 := (hw'.cell (p := ⟨b, o + 1, none⟩) hlb).trans HCG.out.2.1; have e2 := (hw'.cell (p := ⟨b, o + 2, none⟩) hlb).trans HCG.out.2.2.1; have e3 := (hw'.cell (p := ⟨b, o + 3, none⟩) hlb).trans HCG.out.2.2.2.1; have e4 := (hw'.cell (p := ⟨b, o + 4, none⟩) hlb).trans HCG.out.2.2.2.2; have ze := bsz (World.block_lt_of_cell? _ _ e0); go_simp; first | exact hD | exact ⟨hD, rfl⟩) ?_
          go_simp
          refine flowV_ch rfl rfl (by
            intro u' hu' L w' hun hbe hD
            have hpr := hD.pre (n := 24) hun (by kernel_rfl)
            have hw' := hpr.2.1
            go_simp
            refine (IH.out g true _ _ _ _ _ w' (FmAt.below hw' HXG.out) hg (by omega)).mono ?_
            rintro e w'' ⟨v, he, hv, hb⟩
            exact ⟨v, he, hD.call (n := 24) rfl hbe hun (by decide) (by kernel_rfl) (by intro p hp v w w' hb h; simp only [List.mem_cons, List.not_mem_nil, or_false] at hp; rcases hp with rfl | rfl | rfl <;> exact MadeP.later hb h) hb (hv.mono (by have := hw'.size; omega) (Nat.le_refl _) (Nat.le_refl _))⟩) ?_
          intro xa
          go_simp
          refine InG.rd 24 rfl rfl rfl (by kernel_rfl) (by intro w' hw' D hD; skip; go_simp; first | exact hD | exact ⟨hD, rfl⟩) ?_
          go_simp
          refine InG.rd 24 rfl rfl rfl (by kernel_rfl) (by intro w' hw' D hD; obtain ⟨e0, e1, e2, e3, e4⟩ := five_at ((hw'.block w.heap.size (by omega)).trans HA0.out); have ze := bsz (World.block_lt_of_cell? _ _ e0); go_simp; first | exact hD | exact ⟨hD, rfl⟩) ?_
          go_simp
          refine InG.rd 24 rfl rfl rfl (by kernel_rfl) (by intro w' hw' D hD; skip; go_simp; first | exact hD | exact ⟨hD, rfl⟩) ?_
          go_simp
          refine InG.rd 24 rfl rfl rfl (by kernel_rfl) (by intro w' hw' D hD; have e0 := (hw'.cell (p := ⟨b, o + 5, none⟩) hlb).trans HCR.out.1; have e1 := (hw'.cell (p := ⟨b, o + 5 + 1, none⟩) hlb).trans HCR.out.2.1; have e2 := (hw'.cell (p := ⟨b, o + 5 + 2, none⟩) hlb).trans HCR.out.2.2.1; have e3 := (hw'.cell (p := ⟨b, o + 5 + 3, none⟩) hlb).trans HCR.out.2.2.2.1; have e4 := (hw'.cell (p := ⟨b, o + 5 + 4, none⟩) hlb).trans HCR.out.2.2.2.2; have ze := bsz (World.block_lt_of_cell? _ _ e0); go_simp; first | exact hD | exact ⟨hD, rfl⟩) ?_
          go_simp
          refine flowV_ch rfl rfl (by
            intro u' hu' L w' hun hbe hD
            have hpr := hD.pre (n := 24) hun (by kernel_rfl)
            have hw' := hpr.2.1
            go_simp
            refine (IH.out r false _ _ _ _ _ w' (FmAt.below hw' HXR.out) hr (by omega)).mono ?_
            rintro e w'' ⟨v, he, hv, hb⟩
            exact ⟨v, he, hD.call (n := 24) rfl hbe hun (by decide) (by kernel_rfl) (by intro p hp v w w' hb h; simp only [List.mem_cons, List.not_mem_nil, or_false] at hp; rcases hp with rfl | rfl | rfl <;> exact MadeP.later hb h) hb (hv.mono (by have := hw'.size; omega) (Nat.le_refl _) (Nat.le_refl _))⟩) ?_
          intro xb
          go_simp
          refine flowV_ch rfl rfl (by
            intro u' hu' L w' hun hbe hD
            have hpr := hD.pre (n := 24) hun (by kernel_rfl)
            have hw' := hpr.2.1
            have qa : MadeP (w.heap.size + 2) (m + 1) (g.wt + g.sz) xa w' := by
              have := hpr.2.2 4 (after_behind hbe (p := 4) (by kernel_rfl))
              rw [show u' 4 = xa from (after_eq hu' (p := 4) (by kernel_rfl)).trans (by simp [upd])] at this
              exact this
            have qb : MadeP (w.heap.size + 2) (m + 1) (r.wt + r.sz) xb w' := by
              have := hpr.2.2 9 (after_behind hbe (p := 9) (by kernel_rfl))
              rw [show u' 9 = xb from (after_eq hu' (p := 9) (by kernel_rfl)).trans (by simp [upd])] at this
              exact this
            go_simp
            refine (l9Pair_made (w.heap.size + 2) m _ _ 5 (by omega) xa xb w' qa qb (by have := hw'.size; omega)).mono ?_
            rintro e w'' ⟨v, he, hv, hb⟩
            exact ⟨v, he, hD.call (n := 24) rfl hbe hun (by decide) (by kernel_rfl) (by intro p hp v w w' hb h; simp only [List.mem_cons, List.not_mem_nil, or_false] at hp; rcases hp with rfl | rfl | rfl <;> exact MadeP.later hb h) hb hv⟩) ?_
          intro xp
          go_simp
          refine flowV_ch rfl rfl (by
            intro u' hu' L w' hun hbe hD
            have hpr := hD.pre (n := 24) hun (by kernel_rfl)
            have hw' := hpr.2.1
            have hu := (after_eq hu' (p := 10) (by kernel_rfl)).trans (show upd _ 10 xp 10 = xp by simp [upd])
            have qp : MadeP (w.heap.size + 2) (m + 2) ((g.wt + g.sz) + (r.wt + r.sz) + 2) xp w' := by
              have := hpr.2.2 10 (after_behind hbe (p := 10) (by kernel_rfl))
              rw [hu] at this
              exact this
            obtain ⟨y, rfl, -, -⟩ := qp
            rw [show y.cs.toArray = #[.int .i64 y.f.op, .string y.f.a.n, .slice y.p y.f.a.us.length y.c, .string y.f.v, .slice y.q y.f.ps.length y.d] from rfl] at hu ⊢
            have hR := (hw'.block (w.heap.size + 1) (by omega)).trans HR0.out
            obtain ⟨d0, d1, d2, d3, d4⟩ := five_at hR
            have df : ∀ j, w'.frozen? ⟨w.heap.size + 1, j, none⟩ = false := fun j => frozen_of_row w' _ j _ _ hR
            have ze := bsz (blk_lt hR)
            clear hR
            go_simp
            exact hD.store rfl hbe hun ⟨y, by rw [upd_other _ _ (by decide)]; exact hu, rfl⟩) ?_
          intro xs
          refine flowV_nil ?_
          intro L wz hL hD
          obtain ⟨w0, hb0, hq0, y, hy, rfl⟩ := hD.done (fun i hi => by simpa using hL i (by simpa using hi)) (by decide)
          have qp : MadeP (w.heap.size + 2) (m + 2) ((g.wt + g.sz) + (r.wt + r.sz) + 2) (.agg y.cs.toArray) w0 := by
            have := hq0 10 (by decide) (by decide)
            rw [show (_ : Value) = _ from hy] at this
            exact this
          obtain ⟨y', he, h1, h2⟩ := qp
          have HYE := Lib.hid (show y.cs = y'.cs by simpa using he)
          obtain ⟨wz, hwz⟩ : ∃ wz : World, wz = set5C w0 (w.heap.size + 1) (.int .i64 y.f.op) (.string y.f.a.n) (.slice y.p y.f.a.us.length y.c) (.string y.f.v) (.slice y.q y.f.ps.length y.d) := ⟨_, rfl⟩
          have HRB := Lib.hid (show wz.heap[w.heap.size + 1]? = some (.cells #[.int .i64 y.f.op, .string y.f.a.n, .slice y.p y.f.a.us.length y.c, .string y.f.v, .slice y.q y.f.ps.length y.d] 29 (0, 0)) from hwz ▸ set5_cells w0 ((hb0.block _ (by omega)).trans HR0.out))
          have HBE := Lib.hid (show Below w.heap.size w wz from hwz ▸ set5C_below (Below.step HBW.out hb0) (Nat.le_succ _) _ _ _ _ _)
          have H1 := Lib.hid (show FmAt (fun b => w.heap.size ≤ b ∧ b < wz.heap.size) (m + 2) wz y'.f y'.cs from hwz ▸ FmAt.set5C h1 (by omega) _ _ _ _ _)
          have H2 := Lib.hid (Nat.le_trans h2 hwb)
          rw [← hwz]
          clear hwz hb0 hq0 hy he h1 h2 hL hD
          obtain ⟨r0, r1, r2, r3, r4⟩ := five_at HRB.out
          have rf : ∀ j, wz.frozen? ⟨w.heap.size + 1, j, none⟩ = false := fun j => frozen_of_row wz _ j _ _ HRB.out
          have zr := bsz (blk_lt HRB.out)
          go_wp2
          refine bodyPost_ret (v := .agg #[.int .i64 y.f.op, .string y.f.a.n, .slice y.p y.f.a.us.length y.c, .string y.f.v, .slice y.q y.f.ps.length y.d]) (by simp only [results, Tryz.results58]; go_simp) rfl ⟨_, rfl, ⟨y', ?_, H1.out, H2.out⟩, HBE.out⟩
          show Value.agg y.cs.toArray = _
          rw [HYE.out]
        · refine wp_region_grow [some (.pointer (some ⟨w.heap.size, 4, none⟩)), some (.slice (some ⟨b, o, none⟩) ps.length pd), some (.pointer (some ⟨b, o, none⟩)), some (.agg #[x0, x1, x2, x3, x4]), none, some (.pointer (some ⟨w.heap.size, 4, none⟩)), some (.slice (some ⟨b, o, none⟩) ps.length pd), some (.pointer (some ⟨b, o + 5, none⟩)), some (.agg #[z0, z1, z2, z3, z4]), none, none, none] 11 [(4, MadeP (w.heap.size + 2) (m + 1) (g.wt + g.sz)), (9, MadeP (w.heap.size + 2) (m + 1) (r.wt + r.sz)), (10, MadeP (w.heap.size + 2) (m + 2) ((g.wt + g.sz) + (r.wt + r.sz) + 2))] (StoR (w.heap.size + 1) 10) (by kernel_rfl) (by kernel_rfl) ?_
          go_simp
          refine InG.rd 24 rfl rfl rfl (by kernel_rfl) (by intro w' hw' D hD; skip; go_simp; first | exact hD | exact ⟨hD, rfl⟩) ?_
          go_simp
          refine InG.rd 24 rfl rfl rfl (by kernel_rfl) (by intro w' hw' D hD; obtain ⟨e0, e1, e2, e3, e4⟩ := five_at ((hw'.block w.heap.size (by omega)).trans HA0.out); have ze := bsz (World.block_lt_of_cell? _ _ e0); go_simp; first | exact hD | exact ⟨hD, rfl⟩) ?_
          go_simp
          refine InG.rd 24 rfl rfl rfl (by kernel_rfl) (by intro w' hw' D hD; skip; go_simp; first | exact hD | exact ⟨hD, rfl⟩) ?_
          go_simp
          refine InG.rd 24 rfl rfl rfl (by kernel_rfl) (by intro w' hw' D hD; have e0 := (hw'.cell (p := ⟨b, o, none⟩) hlb).trans HCG.out.1; have e1 := (hw'.cell (p := ⟨b, o + 1, none⟩) hlb).trans HCG.out.2.1; have e2 := (hw'.cell (p := ⟨b, o + 2, none⟩) hlb).trans HCG.out.2.2.1; have e3 := (hw'.cell (p := ⟨b, o + 3, none⟩) hlb).trans HCG.out.2.2.2.1; have e4 := (hw'.cell (p := ⟨b, o + 4, none⟩) hlb).trans HCG.out.2.2.2.2; have ze := bsz (World.block_lt_of_cell? _ _ e0); go_simp; first | exact hD | exact ⟨hD, rfl⟩) ?_
          go_simp
          refine flowV_ch rfl rfl (by
            intro u' hu' L w' hun hbe hD
            have hpr := hD.pre (n := 24) hun (by kernel_rfl)
            have hw' := hpr.2.1
            go_simp
            refine (IH.out g false _ _ _ _ _ w' (FmAt.below hw' HXG.out) hg (by omega)).mono ?_
            rintro e w'' ⟨v, he, hv, hb⟩
            exact ⟨v, he, hD.call (n := 24) rfl hbe hun (by decide) (by kernel_rfl) (by intro p hp v w w' hb h; simp only [List.mem_cons, List.not_mem_nil, or_false] at hp; rcases hp with rfl | rfl | rfl <;> exact MadeP.later hb h) hb (hv.mono (by have := hw'.size; omega) (Nat.le_refl _) (Nat.le_refl _))⟩) ?_
          intro xa
          go_simp
          refine InG.rd 24 rfl rfl rfl (by kernel_rfl) (by intro w' hw' D hD; skip; go_simp; first | exact hD | exact ⟨hD, rfl⟩) ?_
          go_simp
          refine InG.rd 24 rfl rfl rfl (by kernel_rfl) (by intro w' hw' D hD; obtain ⟨e0, e1, e2, e3, e4⟩ := five_at ((hw'.block w.heap.size (by omega)).trans HA0.out); have ze := bsz (World.block_lt_of_cell? _ _ e0); go_simp; first | exact hD | exact ⟨hD, rfl⟩) ?_
          go_simp
          refine InG.rd 24 rfl rfl rfl (by kernel_rfl) (by intro w' hw' D hD; skip; go_simp; first | exact hD | exact ⟨hD, rfl⟩) ?_
          go_simp
          refine InG.rd 24 rfl rfl rfl (by kernel_rfl) (by intro w' hw' D hD; have e0 := (hw'.cell (p := ⟨b, o + 5, none⟩) hlb).trans HCR.out.1; have e1 := (hw'.cell (p := ⟨b, o + 5 + 1, none⟩) hlb).trans HCR.out.2.1; have e2 := (hw'.cell (p := ⟨b, o + 5 + 2, none⟩) hlb).trans HCR.out.2.2.1; have e3 := (hw'.cell (p := ⟨b, o + 5 + 3, none⟩) hlb).trans HCR.out.2.2.2.1; have e4 := (hw'.cell (p := ⟨b, o + 5 + 4, none⟩) hlb).trans HCR.out.2.2.2.2; have ze := bsz (World.block_lt_of_cell? _ _ e0); go_simp; first | exact hD | exact ⟨hD, rfl⟩) ?_
          go_simp
          refine flowV_ch rfl rfl (by
            intro u' hu' L w' hun hbe hD
            have hpr := hD.pre (n := 24) hun (by kernel_rfl)
            have hw' := hpr.2.1
            go_simp
            refine (IH.out r true _ _ _ _ _ w' (FmAt.below hw' HXR.out) hr (by omega)).mono ?_
            rintro e w'' ⟨v, he, hv, hb⟩
            exact ⟨v, he, hD.call (n := 24) rfl hbe hun (by decide) (by kernel_rfl) (by intro p hp v w w' hb h; simp only [List.mem_cons, List.not_mem_nil, or_false] at hp; rcases hp with rfl | rfl | rfl <;> exact MadeP.later hb h) hb (hv.mono (by have := hw'.size; omega) (Nat.le_refl _) (Nat.le_refl _))⟩) ?_
          intro xb
          go_simp
          refine flowV_ch rfl rfl (by
            intro u' hu' L w' hun hbe hD
            have hpr := hD.pre (n := 24) hun (by kernel_rfl)
            have hw' := hpr.2.1
            have qa : MadeP (w.heap.size + 2) (m + 1) (g.wt + g.sz) xa w' := by
              have := hpr.2.2 4 (after_behind hbe (p := 4) (by kernel_rfl))
              rw [show u' 4 = xa from (after_eq hu' (p := 4) (by kernel_rfl)).trans (by simp [upd])] at this
              exact this
            have qb : MadeP (w.heap.size + 2) (m + 1) (r.wt + r.sz) xb w' := by
              have := hpr.2.2 9 (after_behind hbe (p := 9) (by kernel_rfl))
              rw [show u' 9 = xb from (after_eq hu' (p := 9) (by kernel_rfl)).trans (by simp [upd])] at this
              exact this
            go_simp
            refine (l9Pair_made (w.heap.size + 2) m _ _ 6 (by omega) xa xb w' qa qb (by have := hw'.size; omega)).mono ?_
            rintro e w'' ⟨v, he, hv, hb⟩
            exact ⟨v, he, hD.call (n := 24) rfl hbe hun (by decide) (by kernel_rfl) (by intro p hp v w w' hb h; simp only [List.mem_cons, List.not_mem_nil, or_false] at hp; rcases hp with rfl | rfl | rfl <;> exact MadeP.later hb h) hb hv⟩) ?_
          intro xp
          go_simp
          refine flowV_ch rfl rfl (by
            intro u' hu' L w' hun hbe hD
            have hpr := hD.pre (n := 24) hun (by kernel_rfl)
            have hw' := hpr.2.1
            have hu := (after_eq hu' (p := 10) (by kernel_rfl)).trans (show upd _ 10 xp 10 = xp by simp [upd])
            have qp : MadeP (w.heap.size + 2) (m + 2) ((g.wt + g.sz) + (r.wt + r.sz) + 2) xp w' := by
              have := hpr.2.2 10 (after_behind hbe (p := 10) (by kernel_rfl))
              rw [hu] at this
              exact this
            obtain ⟨y, rfl, -, -⟩ := qp
            rw [show y.cs.toArray = #[.int .i64 y.f.op, .string y.f.a.n, .slice y.p y.f.a.us.length y.c, .string y.f.v, .slice y.q y.f.ps.length y.d] from rfl] at hu ⊢
            have hR := (hw'.block (w.heap.size + 1) (by omega)).trans HR0.out
            obtain ⟨d0, d1, d2, d3, d4⟩ := five_at hR
            have df : ∀ j, w'.frozen? ⟨w.heap.size + 1, j, none⟩ = false := fun j => frozen_of_row w' _ j _ _ hR
            have ze := bsz (blk_lt hR)
            clear hR
            go_simp
            exact hD.store rfl hbe hun ⟨y, by rw [upd_other _ _ (by decide)]; exact hu, rfl⟩) ?_
          intro xs
          refine flowV_nil ?_
          intro L wz hL hD
          obtain ⟨w0, hb0, hq0, y, hy, rfl⟩ := hD.done (fun i hi => by simpa using hL i (by simpa using hi)) (by decide)
          have qp : MadeP (w.heap.size + 2) (m + 2) ((g.wt + g.sz) + (r.wt + r.sz) + 2) (.agg y.cs.toArray) w0 := by
            have := hq0 10 (by decide) (by decide)
            rw [show (_ : Value) = _ from hy] at this
            exact this
          obtain ⟨y', he, h1, h2⟩ := qp
          have HYE := Lib.hid (show y.cs = y'.cs by simpa using he)
          obtain ⟨wz, hwz⟩ : ∃ wz : World, wz = set5C w0 (w.heap.size + 1) (.int .i64 y.f.op) (.string y.f.a.n) (.slice y.p y.f.a.us.length y.c) (.string y.f.v) (.slice y.q y.f.ps.length y.d) := ⟨_, rfl⟩
          have HRB := Lib.hid (show wz.heap[w.heap.size + 1]? = some (.cells #[.int .i64 y.f.op, .string y.f.a.n, .slice y.p y.f.a.us.length y.c, .string y.f.v, .slice y.q y.f.ps.length y.d] 29 (0, 0)) from hwz ▸ set5_cells w0 ((hb0.block _ (by omega)).trans HR0.out))
          have HBE := Lib.hid (show Below w.heap.size w wz from hwz ▸ set5C_below (Below.step HBW.out hb0) (Nat.le_succ _) _ _ _ _ _)
          have H1 := Lib.hid (show FmAt (fun b => w.heap.size ≤ b ∧ b < wz.heap.size) (m + 2) wz y'.f y'.cs from hwz ▸ FmAt.set5C h1 (by omega) _ _ _ _ _)
          have H2 := Lib.hid (Nat.le_trans h2 hwb)
          rw [← hwz]
          clear hwz hb0 hq0 hy he h1 h2 hL hD
          obtain ⟨r0, r1, r2, r3, r4⟩ := five_at HRB.out
          have rf : ∀ j, wz.frozen? ⟨w.heap.size + 1, j, none⟩ = false := fun j => frozen_of_row wz _ j _ _ HRB.out
          have zr := bsz (blk_lt HRB.out)
          go_wp2
          refine bodyPost_ret (v := .agg #[.int .i64 y.f.op, .string y.f.a.n, .slice y.p y.f.a.us.length y.c, .string y.f.v, .slice y.q y.f.ps.length y.d]) (by simp only [results, Tryz.results58]; go_simp) rfl ⟨_, rfl, ⟨y', ?_, H1.out, H2.out⟩, HBE.out⟩
          show Value.agg y.cs.toArray = _
          rw [HYE.out]
    · clear hf
      have h0n : 0 < ps.length := by rw [hps]; exact Nat.zero_lt_succ _
      have h0i : (0 : Int) < ps.length := by omega
      obtain ⟨b, o, hpe, hBb, x0, x1, x2, x3, x4, hx0, hx1, hx2, hx3, hx4, hx⟩ := HL.out.at5 h0n
      subst hpe
      rw [show ps[0] = g by simp [hps]] at hx
      simp only [Nat.zero_mul, Nat.add_zero] at hx0 hx1 hx2 hx3 hx4
      have hbb : b < w.heap.size := World.block_lt_of_cell? _ _ hx0
      have HXG := Lib.hid (FmAt.below HBW.out hx)
      have zb := bsz hbb
      have zbW := bsz (show b < W.heap.size by omega)
      have y0 := (HBW.out.cell (p := ⟨b, o, none⟩) hbb).trans hx0
      have y1 := (HBW.out.cell (p := ⟨b, o + 1, none⟩) hbb).trans hx1
      have y2 := (HBW.out.cell (p := ⟨b, o + 2, none⟩) hbb).trans hx2
      have y3 := (HBW.out.cell (p := ⟨b, o + 3, none⟩) hbb).trans hx3
      have y4 := (HBW.out.cell (p := ⟨b, o + 4, none⟩) hbb).trans hx4
      clear hx
      have HCG := Lib.hid (And.intro y0 (And.intro y1 (And.intro y2 (And.intro y3 y4))))
      clear hx0 hx1 hx2 hx3 hx4
      have hwg : Fm.wts ps = g.wt ∧ Fm.szs ps = g.sz := by rw [hps, Fm.wts, Fm.wts, Fm.szs, Fm.szs]; exact ⟨by omega, by omega⟩
      have hpl : ps.length = 1 := by rw [hps]; rfl
      have hwb : xv.size + 1 + (g.wt + g.sz) ≤ a.wt + xv.size + ps.length + Fm.wts ps + (1 + Fm.szs ps) := by omega
      have hlb : b < W.heap.size := by omega
      have hgw : g.wt ≤ 1000000 := by omega
      clear hps hpl hwg
      rcases ho with rfl | rfl <;> cases pb
      all_goals
        go_enter Tryz.func58, Tryz.ntmps58
        go_wp2_with fail
        rw [← hW]
        clear hW
        go_wp2
        clear a0 a1 a2 a3 a4 za r0 r1 r2 r3 r4 rf zr y0 y1 y2 y3 y4
      focus
        obtain ⟨zz, hzz, hzr⟩ : ∃ zz : Int, zz = 9 ∧ 5 ≤ zz ∧ zz ≤ 9 := ⟨_, rfl, by omega, by omega⟩
        obtain ⟨bb, hbb⟩ : ∃ bb : Bool, Value.bool bb = Value.bool false := ⟨_, rfl⟩
        rw [← hzz, ← hbb]
        clear hzz hbb
      rotate_left
      focus
        obtain ⟨zz, hzz, hzr⟩ : ∃ zz : Int, zz = 8 ∧ 5 ≤ zz ∧ zz ≤ 9 := ⟨_, rfl, by omega, by omega⟩
        obtain ⟨bb, hbb⟩ : ∃ bb : Bool, Value.bool bb = Value.bool true := ⟨_, rfl⟩
        rw [← hzz, ← hbb]
        clear hzz hbb
      rotate_left
      focus
        obtain ⟨zz, hzz, hzr⟩ : ∃ zz : Int, zz = 8 ∧ 5 ≤ zz ∧ zz ≤ 9 := ⟨_, rfl, by omega, by omega⟩
        obtain ⟨bb, hbb⟩ : ∃ bb : Bool, Value.bool bb = Value.bool false := ⟨_, rfl⟩
        rw [← hzz, ← hbb]
        clear hzz hbb
      rotate_left
      focus
        obtain ⟨zz, hzz, hzr⟩ : ∃ zz : Int, zz = 9 ∧ 5 ≤ zz ∧ zz ≤ 9 := ⟨_, rfl, by omega, by omega⟩
        obtain ⟨bb, hbb⟩ : ∃ bb : Bool, Value.bool bb = Value.bool true := ⟨_, rfl⟩
        rw [← hzz, ← hbb]
        clear hzz hbb
      rotate_left
      all_goals
        refine wp_region_grow [some (.int .i64 zz), some (.pointer (some ⟨w.heap.size, 3, none⟩)), some (.string xv), some (.pointer (some ⟨w.heap.size, 4, none⟩)), some (.slice (some ⟨b, o, none⟩) ps.length pd), some (.pointer (some ⟨b, o, none⟩)), some (.agg #[x0, x1, x2, x3, x4]), some (.bool bb), none, none, none, none] 11 [(8, MadeP (w.heap.size + 2) (m + 1) (g.wt + g.sz)), (9, SlcP 29 (w.heap.size + 2) (m + 1) (g.wt + g.sz)), (10, MadeP (w.heap.size + 2) (m + 2) (xv.size + 1 + (g.wt + g.sz)))] (StoR (w.heap.size + 1) 10) (by kernel_rfl) (by kernel_rfl) ?_
        go_simp
        refine InG.rd 24 rfl rfl rfl (by kernel_rfl) (by intro w' hw' D hD; skip; go_simp; first | exact hD | exact ⟨hD, rfl⟩) ?_
        go_simp
        refine InG.rd 24 rfl rfl rfl (by kernel_rfl) (by intro w' hw' D hD; skip; go_simp; first | exact hD | exact ⟨hD, rfl⟩) ?_
        go_simp
        refine InG.rd 24 rfl rfl rfl (by kernel_rfl) (by intro w' hw' D hD; obtain ⟨e0, e1, e2, e3, e4⟩ := five_at ((hw'.block w.heap.size (by omega)).trans HA0.out); have ze := bsz (World.block_lt_of_cell? _ _ e0); go_simp; first | exact hD | exact ⟨hD, rfl⟩) ?_
        go_simp
        refine InG.rd 24 rfl rfl rfl (by kernel_rfl) (by intro w' hw' D hD; skip; go_simp; first | exact hD | exact ⟨hD, rfl⟩) ?_
        go_simp
        refine InG.rd 24 rfl rfl rfl (by kernel_rfl) (by intro w' hw' D hD; obtain ⟨e0, e1, e2, e3, e4⟩ := five_at ((hw'.block w.heap.size (by omega)).trans HA0.out); have ze := bsz (World.block_lt_of_cell? _ _ e0); go_simp; first | exact hD | exact ⟨hD, rfl⟩) ?_
        go_simp
        refine InG.rd 24 rfl rfl rfl (by kernel_rfl) (by intro w' hw' D hD; skip; go_simp; first | exact hD | exact ⟨hD, rfl⟩) ?_
        go_simp
        refine InG.rd 24 rfl rfl rfl (by kernel_rfl) (by intro w' hw' D hD; have e0 := (hw'.cell (p := ⟨b, o, none⟩) hlb).trans HCG.out.1; have e1 := (hw'.cell (p := ⟨b, o + 1, none⟩) hlb).trans HCG.out.2.1; have e2 := (hw'.cell (p := ⟨b, o + 2, none⟩) hlb).trans HCG.out.2.2.1; have e3 := (hw'.cell (p := ⟨b, o + 3, none⟩) hlb).trans HCG.out.2.2.2.1; have e4 := (hw'.cell (p := ⟨b, o + 4, none⟩) hlb).trans HCG.out.2.2.2.2; have ze := bsz (World.block_lt_of_cell? _ _ e0); go_simp; first | exact hD | exact ⟨hD, rfl⟩) ?_
        go_simp
        refine InG.rd 24 rfl rfl rfl (by kernel_rfl) (by intro w' hw' D hD; skip; go_simp; first | exact hD | exact ⟨hD, rfl⟩) ?_
        go_simp
        refine flowV_ch rfl rfl (by
          intro u' hu' L w' hun hbe hD
          have hpr := hD.pre (n := 24) hun (by kernel_rfl)
          have hw' := hpr.2.1
          go_simp
          refine (IH.out g bb _ _ _ _ _ w' (FmAt.below hw' HXG.out) hg (by omega)).mono ?_
          rintro e w'' ⟨v, he, hv, hb⟩
          exact ⟨v, he, hD.call (n := 24) rfl hbe hun (by decide) (by kernel_rfl) (by intro p hp v w w' hb h; simp only [List.mem_cons, List.not_mem_nil, or_false] at hp; rcases hp with rfl | rfl | rfl <;> first | exact MadeP.later hb h | exact SlcP.later hb h) hb (hv.mono (by have := hw'.size; omega) (Nat.le_refl _) (Nat.le_refl _))⟩) ?_
        intro xa
        go_simp
        refine flowV_ch rfl rfl (by
          intro u' hu' L w' hun hbe hD
          have hpr := hD.pre (n := 24) hun (by kernel_rfl)
          have hw' := hpr.2.1
          have qa : MadeP (w.heap.size + 2) (m + 1) (g.wt + g.sz) xa w' := by
            have := hpr.2.2 8 (after_behind hbe (p := 8) (by kernel_rfl))
            rw [show u' 8 = xa from (after_eq hu' (p := 8) (by kernel_rfl)).trans (by simp [upd])] at this
            exact this
          obtain ⟨y, rfl, h1, h2⟩ := qa
          have hba : Below w'.heap.size w' (w'.alloc (.cells y.cs.toArray 29)) := (Below.refl _ _).alloc (Nat.le_refl _) _
          have hcl := hD.call (x := .slice (some ⟨w'.heap.size, 0, none⟩) 1 1) (n := 24) rfl hbe hun (by decide) (by kernel_rfl) (by intro p hp v w w' hb h; simp only [List.mem_cons, List.not_mem_nil, or_false] at hp; rcases hp with rfl | rfl | rfl <;> first | exact MadeP.later hb h | exact SlcP.later hb h) hba ⟨w'.heap.size, y, rfl, by have := hw'.size; omega, heap_alloc_new w' _, FmAt.mono (SameOn.below hba) (fun b hb => ⟨hb.1, by simp; omega⟩) _ _ _ _ (Nat.le_refl _) h1, h2⟩
          rw [show y.cs.toArray = #[.int .i64 y.f.op, .string y.f.a.n, .slice y.p y.f.a.us.length y.c, .string y.f.v, .slice y.q y.f.ps.length y.d] from rfl] at hcl ⊢
          first | (go_simp; done) | (go_simp; exact hcl)) ?_
        intro xl
        go_simp
        refine flowV_ch rfl rfl (by
          intro u' hu' L w' hun hbe hD
          have hpr := hD.pre (n := 24) hun (by kernel_rfl)
          have hw' := hpr.2.1
          have qa : SlcP 29 (w.heap.size + 2) (m + 1) (g.wt + g.sz) xl w' := by
            have := hpr.2.2 9 (after_behind hbe (p := 9) (by kernel_rfl))
            rw [show u' 9 = xl from (after_eq hu' (p := 9) (by kernel_rfl)).trans (by simp [upd])] at this
            exact this
          obtain ⟨k, y, rfl, h1, h2, h3, h4⟩ := qa
          have hcl := hD.call (x := .agg #[.int .i64 zz, .string ⟨#[]⟩, .slice none 0 0, .string xv, .slice (some ⟨k, 0, none⟩) 1 1]) (n := 24) rfl hbe hun (by decide) (by kernel_rfl) (by intro p hp v w w' hb h; simp only [List.mem_cons, List.not_mem_nil, or_false] at hp; rcases hp with rfl | rfl | rfl <;> first | exact MadeP.later hb h | exact SlcP.later hb h) (Below.refl _ _) ⟨⟨.mk zz tm0 xv [y.f], none, 0, some ⟨k, 0, none⟩, 1⟩, rfl, FmAt.inb' (B := fun b => w.heap.size + 2 ≤ b) ⟨_, _, _, rfl, by omega, HX.out.2, ⟨_, rfl, Nat.zero_le _, ListAt.nil _ _ _ _ _ _⟩, list_one h2 h1 rfl (FmAt.mono (SameOn.refl _ _) (fun b hb => hb.1) _ _ _ _ (Nat.le_refl _) h3)⟩, by
            rw [Fm.wt, tm0_wt, Fm.wts, Fm.wts]; simp only [List.length_cons, List.length_nil]; omega⟩
          first | (go_simp; done) | (go_simp; exact hcl)) ?_
        intro xp
        go_simp
        refine flowV_ch rfl rfl (by
          intro u' hu' L w' hun hbe hD
          have hpr := hD.pre (n := 24) hun (by kernel_rfl)
          have hw' := hpr.2.1
          have hu := (after_eq hu' (p := 10) (by kernel_rfl)).trans (show upd _ 10 xp 10 = xp by simp [upd])
          have qp : MadeP (w.heap.size + 2) (m + 2) (xv.size + 1 + (g.wt + g.sz)) xp w' := by
            have := hpr.2.2 10 (after_behind hbe (p := 10) (by kernel_rfl))
            rw [hu] at this
            exact this
          obtain ⟨y, rfl, -, -⟩ := qp
          rw [show y.cs.toArray = #[.int .i64 y.f.op, .string y.f.a.n, .slice y.p y.f.a.us.length y.c, .string y.f.v, .slice y.q y.f.ps.length y.d] from rfl] at hu ⊢
          have hR := (hw'.block (w.heap.size + 1) (by omega)).trans HR0.out
          obtain ⟨d0, d1, d2, d3, d4⟩ := five_at hR
          have df : ∀ j, w'.frozen? ⟨w.heap.size + 1, j, none⟩ = false := fun j => frozen_of_row w' _ j _ _ hR
          have ze := bsz (blk_lt hR)
          clear hR
          go_simp
          exact hD.store rfl hbe hun ⟨y, by rw [upd_other _ _ (by decide)]; exact hu, rfl⟩) ?_
        intro xs
        refine flowV_nil ?_
        intro L wz hL hD
        obtain ⟨w0, hb0, hq0, y, hy, rfl⟩ := hD.done (fun i hi => by simpa using hL i (by simpa using hi)) (by decide)
        have qp : MadeP (w.heap.size + 2) (m + 2) (xv.size + 1 + (g.wt + g.sz)) (.agg y.cs.toArray) w0 := by
          have := hq0 10 (by decide) (by decide)
          rw [show (_ : Value) = _ from hy] at this
          exact this
        obtain ⟨y', he, h1, h2⟩ := qp
        have HYE := Lib.hid (show y.cs = y'.cs by simpa using he)
        obtain ⟨wz, hwz⟩ : ∃ wz : World, wz = set5C w0 (w.heap.size + 1) (.int .i64 y.f.op) (.string y.f.a.n) (.slice y.p y.f.a.us.length y.c) (.string y.f.v) (.slice y.q y.f.ps.length y.d) := ⟨_, rfl⟩
        have HRB := Lib.hid (show wz.heap[w.heap.size + 1]? = some (.cells #[.int .i64 y.f.op, .string y.f.a.n, .slice y.p y.f.a.us.length y.c, .string y.f.v, .slice y.q y.f.ps.length y.d] 29 (0, 0)) from hwz ▸ set5_cells w0 ((hb0.block _ (by omega)).trans HR0.out))
        have HBE := Lib.hid (show Below w.heap.size w wz from hwz ▸ set5C_below (Below.step HBW.out hb0) (Nat.le_succ _) _ _ _ _ _)
        have H1 := Lib.hid (show FmAt (fun b => w.heap.size ≤ b ∧ b < wz.heap.size) (m + 2) wz y'.f y'.cs from hwz ▸ FmAt.set5C h1 (by omega) _ _ _ _ _)
        have H2 := Lib.hid (Nat.le_trans h2 hwb)
        rw [← hwz]
        clear hwz hb0 hq0 hy he h1 h2 hL hD
        obtain ⟨r0, r1, r2, r3, r4⟩ := five_at HRB.out
        have rf : ∀ j, wz.frozen? ⟨w.heap.size + 1, j, none⟩ = false := fun j => frozen_of_row wz _ j _ _ HRB.out
        have zr := bsz (blk_lt HRB.out)
        go_wp2
        refine bodyPost_ret (v := .agg #[.int .i64 y.f.op, .string y.f.a.n, .slice y.p y.f.a.us.length y.c, .string y.f.v, .slice y.q y.f.ps.length y.d]) (by simp only [results, Tryz.results58]; go_simp) rfl ⟨_, rfl, ⟨y', ?_, H1.out, H2.out⟩, HBE.out⟩
        show Value.agg y.cs.toArray = _
        rw [HYE.out]
end Go.Proofs.YtmbkjdkjemlfkaaGreatDoor
