import Derived.Test.YtmbkjdkjemlfkaaGreatDoorDfPart8
namespace Go.Proofs.YtmbkjdkjemlfkaaGreatDoor
set_option maxRecDepth 100000
open Go.RowKit
mutual
def Fm.wt : Fm → Nat | .mk _ a v us => a.wt + v.size + us.length + Fm.wts us
def Fm.wts : List Fm → Nat | [] => 0 | a :: us => a.wt + Fm.wts us
end
theorem Fm.wts_le (us : List Fm) {k : Nat} (h : k < us.length) : us[k].wt ≤ Fm.wts us := by
  induction us generalizing k with
  | nil => simp at h
  | cons a us ih =>
    cases k with
    | zero => simp [Fm.wts]
    | succ k => have := ih (k := k) (by simpa using h); simp only [List.getElem_cons_succ, Fm.wts]; omega
theorem row5_at {w : World} {g : Nat} {v0 v1 v2 v3 v4 : Value} {t : TypeId} (h : w.heap[g]? = some (.cells #[v0, v1, v2, v3, v4] t (0, 0))) :
    w.cell? ⟨g, 0, none⟩ = some v0 ∧ w.cell? ⟨g, 1, none⟩ = some v1 ∧ w.cell? ⟨g, 2, none⟩ = some v2 ∧ w.cell? ⟨g, 3, none⟩ = some v3 ∧ w.cell? ⟨g, 4, none⟩ = some v4 ∧ (∀ j, w.frozen? ⟨g, j, none⟩ = false) := by
  refine ⟨?_, ?_, ?_, ?_, ?_, fun j => frozen_of_row w g j _ _ h⟩
  · rw [cell_of_row w g 0 _ _ (0, 0) h]; rfl
  · rw [cell_of_row w g 1 _ _ (0, 0) h]; rfl
  · rw [cell_of_row w g 2 _ _ (0, 0) h]; rfl
  · rw [cell_of_row w g 3 _ _ (0, 0) h]; rfl
  · rw [cell_of_row w g 4 _ _ (0, 0) h]; rfl
def GF (n W : Nat) (S : Nat → Prop) (w : World) (v : Value) : Prop :=
  ∃ (f : Fm) (va vp : Value), v = .agg #[.int .i64 f.op, .string f.a.n, va, .string f.v, vp] ∧ FmOwn 26 29 n S w f [.int .i64 f.op, .string f.a.n, va, .string f.v, vp] ∧ f.wt ≤ W
theorem GF.mono {n n' W W' : Nat} {S S' : Nat → Prop} {w w' : World} {v : Value} (h : GF n W S w v) (hn : n ≤ n') (hW : W ≤ W') (hs : SameOn S w w') (hS : ∀ b, S b → S' b) : GF n' W' S' w' v := by
  obtain ⟨t, va, vp, h1, h2, h3⟩ := h
  exact ⟨t, va, vp, h1, FmOwn.mono n n' t _ hn hs hS h2, Nat.le_trans h3 hW⟩
theorem GF.atom {n W : Nat} {S : Nat → Prop} {w : World} {op : Int} {v0 v1 : Value} (h : GT n W S w (.agg #[v0, v1])) (ho : -9223372036854775808 ≤ op ∧ op ≤ 9223372036854775807) : GF (n + 1) W S w (.agg #[.int .i64 op, v0, v1, .string ⟨#[]⟩, .slice none 0 0]) := by
  obtain ⟨t, va, h3, h4, h5⟩ := h
  obtain ⟨rfl, rfl⟩ : v0 = .string t.n ∧ v1 = va := by simpa using h3
  refine ⟨.mk op t ⟨#[]⟩ [], _, _, rfl, ⟨_, _, _, S, fun _ => False, rfl, ho, by decide, h4, OwnRow.nil _ _ _ _ _, fun b hb => ⟨hb, fun h => h⟩, fun _ h => h.elim⟩, ?_⟩
  have h0 : (⟨#[]⟩ : ByteArray).size = 0 := rfl
  simp only [Fm.wt, Fm.wts, List.length_nil, h0]; omega
theorem GF.plain {op : Int} (S : Nat → Prop) (w : World) (ho : -9223372036854775808 ≤ op ∧ op ≤ 9223372036854775807) : GF 2 0 S w (.agg #[.int .i64 op, .string ⟨#[]⟩, .slice none 0 0, .string ⟨#[]⟩, .slice none 0 0]) :=
  GF.atom (GT.leaf S w ⟨#[]⟩ (Nat.le_refl _) (by decide)) ho
theorem GF.one {n W W' : Nat} {S S' : Nat → Prop} {w : World} {v0 v1 v2 v3 v4 : Value} {op : Int} {x : ByteArray} {k : Nat} (h : GF n W S w (.agg #[v0, v1, v2, v3, v4])) (hk : w.heap.size = k) (ho : -9223372036854775808 ≤ op ∧ op ≤ 9223372036854775807) (hx : x.size ≤ maxLen) (hS : ∀ b, S b → b < k) (h1 : ∀ b, S b → S' b) (h2 : S' k) (h0 : 0 < n) (hW : x.size + 1 + W ≤ W') :
    GF (n + 1) W' S' (w.alloc (.cells #[v0, v1, v2, v3, v4] 29)) (.agg #[.int .i64 op, .string ⟨#[]⟩, .slice none 0 0, .string x, .slice (some ⟨k, 0, none⟩) 1 1]) := by
  obtain ⟨t, va, vp, h3, h4, h5⟩ := h
  obtain ⟨rfl, rfl, rfl, rfl, rfl⟩ : v0 = .int .i64 t.op ∧ v1 = .string t.a.n ∧ v2 = va ∧ v3 = .string t.v ∧ v4 = vp := by simpa using h3
  obtain ⟨n, rfl⟩ : ∃ n', n = n' + 1 := ⟨n - 1, by omega⟩
  refine ⟨.mk op (.mk ⟨#[]⟩ []) x [t], _, _, rfl, ⟨_, _, _, fun _ => False, S', rfl, ho, hx, ⟨_, rfl, by decide, OwnRow.nil _ _ _ _ _⟩, OwnRow.one' hk _ rfl (FmOwn.mono _ _ t _ (Nat.le_refl _) (SameOn.below ((Below.refl _ _).alloc (Nat.le_refl _) _)) (fun _ h => h) h4) hS h1 h2, fun b hb => hb.elim, fun b hb => hb⟩, ?_⟩
  have h0 : (⟨#[]⟩ : ByteArray).size = 0 := rfl
  simp only [Fm.wt, Fm.wts, Tm.wt, Tm.wts, List.length_nil, List.length_cons, h0]; omega
theorem GF.two {n W W' : Nat} {S T S' : Nat → Prop} {w : World} {v0 v1 v2 v3 v4 u0 u1 u2 u3 u4 : Value} {op : Int} {x : ByteArray} {k : Nat} (h : GF n W S w (.agg #[v0, v1, v2, v3, v4])) (hu : GF n W T w (.agg #[u0, u1, u2, u3, u4])) (hk : w.heap.size = k) (ho : -9223372036854775808 ≤ op ∧ op ≤ 9223372036854775807) (hx : x.size ≤ maxLen) (hS : ∀ b, S b → b < k) (hT : ∀ b, T b → b < k) (hST : ∀ b, S b → ¬ T b)
    (h1 : ∀ b, S b → S' b) (hT1 : ∀ b, T b → S' b) (h2 : S' k) (h0 : 0 < n) (hW : x.size + 2 + W + W ≤ W') :
    GF (n + 1) W' S' (w.alloc (.cells #[v0, v1, v2, v3, v4, u0, u1, u2, u3, u4] 29)) (.agg #[.int .i64 op, .string ⟨#[]⟩, .slice none 0 0, .string x, .slice (some ⟨k, 0, none⟩) 2 2]) := by
  obtain ⟨t, va, vp, h3, h4, h5⟩ := h
  obtain ⟨rfl, rfl, rfl, rfl, rfl⟩ : v0 = .int .i64 t.op ∧ v1 = .string t.a.n ∧ v2 = va ∧ v3 = .string t.v ∧ v4 = vp := by simpa using h3
  obtain ⟨t2, va2, vp2, h3, g4, g5⟩ := hu
  obtain ⟨rfl, rfl, rfl, rfl, rfl⟩ : u0 = .int .i64 t2.op ∧ u1 = .string t2.a.n ∧ u2 = va2 ∧ u3 = .string t2.v ∧ u4 = vp2 := by simpa using h3
  obtain ⟨n, rfl⟩ : ∃ n', n = n' + 1 := ⟨n - 1, by omega⟩
  refine ⟨.mk op (.mk ⟨#[]⟩ []) x [t, t2], _, _, rfl, ⟨_, _, _, fun _ => False, S', rfl, ho, hx, ⟨_, rfl, by decide, OwnRow.nil _ _ _ _ _⟩, OwnRow.two' hk [_, _, _, _, _] [_, _, _, _, _] _ rfl rfl rfl (FmOwn.mono _ _ t _ (Nat.le_refl _) (SameOn.below ((Below.refl _ _).alloc (Nat.le_refl _) _)) (fun _ h => h) h4) (FmOwn.mono _ _ t2 _ (Nat.le_refl _) (SameOn.below ((Below.refl _ _).alloc (Nat.le_refl _) _)) (fun _ h => h) g4) hS hT hST h1 hT1 h2, fun b hb => hb.elim, fun b hb => hb⟩, ?_⟩
  have h0 : (⟨#[]⟩ : ByteArray).size = 0 := rfl
  simp only [Fm.wt, Fm.wts, Tm.wt, Tm.wts, List.length_nil, List.length_cons, h0]; omega
theorem GF.form {n W : Nat} {S : Nat → Prop} {w : World} {v : Value} (h : GF n W S w v) : ∃ (op : Int) (s x : ByteArray) (p : Option Addr) (k c : Nat) (q : Option Addr) (j d : Nat), v = .agg #[.int .i64 op, .string s, .slice p k c, .string x, .slice q j d] ∧ s.size ≤ W ∧ k ≤ W ∧ x.size ≤ W ∧ j ≤ W := by
  obtain ⟨t, va, vp, rfl, h2, h3⟩ := h
  obtain ⟨p, c, q, d, -, -, rfl, -, rfl, -⟩ := h2.form
  refine ⟨_, _, _, _, _, _, _, _, _, rfl, ?_⟩
  cases t with
  | mk op a x ps => cases a; simp only [Fm.wt, Tm.wt, Fm.a, Tm.n, Tm.us, Fm.v, Fm.ps] at *; omega
def CodeIn (w : World) (v : Value) : Prop := ∃ code : List UInt8, code.length ≤ 1000000 ∧ ListAt (fun b => b < w.heap.size) w 1 (fun x cs => cs = [.int .u8 (x.toNat : Int)]) v code
theorem cur_new {w w1 : World} {v : Value} (h : CodeIn w v) (hb : Below w.heap.size w w1) : Cur (w1.alloc (.cells #[v, .int .i64 0, .int .u64 0] 40)) w1.heap.size 0 := by
  obtain ⟨code, h1, h2⟩ := h
  have hz := hb.size
  refine ⟨v, 0, 0, heap_alloc_new _ _, Nat.le_refl _, by omega, by omega, by omega, code, h1, ?_⟩
  exact (h2.mono (w' := w1.alloc _) (fun b hb' hlt => (hao w1 _ b (by omega)).trans (hb.block b hlt)) (fun b hb' => by omega) (fun _ _ _ h => h))
theorem among_lit (g m n b : Nat) (lo hi : Int) (W : World) (cs : Array Value) (t : TypeId) (hn : n = cs.size) (hb : b = W.heap.size) (h : Cur W g m) (hm : m + 2 ≤ 1000000000) (h0 : 0 < cs.size) (h1 : cs.size ≤ 1000000000) (hs : ∀ v ∈ cs, IsIn lo hi v) :
    Calls Tryz.prog 134 #[.pointer (some ⟨g, 0, none⟩), .slice (some ⟨b, 0, none⟩) n n] (W.alloc (.cells cs t)) (Step g m 2 (IsIn lo hi) (W.alloc (.cells cs t))) := by
  subst hn hb
  have hlt := h.lt
  exact among_any g m W.heap.size cs.size lo hi cs t (0, 0) _ (h.below ((Below.refl _ _).alloc (Nat.le_refl _) _)) hm (heap_alloc_new W _) (by omega) h0 h1 hs
def fmZ : Array Value := #[.int .i64 0, .string ⟨#[]⟩, .slice none 0 0, .string ⟨#[]⟩, .slice none 0 0]
theorem agg5_cells {w w' : World} {g k : Nat} {v0 v1 v2 v3 v4 : Value} {t : TypeId} (hg : (w.alloc (.cells #[v0, v1, v2, v3, v4] t)).grownBy w' (some g)) (hk : k = w.heap.size) (hne : k ≠ g) : w'.cell? ⟨k, 0, none⟩ = some v0 ∧ w'.cell? ⟨k, 1, none⟩ = some v1 ∧ w'.cell? ⟨k, 2, none⟩ = some v2 ∧ w'.cell? ⟨k, 3, none⟩ = some v3 ∧ w'.cell? ⟨k, 4, none⟩ = some v4 ∧ (∀ j, w'.frozen? ⟨k, j, none⟩ = false) := by
  subst hk
  exact row5_at ((hg.block w.heap.size (by simp) (by simpa using hne)).trans (heap_alloc_new w _))
set_option maxHeartbeats 6400000 in
theorem built_any (g : Nat) : ∀ (f m : Nat) (d : Int) (w : World), Cur w g m → m + 72 * 2 ^ f ≤ 1000000000 → -1000 ≤ d → d ≤ f + 1 → f ≤ 10 →
    Calls Tryz.prog 108 #[.pointer (some ⟨g, 0, none⟩), .int .i64 d] w (StepO g m (72 * 2 ^ f - 6) (fun w' v => GF (f + 5) (32 * 2 ^ f - 3) (NewB w w') w' v) w) := by
  intro f
  induction f with
  | zero =>
    intro m d w h hm hd0 hd1 hf
    have hlt := h.lt
    have H := Lib.hid h
    have hne : w.heap.size ≠ g := by omega
    clear h
    simp only [Nat.pow_zero, Nat.mul_one] at hm
    have hd : d ≤ 1 := by omega
    rw [show 72 * 2 ^ 0 - 6 = 66 from rfl, show 32 * 2 ^ 0 - 3 = 29 from rfl]
    go_enter Tryz.func108, Tryz.ntmps108
    go_wp2_with fail
    refine (one_any g m 16 _ (H.out.al _) (by omega) (by omega) (by omega)).mono ?_
    rintro e w1 ⟨_, rfl, ⟨y1, rfl⟩, hc1, hg1⟩
    have HC1 := Lib.hid hc1
    clear hc1
    have ⟨c1, f1⟩ := gcell hg1
    have hz1 := hg1.size
    (try simp at hz1)
    cases y1
    · go_wp2_with fail
      refine (atom_any g (m + 2) _ HC1.out (by omega)).mono ?_
      rintro e w2 ⟨_, rfl, hta, hc2, hg2⟩
      have HC2 := Lib.hid hc2
      clear hc2
      have ⟨c2, f2⟩ := gcell hg2
      have hz2 := hg2.size
      (try simp at hz2)
      obtain ⟨s, p, k, c, rfl, -⟩ := hta.form
      have ⟨r0, r1, r2, r3, r4, rf⟩ := agg5_cells (gr_trans hg1 hg2) rfl hne
      have HT := Lib.hid hta
      have z01 := bsz (show w.heap.size < w2.heap.size by omega)
      have HA := Lib.hid (gr_trans (gr_al (gr_refl w g) _) (gr_trans hg1 hg2))
      have HZ := Lib.hid (show w.heap.size < w1.heap.size ∧ w1.heap.size ≤ w2.heap.size by omega)
      clear hta
      (try clear hg1 c1 f1); (try clear hg2 c2 f2); (try clear hg3 c3 f3)
      go_wp2_with fail
      refine bodyPost_ret (v := .agg #[.int .i64 3, .string s, .slice p k c, .string ⟨#[]⟩, .slice none 0 0]) (by simp only [results, Tryz.results108]; go_simp) rfl ⟨_, rfl, GF.mono (GF.atom (HT.out.mono (Nat.le_refl _) (Nat.le_refl _) ((((((SameOn.refl _ _).sc ?_ _).sc ?_ _).sc ?_ _).sc ?_ _).sc ?_ _) (fun _ h => h)) (by omega)) (by omega) (by omega) (SameOn.refl _ _) ?_, ?_, ?_⟩
      all_goals first
        | exact (((((HC2.out.more (by omega) (by omega)).sc hlt _).sc hlt _).sc hlt _).sc hlt _).sc hlt _
        | exact gr_sc (gr_sc (gr_sc (gr_sc (gr_sc HA.out (.inr (Nat.le_refl _)) _) (.inr (Nat.le_refl _)) _) (.inr (Nat.le_refl _)) _) (.inr (Nat.le_refl _)) _) (.inr (Nat.le_refl _)) _
        | (intro b hb e; have := HZ.out; unfold NewB at hb; simp at e; omega)
        | (intro b hb; have := HZ.out; unfold NewB at hb ⊢; simp; omega)
    · go_wp2_with fail
      refine (pick_any g (m + 2) 2 _ HC1.out (by omega) (by omega) (by omega)).mono ?_
      rintro e w2 ⟨_, rfl, ⟨r, rfl, hr0, hr1⟩, hc2, hg2⟩
      have HC2 := Lib.hid hc2
      clear hc2
      have ⟨c2, f2⟩ := gcell hg2
      have hz2 := hg2.size
      (try simp at hz2)
      have ⟨r0, r1, r2, r3, r4, rf⟩ := agg5_cells (gr_trans hg1 hg2) rfl hne
      have z01 := bsz (show w.heap.size < w2.heap.size by omega)
      have HA := Lib.hid (gr_trans (gr_al (gr_refl w g) _) (gr_trans hg1 hg2))
      (try clear hg1 c1 f1); (try clear hg2 c2 f2); (try clear hg3 c3 f3)
      go_wp2_with fail
      refine bodyPost_ret (v := .agg #[.int .i64 (1 + r), .string ⟨#[]⟩, .slice none 0 0, .string ⟨#[]⟩, .slice none 0 0]) (by simp only [results, Tryz.results108]; go_simp) rfl ⟨_, rfl, GF.mono (GF.plain _ _ (by omega)) (by omega) (by omega) (SameOn.refl _ _) (fun _ h => h), ?_, ?_⟩
      · exact (((((HC2.out.more (by omega) (by omega)).sc hlt _).sc hlt _).sc hlt _).sc hlt _).sc hlt _
      · exact gr_sc (gr_sc (gr_sc (gr_sc (gr_sc HA.out (.inr (Nat.le_refl _)) _) (.inr (Nat.le_refl _)) _) (.inr (Nat.le_refl _)) _) (.inr (Nat.le_refl _)) _) (.inr (Nat.le_refl _)) _
  | succ f ih =>
    intro m d w h hm hd0 hd1 hf
    have hlt := h.lt
    have H := Lib.hid h
    have IH := Lib.hid ih
    have hne : w.heap.size ≠ g := by omega
    have hp2 : 2 ^ (f + 1) = 2 * 2 ^ f := by rw [Nat.pow_succ]; omega
    have hp3 : 1 ≤ 2 ^ f := Nat.one_le_two_pow
    have hp4 : 2 ^ f ≤ 2 ^ 10 := Nat.pow_le_pow_right (by omega) (by omega)
    rw [hp2] at hm ⊢
    clear h ih hp2
    generalize 2 ^ f = P at *
    by_cases hd : d ≤ 1
    · go_enter Tryz.func108, Tryz.ntmps108
      go_wp2_with fail
      refine (one_any g m 16 _ (H.out.al _) (by omega) (by omega) (by omega)).mono ?_
      rintro e w1 ⟨_, rfl, ⟨y1, rfl⟩, hc1, hg1⟩
      have HC1 := Lib.hid hc1
      clear hc1
      have ⟨c1, f1⟩ := gcell hg1
      have hz1 := hg1.size
      (try simp at hz1)
      cases y1
      · go_wp2_with fail
        refine (atom_any g (m + 2) _ HC1.out (by omega)).mono ?_
        rintro e w2 ⟨_, rfl, hta, hc2, hg2⟩
        have HC2 := Lib.hid hc2
        clear hc2
        have ⟨c2, f2⟩ := gcell hg2
        have hz2 := hg2.size
        (try simp at hz2)
        obtain ⟨s, p, k, c, rfl, -⟩ := hta.form
        have ⟨r0, r1, r2, r3, r4, rf⟩ := agg5_cells (gr_trans hg1 hg2) rfl hne
        have HT := Lib.hid hta
        have z01 := bsz (show w.heap.size < w2.heap.size by omega)
        have HA := Lib.hid (gr_trans (gr_al (gr_refl w g) _) (gr_trans hg1 hg2))
        have HZ := Lib.hid (show w.heap.size < w1.heap.size ∧ w1.heap.size ≤ w2.heap.size by omega)
        clear hta
        (try clear hg1 c1 f1); (try clear hg2 c2 f2); (try clear hg3 c3 f3)
        go_wp2_with fail
        refine bodyPost_ret (v := .agg #[.int .i64 3, .string s, .slice p k c, .string ⟨#[]⟩, .slice none 0 0]) (by simp only [results, Tryz.results108]; go_simp) rfl ⟨_, rfl, GF.mono (GF.atom (HT.out.mono (Nat.le_refl _) (Nat.le_refl _) ((((((SameOn.refl _ _).sc ?_ _).sc ?_ _).sc ?_ _).sc ?_ _).sc ?_ _) (fun _ h => h)) (by omega)) (by omega) (by omega) (SameOn.refl _ _) ?_, ?_, ?_⟩
        all_goals first
          | exact (((((HC2.out.more (by omega) (by omega)).sc hlt _).sc hlt _).sc hlt _).sc hlt _).sc hlt _
          | exact gr_sc (gr_sc (gr_sc (gr_sc (gr_sc HA.out (.inr (Nat.le_refl _)) _) (.inr (Nat.le_refl _)) _) (.inr (Nat.le_refl _)) _) (.inr (Nat.le_refl _)) _) (.inr (Nat.le_refl _)) _
          | (intro b hb e; have := HZ.out; unfold NewB at hb; simp at e; omega)
          | (intro b hb; have := HZ.out; unfold NewB at hb ⊢; simp; omega)
      · go_wp2_with fail
        refine (pick_any g (m + 2) 2 _ HC1.out (by omega) (by omega) (by omega)).mono ?_
        rintro e w2 ⟨_, rfl, ⟨r, rfl, hr0, hr1⟩, hc2, hg2⟩
        have HC2 := Lib.hid hc2
        clear hc2
        have ⟨c2, f2⟩ := gcell hg2
        have hz2 := hg2.size
        (try simp at hz2)
        have ⟨r0, r1, r2, r3, r4, rf⟩ := agg5_cells (gr_trans hg1 hg2) rfl hne
        have z01 := bsz (show w.heap.size < w2.heap.size by omega)
        have HA := Lib.hid (gr_trans (gr_al (gr_refl w g) _) (gr_trans hg1 hg2))
        (try clear hg1 c1 f1); (try clear hg2 c2 f2); (try clear hg3 c3 f3)
        go_wp2_with fail
        refine bodyPost_ret (v := .agg #[.int .i64 (1 + r), .string ⟨#[]⟩, .slice none 0 0, .string ⟨#[]⟩, .slice none 0 0]) (by simp only [results, Tryz.results108]; go_simp) rfl ⟨_, rfl, GF.mono (GF.plain _ _ (by omega)) (by omega) (by omega) (SameOn.refl _ _) (fun _ h => h), ?_, ?_⟩
        · exact (((((HC2.out.more (by omega) (by omega)).sc hlt _).sc hlt _).sc hlt _).sc hlt _).sc hlt _
        · exact gr_sc (gr_sc (gr_sc (gr_sc (gr_sc HA.out (.inr (Nat.le_refl _)) _) (.inr (Nat.le_refl _)) _) (.inr (Nat.le_refl _)) _) (.inr (Nat.le_refl _)) _) (.inr (Nat.le_refl _)) _
    · go_enter Tryz.func108, Tryz.ntmps108
      go_wp2_with fail
      refine (one_any g m 4 _ (H.out.al _) (by omega) (by omega) (by omega)).mono ?_
      rintro e w1 ⟨_, rfl, ⟨y1, rfl⟩, hc1, hg1⟩
      have HC1 := Lib.hid hc1
      clear hc1
      have ⟨c1, f1⟩ := gcell hg1
      have hz1 := hg1.size
      (try simp at hz1)
      cases y1
      · go_wp2_with fail
        refine (among_lit g (m + 2) 10 w1.heap.size 4 9 _ _ _ (by rfl) (by rfl) HC1.out (by omega) (by decide) (by decide) (by intro v hv; simp at hv; rcases hv with rfl | rfl | rfl | rfl | rfl | rfl | rfl | rfl | rfl | rfl <;> exact ⟨_, rfl, by decide, by decide⟩)).mono ?_
        rintro e w2 ⟨_, rfl, ⟨op, rfl, ho0, ho1⟩, hc2, hg2⟩
        have HC2 := Lib.hid hc2
        clear hc2
        have ⟨c2, f2⟩ := gcell hg2
        have hz2 := hg2.size
        (try simp at hz2)
        have hA2 := gr_trans (gr_al hg1 _) hg2
        clear hg1 c1 f1 hg2 c2 f2
        rcases (by omega : op = 4 ∨ op = 5 ∨ op = 6 ∨ op = 7 ∨ op = 8 ∨ op = 9) with rfl | rfl | rfl | rfl | rfl | rfl
        · go_wp2_with fail
          refine (IH.out (m + 2 + 2) (d - 1) _ HC2.out (by omega) (by omega) (by omega) (by omega)).mono ?_
          rintro e w3 ⟨_, rfl, ht3, hc3, hg3⟩
          have HC3 := Lib.hid hc3
          clear hc3
          have ⟨c3, f3⟩ := gcell hg3
          have hz3 := hg3.size
          (try simp at hz3)
          (try clear c3 f3)
          (try clear c4 f4)
          obtain ⟨o3, s3, x3, p3, k3, e3, q3, j3, d3, rfl, -⟩ := ht3.form
          have ⟨r0, r1, r2, r3, r4, rf⟩ := agg5_cells (gr_trans hA2 hg3) rfl hne
          have HT := Lib.hid ht3
          have z01 := bsz (show w.heap.size < w3.heap.size by omega)
          have HA := Lib.hid (gr_trans (gr_al (gr_refl w g) _) (gr_trans hA2 hg3))
          have HZ := Lib.hid (show w.heap.size < w2.heap.size ∧ w2.heap.size ≤ w3.heap.size by omega)
          have hxs : (⟨#[]⟩ : ByteArray).size ≤ 1 := by decide
          have hxm : (⟨#[]⟩ : ByteArray).size ≤ maxLen := by unfold maxLen; omega
          have HXS := Lib.hid (And.intro hxs hxm)
          clear ht3 hA2 hxs hxm
          (try clear hg3); (try clear hg4)
          go_wp2_with fail
          refine bodyPost_ret (v := .agg #[.int .i64 4, .string ⟨#[]⟩, .slice none 0 0, .string ⟨#[]⟩, .slice (some ⟨w3.heap.size, 0, none⟩) 1 1]) (by simp only [results, Tryz.results108]; go_simp) rfl ⟨_, rfl, GF.mono (GF.one (W' := 2 + (32 * P - 3)) (S := NewB w2 w3) (HT.out.mono (Nat.le_refl _) (Nat.le_refl _) ((((((SameOn.refl _ _).sc ?_ _).sc ?_ _).sc ?_ _).sc ?_ _).sc ?_ _) (fun _ h => h)) (by simp) (by omega) HXS.out.2 ?_ ?_ ?_ (by omega) (by have := HXS.out.1; omega)) (by omega) (by omega) (SameOn.refl _ _) (fun _ h => h), ?_, ?_⟩
          all_goals first
            | exact ((((((HC3.out.more (by omega) (by omega)).sc hlt _).sc hlt _).sc hlt _).sc hlt _).sc hlt _).al _
            | exact gr_al (gr_sc (gr_sc (gr_sc (gr_sc (gr_sc HA.out (.inr (Nat.le_refl _)) _) (.inr (Nat.le_refl _)) _) (.inr (Nat.le_refl _)) _) (.inr (Nat.le_refl _)) _) (.inr (Nat.le_refl _)) _) _
            | (intro b hb e; have := HZ.out; unfold NewB at hb; simp at e; omega)
            | (intro b hb; have := HZ.out; unfold NewB at hb ⊢; simp; omega)
            | (have := HZ.out; unfold NewB; simp; omega)
            | (intro b hb; exact hb.2)
        · go_wp2_with fail
          refine (IH.out (m + 2 + 2) (d - 1) _ HC2.out (by omega) (by omega) (by omega) (by omega)).mono ?_
          rintro e w3 ⟨_, rfl, ht3, hc3, hg3⟩
          have HC3 := Lib.hid hc3
          clear hc3
          have ⟨c3, f3⟩ := gcell hg3
          have hz3 := hg3.size
          (try simp at hz3)
          obtain ⟨o3, s3, x3, p3, k3, e3, q3, j3, d3, rfl, -⟩ := ht3.form
          have HT3 := Lib.hid ht3
          have hA3 := gr_trans hA2 hg3
          clear ht3 hA2 c3 f3
          go_wp2_with fail
          refine (IH.out (m + 2 + 2 + (72 * P - 6)) (d - 1) _ HC3.out (by omega) (by omega) (by omega) (by omega)).mono ?_
          rintro e w4 ⟨_, rfl, ht4, hc4, hg4⟩
          have HC4 := Lib.hid hc4
          clear hc4
          have ⟨c4, f4⟩ := gcell hg4
          have hz4 := hg4.size
          (try simp at hz4)
          obtain ⟨o4, s4, x4, p4, k4, e4, q4, j4, d4, rfl, -⟩ := ht4.form
          have ⟨r0, r1, r2, r3, r4, rf⟩ := agg5_cells (gr_trans hA3 hg4) rfl hne
          have HT3' := Lib.hid (HT3.out.mono (Nat.le_refl _) (Nat.le_refl _) (sameOn_grown hg4 (fun b hb => by have := hb.1; omega)) (fun _ h => h))
          have HT4 := Lib.hid ht4
          have z01 := bsz (show w.heap.size < w4.heap.size by omega)
          have HA := Lib.hid (gr_trans (gr_trans (gr_al (gr_refl w g) _) hA3) hg4)
          have HZ := Lib.hid (show w.heap.size < w2.heap.size ∧ w2.heap.size ≤ w3.heap.size ∧ w3.heap.size ≤ w4.heap.size by omega)
          clear hA3 hg3 hg4 c4 f4 HT3 ht4
          go_wp2_with fail
          refine bodyPost_ret (v := .agg #[.int .i64 5, .string ⟨#[]⟩, .slice none 0 0, .string ⟨#[]⟩, .slice (some ⟨w4.heap.size, 0, none⟩) 2 2]) (by simp only [results, Tryz.results108]; go_simp) rfl ⟨_, rfl, GF.mono (GF.two (x := ⟨#[]⟩) (W' := 2 + (32 * P - 3) + (32 * P - 3)) (S := NewB w2 w3) (T := NewB w3 w4) (HT3'.out.mono (Nat.le_refl _) (Nat.le_refl _) ((((((SameOn.refl _ _).sc ?_ _).sc ?_ _).sc ?_ _).sc ?_ _).sc ?_ _) (fun _ h => h)) (HT4.out.mono (Nat.le_refl _) (Nat.le_refl _) ((((((SameOn.refl _ _).sc ?_ _).sc ?_ _).sc ?_ _).sc ?_ _).sc ?_ _) (fun _ h => h)) (by simp) (by omega) (by decide) ?_ ?_ ?_ ?_ ?_ ?_ (by omega) (by show 0 + 2 + _ + _ ≤ _; omega)) (by omega) (by omega) (SameOn.refl _ _) (fun _ h => h), ?_, ?_⟩
          all_goals first
            | exact ((((((HC4.out.more (by omega) (by omega)).sc hlt _).sc hlt _).sc hlt _).sc hlt _).sc hlt _).al _
            | exact gr_al (gr_sc (gr_sc (gr_sc (gr_sc (gr_sc HA.out (.inr (Nat.le_refl _)) _) (.inr (Nat.le_refl _)) _) (.inr (Nat.le_refl _)) _) (.inr (Nat.le_refl _)) _) (.inr (Nat.le_refl _)) _) _
            | (intro b hb e; have := HZ.out; unfold NewB at hb; simp at e; omega)
            | (intro b hb; have := HZ.out; unfold NewB at hb ⊢; simp; omega)
            | (have := HZ.out; unfold NewB; simp; omega)
            | (intro b hb; exact hb.2)
            | (intro b hb; have := hb.2; have := HZ.out; omega)
            | (intro b hb hb'; have := hb.2; have := hb'.1; omega)
        · go_wp2_with fail
          refine (IH.out (m + 2 + 2) (d - 1) _ HC2.out (by omega) (by omega) (by omega) (by omega)).mono ?_
          rintro e w3 ⟨_, rfl, ht3, hc3, hg3⟩
          have HC3 := Lib.hid hc3
          clear hc3
          have ⟨c3, f3⟩ := gcell hg3
          have hz3 := hg3.size
          (try simp at hz3)
          obtain ⟨o3, s3, x3, p3, k3, e3, q3, j3, d3, rfl, -⟩ := ht3.form
          have HT3 := Lib.hid ht3
          have hA3 := gr_trans hA2 hg3
          clear ht3 hA2 c3 f3
          go_wp2_with fail
          refine (IH.out (m + 2 + 2 + (72 * P - 6)) (d - 1) _ HC3.out (by omega) (by omega) (by omega) (by omega)).mono ?_
          rintro e w4 ⟨_, rfl, ht4, hc4, hg4⟩
          have HC4 := Lib.hid hc4
          clear hc4
          have ⟨c4, f4⟩ := gcell hg4
          have hz4 := hg4.size
          (try simp at hz4)
          obtain ⟨o4, s4, x4, p4, k4, e4, q4, j4, d4, rfl, -⟩ := ht4.form
          have ⟨r0, r1, r2, r3, r4, rf⟩ := agg5_cells (gr_trans hA3 hg4) rfl hne
          have HT3' := Lib.hid (HT3.out.mono (Nat.le_refl _) (Nat.le_refl _) (sameOn_grown hg4 (fun b hb => by have := hb.1; omega)) (fun _ h => h))
          have HT4 := Lib.hid ht4
          have z01 := bsz (show w.heap.size < w4.heap.size by omega)
          have HA := Lib.hid (gr_trans (gr_trans (gr_al (gr_refl w g) _) hA3) hg4)
          have HZ := Lib.hid (show w.heap.size < w2.heap.size ∧ w2.heap.size ≤ w3.heap.size ∧ w3.heap.size ≤ w4.heap.size by omega)
          clear hA3 hg3 hg4 c4 f4 HT3 ht4
          go_wp2_with fail
          refine bodyPost_ret (v := .agg #[.int .i64 6, .string ⟨#[]⟩, .slice none 0 0, .string ⟨#[]⟩, .slice (some ⟨w4.heap.size, 0, none⟩) 2 2]) (by simp only [results, Tryz.results108]; go_simp) rfl ⟨_, rfl, GF.mono (GF.two (x := ⟨#[]⟩) (W' := 2 + (32 * P - 3) + (32 * P - 3)) (S := NewB w2 w3) (T := NewB w3 w4) (HT3'.out.mono (Nat.le_refl _) (Nat.le_refl _) ((((((SameOn.refl _ _).sc ?_ _).sc ?_ _).sc ?_ _).sc ?_ _).sc ?_ _) (fun _ h => h)) (HT4.out.mono (Nat.le_refl _) (Nat.le_refl _) ((((((SameOn.refl _ _).sc ?_ _).sc ?_ _).sc ?_ _).sc ?_ _).sc ?_ _) (fun _ h => h)) (by simp) (by omega) (by decide) ?_ ?_ ?_ ?_ ?_ ?_ (by omega) (by show 0 + 2 + _ + _ ≤ _; omega)) (by omega) (by omega) (SameOn.refl _ _) (fun _ h => h), ?_, ?_⟩
          all_goals first
            | exact ((((((HC4.out.more (by omega) (by omega)).sc hlt _).sc hlt _).sc hlt _).sc hlt _).sc hlt _).al _
            | exact gr_al (gr_sc (gr_sc (gr_sc (gr_sc (gr_sc HA.out (.inr (Nat.le_refl _)) _) (.inr (Nat.le_refl _)) _) (.inr (Nat.le_refl _)) _) (.inr (Nat.le_refl _)) _) (.inr (Nat.le_refl _)) _) _
            | (intro b hb e; have := HZ.out; unfold NewB at hb; simp at e; omega)
            | (intro b hb; have := HZ.out; unfold NewB at hb ⊢; simp; omega)
            | (have := HZ.out; unfold NewB; simp; omega)
            | (intro b hb; exact hb.2)
            | (intro b hb; have := hb.2; have := HZ.out; omega)
            | (intro b hb hb'; have := hb.2; have := hb'.1; omega)
        · go_wp2_with fail
          refine (IH.out (m + 2 + 2) (d - 1) _ HC2.out (by omega) (by omega) (by omega) (by omega)).mono ?_
          rintro e w3 ⟨_, rfl, ht3, hc3, hg3⟩
          have HC3 := Lib.hid hc3
          clear hc3
          have ⟨c3, f3⟩ := gcell hg3
          have hz3 := hg3.size
          (try simp at hz3)
          obtain ⟨o3, s3, x3, p3, k3, e3, q3, j3, d3, rfl, -⟩ := ht3.form
          have HT3 := Lib.hid ht3
          have hA3 := gr_trans hA2 hg3
          clear ht3 hA2 c3 f3
          go_wp2_with fail
          refine (IH.out (m + 2 + 2 + (72 * P - 6)) (d - 1) _ HC3.out (by omega) (by omega) (by omega) (by omega)).mono ?_
          rintro e w4 ⟨_, rfl, ht4, hc4, hg4⟩
          have HC4 := Lib.hid hc4
          clear hc4
          have ⟨c4, f4⟩ := gcell hg4
          have hz4 := hg4.size
          (try simp at hz4)
          obtain ⟨o4, s4, x4, p4, k4, e4, q4, j4, d4, rfl, -⟩ := ht4.form
          have ⟨r0, r1, r2, r3, r4, rf⟩ := agg5_cells (gr_trans hA3 hg4) rfl hne
          have HT3' := Lib.hid (HT3.out.mono (Nat.le_refl _) (Nat.le_refl _) (sameOn_grown hg4 (fun b hb => by have := hb.1; omega)) (fun _ h => h))
          have HT4 := Lib.hid ht4
          have z01 := bsz (show w.heap.size < w4.heap.size by omega)
          have HA := Lib.hid (gr_trans (gr_trans (gr_al (gr_refl w g) _) hA3) hg4)
          have HZ := Lib.hid (show w.heap.size < w2.heap.size ∧ w2.heap.size ≤ w3.heap.size ∧ w3.heap.size ≤ w4.heap.size by omega)
          clear hA3 hg3 hg4 c4 f4 HT3 ht4
          go_wp2_with fail
          refine bodyPost_ret (v := .agg #[.int .i64 7, .string ⟨#[]⟩, .slice none 0 0, .string ⟨#[]⟩, .slice (some ⟨w4.heap.size, 0, none⟩) 2 2]) (by simp only [results, Tryz.results108]; go_simp) rfl ⟨_, rfl, GF.mono (GF.two (x := ⟨#[]⟩) (W' := 2 + (32 * P - 3) + (32 * P - 3)) (S := NewB w2 w3) (T := NewB w3 w4) (HT3'.out.mono (Nat.le_refl _) (Nat.le_refl _) ((((((SameOn.refl _ _).sc ?_ _).sc ?_ _).sc ?_ _).sc ?_ _).sc ?_ _) (fun _ h => h)) (HT4.out.mono (Nat.le_refl _) (Nat.le_refl _) ((((((SameOn.refl _ _).sc ?_ _).sc ?_ _).sc ?_ _).sc ?_ _).sc ?_ _) (fun _ h => h)) (by simp) (by omega) (by decide) ?_ ?_ ?_ ?_ ?_ ?_ (by omega) (by show 0 + 2 + _ + _ ≤ _; omega)) (by omega) (by omega) (SameOn.refl _ _) (fun _ h => h), ?_, ?_⟩
          all_goals first
            | exact ((((((HC4.out.more (by omega) (by omega)).sc hlt _).sc hlt _).sc hlt _).sc hlt _).sc hlt _).al _
            | exact gr_al (gr_sc (gr_sc (gr_sc (gr_sc (gr_sc HA.out (.inr (Nat.le_refl _)) _) (.inr (Nat.le_refl _)) _) (.inr (Nat.le_refl _)) _) (.inr (Nat.le_refl _)) _) (.inr (Nat.le_refl _)) _) _
            | (intro b hb e; have := HZ.out; unfold NewB at hb; simp at e; omega)
            | (intro b hb; have := HZ.out; unfold NewB at hb ⊢; simp; omega)
            | (have := HZ.out; unfold NewB; simp; omega)
            | (intro b hb; exact hb.2)
            | (intro b hb; have := hb.2; have := HZ.out; omega)
            | (intro b hb hb'; have := hb.2; have := hb'.1; omega)
        · go_wp2_with fail
          refine (of_lit g (m + 2 + 2) 1 4 w2.heap.size _ _ _ (by rfl) (by rfl) HC2.out (by omega) (by decide) (by decide) (by intro v hv; simp at hv; rcases hv with rfl | rfl | rfl | rfl <;> exact ⟨_, rfl, by decide⟩)).mono ?_
          rintro e w3 ⟨_, rfl, ⟨x, rfl, hx⟩, hc3, hg3⟩
          have HC3 := Lib.hid hc3
          clear hc3
          have ⟨c3, f3⟩ := gcell hg3
          have hz3 := hg3.size
          (try simp at hz3)
          replace hA2 := gr_trans (gr_al hA2 _) hg3
          clear hg3 c3 f3
          go_wp2_with fail
          refine (IH.out (m + 2 + 2 + 2) (d - 1) _ HC3.out (by omega) (by omega) (by omega) (by omega)).mono ?_
          rintro e w4 ⟨_, rfl, ht3, hc4, hg4⟩
          have HC4 := Lib.hid hc4
          clear hc4
          have ⟨c4, f4⟩ := gcell hg4
          have hz4 := hg4.size
          (try simp at hz4)
          (try clear c3 f3)
          (try clear c4 f4)
          obtain ⟨o3, s3, x3, p3, k3, e3, q3, j3, d3, rfl, -⟩ := ht3.form
          have ⟨r0, r1, r2, r3, r4, rf⟩ := agg5_cells (gr_trans hA2 hg4) rfl hne
          have HT := Lib.hid ht3
          have z01 := bsz (show w.heap.size < w4.heap.size by omega)
          have HA := Lib.hid (gr_trans (gr_al (gr_refl w g) _) (gr_trans hA2 hg4))
          have HZ := Lib.hid (show w.heap.size < w3.heap.size ∧ w3.heap.size ≤ w4.heap.size by omega)
          have hxs : (x : ByteArray).size ≤ 1 := hx
          have hxm : (x : ByteArray).size ≤ maxLen := by unfold maxLen; omega
          have HXS := Lib.hid (And.intro hxs hxm)
          clear ht3 hA2 hxs hxm
          (try clear hg3); (try clear hg4)
          go_wp2_with fail
          refine bodyPost_ret (v := .agg #[.int .i64 8, .string ⟨#[]⟩, .slice none 0 0, .string x, .slice (some ⟨w4.heap.size, 0, none⟩) 1 1]) (by simp only [results, Tryz.results108]; go_simp) rfl ⟨_, rfl, GF.mono (GF.one (W' := 2 + (32 * P - 3)) (S := NewB w3 w4) (HT.out.mono (Nat.le_refl _) (Nat.le_refl _) ((((((SameOn.refl _ _).sc ?_ _).sc ?_ _).sc ?_ _).sc ?_ _).sc ?_ _) (fun _ h => h)) (by simp) (by omega) HXS.out.2 ?_ ?_ ?_ (by omega) (by have := HXS.out.1; omega)) (by omega) (by omega) (SameOn.refl _ _) (fun _ h => h), ?_, ?_⟩
          all_goals first
            | exact ((((((HC4.out.more (by omega) (by omega)).sc hlt _).sc hlt _).sc hlt _).sc hlt _).sc hlt _).al _
            | exact gr_al (gr_sc (gr_sc (gr_sc (gr_sc (gr_sc HA.out (.inr (Nat.le_refl _)) _) (.inr (Nat.le_refl _)) _) (.inr (Nat.le_refl _)) _) (.inr (Nat.le_refl _)) _) (.inr (Nat.le_refl _)) _) _
            | (intro b hb e; have := HZ.out; unfold NewB at hb; simp at e; omega)
            | (intro b hb; have := HZ.out; unfold NewB at hb ⊢; simp; omega)
            | (have := HZ.out; unfold NewB; simp; omega)
            | (intro b hb; exact hb.2)
        · go_wp2_with fail
          refine (of_lit g (m + 2 + 2) 1 4 w2.heap.size _ _ _ (by rfl) (by rfl) HC2.out (by omega) (by decide) (by decide) (by intro v hv; simp at hv; rcases hv with rfl | rfl | rfl | rfl <;> exact ⟨_, rfl, by decide⟩)).mono ?_
          rintro e w3 ⟨_, rfl, ⟨x, rfl, hx⟩, hc3, hg3⟩
          have HC3 := Lib.hid hc3
          clear hc3
          have ⟨c3, f3⟩ := gcell hg3
          have hz3 := hg3.size
          (try simp at hz3)
          replace hA2 := gr_trans (gr_al hA2 _) hg3
          clear hg3 c3 f3
          go_wp2_with fail
          refine (IH.out (m + 2 + 2 + 2) (d - 1) _ HC3.out (by omega) (by omega) (by omega) (by omega)).mono ?_
          rintro e w4 ⟨_, rfl, ht3, hc4, hg4⟩
          have HC4 := Lib.hid hc4
          clear hc4
          have ⟨c4, f4⟩ := gcell hg4
          have hz4 := hg4.size
          (try simp at hz4)
          (try clear c3 f3)
          (try clear c4 f4)
          obtain ⟨o3, s3, x3, p3, k3, e3, q3, j3, d3, rfl, -⟩ := ht3.form
          have ⟨r0, r1, r2, r3, r4, rf⟩ := agg5_cells (gr_trans hA2 hg4) rfl hne
          have HT := Lib.hid ht3
          have z01 := bsz (show w.heap.size < w4.heap.size by omega)
          have HA := Lib.hid (gr_trans (gr_al (gr_refl w g) _) (gr_trans hA2 hg4))
          have HZ := Lib.hid (show w.heap.size < w3.heap.size ∧ w3.heap.size ≤ w4.heap.size by omega)
          have hxs : (x : ByteArray).size ≤ 1 := hx
          have hxm : (x : ByteArray).size ≤ maxLen := by unfold maxLen; omega
          have HXS := Lib.hid (And.intro hxs hxm)
          clear ht3 hA2 hxs hxm
          (try clear hg3); (try clear hg4)
          go_wp2_with fail
          refine bodyPost_ret (v := .agg #[.int .i64 9, .string ⟨#[]⟩, .slice none 0 0, .string x, .slice (some ⟨w4.heap.size, 0, none⟩) 1 1]) (by simp only [results, Tryz.results108]; go_simp) rfl ⟨_, rfl, GF.mono (GF.one (W' := 2 + (32 * P - 3)) (S := NewB w3 w4) (HT.out.mono (Nat.le_refl _) (Nat.le_refl _) ((((((SameOn.refl _ _).sc ?_ _).sc ?_ _).sc ?_ _).sc ?_ _).sc ?_ _) (fun _ h => h)) (by simp) (by omega) HXS.out.2 ?_ ?_ ?_ (by omega) (by have := HXS.out.1; omega)) (by omega) (by omega) (SameOn.refl _ _) (fun _ h => h), ?_, ?_⟩
          all_goals first
            | exact ((((((HC4.out.more (by omega) (by omega)).sc hlt _).sc hlt _).sc hlt _).sc hlt _).sc hlt _).al _
            | exact gr_al (gr_sc (gr_sc (gr_sc (gr_sc (gr_sc HA.out (.inr (Nat.le_refl _)) _) (.inr (Nat.le_refl _)) _) (.inr (Nat.le_refl _)) _) (.inr (Nat.le_refl _)) _) (.inr (Nat.le_refl _)) _) _
            | (intro b hb e; have := HZ.out; unfold NewB at hb; simp at e; omega)
            | (intro b hb; have := HZ.out; unfold NewB at hb ⊢; simp; omega)
            | (have := HZ.out; unfold NewB; simp; omega)
            | (intro b hb; exact hb.2)
      · go_wp2_with fail
        refine (one_any g (m + 2) 16 _ HC1.out (by omega) (by omega) (by omega)).mono ?_
        rintro e w2 ⟨_, rfl, ⟨y2, rfl⟩, hc2, hg2⟩
        have HC2 := Lib.hid hc2
        clear hc2
        have ⟨c2, f2⟩ := gcell hg2
        have hz2 := hg2.size
        (try simp at hz2)
        cases y2
        · go_wp2_with fail
          refine (atom_any g (m + 2 + 2) _ HC2.out (by omega)).mono ?_
          rintro e w3 ⟨_, rfl, hta, hc3, hg3⟩
          have HC3 := Lib.hid hc3
          clear hc3
          have ⟨c3, f3⟩ := gcell hg3
          have hz3 := hg3.size
          (try simp at hz3)
          obtain ⟨s, p, k, c, rfl, -⟩ := hta.form
          have ⟨r0, r1, r2, r3, r4, rf⟩ := agg5_cells (gr_trans (gr_trans hg1 hg2) hg3) rfl hne
          have HT := Lib.hid hta
          have z01 := bsz (show w.heap.size < w3.heap.size by omega)
          have HA := Lib.hid (gr_trans (gr_al (gr_refl w g) _) (gr_trans (gr_trans hg1 hg2) hg3))
          have HZ := Lib.hid (show w.heap.size < w2.heap.size ∧ w2.heap.size ≤ w3.heap.size by omega)
          clear hta
          (try clear hg1 c1 f1); (try clear hg2 c2 f2); (try clear hg3 c3 f3)
          go_wp2_with fail
          refine bodyPost_ret (v := .agg #[.int .i64 3, .string s, .slice p k c, .string ⟨#[]⟩, .slice none 0 0]) (by simp only [results, Tryz.results108]; go_simp) rfl ⟨_, rfl, GF.mono (GF.atom (HT.out.mono (Nat.le_refl _) (Nat.le_refl _) ((((((SameOn.refl _ _).sc ?_ _).sc ?_ _).sc ?_ _).sc ?_ _).sc ?_ _) (fun _ h => h)) (by omega)) (by omega) (by omega) (SameOn.refl _ _) ?_, ?_, ?_⟩
          all_goals first
            | exact (((((HC3.out.more (by omega) (by omega)).sc hlt _).sc hlt _).sc hlt _).sc hlt _).sc hlt _
            | exact gr_sc (gr_sc (gr_sc (gr_sc (gr_sc HA.out (.inr (Nat.le_refl _)) _) (.inr (Nat.le_refl _)) _) (.inr (Nat.le_refl _)) _) (.inr (Nat.le_refl _)) _) (.inr (Nat.le_refl _)) _
            | (intro b hb e; have := HZ.out; unfold NewB at hb; simp at e; omega)
            | (intro b hb; have := HZ.out; unfold NewB at hb ⊢; simp; omega)
        · go_wp2_with fail
          refine (pick_any g (m + 2 + 2) 2 _ HC2.out (by omega) (by omega) (by omega)).mono ?_
          rintro e w3 ⟨_, rfl, ⟨r, rfl, hr0, hr1⟩, hc3, hg3⟩
          have HC3 := Lib.hid hc3
          clear hc3
          have ⟨c3, f3⟩ := gcell hg3
          have hz3 := hg3.size
          (try simp at hz3)
          have ⟨r0, r1, r2, r3, r4, rf⟩ := agg5_cells (gr_trans (gr_trans hg1 hg2) hg3) rfl hne
          have z01 := bsz (show w.heap.size < w3.heap.size by omega)
          have HA := Lib.hid (gr_trans (gr_al (gr_refl w g) _) (gr_trans (gr_trans hg1 hg2) hg3))
          (try clear hg1 c1 f1); (try clear hg2 c2 f2); (try clear hg3 c3 f3)
          go_wp2_with fail
          refine bodyPost_ret (v := .agg #[.int .i64 (1 + r), .string ⟨#[]⟩, .slice none 0 0, .string ⟨#[]⟩, .slice none 0 0]) (by simp only [results, Tryz.results108]; go_simp) rfl ⟨_, rfl, GF.mono (GF.plain _ _ (by omega)) (by omega) (by omega) (SameOn.refl _ _) (fun _ h => h), ?_, ?_⟩
          · exact (((((HC3.out.more (by omega) (by omega)).sc hlt _).sc hlt _).sc hlt _).sc hlt _).sc hlt _
          · exact gr_sc (gr_sc (gr_sc (gr_sc (gr_sc HA.out (.inr (Nat.le_refl _)) _) (.inr (Nat.le_refl _)) _) (.inr (Nat.le_refl _)) _) (.inr (Nat.le_refl _)) _) (.inr (Nat.le_refl _)) _
end Go.Proofs.YtmbkjdkjemlfkaaGreatDoor
