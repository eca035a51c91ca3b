import Derived.Test.YtmbkjdkjemlfkaaGreatDoorDfPart29
namespace Go.Proofs.YtmbkjdkjemlfkaaGreatDoor
set_option maxRecDepth 100000
open Go.RowKit
def St0 : Nat → (Nat → Prop) → World → Prop := fun _ X _ => ∀ b, ¬ X b
theorem St0.ok : StOk St0 := ⟨fun _ _ _ h b hb => absurd hb (h b), fun _ _ _ _ h _ => h⟩
theorem MdQ.of {n : Nat} {t : Fm} {k : Nat} {w w' : World} {e : Ending} (h : MapQ St0 n t k (fun _ => False) w e w') : MdQ (n + 1) t w e w' := by
  obtain ⟨y, X', h1, h2, h3, h4, h5, h6⟩ := h
  exact ⟨y, h1, h2, FmAt.mono (SameOn.refl _ _) (fun b hb => ⟨hb.1, hb.2.1⟩) _ _ _ _ (Nat.le_refl _) h3, h6.below (fun b e => e)⟩
theorem MdQ.step {n m : Nat} {t : Fm} {res : Nat → Fm} {k : Nat} {X : Nat → Prop} {w w' : World} {e : Ending} (hnm : n ≤ m) (h : MdQ n t w e w') (ht : t = res k) (_hX : ∀ b, ¬ X b) : StepQ St0 m res k X w e w' := by
  obtain ⟨y, h1, h2, h3, h4⟩ := h
  exact ⟨y, fun _ => False, h1, h2.trans ht, FmAt.mono (SameOn.refl _ _) (fun b hb => ⟨hb.1, hb.2, fun e => e⟩) _ _ _ _ hnm h3, fun b e => e, fun b e => e.elim, Kp.of_below h4⟩
theorem range_get {α : Type} (f : Fm → α) (ps : List Fm) (d : Fm) : (List.range ps.length).map (fun k => f (ps.getD k d)) = ps.map f := by
  apply List.ext_getElem
  · simp
  · intro i h1 h2
    simp only [List.length_map, List.length_range] at h1
    simp [h1]
theorem range_self (ps : List Fm) : (List.range ps.length).map (fun k => ps.getD k fmZero) = ps := by
  have := range_get (fun x => x) ps fmZero
  simpa using this
theorem insFs_map (s : ByteArray → Option Tm) : ∀ ps : List Fm, insFs s ps = ps.map (insF s)
  | [] => by rw [insFs]; rfl
  | f :: fs => by rw [insFs, insFs_map s fs, List.map_cons]
set_option maxHeartbeats 3200000 in
theorem copyFormula_any (base : Nat) : ∀ (m : Nat) (t : Fm) (v0 v1 v2 v3 v4 : Value) (w : World), FmAt (fun b => b < base) m w t [v0, v1, v2, v3, v4] → base ≤ w.heap.size → t.wt ≤ 1000000 →
    Calls Tryz.prog 24 #[.agg #[v0, v1, v2, v3, v4]] w (MdQ m t w) := by
  intro m
  induction m with
  | zero => intro t v0 v1 v2 v3 v4 w h; exact h.elim
  | succ m ih =>
    rintro ⟨op, a, xv, ps⟩ v0 v1 v2 v3 v4 w h hb hw
    obtain ⟨p, pc, q, d, rfl, rfl, rfl, rfl, rfl, -⟩ := h.form
    simp only [Fm.op, Fm.a, Fm.v, Fm.ps] at h ⊢
    have HT := Lib.hid h
    have IH := Lib.hid ih
    obtain ⟨W, hW⟩ : ∃ W : World, W = (w.alloc (.cells #[.int .i64 op, .string a.n, .slice p a.us.length pc, .string xv, .slice q ps.length d] 29)).alloc (.cells #[.int .i64 0, .string ⟨#[]⟩, .slice none 0 0, .string ⟨#[]⟩, .slice none 0 0] 29) := ⟨_, rfl⟩
    obtain ⟨hsW, hbW, A0, A1⟩ := two_new hW
    obtain ⟨a0, a1, a2, a3, a4⟩ := five_at A0
    have za := bsz (show w.heap.size < W.heap.size by omega)
    have HR0 := Lib.hid A1
    have HBW := Lib.hid hbW
    have HMP := Lib.hid ((mapParts_any 24 #[] (fun _ _ => rfl) St0 St0.ok m m (Nat.le_refl _) (fun k => ps.getD k fmZero) op a xv ps _ _ _ _ _ W (fun _ => False) (fun _ _ h => h) (FmAt.below hbW h) hw (fun b e => e)
      (fun k hk X wr u0 u1 u2 u3 u4 hst hkp hxx hx => by
        have hX : ∀ b, ¬ X b := hst
        refine ((ih ps[k] u0 u1 u2 u3 u4 wr hx (by have := hkp.size; omega) (by have := Fm.wts_le ps hk; rw [Fm.wt] at hw; omega)).mono fun e w' h => h.step (Nat.le_refl _) (by simp [hk]) hX))).mono fun e w' h => MdQ.of h)
    clear h ih A0 A1 hbW
    go_enter Tryz.func24, Tryz.ntmps24
    go_wp2_with fail
    rw [← hW]
    clear hW
    refine HMP.out.mono ?_
    rintro e w1 ⟨y, rfl, hy, h1, h2⟩
    rw [range_self] at hy
    clear a0 a1 a2 a3 a4 za
    have HRB := Lib.hid ((h2.block (w.heap.size + 1) (by omega)).trans HR0.out)
    obtain ⟨r0, r1, r2, r3, r4⟩ := five_at HRB.out
    have rf : ∀ j, w1.frozen? ⟨w.heap.size + 1, j, none⟩ = false := fun j => frozen_of_row w1 _ j _ _ HRB.out
    have zr := bsz (blk_lt HRB.out)
    have H1 := Lib.hid h1
    have HYF := Lib.hid hy
    have HB1 := Lib.hid (Below.step HBW.out h2)
    have hz1 := h2.size
    clear h1 h2 hy
    rw [show y.cs.toArray = #[.int .i64 y.f.op, .string y.f.a.n, .slice y.p y.f.a.us.length y.c, .string y.f.v, .slice y.q y.f.ps.length y.d] from rfl]
    go_wp2
    refine bodyPost_ret (v := .agg #[.int .i64 y.f.op, .string y.f.a.n, .slice y.p y.f.a.us.length y.c, .string y.f.v, .slice y.q y.f.ps.length y.d]) (by simp only [results, Tryz.results24]; go_simp) rfl ⟨y, rfl, HYF.out, FmAt.mono ((((((SameOn.refl _ _).sc ?_ _).sc ?_ _).sc ?_ _).sc ?_ _).sc ?_ _) (fun b hb => ⟨by omega, by simp; omega⟩) _ _ _ _ (by omega) H1.out, ?_⟩
    · intro b hb e; simp at e; omega
    · intro b hb e; simp at e; omega
    · intro b hb e; simp at e; omega
    · intro b hb e; simp at e; omega
    · intro b hb e; simp at e; omega
    · have hk := HB1.out
      exact bel
set_option maxHeartbeats 3200000 in
theorem instance1_of (base _M g _nn : Nat) (L : List (ByteArray × TC)) (n z : Nat) (t : Fm) (u0 u1 u2 u3 u4 : Value) (wr : World) (hx : ∃ m, FmAt (fun b => b < base) m wr t [u0, u1, u2, u3, u4]) (hc : wr.heap[z]? = some (.cells #[.map (some g)] 86 (0, 0)))
    (H : ∀ W : World, Below wr.heap.size wr W → Calls Tryz.prog 55 #[.agg #[u0, u1, u2, u3, u4], .map (some g)] W (MdQ n (insF (lookT L) t) W)) :
    Calls Tryz.prog 83 #[.agg #[u0, u1, u2, u3, u4], .pointer (some ⟨z, 0, none⟩)] wr (MdQ n (insF (lookT L) t) wr) := by
  obtain ⟨m, hx⟩ := hx
  obtain ⟨p, pc, q, d, rfl, rfl, rfl, rfl, rfl, -⟩ := hx.form
  obtain ⟨W, hW⟩ : ∃ W : World, W = (wr.alloc (.cells #[.int .i64 t.op, .string t.a.n, .slice p t.a.us.length pc, .string t.v, .slice q t.ps.length d] 29)).alloc (.cells #[.int .i64 0, .string ⟨#[]⟩, .slice none 0 0, .string ⟨#[]⟩, .slice none 0 0] 29) := ⟨_, rfl⟩
  obtain ⟨hsW, hbW, A0, A1⟩ := two_new hW
  obtain ⟨a0, a1, a2, a3, a4⟩ := five_at A0
  have za := bsz (show wr.heap.size < W.heap.size by omega)
  have HR0 := Lib.hid A1
  have HBW := Lib.hid hbW
  have hzl := blk_lt hc
  have c0 : wr.cell? ⟨z, 0, none⟩ = some (.map (some g)) := by rw [cell_of_row wr z 0 _ _ (0, 0) hc]; rfl
  have zc := bsz hzl
  have HH := Lib.hid H
  clear hx A0 A1 hbW hc H hzl
  go_enter Tryz.func83, Tryz.ntmps83
  go_wp2_with fail
  rw [← hW]
  clear hW
  refine (HH.out W HBW.out).mono ?_
  rintro e w1 ⟨y, rfl, hy, h1, h2⟩
  clear a0 a1 a2 a3 a4 za c0 zc
  have HRB := Lib.hid ((h2.block (wr.heap.size + 1) (by omega)).trans HR0.out)
  obtain ⟨r0, r1, r2, r3, r4⟩ := five_at HRB.out
  have rf : ∀ j, w1.frozen? ⟨wr.heap.size + 1, j, none⟩ = false := fun j => frozen_of_row w1 _ j _ _ HRB.out
  have zr := bsz (blk_lt HRB.out)
  have H1 := Lib.hid h1
  have HYF := Lib.hid hy
  have HB1 := Lib.hid (Below.step HBW.out h2)
  have hz1 := h2.size
  clear h1 h2 hy
  rw [show y.cs.toArray = #[.int .i64 y.f.op, .string y.f.a.n, .slice y.p y.f.a.us.length y.c, .string y.f.v, .slice y.q y.f.ps.length y.d] from rfl]
  go_wp2
  refine bodyPost_ret (v := .agg #[.int .i64 y.f.op, .string y.f.a.n, .slice y.p y.f.a.us.length y.c, .string y.f.v, .slice y.q y.f.ps.length y.d]) (by simp only [results, Tryz.results83]; go_simp) rfl ⟨y, rfl, HYF.out, FmAt.mono ((((((SameOn.refl _ _).sc ?_ _).sc ?_ _).sc ?_ _).sc ?_ _).sc ?_ _) (fun b hb => ⟨by omega, by simp; omega⟩) _ _ _ _ (by omega) H1.out, ?_⟩
  · intro b hb e; simp at e; omega
  · intro b hb e; simp at e; omega
  · intro b hb e; simp at e; omega
  · intro b hb e; simp at e; omega
  · intro b hb e; simp at e; omega
  · have hk := HB1.out
    exact bel
set_option maxHeartbeats 3200000 in
theorem instance_any (base M g nn : Nat) (L : List (ByteArray × TC)) : ∀ (m : Nat) (t : Fm) (v0 v1 v2 v3 v4 : Value) (w : World), FmAt (fun b => b < base) m w t [v0, v1, v2, v3, v4] → base ≤ w.heap.size → MapOk base M g nn L w → t.wt ≤ 1000000 →
    Calls Tryz.prog 55 #[.agg #[v0, v1, v2, v3, v4], .map (some g)] w (MdQ (m + M) (insF (lookT L) t) w) := by
  intro m
  induction m with
  | zero => intro t v0 v1 v2 v3 v4 w h; exact h.elim
  | succ m ih =>
    rintro ⟨op, a, xv, ps⟩ v0 v1 v2 v3 v4 w h hb hmo hw
    obtain ⟨p, pc, q, d, rfl, rfl, rfl, rfl, rfl, -⟩ := h.form
    simp only [Fm.op, Fm.a, Fm.v, Fm.ps] at h ⊢
    have HT := Lib.hid h
    have HMO := Lib.hid hmo
    obtain ⟨W, hW⟩ : ∃ W : World, W = ((w.alloc (.cells #[.int .i64 op, .string a.n, .slice p a.us.length pc, .string xv, .slice q ps.length d] 29)).alloc (.cells #[.map (some g)] 86)).alloc (.cells #[.int .i64 0, .string ⟨#[]⟩, .slice none 0 0, .string ⟨#[]⟩, .slice none 0 0] 29) := ⟨_, rfl⟩
    have hsW : W.heap.size = w.heap.size + 3 := by rw [hW]; simp
    have hbW : Below w.heap.size w W := by rw [hW]; exact bel
    have A0 : W.heap[w.heap.size]? = some (.cells #[.int .i64 op, .string a.n, .slice p a.us.length pc, .string xv, .slice q ps.length d] 29 (0, 0)) := by rw [hW]; exact (hao _ _ _ (by simp; omega)).trans ((hao _ _ _ (by simp)).trans (heap_alloc_new _ _))
    have A1 : W.heap[w.heap.size + 1]? = some (.cells #[.map (some g)] 86 (0, 0)) := by
      rw [hW]
      refine (hao _ _ _ (by simp)).trans ?_
      have := heap_alloc_new (w.alloc (.cells #[.int .i64 op, .string a.n, .slice p a.us.length pc, .string xv, .slice q ps.length d] 29)) (.cells #[.map (some g)] 86)
      rwa [World.size_alloc] at this
    have A2 : W.heap[w.heap.size + 2]? = some (.cells #[.int .i64 0, .string ⟨#[]⟩, .slice none 0 0, .string ⟨#[]⟩, .slice none 0 0] 29 (0, 0)) := by
      rw [hW]
      have := heap_alloc_new ((w.alloc (.cells #[.int .i64 op, .string a.n, .slice p a.us.length pc, .string xv, .slice q ps.length d] 29)).alloc (.cells #[.map (some g)] 86)) (.cells #[.int .i64 0, .string ⟨#[]⟩, .slice none 0 0, .string ⟨#[]⟩, .slice none 0 0] 29)
      rwa [World.size_alloc, World.size_alloc] at this
    obtain ⟨a0, a1, a2, a3, a4⟩ := five_at A0
    have za := bsz (show w.heap.size < W.heap.size by omega)
    have c0 : W.cell? ⟨w.heap.size + 1, 0, none⟩ = some (.map (some g)) := by rw [cell_of_row W _ 0 _ _ (0, 0) A1]; rfl
    have zc := bsz (blk_lt A1)
    have HR0 := Lib.hid A2
    have HBW := Lib.hid hbW
    by_cases h3 : op = 3
    · subst h3
      have HF := Lib.hid (show insF (lookT L) (.mk 3 a xv ps) = atomOfF (repT (lookT L) a) by rw [insF, if_pos rfl])
      obtain ⟨vn, va, vp, hcs, -, -, ht, -⟩ := h
      simp only [List.cons.injEq, and_true] at hcs
      obtain ⟨-, rfl, rfl, -, -⟩ := hcs
      have HTA := Lib.hid (TmAt.below hbW ht)
      clear ih A0 A1 A2 hbW ht hmo
      go_enter Tryz.func55, Tryz.ntmps55
      go_wp2_with fail
      rw [← hW]
      clear hW
      go_wp2_with fail
      refine (repVars_any base M g nn L m a _ _ W HTA.out (by omega) (HMO.out.below HBW.out) (by rw [Fm.wt] at hw; omega)).mono ?_
      rintro e w0 ⟨y0, rfl, hy0, h1, h2⟩
      rw [show y0.cs.toArray = #[.string y0.t.n, .slice y0.p y0.t.us.length y0.c] from rfl]
      have HY0 := Lib.hid h1
      have HB0 := Lib.hid (Below.step HBW.out h2)
      have hz0 := h2.size
      have HYT := Lib.hid hy0
      clear hy0
      have HR1 := Lib.hid ((h2.block _ (by omega)).trans HR0.out)
      clear h1 h2 a0 a1 a2 a3 a4 za c0 zc
      go_wp2_with fail
      refine (atomOf_at (m + M) y0.t _ _ w0 HY0.out).mono ?_
      rintro e w1 ⟨rfl, hO, hb1⟩
      have HO := Lib.hid hO
      have HB1 := Lib.hid (Below.step HB0.out hb1)
      have HRB := Lib.hid ((hb1.block _ (by omega)).trans HR1.out)
      obtain ⟨r0, r1, r2, r3, r4⟩ := five_at HRB.out
      have rf : ∀ j, w1.frozen? ⟨w.heap.size + 2, j, none⟩ = false := fun j => frozen_of_row w1 _ j _ _ HRB.out
      have zr := bsz (blk_lt HRB.out)
      have hz1 := hb1.size
      clear hO hb1
      go_wp2
      refine bodyPost_ret (v := .agg #[.int .i64 3, .string y0.t.n, .slice y0.p y0.t.us.length y0.c, .string ⟨#[]⟩, .slice none 0 0]) (by simp only [results, Tryz.results55]; go_simp) rfl ⟨⟨atomOfF y0.t, y0.p, y0.c, none, 0⟩, rfl, by rw [HF.out, ← HYT.out], ?_, ?_⟩
      · rw [show m + 1 + M = m + M + 1 by omega]
        refine FmAt.mono ((((((SameOn.refl _ _).sc ?_ _).sc ?_ _).sc ?_ _).sc ?_ _).sc ?_ _) (fun b hb => ⟨by omega, by simp; omega⟩) _ _ _ _ (Nat.le_refl _) HO.out
        all_goals (intro b hb e; simp at e; omega)
      · have hk := HB1.out
        exact bel
    · have e3 : (op == 3) = false := by simpa using h3
      have HF := Lib.hid (show insF (lookT L) (.mk op a xv ps) = .mk op a xv ((List.range ps.length).map (fun k => insF (lookT L) (ps.getD k fmZero))) by
        rw [insF, if_neg h3, range_get, insFs_map])
      have HMP := Lib.hid ((mapParts_any 83 #[.pointer (some ⟨w.heap.size + 1, 0, none⟩)] (fun _ _ => rfl) St0 St0.ok (m + M) m (by omega) (fun k => insF (lookT L) (ps.getD k fmZero)) op a xv ps _ _ _ _ _ W (fun _ => False) (fun _ _ h => h) (FmAt.below hbW h) hw (fun b e => e)
        (fun k hk X wr u0 u1 u2 u3 u4 hst hkp hxx hx => by
          have hX : ∀ b, ¬ X b := hst
          have hbr : Below W.heap.size W wr := hkp.below (fun _ e => e)
          have hzr := hbr.size
          refine (instance1_of base M g nn L (m + M) (w.heap.size + 1) ps[k] u0 u1 u2 u3 u4 wr ⟨m, hx⟩ ((hbr.block _ (by omega)).trans A1) (fun W' hW' => ih ps[k] u0 u1 u2 u3 u4 W' (FmAt.below hW' hx) (by have := hW'.size; omega) ((hmo.below hbW).below hbr |>.below hW') (by have := Fm.wts_le ps hk; rw [Fm.wt] at hw; omega))).mono fun e w' h => h.step (Nat.le_refl _) (by simp [hk]) hX)).mono fun e w' h => MdQ.of h)
      clear h ih A0 A1 A2 hbW hmo
      go_enter Tryz.func55, Tryz.ntmps55
      go_wp2_with fail
      rw [← hW]
      clear hW
      go_wp2_with fail
      refine HMP.out.mono ?_
      rintro e w1 ⟨y, rfl, hy, h1, h2⟩
      rw [← HF.out] at hy
      clear a0 a1 a2 a3 a4 za c0 zc
      have HRB := Lib.hid ((h2.block (w.heap.size + 2) (by omega)).trans HR0.out)
      obtain ⟨r0, r1, r2, r3, r4⟩ := five_at HRB.out
      have rf : ∀ j, w1.frozen? ⟨w.heap.size + 2, j, none⟩ = false := fun j => frozen_of_row w1 _ j _ _ HRB.out
      have zr := bsz (blk_lt HRB.out)
      have H1 := Lib.hid h1
      have HYF := Lib.hid hy
      have HB1 := Lib.hid (Below.step HBW.out h2)
      have hz1 := h2.size
      clear h1 h2 hy
      rw [show y.cs.toArray = #[.int .i64 y.f.op, .string y.f.a.n, .slice y.p y.f.a.us.length y.c, .string y.f.v, .slice y.q y.f.ps.length y.d] from rfl]
      go_wp2
      refine bodyPost_ret (v := .agg #[.int .i64 y.f.op, .string y.f.a.n, .slice y.p y.f.a.us.length y.c, .string y.f.v, .slice y.q y.f.ps.length y.d]) (by simp only [results, Tryz.results55]; go_simp) rfl ⟨y, rfl, HYF.out, FmAt.mono ((((((SameOn.refl _ _).sc ?_ _).sc ?_ _).sc ?_ _).sc ?_ _).sc ?_ _) (fun b hb => ⟨by omega, by simp; omega⟩) _ _ _ _ (by omega) H1.out, ?_⟩
      · intro b hb e; simp at e; omega
      · intro b hb e; simp at e; omega
      · intro b hb e; simp at e; omega
      · intro b hb e; simp at e; omega
      · intro b hb e; simp at e; omega
      · have hk := HB1.out
        exact bel
section
variable {ops : Array Oper}
structure InK (ops : Array Oper) (W : World) (X : Nat → Prop) (ix ks : Nat) (J : World → Prop) (Q : Proms) (R : (Nat → Value) → World → World → Prop) (u : Nat → Value) (L : Array Bool) (w : World) : Prop where
  cl : Closed .any ops L
  nst : L.getD ks false = false → Kp X W w ∧ (L.getD ix false = false → J w) ∧ ∀ i, L.getD i false = true → Q.at i (u i) w
  st : L.getD ks false = true → ∃ w0, Kp X W w0 ∧ (∀ i, i ≠ ks → L.getD i false = true → Q.at i (u i) w0) ∧ R u w0 w
variable {W w w' : World} {X : Nat → Prop} {ix ks : Nat} {J : World → Prop} {Q : Proms} {R : (Nat → Value) → World → World → Prop} {u : Nat → Value} {L : Array Bool}
theorem Kp.drew {X : Nat → Prop} {w w' : World} (h : Kp X w w') : Kp X w w'.drew := ⟨h.os, h.tape, h.output, h.size, h.block⟩
theorem InK.start (hJ : J W.drew) (hL : ∀ i, L.getD i false = false) : InK ops W X ix ks J Q R (fun _ => undef) L W.drew :=
  ⟨fun c oc _ hl => (by rw [hL] at hl; cases hl), fun _ => ⟨(Kp.refl _ _).drew, fun _ => hJ, fun i hi => (by rw [hL] at hi; cases hi)⟩, fun h => (by rw [hL] at h; cases h)⟩
theorem InK.other (h : InK ops W X ix ks J Q R u L w) {k : Nat} {o : Oper} (ho : ops[k]? = some o) (hb : Behind .any o L) (hk : k ≠ ks) (hx : k ≠ ix) (hq : Q.lookup k = none) : InK ops W X ix ks J Q R u (L.setIfInBounds k true) w := by
  have key : ∀ (w : World) (i : Nat), (L.setIfInBounds k true).getD i false = true → (L.getD i false = true → Q.at i (u i) w) → Q.at i (u i) w := fun w i hi h' => by
    by_cases e : k = i
    · subst e
      exact Proms.at_none hq _ _
    · rw [getD_set_ne false e] at hi; exact h' hi
  refine ⟨h.cl.put ho hb, fun hn => ?_, fun hn => ?_⟩ <;> rw [getD_set_ne false hk] at hn
  · obtain ⟨h1, h2, h3⟩ := h.nst hn
    exact ⟨h1, fun hi => h2 (by rwa [getD_set_ne false hx] at hi), fun i hi => key w i hi (h3 i)⟩
  · obtain ⟨w0, h1, h2, h3⟩ := h.st hn
    exact ⟨w0, h1, fun i hne hi => key w0 i hi (h2 i hne), h3⟩
theorem InK.pre (h : InK ops W X ix ks J Q R u L w) {i n : Nat} (hun : L.getD i true = false) (ha : (i == ks || Proofs.YtmbkjdkjemlfkaaGreatDoor.anc ops n ks i) = true) : L.getD ks false = false ∧ Kp X W w ∧ (L.getD ix false = false → J w) ∧ ∀ i, L.getD i false = true → Q.at i (u i) w := by
  have hn : L.getD ks false = false := by
    cases h' : L.getD ks false with
    | false => rfl
    | true =>
      rw [Bool.or_eq_true, beq_iff_eq] at ha
      have h0 := getD_tf hun
      rcases ha with rfl | ha
      · rw [h'] at h0; cases h0
      · have := h.cl.anc _ _ _ ha h'
        rw [h0] at this; cases this
  exact ⟨hn, h.nst hn⟩
theorem InK.call (h : InK ops W X ix ks J Q R u L w) {i n : Nat} {o : Oper} (ho : ops[i]? = some o) (hbe : Behind .any o L) (hun : L.getD i true = false) (hi : i ≠ ks) (hx : i ≠ ix) (ha : (i == ks || Proofs.YtmbkjdkjemlfkaaGreatDoor.anc ops n ks i) = true) (hs : Q.Stab) (hJ : ∀ w w', Below w.heap.size w w' → J w → J w') {x : Value} (hb : Below w.heap.size w w') (hq : Q.at i x w') : InK ops W X ix ks J Q R (upd u i x) (L.setIfInBounds i true) w' := by
  obtain ⟨hn, h1, h2, h3⟩ := h.pre hun ha
  have hn' : (L.setIfInBounds i true).getD ks false = false := by rw [getD_set_ne false hi]; exact hn
  refine ⟨h.cl.put ho hbe, fun _ => ⟨h1.be hb, fun hi' => hJ _ _ hb (h2 (by rwa [getD_set_ne false hx] at hi')), fun j hj => ?_⟩, fun h' => (by rw [hn'] at h'; cases h')⟩
  by_cases e : i = j
  · subst e; rw [upd_same]; exact hq
  · rw [getD_set_ne false e] at hj
    rw [upd_other _ _ (Ne.symm e)]
    exact (h3 j hj).mono fun p hp => hs p hp _ _ _ hb
theorem InK.turn (h : InK ops W X ix ks J Q R u L w) {n : Nat} {o : Oper} (ho : ops[ix]? = some o) (hbe : Behind .any o L) (hun : L.getD ix true = false) (hi : ix ≠ ks) (ha : (ix == ks || Proofs.YtmbkjdkjemlfkaaGreatDoor.anc ops n ks ix) = true) (hs : ∀ p ∈ Q, p.1 ≠ ix → ∀ v w w', Kp X w w' → W.heap.size ≤ w.heap.size → p.2 v w → p.2 v w') {x : Value} (hb : Kp X w w') (hq : Q.at ix x w') : InK ops W X ix ks J Q R (upd u ix x) (L.setIfInBounds ix true) w' := by
  obtain ⟨hn, h1, h2, h3⟩ := h.pre hun ha
  have hn' : (L.setIfInBounds ix true).getD ks false = false := by rw [getD_set_ne false hi]; exact hn
  have hd : (L.setIfInBounds ix true).getD ix false = true := getD_now hun
  refine ⟨h.cl.put ho hbe, fun _ => ⟨h1.trans hb (fun b e => .inl e), fun h' => (by rw [hd] at h'; cases h'), fun j hj => ?_⟩, fun h' => (by rw [hn'] at h'; cases h')⟩
  by_cases e : ix = j
  · subst e; rw [upd_same]; exact hq
  · rw [getD_set_ne false e] at hj
    rw [upd_other _ _ (Ne.symm e)]
    have h4 := h3 j hj
    rw [Proms.at] at h4 ⊢
    split
    · next q hq' =>
      rw [hq'] at h4
      exact hs _ (lookup_mem' hq') (fun e' => e e'.symm) _ _ _ hb h1.size h4
    · trivial
theorem InK.store (h : InK ops W X ix ks J Q R u L w) {o : Oper} (ho : ops[ks]? = some o) (hbe : Behind .any o L) (hun : L.getD ks true = false) {x : Value} (hr : R (upd u ks x) w w') : InK ops W X ix ks J Q R (upd u ks x) (L.setIfInBounds ks true) w' := by
  obtain ⟨hn, h1, h2, h3⟩ := h.pre (n := 0) hun (by simp)
  have hd : (L.setIfInBounds ks true).getD ks false = true := getD_now hun
  refine ⟨h.cl.put ho hbe, fun h' => (by rw [hd] at h'; cases h'), fun _ => ⟨w, h1, fun j hj hl => ?_, hr⟩⟩
  rw [getD_set_ne false (Ne.symm hj)] at hl
  rw [upd_other _ _ hj]
  exact h3 j hl
theorem InK.done (h : InK ops W X ix ks J Q R u L w) {n : Nat} (hL : ∀ i, i < n → L.getD i false = true) (hk : ks < n) : ∃ w0, Kp X W w0 ∧ (∀ i, i < n → i ≠ ks → Q.at i (u i) w0) ∧ R u w0 w := by
  obtain ⟨w0, h1, h2, h3⟩ := h.st (hL ks hk)
  exact ⟨w0, h1, fun i hi hne => h2 i hne (hL i hi), h3⟩
theorem InK.rd {P : Program} {vs : List (Option Value)} {Q' : Act → (Nat → Value) → Prop} {k : Nat} {o : Oper} {rest : List Oper} {a : Act} {u : Nat → Value} (n : Nat) (hs : stB vs k = true) (hg : o.guard = none) (ho : ops[k]? = some o) (hc : ((k == ks || Proofs.YtmbkjdkjemlfkaaGreatDoor.anc ops n ks k) && (k != ks) && (k != ix) && (Q.lookup k).isNone) = true)
    (h1 : ∀ w', Kp X W w' → ∀ D : World → Prop, D w' → goesUpon P D (baseV vs k) ((execOp a.eval o).run P w')) (h2 : flowV P .any ops vs (InK ops W X ix ks J Q R) Q' (k + 1) rest (a.put o.dst (baseV vs k)) u) : flowV P .any ops vs (InK ops W X ix ks J Q R) Q' k (o :: rest) a u := by
  rw [Bool.and_eq_true, Bool.and_eq_true, Bool.and_eq_true] at hc
  exact flowV_st hs hg (fun _ _ w' hun hbe hD => h1 w' (hD.pre (n := n) hun hc.1.1.1).2.1 (fun w => InK ops W X ix ks J Q R _ _ w) (hD.other ho hbe (by simpa using hc.1.1.2) (by simpa using hc.1.2) (by simpa using hc.2))) h2
theorem wp_region_turn {P : Program} {id : Nat} {Q' : Exit → Act → World → Prop} {a : Act} {w : World} {l : List Oper} (vs : List (Option Value)) (X : Nat → Prop) (ix ks : Nat) (J : World → Prop) (Q : Proms) (R : (Nat → Value) → World → World → Prop) (hm : P.follows .mixedOrders = true) (hB : Region.lexB .any l.toArray = true) (hJ : J w.drew)
    (h : flowV P .any l.toArray vs (InK l.toArray w X ix ks J Q R) (fun a' u => ∀ L w', (∀ i, i < l.length → L.getD i false = true) → InK l.toArray w X ix ks J Q R u L w' → Q' .normal a' w') 0 l a (fun _ => undef)) : (Code.region id l.toArray true).wp P Q' a w :=
  wp_region_any3 vs (InK l.toArray w X ix ks J Q R) hm hB (fun _ hL => InK.start hJ hL) h
/-! ### Values that hang on others alone -/
abbrev DetL := List (Nat × Nat × (Value → Value))
def Dets (T : DetL) (u : Nat → Value) (L : Array Bool) : Prop := ∀ t ∈ T, L.getD t.1 false = true → L.getD t.2.1 false = true ∧ u t.1 = t.2.2 (u t.2.1)
variable {T : DetL}
theorem Dets.start {u : Nat → Value} (hL : ∀ i, L.getD i false = false) : Dets T u L := fun t _ h => by rw [hL] at h; cases h
theorem heads_ne {i : Nat} (h : (T.map (·.1)).contains i = false) : ∀ t ∈ T, t.1 ≠ i := fun t ht e => by
  have : (T.map (·.1)).contains i = true := by rw [List.contains_iff_mem]; exact List.mem_map.2 ⟨t, ht, e⟩
  rw [h] at this; cases this
theorem Dets.other (h : Dets T u L) {i : Nat} (hi : (T.map (·.1)).contains i = false) : Dets T u (L.setIfInBounds i true) := fun t ht hd => by
  have hne := heads_ne hi t ht
  rw [getD_set_ne false (Ne.symm hne)] at hd
  obtain ⟨h1, h2⟩ := h t ht hd
  exact ⟨set_mono h1, h2⟩
theorem Dets.skip (h : Dets T u L) {i : Nat} (hun : L.getD i true = false) (x : Value) (hi : (T.map (·.1)).contains i = false) : Dets T (upd u i x) (L.setIfInBounds i true) := fun t ht hd => by
  have hne := heads_ne hi t ht
  rw [getD_set_ne false (Ne.symm hne)] at hd
  obtain ⟨h1, h2⟩ := h t ht hd
  have hne2 : t.2.1 ≠ i := fun e => by rw [e] at h1; have := getD_tf hun; rw [h1] at this; cases this
  exact ⟨set_mono h1, by rw [upd_other _ _ hne, upd_other _ _ hne2]; exact h2⟩
theorem Dets.det (h : Dets T u L) {i p : Nat} {φ : Value → Value} (hun : L.getD i true = false) (hp : L.getD p false = true) (x : Value) (hx : x = φ (u p)) (hT : ∀ t ∈ T, t.1 = i → t = (i, p, φ)) : Dets T (upd u i x) (L.setIfInBounds i true) := fun t ht hd => by
  have hpi : p ≠ i := fun e => by rw [e] at hp; have := getD_tf hun; rw [hp] at this; cases this
  by_cases e : t.1 = i
  · obtain rfl := hT t ht e
    exact ⟨set_mono hp, by rw [upd_same, upd_other _ _ hpi]; exact hx⟩
  · rw [getD_set_ne false (Ne.symm e)] at hd
    obtain ⟨h1, h2⟩ := h t ht hd
    have hne2 : t.2.1 ≠ i := fun e => by rw [e] at h1; have := getD_tf hun; rw [h1] at this; cases this
    exact ⟨set_mono h1, by rw [upd_other _ _ e, upd_other _ _ hne2]; exact h2⟩
def fstV : Value → Value | .tuple #[a, _] => a | _ => undef
def sndV : Value → Value | .tuple #[_, b] => b | _ => undef
end
def leafC (x : ByteArray) : TC := ⟨leafT x, none, 0⟩
theorem flatT_snoc (l : List ByteArray) (x : ByteArray) : flatT ((l ++ [x]).map leafC) = flatT (l.map leafC) ++ [.string x, .slice none 0 0] := by
  rw [List.map_append, flatT_app]; rfl
set_option maxHeartbeats 3200000 in
theorem varTerms_any {B : Nat → Prop} (l : List ByteArray) (v : Value) (w : World) (h : StrsAt B w v l) (hz : l.length ≤ 1000000) :
    Calls Tryz.prog 44 #[v] w fun e w' => ∃ v', e = .returned v' ∧ w'.ownsRow w.heap.size 26 2 v' l.length (flatT (l.map leafC)) ∧ Below w.heap.size w w' := by
  obtain ⟨p, c, rfl, hlen⟩ := h.form
  unfold maxLen at hlen
  have H := Lib.hid h
  clear h
  go_enter Tryz.func44, Tryz.ntmps44
  go_wp2
  obtain ⟨W, hW⟩ : ∃ W : World, W = w.alloc (.cells #[] 26) := ⟨_, rfl⟩
  have hbW : Below w.heap.size w W := by rw [hW]; exact bel
  have HR0 := Lib.hid (show W.ownsRow w.heap.size 26 2 (.slice (some ⟨w.heap.size, 0, none⟩) 0 0) 0 [] by rw [hW]; exact row_empty w w.heap.size 26 2 (Nat.le_refl _))
  rw [← hW]
  clear hW
  go_loopw [3, 9] (fun y i wr => ∃ (k : Nat) (v' : Value), k ≤ l.length ∧ i = .int .i64 k ∧ y = v' ∧ wr.ownsRow w.heap.size 26 2 v' k (flatT ((l.take k).map leafC)) ∧ Below w.heap.size w wr) (fun _ i _ => l.length - (intOf i).toNat)
  case atStart => exact ⟨0, _, Nat.zero_le _, rfl, rfl, HR0.out, hbW⟩
  case round =>
    obtain ⟨k, v', hk, rfl, hxv, hr, hb⟩ := hrel
    replace hxv := hxv.symm
    subst hxv
    have HR := Lib.hid hr
    have HB := Lib.hid hb
    have hzr := hb.size
    clear hr hb
    by_cases hlt : k < l.length
    · have hlti : (k : Int) < l.length := by omega
      obtain ⟨b, o, hpe, hB, hx0, hxs⟩ := (H.out.below HB.out).at_ hlt
      obtain ⟨y, hy⟩ : ∃ y, l[k] = y := ⟨_, rfl⟩
      have HTK := Lib.hid (show l.take (k + 1) = l.take k ++ [y] by rw [List.take_succ_eq_append_getElem hlt, hy])
      rw [hy] at hx0
      have zb := bsz (World.block_lt_of_cell? _ _ hx0)
      subst hpe
      clear hy hxs
      go_wp2_with (at_builtin; refine wpList_app1 rfl (.tmp 13) (.tmp 16) _ rfl w.heap.size 26 2 40 elemTmA _ _ (flatT ((l.take k).map leafC)) rfl wr #[.string y, .slice none 0 0] rfl _ rfl rfl HR.out rfl (by simp [Value.oneCell']) (by omega) (by unfold maxLen; omega) (by omega) ?_; intro v3 w3 hown3 hg3 hnr3 hlt3)
      have hvb : ∀ b, v'.ownBlock = some b → w.heap.size ≤ b := fun b hb => own_base HR.out b hb
      have HB3 := Lib.hid (show Below w.heap.size w w3 from ⟨hg3.os.trans HB.out.os, hg3.tape.trans HB.out.tape, hg3.output.trans HB.out.output, by have := hg3.size; omega, fun b hb => (hg3.block b (by omega) (fun e => by have := hvb b e.symm; omega)).trans (HB.out.block b hb)⟩)
      exact ⟨⟨k + 1, v3, by omega, by go_num, by first | rfl | go_simp, by rw [HTK.out, flatT_snoc]; exact hown3, HB3.out⟩, by simp [intOf]; omega⟩
    · obtain rfl : k = l.length := by omega
      go_wp2
      go_ret
      refine ⟨v', ?_, by have := HR.out; rw [List.take_length] at this; exact this, HB.out⟩
      first | rfl | go_simp
theorem dfnL_get {S : ByteArray → Bool} {vf : Fm → List ByteArray} (b : Bool) : ∀ (ps : List Fm) (k i : Nat) (h : i < ps.length), (dfnL S vf ps b k).1.getD i fmZero = (dfn S vf ps[i] b (dfnL S vf (ps.take i) b k).2.1).1
  | [], _, _, h => by simp at h
  | a :: ps, k, 0, _ => by rw [dfnL, List.take_zero, dfnL]; rfl
  | a :: ps, k, i + 1, h => by
    rw [dfnL, List.take_succ_cons, dfnL]
    exact dfnL_get b ps (dfn S vf a b k).2.1 i (by simpa using h)
theorem dfnL_take {S : ByteArray → Bool} {vf : Fm → List ByteArray} (b : Bool) (ps : List Fm) (k i : Nat) (h : i < ps.length) : (dfnL S vf (ps.take (i + 1)) b k).2 = ((dfn S vf ps[i] b (dfnL S vf (ps.take i) b k).2.1).2.1, (dfnL S vf (ps.take i) b k).2.2 ++ (dfn S vf ps[i] b (dfnL S vf (ps.take i) b k).2.1).2.2) := by
  rw [List.take_succ_eq_append_getElem h, dfnL_snoc]
theorem range_getD (l : List Fm) (n : Nat) (h : l.length = n) : (List.range n).map (fun i => l.getD i fmZero) = l := by
  subst h
  exact range_self l
theorem Fm.okDs_get {us : List Fm} {k : Nat} (h : Fm.okDs us = true) (hk : k < us.length) : us[k].okD = true := by
  induction us generalizing k with
  | nil => simp at hk
  | cons a us ih =>
    rw [Fm.okDs, Bool.and_eq_true] at h
    cases k with
    | zero => exact h.1
    | succ k => exact ih h.2 (by simpa using hk)
theorem Fm.szs_le' {us : List Fm} {k : Nat} (hk : k < us.length) : Fm.szs (us.take k) + us[k].sz ≤ Fm.szs us := by
  have h1 := Fm.szs_take' us (k + 1)
  rw [List.take_succ_eq_append_getElem hk] at h1
  have h2 : ∀ (l : List Fm) (y : Fm), Fm.szs (l ++ [y]) = Fm.szs l + y.sz := fun l y => by
    induction l with
    | nil => simp [Fm.szs]
    | cons z l ih => rw [List.cons_append, Fm.szs, Fm.szs, ih]; omega
  rw [h2] at h1; omega
theorem Fm.nns_le' {us : List Fm} {k : Nat} (hk : k < us.length) : us[k].nn ≤ Fm.nns us := by
  have := nns_bound (us := us) (k := k) (y := us[k]) (List.take_succ_eq_append_getElem hk)
  omega
def DfnQ (ob : Option Obj) (us : List ByteArray) (N base x0 g : Nat) (uv : Value) (n : Nat) (f : Fm) (b : Bool) (k : Nat) (E : List Dfn) (X : Nat → Prop) (w : World) (e : Ending) (w' : World) : Prop :=
  ∃ (y : FC) (X' : Nat → Prop) (lv : Value) (D : List DC), e = .returned (.agg y.cs.toArray) ∧ y.f = (dfn (inS us) vfD f b k).1 ∧ FmAt (fun b => w.heap.size ≤ b ∧ b < w'.heap.size ∧ ¬ X' b) n w' y.f y.cs ∧ DSt ob us N base x0 g (dfn (inS us) vfD f b k).2.1 (E ++ (dfn (inS us) vfD f b k).2.2) uv lv D X' w' ∧ (∀ b, X' b → X b ∨ (w.heap.size ≤ b ∧ b < w'.heap.size)) ∧ Kp X w w'
set_option maxHeartbeats 3200000 in
theorem define1_of (ob : Option Obj) (us : List ByteArray) (N base x0 g : Nat) (uv : Value) (n z : Nat) (t : Fm) (u0 u1 u2 u3 u4 : Value) (op : Int) (w1 w2 w3 w4 : Value) (k : Nat) (E : List Dfn) (X : Nat → Prop) (wr : World) (hx : ∃ (B : Nat → Prop) (m : Nat), FmAt B m wr t [u0, u1, u2, u3, u4]) (hX : ∀ b, X b → b < wr.heap.size)
    (hc0 : wr.heap[z]? = some (.cells #[.pointer (some ⟨x0, 0, none⟩)] 44 (0, 0))) (hc1 : wr.heap[z + 1]? = some (.cells #[.int .i64 op, w1, w2, w3, w4] 29 (0, 0)))
    (H : ∀ W : World, Below wr.heap.size wr W → Calls Tryz.prog 15 #[.pointer (some ⟨x0, 0, none⟩), .agg #[u0, u1, u2, u3, u4], .bool (op == 6)] W (DfnQ ob us N base x0 g uv n t (op == 6) k E X W)) :
    Calls Tryz.prog 40 #[.agg #[u0, u1, u2, u3, u4], .pointer (some ⟨z, 0, none⟩), .pointer (some ⟨z + 1, 0, none⟩)] wr (DfnQ ob us N base x0 g uv n t (op == 6) k E X wr) := by
  obtain ⟨B, m, hx⟩ := hx
  obtain ⟨p, pc, q, d, rfl, rfl, rfl, rfl, rfl, -⟩ := hx.form
  obtain ⟨W, hW⟩ : ∃ W : World, W = (wr.alloc (.cells #[.int .i64 t.op, .string t.a.n, .slice p t.a.us.length pc, .string t.v, .slice q t.ps.length d] 29)).alloc (.cells #[.int .i64 0, .string ⟨#[]⟩, .slice none 0 0, .string ⟨#[]⟩, .slice none 0 0] 29) := ⟨_, rfl⟩
  obtain ⟨hsW, hbW, A0, A1⟩ := two_new hW
  obtain ⟨a0, a1, a2, a3, a4⟩ := five_at A0
  have za := bsz (show wr.heap.size < W.heap.size by omega)
  have HR0 := Lib.hid A1
  have HBW := Lib.hid hbW
  have hzl := blk_lt hc1
  have c0 : wr.cell? ⟨z, 0, none⟩ = some (.pointer (some ⟨x0, 0, none⟩)) := by rw [cell_of_row wr z 0 _ _ (0, 0) hc0]; rfl
  have c1 : wr.cell? ⟨z + 1, 0, none⟩ = some (.int .i64 op) := by rw [cell_of_row wr (z + 1) 0 _ _ (0, 0) hc1]; rfl
  have zc := bsz (show z < wr.heap.size by omega)
  have zc1 := bsz hzl
  have HH := Lib.hid H
  have HXF := Lib.hid hX
  clear hx A0 A1 hbW hc0 hc1 H hX
  go_enter Tryz.func40, Tryz.ntmps40
  go_wp2_with fail
  rw [← hW]
  clear hW
  refine (HH.out W HBW.out).mono ?_
  rintro e w5 ⟨y, X', lv, D, rfl, hy, h1, h2, h3, h4⟩
  have HRB := Lib.hid ((h4.block (wr.heap.size + 1) (by omega) (fun e => by have := HXF.out _ e; omega)).trans HR0.out)
  have hnz : ¬ X' (wr.heap.size + 1) := fun e => (h3 _ e).elim (fun e => by have := HXF.out _ e; omega) (fun e => by omega)
  clear a0 a1 a2 a3 a4 za c0 c1 zc zc1
  obtain ⟨r0, r1, r2, r3, r4⟩ := five_at HRB.out
  have rf : ∀ j, w5.frozen? ⟨wr.heap.size + 1, j, none⟩ = false := fun j => frozen_of_row w5 _ j _ _ HRB.out
  have zr := bsz (blk_lt HRB.out)
  have H1 := Lib.hid h1
  have HYF := Lib.hid hy
  have H2 := Lib.hid h2
  have H3 := Lib.hid h3
  have H4 := Lib.hid h4
  have hz5 := h4.size
  clear h1 h2 h3 h4 hy
  rw [show y.cs.toArray = #[.int .i64 y.f.op, .string y.f.a.n, .slice y.p y.f.a.us.length y.c, .string y.f.v, .slice y.q y.f.ps.length y.d] from rfl]
  go_wp2
  refine bodyPost_ret (v := .agg #[.int .i64 y.f.op, .string y.f.a.n, .slice y.p y.f.a.us.length y.c, .string y.f.v, .slice y.q y.f.ps.length y.d]) (by simp only [results, Tryz.results40]; go_simp) rfl ⟨y, X', lv, D, rfl, HYF.out, ?_, ?_, ?_, ?_⟩
  · refine FmAt.mono ((((((SameOn.refl _ _).sc ?_ _).sc ?_ _).sc ?_ _).sc ?_ _).sc ?_ _) (fun b hb => ⟨by omega, by simp; omega, hb.2.2⟩) _ _ _ _ (Nat.le_refl _) H1.out
    all_goals (intro b hb e; simp at e; omega)
  · exact H2.out.stab ((((((Kp.refl _ _).sc (.inl hnz) _).sc (.inl hnz) _).sc (.inl hnz) _).sc (.inl hnz) _).sc (.inl hnz) _)
  · intro b e
    exact (H3.out b e).imp id (fun e => ⟨by omega, by simp; omega⟩)
  · have hge : wr.heap.size ≤ wr.heap.size + 1 := by omega
    have hk : Kp X wr w5 := (Kp.of_below HBW.out).trans H4.out (fun b e => .inl e)
    exact ((((hk.sc (.inr hge) _).sc (.inr hge) _).sc (.inr hge) _).sc (.inr hge) _).sc (.inr hge) _
end Go.Proofs.YtmbkjdkjemlfkaaGreatDoor
