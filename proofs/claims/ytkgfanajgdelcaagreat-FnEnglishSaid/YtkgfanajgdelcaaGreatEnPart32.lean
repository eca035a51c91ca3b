import Derived.Test.YtkgfanajgdelcaaGreatEnPart26
namespace Go.Proofs.YtkgfanajgdelcaaGreat
set_option maxRecDepth 100000
open Go.RowKit
def nmS (s : ByteArray) : Bool := !varB s.data.toList && symB s.data.toList
def nmV (s : ByteArray) : Bool := varB s.data.toList || symB s.data.toList
def nm2 (s : ByteArray) : Bool := isEq s || nmS s
def varQ (s : ByteArray) : Bool := varB s.data.toList
def IsP (Q : ByteArray → Bool) (k : Nat) (v : Value) : Prop := ∃ s : ByteArray, v = .string s ∧ s.size ≤ k ∧ Q s = true
theorem of_pr (Q : ByteArray → Bool) (g m k n b : Nat) (W : World) (cs : Array Value) (t : TypeId) (hn : n = cs.size) (hb : b = W.heap.size) (h : Cur W g m) (hm : m + 2 ≤ 1000000000) (h0 : 0 < cs.size) (h1 : cs.size ≤ 1000000000) (hs : ∀ v ∈ cs, IsP Q k v) :
    Calls Tryz.prog 57 #[.pointer (some ⟨g, 0, none⟩), .slice (some ⟨b, 0, none⟩) n n] (W.alloc (.cells cs t)) (Step g m 2 (IsP Q k) (W.alloc (.cells cs t))) := by
  subst hn hb
  have hlt := h.lt
  have hbg : W.heap.size ≠ g := by omega
  have H := Lib.hid (h.below ((Below.refl _ _).alloc (Nat.le_refl _) (.cells cs t)))
  have HB := Lib.hid (heap_alloc_new W (.cells cs t))
  have HS := Lib.hid hs
  clear h hs
  generalize W.alloc (.cells cs t) = w at *
  generalize W.heap.size = b at *
  go_enter Tryz.func57, Tryz.ntmps57
  go_wp2_with fail
  refine (pick_any g m _ _ H.out hm (by omega) (by omega)).mono ?_
  rintro e w1 ⟨_, rfl, ⟨r1, rfl, hr1, hs1⟩, hc1, hg1⟩
  obtain ⟨j, rfl⟩ := Int.eq_ofNat_of_zero_le hr1
  have hj : j < cs.size := by omega
  have hblt := lt_of_block HB.out
  obtain ⟨s, hv, hsz⟩ := HS.out cs[j] (Array.getElem_mem hj)
  have hcell : w1.cell? ⟨b, j, none⟩ = some (.string s) := by
    rw [((gcell hg1).1 b j hblt hbg), cell_of_row w b j cs t (0, 0) HB.out, ← hv]; exact Array.getElem?_eq_getElem hj
  have HC1 := Lib.hid hc1
  clear hc1 hv
  go_wp2_with fail
  go_ret
  exact ⟨_, rfl, ⟨_, rfl, hsz⟩, HC1.out, hg1⟩
def Tm.atm0 (t : Tm) : Bool := if isEq t.n then decide (t.us.length = 2) && Tm.nodess t.us else symB t.n.data.toList && t.nodes
theorem atom_of0 {t : Tm} (h : t.atm0 = true) (hs : t.sz ≤ 30) (hd : t.dp ≤ 8) : t.atom = true := by
  rw [Tm.atm0] at h
  rw [Tm.atom, Tm.good, Tm.small]
  split at h
  · next e => rw [if_pos e]; simp only [Bool.and_eq_true, decide_eq_true_eq] at h ⊢; exact ⟨⟨h.1, hs, hd⟩, h.2⟩
  · next e => rw [if_neg e]; simp only [Bool.and_eq_true, decide_eq_true_eq] at h ⊢; exact ⟨h.1, ⟨hs, hd⟩, h.2⟩
theorem dps_cap (n : Nat) : ∀ us : List Tm, (∀ a ∈ us, a.dp ≤ n) → Tm.dps us ≤ n
  | [], _ => by rw [Tm.dps]; omega
  | a :: us, h => by
    have h1 := h a (List.mem_cons_self ..)
    have h2 := dps_cap n us (fun b hb => h b (List.mem_cons_of_mem _ hb))
    rw [Tm.dps]; omega
theorem TmAt.dp_le {B : Nat → Prop} {w : World} : ∀ (n : Nat) (t : Tm) (cs : List Value), TmAt B n w t cs → t.dp ≤ n
  | 0, _, _, h => h.elim
  | n + 1, .mk s us, cs, h => by
    obtain ⟨va, _, _, p, c, _, _, h3⟩ := h
    have := dps_cap n us (fun a ha => by
      obtain ⟨i, hi, rfl⟩ := List.getElem_of_mem ha
      obtain ⟨b, o, _, _, cs, _, _, hx⟩ := h3 i _ (List.getElem?_eq_getElem hi)
      exact TmAt.dp_le n _ _ hx)
    rw [Tm.dp]; omega
theorem nodes_one {s : ByteArray} {t : Tm} (hs : nmS s = true) (h : t.nodes = true) : (Tm.mk s [t]).nodes = true := by
  simp only [nmS, Bool.and_eq_true, Bool.not_eq_true'] at hs
  simp [Tm.nodes, Tm.nodess, hs.1, hs.2, h]
theorem nodes_two {s : ByteArray} {t u : Tm} (hs : nmS s = true) (h : t.nodes = true) (hu : u.nodes = true) : (Tm.mk s [t, u]).nodes = true := by
  simp only [nmS, Bool.and_eq_true, Bool.not_eq_true'] at hs
  simp [Tm.nodes, Tm.nodess, hs.1, hs.2, h, hu]
theorem nodes_leaf {s : ByteArray} (hs : nmV s = true) : (Tm.mk s []).nodes = true := by
  rw [nmV, Bool.or_eq_true] at hs
  rw [Tm.nodes]
  split
  · rfl
  · rcases hs with hs | hs
    · contradiction
    · simp [hs, Tm.nodess]
theorem atm0_sym {s : ByteArray} {us : List Tm} (hs : nmS s = true) (h : (Tm.mk s us).nodes = true) : (Tm.mk s us).atm0 = true := by
  simp only [nmS, Bool.and_eq_true, Bool.not_eq_true'] at hs
  have he : isEq s = false := by
    cases he : isEq s with
    | false => rfl
    | true =>
      rw [isEq, beq_iff_eq] at he
      rw [he] at hs
      exact absurd hs.2 (by decide)
  rw [Tm.atm0]
  show (if isEq s = true then _ else symB s.data.toList && (Tm.mk s us).nodes) = true
  rw [he, if_neg (by decide), hs.2, h]; rfl
theorem atm0_two {s : ByteArray} {t u : Tm} (hs : nm2 s = true) (h : t.nodes = true) (hu : u.nodes = true) : (Tm.mk s [t, u]).atm0 = true := by
  rw [nm2, Bool.or_eq_true] at hs
  rcases hs with hs | hs
  · rw [Tm.atm0]
    show (if isEq s = true then decide ((2 : Nat) = 2) && Tm.nodess [t, u] else _) = true
    rw [if_pos hs, Tm.nodess, Tm.nodess, Tm.nodess, h, hu]; rfl
  · exact atm0_sym hs (nodes_two hs h hu)
def GTn (n W : Nat) (S : Nat → Prop) (w : World) (v : Value) : Prop :=
  ∃ (t : Tm) (va : Value), v = .agg #[.string t.n, va] ∧ TmOwn 26 n S w t [.string t.n, va] ∧ t.wt ≤ W ∧ t.nodes = true
theorem GTn.gt {n W : Nat} {S : Nat → Prop} {w : World} {v : Value} (h : GTn n W S w v) : GT n W S w v := by
  obtain ⟨t, va, h1, h2, h3, _⟩ := h
  exact ⟨t, va, h1, h2, h3⟩
theorem GTn.mono {n n' W W' : Nat} {S S' : Nat → Prop} {w w' : World} {v : Value} (h : GTn n W S w v) (hn : n ≤ n') (hW : W ≤ W') (hs : SameOn S w w') (hS : ∀ b, S b → S' b) : GTn n' W' S' w' v := by
  obtain ⟨t, va, h1, h2, h3, h4⟩ := h
  exact ⟨t, va, h1, TmOwn.mono n n' t _ hn hs hS h2, Nat.le_trans h3 hW, h4⟩
theorem GTn.form {n W : Nat} {S : Nat → Prop} {w : World} {v : Value} (h : GTn n W S w v) : ∃ (s : ByteArray) (p : Option Addr) (k c : Nat), v = .agg #[.string s, .slice p k c] ∧ s.size ≤ W ∧ k ≤ W ∧ W = W := h.gt.form
theorem GTn.leaf {W : Nat} (S : Nat → Prop) (w : World) (s : ByteArray) (h : s.size ≤ W ∧ nmV s = true) (hm : W ≤ maxLen) : GTn 1 W S w (.agg #[.string s, .slice none 0 0]) :=
  ⟨.mk s [], .slice none 0 0, rfl, ⟨_, rfl, Nat.le_trans h.1 hm, OwnRow.nil _ _ _ _ _⟩, by simpa [Tm.wt, Tm.wts] using h.1, nodes_leaf h.2⟩
theorem GTn.one {n W W' : Nat} {S S' : Nat → Prop} {w : World} {v0 v1 : Value} {s : ByteArray} {k : Nat} (h : GTn n W S w (.agg #[v0, v1])) (hk : w.heap.size = k) (hs : s.size ≤ maxLen ∧ nmS s = true) (hS : ∀ b, S b → b < k) (h1 : ∀ b, S b → S' b) (h2 : S' k) (hW : s.size + 1 + W ≤ W') :
    GTn (n + 1) W' S' (w.alloc (.cells #[v0, v1] 26)) (.agg #[.string s, .slice (some ⟨k, 0, none⟩) 1 1]) := by
  obtain ⟨t, va, h3, h4, h5, h6⟩ := h
  obtain ⟨rfl, rfl⟩ : v0 = .string t.n ∧ v1 = va := by simpa using h3
  refine ⟨.mk s [t], _, rfl, ⟨_, rfl, hs.1, OwnRow.one' hk _ rfl (TmOwn.mono n n t _ (Nat.le_refl _) (SameOn.below ((Below.refl _ _).alloc (Nat.le_refl _) _)) (fun _ h => h) h4) hS h1 h2⟩, ?_, nodes_one hs.2 h6⟩
  simp only [Tm.wt, Tm.wts, List.length_cons, List.length_nil]; omega
theorem GTn.two {n W W' : Nat} {S T S' : Nat → Prop} {w : World} {v0 v1 u0 u1 : Value} {s : ByteArray} {k : Nat} (h : GTn n W S w (.agg #[v0, v1])) (hu : GTn n W T w (.agg #[u0, u1])) (hk : w.heap.size = k) (hs : s.size ≤ maxLen ∧ nmS s = true) (hS : ∀ b, S b → b < k) (hT : ∀ b, T b → b < k) (hST : ∀ b, S b → ¬ T b)
    (h1 : ∀ b, S b → S' b) (h3 : ∀ b, T b → S' b) (h2 : S' k) (hW : s.size + 2 + W + W ≤ W') :
    GTn (n + 1) W' S' (w.alloc (.cells #[v0, v1, u0, u1] 26)) (.agg #[.string s, .slice (some ⟨k, 0, none⟩) 2 2]) := by
  obtain ⟨t, va, e3, h4, h5, h6⟩ := h
  obtain ⟨rfl, rfl⟩ : v0 = .string t.n ∧ v1 = va := by simpa using e3
  obtain ⟨t2, vb, e3, g4, g5, g6⟩ := hu
  obtain ⟨rfl, rfl⟩ : u0 = .string t2.n ∧ u1 = vb := by simpa using e3
  have hb := SameOn.below (B := S) ((Below.refl w.heap.size w).alloc (Nat.le_refl _) (.cells #[.string t.n, v1, .string t2.n, u1] 26))
  have hb2 := SameOn.below (B := T) ((Below.refl w.heap.size w).alloc (Nat.le_refl _) (.cells #[.string t.n, v1, .string t2.n, u1] 26))
  refine ⟨.mk s [t, t2], _, rfl, ⟨_, rfl, hs.1, OwnRow.two' hk [.string t.n, v1] [.string t2.n, u1] _ rfl rfl rfl (TmOwn.mono n n t _ (Nat.le_refl _) hb (fun _ h => h) h4) (TmOwn.mono n n t2 _ (Nat.le_refl _) hb2 (fun _ h => h) g4) hS hT hST h1 h3 h2⟩, ?_, nodes_two hs.2 h6 g6⟩
  simp only [Tm.wt, Tm.wts, List.length_cons, List.length_nil]; omega
def GTa (n W : Nat) (S : Nat → Prop) (w : World) (v : Value) : Prop :=
  ∃ (t : Tm) (va : Value), v = .agg #[.string t.n, va] ∧ TmOwn 26 n S w t [.string t.n, va] ∧ t.wt ≤ W ∧ t.atm0 = true
theorem GTa.gt {n W : Nat} {S : Nat → Prop} {w : World} {v : Value} (h : GTa n W S w v) : GT n W S w v := by
  obtain ⟨t, va, h1, h2, h3, _⟩ := h
  exact ⟨t, va, h1, h2, h3⟩
theorem GTa.mono {n n' W W' : Nat} {S S' : Nat → Prop} {w w' : World} {v : Value} (h : GTa n W S w v) (hn : n ≤ n') (hW : W ≤ W') (hs : SameOn S w w') (hS : ∀ b, S b → S' b) : GTa n' W' S' w' v := by
  obtain ⟨t, va, h1, h2, h3, h4⟩ := h
  exact ⟨t, va, h1, TmOwn.mono n n' t _ hn hs hS h2, Nat.le_trans h3 hW, h4⟩
theorem GTa.form {n W : Nat} {S : Nat → Prop} {w : World} {v : Value} (h : GTa n W S w v) : ∃ (s : ByteArray) (p : Option Addr) (k c : Nat), v = .agg #[.string s, .slice p k c] ∧ s.size ≤ W ∧ k ≤ W ∧ W = W := h.gt.form
theorem GTa.leaf {W : Nat} (S : Nat → Prop) (w : World) (s : ByteArray) (h : s.size ≤ W ∧ nmS s = true) (hm : W ≤ maxLen) : GTa 1 W S w (.agg #[.string s, .slice none 0 0]) :=
  ⟨.mk s [], .slice none 0 0, rfl, ⟨_, rfl, Nat.le_trans h.1 hm, OwnRow.nil _ _ _ _ _⟩, by simpa [Tm.wt, Tm.wts] using h.1, atm0_sym h.2 (nodes_leaf (by rw [nmV]; have := h.2; rw [nmS, Bool.and_eq_true] at this; rw [this.2, Bool.or_true]))⟩
theorem GTa.one {n W W' : Nat} {S S' : Nat → Prop} {w : World} {v0 v1 : Value} {s : ByteArray} {k : Nat} (h : GTn n W S w (.agg #[v0, v1])) (hk : w.heap.size = k) (hs : s.size ≤ maxLen ∧ nmS s = true) (hS : ∀ b, S b → b < k) (h1 : ∀ b, S b → S' b) (h2 : S' k) (hW : s.size + 1 + W ≤ W') :
    GTa (n + 1) W' S' (w.alloc (.cells #[v0, v1] 26)) (.agg #[.string s, .slice (some ⟨k, 0, none⟩) 1 1]) := by
  obtain ⟨t, va, h3, h4, h5, h6⟩ := h
  obtain ⟨rfl, rfl⟩ : v0 = .string t.n ∧ v1 = va := by simpa using h3
  refine ⟨.mk s [t], _, rfl, ⟨_, rfl, hs.1, OwnRow.one' hk _ rfl (TmOwn.mono n n t _ (Nat.le_refl _) (SameOn.below ((Below.refl _ _).alloc (Nat.le_refl _) _)) (fun _ h => h) h4) hS h1 h2⟩, ?_, atm0_sym hs.2 (nodes_one hs.2 h6)⟩
  simp only [Tm.wt, Tm.wts, List.length_cons, List.length_nil]; omega
theorem GTa.two {n W W' : Nat} {S T S' : Nat → Prop} {w : World} {v0 v1 u0 u1 : Value} {s : ByteArray} {k : Nat} (h : GTn n W S w (.agg #[v0, v1])) (hu : GTn n W T w (.agg #[u0, u1])) (hk : w.heap.size = k) (hs : s.size ≤ maxLen ∧ nm2 s = true) (hS : ∀ b, S b → b < k) (hT : ∀ b, T b → b < k) (hST : ∀ b, S b → ¬ T b)
    (h1 : ∀ b, S b → S' b) (h3 : ∀ b, T b → S' b) (h2 : S' k) (hW : s.size + 2 + W + W ≤ W') :
    GTa (n + 1) W' S' (w.alloc (.cells #[v0, v1, u0, u1] 26)) (.agg #[.string s, .slice (some ⟨k, 0, none⟩) 2 2]) := by
  obtain ⟨t, va, e3, h4, h5, h6⟩ := h
  obtain ⟨rfl, rfl⟩ : v0 = .string t.n ∧ v1 = va := by simpa using e3
  obtain ⟨t2, vb, e3, g4, g5, g6⟩ := hu
  obtain ⟨rfl, rfl⟩ : u0 = .string t2.n ∧ u1 = vb := by simpa using e3
  have hb := SameOn.below (B := S) ((Below.refl w.heap.size w).alloc (Nat.le_refl _) (.cells #[.string t.n, v1, .string t2.n, u1] 26))
  have hb2 := SameOn.below (B := T) ((Below.refl w.heap.size w).alloc (Nat.le_refl _) (.cells #[.string t.n, v1, .string t2.n, u1] 26))
  refine ⟨.mk s [t, t2], _, rfl, ⟨_, rfl, hs.1, OwnRow.two' hk [.string t.n, v1] [.string t2.n, u1] _ rfl rfl rfl (TmOwn.mono n n t _ (Nat.le_refl _) hb (fun _ h => h) h4) (TmOwn.mono n n t2 _ (Nat.le_refl _) hb2 (fun _ h => h) g4) hS hT hST h1 h3 h2⟩, ?_, atm0_two hs.2 h6 g6⟩
  simp only [Tm.wt, Tm.wts, List.length_cons, List.length_nil]; omega
set_option maxHeartbeats 1600000 in
theorem grown_val (g : Nat) : ∀ (f m : Nat) (d : Int) (w : World), Cur w g m → m + 4 * 2 ^ (f + 1) ≤ 1000000000 → -1000 ≤ d → d ≤ f + 1 → f ≤ 20 →
    Calls Tryz.prog 125 #[.pointer (some ⟨g, 0, none⟩), .int .i64 d] w (StepO g m (4 * 2 ^ (f + 1) - 4) (fun w' v => GTn (f + 1) (4 * 2 ^ f - 3) (NewB w w') w' v) w) := by
  intro f
  induction f with
  | zero =>
    intro m d w h hm hd0 hd1 hf
    have hlt := h.lt
    have H := Lib.hid h
    clear h
    simp only [Nat.zero_add, Nat.pow_one] at hm
    have hd : d ≤ 1 := by omega
    go_enter Tryz.func125, Tryz.ntmps125
    go_wp2_with fail
    refine (of_pr nmV g m 1 7 (w.heap.size + 1) _ _ _ (by rfl) (by simp) (H.out.al _) (by omega) (by decide) (by decide) (by intro v hv; simp at hv; rcases hv with rfl | rfl | rfl | rfl | rfl | rfl | rfl <;> exact ⟨_, rfl, by decide⟩)).mono ?_
    rintro e w1 ⟨_, rfl, ⟨s1, rfl, hs1⟩, hc1, hg1⟩
    have HC1 := Lib.hid hc1
    clear hc1
    have ⟨c1, f1⟩ := gcell hg1
    have hz1 := hg1.size
    (try simp at hz1)
    have hA := gr_trans (gr_al (gr_al (gr_refl w g) _) _) hg1
    have ⟨r0, r1, rf⟩ := row2_at ((hg1.block w.heap.size (by simp; omega) (by simp; omega)).trans ((hao _ _ _ (by simp)).trans (heap_alloc_new w _)))
    have z01 := bsz (show w.heap.size < w1.heap.size by omega)
    have HA := Lib.hid hA
    clear c1 f1 hg1 hA
    go_wp2_with fail
    refine bodyPost_ret (v := .agg #[.string s1, .slice none 0 0]) (by simp only [results, Tryz.results125]; go_simp) rfl ⟨_, rfl, GTn.leaf _ _ _ hs1 (by decide), ?_, ?_⟩
    · exact ((HC1.out.more (by omega) (by omega)).sc hlt _).sc hlt _
    · exact gr_sc (gr_sc HA.out (.inr (Nat.le_refl _)) _) (.inr (Nat.le_refl _)) _
  | succ f ih =>
    intro m d w h hm hd0 hd1 hf
    have hlt := h.lt
    have H := Lib.hid h
    have IH := Lib.hid ih
    have hne : w.heap.size ≠ g := by omega
    have hp1 : 4 * 2 ^ (f + 1 + 1) = 8 * 2 ^ (f + 1) := by rw [Nat.pow_succ]; omega
    have hp2 : 4 * 2 ^ (f + 1) = 8 * 2 ^ f := by rw [Nat.pow_succ]; omega
    have hp3 : 1 ≤ 2 ^ f := Nat.one_le_two_pow
    have hp4 : 2 ^ f ≤ 2 ^ 20 := Nat.pow_le_pow_right (by omega) (by omega)
    have hp5 : 2 ^ (f + 1) = 2 * 2 ^ f := by rw [Nat.pow_succ]; omega
    rw [hp1] at hm ⊢
    rw [hp2]
    clear h ih
    generalize 2 ^ (f + 1) = Q at *
    generalize 2 ^ f = P at *
    by_cases hd : d ≤ 1
    · go_enter Tryz.func125, Tryz.ntmps125
      go_wp2_with fail
      refine (of_pr nmV g m 1 7 (w.heap.size + 1) _ _ _ (by rfl) (by simp) (H.out.al _) (by omega) (by decide) (by decide) (by intro v hv; simp at hv; rcases hv with rfl | rfl | rfl | rfl | rfl | rfl | rfl <;> exact ⟨_, rfl, by decide⟩)).mono ?_
      rintro e w1 ⟨_, rfl, ⟨s1, rfl, hs1⟩, hc1, hg1⟩
      have HC1 := Lib.hid hc1
      clear hc1
      have ⟨c1, f1⟩ := gcell hg1
      have hz1 := hg1.size
      (try simp at hz1)
      have hA := gr_trans (gr_al (gr_al (gr_refl w g) _) _) hg1
      have ⟨r0, r1, rf⟩ := row2_at ((hg1.block w.heap.size (by simp; omega) (by simp; omega)).trans ((hao _ _ _ (by simp)).trans (heap_alloc_new w _)))
      have z01 := bsz (show w.heap.size < w1.heap.size by omega)
      have HA := Lib.hid hA
      clear c1 f1 hg1 hA
      go_wp2_with fail
      refine bodyPost_ret (v := .agg #[.string s1, .slice none 0 0]) (by simp only [results, Tryz.results125]; go_simp) rfl ⟨_, rfl, (GTn.leaf (W := 1) _ _ _ hs1 (by decide)).mono (by omega) (by omega) (SameOn.refl _ _) (fun _ h => h), ?_, ?_⟩
      · exact ((HC1.out.more (by omega) (by omega)).sc hlt _).sc hlt _
      · exact gr_sc (gr_sc HA.out (.inr (Nat.le_refl _)) _) (.inr (Nat.le_refl _)) _
    · go_enter Tryz.func125, Tryz.ntmps125
      go_wp2_with fail
      refine (one_any g m 3 _ (H.out.al _) (by omega) (by omega) (by omega)).mono ?_
      rintro e w1 ⟨_, rfl, ⟨b1, rfl⟩, hc1, hg1⟩
      have HC1 := Lib.hid hc1
      clear hc1
      have ⟨c1, f1⟩ := gcell hg1
      have hz1 := hg1.size
      (try simp at hz1)
      have hA1 := gr_trans (gr_al (gr_refl w g) _) hg1
      cases b1
      · go_wp2_with fail
        refine (one_any g (m + 2) 2 _ HC1.out (by omega) (by omega) (by omega)).mono ?_
        rintro e w2 ⟨_, rfl, ⟨b2, rfl⟩, hc2, hg2⟩
        have HC2 := Lib.hid hc2
        clear hc2
        have ⟨c2, f2⟩ := gcell hg2
        have hz2 := hg2.size
        (try simp at hz2)
        have hA2 := gr_trans hA1 hg2
        cases b2
        · go_wp2_with fail
          refine (IH.out (m + 4) (d - 1) _ HC2.out (by omega) (by omega) (by omega) (by omega)).mono ?_
          rintro e w3 ⟨_, rfl, ht3, hc3, hg3⟩
          have HC3 := Lib.hid hc3
          clear hc3
          have ⟨c3, f3⟩ := gcell hg3
          have hz3 := hg3.size
          (try simp at hz3)
          obtain ⟨s3, p3, k3, e3, rfl, -⟩ := ht3.form
          have HT3 := Lib.hid ht3
          have hA3 := gr_trans hA2 hg3
          clear ht3
          go_wp2_with fail
          refine (IH.out (m + 4 + (4 * Q - 4)) (d - 1) _ HC3.out (by omega) (by omega) (by omega) (by omega)).mono ?_
          rintro e w4 ⟨_, rfl, ht4, hc4, hg4⟩
          have HC4 := Lib.hid hc4
          clear hc4
          have ⟨c4, f4⟩ := gcell hg4
          have hz4 := hg4.size
          (try simp at hz4)
          obtain ⟨s4, p4, k4, e4, rfl, -⟩ := ht4.form
          have hA4 := gr_trans hA3 hg4
          have ⟨r0, r1, rf⟩ := row2_at (((gr_trans (gr_trans (gr_trans hg1 hg2) hg3) hg4).block w.heap.size (by simp) (by simpa using hne)).trans (heap_alloc_new w _))
          have HT3' := Lib.hid (HT3.out.mono (Nat.le_refl _) (Nat.le_refl _) (sameOn_grown hg4 (fun b hb => by have := hb.1; omega)) (fun _ h => h))
          have HT4 := Lib.hid ht4
          have z01 := bsz (show w.heap.size < w4.heap.size by omega)
          have HA := Lib.hid hA4
          have HZ := Lib.hid (show w.heap.size < w2.heap.size ∧ w2.heap.size ≤ w3.heap.size ∧ w3.heap.size ≤ w4.heap.size by omega)
          clear hA1 hA2 hA3 hA4 hg1 hg2 hg3 hg4 c1 f1 c2 f2 c3 f3 c4 f4 HT3 ht4
          go_wp2_with fail
          have hN : (⟨#[103]⟩ : ByteArray).size = 1 := rfl
          refine bodyPost_ret (v := .agg #[.string ⟨#[103]⟩, .slice (some ⟨w4.heap.size, 0, none⟩) 2 2]) (by simp only [results, Tryz.results125]; go_simp) rfl ⟨_, rfl, GTn.two (S := NewB w2 w3) (T := NewB w3 w4) (HT3'.out.mono (Nat.le_refl _) (Nat.le_refl _) (((SameOn.refl _ _).sc ?_ _).sc ?_ _) (fun _ h => h)) (HT4.out.mono (Nat.le_refl _) (Nat.le_refl _) (((SameOn.refl _ _).sc ?_ _).sc ?_ _) (fun _ h => h)) (by simp) (by decide) ?_ ?_ ?_ ?_ ?_ ?_ (by omega), ?_, ?_⟩
          all_goals first
            | exact ((((HC4.out.more (by omega) (by omega)).sc hlt _).sc hlt _).al _)
            | exact gr_al (gr_sc (gr_sc HA.out (.inr (Nat.le_refl _)) _) (.inr (Nat.le_refl _)) _) _
            | (intro b hb e; have := HZ.out; unfold NewB at hb; simp at e; omega)
            | (intro b hb; have := HZ.out; unfold NewB at hb ⊢; simp; omega)
            | (have := HZ.out; unfold NewB; simp; omega)
            | (intro b hb; exact hb.2)
            | (intro b hb; have := hb.2; have := HZ.out; omega)
            | (intro b hb hb'; have := hb.2; have := hb'.1; omega)
        · go_wp2_with fail
          refine (IH.out (m + 4) (d - 1) _ HC2.out (by omega) (by omega) (by omega) (by omega)).mono ?_
          rintro e w3 ⟨_, rfl, ht3, hc3, hg3⟩
          have HC3 := Lib.hid hc3
          clear hc3
          have ⟨c3, f3⟩ := gcell hg3
          have hz3 := hg3.size
          (try simp at hz3)
          obtain ⟨s3, p3, k3, e3, rfl, -⟩ := ht3.form
          have hA3 := gr_trans hA2 hg3
          have ⟨r0, r1, rf⟩ := row2_at (((gr_trans (gr_trans hg1 hg2) hg3).block w.heap.size (by simp) (by simpa using hne)).trans (heap_alloc_new w _))
          have HT4 := Lib.hid ht3
          have z01 := bsz (show w.heap.size < w3.heap.size by omega)
          have HA := Lib.hid hA3
          have HZ := Lib.hid (show w.heap.size < w2.heap.size ∧ w2.heap.size ≤ w3.heap.size by omega)
          clear hA1 hA2 hA3 hg1 hg2 hg3 c1 f1 c2 f2 c3 f3 ht3
          go_wp2_with fail
          have hN : (⟨#[102]⟩ : ByteArray).size = 1 := rfl
          refine bodyPost_ret (v := .agg #[.string ⟨#[102]⟩, .slice (some ⟨w3.heap.size, 0, none⟩) 1 1]) (by simp only [results, Tryz.results125]; go_simp) rfl ⟨_, rfl, GTn.one (S := NewB w2 w3) (HT4.out.mono (Nat.le_refl _) (Nat.le_refl _) (((SameOn.refl _ _).sc ?_ _).sc ?_ _) (fun _ h => h)) (by simp) (by decide) ?_ ?_ ?_ (by omega), ?_, ?_⟩
          all_goals first
            | exact ((((HC3.out.more (by omega) (by omega)).sc hlt _).sc hlt _).al _)
            | exact gr_al (gr_sc (gr_sc HA.out (.inr (Nat.le_refl _)) _) (.inr (Nat.le_refl _)) _) _
            | (intro b hb e; have := HZ.out; unfold NewB at hb; simp at e; omega)
            | (intro b hb; have := HZ.out; unfold NewB at hb ⊢; simp; omega)
            | (have := HZ.out; unfold NewB; simp; omega)
            | (intro b hb; exact hb.2)
      · go_wp2_with fail
        refine (of_pr nmV g (m + 2) 1 7 w1.heap.size _ _ _ (by rfl) (by simp) HC1.out (by omega) (by decide) (by decide) (by intro v hv; simp at hv; rcases hv with rfl | rfl | rfl | rfl | rfl | rfl | rfl <;> exact ⟨_, rfl, by decide⟩)).mono ?_
        rintro e w2 ⟨_, rfl, ⟨s1, rfl, hs1⟩, hc2, hg2⟩
        have HC2 := Lib.hid hc2
        clear hc2
        have ⟨c2, f2⟩ := gcell hg2
        have hz2 := hg2.size
        (try simp at hz2)
        have hA2 := gr_trans (gr_al hA1 _) hg2
        have ⟨r0, r1, rf⟩ := row2_at (((gr_trans (gr_al hg1 _) hg2).block w.heap.size (by simp) (by simpa using hne)).trans (heap_alloc_new w _))
        have z01 := bsz (show w.heap.size < w2.heap.size by omega)
        have HA := Lib.hid hA2
        clear c1 f1 c2 f2 hg1 hg2 hA1 hA2
        go_wp2_with fail
        refine bodyPost_ret (v := .agg #[.string s1, .slice none 0 0]) (by simp only [results, Tryz.results125]; go_simp) rfl ⟨_, rfl, (GTn.leaf (W := 1) _ _ _ hs1 (by decide)).mono (by omega) (by omega) (SameOn.refl _ _) (fun _ h => h), ?_, ?_⟩
        · exact ((HC2.out.more (by omega) (by omega)).sc hlt _).sc hlt _
        · exact gr_sc (gr_sc HA.out (.inr (Nat.le_refl _)) _) (.inr (Nat.le_refl _)) _
set_option maxHeartbeats 1600000 in
theorem term_val (g m : Nat) (w : World) (h : Cur w g m) (hm : m + 34 ≤ 1000000000) :
    Calls Tryz.prog 96 #[.pointer (some ⟨g, 0, none⟩)] w (StepO g m 30 (fun w' v => GTn 3 13 (NewB w w') w' v) w) := by
  have hlt := h.lt
  have H := Lib.hid h
  have hne : w.heap.size ≠ g := by omega
  clear h
  go_enter Tryz.func96, Tryz.ntmps96
  go_wp2_with fail
  refine (pick_any g m 3 _ (H.out.al _) (by omega) (by omega) (by omega)).mono ?_
  rintro e w1 ⟨_, rfl, ⟨r, rfl, hr0, hr1⟩, hc1, hg1⟩
  have HC1 := Lib.hid hc1
  clear hc1
  have ⟨c1, f1⟩ := gcell hg1
  have hz1 := hg1.size
  (try simp at hz1)
  go_wp2_with fail
  refine (grown_val g 2 (m + 2) (1 + r) _ HC1.out (by omega) (by omega) (by omega) (by omega)).mono ?_
  rintro e w2 ⟨_, rfl, ht, hc2, hg2⟩
  have HC2 := Lib.hid hc2
  clear hc2
  have ⟨c2, f2⟩ := gcell hg2
  have hz2 := hg2.size
  (try simp at hz2)
  obtain ⟨s3, p3, k3, e3, rfl, -⟩ := ht.form
  have ⟨r0, r1, rf⟩ := agg2_cells (gr_trans hg1 hg2) rfl hne
  have HA := Lib.hid (gr_trans (gr_trans (gr_al (gr_refl w g) _) hg1) hg2)
  have HT := Lib.hid ht
  have z01 := bsz (show w.heap.size < w2.heap.size by omega)
  have HZ := Lib.hid (show w.heap.size < w1.heap.size ∧ w1.heap.size ≤ w2.heap.size by omega)
  clear hg1 hg2 c1 f1 c2 f2 ht
  go_wp2_with fail
  refine bodyPost_ret (v := .agg #[.string s3, .slice p3 k3 e3]) (by simp only [results, Tryz.results96]; go_simp) rfl ⟨_, rfl, HT.out.mono (Nat.le_refl _) (by decide) (((SameOn.refl _ _).sc ?_ _).sc ?_ _) ?_, ?_, ?_⟩
  · intro b hb e; have := HZ.out; unfold NewB at hb; simp at e; omega
  · intro b hb e; have := HZ.out; unfold NewB at hb; simp at e; omega
  · intro b hb; have := HZ.out; unfold NewB at hb ⊢; simp; omega
  · exact (((HC2.out.more (by omega) (by omega)).sc hlt _).sc hlt _)
  · exact gr_sc (gr_sc HA.out (.inr (Nat.le_refl _)) _) (.inr (Nat.le_refl _)) _
set_option maxHeartbeats 1600000 in
theorem atom_val (g m : Nat) (w : World) (h : Cur w g m) (hm : m + 70 ≤ 1000000000) :
    Calls Tryz.prog 93 #[.pointer (some ⟨g, 0, none⟩)] w (StepO g m 62 (fun w' v => GTa 4 29 (NewB w w') w' v) w) := by
  have hlt := h.lt
  have H := Lib.hid h
  have hne : w.heap.size ≠ g := by omega
  clear h
  go_enter Tryz.func93, Tryz.ntmps93
  go_wp2_with fail
  refine (pick_any g m 8 _ (H.out.al _) (by omega) (by omega) (by omega)).mono ?_
  rintro e w1 ⟨_, rfl, ⟨r, rfl, hr0, hr1⟩, hc1, hg1⟩
  have HC1 := Lib.hid hc1
  clear hc1
  have ⟨c1, f1⟩ := gcell hg1
  have hz1 := hg1.size
  (try simp at hz1)
  rcases (by omega : r = 0 ∨ r = 1 ∨ r = 2 ∨ r = 3 ∨ r = 4 ∨ (4 < r ∧ r ≤ 7)) with rfl | rfl | rfl | rfl | rfl | ⟨hra, hrb⟩
  · go_wp2_with fail
    refine (term_val g (m + 2) _ HC1.out (by omega)).mono ?_
    rintro e w2 ⟨_, rfl, ht3, hc2, hg2⟩
    have HC2 := Lib.hid hc2
    clear hc2
    have ⟨c2, f2⟩ := gcell hg2
    have hz2 := hg2.size
    (try simp at hz2)
    obtain ⟨s3, p3, k3, e3, rfl, -⟩ := ht3.form
    have HT3 := Lib.hid ht3
    clear ht3
    go_wp2_with fail
    refine (term_val g (m + 2 + 30) _ HC2.out (by omega)).mono ?_
    rintro e w3 ⟨_, rfl, ht4, hc3, hg3⟩
    have HC3 := Lib.hid hc3
    clear hc3
    have ⟨c3, f3⟩ := gcell hg3
    have hz3 := hg3.size
    (try simp at hz3)
    obtain ⟨s4, p4, k4, e4, rfl, -⟩ := ht4.form
    have HT4 := Lib.hid ht4
    have HT3' := Lib.hid (HT3.out.mono (Nat.le_refl _) (Nat.le_refl _) (sameOn_grown hg3 (fun b hb => by have := hb.1; omega)) (fun _ h => h))
    have ⟨r0, r1, rf⟩ := row2_at (((gr_trans (gr_trans hg1 hg2) hg3).block w.heap.size (by simp) (by simpa using hne)).trans (heap_alloc_new w _))
    have z01 := bsz (show w.heap.size < w3.heap.size by omega)
    have HA := Lib.hid (gr_trans (gr_trans (gr_trans (gr_al (gr_refl w g) _) hg1) hg2) hg3)
    have HZ := Lib.hid (show w.heap.size < w1.heap.size ∧ w1.heap.size ≤ w2.heap.size ∧ w2.heap.size ≤ w3.heap.size by omega)
    clear hg1 hg2 hg3 c1 f1 c2 f2 c3 f3 HT3 ht4
    go_wp2_with fail
    have hN : (⟨#[61]⟩ : ByteArray).size = 1 := rfl
    refine bodyPost_ret (v := .agg #[.string ⟨#[61]⟩, .slice (some ⟨w3.heap.size, 0, none⟩) 2 2]) (by simp only [results, Tryz.results93]; go_simp) rfl ⟨_, rfl, GTa.mono (GTa.two (W' := 29) (S := NewB w1 w2) (T := NewB w2 w3) (HT3'.out.mono (Nat.le_refl _) (Nat.le_refl _) (((SameOn.refl _ _).sc ?_ _).sc ?_ _) (fun _ h => h)) (HT4.out.mono (Nat.le_refl _) (Nat.le_refl _) (((SameOn.refl _ _).sc ?_ _).sc ?_ _) (fun _ h => h)) (by simp) (by decide) ?_ ?_ ?_ ?_ ?_ ?_ (by omega)) (by omega) (by omega) (SameOn.refl _ _) (fun _ h => h), ?_, ?_⟩
    all_goals first
      | exact ((((HC3.out.more (by omega) (by omega)).sc hlt _).sc hlt _).al _)
      | exact gr_al (gr_sc (gr_sc HA.out (.inr (Nat.le_refl _)) _) (.inr (Nat.le_refl _)) _) _
      | (intro b hb e; have := HZ.out; unfold NewB at hb; simp at e; omega)
      | (intro b hb; have := HZ.out; unfold NewB at hb ⊢; simp; omega)
      | (have := HZ.out; unfold NewB; simp; omega)
      | (intro b hb; exact hb.2)
      | (intro b hb; have := hb.2; have := HZ.out; omega)
      | (intro b hb hb'; have := hb.2; have := hb'.1; omega)
  · go_wp2_with fail
    refine (term_val g (m + 2) _ HC1.out (by omega)).mono ?_
    rintro e w2 ⟨_, rfl, ht3, hc2, hg2⟩
    have HC2 := Lib.hid hc2
    clear hc2
    have ⟨c2, f2⟩ := gcell hg2
    have hz2 := hg2.size
    (try simp at hz2)
    obtain ⟨s3, p3, k3, e3, rfl, -⟩ := ht3.form
    have HT3 := Lib.hid ht3
    clear ht3
    go_wp2_with fail
    refine (term_val g (m + 2 + 30) _ HC2.out (by omega)).mono ?_
    rintro e w3 ⟨_, rfl, ht4, hc3, hg3⟩
    have HC3 := Lib.hid hc3
    clear hc3
    have ⟨c3, f3⟩ := gcell hg3
    have hz3 := hg3.size
    (try simp at hz3)
    obtain ⟨s4, p4, k4, e4, rfl, -⟩ := ht4.form
    have HT4 := Lib.hid ht4
    have HT3' := Lib.hid (HT3.out.mono (Nat.le_refl _) (Nat.le_refl _) (sameOn_grown hg3 (fun b hb => by have := hb.1; omega)) (fun _ h => h))
    have ⟨r0, r1, rf⟩ := row2_at (((gr_trans (gr_trans hg1 hg2) hg3).block w.heap.size (by simp) (by simpa using hne)).trans (heap_alloc_new w _))
    have z01 := bsz (show w.heap.size < w3.heap.size by omega)
    have HA := Lib.hid (gr_trans (gr_trans (gr_trans (gr_al (gr_refl w g) _) hg1) hg2) hg3)
    have HZ := Lib.hid (show w.heap.size < w1.heap.size ∧ w1.heap.size ≤ w2.heap.size ∧ w2.heap.size ≤ w3.heap.size by omega)
    clear hg1 hg2 hg3 c1 f1 c2 f2 c3 f3 HT3 ht4
    go_wp2_with fail
    have hN : (⟨#[61]⟩ : ByteArray).size = 1 := rfl
    refine bodyPost_ret (v := .agg #[.string ⟨#[61]⟩, .slice (some ⟨w3.heap.size, 0, none⟩) 2 2]) (by simp only [results, Tryz.results93]; go_simp) rfl ⟨_, rfl, GTa.mono (GTa.two (W' := 29) (S := NewB w1 w2) (T := NewB w2 w3) (HT3'.out.mono (Nat.le_refl _) (Nat.le_refl _) (((SameOn.refl _ _).sc ?_ _).sc ?_ _) (fun _ h => h)) (HT4.out.mono (Nat.le_refl _) (Nat.le_refl _) (((SameOn.refl _ _).sc ?_ _).sc ?_ _) (fun _ h => h)) (by simp) (by decide) ?_ ?_ ?_ ?_ ?_ ?_ (by omega)) (by omega) (by omega) (SameOn.refl _ _) (fun _ h => h), ?_, ?_⟩
    all_goals first
      | exact ((((HC3.out.more (by omega) (by omega)).sc hlt _).sc hlt _).al _)
      | exact gr_al (gr_sc (gr_sc HA.out (.inr (Nat.le_refl _)) _) (.inr (Nat.le_refl _)) _) _
      | (intro b hb e; have := HZ.out; unfold NewB at hb; simp at e; omega)
      | (intro b hb; have := HZ.out; unfold NewB at hb ⊢; simp; omega)
      | (have := HZ.out; unfold NewB; simp; omega)
      | (intro b hb; exact hb.2)
      | (intro b hb; have := hb.2; have := HZ.out; omega)
      | (intro b hb hb'; have := hb.2; have := hb'.1; omega)
  · have ⟨r0, r1, rf⟩ := agg2_cells hg1 rfl hne
    have z01 := bsz (show w.heap.size < w1.heap.size by omega)
    have HA := Lib.hid (gr_trans (gr_al (gr_refl w g) _) hg1)
    have hN : (⟨#[114]⟩ : ByteArray).size ≤ 1 ∧ nmS ⟨#[114]⟩ = true := ⟨Nat.le_refl _, by decide⟩
    clear hg1 c1 f1
    go_wp2_with fail
    refine bodyPost_ret (v := .agg #[.string ⟨#[114]⟩, .slice none 0 0]) (by simp only [results, Tryz.results93]; go_simp) rfl ⟨_, rfl, (GTa.leaf (W := 1) _ _ _ hN (by decide)).mono (by omega) (by omega) (SameOn.refl _ _) (fun _ h => h), ?_, ?_⟩
    · exact ((HC1.out.more (by omega) (by omega)).sc hlt _).sc hlt _
    · exact gr_sc (gr_sc HA.out (.inr (Nat.le_refl _)) _) (.inr (Nat.le_refl _)) _
  · go_wp2_with fail
    refine (grown_val g 1 (m + 2) 2 _ HC1.out (by omega) (by omega) (by omega) (by omega)).mono ?_
    rintro e w2 ⟨_, rfl, ht3, hc2, hg2⟩
    have HC2 := Lib.hid hc2
    clear hc2
    have ⟨c2, f2⟩ := gcell hg2
    have hz2 := hg2.size
    (try simp at hz2)
    obtain ⟨s3, p3, k3, e3, rfl, -⟩ := ht3.form
    have HT3 := Lib.hid ht3
    clear ht3
    go_wp2_with fail
    refine (grown_val g 1 (m + 2 + (4 * 2 ^ (1 + 1) - 4)) 2 _ HC2.out (by omega) (by omega) (by omega) (by omega)).mono ?_
    rintro e w3 ⟨_, rfl, ht4, hc3, hg3⟩
    have HC3 := Lib.hid hc3
    clear hc3
    have ⟨c3, f3⟩ := gcell hg3
    have hz3 := hg3.size
    (try simp at hz3)
    obtain ⟨s4, p4, k4, e4, rfl, -⟩ := ht4.form
    have HT4 := Lib.hid ht4
    have HT3' := Lib.hid (HT3.out.mono (Nat.le_refl _) (Nat.le_refl _) (sameOn_grown hg3 (fun b hb => by have := hb.1; omega)) (fun _ h => h))
    have ⟨r0, r1, rf⟩ := row2_at (((gr_trans (gr_trans hg1 hg2) hg3).block w.heap.size (by simp) (by simpa using hne)).trans (heap_alloc_new w _))
    have z01 := bsz (show w.heap.size < w3.heap.size by omega)
    have HA := Lib.hid (gr_trans (gr_trans (gr_trans (gr_al (gr_refl w g) _) hg1) hg2) hg3)
    have HZ := Lib.hid (show w.heap.size < w1.heap.size ∧ w1.heap.size ≤ w2.heap.size ∧ w2.heap.size ≤ w3.heap.size by omega)
    clear hg1 hg2 hg3 c1 f1 c2 f2 c3 f3 HT3 ht4
    go_wp2_with fail
    have hN : (⟨#[113]⟩ : ByteArray).size = 1 := rfl
    refine bodyPost_ret (v := .agg #[.string ⟨#[113]⟩, .slice (some ⟨w3.heap.size, 0, none⟩) 2 2]) (by simp only [results, Tryz.results93]; go_simp) rfl ⟨_, rfl, GTa.mono (GTa.two (W' := 15) (S := NewB w1 w2) (T := NewB w2 w3) (HT3'.out.mono (Nat.le_refl _) (Nat.le_refl _) (((SameOn.refl _ _).sc ?_ _).sc ?_ _) (fun _ h => h)) (HT4.out.mono (Nat.le_refl _) (Nat.le_refl _) (((SameOn.refl _ _).sc ?_ _).sc ?_ _) (fun _ h => h)) (by simp) (by decide) ?_ ?_ ?_ ?_ ?_ ?_ (by omega)) (by omega) (by omega) (SameOn.refl _ _) (fun _ h => h), ?_, ?_⟩
    all_goals first
      | exact ((((HC3.out.more (by omega) (by omega)).sc hlt _).sc hlt _).al _)
      | exact gr_al (gr_sc (gr_sc HA.out (.inr (Nat.le_refl _)) _) (.inr (Nat.le_refl _)) _) _
      | (intro b hb e; have := HZ.out; unfold NewB at hb; simp at e; omega)
      | (intro b hb; have := HZ.out; unfold NewB at hb ⊢; simp; omega)
      | (have := HZ.out; unfold NewB; simp; omega)
      | (intro b hb; exact hb.2)
      | (intro b hb; have := hb.2; have := HZ.out; omega)
      | (intro b hb hb'; have := hb.2; have := hb'.1; omega)
  · go_wp2_with fail
    refine (grown_val g 1 (m + 2) 2 _ HC1.out (by omega) (by omega) (by omega) (by omega)).mono ?_
    rintro e w2 ⟨_, rfl, ht3, hc2, hg2⟩
    have HC2 := Lib.hid hc2
    clear hc2
    have ⟨c2, f2⟩ := gcell hg2
    have hz2 := hg2.size
    (try simp at hz2)
    obtain ⟨s3, p3, k3, e3, rfl, -⟩ := ht3.form
    have HT3 := Lib.hid ht3
    clear ht3
    go_wp2_with fail
    refine (grown_val g 1 (m + 2 + (4 * 2 ^ (1 + 1) - 4)) 2 _ HC2.out (by omega) (by omega) (by omega) (by omega)).mono ?_
    rintro e w3 ⟨_, rfl, ht4, hc3, hg3⟩
    have HC3 := Lib.hid hc3
    clear hc3
    have ⟨c3, f3⟩ := gcell hg3
    have hz3 := hg3.size
    (try simp at hz3)
    obtain ⟨s4, p4, k4, e4, rfl, -⟩ := ht4.form
    have HT4 := Lib.hid ht4
    have HT3' := Lib.hid (HT3.out.mono (Nat.le_refl _) (Nat.le_refl _) (sameOn_grown hg3 (fun b hb => by have := hb.1; omega)) (fun _ h => h))
    have ⟨r0, r1, rf⟩ := row2_at (((gr_trans (gr_trans hg1 hg2) hg3).block w.heap.size (by simp) (by simpa using hne)).trans (heap_alloc_new w _))
    have z01 := bsz (show w.heap.size < w3.heap.size by omega)
    have HA := Lib.hid (gr_trans (gr_trans (gr_trans (gr_al (gr_refl w g) _) hg1) hg2) hg3)
    have HZ := Lib.hid (show w.heap.size < w1.heap.size ∧ w1.heap.size ≤ w2.heap.size ∧ w2.heap.size ≤ w3.heap.size by omega)
    clear hg1 hg2 hg3 c1 f1 c2 f2 c3 f3 HT3 ht4
    go_wp2_with fail
    have hN : (⟨#[113]⟩ : ByteArray).size = 1 := rfl
    refine bodyPost_ret (v := .agg #[.string ⟨#[113]⟩, .slice (some ⟨w3.heap.size, 0, none⟩) 2 2]) (by simp only [results, Tryz.results93]; go_simp) rfl ⟨_, rfl, GTa.mono (GTa.two (W' := 15) (S := NewB w1 w2) (T := NewB w2 w3) (HT3'.out.mono (Nat.le_refl _) (Nat.le_refl _) (((SameOn.refl _ _).sc ?_ _).sc ?_ _) (fun _ h => h)) (HT4.out.mono (Nat.le_refl _) (Nat.le_refl _) (((SameOn.refl _ _).sc ?_ _).sc ?_ _) (fun _ h => h)) (by simp) (by decide) ?_ ?_ ?_ ?_ ?_ ?_ (by omega)) (by omega) (by omega) (SameOn.refl _ _) (fun _ h => h), ?_, ?_⟩
    all_goals first
      | exact ((((HC3.out.more (by omega) (by omega)).sc hlt _).sc hlt _).al _)
      | exact gr_al (gr_sc (gr_sc HA.out (.inr (Nat.le_refl _)) _) (.inr (Nat.le_refl _)) _) _
      | (intro b hb e; have := HZ.out; unfold NewB at hb; simp at e; omega)
      | (intro b hb; have := HZ.out; unfold NewB at hb ⊢; simp; omega)
      | (have := HZ.out; unfold NewB; simp; omega)
      | (intro b hb; exact hb.2)
      | (intro b hb; have := hb.2; have := HZ.out; omega)
      | (intro b hb hb'; have := hb.2; have := hb'.1; omega)
  · have e0 : (r == 0) = false := by simp; omega
    have e1 : (r == 1) = false := by simp; omega
    have e2 : (r == 2) = false := by simp; omega
    have e3 : (r == 3) = false := by simp; omega
    have e4 : (r == 4) = false := by simp; omega
    go_wp2_with fail
    refine (grown_val g 1 (m + 2) 2 _ HC1.out (by omega) (by omega) (by omega) (by omega)).mono ?_
    rintro e w2 ⟨_, rfl, ht3, hc2, hg2⟩
    have HC2 := Lib.hid hc2
    clear hc2
    have ⟨c2, f2⟩ := gcell hg2
    have hz2 := hg2.size
    (try simp at hz2)
    obtain ⟨s3, p3, k3, c3, rfl, -⟩ := ht3.form
    have ⟨r0, r1, rf⟩ := agg2_cells (gr_trans hg1 hg2) rfl hne
    have HT := Lib.hid ht3
    have z01 := bsz (show w.heap.size < w2.heap.size by omega)
    have HA := Lib.hid (gr_trans (gr_trans (gr_al (gr_refl w g) _) hg1) hg2)
    have HZ := Lib.hid (show w.heap.size < w1.heap.size ∧ w1.heap.size ≤ w2.heap.size by omega)
    clear hg1 hg2 c1 f1 c2 f2 ht3
    go_wp2_with fail
    have hN : (⟨#[112]⟩ : ByteArray).size = 1 := rfl
    refine bodyPost_ret (v := .agg #[.string ⟨#[112]⟩, .slice (some ⟨w2.heap.size, 0, none⟩) 1 1]) (by simp only [results, Tryz.results93]; go_simp) rfl ⟨_, rfl, GTa.mono (GTa.one (W' := 7) (S := NewB w1 w2) (HT.out.mono (Nat.le_refl _) (Nat.le_refl _) (((SameOn.refl _ _).sc ?_ _).sc ?_ _) (fun _ h => h)) (by simp) (by decide) ?_ ?_ ?_ (by omega)) (by omega) (by omega) (SameOn.refl _ _) (fun _ h => h), ?_, ?_⟩
    all_goals first
      | exact ((((HC2.out.more (by omega) (by omega)).sc hlt _).sc hlt _).al _)
      | exact gr_al (gr_sc (gr_sc HA.out (.inr (Nat.le_refl _)) _) (.inr (Nat.le_refl _)) _) _
      | (intro b hb e; have := HZ.out; unfold NewB at hb; simp at e; omega)
      | (intro b hb; have := HZ.out; unfold NewB at hb ⊢; simp; omega)
      | (have := HZ.out; unfold NewB; simp; omega)
      | (intro b hb; exact hb.2)
end Go.Proofs.YtkgfanajgdelcaaGreat
