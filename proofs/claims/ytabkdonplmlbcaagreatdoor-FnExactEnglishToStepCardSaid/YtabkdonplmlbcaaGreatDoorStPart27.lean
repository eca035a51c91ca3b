import Derived.Test.YtabkdonplmlbcaaGreatDoorStPart26
namespace Go.Proofs.YtabkdonplmlbcaaGreatDoor
open Go.RowKit
def StabG (G : (Nat → Prop) → World → Prop) : Prop := ∀ F w w', (∀ b, F b → w'.heap[b]? = w.heap[b]?) → w.heap.size ≤ w'.heap.size → G F w → G F w'
abbrev RI : World → (Nat → Prop) → Int → List Value → Prop := fun _ _ n cs => IntAt n cs
theorem RI.stab : StabR RI := fun _ _ _ _ _ _ _ h => h
def ApI (eT : TypeId) (G0 G1 : (Nat → Prop) → World → Prop) (bt ci : Nat) (cells : Array Value) (bT : TypeId) (v : Value) (us : List Int) (ix ib ia is : Nat) (m n : Int) : Foots := fun i u F w =>
 if i = 1000 then OwnRow F w eT 1 (RI w) v us
 else if i = 1001 then w.heap[bt]? = some (.cells cells bT (0, 0)) ∧ F bt
 else if i = 1002 then G0 F w
 else if i = ix then u ix = .int .i64 m ∧ G1 F w
 else if i = ib then ∃ k : Nat, u ib = .slice (some ⟨k, 0, none⟩) 1 1 ∧ w.heap[k]? = some (.cells #[.int .i64 n] eT (0, 0)) ∧ F k
 else if i = ia then OwnRow F w eT 1 (RI w) (u ia) (us ++ [n])
 else if i = is then ∃ F1 : Nat → Prop, OwnRow F1 w eT 1 (RI w) (u ia) (us ++ [n]) ∧ w.heap[bt]? = some (.cells (cells.setIfInBounds ci (u ia)) bT (0, 0)) ∧ F bt ∧ ∀ b, F1 b → F b ∧ b ≠ bt
 else True
def aiS (ix ib ia is : Nat) : Skel := [(1000, some ia, []), (1001, some is, []), (1002, some ix, []), (ix, none, [ix]), (ib, some ia, [ib]), (ia, some is, [ia]), (is, none, [ia])]
section
variable {eT : TypeId} {G0 G1 : (Nat → Prop) → World → Prop} {bt ci : Nat} {cells : Array Value} {bT : TypeId} {v : Value} {us : List Int} {ix ib ia is : Nat} {m n : Int}
theorem ApI.qrow (u : Nat → Value) (F : Nat → Prop) (w : World) : ApI eT G0 G1 bt ci cells bT v us ix ib ia is m n 1000 u F w = OwnRow F w eT 1 (RI w) v us := by rw [ApI, if_pos rfl]
theorem ApI.qbox (u : Nat → Value) (F : Nat → Prop) (w : World) : ApI eT G0 G1 bt ci cells bT v us ix ib ia is m n 1001 u F w = (w.heap[bt]? = some (.cells cells bT (0, 0)) ∧ F bt) := by rw [ApI, if_neg (by decide), if_pos rfl]
theorem ApI.qrd (u : Nat → Value) (F : Nat → Prop) (w : World) : ApI eT G0 G1 bt ci cells bT v us ix ib ia is m n 1002 u F w = G0 F w := by rw [ApI, if_neg (by decide), if_neg (by decide), if_pos rfl]
theorem ApI.qix (h4 : Four ix ib ia is) (u : Nat → Value) (F : Nat → Prop) (w : World) : ApI eT G0 G1 bt ci cells bT v us ix ib ia is m n ix u F w = (u ix = .int .i64 m ∧ G1 F w) := by
 have := h4.l
 rw [ApI, if_neg (by omega), if_neg (by omega), if_neg (by omega), if_pos rfl]
theorem ApI.qib (h4 : Four ix ib ia is) (u : Nat → Value) (F : Nat → Prop) (w : World) : ApI eT G0 G1 bt ci cells bT v us ix ib ia is m n ib u F w = ∃ k : Nat, u ib = .slice (some ⟨k, 0, none⟩) 1 1 ∧ w.heap[k]? = some (.cells #[.int .i64 n] eT (0, 0)) ∧ F k := by
 have := h4.l
 have := h4.d
 rw [ApI, if_neg (by omega), if_neg (by omega), if_neg (by omega), if_neg (by omega), if_pos rfl]
theorem ApI.qia (h4 : Four ix ib ia is) (u : Nat → Value) (F : Nat → Prop) (w : World) : ApI eT G0 G1 bt ci cells bT v us ix ib ia is m n ia u F w = OwnRow F w eT 1 (RI w) (u ia) (us ++ [n]) := by
 have := h4.l
 have := h4.d
 rw [ApI, if_neg (by omega), if_neg (by omega), if_neg (by omega), if_neg (by omega), if_neg (by omega), if_pos rfl]
theorem ApI.qis (h4 : Four ix ib ia is) (u : Nat → Value) (F : Nat → Prop) (w : World) : ApI eT G0 G1 bt ci cells bT v us ix ib ia is m n is u F w = ∃ F1 : Nat → Prop, OwnRow F1 w eT 1 (RI w) (u ia) (us ++ [n]) ∧ w.heap[bt]? = some (.cells (cells.setIfInBounds ci (u ia)) bT (0, 0)) ∧ F bt ∧ ∀ b, F1 b → F b ∧ b ≠ bt := by
 have := h4.l
 have := h4.d
 rw [ApI, if_neg (by omega), if_neg (by omega), if_neg (by omega), if_neg (by omega), if_neg (by omega), if_neg (by omega), if_pos rfl]
theorem ApI.qok (hG0 : StabG G0) (hG1 : StabG G1) (h4 : Four ix ib ia is) : FootsOk (aiS ix ib ia is) (ApI eT G0 G1 bt ci cells bT v us ix ib ia is m n) := by
 refine ⟨fun i u F w w' hs hz hf h => ?_, fun s hs u u' F w hu h => ?_⟩
 ·unfold ApI at h ⊢
  by_cases h1 : i = 1000
  ·rw [if_pos h1] at h ⊢; exact h.stab RI.stab hs hz
  rw [if_neg h1] at h ⊢
  by_cases h2 : i = 1001
  ·rw [if_pos h2] at h ⊢; exact ⟨(hs _ h.2).trans h.1, h.2⟩
  rw [if_neg h2] at h ⊢
  by_cases h3 : i = 1002
  ·rw [if_pos h3] at h ⊢; exact hG0 _ _ _ hs hz h
  rw [if_neg h3] at h ⊢
  by_cases h5 : i = ix
  ·rw [if_pos h5] at h ⊢; exact ⟨h.1, hG1 _ _ _ hs hz h.2⟩
  rw [if_neg h5] at h ⊢
  by_cases h6 : i = ib
  ·rw [if_pos h6] at h ⊢
   obtain ⟨k, g1, g2, g3⟩ := h
   exact ⟨k, g1, (hs k g3).trans g2, g3⟩
  rw [if_neg h6] at h ⊢
  by_cases h7 : i = ia
  ·rw [if_pos h7] at h ⊢; exact h.stab RI.stab hs hz
  rw [if_neg h7] at h ⊢
  by_cases h8 : i = is
  ·rw [if_pos h8] at h ⊢
   obtain ⟨F1, g1, g2, g3, g4⟩ := h
   exact ⟨F1, g1.stab RI.stab (fun b hb => hs b (g4 b hb).1) hz, (hs _ g3).trans g2, g3, g4⟩
  rw [if_neg h8]; trivial
 ·simp only [aiS, List.mem_cons, List.not_mem_nil, or_false] at hs
  rcases hs with rfl | rfl | rfl | rfl | rfl | rfl | rfl
  ·rw [ApI.qrow] at h ⊢; exact h
  ·rw [ApI.qbox] at h ⊢; exact h
  ·rw [ApI.qrd] at h ⊢; exact h
  ·simp only at h ⊢
   rw [ApI.qix h4] at h ⊢; rw [hu ix (by simp)]; exact h
  ·simp only at h ⊢
   rw [ApI.qib h4] at h ⊢; rw [hu ib (by simp)]; exact h
  ·simp only at h ⊢
   rw [ApI.qia h4] at h ⊢; rw [hu ia (by simp)]; exact h
  ·simp only at h ⊢
   rw [ApI.qis h4] at h ⊢; rw [hu ia (by simp)]; exact h
end
structure FourT (T : DetL) (ix ib ia is : Nat) : Prop where
 f : Four ix ib ia is
 t : ∀ i, i = ix ∨ i = ib ∨ i = ia ∨ i = is → (T.map (·.1)).contains i = false
def decV : Value → Value
 | .int k n => .int k (n - 1)
 | v => v
abbrev AiD (eT : TypeId) (G0 G1 : (Nat → Prop) → World → Prop) (bt ci : Nat) (cells : Array Value) (bT : TypeId) (v : Value) (us : List Int) (ix ib ia is : Nat) (m n : Int) (T : DetL) (ops : Array Oper) (W : World) (X0 : Nat → Prop) : (Nat → Value) → Array Bool → World → Prop :=
 FtD ops W X0 (aiS ix ib ia is) (ApI eT G0 G1 bt ci cells bT v us ix ib ia is m n) T
section
variable {eT : TypeId} {G0 G1 : (Nat → Prop) → World → Prop} {bt ci : Nat} {cells : Array Value} {bT : TypeId} {v : Value} {us : List Int} {ix ib ia is : Nat} {m n : Int} {T : DetL} {ops : Array Oper} {W w w' : World} {X0 : Nat → Prop} {u : Nat → Value} {L : Array Bool} {o : Oper}
theorem AiD.call (h : AiD eT G0 G1 bt ci cells bT v us ix ib ia is m n T ops W X0 u L w) (hG0 : StabG G0) (hG1 : StabG G1) (h4 : FourT T ix ib ia is) (hok : skelOk ops 16 (aiS ix ib ia is) = true) (ho : ops[ix]? = some o) (hb : Behind .any o L) (hun : L.getD ix true = false) :
  ∃ F : Nat → Prop, G0 F w ∧ (∀ b, F b → (X0 b ∨ W.heap.size ≤ b) ∧ b < w.heap.size) ∧ ∀ (w' : World) (F' : Nat → Prop), Kp F w w' → (∀ b, F' b → F b ∨ w.heap.size ≤ b) → (∀ b, F' b → b < w'.heap.size) → G1 F' w' → AiD eT G0 G1 bt ci cells bT v us ix ib ia is m n T ops W X0 (upd u ix (.int .i64 m)) (L.setIfInBounds ix true) w' := by
 obtain ⟨⟨Fo, hI⟩, hT⟩ := h
 have l0 := hI.live_of (s := (1002, some ix, [])) hok ho hb hun (by simp [aiS]) rfl
 have q0 := hI.q _ (by simp [aiS]) l0
 have f0 := hI.fo _ (by simp [aiS]) l0
 simp only at q0 f0
 rw [ApI.qrd] at q0
 refine ⟨Fo 1002, q0, f0, fun w' F' hk hF hF2 hg => ⟨⟨_, hI.act hok (ApI.qok hG0 hG1 h4.f) ho hb hun _ F' ?_ (fun b e => (hF b e).imp (fun e => ⟨(1002, some ix, []), by simp [aiS], rfl, e⟩) id) hF2 (fun s _ _ => ?_)⟩, hT.skip hun _ (h4.t _ (.inl rfl))⟩⟩
 ·exact hk.mono (fun b e => .inl ⟨(1002, some ix, []), by simp [aiS], rfl, e⟩)
 ·rw [ApI.qix h4.f, upd_same]; exact ⟨rfl, hg⟩
theorem AiD.val (h : AiD eT G0 G1 bt ci cells bT v us ix ib ia is m n T ops W X0 u L w) (h4 : FourT T ix ib ia is) (hd : L.getD ix false = true) : u ix = .int .i64 m := by
 obtain ⟨⟨Fo, hI⟩, -⟩ := h
 have := hI.q (ix, none, [ix]) (by simp [aiS]) ⟨getD_ff hd, fun c hc => by cases hc⟩
 simp only at this
 rw [ApI.qix h4.f] at this
 exact this.1
theorem AiD.dec {iv : Nat} (h : AiD eT G0 G1 bt ci cells bT v us ix ib ia is m n [(iv, ix, decV)] ops W X0 u L w) (hG0 : StabG G0) (hG1 : StabG G1) (h4 : Four ix ib ia is) (hok : skelOk ops 16 (aiS ix ib ia is) = true) (ho : ops[iv]? = some o) (hb : Behind .any o L) (hun : L.getD iv true = false) (hS : ((aiS ix ib ia is).all fun s => s.1 != iv) = true) (hp : L.getD ix false = true) :
  AiD eT G0 G1 bt ci cells bT v us ix ib ia is m n [(iv, ix, decV)] ops W X0 (upd u iv (decV (u ix))) (L.setIfInBounds iv true) w :=
 FtD.det (n := 16) (k := iv) (p := ix) (φ := decV) h hok (ApI.qok hG0 hG1 h4) ho hb hun hS hp _ rfl (by intro t ht e; simpa using ht)
theorem AiD.dech {iv : Nat} (h : AiD eT G0 G1 bt ci cells bT v us ix ib ia is m n [(iv, ix, decV)] ops W X0 u L w) (hd : L.getD iv false = true) : L.getD ix false = true :=
 (And.right (show _ ∧ Dets [(iv, ix, decV)] u L from h) (iv, ix, decV) (by simp) hd).1
theorem AiD.decv {iv : Nat} (h : AiD eT G0 G1 bt ci cells bT v us ix ib ia is m n [(iv, ix, decV)] ops W X0 u L w) (hd : L.getD iv false = true) : u iv = decV (u ix) :=
 (And.right (show _ ∧ Dets [(iv, ix, decV)] u L from h) (iv, ix, decV) (by simp) hd).2
theorem AiD.build (h : AiD eT G0 G1 bt ci cells bT v us ix ib ia is m n T ops W X0 u L w) (hG0 : StabG G0) (hG1 : StabG G1) (h4 : FourT T ix ib ia is) (hok : skelOk ops 16 (aiS ix ib ia is) = true) (ho : ops[ib]? = some o) (hb : Behind .any o L) (hun : L.getD ib true = false) :
  AiD eT G0 G1 bt ci cells bT v us ix ib ia is m n T ops W X0 (upd u ib (.slice (some ⟨w.heap.size, 0, none⟩) 1 1)) (L.setIfInBounds ib true) (w.alloc (.cells #[.int .i64 n] eT)) := by
 obtain ⟨⟨Fo, hI⟩, hT⟩ := h
 refine ⟨⟨_, hI.act hok (ApI.qok hG0 hG1 h4.f) ho hb hun _ (fun b => b = w.heap.size) ((Kp.refl _ _).alloc _) (fun b e => .inr (by omega)) (fun b e => by simp; omega) (fun s _ _ => ?_)⟩, hT.skip hun _ (h4.t _ (.inr (.inl rfl)))⟩
 rw [ApI.qib h4.f, upd_same]
 exact ⟨w.heap.size, rfl, heap_alloc_new w _, rfl⟩
theorem AiD.app {P : Program} {a : Act} (h : AiD eT G0 G1 bt ci cells bT v us ix ib ia is m n T ops W X0 u L w) (hG0 : StabG G0) (hG1 : StabG G1) (hn : i64B n) (h4 : FourT T ix ib ia is) (hok : skelOk ops 16 (aiS ix ib ia is) = true) (ho : ops[ia]? = some o) (hb : Behind .any o L) (hun : L.getD ia true = false)
  (s y : Operand) (t : TypeId) (hop : o.op = .call { callee := .builtin .append, args := #[s, y], argTypes := #[t, t] }) (bytes : Nat) (hE : Elem P t eT 1 bytes) (hs : a.eval s = v) (hy : a.eval y = u ib) (hbytes : (us.length + 1) * bytes ≤ 140737488355328) (h63 : us.length + 1 ≤ maxLen) :
  eachUpon P (fun z w' => AiD eT G0 G1 bt ci cells bT v us ix ib ia is m n T ops W X0 (upd u ia z) (L.setIfInBounds ia true) w') ((execOp a.eval o).run P w) := by
 obtain ⟨⟨Fo, hI⟩, hT⟩ := h
 have l0 := hI.live_of (s := (1000, some ia, [])) hok ho hb hun (by simp [aiS]) rfl
 have l1 := hI.live_of (s := (ib, some ia, [ib])) hok ho hb hun (by simp [aiS]) rfl
 have q0 := hI.q _ (by simp [aiS]) l0
 have q1 := hI.q _ (by simp [aiS]) l1
 have f0 := hI.fo _ (by simp [aiS]) l0
 have f1 := hI.fo _ (by simp [aiS]) l1
 simp only at q0 q1 f0 f1
 rw [ApI.qrow] at q0
 rw [ApI.qib h4.f] at q1
 obtain ⟨k, g1, g2, g3⟩ := q1
 obtain ⟨-, vals, Ss, r1, r2, r3, r4⟩ := id q0
 refine each_app3 s y t hop eT 1 bytes hE v us.length vals hs k eT #[.int .i64 n] g2 (hy.trans g1) r1 rfl (by simp [Value.oneCell']) hbytes h63 fun v' w' happ hg hnr => ?_
 have hz := hg.size
 have own0 : ∀ b, v.ownBlock = some b → Fo 1000 b := r2
 have nb : ∀ b, v'.ownBlock = some b → Fo 1000 b ∨ w.heap.size ≤ b := fun b e => by
  rcases hnr with e' | ⟨b', e', hge⟩
  ·exact .inl (own0 b (e' ▸ e))
  ·rw [e'] at e; injection e with e; exact .inr (by omega)
 have hrow : OwnRow (fun b => Fo 1000 b ∨ (w.heap.size ≤ b ∧ b < w'.heap.size)) w' eT 1 (RI w') v' (us ++ [n]) := by
  refine OwnRow.snoc (Sx := fun _ => False) (R := RI w) (cs := [.int .i64 n]) q0 ⟨rfl, hn⟩ rfl happ hg hnr h63 (fun b hb e => hb.elim) (fun b e => (f0 b e).2) (fun b e => e.elim) (fun b e => .inl e) (fun b e => e.elim) (fun b e => ?_) (fun T y' c hT hr => hr)
  rcases nb b e with e' | e'
  ·exact .inl e'
  ·exact .inr ⟨e', own_lt' (happ vals r1) e⟩
 refine ⟨⟨_, hI.act hok (ApI.qok hG0 hG1 h4.f) ho hb hun _ (fun b => Fo 1000 b ∨ (w.heap.size ≤ b ∧ b < w'.heap.size)) ((Kp.of_gr hg).mono (fun b e => .inl ⟨(1000, some ia, []), by simp [aiS], rfl, own0 b e⟩)) (fun b e => ?_) (fun b e => ?_) (fun s _ _ => ?_)⟩, hT.skip hun _ (h4.t _ (.inr (.inr (.inl rfl))))⟩
 ·rcases e with e | e
  ·exact .inl ⟨(1000, some ia, []), by simp [aiS], rfl, e⟩
  ·exact .inr e.1
 ·rcases e with e | e
  ·exact Nat.lt_of_lt_of_le (f0 b e).2 hz
  ·exact e.2
 ·rw [ApI.qia h4.f, upd_same]; exact hrow
theorem AiD.put (h : AiD eT G0 G1 bt ci cells bT v us ix ib ia is m n T ops W X0 u L w) (hG0 : StabG G0) (hG1 : StabG G1) (h4 : FourT T ix ib ia is) (hok : skelOk ops 16 (aiS ix ib ia is) = true) (ho : ops[is]? = some o) (hb : Behind .any o L) (hun : L.getD is true = false) :
  w.heap[bt]? = some (.cells cells bT (0, 0)) ∧ (∃ p c, u ia = .slice p (us.length + 1) c) ∧ ∀ z, AiD eT G0 G1 bt ci cells bT v us ix ib ia is m n T ops W X0 (upd u is z) (L.setIfInBounds is true) (w.setCell ⟨bt, ci, none⟩ (u ia)) := by
 obtain ⟨⟨Fo, hI⟩, hT⟩ := h
 have l0 := hI.live_of (s := (1001, some is, [])) hok ho hb hun (by simp [aiS]) rfl
 have l1 := hI.live_of (s := (ia, some is, [ia])) hok ho hb hun (by simp [aiS]) rfl
 have q0 := hI.q _ (by simp [aiS]) l0
 have q1 := hI.q _ (by simp [aiS]) l1
 have f0 := hI.fo _ (by simp [aiS]) l0
 have f1 := hI.fo _ (by simp [aiS]) l1
 have dj := hI.dj _ (by simp [aiS]) _ (by simp [aiS]) l0 l1 (by have := h4.f.l; simp; omega)
 simp only at q0 q1 f0 f1 dj
 rw [ApI.qbox] at q0
 rw [ApI.qia h4.f] at q1
 obtain ⟨pp, cc, hv, -⟩ := q1.form
 refine ⟨q0.1, ⟨pp, cc, by rw [hv]; simp⟩, fun z => ⟨⟨_, hI.act hok (ApI.qok hG0 hG1 h4.f) ho hb hun z (fun b => Fo ia b ∨ b = bt) ?_ (fun b e => .inl ?_) (fun b e => ?_) (fun s _ _ => ?_)⟩, hT.skip hun _ (h4.t _ (.inr (.inr (.inr rfl))))⟩⟩
 ·exact (Kp.refl _ _).sc (a := ⟨bt, ci, none⟩) (.inl ⟨(1001, some is, []), by simp [aiS], rfl, q0.2⟩) _
 ·rcases e with e | e
  ·exact ⟨(ia, some is, [ia]), by simp [aiS], rfl, e⟩
  ·exact ⟨(1001, some is, []), by simp [aiS], rfl, e ▸ q0.2⟩
 ·have hz : (w.setCell ⟨bt, ci, none⟩ (u ia)).heap.size = w.heap.size := by simp
  rw [hz]
  rcases e with e | e
  ·exact (f1 b e).2
  ·rw [e]; exact blk_lt q0.1
 ·rw [ApI.qis h4.f, upd_other _ _ (by have := h4.f.d; omega)]
  refine ⟨Fo ia, q1.stab RI.stab (fun b hb => heap_setCell_other w ⟨bt, ci, none⟩ b _ (fun e => dj b (e ▸ q0.2) hb)) (by simp), ?_, .inr rfl, fun b hb => ⟨.inl hb, fun e => dj b (e ▸ q0.2) hb⟩⟩
  exact heap_setCell_same w bt ci _ _ _ q0.1
theorem AiD.bx (h : AiD eT G0 G1 bt ci cells bT v us ix ib ia is m n T ops W X0 u L w) {i : Nat} (hsz : ops.size ≤ 1000) (hun : L.getD i true = false) (hc : (is == i || anc ops 16 is i) = true) : w.heap[bt]? = some (.cells cells bT (0, 0)) := by
 obtain ⟨⟨Fo, hI⟩, -⟩ := h
 have := hI.q (1001, some is, []) (by simp [aiS]) (hI.live (n := 16) (by rw [Array.getD_eq_getD_getElem?, Array.getElem?_eq_none (by rw [hI.sz]; show ops.size ≤ 1001; omega)]; rfl) hun hc)
 simp only at this
 rw [ApI.qbox] at this
 exact this.1
theorem AiD.end {N : Nat} (h : AiD eT G0 G1 bt ci cells bT v us ix ib ia is m n T ops W X0 u L w) (h4 : FourT T ix ib ia is) (hn : ops.size = N) (hL : ∀ i, i < N → L.getD i false = true) : Kp X0 W w ∧ (∃ F : Nat → Prop, G1 F w ∧ (∀ b, F b → (X0 b ∨ W.heap.size ≤ b) ∧ b < w.heap.size) ∧ ∃ F1 : Nat → Prop, OwnRow F1 w eT 1 (RI w) (u ia) (us ++ [n]) ∧ w.heap[bt]? = some (.cells (cells.setIfInBounds ci (u ia)) bT (0, 0)) ∧ ∀ b, F1 b → (X0 b ∨ W.heap.size ≤ b) ∧ b < w.heap.size ∧ b ≠ bt ∧ ¬ F b) := by
 obtain ⟨h1, Fo, h2, h3⟩ := h.done hn hL
 obtain ⟨k1, k2⟩ := h2 (is, none, [ia]) (by simp [aiS]) rfl
 obtain ⟨m1, m2⟩ := h2 (ix, none, [ix]) (by simp [aiS]) rfl
 have dj := h3 (is, none, [ia]) (by simp [aiS]) (ix, none, [ix]) (by simp [aiS]) rfl rfl (by have := h4.f.d; simp; omega)
 simp only at k1 k2 m1 m2 dj
 rw [ApI.qis h4.f] at k1
 rw [ApI.qix h4.f] at m1
 obtain ⟨F1, g1, g2, g3, g4⟩ := k1
 exact ⟨h1, Fo ix, m1.2, m2, F1, g1, g2, fun b e => ⟨(k2 b (g4 b e).1).1, (k2 b (g4 b e).1).2, (g4 b e).2, dj b (g4 b e).1⟩⟩
end
theorem wp_region_app {P : Program} {id : Nat} {Q' : Exit → Act → World → Prop} {a : Act} {w : World} {l : List Oper} (eT : TypeId) (G0 G1 : (Nat → Prop) → World → Prop) {g sb : Nat} (ci : Nat) (cells : Array Value) (bT : TypeId) (v : Value) (us : List Int) (ix ib ia is : Nat) (m n : Int) (T : DetL) {FX : Nat → Prop} (vs : List (Option Value)) (hm : P.follows .mixedOrders = true) (hB : Region.lexB .any l.toArray = true) (hl : ix < l.length ∧ ib < l.length ∧ ia < l.length ∧ is < l.length)
  (hrow : OwnRow FX w eT 1 (RI w) v us) (hFX : ∀ b, FX b → b < w.heap.size ∧ b ≠ sb ∧ b ≠ g) (hbx : w.heap[sb]? = some (.cells cells bT (0, 0))) (hrd : G0 (fun b => b = g) w.drew) (hg : g < w.heap.size) (hne : sb ≠ g)
  (h : flowV P .any l.toArray vs (AiD eT G0 G1 sb ci cells bT v us ix ib ia is m n T l.toArray w (fun b => b = g ∨ b = sb ∨ FX b)) (fun a' u => ∀ L w', (∀ i, i < l.length → L.getD i false = true) → AiD eT G0 G1 sb ci cells bT v us ix ib ia is m n T l.toArray w (fun b => b = g ∨ b = sb ∨ FX b) u L w' → Q' .normal a' w') 0 l a (fun _ => undef)) : (Code.region id l.toArray true).wp P Q' a w := by
 have hsb := blk_lt hbx
 refine wp_region_foot vs (fun b => b = g ∨ b = sb ∨ FX b) (aiS ix ib ia is) (ApI eT G0 G1 sb ci cells bT v us ix ib ia is m n) T (fun n b => if n = 1000 then FX b else if n = 1001 then b = sb else if n = 1002 then b = g else False) hm hB (fun s hs h' => ?_) (fun s hs r hr h1 h2 hne' b hb => ?_) h
 ·simp only [aiS, List.mem_cons, List.not_mem_nil, or_false] at hs
  rcases hs with rfl | rfl | rfl | rfl | rfl | rfl | rfl
  ·rw [ApI.qrow]; exact ⟨hrow, fun b e => ⟨.inr (.inr e), (hFX b e).1⟩⟩
  ·rw [ApI.qbox]; exact ⟨⟨hbx, rfl⟩, fun b e => by have e : b = sb := e; exact ⟨.inr (.inl e), by omega⟩⟩
  ·rw [ApI.qrd]; exact ⟨hrd, fun b e => by have e : b = g := e; exact ⟨.inl e, by omega⟩⟩
  all_goals (exfalso; simp only at h'; omega)
 ·simp only [aiS, List.mem_cons, List.not_mem_nil, or_false] at hs hr
  rcases hs with rfl | rfl | rfl | rfl | rfl | rfl | rfl <;> first | (exfalso; simp only at h1; omega) | skip
  all_goals rcases hr with rfl | rfl | rfl | rfl | rfl | rfl | rfl <;> first | (exfalso; simp only at h2; omega) | exact absurd rfl hne' | skip
  ·exact fun e => (hFX b hb).2.1 e
  ·exact fun e => (hFX b hb).2.2 e
  ·exact fun e => (hFX b e).2.1 hb
  ·exact fun e => hne (Eq.trans (Eq.symm hb) e)
  ·exact fun e => (hFX b e).2.2 hb
  ·exact fun e => hne (Eq.trans (Eq.symm e) hb)
theorem run_app_nil {P : Program} (w : World) (base : Nat) (t ty e : TypeId) (size bytes : Nat) (hE : Elem P t e size bytes) (v : Value) (n : Nat) (xs : List Value) (hown : w.ownsRow base e size v n xs) (c : Nat) :
  (Builtin.append_ #[t, t] ty #[v, .slice none 0 c]).run P w = .ok v w := by
 obtain ⟨ht, i, z, hi, -⟩ := hE
 rcases hown.2 with ⟨rfl, rfl⟩ | ⟨g, cap, cur, rfl, _, _, hnc, _⟩
 ·simp [Builtin.append_, run_underlying ht, sizeOf, typeInfo, hi, Builtin.lenOf, Builtin.firstCells]
 ·simp [Builtin.append_, run_underlying ht, sizeOf, typeInfo, hi, Builtin.lenOf, Builtin.firstCells, hnc, storeCells]
end Go.Proofs.YtabkdonplmlbcaaGreatDoor
