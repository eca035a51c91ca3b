import Derived.Test.YtmbkjdkjemlfkaaGreatDoorDfPart18
namespace Go.Proofs.YtmbkjdkjemlfkaaGreatDoor
set_option maxRecDepth 100000
open Go.RowKit
def CpRel (g n m : Nat) (us : List Tm) (w : World) (i : Value) (wr : World) : Prop :=
  ∃ (k : Nat) (xs : List Value), k ≤ n ∧ i = .int .i64 k ∧ wr.ownsRow g 26 2 (.slice (some ⟨g, 0, none⟩) n n) n xs ∧ Below w.heap.size w wr ∧
    ∀ j t, j < k → us[j]? = some t → ∃ y0 y1, xs[j * 2]? = some y0 ∧ xs[j * 2 + 1]? = some y1 ∧ TmAt (fun b => g < b) m wr t [y0, y1]
theorem listAt_row2c {α : Type} {B : Nat → Prop} {w : World} {R : α → List Value → Prop} {base g n c : Nat} {e : TypeId} {xs : List Value} {us : List α} (h : w.ownsRow base e 2 (.slice (some ⟨g, 0, none⟩) n c) n xs) (hn : n = us.length) (hm : n ≤ maxLen) (hB : B g)
    (hR : ∀ j t, us[j]? = some t → ∃ y0 y1, xs[j * 2]? = some y0 ∧ xs[j * 2 + 1]? = some y1 ∧ R t [y0, y1]) : ListAt B w 2 R (.slice (some ⟨g, 0, none⟩) n c) us := by
  subst hn
  refine ⟨_, _, rfl, hm, fun i t ht => ⟨g, 0, rfl, hB, ?_⟩⟩
  obtain ⟨y0, y1, h0, h1, hr⟩ := hR i t ht
  have hi : i < us.length := (List.getElem?_eq_some_iff.1 ht).1
  refine ⟨[y0, y1], rfl, fun j hj => ?_, hr⟩
  rw [Nat.zero_add, h.cellAt (i * 2 + j) (by omega)]
  match j, hj with
  | 0, _ => simpa using h0
  | 1, _ => simpa using h1
set_option maxHeartbeats 1600000 in
theorem copyTerms_of {B : Nat → Prop} (m : Nat) (ih : ∀ (t : Tm) (v0 v1 : Value) (w : World), TmAt B m w t [v0, v1] → t.wt ≤ 1048576 →
      Calls Tryz.prog 68 #[.agg #[v0, v1]] w fun e w' => ∃ u0 u1, e = .returned (.agg #[u0, u1]) ∧ TmAt (fun b => w.heap.size ≤ b) m w' t [u0, u1] ∧ Below w.heap.size w w')
    (us : List Tm) (va : Value) (w : World) (h : ListAt B w 2 (TmAt B m w) va us) (hw : us.length + Tm.wts us ≤ 1048576) :
    Calls Tryz.prog 97 #[va] w fun e w' => ∃ u, e = .returned u ∧ ListAt (fun b => w.heap.size ≤ b) w' 2 (TmAt (fun b => w.heap.size ≤ b) m w') u us ∧ Below w.heap.size w w' := by
  obtain ⟨p, c, rfl, -⟩ := h.form
  have H := Lib.hid h
  have IH := Lib.hid ih
  have HW := Lib.hid hw
  have hlen : us.length ≤ 1048576 := by omega
  by_cases hu0 : us.length = 0
  · obtain rfl : us = [] := List.eq_nil_of_length_eq_zero hu0
    clear h ih hw
    go_enter Tryz.func97, Tryz.ntmps97
    go_wp2
    go_ret
    exact ⟨_, rfl, ListAt.nil _ _ _ _ _ _, by exact bel⟩
  have hu1 : ((us.length : Int) == 0) = false := by rw [beq_eq_false_iff_ne]; omega
  obtain ⟨-, i, z, hi, hz, hsz, hby, hzs, -⟩ := elemTmI
  clear h ih hw
  go_enter Tryz.func97, Tryz.ntmps97
  go_wp2_with (at_make; refine wpList_make_full _ rfl _ _ _ rfl w.heap.size 26 i z 2 Tryz.underlying24 hi hz hsz _ _ _ _ us.length rfl rfl rfl rfl (by rw [hby]; omega) (by unfold maxLen; omega) (Nat.le_refl _) ?_; intro w1 ho1 hg1)
  have hb1 : Below w.heap.size w w1 := ⟨hg1.os, hg1.tape, hg1.output, hg1.size, fun k hk => hg1.block k hk (by simp)⟩
  have HO1 := Lib.hid ho1
  clear ho1 hg1
  go_loopw [14] (CpRel w.heap.size us.length m us w) (fun i _ => us.length - (intOf i).toNat)
  case atStart => exact ⟨0, _, Nat.zero_le _, rfl, HO1.out, hb1, fun j t hj => absurd hj (Nat.not_lt_zero _)⟩
  case round =>
    obtain ⟨k, xs, hk, rfl, ho, hb, hall⟩ := hrel
    have HO := Lib.hid ho
    have HALL := Lib.hid hall
    have hxl : xs.length = us.length * 2 := ho.1
    clear ho hall HO1 hb1
    by_cases hlt : k < us.length
    · obtain ⟨b, o, rfl, hB, x0, x1, hx0, hx1, hx⟩ := (H.out.mono (SameOn.below hb) (fun _ h => h) (fun x cs _ hx => TmAt.below hb hx)).at2 hlt
      have hwt := Tm.wts_le us hlt
      obtain ⟨a, ha⟩ : ∃ a, us[k] = a := ⟨_, rfl⟩
      have HK : Hid (us[k]? = some a) := Lib.hid (by rw [List.getElem?_eq_getElem hlt, ha])
      rw [ha] at hx hwt
      have HX := Lib.hid hx
      clear hx ha
      have hgw := own_lt HO.out
      obtain ⟨pxx, cxx, rfl, rfl, -⟩ := HX.out.form
      go_wp2_with fail
      refine (IH.out a _ _ _ (HX.out.below (by exact bel)) (by have := HW.out; omega)).mono ?_
      rintro e w2 ⟨u0, u1, rfl, hu, hb2⟩
      have ⟨cw2, fw2⟩ := bcell hb2
      have qw2 := hb2.size
      (try simp at qw2)
      (try have zw2w := bsz (show w.heap.size < w2.heap.size by omega))
      have hb2w : Below wr.heap.size wr w2 := by exact bel
      obtain ⟨pu, cu, rfl, rfl, -, -⟩ := hu.form
      have HU := Lib.hid hu
      have HO2 := Lib.hid (own_below HO.out hb2w)
      clear hu
      obtain ⟨q0, hq0⟩ : ∃ q, w2.cell? ⟨w.heap.size, k * 2, none⟩ = some q := ⟨_, (HO2.out.cellAt (k * 2) (by omega)).trans (List.getElem?_eq_getElem (by omega))⟩
      obtain ⟨q1, hq1⟩ : ∃ q, w2.cell? ⟨w.heap.size, k * 2 + 1, none⟩ = some q := ⟨_, (HO2.out.cellAt (k * 2 + 1) (by omega)).trans (List.getElem?_eq_getElem (by omega))⟩
      have hf2 := fun j => HO2.out.frozenAt j
      clear cw2 fw2
      go_wp2
      generalize Value.string a.n = u0 at *
      generalize Value.slice pu a.us.length cu = u1 at *
      have ho3 := (HO2.out.stored (k * 2) u0).1
      have ho4 := (ho3.stored (k * 2 + 1) u1).1
      have hS : SameOn (fun b => w.heap.size < b) w2 ((w2.setCell ⟨w.heap.size, k * 2, none⟩ u0).setCell ⟨w.heap.size, k * 2 + 1, none⟩ u1) := by
        intro b hbb hlb
        exact (SameOn.store _ (p := ⟨w.heap.size, k * 2 + 1, none⟩) (B := fun b => w.heap.size < b) (fun b hb e => by simp at e; omega) u1 b hbb (by simpa using hlb)).trans (SameOn.store _ (p := ⟨w.heap.size, k * 2, none⟩) (B := fun b => w.heap.size < b) (fun b hb e => by simp at e; omega) u0 b hbb hlb)
      refine ⟨⟨k + 1, _, by omega, by go_num, ho4, ?_, ?_⟩, by simp [intOf]; omega⟩
      · exact ((show Below w.heap.size w w2 by exact bel).setCell (Nat.le_refl _) _).setCell (Nat.le_refl _) _
      · intro j t hj ht
        by_cases hjk : j = k
        · subst hjk
          rw [HK.out] at ht
          obtain rfl := Option.some.inj ht
          refine ⟨u0, u1, ?_, ?_, (HU.out.mono (B' := fun b => w.heap.size < b) (SameOn.refl _ _) (fun b hb => by simp at hb; omega) m m _ _ (Nat.le_refl _)).mono hS (fun b hb => hb) m m _ _ (Nat.le_refl _)⟩
          · rw [List.getElem?_set_ne (by omega), List.getElem?_set_self (by omega)]
          · rw [List.getElem?_set_self (by simp; omega)]
        · obtain ⟨y0, y1, e0, e1, hy⟩ := HALL.out j t (by omega) ht
          refine ⟨y0, y1, ?_, ?_, (hy.below hb2w).mono hS (fun b hb => hb) m m _ _ (Nat.le_refl _)⟩
          · rw [List.getElem?_set_ne (by omega), List.getElem?_set_ne (by omega)]; exact e0
          · rw [List.getElem?_set_ne (by omega), List.getElem?_set_ne (by omega)]; exact e1
    · obtain rfl : k = us.length := by omega
      go_wp2
      go_ret
      refine ⟨_, rfl, listAt_row2c HO.out rfl (by unfold maxLen; omega) (Nat.le_refl _) (fun j t ht => ?_), hb⟩
      obtain ⟨y0, y1, e0, e1, hy⟩ := HALL.out j t ((List.getElem?_eq_some_iff.1 ht).1) ht
      exact ⟨y0, y1, e0, e1, hy.mono (SameOn.refl _ _) (fun b hb => Nat.le_of_lt hb) m m _ _ (Nat.le_refl _)⟩
set_option maxHeartbeats 1600000 in
theorem copyTerm_any {B : Nat → Prop} : ∀ (m : Nat) (t : Tm) (v0 v1 : Value) (w : World), TmAt B m w t [v0, v1] → t.wt ≤ 1048576 →
      Calls Tryz.prog 68 #[.agg #[v0, v1]] w fun e w' => ∃ u0 u1, e = .returned (.agg #[u0, u1]) ∧ TmAt (fun b => w.heap.size ≤ b) m w' t [u0, u1] ∧ Below w.heap.size w w' := by
  intro m
  induction m with
  | zero => intro t v0 v1 w h; exact h.elim
  | succ m ih =>
    rintro ⟨s, us⟩ v0 v1 w ⟨va, hcs, hs, hl⟩ hw
    simp only [List.cons.injEq, and_true] at hcs
    obtain ⟨rfl, rfl⟩ := hcs
    rw [Tm.wt] at hw
    have HS := Lib.hid (copyTerms_of m ih)
    have HL := Lib.hid hl
    have HM := Lib.hid (And.intro hs hw)
    obtain ⟨p, c, rfl, -⟩ := hl.form
    clear ih hl hs hw
    go_enter Tryz.func68, Tryz.ntmps68
    go_wp2
    have c0 : (w.alloc (.cells #[.string s, .slice p us.length c] 26)).cell? ⟨w.heap.size, 0, none⟩ = some (.string s) := by go_simp
    obtain ⟨W, hW⟩ : ∃ W : World, W = (w.alloc (.cells #[.string s, .slice p us.length c] 26)).alloc (.cells #[.string ⟨#[]⟩, .slice none 0 0] 26) := ⟨_, rfl⟩
    have hsW : W.heap.size = w.heap.size + 2 := by rw [hW]; simp
    have hbW : Below w.heap.size w W := by rw [hW]; exact bel
    have a0 : W.cell? ⟨w.heap.size, 0, none⟩ = some (.string s) := by rw [hW]; go_simp
    have a1 : W.cell? ⟨w.heap.size, 1, none⟩ = some (.slice p us.length c) := by rw [hW]; go_simp
    have r0 : W.cell? ⟨w.heap.size + 1, 0, none⟩ = some (.string ⟨#[]⟩) := by rw [hW]; go_simp
    have r1 : W.cell? ⟨w.heap.size + 1, 1, none⟩ = some (.slice none 0 0) := by rw [hW]; go_simp
    have rf : ∀ j, W.frozen? ⟨w.heap.size + 1, j, none⟩ = false := fun j => by rw [hW]; go_simp
    rw [← hW]
    clear hW c0
    have zW := bsz (show w.heap.size < W.heap.size by omega)
    have zW1 := bsz (show w.heap.size + 1 < W.heap.size by omega)
    go_region_held3 (fun w' => w'.cell? ⟨w.heap.size, 0, none⟩ = some (.string s) ∧ w'.cell? ⟨w.heap.size, 1, none⟩ = some (.slice p us.length c)) (first | go_keep | (refine ⟨?_, ?_⟩ <;> first | assumption | (go_simp; done) | (exact (World.cell?_of_block (hb6.block _ (by simp; omega))).trans (by first | assumption | (go_simp; done))))) (first | (go_at_call 97; refine (HS.out us _ _ (HL.out.mono (SameOn.below (by (repeat (first | with_reducible (first | exact bR _ _ | assumption | refine bA ?_ _ | refine bS ?_ (by first | exact Nat.le_refl _ | (simp; done) | (simp; omega)) _) | assumption | exact bR _ _ | refine bD ?_ | refine bN ?_ _ | refine bT ?_ (by assumption))))) (fun _ h => h) (fun x cs _ hx => TmAt.below (by (repeat (first | with_reducible (first | exact bR _ _ | assumption | refine bA ?_ _ | refine bS ?_ (by first | exact Nat.le_refl _ | (simp; done) | (simp; omega)) _) | assumption | exact bR _ _ | refine bD ?_ | refine bN ?_ _ | refine bT ?_ (by assumption)))) hx)) (by have := HM.out.2; omega)).mono ?_; rintro e w6 ⟨u, rfl, hu, hb6⟩; obtain ⟨pu, cu, rfl, -⟩ := hu.form; have HU := Lib.hid hu; clear hu; have hq6 := hb6.size; (try simp at hq6); have ⟨cb6, fb6⟩ := bcell hb6; have zr := bsz (show w.heap.size + 1 < w6.heap.size by omega)))
    all_goals
      go_wp2
      refine bodyPost_ret (v := .agg #[.string s, .slice pu us.length cu]) (by simp only [results, Tryz.results68]; go_simp) rfl ⟨_, _, rfl, ⟨_, rfl, HM.out.1, ?_⟩, by exact bel⟩
      refine HU.out.mono (((SameOn.refl _ _).sc ?_ _).sc ?_ _) (fun b hb => by simp at hb; omega) (fun x cs _ hx => TmAt.mono (((SameOn.refl _ _).sc ?_ _).sc ?_ _) (fun b hb => by simp at hb; omega) m m x cs (Nat.le_refl _) hx)
      all_goals (intro b hb; simp at hb ⊢; omega)
theorem TmAt.inb {B : Nat → Prop} {w : World} : ∀ (n : Nat) (t : Tm) (cs : List Value), TmAt B n w t cs → TmAt (fun b => B b ∧ b < w.heap.size) n w t cs
  | 0, _, _, h => h.elim
  | n + 1, .mk s us, cs, ⟨va, h1, h2, p, c, h3, h4, h5⟩ => by
    refine ⟨va, h1, h2, p, c, h3, h4, fun i x hx => ?_⟩
    obtain ⟨b, o, e1, e2, cs', e3, e4, e5⟩ := h5 i x hx
    have h0 := e4 0 (by omega)
    rw [List.getElem?_eq_getElem (by omega)] at h0
    exact ⟨b, o, e1, ⟨e2, World.block_lt_of_cell? _ _ h0⟩, cs', e3, e4, TmAt.inb n x cs' e5⟩
theorem FmAt.inb {B : Nat → Prop} {w : World} : ∀ (n : Nat) (t : Fm) (cs : List Value), FmAt B n w t cs → FmAt (fun b => B b ∧ b < w.heap.size) n w t cs
  | 0, _, _, h => h.elim
  | n + 1, .mk op a x ps, cs, ⟨vn, va, vp, h1, h2, h2', h3, p, c, h4, h6, h5⟩ => by
    refine ⟨vn, va, vp, h1, h2, h2', TmAt.inb _ _ _ h3, p, c, h4, h6, fun i x hx => ?_⟩
    obtain ⟨b, o, e1, e2, cs', e3, e4, e5⟩ := h5 i x hx
    have h0 := e4 0 (by omega)
    rw [List.getElem?_eq_getElem (by omega)] at h0
    exact ⟨b, o, e1, ⟨e2, World.block_lt_of_cell? _ _ h0⟩, cs', e3, e4, FmAt.inb n x cs' e5⟩
structure Kp (X : Nat → Prop) (w w' : World) : Prop where
  os : w'.os = w.os
  tape : w'.tape = w.tape
  output : w'.output = w.output
  size : w.heap.size ≤ w'.heap.size
  block : ∀ b, b < w.heap.size → ¬ X b → w'.heap[b]? = w.heap[b]?
theorem Kp.refl (X : Nat → Prop) (w : World) : Kp X w w := ⟨rfl, rfl, rfl, Nat.le_refl _, fun _ _ _ => rfl⟩
theorem Kp.of_below {X : Nat → Prop} {w w' : World} (h : Below w.heap.size w w') : Kp X w w' := ⟨h.os, h.tape, h.output, h.size, fun b hb _ => h.block b hb⟩
theorem Kp.below {w w' : World} {X : Nat → Prop} (h : Kp X w w') (hX : ∀ b, ¬ X b) : Below w.heap.size w w' := ⟨h.os, h.tape, h.output, h.size, fun b hb => h.block b hb (hX b)⟩
theorem Kp.trans {X X1 : Nat → Prop} {w w1 w2 : World} (h : Kp X w w1) (h1 : Kp X1 w1 w2) (hX : ∀ b, X1 b → X b ∨ w.heap.size ≤ b) : Kp X w w2 :=
  ⟨h1.os.trans h.os, h1.tape.trans h.tape, h1.output.trans h.output, Nat.le_trans h.size h1.size, fun b hb hn => (h1.block b (Nat.lt_of_lt_of_le hb h.size) (fun e => (hX b e).elim hn (fun e => by omega))).trans (h.block b hb hn)⟩
theorem Kp.be {X : Nat → Prop} {w w1 w2 : World} (h : Kp X w w1) (h1 : Below w1.heap.size w1 w2) : Kp X w w2 := h.trans (Kp.of_below (X := fun _ => False) h1) (fun _ e => e.elim)
theorem Kp.mono {X X' : Nat → Prop} {w w' : World} (h : Kp X w w') (hX : ∀ b, X b → X' b ∨ w.heap.size ≤ b) : Kp X' w w' := ⟨h.os, h.tape, h.output, h.size, fun b hb hn => h.block b hb (fun e => (hX b e).elim hn (fun e => by omega))⟩
theorem Kp.of_gr {w w' : World} {o : Option Nat} (h : w.grownBy w' o) : Kp (fun b => o = some b) w w' := ⟨h.os, h.tape, h.output, h.size, fun b hb hn => h.block b hb (fun e => hn e.symm)⟩
theorem Kp.sc {X : Nat → Prop} {w w' : World} (h : Kp X w w') {a : Addr} (ha : X a.block ∨ w.heap.size ≤ a.block) (u : Value) : Kp X w (w'.setCell a u) :=
  ⟨h.os, h.tape, h.output, by simpa using h.size, fun b hb hn => (heap_setCell_other w' a b u (fun e => ha.elim (fun e2 => hn (e ▸ e2)) (fun e2 => by omega))).trans (h.block b hb hn)⟩
theorem Kp.alloc {X : Nat → Prop} {w w' : World} (h : Kp X w w') (o : Obj) : Kp X w (w'.alloc o) := h.be ((Below.refl _ _).alloc (Nat.le_refl _) o)
theorem Kp.same {X B : Nat → Prop} {w w' : World} (h : Kp X w w') (hB : ∀ b, B b → ¬ X b) : SameOn B w w' := fun b hb hl => h.block b hl (hB b hb)
structure StOk (St : Nat → (Nat → Prop) → World → Prop) : Prop where
  foot : ∀ k X w, St k X w → ∀ b, X b → b < w.heap.size
  stab : ∀ k X w w', St k X w → Kp (fun b => ¬ X b) w w' → St k X w'
def StepQ (St : Nat → (Nat → Prop) → World → Prop) (N : Nat) (res : Nat → Fm) (k : Nat) (X : Nat → Prop) (wr : World) (e : Ending) (w' : World) : Prop :=
  ∃ (y : FC) (X' : Nat → Prop), e = .returned (.agg y.cs.toArray) ∧ y.f = res k ∧ FmAt (fun b => wr.heap.size ≤ b ∧ b < w'.heap.size ∧ ¬ X' b) N w' y.f y.cs ∧ St (k + 1) X' w' ∧ (∀ b, X' b → X b ∨ (wr.heap.size ≤ b ∧ b < w'.heap.size)) ∧ Kp X wr w'
def StepC (St : Nat → (Nat → Prop) → World → Prop) (N : Nat) (res : Nat → Fm) (k : Nat) (X : Nat → Prop) (wr : World) (x : Value) (w' : World) : Prop :=
  ∃ (y : FC) (X' : Nat → Prop), x = .agg y.cs.toArray ∧ y.f = res k ∧ FmAt (fun b => wr.heap.size ≤ b ∧ b < w'.heap.size ∧ ¬ X' b) N w' y.f y.cs ∧ St (k + 1) X' w' ∧ (∀ b, X' b → X b ∨ (wr.heap.size ≤ b ∧ b < w'.heap.size)) ∧ Kp X wr w'
structure FOm (T : TypeId) (m base k : Nat) (X : Nat → Prop) (h0 h1 h2 h3 v : Value) (D : List FC) (w : World) : Prop where
  box : w.heap[k]? = some (.cells #[h0, h1, h2, h3, v] T (0, 0))
  row : w.ownsRow base T 5 v D.length (flatF D)
  each : ∀ x ∈ D, FmAt (fun b => base ≤ b ∧ b < w.heap.size ∧ ¬ X b ∧ v.ownBlock ≠ some b) m w x.f x.cs
  lt : k < base
  kX : ¬ X k
  vX : ∀ b, v.ownBlock = some b → ¬ X b
  len : D.length ≤ 1000000
section
variable {T : TypeId} {m base k : Nat} {X X' : Nat → Prop} {h0 h1 h2 h3 v v' : Value} {D : List FC} {w w' w1 w3 : World}
theorem FOm.nk (h : FOm T m base k X h0 h1 h2 h3 v D w) : v.ownBlock ≠ some k := fun e => by have := own_base h.row k e; have := h.lt; omega
theorem FOm.kp (h : FOm T m base k X h0 h1 h2 h3 v D w) (hk : Kp X w w') (hf : ∀ b, X' b → X b ∨ w.heap.size ≤ b) : FOm T m base k X' h0 h1 h2 h3 v D w' := by
  have hkk := blk_lt h.box
  have hz := hk.size
  refine ⟨(hk.block k hkk h.kX).trans h.box, own_same h.row (fun b hb hl => hk.block b hl (h.vX b hb)), fun x hx => ?_, h.lt, fun e => (hf k e).elim h.kX (fun e => by omega), fun b hb e => (hf b e).elim (h.vX b hb) (fun e => by have := own_lt' h.row hb; omega), h.len⟩
  exact FmAt.mono (fun b hb hl => hk.block b hl hb.2.2.1) (fun b hb => ⟨hb.1, by omega, fun e => (hf b e).elim hb.2.2.1 (fun e => by omega), hb.2.2.2⟩) _ _ _ _ (Nat.le_refl _) (h.each x hx)
theorem FOm.cells (h : FOm T m base k X h0 h1 h2 h3 v D w) : w.cell? ⟨k, 0, none⟩ = some h0 ∧ w.cell? ⟨k, 1, none⟩ = some h1 ∧ w.cell? ⟨k, 2, none⟩ = some h2 ∧ w.cell? ⟨k, 3, none⟩ = some h3 ∧ w.cell? ⟨k, 4, none⟩ = some v ∧ (∀ j, w.frozen? ⟨k, j, none⟩ = false) ∧ k < w.heap.size := by
  refine ⟨?_, ?_, ?_, ?_, ?_, fun j => frozen_of_row w k j _ _ h.box, blk_lt h.box⟩
  · rw [cell_of_row w k 0 _ _ (0, 0) h.box]; rfl
  · rw [cell_of_row w k 1 _ _ (0, 0) h.box]; rfl
  · rw [cell_of_row w k 2 _ _ (0, 0) h.box]; rfl
  · rw [cell_of_row w k 3 _ _ (0, 0) h.box]; rfl
  · rw [cell_of_row w k 4 _ _ (0, 0) h.box]; rfl
theorem FOm.app {x : FC} (h : FOm T m base k X h0 h1 h2 h3 v D w) (hk : Kp X w w1) (hf : ∀ b, X' b → X b ∨ (w.heap.size ≤ b ∧ b < w1.heap.size)) (hx0 : ∀ b, X b → b < w.heap.size) (hx : FmAt (fun b => w.heap.size ≤ b ∧ b < w1.heap.size ∧ ¬ X' b) m w1 x.f x.cs) (hbw : base ≤ w.heap.size)
    (happ : ∀ b xs, w1.ownsRow b T 5 v D.length xs → b ≤ w1.heap.size → w3.ownsRow b T 5 v' (D.length + 1) (xs ++ x.cs)) (hg3 : w1.grownBy w3 v.ownBlock) (hnr : NewRow v v' w1.heap.size) (hl : D.length + 1 ≤ 1000000) :
    FOm T m base k X' h0 h1 h2 h3 v' (D ++ [x]) (w3.setCell ⟨k, 4, none⟩ v') ∧ Kp (fun b => ¬ X' b) w1 (w3.setCell ⟨k, 4, none⟩ v') := by
  have hkk := blk_lt h.box
  have hlk := h.lt
  have hz := hk.size
  have hz3 := hg3.size
  have h1' := h.kp hk (fun b e => (hf b e).imp id (fun e => e.1))
  have hvw : ∀ b, v.ownBlock = some b → b < w.heap.size ∧ ¬ X' b := fun b e => ⟨own_lt' h.row e, h1'.vX b e⟩
  have hr3 := happ _ _ h1'.row (by omega)
  have hb3 : w3.heap[k]? = _ := (hg3.block k (by omega) (fun e => h.nk e.symm)).trans h1'.box
  have hX'1 : ∀ b, X' b → b < w1.heap.size := fun b e => (hf b e).elim (fun e => by have := hx0 b e; omega) (fun e => e.2)
  have hX'k : ¬ X' k := h1'.kX
  have hv'X : ∀ b, v'.ownBlock = some b → ¬ X' b ∧ b ≠ k := fun b e => by
    rcases hnr with e' | ⟨b', e', hge⟩
    · rw [e'] at e; exact ⟨(hvw b e).2, fun e2 => h.nk (e2 ▸ e)⟩
    · rw [e'] at e; injection e with e; subst e
      exact ⟨fun e2 => by have := hX'1 _ e2; omega, by omega⟩
  have same : ∀ b, b < w1.heap.size → v.ownBlock ≠ some b → b ≠ k → (w3.setCell ⟨k, 4, none⟩ v').heap[b]? = w1.heap[b]? := fun b h1 h2 h3 => (heap_setCell_other w3 ⟨k, 4, none⟩ b v' h3).trans (hg3.block b h1 (fun e => h2 e.symm))
  have key : ∀ b, b < w1.heap.size → v.ownBlock ≠ some b → v'.ownBlock ≠ some b := fun b h1 h2 => by
    rcases hnr with e' | ⟨b', e', hge⟩
    · rw [e']; exact h2
    · rw [e']; intro e; injection e with e; omega
  refine ⟨⟨?_, ?_, fun y hy => ?_, hlk, hX'k, fun b e => (hv'X b e).1, by rw [List.length_append]; exact hl⟩, ⟨hg3.os, hg3.tape, hg3.output, by simpa using hz3, fun b hb hn => ?_⟩⟩
  · have := heap_setCell_same w3 k 4 _ _ v' hb3
    simpa using this
  · rw [List.length_append, flatF_app]
    refine own_same (by simpa [flatF] using hr3) (fun b hb _ => heap_setCell_other w3 ⟨k, 4, none⟩ b v' (hv'X b hb).2)
  · rcases List.mem_append.1 hy with hy | hy
    · refine FmAt.mono (fun b hb _ => same b hb.2.1 hb.2.2.2 (by have := hb.1; omega)) (fun b hb => ⟨hb.1, by have := hb.2.1; simp; omega, hb.2.2.1, key b hb.2.1 hb.2.2.2⟩) _ _ _ _ (Nat.le_refl _) (h1'.each y hy)
    · obtain rfl : y = x := by simpa using hy
      have hv2 : ∀ b, w.heap.size ≤ b → v.ownBlock ≠ some b := fun b hb e => by have := (hvw b e).1; omega
      refine FmAt.mono (fun b hb _ => same b hb.2.1 (hv2 b hb.1) (by have := hb.1; omega)) (fun b hb => ⟨by have := hb.1; omega, by have := hb.2.1; simp; omega, hb.2.2, key b hb.2.1 (hv2 b hb.1)⟩) _ _ _ _ (Nat.le_refl _) hx
  · have hb' : X' b := Classical.not_not.1 hn
    exact same b hb (fun e => (hvw b e).2 hb') (fun e => hX'k (e ▸ hb'))
theorem FOm.at_ (h : FOm T m base k X h0 h1 h2 h3 v D w) : ListAt (fun b => base ≤ b ∧ b < w.heap.size ∧ ¬ X b) w 5 (FmAt (fun b => base ≤ b ∧ b < w.heap.size ∧ ¬ X b) m w) v (D.map (·.f)) := by
  obtain ⟨p, c, rfl⟩ := own_slice h.row
  have hlen := h.len
  refine ⟨p, c, by rw [List.length_map], by rw [List.length_map]; unfold maxLen; omega, fun i x hx => ?_⟩
  rw [List.getElem?_map] at hx
  cases hy : D[i]? with
  | none => rw [hy] at hx; cases hx
  | some y =>
    rw [hy] at hx
    obtain rfl : y.f = x := Option.some.inj hx
    have hi := (List.getElem?_eq_some_iff.1 hy).1
    obtain ⟨g, e, h1, h2, -, h3⟩ := rowF_cell h.row (by omega)
    obtain ⟨c0, c1, c2, c3, c4⟩ := h3 i y hy
    have hgX : ¬ X g := h.vX g (by rw [e]; rfl)
    refine ⟨g, 0, e, ⟨h1, h2, hgX⟩, y.cs, rfl, fun j hj => ?_, FmAt.mono (SameOn.refl _ _) (fun b hb => ⟨hb.1, hb.2.1, hb.2.2.1⟩) _ _ _ _ (Nat.le_refl _) (h.each y (List.mem_of_getElem? hy))⟩
    match j, hj with
    | 0, _ => rw [Nat.zero_add, Nat.add_zero]; exact c0
    | 1, _ => rw [Nat.zero_add]; exact c1
    | 2, _ => rw [Nat.zero_add]; exact c2
    | 3, _ => rw [Nat.zero_add]; exact c3
    | 4, _ => rw [Nat.zero_add]; exact c4
end
def MdQ (n : Nat) (t : Fm) (w : World) (e : Ending) (w' : World) : Prop := ∃ y : FC, e = .returned (.agg y.cs.toArray) ∧ y.f = t ∧ FmAt (fun b => w.heap.size ≤ b ∧ b < w'.heap.size) n w' y.f y.cs ∧ Below w.heap.size w w'
def MdC (n : Nat) (t : Fm) (W : World) (x : Value) (w : World) : Prop := ∃ y : FC, x = .agg y.cs.toArray ∧ y.f = t ∧ FmAt (fun b => W.heap.size ≤ b ∧ b < w.heap.size) n w y.f y.cs ∧ Below W.heap.size W w
end Go.Proofs.YtmbkjdkjemlfkaaGreatDoor
