import Derived.Laws.Cover1
import Derived.Lib.Small
import Derived.Test.YtkgfanajgdelcaaGreatEnPart10
import Derived.Test.YtkgfanajgdelcaaGreatEnPart14
namespace Go.Proofs.YtkgfanajgdelcaaGreat
set_option maxRecDepth 100000
open Go.RowKit
def CpRel (g n m : Nat) (us : List Tm) (w : World) (i : Value) (wr : World) : Prop :=
  ∃ (k : Nat) (xs : List Value), k ≤ n ∧ i = .int .i64 k ∧ wr.ownsRow g 26 2 (.slice (some ⟨g, 0, none⟩) n n) n xs ∧ Below w.heap.size w wr ∧
    ∀ j t, j < k → us[j]? = some t → ∃ y0 y1, xs[j * 2]? = some y0 ∧ xs[j * 2 + 1]? = some y1 ∧ TmAt (fun b => g < b) m wr t [y0, y1]
theorem listAt_row2c {α : Type} {B : Nat → Prop} {w : World} {R : α → List Value → Prop} {base g n c : Nat} {e : TypeId} {xs : List Value} {us : List α} (h : w.ownsRow base e 2 (.slice (some ⟨g, 0, none⟩) n c) n xs) (hn : n = us.length) (hm : n ≤ maxLen) (hB : B g)
    (hR : ∀ j t, us[j]? = some t → ∃ y0 y1, xs[j * 2]? = some y0 ∧ xs[j * 2 + 1]? = some y1 ∧ R t [y0, y1]) : ListAt B w 2 R (.slice (some ⟨g, 0, none⟩) n c) us := by
  subst hn
  refine ⟨_, _, rfl, hm, fun i t ht => ⟨g, 0, rfl, hB, ?_⟩⟩
  obtain ⟨y0, y1, h0, h1, hr⟩ := hR i t ht
  have hi : i < us.length := (List.getElem?_eq_some_iff.1 ht).1
  refine ⟨[y0, y1], rfl, fun j hj => ?_, hr⟩
  rw [Nat.zero_add, h.cellAt (i * 2 + j) (by omega)]
  match j, hj with
  | 0, _ => simpa using h0
  | 1, _ => simpa using h1
set_option maxHeartbeats 1600000 in
theorem copyTerms_of {B : Nat → Prop} (m : Nat) (ih : ∀ (t : Tm) (v0 v1 : Value) (w : World), TmAt B m w t [v0, v1] → t.wt ≤ 1048576 →
      Calls Tryz.prog 118 #[.agg #[v0, v1]] w fun e w' => ∃ u0 u1, e = .returned (.agg #[u0, u1]) ∧ TmAt (fun b => w.heap.size ≤ b) m w' t [u0, u1] ∧ Below w.heap.size w w')
    (us : List Tm) (va : Value) (w : World) (h : ListAt B w 2 (TmAt B m w) va us) (hw : us.length + Tm.wts us ≤ 1048576) :
    Calls Tryz.prog 137 #[va] w fun e w' => ∃ u, e = .returned u ∧ ListAt (fun b => w.heap.size ≤ b) w' 2 (TmAt (fun b => w.heap.size ≤ b) m w') u us ∧ Below w.heap.size w w' := by
  obtain ⟨p, c, rfl, -⟩ := h.form
  have H := Lib.hid h
  have IH := Lib.hid ih
  have HW := Lib.hid hw
  have hlen : us.length ≤ 1048576 := by omega
  by_cases hu0 : us.length = 0
  · obtain rfl : us = [] := List.eq_nil_of_length_eq_zero hu0
    clear h ih hw
    go_enter Tryz.func137, Tryz.ntmps137
    go_wp2
    go_ret
    exact ⟨_, rfl, ListAt.nil _ _ _ _ _ _, by exact bel⟩
  have hu1 : ((us.length : Int) == 0) = false := by rw [beq_eq_false_iff_ne]; omega
  obtain ⟨-, i, z, hi, hz, hsz, hby, hzs, -⟩ := elemTmI
  clear h ih hw
  go_enter Tryz.func137, Tryz.ntmps137
  go_wp2_with (at_make; refine wpList_make_full _ rfl _ _ _ rfl w.heap.size 26 i z 2 Tryz.underlying24 hi hz hsz _ _ _ _ us.length rfl rfl rfl rfl (by rw [hby]; omega) (by unfold maxLen; omega) (Nat.le_refl _) ?_; intro w1 ho1 hg1)
  have hb1 : Below w.heap.size w w1 := ⟨hg1.os, hg1.tape, hg1.output, hg1.size, fun k hk => hg1.block k hk (by simp)⟩
  have HO1 := Lib.hid ho1
  clear ho1 hg1
  go_loopw [14] (CpRel w.heap.size us.length m us w) (fun i _ => us.length - (intOf i).toNat)
  case atStart => exact ⟨0, _, Nat.zero_le _, rfl, HO1.out, hb1, fun j t hj => absurd hj (Nat.not_lt_zero _)⟩
  case round =>
    obtain ⟨k, xs, hk, rfl, ho, hb, hall⟩ := hrel
    have HO := Lib.hid ho
    have HALL := Lib.hid hall
    have hxl : xs.length = us.length * 2 := ho.1
    clear ho hall HO1 hb1
    by_cases hlt : k < us.length
    · obtain ⟨b, o, rfl, hB, x0, x1, hx0, hx1, hx⟩ := (H.out.mono (SameOn.below hb) (fun _ h => h) (fun x cs _ hx => TmAt.below hb hx)).at2 hlt
      have hwt := Tm.wts_le us hlt
      obtain ⟨a, ha⟩ : ∃ a, us[k] = a := ⟨_, rfl⟩
      have HK : Hid (us[k]? = some a) := Lib.hid (by rw [List.getElem?_eq_getElem hlt, ha])
      rw [ha] at hx hwt
      have HX := Lib.hid hx
      clear hx ha
      have hgw := own_lt HO.out
      obtain ⟨pxx, cxx, rfl, rfl, -⟩ := HX.out.form
      go_wp2_with fail
      refine (IH.out a _ _ _ (HX.out.below (by exact bel)) (by have := HW.out; omega)).mono ?_
      rintro e w2 ⟨u0, u1, rfl, hu, hb2⟩
      have ⟨cw2, fw2⟩ := bcell hb2
      have qw2 := hb2.size
      (try simp at qw2)
      (try have zw2w := bsz (show w.heap.size < w2.heap.size by omega))
      have hb2w : Below wr.heap.size wr w2 := by exact bel
      obtain ⟨pu, cu, rfl, rfl, -, -⟩ := hu.form
      have HU := Lib.hid hu
      have HO2 := Lib.hid (own_below HO.out hb2w)
      clear hu
      obtain ⟨q0, hq0⟩ : ∃ q, w2.cell? ⟨w.heap.size, k * 2, none⟩ = some q := ⟨_, (HO2.out.cellAt (k * 2) (by omega)).trans (List.getElem?_eq_getElem (by omega))⟩
      obtain ⟨q1, hq1⟩ : ∃ q, w2.cell? ⟨w.heap.size, k * 2 + 1, none⟩ = some q := ⟨_, (HO2.out.cellAt (k * 2 + 1) (by omega)).trans (List.getElem?_eq_getElem (by omega))⟩
      have hf2 := fun j => HO2.out.frozenAt j
      clear cw2 fw2
      go_wp2
      generalize Value.string a.n = u0 at *
      generalize Value.slice pu a.us.length cu = u1 at *
      have ho3 := (HO2.out.stored (k * 2) u0).1
      have ho4 := (ho3.stored (k * 2 + 1) u1).1
      have hS : SameOn (fun b => w.heap.size < b) w2 ((w2.setCell ⟨w.heap.size, k * 2, none⟩ u0).setCell ⟨w.heap.size, k * 2 + 1, none⟩ u1) := by
        intro b hbb hlb
        exact (SameOn.store _ (p := ⟨w.heap.size, k * 2 + 1, none⟩) (B := fun b => w.heap.size < b) (fun b hb e => by simp at e; omega) u1 b hbb (by simpa using hlb)).trans (SameOn.store _ (p := ⟨w.heap.size, k * 2, none⟩) (B := fun b => w.heap.size < b) (fun b hb e => by simp at e; omega) u0 b hbb hlb)
      refine ⟨⟨k + 1, _, by omega, by go_num, ho4, ?_, ?_⟩, by simp [intOf]; omega⟩
      · exact ((show Below w.heap.size w w2 by exact bel).setCell (Nat.le_refl _) _).setCell (Nat.le_refl _) _
      · intro j t hj ht
        by_cases hjk : j = k
        · subst hjk
          rw [HK.out] at ht
          obtain rfl := Option.some.inj ht
          refine ⟨u0, u1, ?_, ?_, (HU.out.mono (B' := fun b => w.heap.size < b) (SameOn.refl _ _) (fun b hb => by simp at hb; omega) m m _ _ (Nat.le_refl _)).mono hS (fun b hb => hb) m m _ _ (Nat.le_refl _)⟩
          · rw [List.getElem?_set_ne (by omega), List.getElem?_set_self (by omega)]
          · rw [List.getElem?_set_self (by simp; omega)]
        · obtain ⟨y0, y1, e0, e1, hy⟩ := HALL.out j t (by omega) ht
          refine ⟨y0, y1, ?_, ?_, (hy.below hb2w).mono hS (fun b hb => hb) m m _ _ (Nat.le_refl _)⟩
          · rw [List.getElem?_set_ne (by omega), List.getElem?_set_ne (by omega)]; exact e0
          · rw [List.getElem?_set_ne (by omega), List.getElem?_set_ne (by omega)]; exact e1
    · obtain rfl : k = us.length := by omega
      go_wp2
      go_ret
      refine ⟨_, rfl, listAt_row2c HO.out rfl (by unfold maxLen; omega) (Nat.le_refl _) (fun j t ht => ?_), hb⟩
      obtain ⟨y0, y1, e0, e1, hy⟩ := HALL.out j t ((List.getElem?_eq_some_iff.1 ht).1) ht
      exact ⟨y0, y1, e0, e1, hy.mono (SameOn.refl _ _) (fun b hb => Nat.le_of_lt hb) m m _ _ (Nat.le_refl _)⟩
set_option maxHeartbeats 1600000 in
theorem copyTerm_any {B : Nat → Prop} : ∀ (m : Nat) (t : Tm) (v0 v1 : Value) (w : World), TmAt B m w t [v0, v1] → t.wt ≤ 1048576 →
      Calls Tryz.prog 118 #[.agg #[v0, v1]] w fun e w' => ∃ u0 u1, e = .returned (.agg #[u0, u1]) ∧ TmAt (fun b => w.heap.size ≤ b) m w' t [u0, u1] ∧ Below w.heap.size w w' := by
  intro m
  induction m with
  | zero => intro t v0 v1 w h; exact h.elim
  | succ m ih =>
    rintro ⟨s, us⟩ v0 v1 w ⟨va, hcs, hs, hl⟩ hw
    simp only [List.cons.injEq, and_true] at hcs
    obtain ⟨rfl, rfl⟩ := hcs
    rw [Tm.wt] at hw
    have HS := Lib.hid (copyTerms_of m ih)
    have HL := Lib.hid hl
    have HM := Lib.hid (And.intro hs hw)
    obtain ⟨p, c, rfl, -⟩ := hl.form
    clear ih hl hs hw
    go_enter Tryz.func118, Tryz.ntmps118
    go_wp2
    have c0 : (w.alloc (.cells #[.string s, .slice p us.length c] 26)).cell? ⟨w.heap.size, 0, none⟩ = some (.string s) := by go_simp
    obtain ⟨W, hW⟩ : ∃ W : World, W = (w.alloc (.cells #[.string s, .slice p us.length c] 26)).alloc (.cells #[.string ⟨#[]⟩, .slice none 0 0] 26) := ⟨_, rfl⟩
    have hsW : W.heap.size = w.heap.size + 2 := by rw [hW]; simp
    have hbW : Below w.heap.size w W := by rw [hW]; exact bel
    have a0 : W.cell? ⟨w.heap.size, 0, none⟩ = some (.string s) := by rw [hW]; go_simp
    have a1 : W.cell? ⟨w.heap.size, 1, none⟩ = some (.slice p us.length c) := by rw [hW]; go_simp
    have r0 : W.cell? ⟨w.heap.size + 1, 0, none⟩ = some (.string ⟨#[]⟩) := by rw [hW]; go_simp
    have r1 : W.cell? ⟨w.heap.size + 1, 1, none⟩ = some (.slice none 0 0) := by rw [hW]; go_simp
    have rf : ∀ j, W.frozen? ⟨w.heap.size + 1, j, none⟩ = false := fun j => by rw [hW]; go_simp
    rw [← hW]
    clear hW c0
    have zW := bsz (show w.heap.size < W.heap.size by omega)
    have zW1 := bsz (show w.heap.size + 1 < W.heap.size by omega)
    go_region_held3 (fun w' => w'.cell? ⟨w.heap.size, 0, none⟩ = some (.string s) ∧ w'.cell? ⟨w.heap.size, 1, none⟩ = some (.slice p us.length c)) (first | go_keep | (refine ⟨?_, ?_⟩ <;> first | assumption | (go_simp; done) | (exact (World.cell?_of_block (hb6.block _ (by simp; omega))).trans (by first | assumption | (go_simp; done))))) (first | (go_at_call 137; refine (HS.out us _ _ (HL.out.mono (SameOn.below (by (repeat (first | with_reducible (first | exact bR _ _ | assumption | refine bA ?_ _ | refine bS ?_ (by first | exact Nat.le_refl _ | (simp; done) | (simp; omega)) _) | assumption | exact bR _ _ | refine bD ?_ | refine bN ?_ _ | refine bT ?_ (by assumption))))) (fun _ h => h) (fun x cs _ hx => TmAt.below (by (repeat (first | with_reducible (first | exact bR _ _ | assumption | refine bA ?_ _ | refine bS ?_ (by first | exact Nat.le_refl _ | (simp; done) | (simp; omega)) _) | assumption | exact bR _ _ | refine bD ?_ | refine bN ?_ _ | refine bT ?_ (by assumption)))) hx)) (by have := HM.out.2; omega)).mono ?_; rintro e w6 ⟨u, rfl, hu, hb6⟩; obtain ⟨pu, cu, rfl, -⟩ := hu.form; have HU := Lib.hid hu; clear hu; have hq6 := hb6.size; (try simp at hq6); have ⟨cb6, fb6⟩ := bcell hb6; have zr := bsz (show w.heap.size + 1 < w6.heap.size by omega)))
    all_goals
      go_wp2
      refine bodyPost_ret (v := .agg #[.string s, .slice pu us.length cu]) (by simp only [results, Tryz.results118]; go_simp) rfl ⟨_, _, rfl, ⟨_, rfl, HM.out.1, ?_⟩, by exact bel⟩
      refine HU.out.mono (((SameOn.refl _ _).sc ?_ _).sc ?_ _) (fun b hb => by simp at hb; omega) (fun x cs _ hx => TmAt.mono (((SameOn.refl _ _).sc ?_ _).sc ?_ _) (fun b hb => by simp at hb; omega) m m x cs (Nat.le_refl _) hx)
      all_goals (intro b hb; simp at hb ⊢; omega)
def Lit3.fm (l : Lit3) : Fm := if l.pos then atomOfF l.a else opF 4 [atomOfF l.a]
theorem alloc_new_at {W : World} {o : Obj} {k : Nat} (h : W.heap.size = k) : (W.alloc o).heap[k]? = some o := h ▸ heap_alloc_new W o
theorem opF_at {B : Nat → Prop} {m : Nat} {w : World} {op : Int} {ps : List Fm} {vp : Value} (ho : -9223372036854775808 ≤ op ∧ op ≤ 9223372036854775807) (h : ListAt B w 5 (FmAt B (m + 1) w) vp ps) :
    FmAt B (m + 2) w (opF op ps) [.int .i64 op, .string ⟨#[]⟩, .slice none 0 0, .string ⟨#[]⟩, vp] :=
  ⟨_, _, _, rfl, ho, Nat.zero_le _, ⟨_, rfl, Nat.zero_le _, ListAt.nil _ _ _ _ _ _⟩, h⟩
theorem list_one {α : Type} {B : Nat → Prop} {w : World} {R : α → List Value → Prop} {g : Nat} {x : α} {cs : Array Value} {e : TypeId} (hg : w.heap[g]? = some (.cells cs e (0, 0))) (hB : B g) (hc : cs.size = 5) (hR : R x cs.toList) : ListAt B w 5 R (.slice (some ⟨g, 0, none⟩) 1 1) [x] := by
  refine ⟨_, _, rfl, by simp [maxLen], fun i y hy => ⟨g, 0, rfl, hB, cs.toList, by simpa using hc, fun j hj => ?_, ?_⟩⟩
  · have hi : i < 1 := by have := (List.getElem?_eq_some_iff.1 hy).1; simpa using this
    obtain rfl : i = 0 := by omega
    rw [cell_of_row w g _ cs e (0, 0) hg]; simp
  · have hi : i < 1 := by have := (List.getElem?_eq_some_iff.1 hy).1; simpa using this
    obtain rfl : i = 0 := by omega
    obtain rfl : x = y := by simpa using hy
    exact hR
theorem list_two {α : Type} {B : Nat → Prop} {w : World} {R : α → List Value → Prop} {g : Nat} {x y : α} {cs ds : List Value} {all : Array Value} {e : TypeId} (hall : all = (cs ++ ds).toArray) (hg : w.heap[g]? = some (.cells all e (0, 0))) (hB : B g) (hc : cs.length = 5) (hd : ds.length = 5) (hR : R x cs) (hR2 : R y ds) : ListAt B w 5 R (.slice (some ⟨g, 0, none⟩) 2 2) [x, y] := by
  subst hall
  refine ⟨_, _, rfl, by simp [maxLen], fun i z hz => ?_⟩
  have hi : i < 2 := by have := (List.getElem?_eq_some_iff.1 hz).1; simpa using this
  match i, hi with
  | 0, _ =>
    obtain rfl : x = z := by simpa using hz
    refine ⟨g, 0, rfl, hB, cs, hc, fun j hj => ?_, hR⟩
    rw [cell_of_row w g _ _ e (0, 0) hg]
    simp [List.getElem?_append_left (show j < cs.length by omega)]
  | 1, _ =>
    obtain rfl : y = z := by simpa using hz
    refine ⟨g, 0, rfl, hB, ds, hd, fun j hj => ?_, hR2⟩
    rw [cell_of_row w g _ _ e (0, 0) hg]
    simp only [List.getElem?_toArray]
    rw [List.getElem?_append_right (by omega)]
    congr 1; omega
set_option maxHeartbeats 800000 in
theorem atomOf_at {B : Nat → Prop} (m : Nat) (t : Tm) (v0 v1 : Value) (w : World) (h : TmAt B m w t [v0, v1]) :
    Calls Tryz.prog 76 #[.agg #[v0, v1]] w fun e w' => e = .returned (.agg #[.int .i64 3, v0, v1, .string ⟨#[]⟩, .slice none 0 0]) ∧ FmAt B (m + 1) w' (atomOfF t) [.int .i64 3, v0, v1, .string ⟨#[]⟩, .slice none 0 0] ∧ Below w.heap.size w w' := by
  obtain ⟨p, c, rfl, rfl, -⟩ := h.form
  have HF := Lib.hid h
  clear h
  go_enter Tryz.func76, Tryz.ntmps76
  go_wp2
  refine bodyPost_ret (v := .agg #[.int .i64 3, .string t.n, .slice p t.us.length c, .string ⟨#[]⟩, .slice none 0 0]) (by simp only [results, Tryz.results76]; go_simp) rfl ⟨rfl, ⟨_, _, _, rfl, by omega, Nat.zero_le _, HF.out.below (by exact bel), ListAt.nil _ _ _ _ _ _⟩, by exact bel⟩
set_option maxHeartbeats 800000 in
theorem not_at {B : Nat → Prop} (m : Nat) (t : Fm) (v0 v1 v2 v3 v4 : Value) (w : World) (h : FmAt B (m + 1) w t [v0, v1, v2, v3, v4]) :
    Calls Tryz.prog 37 #[.agg #[v0, v1, v2, v3, v4]] w fun e w' => ∃ u0 u1 u2 u3 u4, e = .returned (.agg #[u0, u1, u2, u3, u4]) ∧ FmAt (fun b => B b ∨ w.heap.size ≤ b) (m + 2) w' (opF 4 [t]) [u0, u1, u2, u3, u4] ∧ Below w.heap.size w w' := by
  obtain ⟨p, c, q, d, rfl, rfl, rfl, rfl, rfl, -⟩ := h.form
  have HF := Lib.hid h
  clear h
  go_enter Tryz.func37, Tryz.ntmps37
  go_wp2
  refine bodyPost_ret (v := .agg #[.int .i64 4, .string ⟨#[]⟩, .slice none 0 0, .string ⟨#[]⟩, .slice (some ⟨w.heap.size + 1 + 1, 0, none⟩) 1 1]) (by simp only [results, Tryz.results37]; go_simp) rfl ⟨_, _, _, _, _, rfl, opF_at (by omega) ?_, by exact bel⟩
  refine list_one (e := 29) (cs := #[.int .i64 t.op, .string t.a.n, .slice p t.a.us.length c, .string t.v, .slice q t.ps.length d]) ?_ (.inr (by omega)) rfl (FmAt.mono (SameOn.below (by exact bel)) (fun b hb => .inl hb) _ _ _ _ (Nat.le_refl _) HF.out)
  exact alloc_new_at (by simp)
set_option maxHeartbeats 800000 in
theorem binary_at {B : Nat → Prop} (m : Nat) (op : Int) (ho : -9223372036854775808 ≤ op ∧ op ≤ 9223372036854775807) (t r : Fm) (v0 v1 v2 v3 v4 u0 u1 u2 u3 u4 : Value) (w : World) (h : FmAt B (m + 1) w t [v0, v1, v2, v3, v4]) (h' : FmAt B (m + 1) w r [u0, u1, u2, u3, u4]) :
    Calls Tryz.prog 71 #[.int .i64 op, .agg #[v0, v1, v2, v3, v4], .agg #[u0, u1, u2, u3, u4]] w fun e w' => ∃ z0 z1 z2 z3 z4, e = .returned (.agg #[z0, z1, z2, z3, z4]) ∧ FmAt (fun b => B b ∨ w.heap.size ≤ b) (m + 2) w' (opF op [t, r]) [z0, z1, z2, z3, z4] ∧ Below w.heap.size w w' := by
  obtain ⟨p, c, q, d, rfl, rfl, rfl, rfl, rfl, -⟩ := h.form
  obtain ⟨p', c', q', d', rfl, rfl, rfl, rfl, rfl, -⟩ := h'.form
  have HF := Lib.hid h
  have HF' := Lib.hid h'
  clear h h'
  go_enter Tryz.func71, Tryz.ntmps71
  go_wp2
  refine bodyPost_ret (v := .agg #[.int .i64 op, .string ⟨#[]⟩, .slice none 0 0, .string ⟨#[]⟩, .slice (some ⟨w.heap.size + 1 + 1 + 1, 0, none⟩) 2 2]) (by simp only [results, Tryz.results71]; go_simp) rfl ⟨_, _, _, _, _, rfl, opF_at ho ?_, by exact bel⟩
  refine list_two (e := 29) (cs := [.int .i64 t.op, .string t.a.n, .slice p t.a.us.length c, .string t.v, .slice q t.ps.length d]) (ds := [.int .i64 r.op, .string r.a.n, .slice p' r.a.us.length c', .string r.v, .slice q' r.ps.length d']) rfl ?_ (.inr (by omega)) rfl rfl (FmAt.mono (SameOn.below (by exact bel)) (fun b hb => .inl hb) _ _ _ _ (Nat.le_refl _) HF.out) (FmAt.mono (SameOn.below (by exact bel)) (fun b hb => .inl hb) _ _ _ _ (Nat.le_refl _) HF'.out)
  exact alloc_new_at (by simp)
def textCmp (x y : List UInt8) : Int := if Op.bytesLess x y then -1 else if x == y then 0 else 1
theorem bytesLess_self : ∀ x : List UInt8, Op.bytesLess x x = false
  | [] => by simp [Op.bytesLess]
  | a :: x => by simp [Op.bytesLess, bytesLess_self x]
theorem textCmp_self (x : List UInt8) : textCmp x x = 0 := by simp [textCmp, bytesLess_self]
theorem textCmp_ne {x y : List UInt8} (h : x ≠ y) : textCmp x y ≠ 0 := by
  unfold textCmp
  split
  · omega
  · rw [if_neg (by simpa using h)]; omega
def lead (l : List UInt8) : Bool := match l with | [] => false | c :: _ => upC c
mutual
def Tm.ord : Tm → Bool | .mk n us => !n.data.toList.isEmpty && lead n.data.toList == varB n.data.toList && Tm.ords us
def Tm.ords : List Tm → Bool | [] => true | a :: us => a.ord && Tm.ords us
end
mutual
def Tm.cmp : Tm → Tm → Int
  | .mk n us, .mk k vs =>
    if varB n.data.toList && !varB k.data.toList then -1
    else if varB k.data.toList && !varB n.data.toList then 1
    else if textCmp n.data.toList k.data.toList ≠ 0 then textCmp n.data.toList k.data.toList
    else if us.length < vs.length then -1 else if vs.length < us.length then 1 else Tm.cmps us vs
def Tm.cmps : List Tm → List Tm → Int
  | [], [] => 0
  | [], _ :: _ => -1
  | _ :: _, [] => 1
  | a :: us, b :: vs => if a.cmp b ≠ 0 then a.cmp b else Tm.cmps us vs
end
theorem varB_lead {l : List UInt8} (h : varB l = true) : lead l = true := by
  simp only [varB, Bool.and_eq_true, decide_eq_true_eq] at h
  cases l with
  | nil => simp at h
  | cons c r => have := h.2; simp only [headTail, Bool.and_eq_true] at this; exact this.1
theorem symB_lead {l : List UInt8} (h : symB l = true) : lead l = false ∧ varB l = false ∧ l ≠ [] := by
  simp only [symB, Bool.and_eq_true, decide_eq_true_eq] at h
  obtain ⟨⟨⟨h1, h2⟩, h3⟩, h4⟩ := h
  cases l with
  | nil => simp at h1
  | cons c r =>
    simp only [headTail, Bool.and_eq_true] at h3
    have hc : upC c = false := by
      have := h3.1
      rw [Bool.eq_false_iff]
      intro h'
      simp only [upC, loC, Bool.and_eq_true, decide_eq_true_eq] at h' this
      omega
    refine ⟨hc, ?_, by simp⟩
    rw [Bool.eq_false_iff]
    intro hv
    have := varB_lead hv
    rw [show lead (c :: r) = upC c from rfl, hc] at this
    cases this
theorem varB_ne {l : List UInt8} (h : varB l = true) : l ≠ [] := by rintro rfl; simp [varB] at h
mutual
theorem Tm.ord_nodes : ∀ t : Tm, t.nodes = true → t.ord = true
  | .mk n us, h => by
    rw [Tm.nodes] at h
    rw [Tm.ord]
    split at h
    · rename_i hv
      obtain rfl : us = [] := by simpa using h
      have hne : ¬ n.data = #[] := fun e => varB_ne hv (by rw [e])
      simp [hv, varB_lead hv, Tm.ords, hne]
    · rename_i hv
      simp only [Bool.and_eq_true] at h
      have hs := symB_lead h.1.1
      have := Tm.ords_nodes us h.2
      have hne : ¬ n.data = #[] := fun e => hs.2.2 (by rw [e])
      simp [hs.1, hs.2.1, this, hne]
theorem Tm.ords_nodes : ∀ us : List Tm, Tm.nodess us = true → Tm.ords us = true
  | [], _ => rfl
  | a :: us, h => by
    rw [Tm.nodess, Bool.and_eq_true] at h
    rw [Tm.ords, Bool.and_eq_true]
    exact ⟨Tm.ord_nodes a h.1, Tm.ords_nodes us h.2⟩
end
theorem Tm.ord_atom {t : Tm} (h : t.atom = true) : t.ord = true := by
  obtain ⟨n, us⟩ := t
  rw [Tm.atom] at h
  split at h
  · rename_i hq
    simp only [Bool.and_eq_true] at h
    have hn : n.data.toList = [61] := by simpa [isEq, Tm.n] using hq
    rw [Tm.ord, hn]
    have := Tm.ords_nodes us h.2
    rw [this]; rfl
  · simp only [Bool.and_eq_true, Tm.good] at h
    exact Tm.ord_nodes _ h.2.2
theorem Tm.cmps_drop {us vs : List Tm} {i : Nat} (h1 : i < us.length) (h2 : i < vs.length) : Tm.cmps (us.drop i) (vs.drop i) = if us[i].cmp vs[i] ≠ 0 then us[i].cmp vs[i] else Tm.cmps (us.drop (i + 1)) (vs.drop (i + 1)) := by
  rw [List.drop_eq_getElem_cons h1, List.drop_eq_getElem_cons h2, Tm.cmps]
theorem Tm.ords_at {us : List Tm} {i : Nat} (h : Tm.ords us = true) (hi : i < us.length) : us[i].ord = true := by
  induction us generalizing i with
  | nil => simp at hi
  | cons a us ih =>
    rw [Tm.ords, Bool.and_eq_true] at h
    cases i with
    | zero => exact h.1
    | succ i => exact ih h.2 (by simpa using hi)
theorem isNaNs_any (s : ByteArray) (w : World) : Calls Tryz.prog 136 #[.string s] w fun e w' => e = .returned (.bool false) ∧ w = w' := by
  go_enter Tryz.func136, Tryz.ntmps136
  go_wp2
  refine bodyPost_ret (v := .bool false) (by simp only [results, Tryz.results136]; go_simp) rfl ⟨rfl, rfl⟩
theorem compareS_any (s t : ByteArray) (w : World) : Calls Tryz.prog 115 #[.string s, .string t] w fun e w' => e = .returned (.int .i64 (textCmp s.data.toList t.data.toList)) ∧ w = w' := by
  go_enter Tryz.func115, Tryz.ntmps115
  go_wp2_with (first | (go_at_call 136; refine (isNaNs_any _ _).mono ?_; rintro e w' ⟨rfl, rfl⟩))
  all_goals go_ret
  all_goals
    refine ⟨ret_int ?_, rfl⟩
    rw [textCmp]
    simp_all [ByteArray.toList_eq]
def orI (x y : Int) : Int := if x ≠ 0 then x else y
def OrRel (x y : Int) (w : World) (i : Value) (wr : World) : Prop := wr = w ∧ (i = .int .i64 0 ∨ (i = .int .i64 1 ∧ x = 0) ∨ (i = .int .i64 2 ∧ x = 0 ∧ y = 0))
theorem or2_any (x y : Int) (g c : Nat) (w : World) (h0 : w.cell? ⟨g, 0, none⟩ = some (.int .i64 x)) (h1 : w.cell? ⟨g, 1, none⟩ = some (.int .i64 y)) :
    Calls Tryz.prog 81 #[.slice (some ⟨g, 0, none⟩) 2 c] w fun e w' => e = .returned (.int .i64 (orI x y)) ∧ Below w.heap.size w w' := by
  go_enter Tryz.func81, Tryz.ntmps81
  go_wp2
  go_loopw [8] (OrRel x y w) (fun i _ => 2 - (intOf i).toNat)
  case atStart => exact ⟨rfl, .inl rfl⟩
  case round =>
    obtain ⟨rfl, rfl | ⟨rfl, rfl⟩ | ⟨rfl, rfl, rfl⟩⟩ := hrel
    · by_cases hx : x = 0
      · subst hx
        go_wp2
        exact ⟨⟨rfl, .inr (.inl ⟨rfl, rfl⟩)⟩, by simp [intOf]⟩
      · have hx' : (x == 0) = false := by simpa using hx
        have hx2 : (x != 0) = true := by rw [bne, hx']; rfl
        go_wp2
        go_ret
        exact ⟨ret_int (by simp [orI, hx]), Below.refl _ _⟩
    · by_cases hy : y = 0
      · subst hy
        go_wp2
        exact ⟨⟨rfl, .inr (.inr ⟨rfl, rfl, rfl⟩)⟩, by simp [intOf]⟩
      · have hx' : (y == 0) = false := by simpa using hy
        have hx2 : (y != 0) = true := by rw [bne, hx']; rfl
        go_wp2
        go_ret
        exact ⟨ret_int (by simp [orI]), Below.refl _ _⟩
    · go_wp2
      go_ret
      exact ⟨ret_int (by simp [orI]), Below.refl _ _⟩
theorem l2Text_any (s t : ByteArray) (w : World) : Calls Tryz.prog 124 #[.string s, .string t] w fun e w' => e = .returned (.int .i64 (textCmp s.data.toList t.data.toList)) ∧ w = w' := by
  go_enter Tryz.func124, Tryz.ntmps124
  go_wp2
  all_goals go_ret
  all_goals
    refine ⟨ret_int ?_, rfl⟩
    rw [textCmp]
    simp_all [ByteArray.toList_eq]
theorem isVar_any {B : Nat → Prop} (m : Nat) (t : Tm) (v0 v1 : Value) (w : World) (h : TmAt B m w t [v0, v1]) (ho : t.ord = true) :
    Calls Tryz.prog 114 #[.agg #[v0, v1]] w fun e w' => e = .returned (.bool (varB t.n.data.toList)) ∧ Below w.heap.size w w' := by
  obtain ⟨p, c, rfl, rfl, -⟩ := h.form
  obtain ⟨n, us⟩ := t
  rw [Tm.ord] at ho
  simp only [Bool.and_eq_true, beq_iff_eq] at ho
  simp only [Tm.n, Tm.us]
  clear h
  have hn : 0 < n.size := by
    rw [size_list]
    refine List.length_pos_iff.2 (fun e => ?_)
    have := ho.1.1; rw [e] at this; simp at this
  have hn' : (0 : Int) < n.size := by omega
  have HV := Lib.hid (show upC n[0] = varB n.data.toList by
    rw [← ho.1.2]
    have e : n.data.toList = n[0] :: n.data.toList.tail := by
      cases hl : n.data.toList with
      | nil => rw [size_list, hl] at hn; simp at hn
      | cons c r =>
        have : n.data.toList[0]? = some n[0] := by rw [List.getElem?_eq_getElem (by rw [← size_list]; exact hn)]; rfl
        rw [hl] at this; simp at this; rw [this]; rfl
    rw [e]; rfl)
  go_enter Tryz.func114, Tryz.ntmps114
  go_wp2_with (first | (go_at_call 73; refine (isUpper_any _ _).mono ?_; rintro e w' ⟨rfl, rfl⟩))
  go_ret
  exact ⟨ret_bool HV.out, by exact bel⟩
def flagI (b : Bool) : Int := if b then 1 else 0
def Lit3.cmp (a b : Lit3) : Int := orI (a.a.cmp b.a) (Lib.compareInt (flagI a.pos) (flagI b.pos))
def ascP : Option Lit3 → Lit3 → Bool | none, _ => true | some q, l => decide (q.cmp l < 0)
def Cls.okF : Option Lit3 → List Lit3 → Bool
  | _, [] => true
  | p, l :: ls => l.a.atom && ascP p l && Cls.okF (some l) ls
def Cls.good (c : List Lit3) : Bool := decide (c.length ≤ 8) && Cls.okF none c
def prevAt (c : List Lit3) : Nat → Option Lit3 | 0 => none | k + 1 => c[k]?
theorem okF_drop {c : List Lit3} {k : Nat} (h : k < c.length) : Cls.okF (prevAt c k) (c.drop k) = (c[k].a.atom && ascP (prevAt c k) c[k] && Cls.okF (prevAt c (k + 1)) (c.drop (k + 1))) := by
  rw [List.drop_eq_getElem_cons h, Cls.okF, show prevAt c (k + 1) = some c[k] from List.getElem?_eq_getElem h]
theorem prevAt_pos {c : List Lit3} {k : Nat} (h : k < c.length) (hk : 0 < k) : prevAt c k = some (c[k - 1]'(by omega)) := by
  obtain ⟨j, rfl⟩ : ∃ j, k = j + 1 := ⟨k - 1, by omega⟩
  exact List.getElem?_eq_getElem (by omega)
theorem cmp_flags (p q : Bool) : Lib.compareInt (flagI p) (flagI q) = if !p && q then -1 else if p && !q then 1 else 0 := by cases p <;> cases q <;> rfl
theorem cmps_end {us vs : List Tm} (h : vs.length ≤ us.length) : Tm.cmps (us.drop us.length) (vs.drop us.length) = 0 := by
  rw [List.drop_length, List.drop_eq_nil_of_le h, Tm.cmps]
theorem cmps_short {us vs : List Tm} (h : us.length < vs.length) : Tm.cmps (us.drop us.length) (vs.drop us.length) = -1 := by
  rw [List.drop_length, List.drop_eq_getElem_cons h, Tm.cmps]
theorem cmps_long {us vs : List Tm} {i : Nat} (h : i < us.length) (h2 : vs.length ≤ i) : Tm.cmps (us.drop i) (vs.drop i) = 1 := by
  rw [List.drop_eq_nil_of_le h2, List.drop_eq_getElem_cons h, Tm.cmps]
def CmpC (B : Nat → Prop) (m : Nat) : Prop := ∀ (a b : Tm) (v0 v1 u0 u1 : Value) (w : World), TmAt B m w a [v0, v1] → TmAt B m w b [u0, u1] → a.ord = true → b.ord = true →
  Calls Tryz.prog 82 #[.agg #[v0, v1], .agg #[u0, u1]] w fun e w' => e = .returned (.int .i64 (a.cmp b)) ∧ Below w.heap.size w w'
def CmpRel (us vs : List Tm) (w : World) (i : Value) (wr : World) : Prop := ∃ k : Nat, k ≤ us.length ∧ k ≤ vs.length ∧ i = .int .i64 k ∧ Tm.cmps us vs = Tm.cmps (us.drop k) (vs.drop k) ∧ Below w.heap.size w wr
set_option maxHeartbeats 1600000 in
theorem compareFunc_any {B : Nat → Prop} (m : Nat) (HC0 : CmpC B m) (us vs : List Tm) (hu : Tm.ords us = true) (hv : Tm.ords vs = true) (va vb : Value) (w : World) (h : ListAt B w 2 (TmAt B m w) va us) (h' : ListAt B w 2 (TmAt B m w) vb vs) :
    Calls Tryz.prog 116 #[va, vb, .func (.func 82) #[] #[]] w fun e w' => e = .returned (.int .i64 (Tm.cmps us vs)) ∧ Below w.heap.size w w' := by
  obtain ⟨p, c, rfl, hlen⟩ := h.form
  obtain ⟨q, d, rfl, hlen'⟩ := h'.form
  unfold maxLen at hlen hlen'
  have HU := Lib.hid h
  have HV := Lib.hid h'
  have HC := Lib.hid HC0
  clear h h' HC0
  go_enter Tryz.func116, Tryz.ntmps116
  go_wp2
  go_loopw [13] (CmpRel us vs w) (fun i _ => us.length - (intOf i).toNat)
  case atStart => exact ⟨0, Nat.zero_le _, Nat.zero_le _, rfl, rfl, by exact bel⟩
  case round =>
    obtain ⟨k, hk, hk2, rfl, he, hb⟩ := hrel
    have HE := Lib.hid he
    clear he
    by_cases hlt : k < us.length
    · by_cases hlt2 : k < vs.length
      · have hor := Tm.ords_at hu hlt
        have hor2 := Tm.ords_at hv hlt2
        have hd := Tm.cmps_drop hlt hlt2
        obtain ⟨b2, o2, hq2, hB2, y0, y1, hy0, hy1, hy⟩ := (HV.out.mono (SameOn.below hb) (fun _ h => h) (fun x cs _ hx => TmAt.below hb hx)).at2 hlt2
        subst hq2
        obtain ⟨a2, ha2⟩ : ∃ a2, vs[k] = a2 := ⟨_, rfl⟩
        rw [ha2] at hor2 hd hy
        obtain ⟨b, o, rfl, hB, x0, x1, hx0, hx1, hx⟩ := (HU.out.mono (SameOn.below hb) (fun _ h => h) (fun x cs _ hx => TmAt.below hb hx)).at2 hlt
        have hD := hd
        have hO := hor
        obtain ⟨a, ha⟩ : ∃ a, us[k] = a := ⟨_, rfl⟩
        rw [ha] at hx
        rw [ha] at hD
        rw [ha] at hO
        have HX := Lib.hid hx
        have HD := Lib.hid hD
        have HO := Lib.hid hO
        clear hx ha hD hO
        have zb := bsz (World.block_lt_of_cell? _ _ hx0)
        have HY := Lib.hid hy
        clear hy ha2
        obtain ⟨pa, ca, rfl, rfl, -⟩ := HX.out.form
        obtain ⟨pb, cb, rfl, rfl, -⟩ := HY.out.form
        have zb2 := bsz (World.block_lt_of_cell? _ _ hy0)
        go_wp2_with fail
        refine (HC.out a a2 _ _ _ _ _ (TmAt.below (by exact bel) HX.out) (TmAt.below (by exact bel) HY.out) HO.out hor2).mono ?_
        rintro e w1 ⟨rfl, hb1⟩
        cases hz : (a.cmp a2 == 0)
        · have hz' : (a.cmp a2 != 0) = true := by rw [bne, hz]; rfl
          have hz2 : ¬ a.cmp a2 = 0 := by simpa using hz
          go_wp2
          go_ret
          exact ⟨ret_int (by rw [HE.out, HD.out, if_pos hz2]), by exact bel⟩
        · have hz' : (a.cmp a2 != 0) = false := by rw [bne, hz]; rfl
          have hz2 : a.cmp a2 = 0 := by simpa using hz
          go_wp2
          refine ⟨⟨k + 1, by omega, by omega, by go_num, by rw [HE.out, HD.out, if_neg (by simpa using hz2)], by exact bel⟩, by simp [intOf]; omega⟩
      · obtain ⟨b, o, rfl, hB, x0, x1, hx0, hx1, hx⟩ := (HU.out.mono (SameOn.below hb) (fun _ h => h) (fun x cs _ hx => TmAt.below hb hx)).at2 hlt
        obtain ⟨a, ha⟩ : ∃ a, us[k] = a := ⟨_, rfl⟩
        rw [ha] at hx
        have HX := Lib.hid hx
        clear hx ha 
        have zb := bsz (World.block_lt_of_cell? _ _ hx0)
        obtain ⟨pa, ca, rfl, rfl, -⟩ := HX.out.form
        have hge : (vs.length : Int) ≤ k := by omega
        go_wp2
        go_ret
        exact ⟨ret_int (by rw [HE.out, cmps_long hlt (by omega)]), by exact bel⟩
    · obtain rfl : k = us.length := by omega
      by_cases hlt2 : us.length < vs.length
      · have hlt3 : (us.length : Int) < vs.length := by omega
        go_wp2
        go_ret
        exact ⟨ret_int (by rw [HE.out, cmps_short hlt2]), by exact bel⟩
      · have hlt3 : ¬ (us.length : Int) < vs.length := by omega
        go_wp2
        go_ret
        exact ⟨ret_int (by rw [HE.out, cmps_end (by omega)]), by exact bel⟩
theorem Tm.cmp_eq (a b : Tm) : a.cmp b = if varB a.n.data.toList && !varB b.n.data.toList then -1 else if varB b.n.data.toList && !varB a.n.data.toList then 1
    else if textCmp a.n.data.toList b.n.data.toList ≠ 0 then textCmp a.n.data.toList b.n.data.toList else if a.us.length < b.us.length then -1 else if b.us.length < a.us.length then 1 else Tm.cmps a.us b.us := by
  obtain ⟨n, us⟩ := a; obtain ⟨k, vs⟩ := b; rw [Tm.cmp]; rfl
theorem cmp_or (t : Int) (la lb : Nat) (x : Int) : (if t ≠ 0 then t else if la < lb then -1 else if lb < la then 1 else x) = if orI t (Lib.compareInt la lb) ≠ 0 then orI t (Lib.compareInt la lb) else x := by
  unfold orI Lib.compareInt
  by_cases ht : t = 0
  · by_cases h1 : la < lb
    · simp [ht, h1]
    · by_cases h2 : lb < la
      · simp [ht, h1, h2]
      · simp [ht, h1, h2]
  · simp [ht]
theorem Tm.ord_us {a : Tm} (h : a.ord = true) : Tm.ords a.us = true := by obtain ⟨n, us⟩ := a; rw [Tm.ord, Bool.and_eq_true] at h; exact h.2
theorem TmAt.sub' {B : Nat → Prop} {w : World} {n : Nat} {t : Tm} {v0 v1 : Value} (h : TmAt B (n + 1) w t [v0, v1]) : ListAt B w 2 (TmAt B n w) v1 t.us := by
  obtain ⟨s, us⟩ := t
  obtain ⟨va, h1, h2, h3⟩ := h
  simp only [List.cons.injEq, and_true] at h1
  obtain ⟨-, rfl⟩ := h1
  exact h3
set_option maxHeartbeats 3200000 in
theorem compareTerms_any {B : Nat → Prop} : ∀ m : Nat, CmpC B m := by
  intro m
  induction m with
  | zero => intro a b v0 v1 u0 u1 w h; exact h.elim
  | succ m ih =>
    intro a b v0 v1 u0 u1 w ha hb hoa hob
    obtain ⟨p, c, rfl, rfl, -, hla⟩ := ha.form
    obtain ⟨q, d, rfl, rfl, -, hlb⟩ := hb.form
    unfold maxLen at hla hlb
    have HA := Lib.hid ha
    have HB := Lib.hid hb
    have IH := Lib.hid (compareFunc_any m ih a.us b.us (Tm.ord_us hoa) (Tm.ord_us hob))
    have HCE := Lib.hid (Tm.cmp_eq a b)
    clear ha hb ih
    go_enter Tryz.func82, Tryz.ntmps82
    go_wp2
    obtain ⟨W, hW⟩ : ∃ W : World, W = (w.alloc (.cells #[.string a.n, .slice p a.us.length c] 26)).alloc (.cells #[.string b.n, .slice q b.us.length d] 26) := ⟨_, rfl⟩
    have hsW : W.heap.size = w.heap.size + 2 := by rw [hW]; simp
    have hbW : Below w.heap.size w W := by rw [hW]; exact bel
    have a0 : W.cell? ⟨w.heap.size, 0, none⟩ = some (.string a.n) := by rw [hW]; go_simp
    have a1 : W.cell? ⟨w.heap.size, 1, none⟩ = some (.slice p a.us.length c) := by rw [hW]; go_simp
    have b0 : W.cell? ⟨w.heap.size + 1, 0, none⟩ = some (.string b.n) := by rw [hW]; go_simp
    have b1 : W.cell? ⟨w.heap.size + 1, 1, none⟩ = some (.slice q b.us.length d) := by rw [hW]; go_simp
    rw [← hW]
    clear hW
    have zW := bsz (show w.heap.size < W.heap.size by omega)
    have zW1 := bsz (show w.heap.size + 1 < W.heap.size by omega)
    obtain ⟨C, HC0⟩ := class_of (InF W.heap.size _ [(⟨w.heap.size, 0, none⟩, .string a.n), (⟨w.heap.size, 1, none⟩, .slice p a.us.length c), (⟨w.heap.size + 1, 0, none⟩, .string b.n), (⟨w.heap.size + 1, 1, none⟩, .slice q b.us.length d)] [] [])
    have HC := Lib.hid HC0
    clear HC0
    refine wp_region_flow (C := C) (by kernel_rfl) (by kernel_rfl) (fun L hL => (HC.out _ _).2 (InF.start (by first | (intro _ hs; cases hs; done) | (simp only [List.forall_mem_cons]; go_simp)) (by first | (intro _ hs; cases hs; done) | (simp only [List.forall_mem_cons]; go_simp)) (by first | (intro _ hs; cases hs; done) | (simp only [List.forall_mem_cons]; go_simp)) (by first | (intro _ hs; cases hs; done) | (simp only [List.forall_mem_cons]; go_simp)) L hL)) ?_
    repeat (first | ((first | apply flow_free rfl | (apply flow_yes; (case hw => go_simp))); (intro L w' hun hrd hC; have hC := (HC.out _ _).1 hC; have hb' := hC.below; (try have hw' : Below w.heap.size w w' := by first | exact Below.trans (by (repeat (first | with_reducible (first | exact bR _ _ | assumption | refine bA ?_ _ | refine bS ?_ (by first | exact Nat.le_refl _ | (simp; done) | (simp; omega)) _) | assumption | exact bR _ _ | refine bD ?_ | refine bN ?_ _ | refine bT ?_ (by assumption)))) hb' | ((repeat (first | with_reducible (first | exact bR _ _ | assumption | refine bA ?_ _ | refine bS ?_ (by first | exact Nat.le_refl _ | (simp; done) | (simp; omega)) _) | assumption | exact bR _ _ | refine bD ?_ | refine bN ?_ _ | refine bT ?_ (by assumption))); done)); have hf' := hC.cell; (try simp only [List.forall_mem_cons] at hf'); go_simp; first | exact ⟨(HC.out _ _).2 (hC.skip _ (by rfl)), rfl⟩ | (rw [if_neg]; (exact ⟨(HC.out _ _).2 (hC.skip _ (by rfl)), rfl⟩); omega) | (go_at_call 114; (with_reducible refine (isVar_any (m + 1) a _ _ _ (TmAt.below hw' HA.out) hoa).mono ?_); rintro e w1 ⟨rfl, hb1⟩; exact ⟨rfl, (HC.out _ _).2 ((hC.next (by first | (simp; done) | (simp; omega) | omega) hb1).skip _ (by rfl))⟩) | (go_at_call 114; (with_reducible refine (isVar_any (m + 1) b _ _ _ (TmAt.below hw' HB.out) hob).mono ?_); rintro e w1 ⟨rfl, hb1⟩; exact ⟨rfl, (HC.out _ _).2 ((hC.next (by first | (simp; done) | (simp; omega) | omega) hb1).skip _ (by rfl))⟩)); go_simp) | (apply flow_no; (case hw => (go_simp; try (intro hh; cases hh))); (intro L w' _ _ hC; exact (HC.out _ _).2 (((HC.out _ _).1 hC).skip _ (by rfl))); go_simp))
    refine flow_nil ?_
    intro L wz hL hz
    have hz := (HC.out _ _).1 hz
    have hbz := hz.below
    have hcz := hz.cell
    try simp only [List.forall_mem_cons] at hcz
    have hdz := hz.done
    try simp only [List.forall_mem_cons] at hdz
    (try have hwz : Below w.heap.size w wz := by first | exact Below.trans (by (repeat (first | with_reducible (first | exact bR _ _ | assumption | refine bA ?_ _ | refine bS ?_ (by first | exact Nat.le_refl _ | (simp; done) | (simp; omega)) _) | assumption | exact bR _ _ | refine bD ?_ | refine bN ?_ _ | refine bT ?_ (by assumption)))) hbz | ((repeat (first | with_reducible (first | exact bR _ _ | assumption | refine bA ?_ _ | refine bS ?_ (by first | exact Nat.le_refl _ | (simp; done) | (simp; omega)) _) | assumption | exact bR _ _ | refine bD ?_ | refine bN ?_ _ | refine bT ?_ (by assumption))); done))
    cases hva : varB a.n.data.toList <;> cases hvb : varB b.n.data.toList
    case true.false =>
      go_wp2
      go_ret
      exact ⟨ret_int (by rw [HCE.out, hva, hvb]; rfl), by exact bel⟩
    case false.true =>
      go_wp2
      go_ret
      exact ⟨ret_int (by rw [HCE.out, hva, hvb]; rfl), by exact bel⟩
    all_goals
      have HCE2 := Lib.hid (show a.cmp b = if textCmp a.n.data.toList b.n.data.toList ≠ 0 then textCmp a.n.data.toList b.n.data.toList else if a.us.length < b.us.length then -1 else if b.us.length < a.us.length then 1 else Tm.cmps a.us b.us by rw [HCE.out, hva, hvb]; rfl)
      clear hva hvb
      go_wp2
      obtain ⟨g0, g1, k0, k1⟩ := hcz
      have hwq : Below w.heap.size w wz := by first | exact hwz | (repeat (first | with_reducible (first | exact bR _ _ | assumption | refine bA ?_ _ | refine bS ?_ (by first | exact Nat.le_refl _ | (simp; done) | (simp; omega)) _) | assumption | exact bR _ _ | refine bD ?_ | refine bN ?_ _ | refine bT ?_ (by assumption)))
      have zq := bsz (show w.heap.size < wz.heap.size by have := hbz.size; omega)
      have zq1 := bsz (show w.heap.size + 1 < wz.heap.size by have := hbz.size; omega)
      clear a0 a1 b0 b1 hdz
      go_region_held3 (fun w' => w'.cell? ⟨w.heap.size, 0, none⟩ = some (.string a.n) ∧ w'.cell? ⟨w.heap.size, 1, none⟩ = some (.slice p a.us.length c) ∧ w'.cell? ⟨w.heap.size + 1, 0, none⟩ = some (.string b.n) ∧ w'.cell? ⟨w.heap.size + 1, 1, none⟩ = some (.slice q b.us.length d)) (first | go_keep | (refine ⟨?_, ?_, ?_, ?_⟩ <;> first | assumption | (go_simp; done) | exact (World.cell?_of_block (hb7.block _ (by simp; omega))).trans (by first | assumption | (go_simp; done)))) (first | (go_at_call 115; refine (compareS_any _ _ _).mono ?_; rintro e w6 ⟨rfl, rfl⟩) | (go_at_call 83; refine (Tryz.cmp_Compare_int _ _ _).mono ?_; rintro e w6 ⟨rfl, rfl⟩) | (go_at_call 81; refine (or2_any (textCmp a.n.data.toList b.n.data.toList) (Lib.compareInt a.us.length b.us.length) _ _ _ (by go_simp) (by go_simp)).mono ?_; rintro e w7 ⟨rfl, hb7⟩))
      have ⟨cb7, fb7⟩ := bcell hb7
      have hq7 := hb7.size
      simp at hq7
      have hqz := hbz.size
      have zr := bsz (show w.heap.size < w7.heap.size by omega)
      have zr1 := bsz (show w.heap.size + 1 < w7.heap.size by omega)
      have HCE3 := Lib.hid (HCE2.out.trans (cmp_or _ _ _ _))
      generalize orI (textCmp a.n.data.toList b.n.data.toList) (Lib.compareInt (a.us.length : Nat) (b.us.length : Nat)) = r at *
      have hw7 : Below w.heap.size w w7 := by exact bel
      cases hz : (r == 0)
      · have hz' : (r != 0) = true := by rw [bne, hz]; rfl
        have hz2 : ¬ r = 0 := by simpa using hz
        go_wp2
        go_ret
        exact ⟨ret_int (by rw [HCE3.out, if_pos hz2]), hw7⟩
      · have hz' : (r != 0) = false := by rw [bne, hz]; rfl
        have hz2 : r = 0 := by simpa using hz
        go_wp2_with fail
        refine (IH.out _ _ _ (TmAt.sub' (TmAt.below hw7 HA.out)) (TmAt.sub' (TmAt.below hw7 HB.out))).mono ?_
        rintro e w8 ⟨rfl, hb8⟩
        go_wp2
        go_ret
        exact ⟨ret_int (by rw [HCE3.out, if_neg (by simpa using hz2)]), Below.trans hw7 (hb8.mono hw7.size)⟩
end Go.Proofs.YtkgfanajgdelcaaGreat
