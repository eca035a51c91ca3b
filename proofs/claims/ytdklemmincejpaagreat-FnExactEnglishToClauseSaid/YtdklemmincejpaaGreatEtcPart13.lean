/- The English of clauses: the reference's. Conditions: sizes. -/
import Derived.Test.YtdklemmincejpaaGreatEtcPart1
import Derived.Test.YtdklemmincejpaaGreatEtcPart3
import Derived.Test.YtdklemmincejpaaGreatEtcPart5
import Derived.Test.YtdklemmincejpaaGreatEtcPart7
import Derived.Test.YtdklemmincejpaaGreatEtcPart8
import Derived.Test.YtdklemmincejpaaGreatEtcPart9
import Derived.Test.YtdklemmincejpaaGreatEtcPart11
import Derived.Test.YtdklemmincejpaaGreatEtcPart12
namespace Go.Proofs.YtdklemmincejpaaGreat
open Go.RowKit
def MarkTRel (S : Nat → Prop) (m : Nat) (us : List Tm) (v : Value) (k0 : Nat) (w : World) (kv i : Value) (wr : World) : Prop :=
  ∃ (j q : Nat) (done : List Tm), i = .int .i64 (j : Nat) ∧ kv = .int .i64 (q : Nat) ∧ done.length = j ∧ j ≤ us.length ∧ Tm.Mkds done k0 q ∧ q + Tm.cts (us.drop j) ≤ k0 + Tm.cts us ∧ OwnRow S wr 24 2 (fun S x c => TmOwn 24 m S wr x c) v (done ++ us.drop j) ∧ Kept S w wr
def MarkTC (m : Nat) : Prop := ∀ (S : Nat → Prop) (us : List Tm) (v : Value) (k : Nat) (w : World), OwnRow S w 24 2 (fun S x c => TmOwn 24 m S w x c) v us → 0 < k → k + Tm.cts us ≤ 1000000 →
  Calls Tryz.prog 73 #[v, .int .i64 (k : Nat)] w fun e w' => ∃ (L : List Tm) (k' : Nat), e = .returned (.int .i64 (k' : Nat)) ∧ Tm.Mkds L k k' ∧ L.length = us.length ∧ k' ≤ k + Tm.cts us ∧ OwnRow S w' 24 2 (fun S x c => TmOwn 24 m S w' x c) v L ∧ Kept S w w'
set_option maxRecDepth 100000 in
set_option maxHeartbeats 1600000 in
theorem markTermS_any : ∀ m : Nat, MarkTC m := by
  intro m
  induction m with
  | zero =>
    intro S us v k w h hk hb
    have hu : us = [] := by
      cases us with
      | nil => rfl
      | cons a us =>
        obtain ⟨g, cap, cs, Si, cur, hv, hSg, hh, hcl, hsz, hcs, hR, -⟩ := OwnRow.elem h (i := 0) rfl
        exact hR.elim
    subst hu
    obtain ⟨p, c, rfl, -⟩ := h.form
    have H := Lib.hid h
    clear h
    go_enter Tryz.func73, Tryz.ntmps73
    go_wp2
    go_loopw [1, 5] (fun kv i wr => kv = .int .i64 (k : Nat) ∧ i = .int .i64 0 ∧ wr = w) (fun _ _ _ => 0)
    case atStart => exact ⟨rfl, rfl, rfl⟩
    case round =>
      obtain ⟨rfl, rfl, rfl⟩ := hrel
      go_wp2
      go_ret
      exact ⟨[], k, rfl, rfl, rfl, by omega, H.out, Kept.refl _ _⟩
  | succ m ih =>
    intro S us v k w h hk hb
    obtain ⟨p, c, rfl, hlen⟩ := h.form
    unfold maxLen at hlen
    have H := Lib.hid h
    have IH := Lib.hid ih
    clear h ih
    go_enter Tryz.func73, Tryz.ntmps73
    go_wp2
    go_loopw [1, 5] (MarkTRel S (m + 1) us (.slice p us.length c) k w) (fun _ i _ => us.length - (intOf i).toNat)
    case atStart => exact ⟨0, k, [], rfl, rfl, rfl, Nat.zero_le _, rfl, Nat.le_refl _, H.out, Kept.refl _ _⟩
    case round =>
      obtain ⟨j, q, done, rfl, rfl, hdl, hju, hmk, hct, hrow, hkp⟩ := hrel
      have hqk := Tm.Mkds.le _ _ _ hmk
      have HMK := Lib.hid hmk
      have HKP := Lib.hid hkp
      clear hmk hkp
      by_cases hlt : j < us.length
      · have hcd := Tm.cts_drop hlt
        have hx : (done ++ us.drop j)[j]? = some us[j] := by rw [List.getElem?_append_right (by omega), hdl, Nat.sub_self, List.getElem?_drop, Nat.add_zero, List.getElem?_eq_getElem hlt]
        have HRW := Lib.hid hrow
        obtain ⟨g, cap, cs, Si, cur, hv, hSg, hh, hcl, hsz, hcs, hR, hSi, hclose⟩ := OwnRow.elem hrow hx
        have HCL := Lib.hid hclose
        clear hrow hclose hx
        have hset : ∀ y, (done ++ us.drop j).set j y = (done ++ [y]) ++ us.drop (j + 1) := fun y => by
          rw [List.set_append_right _ _ (by omega), hdl, Nat.sub_self, List.append_assoc, List.singleton_append]
          have e := List.drop_eq_getElem_cons hlt
          rw [e]; rfl
        have HSET := Lib.hid hset
        clear hset
        generalize us[j] = a at *
        obtain ⟨n, vs⟩ := a
        obtain ⟨va, rfl, hn, hsub⟩ := hR
        simp only [Value.slice.injEq] at hv
        obtain ⟨rfl, -, rfl⟩ := hv
        have HSUB := Lib.hid hsub
        have HHH := Lib.hid hh
        rw [Tm.ct] at hcd
        have c0 : wr.cell? ⟨g, j * 2, none⟩ = some (.string n) := (cell_of_row wr g _ cur _ (0, 0) hh).trans (hcs 0 (by omega))
        have c1 : wr.cell? ⟨g, j * 2 + 1, none⟩ = some va := (cell_of_row wr g _ cur _ (0, 0) hh).trans (hcs 1 (by omega))
        have cf : ∀ i, wr.frozen? ⟨g, i, none⟩ = false := fun i => frozen_of_row wr g i _ _ hh
        have hgl := bsz (blk_lt hh)
        clear hsub hh
        go_wp2_with fail
        refine (markText_any q _ (by omega) (by omega)).mono ?_
        rintro e w1 ⟨rfl, hb1⟩
        have ⟨cb, fb⟩ := bcell hb1
        have hq1 := hb1.size
        have hg1 := bsz (show g < w1.heap.size by omega)
        go_wp2_with fail
        rw [show ((q : Int) + 1) = ((q + 1 : Nat) : Int) by omega]
        have hW2 : SameOn (fun b => b ≠ g) wr (w1.setCell ⟨g, j * 2, none⟩ (.string (markB q))) := fun b hb hlt => (heap_setCell_other w1 ⟨g, j * 2, none⟩ b _ (fun e => hb e)).trans (hb1.block b hlt)
        have HW2 := Lib.hid hW2
        have HSUB2 := HSUB.out.mono (S' := Si) (w' := w1.setCell ⟨g, j * 2, none⟩ (.string (markB q))) (R' := fun S x c => TmOwn 24 m S (w1.setCell ⟨g, j * 2, none⟩ (.string (markB q))) x c) (fun b hb hlt => hW2 b (hSi b hb).2 hlt) (fun _ h => h)
          (fun T x c _ hT hx => TmOwn.mono m m x c (Nat.le_refl _) (fun b hb hlt => hW2 b (hSi b (hT b hb)).2 hlt) (fun _ h => h) hx)
        refine (IH.out Si vs va (q + 1) _ HSUB2 (by omega) (by omega)).mono ?_
        rintro e w3 ⟨L, k', rfl, hmk3, hll, hk3, hrow3, hkp3⟩
        have HR3 := Lib.hid (And.intro hmk3 (And.intro hrow3 hkp3))
        clear hmk3 hrow3 hkp3 HSUB2 hW2
        go_wp2
        obtain ⟨hmk3, hrow3, hkp3⟩ := HR3.out
        refine ⟨⟨j + 1, k', done ++ [.mk (markB q) L], by go_num, rfl, by simp; omega, by omega, Tm.Mkds.snoc _ _ _ _ _ HMK.out (Tm.Mkd.of rfl hmk3), by omega, ?_, ?_⟩, by simp [intOf]; omega⟩
        · rw [← HSET.out]
          have hpt : Patch cur (cur.setIfInBounds (j * 2 + 0) (.string (markB q))) (j * 2) [.string (markB q), va] := Patch.set (cs := [.string n, va]) (Patch.refl hcs) (j := 0) (by simp) hsz _
          refine HCL.out w3 (.mk (markB q) L) [.string (markB q), va] (cur.setIfInBounds (j * 2 + 0) (.string (markB q))) _ rfl ?_ hpt ⟨va, rfl, markB_size q (by omega), hrow3⟩ (fun T y c hT hy => TmOwn.mono _ _ y c (Nat.le_refl _) (fun b hb hlt => ?_) (fun _ h => h) hy)
          · refine (hkp3.block g (by simp; omega) (fun e => (hSi g e).2 rfl)).trans ?_
            exact heap_setCell_same w1 g (j * 2) cur _ _ ((hb1.block g (by omega)).trans HHH.out)
          · exact (hkp3.block b (by simp; omega) (hT b hb).2.2).trans (HW2.out b (hT b hb).2.1 hlt)
        · exact HKP.out.trans ((((Kept.refl S wr).below hb1).set hSg _ _).trans (hkp3.mono (fun b hb => (hSi b hb).1)))
      · obtain rfl : j = us.length := by omega
        rw [List.drop_length, List.append_nil] at hrow
        have HRW := Lib.hid hrow
        clear hrow
        go_wp2
        go_ret
        exact ⟨done, q, rfl, HMK.out, hdl, by simpa [Tm.cts] using hct, HRW.out, HKP.out⟩
theorem TmAt.sub {B : Nat → Prop} {w : World} {n : Nat} {t : Tm} {v0 v1 : Value} (h : TmAt B (n + 1) w t [v0, v1]) : ListAt B w 2 (TmAt B n w) v1 t.us := by
  obtain ⟨s, us⟩ := t
  obtain ⟨va, h1, h2, h3⟩ := h
  simp only [List.cons.injEq, and_true] at h1
  obtain ⟨-, rfl⟩ := h1
  exact h3
theorem Tm.Mkd.at_ {a : Tm} {k k' : Nat} (h : a.Mkd k k') : a.n = markB k ∧ Tm.Mkds a.us (k + 1) k' := by obtain ⟨n, vs⟩ := a; rw [Tm.Mkd] at h; exact h
def HeldTC (B : Nat → Prop) (m : Nat) : Prop := ∀ (us : List Tm) (v : Value) (k k' : Nat) (w : World), ListAt B w 2 (TmAt B m w) v us → Tm.Mkds us k k' → 0 < k → k' ≤ 1000000 →
  Calls Tryz.prog 75 #[v, .int .i64 (k : Nat)] w fun e w' => e = .returned (.int .i64 (k' : Nat)) ∧ Below w.heap.size w w'
def HeldTRel (us : List Tm) (k' : Nat) (w : World) (kv i : Value) (wr : World) : Prop :=
  ∃ j q : Nat, i = .int .i64 (j : Nat) ∧ kv = .int .i64 (q : Nat) ∧ j ≤ us.length ∧ Tm.Mkds (us.drop j) q k' ∧ 0 < q ∧ Below w.heap.size w wr
set_option maxRecDepth 100000 in
set_option maxHeartbeats 1600000 in
theorem heldTermS_any {B : Nat → Prop} : ∀ m : Nat, HeldTC B m := by
  intro m
  induction m with
  | zero =>
    intro us v k k' w h hmk hk hb
    have hu : us = [] := by
      cases us with
      | nil => rfl
      | cons a us =>
        obtain ⟨p, c, rfl, -⟩ := h.form
        obtain ⟨b, o, -, -, x0, x1, -, -, hx⟩ := h.at2 (i := 0) (by simp)
        exact hx.elim
    subst hu
    obtain ⟨p, c, rfl, -⟩ := h.form
    have hkk : k = k' := hmk
    subst hkk
    clear h hmk
    go_enter Tryz.func75, Tryz.ntmps75
    go_wp2
    go_loopw [1, 5] (fun kv i wr => kv = .int .i64 (k : Nat) ∧ i = .int .i64 0 ∧ wr = w) (fun _ _ _ => 0)
    case atStart => exact ⟨rfl, rfl, rfl⟩
    case round =>
      obtain ⟨rfl, rfl, rfl⟩ := hrel
      go_wp2
      go_ret
      exact ⟨rfl, Below.refl _ _⟩
  | succ m ih =>
    intro us v k k' w h hmk hk hb0
    obtain ⟨p, c, rfl, hlen⟩ := h.form
    unfold maxLen at hlen
    have HL := Lib.hid h
    have HMK := Lib.hid hmk
    have IH := Lib.hid ih
    clear h ih hmk
    go_enter Tryz.func75, Tryz.ntmps75
    go_wp2
    go_loopw [1, 5] (HeldTRel us k' w) (fun _ i _ => us.length - (intOf i).toNat)
    case atStart => exact ⟨0, k, rfl, rfl, Nat.zero_le _, HMK.out, hk, by (repeat (first | with_reducible exact Below.refl _ _ | with_reducible assumption | with_reducible refine Below.al ?_ _ | with_reducible refine Below.sc ?_ (by first | exact Nat.le_refl _ | (simp; done) | (simp; omega)) _ | assumption | exact Below.refl _ _ | refine Below.dr ?_ | refine Below.drN ?_ _ | refine Below.step ?_ (by assumption)))⟩
    case round =>
      obtain ⟨j, q, rfl, rfl, hju, hmk, hq, hb⟩ := hrel
      have hqk := Tm.Mkds.le _ _ _ hmk
      by_cases hlt : j < us.length
      · obtain ⟨j', hm1, hm2⟩ := Tm.Mkds.drop hmk hlt
        have hle1 := Tm.Mkd.le _ _ _ hm1
        have hle2 := Tm.Mkds.le _ _ _ hm2
        have HM2 := Lib.hid hm2
        clear hmk hm2
        obtain ⟨b, o, rfl, hB, x0, x1, hx0, hx1, hx⟩ := (HL.out.mono (SameOn.below hb) (fun _ h => h) (fun x cs _ hx => TmAt.below hb hx)).at2 hlt
        have hM := hm1
        obtain ⟨a, ha⟩ : ∃ a, us[j] = a := ⟨_, rfl⟩
        rw [ha] at hx
        rw [ha] at hM
        have HX := Lib.hid hx
        have HM := Lib.hid hM
        clear hx ha hM
        have zb := bsz (World.block_lt_of_cell? _ _ hx0)
        obtain ⟨pa, ca, rfl, rfl, -⟩ := HX.out.form
        have ha := HM.out.at_
        have HA2 := Lib.hid ha.2
        have hn : a.n = markB q := ha.1
        clear ha
        go_wp2
        obtain ⟨C, HC0⟩ := class_of (InF wr.heap.size _ [(⟨b, o + j * 2, none⟩, .string a.n), (⟨b, o + j * 2 + 1, none⟩, .slice pa a.us.length ca)] [] [])
        have HC := Lib.hid HC0
        clear HC0
        refine wp_region_flow (C := C) (by kernel_rfl) (by kernel_rfl) (fun L hL => (HC.out _ _).2 (InF.start (by first | (intro _ hs; cases hs; done) | (simp only [List.forall_mem_cons]; go_simp)) (by first | (intro _ hs; cases hs; done) | (simp only [List.forall_mem_cons]; go_simp)) (by first | (intro _ hs; cases hs; done) | (simp only [List.forall_mem_cons]; go_simp)) (by first | (intro _ hs; cases hs; done) | (simp only [List.forall_mem_cons]; go_simp)) L hL)) ?_
        repeat (first | (apply flow_free rfl; (intro L w' hun hrd hC; have hC := (HC.out _ _).1 hC; have hb' := hC.below; (try have hw' : Below w.heap.size w w' := by first | exact Below.trans (by (repeat (first | with_reducible exact Below.refl _ _ | with_reducible assumption | with_reducible refine Below.al ?_ _ | with_reducible refine Below.sc ?_ (by first | exact Nat.le_refl _ | (simp; done) | (simp; omega)) _ | assumption | exact Below.refl _ _ | refine Below.dr ?_ | refine Below.drN ?_ _ | refine Below.step ?_ (by assumption)))) hb' | ((repeat (first | with_reducible exact Below.refl _ _ | with_reducible assumption | with_reducible refine Below.al ?_ _ | with_reducible refine Below.sc ?_ (by first | exact Nat.le_refl _ | (simp; done) | (simp; omega)) _ | assumption | exact Below.refl _ _ | refine Below.dr ?_ | refine Below.drN ?_ _ | refine Below.step ?_ (by assumption))); done)); have hf' := hC.cell; (try simp only [List.forall_mem_cons] at hf'); go_simp; first | exact ⟨(HC.out _ _).2 (hC.skip _ (by rfl)), rfl⟩ | (rw [if_neg]; (exact ⟨(HC.out _ _).2 (hC.skip _ (by rfl)), rfl⟩); omega) | (go_at_call 74; refine (markText_any q _ (by omega) (by omega)).mono ?_; rintro e w1 ⟨rfl, hb1⟩; exact ⟨rfl, (HC.out _ _).2 ((hC.next (by first | (simp; done) | (simp; omega) | omega) hb1).skip _ (by rfl))⟩)); go_simp) | (apply flow_yes; (case hw => go_simp); (intro L w' hun hrd hC; have hC := (HC.out _ _).1 hC; have hb' := hC.below; (try have hw' : Below w.heap.size w w' := by first | exact Below.trans (by (repeat (first | with_reducible exact Below.refl _ _ | with_reducible assumption | with_reducible refine Below.al ?_ _ | with_reducible refine Below.sc ?_ (by first | exact Nat.le_refl _ | (simp; done) | (simp; omega)) _ | assumption | exact Below.refl _ _ | refine Below.dr ?_ | refine Below.drN ?_ _ | refine Below.step ?_ (by assumption)))) hb' | ((repeat (first | with_reducible exact Below.refl _ _ | with_reducible assumption | with_reducible refine Below.al ?_ _ | with_reducible refine Below.sc ?_ (by first | exact Nat.le_refl _ | (simp; done) | (simp; omega)) _ | assumption | exact Below.refl _ _ | refine Below.dr ?_ | refine Below.drN ?_ _ | refine Below.step ?_ (by assumption))); done)); have hf' := hC.cell; (try simp only [List.forall_mem_cons] at hf'); go_simp; first | exact ⟨(HC.out _ _).2 (hC.skip _ (by rfl)), rfl⟩ | (rw [if_neg]; (exact ⟨(HC.out _ _).2 (hC.skip _ (by rfl)), rfl⟩); omega) | (go_at_call 74; refine (markText_any q _ (by omega) (by omega)).mono ?_; rintro e w1 ⟨rfl, hb1⟩; exact ⟨rfl, (HC.out _ _).2 ((hC.next (by first | (simp; done) | (simp; omega) | omega) hb1).skip _ (by rfl))⟩)); go_simp) | (apply flow_no; (case hw => (go_simp; try (intro hh; cases hh))); (intro L w' _ _ hC; exact (HC.out _ _).2 (((HC.out _ _).1 hC).skip _ (by rfl))); go_simp))
        refine flow_nil ?_
        intro L wz hL hz
        have hz := (HC.out _ _).1 hz
        have hbz := hz.below
        have hcz := hz.cell
        try simp only [List.forall_mem_cons] at hcz
        have hdz := hz.done
        try simp only [List.forall_mem_cons] at hdz
        (try have hwz : Below w.heap.size w wz := by first | exact Below.trans (by (repeat (first | with_reducible exact Below.refl _ _ | with_reducible assumption | with_reducible refine Below.al ?_ _ | with_reducible refine Below.sc ?_ (by first | exact Nat.le_refl _ | (simp; done) | (simp; omega)) _ | assumption | exact Below.refl _ _ | refine Below.dr ?_ | refine Below.drN ?_ _ | refine Below.step ?_ (by assumption)))) hbz | ((repeat (first | with_reducible exact Below.refl _ _ | with_reducible assumption | with_reducible refine Below.al ?_ _ | with_reducible refine Below.sc ?_ (by first | exact Nat.le_refl _ | (simp; done) | (simp; omega)) _ | assumption | exact Below.refl _ _ | refine Below.dr ?_ | refine Below.drN ?_ _ | refine Below.step ?_ (by assumption))); done))
        have hz1 := bsz (show b < wz.heap.size by have := hbz.size; omega)
        go_wp2_with fail
        rw [show ((q : Int) + 1) = ((q + 1 : Nat) : Int) by omega]
        refine (IH.out a.us _ (q + 1) j' _ (TmAt.sub (TmAt.below (by (repeat (first | with_reducible exact Below.refl _ _ | with_reducible assumption | with_reducible refine Below.al ?_ _ | with_reducible refine Below.sc ?_ (by first | exact Nat.le_refl _ | (simp; done) | (simp; omega)) _ | assumption | exact Below.refl _ _ | refine Below.dr ?_ | refine Below.drN ?_ _ | refine Below.step ?_ (by assumption)))) HX.out)) HA2.out (by omega) (by omega)).mono ?_
        rintro e w2 ⟨rfl, hb2⟩
        have hj0 : ¬ (j' : Int) < 0 := by omega
        go_wp2
        exact ⟨⟨j + 1, j', by go_num, rfl, by omega, HM2.out, by omega, by (repeat (first | with_reducible exact Below.refl _ _ | with_reducible assumption | with_reducible refine Below.al ?_ _ | with_reducible refine Below.sc ?_ (by first | exact Nat.le_refl _ | (simp; done) | (simp; omega)) _ | assumption | exact Below.refl _ _ | refine Below.dr ?_ | refine Below.drN ?_ _ | refine Below.step ?_ (by assumption)))⟩, by simp [intOf]; omega⟩
      · obtain rfl : j = us.length := by omega
        rw [List.drop_length] at hmk
        have hkk : q = k' := hmk
        subst hkk
        clear hmk
        go_wp2
        go_ret
        exact ⟨rfl, by (repeat (first | with_reducible exact Below.refl _ _ | with_reducible assumption | with_reducible refine Below.al ?_ _ | with_reducible refine Below.sc ?_ (by first | exact Nat.le_refl _ | (simp; done) | (simp; omega)) _ | assumption | exact Below.refl _ _ | refine Below.dr ?_ | refine Below.drN ?_ _ | refine Below.step ?_ (by assumption)))⟩
end Go.Proofs.YtdklemmincejpaaGreat
namespace Go.Proofs.YtdklemmincejpaaGreat
open Go.RowKit
theorem implETF_any (s : ByteArray) (hz : s.size ≤ 1000000000000) (w : World) : Calls Tryz.prog 7 #[.string s] w (EtfV (2 * s.size + 7) (etfOk s) (etfF s) w) := by
  by_cases h : s.size ≤ 12000
  · have e : etfOk s = pOk s.data.toList := by rw [etfOk, decide_eq_true h, Bool.true_and]
    refine (implETF_short s h w).mono fun e' w' hp => ?_
    have := hp.v (m := 2 * s.size + 7) (by omega) (by omega)
    rw [etfF, e]; exact this
  · have e : etfOk s = false := by rw [etfOk, decide_eq_false h, Bool.false_and]
    refine (implETF_long s (by omega) hz w).mono fun e' w' hp => ?_
    rw [etfF, e]; exact EtfV.zero hp (by omega)
end Go.Proofs.YtdklemmincejpaaGreat
namespace Go.Proofs.YtdklemmincejpaaGreat
open Go.RowKit
theorem clsOf_wts : ∀ (n : Nat) (f : Fm) (c : List Lit3), f.form = true → clsOf n f = some c → Cls.wts c ≤ f.wt
  | 0, _, _, _, h => by rw [clsOf] at h; cases h
  | n + 1, f, c, hf, h => by
    rw [clsOf] at h
    by_cases h6 : f.op = 6
    · obtain ⟨g, g', rfl, hg, hg'⟩ := form_or hf h6
      rw [if_pos (by rfl)] at h
      have h : (if (litOf g).2 then (clsOf n g').map ((litOf g).1 :: ·) else none) = some c := h
      split at h
      · cases hc : clsOf n g' with
        | none => rw [hc] at h; cases h
        | some d =>
          rw [hc] at h
          obtain rfl : (litOf g).1 :: d = c := Option.some.inj h
          have h1 := clsOf_wts n g' d hg' hc
          have h2 := litOf_wt hg
          have h3 := or_wt g g'
          rw [Cls.wts]; omega
      · cases h
    · rw [if_neg h6] at h
      split at h
      · obtain rfl : [(litOf f).1] = c := Option.some.inj h
        have h2 := litOf_wt hf
        rw [Cls.wts, Cls.wts]; omega
      · cases h
theorem etfF_good {s : ByteArray} (h : etfOk s = true) : (etfF s).form = true ∧ (etfF s).wt ≤ 12000 := by
  have h0 := h
  simp only [etfOk, Bool.and_eq_true, decide_eq_true_eq] at h
  obtain ⟨F, hg, he⟩ := pOk_iff.1 h.2
  have e : etfF s = (pRead s.data.toList).1 := by rw [etfF, if_pos h0]
  have hf := hg
  rw [Fm.good, Bool.and_eq_true] at hf
  refine ⟨by rw [e, pOk_read hg he]; exact hf.2, ?_⟩
  have h1 := pEng_wt s.data.toList (s.data.toList.length + 2) ⟨0, false⟩
  have h2 := (pEng_pos s.data.toList (s.data.toList.length + 2) ⟨0, false⟩ (Nat.zero_le _)).2
  rw [e, pRead]
  rw [← size_list] at h1 h2 ⊢
  omega
theorem own_cap {α : Type} {S : Nat → Prop} {w : World} {e : TypeId} {size : Nat} {R : (Nat → Prop) → α → List Value → Prop} {v : Value} {xs : List α} (h : OwnRow S w e size R v xs) : ∀ p d, v = .slice p xs.length d → xs.length ≤ d := by
  obtain ⟨_, vals, Ss, h1, _⟩ := h
  intro p d hv
  rcases h1.2 with ⟨rfl, h0⟩ | ⟨g, cap, cur, rfl, _, _, hc, _⟩
  · omega
  · injection hv with _ _ e; omega
/-- What EnglishToClause answers: a clause that owns new memory, and whether the text is accepted. -/
def EtcV (n : Nat) (ok : Bool) (c : List Lit3) (w : World) (e : Ending) (w' : World) : Prop :=
  Below w.heap.size w w' ∧ ∃ p k d, e = .returned (.tuple #[.agg #[.slice p k d], .bool ok]) ∧ ClsOwn 24 69 n (NewB w w') w' c (.slice p k d)
theorem EtcV.no {n : Nat} {ok : Bool} {c : List Lit3} {w w' : World} (h : ok = false ∧ c = []) (hb : Below w.heap.size w w') : EtcV n ok c w (.returned (.tuple #[.agg #[.slice none 0 0], .bool false])) w' := by
  obtain ⟨rfl, rfl⟩ := h
  exact ⟨hb, _, _, _, rfl, ClsOwn.nil _ _ _ _ _⟩
theorem iOk_no {s : ByteArray} (hne : s.data.toList ≠ sContr) (h : ∀ c, iFm s = some c → Cls.good c = true → Cls.eng c ≠ s.data.toList) : iOk s = false ∧ iC s = [] := by
  have hb : (s.data.toList == sContr) = false := by simpa using hne
  have hk : iOk s = false := by
    rw [iOk, hb, Bool.false_or]
    cases hi : iFm s with
    | none => rfl
    | some c =>
      cases hg : Cls.good c
      · simp [hg]
      · have := h c hi hg
        simp [hg, this]
  exact ⟨hk, by rw [iC, if_neg hne, if_neg (by rw [hk]; simp)]⟩
theorem iOk_some {s : ByteArray} {c : List Lit3} (hne : s.data.toList ≠ sContr) (hi : iFm s = some c) (hg : Cls.good c = true) (he : Cls.eng c = s.data.toList) : iOk s = true ∧ iC s = c := by
  have hb : (s.data.toList == sContr) = false := by simpa using hne
  have hk : iOk s = true := by rw [iOk, hb, hi]; simp [hg, he]
  exact ⟨hk, by rw [iC, if_neg hne, if_pos hk, hi]; rfl⟩
set_option maxRecDepth 100000 in
set_option maxHeartbeats 3200000 in
theorem implETC_any (s : ByteArray) (hz : s.size ≤ 1000000000000) (w : World) : Calls Tryz.prog 12 #[.string s] w (EtcV (2 * s.size + 7) (iOk s) (iC s) w) := by
  by_cases hq : s = ⟨sContr.toArray⟩
  · subst hq
    have H1 := Lib.hid (show iOk ⟨sContr.toArray⟩ = true ∧ iC ⟨sContr.toArray⟩ = [] from ⟨rfl, rfl⟩)
    go_enter Tryz.func12, Tryz.ntmps12
    go_wp2
    refine bodyPost_ret (v := .tuple #[.agg #[.slice none 0 0], .bool true]) (by simp only [results, Tryz.results12]; go_simp) rfl ?_
    rw [H1.out.1, H1.out.2]
    exact ⟨by (repeat (first | with_reducible exact Below.refl _ _ | with_reducible assumption | with_reducible refine Below.al ?_ _ | with_reducible refine Below.sc ?_ (by first | exact Nat.le_refl _ | (simp; done) | (simp; omega)) _ | assumption | exact Below.refl _ _ | refine Below.dr ?_ | refine Below.drN ?_ _ | refine Below.step ?_ (by assumption))), _, _, _, rfl, ClsOwn.nil _ _ _ _ _⟩
  · have hne : s.data.toList ≠ sContr := fun e => hq (by rw [← e])
    have hq2 : (s.toList == sContr) = false := by rw [ByteArray.toList_eq]; simpa using hne
    have HNE := Lib.hid hne
    have HF := Lib.hid (show iFm s = if etfOk s then clsOf ((etfF s).sz + 1) (etfF s) else none from rfl)
    unfold sContr at hq2
    go_enter Tryz.func12, Tryz.ntmps12
    go_wp2_with fail
    refine (implETF_any s hz _).mono ?_
    rintro e w1 ⟨hb1, x0, x1, x2, x3, x4, rfl, hO1⟩
    obtain ⟨p, c, q, d, rfl, rfl, rfl, rfl, rfl, -⟩ := hO1.form
    have HO := Lib.hid hO1
    clear hO1
    have ⟨cb1, fb1⟩ := bcell hb1
    have hq1 := hb1.size
    simp at hq1
    have z1 := bsz (show w.heap.size < w1.heap.size by omega)
    cases hok : etfOk s
    · have HNO := Lib.hid (iOk_no HNE.out (fun c hc => by rw [HF.out, hok] at hc; cases hc))
      go_wp2
      refine bodyPost_ret (v := .tuple #[.agg #[.slice none 0 0], .bool false]) (by simp only [results, Tryz.results12]; go_simp) rfl (EtcV.no HNO.out (by (repeat (first | with_reducible exact Below.refl _ _ | with_reducible assumption | with_reducible refine Below.al ?_ _ | with_reducible refine Below.sc ?_ (by first | exact Nat.le_refl _ | (simp; done) | (simp; omega)) _ | assumption | exact Below.refl _ _ | refine Below.dr ?_ | refine Below.drN ?_ _ | refine Below.step ?_ (by assumption)))))
    · have hgood := etfF_good hok
      have HG := Lib.hid hgood
      have hw12 := hgood.2
      have HF2 := Lib.hid (show iFm s = clsOf ((etfF s).sz + 1) (etfF s) by rw [HF.out, hok]; rfl)
      clear hgood
      go_wp2_with fail
      refine (clauseOfFormula_any (m := 2 * s.size + 5) (SF := NewB (w.alloc (.cells #[.slice none 0 0] 35)) w1) (etfF s) _ _ _ _ _ _ (FmOwn.later (by (repeat (first | with_reducible exact Below.refl _ _ | with_reducible assumption | with_reducible refine Below.al ?_ _ | with_reducible refine Below.sc ?_ (by first | exact Nat.le_refl _ | (simp; done) | (simp; omega)) _ | assumption | exact Below.refl _ _ | refine Below.dr ?_ | refine Below.drN ?_ _ | refine Below.step ?_ (by assumption)))) HO.out) (fun b hb => by have := hb.2; simp; omega) HG.out.1 (by omega)).mono ?_
      rintro e w2 ⟨hb2, p3, n3, d3, rfl, hcl⟩
      rw [← HF2.out] at hcl ⊢
      have HCL := Lib.hid hcl
      clear hcl
      have ⟨cb2, fb2⟩ := bcell hb2
      have hq2' := hb2.size
      simp at hq2'
      have z2 := bsz (show w.heap.size < w2.heap.size by omega)
      have z21 := bsz (show w1.heap.size < w2.heap.size by omega)
      cases hk2 : okC (iFm s)
      · have HNO := Lib.hid (iOk_no HNE.out (fun c hc hg _ => by rw [hc] at hk2; rw [show okC (some c) = Cls.good c from rfl, hg] at hk2; cases hk2))
        go_wp2
        refine bodyPost_ret (v := .tuple #[.agg #[.slice none 0 0], .bool false]) (by simp only [results, Tryz.results12]; go_simp) rfl (EtcV.no HNO.out (by (repeat (first | with_reducible exact Below.refl _ _ | with_reducible assumption | with_reducible refine Below.al ?_ _ | with_reducible refine Below.sc ?_ (by first | exact Nat.le_refl _ | (simp; done) | (simp; omega)) _ | assumption | exact Below.refl _ _ | refine Below.dr ?_ | refine Below.drN ?_ _ | refine Below.step ?_ (by assumption)))))
      · obtain ⟨cl, hcs, hown⟩ := HCL.out hk2
        have hgc : Cls.good cl = true := by rw [hcs] at hk2; exact hk2
        have hga := good_atoms hgc
        have hwc := clsOf_wts _ _ _ HG.out.1 (HF2.out.symm.trans hcs)
        have hcap := own_cap hown
        obtain ⟨p3', d3', hv3, -⟩ := OwnRow.form hown
        simp only [Value.slice.injEq] at hv3
        obtain ⟨rfl, rfl, rfl⟩ := hv3
        have HCA := Lib.hid (And.intro hcap (And.intro hga.1 hga.2))
        have HOW := Lib.hid hown
        have HCS := Lib.hid (And.intro hcs hgc)
        clear hown hga hcap hcs hgc
        go_wp2_with fail
        refine (clauseEnglish_any (2 * s.size + 5 + 2) cl _ _ (ClsAt.below (by (repeat (first | with_reducible exact Below.refl _ _ | with_reducible assumption | with_reducible refine Below.al ?_ _ | with_reducible refine Below.sc ?_ (by first | exact Nat.le_refl _ | (simp; done) | (simp; omega)) _ | assumption | exact Below.refl _ _ | refine Below.dr ?_ | refine Below.drN ?_ _ | refine Below.step ?_ (by assumption)))) (ClsOwn.at_ HOW.out)) HCA.out.1 HCA.out.2.1 HCA.out.2.2 (by omega)).mono ?_
        rintro e w3 ⟨rfl, hb3⟩
        have ⟨cb3, fb3⟩ := bcell hb3
        have hq3 := hb3.size
        simp at hq3
        have z3 := bsz (show w.heap.size < w3.heap.size by omega)
        have z32 := bsz (show w2.heap.size < w3.heap.size by omega)
        by_cases hq5 : (⟨(Cls.eng cl).toArray⟩ : ByteArray) = s
        · have HY := Lib.hid (iOk_some HNE.out HCS.out.1 HCS.out.2 (by rw [← hq5]))
          have hq6 : (Cls.eng cl == s.toList) = true := by rw [ByteArray.toList_eq, ← hq5]; simp
          go_wp2
          refine bodyPost_ret (v := .tuple #[.agg #[.slice p3 cl.length d3], .bool true]) (by simp only [results, Tryz.results12]; go_simp) rfl ?_
          rw [HY.out.1, HY.out.2]
          refine ⟨by (repeat (first | with_reducible exact Below.refl _ _ | with_reducible assumption | with_reducible refine Below.al ?_ _ | with_reducible refine Below.sc ?_ (by first | exact Nat.le_refl _ | (simp; done) | (simp; omega)) _ | assumption | exact Below.refl _ _ | refine Below.dr ?_ | refine Below.drN ?_ _ | refine Below.step ?_ (by assumption))), _, _, _, rfl, ClsOwn.mono (by omega) (fun b hb hlt => ?_) (fun b hb => ?_) HOW.out⟩
          · have hbw : w.heap.size + 1 ≤ b := by
              rcases hb with h | h
              · have := h.1; simpa using this
              · have := h.1; simp at this; omega
            exact (heap_setCell_other w3 ⟨w.heap.size, 0, none⟩ b _ (by simp; omega)).trans ((hb3.block b (by simp; omega)).trans (hao w2 _ _ hlt))
          · rcases hb with h | h
            · have h1 := h.1
              have h2 := h.2
              simp at h1
              exact ⟨by omega, by simp; omega⟩
            · have h1 := h.1
              have h2 := h.2
              simp at h1
              exact ⟨by omega, by simp; omega⟩
        · have HNO := Lib.hid (iOk_no HNE.out (fun c hc _ he => by rw [HCS.out.1] at hc; obtain rfl := Option.some.inj hc; exact hq5 (by rw [he])))
          have hq6 : (Cls.eng cl == s.toList) = false := by
            rw [ByteArray.toList_eq, beq_eq_false_iff_ne]
            exact fun e => hq5 (by rw [e])
          go_wp2
          refine bodyPost_ret (v := .tuple #[.agg #[.slice none 0 0], .bool false]) (by simp only [results, Tryz.results12]; go_simp) rfl (EtcV.no HNO.out (by (repeat (first | with_reducible exact Below.refl _ _ | with_reducible assumption | with_reducible refine Below.al ?_ _ | with_reducible refine Below.sc ?_ (by first | exact Nat.le_refl _ | (simp; done) | (simp; omega)) _ | assumption | exact Below.refl _ _ | refine Below.dr ?_ | refine Below.drN ?_ _ | refine Below.step ?_ (by assumption)))))
end Go.Proofs.YtdklemmincejpaaGreat
namespace Go.Proofs.YtdklemmincejpaaGreat
open Go.RowKit
section
variable {α : Type} (R : (Nat → Prop) → World → α → List Value → Prop)
/-- R is kept where the element's blocks are. -/
def KeepR : Prop := ∀ (S S' : Nat → Prop) (w w' : World) (x : α) (cs : List Value), SameOn S w w' → (∀ b, S b → S' b) → R S w x cs → R S' w' x cs
/-- What a call of the reader leaves: an element in new memory, its value x. -/
def GP (g lo : Nat) (s : ByteArray) (t : α) (p' : PSt) (TP : TypeId) (W : World) (x : Value) (w : World) : Prop :=
  ∃ cs : Array Value, x = .agg cs ∧ R (fun b => lo ≤ b ∧ b < w.heap.size) w t cs.toList ∧ PAt TP w g s p' ∧ W.grownBy w (some g)
end
/-- The stages of 'c.F = append(c.F, r.call())': i, j, k are the numbers of the call, the slice built, the append. -/
def AppG (eT : TypeId) (sz bt ci : Nat) (CP : Value → World → Prop) (v : Value) (n : Nat) (W : World) (i j k : Nat) : Nat → (Nat → Value) → World → Prop
  | 0, _, w => w = W.drew
  | 1, u, w => CP (u i) w
  | 2, u, w => ∃ w1 cs, CP (.agg cs) w1 ∧ u j = .slice (some ⟨w1.heap.size, 0, none⟩) 1 1 ∧ w = w1.alloc (.cells cs eT)
  | 3, u, w => ∃ w1 cs, CP (.agg cs) w1 ∧ (∀ b xs, w1.ownsRow b eT sz v n xs → b ≤ w1.heap.size → w.ownsRow b eT sz (u k) (n + 1) (xs ++ cs.toList)) ∧ w1.grownBy w v.ownBlock ∧ NewRow v (u k) w1.heap.size ∧ w1.heap.size < w.heap.size
  | 4, u, w => ∃ w1 w3 cs, CP (.agg cs) w1 ∧ (∀ b xs, w1.ownsRow b eT sz v n xs → b ≤ w1.heap.size → w3.ownsRow b eT sz (u k) (n + 1) (xs ++ cs.toList)) ∧ w1.grownBy w3 v.ownBlock ∧ NewRow v (u k) w1.heap.size ∧ w1.heap.size < w3.heap.size ∧ w = w3.setCell ⟨bt, ci, none⟩ (u k)
  | _, _, _ => False
theorem AppG.cell {eT : TypeId} {sz g bt ci n i j k : Nat} {CP : Value → World → Prop} {v v' : Value} {W : World} (hG : ∀ x w', CP x w' → W.grownBy w' (some g)) {c o : Nat} (hc : W.cell? ⟨c, o, none⟩ = some v') (hne : c ≠ g) {m : Nat} (hm : m ≤ 2) {u : Nat → Value} {w : World} (h : AppG eT sz bt ci CP v n W i j k m u w) : w.cell? ⟨c, o, none⟩ = some v' := by
  match m, hm, h with
  | 0, _, h => obtain rfl : w = W.drew := h; exact hc
  | 1, _, h => exact grown_cell (hG _ _ h) hc (by simpa using hne)
  | 2, _, h =>
    obtain ⟨w1, cs, h1, _, rfl⟩ := h
    have h2 := grown_cell (hG _ _ h1) hc (by simpa using hne)
    exact (((Below.refl w1.heap.size w1).alloc (Nat.le_refl _) _).cell (World.block_lt_of_cell? w1 _ h2)).trans h2
/-- A struct with a row: what stands in its block when the row's value is v, and that a store into cell ci changes nothing else. -/
def SetsTo (mk : Value → Obj) (ci : Nat) : Prop := ∀ (w : World) (bt : Nat) (v v' : Value), w.heap[bt]? = some (mk v) → (w.setCell ⟨bt, ci, none⟩ v').heap[bt]? = some (mk v')
theorem SetsTo.one (T : TypeId) : SetsTo (fun v => .cells #[v] T (0, 0)) 0 := fun w bt v v' h => by simpa using heap_setCell_same w bt 0 _ T v' h
/-- The middle of a reading: block rb waits for the result, block bt is the struct in the making (the elements xs so far), the reader is in state p. -/
structure GSt {α : Type} (R : (Nat → Prop) → World → α → List Value → Prop) (eT : TypeId) (sz : Nat) (mk : Value → Obj) (TP : TypeId) (ro : Obj) (w : World) (g rb bt : Nat) (s : ByteArray) (p : PSt) (v : Value) (xs : List α) (W : World) : Prop where
  at_ : PAt TP W g s p
  cell : W.heap[bt]? = some (mk v)
  res : W.heap[rb]? = some ro
  row : OwnRow (fun b => rb < b ∧ b ≠ bt ∧ b < W.heap.size) W eT sz (fun S x c => R S W x c) v xs
  gr : w.grownBy W (some g)
  lt : g < w.heap.size ∧ w.heap.size ≤ rb ∧ rb < bt ∧ bt < W.heap.size
theorem GSt.three {α : Type} {R : (Nat → Prop) → World → α → List Value → Prop} {eT : TypeId} {sz : Nat} {mk : Value → Obj} {TP : TypeId} {ro : Obj} {w W w' : World} {g rb bt : Nat} {s : ByteArray} {p : PSt} {v z : Value} {xs : List α} {CP : Value → World → Prop} (h : GSt R eT sz mk TP ro w g rb bt s p v xs W) (hG : ∀ x w', CP x w' → W.grownBy w' (some g))
    {w1 : World} {cs : List Value} {x : Value} (hcp : CP x w1) (happ : ∀ b ys, w1.ownsRow b eT sz v xs.length ys → b ≤ w1.heap.size → w'.ownsRow b eT sz z (xs.length + 1) (ys ++ cs)) (hg3 : w1.grownBy w' v.ownBlock) :
    (∃ q c, z = .slice (some ⟨q, 0, none⟩) (xs.length + 1) c) ∧ w'.heap[bt]? = some (mk v) := by
  obtain ⟨l1, l2, l3, l4⟩ := h.lt
  have hG1 := hG _ _ hcp
  have hz1 := hG1.size
  obtain ⟨hm, vals, Ss, r1, r2, r3, r4⟩ := h.row
  have h1 := happ 0 vals (own_same r1 fun b hb hl => hG1.block b hl (by have := r2 b hb; simp; omega)) (Nat.zero_le _)
  refine ⟨own_form h1 (by omega), ?_⟩
  exact (hg3.block bt (by omega) (fun e => (r2 bt e.symm).2.1 rfl)).trans ((hG1.block bt l4 (by simp; omega)).trans h.cell)
theorem GSt.app {α : Type} {R : (Nat → Prop) → World → α → List Value → Prop} (hR : KeepR R) {eT : TypeId} {sz : Nat} {mk : Value → Obj} {ci : Nat} (hmk : SetsTo mk ci) {TP : TypeId} {ro : Obj} {w W w4 : World} {g rb bt : Nat} {s : ByteArray} {p p' : PSt} {v : Value} {xs : List α} {i j k : Nat} {t : α} {u : Nat → Value} (h : GSt R eT sz mk TP ro w g rb bt s p v xs W)
    (hA : AppG eT sz bt ci (GP R g W.heap.size s t p' TP W.drew) v xs.length W i j k 4 u w4) (hcs : ∀ S w x cs, R S w x cs → cs.length = sz) (hlen : xs.length + 1 ≤ 1000000) : GSt R eT sz mk TP ro w g rb bt s p' (u k) (xs ++ [t]) w4 := by
  obtain ⟨w1, w3, cs, ⟨cs', he, hO, hP, hG⟩, happ, hg3, hnr, hsz, rfl⟩ := hA
  simp only [Value.agg.injEq] at he
  obtain rfl := he
  obtain ⟨l1, l2, l3, l4⟩ := h.lt
  have hG1 : W.grownBy w1 (some g) := ⟨hG.os, hG.tape, hG.output, hG.size, hG.block⟩
  have hz1 := hG1.size
  obtain ⟨hm, vals, Ss, r1, r2, r3, r4⟩ := h.row
  have hvb : ∀ b, v.ownBlock = some b → rb < b ∧ b ≠ bt ∧ b < W.heap.size := fun b hb => r2 b hb
  have keep : ∀ b, b < W.heap.size → b ≠ g → v.ownBlock ≠ some b → w3.heap[b]? = W.heap[b]? := fun b hb hne hv => (hg3.block b (by omega) (fun e => hv e.symm)).trans (hG1.block b hb (by simpa using hne))
  have nob : ∀ b, (b ≤ rb ∨ b = bt) → v.ownBlock ≠ some b := fun b hb e => by have := hvb b e; omega
  have hrow1 := h.row.mono (S' := fun b => rb < b ∧ b ≠ bt ∧ b < W.heap.size) (w' := w1) (R' := fun S x c => R S w1 x c) (fun b hb hlt => hG1.block b hlt (by simp; omega)) (fun _ h => h)
    (fun S x c _ hS hx => hR _ _ _ _ _ _ (fun b hb hlt => hG1.block b hlt (by have := hS b hb; simp; omega)) (fun _ h => h) hx)
  have hown3 : ∀ b, (u k).ownBlock = some b → b < w3.heap.size := fun b hb => own_lt' (happ 0 vals (own_same r1 fun b' hb' hlt => hG1.block b' hlt (by have := hvb b' hb'; simp; omega)) (Nat.zero_le _)) hb
  have hrow3 := OwnRow.snoc (S' := fun b => rb < b ∧ b ≠ bt ∧ b < w3.heap.size) (R' := fun S x c => R S w3 x c) hrow1 hO (hcs _ _ _ _ hO) (fun vals' hv => happ 0 vals' hv (Nat.zero_le _)) hg3 hnr (by unfold maxLen; omega)
    (fun b hb hS => by omega) (fun b hb => by omega) (fun b hb => hb.2) (fun b hb => by omega) (fun b hb => by omega)
    (fun b hb => ⟨by
      rcases hnr with e | ⟨b', e, hge⟩
      · rw [e] at hb; exact (hvb b hb).1
      · rw [e] at hb; injection hb with hb; omega, by
      rcases hnr with e | ⟨b', e, hge⟩
      · rw [e] at hb; exact (hvb b hb).2.1
      · rw [e] at hb; injection hb with hb; omega, hown3 b hb⟩)
    (fun S x c hS hx => hR _ _ _ _ _ _ (fun b hb hlt => hg3.block b hlt (fun e => (hS b hb).2 e.symm)) (fun _ h => h) hx)
  have hbt3 : w3.heap[bt]? = some (mk v) := (keep bt l4 (by omega) (nob bt (.inr rfl))).trans h.cell
  refine ⟨?_, ?_, ?_, ?_, ?_, l1, l2, l3, by simp; omega⟩
  · have h3 : PAt TP w3 g s p' := (hg3.block g (by omega) (fun e => nob g (.inl (by omega)) e.symm)).trans hP
    exact (heap_setCell_other w3 ⟨bt, ci, none⟩ g (u k) (by simp; omega)).trans h3
  · exact hmk w3 bt v (u k) hbt3
  · exact (heap_setCell_other w3 ⟨bt, ci, none⟩ rb (u k) (by simp; omega)).trans ((keep rb (by omega) (by omega) (nob rb (.inl (Nat.le_refl _)))).trans h.res)
  · exact hrow3.mono (fun b hb hlt => heap_setCell_other w3 ⟨bt, ci, none⟩ b (u k) (by simp; omega)) (fun b hb => by simpa using hb)
      (fun S x c _ hS hx => hR _ _ _ _ _ _ (fun b hb hlt => heap_setCell_other w3 ⟨bt, ci, none⟩ b (u k) (by have := hS b hb; simp; omega)) (fun _ h => h) hx)
  · have h1 := gr_trans h.gr hG1
    have h3 : w.grownBy w3 (some g) := ⟨hg3.os.trans h1.os, hg3.tape.trans h1.tape, hg3.output.trans h1.output, Nat.le_trans h1.size (Nat.le_of_lt (Nat.lt_of_le_of_lt (Nat.le_refl _) hsz)), fun b hb hne => (hg3.block b (Nat.lt_of_lt_of_le hb h1.size) (fun e => nob b (.inl (by omega)) e.symm)).trans (h1.block b hb hne)⟩
    exact gr_sc h3 (.inr (by simp; omega)) _
/-- The reader moves on. -/
theorem GSt.reader {α : Type} {R : (Nat → Prop) → World → α → List Value → Prop} (hR : KeepR R) {eT : TypeId} {sz : Nat} {mk : Value → Obj} {TP : TypeId} {ro : Obj} {w W w' : World} {g rb bt : Nat} {s : ByteArray} {p p' : PSt} {v : Value} {xs : List α} (h : GSt R eT sz mk TP ro w g rb bt s p v xs W) (hP : PAt TP w' g s p') (hG : W.grownBy w' (some g)) : GSt R eT sz mk TP ro w g rb bt s p' v xs w' := by
  obtain ⟨l1, l2, l3, l4⟩ := h.lt
  have hz := hG.size
  refine ⟨hP, (hG.block bt l4 (by simp; omega)).trans h.cell, (hG.block rb (by omega) (by simp; omega)).trans h.res, ?_, gr_trans h.gr hG, l1, l2, l3, by omega⟩
  exact h.row.mono (fun b hb hlt => hG.block b hlt (by simp; omega)) (fun b hb => by omega)
    (fun S x c _ hS hx => hR _ _ _ _ _ _ (fun b hb hlt => hG.block b hlt (by have := hS b hb; simp; omega)) (fun _ h => h) hx)
theorem GSt.init {α : Type} {R : (Nat → Prop) → World → α → List Value → Prop} {eT : TypeId} {sz : Nat} {mk : Value → Obj} {TP : TypeId} {ro : Obj} {w w2 : World} {g rb bt : Nat} {s : ByteArray} {p : PSt} (hP : PAt TP w2 g s p) (hc : w2.heap[bt]? = some (mk (.slice none 0 0))) (hr : w2.heap[rb]? = some ro) (hg : w.grownBy w2 (some g)) (hl : g < w.heap.size ∧ w.heap.size ≤ rb ∧ rb < bt) : GSt R eT sz mk TP ro w g rb bt s p (.slice none 0 0) [] w2 :=
  ⟨hP, hc, hr, OwnRow.nil _ _ _ _ _, hg, hl.1, hl.2.1, hl.2.2, heap_lt hc⟩
end Go.Proofs.YtdklemmincejpaaGreat
namespace Go.Proofs.YtdklemmincejpaaGreat
open Go.RowKit
theorem FmOwn.atom {eT eF : TypeId} {n : Nat} {S : Nat → Prop} {w : World} {t : Fm} {v0 v1 v2 v3 v4 : Value} (h : FmOwn eT eF n S w t [v0, v1, v2, v3, v4]) : TmOwn eT n S w t.a [v1, v2] := by
  cases n with
  | zero => exact h.elim
  | succ n =>
    obtain ⟨op, a, x, ps⟩ := t
    obtain ⟨vn, va, vp, Sa, Sp, h1, h2, h3, h4, h5, h6, h7⟩ := h
    simp only [List.cons.injEq, and_true] at h1
    obtain ⟨-, rfl, rfl, -, rfl⟩ := h1
    exact TmOwn.mono n (n + 1) a _ (by omega) (SameOn.refl _ _) (fun b hb => (h6 b hb).1) h4
theorem rLit_pos (L : List UInt8) (p : PSt) (hp : p.pos ≤ L.length) : p.pos ≤ (rLit L p).2.pos ∧ (rLit L p).2.pos ≤ L.length := by
  rw [rLit]
  split
  · rename_i h
    have h1 := pTake_le h hp
    have h2 := qAtom_wt L (pAdv sNot p) (by simpa [pAdv] using h1)
    simp only [pAdv] at h2 ⊢; omega
  · have h2 := qAtom_wt L p hp
    simp only; omega
def LitR (m : Nat) (S : Nat → Prop) (w : World) (l : Lit3) (cs : List Value) : Prop := LitOwn 24 m S w l cs
theorem LitR.keep (m : Nat) : KeepR (LitR m) := fun _ _ _ _ _ _ hs hS h => LitOwn.mono (Nat.le_refl _) hs hS h
theorem LitR.len (m : Nat) : ∀ S w (x : Lit3) cs, LitR m S w x cs → cs.length = 3 := fun S w x cs h => by obtain ⟨_, _, rfl, _⟩ := h; rfl
set_option maxRecDepth 100000 in
set_option maxHeartbeats 3200000 in
theorem refLiteral_any (g : Nat) (s : ByteArray) (p : PSt) (w : World) (h : PAt 52 w g s p) (hp : p.pos ≤ s.size) (hs : s.size ≤ 1000000) :
    Calls Tryz.prog 76 #[.pointer (some ⟨g, 0, none⟩)] w fun e w' => ∃ x, e = .returned x ∧ GP (LitR (s.size + 5)) g w.heap.size s (rLit s.data.toList p).1 (rLit s.data.toList p).2 52 w x w' := by
  have H := Lib.hid h
  have hg := bsz h.lt
  obtain ⟨tk, htk⟩ : ∃ tk, pTake s.data.toList sNot p = tk := ⟨_, rfl⟩
  have HTK := Lib.hid htk
  obtain ⟨p1, hp1⟩ : ∃ p1, (if tk = true then pAdv sNot p else p) = p1 := ⟨_, rfl⟩
  have HP1 := Lib.hid hp1
  have hR : p1.pos ≤ s.size ∧ rLit s.data.toList p = (⟨!tk, (qAtom s.data.toList p1).1.a⟩, (qAtom s.data.toList p1).2) := by
    subst hp1 htk
    cases hT : pTake s.data.toList sNot p
    · exact ⟨hp, by rw [rLit, hT]; rfl⟩
    · have h1 := pTake_le hT (by rw [← size_list]; exact hp)
      rw [← size_list] at h1
      exact ⟨by simpa [pAdv] using h1, by rw [rLit, hT]; rfl⟩
  have hp1s := hR.1
  have HR := Lib.hid hR.2
  clear h hR hp1 htk
  go_enter Tryz.func76, Tryz.ntmps76
  go_wp2_with fail
  refine (refTake_any g s _ p _ (H.out.below (by (repeat (first | with_reducible exact Below.refl _ _ | with_reducible assumption | with_reducible refine Below.al ?_ _ | with_reducible refine Below.sc ?_ (by first | exact Nat.le_refl _ | (simp; done) | (simp; omega)) _ | assumption | exact Below.refl _ _ | refine Below.dr ?_ | refine Below.drN ?_ _ | refine Below.step ?_ (by assumption))))) hp (by omega) (by decide)).mono ?_
  rw [show (⟨#[105, 116, 32, 105, 115, 32, 110, 111, 116, 32, 116, 104, 101, 32, 99, 97, 115, 101, 32, 116, 104, 97, 116, 32]⟩ : ByteArray).data.toList = sNot from rfl, HTK.out, HP1.out]
  rintro e w1 ⟨_, rfl, rfl, h1, hg1⟩
  have HQ := Lib.hid h1
  have hz1 := hg1.size
  simp at hz1
  have HRO := Lib.hid ((hg1.block w.heap.size (by simp) (by simp; omega)).trans (heap_alloc_new w _))
  have HG1 := Lib.hid (gr_trans (gr_al (gr_refl w g) _) hg1)
  clear h1 hg1
  go_wp2_with fail
  refine (refAtom_any g s p1 _ (PAt.below HQ.out (by (repeat (first | with_reducible exact Below.refl _ _ | with_reducible assumption | with_reducible refine Below.al ?_ _ | with_reducible refine Below.sc ?_ (by first | exact Nat.le_refl _ | (simp; done) | (simp; omega)) _ | assumption | exact Below.refl _ _ | refine Below.dr ?_ | refine Below.drN ?_ _ | refine Below.step ?_ (by assumption))))) hp1s hs).mono ?_
  rintro e w2 ⟨x, rfl, hV, hP2, hg2⟩
  obtain ⟨v0, v1, v2, v3, v4, rfl, hO⟩ := hV
  have hz2 := hg2.size
  have HT := Lib.hid hO.atom
  have HP2 := Lib.hid hP2
  have hro := (hg2.block w.heap.size (by omega) (by simp; omega)).trans HRO.out
  have HG2 := Lib.hid (gr_trans HG1.out hg2)
  obtain ⟨q1, d1, q2, d2, rfl, rfl, rfl, rfl, rfl, -⟩ := hO.form
  have r0 : w2.cell? ⟨w.heap.size, 0, none⟩ = some (.bool false) := by rw [cell_of_row _ _ 0 _ _ (0, 0) hro]; rfl
  have r1 : w2.cell? ⟨w.heap.size, 1, none⟩ = some (.string ⟨#[]⟩) := by rw [cell_of_row _ _ 1 _ _ (0, 0) hro]; rfl
  have r2 : w2.cell? ⟨w.heap.size, 2, none⟩ = some (.slice none 0 0) := by rw [cell_of_row _ _ 2 _ _ (0, 0) hro]; rfl
  have rf : ∀ i, w2.frozen? ⟨w.heap.size, i, none⟩ = false := fun i => frozen_of_row _ _ i _ _ hro
  have hrb := bsz (heap_lt hro)
  clear hO hP2 hg2 hro
  have hfd : ∀ (w : World) (v0 v1 v2 v3 v4 : Value), (Instr.field 27 (.agg #[v0, v1, v2, v3, v4]) 1).run Tryz.prog w = .ok (.agg #[v1, v2]) w := fun _ _ _ _ _ _ => by kernel_rfl
  go_wp2
  refine bodyPost_ret (v := .agg #[.bool (!tk), .string (qAtom s.data.toList p1).1.a.n, .slice q1 (qAtom s.data.toList p1).1.a.us.length d1]) (by simp only [results, Tryz.results76]; go_simp) rfl ⟨_, rfl, ?_⟩
  rw [HR.out]
  have hk : ∀ b, b ≠ w.heap.size → (((w2.setCell ⟨w.heap.size, 0, none⟩ (.bool (!tk))).setCell ⟨w.heap.size, 1, none⟩ (.string (qAtom s.data.toList p1).1.a.n)).setCell ⟨w.heap.size, 2, none⟩ (.slice q1 (qAtom s.data.toList p1).1.a.us.length d1)).heap[b]? = w2.heap[b]? := fun b hb => by
    repeat rw [heap_setCell_other _ _ _ _ (fun e => hb e)]
  refine ⟨_, rfl, ⟨_, _, rfl, TmOwn.mono _ _ _ _ (Nat.le_refl _) (fun b hb _ => hk b (by have := hb.1; omega)) (fun b hb => ?_) HT.out⟩, (hk g (by omega)).trans HP2.out, ?_⟩
  · have h1 := hb.1
    have h2 := hb.2
    exact ⟨by omega, by simpa using h2⟩
  · exact gr_sc (gr_sc (gr_sc HG2.out (.inr (Nat.le_refl _)) _) (.inr (Nat.le_refl _)) _) (.inr (Nat.le_refl _)) _
end Go.Proofs.YtdklemmincejpaaGreat
namespace Go.Proofs.YtdklemmincejpaaGreat
open Go.RowKit
theorem GSt.hand {α : Type} {R : (Nat → Prop) → World → α → List Value → Prop} (hR : KeepR R) {eT : TypeId} {sz : Nat} {mk : Value → Obj} {TP : TypeId} {ro : Obj} {w W : World} {g rb bt : Nat} {s : ByteArray} {p : PSt} {v : Value} {xs : List α} (h : GSt R eT sz mk TP ro w g rb bt s p v xs W) (a : Value) :
    OwnRow (NewB w (W.setCell ⟨rb, 0, none⟩ a)) (W.setCell ⟨rb, 0, none⟩ a) eT sz (fun S x c => R S (W.setCell ⟨rb, 0, none⟩ a) x c) v xs ∧ PAt TP (W.setCell ⟨rb, 0, none⟩ a) g s p ∧ w.grownBy (W.setCell ⟨rb, 0, none⟩ a) (some g) := by
  obtain ⟨l1, l2, l3, l4⟩ := h.lt
  have hk : ∀ b, b ≠ rb → (W.setCell ⟨rb, 0, none⟩ a).heap[b]? = W.heap[b]? := fun b hb => heap_setCell_other W ⟨rb, 0, none⟩ b a (fun e => hb e)
  refine ⟨h.row.mono (fun b hb _ => hk b (by omega)) (fun b hb => ⟨by omega, by simp; omega⟩) (fun S x c _ hS hx => hR _ _ _ _ _ _ (fun b hb _ => hk b (by have := hS b hb; omega)) (fun _ h => h) hx), (hk g (by omega)).trans h.at_, gr_sc h.gr (.inr l2) _⟩
theorem elemLitQ : Elem Tryz.prog 33 69 3 48 := elem_of Tryz.underlying33 (z := .agg #[.bool false, .string ⟨#[]⟩, .slice none 0 0]) (by kernel_rfl) rfl (by omega)
/-- Between two literals. -/
def QClRel (w : World) (g rb bt : Nat) (s : ByteArray) (all : List Lit3) (pe : PSt) (wr : World) : Prop :=
  ∃ (f : Nat) (p : PSt) (v : Value) (xs : List Lit3), GSt (LitR (s.size + 5)) 69 3 (fun v => .cells #[v] 35 (0, 0)) 52 (.cells #[.slice none 0 0] 35 (0, 0)) w g rb bt s p v xs wr ∧ xs ++ (rLits s.data.toList f p).1 = all ∧ (rLits s.data.toList f p).2 = pe ∧ s.size - p.pos < f ∧ p.pos ≤ s.size ∧ xs.length ≤ p.pos
set_option maxRecDepth 100000 in
set_option maxHeartbeats 6400000 in
theorem refClause_any (g : Nat) (s : ByteArray) (p : PSt) (w : World) (h : PAt 52 w g s p) (hp : p.pos ≤ s.size) (hs9 : s.size ≤ 900000) :
    Calls Tryz.prog 39 #[.pointer (some ⟨g, 0, none⟩)] w fun e w' => ∃ q k c, e = .returned (.agg #[.slice q k c]) ∧ ClsOwn 24 69 (s.size + 5) (NewB w w') w' (rCls s.data.toList p).1 (.slice q k c) ∧ PAt 52 w' g s (rCls s.data.toList p).2 ∧ w.grownBy w' (some g) := by
  have hg := bsz h.lt
  have hs : s.size ≤ 1000000 := by omega
  have HGL := Lib.hid h.lt
  obtain ⟨W, hW⟩ : ∃ W : World, W = (w.alloc (.cells #[.slice none 0 0] 35)).alloc (.cells #[.slice none 0 0] 35) := ⟨_, rfl⟩
  have HT0 := Lib.hid (show GSt (LitR (s.size + 5)) 69 3 (fun v => .cells #[v] 35 (0, 0)) 52 (.cells #[.slice none 0 0] 35 (0, 0)) w g w.heap.size (w.heap.size + 1) s p (.slice none 0 0) [] W by
    rw [hW]
    refine GSt.init (h.below (by (repeat (first | with_reducible exact Below.refl _ _ | with_reducible assumption | with_reducible refine Below.al ?_ _ | with_reducible refine Below.sc ?_ (by first | exact Nat.le_refl _ | (simp; done) | (simp; omega)) _ | assumption | exact Below.refl _ _ | refine Below.dr ?_ | refine Below.drN ?_ _ | refine Below.step ?_ (by assumption))))) (alloc_new_at (by simp)) ?_ (gr_al (gr_al (gr_refl w g) _) _) ⟨h.lt, Nat.le_refl _, by omega⟩
    exact (hao (w.alloc _) _ _ (by simp)).trans (heap_alloc_new w _))
  clear h
  go_enter Tryz.func39, Tryz.ntmps39
  go_wp2_with fail
  rw [← hW]
  clear hW
  have hlt0 := HT0.out.lt
  cases hT : pTake s.data.toList sContr p
  case true =>
    have HTT := Lib.hid hT
    have HFIN := Lib.hid (show rCls s.data.toList p = ([], pAdv sContr p) by rw [rCls, hT]; rfl)
    refine (refTake_any g s _ p _ (PAt.below HT0.out.at_ (by (repeat (first | with_reducible exact Below.refl _ _ | with_reducible assumption | with_reducible refine Below.al ?_ _ | with_reducible refine Below.sc ?_ (by first | exact Nat.le_refl _ | (simp; done) | (simp; omega)) _ | assumption | exact Below.refl _ _ | refine Below.dr ?_ | refine Below.drN ?_ _ | refine Below.step ?_ (by assumption))))) hp (by omega) (by decide)).mono ?_
    rw [show (⟨#[97, 32, 99, 111, 110, 116, 114, 97, 100, 105, 99, 116, 105, 111, 110]⟩ : ByteArray).data.toList = sContr from rfl, HTT.out]
    rintro e w1 ⟨_, rfl, rfl, h1, hg1⟩
    have HT1 := Lib.hid (HT0.out.reader (LitR.keep _) (p' := pAdv sContr p) h1 hg1)
    clear h1 hg1 hT
    have b0 : w1.cell? ⟨w.heap.size + 1, 0, none⟩ = some (.slice none 0 0) := by rw [cell_of_row _ _ 0 _ _ (0, 0) HT1.out.cell]; rfl
    have bf : ∀ i, w1.frozen? ⟨w.heap.size + 1, i, none⟩ = false := fun i => frozen_of_row _ _ i _ _ HT1.out.cell
    have r0 : w1.cell? ⟨w.heap.size, 0, none⟩ = some (.slice none 0 0) := by rw [cell_of_row _ _ 0 _ _ (0, 0) HT1.out.res]; rfl
    have rf : ∀ i, w1.frozen? ⟨w.heap.size, i, none⟩ = false := fun i => frozen_of_row _ _ i _ _ HT1.out.res
    have hrb := bsz (heap_lt HT1.out.res)
    have hbb := bsz (heap_lt HT1.out.cell)
    go_wp2
    refine bodyPost_ret (v := .agg #[.slice none 0 0]) (by simp only [results, Tryz.results39]; go_simp) rfl ⟨_, _, _, rfl, ?_⟩
    rw [HFIN.out]
    exact GSt.hand (LitR.keep _) HT1.out _
  have HTN := Lib.hid hT
  have HALL := Lib.hid (show rCls s.data.toList p = rLits s.data.toList (s.size + 2) p by rw [rCls, hT, if_neg (by simp), ← size_list])
  clear hT
  refine (refTake_any g s _ p _ (PAt.below HT0.out.at_ (by (repeat (first | with_reducible exact Below.refl _ _ | with_reducible assumption | with_reducible refine Below.al ?_ _ | with_reducible refine Below.sc ?_ (by first | exact Nat.le_refl _ | (simp; done) | (simp; omega)) _ | assumption | exact Below.refl _ _ | refine Below.dr ?_ | refine Below.drN ?_ _ | refine Below.step ?_ (by assumption))))) hp (by omega) (by decide)).mono ?_
  rw [show (⟨#[97, 32, 99, 111, 110, 116, 114, 97, 100, 105, 99, 116, 105, 111, 110]⟩ : ByteArray).data.toList = sContr from rfl, HTN.out]
  rintro e w1 ⟨_, rfl, rfl, h1, hg1⟩
  have HT1 := Lib.hid (HT0.out.reader (LitR.keep _) (p' := p) h1 hg1)
  clear h1 hg1
  go_wp2
  go_loopw [] (QClRel w g w.heap.size (w.heap.size + 1) s (rLits s.data.toList (s.size + 2) p).1 (rLits s.data.toList (s.size + 2) p).2) (fun wr => s.size - posOf wr g)
  case atStart => exact ⟨s.size + 2, p, _, [], HT1.out, rfl, rfl, by omega, hp, Nat.zero_le _⟩
  case round =>
    obtain ⟨f, p', v, xs, hst, hal, hpe, hfu, hpl, hxl⟩ := hrel
    have HTS0 := Lib.hid hst
    have HAL := Lib.hid (And.intro hal hpe)
    have HPO := hst.at_.posOf
    have hlt := hst.lt
    obtain ⟨pv, cv, rfl, -⟩ := hst.row.form
    clear hst hal hpe HT1 HT0 hlt0
    obtain ⟨f', rfl⟩ : ∃ q, f = q + 1 := ⟨f - 1, by omega⟩
    have hg' := bsz HTS0.out.at_.lt
    have HNE := Lib.hid (show w.heap.size + 1 ≠ g by omega)
    have HLEN := Lib.hid (show xs.length + 1 ≤ 1000000 by omega)
    cases hE : pTake s.data.toList sEither p'
    case true =>
      have HE := Lib.hid hE
      have hle := pTake_le hE (by rw [← size_list]; exact hpl)
      rw [← size_list] at hle
      have hl7 : sEither.length = 7 := rfl
      clear hE
      go_wp2_with fail
      refine (refTake_any g s _ p' _ (PAt.below HTS0.out.at_ (by (repeat (first | with_reducible exact Below.refl _ _ | with_reducible assumption | with_reducible refine Below.al ?_ _ | with_reducible refine Below.sc ?_ (by first | exact Nat.le_refl _ | (simp; done) | (simp; omega)) _ | assumption | exact Below.refl _ _ | refine Below.dr ?_ | refine Below.drN ?_ _ | refine Below.step ?_ (by assumption))))) hpl (by omega) (by decide)).mono ?_
      rw [show (⟨#[101, 105, 116, 104, 101, 114, 32]⟩ : ByteArray).data.toList = sEither from rfl, HE.out]
      rintro e w2 ⟨_, rfl, rfl, h2, hg2⟩
      have HTS := Lib.hid (HTS0.out.reader (LitR.keep _) (p' := pAdv sEither p') h2 hg2)
      clear h2 hg2
      obtain ⟨tq, htq⟩ : ∃ tq, (rLit s.data.toList (pAdv sEither p')).1 = tq := ⟨_, rfl⟩
      obtain ⟨pq, hpq⟩ : ∃ pq, (rLit s.data.toList (pAdv sEither p')).2 = pq := ⟨_, rfl⟩
      have HTQ := Lib.hid htq
      have HPQ := Lib.hid hpq
      have HRD := Lib.hid (show (pAdv sEither p').pos ≤ s.size by simp only [pAdv]; omega)
      have HBT := Lib.hid (show w2.cell? ⟨w.heap.size + 1, 0, none⟩ = some (.slice pv xs.length cv) by rw [cell_of_row _ _ 0 _ _ (0, 0) HTS.out.cell]; rfl)
      have hpp := rLit_pos s.data.toList (pAdv sEither p') (by rw [← size_list]; exact HRD.out)
      rw [hpq, ← size_list] at hpp
      have hpm := pMust_pos s.data.toList sOr pq (by rw [← size_list]; exact hpp.2)
      rw [← size_list] at hpm
      have HPP := Lib.hid (show p'.pos + 7 ≤ (pMust s.data.toList sOr pq).pos ∧ (pMust s.data.toList sOr pq).pos ≤ s.size ∧ pq.pos ≤ s.size by simp only [pAdv] at hpp; omega)
      have HSTEP := Lib.hid (show rLits s.data.toList (f' + 1) p' = (tq :: (rLits s.data.toList f' (pMust s.data.toList sOr pq)).1, (rLits s.data.toList f' (pMust s.data.toList sOr pq)).2) by rw [rLits, HE.out, if_pos rfl, htq, hpq])
      clear htq hpq hpp hpm
      go_wp2
      obtain ⟨CP, hCP0⟩ : ∃ CP : Value → World → Prop, CP = GP (LitR (s.size + 5)) g w2.heap.size s tq pq 52 w2.drew := ⟨_, rfl⟩
      have HCP := Lib.hid hCP0
      have HGR := Lib.hid (show ∀ x w', CP x w' → w2.grownBy w' (some g) from by
        rw [hCP0]; rintro x w' ⟨_, _, _, _, hG⟩; exact ⟨hG.os, hG.tape, hG.output, hG.size, hG.block⟩)
      have HAGG := Lib.hid (show ∀ x w', CP x w' → ∃ v0 v1 v2, x = .agg #[v0, v1, v2] ∧ v0.oneCell' = true ∧ v1.oneCell' = true ∧ v2.oneCell' = true from by
        rw [hCP0]; rintro x w' ⟨⟨cs⟩, hx, ⟨u1, u2, hc, hO⟩, _, _⟩
        obtain ⟨pp, cc, rfl, rfl, -⟩ := hO.form
        obtain rfl : cs = _ := hc
        exact ⟨_, _, _, hx, rfl, rfl, rfl⟩)
      clear hCP0
      refine wp_region_stages [some (.pointer (some ⟨(w.heap.size + 1), 0, none⟩)), some (.slice pv xs.length cv), some (.pointer (some ⟨g, 0, none⟩)), none, none, none, some (.pointer (some ⟨(w.heap.size + 1), 0, none⟩)), none] [3, 4, 5, 7] (AppG 69 3 (w.heap.size + 1) 0 CP (.slice pv xs.length cv) xs.length w2 3 4 5) (by kernel_rfl) (by kernel_rfl) (by first | kernel_rfl | rfl) (by rfl) rfl ?_
      refine chain_st rfl rfl (by decide) rfl (by intro j u w' hS; go_simp; first | done | exact ⟨hS, rfl⟩ | exact hS | rfl) ?_
      go_simp
      refine chain_stb (c := 5) 2 rfl rfl (by decide) rfl rfl rfl (by first | kernel_rfl | rfl) ?_ ?_
      · intro j u w' hj hS
        have hc := AppG.cell HGR.out HBT.out HNE.out hj hS
        go_simp
        first | done | exact ⟨hS, rfl⟩ | exact hS | rfl
      go_simp
      refine chain_st rfl rfl (by decide) rfl (by intro j u w' hS; go_simp; first | done | exact ⟨hS, rfl⟩ | exact hS | rfl) ?_
      go_simp
      refine chain_first rfl rfl rfl (by decide) rfl ?_ ?_
      · intro w' hS
        obtain rfl : w' = w2.drew := hS
        go_simp
        refine (refLiteral_any g s _ _ (PAt.below HTS.out.at_ (by (repeat (first | with_reducible exact Below.refl _ _ | with_reducible assumption | with_reducible refine Below.al ?_ _ | with_reducible refine Below.sc ?_ (by first | exact Nat.le_refl _ | (simp; done) | (simp; omega)) _ | assumption | exact Below.refl _ _ | refine Below.dr ?_ | refine Below.drN ?_ _ | refine Below.step ?_ (by assumption))))) HRD.out hs).mono ?_
        rintro e w'' ⟨x, he, hx⟩
        rw [HTQ.out, HPQ.out] at hx
        exact ⟨x, he, by show CP (upd _ 3 x 3) w''; rw [upd_same, HCP.out]; exact hx⟩
      intro x
      go_simp
      refine chain_next 0 rfl rfl rfl rfl (by decide) rfl (by first | kernel_rfl | rfl) ?_ ?_
      · intro w' hS
        have hS : CP (upd _ 3 x 3) w' := hS
        rw [upd_same] at hS
        obtain ⟨v0, v1, v2, rfl, o0, o1, o2⟩ := HAGG.out _ _ hS
        go_simp
        exact ⟨w', #[v0, v1, v2], hS, by rw [upd_same], rfl⟩
      intro y
      go_simp
      refine chain_next 1 rfl rfl rfl rfl (by decide) rfl (by first | kernel_rfl | rfl) ?_ ?_
      · intro w' hS
        obtain ⟨w1', cs, hcp, hy, rfl⟩ := hS
        rw [upd_same] at hy
        subst hy
        obtain ⟨v0, v1, v2, he, o0, o1, o2⟩ := HAGG.out _ _ hcp
        simp only [Value.agg.injEq] at he
        subst he
        have hG1 := HGR.out _ _ hcp
        obtain ⟨hm, vals, Ss, r1, r2, r3, r4⟩ := HTS.out.row
        have hlt := HTS.out.lt
        have hlen := HLEN.out
        refine each_app1 (.tmp 11) (.tmp 14) _ rfl 0 69 3 48 elemLitQ (.slice pv xs.length cv) _ vals rfl w1' #[v0, v1, v2] rfl rfl (own_same r1 fun b hb hl => hG1.block b hl (by have := r2 b hb; simp; omega)) rfl (by intro u hu; simp at hu; rcases hu with rfl | rfl | rfl <;> assumption) (by omega) (by unfold maxLen; omega) (Nat.zero_le _) ?_
        intro v' w3 happ hg3 hnr hsz
        exact ⟨w1', #[v0, v1, v2], hcp, by rw [upd_same]; exact happ, hg3, by rw [upd_same]; exact hnr, hsz⟩
      intro z
      go_simp
      refine chain_st rfl rfl (by decide) rfl (by intro j u w' hS; go_simp; first | done | exact ⟨hS, rfl⟩ | exact hS | rfl) ?_
      go_simp
      refine chain_next 2 rfl rfl rfl rfl (by decide) rfl (by first | kernel_rfl | rfl) ?_ ?_
      · intro w' hS
        obtain ⟨w1', cs, hcp, happ, hg3, hnr, hsz⟩ := hS
        rw [upd_same] at happ hnr
        obtain ⟨⟨q', c', rfl⟩, hbt⟩ := HTS.out.three HGR.out hcp happ hg3
        have hcell : w'.cell? ⟨(w.heap.size + 1), 0, none⟩ = some (.slice pv xs.length cv) := by rw [cell_of_row w' _ 0 _ _ (0, 0) hbt]; rfl
        have hfro : w'.frozen? ⟨(w.heap.size + 1), 0, none⟩ = false := frozen_of_row w' _ 0 _ _ hbt
        clear hbt
        go_simp
        refine ⟨w1', w', cs, hcp, ?_, hg3, ?_, hsz, ?_⟩
        · rw [upd_other _ _ (by decide), upd_same]; exact happ
        · rw [upd_other _ _ (by decide), upd_same]; exact hnr
        · rw [upd_other _ _ (by decide), upd_same]
      intro x'
      refine flowU_nil ?_
      intro wz hz
      have HZ := Lib.hid (GSt.app (LitR.keep _) (SetsTo.one _) HTS.out (by have := hz; rw [HCP.out] at this; exact this) (LitR.len _) HLEN.out)
      rw [upd_other _ _ (by decide), upd_same] at HZ
      clear hz
      go_simp
      go_wp2_with fail
      refine (refWant_any g s _ pq _ (PAt.below HZ.out.at_ (by (repeat (first | with_reducible exact Below.refl _ _ | with_reducible assumption | with_reducible refine Below.al ?_ _ | with_reducible refine Below.sc ?_ (by first | exact Nat.le_refl _ | (simp; done) | (simp; omega)) _ | assumption | exact Below.refl _ _ | refine Below.dr ?_ | refine Below.drN ?_ _ | refine Below.step ?_ (by assumption))))) HPP.out.2.2 (by omega) (by decide)).mono ?_
      rw [show (⟨#[32, 111, 114, 32]⟩ : ByteArray).data.toList = sOr from rfl]
      rintro e w5 ⟨_, rfl, rfl, h5, hg5⟩
      have HT5 := Lib.hid (HZ.out.reader (LitR.keep _) (p' := pMust s.data.toList sOr pq) h5 hg5)
      clear h5 hg5
      go_wp2
      have hal := HAL.out
      rw [HSTEP.out] at hal
      have hpp := HPP.out
      refine ⟨⟨f', _, z, xs ++ [tq], HT5.out, by rw [← hal.1]; simp, hal.2, by omega, hpp.2.1, by simp; omega⟩, ?_⟩
      rw [HT5.out.at_.posOf, HPO]
      omega
    case false =>
      have HE := Lib.hid hE
      clear hE
      go_wp2_with fail
      refine (refTake_any g s _ p' _ (PAt.below HTS0.out.at_ (by (repeat (first | with_reducible exact Below.refl _ _ | with_reducible assumption | with_reducible refine Below.al ?_ _ | with_reducible refine Below.sc ?_ (by first | exact Nat.le_refl _ | (simp; done) | (simp; omega)) _ | assumption | exact Below.refl _ _ | refine Below.dr ?_ | refine Below.drN ?_ _ | refine Below.step ?_ (by assumption))))) hpl (by omega) (by decide)).mono ?_
      rw [show (⟨#[101, 105, 116, 104, 101, 114, 32]⟩ : ByteArray).data.toList = sEither from rfl, HE.out]
      rintro e w2 ⟨_, rfl, rfl, h2, hg2⟩
      have HTS := Lib.hid (HTS0.out.reader (LitR.keep _) (p' := p') h2 hg2)
      clear h2 hg2
      obtain ⟨tq, htq⟩ : ∃ tq, (rLit s.data.toList p').1 = tq := ⟨_, rfl⟩
      obtain ⟨pq, hpq⟩ : ∃ pq, (rLit s.data.toList p').2 = pq := ⟨_, rfl⟩
      have HTQ := Lib.hid htq
      have HPQ := Lib.hid hpq
      have HRD := Lib.hid hpl
      have HBT := Lib.hid (show w2.cell? ⟨w.heap.size + 1, 0, none⟩ = some (.slice pv xs.length cv) by rw [cell_of_row _ _ 0 _ _ (0, 0) HTS.out.cell]; rfl)
      have HSTEP := Lib.hid (show rLits s.data.toList (f' + 1) p' = ([tq], pq) by rw [rLits, HE.out, if_neg (by simp), htq, hpq])
      clear htq hpq
      go_wp2
      obtain ⟨CP, hCP0⟩ : ∃ CP : Value → World → Prop, CP = GP (LitR (s.size + 5)) g w2.heap.size s tq pq 52 w2.drew := ⟨_, rfl⟩
      have HCP := Lib.hid hCP0
      have HGR := Lib.hid (show ∀ x w', CP x w' → w2.grownBy w' (some g) from by
        rw [hCP0]; rintro x w' ⟨_, _, _, _, hG⟩; exact ⟨hG.os, hG.tape, hG.output, hG.size, hG.block⟩)
      have HAGG := Lib.hid (show ∀ x w', CP x w' → ∃ v0 v1 v2, x = .agg #[v0, v1, v2] ∧ v0.oneCell' = true ∧ v1.oneCell' = true ∧ v2.oneCell' = true from by
        rw [hCP0]; rintro x w' ⟨⟨cs⟩, hx, ⟨u1, u2, hc, hO⟩, _, _⟩
        obtain ⟨pp, cc, rfl, rfl, -⟩ := hO.form
        obtain rfl : cs = _ := hc
        exact ⟨_, _, _, hx, rfl, rfl, rfl⟩)
      clear hCP0
      refine wp_region_stages [some (.pointer (some ⟨(w.heap.size + 1), 0, none⟩)), some (.slice pv xs.length cv), some (.pointer (some ⟨g, 0, none⟩)), none, none, none, some (.pointer (some ⟨(w.heap.size + 1), 0, none⟩)), none] [3, 4, 5, 7] (AppG 69 3 (w.heap.size + 1) 0 CP (.slice pv xs.length cv) xs.length w2 3 4 5) (by kernel_rfl) (by kernel_rfl) (by first | kernel_rfl | rfl) (by rfl) rfl ?_
      refine chain_st rfl rfl (by decide) rfl (by intro j u w' hS; go_simp; first | done | exact ⟨hS, rfl⟩ | exact hS | rfl) ?_
      go_simp
      refine chain_stb (c := 5) 2 rfl rfl (by decide) rfl rfl rfl (by first | kernel_rfl | rfl) ?_ ?_
      · intro j u w' hj hS
        have hc := AppG.cell HGR.out HBT.out HNE.out hj hS
        go_simp
        first | done | exact ⟨hS, rfl⟩ | exact hS | rfl
      go_simp
      refine chain_st rfl rfl (by decide) rfl (by intro j u w' hS; go_simp; first | done | exact ⟨hS, rfl⟩ | exact hS | rfl) ?_
      go_simp
      refine chain_first rfl rfl rfl (by decide) rfl ?_ ?_
      · intro w' hS
        obtain rfl : w' = w2.drew := hS
        go_simp
        refine (refLiteral_any g s _ _ (PAt.below HTS.out.at_ (by (repeat (first | with_reducible exact Below.refl _ _ | with_reducible assumption | with_reducible refine Below.al ?_ _ | with_reducible refine Below.sc ?_ (by first | exact Nat.le_refl _ | (simp; done) | (simp; omega)) _ | assumption | exact Below.refl _ _ | refine Below.dr ?_ | refine Below.drN ?_ _ | refine Below.step ?_ (by assumption))))) HRD.out hs).mono ?_
        rintro e w'' ⟨x, he, hx⟩
        rw [HTQ.out, HPQ.out] at hx
        exact ⟨x, he, by show CP (upd _ 3 x 3) w''; rw [upd_same, HCP.out]; exact hx⟩
      intro x
      go_simp
      refine chain_next 0 rfl rfl rfl rfl (by decide) rfl (by first | kernel_rfl | rfl) ?_ ?_
      · intro w' hS
        have hS : CP (upd _ 3 x 3) w' := hS
        rw [upd_same] at hS
        obtain ⟨v0, v1, v2, rfl, o0, o1, o2⟩ := HAGG.out _ _ hS
        go_simp
        exact ⟨w', #[v0, v1, v2], hS, by rw [upd_same], rfl⟩
      intro y
      go_simp
      refine chain_next 1 rfl rfl rfl rfl (by decide) rfl (by first | kernel_rfl | rfl) ?_ ?_
      · intro w' hS
        obtain ⟨w1', cs, hcp, hy, rfl⟩ := hS
        rw [upd_same] at hy
        subst hy
        obtain ⟨v0, v1, v2, he, o0, o1, o2⟩ := HAGG.out _ _ hcp
        simp only [Value.agg.injEq] at he
        subst he
        have hG1 := HGR.out _ _ hcp
        obtain ⟨hm, vals, Ss, r1, r2, r3, r4⟩ := HTS.out.row
        have hlt := HTS.out.lt
        have hlen := HLEN.out
        refine each_app1 (.tmp 20) (.tmp 23) _ rfl 0 69 3 48 elemLitQ (.slice pv xs.length cv) _ vals rfl w1' #[v0, v1, v2] rfl rfl (own_same r1 fun b hb hl => hG1.block b hl (by have := r2 b hb; simp; omega)) rfl (by intro u hu; simp at hu; rcases hu with rfl | rfl | rfl <;> assumption) (by omega) (by unfold maxLen; omega) (Nat.zero_le _) ?_
        intro v' w3 happ hg3 hnr hsz
        exact ⟨w1', #[v0, v1, v2], hcp, by rw [upd_same]; exact happ, hg3, by rw [upd_same]; exact hnr, hsz⟩
      intro z
      go_simp
      refine chain_st rfl rfl (by decide) rfl (by intro j u w' hS; go_simp; first | done | exact ⟨hS, rfl⟩ | exact hS | rfl) ?_
      go_simp
      refine chain_next 2 rfl rfl rfl rfl (by decide) rfl (by first | kernel_rfl | rfl) ?_ ?_
      · intro w' hS
        obtain ⟨w1', cs, hcp, happ, hg3, hnr, hsz⟩ := hS
        rw [upd_same] at happ hnr
        obtain ⟨⟨q', c', rfl⟩, hbt⟩ := HTS.out.three HGR.out hcp happ hg3
        have hcell : w'.cell? ⟨(w.heap.size + 1), 0, none⟩ = some (.slice pv xs.length cv) := by rw [cell_of_row w' _ 0 _ _ (0, 0) hbt]; rfl
        have hfro : w'.frozen? ⟨(w.heap.size + 1), 0, none⟩ = false := frozen_of_row w' _ 0 _ _ hbt
        clear hbt
        go_simp
        refine ⟨w1', w', cs, hcp, ?_, hg3, ?_, hsz, ?_⟩
        · rw [upd_other _ _ (by decide), upd_same]; exact happ
        · rw [upd_other _ _ (by decide), upd_same]; exact hnr
        · rw [upd_other _ _ (by decide), upd_same]
      intro x'
      refine flowU_nil ?_
      intro wz hz
      have HZ := Lib.hid (GSt.app (LitR.keep _) (SetsTo.one _) HTS.out (by have := hz; rw [HCP.out] at this; exact this) (LitR.len _) HLEN.out)
      rw [upd_other _ _ (by decide), upd_same] at HZ
      clear hz
      go_simp
      obtain ⟨qv, dv, rfl, -⟩ := HZ.out.row.form
      have b0 : wz.cell? ⟨w.heap.size + 1, 0, none⟩ = some (.slice qv (xs ++ [tq]).length dv) := by rw [cell_of_row _ _ 0 _ _ (0, 0) HZ.out.cell]; rfl
      have bf : ∀ i, wz.frozen? ⟨w.heap.size + 1, i, none⟩ = false := fun i => frozen_of_row _ _ i _ _ HZ.out.cell
      have r0 : wz.cell? ⟨w.heap.size, 0, none⟩ = some (.slice none 0 0) := by rw [cell_of_row _ _ 0 _ _ (0, 0) HZ.out.res]; rfl
      have rf : ∀ i, wz.frozen? ⟨w.heap.size, i, none⟩ = false := fun i => frozen_of_row _ _ i _ _ HZ.out.res
      have hrb := bsz (heap_lt HZ.out.res)
      have hbb := bsz (heap_lt HZ.out.cell)
      have hal := HAL.out
      rw [HSTEP.out] at hal
      have HFIN := Lib.hid (show rCls s.data.toList p = (xs ++ [tq], pq) by rw [HALL.out]; exact Prod.ext hal.1.symm hal.2.symm)
      clear hal
      go_wp2
      refine bodyPost_ret (v := .agg #[.slice qv (xs ++ [tq]).length dv]) (by simp only [results, Tryz.results39]; go_simp) rfl ⟨_, _, _, rfl, ?_⟩
      rw [HFIN.out]
      exact GSt.hand (LitR.keep _) HZ.out _
end Go.Proofs.YtdklemmincejpaaGreat
namespace Go.Proofs.YtdklemmincejpaaGreat
open Go.RowKit
theorem baseV10 (x0 x1 x2 x3 x4 x5 x6 x7 x8 x9 : Option Value) (v : Value) (l : List (Option Value)) : baseV (x0 :: x1 :: x2 :: x3 :: x4 :: x5 :: x6 :: x7 :: x8 :: x9 :: some v :: l) 10 = v := rfl
def OwnC (B : Nat → Prop) (m : Nat) : Prop := ∀ (t : Tm) (v0 v1 : Value) (w : World), TmAt B m w t [v0, v1] → t.wt ≤ 1048576 →
  Calls Tryz.prog 120 #[.agg #[v0, v1]] w fun e w' => ∃ u0 u1, e = .returned (.agg #[u0, u1]) ∧ TmOwn 24 m (fun b => w.heap.size ≤ b ∧ b < w'.heap.size) w' t [u0, u1] ∧ Below w.heap.size w w'
def OwnRel (n : ByteArray) (us : List Tm) (m rb bt : Nat) (w : World) (i : Value) (wr : World) : Prop :=
  ∃ (k : Nat) (v : Value), k ≤ us.length ∧ i = .int .i64 (k : Nat) ∧ LSt 24 rb bt n w m v (us.take k) wr
set_option maxRecDepth 100000 in
set_option maxHeartbeats 3200000 in
theorem l2Own_any {B : Nat → Prop} : ∀ m : Nat, OwnC B m := by
  intro m
  induction m with
  | zero => intro t v0 v1 w h; exact h.elim
  | succ m ih =>
    rintro ⟨n, us⟩ v0 v1 w ⟨va, he, hn, hl⟩ hw
    simp only [List.cons.injEq, and_true] at he
    obtain ⟨rfl, rfl⟩ := he
    obtain ⟨p, c, rfl, hlen⟩ := hl.form
    rw [Tm.wt] at hw
    unfold maxLen at hlen
    have HL := Lib.hid hl
    have HN := Lib.hid hn
    have IH := Lib.hid ih
    clear ih hl hn
    go_enter Tryz.func120, Tryz.ntmps120
    go_wp2
    obtain ⟨wp, hwp⟩ : ∃ wp : World, wp = w.alloc (.cells #[.string n, .slice p us.length c] 24) := ⟨_, rfl⟩
    have hsz : wp.heap.size = w.heap.size + 1 := by rw [hwp]; simp
    have hbp : Below w.heap.size w wp := by rw [hwp]; (repeat (first | with_reducible exact Below.refl _ _ | with_reducible assumption | with_reducible refine Below.al ?_ _ | with_reducible refine Below.sc ?_ (by first | exact Nat.le_refl _ | (simp; done) | (simp; omega)) _ | assumption | exact Below.refl _ _ | refine Below.dr ?_ | refine Below.drN ?_ _ | refine Below.step ?_ (by assumption)))
    have hpb : wp.heap[w.heap.size]? = some (.cells #[.string n, .slice p us.length c] 24 (0, 0)) := by rw [hwp]; exact heap_alloc_new w _
    rw [← hwp]
    clear hwp
    have HL0 := Lib.hid (LSt.init (T := 24) (n := n) (w := wp) (f := m) (Below.refl _ _))
    simp only [World.size_alloc, hsz] at HL0
    have HLP := Lib.hid (HL.out.mono (SameOn.below hbp) (fun _ h => h) (fun x cs _ hx => TmAt.below hbp hx))
    go_loopw [4] (OwnRel n us m (w.heap.size + 1) (w.heap.size + 1 + 1) wp) (fun i _ => us.length - (intOf i).toNat)
    case atStart => exact ⟨0, _, Nat.zero_le _, rfl, HL0.out⟩
    case round =>
      obtain ⟨k, v, hk, rfl, hls⟩ := hrel
      have HLS := Lib.hid hls
      clear hls HL0
      have hlt0 := HLS.out.lt
      have hbw := HLS.out.bel
      have hzr := hbw.size
      have hpr : wr.heap[w.heap.size]? = _ := (hbw.block _ (by omega)).trans hpb
      obtain ⟨a0, a1, af⟩ := cells2_cell hpr
      have za := bsz (show w.heap.size < wr.heap.size by omega)
      by_cases hlt : k < us.length
      · have hlti : (k : Int) < us.length := by omega
        obtain ⟨b, o, hpe, hB, x0, x1, hx0, hx1, hx⟩ := HLP.out.at2 hlt
        subst hpe
        have hwa := Tm.wts_le us hlt
        have hbl : b < wp.heap.size := World.block_lt_of_cell? _ _ hx0
        obtain ⟨a, ha⟩ : ∃ a, us[k] = a := ⟨_, rfl⟩
        have HTK := Lib.hid (show us.take (k + 1) = us.take k ++ [a] by rw [List.take_succ_eq_append_getElem hlt, ha])
        rw [ha] at hx hwa
        have HX := Lib.hid (TmAt.below hbw hx)
        clear hx ha
        have hlk : (us.take k).length = k := by rw [List.length_take]; omega
        obtain ⟨pa, ca, rfl, rfl, -⟩ := HX.out.form
        have hy0 : wr.cell? ⟨b, o + k * 2, none⟩ = some (.string a.n) := (World.cell?_of_block (hbw.block _ hbl)).trans hx0
        have hy1 : wr.cell? ⟨b, o + k * 2 + 1, none⟩ = some (.slice pa a.us.length ca) := (World.cell?_of_block (hbw.block _ hbl)).trans hx1
        obtain ⟨hm, vals, Ss, hv1, hv2, -⟩ := HLS.out.row
        have hnb : ∀ b', b' ≤ w.heap.size + 1 + 1 → v.ownBlock ≠ some b' := fun b' hb' e => by have := (hv2 b' e).1; omega
        rw [hlk] at hv1
        obtain ⟨b0, b1, bf⟩ := cells2_cell HLS.out.cell
        have HB1 := Lib.hid b1
        have HY := Lib.hid (And.intro a1 (And.intro hy0 hy1))
        have HNB := Lib.hid hnb
        have HV := Lib.hid hv1
        clear hv1 hv2 hnb hx0 hx1 hy0 hy1 b0 b1 bf
        go_wp2
        clear a0 a1 af
        obtain ⟨CP, hCP0⟩ : ∃ CP : Value → World → Prop, CP = fun x w' => ∃ u0 u1, x = .agg #[u0, u1] ∧ TmOwn 24 m (fun b => wr.heap.size ≤ b ∧ b < w'.heap.size) w' a [u0, u1] ∧ Below wr.heap.size wr w' := ⟨_, rfl⟩
        have HCP := Lib.hid hCP0
        have HGR := Lib.hid (show ∀ x w', CP x w' → wr.grownBy w' (some (w.heap.size + 1)) from by
          rw [hCP0]; rintro x w' ⟨_, _, _, _, hG⟩; exact ⟨hG.os, hG.tape, hG.output, hG.size, fun k hk _ => hG.block k hk⟩)
        have HAGG := Lib.hid (show ∀ x w', CP x w' → ∃ v0 v1, x = .agg #[v0, v1] ∧ v0.oneCell' = true ∧ v1.oneCell' = true from by
          rw [hCP0]; rintro x w' ⟨v0, v1, hx, hO, _⟩
          obtain ⟨pp, cc, rfl, rfl, -⟩ := hO.form
          exact ⟨_, _, hx, rfl, rfl⟩)
        clear hCP0
        have HKEEP := Lib.hid (show ∀ (b' j : Nat) (u : Nat → Value) (w' : World), AppSt 24 (w.heap.size + 1) (w.heap.size + 1 + 1) CP v k wr 7 8 9 j u w' → b' < wp.heap.size → w'.heap[b']? = wr.heap[b']? from
          fun b' j u w' h hlt => AppSt.keep HGR.out (by omega) (by omega) (HNB.out b' (by omega)) (by omega) h)
        refine wp_region_stages [some (.pointer (some ⟨w.heap.size + 1 + 1, 1, none⟩)), some v, some (.pointer (some ⟨w.heap.size, 1, none⟩)), some (.slice (some ⟨b, o, none⟩) us.length c), some (.int .i64 (k : Nat)), some (.pointer (some ⟨b, o + k * 2, none⟩)), some (.agg #[.string a.n, .slice pa a.us.length ca]), none, none, none, some (.pointer (some ⟨w.heap.size + 1 + 1, 1, none⟩)), none] [7, 8, 9, 11] (AppSt 24 (w.heap.size + 1) (w.heap.size + 1 + 1) CP v k wr 7 8 9) (by kernel_rfl) (by kernel_rfl) (by first | kernel_rfl | rfl) (by rfl) rfl ?_
        refine chain_st rfl rfl (by decide) rfl (by intro j u w' hS; go_simp; first | done | exact ⟨hS, rfl⟩ | exact hS | rfl) ?_
        go_simp
        refine chain_stb (c := 9) 2 rfl rfl (by decide) rfl rfl rfl (by first | kernel_rfl | rfl) ?_ ?_
        · intro j u w' hj hS
          have hc := AppSt.cell HGR.out HB1.out (by omega) hj hS
          go_simp
          first | done | exact ⟨hS, rfl⟩ | exact hS | rfl
        go_simp
        refine chain_st rfl rfl (by decide) rfl (by intro j u w' hS; go_simp; first | done | exact ⟨hS, rfl⟩ | exact hS | rfl) ?_
        go_simp
        refine chain_st rfl rfl (by decide) rfl ?_ ?_
        · intro j u w' hS
          have hc : w'.cell? ⟨w.heap.size, 1, none⟩ = _ := (World.cell?_of_block (HKEEP.out w.heap.size j u w' hS (by omega))).trans HY.out.1
          go_simp
          first | done | exact ⟨hS, rfl⟩ | exact hS | rfl
        go_simp
        refine chain_st rfl rfl (by decide) rfl (by intro j u w' hS; go_simp; first | done | exact ⟨hS, rfl⟩ | exact hS | rfl) ?_
        go_simp
        refine chain_st rfl rfl (by decide) rfl (by intro j u w' hS; go_simp; first | done | exact ⟨hS, rfl⟩ | exact hS | rfl) ?_
        go_simp
        refine chain_st rfl rfl (by decide) rfl ?_ ?_
        · intro j u w' hS
          have hc0 : w'.cell? ⟨b, o + k * 2, none⟩ = _ := (World.cell?_of_block (HKEEP.out b j u w' hS hbl)).trans HY.out.2.1
          have hc1 : w'.cell? ⟨b, o + k * 2 + 1, none⟩ = _ := (World.cell?_of_block (HKEEP.out b j u w' hS hbl)).trans HY.out.2.2
          go_simp
          first | done | exact ⟨hS, rfl⟩ | exact hS | rfl
        go_simp
        refine chain_first rfl rfl rfl (by decide) rfl ?_ ?_
        · intro w' hS
          obtain rfl : w' = wr.drew := hS
          go_simp
          refine (IH.out a _ _ _ (TmAt.below (by (repeat (first | with_reducible exact Below.refl _ _ | with_reducible assumption | with_reducible refine Below.al ?_ _ | with_reducible refine Below.sc ?_ (by first | exact Nat.le_refl _ | (simp; done) | (simp; omega)) _ | assumption | exact Below.refl _ _ | refine Below.dr ?_ | refine Below.drN ?_ _ | refine Below.step ?_ (by assumption)))) HX.out) (by omega)).mono ?_
          rintro e w'' ⟨u0, u1, he, hx⟩
          refine ⟨_, he, ?_⟩
          show CP (upd _ 7 _ 7) w''
          rw [upd_same, HCP.out]
          exact ⟨u0, u1, rfl, hx.1, ⟨hx.2.os, hx.2.tape, hx.2.output, hx.2.size, hx.2.block⟩⟩
        intro x
        go_simp
        refine chain_next 0 rfl rfl rfl rfl (by decide) rfl (by first | kernel_rfl | rfl) ?_ ?_
        · intro w' hS
          have hS : CP (upd _ 7 x 7) w' := hS
          rw [upd_same] at hS
          obtain ⟨v0, v1, rfl, o0, o1⟩ := HAGG.out _ _ hS
          go_simp
          exact ⟨w', v0, v1, hS, by rw [upd_same], rfl⟩
        intro y
        go_simp
        refine chain_next 1 rfl rfl rfl rfl (by decide) rfl (by first | kernel_rfl | rfl) ?_ ?_
        · intro w' hS
          obtain ⟨w1', v0, v1, hcp, hy, rfl⟩ := hS
          rw [upd_same] at hy
          subst hy
          obtain ⟨v0', v1', he, o0, o1⟩ := HAGG.out _ _ hcp
          simp only [Value.agg.injEq, Array.mk.injEq, List.cons.injEq, and_true] at he
          obtain ⟨rfl, rfl⟩ := he
          have hG1 := HGR.out _ _ hcp
          have hv2 := HV.out
          have hkw : w1'.ownsRow 0 24 2 v k vals := own_same hv2 (fun b' hb' hl => hG1.block b' hl (by
            obtain ⟨-, vals2, Ss2, -, q2, -⟩ := HLS.out.row
            have := q2 b' hb'
            simp; omega))
          refine each_app1 (.tmp 16) (.tmp 23) _ rfl 0 24 2 40 elemTmI v k vals rfl w1' #[v0, v1] rfl rfl hkw rfl (by intro u hu; simp at hu; rcases hu with rfl | rfl <;> assumption) (by omega) (by unfold maxLen; omega) (Nat.zero_le _) ?_
          intro v' w3 happ hg3 hnr hsz
          exact ⟨w1', v0, v1, hcp, by rw [upd_same]; exact happ, hg3, by rw [upd_same]; exact hnr, hsz⟩
        intro z
        go_simp
        refine chain_st rfl rfl (by decide) rfl (by intro j u w' hS; simp only [baseV10]; go_simp; first | done | exact ⟨hS, rfl⟩ | exact hS | rfl) ?_
        simp only [baseV10]
        go_simp
        refine chain_next 2 rfl rfl rfl rfl (by decide) rfl (by first | kernel_rfl | rfl) ?_ ?_
        · intro w' hS
          obtain ⟨w1', v0, v1, hcp, happ, hg3, hnr, hsz⟩ := hS
          rw [upd_same] at happ hnr
          have hcp2 := hcp
          rw [HCP.out] at hcp2
          obtain ⟨u0, u1, he, hO, hB1⟩ := hcp2
          simp only [Value.agg.injEq, Array.mk.injEq, List.cons.injEq, and_true] at he
          obtain ⟨rfl, rfl⟩ := he
          have HL1 := HLS.out.later hB1
          have hkw : w1'.ownsRow 0 24 2 v k vals := own_same HV.out (fun b' hb' hl => hB1.block b' hl)
          have happ0 := happ 0 vals hkw (Nat.zero_le _)
          rw [← hlk] at happ0
          obtain ⟨⟨q', c', rfl⟩, hbt, -⟩ := HL1.three happ0 hg3
          have hcell : w'.cell? ⟨w.heap.size + 1 + 1, 1, none⟩ = some v := by rw [cell_of_row w' _ 1 _ _ (0, 0) hbt]; rfl
          have hfro : w'.frozen? ⟨w.heap.size + 1 + 1, 1, none⟩ = false := frozen_of_row w' _ 1 _ _ hbt
          clear hbt
          rw [hlk] at happ0
          simp only [hlk] at happ hnr
          go_simp
          refine ⟨w1', w', v0, v1, hcp, ?_, hg3, ?_, hsz, ?_⟩
          · rw [upd_other _ _ (by decide), upd_same]; exact happ
          · rw [upd_other _ _ (by decide), upd_same]; exact hnr
          · rw [upd_other _ _ (by decide), upd_same]
        intro x'
        refine flowU_nil ?_
        intro wz hz
        obtain ⟨w1', w3', v0, v1, hcp, happ, hg3, hnr, hsz, rfl⟩ := hz
        rw [upd_other _ _ (by decide), upd_same] at happ hnr
        rw [HCP.out] at hcp
        obtain ⟨u0, u1, he, hO, hB1⟩ := hcp
        simp only [Value.agg.injEq, Array.mk.injEq, List.cons.injEq, and_true] at he
        obtain ⟨rfl, rfl⟩ := he
        have hkw : w1'.ownsRow 0 24 2 v (us.take k).length vals := by rw [hlk]; exact own_same HV.out (fun b' hb' hl => hB1.block b' hl)
        have happ0 := happ 0 vals (by rw [hlk] at hkw; exact hkw) (Nat.zero_le _)
        have HZ := Lib.hid (HLS.out.app (a := a) hB1 hO hkw (by rw [hlk]; exact happ0) hg3 hnr (by omega))
        rw [← HTK.out] at HZ
        have hu9 : upd (upd (upd (upd (fun x => undef) 7 x) 8 y) 9 z) 11 x' 9 = z := by rw [upd_other _ _ (by decide), upd_same]
        rw [hu9]
        clear happ hnr hO hB1 hkw happ0 hg3 hsz
        go_simp
        go_wp2
        exact ⟨⟨k + 1, z, by omega, by go_num, HZ.out⟩, by simp [intOf]; omega⟩
      · obtain rfl : k = us.length := by omega
        have HTA := Lib.hid (show us.take us.length = us from List.take_length)
        rw [HTA.out] at HLS
        obtain ⟨pv, cv, hvv, -⟩ := HLS.out.row.form
        subst hvv
        obtain ⟨b0, b1, bf⟩ := cells2_cell HLS.out.cell
        obtain ⟨r0, r1, rf⟩ := cells2_cell HLS.out.res
        have zb := bsz (show w.heap.size + 1 < wr.heap.size by omega)
        have zb1 := bsz (show w.heap.size + 1 + 1 < wr.heap.size by omega)
        go_wp2
        refine bodyPost_ret (v := .agg #[.string n, .slice pv us.length cv]) (by simp only [results, Tryz.results120]; go_simp) rfl ⟨_, _, rfl, ?_⟩
        obtain ⟨h1, h2⟩ := LSt.out HLS.out HN.out (.string n) (.slice pv us.length cv)
        exact ⟨TmOwn.mono _ _ _ _ (Nat.le_refl _) (SameOn.refl _ _) (fun q hq => ⟨by omega, hq.2⟩) h2, hbp.trans (h1.mono hbp.size)⟩
end Go.Proofs.YtdklemmincejpaaGreat
namespace Go.Proofs.YtdklemmincejpaaGreat
open Go.RowKit
set_option maxRecDepth 100000 in
set_option maxHeartbeats 1600000 in
theorem l8Literal_any {B : Nat → Prop} (m : Nat) (l : Lit3) (v0 v1 v2 : Value) (w : World) (h : LitAt B m w l [v0, v1, v2]) (hw : l.a.wt ≤ 1048576) :
    Calls Tryz.prog 80 #[.agg #[v0, v1, v2]] w fun e w' => ∃ u0 u1 u2 u3 u4, e = .returned (.agg #[u0, u1, u2, u3, u4]) ∧ FmAt (fun b => w.heap.size ≤ b) (m + 2) w' l.fm [u0, u1, u2, u3, u4] ∧ Below w.heap.size w w' := by
  obtain ⟨p, c, rfl, rfl, rfl, ht⟩ := h.form
  have HT := Lib.hid ht
  have HW := Lib.hid hw
  have HL := Lib.hid (show l.fm = if l.pos then atomOfF l.a else opF 4 [atomOfF l.a] from rfl)
  clear h ht hw
  go_enter Tryz.func80, Tryz.ntmps80
  go_wp2_with fail
  obtain ⟨W, hW⟩ : ∃ W : World, W = (w.alloc (.cells #[.bool l.pos, .string l.a.n, .slice p l.a.us.length c] 69)).alloc (.cells #[.int .i64 0, .string ⟨#[]⟩, .slice none 0 0, .string ⟨#[]⟩, .slice none 0 0] 27) := ⟨_, rfl⟩
  have hsW : W.heap.size = w.heap.size + 2 := by rw [hW]; simp
  have hbW : Below w.heap.size w W := by rw [hW]; (repeat (first | with_reducible exact Below.refl _ _ | with_reducible assumption | with_reducible refine Below.al ?_ _ | with_reducible refine Below.sc ?_ (by first | exact Nat.le_refl _ | (simp; done) | (simp; omega)) _ | assumption | exact Below.refl _ _ | refine Below.dr ?_ | refine Below.drN ?_ _ | refine Below.step ?_ (by assumption)))
  have a0 : W.cell? ⟨w.heap.size, 0, none⟩ = some (.bool l.pos) := by rw [hW]; go_simp
  have a1 : W.cell? ⟨w.heap.size, 1, none⟩ = some (.string l.a.n) := by rw [hW]; go_simp
  have a2 : W.cell? ⟨w.heap.size, 2, none⟩ = some (.slice p l.a.us.length c) := by rw [hW]; go_simp
  have r0 : W.cell? ⟨w.heap.size + 1, 0, none⟩ = some (.int .i64 0) := by rw [hW]; go_simp
  have r1 : W.cell? ⟨w.heap.size + 1, 1, none⟩ = some (.string ⟨#[]⟩) := by rw [hW]; go_simp
  have r2 : W.cell? ⟨w.heap.size + 1, 2, none⟩ = some (.slice none 0 0) := by rw [hW]; go_simp
  have r3 : W.cell? ⟨w.heap.size + 1, 3, none⟩ = some (.string ⟨#[]⟩) := by rw [hW]; go_simp
  have r4 : W.cell? ⟨w.heap.size + 1, 4, none⟩ = some (.slice none 0 0) := by rw [hW]; go_simp
  have rf : ∀ j, W.frozen? ⟨w.heap.size + 1, j, none⟩ = false := fun j => by rw [hW]; go_simp
  rw [← hW]
  clear hW
  have zW := bsz (show w.heap.size < W.heap.size by omega)
  have zW1 := bsz (show w.heap.size + 1 < W.heap.size by omega)
  refine (l2Own_any m l.a _ _ _ (HT.out.below (by (repeat (first | with_reducible exact Below.refl _ _ | with_reducible assumption | with_reducible refine Below.al ?_ _ | with_reducible refine Below.sc ?_ (by first | exact Nat.le_refl _ | (simp; done) | (simp; omega)) _ | assumption | exact Below.refl _ _ | refine Below.dr ?_ | refine Below.drN ?_ _ | refine Below.step ?_ (by assumption))))) HW.out).mono ?_
  rintro e w1 ⟨u0, u1, rfl, hu, hb1⟩
  have ⟨cw1, fw1⟩ := bcell hb1
  have qw1 := hb1.size
  have hu2 := TmOwn.at_ _ _ _ hu
  obtain ⟨pu, cu, rfl, rfl, -, -⟩ := hu2.form
  have HU := Lib.hid hu2
  clear hu hu2
  have z1 := bsz (show w.heap.size < w1.heap.size by omega)
  have z11 := bsz (show w.heap.size + 1 < w1.heap.size by omega)
  have hw1 : Below w.heap.size w w1 := by (repeat (first | with_reducible exact Below.refl _ _ | with_reducible assumption | with_reducible refine Below.al ?_ _ | with_reducible refine Below.sc ?_ (by first | exact Nat.le_refl _ | (simp; done) | (simp; omega)) _ | assumption | exact Below.refl _ _ | refine Below.dr ?_ | refine Below.drN ?_ _ | refine Below.step ?_ (by assumption)))
  have hF : ∀ w', SameOn (fun b => W.heap.size ≤ b ∧ b < w1.heap.size) w1 w' → FmAt (fun b => w.heap.size ≤ b) (m + 1) w' (atomOfF l.a) [.int .i64 3, .string l.a.n, .slice pu l.a.us.length cu, .string ⟨#[]⟩, .slice none 0 0] := fun w' hs =>
    ⟨_, _, _, rfl, by omega, Nat.zero_le _, TmAt.mono hs (fun b hb => by omega) _ _ _ _ (Nat.le_refl _) HU.out, ListAt.nil _ _ _ _ _ _⟩
  have HF := Lib.hid hF
  clear hF HU
  cases hp : l.pos
  · have HL2 := Lib.hid (show l.fm = opF 4 [atomOfF l.a] by rw [HL.out, hp]; rfl)
    clear HT HL
    go_wp2
    refine bodyPost_ret (v := .agg #[.int .i64 4, .string ⟨#[]⟩, .slice none 0 0, .string ⟨#[]⟩, .slice (some ⟨w1.heap.size + 1, 0, none⟩) 1 1]) (by simp only [results, Tryz.results80]; go_simp) rfl ⟨_, _, _, _, _, rfl, ?_, by (repeat (first | with_reducible exact Below.refl _ _ | with_reducible assumption | with_reducible refine Below.al ?_ _ | with_reducible refine Below.sc ?_ (by first | exact Nat.le_refl _ | (simp; done) | (simp; omega)) _ | assumption | exact Below.refl _ _ | refine Below.dr ?_ | refine Below.drN ?_ _ | refine Below.step ?_ (by assumption)))⟩
    rw [HL2.out]
    refine opF_at (by omega) ?_
    refine list_one (e := 27) (cs := #[.int .i64 3, .string l.a.n, .slice pu l.a.us.length cu, .string ⟨#[]⟩, .slice none 0 0]) ?_ (by omega) rfl ?_
    · exact alloc_new_at (by simp)
    · exact HF.out _ (SameOn.al (SameOn.al (fun b hb _ => set5_other w1 _ _ _ _ _ (by omega)) (by simp) _) (by simp) _)
  · have HL2 := Lib.hid (show l.fm = atomOfF l.a by rw [HL.out, hp]; rfl)
    clear HT HL
    go_wp2
    refine bodyPost_ret (v := .agg #[.int .i64 3, .string l.a.n, .slice pu l.a.us.length cu, .string ⟨#[]⟩, .slice none 0 0]) (by simp only [results, Tryz.results80]; go_simp) rfl ⟨_, _, _, _, _, rfl, ?_, by (repeat (first | with_reducible exact Below.refl _ _ | with_reducible assumption | with_reducible refine Below.al ?_ _ | with_reducible refine Below.sc ?_ (by first | exact Nat.le_refl _ | (simp; done) | (simp; omega)) _ | assumption | exact Below.refl _ _ | refine Below.dr ?_ | refine Below.drN ?_ _ | refine Below.step ?_ (by assumption)))⟩
    rw [HL2.out]
    exact FmAt.mono (SameOn.refl _ _) (fun b hb => hb) _ _ _ _ (by omega) (HF.out _ (SameOn.al (fun b hb _ => set5_other w1 _ _ _ _ _ (by omega)) (by simp) _))
def ClRel (c : List Lit3) (w : World) (s i : Value) (wr : World) : Prop :=
  ∃ k : Nat, k < c.length ∧ i = .int .i64 ((k : Int) - 1) ∧ s = .string ⟨(disj (c.drop k)).eng.toArray⟩ ∧ Below w.heap.size w wr
set_option maxRecDepth 100000 in
set_option maxHeartbeats 1600000 in
theorem l26Clause_any {B : Nat → Prop} (m : Nat) (c : List Lit3) (v : Value) (w : World) (h : ClsAt B m w c v) (h8 : c.length ≤ 8) (ha : ∀ l ∈ c, l.a.atom = true) (hw : Cls.wts c ≤ 1048576) :
    Calls Tryz.prog 41 #[.agg #[v]] w fun e w' => e = .returned (.string ⟨(Cls.eng c).toArray⟩) ∧ Below w.heap.size w w' := by
  obtain ⟨p, d, rfl, -⟩ := (show ListAt B w 3 (LitAt B m w) v c from h).form
  have H := Lib.hid (show ListAt B w 3 (LitAt B m w) (.slice p c.length d) c from h)
  have HA := Lib.hid ha
  clear h ha
  by_cases h0 : c.length = 0
  · have HE := Lib.hid (show Cls.eng c = sContr from if_pos h0)
    obtain rfl : c = [] := List.eq_nil_of_length_eq_zero h0
    go_enter Tryz.func41, Tryz.ntmps41
    go_wp2
    go_ret
    exact ⟨ret_str (by rw [HE.out]; rfl), by (repeat (first | with_reducible exact Below.refl _ _ | with_reducible assumption | with_reducible refine Below.al ?_ _ | with_reducible refine Below.sc ?_ (by first | exact Nat.le_refl _ | (simp; done) | (simp; omega)) _ | assumption | exact Below.refl _ _ | refine Below.dr ?_ | refine Below.drN ?_ _ | refine Below.step ?_ (by assumption)))⟩
  · have HE := Lib.hid (show Cls.eng c = (disj c).eng from if_neg h0)
    have HW := Lib.hid (fun l hl => Nat.le_trans (Cls.wts_le c l hl) hw)
    have h0i : ((c.length : Int) == 0) = false := by rw [beq_eq_false_iff_ne]; omega
    have hw1 : IntKind.i64.wrap ((c.length : Int) - 1) = ((c.length - 1 : Nat) : Int) := by rw [IntWalk.i64_in _ (by omega)]; omega
    have hw2 : IntKind.i64.wrap ((c.length : Int) - 2) = ((c.length - 1 : Nat) : Int) - 1 := by rw [IntWalk.i64_in _ (by omega)]; omega
    have hlast : c.length - 1 < c.length := by omega
    have HLEN := Lib.hid (show ∀ k, k < c.length → (disj (c.drop k)).eng.length ≤ 40000000 from fun k hk => disj_len (by simp; omega) (by simp; omega) (fun l hl => HA.out l (List.mem_of_mem_drop hl)) (Nat.le_trans (Cls.wts_drop_le c k) hw))
    obtain ⟨b, o, rfl, hB, x0, x1, x2, hx0, hx1, hx2, hx⟩ := H.out.at3 hlast
    have hdl : c.drop (c.length - 1) = [c[c.length - 1]] := by rw [List.drop_eq_getElem_cons hlast, show c.length - 1 + 1 = c.length by omega, List.drop_length]
    have hal := HA.out _ (List.getElem_mem hlast)
    have hwl := HW.out _ (List.getElem_mem hlast)
    obtain ⟨a, hae⟩ : ∃ a, c[c.length - 1] = a := ⟨_, rfl⟩
    rw [hae] at hx hdl hal hwl
    have HX := Lib.hid hx
    have HDL := Lib.hid (show a.fm.eng = (disj (c.drop (c.length - 1))).eng by rw [hdl, disj_one])
    have HF := Lib.hid (And.intro (a.fm_form hal) (fm_len hal hwl))
    have zb := bsz (World.block_lt_of_cell? _ _ hx0)
    clear hx hae hdl
    go_enter Tryz.func41, Tryz.ntmps41
    go_wp2_with fail
    refine (l8Literal_any m a _ _ _ _ (LitAt.below (by (repeat (first | with_reducible exact Below.refl _ _ | with_reducible assumption | with_reducible refine Below.al ?_ _ | with_reducible refine Below.sc ?_ (by first | exact Nat.le_refl _ | (simp; done) | (simp; omega)) _ | assumption | exact Below.refl _ _ | refine Below.dr ?_ | refine Below.drN ?_ _ | refine Below.step ?_ (by assumption)))) HX.out) hwl).mono ?_
    rintro e w1 ⟨u0, u1, u2, u3, u4, rfl, hu, hb1⟩
    have ⟨cw1, fw1⟩ := bcell hb1
    have qw1 := hb1.size
    (try simp at qw1)
    (try have zw1w := bsz (show w.heap.size < w1.heap.size by omega))
    have HU := Lib.hid hu
    clear hu
    go_wp2_with fail
    refine (l26Formula_any (m + 2) a.fm _ _ _ _ _ _ HU.out HF.out.1 (by have := HF.out.2; omega)).mono ?_
    rintro e w2 ⟨rfl, hb2⟩
    have ⟨cw2, fw2⟩ := bcell hb2
    have qw2 := hb2.size
    (try simp at qw2)
    (try have zw2w := bsz (show w.heap.size < w2.heap.size by omega))
    (try have zw2w1 := bsz (show w1.heap.size < w2.heap.size by omega))
    go_wp2
    have a0 : w2.cell? ⟨w.heap.size, 0, none⟩ = some (.slice (some ⟨b, o, none⟩) c.length d) := by go_simp
    have hbw2 : Below w.heap.size w w2 := by (repeat (first | with_reducible exact Below.refl _ _ | with_reducible assumption | with_reducible refine Below.al ?_ _ | with_reducible refine Below.sc ?_ (by first | exact Nat.le_refl _ | (simp; done) | (simp; omega)) _ | assumption | exact Below.refl _ _ | refine Below.dr ?_ | refine Below.drN ?_ _ | refine Below.step ?_ (by assumption)))
    have hsz2 : w.heap.size < w2.heap.size := by omega
    clear cw1 fw1 cw2 fw2 hb1 hb2
    go_loopw [4, 5] (ClRel c w2) (fun _ i _ => (intOf i + 1).toNat)
    case atStart => exact ⟨c.length - 1, hlast, rfl, by rw [HDL.out], Below.refl _ _⟩
    case round =>
      obtain ⟨k, hk, rfl, rfl, hb⟩ := hrel
      have hqr := hb.size
      have b0 : wr.cell? ⟨w.heap.size, 0, none⟩ = some (.slice (some ⟨b, o, none⟩) c.length d) := (World.cell?_of_block (hb.block _ hsz2)).trans a0
      have hwr : Below w.heap.size w wr := hbw2.trans (hb.mono hbw2.size)
      cases k with
      | zero =>
        clear a0
        go_wp2
        go_ret
        exact ⟨ret_str (by rw [HE.out]; rfl), hwr⟩
      | succ k =>
        have hkl : k < c.length := by omega
        obtain ⟨b', o', hq, -, y0, y1, y2, hy0, hy1, hy2, hy⟩ := (H.out.mono (SameOn.below hwr) (fun _ h => h) (fun x cs _ hx => LitAt.below hwr hx)).at3 hkl
        simp only [Option.some.injEq, Addr.mk.injEq, and_true] at hq
        obtain ⟨rfl, rfl⟩ := hq
        have hdd := disj_drop (show k + 1 < c.length by omega)
        have hal2 := HA.out _ (List.getElem_mem hkl)
        have hwl2 := HW.out _ (List.getElem_mem hkl)
        have hln := HLEN.out (k + 1) hk
        obtain ⟨a', hae⟩ : ∃ a', c[k] = a' := ⟨_, rfl⟩
        rw [hae] at hy hdd hal2 hwl2
        have HY := Lib.hid hy
        have HDD := Lib.hid (show (disj (c.drop k)).eng = sEither ++ a'.fm.eng ++ sOr ++ (disj (c.drop (k + 1))).eng by rw [hdd, eng_or])
        have hl2 := fm_len hal2 hwl2
        have HF2 := Lib.hid (a'.fm_form hal2)
        have hki : ((k + 1 : Nat) : Int) - 1 = k := by omega
        have hkl2 : (k : Int) < c.length := by omega
        have hwk : IntKind.i64.wrap ((k : Int) - 1) = (k : Int) - 1 := IntWalk.i64_in _ (by omega)
        have zr := bsz (show w.heap.size < wr.heap.size by omega)
        rw [hki]
        clear a0 hy hae hdd
        go_wp2_with fail
        refine (l8Literal_any m a' _ _ _ _ (LitAt.below (by (repeat (first | with_reducible exact Below.refl _ _ | with_reducible assumption | with_reducible refine Below.al ?_ _ | with_reducible refine Below.sc ?_ (by first | exact Nat.le_refl _ | (simp; done) | (simp; omega)) _ | assumption | exact Below.refl _ _ | refine Below.dr ?_ | refine Below.drN ?_ _ | refine Below.step ?_ (by assumption)))) HY.out) hwl2).mono ?_
        rintro e w3 ⟨t0, t1, t2, t3, t4, rfl, ht, hb3⟩
        have ⟨cw3, fw3⟩ := bcell hb3
        have qw3 := hb3.size
        (try simp at qw3)
        (try have zw3w := bsz (show w.heap.size < w3.heap.size by omega))
        (try have zw3w1 := bsz (show w1.heap.size < w3.heap.size by omega))
        (try have zw3w2 := bsz (show w2.heap.size < w3.heap.size by omega))
        have HT := Lib.hid ht
        clear ht
        go_wp2_with fail
        refine (l26Formula_any (m + 2) a'.fm _ _ _ _ _ _ HT.out HF2.out (by omega)).mono ?_
        rintro e w4 ⟨rfl, hb4⟩
        have ⟨cw4, fw4⟩ := bcell hb4
        have qw4 := hb4.size
        (try simp at qw4)
        (try have zw4w := bsz (show w.heap.size < w4.heap.size by omega))
        (try have zw4w1 := bsz (show w1.heap.size < w4.heap.size by omega))
        (try have zw4w2 := bsz (show w2.heap.size < w4.heap.size by omega))
        (try have zw4w3 := bsz (show w3.heap.size < w4.heap.size by omega))
        go_wp2
        exact ⟨⟨k, by omega, rfl, congrArg Value.string (str_eq (by rw [HDD.out]; simp [sEither, sOr])), by (repeat (first | with_reducible exact Below.refl _ _ | with_reducible assumption | with_reducible refine Below.al ?_ _ | with_reducible refine Below.sc ?_ (by first | exact Nat.le_refl _ | (simp; done) | (simp; omega)) _ | assumption | exact Below.refl _ _ | refine Below.dr ?_ | refine Below.drN ?_ _ | refine Below.step ?_ (by assumption)))⟩, by simp [intOf]⟩
end Go.Proofs.YtdklemmincejpaaGreat
