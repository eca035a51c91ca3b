/- Marks in lists of records: written, and held. Conditions: sizes. -/
import Derived.Test.YtofamefmodmekaaDoorLogM
namespace Go.Proofs.YtofamefmodmekaaDoor
open Go.RowKit
def markV (m k : Nat) : List Value := (List.range (k * 2)).map fun j => .string (markB (m + j))
theorem markV_len (m k : Nat) : (markV m k).length = k * 2 := by simp [markV]
theorem markV_at (m k j : Nat) (h : j < k * 2) : (markV m k)[j]? = some (.string (markB (m + j))) := by simp [markV, h]
theorem markV_succ (m k : Nat) : markV m (k + 1) = markV m k ++ [.string (markB (m + k * 2)), .string (markB (m + k * 2 + 1))] := by
  unfold markV
  rw [show (k + 1) * 2 = k * 2 + 1 + 1 by omega, List.range_succ, List.range_succ]
  simp [Nat.add_assoc]
theorem mark_step (m k : Nat) (xs : List Value) (h : k * 2 + 1 < xs.length) :
    ((markV m k ++ xs.drop (k * 2)).set (k * 2) (.string (markB (m + k * 2)))).set (k * 2 + 1) (.string (markB (m + k * 2 + 1))) = markV m (k + 1) ++ xs.drop ((k + 1) * 2) := by
  have e : xs.drop (k * 2) = xs[k * 2] :: xs[k * 2 + 1] :: xs.drop ((k + 1) * 2) := by
    rw [show (k + 1) * 2 = k * 2 + 1 + 1 by omega, List.getElem_cons_drop, List.getElem_cons_drop]
  have hl := markV_len m k
  rw [e, markV_succ, List.set_append, if_neg (by omega), hl, Nat.sub_self, List.set_cons_zero, List.set_append, if_neg (by omega), hl, show k * 2 + 1 - k * 2 = 1 by omega]
  simp
theorem below_base {b : Nat} {a w w1 : World} (h : Below b a w) (hb : Below w.heap.size w w1) (hle : b ≤ w.heap.size) : Below b a w1 := h.trans (hb.mono hle)
def MarkSRel (n g c b m : Nat) (xs : List Value) (w : World) (q i : Value) (wr : World) : Prop :=
  ∃ k : Nat, k ≤ n ∧ i = .int .i64 k ∧ q = .int .i64 (m + k * 2 : Nat) ∧ wr.ownsRow b 27 2 (.slice (some ⟨g, 0, none⟩) n c) n (markV m k ++ xs.drop (k * 2)) ∧ Below b w wr
set_option maxRecDepth 100000 in
set_option maxHeartbeats 1600000 in
theorem markS_any (n g c b m : Nat) (xs : List Value) (w : World) (h60 : n ≤ 10000) (hm0 : 0 < m) (hm : m ≤ 10000) (h1 : w.ownsRow b 27 2 (.slice (some ⟨g, 0, none⟩) n c) n xs) :
    Calls Tryd.prog 33 #[.slice (some ⟨g, 0, none⟩) n c, .int .i64 m] w fun e w' => e = .returned (.int .i64 (m + n * 2 : Nat)) ∧ w'.ownsRow b 27 2 (.slice (some ⟨g, 0, none⟩) n c) n (markV m n) ∧ Below b w w' := by
  have hlen : xs.length = n * 2 := h1.1
  have H1 := Lib.hid h1
  clear h1
  go_enter Tryd.func33, Tryd.ntmps33
  go_wp2
  go_loopw [1, 5] (MarkSRel n g c b m xs w) (fun _ i _ => n - (intOf i).toNat)
  case atStart => exact ⟨0, Nat.zero_le _, rfl, rfl, by simpa [markV] using H1.out, Below.refl _ _⟩
  case round =>
    obtain ⟨k, hk, rfl, rfl, ho, hb⟩ := hrel
    have HO := Lib.hid ho
    clear ho
    have hbb : b ≤ wr.heap.size := Nat.le_of_lt (Nat.lt_of_le_of_lt (own_base HO.out g rfl) (own_lt HO.out))
    by_cases hlt : k < n
    · have hk2 : k * 2 + 1 < n * 2 := by omega
      have H2 := Lib.hid hk2
      go_wp2_with fail
      refine (markText_int _ (m + k * 2) _ (by omega) (by omega) (by omega)).mono ?_
      rintro e w1 ⟨rfl, hb1⟩
      have ho1 := own_below HO.out hb1
      obtain ⟨u1, hc1⟩ : ∃ u, w1.cell? ⟨g, k * 2, none⟩ = some u := ⟨_, (ho1.cellAt (k * 2) (by omega)).trans (List.getElem?_eq_getElem (by simp [markV_len, hlen]; omega))⟩
      have hf1 := ho1.frozenAt (k * 2)
      have HO1 := Lib.hid ho1
      clear ho1
      go_wp2_with fail
      refine (markText_int _ (m + k * 2 + 1) _ (by omega) (by omega) (by omega)).mono ?_
      rintro e w2 ⟨rfl, hb2⟩
      have ho2 := own_below (HO1.out.stored (k * 2) (.string (markB (m + k * 2)))).1 hb2
      obtain ⟨u2, hc2⟩ : ∃ u, w2.cell? ⟨g, k * 2 + 1, none⟩ = some u := ⟨_, (ho2.cellAt (k * 2 + 1) (by omega)).trans (List.getElem?_eq_getElem (by simp [markV_len, hlen]; omega))⟩
      have hf2 := ho2.frozenAt (k * 2 + 1)
      have hg : b ≤ g := own_base HO.out g rfl
      have hz1 := hb1.size
      have hz2 := hb2.size
      simp only [World.size_setCell] at hz2
      have HB := Lib.hid (show Below b w (w2.setCell ⟨g, k * 2 + 1, none⟩ (.string (markB (m + k * 2 + 1)))) from
        (below_base ((below_base hb hb1 hbb).setCell (p := ⟨g, k * 2, none⟩) hg _) (by simpa using hb2) (by simp; omega)).setCell (p := ⟨g, k * 2 + 1, none⟩) hg _)
      have HO2 := Lib.hid ho2
      clear ho2
      go_wp2_with fail
      refine ⟨⟨k + 1, by omega, by go_num, ?_, ?_, HB.out⟩, by simp [intOf]; omega⟩
      · exact congrArg (Value.int .i64) (by omega)
      · rw [← mark_step m k xs (by omega)]
        exact (HO2.out.stored (k * 2 + 1) (.string (markB (m + k * 2 + 1)))).1
    · have hkn : k = n := by omega
      subst hkn
      go_wp2
      go_ret
      refine ⟨rfl, ?_, hb⟩
      have := HO.out
      rwa [List.drop_eq_nil_of_le (by omega), List.append_nil] at this
theorem markS_nil (m : Int) (w : World) :
    Calls Tryd.prog 33 #[.slice none 0 0, .int .i64 m] w fun e w' => e = .returned (.int .i64 m) ∧ w = w' := by
  go_enter Tryd.func33, Tryd.ntmps33
  go_wp2
  go_loop [1, 5] (fun q i => q = .int .i64 m ∧ i = .int .i64 0) (fun _ _ => 0)
  case atStart => exact ⟨rfl, rfl⟩
  case round =>
    obtain ⟨rfl, rfl⟩ := hrel
    go_wp2
    go_ret
    exact ⟨rfl, rfl⟩
theorem heldS_nil (m : Int) (w : World) :
    Calls Tryd.prog 34 #[.slice none 0 0, .int .i64 m] w fun e w' => e = .returned (.int .i64 m) ∧ w = w' := by
  go_enter Tryd.func34, Tryd.ntmps34
  go_wp2
  go_loop [1, 5] (fun q i => q = .int .i64 m ∧ i = .int .i64 0) (fun _ _ => 0)
  case atStart => exact ⟨rfl, rfl⟩
  case round =>
    obtain ⟨rfl, rfl⟩ := hrel
    go_wp2
    go_ret
    exact ⟨rfl, rfl⟩
set_option maxRecDepth 100000 in
set_option maxHeartbeats 1600000 in
theorem heldS_any (n g c b m : Nat) (w : World) (h60 : n ≤ 10000) (hm0 : 0 < m) (hm : m ≤ 10000) (h1 : w.ownsRow b 27 2 (.slice (some ⟨g, 0, none⟩) n c) n (markV m n)) :
    Calls Tryd.prog 34 #[.slice (some ⟨g, 0, none⟩) n c, .int .i64 m] w fun e w' => e = .returned (.int .i64 (m + n * 2 : Nat)) ∧ Below w.heap.size w w' := by
  have H1 := Lib.hid h1
  clear h1
  go_enter Tryd.func34, Tryd.ntmps34
  go_wp2
  go_loopw [1, 5] (fun q i wr => ∃ k : Nat, k ≤ n ∧ i = .int .i64 k ∧ q = .int .i64 (m + k * 2 : Nat) ∧ Below w.heap.size w wr) (fun _ i _ => n - (intOf i).toNat)
  case atStart => exact ⟨0, Nat.zero_le _, rfl, rfl, Below.refl _ _⟩
  case round =>
    obtain ⟨k, hk, rfl, rfl, hb⟩ := hrel
    by_cases hlt : k < n
    · have ho := own_below H1.out hb
      have hc1 : wr.cell? ⟨g, k * 2, none⟩ = some (.string (markB (m + k * 2))) := (ho.cellAt (k * 2) (by omega)).trans (markV_at m n _ (by omega))
      have hc2 : wr.cell? ⟨g, k * 2 + 1, none⟩ = some (.string (markB (m + k * 2 + 1))) := (ho.cellAt (k * 2 + 1) (by omega)).trans (markV_at m n _ (by omega))
      clear ho
      go_wp2
      obtain ⟨C, HC0⟩ := class_of (InF wr.heap.size _ [(⟨g, k * 2, none⟩, .string (markB (m + k * 2))), (⟨g, k * 2 + 1, none⟩, .string (markB (m + k * 2 + 1)))] [] [])
      have HC := Lib.hid HC0
      clear HC0
      refine wp_region_flow (C := C) (by kernel_rfl) (by kernel_rfl) (fun L hL => (HC.out _ _).2 (InF.start (by first | (intro _ hs; cases hs; done) | (simp only [List.forall_mem_cons]; go_simp)) (by first | (intro _ hs; cases hs; done) | (simp only [List.forall_mem_cons]; go_simp)) (by first | (intro _ hs; cases hs; done) | (simp only [List.forall_mem_cons]; go_simp)) (by first | (intro _ hs; cases hs; done) | (simp only [List.forall_mem_cons]; go_simp)) L hL)) ?_
      repeat (first | (apply flow_free rfl; (intro L w' hun hrd hC; have hC := (HC.out _ _).1 hC; have hb' := hC.below; (try have hw' : Below w.heap.size w w' := by first | exact Below.trans (by (repeat (first | exact Below.refl _ _ | assumption | refine Below.al ?_ _ | refine Below.sc ?_ (by first | exact Nat.le_refl _ | (simp; done) | (simp; omega)) _ | refine Below.dr ?_ | refine Below.drN ?_ _ | refine Below.step ?_ (by assumption)))) hb' | ((repeat (first | exact Below.refl _ _ | assumption | refine Below.al ?_ _ | refine Below.sc ?_ (by first | exact Nat.le_refl _ | (simp; done) | (simp; omega)) _ | refine Below.dr ?_ | refine Below.drN ?_ _ | refine Below.step ?_ (by assumption))); done)); have hf' := hC.cell; (try simp only [List.forall_mem_cons] at hf'); go_simp; first | exact ⟨(HC.out _ _).2 (hC.skip _ (by rfl)), rfl⟩ | (rw [if_neg]; (exact ⟨(HC.out _ _).2 (hC.skip _ (by rfl)), rfl⟩); omega) | (go_at_call 52; refine (markText_int _ (m + k * 2) _ (by omega) (by omega) (by omega)).mono ?_; rintro e w1 ⟨rfl, hb1⟩; exact ⟨rfl, (HC.out _ _).2 ((hC.next (by first | (simp; done) | (simp; omega) | omega) hb1).skip _ (by rfl))⟩)); go_simp) | (apply flow_yes; (case hw => go_simp); (intro L w' hun hrd hC; have hC := (HC.out _ _).1 hC; have hb' := hC.below; (try have hw' : Below w.heap.size w w' := by first | exact Below.trans (by (repeat (first | exact Below.refl _ _ | assumption | refine Below.al ?_ _ | refine Below.sc ?_ (by first | exact Nat.le_refl _ | (simp; done) | (simp; omega)) _ | refine Below.dr ?_ | refine Below.drN ?_ _ | refine Below.step ?_ (by assumption)))) hb' | ((repeat (first | exact Below.refl _ _ | assumption | refine Below.al ?_ _ | refine Below.sc ?_ (by first | exact Nat.le_refl _ | (simp; done) | (simp; omega)) _ | refine Below.dr ?_ | refine Below.drN ?_ _ | refine Below.step ?_ (by assumption))); done)); have hf' := hC.cell; (try simp only [List.forall_mem_cons] at hf'); go_simp; first | exact ⟨(HC.out _ _).2 (hC.skip _ (by rfl)), rfl⟩ | (rw [if_neg]; (exact ⟨(HC.out _ _).2 (hC.skip _ (by rfl)), rfl⟩); omega) | (go_at_call 52; refine (markText_int _ (m + k * 2) _ (by omega) (by omega) (by omega)).mono ?_; rintro e w1 ⟨rfl, hb1⟩; exact ⟨rfl, (HC.out _ _).2 ((hC.next (by first | (simp; done) | (simp; omega) | omega) hb1).skip _ (by rfl))⟩)); go_simp) | (apply flow_no; (case hw => go_simp); (intro L w' _ _ hC; exact (HC.out _ _).2 (((HC.out _ _).1 hC).skip _ (by rfl))); go_simp))
      refine flow_nil ?_
      intro L wz hL hz
      have hz := (HC.out _ _).1 hz
      have hbz := hz.below
      have hcz := hz.cell
      try simp only [List.forall_mem_cons] at hcz
      have hdz := hz.done
      try simp only [List.forall_mem_cons] at hdz
      (try have hwz : Below w.heap.size w wz := by first | exact Below.trans (by (repeat (first | exact Below.refl _ _ | assumption | refine Below.al ?_ _ | refine Below.sc ?_ (by first | exact Nat.le_refl _ | (simp; done) | (simp; omega)) _ | refine Below.dr ?_ | refine Below.drN ?_ _ | refine Below.step ?_ (by assumption)))) hbz | ((repeat (first | exact Below.refl _ _ | assumption | refine Below.al ?_ _ | refine Below.sc ?_ (by first | exact Nat.le_refl _ | (simp; done) | (simp; omega)) _ | refine Below.dr ?_ | refine Below.drN ?_ _ | refine Below.step ?_ (by assumption))); done))
      go_wp2
      obtain ⟨C, HC0⟩ := class_of (InF wz.heap.size _ [(⟨g, k * 2 + 1, none⟩, .string (markB (m + k * 2 + 1)))] [] [])
      have HC := Lib.hid HC0
      clear HC0
      refine wp_region_flow (C := C) (by kernel_rfl) (by kernel_rfl) (fun L hL => (HC.out _ _).2 (InF.start (by first | (intro _ hs; cases hs; done) | (simp only [List.forall_mem_cons]; go_simp)) (by first | (intro _ hs; cases hs; done) | (simp only [List.forall_mem_cons]; go_simp)) (by first | (intro _ hs; cases hs; done) | (simp only [List.forall_mem_cons]; go_simp)) (by first | (intro _ hs; cases hs; done) | (simp only [List.forall_mem_cons]; go_simp)) L hL)) ?_
      repeat (first | (apply flow_free rfl; (intro L w' hun hrd hC; have hC := (HC.out _ _).1 hC; have hb' := hC.below; (try have hw' : Below w.heap.size w w' := by first | exact Below.trans (by (repeat (first | exact Below.refl _ _ | assumption | refine Below.al ?_ _ | refine Below.sc ?_ (by first | exact Nat.le_refl _ | (simp; done) | (simp; omega)) _ | refine Below.dr ?_ | refine Below.drN ?_ _ | refine Below.step ?_ (by assumption)))) hb' | ((repeat (first | exact Below.refl _ _ | assumption | refine Below.al ?_ _ | refine Below.sc ?_ (by first | exact Nat.le_refl _ | (simp; done) | (simp; omega)) _ | refine Below.dr ?_ | refine Below.drN ?_ _ | refine Below.step ?_ (by assumption))); done)); have hf' := hC.cell; (try simp only [List.forall_mem_cons] at hf'); go_simp; first | exact ⟨(HC.out _ _).2 (hC.skip _ (by rfl)), rfl⟩ | (rw [if_neg]; (exact ⟨(HC.out _ _).2 (hC.skip _ (by rfl)), rfl⟩); omega) | (go_at_call 52; refine (markText_int _ (m + k * 2 + 1) _ (by omega) (by omega) (by omega)).mono ?_; rintro e w1 ⟨rfl, hb1⟩; exact ⟨rfl, (HC.out _ _).2 ((hC.next (by first | (simp; done) | (simp; omega) | omega) hb1).skip _ (by rfl))⟩)); go_simp) | (apply flow_yes; (case hw => go_simp); (intro L w' hun hrd hC; have hC := (HC.out _ _).1 hC; have hb' := hC.below; (try have hw' : Below w.heap.size w w' := by first | exact Below.trans (by (repeat (first | exact Below.refl _ _ | assumption | refine Below.al ?_ _ | refine Below.sc ?_ (by first | exact Nat.le_refl _ | (simp; done) | (simp; omega)) _ | refine Below.dr ?_ | refine Below.drN ?_ _ | refine Below.step ?_ (by assumption)))) hb' | ((repeat (first | exact Below.refl _ _ | assumption | refine Below.al ?_ _ | refine Below.sc ?_ (by first | exact Nat.le_refl _ | (simp; done) | (simp; omega)) _ | refine Below.dr ?_ | refine Below.drN ?_ _ | refine Below.step ?_ (by assumption))); done)); have hf' := hC.cell; (try simp only [List.forall_mem_cons] at hf'); go_simp; first | exact ⟨(HC.out _ _).2 (hC.skip _ (by rfl)), rfl⟩ | (rw [if_neg]; (exact ⟨(HC.out _ _).2 (hC.skip _ (by rfl)), rfl⟩); omega) | (go_at_call 52; refine (markText_int _ (m + k * 2 + 1) _ (by omega) (by omega) (by omega)).mono ?_; rintro e w1 ⟨rfl, hb1⟩; exact ⟨rfl, (HC.out _ _).2 ((hC.next (by first | (simp; done) | (simp; omega) | omega) hb1).skip _ (by rfl))⟩)); go_simp) | (apply flow_no; (case hw => go_simp); (intro L w' _ _ hC; exact (HC.out _ _).2 (((HC.out _ _).1 hC).skip _ (by rfl))); go_simp))
      refine flow_nil ?_
      intro L wz hL hz
      have hz := (HC.out _ _).1 hz
      have hbz := hz.below
      have hcz := hz.cell
      try simp only [List.forall_mem_cons] at hcz
      have hdz := hz.done
      try simp only [List.forall_mem_cons] at hdz
      (try have hwz : Below w.heap.size w wz := by first | exact Below.trans (by (repeat (first | exact Below.refl _ _ | assumption | refine Below.al ?_ _ | refine Below.sc ?_ (by first | exact Nat.le_refl _ | (simp; done) | (simp; omega)) _ | refine Below.dr ?_ | refine Below.drN ?_ _ | refine Below.step ?_ (by assumption)))) hbz | ((repeat (first | exact Below.refl _ _ | assumption | refine Below.al ?_ _ | refine Below.sc ?_ (by first | exact Nat.le_refl _ | (simp; done) | (simp; omega)) _ | refine Below.dr ?_ | refine Below.drN ?_ _ | refine Below.step ?_ (by assumption))); done))
      go_wp2
      refine ⟨⟨k + 1, by omega, by go_num, ?_, by (repeat (first | exact Below.refl _ _ | assumption | refine Below.al ?_ _ | refine Below.sc ?_ (by first | exact Nat.le_refl _ | (simp; done) | (simp; omega)) _ | refine Below.dr ?_ | refine Below.drN ?_ _ | refine Below.step ?_ (by assumption)))⟩, by simp [intOf]; omega⟩
      exact congrArg (Value.int .i64) (by omega)
    · have hkn : k = n := by omega
      subst hkn
      go_wp2
      go_ret
      exact ⟨rfl, by (repeat (first | exact Below.refl _ _ | assumption | refine Below.al ?_ _ | refine Below.sc ?_ (by first | exact Nat.le_refl _ | (simp; done) | (simp; omega)) _ | refine Below.dr ?_ | refine Below.drN ?_ _ | refine Below.step ?_ (by assumption)))⟩
end Go.Proofs.YtofamefmodmekaaDoor
