/- The program's own reader of a log's records, and validity. Conditions: sizes; the package tables lie as they were laid. -/
import Derived.Test.YtofamefmodmekaaDoorLogL
namespace Go.Proofs.YtofamefmodmekaaDoor
open Go.RowKit
/-- Is there an end at n among the first i? -/
def endAt (l : List Nat) (n : Int) (i : Nat) : Bool := (l.take i).any fun x => (x : Int) == n
theorem endAt_succ (l : List Nat) (n : Int) (i : Nat) (h : i < l.length) : endAt l n (i + 1) = (endAt l n i || (((l.getD i 0 : Nat) : Int) == n)) := by
  unfold endAt
  rw [List.take_succ_eq_append_getElem h, List.any_append]
  simp [List.getD_eq_getElem?_getD, h]
theorem endAt_all (l : List Nat) (n i : Nat) (h : l.length ≤ i) : endAt l (n : Int) i = l.contains n := by
  unfold endAt
  rw [List.take_of_length_le h, Bool.eq_iff_iff, List.any_eq_true, List.contains_iff_mem]
  constructor
  · rintro ⟨x, hx, he⟩
    have : (x : Int) = n := by simpa using he
    rw [← Int.ofNat_inj.1 this]; exact hx
  · intro hx; exact ⟨n, hx, by simp⟩
/-- 'whole', 'durable' after i rounds. -/
def wholeAt (l : List Nat) (n : Int) (i : Nat) : Bool := (n == 0) || endAt l n i
theorem wholeAt_succ (l : List Nat) (n : Int) (i : Nat) (h : i < l.length) : wholeAt l n (i + 1) = (wholeAt l n i || (((l.getD i 0 : Nat) : Int) == n)) := by
  unfold wholeAt; rw [endAt_succ l n i h, Bool.or_assoc]
theorem whole_yes {l : List Nat} {n : Int} {i : Nat} (h : i < l.length) (hw : wholeAt l n i = true) : wholeAt l n (i + 1) = true := by rw [wholeAt_succ l n i h, hw]; rfl
theorem whole_no {l : List Nat} {n : Int} {i : Nat} (h : i < l.length) (hw : wholeAt l n i = false) : wholeAt l n (i + 1) = (((l.getD i 0 : Nat) : Int) == n) := by rw [wholeAt_succ l n i h, hw]; rfl
def RecordsPost (d p : ByteArray) (n : Int) (w : World) (e : Ending) (w' : World) : Prop :=
  ∃ (g c : Nat), e = .returned (.tuple #[.slice (some ⟨g, 0, none⟩) (allF (d.data.toList ++ p.data.toList)).length c, .bool (validI d.data.toList p.data.toList n)]) ∧
    w'.ownsRow w.heap.size 27 2 (.slice (some ⟨g, 0, none⟩) (allF (d.data.toList ++ p.data.toList)).length c) (allF (d.data.toList ++ p.data.toList)).length (recV (allF (d.data.toList ++ p.data.toList))) ∧ Below w.heap.size w w'
theorem validI_eq (d p : ByteArray) (n : Int) : validI d.data.toList p.data.toList n = (wholeAt (endsF 0 0 (allF (d.data.toList ++ p.data.toList))) ((d.size : Int) + (p.size : Int)) (allF (d.data.toList ++ p.data.toList)).length &&
    wholeAt (endsF 0 0 (allF (d.data.toList ++ p.data.toList))) d.size (allF (d.data.toList ++ p.data.toList)).length && (n == ((allF (d.data.toList ++ p.data.toList)).length : Int))) := by
  have e : (d.size : Int) + (p.size : Int) = ((d.data.toList ++ p.data.toList).length : Nat) := by rw [List.length_append, ← size_list, ← size_list]; omega
  unfold wholeAt validI
  rw [e, endAt_all _ _ _ (by rw [endsF_len]; exact Nat.le_refl _), endAt_all _ _ _ (by rw [endsF_len]; exact Nat.le_refl _), beq_int]
  have h1 : ∀ l : List UInt8, l.isEmpty = ((l.length : Int) == 0) := by intro l; cases l <;> simp; omega
  rw [h1, h1]; rfl
theorem own_lower {w : World} {base b : Nat} {e : TypeId} {size : Nat} {v : Value} {n : Nat} {xs : List Value} (h : w.ownsRow base e size v n xs) (hb : b ≤ base) : w.ownsRow b e size v n xs := by
  refine ⟨h.1, ?_⟩
  rcases h.2 with h2 | ⟨g, cap, cur, hv, hg, h3⟩
  · exact .inl h2
  · exact .inr ⟨g, cap, cur, hv, Nat.le_trans hb hg, h3⟩
set_option maxRecDepth 100000 in
set_option maxHeartbeats 1600000 in
theorem records_any (d p : ByteArray) (n : Int) (w : World) (hE : Env w) (hs : d.size + p.size ≤ 1000000000) :
    Calls Tryd.prog 50 #[.agg #[.string d, .string p, .int .i64 n]] w (RecordsPost d p n w) := by
  have HE := Lib.hid hE
  have HZ := Lib.hid (show (d ++ p).size < 4294967281 by rw [bytes_append']; show (_ ++ _ : List UInt8).length < _; rw [List.length_append, ← size_list, ← size_list]; omega)
  have h32 : ¬ 9223372036854775807 < d.size + p.size := by omega
  have h60 := all_60 (d.data.toList ++ p.data.toList)
  have HDP := Lib.hid (show (d ++ p).data.toList = d.data.toList ++ p.data.toList by simp)
  clear hE
  go_enter Tryd.func50, Tryd.ntmps50
  go_wp2_with (go_at_call 48; refine (readRecords_any _ _ (HE.out.below (by (repeat (first | exact Below.refl _ _ | assumption | refine Below.al ?_ _ | refine Below.sc ?_ (by first | exact Nat.le_refl _ | (simp; done) | (simp; omega)) _ | refine Below.dr ?_ | refine Below.drN ?_ _ | refine Below.step ?_ (by assumption))))) HZ.out).mono ?_; unfold ReadPost; rw [HDP.out]; rintro e w1 ⟨g, c, g', c', rfl, ho1, ho2, hb1⟩; have ⟨cw1, fw1⟩ := bcell hb1; have qw1 := hb1.size; (try simp at qw1); have zw1w := bsz (show w.heap.size < w1.heap.size by omega); have HO1 := Lib.hid ho1; have HO2 := Lib.hid ho2; clear ho1 ho2)
  obtain ⟨C, HC0⟩ := class_of (InF w1.heap.size _ [(⟨w.heap.size, 0, none⟩, .string d), (⟨w.heap.size, 1, none⟩, .string p), (⟨w.heap.size, 2, none⟩, .int .i64 n)] [] [])
  have HC := Lib.hid HC0
  clear HC0
  refine wp_region_flow (C := C) (by kernel_rfl) (by kernel_rfl) (fun L hL => (HC.out _ _).2 (InF.start (by first | (intro _ hs; cases hs; done) | (simp only [List.forall_mem_cons]; go_simp)) (by first | (intro _ hs; cases hs; done) | (simp only [List.forall_mem_cons]; go_simp)) (by first | (intro _ hs; cases hs; done) | (simp only [List.forall_mem_cons]; go_simp)) (by first | (intro _ hs; cases hs; done) | (simp only [List.forall_mem_cons]; go_simp)) L hL)) ?_
  repeat (first | (apply flow_free rfl; (intro L w' hun hrd hC; have hC := (HC.out _ _).1 hC; have hb' := hC.below; (try have hw' : Below w.heap.size w w' := by first | exact Below.trans (by (repeat (first | exact Below.refl _ _ | assumption | refine Below.al ?_ _ | refine Below.sc ?_ (by first | exact Nat.le_refl _ | (simp; done) | (simp; omega)) _ | refine Below.dr ?_ | refine Below.drN ?_ _ | refine Below.step ?_ (by assumption)))) hb' | ((repeat (first | exact Below.refl _ _ | assumption | refine Below.al ?_ _ | refine Below.sc ?_ (by first | exact Nat.le_refl _ | (simp; done) | (simp; omega)) _ | refine Below.dr ?_ | refine Below.drN ?_ _ | refine Below.step ?_ (by assumption))); done)); have hf' := hC.cell; (try simp only [List.forall_mem_cons] at hf'); go_simp; first | exact ⟨(HC.out _ _).2 (hC.skip _ (by rfl)), rfl⟩ | (rw [if_neg]; (exact ⟨(HC.out _ _).2 (hC.skip _ (by rfl)), rfl⟩); omega) | fail); go_simp) | (apply flow_yes; (case hw => go_simp); (intro L w' hun hrd hC; have hC := (HC.out _ _).1 hC; have hb' := hC.below; (try have hw' : Below w.heap.size w w' := by first | exact Below.trans (by (repeat (first | exact Below.refl _ _ | assumption | refine Below.al ?_ _ | refine Below.sc ?_ (by first | exact Nat.le_refl _ | (simp; done) | (simp; omega)) _ | refine Below.dr ?_ | refine Below.drN ?_ _ | refine Below.step ?_ (by assumption)))) hb' | ((repeat (first | exact Below.refl _ _ | assumption | refine Below.al ?_ _ | refine Below.sc ?_ (by first | exact Nat.le_refl _ | (simp; done) | (simp; omega)) _ | refine Below.dr ?_ | refine Below.drN ?_ _ | refine Below.step ?_ (by assumption))); done)); have hf' := hC.cell; (try simp only [List.forall_mem_cons] at hf'); go_simp; first | exact ⟨(HC.out _ _).2 (hC.skip _ (by rfl)), rfl⟩ | (rw [if_neg]; (exact ⟨(HC.out _ _).2 (hC.skip _ (by rfl)), rfl⟩); omega) | fail); go_simp) | (apply flow_no; (case hw => go_simp); (intro L w' _ _ hC; exact (HC.out _ _).2 (((HC.out _ _).1 hC).skip _ (by rfl))); go_simp))
  refine flow_nil ?_
  intro L wz hL hz
  have hz := (HC.out _ _).1 hz
  have hbz := hz.below
  have hcz := hz.cell
  try simp only [List.forall_mem_cons] at hcz
  have hdz := hz.done
  try simp only [List.forall_mem_cons] at hdz
  (try have hwz : Below w.heap.size w wz := by first | exact Below.trans (by (repeat (first | exact Below.refl _ _ | assumption | refine Below.al ?_ _ | refine Below.sc ?_ (by first | exact Nat.le_refl _ | (simp; done) | (simp; omega)) _ | refine Below.dr ?_ | refine Below.drN ?_ _ | refine Below.step ?_ (by assumption)))) hbz | ((repeat (first | exact Below.refl _ _ | assumption | refine Below.al ?_ _ | refine Below.sc ?_ (by first | exact Nat.le_refl _ | (simp; done) | (simp; omega)) _ | refine Below.dr ?_ | refine Below.drN ?_ _ | refine Below.step ?_ (by assumption))); done))
  have HP1 := Lib.hid (own_below HO1.out hbz)
  have HP2 := Lib.hid (own_below HO2.out hbz)
  have hbw : Below w.heap.size w wz := by (repeat (first | exact Below.refl _ _ | assumption | refine Below.al ?_ _ | refine Below.sc ?_ (by first | exact Nat.le_refl _ | (simp; done) | (simp; omega)) _ | refine Below.dr ?_ | refine Below.drN ?_ _ | refine Below.step ?_ (by assumption)))
  have HAT := Lib.hid (fun (j : Nat) (hj : j < (allF (d.data.toList ++ p.data.toList)).length) => ends_at HP2.out hj)
  have HW := Lib.hid (endsF_len (allF (d.data.toList ++ p.data.toList)) 0 0)
  have HV := Lib.hid (validI_eq d p n)
  clear HO1 HO2
  go_wp2
  rw [show ((d.size : Int) + (p.size : Int) == 0) = wholeAt (endsF 0 0 (allF (d.data.toList ++ p.data.toList))) ((d.size : Int) + (p.size : Int)) 0 by simp [wholeAt, endAt], show ((d.size : Int) == 0) = wholeAt (endsF 0 0 (allF (d.data.toList ++ p.data.toList))) (d.size : Int) 0 by simp [wholeAt, endAt]]
  generalize hN : (allF (d.data.toList ++ p.data.toList)).length = N at *
  generalize hL : endsF 0 0 (allF (d.data.toList ++ p.data.toList)) = l at *
  go_loop [7, 8, 30] (fun x y i => ∃ k : Nat, k ≤ N ∧ i = .int .i64 k ∧ x = .bool (wholeAt l ((d.size : Int) + (p.size : Int)) k) ∧ y = .bool (wholeAt l (d.size : Int) k)) (fun _ _ i => N - (intOf i).toNat)
  case atStart => exact ⟨0, Nat.zero_le _, rfl, rfl, rfl⟩
  case round =>
    obtain ⟨k, hk, rfl, rfl, rfl⟩ := hrel
    by_cases hlt : k < N
    · have hcell := HAT.out k hlt
      have hlk : k < l.length := by rw [HW.out]; exact hlt
      obtain ⟨x, hx⟩ : ∃ x, l.getD k 0 = x := ⟨_, rfl⟩
      rw [hx] at hcell
      have key : ∀ (m : Int) (b : Bool), wholeAt l m k = b → wholeAt l m (k + 1) = (if b = true then true else (((x : Nat) : Int) == m)) := by
        rw [← hx]
        intro m b hb; cases b
        · rw [if_neg (by simp)]; exact whole_no hlk hb
        · rw [if_pos rfl]; exact whole_yes hlk hb
      have KEY := Lib.hid key
      clear key hx
      cases hX : wholeAt l ((d.size : Int) + (p.size : Int)) k
      all_goals cases hY : wholeAt l (d.size : Int) k
      all_goals
        have HX := Lib.hid hX
        have HY := Lib.hid hY
        clear hX hY
        go_wp2
        go_light
        refine ⟨⟨k + 1, by omega, by go_num, ?_, ?_⟩, by simp [intOf]; omega⟩
        · rw [KEY.out _ _ HX.out]; rfl
        · rw [KEY.out _ _ HY.out]; rfl
    · have hkN : k = N := by omega
      subst hkN
      cases hX : wholeAt l ((d.size : Int) + (p.size : Int)) k
      all_goals cases hY : wholeAt l (d.size : Int) k
      all_goals
        have HX := Lib.hid hX
        have HY := Lib.hid hY
        clear hX hY
        go_wp2
        obtain ⟨C, HC0⟩ := class_of (InF wz.heap.size _ [(⟨w.heap.size, 0, none⟩, .string d), (⟨w.heap.size, 1, none⟩, .string p), (⟨w.heap.size, 2, none⟩, .int .i64 n)] [] [])
        have HC := Lib.hid HC0
        clear HC0
        refine wp_region_flow (C := C) (by kernel_rfl) (by kernel_rfl) (fun L hL => (HC.out _ _).2 (InF.start (by first | (intro _ hs; cases hs; done) | (simp only [List.forall_mem_cons]; go_simp)) (by first | (intro _ hs; cases hs; done) | (simp only [List.forall_mem_cons]; go_simp)) (by first | (intro _ hs; cases hs; done) | (simp only [List.forall_mem_cons]; go_simp)) (by first | (intro _ hs; cases hs; done) | (simp only [List.forall_mem_cons]; go_simp)) L hL)) ?_
        repeat (first | (apply flow_free rfl; (intro L w' hun hrd hC; have hC := (HC.out _ _).1 hC; have hb' := hC.below; (try have hw' : Below w.heap.size w w' := by first | exact Below.trans (by (repeat (first | exact Below.refl _ _ | assumption | refine Below.al ?_ _ | refine Below.sc ?_ (by first | exact Nat.le_refl _ | (simp; done) | (simp; omega)) _ | refine Below.dr ?_ | refine Below.drN ?_ _ | refine Below.step ?_ (by assumption)))) hb' | ((repeat (first | exact Below.refl _ _ | assumption | refine Below.al ?_ _ | refine Below.sc ?_ (by first | exact Nat.le_refl _ | (simp; done) | (simp; omega)) _ | refine Below.dr ?_ | refine Below.drN ?_ _ | refine Below.step ?_ (by assumption))); done)); have hf' := hC.cell; (try simp only [List.forall_mem_cons] at hf'); go_simp; first | exact ⟨(HC.out _ _).2 (hC.skip _ (by rfl)), rfl⟩ | (rw [if_neg]; (exact ⟨(HC.out _ _).2 (hC.skip _ (by rfl)), rfl⟩); omega) | fail); go_simp) | (apply flow_yes; (case hw => go_simp); (intro L w' hun hrd hC; have hC := (HC.out _ _).1 hC; have hb' := hC.below; (try have hw' : Below w.heap.size w w' := by first | exact Below.trans (by (repeat (first | exact Below.refl _ _ | assumption | refine Below.al ?_ _ | refine Below.sc ?_ (by first | exact Nat.le_refl _ | (simp; done) | (simp; omega)) _ | refine Below.dr ?_ | refine Below.drN ?_ _ | refine Below.step ?_ (by assumption)))) hb' | ((repeat (first | exact Below.refl _ _ | assumption | refine Below.al ?_ _ | refine Below.sc ?_ (by first | exact Nat.le_refl _ | (simp; done) | (simp; omega)) _ | refine Below.dr ?_ | refine Below.drN ?_ _ | refine Below.step ?_ (by assumption))); done)); have hf' := hC.cell; (try simp only [List.forall_mem_cons] at hf'); go_simp; first | exact ⟨(HC.out _ _).2 (hC.skip _ (by rfl)), rfl⟩ | (rw [if_neg]; (exact ⟨(HC.out _ _).2 (hC.skip _ (by rfl)), rfl⟩); omega) | fail); go_simp) | (apply flow_no; (case hw => go_simp); (intro L w' _ _ hC; exact (HC.out _ _).2 (((HC.out _ _).1 hC).skip _ (by rfl))); go_simp))
        refine flow_nil ?_
        intro L wz hL hz
        have hz := (HC.out _ _).1 hz
        have hbz := hz.below
        have hcz := hz.cell
        try simp only [List.forall_mem_cons] at hcz
        have hdz := hz.done
        try simp only [List.forall_mem_cons] at hdz
        (try have hwz : Below w.heap.size w wz := by first | exact Below.trans (by (repeat (first | exact Below.refl _ _ | assumption | refine Below.al ?_ _ | refine Below.sc ?_ (by first | exact Nat.le_refl _ | (simp; done) | (simp; omega)) _ | refine Below.dr ?_ | refine Below.drN ?_ _ | refine Below.step ?_ (by assumption)))) hbz | ((repeat (first | exact Below.refl _ _ | assumption | refine Below.al ?_ _ | refine Below.sc ?_ (by first | exact Nat.le_refl _ | (simp; done) | (simp; omega)) _ | refine Below.dr ?_ | refine Below.drN ?_ _ | refine Below.step ?_ (by assumption))); done))
        go_wp2
        have hr := HP1.out
        unfold RecordsPost
        rw [HV.out, HX.out, HY.out, hN]
        refine bodyPost_ret (v := _) (by simp only [results, Tryd.results50]; go_simp) rfl ⟨g, c, rfl, own_lower (own_below hr (by (repeat (first | exact Below.refl _ _ | assumption | refine Below.al ?_ _ | refine Below.sc ?_ (by first | exact Nat.le_refl _ | (simp; done) | (simp; omega)) _ | refine Below.dr ?_ | refine Below.drN ?_ _ | refine Below.step ?_ (by assumption))))) (by simp), by (repeat (first | exact Below.refl _ _ | assumption | refine Below.al ?_ _ | refine Below.sc ?_ (by first | exact Nat.le_refl _ | (simp; done) | (simp; omega)) _ | refine Below.dr ?_ | refine Below.drN ?_ _ | refine Below.step ?_ (by assumption)))⟩
end Go.Proofs.YtofamefmodmekaaDoor
