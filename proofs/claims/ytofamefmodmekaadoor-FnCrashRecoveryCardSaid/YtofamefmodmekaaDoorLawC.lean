/- The law 'FnCrashRecovery': recovery after a crash returns the durable records and some of the pending ones. Conditions: the package tables lie as they were laid. -/
import Derived.Test.YtofamefmodmekaaDoorLawN
import Derived.Test.YtofamefmodmekaaDoorLogC
namespace Go.Proofs.YtofamefmodmekaaDoor
open Go.RowKit
/-- What both crashes answer, and what is read of it. -/
theorem crash_some (d p : ByteArray) (n k : Int) (t : Bool) (hs : d.size + p.size ≤ 5000) : ∃ (s : ByteArray) (ok : Bool),
    ((ok = false ∧ s = ⟨#[]⟩) ∨ (ok = true ∧ validS d.data.toList p.data.toList n = true ∧ s.size ≤ 30000 ∧ ∃ i, i ≤ (allF (d.data.toList ++ p.data.toList)).length ∧ allF s.data.toList = (allF (d.data.toList ++ p.data.toList)).take i ∧ d.size ≤ lenR 0 (allF s.data.toList))) ∧
    (∀ w, Env w → Calls Tryd.prog 25 #[.agg #[.string d, .string p, .int .i64 n], .int .i64 k, .bool t] w fun e w' => e = .returned (.tuple #[.string s, .bool ok]) ∧ Below w.heap.size w w') ∧
    (∀ w, Calls Tryd.prog 24 #[.agg #[.string d, .string p, .int .i64 n], .int .i64 k, .bool t] w fun e w' => e = .returned (.tuple #[.string s, .bool ok]) ∧ Below w.heap.size w w') := by
  have hd : d.size ≤ maxLen := by unfold maxLen; omega
  have hp : p.size ≤ maxLen := by unfold maxLen; omega
  have hz : d.size + p.size ≤ 1000000000 := by omega
  cases hv : validS d.data.toList p.data.toList n && inB k 0 p.size
  · exact ⟨_, _, .inl ⟨rfl, rfl⟩, fun w hE => implCrash_no d p n k t w hE hp hz hv, fun w => specCrash_no d p n k t w hd hp hz hv⟩
  · have hv2 : validS d.data.toList p.data.toList n = true ∧ inB k 0 p.size = true := by simpa using hv
    have hk : 0 ≤ k ∧ k ≤ p.size := by simpa [inB] using hv2.2
    obtain ⟨j, rfl⟩ := Int.eq_ofNat_of_zero_le hk.1
    have hj : j ≤ p.size := by omega
    have hpe : (p.extract 0 j).data.toList = p.data.toList.take j := by rw [extract_list, List.drop_zero]
    cases ht : (t && decide (0 < j))
    · refine ⟨_, _, .inr ⟨rfl, hv2.1, ?_, ?_⟩, fun w hE => implCrash_keep d p n j w hE hz hv2.1 hj t ht, fun w => specCrash_keep d p n j w hd hp hz hv2.1 hj t ht⟩
      · rw [ByteArray.size_append]; simp only [size_list, hpe, List.length_take] at hs ⊢; omega
      · have h := crash_all hv2.1 j (by rw [← size_list]; exact hj) t (p.data.toList.take j) (by rw [ht]; rfl)
        rw [show (d ++ p.extract 0 j).data.toList = d.data.toList ++ p.data.toList.take j by rw [← hpe]; simp]
        obtain ⟨i, h1, h2, h3⟩ := h
        exact ⟨i, h1, h2, h3⟩
    · have ht2 : t = true ∧ 0 < j := by simpa using ht
      obtain ⟨m, rfl⟩ : ∃ m, j = m + 1 := ⟨j - 1, by omega⟩
      obtain ⟨rfl, -⟩ := ht2
      have hle : (p.data.toList.take (m + 1)).length = m + 1 := by rw [List.length_take, ← size_list]; omega
      have hto : (p.extract 0 (m + 1)).data.toList.set m (255 - (p.extract 0 (m + 1)).data.toList.getD m 0) = tornF (p.data.toList.take (m + 1)) := by
        rw [hpe, tornF, hle, Nat.add_sub_cancel]
      refine ⟨_, _, .inr ⟨rfl, hv2.1, ?_, ?_⟩, fun w hE => implCrash_turn d p n m w hE hz hv2.1 hj, fun w => specCrash_turn d p n m w hd hp hz hv2.1 hj⟩
      · rw [ByteArray.size_append, hto]; show d.size + (tornF (p.data.toList.take (m + 1))).length ≤ 30000
        rw [tornF, List.length_set, hle]; omega
      · have h := crash_all hv2.1 (m + 1) (by rw [← size_list]; exact hj) true (tornF (p.data.toList.take (m + 1))) (by simp)
        rw [hto, show (d ++ (⟨(tornF (p.data.toList.take (m + 1))).toArray⟩ : ByteArray)).data.toList = d.data.toList ++ tornF (p.data.toList.take (m + 1)) by simp]
        obtain ⟨i, h1, h2, h3⟩ := h
        exact ⟨i, h1, h2, h3⟩
set_option maxRecDepth 100000 in
set_option maxHeartbeats 3200000 in
theorem fnCrash_small (pp : Option Addr) (nn cc : Nat) (w : World) (hE : Env w) (h : CodeIn w (.slice pp nn cc)) (hn : nn ≤ 65536) :
    Calls Tryd.prog 12 #[.slice pp nn cc] w fun e w' => e = .returned (.bool true) ∧ Below w.heap.size w w' := by
  have HE := Lib.hid hE
  have H := Lib.hid h
  have hnn : ¬ (65536 : Int) < (nn : Int) := by omega
  clear hE h
  go_enter Tryd.func12, Tryd.ntmps12
  go_wp2_with fail
  refine (vBig_any _ _ _ _).mono ?_
  rintro e w' ⟨rfl, rfl⟩
  go_wp2_with fail
  refine (drawCrash_any pp nn cc _ H.out).mono ?_
  rintro e w1 ⟨d, p, n, k, t, rfl, hs, hn, hk, hb1⟩
  have ⟨cw1, fw1⟩ := bcell hb1
  have qw1 := hb1.size
  (try simp at qw1)
  (try have zw1w := bsz (show w.heap.size < w1.heap.size by omega))
  obtain ⟨s, ok, hcase, hI, hS⟩ := crash_some d p n k t hs
  have HI := Lib.hid hI
  have HS := Lib.hid hS
  clear hI hS
  go_wp2_with fail
  refine (HI.out _ (HE.out.below (by (repeat (first | exact Below.refl _ _ | assumption | refine Below.al ?_ _ | refine Below.sc ?_ (by first | exact Nat.le_refl _ | (simp; done) | (simp; omega)) _ | refine Below.dr ?_ | refine Below.drN ?_ _ | refine Below.step ?_ (by assumption)))))).mono ?_
  rintro e w2 ⟨rfl, hb2⟩
  have ⟨cw2, fw2⟩ := bcell hb2
  have qw2 := hb2.size
  (try simp at qw2)
  (try have zw2w := bsz (show w.heap.size < w2.heap.size by omega))
  (try have zw2w1 := bsz (show w1.heap.size < w2.heap.size by omega))
  go_wp2_with fail
  refine (HS.out _).mono ?_
  rintro e w3 ⟨rfl, hb3⟩
  have ⟨cw3, fw3⟩ := bcell hb3
  have qw3 := hb3.size
  (try simp at qw3)
  (try have zw3w := bsz (show w.heap.size < w3.heap.size by omega))
  (try have zw3w1 := bsz (show w1.heap.size < w3.heap.size by omega))
  (try have zw3w2 := bsz (show w2.heap.size < w3.heap.size by omega))
  rcases hcase with ⟨rfl, rfl⟩ | ⟨rfl, hv, hsz, i, hi, hall, hdl⟩
  · go_wp2
    go_ret
    exact ⟨rfl, by (repeat (first | exact Below.refl _ _ | assumption | refine Below.al ?_ _ | refine Below.sc ?_ (by first | exact Nat.le_refl _ | (simp; done) | (simp; omega)) _ | refine Below.dr ?_ | refine Below.drN ?_ _ | refine Below.step ?_ (by assumption)))⟩
  · obtain ⟨ps, hps⟩ : ∃ ps, allF (d.data.toList ++ p.data.toList) = ps := ⟨_, rfl⟩
    obtain ⟨qs, hqs⟩ : ∃ qs, allF s.data.toList = qs := ⟨_, rfl⟩
    obtain ⟨L, hL⟩ : ∃ L, lenR 0 qs = L := ⟨_, rfl⟩
    have hrec := recovered s.data.toList
    have hle := lenR_all s
    rw [hps] at hi hall
    rw [hqs] at hall hdl hrec hle
    rw [hL] at hdl hrec hle
    have hql : qs.length ≤ ps.length := by rw [hall, List.length_take]; omega
    have h60 : ps.length ≤ 60 := by rw [← hps]; exact all_60 _
    have HGET := Lib.hid (fun (j : Nat) (h1 : j < qs.length) (h2 : j < ps.length) => (show qs[j] = ps[j] by subst hall; exact List.getElem_take))
    have he : (s.extract 0 L).data.toList = s.data.toList.take L := by rw [extract_list, List.drop_zero]
    rw [← he] at hrec
    have HV := Lib.hid hrec.1
    have HR := Lib.hid (fun (w : World) (hE : Env w) => (by have h := implRecover_any s w hE hsz; rw [hqs, hL] at h; exact h : Calls Tryd.prog 18 #[.string s] w fun e w' => e = .returned (.tuple #[.agg #[.string (s.extract 0 L), .string ⟨#[]⟩, .int .i64 (qs.length : Nat)], .int .i64 (L : Nat), .bool true]) ∧ Below w.heap.size w w'))
    have HA := Lib.hid (fun (w : World) (hE : Env w) => (by have h := implRecs_yes (s.extract 0 L) ⟨#[]⟩ (qs.length : Int) w hE hrec.1; rw [show allF ((s.extract 0 L).data.toList ++ (⟨#[]⟩ : ByteArray).data.toList) = qs from hrec.2] at h; exact h : Calls Tryd.prog 31 #[.agg #[.string (s.extract 0 L), .string ⟨#[]⟩, .int .i64 (qs.length : Nat)]] w (RecsPost qs w)))
    have HO := Lib.hid (fun (w : World) => (by have h := specRecs_yes d p n w (by unfold maxLen; omega) (by unfold maxLen; omega) hv; rw [hps] at h; exact h : Calls Tryd.prog 30 #[.agg #[.string d, .string p, .int .i64 n]] w (RecsPost ps w)))
    have HSZ := Lib.hid (show (s.extract 0 L).size + (⟨#[]⟩ : ByteArray).size ≤ 1000000000 by rw [size_list, he, List.length_take]; show _ + 0 ≤ _; omega)
    have hc1 : ¬ (s.size : Int) < (L : Int) := by omega
    have hc2 : ¬ (L : Int) < (d.size : Int) := by omega
    have hc3 : ¬ (ps.length : Int) < (qs.length : Int) := by omega
    have hd1 : decide ((s.size : Int) < (L : Int)) = false := by simpa using hc1
    have hd2 : decide ((L : Int) < (d.size : Int)) = false := by simpa using hc2
    have hd3 : decide ((ps.length : Int) < (qs.length : Int)) = false := by simpa using hc3
    have hd4 : decide (s.size < L) = false := by simp; omega
    have hd5 : decide (L < d.size) = false := by simp; omega
    have hd6 : decide (ps.length < qs.length) = false := by simp; omega
    have hLi : (L : Int) ≤ (s.size : Int) := by omega
    clear hrec he hall hqs hps hL hdl hi hsz HI HS
    go_wp2_with fail
    refine (HR.out _ (HE.out.below (by (repeat (first | exact Below.refl _ _ | assumption | refine Below.al ?_ _ | refine Below.sc ?_ (by first | exact Nat.le_refl _ | (simp; done) | (simp; omega)) _ | refine Below.dr ?_ | refine Below.drN ?_ _ | refine Below.step ?_ (by assumption)))))).mono ?_
    rintro e w4 ⟨rfl, hb4⟩
    have ⟨cw4, fw4⟩ := bcell hb4
    have qw4 := hb4.size
    (try simp at qw4)
    (try have zw4w := bsz (show w.heap.size < w4.heap.size by omega))
    (try have zw4w1 := bsz (show w1.heap.size < w4.heap.size by omega))
    (try have zw4w2 := bsz (show w2.heap.size < w4.heap.size by omega))
    (try have zw4w3 := bsz (show w3.heap.size < w4.heap.size by omega))
    go_wp2_with fail
    refine (HA.out _ (HE.out.below (by (repeat (first | exact Below.refl _ _ | assumption | refine Below.al ?_ _ | refine Below.sc ?_ (by first | exact Nat.le_refl _ | (simp; done) | (simp; omega)) _ | refine Below.dr ?_ | refine Below.drN ?_ _ | refine Below.step ?_ (by assumption)))))).mono ?_
    rintro e w5 ⟨g5, c5, rfl, ho5, hb5⟩
    have ⟨cw5, fw5⟩ := bcell hb5
    have qw5 := hb5.size
    (try simp at qw5)
    (try have zw5w := bsz (show w.heap.size < w5.heap.size by omega))
    (try have zw5w1 := bsz (show w1.heap.size < w5.heap.size by omega))
    (try have zw5w2 := bsz (show w2.heap.size < w5.heap.size by omega))
    (try have zw5w3 := bsz (show w3.heap.size < w5.heap.size by omega))
    (try have zw5w4 := bsz (show w4.heap.size < w5.heap.size by omega))
    have HO5 := Lib.hid ho5
    clear ho5
    go_wp2_with fail
    refine (HO.out _).mono ?_
    rintro e w6 ⟨g6, c6, rfl, ho6, hb6⟩
    have ⟨cw6, fw6⟩ := bcell hb6
    have qw6 := hb6.size
    (try simp at qw6)
    (try have zw6w := bsz (show w.heap.size < w6.heap.size by omega))
    (try have zw6w1 := bsz (show w1.heap.size < w6.heap.size by omega))
    (try have zw6w2 := bsz (show w2.heap.size < w6.heap.size by omega))
    (try have zw6w3 := bsz (show w3.heap.size < w6.heap.size by omega))
    (try have zw6w4 := bsz (show w4.heap.size < w6.heap.size by omega))
    (try have zw6w5 := bsz (show w5.heap.size < w6.heap.size by omega))
    have HO6 := Lib.hid ho6
    clear ho6
    have h56 : Below w5.heap.size w5 w6 := hb6
    have hw6 : Below w.heap.size w w6 := by (repeat (first | exact Below.refl _ _ | assumption | refine Below.al ?_ _ | refine Below.sc ?_ (by first | exact Nat.le_refl _ | (simp; done) | (simp; omega)) _ | refine Below.dr ?_ | refine Below.drN ?_ _ | refine Below.step ?_ (by assumption)))
    have HR5 := Lib.hid (own_below HO5.out h56)
    have HR6 := Lib.hid HO6.out
    go_wp2
    have HVL := Lib.hid (fun (w : World) (hE : Env w) => (by
      have h := implIsValidLog_any (s.extract 0 L) ⟨#[]⟩ (qs.length : Int) w hE HSZ.out
      rw [show validS (s.extract 0 L).data.toList (⟨#[]⟩ : ByteArray).data.toList (qs.length : Int) = true from HV.out] at h
      exact h : Calls Tryd.prog 23 #[.agg #[.string (s.extract 0 L), .string ⟨#[]⟩, .int .i64 (qs.length : Nat)]] w fun e w' => e = .returned (.bool true) ∧ Below w.heap.size w w'))
    have m0 : w6.cell? ⟨w4.heap.size, 0, none⟩ = some (.string (s.extract 0 L)) ∧ w6.cell? ⟨w4.heap.size, 1, none⟩ = some (.string ⟨#[]⟩) ∧ w6.cell? ⟨w4.heap.size, 2, none⟩ = some (.int .i64 (qs.length : Nat)) := by go_simp
    have hz46 : w4.heap.size < w6.heap.size := by omega
    clear HR HA HO
    go_loopw [17] (fun i wr => ∃ k : Nat, k ≤ qs.length ∧ i = .int .i64 k ∧ Below w6.heap.size w6 wr) (fun i _ => qs.length - (intOf i).toNat)
    case atStart => exact ⟨0, Nat.zero_le _, rfl, Below.refl _ _⟩
    case round =>
      obtain ⟨k, hk, rfl, hb⟩ := hrel
      have HB := Lib.hid hb
      clear hb1 hb2 hb3 hb4 hb5 hb6 h56 cw1 cw2 cw3 cw4 cw5 cw6 fw1 fw2 fw3 fw4 fw5 fw6
      by_cases hlt : k < qs.length
      · have hlt2 : k < ps.length := by omega
        have hc1 := recs_at (own_below HR5.out HB.out) hlt
        have hc2 := recs_at (own_below HR6.out HB.out) hlt2
        rw [HGET.out k hlt hlt2] at hc1
        obtain ⟨rr, hr⟩ : ∃ rr, ps[k] = rr := ⟨_, rfl⟩
        rw [hr] at hc1 hc2
        clear hr
        obtain ⟨hc1a, hc1b⟩ := hc1
        obtain ⟨hc2a, hc2b⟩ := hc2
        go_wp2
        obtain ⟨C, HC0⟩ := class_of (InF wr.heap.size _ [(⟨g5, k * 2, none⟩, .string ⟨rr.1.toArray⟩), (⟨g5, k * 2 + 1, none⟩, .string ⟨rr.2.toArray⟩), (⟨g6, k * 2, none⟩, .string ⟨rr.1.toArray⟩), (⟨g6, k * 2 + 1, none⟩, .string ⟨rr.2.toArray⟩)] [] [])
        have HC := Lib.hid HC0
        clear HC0
        refine wp_region_flow (C := C) (by kernel_rfl) (by kernel_rfl) (fun L hL => (HC.out _ _).2 (InF.start (by first | (intro _ hs; cases hs; done) | (simp only [List.forall_mem_cons]; go_simp)) (by first | (intro _ hs; cases hs; done) | (simp only [List.forall_mem_cons]; go_simp)) (by first | (intro _ hs; cases hs; done) | (simp only [List.forall_mem_cons]; go_simp)) (by first | (intro _ hs; cases hs; done) | (simp only [List.forall_mem_cons]; go_simp)) L hL)) ?_
        repeat (first | (apply flow_free rfl; (intro L w' hun hrd hC; have hC := (HC.out _ _).1 hC; have hb' := hC.below; (try have hw' : Below w.heap.size w w' := by first | exact Below.trans (by (repeat (first | exact Below.refl _ _ | assumption | refine Below.al ?_ _ | refine Below.sc ?_ (by first | exact Nat.le_refl _ | (simp; done) | (simp; omega)) _ | refine Below.dr ?_ | refine Below.drN ?_ _ | refine Below.step ?_ (by assumption)))) hb' | ((repeat (first | exact Below.refl _ _ | assumption | refine Below.al ?_ _ | refine Below.sc ?_ (by first | exact Nat.le_refl _ | (simp; done) | (simp; omega)) _ | refine Below.dr ?_ | refine Below.drN ?_ _ | refine Below.step ?_ (by assumption))); done)); have hf' := hC.cell; (try simp only [List.forall_mem_cons] at hf'); go_simp; first | exact ⟨(HC.out _ _).2 (hC.skip _ (by rfl)), rfl⟩ | (rw [if_neg]; (exact ⟨(HC.out _ _).2 (hC.skip _ (by rfl)), rfl⟩); omega) | fail); go_simp) | (apply flow_yes; (case hw => go_simp); (intro L w' hun hrd hC; have hC := (HC.out _ _).1 hC; have hb' := hC.below; (try have hw' : Below w.heap.size w w' := by first | exact Below.trans (by (repeat (first | exact Below.refl _ _ | assumption | refine Below.al ?_ _ | refine Below.sc ?_ (by first | exact Nat.le_refl _ | (simp; done) | (simp; omega)) _ | refine Below.dr ?_ | refine Below.drN ?_ _ | refine Below.step ?_ (by assumption)))) hb' | ((repeat (first | exact Below.refl _ _ | assumption | refine Below.al ?_ _ | refine Below.sc ?_ (by first | exact Nat.le_refl _ | (simp; done) | (simp; omega)) _ | refine Below.dr ?_ | refine Below.drN ?_ _ | refine Below.step ?_ (by assumption))); done)); have hf' := hC.cell; (try simp only [List.forall_mem_cons] at hf'); go_simp; first | exact ⟨(HC.out _ _).2 (hC.skip _ (by rfl)), rfl⟩ | (rw [if_neg]; (exact ⟨(HC.out _ _).2 (hC.skip _ (by rfl)), rfl⟩); omega) | fail); go_simp) | (apply flow_no; (case hw => go_simp); (intro L w' _ _ hC; exact (HC.out _ _).2 (((HC.out _ _).1 hC).skip _ (by rfl))); go_simp))
        refine flow_nil ?_
        intro L wz hL hz
        have hz := (HC.out _ _).1 hz
        have hbz := hz.below
        have hcz := hz.cell
        try simp only [List.forall_mem_cons] at hcz
        have hdz := hz.done
        try simp only [List.forall_mem_cons] at hdz
        (try have hwz : Below w.heap.size w wz := by first | exact Below.trans (by (repeat (first | exact Below.refl _ _ | assumption | refine Below.al ?_ _ | refine Below.sc ?_ (by first | exact Nat.le_refl _ | (simp; done) | (simp; omega)) _ | refine Below.dr ?_ | refine Below.drN ?_ _ | refine Below.step ?_ (by assumption)))) hbz | ((repeat (first | exact Below.refl _ _ | assumption | refine Below.al ?_ _ | refine Below.sc ?_ (by first | exact Nat.le_refl _ | (simp; done) | (simp; omega)) _ | refine Below.dr ?_ | refine Below.drN ?_ _ | refine Below.step ?_ (by assumption))); done))
        go_wp2
        refine ⟨⟨k + 1, by omega, by go_num, Below.step HB.out hbz⟩, by simp [intOf]; omega⟩
      · obtain rfl : k = qs.length := by omega
        have ⟨cr, fr⟩ := bcell HB.out
        have hwr := Below.step hw6 HB.out
        have hwrz := hwr.size
        obtain ⟨m0, m1, m2⟩ := m0
        have sw6_0 := bsz (show w4.heap.size < w6.heap.size by omega)
        go_wp2
        obtain ⟨C, HC0⟩ := class_of (InF w.heap.size _ [(⟨w4.heap.size, 0, none⟩, .string (s.extract 0 L)), (⟨w4.heap.size, 1, none⟩, .string ⟨#[]⟩), (⟨w4.heap.size, 2, none⟩, .int .i64 (qs.length : Nat))] [] [])
        have HC := Lib.hid HC0
        clear HC0
        refine wp_region_flow (C := C) (by kernel_rfl) (by kernel_rfl) (fun L hL => (HC.out _ _).2 (InF.start (by first | (intro _ hs; cases hs; done) | (simp only [List.forall_mem_cons]; go_simp)) (by first | (intro _ hs; cases hs; done) | (simp only [List.forall_mem_cons]; go_simp)) (by first | (intro _ hs; cases hs; done) | (simp only [List.forall_mem_cons]; go_simp)) (by first | (intro _ hs; cases hs; done) | (simp only [List.forall_mem_cons]; go_simp)) L hL)) ?_
        repeat (first | (apply flow_free rfl; (intro L w' hun hrd hC; have hC := (HC.out _ _).1 hC; have hb' := hC.below; (try have hw' : Below w.heap.size w w' := by first | exact Below.trans (by (repeat (first | exact Below.refl _ _ | assumption | refine Below.al ?_ _ | refine Below.sc ?_ (by first | exact Nat.le_refl _ | (simp; done) | (simp; omega)) _ | refine Below.dr ?_ | refine Below.drN ?_ _ | refine Below.step ?_ (by assumption)))) hb' | ((repeat (first | exact Below.refl _ _ | assumption | refine Below.al ?_ _ | refine Below.sc ?_ (by first | exact Nat.le_refl _ | (simp; done) | (simp; omega)) _ | refine Below.dr ?_ | refine Below.drN ?_ _ | refine Below.step ?_ (by assumption))); done)); have hf' := hC.cell; (try simp only [List.forall_mem_cons] at hf'); go_simp; first | exact ⟨(HC.out _ _).2 (hC.skip _ (by rfl)), rfl⟩ | (rw [if_neg]; (exact ⟨(HC.out _ _).2 (hC.skip _ (by rfl)), rfl⟩); omega) | (go_at_call 23; refine (HVL.out _ (HE.out.below hw')).mono ?_; rintro e w1 ⟨rfl, hb1⟩; exact ⟨rfl, (HC.out _ _).2 ((hC.next (by first | (simp; done) | (simp; omega) | omega) hb1).skip _ (by rfl))⟩)); go_simp) | (apply flow_yes; (case hw => go_simp); (intro L w' hun hrd hC; have hC := (HC.out _ _).1 hC; have hb' := hC.below; (try have hw' : Below w.heap.size w w' := by first | exact Below.trans (by (repeat (first | exact Below.refl _ _ | assumption | refine Below.al ?_ _ | refine Below.sc ?_ (by first | exact Nat.le_refl _ | (simp; done) | (simp; omega)) _ | refine Below.dr ?_ | refine Below.drN ?_ _ | refine Below.step ?_ (by assumption)))) hb' | ((repeat (first | exact Below.refl _ _ | assumption | refine Below.al ?_ _ | refine Below.sc ?_ (by first | exact Nat.le_refl _ | (simp; done) | (simp; omega)) _ | refine Below.dr ?_ | refine Below.drN ?_ _ | refine Below.step ?_ (by assumption))); done)); have hf' := hC.cell; (try simp only [List.forall_mem_cons] at hf'); go_simp; first | exact ⟨(HC.out _ _).2 (hC.skip _ (by rfl)), rfl⟩ | (rw [if_neg]; (exact ⟨(HC.out _ _).2 (hC.skip _ (by rfl)), rfl⟩); omega) | (go_at_call 23; refine (HVL.out _ (HE.out.below hw')).mono ?_; rintro e w1 ⟨rfl, hb1⟩; exact ⟨rfl, (HC.out _ _).2 ((hC.next (by first | (simp; done) | (simp; omega) | omega) hb1).skip _ (by rfl))⟩)); go_simp) | (apply flow_no; (case hw => go_simp); (intro L w' _ _ hC; exact (HC.out _ _).2 (((HC.out _ _).1 hC).skip _ (by rfl))); go_simp))
        refine flow_nil ?_
        intro L wz hL hz
        have hz := (HC.out _ _).1 hz
        have hbz := hz.below
        have hcz := hz.cell
        try simp only [List.forall_mem_cons] at hcz
        have hdz := hz.done
        try simp only [List.forall_mem_cons] at hdz
        (try have hwz : Below w.heap.size w wz := by first | exact Below.trans (by (repeat (first | exact Below.refl _ _ | assumption | refine Below.al ?_ _ | refine Below.sc ?_ (by first | exact Nat.le_refl _ | (simp; done) | (simp; omega)) _ | refine Below.dr ?_ | refine Below.drN ?_ _ | refine Below.step ?_ (by assumption)))) hbz | ((repeat (first | exact Below.refl _ _ | assumption | refine Below.al ?_ _ | refine Below.sc ?_ (by first | exact Nat.le_refl _ | (simp; done) | (simp; omega)) _ | refine Below.dr ?_ | refine Below.drN ?_ _ | refine Below.step ?_ (by assumption))); done))
        go_wp2
        go_ret
        exact ⟨rfl, hwz⟩
theorem fnCrash (pp : Option Addr) (nn cc : Nat) (w : World) (hE : Env w) (h : nn ≤ 1000000 → CodeIn w (.slice pp nn cc)) :
    Calls Tryd.prog 12 #[.slice pp nn cc] w fun e w' => e = .returned (.bool true) ∧ Below w.heap.size w w' := by
  by_cases hn : nn ≤ 65536
  · exact fnCrash_small pp nn cc w hE (h (by omega)) hn
  · have hnn : (65536 : Int) < (nn : Int) := by omega
    go_enter Tryd.func12, Tryd.ntmps12
    go_wp2_with fail
    refine (vBig_any _ _ _ _).mono ?_
    rintro e w' ⟨rfl, rfl⟩
    go_wp2
    go_ret
    exact ⟨rfl, Below.refl _ _⟩
end Go.Proofs.YtofamefmodmekaaDoor
