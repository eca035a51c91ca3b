/- The law 'FnLog': an appended record follows the others, and recovery returns the synchronized log. Conditions: the package tables lie as they were laid. -/
import Derived.Test.YtofamefmodmekaaDoorCur6
import Derived.Test.YtofamefmodmekaaDoorLogP
import Derived.Test.YtofamefmodmekaaDoorLogQ
namespace Go.Proofs.YtofamefmodmekaaDoor
open Go.RowKit
theorem vBig_any (pp : Option Addr) (nn cc : Nat) (w : World) : Calls Tryd.prog 35 #[.slice pp nn cc] w fun e w' => e = .returned (.bool (decide ((65536 : Int) < (nn : Int)))) ∧ w = w' := by
  go_enter Tryd.func35, Tryd.ntmps35
  go_wp2
  go_ret
  exact ⟨rfl, rfl⟩
/-- What both appends answer. -/
def AppCase (d p c r : ByteArray) (n : Int) (d' p' : ByteArray) (n' x : Int) : Prop :=
  (x = 0 ∧ validS d.data.toList p.data.toList n = true ∧ goodB c.data.toList r.data.toList = true ∧ n ≠ 60 ∧ d' = d ∧ p' = p ++ ⟨(encF n c.data.toList r.data.toList).toArray⟩ ∧ n' = n + 1) ∨ (x ≠ 0 ∧ d' = d ∧ p' = p ∧ n' = n)
theorem app_same (d p c r : ByteArray) (n : Int) (hs : d.size + p.size ≤ 50000) (hc : c.size ≤ 20) (hr : r.size ≤ 20) :
    ∃ (d' p' : ByteArray) (n' x : Int), AppCase d p c r n d' p' n' x ∧
      (∀ w, Env w → Calls Tryd.prog 29 #[.agg #[.string d, .string p, .int .i64 n], .agg #[.string c, .string r]] w fun e w' => e = .returned (.tuple #[.agg #[.string d', .string p', .int .i64 n'], .int .i64 x]) ∧ Below w.heap.size w w') ∧
      (∀ w, Calls Tryd.prog 28 #[.agg #[.string d, .string p, .int .i64 n], .agg #[.string c, .string r]] w fun e w' => e = .returned (.tuple #[.agg #[.string d', .string p', .int .i64 n'], .int .i64 x]) ∧ Below w.heap.size w w') := by
  have hm : ∀ a : ByteArray, a.size ≤ 100000000 → a.size ≤ maxLen := by intro a ha; unfold maxLen; omega
  cases hv : validS d.data.toList p.data.toList n && goodB c.data.toList r.data.toList
  · exact ⟨_, _, _, _, .inr ⟨by decide, rfl, rfl, rfl⟩, fun w hE => implAppend_no d p c r n w hE (hm _ (by omega)) (hm _ (by omega)) (by omega) (hm _ (by omega)) (hm _ (by omega)) hv, fun w => specAppend_no d p c r n w (hm _ (by omega)) (hm _ (by omega)) (by omega) (hm _ (by omega)) (hm _ (by omega)) hv⟩
  · have hv2 : validS d.data.toList p.data.toList n = true ∧ goodB c.data.toList r.data.toList = true := by simpa using hv
    by_cases h60 : n = 60
    · exact ⟨_, _, _, _, .inr ⟨by decide, rfl, rfl, rfl⟩, fun w hE => implAppend_full d p c r n w hE (hm _ (by omega)) (hm _ (by omega)) (by omega) (hm _ (by omega)) (hm _ (by omega)) hv2.1 hv2.2 h60, fun w => specAppend_full d p c r n w (hm _ (by omega)) (hm _ (by omega)) (by omega) (hm _ (by omega)) (hm _ (by omega)) hv2.1 hv2.2 h60⟩
    · exact ⟨_, _, _, _, .inl ⟨rfl, hv2.1, hv2.2, h60, rfl, rfl, rfl⟩, fun w hE => implAppend_yes d p c r n w hE (hm _ (by omega)) (hm _ (by omega)) (by omega) (hm _ (by omega)) (hm _ (by omega)) hv2.1 hv2.2 h60, fun w => specAppend_yes d p c r n w (hm _ (by omega)) (hm _ (by omega)) (by omega) (hm _ (by omega)) (hm _ (by omega)) hv2.1 hv2.2 h60⟩
set_option maxRecDepth 100000 in
set_option maxHeartbeats 3200000 in
theorem fnLog_small (pp : Option Addr) (nn cc : Nat) (w : World) (hE : Env w) (h : CodeIn w (.slice pp nn cc)) (hn : nn ≤ 65536) :
    Calls Tryd.prog 10 #[.slice pp nn cc] w fun e w' => e = .returned (.bool true) ∧ Below w.heap.size w w' := by
  have HE := Lib.hid hE
  have H := Lib.hid h
  have hnn : ¬ (65536 : Int) < (nn : Int) := by omega
  clear hE h
  go_enter Tryd.func10, Tryd.ntmps10
  go_wp2_with fail
  refine (vBig_any _ _ _ _).mono ?_
  rintro e w' ⟨rfl, rfl⟩
  go_wp2_with fail
  refine (drawAppend_any pp nn cc _ H.out).mono ?_
  rintro e w1 ⟨d, p, n, c, r, rfl, hs, hn, hc, hr, hb1⟩
  have ⟨cw1, fw1⟩ := bcell hb1
  have qw1 := hb1.size
  (try simp at qw1)
  (try have zw1w := bsz (show w.heap.size < w1.heap.size by omega))
  obtain ⟨d', p', n', x, hcase, hI, hS⟩ := app_same d p c r n hs hc hr
  have HI := Lib.hid hI
  have HS := Lib.hid hS
  clear hI hS
  go_wp2_with fail
  refine (HI.out _ (HE.out.below (by (repeat (first | exact Below.refl _ _ | assumption | refine Below.al ?_ _ | refine Below.sc ?_ (by first | exact Nat.le_refl _ | (simp; done) | (simp; omega)) _ | refine Below.dr ?_ | refine Below.drN ?_ _ | refine Below.step ?_ (by assumption)))))).mono ?_
  rintro e w2 ⟨rfl, hb2⟩
  have ⟨cw2, fw2⟩ := bcell hb2
  have qw2 := hb2.size
  (try simp at qw2)
  (try have zw2w := bsz (show w.heap.size < w2.heap.size by omega))
  (try have zw2w1 := bsz (show w1.heap.size < w2.heap.size by omega))
  have y2 := bsz (show w1.heap.size + 1 < w2.heap.size by omega)
  go_wp2_with fail
  refine (HS.out _).mono ?_
  rintro e w3 ⟨rfl, hb3⟩
  have ⟨cw3, fw3⟩ := bcell hb3
  have qw3 := hb3.size
  (try simp at qw3)
  (try have zw3w := bsz (show w.heap.size < w3.heap.size by omega))
  (try have zw3w1 := bsz (show w1.heap.size < w3.heap.size by omega))
  (try have zw3w2 := bsz (show w2.heap.size < w3.heap.size by omega))
  have y3 := bsz (show w1.heap.size + 1 < w3.heap.size by omega)
  have HM : Hid ((d.size ≤ maxLen ∧ p.size ≤ maxLen ∧ c.size ≤ maxLen ∧ r.size ≤ maxLen) ∧ d.size + p.size ≤ 1000000000) := Lib.hid ⟨⟨by unfold maxLen; omega, by unfold maxLen; omega, by unfold maxLen; omega, by unfold maxLen; omega⟩, by omega⟩
  go_wp2
  obtain ⟨C, HC0⟩ := class_of (InF w.heap.size _ [(⟨w1.heap.size, 0, none⟩, .string d), (⟨w1.heap.size, 1, none⟩, .string p), (⟨w1.heap.size, 2, none⟩, .int .i64 n), (⟨w1.heap.size + 1, 0, none⟩, .string c), (⟨w1.heap.size + 1, 1, none⟩, .string r), (⟨w2.heap.size, 0, none⟩, .string d'), (⟨w2.heap.size, 1, none⟩, .string p'), (⟨w2.heap.size, 2, none⟩, .int .i64 n'), (⟨w3.heap.size, 0, none⟩, .string d'), (⟨w3.heap.size, 1, none⟩, .string p'), (⟨w3.heap.size, 2, none⟩, .int .i64 n')] [] [])
  have HC := Lib.hid HC0
  clear HC0
  refine wp_region_flow (C := C) (by kernel_rfl) (by kernel_rfl) (fun L hL => (HC.out _ _).2 (InF.start (by first | (intro _ hs; cases hs; done) | (simp only [List.forall_mem_cons]; go_simp)) (by first | (intro _ hs; cases hs; done) | (simp only [List.forall_mem_cons]; go_simp)) (by first | (intro _ hs; cases hs; done) | (simp only [List.forall_mem_cons]; go_simp)) (by first | (intro _ hs; cases hs; done) | (simp only [List.forall_mem_cons]; go_simp)) L hL)) ?_
  repeat (first | (apply flow_free rfl; (intro L w' hun hrd hC; have hC := (HC.out _ _).1 hC; have hb' := hC.below; (try have hw' : Below w.heap.size w w' := by first | exact Below.trans (by (repeat (first | exact Below.refl _ _ | assumption | refine Below.al ?_ _ | refine Below.sc ?_ (by first | exact Nat.le_refl _ | (simp; done) | (simp; omega)) _ | refine Below.dr ?_ | refine Below.drN ?_ _ | refine Below.step ?_ (by assumption)))) hb' | ((repeat (first | exact Below.refl _ _ | assumption | refine Below.al ?_ _ | refine Below.sc ?_ (by first | exact Nat.le_refl _ | (simp; done) | (simp; omega)) _ | refine Below.dr ?_ | refine Below.drN ?_ _ | refine Below.step ?_ (by assumption))); done)); have hf' := hC.cell; (try simp only [List.forall_mem_cons] at hf'); go_simp; first | exact ⟨(HC.out _ _).2 (hC.skip _ (by rfl)), rfl⟩ | (rw [if_neg]; (exact ⟨(HC.out _ _).2 (hC.skip _ (by rfl)), rfl⟩); omega) | (go_at_call 23; refine (implIsValidLog_any d p n _ (HE.out.below hw') HM.out.2).mono ?_; rintro e w1 ⟨rfl, hb1⟩; exact ⟨rfl, (HC.out _ _).2 ((hC.next (by first | (simp; done) | (simp; omega) | omega) hb1).skip _ (by rfl))⟩) | (go_at_call 21; refine (specIsValidLog_any d p n _ HM.out.1.1 HM.out.1.2.1 HM.out.2).mono ?_; rintro e w1 ⟨rfl, hb1⟩; exact ⟨rfl, (HC.out _ _).2 ((hC.next (by first | (simp; done) | (simp; omega) | omega) hb1).skip _ (by rfl))⟩) | (go_at_call 37; refine (isValidRecord_any c r _ HM.out.1.2.2.1 HM.out.1.2.2.2).mono ?_; rintro e w1 ⟨rfl, hb1⟩; exact ⟨rfl, (HC.out _ _).2 ((hC.next (by first | (simp; done) | (simp; omega) | omega) hb1).skip _ (by rfl))⟩) | (go_at_call 38; refine (specIsValidRecord_any c r _ HM.out.1.2.2.1 HM.out.1.2.2.2).mono ?_; rintro e w1 ⟨rfl, hb1⟩; exact ⟨rfl, (HC.out _ _).2 ((hC.next (by first | (simp; done) | (simp; omega) | omega) hb1).skip _ (by rfl))⟩)); go_simp) | (apply flow_yes; (case hw => go_simp); (intro L w' hun hrd hC; have hC := (HC.out _ _).1 hC; have hb' := hC.below; (try have hw' : Below w.heap.size w w' := by first | exact Below.trans (by (repeat (first | exact Below.refl _ _ | assumption | refine Below.al ?_ _ | refine Below.sc ?_ (by first | exact Nat.le_refl _ | (simp; done) | (simp; omega)) _ | refine Below.dr ?_ | refine Below.drN ?_ _ | refine Below.step ?_ (by assumption)))) hb' | ((repeat (first | exact Below.refl _ _ | assumption | refine Below.al ?_ _ | refine Below.sc ?_ (by first | exact Nat.le_refl _ | (simp; done) | (simp; omega)) _ | refine Below.dr ?_ | refine Below.drN ?_ _ | refine Below.step ?_ (by assumption))); done)); have hf' := hC.cell; (try simp only [List.forall_mem_cons] at hf'); go_simp; first | exact ⟨(HC.out _ _).2 (hC.skip _ (by rfl)), rfl⟩ | (rw [if_neg]; (exact ⟨(HC.out _ _).2 (hC.skip _ (by rfl)), rfl⟩); omega) | (go_at_call 23; refine (implIsValidLog_any d p n _ (HE.out.below hw') HM.out.2).mono ?_; rintro e w1 ⟨rfl, hb1⟩; exact ⟨rfl, (HC.out _ _).2 ((hC.next (by first | (simp; done) | (simp; omega) | omega) hb1).skip _ (by rfl))⟩) | (go_at_call 21; refine (specIsValidLog_any d p n _ HM.out.1.1 HM.out.1.2.1 HM.out.2).mono ?_; rintro e w1 ⟨rfl, hb1⟩; exact ⟨rfl, (HC.out _ _).2 ((hC.next (by first | (simp; done) | (simp; omega) | omega) hb1).skip _ (by rfl))⟩) | (go_at_call 37; refine (isValidRecord_any c r _ HM.out.1.2.2.1 HM.out.1.2.2.2).mono ?_; rintro e w1 ⟨rfl, hb1⟩; exact ⟨rfl, (HC.out _ _).2 ((hC.next (by first | (simp; done) | (simp; omega) | omega) hb1).skip _ (by rfl))⟩) | (go_at_call 38; refine (specIsValidRecord_any c r _ HM.out.1.2.2.1 HM.out.1.2.2.2).mono ?_; rintro e w1 ⟨rfl, hb1⟩; exact ⟨rfl, (HC.out _ _).2 ((hC.next (by first | (simp; done) | (simp; omega) | omega) hb1).skip _ (by rfl))⟩)); go_simp) | (apply flow_no; (case hw => go_simp); (intro L w' _ _ hC; exact (HC.out _ _).2 (((HC.out _ _).1 hC).skip _ (by rfl))); go_simp))
  refine flow_nil ?_
  intro L wz hL hz
  have hz := (HC.out _ _).1 hz
  have hbz := hz.below
  have hcz := hz.cell
  try simp only [List.forall_mem_cons] at hcz
  have hdz := hz.done
  try simp only [List.forall_mem_cons] at hdz
  (try have hwz : Below w.heap.size w wz := by first | exact Below.trans (by (repeat (first | exact Below.refl _ _ | assumption | refine Below.al ?_ _ | refine Below.sc ?_ (by first | exact Nat.le_refl _ | (simp; done) | (simp; omega)) _ | refine Below.dr ?_ | refine Below.drN ?_ _ | refine Below.step ?_ (by assumption)))) hbz | ((repeat (first | exact Below.refl _ _ | assumption | refine Below.al ?_ _ | refine Below.sc ?_ (by first | exact Nat.le_refl _ | (simp; done) | (simp; omega)) _ | refine Below.dr ?_ | refine Below.drN ?_ _ | refine Below.step ?_ (by assumption))); done))
  clear HI HS
  rcases hcase with ⟨rfl, hv, hg, h60, rfl, rfl, rfl⟩ | ⟨hx, rfl, rfl, rfl⟩
  · have HV := Lib.hid (And.intro hv (And.intro hg h60))
    clear hv hg h60
    obtain ⟨ha, hva⟩ := append_all HV.out.1 HV.out.2.1 HV.out.2.2
    have hv := val_of HV.out.1
    have hl := hv.len
    have hall := hv.all
    clear hv
    obtain ⟨ps, hps⟩ : ∃ ps, allF (d'.data.toList ++ p.data.toList) = ps := ⟨_, rfl⟩
    rw [hps] at ha hl hall
    obtain rfl : n = (ps.length : Int) := hl
    obtain ⟨q, hq⟩ : ∃ q, p ++ (⟨(encF (ps.length : Int) c.data.toList r.data.toList).toArray⟩ : ByteArray) = q := ⟨_, rfl⟩
    have hql : q.data.toList = p.data.toList ++ encF (ps.length : Int) c.data.toList r.data.toList := by rw [← hq]; simp
    rw [← hql] at ha hva
    have HPS := Lib.hid hps
    have HA := Lib.hid ha
    have HVA := Lib.hid hva
    have HQ := Lib.hid hq
    have h60 := all_60 (d'.data.toList ++ q.data.toList)
    rw [ha, List.length_append, List.length_singleton] at h60
    have hsz := valid_size hva
    have hwl : lenR 0 (ps ++ [(c.data.toList, r.data.toList)]) = d'.size + q.size := by
      have h1 := (val_of hva).all
      rw [ha] at h1
      have h2 := congrArg List.length h1
      rw [encA_len, List.length_append] at h2; exact h2.symm
    have HWL := Lib.hid hwl
    clear hps ha hva hq hql hall hwl
    rw [HQ.out] at hcz ⊢
    obtain ⟨h00, h01, h02, h10, h11, h20, h21, h22, h30, h31, h32, -⟩ := hcz
    have hz3 : w3.heap.size < wz.heap.size := World.block_lt_of_cell? wz _ h30
    have hord : w.heap.size ≤ w1.heap.size ∧ w1.heap.size + 1 < w2.heap.size ∧ w2.heap.size < w3.heap.size := by omega
    clear hb1 hb2 hb3 cw1 cw2 cw3 fw1 fw2 fw3 qw1 qw2 qw3 zw2w zw2w1 zw3w zw3w1 zw3w2 y2 y3 h30 h31 h32 hbz hdz
    generalize w1.heap.size = a at *
    generalize w2.heap.size = b at *
    generalize w3.heap.size = u at *
    have swz_0 := bsz (show a < wz.heap.size by omega)
    have swz_1 := bsz (show a + 1 < wz.heap.size by omega)
    have swz_2 := bsz (show b < wz.heap.size by omega)
    clear hz HC
    have HR1 := Lib.hid (fun (w : World) (hE : Env w) => (by have h := implRecs_yes d' q ((ps.length : Int) + 1) w hE HVA.out; rw [HA.out] at h; exact h : Calls Tryd.prog 31 #[.agg #[.string d', .string q, .int .i64 ((ps.length : Int) + 1)]] w (RecsPost (ps ++ [(c.data.toList, r.data.toList)]) w)))
    have HR2 := Lib.hid (fun (w : World) (hE : Env w) => (by have h := implRecs_yes d' p (ps.length : Int) w hE HV.out.1; rw [HPS.out] at h; exact h : Calls Tryd.prog 31 #[.agg #[.string d', .string p, .int .i64 (ps.length : Int)]] w (RecsPost ps w)))
    have HSY := Lib.hid (fun (w : World) (hE : Env w) => (by have h := implSyncLog_any d' q ((ps.length : Int) + 1) w hE (by simp only [size_list]; omega); rw [if_pos HVA.out] at h; exact h : Calls Tryd.prog 27 #[.agg #[.string d', .string q, .int .i64 ((ps.length : Int) + 1)]] w fun e w' => e = .returned (.tuple #[.agg #[.string (d' ++ q), .string ⟨#[]⟩, .int .i64 ((ps.length : Int) + 1)], .bool true]) ∧ Below w.heap.size w w'))
    have hdq : (d' ++ q).data.toList = d'.data.toList ++ q.data.toList := by simp
    have HRE := Lib.hid (fun (w : World) (hE : Env w) => (by
      have h := implRecover_any (d' ++ q) w hE (by rw [size_list, hdq, List.length_append]; exact hsz)
      rw [hdq, HA.out, HWL.out, show (d' ++ q).extract 0 (d'.size + q.size) = d' ++ q by rw [← ByteArray.size_append]; exact ByteArray.extract_zero_size, List.length_append, List.length_singleton] at h
      exact h : Calls Tryd.prog 18 #[.string (d' ++ q)] w fun e w' => e = .returned (.tuple #[.agg #[.string (d' ++ q), .string ⟨#[]⟩, .int .i64 ((ps.length + 1 : Nat) : Int)], .int .i64 ((d'.size + q.size : Nat) : Int), .bool true]) ∧ Below w.heap.size w w'))
    clear hdq
    have hcat : ¬ 9223372036854775807 < d'.size + q.size := by simp only [size_list]; omega
    go_wp2_with fail
    refine (HR1.out _ (HE.out.below (by (repeat (first | exact Below.refl _ _ | assumption | refine Below.al ?_ _ | refine Below.sc ?_ (by first | exact Nat.le_refl _ | (simp; done) | (simp; omega)) _ | refine Below.dr ?_ | refine Below.drN ?_ _ | refine Below.step ?_ (by assumption)))))).mono ?_
    rintro e w4 ⟨g4, c4, rfl, ho4, hb4⟩
    have ⟨cw4, fw4⟩ := bcell hb4
    have qw4 := hb4.size
    (try simp at qw4)
    (try have zw4w := bsz (show w.heap.size < w4.heap.size by omega))
    (try have zw4wz := bsz (show wz.heap.size < w4.heap.size by omega))
    have HO4 := Lib.hid ho4
    clear ho4
    have sw4_0 := bsz (show a < w4.heap.size by omega)
    have sw4_1 := bsz (show a + 1 < w4.heap.size by omega)
    have sw4_2 := bsz (show b < w4.heap.size by omega)
    go_wp2_with fail
    refine (HR2.out _ (HE.out.below (by (repeat (first | exact Below.refl _ _ | assumption | refine Below.al ?_ _ | refine Below.sc ?_ (by first | exact Nat.le_refl _ | (simp; done) | (simp; omega)) _ | refine Below.dr ?_ | refine Below.drN ?_ _ | refine Below.step ?_ (by assumption)))))).mono ?_
    rintro e w5 ⟨g5, c5, rfl, ho5, hb5⟩
    have ⟨cw5, fw5⟩ := bcell hb5
    have qw5 := hb5.size
    (try simp at qw5)
    (try have zw5w := bsz (show w.heap.size < w5.heap.size by omega))
    (try have zw5wz := bsz (show wz.heap.size < w5.heap.size by omega))
    (try have zw5w4 := bsz (show w4.heap.size < w5.heap.size by omega))
    have HO5 := Lib.hid ho5
    clear ho5
    have sw5_0 := bsz (show a < w5.heap.size by omega)
    have sw5_1 := bsz (show a + 1 < w5.heap.size by omega)
    have sw5_2 := bsz (show b < w5.heap.size by omega)
    go_wp2_with fail
    refine (HRE.out _ (HE.out.below (by (repeat (first | exact Below.refl _ _ | assumption | refine Below.al ?_ _ | refine Below.sc ?_ (by first | exact Nat.le_refl _ | (simp; done) | (simp; omega)) _ | refine Below.dr ?_ | refine Below.drN ?_ _ | refine Below.step ?_ (by assumption)))))).mono ?_
    rintro e w6 ⟨rfl, hb6⟩
    have ⟨cw6, fw6⟩ := bcell hb6
    have qw6 := hb6.size
    (try simp at qw6)
    (try have zw6w := bsz (show w.heap.size < w6.heap.size by omega))
    (try have zw6wz := bsz (show wz.heap.size < w6.heap.size by omega))
    (try have zw6w4 := bsz (show w4.heap.size < w6.heap.size by omega))
    (try have zw6w5 := bsz (show w5.heap.size < w6.heap.size by omega))
    have sw6_0 := bsz (show a < w6.heap.size by omega)
    have sw6_1 := bsz (show a + 1 < w6.heap.size by omega)
    have sw6_2 := bsz (show b < w6.heap.size by omega)
    go_wp2_with fail
    refine (HSY.out _ (HE.out.below (by (repeat (first | exact Below.refl _ _ | assumption | refine Below.al ?_ _ | refine Below.sc ?_ (by first | exact Nat.le_refl _ | (simp; done) | (simp; omega)) _ | refine Below.dr ?_ | refine Below.drN ?_ _ | refine Below.step ?_ (by assumption)))))).mono ?_
    rintro e w7 ⟨rfl, hb7⟩
    have ⟨cw7, fw7⟩ := bcell hb7
    have qw7 := hb7.size
    (try simp at qw7)
    (try have zw7w := bsz (show w.heap.size < w7.heap.size by omega))
    (try have zw7wz := bsz (show wz.heap.size < w7.heap.size by omega))
    (try have zw7w4 := bsz (show w4.heap.size < w7.heap.size by omega))
    (try have zw7w5 := bsz (show w5.heap.size < w7.heap.size by omega))
    (try have zw7w6 := bsz (show w6.heap.size < w7.heap.size by omega))
    have sw7_0 := bsz (show a < w7.heap.size by omega)
    have sw7_1 := bsz (show a + 1 < w7.heap.size by omega)
    have sw7_2 := bsz (show b < w7.heap.size by omega)
    go_wp2
    have s67 := bsz (show w6.heap.size < w7.heap.size by omega)
    have hb6w : w6.heap.size < w7.heap.size := by omega
    obtain ⟨w8, hw8⟩ : ∃ w8, w8 = w7.alloc (.cells #[.string (d' ++ q), .string ⟨#[]⟩, .int .i64 ((ps.length : Int) + 1)] 31) := ⟨_, rfl⟩
    have k0 : w8.cell? ⟨a + 1, 0, none⟩ = some (.string c) ∧ w8.cell? ⟨a + 1, 1, none⟩ = some (.string r) ∧ w8.cell? ⟨b, 0, none⟩ = some (.string d') ∧ w8.cell? ⟨b, 1, none⟩ = some (.string q) ∧ w8.cell? ⟨b, 2, none⟩ = some (.int .i64 ((ps.length : Int) + 1)) ∧
        w8.cell? ⟨w6.heap.size, 0, none⟩ = some (.string (d' ++ q)) ∧ w8.cell? ⟨w6.heap.size, 1, none⟩ = some (.string ⟨#[]⟩) ∧ w8.cell? ⟨w6.heap.size, 2, none⟩ = some (.int .i64 ((ps.length : Int) + 1)) ∧
        w8.cell? ⟨w7.heap.size, 0, none⟩ = some (.string (d' ++ q)) ∧ w8.cell? ⟨w7.heap.size, 1, none⟩ = some (.string ⟨#[]⟩) ∧ w8.cell? ⟨w7.heap.size, 2, none⟩ = some (.int .i64 ((ps.length : Int) + 1)) := by
      rw [hw8]; go_simp
    have hb8 : Below w7.heap.size w7 w8 := by rw [hw8]; exact (Below.refl _ _).alloc (Nat.le_refl _) _
    have hz8 : w8.heap.size = w7.heap.size + 1 := by rw [hw8]; simp
    rw [← hw8]
    clear hw8 h00 h01 h02 h10 h11 h20 h21 h22
    have HK := Lib.hid k0
    clear k0
    have hw8 : Below w.heap.size w w8 := Below.step (show Below w.heap.size w w7 by (repeat (first | exact Below.refl _ _ | assumption | refine Below.al ?_ _ | refine Below.sc ?_ (by first | exact Nat.le_refl _ | (simp; done) | (simp; omega)) _ | refine Below.dr ?_ | refine Below.drN ?_ _ | refine Below.step ?_ (by assumption)))) hb8
    have h58 : Below w5.heap.size w5 w8 := Below.step (show Below w5.heap.size w5 w7 from Below.step ((Below.al hb6 _)) hb7) hb8
    have h48 : Below w4.heap.size w4 w8 := Below.step hb5 h58
    have HR4 := Lib.hid (own_below HO4.out h48)
    have HR5 := Lib.hid (own_below HO5.out h58)
    have hx7 : w7.heap.size < w8.heap.size := by omega
    go_loopw [18] (fun i wr => ∃ k : Nat, k ≤ ps.length ∧ i = .int .i64 k ∧ Below w8.heap.size w8 wr) (fun i _ => ps.length - (intOf i).toNat)
    case atStart => exact ⟨0, Nat.zero_le _, rfl, Below.refl _ _⟩
    case round =>
      obtain ⟨k, hk, rfl, hb⟩ := hrel
      have HB := Lib.hid hb
      clear hb4 hb5 hb6 hb7 hb8 h48 h58 cw4 cw5 cw6 cw7 fw4 fw5 fw6 fw7
      by_cases hlt : k < ps.length
      · have hlt1 : k < (ps ++ [(c.data.toList, r.data.toList)]).length := by simp; omega
        have hlt2 : (k : Int) < (ps.length : Int) + 1 := by omega
        have hc1 := recs_at (own_below HR4.out HB.out) hlt1
        have hc2 := recs_at (own_below HR5.out HB.out) hlt
        rw [List.getElem_append_left hlt] at hc1
        obtain ⟨rr, hr⟩ : ∃ rr, ps[k] = rr := ⟨_, rfl⟩
        rw [hr] at hc1 hc2
        clear hr
        obtain ⟨hc1a, hc1b⟩ := hc1
        obtain ⟨hc2a, hc2b⟩ := hc2
        go_wp2
        obtain ⟨C, HC0⟩ := class_of (InF wr.heap.size _ [(⟨g4, k * 2, none⟩, .string ⟨rr.1.toArray⟩), (⟨g4, k * 2 + 1, none⟩, .string ⟨rr.2.toArray⟩), (⟨g5, k * 2, none⟩, .string ⟨rr.1.toArray⟩), (⟨g5, k * 2 + 1, none⟩, .string ⟨rr.2.toArray⟩)] [] [])
        have HC := Lib.hid HC0
        clear HC0
        refine wp_region_flow (C := C) (by kernel_rfl) (by kernel_rfl) (fun L hL => (HC.out _ _).2 (InF.start (by first | (intro _ hs; cases hs; done) | (simp only [List.forall_mem_cons]; go_simp)) (by first | (intro _ hs; cases hs; done) | (simp only [List.forall_mem_cons]; go_simp)) (by first | (intro _ hs; cases hs; done) | (simp only [List.forall_mem_cons]; go_simp)) (by first | (intro _ hs; cases hs; done) | (simp only [List.forall_mem_cons]; go_simp)) L hL)) ?_
        repeat (first | (apply flow_free rfl; (intro L w' hun hrd hC; have hC := (HC.out _ _).1 hC; have hb' := hC.below; (try have hw' : Below w.heap.size w w' := by first | exact Below.trans (by (repeat (first | exact Below.refl _ _ | assumption | refine Below.al ?_ _ | refine Below.sc ?_ (by first | exact Nat.le_refl _ | (simp; done) | (simp; omega)) _ | refine Below.dr ?_ | refine Below.drN ?_ _ | refine Below.step ?_ (by assumption)))) hb' | ((repeat (first | exact Below.refl _ _ | assumption | refine Below.al ?_ _ | refine Below.sc ?_ (by first | exact Nat.le_refl _ | (simp; done) | (simp; omega)) _ | refine Below.dr ?_ | refine Below.drN ?_ _ | refine Below.step ?_ (by assumption))); done)); have hf' := hC.cell; (try simp only [List.forall_mem_cons] at hf'); go_simp; first | exact ⟨(HC.out _ _).2 (hC.skip _ (by rfl)), rfl⟩ | (rw [if_neg]; (exact ⟨(HC.out _ _).2 (hC.skip _ (by rfl)), rfl⟩); omega) | fail); go_simp) | (apply flow_yes; (case hw => go_simp); (intro L w' hun hrd hC; have hC := (HC.out _ _).1 hC; have hb' := hC.below; (try have hw' : Below w.heap.size w w' := by first | exact Below.trans (by (repeat (first | exact Below.refl _ _ | assumption | refine Below.al ?_ _ | refine Below.sc ?_ (by first | exact Nat.le_refl _ | (simp; done) | (simp; omega)) _ | refine Below.dr ?_ | refine Below.drN ?_ _ | refine Below.step ?_ (by assumption)))) hb' | ((repeat (first | exact Below.refl _ _ | assumption | refine Below.al ?_ _ | refine Below.sc ?_ (by first | exact Nat.le_refl _ | (simp; done) | (simp; omega)) _ | refine Below.dr ?_ | refine Below.drN ?_ _ | refine Below.step ?_ (by assumption))); done)); have hf' := hC.cell; (try simp only [List.forall_mem_cons] at hf'); go_simp; first | exact ⟨(HC.out _ _).2 (hC.skip _ (by rfl)), rfl⟩ | (rw [if_neg]; (exact ⟨(HC.out _ _).2 (hC.skip _ (by rfl)), rfl⟩); omega) | fail); go_simp) | (apply flow_no; (case hw => go_simp); (intro L w' _ _ hC; exact (HC.out _ _).2 (((HC.out _ _).1 hC).skip _ (by rfl))); go_simp))
        refine flow_nil ?_
        intro L wz hL hz
        have hz := (HC.out _ _).1 hz
        have hbz := hz.below
        have hcz := hz.cell
        try simp only [List.forall_mem_cons] at hcz
        have hdz := hz.done
        try simp only [List.forall_mem_cons] at hdz
        (try have hwz : Below w.heap.size w wz := by first | exact Below.trans (by (repeat (first | exact Below.refl _ _ | assumption | refine Below.al ?_ _ | refine Below.sc ?_ (by first | exact Nat.le_refl _ | (simp; done) | (simp; omega)) _ | refine Below.dr ?_ | refine Below.drN ?_ _ | refine Below.step ?_ (by assumption)))) hbz | ((repeat (first | exact Below.refl _ _ | assumption | refine Below.al ?_ _ | refine Below.sc ?_ (by first | exact Nat.le_refl _ | (simp; done) | (simp; omega)) _ | refine Below.dr ?_ | refine Below.drN ?_ _ | refine Below.step ?_ (by assumption))); done))
        go_wp2
        refine ⟨⟨k + 1, by omega, by go_num, Below.step HB.out hbz⟩, by simp [intOf]; omega⟩
      · obtain rfl : k = ps.length := by omega
        have hlt1 : ps.length < (ps ++ [(c.data.toList, r.data.toList)]).length := by simp
        have hlt2 : (ps.length : Int) < (ps.length : Int) + 1 := by omega
        have hc1 := recs_at (own_below HR4.out HB.out) hlt1
        rw [List.getElem_append_right (Nat.le_refl _)] at hc1
        simp only [Nat.sub_self, List.getElem_singleton] at hc1
        obtain ⟨hc1a, hc1b⟩ := hc1
        have ⟨cr, fr⟩ := bcell HB.out
        obtain ⟨k0, k1, k2, k3, k4, k5, k6, k7, k8, k9, k10⟩ := HK.out
        have sw8_0 := bsz (show a + 1 < w8.heap.size by omega)
        have sw8_1 := bsz (show b < w8.heap.size by omega)
        have sw8_2 := bsz (show w6.heap.size < w8.heap.size by omega)
        have sw8_3 := bsz (show w7.heap.size < w8.heap.size by omega)
        have hwr := Below.step hw8 HB.out
        have hwrz := hwr.size
        have H30 := Lib.hid (show d'.size + q.size ≤ 1000000000 by simp only [size_list]; omega)
        go_wp2
        obtain ⟨C, HC0⟩ := class_of (InF w.heap.size _ [(⟨g4, ps.length * 2, none⟩, .string ⟨c.data.toList.toArray⟩), (⟨g4, ps.length * 2 + 1, none⟩, .string ⟨r.data.toList.toArray⟩), (⟨a + 1, 0, none⟩, .string c), (⟨a + 1, 1, none⟩, .string r), (⟨b, 0, none⟩, .string d'), (⟨b, 1, none⟩, .string q), (⟨b, 2, none⟩, .int .i64 ((ps.length : Int) + 1)), (⟨w6.heap.size, 0, none⟩, .string (d' ++ q)), (⟨w6.heap.size, 1, none⟩, .string ⟨#[]⟩), (⟨w6.heap.size, 2, none⟩, .int .i64 ((ps.length : Int) + 1)), (⟨w7.heap.size, 0, none⟩, .string (d' ++ q)), (⟨w7.heap.size, 1, none⟩, .string ⟨#[]⟩), (⟨w7.heap.size, 2, none⟩, .int .i64 ((ps.length : Int) + 1))] [] [])
        have HC := Lib.hid HC0
        clear HC0
        refine wp_region_flow (C := C) (by kernel_rfl) (by kernel_rfl) (fun L hL => (HC.out _ _).2 (InF.start (by first | (intro _ hs; cases hs; done) | (simp only [List.forall_mem_cons]; go_simp)) (by first | (intro _ hs; cases hs; done) | (simp only [List.forall_mem_cons]; go_simp)) (by first | (intro _ hs; cases hs; done) | (simp only [List.forall_mem_cons]; go_simp)) (by first | (intro _ hs; cases hs; done) | (simp only [List.forall_mem_cons]; go_simp)) L hL)) ?_
        repeat (first | (apply flow_free rfl; (intro L w' hun hrd hC; have hC := (HC.out _ _).1 hC; have hb' := hC.below; (try have hw' : Below w.heap.size w w' := by first | exact Below.trans (by (repeat (first | exact Below.refl _ _ | assumption | refine Below.al ?_ _ | refine Below.sc ?_ (by first | exact Nat.le_refl _ | (simp; done) | (simp; omega)) _ | refine Below.dr ?_ | refine Below.drN ?_ _ | refine Below.step ?_ (by assumption)))) hb' | ((repeat (first | exact Below.refl _ _ | assumption | refine Below.al ?_ _ | refine Below.sc ?_ (by first | exact Nat.le_refl _ | (simp; done) | (simp; omega)) _ | refine Below.dr ?_ | refine Below.drN ?_ _ | refine Below.step ?_ (by assumption))); done)); have hf' := hC.cell; (try simp only [List.forall_mem_cons] at hf'); go_simp; first | exact ⟨(HC.out _ _).2 (hC.skip _ (by rfl)), rfl⟩ | (rw [if_neg]; (exact ⟨(HC.out _ _).2 (hC.skip _ (by rfl)), rfl⟩); omega) | (go_at_call 23; refine (implIsValidLog_any d' q ((ps.length : Int) + 1) _ (HE.out.below hw') H30.out).mono ?_; rintro e w1 ⟨rfl, hb1⟩; exact ⟨rfl, (HC.out _ _).2 ((hC.next (by first | (simp; done) | (simp; omega) | omega) hb1).skip _ (by rfl))⟩)); go_simp) | (apply flow_yes; (case hw => go_simp); (intro L w' hun hrd hC; have hC := (HC.out _ _).1 hC; have hb' := hC.below; (try have hw' : Below w.heap.size w w' := by first | exact Below.trans (by (repeat (first | exact Below.refl _ _ | assumption | refine Below.al ?_ _ | refine Below.sc ?_ (by first | exact Nat.le_refl _ | (simp; done) | (simp; omega)) _ | refine Below.dr ?_ | refine Below.drN ?_ _ | refine Below.step ?_ (by assumption)))) hb' | ((repeat (first | exact Below.refl _ _ | assumption | refine Below.al ?_ _ | refine Below.sc ?_ (by first | exact Nat.le_refl _ | (simp; done) | (simp; omega)) _ | refine Below.dr ?_ | refine Below.drN ?_ _ | refine Below.step ?_ (by assumption))); done)); have hf' := hC.cell; (try simp only [List.forall_mem_cons] at hf'); go_simp; first | exact ⟨(HC.out _ _).2 (hC.skip _ (by rfl)), rfl⟩ | (rw [if_neg]; (exact ⟨(HC.out _ _).2 (hC.skip _ (by rfl)), rfl⟩); omega) | (go_at_call 23; refine (implIsValidLog_any d' q ((ps.length : Int) + 1) _ (HE.out.below hw') H30.out).mono ?_; rintro e w1 ⟨rfl, hb1⟩; exact ⟨rfl, (HC.out _ _).2 ((hC.next (by first | (simp; done) | (simp; omega) | omega) hb1).skip _ (by rfl))⟩)); go_simp) | (apply flow_no; (case hw => go_simp); (intro L w' _ _ hC; exact (HC.out _ _).2 (((HC.out _ _).1 hC).skip _ (by rfl))); go_simp))
        refine flow_nil ?_
        intro L wz hL hz
        have hz := (HC.out _ _).1 hz
        have hbz := hz.below
        have hcz := hz.cell
        try simp only [List.forall_mem_cons] at hcz
        have hdz := hz.done
        try simp only [List.forall_mem_cons] at hdz
        (try have hwz : Below w.heap.size w wz := by first | exact Below.trans (by (repeat (first | exact Below.refl _ _ | assumption | refine Below.al ?_ _ | refine Below.sc ?_ (by first | exact Nat.le_refl _ | (simp; done) | (simp; omega)) _ | refine Below.dr ?_ | refine Below.drN ?_ _ | refine Below.step ?_ (by assumption)))) hbz | ((repeat (first | exact Below.refl _ _ | assumption | refine Below.al ?_ _ | refine Below.sc ?_ (by first | exact Nat.le_refl _ | (simp; done) | (simp; omega)) _ | refine Below.dr ?_ | refine Below.drN ?_ _ | refine Below.step ?_ (by assumption))); done))
        go_wp2
        go_ret
        exact ⟨ret_bool HVA.out, hwz⟩
  · have hx1 : (x != 0) = true := by simpa using hx
    go_wp2
    go_ret
    exact ⟨rfl, by (repeat (first | exact Below.refl _ _ | assumption | refine Below.al ?_ _ | refine Below.sc ?_ (by first | exact Nat.le_refl _ | (simp; done) | (simp; omega)) _ | refine Below.dr ?_ | refine Below.drN ?_ _ | refine Below.step ?_ (by assumption)))⟩
theorem fnLog (pp : Option Addr) (nn cc : Nat) (w : World) (hE : Env w) (h : nn ≤ 1000000 → CodeIn w (.slice pp nn cc)) :
    Calls Tryd.prog 10 #[.slice pp nn cc] w fun e w' => e = .returned (.bool true) ∧ Below w.heap.size w w' := by
  by_cases hn : nn ≤ 65536
  · exact fnLog_small pp nn cc w hE (h (by omega)) hn
  · have hnn : (65536 : Int) < (nn : Int) := by omega
    go_enter Tryd.func10, Tryd.ntmps10
    go_wp2_with fail
    refine (vBig_any _ _ _ _).mono ?_
    rintro e w' ⟨rfl, rfl⟩
    go_wp2
    go_ret
    exact ⟨rfl, Below.refl _ _⟩
end Go.Proofs.YtofamefmodmekaaDoor
