/- AppendRecord, both sides. Conditions: sizes; the package tables lie as they were laid. -/
import Derived.Test.YtofamefmodmekaaDoorLogE
namespace Go.Proofs.YtofamefmodmekaaDoor
open Go.RowKit
theorem getD_true {L : Array Bool} {i : Nat} (h : L.getD i false = true) : L.getD i true = true := by
  rcases Nat.lt_or_ge i L.size with h' | h'
  · simp [h'] at h ⊢; exact h
  · simp [Array.getElem?_eq_none h'] at h
theorem encF_len (k : Int) {c r : List UInt8} (hk : 0 ≤ k) (hk2 : k ≤ 9223372036854775807) (hg : goodB c r = true) : (encF k c r).length ≤ 404 := by
  have := seal_len k hk hk2 hg
  simp only [encF, List.length_append, List.length_cons, List.length_nil]; omega
theorem valid_n {d p : List UInt8} {n : Int} (h : validS d p n = true) : 0 ≤ n ∧ n ≤ 60 := by
  unfold validS at h
  simp only [Bool.and_eq_true, decide_eq_true_eq] at h
  have := all_60 (d ++ p)
  omega
set_option maxRecDepth 100000 in
set_option maxHeartbeats 1600000 in
theorem specAppend_yes (d p c r : ByteArray) (n : Int) (w : World) (hd : d.size ≤ maxLen) (hp : p.size ≤ maxLen) (hs : d.size + p.size ≤ 1000000000) (hc : c.size ≤ maxLen) (hr : r.size ≤ maxLen)
    (hv : validS d.data.toList p.data.toList n = true) (hg : goodB c.data.toList r.data.toList = true) (hn : n ≠ 60) :
    Calls Tryd.prog 28 #[.agg #[.string d, .string p, .int .i64 n], .agg #[.string c, .string r]] w fun e w' =>
      e = .returned (.tuple #[.agg #[.string d, .string (p ++ ⟨(encF n c.data.toList r.data.toList).toArray⟩), .int .i64 (n + 1)], .int .i64 0]) ∧ Below w.heap.size w w' := by
  have hnn := valid_n hv
  have HZ := Lib.hid (And.intro hd (And.intro hp (And.intro hs (And.intro hc hr))))
  have HLEN := Lib.hid (show c.size + r.size ≤ 1000000000 by have := good_parts hg; simp only [size_list]; omega)
  have hel := encF_len n hnn.1 (by omega) hg
  have hcat : ¬ 9223372036854775807 < p.size + (encF n c.data.toList r.data.toList).length := by omega
  have hn1 : n ≤ 9223372036854775807 := by omega
  have hn0 : 0 ≤ n := hnn.1
  have hn60 : (n == 60) = false := by simpa using hn
  clear hd hp hs hc hr hel
  go_enter Tryd.func28, Tryd.ntmps28
  go_wp2_with (first | ((go_at_call 49; refine (l28Log_any _ _ _ _ HZ.out.1 HZ.out.2.1 HZ.out.2.2.1).mono ?_; rintro e w1 ⟨rfl, hb1⟩; have ⟨cw1, fw1⟩ := bcell hb1; have qw1 := hb1.size; (try simp at qw1); (try have zw1w := bsz (show w.heap.size < w1.heap.size by omega))); (try have zz1 : w.heap.size + 1 < w1.heap.size := by omega); (try have zz2 : w.heap.size + 2 < w1.heap.size := by omega)) | (go_at_call 43; refine (l28Good_any _ _ _ HZ.out.2.2.2.1 HZ.out.2.2.2.2).mono ?_; rintro e w2 ⟨rfl, hb2⟩; have ⟨cw2, fw2⟩ := bcell hb2; have qw2 := hb2.size; (try simp at qw2); (try have zw2w := bsz (show w.heap.size < w2.heap.size by omega)); (try have zw2w1 := bsz (show w1.heap.size < w2.heap.size by omega))))
  obtain ⟨C, HC0⟩ := class_of (InF w.heap.size _ [(⟨w.heap.size, 0, none⟩, .string d), (⟨w.heap.size, 2, none⟩, .int .i64 n), (⟨w.heap.size + 1, 0, none⟩, .string c), (⟨w.heap.size + 1, 1, none⟩, .string r), (⟨w.heap.size + 2, 0, none⟩, .string ⟨#[]⟩), (⟨w.heap.size + 2, 1, none⟩, .string ⟨#[]⟩), (⟨w.heap.size + 2, 2, none⟩, .int .i64 0)] [(8, ⟨w.heap.size, 1, none⟩, .string (p ++ ⟨(encF n c.data.toList r.data.toList).toArray⟩)), (99, ⟨w.heap.size, 2, none⟩, .int .i64 n), (99, ⟨w.heap.size + 2, 0, none⟩, .int .i64 n), (99, ⟨w.heap.size + 2, 1, none⟩, .int .i64 n), (99, ⟨w.heap.size + 2, 2, none⟩, .int .i64 n)] [(1, ⟨w.heap.size, 1, none⟩, .string p)])
  have HC := Lib.hid HC0
  clear HC0
  refine wp_region_flow (C := C) (by kernel_rfl) (by kernel_rfl) (fun L hL => (HC.out _ _).2 (InF.start (by first | (intro _ hs; cases hs; done) | (simp only [List.forall_mem_cons]; go_simp)) (by first | (intro _ hs; cases hs; done) | (simp only [List.forall_mem_cons]; go_simp)) (by first | (intro _ hs; cases hs; done) | (simp only [List.forall_mem_cons]; go_simp)) (by first | (intro _ hs; cases hs; done) | (simp only [List.forall_mem_cons]; go_simp)) L hL)) ?_
  repeat (first | (apply flow_free rfl; (intro L w' hun hrd hC; have hC := (HC.out _ _).1 hC; have hb' := hC.below; (try have hw' : Below w.heap.size w w' := by first | exact Below.trans (by (repeat (first | exact Below.refl _ _ | assumption | refine Below.al ?_ _ | refine Below.sc ?_ (by first | exact Nat.le_refl _ | (simp; done) | (simp; omega)) _ | refine Below.dr ?_ | refine Below.drN ?_ _ | refine Below.step ?_ (by assumption)))) hb' | ((repeat (first | exact Below.refl _ _ | assumption | refine Below.al ?_ _ | refine Below.sc ?_ (by first | exact Nat.le_refl _ | (simp; done) | (simp; omega)) _ | refine Below.dr ?_ | refine Below.drN ?_ _ | refine Below.step ?_ (by assumption))); done)); have hf' := hC.cell; (try simp only [List.forall_mem_cons] at hf'); have ha' := hC.at_; simp only [List.forall_mem_cons] at ha'; obtain ⟨⟨x0, hx0⟩, ⟨x1, hx1⟩, ⟨x2, hx2⟩, ⟨x3, hx3⟩, ⟨x4, hx4⟩, -⟩ := ha'; have hfr' := hC.fro; simp only [List.forall_mem_cons] at hfr'; have ho' := hC.old; simp only [List.forall_mem_cons] at ho'; (try have ho0 := ho'.1 hun); (try (rw [ho0] at hx0; cases hx0)); (try (rw [ho0] at hx1; cases hx1)); (try (rw [ho0] at hx2; cases hx2)); (try (rw [ho0] at hx3; cases hx3)); (try (rw [ho0] at hx4; cases hx4)); go_simp; first | exact ⟨(HC.out _ _).2 (hC.skip _ (by rfl)), rfl⟩ | (rw [if_neg]; (exact ⟨(HC.out _ _).2 (hC.skip _ (by rfl)), rfl⟩); omega) | (go_at_call 44; refine (l28Line_any n c r _ hn0 hn1 HLEN.out).mono ?_; rintro e w1 ⟨rfl, hb1⟩; exact ⟨rfl, (HC.out _ _).2 ((hC.next (by first | (simp; done) | (simp; omega) | omega) hb1).skip _ (by rfl))⟩) | (exact ⟨(HC.out _ _).2 ((hC.store 8 ⟨w.heap.size, 1, none⟩ _ (Nat.le_refl _) rfl (by simp) (by simp) (by simp) (by intro q hq _; simp at hq; subst hq; exact getD_true (hrd ⟨1, .phase⟩ (by simp) rfl))).mark 8 (by simp; go_simp)), rfl⟩)); go_simp) | (apply flow_yes; (case hw => go_simp); (intro L w' hun hrd hC; have hC := (HC.out _ _).1 hC; have hb' := hC.below; (try have hw' : Below w.heap.size w w' := by first | exact Below.trans (by (repeat (first | exact Below.refl _ _ | assumption | refine Below.al ?_ _ | refine Below.sc ?_ (by first | exact Nat.le_refl _ | (simp; done) | (simp; omega)) _ | refine Below.dr ?_ | refine Below.drN ?_ _ | refine Below.step ?_ (by assumption)))) hb' | ((repeat (first | exact Below.refl _ _ | assumption | refine Below.al ?_ _ | refine Below.sc ?_ (by first | exact Nat.le_refl _ | (simp; done) | (simp; omega)) _ | refine Below.dr ?_ | refine Below.drN ?_ _ | refine Below.step ?_ (by assumption))); done)); have hf' := hC.cell; (try simp only [List.forall_mem_cons] at hf'); have ha' := hC.at_; simp only [List.forall_mem_cons] at ha'; obtain ⟨⟨x0, hx0⟩, ⟨x1, hx1⟩, ⟨x2, hx2⟩, ⟨x3, hx3⟩, ⟨x4, hx4⟩, -⟩ := ha'; have hfr' := hC.fro; simp only [List.forall_mem_cons] at hfr'; have ho' := hC.old; simp only [List.forall_mem_cons] at ho'; (try have ho0 := ho'.1 hun); (try (rw [ho0] at hx0; cases hx0)); (try (rw [ho0] at hx1; cases hx1)); (try (rw [ho0] at hx2; cases hx2)); (try (rw [ho0] at hx3; cases hx3)); (try (rw [ho0] at hx4; cases hx4)); go_simp; first | exact ⟨(HC.out _ _).2 (hC.skip _ (by rfl)), rfl⟩ | (rw [if_neg]; (exact ⟨(HC.out _ _).2 (hC.skip _ (by rfl)), rfl⟩); omega) | (go_at_call 44; refine (l28Line_any n c r _ hn0 hn1 HLEN.out).mono ?_; rintro e w1 ⟨rfl, hb1⟩; exact ⟨rfl, (HC.out _ _).2 ((hC.next (by first | (simp; done) | (simp; omega) | omega) hb1).skip _ (by rfl))⟩) | (exact ⟨(HC.out _ _).2 ((hC.store 8 ⟨w.heap.size, 1, none⟩ _ (Nat.le_refl _) rfl (by simp) (by simp) (by simp) (by intro q hq _; simp at hq; subst hq; exact getD_true (hrd ⟨1, .phase⟩ (by simp) rfl))).mark 8 (by simp; go_simp)), rfl⟩)); go_simp) | (apply flow_no; (case hw => go_simp); (intro L w' _ _ hC; exact (HC.out _ _).2 (((HC.out _ _).1 hC).skip _ (by rfl))); go_simp))
  refine flow_nil ?_
  intro L wz hL hz
  have hz := (HC.out _ _).1 hz
  have hbz := hz.below
  have hcz := hz.cell
  try simp only [List.forall_mem_cons] at hcz
  have hdz := hz.done
  try simp only [List.forall_mem_cons] at hdz
  have hfz := hz.fro
  simp only [List.forall_mem_cons] at hfz
  have hd0 := hdz.1 (by simpa using hL 8 (by simp))
  (try have hwz : Below w.heap.size w wz := by first | exact Below.trans (by (repeat (first | exact Below.refl _ _ | assumption | refine Below.al ?_ _ | refine Below.sc ?_ (by first | exact Nat.le_refl _ | (simp; done) | (simp; omega)) _ | refine Below.dr ?_ | refine Below.drN ?_ _ | refine Below.step ?_ (by assumption)))) hbz | ((repeat (first | exact Below.refl _ _ | assumption | refine Below.al ?_ _ | refine Below.sc ?_ (by first | exact Nat.le_refl _ | (simp; done) | (simp; omega)) _ | refine Below.dr ?_ | refine Below.drN ?_ _ | refine Below.step ?_ (by assumption))); done))
  go_wp2
  refine bodyPost_ret (v := .tuple #[.agg #[.string d, .string (p ++ ⟨(encF n c.data.toList r.data.toList).toArray⟩), .int .i64 (n + 1)], .int .i64 0]) (by simp only [results, Tryd.results28]; go_simp) rfl ⟨rfl, by (repeat (first | exact Below.refl _ _ | assumption | refine Below.al ?_ _ | refine Below.sc ?_ (by first | exact Nat.le_refl _ | (simp; done) | (simp; omega)) _ | refine Below.dr ?_ | refine Below.drN ?_ _ | refine Below.step ?_ (by assumption)))⟩
set_option maxRecDepth 100000 in
set_option maxHeartbeats 1600000 in
theorem specAppend_no (d p c r : ByteArray) (n : Int) (w : World) (hd : d.size ≤ maxLen) (hp : p.size ≤ maxLen) (hs : d.size + p.size ≤ 1000000000) (hc : c.size ≤ maxLen) (hr : r.size ≤ maxLen)
    (hv : (validS d.data.toList p.data.toList n && goodB c.data.toList r.data.toList) = false) :
    Calls Tryd.prog 28 #[.agg #[.string d, .string p, .int .i64 n], .agg #[.string c, .string r]] w fun e w' =>
      e = .returned (.tuple #[.agg #[.string d, .string p, .int .i64 n], .int .i64 1]) ∧ Below w.heap.size w w' := by
  have HZ := Lib.hid (And.intro hd (And.intro hp (And.intro hs (And.intro hc hr))))
  clear hd hp hs hc hr
  cases h1 : validS d.data.toList p.data.toList n
  · clear hv
    go_enter Tryd.func28, Tryd.ntmps28
    go_wp2_with (first | ((go_at_call 49; refine (l28Log_any _ _ _ _ HZ.out.1 HZ.out.2.1 HZ.out.2.2.1).mono ?_; rintro e w1 ⟨rfl, hb1⟩; have ⟨cw1, fw1⟩ := bcell hb1; have qw1 := hb1.size; (try simp at qw1); (try have zw1w := bsz (show w.heap.size < w1.heap.size by omega))); (try have zz1 : w.heap.size + 1 < w1.heap.size := by omega); (try have zz2 : w.heap.size + 2 < w1.heap.size := by omega)) | (go_at_call 43; refine (l28Good_any _ _ _ HZ.out.2.2.2.1 HZ.out.2.2.2.2).mono ?_; rintro e w2 ⟨rfl, hb2⟩; have ⟨cw2, fw2⟩ := bcell hb2; have qw2 := hb2.size; (try simp at qw2); (try have zw2w := bsz (show w.heap.size < w2.heap.size by omega)); (try have zw2w1 := bsz (show w1.heap.size < w2.heap.size by omega))))
    refine bodyPost_ret (v := .tuple #[.agg #[.string d, .string p, .int .i64 n], .int .i64 1]) (by simp only [results, Tryd.results28]; go_simp) rfl ⟨rfl, by (repeat (first | exact Below.refl _ _ | assumption | refine Below.al ?_ _ | refine Below.sc ?_ (by first | exact Nat.le_refl _ | (simp; done) | (simp; omega)) _ | refine Below.dr ?_ | refine Below.drN ?_ _ | refine Below.step ?_ (by assumption)))⟩
  · have h2 : goodB c.data.toList r.data.toList = false := by rw [h1] at hv; simpa using hv
    clear hv
    go_enter Tryd.func28, Tryd.ntmps28
    go_wp2_with (first | ((go_at_call 49; refine (l28Log_any _ _ _ _ HZ.out.1 HZ.out.2.1 HZ.out.2.2.1).mono ?_; rintro e w1 ⟨rfl, hb1⟩; have ⟨cw1, fw1⟩ := bcell hb1; have qw1 := hb1.size; (try simp at qw1); (try have zw1w := bsz (show w.heap.size < w1.heap.size by omega))); (try have zz1 : w.heap.size + 1 < w1.heap.size := by omega); (try have zz2 : w.heap.size + 2 < w1.heap.size := by omega)) | (go_at_call 43; refine (l28Good_any _ _ _ HZ.out.2.2.2.1 HZ.out.2.2.2.2).mono ?_; rintro e w2 ⟨rfl, hb2⟩; have ⟨cw2, fw2⟩ := bcell hb2; have qw2 := hb2.size; (try simp at qw2); (try have zw2w := bsz (show w.heap.size < w2.heap.size by omega)); (try have zw2w1 := bsz (show w1.heap.size < w2.heap.size by omega))))
    refine bodyPost_ret (v := .tuple #[.agg #[.string d, .string p, .int .i64 n], .int .i64 1]) (by simp only [results, Tryd.results28]; go_simp) rfl ⟨rfl, by (repeat (first | exact Below.refl _ _ | assumption | refine Below.al ?_ _ | refine Below.sc ?_ (by first | exact Nat.le_refl _ | (simp; done) | (simp; omega)) _ | refine Below.dr ?_ | refine Below.drN ?_ _ | refine Below.step ?_ (by assumption)))⟩
set_option maxRecDepth 100000 in
set_option maxHeartbeats 1600000 in
theorem specAppend_full (d p c r : ByteArray) (n : Int) (w : World) (hd : d.size ≤ maxLen) (hp : p.size ≤ maxLen) (hs : d.size + p.size ≤ 1000000000) (hc : c.size ≤ maxLen) (hr : r.size ≤ maxLen)
    (hv : validS d.data.toList p.data.toList n = true) (hg : goodB c.data.toList r.data.toList = true) (hn : n = 60) :
    Calls Tryd.prog 28 #[.agg #[.string d, .string p, .int .i64 n], .agg #[.string c, .string r]] w fun e w' =>
      e = .returned (.tuple #[.agg #[.string d, .string p, .int .i64 n], .int .i64 2]) ∧ Below w.heap.size w w' := by
  have HZ := Lib.hid (And.intro hd (And.intro hp (And.intro hs (And.intro hc hr))))
  clear hd hp hs hc hr
  subst hn
  go_enter Tryd.func28, Tryd.ntmps28
  go_wp2_with (first | ((go_at_call 49; refine (l28Log_any _ _ _ _ HZ.out.1 HZ.out.2.1 HZ.out.2.2.1).mono ?_; rintro e w1 ⟨rfl, hb1⟩; have ⟨cw1, fw1⟩ := bcell hb1; have qw1 := hb1.size; (try simp at qw1); (try have zw1w := bsz (show w.heap.size < w1.heap.size by omega))); (try have zz1 : w.heap.size + 1 < w1.heap.size := by omega); (try have zz2 : w.heap.size + 2 < w1.heap.size := by omega)) | (go_at_call 43; refine (l28Good_any _ _ _ HZ.out.2.2.2.1 HZ.out.2.2.2.2).mono ?_; rintro e w2 ⟨rfl, hb2⟩; have ⟨cw2, fw2⟩ := bcell hb2; have qw2 := hb2.size; (try simp at qw2); (try have zw2w := bsz (show w.heap.size < w2.heap.size by omega)); (try have zw2w1 := bsz (show w1.heap.size < w2.heap.size by omega))))
  refine bodyPost_ret (v := .tuple #[.agg #[.string d, .string p, .int .i64 60], .int .i64 2]) (by simp only [results, Tryd.results28]; go_simp) rfl ⟨rfl, by (repeat (first | exact Below.refl _ _ | assumption | refine Below.al ?_ _ | refine Below.sc ?_ (by first | exact Nat.le_refl _ | (simp; done) | (simp; omega)) _ | refine Below.dr ?_ | refine Below.drN ?_ _ | refine Below.step ?_ (by assumption)))⟩
set_option maxRecDepth 100000 in
set_option maxHeartbeats 1600000 in
theorem implAppend_yes (d p c r : ByteArray) (n : Int) (w : World) (hE : Env w) (hd : d.size ≤ maxLen) (hp : p.size ≤ maxLen) (hs : d.size + p.size ≤ 1000000000) (hc : c.size ≤ maxLen) (hr : r.size ≤ maxLen)
    (hv : validS d.data.toList p.data.toList n = true) (hg : goodB c.data.toList r.data.toList = true) (hn : n ≠ 60) :
    Calls Tryd.prog 29 #[.agg #[.string d, .string p, .int .i64 n], .agg #[.string c, .string r]] w fun e w' =>
      e = .returned (.tuple #[.agg #[.string d, .string (p ++ ⟨(encF n c.data.toList r.data.toList).toArray⟩), .int .i64 (n + 1)], .int .i64 0]) ∧ Below w.heap.size w w' := by
  have hnn := valid_n hv
  have HE := Lib.hid hE
  have HG := Lib.hid hg
  have HZ := Lib.hid (And.intro hd (And.intro hp (And.intro hs (And.intro hc hr))))
  have hel := encF_len n hnn.1 (by omega) hg
  have hcat : ¬ 9223372036854775807 < p.size + (encF n c.data.toList r.data.toList).length := by omega
  have hn1 : n ≤ 9223372036854775807 := by omega
  have hn0 : 0 ≤ n := hnn.1
  have hn60 : (n == 60) = false := by simpa using hn
  have hnw : IntKind.i64.wrap (n + 1) = n + 1 := IntWalk.i64_in _ (by omega)
  clear hd hp hs hc hr hel hE
  go_enter Tryd.func29, Tryd.ntmps29
  go_wp2_with (first | ((go_at_call 23; refine (implIsValidLog_any _ _ _ _ (HE.out.below (by (repeat (first | exact Below.refl _ _ | assumption | refine Below.al ?_ _ | refine Below.sc ?_ (by first | exact Nat.le_refl _ | (simp; done) | (simp; omega)) _ | refine Below.dr ?_ | refine Below.drN ?_ _ | refine Below.step ?_ (by assumption))))) HZ.out.2.2.1).mono ?_; rintro e w1 ⟨rfl, hb1⟩; have ⟨cw1, fw1⟩ := bcell hb1; have qw1 := hb1.size; (try simp at qw1); (try have zw1w := bsz (show w.heap.size < w1.heap.size by omega))); (try have zz1 : w.heap.size + 1 < w1.heap.size := by omega); (try have zz2 : w.heap.size + 2 < w1.heap.size := by omega)) | (go_at_call 37; refine (isValidRecord_any _ _ _ HZ.out.2.2.2.1 HZ.out.2.2.2.2).mono ?_; rintro e w2 ⟨rfl, hb2⟩; have ⟨cw2, fw2⟩ := bcell hb2; have qw2 := hb2.size; (try simp at qw2); (try have zw2w := bsz (show w.heap.size < w2.heap.size by omega)); (try have zw2w1 := bsz (show w1.heap.size < w2.heap.size by omega))))
  obtain ⟨C, HC0⟩ := class_of (InF w.heap.size _ [(⟨w.heap.size, 0, none⟩, .string d), (⟨w.heap.size, 1, none⟩, .string p), (⟨w.heap.size, 2, none⟩, .int .i64 n), (⟨w.heap.size + 1, 0, none⟩, .string c), (⟨w.heap.size + 1, 1, none⟩, .string r)] [(13, ⟨w.heap.size + 2, 0, none⟩, .string d), (13, ⟨w.heap.size + 2, 1, none⟩, .string (p ++ ⟨(encF n c.data.toList r.data.toList).toArray⟩)), (13, ⟨w.heap.size + 2, 2, none⟩, .int .i64 (n + 1))] [])
  have HC := Lib.hid HC0
  clear HC0
  refine wp_region_flow (C := C) (by kernel_rfl) (by kernel_rfl) (fun L hL => (HC.out _ _).2 (InF.start (by first | (intro _ hs; cases hs; done) | (simp only [List.forall_mem_cons]; go_simp)) (by first | (intro _ hs; cases hs; done) | (simp only [List.forall_mem_cons]; go_simp)) (by first | (intro _ hs; cases hs; done) | (simp only [List.forall_mem_cons]; go_simp)) (by first | (intro _ hs; cases hs; done) | (simp only [List.forall_mem_cons]; go_simp)) L hL)) ?_
  repeat (first | (apply flow_free rfl; (intro L w' hun hrd hC; have hC := (HC.out _ _).1 hC; have hb' := hC.below; (try have hw' : Below w.heap.size w w' := by first | exact Below.trans (by (repeat (first | exact Below.refl _ _ | assumption | refine Below.al ?_ _ | refine Below.sc ?_ (by first | exact Nat.le_refl _ | (simp; done) | (simp; omega)) _ | refine Below.dr ?_ | refine Below.drN ?_ _ | refine Below.step ?_ (by assumption)))) hb' | ((repeat (first | exact Below.refl _ _ | assumption | refine Below.al ?_ _ | refine Below.sc ?_ (by first | exact Nat.le_refl _ | (simp; done) | (simp; omega)) _ | refine Below.dr ?_ | refine Below.drN ?_ _ | refine Below.step ?_ (by assumption))); done)); have hf' := hC.cell; (try simp only [List.forall_mem_cons] at hf'); have ha' := hC.at_; simp only [List.forall_mem_cons] at ha'; obtain ⟨⟨x0, hx0⟩, ⟨x1, hx1⟩, ⟨x2, hx2⟩, -⟩ := ha'; have hfr' := hC.fro; simp only [List.forall_mem_cons] at hfr'; go_simp; first | exact ⟨(HC.out _ _).2 (hC.skip _ (by rfl)), rfl⟩ | (rw [if_neg]; (exact ⟨(HC.out _ _).2 (hC.skip _ (by rfl)), rfl⟩); omega) | (go_at_call 46; refine (encodeRecord_ok n c r _ (HE.out.below hw') hn0 hn1 HG.out).mono ?_; rintro e w1 ⟨rfl, hb1⟩; exact ⟨rfl, (HC.out _ _).2 ((hC.next (by first | (simp; done) | (simp; omega) | omega) hb1).skip _ (by rfl))⟩) | (exact ⟨(HC.out _ _).2 ((((hC.store 13 ⟨w.heap.size + 2, 0, none⟩ _ (by simp) rfl (by simp) (by simp) (by simp)).store 13 ⟨w.heap.size + 2, 1, none⟩ _ (by simp) rfl (by simp) (by simp) (by simp)).store 13 ⟨w.heap.size + 2, 2, none⟩ _ (by simp) rfl (by simp) (by simp) (by simp)).mark 13 (by simp; go_simp)), rfl⟩)); go_simp) | (apply flow_yes; (case hw => go_simp); (intro L w' hun hrd hC; have hC := (HC.out _ _).1 hC; have hb' := hC.below; (try have hw' : Below w.heap.size w w' := by first | exact Below.trans (by (repeat (first | exact Below.refl _ _ | assumption | refine Below.al ?_ _ | refine Below.sc ?_ (by first | exact Nat.le_refl _ | (simp; done) | (simp; omega)) _ | refine Below.dr ?_ | refine Below.drN ?_ _ | refine Below.step ?_ (by assumption)))) hb' | ((repeat (first | exact Below.refl _ _ | assumption | refine Below.al ?_ _ | refine Below.sc ?_ (by first | exact Nat.le_refl _ | (simp; done) | (simp; omega)) _ | refine Below.dr ?_ | refine Below.drN ?_ _ | refine Below.step ?_ (by assumption))); done)); have hf' := hC.cell; (try simp only [List.forall_mem_cons] at hf'); have ha' := hC.at_; simp only [List.forall_mem_cons] at ha'; obtain ⟨⟨x0, hx0⟩, ⟨x1, hx1⟩, ⟨x2, hx2⟩, -⟩ := ha'; have hfr' := hC.fro; simp only [List.forall_mem_cons] at hfr'; go_simp; first | exact ⟨(HC.out _ _).2 (hC.skip _ (by rfl)), rfl⟩ | (rw [if_neg]; (exact ⟨(HC.out _ _).2 (hC.skip _ (by rfl)), rfl⟩); omega) | (go_at_call 46; refine (encodeRecord_ok n c r _ (HE.out.below hw') hn0 hn1 HG.out).mono ?_; rintro e w1 ⟨rfl, hb1⟩; exact ⟨rfl, (HC.out _ _).2 ((hC.next (by first | (simp; done) | (simp; omega) | omega) hb1).skip _ (by rfl))⟩) | (exact ⟨(HC.out _ _).2 ((((hC.store 13 ⟨w.heap.size + 2, 0, none⟩ _ (by simp) rfl (by simp) (by simp) (by simp)).store 13 ⟨w.heap.size + 2, 1, none⟩ _ (by simp) rfl (by simp) (by simp) (by simp)).store 13 ⟨w.heap.size + 2, 2, none⟩ _ (by simp) rfl (by simp) (by simp) (by simp)).mark 13 (by simp; go_simp)), rfl⟩)); go_simp) | (apply flow_no; (case hw => go_simp); (intro L w' _ _ hC; exact (HC.out _ _).2 (((HC.out _ _).1 hC).skip _ (by rfl))); go_simp))
  refine flow_nil ?_
  intro L wz hL hz
  have hz := (HC.out _ _).1 hz
  have hbz := hz.below
  have hcz := hz.cell
  try simp only [List.forall_mem_cons] at hcz
  have hdz := hz.done
  try simp only [List.forall_mem_cons] at hdz
  have hfz := hz.fro
  simp only [List.forall_mem_cons] at hfz
  have hd0 := hdz.1 (by simpa using hL 13 (by simp))
  have hd1 := hdz.2.1 (by simpa using hL 13 (by simp))
  have hd2 := hdz.2.2.1 (by simpa using hL 13 (by simp))
  (try have hwz : Below w.heap.size w wz := by first | exact Below.trans (by (repeat (first | exact Below.refl _ _ | assumption | refine Below.al ?_ _ | refine Below.sc ?_ (by first | exact Nat.le_refl _ | (simp; done) | (simp; omega)) _ | refine Below.dr ?_ | refine Below.drN ?_ _ | refine Below.step ?_ (by assumption)))) hbz | ((repeat (first | exact Below.refl _ _ | assumption | refine Below.al ?_ _ | refine Below.sc ?_ (by first | exact Nat.le_refl _ | (simp; done) | (simp; omega)) _ | refine Below.dr ?_ | refine Below.drN ?_ _ | refine Below.step ?_ (by assumption))); done))
  go_wp2
  refine bodyPost_ret (v := .tuple #[.agg #[.string d, .string (p ++ ⟨(encF n c.data.toList r.data.toList).toArray⟩), .int .i64 (n + 1)], .int .i64 0]) (by simp only [results, Tryd.results29]; go_simp) rfl ⟨rfl, by (repeat (first | exact Below.refl _ _ | assumption | refine Below.al ?_ _ | refine Below.sc ?_ (by first | exact Nat.le_refl _ | (simp; done) | (simp; omega)) _ | refine Below.dr ?_ | refine Below.drN ?_ _ | refine Below.step ?_ (by assumption)))⟩
set_option maxRecDepth 100000 in
set_option maxHeartbeats 1600000 in
theorem implAppend_no (d p c r : ByteArray) (n : Int) (w : World) (hE : Env w) (hd : d.size ≤ maxLen) (hp : p.size ≤ maxLen) (hs : d.size + p.size ≤ 1000000000) (hc : c.size ≤ maxLen) (hr : r.size ≤ maxLen)
    (hv : (validS d.data.toList p.data.toList n && goodB c.data.toList r.data.toList) = false) :
    Calls Tryd.prog 29 #[.agg #[.string d, .string p, .int .i64 n], .agg #[.string c, .string r]] w fun e w' =>
      e = .returned (.tuple #[.agg #[.string d, .string p, .int .i64 n], .int .i64 1]) ∧ Below w.heap.size w w' := by
  have HZ := Lib.hid (And.intro hd (And.intro hp (And.intro hs (And.intro hc hr))))
  clear hd hp hs hc hr
  have HE := Lib.hid hE
  clear hE
  cases h1 : validS d.data.toList p.data.toList n
  · clear hv
    go_enter Tryd.func29, Tryd.ntmps29
    go_wp2_with (first | ((go_at_call 23; refine (implIsValidLog_any _ _ _ _ (HE.out.below (by (repeat (first | exact Below.refl _ _ | assumption | refine Below.al ?_ _ | refine Below.sc ?_ (by first | exact Nat.le_refl _ | (simp; done) | (simp; omega)) _ | refine Below.dr ?_ | refine Below.drN ?_ _ | refine Below.step ?_ (by assumption))))) HZ.out.2.2.1).mono ?_; rintro e w1 ⟨rfl, hb1⟩; have ⟨cw1, fw1⟩ := bcell hb1; have qw1 := hb1.size; (try simp at qw1); (try have zw1w := bsz (show w.heap.size < w1.heap.size by omega))); (try have zz1 : w.heap.size + 1 < w1.heap.size := by omega); (try have zz2 : w.heap.size + 2 < w1.heap.size := by omega)) | (go_at_call 37; refine (isValidRecord_any _ _ _ HZ.out.2.2.2.1 HZ.out.2.2.2.2).mono ?_; rintro e w2 ⟨rfl, hb2⟩; have ⟨cw2, fw2⟩ := bcell hb2; have qw2 := hb2.size; (try simp at qw2); (try have zw2w := bsz (show w.heap.size < w2.heap.size by omega)); (try have zw2w1 := bsz (show w1.heap.size < w2.heap.size by omega))))
    refine bodyPost_ret (v := .tuple #[.agg #[.string d, .string p, .int .i64 n], .int .i64 1]) (by simp only [results, Tryd.results29]; go_simp) rfl ⟨rfl, by (repeat (first | exact Below.refl _ _ | assumption | refine Below.al ?_ _ | refine Below.sc ?_ (by first | exact Nat.le_refl _ | (simp; done) | (simp; omega)) _ | refine Below.dr ?_ | refine Below.drN ?_ _ | refine Below.step ?_ (by assumption)))⟩
  · have h2 : goodB c.data.toList r.data.toList = false := by rw [h1] at hv; simpa using hv
    clear hv
    go_enter Tryd.func29, Tryd.ntmps29
    go_wp2_with (first | ((go_at_call 23; refine (implIsValidLog_any _ _ _ _ (HE.out.below (by (repeat (first | exact Below.refl _ _ | assumption | refine Below.al ?_ _ | refine Below.sc ?_ (by first | exact Nat.le_refl _ | (simp; done) | (simp; omega)) _ | refine Below.dr ?_ | refine Below.drN ?_ _ | refine Below.step ?_ (by assumption))))) HZ.out.2.2.1).mono ?_; rintro e w1 ⟨rfl, hb1⟩; have ⟨cw1, fw1⟩ := bcell hb1; have qw1 := hb1.size; (try simp at qw1); (try have zw1w := bsz (show w.heap.size < w1.heap.size by omega))); (try have zz1 : w.heap.size + 1 < w1.heap.size := by omega); (try have zz2 : w.heap.size + 2 < w1.heap.size := by omega)) | (go_at_call 37; refine (isValidRecord_any _ _ _ HZ.out.2.2.2.1 HZ.out.2.2.2.2).mono ?_; rintro e w2 ⟨rfl, hb2⟩; have ⟨cw2, fw2⟩ := bcell hb2; have qw2 := hb2.size; (try simp at qw2); (try have zw2w := bsz (show w.heap.size < w2.heap.size by omega)); (try have zw2w1 := bsz (show w1.heap.size < w2.heap.size by omega))))
    refine bodyPost_ret (v := .tuple #[.agg #[.string d, .string p, .int .i64 n], .int .i64 1]) (by simp only [results, Tryd.results29]; go_simp) rfl ⟨rfl, by (repeat (first | exact Below.refl _ _ | assumption | refine Below.al ?_ _ | refine Below.sc ?_ (by first | exact Nat.le_refl _ | (simp; done) | (simp; omega)) _ | refine Below.dr ?_ | refine Below.drN ?_ _ | refine Below.step ?_ (by assumption)))⟩
set_option maxRecDepth 100000 in
set_option maxHeartbeats 1600000 in
theorem implAppend_full (d p c r : ByteArray) (n : Int) (w : World) (hE : Env w) (hd : d.size ≤ maxLen) (hp : p.size ≤ maxLen) (hs : d.size + p.size ≤ 1000000000) (hc : c.size ≤ maxLen) (hr : r.size ≤ maxLen)
    (hv : validS d.data.toList p.data.toList n = true) (hg : goodB c.data.toList r.data.toList = true) (hn : n = 60) :
    Calls Tryd.prog 29 #[.agg #[.string d, .string p, .int .i64 n], .agg #[.string c, .string r]] w fun e w' =>
      e = .returned (.tuple #[.agg #[.string d, .string p, .int .i64 n], .int .i64 2]) ∧ Below w.heap.size w w' := by
  have HZ := Lib.hid (And.intro hd (And.intro hp (And.intro hs (And.intro hc hr))))
  clear hd hp hs hc hr
  have HE := Lib.hid hE
  clear hE
  subst hn
  go_enter Tryd.func29, Tryd.ntmps29
  go_wp2_with (first | ((go_at_call 23; refine (implIsValidLog_any _ _ _ _ (HE.out.below (by (repeat (first | exact Below.refl _ _ | assumption | refine Below.al ?_ _ | refine Below.sc ?_ (by first | exact Nat.le_refl _ | (simp; done) | (simp; omega)) _ | refine Below.dr ?_ | refine Below.drN ?_ _ | refine Below.step ?_ (by assumption))))) HZ.out.2.2.1).mono ?_; rintro e w1 ⟨rfl, hb1⟩; have ⟨cw1, fw1⟩ := bcell hb1; have qw1 := hb1.size; (try simp at qw1); (try have zw1w := bsz (show w.heap.size < w1.heap.size by omega))); (try have zz1 : w.heap.size + 1 < w1.heap.size := by omega); (try have zz2 : w.heap.size + 2 < w1.heap.size := by omega)) | (go_at_call 37; refine (isValidRecord_any _ _ _ HZ.out.2.2.2.1 HZ.out.2.2.2.2).mono ?_; rintro e w2 ⟨rfl, hb2⟩; have ⟨cw2, fw2⟩ := bcell hb2; have qw2 := hb2.size; (try simp at qw2); (try have zw2w := bsz (show w.heap.size < w2.heap.size by omega)); (try have zw2w1 := bsz (show w1.heap.size < w2.heap.size by omega))))
  refine bodyPost_ret (v := .tuple #[.agg #[.string d, .string p, .int .i64 60], .int .i64 2]) (by simp only [results, Tryd.results29]; go_simp) rfl ⟨rfl, by (repeat (first | exact Below.refl _ _ | assumption | refine Below.al ?_ _ | refine Below.sc ?_ (by first | exact Nat.le_refl _ | (simp; done) | (simp; omega)) _ | refine Below.dr ?_ | refine Below.drN ?_ _ | refine Below.step ?_ (by assumption)))⟩
end Go.Proofs.YtofamefmodmekaaDoor
