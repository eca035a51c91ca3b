/- How the reference reads a log: the walks of its readers. Conditions: sizes. -/
import Derived.Test.YtofamefmodmekaaDoorLogW
namespace Go.Proofs.YtofamefmodmekaaDoor
open Go.RowKit
/-- The first of a text's parts, and whether there is a second. -/
def SplitHead (T : List UInt8) (b : UInt8) (w : World) (e : Ending) (w' : World) : Prop :=
  ∃ g n c : Nat, e = .returned (.slice (some ⟨g, 0, none⟩) n c) ∧ 0 < n ∧ decide (n < 2) = !(cut1 T b).2.2 ∧ w'.cell? ⟨g, 0, none⟩ = some (.string ⟨(cut1 T b).1.toArray⟩) ∧ (w.heap.size ≤ g ∧ g < w'.heap.size) ∧ Below w.heap.size w w'
theorem split_head (s : ByteArray) (T : List UInt8) (b : UInt8) (m : Int) (w : World) (hm : m = b.toNat) (hT : s.data.toList = T) (hs : T.length ≤ 1000000000) :
    Calls Tryd.prog 68 #[.string s, .int .u8 m] w (SplitHead T b w) := by
  subst hT hm
  refine (l1Split_any s b w hs).mono ?_
  rintro e w' ⟨v, rfl, ho, hb⟩
  obtain ⟨h1, h2⟩ := splitF_head s.data.toList b
  have hp := splitF_ne s.data.toList b
  obtain ⟨g, c, rfl⟩ := own_form ho hp
  have hc : w'.cell? ⟨g, 0, none⟩ = some (.string ⟨(cut1 s.data.toList b).1.toArray⟩) := by
    rw [ho.cellAt 0 (by omega)]
    rw [strV, List.getElem?_map, h1]; rfl
  exact ⟨g, _, c, rfl, hp, h2, hc, ⟨own_base ho g rfl, World.block_lt_of_cell? w' _ hc⟩, hb⟩
theorem head_lt {n : Nat} {b : Bool} (h : decide (n < 2) = !b) (hb : b = false) : (n : Int) < 2 := by subst hb; simp at h; omega
theorem head_ge {n : Nat} {b : Bool} (h : decide (n < 2) = !b) (hb : b = true) : ¬ (n : Int) < 2 := by subst hb; simp at h; omega
theorem l28Good_at (c r : ByteArray) (p : Rec) (w : World) (hp : c.data.toList = p.1 ∧ r.data.toList = p.2) (hl : p.1.length + p.2.length ≤ 1000000000) :
    Calls Tryd.prog 43 #[.agg #[.string c, .string r]] w fun e w' => e = .returned (.bool (goodR p)) ∧ Below w.heap.size w w' := by
  have h := l28Good_any c r w (by rw [size_list, hp.1]; unfold maxLen; omega) (by rw [size_list, hp.2]; unfold maxLen; omega)
  rw [hp.1, hp.2] at h; exact h
theorem l28Line_at (k : Nat) (c r : ByteArray) (p : Rec) (w : World) (hp : c.data.toList = p.1 ∧ r.data.toList = p.2) (hl : p.1.length + p.2.length ≤ 1000000000) (hk : k ≤ 60) :
    Calls Tryd.prog 44 #[.int .i64 (k : Int), .agg #[.string c, .string r]] w fun e w' => e = .returned (.string ⟨(encR k p).toArray⟩) ∧ Below w.heap.size w w' := by
  have h := l28Line_any (k : Int) c r w (by omega) (by omega) (by rw [size_list, size_list, hp.1, hp.2]; exact hl)
  rw [hp.1, hp.2] at h; exact h
/-- What stands behind the number in the body of a line. -/
def restS (k : Nat) (T : List UInt8) : List UInt8 := (cut1 T 35).1.drop ((Lib.itoa (k : Int)).length + 1)
def recS (k : Nat) (T : List UInt8) : Rec := ((cut1 (restS k T) 64).1, (restS k T).drop ((cut1 (restS k T) 64).1.length + 1))
theorem ahead_len (k : Nat) : (Lib.itoa (k : Int) ++ [32]).length = (Lib.itoa (k : Int)).length + 1 := by simp
theorem readS_short {k : Nat} {T : List UInt8} (h : (cut1 T 35).1.length < (Lib.itoa (k : Int)).length + 1) : readS k T = (([], []), false) := by
  unfold readS; rw [ahead_len, if_pos (.inl h)]
theorem readS_other {k : Nat} {T : List UInt8} (h : ((cut1 T 35).1.take ((Lib.itoa (k : Int)).length + 1) == Lib.itoa (k : Int) ++ [32]) = false) : readS k T = (([], []), false) := by
  unfold readS; rw [ahead_len, if_pos (.inr (by simpa using h))]
theorem readS_all {k : Nat} {T : List UInt8} (h : (cut1 (restS k T) 64).1.length = (restS k T).length) : readS k T = (([], []), false) := by
  unfold readS restS at *; rw [ahead_len]
  split
  · rfl
  · first | rfl | rw [if_pos h]
theorem readS_full {k : Nat} {T : List UInt8} (h1 : ¬ (cut1 T 35).1.length < (Lib.itoa (k : Int)).length + 1) (h2 : ((cut1 T 35).1.take ((Lib.itoa (k : Int)).length + 1) == Lib.itoa (k : Int) ++ [32]) = true) (h : ¬ (cut1 (restS k T) 64).1.length = (restS k T).length) :
    readS k T = (recS k T, goodR (recS k T) && (encR k (recS k T) == T ++ [10])) := by
  unfold readS recS restS at *
  rw [ahead_len, if_neg (by rw [not_or]; exact ⟨h1, by simpa using h2⟩), if_neg h]
set_option maxRecDepth 100000 in
set_option maxHeartbeats 1600000 in
theorem l28Read_any (s : ByteArray) (T : List UInt8) (k : Nat) (w : World) (hT : s.data.toList = T) (hs : T.length ≤ 1000000) (hk : k ≤ 60) :
    Calls Tryd.prog 69 #[.string s, .int .i64 (k : Int)] w fun e w' => e = .returned (.tuple #[.agg #[.string ⟨(readS k T).1.1.toArray⟩, .string ⟨(readS k T).1.2.toArray⟩], .bool (readS k T).2]) ∧ Below w.heap.size w w' := by
  have HT := Lib.hid hT
  have HT2 := Lib.hid hT
  have hil : (Lib.itoa (k : Int)).length ≤ 20 := itoa_len k (by omega) (by omega)
  have h1 := (cut1_len T 35).1
  have hk0 : (0 : Int) ≤ (k : Int) := by omega
  by_cases hA : (cut1 T 35).1.length < (Lib.itoa (k : Int)).length + 1
  · have hA1 : ((cut1 T 35).1.length : Int) < (Lib.itoa (k : Int)).length + 1 := by omega
    have HA := Lib.hid hA
    clear hA
    go_enter Tryd.func69, Tryd.ntmps69
    go_wp2_with (first | (go_at_call 65; refine (drew_below (l1Num_any _ _ (by omega) (by omega))).mono ?_; rintro e w1 ⟨rfl, hb1⟩; have ⟨cw1, fw1⟩ := bcell hb1; have qw1 := hb1.size; (try simp at qw1); have zw1w := bsz (show w.heap.size < w1.heap.size by omega)) | (go_at_call 68; refine (split_head _ T 35 35 _ rfl HT.out (by omega)).mono ?_; rintro e w2 ⟨g, n, c, rfl, hn, hn2, hc, hgz, hb2⟩; have ⟨cw2, fw2⟩ := bcell hb2; have qw2 := hb2.size; (try simp at qw2); have zw2w := bsz (show w.heap.size < w2.heap.size by omega); clear hn2 hgz HT))
    refine bodyPost_ret (v := .tuple #[.agg #[.string ⟨#[]⟩, .string ⟨#[]⟩], .bool false]) (by simp only [results, Tryd.results69]; go_simp) rfl ⟨?_, by (repeat (first | exact Below.refl _ _ | assumption | refine Below.al ?_ _ | refine Below.sc ?_ (by first | exact Nat.le_refl _ | (simp; done) | (simp; omega)) _ | refine Below.dr ?_ | refine Below.drN ?_ _ | refine Below.step ?_ (by assumption)))⟩
    rw [readS_short HA.out]
  · have hA1 : ¬ ((cut1 T 35).1.length : Int) < (Lib.itoa (k : Int)).length + 1 := by omega
    have hA2 : (Lib.itoa (k : Int)).length + 1 ≤ (cut1 T 35).1.length := by omega
    have HA := Lib.hid hA
    clear hA
    cases hB : ((cut1 T 35).1.take ((Lib.itoa (k : Int)).length + 1) == Lib.itoa (k : Int) ++ [32])
    · have HB := Lib.hid hB
      go_enter Tryd.func69, Tryd.ntmps69
      go_wp2_with (first | (go_at_call 65; refine (drew_below (l1Num_any _ _ (by omega) (by omega))).mono ?_; rintro e w1 ⟨rfl, hb1⟩; have ⟨cw1, fw1⟩ := bcell hb1; have qw1 := hb1.size; (try simp at qw1); have zw1w := bsz (show w.heap.size < w1.heap.size by omega)) | (go_at_call 68; refine (split_head _ T 35 35 _ rfl HT.out (by omega)).mono ?_; rintro e w2 ⟨g, n, c, rfl, hn, hn2, hc, hgz, hb2⟩; have ⟨cw2, fw2⟩ := bcell hb2; have qw2 := hb2.size; (try simp at qw2); have zw2w := bsz (show w.heap.size < w2.heap.size by omega); clear hn2 hgz HT))
      refine bodyPost_ret (v := .tuple #[.agg #[.string ⟨#[]⟩, .string ⟨#[]⟩], .bool false]) (by simp only [results, Tryd.results69]; go_simp) rfl ⟨?_, by (repeat (first | exact Below.refl _ _ | assumption | refine Below.al ?_ _ | refine Below.sc ?_ (by first | exact Nat.le_refl _ | (simp; done) | (simp; omega)) _ | refine Below.dr ?_ | refine Below.drN ?_ _ | refine Below.step ?_ (by assumption)))⟩
      rw [readS_other HB.out]
    · have HB := Lib.hid hB
      have HR := Lib.hid (show ((⟨(cut1 T 35).1.toArray⟩ : ByteArray).extract ((Lib.itoa (k : Int)).length + 1) (cut1 T 35).1.length).data.toList = restS k T by rw [extract_list]; simp [restS])
      have hRl : (restS k T).length ≤ 1000000000 := by unfold restS; rw [List.length_drop]; omega
      have HRl := Lib.hid hRl
      by_cases hC : (cut1 (restS k T) 64).1.length = (restS k T).length
      · have HC := Lib.hid hC
        have hC1 : (((cut1 (restS k T) 64).1.length : Int) == ((cut1 T 35).1.length - ((Lib.itoa (k : Int)).length + 1) : Nat)) = true := by
          rw [hC, restS, List.length_drop]; simp
        clear hC
        go_enter Tryd.func69, Tryd.ntmps69
        go_wp2_with (first | (go_at_call 65; refine (drew_below (l1Num_any _ _ (by omega) (by omega))).mono ?_; rintro e w1 ⟨rfl, hb1⟩; have ⟨cw1, fw1⟩ := bcell hb1; have qw1 := hb1.size; (try simp at qw1); have zw1w := bsz (show w.heap.size < w1.heap.size by omega)) | (go_at_call 68; refine (split_head _ T 35 35 _ rfl HT.out (by omega)).mono ?_; rintro e w2 ⟨g, n, c, rfl, hn, hn2, hc, hgz, hb2⟩; have ⟨cw2, fw2⟩ := bcell hb2; have qw2 := hb2.size; (try simp at qw2); have zw2w := bsz (show w.heap.size < w2.heap.size by omega); clear hn2 hgz HT) | (go_at_call 68; refine (split_head _ (restS k T) 64 64 _ rfl HR.out HRl.out).mono ?_; rintro e w3 ⟨g3, n3, c3, rfl, hn3, hn23, hc3, hgz3, hb3⟩; have ⟨cw3, fw3⟩ := bcell hb3; have qw3 := hb3.size; (try simp at qw3); have zw3w := bsz (show w.heap.size < w3.heap.size by omega); clear hn23 hgz3))
        refine bodyPost_ret (v := .tuple #[.agg #[.string ⟨#[]⟩, .string ⟨#[]⟩], .bool false]) (by simp only [results, Tryd.results69]; go_simp) rfl ⟨?_, by (repeat (first | exact Below.refl _ _ | assumption | refine Below.al ?_ _ | refine Below.sc ?_ (by first | exact Nat.le_refl _ | (simp; done) | (simp; omega)) _ | refine Below.dr ?_ | refine Below.drN ?_ _ | refine Below.step ?_ (by assumption)))⟩
        rw [readS_all HC.out]
      · have hC1 : (((cut1 (restS k T) 64).1.length : Int) == ((cut1 T 35).1.length - ((Lib.itoa (k : Int)).length + 1) : Nat)) = false := by
          rw [restS, List.length_drop] at hC
          rw [beq_eq_false_iff_ne, restS]; omega
        have hC2 := (cut1_len (restS k T) 64).1
        have hC3 : (restS k T).length = (cut1 T 35).1.length - ((Lib.itoa (k : Int)).length + 1) := by rw [restS, List.length_drop]
        have hC4 : (cut1 (restS k T) 64).1.length + 1 ≤ (cut1 T 35).1.length - ((Lib.itoa (k : Int)).length + 1) := by omega
        have HF := Lib.hid (readS_full HA.out HB.out hC)
        clear hC hC2 hC3
        go_enter Tryd.func69, Tryd.ntmps69
        go_wp2_with (first | (go_at_call 65; refine (drew_below (l1Num_any _ _ (by omega) (by omega))).mono ?_; rintro e w1 ⟨rfl, hb1⟩; have ⟨cw1, fw1⟩ := bcell hb1; have qw1 := hb1.size; (try simp at qw1); have zw1w := bsz (show w.heap.size < w1.heap.size by omega)) | (go_at_call 68; refine (split_head _ T 35 35 _ rfl HT.out (by omega)).mono ?_; rintro e w2 ⟨g, n, c, rfl, hn, hn2, hc, hgz, hb2⟩; have ⟨cw2, fw2⟩ := bcell hb2; have qw2 := hb2.size; (try simp at qw2); have zw2w := bsz (show w.heap.size < w2.heap.size by omega); clear hn2 hgz HT) | (go_at_call 68; refine (split_head _ (restS k T) 64 64 _ rfl HR.out HRl.out).mono ?_; rintro e w3 ⟨g3, n3, c3, rfl, hn3, hn23, hc3, hgz3, hb3⟩; have ⟨cw3, fw3⟩ := bcell hb3; have qw3 := hb3.size; (try simp at qw3); have zw3w := bsz (show w.heap.size < w3.heap.size by omega); clear hn23 hgz3))
        have hE : ∃ E : ByteArray, ((⟨(cut1 T 35).1.toArray⟩ : ByteArray).extract ((Lib.itoa (k : Int)).length + 1) (cut1 T 35).1.length).extract ((cut1 (restS k T) 64).1.length + 1) ((cut1 T 35).1.length - ((Lib.itoa (k : Int)).length + 1)) = E ∧ E.data.toList = (recS k T).2 := by
          refine ⟨_, rfl, ?_⟩
          rw [extract_list, HR.out, recS, List.take_of_length_le (by rw [restS, List.length_drop]; omega)]
        obtain ⟨E, hE1, hE2⟩ := hE
        have HE2 := Lib.hid hE2
        rw [hE1]
        clear hE1 hE2
        have HPL : Hid ((recS k T).1.length + (recS k T).2.length ≤ 1000000000) := by
          have := (cut1_len (restS k T) 64).1
          have := HRl.out
          show _ + _ ≤ _
          simp only [recS, List.length_drop]; unfold restS at *; simp only [List.length_drop] at *; omega
        have hs2 : s.toList = T := by rw [ByteArray.toList_eq]; exact HT2.out
        cases hG : goodR (recS k T)
        · have HG := Lib.hid hG
          obtain ⟨C, HC0⟩ := class_of (InF w.heap.size _ [(⟨w3.heap.size, 0, none⟩, .string ⟨(cut1 (restS k T) 64).1.toArray⟩), (⟨w3.heap.size, 1, none⟩, .string E)] [(11, ⟨w.heap.size, 0, none⟩, .string ⟨(cut1 (restS k T) 64).1.toArray⟩), (11, ⟨w.heap.size, 1, none⟩, .string E)] [])
          have HC := Lib.hid HC0
          clear HC0
          refine wp_region_flow (C := C) (by kernel_rfl) (by kernel_rfl) (fun L hL => (HC.out _ _).2 (InF.start (by first | (intro _ hs; cases hs; done) | (simp only [List.forall_mem_cons]; go_simp)) (by first | (intro _ hs; cases hs; done) | (simp only [List.forall_mem_cons]; go_simp)) (by first | (intro _ hs; cases hs; done) | (simp only [List.forall_mem_cons]; go_simp)) (by first | (intro _ hs; cases hs; done) | (simp only [List.forall_mem_cons]; go_simp)) L hL)) ?_
          repeat (first | (apply flow_free rfl; (intro L w' hun hrd hC; have hC := (HC.out _ _).1 hC; have hb' := hC.below; (try have hw' : Below w.heap.size w w' := by first | exact Below.trans (by (repeat (first | exact Below.refl _ _ | assumption | refine Below.al ?_ _ | refine Below.sc ?_ (by first | exact Nat.le_refl _ | (simp; done) | (simp; omega)) _ | refine Below.dr ?_ | refine Below.drN ?_ _ | refine Below.step ?_ (by assumption)))) hb' | ((repeat (first | exact Below.refl _ _ | assumption | refine Below.al ?_ _ | refine Below.sc ?_ (by first | exact Nat.le_refl _ | (simp; done) | (simp; omega)) _ | refine Below.dr ?_ | refine Below.drN ?_ _ | refine Below.step ?_ (by assumption))); done)); have hf' := hC.cell; (try simp only [List.forall_mem_cons] at hf'); have ha' := hC.at_; simp only [List.forall_mem_cons] at ha'; obtain ⟨⟨x0, hx0⟩, ⟨x1, hx1⟩, -⟩ := ha'; have hfr' := hC.fro; simp only [List.forall_mem_cons] at hfr'; go_simp; first | exact ⟨(HC.out _ _).2 (hC.skip _ (by rfl)), rfl⟩ | (rw [if_neg]; (exact ⟨(HC.out _ _).2 (hC.skip _ (by rfl)), rfl⟩); omega) | (go_at_call 43; refine (l28Good_at _ _ (recS k T) _ ⟨rfl, HE2.out⟩ HPL.out).mono ?_; rintro e w1 ⟨rfl, hb1⟩; exact ⟨rfl, (HC.out _ _).2 ((hC.next (by first | (simp; done) | (simp; omega) | omega) hb1).skip _ (by rfl))⟩) | (exact ⟨(HC.out _ _).2 (((hC.store 11 ⟨w.heap.size, 0, none⟩ _ (Nat.le_refl _) rfl (by simp; omega) (by simp) (by simp)).store 11 ⟨w.heap.size, 1, none⟩ _ (Nat.le_refl _) rfl (by simp; omega) (by simp) (by simp)).mark 11 (by simp; exact ⟨by go_simp, by go_simp⟩)), rfl⟩)); go_simp) | (apply flow_yes; (case hw => go_simp); (intro L w' hun hrd hC; have hC := (HC.out _ _).1 hC; have hb' := hC.below; (try have hw' : Below w.heap.size w w' := by first | exact Below.trans (by (repeat (first | exact Below.refl _ _ | assumption | refine Below.al ?_ _ | refine Below.sc ?_ (by first | exact Nat.le_refl _ | (simp; done) | (simp; omega)) _ | refine Below.dr ?_ | refine Below.drN ?_ _ | refine Below.step ?_ (by assumption)))) hb' | ((repeat (first | exact Below.refl _ _ | assumption | refine Below.al ?_ _ | refine Below.sc ?_ (by first | exact Nat.le_refl _ | (simp; done) | (simp; omega)) _ | refine Below.dr ?_ | refine Below.drN ?_ _ | refine Below.step ?_ (by assumption))); done)); have hf' := hC.cell; (try simp only [List.forall_mem_cons] at hf'); have ha' := hC.at_; simp only [List.forall_mem_cons] at ha'; obtain ⟨⟨x0, hx0⟩, ⟨x1, hx1⟩, -⟩ := ha'; have hfr' := hC.fro; simp only [List.forall_mem_cons] at hfr'; go_simp; first | exact ⟨(HC.out _ _).2 (hC.skip _ (by rfl)), rfl⟩ | (rw [if_neg]; (exact ⟨(HC.out _ _).2 (hC.skip _ (by rfl)), rfl⟩); omega) | (go_at_call 43; refine (l28Good_at _ _ (recS k T) _ ⟨rfl, HE2.out⟩ HPL.out).mono ?_; rintro e w1 ⟨rfl, hb1⟩; exact ⟨rfl, (HC.out _ _).2 ((hC.next (by first | (simp; done) | (simp; omega) | omega) hb1).skip _ (by rfl))⟩) | (exact ⟨(HC.out _ _).2 (((hC.store 11 ⟨w.heap.size, 0, none⟩ _ (Nat.le_refl _) rfl (by simp; omega) (by simp) (by simp)).store 11 ⟨w.heap.size, 1, none⟩ _ (Nat.le_refl _) rfl (by simp; omega) (by simp) (by simp)).mark 11 (by simp; exact ⟨by go_simp, by go_simp⟩)), rfl⟩)); go_simp) | (apply flow_no; (case hw => go_simp); (intro L w' _ _ hC; exact (HC.out _ _).2 (((HC.out _ _).1 hC).skip _ (by rfl))); go_simp))
          refine flow_nil ?_
          intro L wz hL hz
          have hz := (HC.out _ _).1 hz
          have hbz := hz.below
          have hcz := hz.cell
          try simp only [List.forall_mem_cons] at hcz
          have hdz := hz.done
          try simp only [List.forall_mem_cons] at hdz
          have hfz := hz.fro
          simp only [List.forall_mem_cons] at hfz
          have hd0 := hdz.1 (by simpa using hL 11 (by simp))
          have hd1 := hdz.2.1 (by simpa using hL 11 (by simp))
          (try have hwz : Below w.heap.size w wz := by first | exact Below.trans (by (repeat (first | exact Below.refl _ _ | assumption | refine Below.al ?_ _ | refine Below.sc ?_ (by first | exact Nat.le_refl _ | (simp; done) | (simp; omega)) _ | refine Below.dr ?_ | refine Below.drN ?_ _ | refine Below.step ?_ (by assumption)))) hbz | ((repeat (first | exact Below.refl _ _ | assumption | refine Below.al ?_ _ | refine Below.sc ?_ (by first | exact Nat.le_refl _ | (simp; done) | (simp; omega)) _ | refine Below.dr ?_ | refine Below.drN ?_ _ | refine Below.step ?_ (by assumption))); done))
          go_wp2
          refine bodyPost_ret (v := .tuple #[.agg #[.string ⟨(cut1 (restS k T) 64).1.toArray⟩, .string E], .bool false]) (by simp only [results, Tryd.results69]; go_simp) rfl ⟨?_, by (repeat (first | exact Below.refl _ _ | assumption | refine Below.al ?_ _ | refine Below.sc ?_ (by first | exact Nat.le_refl _ | (simp; done) | (simp; omega)) _ | refine Below.dr ?_ | refine Below.drN ?_ _ | refine Below.step ?_ (by assumption)))⟩
          rw [HF.out, str_eq HE2.out]
          show Ending.returned (.tuple #[.agg #[.string ⟨(recS k T).1.toArray⟩, .string ⟨(recS k T).2.toArray⟩], .bool _]) = .returned (.tuple #[.agg #[.string ⟨(recS k T).1.toArray⟩, .string ⟨(recS k T).2.toArray⟩], .bool (goodR (recS k T) && (encR k (recS k T) == T ++ [10]))])
          rw [HG.out]; rfl
        · have HG := Lib.hid hG
          have hBl : ¬ 9223372036854775807 < s.size + 1 := by rw [size_list, HT2.out]; omega
          cases he : (encR k (recS k T) == T ++ [10])
          all_goals have HEQ := Lib.hid he
          · obtain ⟨C, HC0⟩ := class_of (InF w.heap.size _ [(⟨w3.heap.size, 0, none⟩, .string ⟨(cut1 (restS k T) 64).1.toArray⟩), (⟨w3.heap.size, 1, none⟩, .string E)] [(11, ⟨w.heap.size, 0, none⟩, .string ⟨(cut1 (restS k T) 64).1.toArray⟩), (11, ⟨w.heap.size, 1, none⟩, .string E)] [])
            have HC := Lib.hid HC0
            clear HC0
            refine wp_region_flow (C := C) (by kernel_rfl) (by kernel_rfl) (fun L hL => (HC.out _ _).2 (InF.start (by first | (intro _ hs; cases hs; done) | (simp only [List.forall_mem_cons]; go_simp)) (by first | (intro _ hs; cases hs; done) | (simp only [List.forall_mem_cons]; go_simp)) (by first | (intro _ hs; cases hs; done) | (simp only [List.forall_mem_cons]; go_simp)) (by first | (intro _ hs; cases hs; done) | (simp only [List.forall_mem_cons]; go_simp)) L hL)) ?_
            repeat (first | (apply flow_free rfl; (intro L w' hun hrd hC; have hC := (HC.out _ _).1 hC; have hb' := hC.below; (try have hw' : Below w.heap.size w w' := by first | exact Below.trans (by (repeat (first | exact Below.refl _ _ | assumption | refine Below.al ?_ _ | refine Below.sc ?_ (by first | exact Nat.le_refl _ | (simp; done) | (simp; omega)) _ | refine Below.dr ?_ | refine Below.drN ?_ _ | refine Below.step ?_ (by assumption)))) hb' | ((repeat (first | exact Below.refl _ _ | assumption | refine Below.al ?_ _ | refine Below.sc ?_ (by first | exact Nat.le_refl _ | (simp; done) | (simp; omega)) _ | refine Below.dr ?_ | refine Below.drN ?_ _ | refine Below.step ?_ (by assumption))); done)); have hf' := hC.cell; (try simp only [List.forall_mem_cons] at hf'); have ha' := hC.at_; simp only [List.forall_mem_cons] at ha'; obtain ⟨⟨x0, hx0⟩, ⟨x1, hx1⟩, -⟩ := ha'; have hfr' := hC.fro; simp only [List.forall_mem_cons] at hfr'; go_simp; first | exact ⟨(HC.out _ _).2 (hC.skip _ (by rfl)), rfl⟩ | (rw [if_neg]; (exact ⟨(HC.out _ _).2 (hC.skip _ (by rfl)), rfl⟩); omega) | (go_at_call 43; refine (l28Good_at _ _ (recS k T) _ ⟨rfl, HE2.out⟩ HPL.out).mono ?_; rintro e w1 ⟨rfl, hb1⟩; exact ⟨rfl, (HC.out _ _).2 ((hC.next (by first | (simp; done) | (simp; omega) | omega) hb1).skip _ (by rfl))⟩) | (go_at_call 44; refine (l28Line_at k _ _ (recS k T) _ ⟨rfl, HE2.out⟩ HPL.out hk).mono ?_; rintro e w1 ⟨rfl, hb1⟩; exact ⟨rfl, (HC.out _ _).2 ((hC.next (by first | (simp; done) | (simp; omega) | omega) hb1).skip _ (by rfl))⟩) | (exact ⟨(HC.out _ _).2 (((hC.store 11 ⟨w.heap.size, 0, none⟩ _ (Nat.le_refl _) rfl (by simp; omega) (by simp) (by simp)).store 11 ⟨w.heap.size, 1, none⟩ _ (Nat.le_refl _) rfl (by simp; omega) (by simp) (by simp)).mark 11 (by simp; exact ⟨by go_simp, by go_simp⟩)), rfl⟩)); go_simp) | (apply flow_yes; (case hw => go_simp); (intro L w' hun hrd hC; have hC := (HC.out _ _).1 hC; have hb' := hC.below; (try have hw' : Below w.heap.size w w' := by first | exact Below.trans (by (repeat (first | exact Below.refl _ _ | assumption | refine Below.al ?_ _ | refine Below.sc ?_ (by first | exact Nat.le_refl _ | (simp; done) | (simp; omega)) _ | refine Below.dr ?_ | refine Below.drN ?_ _ | refine Below.step ?_ (by assumption)))) hb' | ((repeat (first | exact Below.refl _ _ | assumption | refine Below.al ?_ _ | refine Below.sc ?_ (by first | exact Nat.le_refl _ | (simp; done) | (simp; omega)) _ | refine Below.dr ?_ | refine Below.drN ?_ _ | refine Below.step ?_ (by assumption))); done)); have hf' := hC.cell; (try simp only [List.forall_mem_cons] at hf'); have ha' := hC.at_; simp only [List.forall_mem_cons] at ha'; obtain ⟨⟨x0, hx0⟩, ⟨x1, hx1⟩, -⟩ := ha'; have hfr' := hC.fro; simp only [List.forall_mem_cons] at hfr'; go_simp; first | exact ⟨(HC.out _ _).2 (hC.skip _ (by rfl)), rfl⟩ | (rw [if_neg]; (exact ⟨(HC.out _ _).2 (hC.skip _ (by rfl)), rfl⟩); omega) | (go_at_call 43; refine (l28Good_at _ _ (recS k T) _ ⟨rfl, HE2.out⟩ HPL.out).mono ?_; rintro e w1 ⟨rfl, hb1⟩; exact ⟨rfl, (HC.out _ _).2 ((hC.next (by first | (simp; done) | (simp; omega) | omega) hb1).skip _ (by rfl))⟩) | (go_at_call 44; refine (l28Line_at k _ _ (recS k T) _ ⟨rfl, HE2.out⟩ HPL.out hk).mono ?_; rintro e w1 ⟨rfl, hb1⟩; exact ⟨rfl, (HC.out _ _).2 ((hC.next (by first | (simp; done) | (simp; omega) | omega) hb1).skip _ (by rfl))⟩) | (exact ⟨(HC.out _ _).2 (((hC.store 11 ⟨w.heap.size, 0, none⟩ _ (Nat.le_refl _) rfl (by simp; omega) (by simp) (by simp)).store 11 ⟨w.heap.size, 1, none⟩ _ (Nat.le_refl _) rfl (by simp; omega) (by simp) (by simp)).mark 11 (by simp; exact ⟨by go_simp, by go_simp⟩)), rfl⟩)); go_simp) | (apply flow_no; (case hw => go_simp); (intro L w' _ _ hC; exact (HC.out _ _).2 (((HC.out _ _).1 hC).skip _ (by rfl))); go_simp))
            refine flow_nil ?_
            intro L wz hL hz
            have hz := (HC.out _ _).1 hz
            have hbz := hz.below
            have hcz := hz.cell
            try simp only [List.forall_mem_cons] at hcz
            have hdz := hz.done
            try simp only [List.forall_mem_cons] at hdz
            have hfz := hz.fro
            simp only [List.forall_mem_cons] at hfz
            have hd0 := hdz.1 (by simpa using hL 11 (by simp))
            have hd1 := hdz.2.1 (by simpa using hL 11 (by simp))
            (try have hwz : Below w.heap.size w wz := by first | exact Below.trans (by (repeat (first | exact Below.refl _ _ | assumption | refine Below.al ?_ _ | refine Below.sc ?_ (by first | exact Nat.le_refl _ | (simp; done) | (simp; omega)) _ | refine Below.dr ?_ | refine Below.drN ?_ _ | refine Below.step ?_ (by assumption)))) hbz | ((repeat (first | exact Below.refl _ _ | assumption | refine Below.al ?_ _ | refine Below.sc ?_ (by first | exact Nat.le_refl _ | (simp; done) | (simp; omega)) _ | refine Below.dr ?_ | refine Below.drN ?_ _ | refine Below.step ?_ (by assumption))); done))
            go_wp2
            refine bodyPost_ret (v := .tuple #[.agg #[.string ⟨(cut1 (restS k T) 64).1.toArray⟩, .string E], .bool false]) (by simp only [results, Tryd.results69]; go_simp) rfl ⟨?_, by (repeat (first | exact Below.refl _ _ | assumption | refine Below.al ?_ _ | refine Below.sc ?_ (by first | exact Nat.le_refl _ | (simp; done) | (simp; omega)) _ | refine Below.dr ?_ | refine Below.drN ?_ _ | refine Below.step ?_ (by assumption)))⟩
            rw [HF.out, str_eq HE2.out]
            show Ending.returned (.tuple #[.agg #[.string ⟨(recS k T).1.toArray⟩, .string ⟨(recS k T).2.toArray⟩], .bool _]) = .returned (.tuple #[.agg #[.string ⟨(recS k T).1.toArray⟩, .string ⟨(recS k T).2.toArray⟩], .bool (goodR (recS k T) && (encR k (recS k T) == T ++ [10]))])
            rw [HG.out, HEQ.out]; rfl
          · obtain ⟨C, HC0⟩ := class_of (InF w.heap.size _ [(⟨w3.heap.size, 0, none⟩, .string ⟨(cut1 (restS k T) 64).1.toArray⟩), (⟨w3.heap.size, 1, none⟩, .string E)] [(11, ⟨w.heap.size, 0, none⟩, .string ⟨(cut1 (restS k T) 64).1.toArray⟩), (11, ⟨w.heap.size, 1, none⟩, .string E)] [])
            have HC := Lib.hid HC0
            clear HC0
            refine wp_region_flow (C := C) (by kernel_rfl) (by kernel_rfl) (fun L hL => (HC.out _ _).2 (InF.start (by first | (intro _ hs; cases hs; done) | (simp only [List.forall_mem_cons]; go_simp)) (by first | (intro _ hs; cases hs; done) | (simp only [List.forall_mem_cons]; go_simp)) (by first | (intro _ hs; cases hs; done) | (simp only [List.forall_mem_cons]; go_simp)) (by first | (intro _ hs; cases hs; done) | (simp only [List.forall_mem_cons]; go_simp)) L hL)) ?_
            repeat (first | (apply flow_free rfl; (intro L w' hun hrd hC; have hC := (HC.out _ _).1 hC; have hb' := hC.below; (try have hw' : Below w.heap.size w w' := by first | exact Below.trans (by (repeat (first | exact Below.refl _ _ | assumption | refine Below.al ?_ _ | refine Below.sc ?_ (by first | exact Nat.le_refl _ | (simp; done) | (simp; omega)) _ | refine Below.dr ?_ | refine Below.drN ?_ _ | refine Below.step ?_ (by assumption)))) hb' | ((repeat (first | exact Below.refl _ _ | assumption | refine Below.al ?_ _ | refine Below.sc ?_ (by first | exact Nat.le_refl _ | (simp; done) | (simp; omega)) _ | refine Below.dr ?_ | refine Below.drN ?_ _ | refine Below.step ?_ (by assumption))); done)); have hf' := hC.cell; (try simp only [List.forall_mem_cons] at hf'); have ha' := hC.at_; simp only [List.forall_mem_cons] at ha'; obtain ⟨⟨x0, hx0⟩, ⟨x1, hx1⟩, -⟩ := ha'; have hfr' := hC.fro; simp only [List.forall_mem_cons] at hfr'; go_simp; first | exact ⟨(HC.out _ _).2 (hC.skip _ (by rfl)), rfl⟩ | (rw [if_neg]; (exact ⟨(HC.out _ _).2 (hC.skip _ (by rfl)), rfl⟩); omega) | (go_at_call 43; refine (l28Good_at _ _ (recS k T) _ ⟨rfl, HE2.out⟩ HPL.out).mono ?_; rintro e w1 ⟨rfl, hb1⟩; exact ⟨rfl, (HC.out _ _).2 ((hC.next (by first | (simp; done) | (simp; omega) | omega) hb1).skip _ (by rfl))⟩) | (go_at_call 44; refine (l28Line_at k _ _ (recS k T) _ ⟨rfl, HE2.out⟩ HPL.out hk).mono ?_; rintro e w1 ⟨rfl, hb1⟩; exact ⟨rfl, (HC.out _ _).2 ((hC.next (by first | (simp; done) | (simp; omega) | omega) hb1).skip _ (by rfl))⟩) | (exact ⟨(HC.out _ _).2 (((hC.store 11 ⟨w.heap.size, 0, none⟩ _ (Nat.le_refl _) rfl (by simp; omega) (by simp) (by simp)).store 11 ⟨w.heap.size, 1, none⟩ _ (Nat.le_refl _) rfl (by simp; omega) (by simp) (by simp)).mark 11 (by simp; exact ⟨by go_simp, by go_simp⟩)), rfl⟩)); go_simp) | (apply flow_yes; (case hw => go_simp); (intro L w' hun hrd hC; have hC := (HC.out _ _).1 hC; have hb' := hC.below; (try have hw' : Below w.heap.size w w' := by first | exact Below.trans (by (repeat (first | exact Below.refl _ _ | assumption | refine Below.al ?_ _ | refine Below.sc ?_ (by first | exact Nat.le_refl _ | (simp; done) | (simp; omega)) _ | refine Below.dr ?_ | refine Below.drN ?_ _ | refine Below.step ?_ (by assumption)))) hb' | ((repeat (first | exact Below.refl _ _ | assumption | refine Below.al ?_ _ | refine Below.sc ?_ (by first | exact Nat.le_refl _ | (simp; done) | (simp; omega)) _ | refine Below.dr ?_ | refine Below.drN ?_ _ | refine Below.step ?_ (by assumption))); done)); have hf' := hC.cell; (try simp only [List.forall_mem_cons] at hf'); have ha' := hC.at_; simp only [List.forall_mem_cons] at ha'; obtain ⟨⟨x0, hx0⟩, ⟨x1, hx1⟩, -⟩ := ha'; have hfr' := hC.fro; simp only [List.forall_mem_cons] at hfr'; go_simp; first | exact ⟨(HC.out _ _).2 (hC.skip _ (by rfl)), rfl⟩ | (rw [if_neg]; (exact ⟨(HC.out _ _).2 (hC.skip _ (by rfl)), rfl⟩); omega) | (go_at_call 43; refine (l28Good_at _ _ (recS k T) _ ⟨rfl, HE2.out⟩ HPL.out).mono ?_; rintro e w1 ⟨rfl, hb1⟩; exact ⟨rfl, (HC.out _ _).2 ((hC.next (by first | (simp; done) | (simp; omega) | omega) hb1).skip _ (by rfl))⟩) | (go_at_call 44; refine (l28Line_at k _ _ (recS k T) _ ⟨rfl, HE2.out⟩ HPL.out hk).mono ?_; rintro e w1 ⟨rfl, hb1⟩; exact ⟨rfl, (HC.out _ _).2 ((hC.next (by first | (simp; done) | (simp; omega) | omega) hb1).skip _ (by rfl))⟩) | (exact ⟨(HC.out _ _).2 (((hC.store 11 ⟨w.heap.size, 0, none⟩ _ (Nat.le_refl _) rfl (by simp; omega) (by simp) (by simp)).store 11 ⟨w.heap.size, 1, none⟩ _ (Nat.le_refl _) rfl (by simp; omega) (by simp) (by simp)).mark 11 (by simp; exact ⟨by go_simp, by go_simp⟩)), rfl⟩)); go_simp) | (apply flow_no; (case hw => go_simp); (intro L w' _ _ hC; exact (HC.out _ _).2 (((HC.out _ _).1 hC).skip _ (by rfl))); go_simp))
            refine flow_nil ?_
            intro L wz hL hz
            have hz := (HC.out _ _).1 hz
            have hbz := hz.below
            have hcz := hz.cell
            try simp only [List.forall_mem_cons] at hcz
            have hdz := hz.done
            try simp only [List.forall_mem_cons] at hdz
            have hfz := hz.fro
            simp only [List.forall_mem_cons] at hfz
            have hd0 := hdz.1 (by simpa using hL 11 (by simp))
            have hd1 := hdz.2.1 (by simpa using hL 11 (by simp))
            (try have hwz : Below w.heap.size w wz := by first | exact Below.trans (by (repeat (first | exact Below.refl _ _ | assumption | refine Below.al ?_ _ | refine Below.sc ?_ (by first | exact Nat.le_refl _ | (simp; done) | (simp; omega)) _ | refine Below.dr ?_ | refine Below.drN ?_ _ | refine Below.step ?_ (by assumption)))) hbz | ((repeat (first | exact Below.refl _ _ | assumption | refine Below.al ?_ _ | refine Below.sc ?_ (by first | exact Nat.le_refl _ | (simp; done) | (simp; omega)) _ | refine Below.dr ?_ | refine Below.drN ?_ _ | refine Below.step ?_ (by assumption))); done))
            go_wp2
            refine bodyPost_ret (v := .tuple #[.agg #[.string ⟨(cut1 (restS k T) 64).1.toArray⟩, .string E], .bool true]) (by simp only [results, Tryd.results69]; go_simp) rfl ⟨?_, by (repeat (first | exact Below.refl _ _ | assumption | refine Below.al ?_ _ | refine Below.sc ?_ (by first | exact Nat.le_refl _ | (simp; done) | (simp; omega)) _ | refine Below.dr ?_ | refine Below.drN ?_ _ | refine Below.step ?_ (by assumption)))⟩
            rw [HF.out, str_eq HE2.out]
            show Ending.returned (.tuple #[.agg #[.string ⟨(recS k T).1.toArray⟩, .string ⟨(recS k T).2.toArray⟩], .bool _]) = .returned (.tuple #[.agg #[.string ⟨(recS k T).1.toArray⟩, .string ⟨(recS k T).2.toArray⟩], .bool (goodR (recS k T) && (encR k (recS k T) == T ++ [10]))])
            rw [HG.out, HEQ.out]; rfl
end Go.Proofs.YtofamefmodmekaaDoor
