/- The generator of texts of logs; the laws' look at a code. Conditions: sizes. -/
import Derived.Test.YtofamefmodmekaaDoorCur6
namespace Go.Proofs.YtofamefmodmekaaDoor
open Go.RowKit
theorem info_u8 : (Tryd.prog.info? 5).map (fun i => (i.zero, i.size, i.bytes)) = some (some (.int .u8 0), 1, 1) := by kernel_rfl
/-- A text of so many zero bytes. -/
theorem make_zero (n : Nat) (w : World) (hn : n ≤ 100000) : ∃ w' s, (Instr.makeSlice 53 (.int .i64 (n : Int)) (.int .i64 (n : Int))).run Tryd.prog w = .ok (.slice (some ⟨w.heap.size, 0, none⟩) n n) w' ∧
    (convert 53 9 (.slice (some ⟨w.heap.size, 0, none⟩) n n)).run Tryd.prog w' = .ok (.string s) w' ∧ s.size = n ∧ Below w.heap.size w w' := by
  obtain ⟨i, h1, h2, h3, h4⟩ := info_parts info_u8
  obtain ⟨w', hr, ho, hg⟩ := run_make_full (P := Tryd.prog) w w.heap.size 53 5 i (.int .u8 0) 1 Tryd.underlying53 h1 h2 h3 .i64 .i64 n (by rw [h4]; omega) (by unfold maxLen; omega) (Nat.le_refl _)
  have hb : Below w.heap.size w w' := ⟨hg.os, hg.tape, hg.output, hg.size, fun k hk => hg.block k hk (by simp)⟩
  refine ⟨w', ⟨(List.replicate n (0 : UInt8)).toArray⟩, hr, ?_, by show (List.replicate n (0 : UInt8)).length = n; simp, hb⟩
  have h := run_convert_bytes_back (P := Tryd.prog) w' 53 9 5 ⟨w.heap.size, 0, none⟩ n (List.replicate n 0) Tryd.underlying53 Tryd.underlying5 Tryd.underlying9 ?_
  · rw [List.length_replicate] at h; exact h
  · intro j hj
    have hj' : j < n := by simpa using hj
    have e : (⟨w.heap.size, 0, none⟩ : Addr).add j = ⟨w.heap.size, j, none⟩ := by unfold Addr.add; split <;> simp_all
    rw [e, ho.cellAt j (by omega)]
    simp [Value.cells, toList_madeCells_one, hj']
def DrawRecPost (w : World) (e : Ending) (w' : World) : Prop := ∃ s : ByteArray, e = .returned (.string s) ∧ s.size ≤ 40000 ∧ Below w.heap.size w w'
/-- The last statements: now and then a long text of zero bytes. -/
theorem len_itoa_small (k : Int) (h0 : 0 ≤ k) (h1 : k ≤ 9223372036854775807) (c r : ByteArray) (hc : c.size ≤ 20) (hr : r.size ≤ 20) : (encF k c.data.toList r.data.toList).length ≤ 200 := by
  have hi := itoa_len k (by omega) h1
  have hs := sumF_bd (bodyF k c.data.toList r.data.toList)
  have hj := itoa_len (sumF (bodyF k c.data.toList r.data.toList)) (by omega) (by omega)
  rw [size_list] at hc hr
  simp only [encF, sealF, bodyF, List.length_append, List.length_cons, List.length_nil] at hi hj ⊢
  omega
set_option maxRecDepth 100000 in
set_option maxHeartbeats 3200000 in
theorem drawRecover_any (pp : Option Addr) (nn cc : Nat) (w : World) (h : CodeIn w (.slice pp nn cc)) : Calls Tryd.prog 40 #[.slice pp nn cc] w (DrawRecPost w) := by
  have H := Lib.hid (fun (w1 : World) (hb : Below w.heap.size w w1) => cur_new h hb)
  clear h
  go_enter Tryd.func40, Tryd.ntmps40
  have HW := Lib.hid (H.out w (by (repeat (first | exact Below.refl _ _ | assumption | refine Below.al ?_ _ | refine Below.sc ?_ (by first | exact Nat.le_refl _ | (simp; done) | (simp; omega)) _ | refine Below.dr ?_ | refine Below.drN ?_ _ | refine Below.step ?_ (by assumption)))))
  go_wp2_with fail
  refine (log_any w.heap.size 0 _ HW.out (by omega)).mono ?_
  rintro e w1 ⟨_, rfl, ⟨d, p, n, rfl, hs, hn⟩, hc1, hg1⟩
  have HC1 := Lib.hid hc1
  clear hc1
  have ⟨c1, f1⟩ := gcell hg1
  have hz1 := hg1.size
  (try simp at hz1)
  have HS := Lib.hid (show DrawSt w.heap.size 80 w1.heap.size _ (w1.alloc (.cells #[.string d, .string p, .int .i64 n] 31)) d p n from ⟨HC1.out.al _, (gr_bel hg1 (by simp)).alloc (by omega) _, heap_alloc_new _ _⟩)
  clear hg1 c1 f1 HC1
  have hcat : ¬ 9223372036854775807 < d.size + p.size := by omega
  have HDP := Lib.hid (show (d ++ p).size ≤ 2424 by rw [ByteArray.size_append]; omega)
  go_wp2_with fail
  refine (pick_any w.heap.size 80 4 _ HS.out.cur (by omega) (by omega) (by omega)).mono ?_
  rintro e w2 ⟨_, rfl, ⟨r, rfl, hr0, hr1⟩, hc2, hg2⟩
  have HC2 := Lib.hid hc2
  clear hc2
  have ⟨c2, f2⟩ := gcell hg2
  have hz2 := hg2.size
  (try simp at hz2)
  have H2 := Lib.hid (HS.out.step hg2 HC2.out (by omega))
  clear HS HC2 hg2 c2 f2
  generalize d ++ p = t at *
  have ht := HDP.out
  rcases (by omega : r = 0 ∨ r = 1 ∨ r = 2 ∨ r = 3) with rfl | rfl | rfl | rfl
  · go_wp2_with fail
    refine (spoilt_any w.heap.size 82 t _ _ H2.out.cur (by omega) (by omega) (by decide) (by decide)).mono ?_
    rintro e w3 ⟨_, rfl, ⟨s3, rfl, hs3⟩, hc3, hg3⟩
    have HC3 := Lib.hid hc3
    clear hc3
    have ⟨c3, f3⟩ := gcell hg3
    have hz3 := hg3.size
    (try simp at hz3)
    have H3 := Lib.hid (H2.out.step hg3 HC3.out (by omega))
    have hs3' : s3.size ≤ 40000 := by omega
    clear H2 HC3 hg3 c3 f3
    go_wp2_with fail
    refine (one_any w.heap.size 90 40 _ (H3.out.cur.more (by omega) (by omega)) (by omega) (by omega) (by omega)).mono ?_
    rintro e w8 ⟨_, rfl, ⟨b, rfl⟩, hc8, hg8⟩
    have HC8 := Lib.hid hc8
    clear hc8
    have ⟨c8, f8⟩ := gcell hg8
    have hz8 := hg8.size
    (try simp at hz8)
    have H8 := Lib.hid (H3.out.step hg8 HC8.out (by omega))
    clear H3 HC8 hg8 c8 f8
    cases b
    · go_wp2
      go_ret
      exact ⟨_, rfl, hs3', (show Below w.heap.size w _ by (repeat (first | exact Below.refl _ _ | assumption | refine Below.al ?_ _ | refine Below.sc ?_ (by first | exact Nat.le_refl _ | (simp; done) | (simp; omega)) _ | refine Below.dr ?_ | refine Below.drN ?_ _ | refine Below.step ?_ (by assumption)))).trans (H8.out.bel)⟩
    · go_wp2_with fail
      refine (pick_any w.heap.size 100 2 _ (H8.out.cur.more (by omega) (by omega)) (by omega) (by omega) (by omega)).mono ?_
      rintro e w9 ⟨_, rfl, ⟨r9, rfl, hr90, hr91⟩, hc9, hg9⟩
      have HC9 := Lib.hid hc9
      clear hc9
      have ⟨c9, f9⟩ := gcell hg9
      have hz9 := hg9.size
      (try simp at hz9)
      have H9 := Lib.hid (H8.out.step hg9 HC9.out (by omega))
      obtain ⟨k9, hk9⟩ : ∃ k9 : Nat, 30000 + r9 = k9 := ⟨(30000 + r9).toNat, by omega⟩
      obtain ⟨w10, s10, hmk, hcv, hsz, hb10⟩ := make_zero k9 w9 (by omega)
      have HSZ := Lib.hid hsz
      have HB := Lib.hid hb10
      clear H8 HC9 hg9 c9 f9 hsz hb10
      go_wp2
      go_ret
      exact ⟨_, rfl, by have := HSZ.out; omega, ((show Below w.heap.size w _ by (repeat (first | exact Below.refl _ _ | assumption | refine Below.al ?_ _ | refine Below.sc ?_ (by first | exact Nat.le_refl _ | (simp; done) | (simp; omega)) _ | refine Below.dr ?_ | refine Below.drN ?_ _ | refine Below.step ?_ (by assumption)))).trans (H9.out.bel)).trans (HB.out.mono (by have := H9.out.bel.size; simp at this; omega))⟩
  · go_wp2_with fail
    refine (pick_any w.heap.size 82 _ _ H2.out.cur (by omega) (by omega) (by omega)).mono ?_
    rintro e w3 ⟨_, rfl, ⟨r3, rfl, hr30, hr31⟩, hc3, hg3⟩
    obtain ⟨j, rfl⟩ := Int.eq_ofNat_of_zero_le hr30
    have hj : j ≤ t.size := by omega
    have H3 := Lib.hid (H2.out.step hg3 hc3 (by omega))
    have hs3' : (t.extract 0 j).size ≤ 40000 := by simp; omega
    clear H2 hc3 hg3
    go_wp2_with fail
    refine (one_any w.heap.size 90 40 _ (H3.out.cur.more (by omega) (by omega)) (by omega) (by omega) (by omega)).mono ?_
    rintro e w8 ⟨_, rfl, ⟨b, rfl⟩, hc8, hg8⟩
    have HC8 := Lib.hid hc8
    clear hc8
    have ⟨c8, f8⟩ := gcell hg8
    have hz8 := hg8.size
    (try simp at hz8)
    have H8 := Lib.hid (H3.out.step hg8 HC8.out (by omega))
    clear H3 HC8 hg8 c8 f8
    cases b
    · go_wp2
      go_ret
      exact ⟨_, rfl, hs3', (show Below w.heap.size w _ by (repeat (first | exact Below.refl _ _ | assumption | refine Below.al ?_ _ | refine Below.sc ?_ (by first | exact Nat.le_refl _ | (simp; done) | (simp; omega)) _ | refine Below.dr ?_ | refine Below.drN ?_ _ | refine Below.step ?_ (by assumption)))).trans (H8.out.bel)⟩
    · go_wp2_with fail
      refine (pick_any w.heap.size 92 2 _ (H8.out.cur.more (by omega) (by omega)) (by omega) (by omega) (by omega)).mono ?_
      rintro e w9 ⟨_, rfl, ⟨r9, rfl, hr90, hr91⟩, hc9, hg9⟩
      have HC9 := Lib.hid hc9
      clear hc9
      have ⟨c9, f9⟩ := gcell hg9
      have hz9 := hg9.size
      (try simp at hz9)
      have H9 := Lib.hid (H8.out.step hg9 HC9.out (by omega))
      obtain ⟨k9, hk9⟩ : ∃ k9 : Nat, 30000 + r9 = k9 := ⟨(30000 + r9).toNat, by omega⟩
      obtain ⟨w10, s10, hmk, hcv, hsz, hb10⟩ := make_zero k9 w9 (by omega)
      have HSZ := Lib.hid hsz
      have HB := Lib.hid hb10
      clear H8 HC9 hg9 c9 f9 hsz hb10
      go_wp2
      go_ret
      exact ⟨_, rfl, by have := HSZ.out; omega, ((show Below w.heap.size w _ by (repeat (first | exact Below.refl _ _ | assumption | refine Below.al ?_ _ | refine Below.sc ?_ (by first | exact Nat.le_refl _ | (simp; done) | (simp; omega)) _ | refine Below.dr ?_ | refine Below.drN ?_ _ | refine Below.step ?_ (by assumption)))).trans (H9.out.bel)).trans (HB.out.mono (by have := H9.out.bel.size; simp at this; omega))⟩
  · go_wp2_with fail
    refine (pick_any w.heap.size 82 4 _ H2.out.cur (by omega) (by omega) (by omega)).mono ?_
    rintro e w3 ⟨_, rfl, ⟨r3, rfl, hr30, hr31⟩, hc3, hg3⟩
    have HC3 := Lib.hid hc3
    clear hc3
    have ⟨c3, f3⟩ := gcell hg3
    have hz3 := hg3.size
    (try simp at hz3)
    have H3 := Lib.hid (H2.out.step hg3 HC3.out (by omega))
    clear H2 HC3 hg3 c3 f3
    go_wp2_with fail
    refine (logRecord_any w.heap.size 84 _ H3.out.cur (by omega)).mono ?_
    rintro e w4 ⟨_, rfl, ⟨c, r4, rfl, hcs, hrs⟩, hc4, hg4⟩
    have HC4 := Lib.hid hc4
    clear hc4
    have ⟨c4, f4⟩ := gcell hg4
    have hz4 := hg4.size
    (try simp at hz4)
    have H4 := Lib.hid (H3.out.step hg4 HC4.out (by omega))
    clear H3 HC4 hg4 c4 f4
    have hel := len_itoa_small r3 hr30 (by omega) c r4 hcs hrs
    have hcat2 : ¬ 9223372036854775807 < t.size + (encF r3 c.data.toList r4.data.toList).length := by omega
    go_wp2_with fail
    refine (l28Line_any r3 c r4 _ hr30 (by omega) (by omega)).mono ?_
    rintro e w5 ⟨rfl, hb5⟩
    have ⟨cw5, fw5⟩ := bcell hb5
    have qw5 := hb5.size
    (try simp at qw5)
    (try have zw5w := bsz (show w.heap.size < w5.heap.size by omega))
    have H5 := Lib.hid (H4.out.below hb5)
    have hs3' : (t ++ (⟨(encF r3 c.data.toList r4.data.toList).toArray⟩ : ByteArray)).size ≤ 40000 := by rw [ByteArray.size_append]; show _ + (encF r3 c.data.toList r4.data.toList).length ≤ _; omega
    clear H4 hb5 cw5 fw5 hel
    go_wp2_with fail
    refine (one_any w.heap.size 94 40 _ H5.out.cur (by omega) (by omega) (by omega)).mono ?_
    rintro e w8 ⟨_, rfl, ⟨b, rfl⟩, hc8, hg8⟩
    have HC8 := Lib.hid hc8
    clear hc8
    have ⟨c8, f8⟩ := gcell hg8
    have hz8 := hg8.size
    (try simp at hz8)
    have H8 := Lib.hid (H5.out.step hg8 HC8.out (by omega))
    clear H5 HC8 hg8 c8 f8
    cases b
    · go_wp2
      go_ret
      exact ⟨_, rfl, hs3', (show Below w.heap.size w _ by (repeat (first | exact Below.refl _ _ | assumption | refine Below.al ?_ _ | refine Below.sc ?_ (by first | exact Nat.le_refl _ | (simp; done) | (simp; omega)) _ | refine Below.dr ?_ | refine Below.drN ?_ _ | refine Below.step ?_ (by assumption)))).trans (H8.out.bel)⟩
    · go_wp2_with fail
      refine (pick_any w.heap.size 100 2 _ (H8.out.cur.more (by omega) (by omega)) (by omega) (by omega) (by omega)).mono ?_
      rintro e w9 ⟨_, rfl, ⟨r9, rfl, hr90, hr91⟩, hc9, hg9⟩
      have HC9 := Lib.hid hc9
      clear hc9
      have ⟨c9, f9⟩ := gcell hg9
      have hz9 := hg9.size
      (try simp at hz9)
      have H9 := Lib.hid (H8.out.step hg9 HC9.out (by omega))
      obtain ⟨k9, hk9⟩ : ∃ k9 : Nat, 30000 + r9 = k9 := ⟨(30000 + r9).toNat, by omega⟩
      obtain ⟨w10, s10, hmk, hcv, hsz, hb10⟩ := make_zero k9 w9 (by omega)
      have HSZ := Lib.hid hsz
      have HB := Lib.hid hb10
      clear H8 HC9 hg9 c9 f9 hsz hb10
      go_wp2
      go_ret
      exact ⟨_, rfl, by have := HSZ.out; omega, ((show Below w.heap.size w _ by (repeat (first | exact Below.refl _ _ | assumption | refine Below.al ?_ _ | refine Below.sc ?_ (by first | exact Nat.le_refl _ | (simp; done) | (simp; omega)) _ | refine Below.dr ?_ | refine Below.drN ?_ _ | refine Below.step ?_ (by assumption)))).trans (H9.out.bel)).trans (HB.out.mono (by have := H9.out.bel.size; simp at this; omega))⟩
  · have hs3' : t.size ≤ 40000 := by omega
    go_wp2_with fail
    refine (one_any w.heap.size 82 40 _ H2.out.cur (by omega) (by omega) (by omega)).mono ?_
    rintro e w8 ⟨_, rfl, ⟨b, rfl⟩, hc8, hg8⟩
    have HC8 := Lib.hid hc8
    clear hc8
    have ⟨c8, f8⟩ := gcell hg8
    have hz8 := hg8.size
    (try simp at hz8)
    have H8 := Lib.hid (H2.out.step hg8 HC8.out (by omega))
    clear H2 HC8 hg8 c8 f8
    cases b
    · go_wp2
      go_ret
      exact ⟨_, rfl, hs3', (show Below w.heap.size w _ by (repeat (first | exact Below.refl _ _ | assumption | refine Below.al ?_ _ | refine Below.sc ?_ (by first | exact Nat.le_refl _ | (simp; done) | (simp; omega)) _ | refine Below.dr ?_ | refine Below.drN ?_ _ | refine Below.step ?_ (by assumption)))).trans (H8.out.bel)⟩
    · go_wp2_with fail
      refine (pick_any w.heap.size 100 2 _ (H8.out.cur.more (by omega) (by omega)) (by omega) (by omega) (by omega)).mono ?_
      rintro e w9 ⟨_, rfl, ⟨r9, rfl, hr90, hr91⟩, hc9, hg9⟩
      have HC9 := Lib.hid hc9
      clear hc9
      have ⟨c9, f9⟩ := gcell hg9
      have hz9 := hg9.size
      (try simp at hz9)
      have H9 := Lib.hid (H8.out.step hg9 HC9.out (by omega))
      obtain ⟨k9, hk9⟩ : ∃ k9 : Nat, 30000 + r9 = k9 := ⟨(30000 + r9).toNat, by omega⟩
      obtain ⟨w10, s10, hmk, hcv, hsz, hb10⟩ := make_zero k9 w9 (by omega)
      have HSZ := Lib.hid hsz
      have HB := Lib.hid hb10
      clear H8 HC9 hg9 c9 f9 hsz hb10
      go_wp2
      go_ret
      exact ⟨_, rfl, by have := HSZ.out; omega, ((show Below w.heap.size w _ by (repeat (first | exact Below.refl _ _ | assumption | refine Below.al ?_ _ | refine Below.sc ?_ (by first | exact Nat.le_refl _ | (simp; done) | (simp; omega)) _ | refine Below.dr ?_ | refine Below.drN ?_ _ | refine Below.step ?_ (by assumption)))).trans (H9.out.bel)).trans (HB.out.mono (by have := H9.out.bel.size; simp at this; omega))⟩
end Go.Proofs.YtofamefmodmekaaDoor
