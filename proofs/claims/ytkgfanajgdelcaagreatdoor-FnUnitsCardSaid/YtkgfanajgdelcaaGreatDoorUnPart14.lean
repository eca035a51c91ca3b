/- slices.SortFunc of a short row of units by name. Conditions: at most twelve, no name twice. -/
import Derived.Test.YtkgfanajgdelcaaGreatDoorUnPart2
import Derived.Test.YtkgfanajgdelcaaGreatDoorUnPart4
import Derived.Test.YtkgfanajgdelcaaGreatDoorUnPart9
import Derived.Test.YtkgfanajgdelcaaGreatDoorUnPart10
import Derived.Test.YtkgfanajgdelcaaGreatDoorUnPart11
import Derived.Test.YtkgfanajgdelcaaGreatDoorUnPart13
namespace Go.Proofs.YtkgfanajgdelcaaGreatDoor
open Go.RowKit
theorem code_in_below {w w1 : World} {v : Value} (h : CodeIn w v) (hb : Below w.heap.size w w1) : CodeIn w1 v := by
  obtain ⟨code, h1, h2⟩ := h
  exact ⟨code, h1, h2.mono (fun b hb' hlt => hb.block b hlt) (fun b hb' => Nat.lt_of_lt_of_le hb' hb.size) (fun _ _ _ h => h)⟩
theorem l1Least_any (a b : Int) (w : World) : Calls Tryz.prog 64 #[.int .i64 a, .int .i64 b] w fun e w' => e = .returned (.int .i64 (if a < b then a else b)) ∧ w = w' := by
  by_cases hab : a < b
  · go_enter Tryz.func64, Tryz.ntmps64
    go_wp2
    go_ret
    exact ⟨rfl, rfl⟩
  · go_enter Tryz.func64, Tryz.ntmps64
    go_wp2
    go_ret
    exact ⟨rfl, rfl⟩
theorem strsAt_row {B : Nat → Prop} {w : World} {base g n c : Nat} {e : TypeId} {xs : List Value} {us : List ByteArray} (h : w.ownsRow base e 1 (.slice (some ⟨g, 0, none⟩) n c) n xs) (hn : n = us.length) (hm : n ≤ maxLen) (hB : B g) (hz : ∀ s ∈ us, s.size ≤ maxLen)
    (hR : ∀ (j : Nat) (t : ByteArray), us[j]? = some t → xs[j]? = some (Value.string t)) : StrsAt B w (.slice (some ⟨g, 0, none⟩) n c) us := by
  subst hn
  refine ⟨_, _, rfl, hm, fun i t ht => ⟨g, 0, rfl, hB, [Value.string t], rfl, fun j hj => ?_, rfl, hz t (List.mem_of_getElem? ht)⟩⟩
  have hi : i < us.length := (List.getElem?_eq_some_iff.1 ht).1
  obtain rfl : j = 0 := by omega
  rw [Nat.zero_add, Nat.mul_one, Nat.add_zero, h.cellAt i (by omega)]
  simpa using hR i t ht
def DrawUn (w : World) (e : Ending) (w' : World) : Prop := ∃ (u : Un) (v0 v1 v2 v3 : Value), e = .returned (.agg #[v0, v1, v2, v3]) ∧ UnAt (NewB w w') w' u [v0, v1, v2, v3] ∧ u.wt ≤ 1000 ∧ Below w.heap.size w w'
theorem un_moved {w w2 w3 : World} {k n : Nat} {u : Un} {cs : List Value} (h : UnAt (fun b => n ≤ b ∧ b < w2.heap.size) w2 u cs) (hz : w3.heap.size = w2.heap.size) (ho : ∀ b, b ≠ k → w3.heap[b]? = w2.heap[b]?) (hk : k < n) (hw : w.heap.size ≤ n) : UnAt (NewB w w3) w3 u cs :=
  h.mono (fun b hb _ => ho b (by have := hb.1; omega)) (fun b hb => ⟨by have := hb.1; omega, by rw [hz]; exact hb.2⟩)
theorem UC.Own.at_ {e : TypeId} {base : Nat} {w : World} {x : UC} (h : x.Own e base w) (hw : x.u.wt ≤ 1000) : UnAt (fun b => base ≤ b ∧ b < w.heap.size) w x.u [.string x.u.name, .slice x.p x.u.incs.length x.c, .slice x.q x.u.axs.length x.d, .string x.u.goal] := by
  obtain ⟨z1, z2, z3, z4, -, -⟩ := wt_sizes hw
  have hm : ∀ k, k ≤ 1000 → k ≤ maxLen := fun k hk => by unfold maxLen; omega
  exact ((h.un (hm _ z1) (hm _ z2) (fun s hs => hm _ (z3 s hs)) (fun s hs => hm _ (z4 s hs))).at_).mono (SameOn.refl _ _) (fun b hb => h.blk hb)
set_option maxRecDepth 100000 in
set_option maxHeartbeats 3200000 in
theorem drawIVU_any (pp : Option Addr) (nn cc : Nat) (w : World) (h : CodeIn w (.slice pp nn cc)) : Calls Tryz.prog 58 #[.slice pp nn cc] w (DrawUn w) := by
  have H := Lib.hid (fun (w1 : World) (hb : Below w.heap.size w w1) => cur_new h hb)
  clear h
  have HR0 := Lib.hid (show (w.alloc (.cells #[.string ⟨#[]⟩, .slice none 0 0, .slice none 0 0, .string ⟨#[]⟩] 34)).heap[w.heap.size]? = some (.cells #[.string ⟨#[]⟩, .slice none 0 0, .slice none 0 0, .string ⟨#[]⟩] 34 (0, 0)) from heap_alloc_new w _)
  have HW := Lib.hid (show Cur ((w.alloc (.cells #[.string ⟨#[]⟩, .slice none 0 0, .slice none 0 0, .string ⟨#[]⟩] 34)).alloc (.cells #[.slice pp nn cc, .int .i64 0, .int .u64 0] 72)) (w.heap.size + 1) 0 by simpa using H.out (w.alloc (.cells #[.string ⟨#[]⟩, .slice none 0 0, .slice none 0 0, .string ⟨#[]⟩] 34)) (by exact bel))
  go_enter Tryz.func58, Tryz.ntmps58
  go_wp2_with fail
  refine (library_any (w.heap.size + 1) 0 _ HW.out (by omega)).mono ?_
  rintro e w1 ⟨_, rfl, ⟨us, hus, hl, hwt⟩, hc1, hg1⟩
  have HC1 := Lib.hid hc1
  clear hc1
  have ⟨c1, f1⟩ := gcell hg1
  have hz1 := hg1.size
  (try simp at hz1)
  rename_i v1
  obtain ⟨p, c, rfl, -⟩ := hus.form
  have HU := Lib.hid hus
  have hb01 : Below w.heap.size w w1 := (show Below w.heap.size w _ by exact bel).trans (gr_to_below (B := w.heap.size) hg1 (by omega) (by simp; omega))
  have HG1 := Lib.hid hg1
  have hr1 : w1.heap[w.heap.size]? = some (.cells #[.string ⟨#[]⟩, .slice none 0 0, .slice none 0 0, .string ⟨#[]⟩] 34 (0, 0)) := (hg1.block w.heap.size (by simp; omega) (fun e => by injection e with e; omega)).trans ((hao _ _ _ (by simp)).trans HR0.out)
  have HR1 := Lib.hid hr1
  have zr1 := bsz (blk_lt hr1)
  clear hus hr1 hg1 c1 f1
  by_cases h0 : us.length = 0
  · rw [h0]
    obtain ⟨W1, hW1⟩ : ∃ q : World, q = w1.alloc (.cells #[.string ⟨#[97]⟩, .string ⟨#[98]⟩] 9) := ⟨_, rfl⟩
    have HN := Lib.hid (show StrsAt (fun b => b = w1.heap.size) W1 (.slice (some ⟨w1.heap.size, 0, none⟩) 2 2) [⟨#[97]⟩, ⟨#[98]⟩] from
      strsAt_row (own_block (base := 0) (size := 1) (xs := [.string ⟨#[97]⟩, .string ⟨#[98]⟩]) (by rw [hW1]; exact heap_alloc_new w1 _) (Nat.zero_le _) (Nat.le_refl _) (by decide) rfl rfl) rfl (by decide) rfl (by decide) (by intro j t ht; rcases j with _ | _ | j <;> simp at ht ⊢; exact ht; exact ht))
    have HC := Lib.hid (show Cur W1 (w.heap.size + 1) (0 + 400) by rw [hW1]; exact HC1.out.al _)
    have hr1 : W1.heap[w.heap.size]? = some (.cells #[.string ⟨#[]⟩, .slice none 0 0, .slice none 0 0, .string ⟨#[]⟩] 34 (0, 0)) := by rw [hW1]; exact (hao _ _ _ zr1.1).trans HR1.out
    have hb11 : Below w1.heap.size w1 W1 := by rw [hW1]; exact (Below.refl _ _).alloc (Nat.le_refl _) _
    have hs1 : W1.heap.size = w1.heap.size + 1 := by rw [hW1]; simp
    have HRW := Lib.hid hr1
    clear hr1
    go_wp2_with fail
    rw [← hW1]
    clear hW1
    refine (unit_any (w.heap.size + 1) (0 + 400) ⟨#[98, 97, 115, 101]⟩ (.slice (some ⟨w1.heap.size, 0, none⟩) 2 2) [⟨#[97]⟩, ⟨#[98]⟩] _ HC.out (by omega) HN.out (fun b hb => by omega) (by decide) (by decide) (by decide)).mono ?_
    rintro e w2 ⟨_, rfl, ⟨u, p4, c4, p7, c7, rfl, hun, hown, hwt2⟩, hc2, hg2⟩
    have hq2 := hg2.size
    have hr2 : w2.heap[w.heap.size]? = some (.cells #[.string ⟨#[]⟩, .slice none 0 0, .slice none 0 0, .string ⟨#[]⟩] 34 (0, 0)) := (hg2.block w.heap.size (by omega) (fun e => by injection e with e; omega)).trans HRW.out
    obtain ⟨r0, r1, r2, r3, rf⟩ := row4_cells hr2
    have zr2 := bsz (blk_lt hr2)
    have hb02 : Below w.heap.size w w2 := (Below.step hb01 hb11).trans (gr_to_below (B := w.heap.size) hg2 (by omega) (by omega))
    have hnm : u.name.size ≤ 10 := by rw [hun]; decide
    have HOW := Lib.hid (hown.at_ (by show u.wt ≤ 1000; omega))
    obtain ⟨un, ui, ua, ug⟩ := u
    simp only at hun hnm
    subst hun
    clear hr2 hc2 hg2 hown
    go_wp2
    refine bodyPost_ret (v := .agg #[.string ⟨#[98, 97, 115, 101]⟩, .slice p4 ui.length c4, .slice p7 ua.length c7, .string ug]) (by simp only [results, Tryz.results58]; go_simp) rfl ⟨⟨_, ui, ua, ug⟩, _, _, _, _, rfl, ?_, Nat.le_trans hwt2 (by decide), ?_⟩
    · exact un_moved HOW.out (k := w.heap.size) (by simp) (fun b hb => set4_other w2 _ _ _ _ hb) (by omega) (by omega)
    · exact bel
  · have hz0 : ((us.length : Int) == 0) = false := by simp; intro e; exact h0 (by rw [e]; rfl)
    go_wp2_with fail
    refine (pick_any (w.heap.size + 1) (0 + 400) us.length _ HC1.out (by omega) (by omega) (by omega)).mono ?_
    rintro e w2 ⟨_, rfl, ⟨r1, rfl, hr1, hr2⟩, hc2, hg2⟩
    have HC2 := Lib.hid hc2
    clear hc2
    have ⟨c2, f2⟩ := gcell hg2
    have hz2 := hg2.size
    (try simp at hz2)
    clear c2 f2
    obtain ⟨r, rfl⟩ : ∃ r : Nat, r1 = (r : Int) := ⟨r1.toNat, by omega⟩
    have hrk : (r : Int) < us.length := by omega
    have hrl : r < us.length := by omega
    obtain ⟨b, o, rfl, hB, p1, c1, p2, c2, hx0, hx1, hx2, hx3, hx⟩ := (HU.out.mono (w' := w2) (sameOn_grown hg2 (fun b hb => by have := hb.1; simp at this; omega)) (fun _ h => h)).at_ hrl
    have hr2 : w2.heap[w.heap.size]? = some (.cells #[.string ⟨#[]⟩, .slice none 0 0, .slice none 0 0, .string ⟨#[]⟩] 34 (0, 0)) := (hg2.block w.heap.size zr1.1 (fun e => by injection e with e; omega)).trans HR1.out
    obtain ⟨r0, q1, q2, q3, rf⟩ := row4_cells hr2
    have zr2 := bsz (blk_lt hr2)
    have zb := bsz (World.block_lt_of_cell? _ _ hx0)
    have hb02 : Below w.heap.size w w2 := hb01.trans (gr_to_below (B := w.heap.size) hg2 (by omega) (by omega))
    have hwtr := hwt _ (List.getElem_mem hrl)
    obtain ⟨u, hu⟩ : ∃ u, us[r] = u := ⟨_, rfl⟩
    rw [hu] at hx0 hx1 hx2 hx3 hx hwtr
    have HX := Lib.hid hx
    have hbb : w.heap.size < b := by have := hB.1; simp at this; omega
    have HG2 := Lib.hid hg2
    have HBB := Lib.hid hbb
    have HWR := Lib.hid hwtr
    have HB := Lib.hid hB
    clear hx hu hr2 hg2 hbb hwtr hB hwt hl
    go_wp2
    refine bodyPost_ret (v := .agg #[.string u.name, .slice p1 u.incs.length c1, .slice p2 u.axs.length c2, .string u.goal]) (by simp only [results, Tryz.results58]; go_simp) rfl ⟨u, _, _, _, _, rfl, ?_, HWR.out, ?_⟩
    · exact un_moved (HX.out.mono (SameOn.refl _ _) (fun b hb => ⟨(show _ ≤ b from hb.1), by have := (show b < _ from hb.2); have := HG2.out.size; omega⟩)) (k := w.heap.size) (by simp) (fun b hb => set4_other w2 _ _ _ _ hb) (by simp; omega) (by simp; omega)
    · exact bel
set_option maxRecDepth 100000 in
set_option maxHeartbeats 3200000 in
theorem drawFU_any (pp : Option Addr) (nn cc : Nat) (w : World) (h : CodeIn w (.slice pp nn cc)) : Calls Tryz.prog 21 #[.slice pp nn cc] w (DrawUn w) := by
  obtain ⟨W, hW⟩ : ∃ W : World, W = w.alloc (.cells #[.string ⟨#[]⟩, .slice none 0 0, .slice none 0 0, .string ⟨#[]⟩] 34) := ⟨_, rfl⟩
  have hbW : Below w.heap.size w W := by rw [hW]; exact bel
  have hWs : W.heap.size = w.heap.size + 1 := by rw [hW]; simp
  have HR0 := Lib.hid (show W.heap[w.heap.size]? = some (.cells #[.string ⟨#[]⟩, .slice none 0 0, .slice none 0 0, .string ⟨#[]⟩] 34 (0, 0)) by rw [hW]; exact heap_alloc_new w _)
  have H := Lib.hid (code_in_below h hbW)
  clear h
  go_enter Tryz.func21, Tryz.ntmps21
  go_wp2_with fail
  rw [← hW]
  clear hW
  refine (drawIVU_any pp nn cc _ H.out).mono ?_
  rintro e w1 ⟨u, v0, v1, v2, v3, rfl, hu, hwt, hb1⟩
  obtain ⟨p, c, q, d, rfl, rfl, rfl, rfl, -⟩ := hu.form
  have HX := Lib.hid hu
  have hr1 : w1.heap[w.heap.size]? = some (.cells #[.string ⟨#[]⟩, .slice none 0 0, .slice none 0 0, .string ⟨#[]⟩] 34 (0, 0)) := (hb1.block _ (by omega)).trans HR0.out
  obtain ⟨r0, q1, q2, q3, rf⟩ := row4_cells hr1
  have zr1 := bsz (blk_lt hr1)
  have hb01 := Below.step hbW hb1
  have hqz := hb1.size
  clear hu hr1
  go_wp2
  refine bodyPost_ret (v := .agg #[.string u.name, .slice p u.incs.length c, .slice q u.axs.length d, .string u.goal]) (by simp only [results, Tryz.results21]; go_simp) rfl ⟨u, _, _, _, _, rfl, ?_, hwt, ?_⟩
  · exact un_moved HX.out (k := w.heap.size) (by simp) (fun b hb => set4_other w1 _ _ _ _ hb) (by omega) (by omega)
  · exact bel
open Go.RowKit
def CodeCap (w : World) (p : Option Addr) (n c : Nat) : Prop := CodeIn w (.slice p n c) ∧ n ≤ c
theorem CodeCap.tail {w : World} {p : Option Addr} {n c : Nat} (h : CodeCap w p n c) (h0 : 0 < n) : ∃ b o, p = some ⟨b, o, none⟩ ∧ CodeIn w (.slice (some ⟨b, o + 1, none⟩) (n - 1) (c - 1)) ∧ CodeIn w (.slice (some ⟨b, o, none⟩) 0 (c - 1)) := by
  obtain ⟨⟨code, h1, h2⟩, h3⟩ := h
  obtain ⟨q, d, he, hl, hat⟩ := h2
  simp only [Value.slice.injEq] at he
  obtain ⟨rfl, rfl, rfl⟩ := he
  obtain ⟨b, o, rfl, hB, -⟩ := hat 0 code[0] (List.getElem?_eq_getElem h0)
  refine ⟨b, o, rfl, ⟨code.drop 1, by rw [List.length_drop]; omega, _, _, by rw [List.length_drop], by rw [List.length_drop]; omega, fun i x hx => ?_⟩, ⟨[], by simp, ListAt.nil _ _ _ _ _ _⟩⟩
  rw [List.getElem?_drop] at hx
  obtain ⟨b', o', e, hB', cs, h5, h6, h7⟩ := hat (1 + i) x hx
  simp only [Option.some.injEq, Addr.mk.injEq, and_true] at e
  obtain ⟨rfl, rfl⟩ := e
  exact ⟨b, o + 1, rfl, hB', cs, h5, fun j hj => by have := h6 j hj; rw [show o + 1 + i * 1 + j = o + (1 + i) * 1 + j by omega]; exact this, h7⟩
theorem txt_len {u : Un} (h : u.wt ≤ 1000) : u.txt.length ≤ 30000 := by
  have h7 : (if u.goal.toList == [] then ([] : List UInt8) else lineU kwGoal u.goal).length ≤ 6 + u.goal.size := by
    split
    · simp
    · rw [lineU_len]; simp [kwGoal]; omega
  rw [Un.wt] at h
  rw [Un.txt, List.length_append, List.length_append, List.length_append, linesU_len, linesU_len, lineU_len]
  simp [kwUnit, kwInc, kwAx]
  simp at h7
  omega
set_option maxRecDepth 100000 in
set_option maxHeartbeats 3200000 in
theorem drawPU_any (p : Option Addr) (n c : Nat) (w : World) (h : CodeCap w p n c) (hn : n ≤ 65536) : Calls Tryz.prog 25 #[.slice p n c] w fun e w' => ∃ s : ByteArray, e = .returned (.string s) ∧ s.size ≤ 1000000 ∧ Below w.heap.size w w' := by
  have HT := Lib.hid (fun h0 => h.tail h0)
  have HC0 := Lib.hid (cur_new h.1 (Below.refl w.heap.size w))
  have hnc := h.2
  have hg0 : w.heap.size < (w.alloc (.cells #[.slice p n c, .int .i64 0, .int .u64 0] 72)).heap.size := by simp
  by_cases h0 : n = 0
  · have HI := Lib.hid h.1
    subst h0
    clear h
    go_enter Tryz.func25, Tryz.ntmps25
    go_wp2_with fail
    refine (l1Least_any _ _ _).mono ?_
    rintro e w' ⟨rfl, rfl⟩
    go_wp2_with fail
    refine (drawIVU_any _ _ _ _ (code_in_below HI.out (show Below w.heap.size w _ by exact bel))).mono ?_
    rintro e w1 ⟨u, v0, v1, v2, v3, rfl, hu, hwt, hb1⟩
    obtain ⟨p1, c1, q1, d1, rfl, rfl, rfl, rfl, -⟩ := hu.form
    have HU := Lib.hid hu
    have HC1 := Lib.hid (HC0.out.below hb1)
    have hb01 := Below.step ((Below.refl w.heap.size w).alloc (Nat.le_refl _) (.cells #[_, .int .i64 0, .int .u64 0] 72)) hb1
    have hqq := hb01.size
    clear hu
    go_wp2_with fail
    refine (l27Lines_any u _ _ _ _ _ HU.out (by omega)).mono ?_
    rintro e w2 ⟨rfl, hb2⟩
    have HC2 := Lib.hid (HC1.out.below hb2)
    have hb02 := Below.step hb01 hb2
    have hqq2 := hb02.size
    have hts : (⟨u.txt.toArray⟩ : ByteArray).size ≤ 30000 := by have := txt_len hwt; simpa [ByteArray.size] using this
    obtain ⟨t, ht⟩ : ∃ t, (⟨u.txt.toArray⟩ : ByteArray) = t := ⟨_, rfl⟩
    rw [ht] at hts
    rw [ht]
    clear ht
    go_wp2_with fail
    refine (one_any w.heap.size 0 4 _ HC2.out (by omega) (by omega) (by omega)).mono ?_
    rintro e w3 ⟨_, rfl, ⟨y, rfl⟩, hc3, hg3⟩
    have HC3 := Lib.hid hc3
    clear hc3
    have ⟨c3, f3⟩ := gcell hg3
    have hz3 := hg3.size
    (try simp at hz3)
    have hb03 := hb02.trans (gr_to_below (B := w.heap.size) hg3 (by omega) (by omega))
    clear hg3 c3 f3 hb1 hb2 hb01 hb02
    cases y
    · go_wp2
      go_ret
      exact ⟨t, rfl, by omega, by exact bel⟩
    · go_wp2_with fail
      refine (spoilt_any w.heap.size (0 + 2) t ⟨#[10, 117, 97, 32, 112]⟩ _ HC3.out (by omega) (by omega) (by decide) (by decide)).mono ?_
      rintro e w4 ⟨_, rfl, ⟨s, rfl, hs⟩, hc4, hg4⟩
      have HC4 := Lib.hid hc4
      clear hc4
      have ⟨c4, f4⟩ := gcell hg4
      have hz4 := hg4.size
      (try simp at hz4)
      have hq3 := hb03.size
      have hb04 := hb03.trans (gr_to_below (B := w.heap.size) hg4 (by omega) (by omega))
      clear hg4 c4 f4 hb03
      go_wp2
      go_ret
      exact ⟨s, rfl, by omega, by exact bel⟩
  · obtain ⟨b, o, rfl, hc1, hc2⟩ := h.tail (by omega)
    have HI1 := Lib.hid hc1
    have HI2 := Lib.hid hc2
    clear h hc1 hc2
    have hn1 : ¬ ((n : Int) < 1) := by omega
    have hn2 : (1 : Int) ≤ n := by omega
    have hn3 : (n : Int) ≤ c := by omega
    by_cases hc : c = 1
    · obtain rfl : n = 1 := by omega
      subst hc
      go_enter Tryz.func25, Tryz.ntmps25
      go_wp2_with fail
      refine (l1Least_any _ _ _).mono ?_
      rintro e w' ⟨rfl, rfl⟩
      go_wp2_with fail
      refine (drawIVU_any _ _ _ _ (code_in_below HI2.out (show Below w.heap.size w _ by exact bel))).mono ?_
      rintro e w1 ⟨u, v0, v1, v2, v3, rfl, hu, hwt, hb1⟩
      obtain ⟨p1, c1, q1, d1, rfl, rfl, rfl, rfl, -⟩ := hu.form
      have HU := Lib.hid hu
      have HC1 := Lib.hid (HC0.out.below hb1)
      have hb01 := Below.step ((Below.refl w.heap.size w).alloc (Nat.le_refl _) (.cells #[_, .int .i64 0, .int .u64 0] 72)) hb1
      have hqq := hb01.size
      clear hu
      go_wp2_with fail
      refine (l27Lines_any u _ _ _ _ _ HU.out (by omega)).mono ?_
      rintro e w2 ⟨rfl, hb2⟩
      have HC2 := Lib.hid (HC1.out.below hb2)
      have hb02 := Below.step hb01 hb2
      have hqq2 := hb02.size
      have hts : (⟨u.txt.toArray⟩ : ByteArray).size ≤ 30000 := by have := txt_len hwt; simpa [ByteArray.size] using this
      obtain ⟨t, ht⟩ : ∃ t, (⟨u.txt.toArray⟩ : ByteArray) = t := ⟨_, rfl⟩
      rw [ht] at hts
      rw [ht]
      clear ht
      go_wp2_with fail
      refine (one_any w.heap.size 0 4 _ HC2.out (by omega) (by omega) (by omega)).mono ?_
      rintro e w3 ⟨_, rfl, ⟨y, rfl⟩, hc3, hg3⟩
      have HC3 := Lib.hid hc3
      clear hc3
      have ⟨c3, f3⟩ := gcell hg3
      have hz3 := hg3.size
      (try simp at hz3)
      have hb03 := hb02.trans (gr_to_below (B := w.heap.size) hg3 (by omega) (by omega))
      clear hg3 c3 f3 hb1 hb2 hb01 hb02
      cases y
      · go_wp2
        go_ret
        exact ⟨t, rfl, by omega, by exact bel⟩
      · go_wp2_with fail
        refine (spoilt_any w.heap.size (0 + 2) t ⟨#[10, 117, 97, 32, 112]⟩ _ HC3.out (by omega) (by omega) (by decide) (by decide)).mono ?_
        rintro e w4 ⟨_, rfl, ⟨s, rfl, hs⟩, hc4, hg4⟩
        have HC4 := Lib.hid hc4
        clear hc4
        have ⟨c4, f4⟩ := gcell hg4
        have hz4 := hg4.size
        (try simp at hz4)
        have hq3 := hb03.size
        have hb04 := hb03.trans (gr_to_below (B := w.heap.size) hg4 (by omega) (by omega))
        clear hg4 c4 f4 hb03
        go_wp2
        go_ret
        exact ⟨s, rfl, by omega, by exact bel⟩
    · go_enter Tryz.func25, Tryz.ntmps25
      go_wp2_with fail
      refine (l1Least_any _ _ _).mono ?_
      rintro e w' ⟨rfl, rfl⟩
      (try rw [if_neg hn1])
      go_wp2_with fail
      refine (drawIVU_any _ _ _ _ (code_in_below HI1.out (show Below w.heap.size w _ by exact bel))).mono ?_
      rintro e w1 ⟨u, v0, v1, v2, v3, rfl, hu, hwt, hb1⟩
      obtain ⟨p1, c1, q1, d1, rfl, rfl, rfl, rfl, -⟩ := hu.form
      have HU := Lib.hid hu
      have HC1 := Lib.hid (HC0.out.below hb1)
      have hb01 := Below.step ((Below.refl w.heap.size w).alloc (Nat.le_refl _) (.cells #[_, .int .i64 0, .int .u64 0] 72)) hb1
      have hqq := hb01.size
      clear hu
      go_wp2_with fail
      refine (l27Lines_any u _ _ _ _ _ HU.out (by omega)).mono ?_
      rintro e w2 ⟨rfl, hb2⟩
      have HC2 := Lib.hid (HC1.out.below hb2)
      have hb02 := Below.step hb01 hb2
      have hqq2 := hb02.size
      have hts : (⟨u.txt.toArray⟩ : ByteArray).size ≤ 30000 := by have := txt_len hwt; simpa [ByteArray.size] using this
      obtain ⟨t, ht⟩ : ∃ t, (⟨u.txt.toArray⟩ : ByteArray) = t := ⟨_, rfl⟩
      rw [ht] at hts
      rw [ht]
      clear ht
      go_wp2_with fail
      refine (one_any w.heap.size 0 4 _ HC2.out (by omega) (by omega) (by omega)).mono ?_
      rintro e w3 ⟨_, rfl, ⟨y, rfl⟩, hc3, hg3⟩
      have HC3 := Lib.hid hc3
      clear hc3
      have ⟨c3, f3⟩ := gcell hg3
      have hz3 := hg3.size
      (try simp at hz3)
      have hb03 := hb02.trans (gr_to_below (B := w.heap.size) hg3 (by omega) (by omega))
      clear hg3 c3 f3 hb1 hb2 hb01 hb02
      cases y
      · go_wp2
        go_ret
        exact ⟨t, rfl, by omega, by exact bel⟩
      · go_wp2_with fail
        refine (spoilt_any w.heap.size (0 + 2) t ⟨#[10, 117, 97, 32, 112]⟩ _ HC3.out (by omega) (by omega) (by decide) (by decide)).mono ?_
        rintro e w4 ⟨_, rfl, ⟨s, rfl, hs⟩, hc4, hg4⟩
        have HC4 := Lib.hid hc4
        clear hc4
        have ⟨c4, f4⟩ := gcell hg4
        have hz4 := hg4.size
        (try simp at hz4)
        have hq3 := hb03.size
        have hb04 := hb03.trans (gr_to_below (B := w.heap.size) hg4 (by omega) (by omega))
        clear hg4 c4 f4 hb03
        go_wp2
        go_ret
        exact ⟨s, rfl, by omega, by exact bel⟩
open Go.RowKit
def DrawNm (w : World) (e : Ending) (w' : World) : Prop := ∃ (v : Value) (us : List Un) (s : ByteArray), e = .returned (.tuple #[v, .string s]) ∧ UnsAt (NewB w w') w' v us ∧ us.length ≤ 5 ∧ (∀ u ∈ us, u.wt ≤ 1000) ∧ s.size ≤ 1000 ∧ Below w.heap.size w w'
def DvaSt (g m b o n : Nat) (nm : Nat → ByteArray) (W : World) : Nat → (Nat → Value) → World → Prop
  | 0, _, w => w = W.drew
  | j + 1, u, w => Cur w g m ∧ W.drew.grownBy w (some g) ∧ ∃ r : Nat, r < n ∧ u 5 = .int .i64 r ∧ (1 ≤ j → u 6 = .pointer (some ⟨b, o + r * 4, none⟩)) ∧ (2 ≤ j → u 7 = .pointer (some ⟨b, o + r * 4, none⟩)) ∧ (3 ≤ j → u 8 = .string (nm r)) ∧ (4 ≤ j → u 10 = .string (nm r))
set_option maxRecDepth 100000 in
set_option maxHeartbeats 6400000 in
theorem drawVA_any (p : Option Addr) (n c : Nat) (w : World) (h : CodeIn w (.slice p n c)) : Calls Tryz.prog 69 #[.slice p n c] w (DrawNm w) := by
  have HC0 := Lib.hid (cur_new h (Below.refl w.heap.size w))
  clear h
  go_enter Tryz.func69, Tryz.ntmps69
  go_wp2_with fail
  refine (library_any w.heap.size 0 _ HC0.out (by omega)).mono ?_
  rintro e w1 ⟨_, rfl, ⟨us, hus, hl, hwt⟩, hc1, hg1⟩
  have HC1 := Lib.hid hc1
  clear hc1
  have ⟨c1, f1⟩ := gcell hg1
  have hz1 := hg1.size
  (try simp at hz1)
  rename_i v1
  have hb01 : Below w.heap.size w w1 := (show Below w.heap.size w _ by exact bel).trans (gr_to_below (B := w.heap.size) hg1 (by omega) (by simp))
  obtain ⟨q, d, rfl, -⟩ := hus.form
  have HU := Lib.hid (hus.mono (B' := fun b => w.heap.size < b ∧ b < w1.heap.size) (SameOn.refl _ _) (fun b hb => ⟨by have := hb.1; simp at this; omega, hb.2⟩))
  have HWT := Lib.hid hwt
  clear hus hg1 c1 f1 hwt
  by_cases h0 : us.length = 0
  · rw [h0]
    go_wp2_with fail
    refine (of_lit w.heap.size (0 + 400) 10 3 w1.heap.size _ _ _ (by rfl) (by rfl) HC1.out (by omega) (by decide) (by decide) (by intro v hv; simp at hv; rcases hv with rfl | rfl | rfl <;> exact ⟨_, rfl, by decide⟩)).mono ?_
    rintro e w2 ⟨_, rfl, ⟨s, rfl, hs⟩, hc2, hg2⟩
    have HC2 := Lib.hid hc2
    clear hc2
    have ⟨c2, f2⟩ := gcell hg2
    have hz2 := hg2.size
    (try simp at hz2)
    have hb02 := (show Below w.heap.size w (w1.alloc _) from Below.al hb01 _).trans (gr_to_below (B := w.heap.size) hg2 (by omega) (by simp; omega))
    clear hg2 c2 f2 hb01
    go_wp2
    go_ret2
    exact ⟨_, [], s, rfl, ListAt.nil _ _ _ _ _ _, by simp, (fun _ h => by cases h), by omega, by exact bel⟩
  · have hz0 : ((us.length : Int) == 0) = false := by simp; intro e; exact h0 (by rw [e]; rfl)
    go_wp2_with fail
    refine (one_any w.heap.size (0 + 400) 12 _ HC1.out (by omega) (by omega) (by omega)).mono ?_
    rintro e w2 ⟨_, rfl, ⟨y, rfl⟩, hc2, hg2⟩
    have HC2 := Lib.hid hc2
    clear hc2
    have ⟨c2, f2⟩ := gcell hg2
    have hz2 := hg2.size
    (try simp at hz2)
    have hb02 := hb01.trans (gr_to_below (B := w.heap.size) hg2 (by omega) (by omega))
    have HU2 := Lib.hid (HU.out.mono (w' := w2) (sameOn_grown hg2 (fun b hb => by have := hb.1; omega)) (fun _ h => h))
    have hq2 := hg2.size
    clear hg2 c2 f2 hb01
    cases y
    · have HU2' := Lib.hid (fun (r : Nat) (h : r < us.length) => HU2.out.at_ h)
      obtain ⟨b, o, rfl, hB, -⟩ := HU2.out.at_ (i := 0) (by omega)
      obtain ⟨nm, hnm⟩ : ∃ nm : Nat → ByteArray, nm = fun r => (us.getD r u0).name := ⟨_, rfl⟩
      have HNM := Lib.hid (fun (r : Nat) (h : r < us.length) => (by rw [hnm]; simp only [List.getD_eq_getElem?_getD, List.getElem?_eq_getElem h, Option.getD_some] : nm r = us[r].name))
      clear hnm
      have HAT := Lib.hid (fun (r : Nat) (h : r < us.length) => (by
        obtain ⟨b', o', e, -, p1, c1, p2, c2, h1, -⟩ := HU2.out.at_ h
        simp only [Option.some.injEq, Addr.mk.injEq, and_true] at e
        obtain ⟨rfl, rfl⟩ := e
        rw [HNM.out r h]
        exact h1 : w2.cell? ⟨b, o + r * 4, none⟩ = some (.string (nm r))))
      have hbg : w.heap.size < b := hB.1
      have hb1 : b < w1.heap.size := hB.2
      clear hB HU2'
      go_wp2
      refine wp_region_stages [some (.slice (some ⟨b, o, none⟩) us.length d), some (.slice (some ⟨b, o, none⟩) us.length d), some (.pointer (some ⟨w.heap.size, 0, none⟩)), some (.slice (some ⟨b, o, none⟩) us.length d), some (.int .i64 us.length), none, none, none, none, some (.slice (some ⟨b, o, none⟩) us.length d), none] [5, 6, 7, 8, 10] (DvaSt w.heap.size (0 + 400 + 2 + 2) b o us.length nm w2) (by kernel_rfl) (by kernel_rfl) (by first | kernel_rfl | rfl) (by rfl) rfl ?_
      iterate 5 (refine chain_st rfl rfl (by decide) rfl (by intro j u w' hS; go_simp; first | done | exact ⟨hS, rfl⟩ | exact hS | rfl) ?_; go_simp)
      refine chain_first rfl rfl rfl (by decide) rfl ?_ ?_
      · intro w' hS
        obtain rfl : w' = w2.drew := hS
        go_simp
        refine (pick_any w.heap.size (0 + 400 + 2) us.length _ (HC2.out.below ((Below.refl _ _).drew)) (by omega) (by omega) (by omega)).mono ?_
        rintro e w'' ⟨_, rfl, ⟨r1, rfl, hr1, hr2⟩, hc, hg⟩
        exact ⟨_, rfl, hc, hg, r1.toNat, by omega, by rw [upd_same]; exact congrArg _ (by omega), fun h => absurd h (by decide), fun h => absurd h (by decide), fun h => absurd h (by decide), fun h => absurd h (by decide)⟩
      intro x5
      go_simp
      refine chain_next 0 rfl rfl rfl rfl (by decide) rfl (by first | kernel_rfl | rfl) ?_ ?_
      · rintro w' ⟨hc, hg, r, hr, h5, -⟩
        rw [upd_same] at h5
        subst h5
        have hri : (r : Int) < us.length := by omega
        go_simp
        exact ⟨hc, hg, r, hr, by simp [upd], fun _ => by simp [upd], fun h => absurd h (by decide), fun h => absurd h (by decide), fun h => absurd h (by decide)⟩
      intro x6
      go_simp
      refine chain_next 1 rfl rfl rfl rfl (by decide) rfl (by first | kernel_rfl | rfl) ?_ ?_
      · rintro w' ⟨hc, hg, r, hr, h5, h6, -⟩
        have h6 := h6 (by decide)
        rw [upd_same] at h6
        subst h6
        go_simp
        exact ⟨hc, hg, r, hr, by simpa [upd] using h5, fun _ => by simp [upd], fun _ => by simp [upd], fun h => absurd h (by decide), fun h => absurd h (by decide)⟩
      intro x7
      go_simp
      refine chain_next 2 rfl rfl rfl rfl (by decide) rfl (by first | kernel_rfl | rfl) ?_ ?_
      · rintro w' ⟨hc, hg, r, hr, h5, h6, h7, -⟩
        have h7 := h7 (by decide)
        rw [upd_same] at h7
        subst h7
        have hce := ((gcell hg).1 b (o + r * 4) (by simpa using (by omega : b < w2.heap.size)) (by omega)).trans (HAT.out r hr)
        go_simp
        exact ⟨hc, hg, r, hr, by simpa [upd] using h5, fun _ => by simpa [upd] using h6 (by decide), fun _ => by simp [upd], fun _ => by simp [upd], fun h => absurd h (by decide)⟩
      intro x8
      go_simp
      refine chain_st rfl rfl (by decide) rfl (by intro j u w' hS; go_simp; first | done | exact ⟨hS, rfl⟩ | exact hS | rfl) ?_
      go_simp
      refine chain_next 3 rfl rfl rfl rfl (by decide) rfl (by first | kernel_rfl | rfl) ?_ ?_
      · rintro w' ⟨hc, hg, r, hr, h5, h6, h7, h8, -⟩
        have h8 := h8 (by decide)
        rw [upd_same] at h8
        subst h8
        go_simp
        exact ⟨hc, hg, r, hr, by simpa [upd] using h5, fun _ => by simpa [upd] using h6 (by decide), fun _ => by simpa [upd] using h7 (by decide), fun _ => by simp [upd], fun _ => by simp [upd]⟩
      intro x10
      refine flowU_nil ?_
      intro w3 hS
      obtain ⟨hc, hg, r, hr, h5, h6, h7, h8, h10⟩ := hS
      have h10 := h10 (by decide)
      simp [upd] at h10
      subst h10
      have hb03 := (show Below w.heap.size w w2.drew from Below.dr hb02).trans (gr_to_below (B := w.heap.size) hg (by omega) (by simp; omega))
      have HU3 := Lib.hid (HU2.out.mono (w' := w3) (fun b' hb' hlt => hg.block b' (by simpa using hlt) (fun e => by injection e with e; have := hb'.1; omega)) (fun _ h => h))
      have hq3 := hg.size
      have hwn : (nm r).size ≤ 1000 := by rw [HNM.out r hr]; exact (wt_sizes (HWT.out _ (List.getElem_mem hr))).1
      clear hg h5 h6 h7 h8 hb02
      simp only [World.size_drew] at hq3
      go_wp2
      go_ret2
      exact ⟨_, us, _, rfl, HU3.out.mono (SameOn.refl _ _) (fun b' hb' => ⟨by have := hb'.1; omega, by have := hb'.2; omega⟩), hl, HWT.out, hwn, by exact bel⟩
    · go_wp2_with fail
      refine (of_lit w.heap.size (0 + 400 + 2) 10 3 w2.heap.size _ _ _ (by rfl) (by rfl) HC2.out (by omega) (by decide) (by decide) (by intro v hv; simp at hv; rcases hv with rfl | rfl | rfl <;> exact ⟨_, rfl, by decide⟩)).mono ?_
      rintro e w3 ⟨_, rfl, ⟨s, rfl, hs⟩, hc3, hg3⟩
      have HC3 := Lib.hid hc3
      clear hc3
      have ⟨c3, f3⟩ := gcell hg3
      have hz3 := hg3.size
      (try simp at hz3)
      have hb03 := (show Below w.heap.size w (w2.alloc _) from Below.al hb02 _).trans (gr_to_below (B := w.heap.size) hg3 (by omega) (by simp; omega))
      have HU3 := Lib.hid (HU2.out.mono (w' := w3) (fun b' hb' hlt => (hg3.block b' (by simp; omega) (fun e => by injection e with e; have := hb'.1; omega)).trans (hao _ _ _ hlt)) (fun _ h => h))
      have hq3 := hg3.size
      simp only [World.size_alloc] at hq3
      clear hg3 c3 f3 hb02
      go_wp2
      go_ret2
      exact ⟨_, us, s, rfl, HU3.out.mono (SameOn.refl _ _) (fun b' hb' => ⟨by have := hb'.1; omega, by have := hb'.2; omega⟩), hl, HWT.out, by omega, by exact bel⟩
def DrawNm2 (w : World) (e : Ending) (w' : World) : Prop := ∃ (v : Value) (us : List Un) (s t : ByteArray), e = .returned (.tuple #[v, .string s, .string t]) ∧ UnsAt (NewB w w') w' v us ∧ us.length ≤ 5 ∧ (∀ u ∈ us, u.wt ≤ 1000) ∧ s.size ≤ 1000 ∧ t.size ≤ 1000 ∧ Below w.heap.size w w'
set_option maxRecDepth 100000 in
set_option maxHeartbeats 3200000 in
theorem drawRU_any (p : Option Addr) (n c : Nat) (w : World) (h : CodeCap w p n c) (hn : n ≤ 65536) : Calls Tryz.prog 27 #[.slice p n c] w (DrawNm2 w) := by
  have HC0 := Lib.hid (cur_new h.1 (Below.refl w.heap.size w))
  have hnc := h.2
  have hg0 : w.heap.size < (w.alloc (.cells #[.slice p n c, .int .i64 0, .int .u64 0] 72)).heap.size := by simp
  by_cases h0 : n = 0
  · have HI := Lib.hid h.1
    subst h0
    clear h
    go_enter Tryz.func27, Tryz.ntmps27
    go_wp2_with fail
    refine (l1Least_any _ _ _).mono ?_
    rintro e w' ⟨rfl, rfl⟩
    go_wp2_with fail
    refine (drawVA_any _ _ _ _ (code_in_below HI.out (show Below w.heap.size w _ by exact bel))).mono ?_
    rintro e w1 ⟨v, us, s, rfl, hus, hl, hwt, hs, hb1⟩
    obtain ⟨q1, d1, rfl, -⟩ := hus.form
    have HU := Lib.hid (hus.mono (B' := fun b => w.heap.size < b ∧ b < w1.heap.size) (SameOn.refl _ _) (fun b hb => ⟨by have := hb.1; simp at this; omega, hb.2⟩))
    have HC1 := Lib.hid (HC0.out.below hb1)
    have HWT := Lib.hid hwt
    have hb01 := Below.step ((Below.refl w.heap.size w).alloc (Nat.le_refl _) (.cells #[_, .int .i64 0, .int .u64 0] 72)) hb1
    have hqq := hb01.size
    clear hus hwt
    go_wp2_with fail
    refine (of_lit w.heap.size 0 10 6 w1.heap.size _ _ _ (by rfl) (by rfl) HC1.out (by omega) (by decide) (by decide) (by intro v hv; simp at hv; rcases hv with rfl | rfl | rfl | rfl | rfl | rfl <;> exact ⟨_, rfl, by decide⟩)).mono ?_
    rintro e w2 ⟨_, rfl, ⟨t, rfl, ht⟩, hc2, hg2⟩
    have HC2 := Lib.hid hc2
    clear hc2
    have ⟨c2, f2⟩ := gcell hg2
    have hz2 := hg2.size
    (try simp at hz2)
    have hb02 := (show Below w.heap.size w (w1.alloc _) from Below.al hb01 _).trans (gr_to_below (B := w.heap.size) hg2 (by omega) (by simp; omega))
    have HU2 := Lib.hid (HU.out.mono (w' := w2) (fun b' hb' hlt => (hg2.block b' (by simp; omega) (fun e => by injection e with e; have := hb'.1; omega)).trans (hao _ _ _ hlt)) (fun _ h => h))
    have hq2 := hg2.size
    simp only [World.size_alloc] at hq2
    clear hg2 c2 f2 hb1 hb01
    go_wp2
    refine bodyPost_ret (v := .tuple #[.slice q1 us.length d1, .string s, .string t]) (by simp only [results, Tryz.results27]; go_simp) rfl ⟨_, us, s, t, rfl, HU2.out.mono (SameOn.refl _ _) (fun b' hb' => ⟨by have := hb'.1; omega, by have := hb'.2; omega⟩), hl, HWT.out, hs, by omega, by exact bel⟩
  · obtain ⟨b, o, rfl, hc1, hc2⟩ := h.tail (by omega)
    have HI1 := Lib.hid hc1
    have HI2 := Lib.hid hc2
    clear h hc1 hc2
    have hn1 : ¬ ((n : Int) < 1) := by omega
    have hn2 : (1 : Int) ≤ n := by omega
    have hn3 : (n : Int) ≤ c := by omega
    by_cases hc : c = 1
    · obtain rfl : n = 1 := by omega
      subst hc
      go_enter Tryz.func27, Tryz.ntmps27
      go_wp2_with fail
      refine (l1Least_any _ _ _).mono ?_
      rintro e w' ⟨rfl, rfl⟩
      go_wp2_with fail
      refine (drawVA_any _ _ _ _ (code_in_below HI2.out (show Below w.heap.size w _ by exact bel))).mono ?_
      rintro e w1 ⟨v, us, s, rfl, hus, hl, hwt, hs, hb1⟩
      obtain ⟨q1, d1, rfl, -⟩ := hus.form
      have HU := Lib.hid (hus.mono (B' := fun b => w.heap.size < b ∧ b < w1.heap.size) (SameOn.refl _ _) (fun b hb => ⟨by have := hb.1; simp at this; omega, hb.2⟩))
      have HC1 := Lib.hid (HC0.out.below hb1)
      have HWT := Lib.hid hwt
      have hb01 := Below.step ((Below.refl w.heap.size w).alloc (Nat.le_refl _) (.cells #[_, .int .i64 0, .int .u64 0] 72)) hb1
      have hqq := hb01.size
      clear hus hwt
      go_wp2_with fail
      refine (of_lit w.heap.size 0 10 6 w1.heap.size _ _ _ (by rfl) (by rfl) HC1.out (by omega) (by decide) (by decide) (by intro v hv; simp at hv; rcases hv with rfl | rfl | rfl | rfl | rfl | rfl <;> exact ⟨_, rfl, by decide⟩)).mono ?_
      rintro e w2 ⟨_, rfl, ⟨t, rfl, ht⟩, hc2, hg2⟩
      have HC2 := Lib.hid hc2
      clear hc2
      have ⟨c2, f2⟩ := gcell hg2
      have hz2 := hg2.size
      (try simp at hz2)
      have hb02 := (show Below w.heap.size w (w1.alloc _) from Below.al hb01 _).trans (gr_to_below (B := w.heap.size) hg2 (by omega) (by simp; omega))
      have HU2 := Lib.hid (HU.out.mono (w' := w2) (fun b' hb' hlt => (hg2.block b' (by simp; omega) (fun e => by injection e with e; have := hb'.1; omega)).trans (hao _ _ _ hlt)) (fun _ h => h))
      have hq2 := hg2.size
      simp only [World.size_alloc] at hq2
      clear hg2 c2 f2 hb1 hb01
      go_wp2
      refine bodyPost_ret (v := .tuple #[.slice q1 us.length d1, .string s, .string t]) (by simp only [results, Tryz.results27]; go_simp) rfl ⟨_, us, s, t, rfl, HU2.out.mono (SameOn.refl _ _) (fun b' hb' => ⟨by have := hb'.1; omega, by have := hb'.2; omega⟩), hl, HWT.out, hs, by omega, by exact bel⟩
    · go_enter Tryz.func27, Tryz.ntmps27
      go_wp2_with fail
      refine (l1Least_any _ _ _).mono ?_
      rintro e w' ⟨rfl, rfl⟩
      (try rw [if_neg hn1])
      go_wp2_with fail
      refine (drawVA_any _ _ _ _ (code_in_below HI1.out (show Below w.heap.size w _ by exact bel))).mono ?_
      rintro e w1 ⟨v, us, s, rfl, hus, hl, hwt, hs, hb1⟩
      obtain ⟨q1, d1, rfl, -⟩ := hus.form
      have HU := Lib.hid (hus.mono (B' := fun b => w.heap.size < b ∧ b < w1.heap.size) (SameOn.refl _ _) (fun b hb => ⟨by have := hb.1; simp at this; omega, hb.2⟩))
      have HC1 := Lib.hid (HC0.out.below hb1)
      have HWT := Lib.hid hwt
      have hb01 := Below.step ((Below.refl w.heap.size w).alloc (Nat.le_refl _) (.cells #[_, .int .i64 0, .int .u64 0] 72)) hb1
      have hqq := hb01.size
      clear hus hwt
      go_wp2_with fail
      refine (of_lit w.heap.size 0 10 6 w1.heap.size _ _ _ (by rfl) (by rfl) HC1.out (by omega) (by decide) (by decide) (by intro v hv; simp at hv; rcases hv with rfl | rfl | rfl | rfl | rfl | rfl <;> exact ⟨_, rfl, by decide⟩)).mono ?_
      rintro e w2 ⟨_, rfl, ⟨t, rfl, ht⟩, hc2, hg2⟩
      have HC2 := Lib.hid hc2
      clear hc2
      have ⟨c2, f2⟩ := gcell hg2
      have hz2 := hg2.size
      (try simp at hz2)
      have hb02 := (show Below w.heap.size w (w1.alloc _) from Below.al hb01 _).trans (gr_to_below (B := w.heap.size) hg2 (by omega) (by simp; omega))
      have HU2 := Lib.hid (HU.out.mono (w' := w2) (fun b' hb' hlt => (hg2.block b' (by simp; omega) (fun e => by injection e with e; have := hb'.1; omega)).trans (hao _ _ _ hlt)) (fun _ h => h))
      have hq2 := hg2.size
      simp only [World.size_alloc] at hq2
      clear hg2 c2 f2 hb1 hb01
      go_wp2
      refine bodyPost_ret (v := .tuple #[.slice q1 us.length d1, .string s, .string t]) (by simp only [results, Tryz.results27]; go_simp) rfl ⟨_, us, s, t, rfl, HU2.out.mono (SameOn.refl _ _) (fun b' hb' => ⟨by have := hb'.1; omega, by have := hb'.2; omega⟩), hl, HWT.out, hs, by omega, by exact bel⟩
theorem ordL_full {l : List Un} {R : List ByteArray} (h : OrdInv l R) (hl : R.length = l.length) : (ordL l).length = l.length := by
  have key : ∀ (f : Nat) (out : List ByteArray), OrdInv l out → l.length ≤ out.length + f → (ordF f l out).length = l.length := by
    intro f
    induction f with
    | zero => intro out ho hz; have := ho.len; rw [ordF]; omega
    | succ f ih =>
      intro out ho hz
      rw [ordF]
      cases hf : l.find? (Un.ready out) with
      | some u => exact ih _ (ho.snoc (find_mem hf).1 (find_mem hf).2) (by simp; omega)
      | none =>
        have hall : ∀ (i : Nat) (x : ByteArray), R[i]? = some x → x ∈ out := by
          intro i
          induction i using Nat.strongRecOn with
          | _ i ih2 =>
            intro x hx
            obtain ⟨u, hu, rfl, hy⟩ := h.topo i x hx
            rcases Classical.em (u.name ∈ out) with h1 | h1
            · exact h1
            · exfalso
              have hr : u.ready out = true := by
                rw [Un.ready, Bool.and_eq_true, Bool.not_eq_true', List.all_eq_true]
                refine ⟨by simpa [inS] using h1, fun y hyy => ?_⟩
                obtain ⟨j, hj, e⟩ := List.getElem_of_mem (hy y hyy)
                rw [List.length_take] at hj
                rw [List.getElem_take] at e
                have := ih2 j (by omega) y (by rw [List.getElem?_eq_getElem (by omega), e])
                simpa [inS] using this
              rw [List.find?_eq_none] at hf
              exact hf u hu hr
        have h2 := pigeon R out h.nd (fun x hx => by obtain ⟨i, hi, rfl⟩ := List.getElem_of_mem hx; exact hall i _ (List.getElem?_eq_getElem hi))
        have := ho.len
        simp only; omega
  exact key l.length [] (OrdInv.nil l) (by simp)
theorem namesF_of : ∀ (l : List ByteArray) (p : Option ByteArray), Asc lessB l → (∀ x ∈ l, symB x.data.toList = true) → (∀ x ∈ l, ascS p x = true) → namesF p l = true
  | [], p, _, _, _ => by cases p <;> rfl
  | a :: l, p, h, hs, hp => by
    rw [Asc, List.pairwise_cons] at h
    rw [namesF, Bool.and_eq_true, Bool.and_eq_true]
    exact ⟨⟨hs a (List.mem_cons_self ..), hp a (List.mem_cons_self ..)⟩, namesF_of l (some a) h.2 (fun x hx => hs x (List.mem_cons_of_mem _ hx)) (fun x hx => h.1 x hx)⟩
theorem unitsF_of : ∀ (l : List Un) (p : Option ByteArray), Asc lessU l → (∀ u ∈ l, u.good = true) → (∀ u ∈ l, ascS p u.name = true) → unitsF p l = true
  | [], p, _, _, _ => by cases p <;> rfl
  | a :: l, p, h, hs, hp => by
    rw [Asc, List.pairwise_cons] at h
    rw [unitsF, Bool.and_eq_true, Bool.and_eq_true]
    exact ⟨⟨hs a (List.mem_cons_self ..), hp a (List.mem_cons_self ..)⟩, unitsF_of l (some a.name) h.2 (fun x hx => hs x (List.mem_cons_of_mem _ hx)) (fun x hx => h.1 x hx)⟩
theorem unitsF_asc' : ∀ (l : List Un) (p : Option ByteArray), unitsF p l = true → Asc lessU l
  | [], _, _ => List.Pairwise.nil
  | a :: l, p, h => by
    rw [unitsF, Bool.and_eq_true, Bool.and_eq_true] at h
    rw [Asc, List.pairwise_cons]
    exact ⟨unitsF_asc l a.name h.2, unitsF_asc' l _ h.2⟩
theorem renS_back {old name x : ByteArray} (h : x ≠ name) : renS name old (renS old name x) = x := by
  unfold renS
  by_cases hx : x = old
  · rw [if_pos hx, if_pos rfl, hx]
  · rw [if_neg hx, if_neg h]
theorem renI_back {old name : ByteArray} {l : List ByteArray} (h : ∀ x ∈ l, x ≠ name) : renI name old (renI old name l) = l := by
  rw [renI, renI, List.map_map]
  conv => rhs; rw [← List.map_id l]
  exact List.map_congr_left fun x hx => renS_back (h x hx)
theorem sym_of_good {u : Un} (h : u.good = true) : symB u.name.data.toList = true := by
  unfold Un.good at h
  simp only [Bool.and_eq_true] at h
  exact h.1.1.1.1.1
section
variable {l : List Un} {old name : ByteArray}
theorem renUn_good (hg : libGood l = true) (hn : ∀ u ∈ l, u.name ≠ name) (hs : symB name.data.toList = true) {u : Un} (hu : u ∈ l) : (renUn old name u).good = true := by
  obtain ⟨h1, h2, -, -⟩ := ren_incs (old := old) hg hn hu
  obtain ⟨-, -, hgd⟩ := libGood_parts hg
  have hgu := hgd u hu
  have hsy : ∀ x : ByteArray, symB x.data.toList = true → symB (renS old name x).data.toList = true := fun x hx => by
    unfold renS; split
    · exact hs
    · exact hx
  have hin := good_incs hgu
  have hnm := sym_of_good hgu
  unfold Un.good at hgu ⊢
  simp only [Bool.and_eq_true, decide_eq_true_eq] at hgu ⊢
  refine ⟨⟨⟨⟨⟨hsy _ hnm, ?_⟩, ?_⟩, hgu.1.1.2⟩, hgu.1.2⟩, hgu.2⟩
  · show (canG lessB (renI old name u.incs)).length ≤ 12
    rw [canG_len]; exact h2
  · refine namesF_of _ _ (canG_asc strictS (nodup_tri h1)) (fun x hx => ?_) (fun _ _ => rfl)
    obtain ⟨y, hy, rfl⟩ := List.mem_map.1 (mem_canG.1 hx)
    exact hsy y (namesF_sym _ _ hin.2 y hy)
theorem renL_asc (hg : libGood l = true) (hn : ∀ u ∈ l, u.name ≠ name) : Asc lessU (renL old name l) := by
  refine canG_asc strictU ?_
  have := ren_names (old := old) hg hn
  exact (List.pairwise_map.1 this).imp fun h => triS h
theorem mem_renL {v : Un} : v ∈ renL old name l ↔ ∃ u ∈ l, renUn old name u = v := by rw [renL, mem_canG, List.mem_map]
theorem renL_good (hg : libGood l = true) (hn : ∀ u ∈ l, u.name ≠ name) (hs : symB name.data.toList = true) : libGood (renL old name l) = true := by
  obtain ⟨hd, hf, hgd⟩ := libGood_parts hg
  have hi := ordL_inv l
  have hnm : ∀ x ∈ ordL l, x ≠ name := fun x hx => by
    obtain ⟨u, hu, rfl⟩ := List.mem_map.1 (hi.sub x hx)
    exact hn u hu
  rw [libGood, Bool.and_eq_true, Bool.and_eq_true]
  refine ⟨⟨unitsF_of _ _ (renL_asc hg hn) (fun v hv => ?_) (fun _ _ => rfl), ?_⟩, ?_⟩
  · obtain ⟨u, hu, rfl⟩ := mem_renL.1 hv
    exact renUn_good hg hn hs hu
  · rw [renL_len]; exact decide_eq_true (libGood_len hg)
  · refine decide_eq_true (ordL_full (R := (ordL l).map (renS old name)) ⟨nodup_map_on hi.nd fun x hx y hy h => renS_inj (hnm x hx) (hnm y hy) h, fun x hx => ?_, fun i x hx => ?_⟩ (by rw [List.length_map, renL_len, hf]))
    · obtain ⟨y, hy, rfl⟩ := List.mem_map.1 hx
      obtain ⟨u, hu, rfl⟩ := List.mem_map.1 (hi.sub y hy)
      exact List.mem_map.2 ⟨renUn old name u, mem_renL.2 ⟨u, hu, rfl⟩, rfl⟩
    · rw [List.getElem?_map] at hx
      cases hy : (ordL l)[i]? with
      | none => rw [hy] at hx; cases hx
      | some y =>
        rw [hy] at hx
        obtain rfl : renS old name y = x := Option.some.inj hx
        obtain ⟨u, hu, rfl, hin⟩ := hi.topo i y hy
        refine ⟨renUn old name u, mem_renL.2 ⟨u, hu, rfl⟩, rfl, fun z hz => ?_⟩
        obtain ⟨t, ht, rfl⟩ := List.mem_map.1 (mem_canG.1 hz)
        rw [← List.map_take]
        exact List.mem_map_of_mem (hin t ht)
theorem renUn_back (hg : libGood l = true) (hn : ∀ u ∈ l, u.name ≠ name) {u : Un} (hu : u ∈ l) : renUn name old (renUn old name u) = u := by
  obtain ⟨h1, -, h3, h4⟩ := ren_incs (old := old) hg hn hu
  obtain ⟨-, -, hgd⟩ := libGood_parts hg
  have hin := good_incs (hgd u hu)
  have hp : (renI name old (canG lessB (renI old name u.incs))).Perm u.incs := by
    have := (canG_perm (lt := lessB) (renI old name u.incs)).map (renS name old)
    have e := renI_back (old := old) h4
    rw [renI] at e
    rw [e] at this
    exact this
  have hi : canG lessB (renI name old (canG lessB (renI old name u.incs))) = u.incs := by
    refine asc_eq strictS _ _ (canG_asc strictS (nodup_tri (hp.nodup_iff.2 h3))) (namesF_asc' _ _ hin.2) fun z => ?_
    rw [mem_canG]; exact hp.mem_iff
  obtain ⟨n, i, a, g⟩ := u
  simp only [renUn] at hi ⊢
  rw [hi, renS_back (hn _ hu)]
theorem renL_back (hg : libGood l = true) (hn : ∀ u ∈ l, u.name ≠ name) : renL name old (renL old name l) = l := by
  have hm : (l.map (renUn old name)).map (renUn name old) = l := by
    rw [List.map_map]
    conv => rhs; rw [← List.map_id l]
    exact List.map_congr_left fun u hu => renUn_back hg hn hu
  have hp : ((renL old name l).map (renUn name old)).Perm l := by
    have := (canG_perm (lt := lessU) (l.map (renUn old name))).map (renUn name old)
    rw [hm] at this; exact this
  have hu : Asc lessU l := by
    rw [libGood, Bool.and_eq_true, Bool.and_eq_true] at hg
    exact unitsF_asc' _ _ hg.1.1
  have ht : ((renL old name l).map (renUn name old)).Pairwise (fun a b => lessU a b = true ∨ lessU b a = true) :=
    (List.Perm.pairwise_iff (fun h => h.symm) hp).2 (hu.imp fun h => .inl h)
  exact asc_eq strictU _ _ (canG_asc strictU ht) hu fun z => mem_canG.trans hp.mem_iff
theorem renOk_parts (h : renOk l old name = true) : libGood l = true ∧ (∃ u ∈ l, u.name = old) ∧ (∀ u ∈ l, u.name ≠ name) ∧ symB name.data.toList = true := by
  rw [renOk, Bool.and_eq_true, Bool.and_eq_true, unitOf, Bool.and_eq_true] at h
  exact ⟨h.1.1.1, place_mem h.1.1.2, place_not h.1.2, h.2⟩
theorem renOk_back (h : renOk l old name = true) : libGood (renL old name l) = true ∧ renOk (renL old name l) name old = true ∧ renV (renL old name l) name old = l := by
  obtain ⟨hg, ⟨u, hu, rfl⟩, hn, hs⟩ := renOk_parts h
  have hg' := renL_good (old := u.name) hg hn hs
  obtain ⟨hd', -, -⟩ := libGood_parts hg'
  have hok : renOk (renL u.name name l) name u.name = true := by
    have h1 : (renUn u.name name u) ∈ renL u.name name l := mem_renL.2 ⟨u, hu, rfl⟩
    have e1 : (renUn u.name name u).name = name := if_pos rfl
    have h2 := findU_of hd' h1
    rw [e1] at h2
    obtain ⟨i, -, hpl, -⟩ := place_some h2
    have h3 : placeU (renL u.name name l) u.name = none := by
      rw [place_none, findU, List.find?_eq_none]
      intro v hv
      obtain ⟨t, ht, rfl⟩ := mem_renL.1 hv
      rw [decide_eq_true_iff]
      show ¬ renS u.name name t.name = u.name
      unfold renS
      split
      · rename_i e; intro e2; exact hn t ht (e.trans e2.symm)
      · rename_i e; exact e
    have h4 := sym_of_good ((libGood_parts hg).2.2 u hu)
    rw [renOk, unitOf, hg', hpl, h3, h4]; rfl
  exact ⟨hg', hok, by rw [renV, if_pos hok, renL_back hg hn]⟩
end
/-! ### A unit's text -/
theorem txt_back {u : Un} (h : u.good = true) : puOk u.txt = true ∧ puV u.txt = u := by
  have e : parI u.txt = u := stI_reads.back h
  have h1 : puOk u.txt = true := by rw [puOk, e, h]; simp
  exact ⟨h1, by rw [puV, if_pos h1, e]⟩
theorem puOk_txt {L : List UInt8} (h : puOk L = true) : (puV L).good = true ∧ (puV L).txt = L := by
  rw [puV, if_pos h]; exact puOk_parts h
open Go.RowKit
theorem elemUnit : Elem Tryz.prog 24 34 4 80 := elem_of Tryz.underlying24 (z := .agg #[.string ⟨#[]⟩, .slice none 0 0, .slice none 0 0, .string ⟨#[]⟩]) (by kernel_rfl) rfl (by omega)
open Go.RowKit
set_option maxRecDepth 100000 in
theorem isNaNR_any (s : ByteArray) (w : World) : Calls Tryz.prog 135 #[.string s] w fun e w' => e = .returned (.bool false) ∧ w = w' := by
  go_enter Tryz.func135, Tryz.ntmps135
  go_wp2
  refine bodyPost_ret (v := .bool false) (by simp only [results, Tryz.results135]; go_simp) rfl ⟨rfl, rfl⟩
set_option maxRecDepth 100000 in
theorem compareR_any (x y : ByteArray) (w : World) : Calls Tryz.prog 76 #[.string x, .string y] w fun e w' => e = .returned (.int .i64 (cmpI x y)) ∧ w = w' := by
  have h1 : Op.bytesLess x.toList y.toList = lessB x y := by rw [lessB, ByteArray.toList_eq, ByteArray.toList_eq]
  have h2 : Op.bytesLess y.toList x.toList = lessB y x := by rw [lessB, ByteArray.toList_eq, ByteArray.toList_eq]
  cases ha : lessB x y
  · have h3 : (x.toList == y.toList) = !lessB y x := by
      have := less_total y.toList x.toList
      rw [h1, h2, ha, Bool.false_or] at this
      rw [this, Bool.not_not]
    cases hb : lessB y x
    · rw [ha] at h1
      rw [hb] at h2 h3
      have HA := Lib.hid ha
      have HB := Lib.hid hb
      clear ha hb
      go_enter Tryz.func76, Tryz.ntmps76
      go_wp2_with (first | (go_at_call 135; refine (isNaNR_any _ _).mono ?_; rintro e w' ⟨rfl, rfl⟩))
      go_ret
      exact ⟨by rw [cmpI, HA.out, HB.out]; rfl, rfl⟩
    · rw [ha] at h1
      rw [hb] at h2 h3
      have HA := Lib.hid ha
      have HB := Lib.hid hb
      clear ha hb
      go_enter Tryz.func76, Tryz.ntmps76
      go_wp2_with (first | (go_at_call 135; refine (isNaNR_any _ _).mono ?_; rintro e w' ⟨rfl, rfl⟩))
      go_ret
      exact ⟨by rw [cmpI, HA.out, HB.out]; rfl, rfl⟩
  · rw [ha] at h1
    have HA := Lib.hid ha
    clear ha
    go_enter Tryz.func76, Tryz.ntmps76
    go_wp2_with (first | (go_at_call 135; refine (isNaNR_any _ _).mono ?_; rintro e w' ⟨rfl, rfl⟩))
    go_ret
    exact ⟨by rw [cmpI, HA.out]; rfl, rfl⟩
set_option maxRecDepth 100000 in
theorem byName_any (x y : ByteArray) (v1 v2 v3 u1 u2 u3 : Value) (w : World) : Calls Tryz.prog 75 #[.agg #[.string x, v1, v2, v3], .agg #[.string y, u1, u2, u3]] w fun e w' => e = .returned (.int .i64 (cmpI x y)) ∧ Below w.heap.size w w' := by
  go_enter Tryz.func75, Tryz.ntmps75
  go_wp2_with fail
  refine (compareR_any x y _).mono ?_
  rintro e w1 ⟨rfl, rfl⟩
  go_wp2
  go_ret
  exact ⟨rfl, by exact bel⟩
open Go.RowKit
set_option maxRecDepth 100000 in
set_option maxHeartbeats 6400000 in
theorem insSortU_any (base : Nat) (l : List UC) (p : Option Addr) (c : Nat) (w : World) (h : w.ownsRow base 34 4 (.slice p l.length c) l.length (flatU l)) (hn : l.length ≤ 1000000) (hnd : (l.map (fun x => x.u.name)).Nodup) :
    Calls Tryz.prog 178 #[.slice p l.length c, .int .i64 0, .int .i64 l.length, .func (.func 75) #[] #[]] w fun e w' => e = .returned (.tuple #[]) ∧ w'.ownsRow base 34 4 (.slice p l.length c) l.length (flatU (canG lessC l)) ∧ w.grownBy w' (Value.slice p l.length c).ownBlock := by
  have H := Lib.hid h
  have HND := Lib.hid hnd
  clear h hnd
  go_enter Tryz.func178, Tryz.ntmps178
  go_wp2
  go_loopw [8] (fun i wr => ∃ k : Nat, 1 ≤ k ∧ k ≤ l.length + 1 ∧ i = .int .i64 k ∧ wr.ownsRow base 34 4 (.slice p l.length c) l.length (flatU (canG lessC (l.take k) ++ l.drop k)) ∧ w.grownBy wr (Value.slice p l.length c).ownBlock) (fun i _ => l.length - (intOf i).toNat)
  case atStart =>
    refine ⟨1, Nat.le_refl _, by omega, rfl, ?_, ⟨rfl, rfl, rfl, Nat.le_refl _, fun _ _ _ => rfl⟩⟩
    have : canG lessC (l.take 1) ++ l.drop 1 = l := by cases l with | nil => rfl | cons a l => rfl
    rw [this]; exact H.out
  case round =>
    obtain ⟨k, hk1, hk2, rfl, hrow, hgr⟩ := hrel
    have HG := Lib.hid hgr
    by_cases hlt : k < l.length
    · have HROW := Lib.hid hrow
      obtain ⟨g, rfl, hbg, hgl, -, -⟩ := rowU_cell hrow (by omega)
      have HCT := Lib.hid (canG_take (lt := lessC) hlt)
      have HDR := Lib.hid (List.drop_eq_getElem_cons hlt)
      have hPl : (canG lessC (l.take k)).length = k := by rw [canG_len, List.length_take]; omega
      have HASC := Lib.hid (canG_asc strictC (tri_names ((List.map_take ▸ HND.out.sublist (List.take_sublist k (l.map (fun x => x.u.name))) : ((l.take k).map (fun x => x.u.name)).Nodup))))
      have HTRI := Lib.hid (show ∀ y ∈ canG lessC (l.take k), lessC y l[k] = true ∨ lessC l[k] y = true from fun y hy => by
        have hy := mem_canG.1 hy
        refine triS (fun e => ?_)
        obtain ⟨i, hi, hie⟩ := List.getElem_of_mem hy
        rw [List.length_take] at hi
        rw [List.getElem_take] at hie
        have h1 : (l.map (fun x => x.u.name))[i]'(by rw [List.length_map]; omega) = (l.map (fun x => x.u.name))[k]'(by rw [List.length_map]; omega) := by rw [List.getElem_map, List.getElem_map, hie]; exact e
        have := (List.getElem_inj HND.out).1 h1
        omega)
      obtain ⟨x, hx⟩ : ∃ x, l[k] = x := ⟨_, rfl⟩
      rw [hx] at HCT HDR HTRI
      clear hx hrow hgr
      generalize hP : canG lessC (l.take k) = P at *
      obtain ⟨wA, hwA⟩ : ∃ q, q = wr := ⟨_, rfl⟩
      subst hwA
      have hki : (k : Int) < l.length := by omega
      clear hP
      go_wp2
      go_loopw [9] (fun jv wr' => ∃ j : Nat, j ≤ k ∧ jv = .int .i64 j ∧ wr'.ownsRow base 34 4 (.slice (some ⟨g, 0, none⟩) l.length c) l.length (flatU (P.take j ++ x :: P.drop j ++ l.drop (k + 1))) ∧ (∀ y ∈ P.drop j, lessC x y = true) ∧ wA.grownBy wr' (some g)) (fun jv _ => (intOf jv).toNat)
      case atStart =>
        refine ⟨k, Nat.le_refl _, rfl, ?_, ?_, ⟨rfl, rfl, rfl, Nat.le_refl _, fun _ _ _ => rfl⟩⟩
        · rw [← hPl, List.take_length, List.drop_length, hPl]
          have := HROW.out
          rw [HDR.out] at this
          simpa using this
        · rw [← hPl, List.drop_length]; intro y hy; cases hy
      case round =>
        obtain ⟨j, hj, rfl, hrow, hall, hgi⟩ := hrel
        have HROW2 := Lib.hid hrow
        have HALL := Lib.hid hall
        have HGI := Lib.hid hgi
        obtain ⟨g', hge, -, hgl2, hfz, hcl⟩ := rowU_cell hrow (by omega)
        simp only [Option.some.injEq, Addr.mk.injEq, and_true] at hge
        subst hge
        have zg := bsz hgl2
        have hPt : (P.take j).length = j := by rw [List.length_take]; omega
        obtain ⟨c10, c11, c12, c13⟩ := hcl j x (by rw [List.append_assoc, List.getElem?_append_right (by omega), hPt, Nat.sub_self]; rfl)
        clear hrow hall hgi
        by_cases hj0 : 0 < j
        · have hjp : j - 1 < P.length := by omega
          obtain ⟨y, hy⟩ : ∃ y, P[j - 1] = y := ⟨_, rfl⟩
          obtain ⟨c20, c21, c22, c23⟩ := hcl (j - 1) y (by
            rw [List.append_assoc, List.getElem?_append_left (by omega), List.getElem?_take, if_pos (by omega), List.getElem?_eq_getElem hjp, hy])
          have HY := Lib.hid hy
          have hwj : IntKind.i64.wrap ((j : Int) - 1) = ((j - 1 : Nat) : Int) := by rw [IntWalk.i64_in _ (by omega)]; omega
          have hji : (0 : Int) < j := by omega
          have hjl : (j : Int) < l.length := by omega
          have hjl2 : ((j - 1 : Nat) : Int) < l.length := by omega
          clear hcl hy
          cases hL : lessC x y
          all_goals
            have HLX := Lib.hid hL
            have hCI := (cmpI_neg x.u.name y.u.name).trans hL
            simp only [decide_eq_true_eq, decide_eq_false_iff_not] at hCI
          · go_wp2
            obtain ⟨C, HC0⟩ := class_of (InF wr.heap.size _ [(⟨g, j * 4, none⟩, .string x.u.name), (⟨g, j * 4 + 1, none⟩, .slice x.p x.u.incs.length x.c), (⟨g, j * 4 + 2, none⟩, .slice x.q x.u.axs.length x.d), (⟨g, j * 4 + 3, none⟩, .string x.u.goal), (⟨g, (j - 1) * 4, none⟩, .string y.u.name), (⟨g, (j - 1) * 4 + 1, none⟩, .slice y.p y.u.incs.length y.c), (⟨g, (j - 1) * 4 + 2, none⟩, .slice y.q y.u.axs.length y.d), (⟨g, (j - 1) * 4 + 3, none⟩, .string y.u.goal)] [] [])
            have HC := Lib.hid HC0
            clear HC0
            refine wp_region_flow (C := C) (by kernel_rfl) (by kernel_rfl) (fun L hL => (HC.out _ _).2 (InF.start (by first | (intro _ hs; cases hs; done) | (simp only [List.forall_mem_cons]; go_simp)) (by first | (intro _ hs; cases hs; done) | (simp only [List.forall_mem_cons]; go_simp)) (by first | (intro _ hs; cases hs; done) | (simp only [List.forall_mem_cons]; go_simp)) (by first | (intro _ hs; cases hs; done) | (simp only [List.forall_mem_cons]; go_simp)) L hL)) ?_
            repeat (first | ((first | apply flow_free rfl | (apply flow_yes; (case hw => go_simp))); (intro L w' hun hrd hC; have hC := (HC.out _ _).1 hC; have hb' := hC.below; (try have hw' : Below w.heap.size w w' := by first | exact Below.trans (by (repeat (first | with_reducible (first | exact bR _ _ | assumption | refine bA ?_ _ | refine bS ?_ (by first | exact Nat.le_refl _ | (simp; done) | (simp; omega)) _) | assumption | exact bR _ _ | refine bD ?_ | refine bN ?_ _ | refine bT ?_ (by assumption)))) hb' | ((repeat (first | with_reducible (first | exact bR _ _ | assumption | refine bA ?_ _ | refine bS ?_ (by first | exact Nat.le_refl _ | (simp; done) | (simp; omega)) _) | assumption | exact bR _ _ | refine bD ?_ | refine bN ?_ _ | refine bT ?_ (by assumption))); done)); have hf' := hC.cell; (try simp only [List.forall_mem_cons] at hf'); go_simp; first | exact ⟨(HC.out _ _).2 (hC.skip _ (by rfl)), rfl⟩ | (rw [if_neg]; (exact ⟨(HC.out _ _).2 (hC.skip _ (by rfl)), rfl⟩); omega) | (go_at_call 75; refine (byName_any x.u.name y.u.name _ _ _ _ _ _ _).mono ?_; rintro e w1 ⟨rfl, hb1⟩; exact ⟨rfl, (HC.out _ _).2 ((hC.next (by first | (simp; done) | (simp; omega) | omega) hb1).skip _ (by rfl))⟩)); go_simp) | (apply flow_no; (case hw => (go_simp; try (intro hh; cases hh))); (intro L w' _ _ hC; exact (HC.out _ _).2 (((HC.out _ _).1 hC).skip _ (by rfl))); go_simp))
            refine flow_nil ?_
            intro L wz hL hz
            have hz := (HC.out _ _).1 hz
            have hbz := hz.below
            have hcz := hz.cell
            try simp only [List.forall_mem_cons] at hcz
            have hdz := hz.done
            try simp only [List.forall_mem_cons] at hdz
            (try have hwz : Below w.heap.size w wz := by first | exact Below.trans (by (repeat (first | with_reducible (first | exact bR _ _ | assumption | refine bA ?_ _ | refine bS ?_ (by first | exact Nat.le_refl _ | (simp; done) | (simp; omega)) _) | assumption | exact bR _ _ | refine bD ?_ | refine bN ?_ _ | refine bT ?_ (by assumption)))) hbz | ((repeat (first | with_reducible (first | exact bR _ _ | assumption | refine bA ?_ _ | refine bS ?_ (by first | exact Nat.le_refl _ | (simp; done) | (simp; omega)) _) | assumption | exact bR _ _ | refine bD ?_ | refine bN ?_ _ | refine bT ?_ (by assumption))); done))
            go_wp2
            refine ⟨⟨k + 1, by omega, by omega, by go_num, ?_, ?_⟩, by simp [intOf]; omega⟩
            · rw [HCT.out, sort_stop (j := j) strictC HASC.out (by omega) HALL.out HTRI.out (.inr ⟨hjp, by rw [HY.out]; exact HLX.out⟩)]
              exact own_below HROW2.out hbz
            · exact (HG.out.trans HGI.out).trans ⟨hbz.os, hbz.tape, hbz.output, hbz.size, fun b hb _ => hbz.block b hb⟩
          · go_wp2
            obtain ⟨C, HC0⟩ := class_of (InF wr.heap.size _ [(⟨g, j * 4, none⟩, .string x.u.name), (⟨g, j * 4 + 1, none⟩, .slice x.p x.u.incs.length x.c), (⟨g, j * 4 + 2, none⟩, .slice x.q x.u.axs.length x.d), (⟨g, j * 4 + 3, none⟩, .string x.u.goal), (⟨g, (j - 1) * 4, none⟩, .string y.u.name), (⟨g, (j - 1) * 4 + 1, none⟩, .slice y.p y.u.incs.length y.c), (⟨g, (j - 1) * 4 + 2, none⟩, .slice y.q y.u.axs.length y.d), (⟨g, (j - 1) * 4 + 3, none⟩, .string y.u.goal)] [] [])
            have HC := Lib.hid HC0
            clear HC0
            refine wp_region_flow (C := C) (by kernel_rfl) (by kernel_rfl) (fun L hL => (HC.out _ _).2 (InF.start (by first | (intro _ hs; cases hs; done) | (simp only [List.forall_mem_cons]; go_simp)) (by first | (intro _ hs; cases hs; done) | (simp only [List.forall_mem_cons]; go_simp)) (by first | (intro _ hs; cases hs; done) | (simp only [List.forall_mem_cons]; go_simp)) (by first | (intro _ hs; cases hs; done) | (simp only [List.forall_mem_cons]; go_simp)) L hL)) ?_
            repeat (first | ((first | apply flow_free rfl | (apply flow_yes; (case hw => go_simp))); (intro L w' hun hrd hC; have hC := (HC.out _ _).1 hC; have hb' := hC.below; (try have hw' : Below w.heap.size w w' := by first | exact Below.trans (by (repeat (first | with_reducible (first | exact bR _ _ | assumption | refine bA ?_ _ | refine bS ?_ (by first | exact Nat.le_refl _ | (simp; done) | (simp; omega)) _) | assumption | exact bR _ _ | refine bD ?_ | refine bN ?_ _ | refine bT ?_ (by assumption)))) hb' | ((repeat (first | with_reducible (first | exact bR _ _ | assumption | refine bA ?_ _ | refine bS ?_ (by first | exact Nat.le_refl _ | (simp; done) | (simp; omega)) _) | assumption | exact bR _ _ | refine bD ?_ | refine bN ?_ _ | refine bT ?_ (by assumption))); done)); have hf' := hC.cell; (try simp only [List.forall_mem_cons] at hf'); go_simp; first | exact ⟨(HC.out _ _).2 (hC.skip _ (by rfl)), rfl⟩ | (rw [if_neg]; (exact ⟨(HC.out _ _).2 (hC.skip _ (by rfl)), rfl⟩); omega) | (go_at_call 75; refine (byName_any x.u.name y.u.name _ _ _ _ _ _ _).mono ?_; rintro e w1 ⟨rfl, hb1⟩; exact ⟨rfl, (HC.out _ _).2 ((hC.next (by first | (simp; done) | (simp; omega) | omega) hb1).skip _ (by rfl))⟩)); go_simp) | (apply flow_no; (case hw => (go_simp; try (intro hh; cases hh))); (intro L w' _ _ hC; exact (HC.out _ _).2 (((HC.out _ _).1 hC).skip _ (by rfl))); go_simp))
            refine flow_nil ?_
            intro L wz hL hz
            have hz := (HC.out _ _).1 hz
            have hbz := hz.below
            have hcz := hz.cell
            try simp only [List.forall_mem_cons] at hcz
            have hdz := hz.done
            try simp only [List.forall_mem_cons] at hdz
            (try have hwz : Below w.heap.size w wz := by first | exact Below.trans (by (repeat (first | with_reducible (first | exact bR _ _ | assumption | refine bA ?_ _ | refine bS ?_ (by first | exact Nat.le_refl _ | (simp; done) | (simp; omega)) _) | assumption | exact bR _ _ | refine bD ?_ | refine bN ?_ _ | refine bT ?_ (by assumption)))) hbz | ((repeat (first | with_reducible (first | exact bR _ _ | assumption | refine bA ?_ _ | refine bS ?_ (by first | exact Nat.le_refl _ | (simp; done) | (simp; omega)) _) | assumption | exact bR _ _ | refine bD ?_ | refine bN ?_ _ | refine bT ?_ (by assumption))); done))
            have d10 := (hbz.cell hgl2).trans c10
            have d11 := (hbz.cell hgl2).trans c11
            have d12 := (hbz.cell hgl2).trans c12
            have d13 := (hbz.cell hgl2).trans c13
            have d20 := (hbz.cell hgl2).trans c20
            have d21 := (hbz.cell hgl2).trans c21
            have d22 := (hbz.cell hgl2).trans c22
            have d23 := (hbz.cell hgl2).trans c23
            have df : ∀ i, wz.frozen? ⟨g, i, none⟩ = false := fun i => (hbz.frozen (p := ⟨g, i, none⟩) hgl2).trans (hfz i)
            have zgz := bsz (World.block_lt_of_cell? _ _ d10)
            go_wp2
            go_region_with fail
            all_goals go_wp2
            all_goals
              have hpy : P[j - 1]? = some y := by rw [List.getElem?_eq_getElem hjp, HY.out]
              refine ⟨⟨j - 1, by omega, rfl, ?_, ?_, ?_⟩, by simp [intOf]; omega⟩
              · have hr := rowU_set (k := j - 1) x (by simp; omega) (rowU_set (k := j) y (by simp; omega) (own_below HROW2.out hbz))
                rw [set_swapU hj0 (by omega) hpy] at hr
                have hr2 := own_drew hr
                clear hr
                dsimp only [set4W] at hr2
                with_reducible exact hr2
              · intro q hq
                rw [List.drop_eq_getElem_cons hjp, HY.out] at hq
                rcases List.mem_cons.1 hq with rfl | hq
                · exact HLX.out
                · rw [show j - 1 + 1 = j by omega] at hq; exact HALL.out q hq
              · have hgz : wA.grownBy wz (some g) := HGI.out.trans ⟨hbz.os, hbz.tape, hbz.output, hbz.size, fun b hb _ => hbz.block b hb⟩
                have hz4 := gr_sc (gr_sc (gr_sc (gr_sc (gr_sc (gr_sc (gr_sc (gr_sc hgz (.inl rfl) (.string y.u.name) (p := ⟨g, j * 4, none⟩)) (.inl rfl) (.slice y.p y.u.incs.length y.c) (p := ⟨g, j * 4 + 1, none⟩)) (.inl rfl) (.slice y.q y.u.axs.length y.d) (p := ⟨g, j * 4 + 2, none⟩)) (.inl rfl) (.string y.u.goal) (p := ⟨g, j * 4 + 3, none⟩)) (.inl rfl) (.string x.u.name) (p := ⟨g, (j - 1) * 4, none⟩)) (.inl rfl) (.slice x.p x.u.incs.length x.c) (p := ⟨g, (j - 1) * 4 + 1, none⟩)) (.inl rfl) (.slice x.q x.u.axs.length x.d) (p := ⟨g, (j - 1) * 4 + 2, none⟩)) (.inl rfl) (.string x.u.goal) (p := ⟨g, (j - 1) * 4 + 3, none⟩)
                with_reducible exact gr_dr hz4
        · obtain rfl : j = 0 := by omega
          go_wp2
          obtain ⟨C, HC0⟩ := class_of (InF wr.heap.size _ [] [] [])
          have HC := Lib.hid HC0
          clear HC0
          refine wp_region_flow (C := C) (by kernel_rfl) (by kernel_rfl) (fun L hL => (HC.out _ _).2 (InF.start (by first | (intro _ hs; cases hs; done) | (simp only [List.forall_mem_cons]; go_simp)) (by first | (intro _ hs; cases hs; done) | (simp only [List.forall_mem_cons]; go_simp)) (by first | (intro _ hs; cases hs; done) | (simp only [List.forall_mem_cons]; go_simp)) (by first | (intro _ hs; cases hs; done) | (simp only [List.forall_mem_cons]; go_simp)) L hL)) ?_
          repeat (first | ((first | apply flow_free rfl | (apply flow_yes; (case hw => go_simp))); (intro L w' hun hrd hC; have hC := (HC.out _ _).1 hC; have hb' := hC.below; have hf' := hC.cell; (try simp only [List.forall_mem_cons] at hf'); go_simp; first | exact ⟨(HC.out _ _).2 (hC.skip _ (by rfl)), rfl⟩ | (rw [if_neg]; (exact ⟨(HC.out _ _).2 (hC.skip _ (by rfl)), rfl⟩); omega) | fail); go_simp) | (apply flow_no; (case hw => (go_simp; try (intro hh; cases hh))); (intro L w' _ _ hC; exact (HC.out _ _).2 (((HC.out _ _).1 hC).skip _ (by rfl))); go_simp))
          refine flow_nil ?_
          intro L wz hL hz
          have hz := (HC.out _ _).1 hz
          have hbz := hz.below
          have hcz := hz.cell
          try simp only [List.forall_mem_cons] at hcz
          have hdz := hz.done
          try simp only [List.forall_mem_cons] at hdz
          (try have hwz : Below w.heap.size w wz := by first | exact Below.trans (by (repeat (first | with_reducible (first | exact bR _ _ | assumption | refine bA ?_ _ | refine bS ?_ (by first | exact Nat.le_refl _ | (simp; done) | (simp; omega)) _) | assumption | exact bR _ _ | refine bD ?_ | refine bN ?_ _ | refine bT ?_ (by assumption)))) hbz | ((repeat (first | with_reducible (first | exact bR _ _ | assumption | refine bA ?_ _ | refine bS ?_ (by first | exact Nat.le_refl _ | (simp; done) | (simp; omega)) _) | assumption | exact bR _ _ | refine bD ?_ | refine bN ?_ _ | refine bT ?_ (by assumption))); done))
          go_wp2
          refine ⟨⟨k + 1, by omega, by omega, by go_num, ?_, ?_⟩, by simp [intOf]; omega⟩
          · rw [HCT.out, sort_stop (j := 0) strictC HASC.out (by omega) HALL.out HTRI.out (.inl rfl)]
            exact own_below HROW2.out hbz
          · exact (HG.out.trans HGI.out).trans ⟨hbz.os, hbz.tape, hbz.output, hbz.size, fun b hb _ => hbz.block b hb⟩
    · have hck : canG lessC (l.take k) ++ l.drop k = canG lessC l := by rw [List.take_of_length_le (by omega), List.drop_eq_nil_of_le (by omega), List.append_nil]
      rw [hck] at hrow
      have HROW := Lib.hid hrow
      clear hrow hck hgr
      have hkl : ¬ (k : Int) < l.length := by omega
      go_wp2
      go_end0
      exact ⟨rfl, HROW.out, HG.out⟩
set_option maxRecDepth 100000 in
set_option maxHeartbeats 3200000 in
theorem pdqU_any (base : Nat) (l : List UC) (p : Option Addr) (c : Nat) (lim : Int) (w : World) (h : w.ownsRow base 34 4 (.slice p l.length c) l.length (flatU l)) (hn : l.length ≤ 12) (hnd : (l.map (fun x => x.u.name)).Nodup) :
    Calls Tryz.prog 134 #[.slice p l.length c, .int .i64 0, .int .i64 l.length, .int .i64 lim, .func (.func 75) #[] #[]] w fun e w' => e = .returned (.tuple #[]) ∧ w'.ownsRow base 34 4 (.slice p l.length c) l.length (flatU (canG lessC l)) ∧ w.grownBy w' (Value.slice p l.length c).ownBlock := by
  have H := Lib.hid (insSortU_any base l p c w h (by omega) hnd)
  have hi : (l.length : Int) ≤ 12 := by omega
  clear h hnd
  go_enter Tryz.func134, Tryz.ntmps134
  go_wp2
  go_loopw [1, 2] (fun a b wr => a = .int .i64 0 ∧ b = .int .i64 l.length ∧ wr = w) (fun _ _ _ => 0)
  case atStart => exact ⟨rfl, rfl, rfl⟩
  case round =>
    obtain ⟨rfl, rfl, rfl⟩ := hrel
    go_wp2_with fail
    refine H.out.mono ?_
    rintro e w1 ⟨rfl, h1, h2⟩
    have H1 := Lib.hid (And.intro h1 h2)
    clear h1 h2
    go_wp2
    refine bodyPost_ret (results_none rfl _ _ _) rfl ?_
    exact ⟨rfl, H1.out.1, H1.out.2⟩
set_option maxRecDepth 100000 in
set_option maxHeartbeats 1600000 in
theorem sortU_any (base : Nat) (l : List UC) (p : Option Addr) (c : Nat) (w : World) (h : w.ownsRow base 34 4 (.slice p l.length c) l.length (flatU l)) (hn : l.length ≤ 12) (hnd : (l.map (fun x => x.u.name)).Nodup) :
    Calls Tryz.prog 74 #[.slice p l.length c, .func (.func 75) #[] #[]] w fun e w' => e = .returned (.tuple #[]) ∧ w'.ownsRow base 34 4 (.slice p l.length c) l.length (flatU (canG lessC l)) ∧ w.grownBy w' (Value.slice p l.length c).ownBlock := by
  have H := Lib.hid (fun lim => pdqU_any base l p c lim w h hn hnd)
  have hw : IntKind.u64.wrap (l.length : Int) = l.length := by simp [IntKind.wrap, IntKind.bits, IntKind.signed]; omega
  clear h hnd
  go_enter Tryz.func74, Tryz.ntmps74
  go_wp2_with fail
  refine (bitsLen_any l.length w (by omega)).mono ?_
  rintro e w1 ⟨r, rfl, rfl⟩
  clear hw
  go_wp2_with fail
  refine (H.out r).mono ?_
  rintro e w2 ⟨rfl, h1, h2⟩
  have H1 := Lib.hid (And.intro h1 h2)
  clear h1 h2
  go_wp2
  go_end0
  exact ⟨rfl, H1.out.1, H1.out.2⟩
end Go.Proofs.YtkgfanajgdelcaaGreatDoor
