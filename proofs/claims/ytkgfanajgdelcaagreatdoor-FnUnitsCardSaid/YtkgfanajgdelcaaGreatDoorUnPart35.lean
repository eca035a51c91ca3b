import Derived.Test.YtkgfanajgdelcaaGreatDoorUnPart34
namespace Go.Proofs.YtkgfanajgdelcaaGreatDoor
set_option maxRecDepth 100000
open Go.RowKit
def CodeIn (w : World) (v : Value) : Prop := ∃ code : List UInt8, code.length ≤ 1000000 ∧ ListAt (fun b => b < w.heap.size) w 1 (fun x cs => cs = [.int .u8 (x.toNat : Int)]) v code
theorem cur_new {w w1 : World} {v : Value} (h : CodeIn w v) (hb : Below w.heap.size w w1) : Cur (w1.alloc (.cells #[v, .int .i64 0, .int .u64 0] 72)) w1.heap.size 0 := by
  obtain ⟨code, h1, h2⟩ := h
  have hz := hb.size
  refine ⟨v, 0, 0, heap_alloc_new _ _, Nat.le_refl _, by omega, by omega, by omega, code, h1, ?_⟩
  exact (h2.mono (w' := w1.alloc _) (fun b hb' hlt => (hao w1 _ b (by omega)).trans (hb.block b hlt)) (fun b hb' => by omega) (fun _ _ _ h => h))
theorem specUnit_any {B : Nat → Prop} (u : Un) (v0 v1 v2 v3 : Value) (w : World) (h : UnAt B w u [v0, v1, v2, v3]) (hw : u.wt ≤ 1000000000000) :
    Calls Tryz.prog 24 #[.agg #[v0, v1, v2, v3]] w fun e w' => e = .returned (.bool u.good) ∧ Below w.heap.size w w' := by
  obtain ⟨p, c, q, d, rfl, rfl, rfl, rfl, -⟩ := h.form
  have H := Lib.hid h
  clear h
  go_enter Tryz.func24, Tryz.ntmps24
  go_wp2_with fail
  refine (l27Unit_any u _ _ _ _ _ (H.out.below (by exact bel)) hw).mono ?_
  rintro e w1 ⟨rfl, hb1⟩
  have ⟨cw1, fw1⟩ := bcell hb1
  have qw1 := hb1.size
  (try simp at qw1)
  (try have zw1w := bsz (show w.heap.size < w1.heap.size by omega))
  go_wp2
  go_ret
  exact ⟨rfl, by exact bel⟩
def Un.fmtG (u : Un) : List UInt8 := if u.good then u.txt else []
set_option maxHeartbeats 800000 in
theorem implFU_any {B : Nat → Prop} (u : Un) (v0 v1 v2 v3 : Value) (w : World) (h : UnAt B w u [v0, v1, v2, v3]) (hw : u.wt ≤ 1000000000000) :
    Calls Tryz.prog 22 #[.agg #[v0, v1, v2, v3]] w fun e w' => e = .returned (.tuple #[.string ⟨u.fmtG.toArray⟩, .bool u.good]) ∧ Below w.heap.size w w' := by
  obtain ⟨p, c, q, d, rfl, rfl, rfl, rfl, -⟩ := h.form
  have H := Lib.hid h
  clear h
  cases hg : u.good
  · have HG := Lib.hid hg
    go_enter Tryz.func22, Tryz.ntmps22
    go_wp2_with fail
    refine (implUnit_any u _ _ _ _ _ (H.out.below (by exact bel)) hw).mono ?_
    rintro e w1 ⟨rfl, hb1⟩
    have ⟨cw1, fw1⟩ := bcell hb1
    have qw1 := hb1.size
    (try simp at qw1)
    (try have zw1w := bsz (show w.heap.size < w1.heap.size by omega))
    rw [HG.out]
    go_wp2
    go_ret2
    exact ⟨by rw [Un.fmtG, HG.out]; rfl, by exact bel⟩
  · have HG := Lib.hid hg
    go_enter Tryz.func22, Tryz.ntmps22
    go_wp2_with fail
    refine (implUnit_any u _ _ _ _ _ (H.out.below (by exact bel)) hw).mono ?_
    rintro e w1 ⟨rfl, hb1⟩
    have ⟨cw1, fw1⟩ := bcell hb1
    have qw1 := hb1.size
    (try simp at qw1)
    (try have zw1w := bsz (show w.heap.size < w1.heap.size by omega))
    rw [HG.out]
    go_wp2_with fail
    refine (formatUnit_any u _ _ _ _ _ (H.out.below (by exact bel)) hw).mono ?_
    rintro e w2 ⟨rfl, hb2⟩
    have ⟨cw2, fw2⟩ := bcell hb2
    have qw2 := hb2.size
    (try simp at qw2)
    (try have zw2w := bsz (show w.heap.size < w2.heap.size by omega))
    (try have zw2w1 := bsz (show w1.heap.size < w2.heap.size by omega))
    go_wp2
    go_ret2
    exact ⟨by rw [Un.fmtG, HG.out]; rfl, by exact bel⟩
theorem code_in_below {w w1 : World} {v : Value} (h : CodeIn w v) (hb : Below w.heap.size w w1) : CodeIn w1 v := by
  obtain ⟨code, h1, h2⟩ := h
  exact ⟨code, h1, h2.mono (fun b hb' hlt => hb.block b hlt) (fun b hb' => Nat.lt_of_lt_of_le hb' hb.size) (fun _ _ _ h => h)⟩
theorem l1Least_any (a b : Int) (w : World) : Calls Tryz.prog 64 #[.int .i64 a, .int .i64 b] w fun e w' => e = .returned (.int .i64 (if a < b then a else b)) ∧ w = w' := by
  by_cases hab : a < b
  · go_enter Tryz.func64, Tryz.ntmps64
    go_wp2
    go_ret
    exact ⟨rfl, rfl⟩
  · go_enter Tryz.func64, Tryz.ntmps64
    go_wp2
    go_ret
    exact ⟨rfl, rfl⟩
theorem strsAt_row {B : Nat → Prop} {w : World} {base g n c : Nat} {e : TypeId} {xs : List Value} {us : List ByteArray} (h : w.ownsRow base e 1 (.slice (some ⟨g, 0, none⟩) n c) n xs) (hn : n = us.length) (hm : n ≤ maxLen) (hB : B g) (hz : ∀ s ∈ us, s.size ≤ maxLen)
    (hR : ∀ (j : Nat) (t : ByteArray), us[j]? = some t → xs[j]? = some (Value.string t)) : StrsAt B w (.slice (some ⟨g, 0, none⟩) n c) us := by
  subst hn
  refine ⟨_, _, rfl, hm, fun i t ht => ⟨g, 0, rfl, hB, [Value.string t], rfl, fun j hj => ?_, rfl, hz t (List.mem_of_getElem? ht)⟩⟩
  have hi : i < us.length := (List.getElem?_eq_some_iff.1 ht).1
  obtain rfl : j = 0 := by omega
  rw [Nat.zero_add, Nat.mul_one, Nat.add_zero, h.cellAt i (by omega)]
  simpa using hR i t ht
def DrawUn (w : World) (e : Ending) (w' : World) : Prop := ∃ (u : Un) (v0 v1 v2 v3 : Value), e = .returned (.agg #[v0, v1, v2, v3]) ∧ UnAt (NewB w w') w' u [v0, v1, v2, v3] ∧ u.wt ≤ 1000 ∧ Below w.heap.size w w'
theorem un_moved {w w2 w3 : World} {k n : Nat} {u : Un} {cs : List Value} (h : UnAt (fun b => n ≤ b ∧ b < w2.heap.size) w2 u cs) (hz : w3.heap.size = w2.heap.size) (ho : ∀ b, b ≠ k → w3.heap[b]? = w2.heap[b]?) (hk : k < n) (hw : w.heap.size ≤ n) : UnAt (NewB w w3) w3 u cs :=
  h.mono (fun b hb _ => ho b (by have := hb.1; omega)) (fun b hb => ⟨by have := hb.1; omega, by rw [hz]; exact hb.2⟩)
theorem UC.Own.at_ {e : TypeId} {base : Nat} {w : World} {x : UC} (h : x.Own e base w) (hw : x.u.wt ≤ 1000) : UnAt (fun b => base ≤ b ∧ b < w.heap.size) w x.u [.string x.u.name, .slice x.p x.u.incs.length x.c, .slice x.q x.u.axs.length x.d, .string x.u.goal] := by
  obtain ⟨z1, z2, z3, z4, -, -⟩ := wt_sizes hw
  have hm : ∀ k, k ≤ 1000 → k ≤ maxLen := fun k hk => by unfold maxLen; omega
  exact ((h.un (hm _ z1) (hm _ z2) (fun s hs => hm _ (z3 s hs)) (fun s hs => hm _ (z4 s hs))).at_).mono (SameOn.refl _ _) (fun b hb => h.blk hb)
set_option maxHeartbeats 3200000 in
theorem drawIVU_any (pp : Option Addr) (nn cc : Nat) (w : World) (h : CodeIn w (.slice pp nn cc)) : Calls Tryz.prog 58 #[.slice pp nn cc] w (DrawUn w) := by
  have H := Lib.hid (fun (w1 : World) (hb : Below w.heap.size w w1) => cur_new h hb)
  clear h
  have HR0 := Lib.hid (show (w.alloc (.cells #[.string ⟨#[]⟩, .slice none 0 0, .slice none 0 0, .string ⟨#[]⟩] 34)).heap[w.heap.size]? = some (.cells #[.string ⟨#[]⟩, .slice none 0 0, .slice none 0 0, .string ⟨#[]⟩] 34 (0, 0)) from heap_alloc_new w _)
  have HW := Lib.hid (show Cur ((w.alloc (.cells #[.string ⟨#[]⟩, .slice none 0 0, .slice none 0 0, .string ⟨#[]⟩] 34)).alloc (.cells #[.slice pp nn cc, .int .i64 0, .int .u64 0] 72)) (w.heap.size + 1) 0 by simpa using H.out (w.alloc (.cells #[.string ⟨#[]⟩, .slice none 0 0, .slice none 0 0, .string ⟨#[]⟩] 34)) (by exact bel))
  go_enter Tryz.func58, Tryz.ntmps58
  go_wp2_with fail
  refine (library_any (w.heap.size + 1) 0 _ HW.out (by omega)).mono ?_
  rintro e w1 ⟨_, rfl, ⟨us, hus, hl, hwt⟩, hc1, hg1⟩
  have HC1 := Lib.hid hc1
  clear hc1
  have ⟨c1, f1⟩ := gcell hg1
  have hz1 := hg1.size
  (try simp at hz1)
  rename_i v1
  obtain ⟨p, c, rfl, -⟩ := hus.form
  have HU := Lib.hid hus
  have hb01 : Below w.heap.size w w1 := (show Below w.heap.size w _ by exact bel).trans (gr_to_below (B := w.heap.size) hg1 (by omega) (by simp; omega))
  have HG1 := Lib.hid hg1
  have hr1 : w1.heap[w.heap.size]? = some (.cells #[.string ⟨#[]⟩, .slice none 0 0, .slice none 0 0, .string ⟨#[]⟩] 34 (0, 0)) := (hg1.block w.heap.size (by simp; omega) (fun e => by injection e with e; omega)).trans ((hao _ _ _ (by simp)).trans HR0.out)
  have HR1 := Lib.hid hr1
  have zr1 := bsz (blk_lt hr1)
  clear hus hr1 hg1 c1 f1
  by_cases h0 : us.length = 0
  · rw [h0]
    obtain ⟨W1, hW1⟩ : ∃ q : World, q = w1.alloc (.cells #[.string ⟨#[97]⟩, .string ⟨#[98]⟩] 9) := ⟨_, rfl⟩
    have HN := Lib.hid (show StrsAt (fun b => b = w1.heap.size) W1 (.slice (some ⟨w1.heap.size, 0, none⟩) 2 2) [⟨#[97]⟩, ⟨#[98]⟩] from
      strsAt_row (own_block (base := 0) (size := 1) (xs := [.string ⟨#[97]⟩, .string ⟨#[98]⟩]) (by rw [hW1]; exact heap_alloc_new w1 _) (Nat.zero_le _) (Nat.le_refl _) (by decide) rfl rfl) rfl (by decide) rfl (by decide) (by intro j t ht; rcases j with _ | _ | j <;> simp at ht ⊢; exact ht; exact ht))
    have HC := Lib.hid (show Cur W1 (w.heap.size + 1) (0 + 400) by rw [hW1]; exact HC1.out.al _)
    have hr1 : W1.heap[w.heap.size]? = some (.cells #[.string ⟨#[]⟩, .slice none 0 0, .slice none 0 0, .string ⟨#[]⟩] 34 (0, 0)) := by rw [hW1]; exact (hao _ _ _ zr1.1).trans HR1.out
    have hb11 : Below w1.heap.size w1 W1 := by rw [hW1]; exact (Below.refl _ _).alloc (Nat.le_refl _) _
    have hs1 : W1.heap.size = w1.heap.size + 1 := by rw [hW1]; simp
    have HRW := Lib.hid hr1
    clear hr1
    go_wp2_with fail
    rw [← hW1]
    clear hW1
    refine (unit_any (w.heap.size + 1) (0 + 400) ⟨#[98, 97, 115, 101]⟩ (.slice (some ⟨w1.heap.size, 0, none⟩) 2 2) [⟨#[97]⟩, ⟨#[98]⟩] _ HC.out (by omega) HN.out (fun b hb => by omega) (by decide) (by decide) (by decide)).mono ?_
    rintro e w2 ⟨_, rfl, ⟨u, p4, c4, p7, c7, rfl, hun, hown, hwt2⟩, hc2, hg2⟩
    have hq2 := hg2.size
    have hr2 : w2.heap[w.heap.size]? = some (.cells #[.string ⟨#[]⟩, .slice none 0 0, .slice none 0 0, .string ⟨#[]⟩] 34 (0, 0)) := (hg2.block w.heap.size (by omega) (fun e => by injection e with e; omega)).trans HRW.out
    obtain ⟨r0, r1, r2, r3, rf⟩ := row4_cells hr2
    have zr2 := bsz (blk_lt hr2)
    have hb02 : Below w.heap.size w w2 := (Below.step hb01 hb11).trans (gr_to_below (B := w.heap.size) hg2 (by omega) (by omega))
    have hnm : u.name.size ≤ 10 := by rw [hun]; decide
    have HOW := Lib.hid (hown.at_ (by show u.wt ≤ 1000; omega))
    obtain ⟨un, ui, ua, ug⟩ := u
    simp only at hun hnm
    subst hun
    clear hr2 hc2 hg2 hown
    go_wp2
    refine bodyPost_ret (v := .agg #[.string ⟨#[98, 97, 115, 101]⟩, .slice p4 ui.length c4, .slice p7 ua.length c7, .string ug]) (by simp only [results, Tryz.results58]; go_simp) rfl ⟨⟨_, ui, ua, ug⟩, _, _, _, _, rfl, ?_, Nat.le_trans hwt2 (by decide), ?_⟩
    · exact un_moved HOW.out (k := w.heap.size) (by simp) (fun b hb => set4_other w2 _ _ _ _ hb) (by omega) (by omega)
    · exact bel
  · have hz0 : ((us.length : Int) == 0) = false := by simp; intro e; exact h0 (by rw [e]; rfl)
    go_wp2_with fail
    refine (pick_any (w.heap.size + 1) (0 + 400) us.length _ HC1.out (by omega) (by omega) (by omega)).mono ?_
    rintro e w2 ⟨_, rfl, ⟨r1, rfl, hr1, hr2⟩, hc2, hg2⟩
    have HC2 := Lib.hid hc2
    clear hc2
    have ⟨c2, f2⟩ := gcell hg2
    have hz2 := hg2.size
    (try simp at hz2)
    clear c2 f2
    obtain ⟨r, rfl⟩ : ∃ r : Nat, r1 = (r : Int) := ⟨r1.toNat, by omega⟩
    have hrk : (r : Int) < us.length := by omega
    have hrl : r < us.length := by omega
    obtain ⟨b, o, rfl, hB, p1, c1, p2, c2, hx0, hx1, hx2, hx3, hx⟩ := (HU.out.mono (w' := w2) (sameOn_grown hg2 (fun b hb => by have := hb.1; simp at this; omega)) (fun _ h => h)).at_ hrl
    have hr2 : w2.heap[w.heap.size]? = some (.cells #[.string ⟨#[]⟩, .slice none 0 0, .slice none 0 0, .string ⟨#[]⟩] 34 (0, 0)) := (hg2.block w.heap.size zr1.1 (fun e => by injection e with e; omega)).trans HR1.out
    obtain ⟨r0, q1, q2, q3, rf⟩ := row4_cells hr2
    have zr2 := bsz (blk_lt hr2)
    have zb := bsz (World.block_lt_of_cell? _ _ hx0)
    have hb02 : Below w.heap.size w w2 := hb01.trans (gr_to_below (B := w.heap.size) hg2 (by omega) (by omega))
    have hwtr := hwt _ (List.getElem_mem hrl)
    obtain ⟨u, hu⟩ : ∃ u, us[r] = u := ⟨_, rfl⟩
    rw [hu] at hx0 hx1 hx2 hx3 hx hwtr
    have HX := Lib.hid hx
    have hbb : w.heap.size < b := by have := hB.1; simp at this; omega
    have HG2 := Lib.hid hg2
    have HBB := Lib.hid hbb
    have HWR := Lib.hid hwtr
    have HB := Lib.hid hB
    clear hx hu hr2 hg2 hbb hwtr hB hwt hl
    go_wp2
    refine bodyPost_ret (v := .agg #[.string u.name, .slice p1 u.incs.length c1, .slice p2 u.axs.length c2, .string u.goal]) (by simp only [results, Tryz.results58]; go_simp) rfl ⟨u, _, _, _, _, rfl, ?_, HWR.out, ?_⟩
    · exact un_moved (HX.out.mono (SameOn.refl _ _) (fun b hb => ⟨(show _ ≤ b from hb.1), by have := (show b < _ from hb.2); have := HG2.out.size; omega⟩)) (k := w.heap.size) (by simp) (fun b hb => set4_other w2 _ _ _ _ hb) (by simp; omega) (by simp; omega)
    · exact bel
set_option maxHeartbeats 3200000 in
theorem drawFU_any (pp : Option Addr) (nn cc : Nat) (w : World) (h : CodeIn w (.slice pp nn cc)) : Calls Tryz.prog 21 #[.slice pp nn cc] w (DrawUn w) := by
  obtain ⟨W, hW⟩ : ∃ W : World, W = w.alloc (.cells #[.string ⟨#[]⟩, .slice none 0 0, .slice none 0 0, .string ⟨#[]⟩] 34) := ⟨_, rfl⟩
  have hbW : Below w.heap.size w W := by rw [hW]; exact bel
  have hWs : W.heap.size = w.heap.size + 1 := by rw [hW]; simp
  have HR0 := Lib.hid (show W.heap[w.heap.size]? = some (.cells #[.string ⟨#[]⟩, .slice none 0 0, .slice none 0 0, .string ⟨#[]⟩] 34 (0, 0)) by rw [hW]; exact heap_alloc_new w _)
  have H := Lib.hid (code_in_below h hbW)
  clear h
  go_enter Tryz.func21, Tryz.ntmps21
  go_wp2_with fail
  rw [← hW]
  clear hW
  refine (drawIVU_any pp nn cc _ H.out).mono ?_
  rintro e w1 ⟨u, v0, v1, v2, v3, rfl, hu, hwt, hb1⟩
  obtain ⟨p, c, q, d, rfl, rfl, rfl, rfl, -⟩ := hu.form
  have HX := Lib.hid hu
  have hr1 : w1.heap[w.heap.size]? = some (.cells #[.string ⟨#[]⟩, .slice none 0 0, .slice none 0 0, .string ⟨#[]⟩] 34 (0, 0)) := (hb1.block _ (by omega)).trans HR0.out
  obtain ⟨r0, q1, q2, q3, rf⟩ := row4_cells hr1
  have zr1 := bsz (blk_lt hr1)
  have hb01 := Below.step hbW hb1
  have hqz := hb1.size
  clear hu hr1
  go_wp2
  refine bodyPost_ret (v := .agg #[.string u.name, .slice p u.incs.length c, .slice q u.axs.length d, .string u.goal]) (by simp only [results, Tryz.results21]; go_simp) rfl ⟨u, _, _, _, _, rfl, ?_, hwt, ?_⟩
  · exact un_moved HX.out (k := w.heap.size) (by simp) (fun b hb => set4_other w1 _ _ _ _ hb) (by omega) (by omega)
  · exact bel
def CodeCap (w : World) (p : Option Addr) (n c : Nat) : Prop := CodeIn w (.slice p n c) ∧ n ≤ c
theorem CodeCap.tail {w : World} {p : Option Addr} {n c : Nat} (h : CodeCap w p n c) (h0 : 0 < n) : ∃ b o, p = some ⟨b, o, none⟩ ∧ CodeIn w (.slice (some ⟨b, o + 1, none⟩) (n - 1) (c - 1)) ∧ CodeIn w (.slice (some ⟨b, o, none⟩) 0 (c - 1)) := by
  obtain ⟨⟨code, h1, h2⟩, h3⟩ := h
  obtain ⟨q, d, he, hl, hat⟩ := h2
  simp only [Value.slice.injEq] at he
  obtain ⟨rfl, rfl, rfl⟩ := he
  obtain ⟨b, o, rfl, hB, -⟩ := hat 0 code[0] (List.getElem?_eq_getElem h0)
  refine ⟨b, o, rfl, ⟨code.drop 1, by rw [List.length_drop]; omega, _, _, by rw [List.length_drop], by rw [List.length_drop]; omega, fun i x hx => ?_⟩, ⟨[], by simp, ListAt.nil _ _ _ _ _ _⟩⟩
  rw [List.getElem?_drop] at hx
  obtain ⟨b', o', e, hB', cs, h5, h6, h7⟩ := hat (1 + i) x hx
  simp only [Option.some.injEq, Addr.mk.injEq, and_true] at e
  obtain ⟨rfl, rfl⟩ := e
  exact ⟨b, o + 1, rfl, hB', cs, h5, fun j hj => by have := h6 j hj; rw [show o + 1 + i * 1 + j = o + (1 + i) * 1 + j by omega]; exact this, h7⟩
theorem txt_len {u : Un} (h : u.wt ≤ 1000) : u.txt.length ≤ 30000 := by
  have h7 : (if u.goal.toList == [] then ([] : List UInt8) else lineU kwGoal u.goal).length ≤ 6 + u.goal.size := by
    split
    · simp
    · rw [lineU_len]; simp [kwGoal]; omega
  rw [Un.wt] at h
  rw [Un.txt, List.length_append, List.length_append, List.length_append, linesU_len, linesU_len, lineU_len]
  simp [kwUnit, kwInc, kwAx]
  simp at h7
  omega
set_option maxHeartbeats 3200000 in
theorem drawPU_any (p : Option Addr) (n c : Nat) (w : World) (h : CodeCap w p n c) (hn : n ≤ 65536) : Calls Tryz.prog 25 #[.slice p n c] w fun e w' => ∃ s : ByteArray, e = .returned (.string s) ∧ s.size ≤ 1000000 ∧ Below w.heap.size w w' := by
  have HT := Lib.hid (fun h0 => h.tail h0)
  have HC0 := Lib.hid (cur_new h.1 (Below.refl w.heap.size w))
  have hnc := h.2
  have hg0 : w.heap.size < (w.alloc (.cells #[.slice p n c, .int .i64 0, .int .u64 0] 72)).heap.size := by simp
  by_cases h0 : n = 0
  · have HI := Lib.hid h.1
    subst h0
    clear h
    go_enter Tryz.func25, Tryz.ntmps25
    go_wp2_with fail
    refine (l1Least_any _ _ _).mono ?_
    rintro e w' ⟨rfl, rfl⟩
    go_wp2_with fail
    refine (drawIVU_any _ _ _ _ (code_in_below HI.out (show Below w.heap.size w _ by exact bel))).mono ?_
    rintro e w1 ⟨u, v0, v1, v2, v3, rfl, hu, hwt, hb1⟩
    obtain ⟨p1, c1, q1, d1, rfl, rfl, rfl, rfl, -⟩ := hu.form
    have HU := Lib.hid hu
    have HC1 := Lib.hid (HC0.out.below hb1)
    have hb01 := Below.step ((Below.refl w.heap.size w).alloc (Nat.le_refl _) (.cells #[_, .int .i64 0, .int .u64 0] 72)) hb1
    have hqq := hb01.size
    clear hu
    go_wp2_with fail
    refine (l27Lines_any u _ _ _ _ _ HU.out (by omega)).mono ?_
    rintro e w2 ⟨rfl, hb2⟩
    have HC2 := Lib.hid (HC1.out.below hb2)
    have hb02 := Below.step hb01 hb2
    have hqq2 := hb02.size
    have hts : (⟨u.txt.toArray⟩ : ByteArray).size ≤ 30000 := by have := txt_len hwt; simpa [ByteArray.size] using this
    obtain ⟨t, ht⟩ : ∃ t, (⟨u.txt.toArray⟩ : ByteArray) = t := ⟨_, rfl⟩
    rw [ht] at hts
    rw [ht]
    clear ht
    go_wp2_with fail
    refine (one_any w.heap.size 0 4 _ HC2.out (by omega) (by omega) (by omega)).mono ?_
    rintro e w3 ⟨_, rfl, ⟨y, rfl⟩, hc3, hg3⟩
    have HC3 := Lib.hid hc3
    clear hc3
    have ⟨c3, f3⟩ := gcell hg3
    have hz3 := hg3.size
    (try simp at hz3)
    have hb03 := hb02.trans (gr_to_below (B := w.heap.size) hg3 (by omega) (by omega))
    clear hg3 c3 f3 hb1 hb2 hb01 hb02
    cases y
    · go_wp2
      go_ret
      exact ⟨t, rfl, by omega, by exact bel⟩
    · go_wp2_with fail
      refine (spoilt_any w.heap.size (0 + 2) t ⟨#[10, 117, 97, 32, 112]⟩ _ HC3.out (by omega) (by omega) (by decide) (by decide)).mono ?_
      rintro e w4 ⟨_, rfl, ⟨s, rfl, hs⟩, hc4, hg4⟩
      have HC4 := Lib.hid hc4
      clear hc4
      have ⟨c4, f4⟩ := gcell hg4
      have hz4 := hg4.size
      (try simp at hz4)
      have hq3 := hb03.size
      have hb04 := hb03.trans (gr_to_below (B := w.heap.size) hg4 (by omega) (by omega))
      clear hg4 c4 f4 hb03
      go_wp2
      go_ret
      exact ⟨s, rfl, by omega, by exact bel⟩
  · obtain ⟨b, o, rfl, hc1, hc2⟩ := h.tail (by omega)
    have HI1 := Lib.hid hc1
    have HI2 := Lib.hid hc2
    clear h hc1 hc2
    have hn1 : ¬ ((n : Int) < 1) := by omega
    have hn2 : (1 : Int) ≤ n := by omega
    have hn3 : (n : Int) ≤ c := by omega
    by_cases hc : c = 1
    · obtain rfl : n = 1 := by omega
      subst hc
      go_enter Tryz.func25, Tryz.ntmps25
      go_wp2_with fail
      refine (l1Least_any _ _ _).mono ?_
      rintro e w' ⟨rfl, rfl⟩
      go_wp2_with fail
      refine (drawIVU_any _ _ _ _ (code_in_below HI2.out (show Below w.heap.size w _ by exact bel))).mono ?_
      rintro e w1 ⟨u, v0, v1, v2, v3, rfl, hu, hwt, hb1⟩
      obtain ⟨p1, c1, q1, d1, rfl, rfl, rfl, rfl, -⟩ := hu.form
      have HU := Lib.hid hu
      have HC1 := Lib.hid (HC0.out.below hb1)
      have hb01 := Below.step ((Below.refl w.heap.size w).alloc (Nat.le_refl _) (.cells #[_, .int .i64 0, .int .u64 0] 72)) hb1
      have hqq := hb01.size
      clear hu
      go_wp2_with fail
      refine (l27Lines_any u _ _ _ _ _ HU.out (by omega)).mono ?_
      rintro e w2 ⟨rfl, hb2⟩
      have HC2 := Lib.hid (HC1.out.below hb2)
      have hb02 := Below.step hb01 hb2
      have hqq2 := hb02.size
      have hts : (⟨u.txt.toArray⟩ : ByteArray).size ≤ 30000 := by have := txt_len hwt; simpa [ByteArray.size] using this
      obtain ⟨t, ht⟩ : ∃ t, (⟨u.txt.toArray⟩ : ByteArray) = t := ⟨_, rfl⟩
      rw [ht] at hts
      rw [ht]
      clear ht
      go_wp2_with fail
      refine (one_any w.heap.size 0 4 _ HC2.out (by omega) (by omega) (by omega)).mono ?_
      rintro e w3 ⟨_, rfl, ⟨y, rfl⟩, hc3, hg3⟩
      have HC3 := Lib.hid hc3
      clear hc3
      have ⟨c3, f3⟩ := gcell hg3
      have hz3 := hg3.size
      (try simp at hz3)
      have hb03 := hb02.trans (gr_to_below (B := w.heap.size) hg3 (by omega) (by omega))
      clear hg3 c3 f3 hb1 hb2 hb01 hb02
      cases y
      · go_wp2
        go_ret
        exact ⟨t, rfl, by omega, by exact bel⟩
      · go_wp2_with fail
        refine (spoilt_any w.heap.size (0 + 2) t ⟨#[10, 117, 97, 32, 112]⟩ _ HC3.out (by omega) (by omega) (by decide) (by decide)).mono ?_
        rintro e w4 ⟨_, rfl, ⟨s, rfl, hs⟩, hc4, hg4⟩
        have HC4 := Lib.hid hc4
        clear hc4
        have ⟨c4, f4⟩ := gcell hg4
        have hz4 := hg4.size
        (try simp at hz4)
        have hq3 := hb03.size
        have hb04 := hb03.trans (gr_to_below (B := w.heap.size) hg4 (by omega) (by omega))
        clear hg4 c4 f4 hb03
        go_wp2
        go_ret
        exact ⟨s, rfl, by omega, by exact bel⟩
    · go_enter Tryz.func25, Tryz.ntmps25
      go_wp2_with fail
      refine (l1Least_any _ _ _).mono ?_
      rintro e w' ⟨rfl, rfl⟩
      (try rw [if_neg hn1])
      go_wp2_with fail
      refine (drawIVU_any _ _ _ _ (code_in_below HI1.out (show Below w.heap.size w _ by exact bel))).mono ?_
      rintro e w1 ⟨u, v0, v1, v2, v3, rfl, hu, hwt, hb1⟩
      obtain ⟨p1, c1, q1, d1, rfl, rfl, rfl, rfl, -⟩ := hu.form
      have HU := Lib.hid hu
      have HC1 := Lib.hid (HC0.out.below hb1)
      have hb01 := Below.step ((Below.refl w.heap.size w).alloc (Nat.le_refl _) (.cells #[_, .int .i64 0, .int .u64 0] 72)) hb1
      have hqq := hb01.size
      clear hu
      go_wp2_with fail
      refine (l27Lines_any u _ _ _ _ _ HU.out (by omega)).mono ?_
      rintro e w2 ⟨rfl, hb2⟩
      have HC2 := Lib.hid (HC1.out.below hb2)
      have hb02 := Below.step hb01 hb2
      have hqq2 := hb02.size
      have hts : (⟨u.txt.toArray⟩ : ByteArray).size ≤ 30000 := by have := txt_len hwt; simpa [ByteArray.size] using this
      obtain ⟨t, ht⟩ : ∃ t, (⟨u.txt.toArray⟩ : ByteArray) = t := ⟨_, rfl⟩
      rw [ht] at hts
      rw [ht]
      clear ht
      go_wp2_with fail
      refine (one_any w.heap.size 0 4 _ HC2.out (by omega) (by omega) (by omega)).mono ?_
      rintro e w3 ⟨_, rfl, ⟨y, rfl⟩, hc3, hg3⟩
      have HC3 := Lib.hid hc3
      clear hc3
      have ⟨c3, f3⟩ := gcell hg3
      have hz3 := hg3.size
      (try simp at hz3)
      have hb03 := hb02.trans (gr_to_below (B := w.heap.size) hg3 (by omega) (by omega))
      clear hg3 c3 f3 hb1 hb2 hb01 hb02
      cases y
      · go_wp2
        go_ret
        exact ⟨t, rfl, by omega, by exact bel⟩
      · go_wp2_with fail
        refine (spoilt_any w.heap.size (0 + 2) t ⟨#[10, 117, 97, 32, 112]⟩ _ HC3.out (by omega) (by omega) (by decide) (by decide)).mono ?_
        rintro e w4 ⟨_, rfl, ⟨s, rfl, hs⟩, hc4, hg4⟩
        have HC4 := Lib.hid hc4
        clear hc4
        have ⟨c4, f4⟩ := gcell hg4
        have hz4 := hg4.size
        (try simp at hz4)
        have hq3 := hb03.size
        have hb04 := hb03.trans (gr_to_below (B := w.heap.size) hg4 (by omega) (by omega))
        clear hg4 c4 f4 hb03
        go_wp2
        go_ret
        exact ⟨s, rfl, by omega, by exact bel⟩
def DrawNm (w : World) (e : Ending) (w' : World) : Prop := ∃ (v : Value) (us : List Un) (s : ByteArray), e = .returned (.tuple #[v, .string s]) ∧ UnsAt (NewB w w') w' v us ∧ us.length ≤ 5 ∧ (∀ u ∈ us, u.wt ≤ 1000) ∧ s.size ≤ 1000 ∧ Below w.heap.size w w'
def DvaSt (g m b o n : Nat) (nm : Nat → ByteArray) (W : World) : Nat → (Nat → Value) → World → Prop
  | 0, _, w => w = W.drew
  | j + 1, u, w => Cur w g m ∧ W.drew.grownBy w (some g) ∧ ∃ r : Nat, r < n ∧ u 5 = .int .i64 r ∧ (1 ≤ j → u 6 = .pointer (some ⟨b, o + r * 4, none⟩)) ∧ (2 ≤ j → u 7 = .pointer (some ⟨b, o + r * 4, none⟩)) ∧ (3 ≤ j → u 8 = .string (nm r)) ∧ (4 ≤ j → u 10 = .string (nm r))
set_option maxHeartbeats 6400000 in
theorem drawVA_any (p : Option Addr) (n c : Nat) (w : World) (h : CodeIn w (.slice p n c)) : Calls Tryz.prog 69 #[.slice p n c] w (DrawNm w) := by
  have HC0 := Lib.hid (cur_new h (Below.refl w.heap.size w))
  clear h
  go_enter Tryz.func69, Tryz.ntmps69
  go_wp2_with fail
  refine (library_any w.heap.size 0 _ HC0.out (by omega)).mono ?_
  rintro e w1 ⟨_, rfl, ⟨us, hus, hl, hwt⟩, hc1, hg1⟩
  have HC1 := Lib.hid hc1
  clear hc1
  have ⟨c1, f1⟩ := gcell hg1
  have hz1 := hg1.size
  (try simp at hz1)
  rename_i v1
  have hb01 : Below w.heap.size w w1 := (show Below w.heap.size w _ by exact bel).trans (gr_to_below (B := w.heap.size) hg1 (by omega) (by simp))
  obtain ⟨q, d, rfl, -⟩ := hus.form
  have HU := Lib.hid (hus.mono (B' := fun b => w.heap.size < b ∧ b < w1.heap.size) (SameOn.refl _ _) (fun b hb => ⟨by have := hb.1; simp at this; omega, hb.2⟩))
  have HWT := Lib.hid hwt
  clear hus hg1 c1 f1 hwt
  by_cases h0 : us.length = 0
  · rw [h0]
    go_wp2_with fail
    refine (of_lit w.heap.size (0 + 400) 10 3 w1.heap.size _ _ _ (by rfl) (by rfl) HC1.out (by omega) (by decide) (by decide) (by intro v hv; simp at hv; rcases hv with rfl | rfl | rfl <;> exact ⟨_, rfl, by decide⟩)).mono ?_
    rintro e w2 ⟨_, rfl, ⟨s, rfl, hs⟩, hc2, hg2⟩
    have HC2 := Lib.hid hc2
    clear hc2
    have ⟨c2, f2⟩ := gcell hg2
    have hz2 := hg2.size
    (try simp at hz2)
    have hb02 := (show Below w.heap.size w (w1.alloc _) from Below.al hb01 _).trans (gr_to_below (B := w.heap.size) hg2 (by omega) (by simp; omega))
    clear hg2 c2 f2 hb01
    go_wp2
    go_ret2
    exact ⟨_, [], s, rfl, ListAt.nil _ _ _ _ _ _, by simp, (fun _ h => by cases h), by omega, by exact bel⟩
  · have hz0 : ((us.length : Int) == 0) = false := by simp; intro e; exact h0 (by rw [e]; rfl)
    go_wp2_with fail
    refine (one_any w.heap.size (0 + 400) 12 _ HC1.out (by omega) (by omega) (by omega)).mono ?_
    rintro e w2 ⟨_, rfl, ⟨y, rfl⟩, hc2, hg2⟩
    have HC2 := Lib.hid hc2
    clear hc2
    have ⟨c2, f2⟩ := gcell hg2
    have hz2 := hg2.size
    (try simp at hz2)
    have hb02 := hb01.trans (gr_to_below (B := w.heap.size) hg2 (by omega) (by omega))
    have HU2 := Lib.hid (HU.out.mono (w' := w2) (sameOn_grown hg2 (fun b hb => by have := hb.1; omega)) (fun _ h => h))
    have hq2 := hg2.size
    clear hg2 c2 f2 hb01
    cases y
    · have HU2' := Lib.hid (fun (r : Nat) (h : r < us.length) => HU2.out.at_ h)
      obtain ⟨b, o, rfl, hB, -⟩ := HU2.out.at_ (i := 0) (by omega)
      obtain ⟨nm, hnm⟩ : ∃ nm : Nat → ByteArray, nm = fun r => (us.getD r u0).name := ⟨_, rfl⟩
      have HNM := Lib.hid (fun (r : Nat) (h : r < us.length) => (by rw [hnm]; simp only [List.getD_eq_getElem?_getD, List.getElem?_eq_getElem h, Option.getD_some] : nm r = us[r].name))
      clear hnm
      have HAT := Lib.hid (fun (r : Nat) (h : r < us.length) => (by
        obtain ⟨b', o', e, -, p1, c1, p2, c2, h1, -⟩ := HU2.out.at_ h
        simp only [Option.some.injEq, Addr.mk.injEq, and_true] at e
        obtain ⟨rfl, rfl⟩ := e
        rw [HNM.out r h]
        exact h1 : w2.cell? ⟨b, o + r * 4, none⟩ = some (.string (nm r))))
      have hbg : w.heap.size < b := hB.1
      have hb1 : b < w1.heap.size := hB.2
      clear hB HU2'
      go_wp2
      refine wp_region_stages [some (.slice (some ⟨b, o, none⟩) us.length d), some (.slice (some ⟨b, o, none⟩) us.length d), some (.pointer (some ⟨w.heap.size, 0, none⟩)), some (.slice (some ⟨b, o, none⟩) us.length d), some (.int .i64 us.length), none, none, none, none, some (.slice (some ⟨b, o, none⟩) us.length d), none] [5, 6, 7, 8, 10] (DvaSt w.heap.size (0 + 400 + 2 + 2) b o us.length nm w2) (by kernel_rfl) (by kernel_rfl) (by first | kernel_rfl | rfl) (by rfl) rfl ?_
      iterate 5 (refine chain_st rfl rfl (by decide) rfl (by intro j u w' hS; go_simp; first | done | exact ⟨hS, rfl⟩ | exact hS | rfl) ?_; go_simp)
      refine chain_first rfl rfl rfl (by decide) rfl ?_ ?_
      · intro w' hS
        obtain rfl : w' = w2.drew := hS
        go_simp
        refine (pick_any w.heap.size (0 + 400 + 2) us.length _ (HC2.out.below ((Below.refl _ _).drew)) (by omega) (by omega) (by omega)).mono ?_
        rintro e w'' ⟨_, rfl, ⟨r1, rfl, hr1, hr2⟩, hc, hg⟩
        exact ⟨_, rfl, hc, hg, r1.toNat, by omega, by rw [upd_same]; exact congrArg _ (by omega), fun h => absurd h (by decide), fun h => absurd h (by decide), fun h => absurd h (by decide), fun h => absurd h (by decide)⟩
      intro x5
      go_simp
      refine chain_next 0 rfl rfl rfl rfl (by decide) rfl (by first | kernel_rfl | rfl) ?_ ?_
      · rintro w' ⟨hc, hg, r, hr, h5, -⟩
        rw [upd_same] at h5
        subst h5
        have hri : (r : Int) < us.length := by omega
        go_simp
        exact ⟨hc, hg, r, hr, by simp [upd], fun _ => by simp [upd], fun h => absurd h (by decide), fun h => absurd h (by decide), fun h => absurd h (by decide)⟩
      intro x6
      go_simp
      refine chain_next 1 rfl rfl rfl rfl (by decide) rfl (by first | kernel_rfl | rfl) ?_ ?_
      · rintro w' ⟨hc, hg, r, hr, h5, h6, -⟩
        have h6 := h6 (by decide)
        rw [upd_same] at h6
        subst h6
        go_simp
        exact ⟨hc, hg, r, hr, by simpa [upd] using h5, fun _ => by simp [upd], fun _ => by simp [upd], fun h => absurd h (by decide), fun h => absurd h (by decide)⟩
      intro x7
      go_simp
      refine chain_next 2 rfl rfl rfl rfl (by decide) rfl (by first | kernel_rfl | rfl) ?_ ?_
      · rintro w' ⟨hc, hg, r, hr, h5, h6, h7, -⟩
        have h7 := h7 (by decide)
        rw [upd_same] at h7
        subst h7
        have hce := ((gcell hg).1 b (o + r * 4) (by simpa using (by omega : b < w2.heap.size)) (by omega)).trans (HAT.out r hr)
        go_simp
        exact ⟨hc, hg, r, hr, by simpa [upd] using h5, fun _ => by simpa [upd] using h6 (by decide), fun _ => by simp [upd], fun _ => by simp [upd], fun h => absurd h (by decide)⟩
      intro x8
      go_simp
      refine chain_st rfl rfl (by decide) rfl (by intro j u w' hS; go_simp; first | done | exact ⟨hS, rfl⟩ | exact hS | rfl) ?_
      go_simp
      refine chain_next 3 rfl rfl rfl rfl (by decide) rfl (by first | kernel_rfl | rfl) ?_ ?_
      · rintro w' ⟨hc, hg, r, hr, h5, h6, h7, h8, -⟩
        have h8 := h8 (by decide)
        rw [upd_same] at h8
        subst h8
        go_simp
        exact ⟨hc, hg, r, hr, by simpa [upd] using h5, fun _ => by simpa [upd] using h6 (by decide), fun _ => by simpa [upd] using h7 (by decide), fun _ => by simp [upd], fun _ => by simp [upd]⟩
      intro x10
      refine flowU_nil ?_
      intro w3 hS
      obtain ⟨hc, hg, r, hr, h5, h6, h7, h8, h10⟩ := hS
      have h10 := h10 (by decide)
      simp [upd] at h10
      subst h10
      have hb03 := (show Below w.heap.size w w2.drew from Below.dr hb02).trans (gr_to_below (B := w.heap.size) hg (by omega) (by simp; omega))
      have HU3 := Lib.hid (HU2.out.mono (w' := w3) (fun b' hb' hlt => hg.block b' (by simpa using hlt) (fun e => by injection e with e; have := hb'.1; omega)) (fun _ h => h))
      have hq3 := hg.size
      have hwn : (nm r).size ≤ 1000 := by rw [HNM.out r hr]; exact (wt_sizes (HWT.out _ (List.getElem_mem hr))).1
      clear hg h5 h6 h7 h8 hb02
      simp only [World.size_drew] at hq3
      go_wp2
      go_ret2
      exact ⟨_, us, _, rfl, HU3.out.mono (SameOn.refl _ _) (fun b' hb' => ⟨by have := hb'.1; omega, by have := hb'.2; omega⟩), hl, HWT.out, hwn, by exact bel⟩
    · go_wp2_with fail
      refine (of_lit w.heap.size (0 + 400 + 2) 10 3 w2.heap.size _ _ _ (by rfl) (by rfl) HC2.out (by omega) (by decide) (by decide) (by intro v hv; simp at hv; rcases hv with rfl | rfl | rfl <;> exact ⟨_, rfl, by decide⟩)).mono ?_
      rintro e w3 ⟨_, rfl, ⟨s, rfl, hs⟩, hc3, hg3⟩
      have HC3 := Lib.hid hc3
      clear hc3
      have ⟨c3, f3⟩ := gcell hg3
      have hz3 := hg3.size
      (try simp at hz3)
      have hb03 := (show Below w.heap.size w (w2.alloc _) from Below.al hb02 _).trans (gr_to_below (B := w.heap.size) hg3 (by omega) (by simp; omega))
      have HU3 := Lib.hid (HU2.out.mono (w' := w3) (fun b' hb' hlt => (hg3.block b' (by simp; omega) (fun e => by injection e with e; have := hb'.1; omega)).trans (hao _ _ _ hlt)) (fun _ h => h))
      have hq3 := hg3.size
      simp only [World.size_alloc] at hq3
      clear hg3 c3 f3 hb02
      go_wp2
      go_ret2
      exact ⟨_, us, s, rfl, HU3.out.mono (SameOn.refl _ _) (fun b' hb' => ⟨by have := hb'.1; omega, by have := hb'.2; omega⟩), hl, HWT.out, by omega, by exact bel⟩
def DrawNm2 (w : World) (e : Ending) (w' : World) : Prop := ∃ (v : Value) (us : List Un) (s t : ByteArray), e = .returned (.tuple #[v, .string s, .string t]) ∧ UnsAt (NewB w w') w' v us ∧ us.length ≤ 5 ∧ (∀ u ∈ us, u.wt ≤ 1000) ∧ s.size ≤ 1000 ∧ t.size ≤ 1000 ∧ Below w.heap.size w w'
set_option maxHeartbeats 3200000 in
theorem drawRU_any (p : Option Addr) (n c : Nat) (w : World) (h : CodeCap w p n c) (hn : n ≤ 65536) : Calls Tryz.prog 27 #[.slice p n c] w (DrawNm2 w) := by
  have HC0 := Lib.hid (cur_new h.1 (Below.refl w.heap.size w))
  have hnc := h.2
  have hg0 : w.heap.size < (w.alloc (.cells #[.slice p n c, .int .i64 0, .int .u64 0] 72)).heap.size := by simp
  by_cases h0 : n = 0
  · have HI := Lib.hid h.1
    subst h0
    clear h
    go_enter Tryz.func27, Tryz.ntmps27
    go_wp2_with fail
    refine (l1Least_any _ _ _).mono ?_
    rintro e w' ⟨rfl, rfl⟩
    go_wp2_with fail
    refine (drawVA_any _ _ _ _ (code_in_below HI.out (show Below w.heap.size w _ by exact bel))).mono ?_
    rintro e w1 ⟨v, us, s, rfl, hus, hl, hwt, hs, hb1⟩
    obtain ⟨q1, d1, rfl, -⟩ := hus.form
    have HU := Lib.hid (hus.mono (B' := fun b => w.heap.size < b ∧ b < w1.heap.size) (SameOn.refl _ _) (fun b hb => ⟨by have := hb.1; simp at this; omega, hb.2⟩))
    have HC1 := Lib.hid (HC0.out.below hb1)
    have HWT := Lib.hid hwt
    have hb01 := Below.step ((Below.refl w.heap.size w).alloc (Nat.le_refl _) (.cells #[_, .int .i64 0, .int .u64 0] 72)) hb1
    have hqq := hb01.size
    clear hus hwt
    go_wp2_with fail
    refine (of_lit w.heap.size 0 10 6 w1.heap.size _ _ _ (by rfl) (by rfl) HC1.out (by omega) (by decide) (by decide) (by intro v hv; simp at hv; rcases hv with rfl | rfl | rfl | rfl | rfl | rfl <;> exact ⟨_, rfl, by decide⟩)).mono ?_
    rintro e w2 ⟨_, rfl, ⟨t, rfl, ht⟩, hc2, hg2⟩
    have HC2 := Lib.hid hc2
    clear hc2
    have ⟨c2, f2⟩ := gcell hg2
    have hz2 := hg2.size
    (try simp at hz2)
    have hb02 := (show Below w.heap.size w (w1.alloc _) from Below.al hb01 _).trans (gr_to_below (B := w.heap.size) hg2 (by omega) (by simp; omega))
    have HU2 := Lib.hid (HU.out.mono (w' := w2) (fun b' hb' hlt => (hg2.block b' (by simp; omega) (fun e => by injection e with e; have := hb'.1; omega)).trans (hao _ _ _ hlt)) (fun _ h => h))
    have hq2 := hg2.size
    simp only [World.size_alloc] at hq2
    clear hg2 c2 f2 hb1 hb01
    go_wp2
    refine bodyPost_ret (v := .tuple #[.slice q1 us.length d1, .string s, .string t]) (by simp only [results, Tryz.results27]; go_simp) rfl ⟨_, us, s, t, rfl, HU2.out.mono (SameOn.refl _ _) (fun b' hb' => ⟨by have := hb'.1; omega, by have := hb'.2; omega⟩), hl, HWT.out, hs, by omega, by exact bel⟩
  · obtain ⟨b, o, rfl, hc1, hc2⟩ := h.tail (by omega)
    have HI1 := Lib.hid hc1
    have HI2 := Lib.hid hc2
    clear h hc1 hc2
    have hn1 : ¬ ((n : Int) < 1) := by omega
    have hn2 : (1 : Int) ≤ n := by omega
    have hn3 : (n : Int) ≤ c := by omega
    by_cases hc : c = 1
    · obtain rfl : n = 1 := by omega
      subst hc
      go_enter Tryz.func27, Tryz.ntmps27
      go_wp2_with fail
      refine (l1Least_any _ _ _).mono ?_
      rintro e w' ⟨rfl, rfl⟩
      go_wp2_with fail
      refine (drawVA_any _ _ _ _ (code_in_below HI2.out (show Below w.heap.size w _ by exact bel))).mono ?_
      rintro e w1 ⟨v, us, s, rfl, hus, hl, hwt, hs, hb1⟩
      obtain ⟨q1, d1, rfl, -⟩ := hus.form
      have HU := Lib.hid (hus.mono (B' := fun b => w.heap.size < b ∧ b < w1.heap.size) (SameOn.refl _ _) (fun b hb => ⟨by have := hb.1; simp at this; omega, hb.2⟩))
      have HC1 := Lib.hid (HC0.out.below hb1)
      have HWT := Lib.hid hwt
      have hb01 := Below.step ((Below.refl w.heap.size w).alloc (Nat.le_refl _) (.cells #[_, .int .i64 0, .int .u64 0] 72)) hb1
      have hqq := hb01.size
      clear hus hwt
      go_wp2_with fail
      refine (of_lit w.heap.size 0 10 6 w1.heap.size _ _ _ (by rfl) (by rfl) HC1.out (by omega) (by decide) (by decide) (by intro v hv; simp at hv; rcases hv with rfl | rfl | rfl | rfl | rfl | rfl <;> exact ⟨_, rfl, by decide⟩)).mono ?_
      rintro e w2 ⟨_, rfl, ⟨t, rfl, ht⟩, hc2, hg2⟩
      have HC2 := Lib.hid hc2
      clear hc2
      have ⟨c2, f2⟩ := gcell hg2
      have hz2 := hg2.size
      (try simp at hz2)
      have hb02 := (show Below w.heap.size w (w1.alloc _) from Below.al hb01 _).trans (gr_to_below (B := w.heap.size) hg2 (by omega) (by simp; omega))
      have HU2 := Lib.hid (HU.out.mono (w' := w2) (fun b' hb' hlt => (hg2.block b' (by simp; omega) (fun e => by injection e with e; have := hb'.1; omega)).trans (hao _ _ _ hlt)) (fun _ h => h))
      have hq2 := hg2.size
      simp only [World.size_alloc] at hq2
      clear hg2 c2 f2 hb1 hb01
      go_wp2
      refine bodyPost_ret (v := .tuple #[.slice q1 us.length d1, .string s, .string t]) (by simp only [results, Tryz.results27]; go_simp) rfl ⟨_, us, s, t, rfl, HU2.out.mono (SameOn.refl _ _) (fun b' hb' => ⟨by have := hb'.1; omega, by have := hb'.2; omega⟩), hl, HWT.out, hs, by omega, by exact bel⟩
    · go_enter Tryz.func27, Tryz.ntmps27
      go_wp2_with fail
      refine (l1Least_any _ _ _).mono ?_
      rintro e w' ⟨rfl, rfl⟩
      (try rw [if_neg hn1])
      go_wp2_with fail
      refine (drawVA_any _ _ _ _ (code_in_below HI1.out (show Below w.heap.size w _ by exact bel))).mono ?_
      rintro e w1 ⟨v, us, s, rfl, hus, hl, hwt, hs, hb1⟩
      obtain ⟨q1, d1, rfl, -⟩ := hus.form
      have HU := Lib.hid (hus.mono (B' := fun b => w.heap.size < b ∧ b < w1.heap.size) (SameOn.refl _ _) (fun b hb => ⟨by have := hb.1; simp at this; omega, hb.2⟩))
      have HC1 := Lib.hid (HC0.out.below hb1)
      have HWT := Lib.hid hwt
      have hb01 := Below.step ((Below.refl w.heap.size w).alloc (Nat.le_refl _) (.cells #[_, .int .i64 0, .int .u64 0] 72)) hb1
      have hqq := hb01.size
      clear hus hwt
      go_wp2_with fail
      refine (of_lit w.heap.size 0 10 6 w1.heap.size _ _ _ (by rfl) (by rfl) HC1.out (by omega) (by decide) (by decide) (by intro v hv; simp at hv; rcases hv with rfl | rfl | rfl | rfl | rfl | rfl <;> exact ⟨_, rfl, by decide⟩)).mono ?_
      rintro e w2 ⟨_, rfl, ⟨t, rfl, ht⟩, hc2, hg2⟩
      have HC2 := Lib.hid hc2
      clear hc2
      have ⟨c2, f2⟩ := gcell hg2
      have hz2 := hg2.size
      (try simp at hz2)
      have hb02 := (show Below w.heap.size w (w1.alloc _) from Below.al hb01 _).trans (gr_to_below (B := w.heap.size) hg2 (by omega) (by simp; omega))
      have HU2 := Lib.hid (HU.out.mono (w' := w2) (fun b' hb' hlt => (hg2.block b' (by simp; omega) (fun e => by injection e with e; have := hb'.1; omega)).trans (hao _ _ _ hlt)) (fun _ h => h))
      have hq2 := hg2.size
      simp only [World.size_alloc] at hq2
      clear hg2 c2 f2 hb1 hb01
      go_wp2
      refine bodyPost_ret (v := .tuple #[.slice q1 us.length d1, .string s, .string t]) (by simp only [results, Tryz.results27]; go_simp) rfl ⟨_, us, s, t, rfl, HU2.out.mono (SameOn.refl _ _) (fun b' hb' => ⟨by have := hb'.1; omega, by have := hb'.2; omega⟩), hl, HWT.out, hs, by omega, by exact bel⟩
end Go.Proofs.YtkgfanajgdelcaaGreatDoor
