import Derived.Test.YtkgfanajgdelcaaGreatDoorUnPart26
import Derived.Test.YtkgfanajgdelcaaGreatDoorUnPart29
namespace Go.Proofs.YtkgfanajgdelcaaGreatDoor
set_option maxRecDepth 100000
open Go.RowKit
def SplRel (s : ByteArray) (b : UInt8) (US : List ByteArray) (w : World) (sv i : Value) (wr : World) : Prop :=
  ∃ (k : Nat) (rem : ByteArray), k + 1 ≤ US.length ∧ i = .int .i64 k ∧ sv = .string rem ∧ rem.size ≤ s.size ∧ (splitF s.data.toList b).drop k = splitF rem.data.toList b ∧
    FillRow (NewB w wr) wr 9 1 (fun _ _ s cs => StrAt s cs) w.heap.size US.length k US ∧ Below w.heap.size w wr
theorem wrap_nat0 {m : Nat} (h : m ≤ 1000000000) : wrap64 (m : Int) = m := IntWalk.wrap64_in _ (by omega)
theorem wrap_nat1 {m : Nat} (h : m ≤ 1000000000) : wrap64 ((m : Int) + 1) = ((m + 1 : Nat) : Int) := by rw [IntWalk.wrap64_in _ (by omega)]; omega
theorem extract_pre {rem : ByteArray} {a t : List UInt8} {b : UInt8} (h : rem.data.toList = a ++ b :: t) : rem.extract 0 a.length = baL a := by
  apply ByteArray.ext
  apply Array.toList_inj.1
  rw [extract_list, h]
  simp [baL]
theorem extract_suf {rem : ByteArray} {a t : List UInt8} {b : UInt8} (h : rem.data.toList = a ++ b :: t) : rem.extract (a.length + 1) rem.size = baL t := by
  apply ByteArray.ext
  apply Array.toList_inj.1
  rw [extract_list, take_all _ _ (by omega), h]
  simp [baL]
set_option maxHeartbeats 3200000 in
theorem genSplit_any (s : ByteArray) (b : UInt8) (w : World) (hs : s.size ≤ 1000000000) :
    Calls Tryz.prog 125 #[.string s, .string ⟨#[b]⟩, .int .i64 0, .int .i64 (-1)] w fun e w' => ∃ g, e = .returned (.slice (some ⟨g, 0, none⟩) ((splitF s.data.toList b).map baL).length ((splitF s.data.toList b).map baL).length) ∧
      StrOwn 9 (NewB w w') w' ((splitF s.data.toList b).map baL) (.slice (some ⟨g, 0, none⟩) ((splitF s.data.toList b).map baL).length ((splitF s.data.toList b).map baL).length) ∧ Below w.heap.size w w' := by
  have hsep : ((⟨#[b]⟩ : ByteArray).toList == []) = false := by rw [ByteArray.toList_eq]; rfl
  have hbs : (⟨#[b]⟩ : ByteArray).size = 1 := rfl
  obtain ⟨US, hUS⟩ : ∃ US, (splitF s.data.toList b).map baL = US := ⟨_, rfl⟩
  have hlen : US.length = Lib.countByte s.data.toList b + 1 := by rw [← hUS, List.length_map, count_split]
  have hcl : Lib.countByte s.data.toList b ≤ s.size := by rw [Lib.countByte, size_list]; exact List.count_le_length
  have HAT := Lib.hid (fun k => show US[k]? = ((splitF s.data.toList b)[k]?).map baL by rw [← hUS, List.getElem?_map])
  have hsl : (splitF s.data.toList b).length = US.length := by rw [← hUS, List.length_map]
  rw [hUS]
  have HSL := Lib.hid hsl
  obtain ⟨N, hN⟩ : ∃ N, Lib.countByte s.data.toList b = N := ⟨_, rfl⟩
  rw [hN] at hlen hcl
  obtain ⟨-, i, z, hi, hz, hsz, hby, hzs, -⟩ := elemStr
  have HLN := Lib.hid hlen
  have hmin : ¬ ((s.size : Int) + 1 < (N : Int) + 1) := by omega
  have hmin2 : min ((N : Int) + 1) ((s.size : Int) + 1) = (N : Int) + 1 := by omega
  clear hUS hsl
  go_enter Tryz.func125, Tryz.ntmps125
  go_wp2_with fail
  refine (Tryz.strings_Count_one s b w).mono ?_
  rintro e w1 ⟨rfl, rfl⟩
  rw [hN]
  go_wp2_with (at_make; refine wpList_make_full _ rfl _ _ _ rfl w1.heap.size 9 i z 1 Tryz.underlying26 hi hz hsz _ _ _ _ (N + 1) rfl rfl rfl rfl (by rw [hby]; omega) (by unfold maxLen; omega) (Nat.le_refl _) ?_; intro w2 ho2 hg2)
  have hb1 : Below w1.heap.size w1 w2 := ⟨hg2.os, hg2.tape, hg2.output, hg2.size, fun k hk => hg2.block k hk (by simp)⟩
  have HF1 := Lib.hid (show FillRow (NewB w1 w2) w2 9 1 (fun _ _ s cs => StrAt s cs) w1.heap.size US.length 0 US from FillRow.start ⟨Nat.le_refl _, own_lt ho2⟩ (by rw [hlen]; exact ho2))
  clear ho2 hg2
  go_loopw [0, 10] (SplRel s b US w1) (fun _ i _ => US.length - (intOf i).toNat)
  case atStart => exact ⟨0, s, by omega, rfl, rfl, Nat.le_refl _, rfl, HF1.out, hb1⟩
  case round =>
    obtain ⟨k, rem, hk, rfl, rfl, hrs, hdr, hf, hb⟩ := hrel
    have HF := Lib.hid hf
    have hgw := hf.lt
    have hgb := bsz hgw
    clear hf HF1 hb1
    by_cases hlt : k < N
    · obtain ⟨hfd, hre, hat, hdr2⟩ := split_drop hdr (by rw [HSL.out]; omega)
      have hix := index_cut b rem.data.toList
      rw [hfd, if_pos rfl] at hix
      have hle : (cut1 rem.data.toList b).1.length + 1 + (cut1 rem.data.toList b).2.1.length = rem.size := by
        have := congrArg List.length hre
        rw [← size_list, List.length_append, List.length_cons] at this; omega
      have HPR := Lib.hid (extract_pre hre)
      have HSU := Lib.hid (extract_suf hre)
      have HK : Hid (US[k]? = some (baL (cut1 rem.data.toList b).1)) := Lib.hid (by rw [HAT.out, hat]; rfl)
      have HDR := Lib.hid hdr2
      have HIX := Lib.hid hix
      clear hat hdr hdr2 hfd hre hix
      generalize (cut1 rem.data.toList b).1 = pa at *
      generalize (cut1 rem.data.toList b).2.1 = pb at *
      have hcz := HF.out.cell k (by omega)
      obtain ⟨⟨q0, hq0⟩, hf0⟩ := hcz
      have hki : (k : Int) < N := by omega
      obtain ⟨m, hm⟩ : ∃ m, pa.length = m := ⟨_, rfl⟩
      rw [hm] at HIX HPR HSU hle
      have HM := Lib.hid hm
      clear hm
      have hp1 : ¬ ((m : Int) < 0) := by omega
      have hp2 : (0 : Int) ≤ (m : Int) := by omega
      have hp3 : m ≤ rem.size := by omega
      have hp4 : m + 1 ≤ rem.size := by omega
      have HLE := Lib.hid hle
      clear hle
      go_wp2_with fail
      refine ((Tryz.strings_Index_one rem b wr).mono (fun e w' (h : e = _ ∧ w' = wr) => (show e = .returned (.int .i64 (m : Int)) ∧ Below wr.heap.size wr w' from ⟨h.1.trans (by rw [HIX.out]), h.2 ▸ Below.refl _ _⟩))).mono ?_
      rintro e w3 ⟨rfl, hb3⟩
      have hq3 := (hb3.cell hgw).trans hq0
      have hf3 := (hb3.frozen hgw).trans hf0
      have hgb3 := bsz (World.block_lt_of_cell? _ _ hq3)
      have HALL := Lib.hid (And.intro hlen (And.intro hcl (And.intro hrs (And.intro hlt (And.intro hs (And.intro hb hb3))))))
      have hk1 : (k : Int) < (N : Int) + 1 := by omega
      have hmb : m ≤ 1000000000 := by omega
      have hw1 := wrap_nat0 hmb
      have hw2 := wrap_nat1 hmb
      clear hmb hq0 hf0 hs hsep hbs hi hz hsz hby hzs hcl hlen hN hmin hmin2 hlt hgw hgb hrs hb hb3 hk hki
      go_wp2
      rw [show rem.extract (m + 1) rem.size = baL pb from HSU.out, show rem.extract 0 m = baL pa from HPR.out]
      obtain ⟨hlen, hcl, hrs, hlt, hs, hb, hb3⟩ := HALL.out
      have hbz : Below w1.heap.size w1 w3 := Below.step hb hb3
      have hm2 := HM.out
      have hle2 := HLE.out
      have hpz : (baL pa).size ≤ maxLen := by rw [baL_size, hm2]; unfold maxLen; clear hw1 hw2; omega
      clear hw1 hw2
      have hkb : k ≤ 1000000000 := by omega
      refine ⟨⟨k + 1, baL pb, by omega, congrArg (Value.int .i64) (wrap_nat1 hkb), rfl, by rw [baL_size]; omega, HDR.out, ?_, hbz.setCell (Nat.le_refl _) _⟩, by rw [wrap_nat1 hkb]; simp [intOf]; omega⟩
      refine FillRow.put (T := fun _ => False) ((HF.out.later hb3 (fun T x cs _ hx => hx)).wider (fun b hb => ⟨hb.1, by have := hb.2; have := hb3.size; simp; omega⟩)) (by omega) HK.out (Below.refl _ _) rfl ⟨rfl, hpz⟩ (fun _ h => h.elim) (fun cur hc hz => ⟨_, heap_setCell_same w3 _ k cur _ (.string (baL pa)) hc, ?_⟩) (by simp) (fun _ _ _ _ hx => hx)
      have := Patch.set (cur := cur) (cur' := cur) (o := k * 1) (cs := [q0]) ⟨rfl, fun j hj => ?_, fun _ _ => rfl⟩ (j := 0) (by simp) hz (.string (baL pa))
      · simpa using this
      · obtain rfl : j = 0 := by simpa using hj
        have h1 := (cell_of_row w3 _ k cur _ (0, 0) hc).symm.trans hq3
        simpa using h1
    · obtain rfl : k = N := by omega
      have HL := Lib.hid (split_last hdr (by rw [HSL.out]; omega))
      have HK : Hid (US[k]? = some (baL rem.data.toList)) := Lib.hid (by rw [HAT.out, HL.out]; rfl)
      have hcz := HF.out.cell k (by omega)
      obtain ⟨⟨q0, hq0⟩, hf0⟩ := hcz
      go_wp2
      go_ret
      refine ⟨w1.heap.size, by first | rfl | (rw [hlen]; rfl), ?_, hb.setCell (Nat.le_refl _) _⟩
      clear hmin hmin2
      have hrz : rem.size ≤ maxLen := by unfold maxLen; omega
      have hput : FillRow (NewB w1 (wr.setCell ⟨w1.heap.size, k, none⟩ (.string rem))) (wr.setCell ⟨w1.heap.size, k, none⟩ (.string rem)) 9 1 (fun _ _ s cs => StrAt s cs) w1.heap.size US.length (k + 1) US := by
        refine FillRow.put (T := fun _ => False) (HF.out.wider (fun b hb => ⟨hb.1, by simpa using hb.2⟩)) (by omega) HK.out (Below.refl _ _) rfl ⟨by rw [baL_of], by rw [baL_of]; exact hrz⟩ (fun _ h => h.elim) (fun cur hc hz => ⟨_, heap_setCell_same wr _ k cur _ (.string rem) hc, ?_⟩) (by simp) (fun _ _ _ _ hx => hx)
        have := Patch.set (cur := cur) (cur' := cur) (o := k * 1) (cs := [q0]) ⟨rfl, fun j hj => ?_, fun _ _ => rfl⟩ (j := 0) (by simp) hz (.string rem)
        · simpa using this
        · obtain rfl : j = 0 := by simpa using hj
          have h1 := (cell_of_row wr _ k cur _ (0, 0) hc).symm.trans hq0
          simpa using h1
      rw [← hlen] at hput
      exact hput.done (by unfold maxLen; omega)
theorem strSplit_any (s : ByteArray) (b : UInt8) (w : World) (hs : s.size ≤ 1000000000) :
    Calls Tryz.prog 60 #[.string s, .string ⟨#[b]⟩] w fun e w' => ∃ g, e = .returned (.slice (some ⟨g, 0, none⟩) ((splitF s.data.toList b).map baL).length ((splitF s.data.toList b).map baL).length) ∧
      StrOwn 9 (NewB w w') w' ((splitF s.data.toList b).map baL) (.slice (some ⟨g, 0, none⟩) ((splitF s.data.toList b).map baL).length ((splitF s.data.toList b).map baL).length) ∧ Below w.heap.size w w' := by
  have HG := Lib.hid (genSplit_any s b w hs)
  obtain ⟨US, hUS⟩ : ∃ US, (splitF s.data.toList b).map baL = US := ⟨_, rfl⟩
  rw [hUS] at HG ⊢
  clear hUS
  go_enter Tryz.func60, Tryz.ntmps60
  go_wp2_with fail
  refine HG.out.mono ?_
  rintro e w1 ⟨g, rfl, h1, hb1⟩
  have H1 := Lib.hid h1
  clear h1
  go_wp2
  go_ret
  exact ⟨g, rfl, H1.out, hb1⟩
def EnvM (w : World) : Prop := ∃ m, w.cell? ⟨0, 0, none⟩ = some (.int .i64 m)
theorem EnvM.below {w w' : World} (h : EnvM w) (hb : Below w.heap.size w w') : EnvM w' := by
  obtain ⟨m, hm⟩ := h
  exact ⟨m, (hb.cell (World.block_lt_of_cell? _ _ hm)).trans hm⟩
theorem cutS_any (s : ByteArray) (b : UInt8) (w : World) (hE : EnvM w) (hs : s.size < 4294967281) :
    Calls Tryz.prog 61 #[.string s, .string ⟨#[b]⟩] w fun e w' => e = .returned (.tuple #[.string ⟨(cut1 s.data.toList b).1.toArray⟩, .string ⟨(cut1 s.data.toList b).2.1.toArray⟩, .bool (cut1 s.data.toList b).2.2]) ∧ Below w.heap.size w w' := by
  obtain ⟨m, hm⟩ := hE
  exact (Tryz.strings_Cut s ⟨#[b]⟩ m w hs hm).mono fun _ _ ⟨he, n, hw⟩ => ⟨by rw [he, ← cut_one], by rw [hw]; exact below_drewN (Below.refl _ _) n⟩
theorem weq (wd K : List UInt8) : (wd == K) = decide (wd = K) := by rw [Bool.eq_iff_iff, beq_iff_eq, decide_eq_true_iff]
def unitZ : Array Value := #[.string ⟨#[]⟩, .slice none 0 0, .slice none 0 0, .string ⟨#[]⟩]
theorem own_nil (w : World) (base : Nat) (e : TypeId) : w.ownsRow base e 1 (.slice none 0 0) 0 [] := ⟨rfl, .inl ⟨rfl, rfl⟩⟩
theorem UnS.start {e eU : TypeId} {W : World} {k : Nat} (h : W.heap[k]? = some (.cells unitZ eU (0, 0))) : UnS e eU W k u0 (.slice none 0 0) (.slice none 0 0) W :=
  ⟨h, own_nil _ _ _, own_nil _ _ _, fun g hg => by simp [Value.ownBlock] at hg, ⟨rfl, rfl, rfl, Nat.le_refl _, fun _ _ _ => rfl⟩, blk_lt h⟩
theorem UnS.cells {e eU : TypeId} {W0 wr : World} {k : Nat} {u : Un} {va vb : Value} (h : UnS e eU W0 k u va vb wr) :
    wr.cell? ⟨k, 0, none⟩ = some (.string u.name) ∧ wr.cell? ⟨k, 1, none⟩ = some va ∧ wr.cell? ⟨k, 2, none⟩ = some vb ∧ wr.cell? ⟨k, 3, none⟩ = some (.string u.goal) ∧ ∀ j, wr.frozen? ⟨k, j, none⟩ = false := by
  refine ⟨?_, ?_, ?_, ?_, fun j => frozen_of_row wr k j _ _ h.box⟩
  · rw [cell_of_row wr k 0 _ _ (0, 0) h.box]; rfl
  · rw [cell_of_row wr k 1 _ _ (0, 0) h.box]; rfl
  · rw [cell_of_row wr k 2 _ _ (0, 0) h.box]; rfl
  · rw [cell_of_row wr k 3 _ _ (0, 0) h.box]; rfl
theorem UnOwn.zero (e : TypeId) (S : Nat → Prop) (w : World) : UnOwn e S w u0 [.string ⟨#[]⟩, .slice none 0 0, .slice none 0 0, .string ⟨#[]⟩] :=
  ⟨_, _, fun _ => False, fun _ => False, rfl, by decide, by decide, OwnRow.nil _ _ _ _ _, OwnRow.nil _ _ _ _ _, fun _ h => h.elim, fun _ h => h.elim, fun _ h _ => h⟩
def PuRel (L : List UInt8) (st : Un → List UInt8 → Un) (W0 : World) (k : Nat) (i : Value) (wr : World) : Prop :=
  ∃ (n : Nat) (va vb : Value), n ≤ (splitF L 10).length ∧ i = .int .i64 n ∧ UnS 9 34 W0 k (((splitF L 10).take n).foldl st u0) va vb wr
set_option maxHeartbeats 6400000 in
theorem implPU_any (s : ByteArray) (w : World) (hs : s.size ≤ 1048576) (hE : EnvM w) :
    Calls Tryz.prog 23 #[.string s] w fun e w' => ∃ v0 v1 v2 v3, e = .returned (.tuple #[.agg #[v0, v1, v2, v3], .bool (puOk s.data.toList)]) ∧ UnOwn 9 (NewB w w') w' (puV s.data.toList) [v0, v1, v2, v3] ∧ Below w.heap.size w w' := by
  have HE := Lib.hid hE
  have hsz : s.data.toList.length = s.size := (size_list s).symm
  have HWT := Lib.hid (fun n => parI_wt s.data.toList n)
  have HSP := Lib.hid (lsum_split 10 s.data.toList)
  have hll : (splitF s.data.toList 10).length ≤ s.size + 1 := by rw [count_split, Lib.countByte, ← hsz]; have := List.count_le_length (a := (10 : UInt8)) (l := s.data.toList); omega
  clear hE
  go_enter Tryz.func23, Tryz.ntmps23
  go_wp2_with fail
  obtain ⟨W, hW⟩ : ∃ W : World, W = (w.alloc (.cells unitZ 34)).alloc (.cells unitZ 34) := ⟨_, rfl⟩
  have hbW : Below w.heap.size w W := by rw [hW]; exact bel
  have hzW : W.heap.size = w.heap.size + 2 := by rw [hW]; simp
  have hkW : W.heap[w.heap.size + 1]? = some (.cells unitZ 34 (0, 0)) := by rw [hW]; have := heap_alloc_new (w.alloc (.cells unitZ 34)) (.cells unitZ 34); simpa using this
  have hrW : W.heap[w.heap.size]? = some (.cells unitZ 34 (0, 0)) := by rw [hW]; exact (hao _ _ _ (by simp)).trans (heap_alloc_new w _)
  show Calls Tryz.prog _ _ ((w.alloc (.cells unitZ 34)).alloc (.cells unitZ 34)) _
  rw [← hW]
  refine (strSplit_any s 10 W (by omega)).mono ?_
  rintro e w1 ⟨g, rfl, hl1, hb1⟩
  have hq1 := hb1.size
  have HLS := Lib.hid hl1.at_
  have HU0 := Lib.hid (UnS.start (e := 9) ((hb1.block _ (by omega)).trans hkW))
  have HR0 := Lib.hid ((hb1.block _ (by omega)).trans hrW)
  have hb01 : Below w.heap.size w w1 := Below.step hbW hb1
  have hks : w.heap.size + 1 < w1.heap.size := by omega
  clear hl1 hW hkW hrW
  rw [List.length_map] at HLS ⊢
  go_wp2
  go_loopw [14] (PuRel s.data.toList stI w1 (w.heap.size + 1)) (fun i _ => (splitF s.data.toList 10).length - (intOf i).toNat)
  case atStart => exact ⟨0, _, _, Nat.zero_le _, rfl, HU0.out⟩
  case round =>
    obtain ⟨n, va, vb, hn, rfl, hus⟩ := hrel
    have HUS := Lib.hid hus
    have hqr := hus.gr.size
    have hqg := hus.gr
    by_cases hlt : n < (splitF s.data.toList 10).length
    · obtain ⟨b', o', ebo, hB', hy0, hys⟩ := HLS.out.at_ (i := n) (by rw [List.length_map]; exact hlt)
      simp only [Option.some.injEq, Addr.mk.injEq, and_true] at ebo
      obtain ⟨rfl, rfl⟩ := ebo
      rw [List.getElem_map] at hy0 hys
      rw [Nat.zero_add] at hy0
      have hgn : g ≠ w.heap.size + 1 := by have := hB'.1; omega
      have y0 := (World.cell?_of_block (a := ⟨g, n, none⟩) (hus.gr.block g hB'.2 (by simpa using hgn))).trans hy0
      have zy := bsz (World.block_lt_of_cell? _ _ y0)
      have HTK := Lib.hid (take_fold stI u0 hlt)
      have hwt := HWT.out n
      have hwt1 := HWT.out (n + 1)
      have hlz := lsum_mem (List.getElem_mem hlt)
      rw [HSP.out] at hlz
      obtain ⟨ln, hln⟩ : ∃ ln, (splitF s.data.toList 10)[n] = ln := ⟨_, rfl⟩
      rw [hln] at y0 hys HTK hlz
      rw [baL_size] at hys
      generalize ((splitF s.data.toList 10).take n).foldl stI u0 = u at *
      have hni : (n : Int) < (splitF s.data.toList 10).length := by omega
      clear hus hy0 hln
      have hEr : EnvM wr := HE.out.below (Below.trans hb01 ⟨hqg.os, hqg.tape, hqg.output, hqg.size, fun b hb => hqg.block b (by omega) (by simp; omega)⟩)
      go_wp2_with fail
      refine (cutS_any (baL ln) 32 wr hEr (by rw [baL_size]; omega)).mono ?_
      rintro e w2 ⟨rfl, hb2⟩
      have h2 := HUS.out.below hb2
      obtain ⟨p1, c1, q1, d1, rfl, rfl⟩ := h2.form
      obtain ⟨x0, x1, x2, x3, xf⟩ := h2.cells
      have zk := bsz h2.klt
      have HU2 := Lib.hid h2
      have HST := Lib.hid (show stI u ln = if (cut1 ln 32).1 = kwU then u.putN (cut1 ln 32).2.1 else if (cut1 ln 32).1 = kwI then u.putI (cut1 ln 32).2.1 else if (cut1 ln 32).1 = kwA then u.putA (cut1 ln 32).2.1 else if (cut1 ln 32).1 = kwG then u.putG (cut1 ln 32).2.1 else u from rfl)
      rw [baL_list]
      have hbw2 : w1.grownBy w2 (some (w.heap.size + 1)) := h2.gr
      have hzs := wt_sizes hwt
      clear h2
      generalize (cut1 ln 32).1 = wd at *
      generalize (cut1 ln 32).2.1 = rs at *
      generalize (cut1 ln 32).2.2 = fd at *
      have HF1 := Lib.hid (weq wd [117, 110, 105, 116])
      have HF2 := Lib.hid (weq wd [105, 110, 99, 108, 117, 100, 101])
      have HF3 := Lib.hid (weq wd [97, 120, 105, 111, 109])
      have HF4 := Lib.hid (weq wd [103, 111, 97, 108])
      have hni2 : u.incs.length ≤ 1048577 ∧ u.axs.length ≤ 1048577 := ⟨by have := hzs.2.2.2.2.1; omega, by have := hzs.2.2.2.2.2; omega⟩
      by_cases e1 : wd = kwU
      · have f1 := HF1.out.trans (decide_eq_true e1)
        have E := Lib.hid e1
        clear e1
        go_wp2
        refine ⟨⟨n + 1, .slice p1 u.incs.length c1, .slice q1 u.axs.length d1, by omega, by go_num, ?_⟩, by simp [intOf]; omega⟩
        rw [HTK.out, HST.out, if_pos E.out]
        exact HU2.out.setN (baL rs)
      by_cases e2 : wd = kwI
      · have f1 := HF1.out.trans (decide_eq_false e1)
        have f2 := HF2.out.trans (decide_eq_true e2)
        have E1 := Lib.hid e1
        have E2 := Lib.hid e2
        clear e1 e2
        go_wp2_with (at_builtin; refine wpList_app1 rfl (.tmp 32) (.tmp 34) _ rfl w1.heap.size 9 1 16 elemStr (.slice p1 u.incs.length c1) u.incs.length (strW u.incs) rfl w2 #[.string ⟨rs.toArray⟩] rfl w2.heap.size rfl rfl HU2.out.ra rfl (by simp [Value.oneCell']) (by omega) (by unfold maxLen; omega) hbw2.size ?_; intro v3 w3 ho3 hg3 hn3 hl3; obtain ⟨q3, k3, rfl⟩ := own_form ho3 (Nat.succ_pos _); have y3 := (World.cell?_of_block (a := ⟨w.heap.size + 1, 1, none⟩) (hg3.block _ zk.1 (fun e' => HU2.out.na e'.symm))).trans x1; have yf3 : w3.frozen? ⟨w.heap.size + 1, 1, none⟩ = false := (World.frozen?_of_block (a := ⟨w.heap.size + 1, 1, none⟩) (hg3.block _ zk.1 (fun e' => HU2.out.na e'.symm))).trans (xf 1); have zk3 := bsz (World.block_lt_of_cell? _ _ y3))
        refine ⟨⟨n + 1, .slice (some ⟨q3, 0, none⟩) (u.incs.length + 1) k3, .slice q1 u.axs.length d1, by omega, by go_num, ?_⟩, by simp [intOf]; omega⟩
        rw [HTK.out, HST.out, if_neg E1.out, if_pos E2.out]
        exact HU2.out.appI (r := baL rs) ho3 hg3 hn3
      by_cases e3 : wd = kwA
      · have f1 := HF1.out.trans (decide_eq_false e1)
        have f2 := HF2.out.trans (decide_eq_false e2)
        have f3 := HF3.out.trans (decide_eq_true e3)
        have E1 := Lib.hid e1
        have E2 := Lib.hid e2
        have E3 := Lib.hid e3
        clear e1 e2 e3
        go_wp2_with (at_builtin; refine wpList_app1 rfl (.tmp 40) (.tmp 42) _ rfl w1.heap.size 9 1 16 elemStr (.slice q1 u.axs.length d1) u.axs.length (strW u.axs) rfl w2 #[.string ⟨rs.toArray⟩] rfl w2.heap.size rfl rfl HU2.out.rb rfl (by simp [Value.oneCell']) (by omega) (by unfold maxLen; omega) hbw2.size ?_; intro v3 w3 ho3 hg3 hn3 hl3; obtain ⟨q3, k3, rfl⟩ := own_form ho3 (Nat.succ_pos _); have y3 := (World.cell?_of_block (a := ⟨w.heap.size + 1, 2, none⟩) (hg3.block _ zk.1 (fun e' => HU2.out.nb e'.symm))).trans x2; have yf3 : w3.frozen? ⟨w.heap.size + 1, 2, none⟩ = false := (World.frozen?_of_block (a := ⟨w.heap.size + 1, 2, none⟩) (hg3.block _ zk.1 (fun e' => HU2.out.nb e'.symm))).trans (xf 2); have zk3 := bsz (World.block_lt_of_cell? _ _ y3))
        refine ⟨⟨n + 1, .slice p1 u.incs.length c1, .slice (some ⟨q3, 0, none⟩) (u.axs.length + 1) k3, by omega, by go_num, ?_⟩, by simp [intOf]; omega⟩
        rw [HTK.out, HST.out, if_neg E1.out, if_neg E2.out, if_pos E3.out]
        exact HU2.out.appA (r := baL rs) ho3 hg3 hn3
      by_cases e4 : wd = kwG
      · have f1 := HF1.out.trans (decide_eq_false e1)
        have f2 := HF2.out.trans (decide_eq_false e2)
        have f3 := HF3.out.trans (decide_eq_false e3)
        have f4 := HF4.out.trans (decide_eq_true e4)
        have E1 := Lib.hid e1
        have E2 := Lib.hid e2
        have E3 := Lib.hid e3
        have E4 := Lib.hid e4
        clear e1 e2 e3 e4
        go_wp2
        refine ⟨⟨n + 1, .slice p1 u.incs.length c1, .slice q1 u.axs.length d1, by omega, by go_num, ?_⟩, by simp [intOf]; omega⟩
        rw [HTK.out, HST.out, if_neg E1.out, if_neg E2.out, if_neg E3.out, if_pos E4.out]
        exact HU2.out.setG (baL rs)
      · have f1 := HF1.out.trans (decide_eq_false e1)
        have f2 := HF2.out.trans (decide_eq_false e2)
        have f3 := HF3.out.trans (decide_eq_false e3)
        have f4 := HF4.out.trans (decide_eq_false e4)
        have E1 := Lib.hid e1
        have E2 := Lib.hid e2
        have E3 := Lib.hid e3
        have E4 := Lib.hid e4
        clear e1 e2 e3 e4
        go_wp2
        refine ⟨⟨n + 1, .slice p1 u.incs.length c1, .slice q1 u.axs.length d1, by omega, by go_num, ?_⟩, by simp [intOf]; omega⟩
        rw [HTK.out, HST.out, if_neg E1.out, if_neg E2.out, if_neg E3.out, if_neg E4.out]
        exact HU2.out
    · obtain rfl : n = (splitF s.data.toList 10).length := by omega
      have hEr : EnvM wr := HE.out.below (Below.trans hb01 ⟨hqg.os, hqg.tape, hqg.output, hqg.size, fun b hb => hqg.block b (by omega) (by simp; omega)⟩)
      have hbw : Below w.heap.size w wr := Below.trans hb01 ⟨hqg.os, hqg.tape, hqg.output, hqg.size, fun b hb => hqg.block b (by omega) (by simp; omega)⟩
      have hwt := HWT.out (splitF s.data.toList 10).length
      rw [List.take_length] at hus hwt
      rw [show (splitF s.data.toList 10).foldl stI u0 = parI s.data.toList from rfl] at hus hwt
      have hzs := wt_sizes hwt
      have hml : s.data.toList.length + 1 ≤ maxLen := by unfold maxLen; omega
      have HOW := Lib.hid (hus.own (Nat.le_trans hzs.1 hml) (Nat.le_trans hzs.2.1 hml) (fun x hx => Nat.le_trans (hzs.2.2.1 x hx) hml) (fun x hx => Nat.le_trans (hzs.2.2.2.1 x hx) hml))
      obtain ⟨p1, c1, q1, d1, rfl, rfl⟩ := hus.form
      obtain ⟨x0, x1, x2, x3, xf⟩ := hus.cells
      have zk := bsz hus.klt
      have hR : wr.heap[w.heap.size]? = some (.cells unitZ 34 (0, 0)) := (hqg.block _ (by omega) (by simp)).trans HR0.out
      have HPK := Lib.hid (show puOk s.data.toList = ((parI s.data.toList).good && (parI s.data.toList).txt == s.data.toList) from rfl)
      have HPV := Lib.hid (show puV s.data.toList = if puOk s.data.toList then parI s.data.toList else u0 from rfl)
      have hw12 : (parI s.data.toList).wt ≤ 1000000000000 := by omega
      have hwl : w.heap.size < wr.heap.size := by omega
      have HUB := Lib.hid hus
      clear hus HUS HU0 HR0 hzs hml hwt
      generalize parI s.data.toList = u at *
      cases hg : u.good
      · have HG := Lib.hid hg
        have HO := Lib.hid (show puOk s.data.toList = false by rw [HPK.out, hg]; rfl)
        clear hg
        go_wp2_with fail
        refine (implUnit_any u _ _ _ _ wr HOW.out.at_ hw12).mono ?_
        rintro e w2 ⟨rfl, hb2⟩
        rw [HG.out]
        have hR2 := (hb2.block _ hwl).trans hR
        have rf : ∀ j, w2.frozen? ⟨w.heap.size, j, none⟩ = false := fun j => frozen_of_row w2 w.heap.size j _ _ hR2
        have r0 : w2.cell? ⟨w.heap.size, 0, none⟩ = some (.string ⟨#[]⟩) := by rw [cell_of_row w2 _ 0 _ _ (0, 0) hR2]; rfl
        have r1 : w2.cell? ⟨w.heap.size, 1, none⟩ = some (.slice none 0 0) := by rw [cell_of_row w2 _ 1 _ _ (0, 0) hR2]; rfl
        have r2 : w2.cell? ⟨w.heap.size, 2, none⟩ = some (.slice none 0 0) := by rw [cell_of_row w2 _ 2 _ _ (0, 0) hR2]; rfl
        have r3 : w2.cell? ⟨w.heap.size, 3, none⟩ = some (.string ⟨#[]⟩) := by rw [cell_of_row w2 _ 3 _ _ (0, 0) hR2]; rfl
        have zr := bsz (World.block_lt_of_cell? _ _ r0)
        clear hR2
        go_wp2
        refine bodyPost_ret (v := .tuple #[.agg #[.string ⟨#[]⟩, .slice none 0 0, .slice none 0 0, .string ⟨#[]⟩], .bool false]) (by simp only [results, Tryz.results23]; go_simp) rfl ⟨_, _, _, _, by rw [HO.out], by rw [HPV.out, HO.out]; exact UnOwn.zero _ _ _, by exact bel⟩
      · have HG := Lib.hid hg
        have HP2 := Lib.hid (show puOk s.data.toList = (u.txt == s.data.toList) by rw [HPK.out, hg, Bool.true_and])
        clear hg
        cases ht : (u.txt == s.data.toList)
        all_goals
          have HO := Lib.hid (HP2.out.trans ht)
          have hT := (show (u.txt == s.toList) = (u.txt == s.data.toList) by rw [ByteArray.toList_eq]).trans ht
          clear ht
          go_wp2_with fail
          refine (implUnit_any u _ _ _ _ wr HOW.out.at_ hw12).mono ?_
          rintro e w2 ⟨rfl, hb2⟩
          rw [HG.out]
          have hk2 := HUB.out.below hb2
          obtain ⟨y0, y1, y2, y3, yf⟩ := hk2.cells
          have zk2 := bsz hk2.klt
          clear hk2
          go_wp2_with fail
          refine (formatUnit_any u _ _ _ _ w2 (HOW.out.at_.below hb2) hw12).mono ?_
          rintro e w3 ⟨rfl, hb3⟩
          have hR3 := (hb3.block _ (Nat.lt_of_lt_of_le hwl hb2.size)).trans ((hb2.block _ hwl).trans hR)
          have rf : ∀ j, w3.frozen? ⟨w.heap.size, j, none⟩ = false := fun j => frozen_of_row w3 w.heap.size j _ _ hR3
          have r0 : w3.cell? ⟨w.heap.size, 0, none⟩ = some (.string ⟨#[]⟩) := by rw [cell_of_row w3 _ 0 _ _ (0, 0) hR3]; rfl
          have r1 : w3.cell? ⟨w.heap.size, 1, none⟩ = some (.slice none 0 0) := by rw [cell_of_row w3 _ 1 _ _ (0, 0) hR3]; rfl
          have r2 : w3.cell? ⟨w.heap.size, 2, none⟩ = some (.slice none 0 0) := by rw [cell_of_row w3 _ 2 _ _ (0, 0) hR3]; rfl
          have r3 : w3.cell? ⟨w.heap.size, 3, none⟩ = some (.string ⟨#[]⟩) := by rw [cell_of_row w3 _ 3 _ _ (0, 0) hR3]; rfl
          have zr := bsz (World.block_lt_of_cell? _ _ r0)
          have hk3 := (HUB.out.below hb2).below hb3
          obtain ⟨t0, t1, t2, t3, tf⟩ := hk3.cells
          have zk3 := bsz hk3.klt
          clear hk3 hR3
          go_wp2
        · refine bodyPost_ret (v := .tuple #[.agg #[.string ⟨#[]⟩, .slice none 0 0, .slice none 0 0, .string ⟨#[]⟩], .bool false]) (by simp only [results, Tryz.results23]; go_simp) rfl ⟨_, _, _, _, by rw [HO.out], by rw [HPV.out, HO.out]; exact UnOwn.zero _ _ _, by exact bel⟩
        · refine bodyPost_ret (v := .tuple #[.agg #[.string u.name, .slice p1 u.incs.length c1, .slice q1 u.axs.length d1, .string u.goal], .bool true]) (by simp only [results, Tryz.results23]; go_simp) rfl ⟨_, _, _, _, by rw [HO.out], ?_, by exact bel⟩
          rw [HPV.out, HO.out, if_pos rfl]
          refine ((HOW.out.later hb2).later hb3).mono (S := NewB w1 wr) (fun b hb hlt => ?_) (fun b hb => ⟨by have := hb.1; omega, by have := hb.2; have := hb2.size; have := hb3.size; simp; omega⟩)
          have hne : b ≠ w.heap.size := by have := hb.1; omega
          exact (heap_setCell_other _ _ b _ hne).trans ((heap_setCell_other _ _ b _ hne).trans ((heap_setCell_other _ _ b _ hne).trans (heap_setCell_other _ _ b _ hne)))
end Go.Proofs.YtkgfanajgdelcaaGreatDoor
