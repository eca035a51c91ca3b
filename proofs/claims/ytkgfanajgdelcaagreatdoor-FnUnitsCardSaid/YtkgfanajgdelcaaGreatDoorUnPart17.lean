/- How a law's row is closed out of its walk: the call answers true and turns nothing that was there. No conditions. -/
import Derived.ChangeSlices
import Derived.OpenShut
import Derived.JoinedCond
import Derived.Deep.DeepHandedRow
import Derived.Lib.SmallJoins
import Derived.Stop.LaidErr
import Derived.Test.YtkgfanajgdelcaaGreatDoorCards
import Derived.Test.YtkgfanajgdelcaaGreatDoorTie
import Derived.Test.YtkgfanajgdelcaaGreatDoorUnPart1
import Derived.Test.YtkgfanajgdelcaaGreatDoorUnPart9
import Derived.Test.YtkgfanajgdelcaaGreatDoorUnPart10
import Derived.Test.YtkgfanajgdelcaaGreatDoorUnPart11
import Derived.Test.YtkgfanajgdelcaaGreatDoorUnPart13
import Derived.Test.YtkgfanajgdelcaaGreatDoorUnPart14
import Derived.Test.YtkgfanajgdelcaaGreatDoorUnPart16
namespace Go.Proofs.YtkgfanajgdelcaaGreatDoor
open Go.RowKit
def SplRel (s : ByteArray) (b : UInt8) (US : List ByteArray) (w : World) (sv i : Value) (wr : World) : Prop :=
  ∃ (k : Nat) (rem : ByteArray), k + 1 ≤ US.length ∧ i = .int .i64 k ∧ sv = .string rem ∧ rem.size ≤ s.size ∧ (splitF s.data.toList b).drop k = splitF rem.data.toList b ∧
    FillRow (NewB w wr) wr 9 1 (fun _ _ s cs => StrAt s cs) w.heap.size US.length k US ∧ Below w.heap.size w wr
theorem wrap_nat0 {m : Nat} (h : m ≤ 1000000000) : wrap64 (m : Int) = m := IntWalk.wrap64_in _ (by omega)
theorem wrap_nat1 {m : Nat} (h : m ≤ 1000000000) : wrap64 ((m : Int) + 1) = ((m + 1 : Nat) : Int) := by rw [IntWalk.wrap64_in _ (by omega)]; omega
theorem extract_pre {rem : ByteArray} {a t : List UInt8} {b : UInt8} (h : rem.data.toList = a ++ b :: t) : rem.extract 0 a.length = baL a := by
  apply ByteArray.ext
  apply Array.toList_inj.1
  rw [extract_list, h]
  simp [baL]
theorem extract_suf {rem : ByteArray} {a t : List UInt8} {b : UInt8} (h : rem.data.toList = a ++ b :: t) : rem.extract (a.length + 1) rem.size = baL t := by
  apply ByteArray.ext
  apply Array.toList_inj.1
  rw [extract_list, take_all _ _ (by omega), h]
  simp [baL]
set_option maxRecDepth 100000 in
set_option maxHeartbeats 3200000 in
theorem genSplit_any (s : ByteArray) (b : UInt8) (w : World) (hs : s.size ≤ 1000000000) :
    Calls Tryz.prog 125 #[.string s, .string ⟨#[b]⟩, .int .i64 0, .int .i64 (-1)] w fun e w' => ∃ g, e = .returned (.slice (some ⟨g, 0, none⟩) ((splitF s.data.toList b).map baL).length ((splitF s.data.toList b).map baL).length) ∧
      StrOwn 9 (NewB w w') w' ((splitF s.data.toList b).map baL) (.slice (some ⟨g, 0, none⟩) ((splitF s.data.toList b).map baL).length ((splitF s.data.toList b).map baL).length) ∧ Below w.heap.size w w' := by
  have hsep : ((⟨#[b]⟩ : ByteArray).toList == []) = false := by rw [ByteArray.toList_eq]; rfl
  have hbs : (⟨#[b]⟩ : ByteArray).size = 1 := rfl
  obtain ⟨US, hUS⟩ : ∃ US, (splitF s.data.toList b).map baL = US := ⟨_, rfl⟩
  have hlen : US.length = Lib.countByte s.data.toList b + 1 := by rw [← hUS, List.length_map, count_split]
  have hcl : Lib.countByte s.data.toList b ≤ s.size := by rw [Lib.countByte, size_list]; exact List.count_le_length
  have HAT := Lib.hid (fun k => show US[k]? = ((splitF s.data.toList b)[k]?).map baL by rw [← hUS, List.getElem?_map])
  have hsl : (splitF s.data.toList b).length = US.length := by rw [← hUS, List.length_map]
  rw [hUS]
  have HSL := Lib.hid hsl
  obtain ⟨N, hN⟩ : ∃ N, Lib.countByte s.data.toList b = N := ⟨_, rfl⟩
  rw [hN] at hlen hcl
  obtain ⟨-, i, z, hi, hz, hsz, hby, hzs, -⟩ := elemStr
  have HLN := Lib.hid hlen
  have hmin : ¬ ((s.size : Int) + 1 < (N : Int) + 1) := by omega
  have hmin2 : min ((N : Int) + 1) ((s.size : Int) + 1) = (N : Int) + 1 := by omega
  clear hUS hsl
  go_enter Tryz.func125, Tryz.ntmps125
  go_wp2_with fail
  refine (Tryz.strings_Count_one s b w).mono ?_
  rintro e w1 ⟨rfl, rfl⟩
  rw [hN]
  go_wp2_with (at_make; refine wpList_make_full _ rfl _ _ _ rfl w1.heap.size 9 i z 1 Tryz.underlying26 hi hz hsz _ _ _ _ (N + 1) rfl rfl rfl rfl (by rw [hby]; omega) (by unfold maxLen; omega) (Nat.le_refl _) ?_; intro w2 ho2 hg2)
  have hb1 : Below w1.heap.size w1 w2 := ⟨hg2.os, hg2.tape, hg2.output, hg2.size, fun k hk => hg2.block k hk (by simp)⟩
  have HF1 := Lib.hid (show FillRow (NewB w1 w2) w2 9 1 (fun _ _ s cs => StrAt s cs) w1.heap.size US.length 0 US from FillRow.start ⟨Nat.le_refl _, own_lt ho2⟩ (by rw [hlen]; exact ho2))
  clear ho2 hg2
  go_loopw [0, 10] (SplRel s b US w1) (fun _ i _ => US.length - (intOf i).toNat)
  case atStart => exact ⟨0, s, by omega, rfl, rfl, Nat.le_refl _, rfl, HF1.out, hb1⟩
  case round =>
    obtain ⟨k, rem, hk, rfl, rfl, hrs, hdr, hf, hb⟩ := hrel
    have HF := Lib.hid hf
    have hgw := hf.lt
    have hgb := bsz hgw
    clear hf HF1 hb1
    by_cases hlt : k < N
    · obtain ⟨hfd, hre, hat, hdr2⟩ := split_drop hdr (by rw [HSL.out]; omega)
      have hix := index_cut b rem.data.toList
      rw [hfd, if_pos rfl] at hix
      have hle : (cut1 rem.data.toList b).1.length + 1 + (cut1 rem.data.toList b).2.1.length = rem.size := by
        have := congrArg List.length hre
        rw [← size_list, List.length_append, List.length_cons] at this; omega
      have HPR := Lib.hid (extract_pre hre)
      have HSU := Lib.hid (extract_suf hre)
      have HK : Hid (US[k]? = some (baL (cut1 rem.data.toList b).1)) := Lib.hid (by rw [HAT.out, hat]; rfl)
      have HDR := Lib.hid hdr2
      have HIX := Lib.hid hix
      clear hat hdr hdr2 hfd hre hix
      generalize (cut1 rem.data.toList b).1 = pa at *
      generalize (cut1 rem.data.toList b).2.1 = pb at *
      have hcz := HF.out.cell k (by omega)
      obtain ⟨⟨q0, hq0⟩, hf0⟩ := hcz
      have hki : (k : Int) < N := by omega
      obtain ⟨m, hm⟩ : ∃ m, pa.length = m := ⟨_, rfl⟩
      rw [hm] at HIX HPR HSU hle
      have HM := Lib.hid hm
      clear hm
      have hp1 : ¬ ((m : Int) < 0) := by omega
      have hp2 : (0 : Int) ≤ (m : Int) := by omega
      have hp3 : m ≤ rem.size := by omega
      have hp4 : m + 1 ≤ rem.size := by omega
      have HLE := Lib.hid hle
      clear hle
      go_wp2_with fail
      refine ((Tryz.strings_Index_one rem b wr).mono (fun e w' (h : e = _ ∧ w' = wr) => (show e = .returned (.int .i64 (m : Int)) ∧ Below wr.heap.size wr w' from ⟨h.1.trans (by rw [HIX.out]), h.2 ▸ Below.refl _ _⟩))).mono ?_
      rintro e w3 ⟨rfl, hb3⟩
      have hq3 := (hb3.cell hgw).trans hq0
      have hf3 := (hb3.frozen hgw).trans hf0
      have hgb3 := bsz (World.block_lt_of_cell? _ _ hq3)
      have HALL := Lib.hid (And.intro hlen (And.intro hcl (And.intro hrs (And.intro hlt (And.intro hs (And.intro hb hb3))))))
      have hk1 : (k : Int) < (N : Int) + 1 := by omega
      have hmb : m ≤ 1000000000 := by omega
      have hw1 := wrap_nat0 hmb
      have hw2 := wrap_nat1 hmb
      clear hmb hq0 hf0 hs hsep hbs hi hz hsz hby hzs hcl hlen hN hmin hmin2 hlt hgw hgb hrs hb hb3 hk hki
      go_wp2
      rw [show rem.extract (m + 1) rem.size = baL pb from HSU.out, show rem.extract 0 m = baL pa from HPR.out]
      obtain ⟨hlen, hcl, hrs, hlt, hs, hb, hb3⟩ := HALL.out
      have hbz : Below w1.heap.size w1 w3 := Below.step hb hb3
      have hm2 := HM.out
      have hle2 := HLE.out
      have hpz : (baL pa).size ≤ maxLen := by rw [baL_size, hm2]; unfold maxLen; clear hw1 hw2; omega
      clear hw1 hw2
      have hkb : k ≤ 1000000000 := by omega
      refine ⟨⟨k + 1, baL pb, by omega, congrArg (Value.int .i64) (wrap_nat1 hkb), rfl, by rw [baL_size]; omega, HDR.out, ?_, hbz.setCell (Nat.le_refl _) _⟩, by rw [wrap_nat1 hkb]; simp [intOf]; omega⟩
      refine FillRow.put (T := fun _ => False) ((HF.out.later hb3 (fun T x cs _ hx => hx)).wider (fun b hb => ⟨hb.1, by have := hb.2; have := hb3.size; simp; omega⟩)) (by omega) HK.out (Below.refl _ _) rfl ⟨rfl, hpz⟩ (fun _ h => h.elim) (fun cur hc hz => ⟨_, heap_setCell_same w3 _ k cur _ (.string (baL pa)) hc, ?_⟩) (by simp) (fun _ _ _ _ hx => hx)
      have := Patch.set (cur := cur) (cur' := cur) (o := k * 1) (cs := [q0]) ⟨rfl, fun j hj => ?_, fun _ _ => rfl⟩ (j := 0) (by simp) hz (.string (baL pa))
      · simpa using this
      · obtain rfl : j = 0 := by simpa using hj
        have h1 := (cell_of_row w3 _ k cur _ (0, 0) hc).symm.trans hq3
        simpa using h1
    · obtain rfl : k = N := by omega
      have HL := Lib.hid (split_last hdr (by rw [HSL.out]; omega))
      have HK : Hid (US[k]? = some (baL rem.data.toList)) := Lib.hid (by rw [HAT.out, HL.out]; rfl)
      have hcz := HF.out.cell k (by omega)
      obtain ⟨⟨q0, hq0⟩, hf0⟩ := hcz
      go_wp2
      go_ret
      refine ⟨w1.heap.size, by first | rfl | (rw [hlen]; rfl), ?_, hb.setCell (Nat.le_refl _) _⟩
      clear hmin hmin2
      have hrz : rem.size ≤ maxLen := by unfold maxLen; omega
      have hput : FillRow (NewB w1 (wr.setCell ⟨w1.heap.size, k, none⟩ (.string rem))) (wr.setCell ⟨w1.heap.size, k, none⟩ (.string rem)) 9 1 (fun _ _ s cs => StrAt s cs) w1.heap.size US.length (k + 1) US := by
        refine FillRow.put (T := fun _ => False) (HF.out.wider (fun b hb => ⟨hb.1, by simpa using hb.2⟩)) (by omega) HK.out (Below.refl _ _) rfl ⟨by rw [baL_of], by rw [baL_of]; exact hrz⟩ (fun _ h => h.elim) (fun cur hc hz => ⟨_, heap_setCell_same wr _ k cur _ (.string rem) hc, ?_⟩) (by simp) (fun _ _ _ _ hx => hx)
        have := Patch.set (cur := cur) (cur' := cur) (o := k * 1) (cs := [q0]) ⟨rfl, fun j hj => ?_, fun _ _ => rfl⟩ (j := 0) (by simp) hz (.string rem)
        · simpa using this
        · obtain rfl : j = 0 := by simpa using hj
          have h1 := (cell_of_row wr _ k cur _ (0, 0) hc).symm.trans hq0
          simpa using h1
      rw [← hlen] at hput
      exact hput.done (by unfold maxLen; omega)
set_option maxRecDepth 100000 in
theorem strSplit_any (s : ByteArray) (b : UInt8) (w : World) (hs : s.size ≤ 1000000000) :
    Calls Tryz.prog 60 #[.string s, .string ⟨#[b]⟩] w fun e w' => ∃ g, e = .returned (.slice (some ⟨g, 0, none⟩) ((splitF s.data.toList b).map baL).length ((splitF s.data.toList b).map baL).length) ∧
      StrOwn 9 (NewB w w') w' ((splitF s.data.toList b).map baL) (.slice (some ⟨g, 0, none⟩) ((splitF s.data.toList b).map baL).length ((splitF s.data.toList b).map baL).length) ∧ Below w.heap.size w w' := by
  have HG := Lib.hid (genSplit_any s b w hs)
  obtain ⟨US, hUS⟩ : ∃ US, (splitF s.data.toList b).map baL = US := ⟨_, rfl⟩
  rw [hUS] at HG ⊢
  clear hUS
  go_enter Tryz.func60, Tryz.ntmps60
  go_wp2_with fail
  refine HG.out.mono ?_
  rintro e w1 ⟨g, rfl, h1, hb1⟩
  have H1 := Lib.hid h1
  clear h1
  go_wp2
  go_ret
  exact ⟨g, rfl, H1.out, hb1⟩
open Go.RowKit
def EnvM (w : World) : Prop := ∃ m, w.cell? ⟨0, 0, none⟩ = some (.int .i64 m)
theorem EnvM.below {w w' : World} (h : EnvM w) (hb : Below w.heap.size w w') : EnvM w' := by
  obtain ⟨m, hm⟩ := h
  exact ⟨m, (hb.cell (World.block_lt_of_cell? _ _ hm)).trans hm⟩
theorem cutS_any (s : ByteArray) (b : UInt8) (w : World) (hE : EnvM w) (hs : s.size < 4294967281) :
    Calls Tryz.prog 61 #[.string s, .string ⟨#[b]⟩] w fun e w' => e = .returned (.tuple #[.string ⟨(cut1 s.data.toList b).1.toArray⟩, .string ⟨(cut1 s.data.toList b).2.1.toArray⟩, .bool (cut1 s.data.toList b).2.2]) ∧ Below w.heap.size w w' := by
  obtain ⟨m, hm⟩ := hE
  exact (Tryz.strings_Cut s ⟨#[b]⟩ m w hs hm).mono fun _ _ ⟨he, n, hw⟩ => ⟨by rw [he, ← cut_one], by rw [hw]; exact below_drewN (Below.refl _ _) n⟩
theorem weq (wd K : List UInt8) : (wd == K) = decide (wd = K) := by rw [Bool.eq_iff_iff, beq_iff_eq, decide_eq_true_iff]
def unitZ : Array Value := #[.string ⟨#[]⟩, .slice none 0 0, .slice none 0 0, .string ⟨#[]⟩]
theorem own_nil (w : World) (base : Nat) (e : TypeId) : w.ownsRow base e 1 (.slice none 0 0) 0 [] := ⟨rfl, .inl ⟨rfl, rfl⟩⟩
theorem UnS.start {e eU : TypeId} {W : World} {k : Nat} (h : W.heap[k]? = some (.cells unitZ eU (0, 0))) : UnS e eU W k u0 (.slice none 0 0) (.slice none 0 0) W :=
  ⟨h, own_nil _ _ _, own_nil _ _ _, fun g hg => by simp [Value.ownBlock] at hg, ⟨rfl, rfl, rfl, Nat.le_refl _, fun _ _ _ => rfl⟩, blk_lt h⟩
theorem UnS.cells {e eU : TypeId} {W0 wr : World} {k : Nat} {u : Un} {va vb : Value} (h : UnS e eU W0 k u va vb wr) :
    wr.cell? ⟨k, 0, none⟩ = some (.string u.name) ∧ wr.cell? ⟨k, 1, none⟩ = some va ∧ wr.cell? ⟨k, 2, none⟩ = some vb ∧ wr.cell? ⟨k, 3, none⟩ = some (.string u.goal) ∧ ∀ j, wr.frozen? ⟨k, j, none⟩ = false := by
  refine ⟨?_, ?_, ?_, ?_, fun j => frozen_of_row wr k j _ _ h.box⟩
  · rw [cell_of_row wr k 0 _ _ (0, 0) h.box]; rfl
  · rw [cell_of_row wr k 1 _ _ (0, 0) h.box]; rfl
  · rw [cell_of_row wr k 2 _ _ (0, 0) h.box]; rfl
  · rw [cell_of_row wr k 3 _ _ (0, 0) h.box]; rfl
theorem UnOwn.zero (e : TypeId) (S : Nat → Prop) (w : World) : UnOwn e S w u0 [.string ⟨#[]⟩, .slice none 0 0, .slice none 0 0, .string ⟨#[]⟩] :=
  ⟨_, _, fun _ => False, fun _ => False, rfl, by decide, by decide, OwnRow.nil _ _ _ _ _, OwnRow.nil _ _ _ _ _, fun _ h => h.elim, fun _ h => h.elim, fun _ h _ => h⟩
def PuRel (L : List UInt8) (st : Un → List UInt8 → Un) (W0 : World) (k : Nat) (i : Value) (wr : World) : Prop :=
  ∃ (n : Nat) (va vb : Value), n ≤ (splitF L 10).length ∧ i = .int .i64 n ∧ UnS 9 34 W0 k (((splitF L 10).take n).foldl st u0) va vb wr
set_option maxRecDepth 100000 in
set_option maxHeartbeats 6400000 in
theorem implPU_any (s : ByteArray) (w : World) (hs : s.size ≤ 1048576) (hE : EnvM w) :
    Calls Tryz.prog 23 #[.string s] w fun e w' => ∃ v0 v1 v2 v3, e = .returned (.tuple #[.agg #[v0, v1, v2, v3], .bool (puOk s.data.toList)]) ∧ UnOwn 9 (NewB w w') w' (puV s.data.toList) [v0, v1, v2, v3] ∧ Below w.heap.size w w' := by
  have HE := Lib.hid hE
  have hsz : s.data.toList.length = s.size := (size_list s).symm
  have HWT := Lib.hid (fun n => parI_wt s.data.toList n)
  have HSP := Lib.hid (lsum_split 10 s.data.toList)
  have hll : (splitF s.data.toList 10).length ≤ s.size + 1 := by rw [count_split, Lib.countByte, ← hsz]; have := List.count_le_length (a := (10 : UInt8)) (l := s.data.toList); omega
  clear hE
  go_enter Tryz.func23, Tryz.ntmps23
  go_wp2_with fail
  obtain ⟨W, hW⟩ : ∃ W : World, W = (w.alloc (.cells unitZ 34)).alloc (.cells unitZ 34) := ⟨_, rfl⟩
  have hbW : Below w.heap.size w W := by rw [hW]; exact bel
  have hzW : W.heap.size = w.heap.size + 2 := by rw [hW]; simp
  have hkW : W.heap[w.heap.size + 1]? = some (.cells unitZ 34 (0, 0)) := by rw [hW]; have := heap_alloc_new (w.alloc (.cells unitZ 34)) (.cells unitZ 34); simpa using this
  have hrW : W.heap[w.heap.size]? = some (.cells unitZ 34 (0, 0)) := by rw [hW]; exact (hao _ _ _ (by simp)).trans (heap_alloc_new w _)
  show Calls Tryz.prog _ _ ((w.alloc (.cells unitZ 34)).alloc (.cells unitZ 34)) _
  rw [← hW]
  refine (strSplit_any s 10 W (by omega)).mono ?_
  rintro e w1 ⟨g, rfl, hl1, hb1⟩
  have hq1 := hb1.size
  have HLS := Lib.hid hl1.at_
  have HU0 := Lib.hid (UnS.start (e := 9) ((hb1.block _ (by omega)).trans hkW))
  have HR0 := Lib.hid ((hb1.block _ (by omega)).trans hrW)
  have hb01 : Below w.heap.size w w1 := Below.step hbW hb1
  have hks : w.heap.size + 1 < w1.heap.size := by omega
  clear hl1 hW hkW hrW
  rw [List.length_map] at HLS ⊢
  go_wp2
  go_loopw [14] (PuRel s.data.toList stI w1 (w.heap.size + 1)) (fun i _ => (splitF s.data.toList 10).length - (intOf i).toNat)
  case atStart => exact ⟨0, _, _, Nat.zero_le _, rfl, HU0.out⟩
  case round =>
    obtain ⟨n, va, vb, hn, rfl, hus⟩ := hrel
    have HUS := Lib.hid hus
    have hqr := hus.gr.size
    have hqg := hus.gr
    by_cases hlt : n < (splitF s.data.toList 10).length
    · obtain ⟨b', o', ebo, hB', hy0, hys⟩ := HLS.out.at_ (i := n) (by rw [List.length_map]; exact hlt)
      simp only [Option.some.injEq, Addr.mk.injEq, and_true] at ebo
      obtain ⟨rfl, rfl⟩ := ebo
      rw [List.getElem_map] at hy0 hys
      rw [Nat.zero_add] at hy0
      have hgn : g ≠ w.heap.size + 1 := by have := hB'.1; omega
      have y0 := (World.cell?_of_block (a := ⟨g, n, none⟩) (hus.gr.block g hB'.2 (by simpa using hgn))).trans hy0
      have zy := bsz (World.block_lt_of_cell? _ _ y0)
      have HTK := Lib.hid (take_fold stI u0 hlt)
      have hwt := HWT.out n
      have hwt1 := HWT.out (n + 1)
      have hlz := lsum_mem (List.getElem_mem hlt)
      rw [HSP.out] at hlz
      obtain ⟨ln, hln⟩ : ∃ ln, (splitF s.data.toList 10)[n] = ln := ⟨_, rfl⟩
      rw [hln] at y0 hys HTK hlz
      rw [baL_size] at hys
      generalize ((splitF s.data.toList 10).take n).foldl stI u0 = u at *
      have hni : (n : Int) < (splitF s.data.toList 10).length := by omega
      clear hus hy0 hln
      have hEr : EnvM wr := HE.out.below (Below.trans hb01 ⟨hqg.os, hqg.tape, hqg.output, hqg.size, fun b hb => hqg.block b (by omega) (by simp; omega)⟩)
      go_wp2_with fail
      refine (cutS_any (baL ln) 32 wr hEr (by rw [baL_size]; omega)).mono ?_
      rintro e w2 ⟨rfl, hb2⟩
      have h2 := HUS.out.below hb2
      obtain ⟨p1, c1, q1, d1, rfl, rfl⟩ := h2.form
      obtain ⟨x0, x1, x2, x3, xf⟩ := h2.cells
      have zk := bsz h2.klt
      have HU2 := Lib.hid h2
      have HST := Lib.hid (show stI u ln = if (cut1 ln 32).1 = kwU then u.putN (cut1 ln 32).2.1 else if (cut1 ln 32).1 = kwI then u.putI (cut1 ln 32).2.1 else if (cut1 ln 32).1 = kwA then u.putA (cut1 ln 32).2.1 else if (cut1 ln 32).1 = kwG then u.putG (cut1 ln 32).2.1 else u from rfl)
      rw [baL_list]
      have hbw2 : w1.grownBy w2 (some (w.heap.size + 1)) := h2.gr
      have hzs := wt_sizes hwt
      clear h2
      generalize (cut1 ln 32).1 = wd at *
      generalize (cut1 ln 32).2.1 = rs at *
      generalize (cut1 ln 32).2.2 = fd at *
      have HF1 := Lib.hid (weq wd [117, 110, 105, 116])
      have HF2 := Lib.hid (weq wd [105, 110, 99, 108, 117, 100, 101])
      have HF3 := Lib.hid (weq wd [97, 120, 105, 111, 109])
      have HF4 := Lib.hid (weq wd [103, 111, 97, 108])
      have hni2 : u.incs.length ≤ 1048577 ∧ u.axs.length ≤ 1048577 := ⟨by have := hzs.2.2.2.2.1; omega, by have := hzs.2.2.2.2.2; omega⟩
      by_cases e1 : wd = kwU
      · have f1 := HF1.out.trans (decide_eq_true e1)
        have E := Lib.hid e1
        clear e1
        go_wp2
        refine ⟨⟨n + 1, .slice p1 u.incs.length c1, .slice q1 u.axs.length d1, by omega, by go_num, ?_⟩, by simp [intOf]; omega⟩
        rw [HTK.out, HST.out, if_pos E.out]
        exact HU2.out.setN (baL rs)
      by_cases e2 : wd = kwI
      · have f1 := HF1.out.trans (decide_eq_false e1)
        have f2 := HF2.out.trans (decide_eq_true e2)
        have E1 := Lib.hid e1
        have E2 := Lib.hid e2
        clear e1 e2
        go_wp2_with (at_builtin; refine wpList_app1 rfl (.tmp 32) (.tmp 34) _ rfl w1.heap.size 9 1 16 elemStr (.slice p1 u.incs.length c1) u.incs.length (strW u.incs) rfl w2 #[.string ⟨rs.toArray⟩] rfl w2.heap.size rfl rfl HU2.out.ra rfl (by simp [Value.oneCell']) (by omega) (by unfold maxLen; omega) hbw2.size ?_; intro v3 w3 ho3 hg3 hn3 hl3; obtain ⟨q3, k3, rfl⟩ := own_form ho3 (Nat.succ_pos _); have y3 := (World.cell?_of_block (a := ⟨w.heap.size + 1, 1, none⟩) (hg3.block _ zk.1 (fun e' => HU2.out.na e'.symm))).trans x1; have yf3 : w3.frozen? ⟨w.heap.size + 1, 1, none⟩ = false := (World.frozen?_of_block (a := ⟨w.heap.size + 1, 1, none⟩) (hg3.block _ zk.1 (fun e' => HU2.out.na e'.symm))).trans (xf 1); have zk3 := bsz (World.block_lt_of_cell? _ _ y3))
        refine ⟨⟨n + 1, .slice (some ⟨q3, 0, none⟩) (u.incs.length + 1) k3, .slice q1 u.axs.length d1, by omega, by go_num, ?_⟩, by simp [intOf]; omega⟩
        rw [HTK.out, HST.out, if_neg E1.out, if_pos E2.out]
        exact HU2.out.appI (r := baL rs) ho3 hg3 hn3
      by_cases e3 : wd = kwA
      · have f1 := HF1.out.trans (decide_eq_false e1)
        have f2 := HF2.out.trans (decide_eq_false e2)
        have f3 := HF3.out.trans (decide_eq_true e3)
        have E1 := Lib.hid e1
        have E2 := Lib.hid e2
        have E3 := Lib.hid e3
        clear e1 e2 e3
        go_wp2_with (at_builtin; refine wpList_app1 rfl (.tmp 40) (.tmp 42) _ rfl w1.heap.size 9 1 16 elemStr (.slice q1 u.axs.length d1) u.axs.length (strW u.axs) rfl w2 #[.string ⟨rs.toArray⟩] rfl w2.heap.size rfl rfl HU2.out.rb rfl (by simp [Value.oneCell']) (by omega) (by unfold maxLen; omega) hbw2.size ?_; intro v3 w3 ho3 hg3 hn3 hl3; obtain ⟨q3, k3, rfl⟩ := own_form ho3 (Nat.succ_pos _); have y3 := (World.cell?_of_block (a := ⟨w.heap.size + 1, 2, none⟩) (hg3.block _ zk.1 (fun e' => HU2.out.nb e'.symm))).trans x2; have yf3 : w3.frozen? ⟨w.heap.size + 1, 2, none⟩ = false := (World.frozen?_of_block (a := ⟨w.heap.size + 1, 2, none⟩) (hg3.block _ zk.1 (fun e' => HU2.out.nb e'.symm))).trans (xf 2); have zk3 := bsz (World.block_lt_of_cell? _ _ y3))
        refine ⟨⟨n + 1, .slice p1 u.incs.length c1, .slice (some ⟨q3, 0, none⟩) (u.axs.length + 1) k3, by omega, by go_num, ?_⟩, by simp [intOf]; omega⟩
        rw [HTK.out, HST.out, if_neg E1.out, if_neg E2.out, if_pos E3.out]
        exact HU2.out.appA (r := baL rs) ho3 hg3 hn3
      by_cases e4 : wd = kwG
      · have f1 := HF1.out.trans (decide_eq_false e1)
        have f2 := HF2.out.trans (decide_eq_false e2)
        have f3 := HF3.out.trans (decide_eq_false e3)
        have f4 := HF4.out.trans (decide_eq_true e4)
        have E1 := Lib.hid e1
        have E2 := Lib.hid e2
        have E3 := Lib.hid e3
        have E4 := Lib.hid e4
        clear e1 e2 e3 e4
        go_wp2
        refine ⟨⟨n + 1, .slice p1 u.incs.length c1, .slice q1 u.axs.length d1, by omega, by go_num, ?_⟩, by simp [intOf]; omega⟩
        rw [HTK.out, HST.out, if_neg E1.out, if_neg E2.out, if_neg E3.out, if_pos E4.out]
        exact HU2.out.setG (baL rs)
      · have f1 := HF1.out.trans (decide_eq_false e1)
        have f2 := HF2.out.trans (decide_eq_false e2)
        have f3 := HF3.out.trans (decide_eq_false e3)
        have f4 := HF4.out.trans (decide_eq_false e4)
        have E1 := Lib.hid e1
        have E2 := Lib.hid e2
        have E3 := Lib.hid e3
        have E4 := Lib.hid e4
        clear e1 e2 e3 e4
        go_wp2
        refine ⟨⟨n + 1, .slice p1 u.incs.length c1, .slice q1 u.axs.length d1, by omega, by go_num, ?_⟩, by simp [intOf]; omega⟩
        rw [HTK.out, HST.out, if_neg E1.out, if_neg E2.out, if_neg E3.out, if_neg E4.out]
        exact HU2.out
    · obtain rfl : n = (splitF s.data.toList 10).length := by omega
      have hEr : EnvM wr := HE.out.below (Below.trans hb01 ⟨hqg.os, hqg.tape, hqg.output, hqg.size, fun b hb => hqg.block b (by omega) (by simp; omega)⟩)
      have hbw : Below w.heap.size w wr := Below.trans hb01 ⟨hqg.os, hqg.tape, hqg.output, hqg.size, fun b hb => hqg.block b (by omega) (by simp; omega)⟩
      have hwt := HWT.out (splitF s.data.toList 10).length
      rw [List.take_length] at hus hwt
      rw [show (splitF s.data.toList 10).foldl stI u0 = parI s.data.toList from rfl] at hus hwt
      have hzs := wt_sizes hwt
      have hml : s.data.toList.length + 1 ≤ maxLen := by unfold maxLen; omega
      have HOW := Lib.hid (hus.own (Nat.le_trans hzs.1 hml) (Nat.le_trans hzs.2.1 hml) (fun x hx => Nat.le_trans (hzs.2.2.1 x hx) hml) (fun x hx => Nat.le_trans (hzs.2.2.2.1 x hx) hml))
      obtain ⟨p1, c1, q1, d1, rfl, rfl⟩ := hus.form
      obtain ⟨x0, x1, x2, x3, xf⟩ := hus.cells
      have zk := bsz hus.klt
      have hR : wr.heap[w.heap.size]? = some (.cells unitZ 34 (0, 0)) := (hqg.block _ (by omega) (by simp)).trans HR0.out
      have HPK := Lib.hid (show puOk s.data.toList = ((parI s.data.toList).good && (parI s.data.toList).txt == s.data.toList) from rfl)
      have HPV := Lib.hid (show puV s.data.toList = if puOk s.data.toList then parI s.data.toList else u0 from rfl)
      have hw12 : (parI s.data.toList).wt ≤ 1000000000000 := by omega
      have hwl : w.heap.size < wr.heap.size := by omega
      have HUB := Lib.hid hus
      clear hus HUS HU0 HR0 hzs hml hwt
      generalize parI s.data.toList = u at *
      cases hg : u.good
      · have HG := Lib.hid hg
        have HO := Lib.hid (show puOk s.data.toList = false by rw [HPK.out, hg]; rfl)
        clear hg
        go_wp2_with fail
        refine (implUnit_any u _ _ _ _ wr HOW.out.at_ hw12).mono ?_
        rintro e w2 ⟨rfl, hb2⟩
        rw [HG.out]
        have hR2 := (hb2.block _ hwl).trans hR
        have rf : ∀ j, w2.frozen? ⟨w.heap.size, j, none⟩ = false := fun j => frozen_of_row w2 w.heap.size j _ _ hR2
        have r0 : w2.cell? ⟨w.heap.size, 0, none⟩ = some (.string ⟨#[]⟩) := by rw [cell_of_row w2 _ 0 _ _ (0, 0) hR2]; rfl
        have r1 : w2.cell? ⟨w.heap.size, 1, none⟩ = some (.slice none 0 0) := by rw [cell_of_row w2 _ 1 _ _ (0, 0) hR2]; rfl
        have r2 : w2.cell? ⟨w.heap.size, 2, none⟩ = some (.slice none 0 0) := by rw [cell_of_row w2 _ 2 _ _ (0, 0) hR2]; rfl
        have r3 : w2.cell? ⟨w.heap.size, 3, none⟩ = some (.string ⟨#[]⟩) := by rw [cell_of_row w2 _ 3 _ _ (0, 0) hR2]; rfl
        have zr := bsz (World.block_lt_of_cell? _ _ r0)
        clear hR2
        go_wp2
        refine bodyPost_ret (v := .tuple #[.agg #[.string ⟨#[]⟩, .slice none 0 0, .slice none 0 0, .string ⟨#[]⟩], .bool false]) (by simp only [results, Tryz.results23]; go_simp) rfl ⟨_, _, _, _, by rw [HO.out], by rw [HPV.out, HO.out]; exact UnOwn.zero _ _ _, by exact bel⟩
      · have HG := Lib.hid hg
        have HP2 := Lib.hid (show puOk s.data.toList = (u.txt == s.data.toList) by rw [HPK.out, hg, Bool.true_and])
        clear hg
        cases ht : (u.txt == s.data.toList)
        all_goals
          have HO := Lib.hid (HP2.out.trans ht)
          have hT := (show (u.txt == s.toList) = (u.txt == s.data.toList) by rw [ByteArray.toList_eq]).trans ht
          clear ht
          go_wp2_with fail
          refine (implUnit_any u _ _ _ _ wr HOW.out.at_ hw12).mono ?_
          rintro e w2 ⟨rfl, hb2⟩
          rw [HG.out]
          have hk2 := HUB.out.below hb2
          obtain ⟨y0, y1, y2, y3, yf⟩ := hk2.cells
          have zk2 := bsz hk2.klt
          clear hk2
          go_wp2_with fail
          refine (formatUnit_any u _ _ _ _ w2 (HOW.out.at_.below hb2) hw12).mono ?_
          rintro e w3 ⟨rfl, hb3⟩
          have hR3 := (hb3.block _ (Nat.lt_of_lt_of_le hwl hb2.size)).trans ((hb2.block _ hwl).trans hR)
          have rf : ∀ j, w3.frozen? ⟨w.heap.size, j, none⟩ = false := fun j => frozen_of_row w3 w.heap.size j _ _ hR3
          have r0 : w3.cell? ⟨w.heap.size, 0, none⟩ = some (.string ⟨#[]⟩) := by rw [cell_of_row w3 _ 0 _ _ (0, 0) hR3]; rfl
          have r1 : w3.cell? ⟨w.heap.size, 1, none⟩ = some (.slice none 0 0) := by rw [cell_of_row w3 _ 1 _ _ (0, 0) hR3]; rfl
          have r2 : w3.cell? ⟨w.heap.size, 2, none⟩ = some (.slice none 0 0) := by rw [cell_of_row w3 _ 2 _ _ (0, 0) hR3]; rfl
          have r3 : w3.cell? ⟨w.heap.size, 3, none⟩ = some (.string ⟨#[]⟩) := by rw [cell_of_row w3 _ 3 _ _ (0, 0) hR3]; rfl
          have zr := bsz (World.block_lt_of_cell? _ _ r0)
          have hk3 := (HUB.out.below hb2).below hb3
          obtain ⟨t0, t1, t2, t3, tf⟩ := hk3.cells
          have zk3 := bsz hk3.klt
          clear hk3 hR3
          go_wp2
        · refine bodyPost_ret (v := .tuple #[.agg #[.string ⟨#[]⟩, .slice none 0 0, .slice none 0 0, .string ⟨#[]⟩], .bool false]) (by simp only [results, Tryz.results23]; go_simp) rfl ⟨_, _, _, _, by rw [HO.out], by rw [HPV.out, HO.out]; exact UnOwn.zero _ _ _, by exact bel⟩
        · refine bodyPost_ret (v := .tuple #[.agg #[.string u.name, .slice p1 u.incs.length c1, .slice q1 u.axs.length d1, .string u.goal], .bool true]) (by simp only [results, Tryz.results23]; go_simp) rfl ⟨_, _, _, _, by rw [HO.out], ?_, by exact bel⟩
          rw [HPV.out, HO.out, if_pos rfl]
          refine ((HOW.out.later hb2).later hb3).mono (S := NewB w1 wr) (fun b hb hlt => ?_) (fun b hb => ⟨by have := hb.1; omega, by have := hb.2; have := hb2.size; have := hb3.size; simp; omega⟩)
          have hne : b ≠ w.heap.size := by have := hb.1; omega
          exact (heap_setCell_other _ _ b _ hne).trans ((heap_setCell_other _ _ b _ hne).trans ((heap_setCell_other _ _ b _ hne).trans (heap_setCell_other _ _ b _ hne)))
open Go.RowKit
theorem aft_head {k : UInt8} {ks l : List UInt8} (h : aft (k :: ks) l = true) : l.head? = some k := by
  cases l with
  | nil => simp [aft] at h
  | cons c l => simp [aft, List.isPrefixOf] at h; simp [h.1]
theorem pre_take (K L : List UInt8) : K.isPrefixOf L = (L.take K.length == K) := by
  rw [Bool.eq_iff_iff, List.isPrefixOf_iff_prefix, List.prefix_iff_eq_take, beq_iff_eq]
  exact eq_comm
set_option maxRecDepth 100000 in
set_option maxHeartbeats 1600000 in
theorem l27After_any (line word : ByteArray) (w : World) (_hl : line.size ≤ 1000000) (hw : word.size ≤ 100) :
    Calls Tryz.prog 68 #[.string line, .string word] w fun e w' => e = .returned (.tuple #[.string (if aft (word.data.toList ++ [32]) line.data.toList then baL (line.data.toList.drop (word.size + 1)) else ⟨#[]⟩), .bool (aft (word.data.toList ++ [32]) line.data.toList)]) ∧ w = w' := by
  have hlen : (word.data.toList ++ [32]).length = word.size + 1 := by rw [List.length_append, ← size_list]; rfl
  by_cases h1 : line.size < word.size + 1
  · have hp : aft (word.data.toList ++ [32]) line.data.toList = false := by
      cases h : aft (word.data.toList ++ [32]) line.data.toList with
      | false => rfl
      | true =>
        have := (List.isPrefixOf_iff_prefix.1 h).length_le
        rw [hlen, ← size_list] at this; omega
    rw [hp]
    have hi1 : (line.size : Int) < (word.size : Int) + 1 := by omega
    clear hlen hp
    go_enter Tryz.func68, Tryz.ntmps68
    go_wp2
    go_ret2
    exact ⟨rfl, rfl⟩
  · have hp : (List.take (word.size + 1) line.toList == word.toList ++ [32]) = aft (word.data.toList ++ [32]) line.data.toList := by
      rw [aft, pre_take, hlen, ByteArray.toList_eq, ByteArray.toList_eq]
    have hx : line.extract (word.size + 1) line.size = baL (line.data.toList.drop (word.size + 1)) := by
      apply ByteArray.ext
      apply Array.toList_inj.1
      rw [extract_list, take_all _ _ (by omega), baL_list]
    have HX := Lib.hid hx
    have hi1 : ¬ (line.size : Int) < (word.size : Int) + 1 := by omega
    have hi2 : word.size + 1 ≤ line.size := by omega
    cases ha : aft (word.data.toList ++ [32]) line.data.toList
    · rw [ha] at hp
      clear hlen hx
      go_enter Tryz.func68, Tryz.ntmps68
      go_wp2
      go_ret2
      exact ⟨rfl, rfl⟩
    · rw [ha] at hp
      clear hlen hx
      go_enter Tryz.func68, Tryz.ntmps68
      go_wp2
      go_ret2
      exact ⟨congrArg (fun x => Ending.returned (.tuple #[.string x, .bool true])) HX.out, rfl⟩
theorem unit_ne {l : List UInt8} (h : aft kwUnit l = true) : aft kwInc l = false ∧ aft kwAx l = false ∧ aft kwGoal l = false := by
  have h1 := aft_head h
  refine ⟨?_, ?_, ?_⟩ <;> (rw [Bool.eq_false_iff]; intro h2; have h3 := aft_head h2; rw [h1] at h3; exact absurd h3 (by decide))
theorem inc_ne {l : List UInt8} (h : aft kwInc l = true) : aft kwUnit l = false ∧ aft kwAx l = false ∧ aft kwGoal l = false := by
  have h1 := aft_head h
  refine ⟨?_, ?_, ?_⟩ <;> (rw [Bool.eq_false_iff]; intro h2; have h3 := aft_head h2; rw [h1] at h3; exact absurd h3 (by decide))
theorem ax_ne {l : List UInt8} (h : aft kwAx l = true) : aft kwUnit l = false ∧ aft kwInc l = false ∧ aft kwGoal l = false := by
  have h1 := aft_head h
  refine ⟨?_, ?_, ?_⟩ <;> (rw [Bool.eq_false_iff]; intro h2; have h3 := aft_head h2; rw [h1] at h3; exact absurd h3 (by decide))
theorem stS_eq (u : Un) (l : List UInt8) : stS u l = if aft kwUnit l then u.putN (l.drop 5) else if aft kwInc l then u.putI (l.drop 8) else if aft kwAx l then u.putA (l.drop 6) else if aft kwGoal l then u.putG (l.drop 5) else u := by
  rw [stS, onA, onA, onA, onA]
  cases h1 : aft kwUnit l
  · cases h2 : aft kwInc l
    · cases h3 : aft kwAx l
      · cases h4 : aft kwGoal l
        · simp
        · simp [kwGoal]
      · obtain ⟨-, -, h4⟩ := ax_ne h3
        rw [h4]; simp [kwAx]
    · obtain ⟨-, h3, h4⟩ := inc_ne h2
      rw [h3, h4]; simp [kwInc]
  · obtain ⟨h2, h3, h4⟩ := unit_ne h1
    rw [h2, h3, h4]; simp [kwUnit]
set_option maxRecDepth 100000 in
set_option maxHeartbeats 6400000 in
theorem specPU_any (s : ByteArray) (w : World) (hs : s.size ≤ 1048576) :
    Calls Tryz.prog 26 #[.string s] w fun e w' => ∃ v0 v1 v2 v3, e = .returned (.tuple #[.agg #[v0, v1, v2, v3], .bool (puOk s.data.toList)]) ∧ UnAt (NewB w w') w' (puV s.data.toList) [v0, v1, v2, v3] ∧ Below w.heap.size w w' := by
  have hsz : s.data.toList.length = s.size := (size_list s).symm
  by_cases h4 : (4000 : Int) < s.size
  · have HO := Lib.hid (pu_long (L := s.data.toList) (by omega))
    go_enter Tryz.func26, Tryz.ntmps26
    go_wp2
    refine bodyPost_ret (v := .tuple #[.agg #[.string ⟨#[]⟩, .slice none 0 0, .slice none 0 0, .string ⟨#[]⟩], .bool false]) (by simp only [results, Tryz.results26]; go_simp) rfl ⟨_, _, _, _, by rw [HO.out], by rw [puV, HO.out, if_neg (by simp)]; exact (UnOwn.zero 9 _ _).at_, by exact bel⟩
  have HWT := Lib.hid (fun n => parS_wt s.data.toList n)
  have HSP := Lib.hid (lsum_split 10 s.data.toList)
  have hll : (splitF s.data.toList 10).length ≤ s.size + 1 := by rw [count_split, Lib.countByte, ← hsz]; have := List.count_le_length (a := (10 : UInt8)) (l := s.data.toList); omega
  go_enter Tryz.func26, Tryz.ntmps26
  go_wp2_with fail
  obtain ⟨W, hW⟩ : ∃ W : World, W = (w.alloc (.cells unitZ 34)).alloc (.cells unitZ 34) := ⟨_, rfl⟩
  have hbW : Below w.heap.size w W := by rw [hW]; exact bel
  have hzW : W.heap.size = w.heap.size + 2 := by rw [hW]; simp
  have hkW : W.heap[w.heap.size + 1]? = some (.cells unitZ 34 (0, 0)) := by rw [hW]; have := heap_alloc_new (w.alloc (.cells unitZ 34)) (.cells unitZ 34); simpa using this
  have hrW : W.heap[w.heap.size]? = some (.cells unitZ 34 (0, 0)) := by rw [hW]; exact (hao _ _ _ (by simp)).trans (heap_alloc_new w _)
  show Calls Tryz.prog _ _ ((w.alloc (.cells unitZ 34)).alloc (.cells unitZ 34)) _
  rw [← hW]
  refine (l1Split_any s 10 W (by omega)).mono ?_
  rintro e w1 ⟨vl, rfl, hl1, hb1⟩
  have hq1 := hb1.size
  have hsv : strV (splitF s.data.toList 10) = strW ((splitF s.data.toList 10).map baL) := by rw [strV, strW, List.map_map]; rfl
  rw [hsv] at hl1
  have HLS := Lib.hid (rowS_own (S := NewB W w1) (us := (splitF s.data.toList 10).map baL) (by rw [List.length_map]; exact hl1) (fun x hx => by
    obtain ⟨y, hy, rfl⟩ := List.mem_map.1 hx
    have := lsum_mem hy
    rw [HSP.out] at this
    rw [baL_size]; unfold maxLen; omega) (by rw [List.length_map]; unfold maxLen; omega) (fun g hg => ⟨own_base hl1 g hg, own_lt' hl1 hg⟩)).at_
  obtain ⟨pl, kl, rfl⟩ : ∃ p c, vl = .slice p (splitF s.data.toList 10).length c := by
    rcases hl1.2 with ⟨rfl, h0⟩ | ⟨g, cap, cur, rfl, _⟩
    · exact ⟨none, 0, by rw [h0]⟩
    · exact ⟨_, _, rfl⟩
  have HU0 := Lib.hid (UnS.start (e := 9) ((hb1.block _ (by omega)).trans hkW))
  have HR0 := Lib.hid ((hb1.block _ (by omega)).trans hrW)
  have hb01 : Below w.heap.size w w1 := Below.step hbW hb1
  have hks : w.heap.size + 1 < w1.heap.size := by omega
  clear hl1 hW hkW hrW hsv
  go_wp2
  go_loopw [6] (PuRel s.data.toList stS w1 (w.heap.size + 1)) (fun i _ => (splitF s.data.toList 10).length - (intOf i).toNat)
  case atStart => exact ⟨0, _, _, Nat.zero_le _, rfl, HU0.out⟩
  case round =>
    obtain ⟨n, va, vb, hn, rfl, hus⟩ := hrel
    have HUS := Lib.hid hus
    have hqr := hus.gr.size
    have hqg := hus.gr
    by_cases hlt : n < (splitF s.data.toList 10).length
    · obtain ⟨g, o, rfl, hB', hy0, hys⟩ := HLS.out.at_ (i := n) (by rw [List.length_map]; exact hlt)
      rw [List.getElem_map] at hy0 hys
      have hgn : g ≠ w.heap.size + 1 := by have := hB'.1; omega
      have y0 := (World.cell?_of_block (a := ⟨g, o + n, none⟩) (hqg.block g hB'.2 (by simpa using hgn))).trans hy0
      have zy := bsz (World.block_lt_of_cell? _ _ y0)
      have HTK := Lib.hid (take_fold stS u0 hlt)
      have hwt := HWT.out n
      have hlz := lsum_mem (List.getElem_mem hlt)
      rw [HSP.out] at hlz
      obtain ⟨ln, hln⟩ : ∃ ln, (splitF s.data.toList 10)[n] = ln := ⟨_, rfl⟩
      rw [hln] at y0 hys HTK hlz
      rw [baL_size] at hys
      generalize ((splitF s.data.toList 10).take n).foldl stS u0 = u at *
      have hni : (n : Int) < (splitF s.data.toList 10).length := by omega
      have HL := Lib.hid (fun (K : ByteArray) (w' : World) (hK : K.size ≤ 100) => l27After_any (baL ln) K w' (by rw [baL_size]; omega) hK)
      obtain ⟨p1, c1, q1, d1, rfl, rfl⟩ := hus.form
      obtain ⟨x0, x1, x2, x3, xf⟩ := hus.cells
      have zk := bsz hus.klt
      have hzs := wt_sizes hwt
      have hni2 : u.incs.length ≤ 1048577 * 4 ∧ u.axs.length ≤ 1048577 * 4 := ⟨by have := hzs.2.2.2.2.1; omega, by have := hzs.2.2.2.2.2; omega⟩
      have HST := Lib.hid (stS_eq u ln)
      have HK1 := Lib.hid (show ∀ w' : World, Calls Tryz.prog 68 #[.string (baL ln), .string ⟨#[117, 110, 105, 116]⟩] w' fun e w'' => e = .returned (.tuple #[.string (if aft kwUnit ln then baL (ln.drop 5) else ⟨#[]⟩), .bool (aft kwUnit ln)]) ∧ w' = w'' from fun w' => HL.out ⟨#[117, 110, 105, 116]⟩ w' (by decide))
      have HK2 := Lib.hid (show ∀ w' : World, Calls Tryz.prog 68 #[.string (baL ln), .string ⟨#[105, 110, 99, 108, 117, 100, 101]⟩] w' fun e w'' => e = .returned (.tuple #[.string (if aft kwInc ln then baL (ln.drop 8) else ⟨#[]⟩), .bool (aft kwInc ln)]) ∧ w' = w'' from fun w' => HL.out ⟨#[105, 110, 99, 108, 117, 100, 101]⟩ w' (by decide))
      have HK3 := Lib.hid (show ∀ w' : World, Calls Tryz.prog 68 #[.string (baL ln), .string ⟨#[97, 120, 105, 111, 109]⟩] w' fun e w'' => e = .returned (.tuple #[.string (if aft kwAx ln then baL (ln.drop 6) else ⟨#[]⟩), .bool (aft kwAx ln)]) ∧ w' = w'' from fun w' => HL.out ⟨#[97, 120, 105, 111, 109]⟩ w' (by decide))
      have HK4 := Lib.hid (show ∀ w' : World, Calls Tryz.prog 68 #[.string (baL ln), .string ⟨#[103, 111, 97, 108]⟩] w' fun e w'' => e = .returned (.tuple #[.string (if aft kwGoal ln then baL (ln.drop 5) else ⟨#[]⟩), .bool (aft kwGoal ln)]) ∧ w' = w'' from fun w' => HL.out ⟨#[103, 111, 97, 108]⟩ w' (by decide))
      clear hus hy0 hln hzs hwt
      by_cases a1 : aft kwUnit ln = true
      · obtain ⟨a2, a3, a4⟩ := unit_ne a1
        rw [a1] at HK1 HST
        rw [a2] at HK2 HST
        rw [a3] at HK3 HST
        rw [a4] at HK4 HST
        clear a1 a2 a3 a4
        go_wp2_with (first | (go_at_call 68; (first | (with_reducible refine (HK1.out _).mono ?_) | (with_reducible refine (HK2.out _).mono ?_) | (with_reducible refine (HK3.out _).mono ?_) | (with_reducible refine (HK4.out _).mono ?_)); rintro e w2 ⟨rfl, rfl⟩))
        refine ⟨⟨n + 1, .slice p1 u.incs.length c1, .slice q1 u.axs.length d1, by omega, by go_num, ?_⟩, by simp [intOf]; omega⟩
        rw [HTK.out, HST.out, if_pos (by trivial)]
        exact HUS.out.setN (baL (ln.drop 5))
      have a1 := Bool.eq_false_iff.2 a1
      by_cases a2 : aft kwInc ln = true
      · obtain ⟨-, a3, a4⟩ := inc_ne a2
        rw [a1] at HK1 HST
        rw [a2] at HK2 HST
        rw [a3] at HK3 HST
        rw [a4] at HK4 HST
        clear a1 a2 a3 a4
        go_wp2_with (first | (go_at_call 68; (first | (with_reducible refine (HK1.out _).mono ?_) | (with_reducible refine (HK2.out _).mono ?_) | (with_reducible refine (HK3.out _).mono ?_) | (with_reducible refine (HK4.out _).mono ?_)); rintro e w2 ⟨rfl, rfl⟩) | (at_builtin; refine wpList_app1 rfl (.tmp 49) (.tmp 51) _ rfl w1.heap.size 9 1 16 elemStr (.slice p1 u.incs.length c1) _ _ rfl wr #[.string (baL (ln.drop 8))] rfl wr.heap.size rfl rfl HUS.out.ra rfl (by simp [Value.oneCell']) (by omega) (by unfold maxLen; omega) hqg.size ?_; intro v3 w3 ho3 hg3 hn3 hl3; obtain ⟨q3, k3, rfl⟩ := own_form ho3 (Nat.succ_pos _); have y3 := (World.cell?_of_block (a := ⟨w.heap.size + 1, 1, none⟩) (hg3.block _ zk.1 (fun e' => HUS.out.na e'.symm))).trans x1; have yf3 : w3.frozen? ⟨w.heap.size + 1, 1, none⟩ = false := (World.frozen?_of_block (a := ⟨w.heap.size + 1, 1, none⟩) (hg3.block _ zk.1 (fun e' => HUS.out.na e'.symm))).trans (xf 1); have zk3 := bsz (World.block_lt_of_cell? _ _ y3); have yl3 := (World.cell?_of_block (a := ⟨g, o + n, none⟩) (hg3.block _ zy.1 (fun e' => by have := own_base HUS.out.ra g e'.symm; have := hB'.2; omega))).trans y0; have zy3 := bsz (World.block_lt_of_cell? _ _ yl3)))
        refine ⟨⟨n + 1, .slice (some ⟨q3, 0, none⟩) (u.incs.length + 1) k3, .slice q1 u.axs.length d1, by omega, by go_num, ?_⟩, by simp [intOf]; omega⟩
        rw [HTK.out, HST.out, if_neg (by simp), if_pos (by trivial)]
        exact HUS.out.appI (r := baL (ln.drop 8)) ho3 hg3 hn3
      have a2 := Bool.eq_false_iff.2 a2
      by_cases a3 : aft kwAx ln = true
      · obtain ⟨-, -, a4⟩ := ax_ne a3
        rw [a1] at HK1 HST
        rw [a2] at HK2 HST
        rw [a3] at HK3 HST
        rw [a4] at HK4 HST
        clear a1 a2 a3 a4
        go_wp2_with (first | (go_at_call 68; (first | (with_reducible refine (HK1.out _).mono ?_) | (with_reducible refine (HK2.out _).mono ?_) | (with_reducible refine (HK3.out _).mono ?_) | (with_reducible refine (HK4.out _).mono ?_)); rintro e w2 ⟨rfl, rfl⟩) | (at_builtin; refine wpList_app1 rfl (.tmp 64) (.tmp 66) _ rfl w1.heap.size 9 1 16 elemStr (.slice q1 u.axs.length d1) _ _ rfl wr #[.string (baL (ln.drop 6))] rfl wr.heap.size rfl rfl HUS.out.rb rfl (by simp [Value.oneCell']) (by omega) (by unfold maxLen; omega) hqg.size ?_; intro v3 w3 ho3 hg3 hn3 hl3; obtain ⟨q3, k3, rfl⟩ := own_form ho3 (Nat.succ_pos _); have y3 := (World.cell?_of_block (a := ⟨w.heap.size + 1, 2, none⟩) (hg3.block _ zk.1 (fun e' => HUS.out.nb e'.symm))).trans x2; have yf3 : w3.frozen? ⟨w.heap.size + 1, 2, none⟩ = false := (World.frozen?_of_block (a := ⟨w.heap.size + 1, 2, none⟩) (hg3.block _ zk.1 (fun e' => HUS.out.nb e'.symm))).trans (xf 2); have zk3 := bsz (World.block_lt_of_cell? _ _ y3); have yl3 := (World.cell?_of_block (a := ⟨g, o + n, none⟩) (hg3.block _ zy.1 (fun e' => by have := own_base HUS.out.rb g e'.symm; have := hB'.2; omega))).trans y0; have zy3 := bsz (World.block_lt_of_cell? _ _ yl3)))
        refine ⟨⟨n + 1, .slice p1 u.incs.length c1, .slice (some ⟨q3, 0, none⟩) (u.axs.length + 1) k3, by omega, by go_num, ?_⟩, by simp [intOf]; omega⟩
        rw [HTK.out, HST.out, if_neg (by simp), if_neg (by simp), if_pos (by trivial)]
        exact HUS.out.appA (r := baL (ln.drop 6)) ho3 hg3 hn3
      have a3 := Bool.eq_false_iff.2 a3
      by_cases a4 : aft kwGoal ln = true
      · rw [a1] at HK1 HST
        rw [a2] at HK2 HST
        rw [a3] at HK3 HST
        rw [a4] at HK4 HST
        clear a1 a2 a3 a4
        go_wp2_with (first | (go_at_call 68; (first | (with_reducible refine (HK1.out _).mono ?_) | (with_reducible refine (HK2.out _).mono ?_) | (with_reducible refine (HK3.out _).mono ?_) | (with_reducible refine (HK4.out _).mono ?_)); rintro e w2 ⟨rfl, rfl⟩))
        refine ⟨⟨n + 1, .slice p1 u.incs.length c1, .slice q1 u.axs.length d1, by omega, by go_num, ?_⟩, by simp [intOf]; omega⟩
        rw [HTK.out, HST.out, if_neg (by simp), if_neg (by simp), if_neg (by simp), if_pos (by trivial)]
        exact HUS.out.setG (baL (ln.drop 5))
      · have a4 := Bool.eq_false_iff.2 a4
        rw [a1] at HK1 HST
        rw [a2] at HK2 HST
        rw [a3] at HK3 HST
        rw [a4] at HK4 HST
        clear a1 a2 a3 a4
        go_wp2_with (first | (go_at_call 68; (first | (with_reducible refine (HK1.out _).mono ?_) | (with_reducible refine (HK2.out _).mono ?_) | (with_reducible refine (HK3.out _).mono ?_) | (with_reducible refine (HK4.out _).mono ?_)); rintro e w2 ⟨rfl, rfl⟩))
        refine ⟨⟨n + 1, .slice p1 u.incs.length c1, .slice q1 u.axs.length d1, by omega, by go_num, ?_⟩, by simp [intOf]; omega⟩
        rw [HTK.out, HST.out, if_neg (by simp), if_neg (by simp), if_neg (by simp), if_neg (by simp)]
        exact HUS.out
    · obtain rfl : n = (splitF s.data.toList 10).length := by omega
      have hbw : Below w.heap.size w wr := Below.trans hb01 ⟨hqg.os, hqg.tape, hqg.output, hqg.size, fun b hb => hqg.block b (by omega) (by simp; omega)⟩
      have hwt := HWT.out (splitF s.data.toList 10).length
      rw [List.take_length] at hus hwt
      rw [show (splitF s.data.toList 10).foldl stS u0 = parS s.data.toList from rfl] at hus hwt
      have hzs := wt_sizes hwt
      have hml : 4 * (s.data.toList.length + 1) ≤ maxLen := by unfold maxLen; omega
      have HOW := Lib.hid (hus.own (Nat.le_trans hzs.1 hml) (Nat.le_trans hzs.2.1 hml) (fun x hx => Nat.le_trans (hzs.2.2.1 x hx) hml) (fun x hx => Nat.le_trans (hzs.2.2.2.1 x hx) hml))
      obtain ⟨p1, c1, q1, d1, rfl, rfl⟩ := hus.form
      obtain ⟨x0, x1, x2, x3, xf⟩ := hus.cells
      have zk := bsz hus.klt
      have hR : wr.heap[w.heap.size]? = some (.cells unitZ 34 (0, 0)) := (hqg.block _ (by omega) (by simp)).trans HR0.out
      have HPK := Lib.hid (show puOk s.data.toList = ((parS s.data.toList).good && (parS s.data.toList).txt == s.data.toList) from (puS_eq _).symm)
      have HPV := Lib.hid (show puV s.data.toList = if puOk s.data.toList then parS s.data.toList else u0 by rw [puV]; split; (exact (puS_same (by assumption)).symm); rfl)
      have hw12 : (parS s.data.toList).wt ≤ 1000000000000 := by omega
      have hwl : w.heap.size < wr.heap.size := by omega
      have HUB := Lib.hid hus
      clear hus HUS HU0 HR0 hzs hml hwt
      generalize parS s.data.toList = u at *
      cases hg : u.good
      · have HG := Lib.hid hg
        have HO := Lib.hid (show puOk s.data.toList = false by rw [HPK.out, hg]; rfl)
        clear hg
        go_wp2_with fail
        refine (l27Unit_any u _ _ _ _ wr HOW.out.at_ hw12).mono ?_
        rintro e w2 ⟨rfl, hb2⟩
        rw [HG.out]
        have hR2 := (hb2.block _ hwl).trans hR
        have rf : ∀ j, w2.frozen? ⟨w.heap.size, j, none⟩ = false := fun j => frozen_of_row w2 w.heap.size j _ _ hR2
        have r0 : w2.cell? ⟨w.heap.size, 0, none⟩ = some (.string ⟨#[]⟩) := by rw [cell_of_row w2 _ 0 _ _ (0, 0) hR2]; rfl
        have r1 : w2.cell? ⟨w.heap.size, 1, none⟩ = some (.slice none 0 0) := by rw [cell_of_row w2 _ 1 _ _ (0, 0) hR2]; rfl
        have r2 : w2.cell? ⟨w.heap.size, 2, none⟩ = some (.slice none 0 0) := by rw [cell_of_row w2 _ 2 _ _ (0, 0) hR2]; rfl
        have r3 : w2.cell? ⟨w.heap.size, 3, none⟩ = some (.string ⟨#[]⟩) := by rw [cell_of_row w2 _ 3 _ _ (0, 0) hR2]; rfl
        have zr := bsz (World.block_lt_of_cell? _ _ r0)
        clear hR2
        go_wp2
        refine bodyPost_ret (v := .tuple #[.agg #[.string ⟨#[]⟩, .slice none 0 0, .slice none 0 0, .string ⟨#[]⟩], .bool false]) (by simp only [results, Tryz.results26]; go_simp) rfl ⟨_, _, _, _, by rw [HO.out], by rw [HPV.out, HO.out]; exact (UnOwn.zero 9 _ _).at_, by exact bel⟩
      · have HG := Lib.hid hg
        have HP2 := Lib.hid (show puOk s.data.toList = (u.txt == s.data.toList) by rw [HPK.out, hg, Bool.true_and])
        clear hg
        cases ht : (u.txt == s.data.toList)
        all_goals
          have HO := Lib.hid (HP2.out.trans ht)
          have hT := (show (u.txt == s.toList) = (u.txt == s.data.toList) by rw [ByteArray.toList_eq]).trans ht
          clear ht
          go_wp2_with fail
          refine (l27Unit_any u _ _ _ _ wr HOW.out.at_ hw12).mono ?_
          rintro e w2 ⟨rfl, hb2⟩
          rw [HG.out]
          have hk2 := HUB.out.below hb2
          obtain ⟨y0, y1, y2, y3, yf⟩ := hk2.cells
          have zk2 := bsz hk2.klt
          clear hk2
          go_wp2_with fail
          refine (l27Lines_any u _ _ _ _ w2 (HOW.out.at_.below hb2) hw12).mono ?_
          rintro e w3 ⟨rfl, hb3⟩
          have hR3 := (hb3.block _ (Nat.lt_of_lt_of_le hwl hb2.size)).trans ((hb2.block _ hwl).trans hR)
          have rf : ∀ j, w3.frozen? ⟨w.heap.size, j, none⟩ = false := fun j => frozen_of_row w3 w.heap.size j _ _ hR3
          have r0 : w3.cell? ⟨w.heap.size, 0, none⟩ = some (.string ⟨#[]⟩) := by rw [cell_of_row w3 _ 0 _ _ (0, 0) hR3]; rfl
          have r1 : w3.cell? ⟨w.heap.size, 1, none⟩ = some (.slice none 0 0) := by rw [cell_of_row w3 _ 1 _ _ (0, 0) hR3]; rfl
          have r2 : w3.cell? ⟨w.heap.size, 2, none⟩ = some (.slice none 0 0) := by rw [cell_of_row w3 _ 2 _ _ (0, 0) hR3]; rfl
          have r3 : w3.cell? ⟨w.heap.size, 3, none⟩ = some (.string ⟨#[]⟩) := by rw [cell_of_row w3 _ 3 _ _ (0, 0) hR3]; rfl
          have zr := bsz (World.block_lt_of_cell? _ _ r0)
          have hk3 := (HUB.out.below hb2).below hb3
          obtain ⟨t0, t1, t2, t3, tf⟩ := hk3.cells
          have zk3 := bsz hk3.klt
          clear hk3 hR3
          go_wp2
        · refine bodyPost_ret (v := .tuple #[.agg #[.string ⟨#[]⟩, .slice none 0 0, .slice none 0 0, .string ⟨#[]⟩], .bool false]) (by simp only [results, Tryz.results26]; go_simp) rfl ⟨_, _, _, _, by rw [HO.out], by rw [HPV.out, HO.out]; exact (UnOwn.zero 9 _ _).at_, by exact bel⟩
        · refine bodyPost_ret (v := .tuple #[.agg #[.string u.name, .slice p1 u.incs.length c1, .slice q1 u.axs.length d1, .string u.goal], .bool true]) (by simp only [results, Tryz.results26]; go_simp) rfl ⟨_, _, _, _, by rw [HO.out], ?_, by exact bel⟩
          rw [HPV.out, HO.out, if_pos rfl]
          refine ((HOW.out.later hb2).later hb3).at_.mono (fun b hb hlt => ?_) (fun b hb => ⟨by have := hb.1; omega, by have := hb.2; have := hb2.size; have := hb3.size; simp; omega⟩)
          have hne : b ≠ w.heap.size := by have := hb.1; omega
          exact (heap_setCell_other _ _ b _ hne).trans ((heap_setCell_other _ _ b _ hne).trans ((heap_setCell_other _ _ b _ hne).trans (heap_setCell_other _ _ b _ hne)))
open Go.RowKit
theorem renL_wt {l : List Un} {old name : ByteArray} (hg : libGood l = true) (hn : ∀ u ∈ l, u.name ≠ name) (hw : ∀ u ∈ l, u.wt ≤ 1000) (hz : name.size ≤ 1000) : ∀ v ∈ renL old name l, v.wt ≤ 20000 := by
  intro v hv
  obtain ⟨u, hu, rfl⟩ := mem_renL.1 hv
  obtain ⟨-, h12, -, -⟩ := ren_incs (old := old) hg hn hu
  have h1 := wtS_renI old name u.incs
  have h2 := renS_size old name u.name
  have h3 := hw u hu
  have hl : (canG lessB (renI old name u.incs)).length = u.incs.length := by rw [canG_len, renI, List.length_map]
  have h4 : name.size * u.incs.length ≤ 1000 * u.incs.length := Nat.mul_le_mul_right _ hz
  have h5 : u.incs.length ≤ 12 := by rw [renI, List.length_map] at h12; exact h12
  rw [Un.wt] at h3
  show (renS old name u.name).size + ((canG lessB (renI old name u.incs)).length + wtS (canG lessB (renI old name u.incs))) + (u.axs.length + wtS u.axs) + u.goal.size ≤ 20000
  rw [hl, wtS_canG]
  omega
theorem wtU_cap (n : Nat) : ∀ us : List Un, (∀ u ∈ us, u.wt ≤ n) → wtU us ≤ n * us.length
  | [], _ => by simp [wtU]
  | u :: us, h => by
    have h1 := wtU_cap n us (fun v hv => h v (List.mem_cons_of_mem _ hv))
    have h2 := h u (List.mem_cons_self ..)
    rw [wtU, List.length_cons, Nat.mul_succ]; omega
theorem vBigU_any (pp : Option Addr) (nn cc : Nat) (w : World) : Calls Tryz.prog 6 #[.slice pp nn cc] w fun e w' => e = .returned (.bool (decide ((65536 : Int) < (nn : Int)))) ∧ w = w' := by
  go_enter Tryz.func6, Tryz.ntmps6
  go_wp2
  go_ret
  exact ⟨rfl, rfl⟩
set_option maxRecDepth 100000 in
set_option maxHeartbeats 12800000 in
theorem fnUnits_small (pp : Option Addr) (nn cc : Nat) (w : World) (hE : EnvM w) (h : CodeCap w pp nn cc) (hn : nn ≤ 65536) :
    Calls Tryz.prog 5 #[.slice pp nn cc] w fun e w' => e = .returned (.bool true) ∧ Below w.heap.size w w' := by
  have HM := Lib.hid hE
  have H := Lib.hid h
  have hnn : ¬ (65536 : Int) < (nn : Int) := by omega
  clear hE h
  go_enter Tryz.func5, Tryz.ntmps5
  go_wp2_with fail
  refine (vBigU_any _ _ _ _).mono ?_
  rintro e w' ⟨rfl, rfl⟩
  go_wp2_with fail
  refine (drawFU_any pp nn cc _ H.out.1).mono ?_
  rintro e w1 ⟨u, v0, v1, v2, v3, rfl, hu, hwt, hb1⟩
  obtain ⟨p1, c1, q1, d1, rfl, rfl, rfl, rfl, -⟩ := hu.form
  obtain ⟨W1, hW1⟩ : ∃ q : World, q = w1.alloc (.cells #[.string u.name, .slice p1 u.incs.length c1, .slice q1 u.axs.length d1, .string u.goal] 34) := ⟨_, rfl⟩
  have B1 : W1.heap[w1.heap.size]? = some (.cells #[.string u.name, .slice p1 u.incs.length c1, .slice q1 u.axs.length d1, .string u.goal] 34 (0, 0)) := by rw [hW1]; exact heap_alloc_new w1 _
  have hbW1 : Below w1.heap.size w1 W1 := by rw [hW1]; exact (Below.refl _ _).alloc (Nat.le_refl _) _
  have hzW1 : W1.heap.size = w1.heap.size + 1 := by rw [hW1]; simp
  have HU := Lib.hid (hu.below hbW1)
  have hb01 := Below.step hb1 hbW1
  clear hu
  go_wp2_with fail
  rw [← hW1]
  clear hW1
  refine (implFU_any u _ _ _ _ W1 HU.out (by omega)).mono ?_
  rintro e w2 ⟨rfl, hb2⟩
  have hfs : (⟨u.fmtG.toArray⟩ : ByteArray).size ≤ 30000 := by
    have : u.fmtG.length ≤ 30000 := by
      rw [Un.fmtG]; split
      · exact txt_len hwt
      · simp
    simpa [ByteArray.size] using this
  have hb02 := Below.step hb01 hb2
  go_wp2_with fail
  refine (implPU_any _ w2 (by omega) (HM.out.below hb02)).mono ?_
  rintro e w3 ⟨v0, v1, v2, v3, rfl, hv, hb3⟩
  have hdl : (⟨u.fmtG.toArray⟩ : ByteArray).data.toList = u.fmtG := by simp
  rw [hdl] at hv ⊢
  obtain ⟨p3, c3, q3, d3, rfl, rfl, rfl, rfl, -⟩ := hv.at_.form
  have hb03 := Below.step hb02 hb3
  have hb13 := Below.step hb2 hb3
  have B3 := (hb13.block _ (blk_lt B1)).trans B1
  have HU3 := Lib.hid (HU.out.below hb13)
  obtain ⟨W3, hW3⟩ : ∃ q : World, q = w3.alloc (.cells #[.string (puV u.fmtG).name, .slice p3 (puV u.fmtG).incs.length c3, .slice q3 (puV u.fmtG).axs.length d3, .string (puV u.fmtG).goal] 34) := ⟨_, rfl⟩
  have D3 : W3.heap[w3.heap.size]? = some (.cells #[.string (puV u.fmtG).name, .slice p3 (puV u.fmtG).incs.length c3, .slice q3 (puV u.fmtG).axs.length d3, .string (puV u.fmtG).goal] 34 (0, 0)) := by rw [hW3]; exact heap_alloc_new w3 _
  have hbW3 : Below w3.heap.size w3 W3 := by rw [hW3]; exact (Below.refl _ _).alloc (Nat.le_refl _) _
  have zb3 := bsz (blk_lt B3)
  obtain ⟨x0, x1, x2, x3, xf⟩ := row4_cells B3
  clear hv
  go_wp2_with fail
  rw [← hW3]
  clear hW3
  refine (specUnit_any u _ _ _ _ W3 (HU3.out.below hbW3) (by omega)).mono ?_
  rintro e w4 ⟨rfl, hb4⟩
  have hb04 := Below.step (Below.step hb03 hbW3) hb4
  have B4 := (hb4.block _ (by have := hbW3.size; omega)).trans ((hbW3.block _ (blk_lt B3)).trans B3)
  have D4 := (hb4.block _ (blk_lt D3)).trans D3
  obtain ⟨y0, y1, y2, y3, yf⟩ := row4_cells B4
  obtain ⟨z0, z1, z2, z3, zf⟩ := row4_cells D4
  have ze4 := bsz (blk_lt B4)
  have zd4 := bsz (blk_lt D4)
  have HB4 := Lib.hid hb04
  clear x0 x1 x2 x3 xf B1 B3 D3 B4 D4 hb1 hbW1 hb01 hb2 hb02 hb3 hb03 hb13 hbW3 hb4 hb04 HU HU3 zb3 hzW1
  cases hg : u.good
  · have HF := Lib.hid hg
    clear hg
    go_wp2_with fail
    clear y0 y1 y2 y3 yf z0 z1 z2 z3 zf ze4 zd4
    refine (drawPU_any pp nn cc w4 ⟨code_in_below H.out.1 HB4.out, H.out.2⟩ hn).mono ?_
    rintro e w5 ⟨t, rfl, ht, hb5⟩
    have hb05 := Below.step HB4.out hb5
    go_wp2_with fail
    refine (implPU_any t w5 (by omega) (HM.out.below hb05)).mono ?_
    rintro e w6 ⟨v0, v1, v2, v3, rfl, hv, hb6⟩
    obtain ⟨p6, c6, q6, d6, rfl, rfl, rfl, rfl, -⟩ := hv.at_.form
    obtain ⟨W6, hW6, hbW6⟩ : ∃ q : World, q = w6.alloc (.cells #[.string (puV t.data.toList).name, .slice p6 (puV t.data.toList).incs.length c6, .slice q6 (puV t.data.toList).axs.length d6, .string (puV t.data.toList).goal] 34) ∧ Below w6.heap.size w6 q := ⟨_, rfl, (Below.refl _ _).alloc (Nat.le_refl _) _⟩
    have HV := Lib.hid (hv.at_.below hbW6)
    have HB6 := Lib.hid (Below.step (Below.step hb05 hb6) hbW6)
    clear hv hb5 hb6 hb05 hbW6
    cases hok : puOk t.data.toList
    · have HOK := Lib.hid hok
      go_wp2_with fail
      rw [← hW6]
      clear hW6 hok
      refine (specPU_any t W6 (by omega)).mono ?_
      rintro e w8 ⟨s0, s1, s2, s3, rfl, hs8, hb8⟩
      obtain ⟨p8, c8, q8, d8, rfl, rfl, rfl, rfl, -⟩ := hs8.form
      rw [HOK.out]
      obtain ⟨W8, hW8, hbW8⟩ : ∃ q : World, q = w8.alloc (.cells #[.string (puV t.data.toList).name, .slice p8 (puV t.data.toList).incs.length c8, .slice q8 (puV t.data.toList).axs.length d8, .string (puV t.data.toList).goal] 34) ∧ Below w8.heap.size w8 q := ⟨_, rfl, (Below.refl _ _).alloc (Nat.le_refl _) _⟩
      have hb08 := Below.step (Below.step HB6.out hb8) hbW8
      clear hs8
      go_wp2_with fail
      rw [← hW8]
      clear hW8 hbW8 hb8
      refine (drawRU_any pp nn cc W8 ⟨code_in_below H.out.1 hb08, H.out.2⟩ hn).mono ?_
      rintro e w9 ⟨v, l, old, nm, rfl, hus, hl5, hlw, hos, hns, hb9⟩
      obtain ⟨p9, c9, rfl, -⟩ := hus.form
      have hwu := wtU_cap 1000 l hlw
      have hw : l.length + wtU l ≤ 1048576 := by omega
      have HU9 := Lib.hid (hus.mono (B' := fun b => b < w9.heap.size) (SameOn.refl _ _) (fun b hb => hb.2))
      have hb09 := Below.step hb08 hb9
      clear hus hwu hb08 hb9
      go_wp2_with fail
      refine (implRU_any l _ old nm w9 HU9.out hw (by omega)).mono ?_
      rintro e wa ⟨va, rfl, hva, hba⟩
      obtain ⟨pa, ca, rfl, -⟩ := OwnRow.form hva
      go_wp2_with fail
      refine (specRU_any l _ old nm wa (HU9.out.below hba) hw (by omega)).mono ?_
      rintro e wb ⟨vb, rfl, hvb, hbb⟩
      obtain ⟨pb, cb, rfl, -⟩ := OwnRow.form hvb
      have hb0b := Below.step (Below.step hb09 hba) hbb
      clear hvb
      cases hren : renOk l old nm
      · have e0 : renV l old nm = [] := by simp [renV, hren]
        rw [e0]
        clear hren hva
        go_wp2
        go_ret
        exact ⟨rfl, hb0b⟩
      · obtain ⟨hg', hok', hback⟩ := renOk_back hren
        obtain ⟨hgl, -, hne, -⟩ := renOk_parts hren
        have e1 : renV l old nm = renL old nm l := by rw [renV, if_pos hren]
        have hlw' := renL_wt (old := old) hgl hne hlw hns
        have hlen := renL_len (old := old) (name := nm) l
        have hw' : (renL old nm l).length + wtU (renL old nm l) ≤ 1048576 := by have := wtU_cap 20000 _ hlw'; rw [hlen] at this ⊢; omega
        rw [e1] at hva
        rw [e1]
        have HVA := Lib.hid (hva.at_.below hbb)
        have HGD := Lib.hid hg'
        have HBK := Lib.hid hback
        have HOB := Lib.hid hok'
        have HLW := Lib.hid hlw'
        have HLN := Lib.hid hlen
        clear hren hg' hok' hback hgl hne e1 hlw' hva hlen hlw
        go_wp2_with fail
        refine (implRU_any (renL old nm l) _ nm old wb HVA.out hw' (by omega)).mono ?_
        rintro e wc ⟨vc, rfl, hvc, hbc⟩
        rw [HOB.out]
        rw [HBK.out] at hvc
        obtain ⟨pc, kc, rfl, -⟩ := OwnRow.form hvc
        have HVC := Lib.hid hvc.at_
        have HUC := Lib.hid (HU9.out.below (Below.step hba (Below.step hbb hbc)))
        have HVB := Lib.hid (HVA.out.below hbc)
        have HB0 := Lib.hid (Below.step hb0b hbc)
        clear hvc hba hbb hbc hb0b hb09
        go_wp2
        go_loopw [24] (fun i wr => ∃ k : Nat, k ≤ l.length ∧ i = .int .i64 k ∧ Below wc.heap.size wc wr) (fun i _ => l.length - (intOf i).toNat)
        case atStart => exact ⟨0, Nat.zero_le _, rfl, by exact bel⟩
        case round =>
          obtain ⟨k, hk, rfl, hb⟩ := hrel
          by_cases hlt : k < l.length
          · obtain ⟨b, o, rfl, hB, p1, c1, p2, c2, hx0, hx1, hx2, hx3, hx⟩ := (HVC.out.below hb).at_ hlt
            obtain ⟨b', o', rfl, hB', p1', c1', p2', c2', hy0, hy1, hy2, hy3, hy⟩ := (HUC.out.below hb).at_ hlt
            obtain ⟨a, ha⟩ : ∃ a, l[k] = a := ⟨_, rfl⟩
            rw [ha] at hx0 hx1 hx3 hy0 hy1 hy3
            have zx := bsz (World.block_lt_of_cell? _ _ hx0)
            have zy := bsz (World.block_lt_of_cell? _ _ hy0)
            have hki : (k : Int) < l.length := by omega
            have HBB := Lib.hid hb
            clear ha hx hy hx2 hy2 hb
            go_wp2
            obtain ⟨C, HC0⟩ := class_of (InF wr.heap.size _ [(⟨b, o + k * 4, none⟩, .string a.name), (⟨b, o + k * 4 + 1, none⟩, .slice p1 a.incs.length c1), (⟨b, o + k * 4 + 3, none⟩, .string a.goal), (⟨b', o' + k * 4, none⟩, .string a.name), (⟨b', o' + k * 4 + 1, none⟩, .slice p1' a.incs.length c1'), (⟨b', o' + k * 4 + 3, none⟩, .string a.goal)] [] [])
            have HC := Lib.hid HC0
            clear HC0
            refine wp_region_flow (C := C) (by kernel_rfl) (by kernel_rfl) (fun L hL => (HC.out _ _).2 (InF.start (by first | (intro _ hs; cases hs; done) | (simp only [List.forall_mem_cons]; go_simp)) (by first | (intro _ hs; cases hs; done) | (simp only [List.forall_mem_cons]; go_simp)) (by first | (intro _ hs; cases hs; done) | (simp only [List.forall_mem_cons]; go_simp)) (by first | (intro _ hs; cases hs; done) | (simp only [List.forall_mem_cons]; go_simp)) L hL)) ?_
            repeat (first | ((first | apply flow_free rfl | (apply flow_yes; (case hw => go_simp))); (intro L w' hun hrd hC; have hC := (HC.out _ _).1 hC; have hb' := hC.below; have hf' := hC.cell; (try simp only [List.forall_mem_cons] at hf'); go_simp; first | exact ⟨(HC.out _ _).2 (hC.skip _ (by rfl)), rfl⟩ | (rw [if_neg]; (exact ⟨(HC.out _ _).2 (hC.skip _ (by rfl)), rfl⟩); omega) | fail); go_simp) | (apply flow_no; (case hw => (go_simp; try (intro hh; cases hh))); (intro L w' _ _ hC; exact (HC.out _ _).2 (((HC.out _ _).1 hC).skip _ (by rfl))); go_simp))
            refine flow_nil ?_
            intro L wz hL hz
            have hz := (HC.out _ _).1 hz
            have hbz := hz.below
            have hcz := hz.cell
            try simp only [List.forall_mem_cons] at hcz
            have hdz := hz.done
            try simp only [List.forall_mem_cons] at hdz
            (try have hwz : Below w.heap.size w wz := by first | exact Below.trans (by (repeat (first | with_reducible (first | exact bR _ _ | assumption | refine bA ?_ _ | refine bS ?_ (by first | exact Nat.le_refl _ | (simp; done) | (simp; omega)) _) | assumption | exact bR _ _ | refine bD ?_ | refine bN ?_ _ | refine bT ?_ (by assumption)))) hbz | ((repeat (first | with_reducible (first | exact bR _ _ | assumption | refine bA ?_ _ | refine bS ?_ (by first | exact Nat.le_refl _ | (simp; done) | (simp; omega)) _) | assumption | exact bR _ _ | refine bD ?_ | refine bN ?_ _ | refine bT ?_ (by assumption))); done))
            go_wp2
            exact ⟨⟨k + 1, by omega, by go_num, Below.step HBB.out hbz⟩, by simp [intOf]; omega⟩
          · obtain rfl : k = l.length := by omega
            have hki : ¬ (l.length : Int) < l.length := by omega
            go_wp2_with fail
            refine (implLib_any (renL old nm l) _ _ (HVB.out.below hb) hw').mono ?_
            rintro e wd ⟨rfl, hbd⟩
            rw [HGD.out]
            have hbe := Below.step (Below.step HB0.out hb) hbd
            go_wp2
            go_ret
            exact ⟨rfl, hbe⟩
    · obtain ⟨k1, k2⟩ := puOk_txt hok
      have HOK := Lib.hid hok
      have hpw : (puV t.data.toList).wt ≤ 2000000 := by
        have h := parI_wt t.data.toList (splitF t.data.toList 10).length
        rw [List.take_length] at h
        rw [puV, if_pos hok]
        have h : (parI t.data.toList).wt ≤ t.data.toList.length + 1 := h
        rw [← size_list] at h; omega
      have e7 : (⟨(puV t.data.toList).fmtG.toArray⟩ : ByteArray) = t := by rw [Un.fmtG, if_pos k1, k2]
      go_wp2_with fail
      rw [← hW6]
      clear hW6 hok
      refine (implFU_any (puV t.data.toList) _ _ _ _ W6 HV.out (by omega)).mono ?_
      rintro e w7 ⟨rfl, hb7⟩
      rw [e7, k1]
      have HB7 := Lib.hid (Below.step HB6.out hb7)
      clear e7 k1 k2 hb7 hpw
      go_wp2_with fail
      refine (specPU_any t w7 (by omega)).mono ?_
      rintro e w8 ⟨s0, s1, s2, s3, rfl, hs8, hb8⟩
      obtain ⟨p8, c8, q8, d8, rfl, rfl, rfl, rfl, -⟩ := hs8.form
      rw [HOK.out]
      obtain ⟨W8, hW8, hbW8⟩ : ∃ q : World, q = w8.alloc (.cells #[.string (puV t.data.toList).name, .slice p8 (puV t.data.toList).incs.length c8, .slice q8 (puV t.data.toList).axs.length d8, .string (puV t.data.toList).goal] 34) ∧ Below w8.heap.size w8 q := ⟨_, rfl, (Below.refl _ _).alloc (Nat.le_refl _) _⟩
      have hb08 := Below.step (Below.step HB7.out hb8) hbW8
      clear hs8
      go_wp2_with fail
      rw [← hW8]
      clear hW8 hbW8 hb8
      refine (drawRU_any pp nn cc W8 ⟨code_in_below H.out.1 hb08, H.out.2⟩ hn).mono ?_
      rintro e w9 ⟨v, l, old, nm, rfl, hus, hl5, hlw, hos, hns, hb9⟩
      obtain ⟨p9, c9, rfl, -⟩ := hus.form
      have hwu := wtU_cap 1000 l hlw
      have hw : l.length + wtU l ≤ 1048576 := by omega
      have HU9 := Lib.hid (hus.mono (B' := fun b => b < w9.heap.size) (SameOn.refl _ _) (fun b hb => hb.2))
      have hb09 := Below.step hb08 hb9
      clear hus hwu hb08 hb9
      go_wp2_with fail
      refine (implRU_any l _ old nm w9 HU9.out hw (by omega)).mono ?_
      rintro e wa ⟨va, rfl, hva, hba⟩
      obtain ⟨pa, ca, rfl, -⟩ := OwnRow.form hva
      go_wp2_with fail
      refine (specRU_any l _ old nm wa (HU9.out.below hba) hw (by omega)).mono ?_
      rintro e wb ⟨vb, rfl, hvb, hbb⟩
      obtain ⟨pb, cb, rfl, -⟩ := OwnRow.form hvb
      have hb0b := Below.step (Below.step hb09 hba) hbb
      clear hvb
      cases hren : renOk l old nm
      · have e0 : renV l old nm = [] := by simp [renV, hren]
        rw [e0]
        clear hren hva
        go_wp2
        go_ret
        exact ⟨rfl, hb0b⟩
      · obtain ⟨hg', hok', hback⟩ := renOk_back hren
        obtain ⟨hgl, -, hne, -⟩ := renOk_parts hren
        have e1 : renV l old nm = renL old nm l := by rw [renV, if_pos hren]
        have hlw' := renL_wt (old := old) hgl hne hlw hns
        have hlen := renL_len (old := old) (name := nm) l
        have hw' : (renL old nm l).length + wtU (renL old nm l) ≤ 1048576 := by have := wtU_cap 20000 _ hlw'; rw [hlen] at this ⊢; omega
        rw [e1] at hva
        rw [e1]
        have HVA := Lib.hid (hva.at_.below hbb)
        have HGD := Lib.hid hg'
        have HBK := Lib.hid hback
        have HOB := Lib.hid hok'
        have HLW := Lib.hid hlw'
        have HLN := Lib.hid hlen
        clear hren hg' hok' hback hgl hne e1 hlw' hva hlen hlw
        go_wp2_with fail
        refine (implRU_any (renL old nm l) _ nm old wb HVA.out hw' (by omega)).mono ?_
        rintro e wc ⟨vc, rfl, hvc, hbc⟩
        rw [HOB.out]
        rw [HBK.out] at hvc
        obtain ⟨pc, kc, rfl, -⟩ := OwnRow.form hvc
        have HVC := Lib.hid hvc.at_
        have HUC := Lib.hid (HU9.out.below (Below.step hba (Below.step hbb hbc)))
        have HVB := Lib.hid (HVA.out.below hbc)
        have HB0 := Lib.hid (Below.step hb0b hbc)
        clear hvc hba hbb hbc hb0b hb09
        go_wp2
        go_loopw [24] (fun i wr => ∃ k : Nat, k ≤ l.length ∧ i = .int .i64 k ∧ Below wc.heap.size wc wr) (fun i _ => l.length - (intOf i).toNat)
        case atStart => exact ⟨0, Nat.zero_le _, rfl, by exact bel⟩
        case round =>
          obtain ⟨k, hk, rfl, hb⟩ := hrel
          by_cases hlt : k < l.length
          · obtain ⟨b, o, rfl, hB, p1, c1, p2, c2, hx0, hx1, hx2, hx3, hx⟩ := (HVC.out.below hb).at_ hlt
            obtain ⟨b', o', rfl, hB', p1', c1', p2', c2', hy0, hy1, hy2, hy3, hy⟩ := (HUC.out.below hb).at_ hlt
            obtain ⟨a, ha⟩ : ∃ a, l[k] = a := ⟨_, rfl⟩
            rw [ha] at hx0 hx1 hx3 hy0 hy1 hy3
            have zx := bsz (World.block_lt_of_cell? _ _ hx0)
            have zy := bsz (World.block_lt_of_cell? _ _ hy0)
            have hki : (k : Int) < l.length := by omega
            have HBB := Lib.hid hb
            clear ha hx hy hx2 hy2 hb
            go_wp2
            obtain ⟨C, HC0⟩ := class_of (InF wr.heap.size _ [(⟨b, o + k * 4, none⟩, .string a.name), (⟨b, o + k * 4 + 1, none⟩, .slice p1 a.incs.length c1), (⟨b, o + k * 4 + 3, none⟩, .string a.goal), (⟨b', o' + k * 4, none⟩, .string a.name), (⟨b', o' + k * 4 + 1, none⟩, .slice p1' a.incs.length c1'), (⟨b', o' + k * 4 + 3, none⟩, .string a.goal)] [] [])
            have HC := Lib.hid HC0
            clear HC0
            refine wp_region_flow (C := C) (by kernel_rfl) (by kernel_rfl) (fun L hL => (HC.out _ _).2 (InF.start (by first | (intro _ hs; cases hs; done) | (simp only [List.forall_mem_cons]; go_simp)) (by first | (intro _ hs; cases hs; done) | (simp only [List.forall_mem_cons]; go_simp)) (by first | (intro _ hs; cases hs; done) | (simp only [List.forall_mem_cons]; go_simp)) (by first | (intro _ hs; cases hs; done) | (simp only [List.forall_mem_cons]; go_simp)) L hL)) ?_
            repeat (first | ((first | apply flow_free rfl | (apply flow_yes; (case hw => go_simp))); (intro L w' hun hrd hC; have hC := (HC.out _ _).1 hC; have hb' := hC.below; have hf' := hC.cell; (try simp only [List.forall_mem_cons] at hf'); go_simp; first | exact ⟨(HC.out _ _).2 (hC.skip _ (by rfl)), rfl⟩ | (rw [if_neg]; (exact ⟨(HC.out _ _).2 (hC.skip _ (by rfl)), rfl⟩); omega) | fail); go_simp) | (apply flow_no; (case hw => (go_simp; try (intro hh; cases hh))); (intro L w' _ _ hC; exact (HC.out _ _).2 (((HC.out _ _).1 hC).skip _ (by rfl))); go_simp))
            refine flow_nil ?_
            intro L wz hL hz
            have hz := (HC.out _ _).1 hz
            have hbz := hz.below
            have hcz := hz.cell
            try simp only [List.forall_mem_cons] at hcz
            have hdz := hz.done
            try simp only [List.forall_mem_cons] at hdz
            (try have hwz : Below w.heap.size w wz := by first | exact Below.trans (by (repeat (first | with_reducible (first | exact bR _ _ | assumption | refine bA ?_ _ | refine bS ?_ (by first | exact Nat.le_refl _ | (simp; done) | (simp; omega)) _) | assumption | exact bR _ _ | refine bD ?_ | refine bN ?_ _ | refine bT ?_ (by assumption)))) hbz | ((repeat (first | with_reducible (first | exact bR _ _ | assumption | refine bA ?_ _ | refine bS ?_ (by first | exact Nat.le_refl _ | (simp; done) | (simp; omega)) _) | assumption | exact bR _ _ | refine bD ?_ | refine bN ?_ _ | refine bT ?_ (by assumption))); done))
            go_wp2
            exact ⟨⟨k + 1, by omega, by go_num, Below.step HBB.out hbz⟩, by simp [intOf]; omega⟩
          · obtain rfl : k = l.length := by omega
            have hki : ¬ (l.length : Int) < l.length := by omega
            go_wp2_with fail
            refine (implLib_any (renL old nm l) _ _ (HVB.out.below hb) hw').mono ?_
            rintro e wd ⟨rfl, hbd⟩
            rw [HGD.out]
            have hbe := Below.step (Below.step HB0.out hb) hbd
            go_wp2
            go_ret
            exact ⟨rfl, hbe⟩
  · obtain ⟨k1, k2⟩ := txt_back hg
    have e : u.fmtG = u.txt := by rw [Un.fmtG, if_pos hg]
    rw [e, k2] at z0 z1 z2 z3
    rw [e, k1, k2]
    clear hg k1 k2 hdl hfs e
    go_wp2_with fail
    clear y0 y1 y2 y3 yf z0 z1 z2 z3 zf ze4 zd4
    refine (drawPU_any pp nn cc w4 ⟨code_in_below H.out.1 HB4.out, H.out.2⟩ hn).mono ?_
    rintro e w5 ⟨t, rfl, ht, hb5⟩
    have hb05 := Below.step HB4.out hb5
    go_wp2_with fail
    refine (implPU_any t w5 (by omega) (HM.out.below hb05)).mono ?_
    rintro e w6 ⟨v0, v1, v2, v3, rfl, hv, hb6⟩
    obtain ⟨p6, c6, q6, d6, rfl, rfl, rfl, rfl, -⟩ := hv.at_.form
    obtain ⟨W6, hW6, hbW6⟩ : ∃ q : World, q = w6.alloc (.cells #[.string (puV t.data.toList).name, .slice p6 (puV t.data.toList).incs.length c6, .slice q6 (puV t.data.toList).axs.length d6, .string (puV t.data.toList).goal] 34) ∧ Below w6.heap.size w6 q := ⟨_, rfl, (Below.refl _ _).alloc (Nat.le_refl _) _⟩
    have HV := Lib.hid (hv.at_.below hbW6)
    have HB6 := Lib.hid (Below.step (Below.step hb05 hb6) hbW6)
    clear hv hb5 hb6 hb05 hbW6
    cases hok : puOk t.data.toList
    · have HOK := Lib.hid hok
      go_wp2_with fail
      rw [← hW6]
      clear hW6 hok
      refine (specPU_any t W6 (by omega)).mono ?_
      rintro e w8 ⟨s0, s1, s2, s3, rfl, hs8, hb8⟩
      obtain ⟨p8, c8, q8, d8, rfl, rfl, rfl, rfl, -⟩ := hs8.form
      rw [HOK.out]
      obtain ⟨W8, hW8, hbW8⟩ : ∃ q : World, q = w8.alloc (.cells #[.string (puV t.data.toList).name, .slice p8 (puV t.data.toList).incs.length c8, .slice q8 (puV t.data.toList).axs.length d8, .string (puV t.data.toList).goal] 34) ∧ Below w8.heap.size w8 q := ⟨_, rfl, (Below.refl _ _).alloc (Nat.le_refl _) _⟩
      have hb08 := Below.step (Below.step HB6.out hb8) hbW8
      clear hs8
      go_wp2_with fail
      rw [← hW8]
      clear hW8 hbW8 hb8
      refine (drawRU_any pp nn cc W8 ⟨code_in_below H.out.1 hb08, H.out.2⟩ hn).mono ?_
      rintro e w9 ⟨v, l, old, nm, rfl, hus, hl5, hlw, hos, hns, hb9⟩
      obtain ⟨p9, c9, rfl, -⟩ := hus.form
      have hwu := wtU_cap 1000 l hlw
      have hw : l.length + wtU l ≤ 1048576 := by omega
      have HU9 := Lib.hid (hus.mono (B' := fun b => b < w9.heap.size) (SameOn.refl _ _) (fun b hb => hb.2))
      have hb09 := Below.step hb08 hb9
      clear hus hwu hb08 hb9
      go_wp2_with fail
      refine (implRU_any l _ old nm w9 HU9.out hw (by omega)).mono ?_
      rintro e wa ⟨va, rfl, hva, hba⟩
      obtain ⟨pa, ca, rfl, -⟩ := OwnRow.form hva
      go_wp2_with fail
      refine (specRU_any l _ old nm wa (HU9.out.below hba) hw (by omega)).mono ?_
      rintro e wb ⟨vb, rfl, hvb, hbb⟩
      obtain ⟨pb, cb, rfl, -⟩ := OwnRow.form hvb
      have hb0b := Below.step (Below.step hb09 hba) hbb
      clear hvb
      cases hren : renOk l old nm
      · have e0 : renV l old nm = [] := by simp [renV, hren]
        rw [e0]
        clear hren hva
        go_wp2
        go_ret
        exact ⟨rfl, hb0b⟩
      · obtain ⟨hg', hok', hback⟩ := renOk_back hren
        obtain ⟨hgl, -, hne, -⟩ := renOk_parts hren
        have e1 : renV l old nm = renL old nm l := by rw [renV, if_pos hren]
        have hlw' := renL_wt (old := old) hgl hne hlw hns
        have hlen := renL_len (old := old) (name := nm) l
        have hw' : (renL old nm l).length + wtU (renL old nm l) ≤ 1048576 := by have := wtU_cap 20000 _ hlw'; rw [hlen] at this ⊢; omega
        rw [e1] at hva
        rw [e1]
        have HVA := Lib.hid (hva.at_.below hbb)
        have HGD := Lib.hid hg'
        have HBK := Lib.hid hback
        have HOB := Lib.hid hok'
        have HLW := Lib.hid hlw'
        have HLN := Lib.hid hlen
        clear hren hg' hok' hback hgl hne e1 hlw' hva hlen hlw
        go_wp2_with fail
        refine (implRU_any (renL old nm l) _ nm old wb HVA.out hw' (by omega)).mono ?_
        rintro e wc ⟨vc, rfl, hvc, hbc⟩
        rw [HOB.out]
        rw [HBK.out] at hvc
        obtain ⟨pc, kc, rfl, -⟩ := OwnRow.form hvc
        have HVC := Lib.hid hvc.at_
        have HUC := Lib.hid (HU9.out.below (Below.step hba (Below.step hbb hbc)))
        have HVB := Lib.hid (HVA.out.below hbc)
        have HB0 := Lib.hid (Below.step hb0b hbc)
        clear hvc hba hbb hbc hb0b hb09
        go_wp2
        go_loopw [24] (fun i wr => ∃ k : Nat, k ≤ l.length ∧ i = .int .i64 k ∧ Below wc.heap.size wc wr) (fun i _ => l.length - (intOf i).toNat)
        case atStart => exact ⟨0, Nat.zero_le _, rfl, by exact bel⟩
        case round =>
          obtain ⟨k, hk, rfl, hb⟩ := hrel
          by_cases hlt : k < l.length
          · obtain ⟨b, o, rfl, hB, p1, c1, p2, c2, hx0, hx1, hx2, hx3, hx⟩ := (HVC.out.below hb).at_ hlt
            obtain ⟨b', o', rfl, hB', p1', c1', p2', c2', hy0, hy1, hy2, hy3, hy⟩ := (HUC.out.below hb).at_ hlt
            obtain ⟨a, ha⟩ : ∃ a, l[k] = a := ⟨_, rfl⟩
            rw [ha] at hx0 hx1 hx3 hy0 hy1 hy3
            have zx := bsz (World.block_lt_of_cell? _ _ hx0)
            have zy := bsz (World.block_lt_of_cell? _ _ hy0)
            have hki : (k : Int) < l.length := by omega
            have HBB := Lib.hid hb
            clear ha hx hy hx2 hy2 hb
            go_wp2
            obtain ⟨C, HC0⟩ := class_of (InF wr.heap.size _ [(⟨b, o + k * 4, none⟩, .string a.name), (⟨b, o + k * 4 + 1, none⟩, .slice p1 a.incs.length c1), (⟨b, o + k * 4 + 3, none⟩, .string a.goal), (⟨b', o' + k * 4, none⟩, .string a.name), (⟨b', o' + k * 4 + 1, none⟩, .slice p1' a.incs.length c1'), (⟨b', o' + k * 4 + 3, none⟩, .string a.goal)] [] [])
            have HC := Lib.hid HC0
            clear HC0
            refine wp_region_flow (C := C) (by kernel_rfl) (by kernel_rfl) (fun L hL => (HC.out _ _).2 (InF.start (by first | (intro _ hs; cases hs; done) | (simp only [List.forall_mem_cons]; go_simp)) (by first | (intro _ hs; cases hs; done) | (simp only [List.forall_mem_cons]; go_simp)) (by first | (intro _ hs; cases hs; done) | (simp only [List.forall_mem_cons]; go_simp)) (by first | (intro _ hs; cases hs; done) | (simp only [List.forall_mem_cons]; go_simp)) L hL)) ?_
            repeat (first | ((first | apply flow_free rfl | (apply flow_yes; (case hw => go_simp))); (intro L w' hun hrd hC; have hC := (HC.out _ _).1 hC; have hb' := hC.below; have hf' := hC.cell; (try simp only [List.forall_mem_cons] at hf'); go_simp; first | exact ⟨(HC.out _ _).2 (hC.skip _ (by rfl)), rfl⟩ | (rw [if_neg]; (exact ⟨(HC.out _ _).2 (hC.skip _ (by rfl)), rfl⟩); omega) | fail); go_simp) | (apply flow_no; (case hw => (go_simp; try (intro hh; cases hh))); (intro L w' _ _ hC; exact (HC.out _ _).2 (((HC.out _ _).1 hC).skip _ (by rfl))); go_simp))
            refine flow_nil ?_
            intro L wz hL hz
            have hz := (HC.out _ _).1 hz
            have hbz := hz.below
            have hcz := hz.cell
            try simp only [List.forall_mem_cons] at hcz
            have hdz := hz.done
            try simp only [List.forall_mem_cons] at hdz
            (try have hwz : Below w.heap.size w wz := by first | exact Below.trans (by (repeat (first | with_reducible (first | exact bR _ _ | assumption | refine bA ?_ _ | refine bS ?_ (by first | exact Nat.le_refl _ | (simp; done) | (simp; omega)) _) | assumption | exact bR _ _ | refine bD ?_ | refine bN ?_ _ | refine bT ?_ (by assumption)))) hbz | ((repeat (first | with_reducible (first | exact bR _ _ | assumption | refine bA ?_ _ | refine bS ?_ (by first | exact Nat.le_refl _ | (simp; done) | (simp; omega)) _) | assumption | exact bR _ _ | refine bD ?_ | refine bN ?_ _ | refine bT ?_ (by assumption))); done))
            go_wp2
            exact ⟨⟨k + 1, by omega, by go_num, Below.step HBB.out hbz⟩, by simp [intOf]; omega⟩
          · obtain rfl : k = l.length := by omega
            have hki : ¬ (l.length : Int) < l.length := by omega
            go_wp2_with fail
            refine (implLib_any (renL old nm l) _ _ (HVB.out.below hb) hw').mono ?_
            rintro e wd ⟨rfl, hbd⟩
            rw [HGD.out]
            have hbe := Below.step (Below.step HB0.out hb) hbd
            go_wp2
            go_ret
            exact ⟨rfl, hbe⟩
    · obtain ⟨k1, k2⟩ := puOk_txt hok
      have HOK := Lib.hid hok
      have hpw : (puV t.data.toList).wt ≤ 2000000 := by
        have h := parI_wt t.data.toList (splitF t.data.toList 10).length
        rw [List.take_length] at h
        rw [puV, if_pos hok]
        have h : (parI t.data.toList).wt ≤ t.data.toList.length + 1 := h
        rw [← size_list] at h; omega
      have e7 : (⟨(puV t.data.toList).fmtG.toArray⟩ : ByteArray) = t := by rw [Un.fmtG, if_pos k1, k2]
      go_wp2_with fail
      rw [← hW6]
      clear hW6 hok
      refine (implFU_any (puV t.data.toList) _ _ _ _ W6 HV.out (by omega)).mono ?_
      rintro e w7 ⟨rfl, hb7⟩
      rw [e7, k1]
      have HB7 := Lib.hid (Below.step HB6.out hb7)
      clear e7 k1 k2 hb7 hpw
      go_wp2_with fail
      refine (specPU_any t w7 (by omega)).mono ?_
      rintro e w8 ⟨s0, s1, s2, s3, rfl, hs8, hb8⟩
      obtain ⟨p8, c8, q8, d8, rfl, rfl, rfl, rfl, -⟩ := hs8.form
      rw [HOK.out]
      obtain ⟨W8, hW8, hbW8⟩ : ∃ q : World, q = w8.alloc (.cells #[.string (puV t.data.toList).name, .slice p8 (puV t.data.toList).incs.length c8, .slice q8 (puV t.data.toList).axs.length d8, .string (puV t.data.toList).goal] 34) ∧ Below w8.heap.size w8 q := ⟨_, rfl, (Below.refl _ _).alloc (Nat.le_refl _) _⟩
      have hb08 := Below.step (Below.step HB7.out hb8) hbW8
      clear hs8
      go_wp2_with fail
      rw [← hW8]
      clear hW8 hbW8 hb8
      refine (drawRU_any pp nn cc W8 ⟨code_in_below H.out.1 hb08, H.out.2⟩ hn).mono ?_
      rintro e w9 ⟨v, l, old, nm, rfl, hus, hl5, hlw, hos, hns, hb9⟩
      obtain ⟨p9, c9, rfl, -⟩ := hus.form
      have hwu := wtU_cap 1000 l hlw
      have hw : l.length + wtU l ≤ 1048576 := by omega
      have HU9 := Lib.hid (hus.mono (B' := fun b => b < w9.heap.size) (SameOn.refl _ _) (fun b hb => hb.2))
      have hb09 := Below.step hb08 hb9
      clear hus hwu hb08 hb9
      go_wp2_with fail
      refine (implRU_any l _ old nm w9 HU9.out hw (by omega)).mono ?_
      rintro e wa ⟨va, rfl, hva, hba⟩
      obtain ⟨pa, ca, rfl, -⟩ := OwnRow.form hva
      go_wp2_with fail
      refine (specRU_any l _ old nm wa (HU9.out.below hba) hw (by omega)).mono ?_
      rintro e wb ⟨vb, rfl, hvb, hbb⟩
      obtain ⟨pb, cb, rfl, -⟩ := OwnRow.form hvb
      have hb0b := Below.step (Below.step hb09 hba) hbb
      clear hvb
      cases hren : renOk l old nm
      · have e0 : renV l old nm = [] := by simp [renV, hren]
        rw [e0]
        clear hren hva
        go_wp2
        go_ret
        exact ⟨rfl, hb0b⟩
      · obtain ⟨hg', hok', hback⟩ := renOk_back hren
        obtain ⟨hgl, -, hne, -⟩ := renOk_parts hren
        have e1 : renV l old nm = renL old nm l := by rw [renV, if_pos hren]
        have hlw' := renL_wt (old := old) hgl hne hlw hns
        have hlen := renL_len (old := old) (name := nm) l
        have hw' : (renL old nm l).length + wtU (renL old nm l) ≤ 1048576 := by have := wtU_cap 20000 _ hlw'; rw [hlen] at this ⊢; omega
        rw [e1] at hva
        rw [e1]
        have HVA := Lib.hid (hva.at_.below hbb)
        have HGD := Lib.hid hg'
        have HBK := Lib.hid hback
        have HOB := Lib.hid hok'
        have HLW := Lib.hid hlw'
        have HLN := Lib.hid hlen
        clear hren hg' hok' hback hgl hne e1 hlw' hva hlen hlw
        go_wp2_with fail
        refine (implRU_any (renL old nm l) _ nm old wb HVA.out hw' (by omega)).mono ?_
        rintro e wc ⟨vc, rfl, hvc, hbc⟩
        rw [HOB.out]
        rw [HBK.out] at hvc
        obtain ⟨pc, kc, rfl, -⟩ := OwnRow.form hvc
        have HVC := Lib.hid hvc.at_
        have HUC := Lib.hid (HU9.out.below (Below.step hba (Below.step hbb hbc)))
        have HVB := Lib.hid (HVA.out.below hbc)
        have HB0 := Lib.hid (Below.step hb0b hbc)
        clear hvc hba hbb hbc hb0b hb09
        go_wp2
        go_loopw [24] (fun i wr => ∃ k : Nat, k ≤ l.length ∧ i = .int .i64 k ∧ Below wc.heap.size wc wr) (fun i _ => l.length - (intOf i).toNat)
        case atStart => exact ⟨0, Nat.zero_le _, rfl, by exact bel⟩
        case round =>
          obtain ⟨k, hk, rfl, hb⟩ := hrel
          by_cases hlt : k < l.length
          · obtain ⟨b, o, rfl, hB, p1, c1, p2, c2, hx0, hx1, hx2, hx3, hx⟩ := (HVC.out.below hb).at_ hlt
            obtain ⟨b', o', rfl, hB', p1', c1', p2', c2', hy0, hy1, hy2, hy3, hy⟩ := (HUC.out.below hb).at_ hlt
            obtain ⟨a, ha⟩ : ∃ a, l[k] = a := ⟨_, rfl⟩
            rw [ha] at hx0 hx1 hx3 hy0 hy1 hy3
            have zx := bsz (World.block_lt_of_cell? _ _ hx0)
            have zy := bsz (World.block_lt_of_cell? _ _ hy0)
            have hki : (k : Int) < l.length := by omega
            have HBB := Lib.hid hb
            clear ha hx hy hx2 hy2 hb
            go_wp2
            obtain ⟨C, HC0⟩ := class_of (InF wr.heap.size _ [(⟨b, o + k * 4, none⟩, .string a.name), (⟨b, o + k * 4 + 1, none⟩, .slice p1 a.incs.length c1), (⟨b, o + k * 4 + 3, none⟩, .string a.goal), (⟨b', o' + k * 4, none⟩, .string a.name), (⟨b', o' + k * 4 + 1, none⟩, .slice p1' a.incs.length c1'), (⟨b', o' + k * 4 + 3, none⟩, .string a.goal)] [] [])
            have HC := Lib.hid HC0
            clear HC0
            refine wp_region_flow (C := C) (by kernel_rfl) (by kernel_rfl) (fun L hL => (HC.out _ _).2 (InF.start (by first | (intro _ hs; cases hs; done) | (simp only [List.forall_mem_cons]; go_simp)) (by first | (intro _ hs; cases hs; done) | (simp only [List.forall_mem_cons]; go_simp)) (by first | (intro _ hs; cases hs; done) | (simp only [List.forall_mem_cons]; go_simp)) (by first | (intro _ hs; cases hs; done) | (simp only [List.forall_mem_cons]; go_simp)) L hL)) ?_
            repeat (first | ((first | apply flow_free rfl | (apply flow_yes; (case hw => go_simp))); (intro L w' hun hrd hC; have hC := (HC.out _ _).1 hC; have hb' := hC.below; have hf' := hC.cell; (try simp only [List.forall_mem_cons] at hf'); go_simp; first | exact ⟨(HC.out _ _).2 (hC.skip _ (by rfl)), rfl⟩ | (rw [if_neg]; (exact ⟨(HC.out _ _).2 (hC.skip _ (by rfl)), rfl⟩); omega) | fail); go_simp) | (apply flow_no; (case hw => (go_simp; try (intro hh; cases hh))); (intro L w' _ _ hC; exact (HC.out _ _).2 (((HC.out _ _).1 hC).skip _ (by rfl))); go_simp))
            refine flow_nil ?_
            intro L wz hL hz
            have hz := (HC.out _ _).1 hz
            have hbz := hz.below
            have hcz := hz.cell
            try simp only [List.forall_mem_cons] at hcz
            have hdz := hz.done
            try simp only [List.forall_mem_cons] at hdz
            (try have hwz : Below w.heap.size w wz := by first | exact Below.trans (by (repeat (first | with_reducible (first | exact bR _ _ | assumption | refine bA ?_ _ | refine bS ?_ (by first | exact Nat.le_refl _ | (simp; done) | (simp; omega)) _) | assumption | exact bR _ _ | refine bD ?_ | refine bN ?_ _ | refine bT ?_ (by assumption)))) hbz | ((repeat (first | with_reducible (first | exact bR _ _ | assumption | refine bA ?_ _ | refine bS ?_ (by first | exact Nat.le_refl _ | (simp; done) | (simp; omega)) _) | assumption | exact bR _ _ | refine bD ?_ | refine bN ?_ _ | refine bT ?_ (by assumption))); done))
            go_wp2
            exact ⟨⟨k + 1, by omega, by go_num, Below.step HBB.out hbz⟩, by simp [intOf]; omega⟩
          · obtain rfl : k = l.length := by omega
            have hki : ¬ (l.length : Int) < l.length := by omega
            go_wp2_with fail
            refine (implLib_any (renL old nm l) _ _ (HVB.out.below hb) hw').mono ?_
            rintro e wd ⟨rfl, hbd⟩
            rw [HGD.out]
            have hbe := Below.step (Below.step HB0.out hb) hbd
            go_wp2
            go_ret
            exact ⟨rfl, hbe⟩
set_option maxRecDepth 100000 in
theorem fnUnits (pp : Option Addr) (nn cc : Nat) (w : World) (hE : EnvM w) (h : nn ≤ 1000000 → CodeIn w (.slice pp nn cc)) (hc : nn ≤ cc) :
    Calls Tryz.prog 5 #[.slice pp nn cc] w fun e w' => e = .returned (.bool true) ∧ Below w.heap.size w w' := by
  by_cases hn : nn ≤ 65536
  · exact fnUnits_small pp nn cc w hE ⟨h (by omega), hc⟩ hn
  · have hnn : (65536 : Int) < (nn : Int) := by omega
    clear hE h
    go_enter Tryz.func5, Tryz.ntmps5
    go_wp2_with fail
    refine (vBigU_any _ _ _ _).mono ?_
    rintro e w' ⟨rfl, rfl⟩
    go_wp2
    go_ret
    exact ⟨rfl, Below.refl _ _⟩
open Go.RowKit Go.ChangeShapes Go.WideShapes
theorem addr_add0 (b o : Nat) (i : Nat) : (⟨b, o, none⟩ : Addr).add i = ⟨b, o + i, none⟩ := by unfold Addr.add; split <;> simp_all
theorem cell_spot {w : World} {a : Addr} {v : Value} (h : w.cell? a = some v) : a.spot = none := by
  unfold World.cell? at h
  split at h
  · split at h
    · cases h
    · rename_i hs; simpa using hs
  · cases h
theorem bytes_of {H : Type} {enc : TypeId × Value → H} {W : World} {base : Nat} {sp : Nat → Bool} {held : Bool} {a : Option Addr} {len cap : Nat} {d : DataW H} {p : List MemPlace}
    (hsp : ∀ b, sp b = true) (h : DataW.Trod enc Tryz.prog W base sp held 22 (.slice a len cap) d p) : len ≤ 1000000 → CodeIn W (.slice a len cap) := by
  intro hl
  obtain ⟨fuel, hf⟩ := h
  rcases open_ints Tryz.underlying22 Tryz.underlying5 (by kernel_rfl) hf with ⟨hcs, _⟩ | ⟨a', len', cap', zs, hcs, _, hlc, hcm, hz, _, hcell, hwf⟩
  · simp [Value.cells] at hcs
    obtain ⟨rfl, rfl, rfl⟩ := hcs
    exact ⟨[], by simp, ListAt.nil _ _ _ _ _ _⟩
  · simp [Value.cells] at hcs
    obtain ⟨rfl, rfl, rfl⟩ := hcs
    rw [hsp, if_pos rfl] at hz
    have hlen : ((zs.take len).map fun z => UInt8.ofNat z.toNat).length = len := by simp; omega
    refine ⟨(zs.take len).map fun z => UInt8.ofNat z.toNat, by rw [hlen]; exact hl, some a', cap, by rw [hlen], by rw [hlen]; exact Nat.le_trans hlc hcm, fun i x hx => ?_⟩
    have hi : i < len := by
      have := (List.getElem?_eq_some_iff.1 hx).1
      omega
    have hc := hcell i (by omega)
    have h0 := hcell 0 (by omega)
    obtain ⟨b, o, s⟩ := a'
    have hs : s = none := by
      have := cell_spot h0
      simpa [Addr.add] using this
    subst hs
    rw [addr_add0] at hc
    refine ⟨b, o, rfl, World.block_lt_of_cell? W _ hc, [.int .u8 (zs.getD i 0)], rfl, fun j hj => ?_, ?_⟩
    · obtain rfl : j = 0 := by omega
      rw [Nat.mul_one, Nat.add_zero]; exact hc
    · have hz2 : zs.getD i 0 ∈ zs := by
        rw [List.getD_eq_getElem?_getD, List.getElem?_eq_getElem (by omega)]; exact List.getElem_mem _
      have hw := hwf _ hz2
      have hb : 0 ≤ zs.getD i 0 ∧ zs.getD i 0 ≤ 255 := by
        simpa [Lit.wf, IntKind.min, IntKind.max, IntKind.signed, IntKind.bits] using hw
      have hx2 : x = UInt8.ofNat (zs.getD i 0).toNat := by
        rw [List.getElem?_map, List.getElem?_take, if_pos hi, List.getElem?_eq_getElem (by omega)] at hx
        rw [List.getD_eq_getElem?_getD, List.getElem?_eq_getElem (by omega)]
        simpa using hx.symm
      show [Value.int .u8 (zs.getD i 0)] = [.int .u8 (x.toNat : Int)]
      have e : (x.toNat : Int) = zs.getD i 0 := by
        rw [hx2, UInt8.toNat_ofNat']; omega
      rw [e]
open Go.RowKit Go.ChangeShapes Go.WideShapes
theorem bytes_cap {H : Type} {enc : TypeId × Value → H} {W : World} {base : Nat} {sp : Nat → Bool} {held : Bool} {a : Option Addr} {len cap : Nat} {d : DataW H} {p : List MemPlace}
    (h : DataW.Trod enc Tryz.prog W base sp held 22 (.slice a len cap) d p) : len ≤ cap := by
  obtain ⟨fuel, hf⟩ := h
  rcases open_ints Tryz.underlying22 Tryz.underlying5 (by kernel_rfl) hf with ⟨hcs, _⟩ | ⟨a', len', cap', zs, hcs, _, hlc, hcm, hz, _, hcell, hwf⟩
  · simp [Value.cells] at hcs
    obtain ⟨rfl, rfl, rfl⟩ := hcs
    exact Nat.le_refl _
  · simp [Value.cells] at hcs
    obtain ⟨rfl, rfl, rfl⟩ := hcs
    omega
open Go.ChangeShapes Go.WideShapes Go.ChangeAt Go.RowKit Go.Joins
theorem own : ownKnob Tryz.prog.godebug = none := by kernel_rfl
theorem laidOut : laidOutB Tryz.prog = true := by kernel_rfl
theorem trodAll_stays {H : Type} {enc : TypeId × Value → H} {P : Program} (hl : laidOutB P = true) {W W' : World} {sp : Nat → Bool} : ∀ (ts : List TypeId) (vs : List Value) (ds : List (DataW H)) (ps : List MemPlace),
    (∀ t ∈ ts, P.readableRec t = true ∧ t < P.types.size) → DataW.TrodAll enc P W 0 (fun _ => true) true ts vs ds ps → (∀ x ∈ ps, W.sameAt W' x) → (∀ x ∈ ps, sp x.block = true) → DataW.TrodAll enc P W' 0 sp true ts vs ds ps
  | [], vs, ds, ps, _, h, _, _ => by
    cases vs <;> cases ds <;> simp_all [DataW.TrodAll]
  | t :: ts, [], ds, ps, _, h, _, _ => by simp [DataW.TrodAll] at h
  | t :: ts, v :: vs, [], ps, _, h, _, _ => by simp [DataW.TrodAll] at h
  | t :: ts, v :: vs, d :: ds, ps, ht, h, hs, hp => by
    obtain ⟨p, q, h1, h2, rfl⟩ := h
    exact ⟨p, q, WideElems.Trod_stays hl (ht t (by simp)).1 (ht t (by simp)).2 h1 (fun x hx => hs x (by simp [hx])) (fun x hx => hp x (by simp [hx])),
      trodAll_stays hl ts vs ds q (fun t h => ht t (by simp [h])) h2 (fun x hx => hs x (by simp [hx])) (fun x hx => hp x (by simp [hx])), rfl⟩
theorem close_true {H : Type} {enc : TypeId × Value → H} {f : Func} {s : ChangeSpec} {W W' : World} {args : Array Value} {ds gs : List (DataW H)} {before : List MemPlace}
    (hW : DataW.Whole enc Tryz.prog f.params.toList s.vars false W args.toList ds gs before) (hv : s.vars = []) (hr : f.resultTypes = #[4])
    (hp : f.params.toList.all (fun t => Tryz.prog.readableRec t && decide (t < Tryz.prog.types.size)) = true) (hfn : s.fn H ds = { results := [.lit (.bool true)], args := ds }) (hb : Below W.heap.size W W') :
    s.post enc Tryz.prog f false true false false W args (.bool true) W' := by
  have hW2 := hW
  have hlt : ∀ p ∈ before, p.block < W.heap.size := fun p hp => hW.lt p hp
  obtain ⟨p, q, hA, hV, rfl, _, _⟩ := hW2
  rw [hv] at hV
  obtain ⟨rfl, rfl⟩ := trodVars_none hV
  rw [List.append_nil] at hlt
  refine ⟨ds, [], p ++ [], [], p, [], hW, ?_, ?_, ?_, hb.frame _, fun h => by cases h⟩
  · rw [List.append_nil, hfn, hr]; exact trodAll_mk1 (shut_bool Tryz.underlying4 true)
  · rw [List.append_nil, hfn]
    refine trodAll_stays laidOut _ _ _ _ (fun t ht => ?_) hA (fun x hx => hb.same (hlt x hx)) (fun x hx => by simpa using hlt x hx)
    have := List.all_eq_true.1 hp t ht
    simpa using this
  · rw [List.append_nil, hfn, hv]; rfl
def layTab (k : IntKind) (zs : List Int) : Obj → Obj
  | .cells _ t frozen => .cells (zs.map fun z => Value.int k z).toArray t frozen
  | o => o
end Go.Proofs.YtkgfanajgdelcaaGreatDoor
