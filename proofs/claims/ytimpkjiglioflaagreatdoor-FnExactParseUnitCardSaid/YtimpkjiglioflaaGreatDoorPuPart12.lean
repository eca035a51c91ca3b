/- 'FnExactParseUnit': the law is true for all arguments, over the tables as the program's text lays them. -/
import Derived.OpenShut
import Derived.JoinedCond
import Derived.Deep.DeepHandedRow
import Derived.Lib.SmallJoins
import Derived.Stop.LaidErr
import Derived.Test.YtimpkjiglioflaaGreatDoorCards
import Derived.Test.YtimpkjiglioflaaGreatDoorTie
import Derived.Test.YtimpkjiglioflaaGreatDoorPuPart1
import Derived.Test.YtimpkjiglioflaaGreatDoorPuPart4
import Derived.Test.YtimpkjiglioflaaGreatDoorPuPart10
import Derived.Test.YtimpkjiglioflaaGreatDoorPuPart11
namespace Go.Proofs.YtimpkjiglioflaaGreatDoor
open Go.RowKit
/-- What the walk asks of the package variables: bytealg.MaxLen holds some int. -/
def EnvM (w : World) : Prop := ∃ m, w.cell? ⟨0, 0, none⟩ = some (.int .i64 m)
theorem EnvM.below {w w' : World} (h : EnvM w) (hb : Below w.heap.size w w') : EnvM w' := by
  obtain ⟨m, hm⟩ := h
  exact ⟨m, (hb.cell (World.block_lt_of_cell? _ _ hm)).trans hm⟩
theorem cutS_any (s : ByteArray) (b : UInt8) (w : World) (hE : EnvM w) (hs : s.size < 4294967281) :
    Calls Tryz.prog 47 #[.string s, .string ⟨#[b]⟩] w fun e w' => e = .returned (.tuple #[.string ⟨(cut1 s.data.toList b).1.toArray⟩, .string ⟨(cut1 s.data.toList b).2.1.toArray⟩, .bool (cut1 s.data.toList b).2.2]) ∧ Below w.heap.size w w' := by
  obtain ⟨m, hm⟩ := hE
  exact (Tryz.strings_Cut s ⟨#[b]⟩ m w hs hm).mono fun _ _ ⟨he, n, hw⟩ => ⟨by rw [he, ← cut_one], by rw [hw]; exact below_drewN (Below.refl _ _) n⟩
theorem weq (wd K : List UInt8) : (wd == K) = decide (wd = K) := by rw [Bool.eq_iff_iff, beq_iff_eq, decide_eq_true_iff]
/-- A fresh unit's block. -/
def unitZ : Array Value := #[.string ⟨#[]⟩, .slice none 0 0, .slice none 0 0, .string ⟨#[]⟩]
theorem own_nil (w : World) (base : Nat) (e : TypeId) : w.ownsRow base e 1 (.slice none 0 0) 0 [] := ⟨rfl, .inl ⟨rfl, rfl⟩⟩
theorem UnS.start {e eU : TypeId} {W : World} {k : Nat} (h : W.heap[k]? = some (.cells unitZ eU (0, 0))) : UnS e eU W k u0 (.slice none 0 0) (.slice none 0 0) W :=
  ⟨h, own_nil _ _ _, own_nil _ _ _, fun g hg => by simp [Value.ownBlock] at hg, ⟨rfl, rfl, rfl, Nat.le_refl _, fun _ _ _ => rfl⟩, blk_lt h⟩
theorem UnS.cells {e eU : TypeId} {W0 wr : World} {k : Nat} {u : Un} {va vb : Value} (h : UnS e eU W0 k u va vb wr) :
    wr.cell? ⟨k, 0, none⟩ = some (.string u.name) ∧ wr.cell? ⟨k, 1, none⟩ = some va ∧ wr.cell? ⟨k, 2, none⟩ = some vb ∧ wr.cell? ⟨k, 3, none⟩ = some (.string u.goal) ∧ ∀ j, wr.frozen? ⟨k, j, none⟩ = false := by
  refine ⟨?_, ?_, ?_, ?_, fun j => frozen_of_row wr k j _ _ h.box⟩
  · rw [cell_of_row wr k 0 _ _ (0, 0) h.box]; rfl
  · rw [cell_of_row wr k 1 _ _ (0, 0) h.box]; rfl
  · rw [cell_of_row wr k 2 _ _ (0, 0) h.box]; rfl
  · rw [cell_of_row wr k 3 _ _ (0, 0) h.box]; rfl
theorem UnOwn.zero (e : TypeId) (S : Nat → Prop) (w : World) : UnOwn e S w u0 [.string ⟨#[]⟩, .slice none 0 0, .slice none 0 0, .string ⟨#[]⟩] :=
  ⟨_, _, fun _ => False, fun _ => False, rfl, by decide, by decide, OwnRow.nil _ _ _ _ _, OwnRow.nil _ _ _ _ _, fun _ h => h.elim, fun _ h => h.elim, fun _ h _ => h⟩
def PuRel (L : List UInt8) (st : Un → List UInt8 → Un) (W0 : World) (k : Nat) (i : Value) (wr : World) : Prop :=
  ∃ (n : Nat) (va vb : Value), n ≤ (splitF L 10).length ∧ i = .int .i64 n ∧ UnS 9 24 W0 k (((splitF L 10).take n).foldl st u0) va vb wr
set_option maxRecDepth 100000 in
set_option maxHeartbeats 6400000 in
theorem implPU_any (s : ByteArray) (w : World) (hs : s.size ≤ 1048576) (hE : EnvM w) :
    Calls Tryz.prog 9 #[.string s] w fun e w' => ∃ v0 v1 v2 v3, e = .returned (.tuple #[.agg #[v0, v1, v2, v3], .bool (puOk s.data.toList)]) ∧ UnOwn 9 (NewB w w') w' (puV s.data.toList) [v0, v1, v2, v3] ∧ Below w.heap.size w w' := by
  have HE := Lib.hid hE
  have hsz : s.data.toList.length = s.size := (size_list s).symm
  have HWT := Lib.hid (fun n => parI_wt s.data.toList n)
  have HSP := Lib.hid (lsum_split 10 s.data.toList)
  have hll : (splitF s.data.toList 10).length ≤ s.size + 1 := by rw [count_split, Lib.countByte, ← hsz]; have := List.count_le_length (a := (10 : UInt8)) (l := s.data.toList); omega
  clear hE
  go_enter Tryz.func9, Tryz.ntmps9
  go_wp2_with fail
  obtain ⟨W, hW⟩ : ∃ W : World, W = (w.alloc (.cells unitZ 24)).alloc (.cells unitZ 24) := ⟨_, rfl⟩
  have hbW : Below w.heap.size w W := by rw [hW]; (repeat (first | with_reducible exact Below.refl _ _ | with_reducible assumption | with_reducible refine Below.al ?_ _ | with_reducible refine Below.sc ?_ (by first | exact Nat.le_refl _ | (simp; done) | (simp; omega)) _ | assumption | exact Below.refl _ _ | refine Below.dr ?_ | refine Below.drN ?_ _ | refine Below.step ?_ (by assumption)))
  have hzW : W.heap.size = w.heap.size + 2 := by rw [hW]; simp
  have hkW : W.heap[w.heap.size + 1]? = some (.cells unitZ 24 (0, 0)) := by rw [hW]; have := heap_alloc_new (w.alloc (.cells unitZ 24)) (.cells unitZ 24); simpa using this
  have hrW : W.heap[w.heap.size]? = some (.cells unitZ 24 (0, 0)) := by rw [hW]; exact (hao _ _ _ (by simp)).trans (heap_alloc_new w _)
  show Calls Tryz.prog _ _ ((w.alloc (.cells unitZ 24)).alloc (.cells unitZ 24)) _
  rw [← hW]
  refine (strSplit_any s 10 W (by omega)).mono ?_
  rintro e w1 ⟨g, rfl, hl1, hb1⟩
  have hq1 := hb1.size
  have HLS := Lib.hid hl1.at_
  have HU0 := Lib.hid (UnS.start (e := 9) ((hb1.block _ (by omega)).trans hkW))
  have HR0 := Lib.hid ((hb1.block _ (by omega)).trans hrW)
  have hb01 : Below w.heap.size w w1 := Below.step hbW hb1
  have hks : w.heap.size + 1 < w1.heap.size := by omega
  clear hl1 hW hkW hrW
  rw [List.length_map] at HLS ⊢
  go_wp2
  go_loopw [14] (PuRel s.data.toList stI w1 (w.heap.size + 1)) (fun i _ => (splitF s.data.toList 10).length - (intOf i).toNat)
  case atStart => exact ⟨0, _, _, Nat.zero_le _, rfl, HU0.out⟩
  case round =>
    obtain ⟨n, va, vb, hn, rfl, hus⟩ := hrel
    have HUS := Lib.hid hus
    have hqr := hus.gr.size
    have hqg := hus.gr
    by_cases hlt : n < (splitF s.data.toList 10).length
    · obtain ⟨b', o', ebo, hB', hy0, hys⟩ := HLS.out.at_ (i := n) (by rw [List.length_map]; exact hlt)
      simp only [Option.some.injEq, Addr.mk.injEq, and_true] at ebo
      obtain ⟨rfl, rfl⟩ := ebo
      rw [List.getElem_map] at hy0 hys
      rw [Nat.zero_add] at hy0
      have hgn : g ≠ w.heap.size + 1 := by have := hB'.1; omega
      have y0 := (World.cell?_of_block (a := ⟨g, n, none⟩) (hus.gr.block g hB'.2 (by simpa using hgn))).trans hy0
      have zy := bsz (World.block_lt_of_cell? _ _ y0)
      have HTK := Lib.hid (take_fold stI u0 hlt)
      have hwt := HWT.out n
      have hwt1 := HWT.out (n + 1)
      have hlz := lsum_mem (List.getElem_mem hlt)
      rw [HSP.out] at hlz
      obtain ⟨ln, hln⟩ : ∃ ln, (splitF s.data.toList 10)[n] = ln := ⟨_, rfl⟩
      rw [hln] at y0 hys HTK hlz
      rw [baL_size] at hys
      generalize ((splitF s.data.toList 10).take n).foldl stI u0 = u at *
      have hni : (n : Int) < (splitF s.data.toList 10).length := by omega
      clear hus hy0 hln
      have hEr : EnvM wr := HE.out.below (Below.trans hb01 ⟨hqg.os, hqg.tape, hqg.output, hqg.size, fun b hb => hqg.block b (by omega) (by simp; omega)⟩)
      go_wp2_with fail
      refine (cutS_any (baL ln) 32 wr hEr (by rw [baL_size]; omega)).mono ?_
      rintro e w2 ⟨rfl, hb2⟩
      have h2 := HUS.out.below hb2
      obtain ⟨p1, c1, q1, d1, rfl, rfl⟩ := h2.form
      obtain ⟨x0, x1, x2, x3, xf⟩ := h2.cells
      have zk := bsz h2.klt
      have HU2 := Lib.hid h2
      have HST := Lib.hid (show stI u ln = if (cut1 ln 32).1 = kwU then u.putN (cut1 ln 32).2.1 else if (cut1 ln 32).1 = kwI then u.putI (cut1 ln 32).2.1 else if (cut1 ln 32).1 = kwA then u.putA (cut1 ln 32).2.1 else if (cut1 ln 32).1 = kwG then u.putG (cut1 ln 32).2.1 else u from rfl)
      rw [baL_list]
      have hbw2 : w1.grownBy w2 (some (w.heap.size + 1)) := h2.gr
      have hzs := wt_sizes hwt
      clear h2
      generalize (cut1 ln 32).1 = wd at *
      generalize (cut1 ln 32).2.1 = rs at *
      generalize (cut1 ln 32).2.2 = fd at *
      have HF1 := Lib.hid (weq wd [117, 110, 105, 116])
      have HF2 := Lib.hid (weq wd [105, 110, 99, 108, 117, 100, 101])
      have HF3 := Lib.hid (weq wd [97, 120, 105, 111, 109])
      have HF4 := Lib.hid (weq wd [103, 111, 97, 108])
      have hni2 : u.incs.length ≤ 1048577 ∧ u.axs.length ≤ 1048577 := ⟨by have := hzs.2.2.2.2.1; omega, by have := hzs.2.2.2.2.2; omega⟩
      by_cases e1 : wd = kwU
      · have f1 := HF1.out.trans (decide_eq_true e1)
        have E := Lib.hid e1
        clear e1
        go_wp2
        refine ⟨⟨n + 1, .slice p1 u.incs.length c1, .slice q1 u.axs.length d1, by omega, by go_num, ?_⟩, by simp [intOf]; omega⟩
        rw [HTK.out, HST.out, if_pos E.out]
        exact HU2.out.setN (baL rs)
      by_cases e2 : wd = kwI
      · have f1 := HF1.out.trans (decide_eq_false e1)
        have f2 := HF2.out.trans (decide_eq_true e2)
        have E1 := Lib.hid e1
        have E2 := Lib.hid e2
        clear e1 e2
        go_wp2_with (at_builtin; refine wpList_app1 rfl (.tmp 32) (.tmp 34) _ rfl w1.heap.size 9 1 16 elemStr (.slice p1 u.incs.length c1) u.incs.length (strW u.incs) rfl w2 #[.string ⟨rs.toArray⟩] rfl w2.heap.size rfl rfl HU2.out.ra rfl (by simp [Value.oneCell']) (by omega) (by unfold maxLen; omega) hbw2.size ?_; intro v3 w3 ho3 hg3 hn3 hl3; obtain ⟨q3, k3, rfl⟩ := own_form ho3 (Nat.succ_pos _); have y3 := (World.cell?_of_block (a := ⟨w.heap.size + 1, 1, none⟩) (hg3.block _ zk.1 (fun e' => HU2.out.na e'.symm))).trans x1; have yf3 : w3.frozen? ⟨w.heap.size + 1, 1, none⟩ = false := (World.frozen?_of_block (a := ⟨w.heap.size + 1, 1, none⟩) (hg3.block _ zk.1 (fun e' => HU2.out.na e'.symm))).trans (xf 1); have zk3 := bsz (World.block_lt_of_cell? _ _ y3))
        refine ⟨⟨n + 1, .slice (some ⟨q3, 0, none⟩) (u.incs.length + 1) k3, .slice q1 u.axs.length d1, by omega, by go_num, ?_⟩, by simp [intOf]; omega⟩
        rw [HTK.out, HST.out, if_neg E1.out, if_pos E2.out]
        exact HU2.out.appI (r := baL rs) ho3 hg3 hn3
      by_cases e3 : wd = kwA
      · have f1 := HF1.out.trans (decide_eq_false e1)
        have f2 := HF2.out.trans (decide_eq_false e2)
        have f3 := HF3.out.trans (decide_eq_true e3)
        have E1 := Lib.hid e1
        have E2 := Lib.hid e2
        have E3 := Lib.hid e3
        clear e1 e2 e3
        go_wp2_with (at_builtin; refine wpList_app1 rfl (.tmp 40) (.tmp 42) _ rfl w1.heap.size 9 1 16 elemStr (.slice q1 u.axs.length d1) u.axs.length (strW u.axs) rfl w2 #[.string ⟨rs.toArray⟩] rfl w2.heap.size rfl rfl HU2.out.rb rfl (by simp [Value.oneCell']) (by omega) (by unfold maxLen; omega) hbw2.size ?_; intro v3 w3 ho3 hg3 hn3 hl3; obtain ⟨q3, k3, rfl⟩ := own_form ho3 (Nat.succ_pos _); have y3 := (World.cell?_of_block (a := ⟨w.heap.size + 1, 2, none⟩) (hg3.block _ zk.1 (fun e' => HU2.out.nb e'.symm))).trans x2; have yf3 : w3.frozen? ⟨w.heap.size + 1, 2, none⟩ = false := (World.frozen?_of_block (a := ⟨w.heap.size + 1, 2, none⟩) (hg3.block _ zk.1 (fun e' => HU2.out.nb e'.symm))).trans (xf 2); have zk3 := bsz (World.block_lt_of_cell? _ _ y3))
        refine ⟨⟨n + 1, .slice p1 u.incs.length c1, .slice (some ⟨q3, 0, none⟩) (u.axs.length + 1) k3, by omega, by go_num, ?_⟩, by simp [intOf]; omega⟩
        rw [HTK.out, HST.out, if_neg E1.out, if_neg E2.out, if_pos E3.out]
        exact HU2.out.appA (r := baL rs) ho3 hg3 hn3
      by_cases e4 : wd = kwG
      · have f1 := HF1.out.trans (decide_eq_false e1)
        have f2 := HF2.out.trans (decide_eq_false e2)
        have f3 := HF3.out.trans (decide_eq_false e3)
        have f4 := HF4.out.trans (decide_eq_true e4)
        have E1 := Lib.hid e1
        have E2 := Lib.hid e2
        have E3 := Lib.hid e3
        have E4 := Lib.hid e4
        clear e1 e2 e3 e4
        go_wp2
        refine ⟨⟨n + 1, .slice p1 u.incs.length c1, .slice q1 u.axs.length d1, by omega, by go_num, ?_⟩, by simp [intOf]; omega⟩
        rw [HTK.out, HST.out, if_neg E1.out, if_neg E2.out, if_neg E3.out, if_pos E4.out]
        exact HU2.out.setG (baL rs)
      · have f1 := HF1.out.trans (decide_eq_false e1)
        have f2 := HF2.out.trans (decide_eq_false e2)
        have f3 := HF3.out.trans (decide_eq_false e3)
        have f4 := HF4.out.trans (decide_eq_false e4)
        have E1 := Lib.hid e1
        have E2 := Lib.hid e2
        have E3 := Lib.hid e3
        have E4 := Lib.hid e4
        clear e1 e2 e3 e4
        go_wp2
        refine ⟨⟨n + 1, .slice p1 u.incs.length c1, .slice q1 u.axs.length d1, by omega, by go_num, ?_⟩, by simp [intOf]; omega⟩
        rw [HTK.out, HST.out, if_neg E1.out, if_neg E2.out, if_neg E3.out, if_neg E4.out]
        exact HU2.out
    · obtain rfl : n = (splitF s.data.toList 10).length := by omega
      have hEr : EnvM wr := HE.out.below (Below.trans hb01 ⟨hqg.os, hqg.tape, hqg.output, hqg.size, fun b hb => hqg.block b (by omega) (by simp; omega)⟩)
      have hbw : Below w.heap.size w wr := Below.trans hb01 ⟨hqg.os, hqg.tape, hqg.output, hqg.size, fun b hb => hqg.block b (by omega) (by simp; omega)⟩
      have hwt := HWT.out (splitF s.data.toList 10).length
      rw [List.take_length] at hus hwt
      rw [show (splitF s.data.toList 10).foldl stI u0 = parI s.data.toList from rfl] at hus hwt
      have hzs := wt_sizes hwt
      have hml : s.data.toList.length + 1 ≤ maxLen := by unfold maxLen; omega
      have HOW := Lib.hid (hus.own (Nat.le_trans hzs.1 hml) (Nat.le_trans hzs.2.1 hml) (fun x hx => Nat.le_trans (hzs.2.2.1 x hx) hml) (fun x hx => Nat.le_trans (hzs.2.2.2.1 x hx) hml))
      obtain ⟨p1, c1, q1, d1, rfl, rfl⟩ := hus.form
      obtain ⟨x0, x1, x2, x3, xf⟩ := hus.cells
      have zk := bsz hus.klt
      have hR : wr.heap[w.heap.size]? = some (.cells unitZ 24 (0, 0)) := (hqg.block _ (by omega) (by simp)).trans HR0.out
      have HPK := Lib.hid (show puOk s.data.toList = ((parI s.data.toList).good && (parI s.data.toList).txt == s.data.toList) from rfl)
      have HPV := Lib.hid (show puV s.data.toList = if puOk s.data.toList then parI s.data.toList else u0 from rfl)
      have hw12 : (parI s.data.toList).wt ≤ 1000000000000 := by omega
      have hwl : w.heap.size < wr.heap.size := by omega
      have HUB := Lib.hid hus
      clear hus HUS HU0 HR0 hzs hml hwt
      generalize parI s.data.toList = u at *
      cases hg : u.good
      · have HG := Lib.hid hg
        have HO := Lib.hid (show puOk s.data.toList = false by rw [HPK.out, hg]; rfl)
        clear hg
        go_wp2_with fail
        refine (implUnit_any u _ _ _ _ wr HOW.out.at_ hw12).mono ?_
        rintro e w2 ⟨rfl, hb2⟩
        rw [HG.out]
        have hR2 := (hb2.block _ hwl).trans hR
        have rf : ∀ j, w2.frozen? ⟨w.heap.size, j, none⟩ = false := fun j => frozen_of_row w2 w.heap.size j _ _ hR2
        have r0 : w2.cell? ⟨w.heap.size, 0, none⟩ = some (.string ⟨#[]⟩) := by rw [cell_of_row w2 _ 0 _ _ (0, 0) hR2]; rfl
        have r1 : w2.cell? ⟨w.heap.size, 1, none⟩ = some (.slice none 0 0) := by rw [cell_of_row w2 _ 1 _ _ (0, 0) hR2]; rfl
        have r2 : w2.cell? ⟨w.heap.size, 2, none⟩ = some (.slice none 0 0) := by rw [cell_of_row w2 _ 2 _ _ (0, 0) hR2]; rfl
        have r3 : w2.cell? ⟨w.heap.size, 3, none⟩ = some (.string ⟨#[]⟩) := by rw [cell_of_row w2 _ 3 _ _ (0, 0) hR2]; rfl
        have zr := bsz (World.block_lt_of_cell? _ _ r0)
        clear hR2
        go_wp2
        refine bodyPost_ret (v := .tuple #[.agg #[.string ⟨#[]⟩, .slice none 0 0, .slice none 0 0, .string ⟨#[]⟩], .bool false]) (by simp only [results, Tryz.results9]; go_simp) rfl ⟨_, _, _, _, by rw [HO.out], by rw [HPV.out, HO.out]; exact UnOwn.zero _ _ _, by (repeat (first | with_reducible exact Below.refl _ _ | with_reducible assumption | with_reducible refine Below.al ?_ _ | with_reducible refine Below.sc ?_ (by first | exact Nat.le_refl _ | (simp; done) | (simp; omega)) _ | assumption | exact Below.refl _ _ | refine Below.dr ?_ | refine Below.drN ?_ _ | refine Below.step ?_ (by assumption)))⟩
      · have HG := Lib.hid hg
        have HP2 := Lib.hid (show puOk s.data.toList = (u.txt == s.data.toList) by rw [HPK.out, hg, Bool.true_and])
        clear hg
        cases ht : (u.txt == s.data.toList)
        all_goals
          have HO := Lib.hid (HP2.out.trans ht)
          have hT := (show (u.txt == s.toList) = (u.txt == s.data.toList) by rw [ByteArray.toList_eq]).trans ht
          clear ht
          go_wp2_with fail
          refine (implUnit_any u _ _ _ _ wr HOW.out.at_ hw12).mono ?_
          rintro e w2 ⟨rfl, hb2⟩
          rw [HG.out]
          have hk2 := HUB.out.below hb2
          obtain ⟨y0, y1, y2, y3, yf⟩ := hk2.cells
          have zk2 := bsz hk2.klt
          clear hk2
          go_wp2_with fail
          refine (formatUnit_any u _ _ _ _ w2 (HOW.out.at_.below hb2) hw12).mono ?_
          rintro e w3 ⟨rfl, hb3⟩
          have hR3 := (hb3.block _ (Nat.lt_of_lt_of_le hwl hb2.size)).trans ((hb2.block _ hwl).trans hR)
          have rf : ∀ j, w3.frozen? ⟨w.heap.size, j, none⟩ = false := fun j => frozen_of_row w3 w.heap.size j _ _ hR3
          have r0 : w3.cell? ⟨w.heap.size, 0, none⟩ = some (.string ⟨#[]⟩) := by rw [cell_of_row w3 _ 0 _ _ (0, 0) hR3]; rfl
          have r1 : w3.cell? ⟨w.heap.size, 1, none⟩ = some (.slice none 0 0) := by rw [cell_of_row w3 _ 1 _ _ (0, 0) hR3]; rfl
          have r2 : w3.cell? ⟨w.heap.size, 2, none⟩ = some (.slice none 0 0) := by rw [cell_of_row w3 _ 2 _ _ (0, 0) hR3]; rfl
          have r3 : w3.cell? ⟨w.heap.size, 3, none⟩ = some (.string ⟨#[]⟩) := by rw [cell_of_row w3 _ 3 _ _ (0, 0) hR3]; rfl
          have zr := bsz (World.block_lt_of_cell? _ _ r0)
          have hk3 := (HUB.out.below hb2).below hb3
          obtain ⟨t0, t1, t2, t3, tf⟩ := hk3.cells
          have zk3 := bsz hk3.klt
          clear hk3 hR3
          go_wp2
        · refine bodyPost_ret (v := .tuple #[.agg #[.string ⟨#[]⟩, .slice none 0 0, .slice none 0 0, .string ⟨#[]⟩], .bool false]) (by simp only [results, Tryz.results9]; go_simp) rfl ⟨_, _, _, _, by rw [HO.out], by rw [HPV.out, HO.out]; exact UnOwn.zero _ _ _, by (repeat (first | with_reducible exact Below.refl _ _ | with_reducible assumption | with_reducible refine Below.al ?_ _ | with_reducible refine Below.sc ?_ (by first | exact Nat.le_refl _ | (simp; done) | (simp; omega)) _ | assumption | exact Below.refl _ _ | refine Below.dr ?_ | refine Below.drN ?_ _ | refine Below.step ?_ (by assumption)))⟩
        · refine bodyPost_ret (v := .tuple #[.agg #[.string u.name, .slice p1 u.incs.length c1, .slice q1 u.axs.length d1, .string u.goal], .bool true]) (by simp only [results, Tryz.results9]; go_simp) rfl ⟨_, _, _, _, by rw [HO.out], ?_, by (repeat (first | with_reducible exact Below.refl _ _ | with_reducible assumption | with_reducible refine Below.al ?_ _ | with_reducible refine Below.sc ?_ (by first | exact Nat.le_refl _ | (simp; done) | (simp; omega)) _ | assumption | exact Below.refl _ _ | refine Below.dr ?_ | refine Below.drN ?_ _ | refine Below.step ?_ (by assumption)))⟩
          rw [HPV.out, HO.out, if_pos rfl]
          refine ((HOW.out.later hb2).later hb3).mono (S := NewB w1 wr) (fun b hb hlt => ?_) (fun b hb => ⟨by have := hb.1; omega, by have := hb.2; have := hb2.size; have := hb3.size; simp; omega⟩)
          have hne : b ≠ w.heap.size := by have := hb.1; omega
          exact (heap_setCell_other _ _ b _ hne).trans ((heap_setCell_other _ _ b _ hne).trans ((heap_setCell_other _ _ b _ hne).trans (heap_setCell_other _ _ b _ hne)))
end Go.Proofs.YtimpkjiglioflaaGreatDoor
namespace Go.Proofs.YtimpkjiglioflaaGreatDoor
open Go.RowKit
theorem aft_head {k : UInt8} {ks l : List UInt8} (h : aft (k :: ks) l = true) : l.head? = some k := by
  cases l with
  | nil => simp [aft] at h
  | cons c l => simp [aft, List.isPrefixOf] at h; simp [h.1]
theorem pre_take (K L : List UInt8) : K.isPrefixOf L = (L.take K.length == K) := by
  rw [Bool.eq_iff_iff, List.isPrefixOf_iff_prefix, List.prefix_iff_eq_take, beq_iff_eq]
  exact eq_comm
set_option maxRecDepth 100000 in
set_option maxHeartbeats 1600000 in
theorem l27After_any (line word : ByteArray) (w : World) (_hl : line.size ≤ 1000000) (hw : word.size ≤ 100) :
    Calls Tryz.prog 43 #[.string line, .string word] w fun e w' => e = .returned (.tuple #[.string (if aft (word.data.toList ++ [32]) line.data.toList then baL (line.data.toList.drop (word.size + 1)) else ⟨#[]⟩), .bool (aft (word.data.toList ++ [32]) line.data.toList)]) ∧ w = w' := by
  have hlen : (word.data.toList ++ [32]).length = word.size + 1 := by rw [List.length_append, ← size_list]; rfl
  by_cases h1 : line.size < word.size + 1
  · have hp : aft (word.data.toList ++ [32]) line.data.toList = false := by
      cases h : aft (word.data.toList ++ [32]) line.data.toList with
      | false => rfl
      | true =>
        have := (List.isPrefixOf_iff_prefix.1 h).length_le
        rw [hlen, ← size_list] at this; omega
    rw [hp]
    have hi1 : (line.size : Int) < (word.size : Int) + 1 := by omega
    clear hlen hp
    go_enter Tryz.func43, Tryz.ntmps43
    go_wp2
    go_ret2
    exact ⟨rfl, rfl⟩
  · have hp : (List.take (word.size + 1) line.toList == word.toList ++ [32]) = aft (word.data.toList ++ [32]) line.data.toList := by
      rw [aft, pre_take, hlen, ByteArray.toList_eq, ByteArray.toList_eq]
    have hx : line.extract (word.size + 1) line.size = baL (line.data.toList.drop (word.size + 1)) := by
      apply ByteArray.ext
      apply Array.toList_inj.1
      rw [extract_list, take_all _ _ (by omega), baL_list]
    have HX := Lib.hid hx
    have hi1 : ¬ (line.size : Int) < (word.size : Int) + 1 := by omega
    have hi2 : word.size + 1 ≤ line.size := by omega
    cases ha : aft (word.data.toList ++ [32]) line.data.toList
    · rw [ha] at hp
      clear hlen hx
      go_enter Tryz.func43, Tryz.ntmps43
      go_wp2
      go_ret2
      exact ⟨rfl, rfl⟩
    · rw [ha] at hp
      clear hlen hx
      go_enter Tryz.func43, Tryz.ntmps43
      go_wp2
      go_ret2
      exact ⟨congrArg (fun x => Ending.returned (.tuple #[.string x, .bool true])) HX.out, rfl⟩
theorem unit_ne {l : List UInt8} (h : aft kwUnit l = true) : aft kwInc l = false ∧ aft kwAx l = false ∧ aft kwGoal l = false := by
  have h1 := aft_head h
  refine ⟨?_, ?_, ?_⟩ <;> (rw [Bool.eq_false_iff]; intro h2; have h3 := aft_head h2; rw [h1] at h3; exact absurd h3 (by decide))
theorem inc_ne {l : List UInt8} (h : aft kwInc l = true) : aft kwUnit l = false ∧ aft kwAx l = false ∧ aft kwGoal l = false := by
  have h1 := aft_head h
  refine ⟨?_, ?_, ?_⟩ <;> (rw [Bool.eq_false_iff]; intro h2; have h3 := aft_head h2; rw [h1] at h3; exact absurd h3 (by decide))
theorem ax_ne {l : List UInt8} (h : aft kwAx l = true) : aft kwUnit l = false ∧ aft kwInc l = false ∧ aft kwGoal l = false := by
  have h1 := aft_head h
  refine ⟨?_, ?_, ?_⟩ <;> (rw [Bool.eq_false_iff]; intro h2; have h3 := aft_head h2; rw [h1] at h3; exact absurd h3 (by decide))
theorem stS_eq (u : Un) (l : List UInt8) : stS u l = if aft kwUnit l then u.putN (l.drop 5) else if aft kwInc l then u.putI (l.drop 8) else if aft kwAx l then u.putA (l.drop 6) else if aft kwGoal l then u.putG (l.drop 5) else u := by
  rw [stS, onA, onA, onA, onA]
  cases h1 : aft kwUnit l
  · cases h2 : aft kwInc l
    · cases h3 : aft kwAx l
      · cases h4 : aft kwGoal l
        · simp
        · simp [kwGoal]
      · obtain ⟨-, -, h4⟩ := ax_ne h3
        rw [h4]; simp [kwAx]
    · obtain ⟨-, h3, h4⟩ := inc_ne h2
      rw [h3, h4]; simp [kwInc]
  · obtain ⟨h2, h3, h4⟩ := unit_ne h1
    rw [h2, h3, h4]; simp [kwUnit]
set_option maxRecDepth 100000 in
set_option maxHeartbeats 6400000 in
theorem specPU_any (s : ByteArray) (w : World) (hs : s.size ≤ 1048576) :
    Calls Tryz.prog 8 #[.string s] w fun e w' => ∃ v0 v1 v2 v3, e = .returned (.tuple #[.agg #[v0, v1, v2, v3], .bool (puOk s.data.toList)]) ∧ UnAt (NewB w w') w' (puV s.data.toList) [v0, v1, v2, v3] ∧ Below w.heap.size w w' := by
  have hsz : s.data.toList.length = s.size := (size_list s).symm
  by_cases h4 : (4000 : Int) < s.size
  · have HO := Lib.hid (pu_long (L := s.data.toList) (by omega))
    go_enter Tryz.func8, Tryz.ntmps8
    go_wp2
    refine bodyPost_ret (v := .tuple #[.agg #[.string ⟨#[]⟩, .slice none 0 0, .slice none 0 0, .string ⟨#[]⟩], .bool false]) (by simp only [results, Tryz.results8]; go_simp) rfl ⟨_, _, _, _, by rw [HO.out], by rw [puV, HO.out, if_neg (by simp)]; exact (UnOwn.zero 9 _ _).at_, by (repeat (first | with_reducible exact Below.refl _ _ | with_reducible assumption | with_reducible refine Below.al ?_ _ | with_reducible refine Below.sc ?_ (by first | exact Nat.le_refl _ | (simp; done) | (simp; omega)) _ | assumption | exact Below.refl _ _ | refine Below.dr ?_ | refine Below.drN ?_ _ | refine Below.step ?_ (by assumption)))⟩
  have HWT := Lib.hid (fun n => parS_wt s.data.toList n)
  have HSP := Lib.hid (lsum_split 10 s.data.toList)
  have hll : (splitF s.data.toList 10).length ≤ s.size + 1 := by rw [count_split, Lib.countByte, ← hsz]; have := List.count_le_length (a := (10 : UInt8)) (l := s.data.toList); omega
  go_enter Tryz.func8, Tryz.ntmps8
  go_wp2_with fail
  obtain ⟨W, hW⟩ : ∃ W : World, W = (w.alloc (.cells unitZ 24)).alloc (.cells unitZ 24) := ⟨_, rfl⟩
  have hbW : Below w.heap.size w W := by rw [hW]; (repeat (first | with_reducible exact Below.refl _ _ | with_reducible assumption | with_reducible refine Below.al ?_ _ | with_reducible refine Below.sc ?_ (by first | exact Nat.le_refl _ | (simp; done) | (simp; omega)) _ | assumption | exact Below.refl _ _ | refine Below.dr ?_ | refine Below.drN ?_ _ | refine Below.step ?_ (by assumption)))
  have hzW : W.heap.size = w.heap.size + 2 := by rw [hW]; simp
  have hkW : W.heap[w.heap.size + 1]? = some (.cells unitZ 24 (0, 0)) := by rw [hW]; have := heap_alloc_new (w.alloc (.cells unitZ 24)) (.cells unitZ 24); simpa using this
  have hrW : W.heap[w.heap.size]? = some (.cells unitZ 24 (0, 0)) := by rw [hW]; exact (hao _ _ _ (by simp)).trans (heap_alloc_new w _)
  show Calls Tryz.prog _ _ ((w.alloc (.cells unitZ 24)).alloc (.cells unitZ 24)) _
  rw [← hW]
  refine (l1Split_any s 10 W (by omega)).mono ?_
  rintro e w1 ⟨vl, rfl, hl1, hb1⟩
  have hq1 := hb1.size
  have hsv : strV (splitF s.data.toList 10) = strW ((splitF s.data.toList 10).map baL) := by rw [strV, strW, List.map_map]; rfl
  rw [hsv] at hl1
  have HLS := Lib.hid (rowS_own (S := NewB W w1) (us := (splitF s.data.toList 10).map baL) (by rw [List.length_map]; exact hl1) (fun x hx => by
    obtain ⟨y, hy, rfl⟩ := List.mem_map.1 hx
    have := lsum_mem hy
    rw [HSP.out] at this
    rw [baL_size]; unfold maxLen; omega) (by rw [List.length_map]; unfold maxLen; omega) (fun g hg => ⟨own_base hl1 g hg, own_lt' hl1 hg⟩)).at_
  obtain ⟨pl, kl, rfl⟩ : ∃ p c, vl = .slice p (splitF s.data.toList 10).length c := by
    rcases hl1.2 with ⟨rfl, h0⟩ | ⟨g, cap, cur, rfl, _⟩
    · exact ⟨none, 0, by rw [h0]⟩
    · exact ⟨_, _, rfl⟩
  have HU0 := Lib.hid (UnS.start (e := 9) ((hb1.block _ (by omega)).trans hkW))
  have HR0 := Lib.hid ((hb1.block _ (by omega)).trans hrW)
  have hb01 : Below w.heap.size w w1 := Below.step hbW hb1
  have hks : w.heap.size + 1 < w1.heap.size := by omega
  clear hl1 hW hkW hrW hsv
  go_wp2
  go_loopw [6] (PuRel s.data.toList stS w1 (w.heap.size + 1)) (fun i _ => (splitF s.data.toList 10).length - (intOf i).toNat)
  case atStart => exact ⟨0, _, _, Nat.zero_le _, rfl, HU0.out⟩
  case round =>
    obtain ⟨n, va, vb, hn, rfl, hus⟩ := hrel
    have HUS := Lib.hid hus
    have hqr := hus.gr.size
    have hqg := hus.gr
    by_cases hlt : n < (splitF s.data.toList 10).length
    · obtain ⟨g, o, rfl, hB', hy0, hys⟩ := HLS.out.at_ (i := n) (by rw [List.length_map]; exact hlt)
      rw [List.getElem_map] at hy0 hys
      have hgn : g ≠ w.heap.size + 1 := by have := hB'.1; omega
      have y0 := (World.cell?_of_block (a := ⟨g, o + n, none⟩) (hqg.block g hB'.2 (by simpa using hgn))).trans hy0
      have zy := bsz (World.block_lt_of_cell? _ _ y0)
      have HTK := Lib.hid (take_fold stS u0 hlt)
      have hwt := HWT.out n
      have hlz := lsum_mem (List.getElem_mem hlt)
      rw [HSP.out] at hlz
      obtain ⟨ln, hln⟩ : ∃ ln, (splitF s.data.toList 10)[n] = ln := ⟨_, rfl⟩
      rw [hln] at y0 hys HTK hlz
      rw [baL_size] at hys
      generalize ((splitF s.data.toList 10).take n).foldl stS u0 = u at *
      have hni : (n : Int) < (splitF s.data.toList 10).length := by omega
      have HL := Lib.hid (fun (K : ByteArray) (w' : World) (hK : K.size ≤ 100) => l27After_any (baL ln) K w' (by rw [baL_size]; omega) hK)
      obtain ⟨p1, c1, q1, d1, rfl, rfl⟩ := hus.form
      obtain ⟨x0, x1, x2, x3, xf⟩ := hus.cells
      have zk := bsz hus.klt
      have hzs := wt_sizes hwt
      have hni2 : u.incs.length ≤ 1048577 * 4 ∧ u.axs.length ≤ 1048577 * 4 := ⟨by have := hzs.2.2.2.2.1; omega, by have := hzs.2.2.2.2.2; omega⟩
      have HST := Lib.hid (stS_eq u ln)
      have HK1 := Lib.hid (show ∀ w' : World, Calls Tryz.prog 43 #[.string (baL ln), .string ⟨#[117, 110, 105, 116]⟩] w' fun e w'' => e = .returned (.tuple #[.string (if aft kwUnit ln then baL (ln.drop 5) else ⟨#[]⟩), .bool (aft kwUnit ln)]) ∧ w' = w'' from fun w' => HL.out ⟨#[117, 110, 105, 116]⟩ w' (by decide))
      have HK2 := Lib.hid (show ∀ w' : World, Calls Tryz.prog 43 #[.string (baL ln), .string ⟨#[105, 110, 99, 108, 117, 100, 101]⟩] w' fun e w'' => e = .returned (.tuple #[.string (if aft kwInc ln then baL (ln.drop 8) else ⟨#[]⟩), .bool (aft kwInc ln)]) ∧ w' = w'' from fun w' => HL.out ⟨#[105, 110, 99, 108, 117, 100, 101]⟩ w' (by decide))
      have HK3 := Lib.hid (show ∀ w' : World, Calls Tryz.prog 43 #[.string (baL ln), .string ⟨#[97, 120, 105, 111, 109]⟩] w' fun e w'' => e = .returned (.tuple #[.string (if aft kwAx ln then baL (ln.drop 6) else ⟨#[]⟩), .bool (aft kwAx ln)]) ∧ w' = w'' from fun w' => HL.out ⟨#[97, 120, 105, 111, 109]⟩ w' (by decide))
      have HK4 := Lib.hid (show ∀ w' : World, Calls Tryz.prog 43 #[.string (baL ln), .string ⟨#[103, 111, 97, 108]⟩] w' fun e w'' => e = .returned (.tuple #[.string (if aft kwGoal ln then baL (ln.drop 5) else ⟨#[]⟩), .bool (aft kwGoal ln)]) ∧ w' = w'' from fun w' => HL.out ⟨#[103, 111, 97, 108]⟩ w' (by decide))
      clear hus hy0 hln hzs hwt
      by_cases a1 : aft kwUnit ln = true
      · obtain ⟨a2, a3, a4⟩ := unit_ne a1
        rw [a1] at HK1 HST
        rw [a2] at HK2 HST
        rw [a3] at HK3 HST
        rw [a4] at HK4 HST
        clear a1 a2 a3 a4
        go_wp2_with (first | (go_at_call 43; (first | (with_reducible refine (HK1.out _).mono ?_) | (with_reducible refine (HK2.out _).mono ?_) | (with_reducible refine (HK3.out _).mono ?_) | (with_reducible refine (HK4.out _).mono ?_)); rintro e w2 ⟨rfl, rfl⟩))
        refine ⟨⟨n + 1, .slice p1 u.incs.length c1, .slice q1 u.axs.length d1, by omega, by go_num, ?_⟩, by simp [intOf]; omega⟩
        rw [HTK.out, HST.out, if_pos (by trivial)]
        exact HUS.out.setN (baL (ln.drop 5))
      have a1 := Bool.eq_false_iff.2 a1
      by_cases a2 : aft kwInc ln = true
      · obtain ⟨-, a3, a4⟩ := inc_ne a2
        rw [a1] at HK1 HST
        rw [a2] at HK2 HST
        rw [a3] at HK3 HST
        rw [a4] at HK4 HST
        clear a1 a2 a3 a4
        go_wp2_with (first | (go_at_call 43; (first | (with_reducible refine (HK1.out _).mono ?_) | (with_reducible refine (HK2.out _).mono ?_) | (with_reducible refine (HK3.out _).mono ?_) | (with_reducible refine (HK4.out _).mono ?_)); rintro e w2 ⟨rfl, rfl⟩) | (at_builtin; refine wpList_app1 rfl (.tmp 49) (.tmp 51) _ rfl w1.heap.size 9 1 16 elemStr (.slice p1 u.incs.length c1) _ _ rfl wr #[.string (baL (ln.drop 8))] rfl wr.heap.size rfl rfl HUS.out.ra rfl (by simp [Value.oneCell']) (by omega) (by unfold maxLen; omega) hqg.size ?_; intro v3 w3 ho3 hg3 hn3 hl3; obtain ⟨q3, k3, rfl⟩ := own_form ho3 (Nat.succ_pos _); have y3 := (World.cell?_of_block (a := ⟨w.heap.size + 1, 1, none⟩) (hg3.block _ zk.1 (fun e' => HUS.out.na e'.symm))).trans x1; have yf3 : w3.frozen? ⟨w.heap.size + 1, 1, none⟩ = false := (World.frozen?_of_block (a := ⟨w.heap.size + 1, 1, none⟩) (hg3.block _ zk.1 (fun e' => HUS.out.na e'.symm))).trans (xf 1); have zk3 := bsz (World.block_lt_of_cell? _ _ y3); have yl3 := (World.cell?_of_block (a := ⟨g, o + n, none⟩) (hg3.block _ zy.1 (fun e' => by have := own_base HUS.out.ra g e'.symm; have := hB'.2; omega))).trans y0; have zy3 := bsz (World.block_lt_of_cell? _ _ yl3)))
        refine ⟨⟨n + 1, .slice (some ⟨q3, 0, none⟩) (u.incs.length + 1) k3, .slice q1 u.axs.length d1, by omega, by go_num, ?_⟩, by simp [intOf]; omega⟩
        rw [HTK.out, HST.out, if_neg (by simp), if_pos (by trivial)]
        exact HUS.out.appI (r := baL (ln.drop 8)) ho3 hg3 hn3
      have a2 := Bool.eq_false_iff.2 a2
      by_cases a3 : aft kwAx ln = true
      · obtain ⟨-, -, a4⟩ := ax_ne a3
        rw [a1] at HK1 HST
        rw [a2] at HK2 HST
        rw [a3] at HK3 HST
        rw [a4] at HK4 HST
        clear a1 a2 a3 a4
        go_wp2_with (first | (go_at_call 43; (first | (with_reducible refine (HK1.out _).mono ?_) | (with_reducible refine (HK2.out _).mono ?_) | (with_reducible refine (HK3.out _).mono ?_) | (with_reducible refine (HK4.out _).mono ?_)); rintro e w2 ⟨rfl, rfl⟩) | (at_builtin; refine wpList_app1 rfl (.tmp 64) (.tmp 66) _ rfl w1.heap.size 9 1 16 elemStr (.slice q1 u.axs.length d1) _ _ rfl wr #[.string (baL (ln.drop 6))] rfl wr.heap.size rfl rfl HUS.out.rb rfl (by simp [Value.oneCell']) (by omega) (by unfold maxLen; omega) hqg.size ?_; intro v3 w3 ho3 hg3 hn3 hl3; obtain ⟨q3, k3, rfl⟩ := own_form ho3 (Nat.succ_pos _); have y3 := (World.cell?_of_block (a := ⟨w.heap.size + 1, 2, none⟩) (hg3.block _ zk.1 (fun e' => HUS.out.nb e'.symm))).trans x2; have yf3 : w3.frozen? ⟨w.heap.size + 1, 2, none⟩ = false := (World.frozen?_of_block (a := ⟨w.heap.size + 1, 2, none⟩) (hg3.block _ zk.1 (fun e' => HUS.out.nb e'.symm))).trans (xf 2); have zk3 := bsz (World.block_lt_of_cell? _ _ y3); have yl3 := (World.cell?_of_block (a := ⟨g, o + n, none⟩) (hg3.block _ zy.1 (fun e' => by have := own_base HUS.out.rb g e'.symm; have := hB'.2; omega))).trans y0; have zy3 := bsz (World.block_lt_of_cell? _ _ yl3)))
        refine ⟨⟨n + 1, .slice p1 u.incs.length c1, .slice (some ⟨q3, 0, none⟩) (u.axs.length + 1) k3, by omega, by go_num, ?_⟩, by simp [intOf]; omega⟩
        rw [HTK.out, HST.out, if_neg (by simp), if_neg (by simp), if_pos (by trivial)]
        exact HUS.out.appA (r := baL (ln.drop 6)) ho3 hg3 hn3
      have a3 := Bool.eq_false_iff.2 a3
      by_cases a4 : aft kwGoal ln = true
      · rw [a1] at HK1 HST
        rw [a2] at HK2 HST
        rw [a3] at HK3 HST
        rw [a4] at HK4 HST
        clear a1 a2 a3 a4
        go_wp2_with (first | (go_at_call 43; (first | (with_reducible refine (HK1.out _).mono ?_) | (with_reducible refine (HK2.out _).mono ?_) | (with_reducible refine (HK3.out _).mono ?_) | (with_reducible refine (HK4.out _).mono ?_)); rintro e w2 ⟨rfl, rfl⟩))
        refine ⟨⟨n + 1, .slice p1 u.incs.length c1, .slice q1 u.axs.length d1, by omega, by go_num, ?_⟩, by simp [intOf]; omega⟩
        rw [HTK.out, HST.out, if_neg (by simp), if_neg (by simp), if_neg (by simp), if_pos (by trivial)]
        exact HUS.out.setG (baL (ln.drop 5))
      · have a4 := Bool.eq_false_iff.2 a4
        rw [a1] at HK1 HST
        rw [a2] at HK2 HST
        rw [a3] at HK3 HST
        rw [a4] at HK4 HST
        clear a1 a2 a3 a4
        go_wp2_with (first | (go_at_call 43; (first | (with_reducible refine (HK1.out _).mono ?_) | (with_reducible refine (HK2.out _).mono ?_) | (with_reducible refine (HK3.out _).mono ?_) | (with_reducible refine (HK4.out _).mono ?_)); rintro e w2 ⟨rfl, rfl⟩))
        refine ⟨⟨n + 1, .slice p1 u.incs.length c1, .slice q1 u.axs.length d1, by omega, by go_num, ?_⟩, by simp [intOf]; omega⟩
        rw [HTK.out, HST.out, if_neg (by simp), if_neg (by simp), if_neg (by simp), if_neg (by simp)]
        exact HUS.out
    · obtain rfl : n = (splitF s.data.toList 10).length := by omega
      have hbw : Below w.heap.size w wr := Below.trans hb01 ⟨hqg.os, hqg.tape, hqg.output, hqg.size, fun b hb => hqg.block b (by omega) (by simp; omega)⟩
      have hwt := HWT.out (splitF s.data.toList 10).length
      rw [List.take_length] at hus hwt
      rw [show (splitF s.data.toList 10).foldl stS u0 = parS s.data.toList from rfl] at hus hwt
      have hzs := wt_sizes hwt
      have hml : 4 * (s.data.toList.length + 1) ≤ maxLen := by unfold maxLen; omega
      have HOW := Lib.hid (hus.own (Nat.le_trans hzs.1 hml) (Nat.le_trans hzs.2.1 hml) (fun x hx => Nat.le_trans (hzs.2.2.1 x hx) hml) (fun x hx => Nat.le_trans (hzs.2.2.2.1 x hx) hml))
      obtain ⟨p1, c1, q1, d1, rfl, rfl⟩ := hus.form
      obtain ⟨x0, x1, x2, x3, xf⟩ := hus.cells
      have zk := bsz hus.klt
      have hR : wr.heap[w.heap.size]? = some (.cells unitZ 24 (0, 0)) := (hqg.block _ (by omega) (by simp)).trans HR0.out
      have HPK := Lib.hid (show puOk s.data.toList = ((parS s.data.toList).good && (parS s.data.toList).txt == s.data.toList) from (puS_eq _).symm)
      have HPV := Lib.hid (show puV s.data.toList = if puOk s.data.toList then parS s.data.toList else u0 by rw [puV]; split; (exact (puS_same (by assumption)).symm); rfl)
      have hw12 : (parS s.data.toList).wt ≤ 1000000000000 := by omega
      have hwl : w.heap.size < wr.heap.size := by omega
      have HUB := Lib.hid hus
      clear hus HUS HU0 HR0 hzs hml hwt
      generalize parS s.data.toList = u at *
      cases hg : u.good
      · have HG := Lib.hid hg
        have HO := Lib.hid (show puOk s.data.toList = false by rw [HPK.out, hg]; rfl)
        clear hg
        go_wp2_with fail
        refine (l27Unit_any u _ _ _ _ wr HOW.out.at_ hw12).mono ?_
        rintro e w2 ⟨rfl, hb2⟩
        rw [HG.out]
        have hR2 := (hb2.block _ hwl).trans hR
        have rf : ∀ j, w2.frozen? ⟨w.heap.size, j, none⟩ = false := fun j => frozen_of_row w2 w.heap.size j _ _ hR2
        have r0 : w2.cell? ⟨w.heap.size, 0, none⟩ = some (.string ⟨#[]⟩) := by rw [cell_of_row w2 _ 0 _ _ (0, 0) hR2]; rfl
        have r1 : w2.cell? ⟨w.heap.size, 1, none⟩ = some (.slice none 0 0) := by rw [cell_of_row w2 _ 1 _ _ (0, 0) hR2]; rfl
        have r2 : w2.cell? ⟨w.heap.size, 2, none⟩ = some (.slice none 0 0) := by rw [cell_of_row w2 _ 2 _ _ (0, 0) hR2]; rfl
        have r3 : w2.cell? ⟨w.heap.size, 3, none⟩ = some (.string ⟨#[]⟩) := by rw [cell_of_row w2 _ 3 _ _ (0, 0) hR2]; rfl
        have zr := bsz (World.block_lt_of_cell? _ _ r0)
        clear hR2
        go_wp2
        refine bodyPost_ret (v := .tuple #[.agg #[.string ⟨#[]⟩, .slice none 0 0, .slice none 0 0, .string ⟨#[]⟩], .bool false]) (by simp only [results, Tryz.results8]; go_simp) rfl ⟨_, _, _, _, by rw [HO.out], by rw [HPV.out, HO.out]; exact (UnOwn.zero 9 _ _).at_, by (repeat (first | with_reducible exact Below.refl _ _ | with_reducible assumption | with_reducible refine Below.al ?_ _ | with_reducible refine Below.sc ?_ (by first | exact Nat.le_refl _ | (simp; done) | (simp; omega)) _ | assumption | exact Below.refl _ _ | refine Below.dr ?_ | refine Below.drN ?_ _ | refine Below.step ?_ (by assumption)))⟩
      · have HG := Lib.hid hg
        have HP2 := Lib.hid (show puOk s.data.toList = (u.txt == s.data.toList) by rw [HPK.out, hg, Bool.true_and])
        clear hg
        cases ht : (u.txt == s.data.toList)
        all_goals
          have HO := Lib.hid (HP2.out.trans ht)
          have hT := (show (u.txt == s.toList) = (u.txt == s.data.toList) by rw [ByteArray.toList_eq]).trans ht
          clear ht
          go_wp2_with fail
          refine (l27Unit_any u _ _ _ _ wr HOW.out.at_ hw12).mono ?_
          rintro e w2 ⟨rfl, hb2⟩
          rw [HG.out]
          have hk2 := HUB.out.below hb2
          obtain ⟨y0, y1, y2, y3, yf⟩ := hk2.cells
          have zk2 := bsz hk2.klt
          clear hk2
          go_wp2_with fail
          refine (l27Lines_any u _ _ _ _ w2 (HOW.out.at_.below hb2) hw12).mono ?_
          rintro e w3 ⟨rfl, hb3⟩
          have hR3 := (hb3.block _ (Nat.lt_of_lt_of_le hwl hb2.size)).trans ((hb2.block _ hwl).trans hR)
          have rf : ∀ j, w3.frozen? ⟨w.heap.size, j, none⟩ = false := fun j => frozen_of_row w3 w.heap.size j _ _ hR3
          have r0 : w3.cell? ⟨w.heap.size, 0, none⟩ = some (.string ⟨#[]⟩) := by rw [cell_of_row w3 _ 0 _ _ (0, 0) hR3]; rfl
          have r1 : w3.cell? ⟨w.heap.size, 1, none⟩ = some (.slice none 0 0) := by rw [cell_of_row w3 _ 1 _ _ (0, 0) hR3]; rfl
          have r2 : w3.cell? ⟨w.heap.size, 2, none⟩ = some (.slice none 0 0) := by rw [cell_of_row w3 _ 2 _ _ (0, 0) hR3]; rfl
          have r3 : w3.cell? ⟨w.heap.size, 3, none⟩ = some (.string ⟨#[]⟩) := by rw [cell_of_row w3 _ 3 _ _ (0, 0) hR3]; rfl
          have zr := bsz (World.block_lt_of_cell? _ _ r0)
          have hk3 := (HUB.out.below hb2).below hb3
          obtain ⟨t0, t1, t2, t3, tf⟩ := hk3.cells
          have zk3 := bsz hk3.klt
          clear hk3 hR3
          go_wp2
        · refine bodyPost_ret (v := .tuple #[.agg #[.string ⟨#[]⟩, .slice none 0 0, .slice none 0 0, .string ⟨#[]⟩], .bool false]) (by simp only [results, Tryz.results8]; go_simp) rfl ⟨_, _, _, _, by rw [HO.out], by rw [HPV.out, HO.out]; exact (UnOwn.zero 9 _ _).at_, by (repeat (first | with_reducible exact Below.refl _ _ | with_reducible assumption | with_reducible refine Below.al ?_ _ | with_reducible refine Below.sc ?_ (by first | exact Nat.le_refl _ | (simp; done) | (simp; omega)) _ | assumption | exact Below.refl _ _ | refine Below.dr ?_ | refine Below.drN ?_ _ | refine Below.step ?_ (by assumption)))⟩
        · refine bodyPost_ret (v := .tuple #[.agg #[.string u.name, .slice p1 u.incs.length c1, .slice q1 u.axs.length d1, .string u.goal], .bool true]) (by simp only [results, Tryz.results8]; go_simp) rfl ⟨_, _, _, _, by rw [HO.out], ?_, by (repeat (first | with_reducible exact Below.refl _ _ | with_reducible assumption | with_reducible refine Below.al ?_ _ | with_reducible refine Below.sc ?_ (by first | exact Nat.le_refl _ | (simp; done) | (simp; omega)) _ | assumption | exact Below.refl _ _ | refine Below.dr ?_ | refine Below.drN ?_ _ | refine Below.step ?_ (by assumption)))⟩
          rw [HPV.out, HO.out, if_pos rfl]
          refine ((HOW.out.later hb2).later hb3).at_.mono (fun b hb hlt => ?_) (fun b hb => ⟨by have := hb.1; omega, by have := hb.2; have := hb2.size; have := hb3.size; simp; omega⟩)
          have hne : b ≠ w.heap.size := by have := hb.1; omega
          exact (heap_setCell_other _ _ b _ hne).trans ((heap_setCell_other _ _ b _ hne).trans ((heap_setCell_other _ _ b _ hne).trans (heap_setCell_other _ _ b _ hne)))
end Go.Proofs.YtimpkjiglioflaaGreatDoor
namespace Go.Proofs.YtimpkjiglioflaaGreatDoor
open Go.RowKit
theorem Kept.belowB {K : Nat → Prop} {a w w' : World} (hb : Below a.heap.size a w) (hk : Kept K w w') (hK : ∀ b, K b → a.heap.size ≤ b) : Below a.heap.size a w' :=
  ⟨hk.os.trans hb.os, hk.tape.trans hb.tape, hk.output.trans hb.output, Nat.le_trans hb.size hk.size, fun b hlt => (hk.block b (Nat.lt_of_lt_of_le hlt hb.size) (fun e => by have := hK b e; omega)).trans (hb.block b hlt)⟩
end Go.Proofs.YtimpkjiglioflaaGreatDoor
namespace Go.Proofs.YtimpkjiglioflaaGreatDoor
open Go.RowKit
theorem puV_c2 (L : List UInt8) : (puV L).c2 ≤ L.length + 1 := by
  rw [puV]
  split
  · have h := parI_wt L (splitF L 10).length
    rw [List.take_length] at h
    have h : (parI L).wt ≤ L.length + 1 := h
    rw [Un.wt] at h
    rw [Un.c2]; omega
  · exact Nat.zero_le _
theorem kept_cell {S : Nat → Prop} {w w' : World} {b o : Nat} {x : Value} (hk : Kept S w w') (hS : ¬ S b) (h : w.cell? ⟨b, o, none⟩ = some x) : w'.cell? ⟨b, o, none⟩ = some x :=
  (World.cell?_of_block (a := ⟨b, o, none⟩) (hk.block b (World.block_lt_of_cell? _ _ h) hS)).trans h
set_option maxRecDepth 100000 in
set_option maxHeartbeats 3200000 in
theorem exactPU (s : ByteArray) (w : World) (hE : EnvM w) (_hs : s.size ≤ maxLen) :
    Calls Tryz.prog 3 #[.string s] w fun e w' => e = .returned (.bool true) ∧ Below w.heap.size w w' := by
  have HE := Lib.hid hE
  clear hE
  by_cases hxs : (1048576 : Int) < s.size
  · go_enter Tryz.func3, Tryz.ntmps3
    go_wp2
    go_ret
    exact ⟨rfl, by (repeat (first | with_reducible exact Below.refl _ _ | with_reducible assumption | with_reducible refine Below.al ?_ _ | with_reducible refine Below.sc ?_ (by first | exact Nat.le_refl _ | (simp; done) | (simp; omega)) _ | assumption | exact Below.refl _ _ | refine Below.dr ?_ | refine Below.drN ?_ _ | refine Below.step ?_ (by assumption)))⟩
  have hsb : s.size ≤ 1048576 := by omega
  have hc2 : (puV s.data.toList).c2 ≤ 1048577 := by have := puV_c2 s.data.toList; rw [← size_list] at this; omega
  have hpp : (puOk s.data.toList != puOk s.data.toList) = false := by simp
  clear hxs _hs
  have HSP := Lib.hid (fun w' => specPU_any s w' hsb)
  have HIM := Lib.hid (fun w' hE' => implPU_any s w' hsb hE')
  generalize puV s.data.toList = u at *
  generalize puOk s.data.toList = ok at *
  go_enter Tryz.func3, Tryz.ntmps3
  go_wp2_with fail
  refine (HSP.out _).mono ?_
  rintro e w1 ⟨v0, v1, v2, v3, rfl, hA, hb1⟩
  have ⟨cw1, fw1⟩ := bcell hb1
  have qw1 := hb1.size
  (try simp at qw1)
  (try have zw1w := bsz (show w.heap.size < w1.heap.size by omega))
  have HA := Lib.hid hA
  obtain ⟨pa, ca, qa, da, rfl, rfl, rfl, rfl, -⟩ := hA.form
  clear hA
  go_wp2_with fail
  refine (HIM.out _ (HE.out.below (by (repeat (first | with_reducible exact Below.refl _ _ | with_reducible assumption | with_reducible refine Below.al ?_ _ | with_reducible refine Below.sc ?_ (by first | exact Nat.le_refl _ | (simp; done) | (simp; omega)) _ | assumption | exact Below.refl _ _ | refine Below.dr ?_ | refine Below.drN ?_ _ | refine Below.step ?_ (by assumption)))))).mono ?_
  rintro e w2 ⟨g0, g1, g2, g3, rfl, hG, hb2⟩
  have ⟨cw2, fw2⟩ := bcell hb2
  have qw2 := hb2.size
  (try simp at qw2)
  (try have zw2w := bsz (show w.heap.size < w2.heap.size by omega))
  (try have zw2w1 := bsz (show w1.heap.size < w2.heap.size by omega))
  have HG := Lib.hid hG
  obtain ⟨pg, cg, qg, dg, rfl, rfl, rfl, rfl, -⟩ := hG.at_.form
  clear hG
  go_wp2_with fail
  refine (eqUnit_same u _ _ _ _ _ _ _ _ _ (HG.out.at_.below (by (repeat (first | with_reducible exact Below.refl _ _ | with_reducible assumption | with_reducible refine Below.al ?_ _ | with_reducible refine Below.sc ?_ (by first | exact Nat.le_refl _ | (simp; done) | (simp; omega)) _ | assumption | exact Below.refl _ _ | refine Below.dr ?_ | refine Below.drN ?_ _ | refine Below.step ?_ (by assumption))))) (HA.out.below (by (repeat (first | with_reducible exact Below.refl _ _ | with_reducible assumption | with_reducible refine Below.al ?_ _ | with_reducible refine Below.sc ?_ (by first | exact Nat.le_refl _ | (simp; done) | (simp; omega)) _ | assumption | exact Below.refl _ _ | refine Below.dr ?_ | refine Below.drN ?_ _ | refine Below.step ?_ (by assumption)))))).mono ?_
  rintro e w3 ⟨rfl, hb3⟩
  have ⟨cw3, fw3⟩ := bcell hb3
  have qw3 := hb3.size
  (try simp at qw3)
  (try have zw3w := bsz (show w.heap.size < w3.heap.size by omega))
  (try have zw3w1 := bsz (show w1.heap.size < w3.heap.size by omega))
  (try have zw3w2 := bsz (show w2.heap.size < w3.heap.size by omega))
  go_wp2_with fail
  have a30 : w3.cell? ⟨w1.heap.size, 0, none⟩ = some (.string u.name) := by go_simp
  have a31 : w3.cell? ⟨w1.heap.size, 1, none⟩ = some (.slice pa u.incs.length ca) := by go_simp
  have a32 : w3.cell? ⟨w1.heap.size, 2, none⟩ = some (.slice qa u.axs.length da) := by go_simp
  have a33 : w3.cell? ⟨w1.heap.size, 3, none⟩ = some (.string u.goal) := by go_simp
  have g30 : w3.cell? ⟨w2.heap.size, 0, none⟩ = some (.string u.name) := by go_simp
  have g31 : w3.cell? ⟨w2.heap.size, 1, none⟩ = some (.slice pg u.incs.length cg) := by go_simp
  have g32 : w3.cell? ⟨w2.heap.size, 2, none⟩ = some (.slice qg u.axs.length dg) := by go_simp
  have g33 : w3.cell? ⟨w2.heap.size, 3, none⟩ = some (.string u.goal) := by go_simp
  refine (markUnit_any _ u _ _ _ _ 1 _ (HG.out.later (by (repeat (first | with_reducible exact Below.refl _ _ | with_reducible assumption | with_reducible refine Below.al ?_ _ | with_reducible refine Below.sc ?_ (by first | exact Nat.le_refl _ | (simp; done) | (simp; omega)) _ | assumption | exact Below.refl _ _ | refine Below.dr ?_ | refine Below.drN ?_ _ | refine Below.step ?_ (by assumption))))) (fun b hb => by have := hb.2; omega) (by decide) (by omega)).mono ?_
  rintro e w4 ⟨rfl, hM, hk4⟩
  have a40 : w4.cell? ⟨w1.heap.size, 0, none⟩ = some (.string u.name) := kept_cell hk4 (fun hb => by have := hb.1; simp only [World.size_alloc] at this; omega) a30
  have a41 : w4.cell? ⟨w1.heap.size, 1, none⟩ = some (.slice pa u.incs.length ca) := kept_cell hk4 (fun hb => by have := hb.1; simp only [World.size_alloc] at this; omega) a31
  have a42 : w4.cell? ⟨w1.heap.size, 2, none⟩ = some (.slice qa u.axs.length da) := kept_cell hk4 (fun hb => by have := hb.1; simp only [World.size_alloc] at this; omega) a32
  have a43 : w4.cell? ⟨w1.heap.size, 3, none⟩ = some (.string u.goal) := kept_cell hk4 (fun hb => by have := hb.1; simp only [World.size_alloc] at this; omega) a33
  have g40 : w4.cell? ⟨w2.heap.size, 0, none⟩ = some (.string u.name) := kept_cell hk4 (fun hb => by have := hb.2; omega) g30
  have g41 : w4.cell? ⟨w2.heap.size, 1, none⟩ = some (.slice pg u.incs.length cg) := kept_cell hk4 (fun hb => by have := hb.2; omega) g31
  have g42 : w4.cell? ⟨w2.heap.size, 2, none⟩ = some (.slice qg u.axs.length dg) := kept_cell hk4 (fun hb => by have := hb.2; omega) g32
  have g43 : w4.cell? ⟨w2.heap.size, 3, none⟩ = some (.string u.goal) := kept_cell hk4 (fun hb => by have := hb.2; omega) g33
  have za4 := bsz (World.block_lt_of_cell? _ _ a40)
  have zg4 := bsz (World.block_lt_of_cell? _ _ g40)
  have HM := Lib.hid hM
  have hb34 : Below w.heap.size w w4 := Kept.belowB (show Below w.heap.size w w3 by (repeat (first | with_reducible exact Below.refl _ _ | with_reducible assumption | with_reducible refine Below.al ?_ _ | with_reducible refine Below.sc ?_ (by first | exact Nat.le_refl _ | (simp; done) | (simp; omega)) _ | assumption | exact Below.refl _ _ | refine Below.dr ?_ | refine Below.drN ?_ _ | refine Below.step ?_ (by assumption)))) hk4 (fun b hb => by have := hb.1; simp at this; omega)
  have HA4 := Lib.hid ((HA.out.below (show Below w1.heap.size w1 w3 by (repeat (first | with_reducible exact Below.refl _ _ | with_reducible assumption | with_reducible refine Below.al ?_ _ | with_reducible refine Below.sc ?_ (by first | exact Nat.le_refl _ | (simp; done) | (simp; omega)) _ | assumption | exact Below.refl _ _ | refine Below.dr ?_ | refine Below.drN ?_ _ | refine Below.step ?_ (by assumption))))).mono (fun b hb hlt => hk4.block b hlt (fun hb' => by have := hb'.1; have := hb.2; simp at *; omega)) (fun _ h => h))
  clear hM hk4 cw1 cw2 cw3 fw1 fw2 fw3 a30 g30 a31 g31 a32 g32 a33 g33
  go_wp2_with fail
  refine (heldUnit_any u _ _ _ _ 1 _ HM.out.at_ (by decide) (by omega)).mono ?_
  rintro e w5 ⟨rfl, hb5⟩
  have hkk : ¬ ((1 : Int) + (u.c2 : Nat) < 0) := by omega
  have hb05 : Below w.heap.size w w5 := Below.step hb34 hb5
  go_wp2_with fail
  refine (HIM.out _ (HE.out.below hb05)).mono ?_
  rintro e w6 ⟨h0, h1, h2, h3, rfl, hH, hb6⟩
  have HH := Lib.hid hH
  obtain ⟨ph, ch, qh, dh, rfl, rfl, rfl, rfl, -⟩ := hH.at_.form
  have hb46 : Below w4.heap.size w4 w6 := Below.step hb5 hb6
  have hb06 : Below w.heap.size w w6 := Below.step hb05 hb6
  clear hH
  have a60 : w6.cell? ⟨w1.heap.size, 0, none⟩ = some (.string u.name) := (hb46.cell za4.1).trans a40
  have a61 : w6.cell? ⟨w1.heap.size, 1, none⟩ = some (.slice pa u.incs.length ca) := (hb46.cell za4.1).trans a41
  have a62 : w6.cell? ⟨w1.heap.size, 2, none⟩ = some (.slice qa u.axs.length da) := (hb46.cell za4.1).trans a42
  have a63 : w6.cell? ⟨w1.heap.size, 3, none⟩ = some (.string u.goal) := (hb46.cell za4.1).trans a43
  have g60 : w6.cell? ⟨w2.heap.size, 0, none⟩ = some (.string u.name) := (hb46.cell zg4.1).trans g40
  have g61 : w6.cell? ⟨w2.heap.size, 1, none⟩ = some (.slice pg u.incs.length cg) := (hb46.cell zg4.1).trans g41
  have g62 : w6.cell? ⟨w2.heap.size, 2, none⟩ = some (.slice qg u.axs.length dg) := (hb46.cell zg4.1).trans g42
  have g63 : w6.cell? ⟨w2.heap.size, 3, none⟩ = some (.string u.goal) := (hb46.cell zg4.1).trans g43
  have za6 := bsz (World.block_lt_of_cell? _ _ a60)
  have zg6 := bsz (World.block_lt_of_cell? _ _ g60)
  clear a40 a41 a42 a43 g40 g41 g42 g43 hb6 hb5
  go_wp2_with fail
  refine (eqUnit_same u _ _ _ _ _ _ _ _ _ (HH.out.at_.below (by (repeat (first | with_reducible exact Below.refl _ _ | with_reducible assumption | with_reducible refine Below.al ?_ _ | with_reducible refine Below.sc ?_ (by first | exact Nat.le_refl _ | (simp; done) | (simp; omega)) _ | assumption | exact Below.refl _ _ | refine Below.dr ?_ | refine Below.drN ?_ _ | refine Below.step ?_ (by assumption))))) ((HA4.out.below hb46).below (by (repeat (first | with_reducible exact Below.refl _ _ | with_reducible assumption | with_reducible refine Below.al ?_ _ | with_reducible refine Below.sc ?_ (by first | exact Nat.le_refl _ | (simp; done) | (simp; omega)) _ | assumption | exact Below.refl _ _ | refine Below.dr ?_ | refine Below.drN ?_ _ | refine Below.step ?_ (by assumption)))))).mono ?_
  rintro e w7 ⟨rfl, hb7⟩
  have g70 : w7.cell? ⟨w2.heap.size, 0, none⟩ = some (.string u.name) := (hb7.cell (Nat.lt_of_lt_of_le zg6.1 (by simp))).trans (by go_simp)
  have g71 : w7.cell? ⟨w2.heap.size, 1, none⟩ = some (.slice pg u.incs.length cg) := (hb7.cell (Nat.lt_of_lt_of_le zg6.1 (by simp))).trans (by go_simp)
  have g72 : w7.cell? ⟨w2.heap.size, 2, none⟩ = some (.slice qg u.axs.length dg) := (hb7.cell (Nat.lt_of_lt_of_le zg6.1 (by simp))).trans (by go_simp)
  have g73 : w7.cell? ⟨w2.heap.size, 3, none⟩ = some (.string u.goal) := (hb7.cell (Nat.lt_of_lt_of_le zg6.1 (by simp))).trans (by go_simp)
  have zg7 := bsz (World.block_lt_of_cell? _ _ g70)
  have hb67 : Below w6.heap.size w6 w7 := by (repeat (first | with_reducible exact Below.refl _ _ | with_reducible assumption | with_reducible refine Below.al ?_ _ | with_reducible refine Below.sc ?_ (by first | exact Nat.le_refl _ | (simp; done) | (simp; omega)) _ | assumption | exact Below.refl _ _ | refine Below.dr ?_ | refine Below.drN ?_ _ | refine Below.step ?_ (by assumption)))
  clear g60 g61 g62 g63 a60 a61 a62 a63
  go_wp2_with fail
  refine (heldUnit_any u _ _ _ _ 1 _ ((HM.out.at_.below hb46).below hb67) (by decide) (by omega)).mono ?_
  rintro e w8 ⟨rfl, hb8⟩
  go_wp2
  go_ret
  exact ⟨rfl, Below.step (Below.step hb06 hb67) hb8⟩
end Go.Proofs.YtimpkjiglioflaaGreatDoor
namespace Go.Proofs.YtimpkjiglioflaaGreatDoor
open Go.ChangeShapes Go.WideShapes Go.ChangeAt Go.RowKit Go.Joins
theorem own : ownKnob Tryz.prog.godebug = none := by kernel_rfl
theorem laidOut : laidOutB Tryz.prog = true := by kernel_rfl
theorem trodAll_stays {H : Type} {enc : TypeId × Value → H} {P : Program} (hl : laidOutB P = true) {W W' : World} {sp : Nat → Bool} : ∀ (ts : List TypeId) (vs : List Value) (ds : List (DataW H)) (ps : List MemPlace),
    (∀ t ∈ ts, P.readableRec t = true ∧ t < P.types.size) → DataW.TrodAll enc P W 0 (fun _ => true) true ts vs ds ps → (∀ x ∈ ps, W.sameAt W' x) → (∀ x ∈ ps, sp x.block = true) → DataW.TrodAll enc P W' 0 sp true ts vs ds ps
  | [], vs, ds, ps, _, h, _, _ => by
    cases vs <;> cases ds <;> simp_all [DataW.TrodAll]
  | t :: ts, [], ds, ps, _, h, _, _ => by simp [DataW.TrodAll] at h
  | t :: ts, v :: vs, [], ps, _, h, _, _ => by simp [DataW.TrodAll] at h
  | t :: ts, v :: vs, d :: ds, ps, ht, h, hs, hp => by
    obtain ⟨p, q, h1, h2, rfl⟩ := h
    exact ⟨p, q, WideElems.Trod_stays hl (ht t (by simp)).1 (ht t (by simp)).2 h1 (fun x hx => hs x (by simp [hx])) (fun x hx => hp x (by simp [hx])),
      trodAll_stays hl ts vs ds q (fun t h => ht t (by simp [h])) h2 (fun x hx => hs x (by simp [hx])) (fun x hx => hp x (by simp [hx])), rfl⟩
/-- The row's last step, the same for every law: it answers true, nothing that was there has turned. -/
theorem close_true {H : Type} {enc : TypeId × Value → H} {f : Func} {s : ChangeSpec} {W W' : World} {args : Array Value} {ds gs : List (DataW H)} {before : List MemPlace}
    (hW : DataW.Whole enc Tryz.prog f.params.toList s.vars false W args.toList ds gs before) (hv : s.vars = []) (hr : f.resultTypes = #[4])
    (hp : f.params.toList.all (fun t => Tryz.prog.readableRec t && decide (t < Tryz.prog.types.size)) = true) (hfn : s.fn H ds = { results := [.lit (.bool true)], args := ds }) (hb : Below W.heap.size W W') :
    s.post enc Tryz.prog f false true false false W args (.bool true) W' := by
  have hW2 := hW
  have hlt : ∀ p ∈ before, p.block < W.heap.size := fun p hp => hW.lt p hp
  obtain ⟨p, q, hA, hV, rfl, _, _⟩ := hW2
  rw [hv] at hV
  obtain ⟨rfl, rfl⟩ := trodVars_none hV
  rw [List.append_nil] at hlt
  refine ⟨ds, [], p ++ [], [], p, [], hW, ?_, ?_, ?_, hb.frame _, fun h => by cases h⟩
  · rw [List.append_nil, hfn, hr]; exact trodAll_mk1 (shut_bool Tryz.underlying4 true)
  · rw [List.append_nil, hfn]
    refine trodAll_stays laidOut _ _ _ _ (fun t ht => ?_) hA (fun x hx => hb.same (hlt x hx)) (fun x hx => by simpa using hlt x hx)
    have := List.all_eq_true.1 hp t ht
    simpa using this
  · rw [List.append_nil, hfn, hv]; rfl
def layTab (k : IntKind) (zs : List Int) : Obj → Obj
  | .cells _ t frozen => .cells (zs.map fun z => Value.int k z).toArray t frozen
  | o => o
end Go.Proofs.YtimpkjiglioflaaGreatDoor
namespace Go.Proofs.YtimpkjiglioflaaGreatDoor.fnExactParseUnitLaw
open Go.ChangeShapes Go.WideShapes Go.ChangeAt Go.RowKit Go.Joins Go.ChangeMaps
def tabFirst : List Int := List.replicate 128 240 ++ List.replicate 66 241 ++ List.replicate 30 2 ++ [19] ++ List.replicate 12 3 ++ [35, 3, 3, 52, 4, 4, 4, 68] ++ List.replicate 11 241
def tabAcc : List Int := [128, 191, 160, 191, 128, 159, 144, 191, 128, 143] ++ List.replicate 22 0
/-- A world for the witness: the settled one, the tables holding what their initialisers lay. -/
noncomputable def laidWorldU (os : Os) : World :=
  { World.holding Tryz.prog os ⟨#[], #[], []⟩ with heap := ((World.holding Tryz.prog os ⟨#[], #[], []⟩).heap.modify 1 (layTab .u8 tabFirst)).modify 2 (layTab .u8 tabAcc) }
set_option maxRecDepth 100000 in
theorem env {W : World} (hS : W.ShapedOpen Tryz.prog) : EnvM W :=
  Go.Proofs.cell_of_shapedOpen_int (zero := #[.int .i64 0]) (t := 3) hS (of_decide_eq_true (by kernel_rfl)) (by kernel_rfl) rfl (by kernel_rfl) (by kernel_rfl) Tryz.underlying3
set_option maxRecDepth 100000 in
theorem contract (H : Type) (enc : TypeId × Value → H) (W : World) (base : Nat) (args : Array Value) (ds gs : List (DataW H)) (before : List MemPlace)
    (hval : ∀ (j : Nat) t v, Tryz.f3.params[j]? = some t → args[j]? = some v → Value.okWide Tryz.prog W .any base t v)
    (hW : DataW.Whole enc Tryz.prog Tryz.f3.params.toList Rows.fnExactParseUnitSpec.vars false W args.toList ds gs before) (hE : EnvM W) :
    Calls Tryz.prog 3 args W fun e W' => ∃ v, e = .returned v ∧ Rows.fnExactParseUnitSpec.post enc Tryz.prog Tryz.f3 false true false false W args v W' := by
  have hW' := hW
  obtain ⟨p, q, hA0, hV, rfl, hfz, hnd⟩ := hW
  have hA : DataW.TrodAll enc Tryz.prog W 0 (fun _ => true) true Tryz.f3.params.toList args.toList ds p := hA0
  rw [Tryz.params3] at hA hval
  obtain ⟨v0, vs0, d0, ds0, p0, q0, hargs, rfl, rfl, h0, r0⟩ := trodAll_cons hA
  obtain ⟨rfl, rfl, rfl⟩ := trodAll_nil r0
  obtain rfl : args = #[v0] := Array.ext' hargs
  obtain ⟨s0, rfl, rfl, rfl, hs0⟩ := open_string Tryz.underlying9 (hval 0 9 v0 rfl rfl) h0
  clear hA0
  refine (exactPU s0 W hE hs0).mono fun e W' ⟨he, hb⟩ => ?_
  subst he
  exact ⟨_, rfl, close_true hW' rfl (by kernel_rfl) (by kernel_rfl) rfl hb⟩
theorem laid_met (os : Os) : laidMet Tryz.prog Rows.fnExactParseUnitRow.laid ((laidWorldU os).forCall (fun _ _ => 0) ⟨#[], #[.string ⟨#[]⟩], []⟩).memory :=
  laidMet_of_run' 8 (by kernel_rfl) (by kernel_rfl)
theorem reads (os : Os) {H : Type} (enc : TypeId × Value → H) : ∃ places, DataW.whole enc Tryz.prog ((laidWorldU os).forCall (fun _ _ => 0) ⟨#[], #[.string ⟨#[]⟩], []⟩).memory Tryz.f3.params.toList Rows.fnExactParseUnitSpec.vars false (#[.string ⟨#[]⟩] : Array Value).toList 8 = some ([.lit (.string [])], [], places) :=
  ⟨[], by kernel_rfl⟩
set_option maxRecDepth 100000 in
theorem lifted (os : Os) (started : os.Started) (H : Type) (enc : TypeId × Value → H) (F : Stop.Interp) :
    ReturnsInHanded {} Tryz.checked os 3 .any ((OpenSpec.ofChange Rows.fnExactParseUnitSpec).preRow enc Tryz.prog Tryz.f3 Rows.fnExactParseUnitRow.domain false Rows.fnExactParseUnitRow.laid) (((OpenSpec.ofChange Rows.fnExactParseUnitSpec).at F).post enc Tryz.prog Tryz.f3 false true false false) := by
  obtain ⟨places, hx⟩ := reads os enc
  refine returnsInHanded_of_row (C := Tryz.checked) (s := OpenSpec.ofChange Rows.fnExactParseUnitSpec) own started (by kernel_rfl) Tryz.func3
    (witness_row_at (enc := enc) (C := Tryz.checked) false (laidWorldU os) #[.string ⟨#[]⟩] rfl (by kernel_rfl) (by kernel_rfl) (by kernel_rfl)
      (OpenSpec.preRow_of_cond 8 hx (by kernel_rfl) (fun k hk => by cases hk) (by kernel_rfl) (laid_met os))) ?_
  intro W base args ds gs before hval hW _ _ _ hL hS _
  exact contract H enc W base args ds gs before hval hW (env hS)
theorem said : Rows.FnExactParseUnitSaid :=
  OpenClaim.holds_of_cond 3 Tryz.f3 rfl rfl rfl rfl rfl rfl rfl ⟨rfl, rfl, rfl, rfl, rfl⟩ rfl rfl rfl rfl rfl (by kernel_rfl) Tryz.func3 (by kernel_rfl)
    (of_decide_eq_true (by kernel_rfl)) (by unfold Func.isWrapper; first | (rw [if_pos (by decide +kernel)]; kernel_rfl) | (rw [if_neg (by decide +kernel)]; exact ⟨rfl, rfl⟩))
    (fun os started H enc _ F => by rw [OpenClaim.pre_eq_preRow]; exact lifted os started H enc F)
theorem plain (f : FuncId) (fn : Func) (hf : Tryz.pinned.checked.prog.funcNamed "loop.example/g00892/laws.FnExactParseUnit" = some f) (hfn : Tryz.pinned.checked.prog.funcs[f]? = some fn) :
    false = Tryz.pinned.checked.prog.looks [] ∧ ∀ (j : Nat) t, fn.params[j]? = some t → Tryz.pinned.checked.prog.wantsStandIn t = false := by
  obtain rfl : f = 3 := Option.some.inj ((show Tryz.prog.funcNamed "loop.example/g00892/laws.FnExactParseUnit" = some 3 by kernel_rfl).symm.trans hf) |>.symm
  obtain rfl : fn = Tryz.f3 := (Option.some.inj (Tryz.func3.symm.trans hfn)).symm
  refine ⟨by kernel_rfl, fun j t ht => ?_⟩
  have hall : Tryz.f3.params.toList.all (fun t => Tryz.prog.wantsStandIn t == false) = true := by kernel_rfl
  exact beq_iff_eq.1 (List.all_eq_true.1 hall t (by simpa using Array.mem_of_getElem? ht))
theorem card : Rows.FnExactParseUnitCardSaid :=
  Claim7.holds_tied_plain_at .later [] _ _ _ _ said (fun _ h => by cases h) (by kernel_rfl) (fun _ h => by cases h) fnExactParseUnit_row_tie rfl ⟨rfl, rfl⟩ (by kernel_rfl) rfl plain (by kernel_rfl)
end Go.Proofs.YtimpkjiglioflaaGreatDoor.fnExactParseUnitLaw
