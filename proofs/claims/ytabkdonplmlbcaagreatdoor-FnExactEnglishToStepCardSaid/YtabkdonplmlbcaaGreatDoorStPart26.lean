import Derived.Test.YtabkdonplmlbcaaGreatDoorStPart25
namespace Go.Proofs.YtabkdonplmlbcaaGreatDoor
set_option maxRecDepth 100000
open Go.RowKit
def intW (l : List Int) : List Value := l.map (Value.int .i64)
theorem intW_snoc (l : List Int) (n : Int) : intW (l ++ [n]) = intW l ++ [Value.int .i64 n] := by simp [intW]
theorem rowI_own {S : Nat → Prop} {w : World} {base : Nat} {e : TypeId} {v : Value} {us : List Int} (h : w.ownsRow base e 1 v us.length (intW us)) (hz : ∀ n ∈ us, i64B n) (hm : us.length ≤ maxLen) (hS : ∀ g, v.ownBlock = some g → S g) : IntOwn e S w us v := by
 refine ⟨hm, intW us, fun _ _ => False, own_lower h (Nat.zero_le _), hS, fun i x hx => ⟨⟨?_, hz x (List.mem_of_getElem? hx)⟩, fun b hb => hb.elim⟩, fun i j b hi hj hij hb => hb.elim⟩
 have hi := (List.getElem?_eq_some_iff.1 hx).1
 have hx' := (List.getElem?_eq_some_iff.1 hx).2
 rw [Nat.mul_one, List.drop_eq_getElem_cons (by simpa [intW] using hi), List.take_succ_cons, List.take_zero]
 simp [intW, hx']
theorem i64_6 {n : Int} (h : -999999 ≤ n ∧ n ≤ 999999) : i64B n := ⟨by omega, by omega⟩
theorem elemIntE : Elem Tryz.prog 22 3 1 8 := elem_of Tryz.underlying22 (z := .int .i64 0) (by kernel_rfl) rfl (by omega)
def PosV (l : List UInt8) (w : World) (e : Ending) (w' : World) : Prop := ∃ v, e = .returned (.tuple #[v, .bool (rdPos l).isSome]) ∧ IntOwn 3 (NewB w w') w' ((rdPos l).getD []) v ∧ Below w.heap.size w w'
def PosRel (ws : List (List UInt8)) (h0 : Nat) (w1 : World) (out i : Value) (wr : World) : Prop :=
 ∃ (k : Nat) (l : List Int), k ≤ ws.length ∧ i = .int .i64 k ∧ rdAll (ws.take k) = some l ∧ l.length = k ∧ wr.ownsRow h0 3 1 out k (intW l) ∧ (∀ b, out.ownBlock = some b → b = h0 ∨ w1.heap.size ≤ b) ∧ w1.grownBy wr (some h0)
theorem rdPos_some {s : List UInt8} {l : List Int} (hn : s ≠ [45]) (h : rdAll (splitF s 46) = some l) : rdPos s = (if posB l then some l else none) ∧ l ≠ [] ∧ posT l = s := by
 have h1 := (rdAll_back h).1
 have h0 : l ≠ [] := by
  rintro rfl
  have := splitF_ne s 46
  rw [← h1] at this; simp at this
 refine ⟨by rw [rdPos, if_neg hn, h], h0, ?_⟩
 rw [posT, if_neg h0, h1, joinF_split]
theorem rdPos_none {s : List UInt8} (hn : s ≠ [45]) (h : rdAll (splitF s 46) = none) : rdPos s = none := by rw [rdPos, if_neg hn, h]
set_option maxHeartbeats 1600000 in
theorem formatNil_any (w : World) (p : Option Addr) (c : Nat) : Calls Tryz.prog 80 #[.slice p 0 c] w fun e w' => e = .returned (.string ⟨#[45]⟩) ∧ Below w.heap.size w w' := by
 go_enter Tryz.func80, Tryz.ntmps80
 go_wp2
 go_ret
 exact ⟨rfl, by exact bel⟩
set_option maxHeartbeats 3200000 in
theorem implPPos_any (s : ByteArray) (hs : s.size ≤ 1000000) (w : World) (hE : Env w) (hV : EnvE w) :
  Calls Tryz.prog 66 #[.string s] w (PosV s.data.toList w) := by
 have HE := Lib.hid hE
 have HV := Lib.hid hV
 clear hE hV
 by_cases hd : s.data.toList = [45]
 ·obtain rfl : s = ⟨#[45]⟩ := str_eq hd
  clear hd
  go_enter Tryz.func66, Tryz.ntmps66
  go_wp2_with fail
  refine (isPosition_any (B := fun _ => True) [] _ _ ⟨_, _, rfl, by decide, fun i x hx => by simp at hx⟩).mono ?_
  rintro e w1 ⟨rfl, hb1⟩
  go_wp2_with fail
  refine (formatNil_any _ _ _).mono ?_
  rintro e w2 ⟨rfl, hb2⟩
  go_wp2
  have hq := hb1.size
  have hq2 := hb2.size
  simp at hq
  go_ret2
  refine ⟨_, rfl, ?_, by exact bel⟩
  exact rowI_own (us := []) (own_below (own_below (row_empty _ _ _ _ (Nat.le_refl _)) hb1) hb2) (by simp) (by simp) (fun g hg => by simp [Value.ownBlock] at hg; subst hg; exact ⟨Nat.le_refl _, by omega⟩)
 ·have HD := Lib.hid hd
  have hns : (s.toList == [45]) = false := by rw [Lib.toList_data]; simpa using hd
  obtain ⟨ws, hws⟩ : ∃ ws, splitF s.data.toList 46 = ws := ⟨_, rfl⟩
  have HWS := Lib.hid hws
  have hwl : ws.length ≤ s.size + 1 := by
   rw [← hws, count_split]
   have := List.length_filter_le (fun c => c == 46) s.data.toList
   have : Lib.countByte s.data.toList 46 ≤ s.data.toList.length := by unfold Lib.countByte; first | exact List.count_le_length | exact List.countP_le_length | exact List.length_filter_le _ _
   rw [← size_list] at this; omega
  have HWZ := Lib.hid (show ∀ x ∈ ws, x.length ≤ s.size from fun x hx => by
   have h1 := lsum_mem hx
   rw [← hws, lsum_split, ← size_list] at h1; omega)
  clear hd
  go_enter Tryz.func66, Tryz.ntmps66
  go_wp2_with fail
  refine (strSplit_any s 46 _ (by omega)).mono ?_
  rw [hws]
  rintro e w1 ⟨g, rfl, hl1, hb1⟩
  have hq1 := hb1.size
  simp at hq1
  have HLS := Lib.hid hl1.at_
  have HB1 := Lib.hid hb1
  clear hl1 hws
  rw [List.length_map] at HLS ⊢
  go_wp2
  have hp1 : w.heap.size < w1.heap.size := by omega
  go_loopw [4, 15] (PosRel ws w.heap.size w1) (fun _ i _ => ws.length - (intOf i).toNat)
  case atStart => exact ⟨0, [], Nat.zero_le _, rfl, rfl, rfl, own_below (row_empty _ _ _ _ (Nat.le_refl _)) HB1.out, fun b e => by simp [Value.ownBlock] at e; exact .inl e.symm, gr_refl _ _⟩
  case round =>
   obtain ⟨k, l, hk, rfl, hrd, hkl, ho, hob, hgr⟩ := hrel
   have HO := Lib.hid ho
   have HRD := Lib.hid hrd
   have HOB := Lib.hid hob
   have HB := Lib.hid (show Below w.heap.size w wr from by
    have h1 : Below w.heap.size w w1 := Below.step ((Below.refl _ _).alloc (Nat.le_refl _) _) HB1.out
    exact ⟨hgr.os.trans h1.os, hgr.tape.trans h1.tape, hgr.output.trans h1.output, by have := hgr.size; omega, fun b hb => (hgr.block b (by omega) (by simp; omega)).trans (h1.block b hb)⟩)
   have hqr := hgr.size
   clear ho hrd hob
   by_cases hlt : k < ws.length
   ·have hlti : (k : Int) < ws.length := by omega
    obtain ⟨b', o', ebo, hB', hy0, hys⟩ := HLS.out.at_ (i := k) (by rw [List.length_map]; exact hlt)
    simp only [Option.some.injEq, Addr.mk.injEq, and_true] at ebo
    obtain ⟨rfl, rfl⟩ := ebo
    rw [List.getElem_map] at hy0 hys
    rw [Nat.zero_add] at hy0
    have hgn : g ≠ w.heap.size := by have := hB'.1; simp at this; omega
    have y0 := (World.cell?_of_block (a := ⟨g, k, none⟩) (hgr.block g hB'.2 (by simpa using hgn))).trans hy0
    have zy := bsz (World.block_lt_of_cell? _ _ y0)
    have hwz := HWZ.out _ (List.getElem_mem hlt)
    obtain ⟨a, ha⟩ : ∃ a, ws[k] = a := ⟨_, rfl⟩
    have HA := Lib.hid ha
    rw [ha] at y0 hwz
    clear hy0 hys ha
    go_wp2_with fail
    refine (parseInt_any (baL a) (by rw [baL_size]; omega) _ (HE.out.below HB.out) (HV.out.below HB.out)).mono ?_
    rw [baL_list]
    rintro e w2 ⟨rfl, hb2⟩
    have hq2 := hb2.size
    cases hr : rdInt a with
    | none =>
     have HN := Lib.hid (show rdPos s.data.toList = none from rdPos_none HD.out (by rw [HWS.out]; exact rdAll_none (List.getElem_mem hlt) (by rw [HA.out]; exact hr)))
     clear hr
     go_wp2
     go_ret2
     exact ⟨_, by rw [HN.out]; rfl, by rw [HN.out]; exact OwnRow.nil _ _ _ _ _, Below.step HB.out hb2⟩
    | some n =>
     have hnb := (rdInt_of hr)
     have HTK := Lib.hid (show rdAll (ws.take (k + 1)) = some (l ++ [n]) from by rw [List.take_succ_eq_append_getElem hlt, rdAll_snoc, HRD.out, HA.out, hr]; rfl)
     have HO1 := Lib.hid (own_below HO.out hb2)
     clear hr hnb
     go_wp2_with (at_builtin; refine wpList_app1 rfl (.tmp 26) (.tmp 28) _ rfl w.heap.size 3 1 8 elemIntE _ _ _ rfl w2 #[.int .i64 n] rfl _ (by simp) rfl HO1.out rfl (by simp [Value.oneCell']) (by omega) (by unfold maxLen; omega) (by omega) ?_; intro v1 w3 hown1 hg1 hnr1 hlt1)
     refine ⟨⟨k + 1, l ++ [n], by omega, by go_num, HTK.out, by simp [hkl], by rw [intW_snoc]; exact hown1, fun b e => ?_, ?_⟩, by simp [intOf]; omega⟩
     ·rcases hnr1 with h1 | ⟨b2, h1, h2⟩
      ·rw [h1] at e; exact HOB.out b e
      ·rw [h1] at e; injection e with e; exact .inr (by omega)
     ·have hz3 := hg1.size
      exact ⟨hg1.os.trans (hb2.os.trans hgr.os), hg1.tape.trans (hb2.tape.trans hgr.tape), hg1.output.trans (hb2.output.trans hgr.output), by omega, fun b hb hn => (hg1.block b (by omega) (fun e => (HOB.out b e.symm).elim (fun e => hn (by rw [e])) (fun e => by omega))).trans ((hb2.block b (by omega)).trans (hgr.block b hb hn))⟩
   ·obtain rfl : k = ws.length := by omega
    have hrd := HRD.out
    rw [List.take_length, ← HWS.out] at hrd
    obtain ⟨r1, r2, r3⟩ := rdPos_some HD.out hrd
    have hbd := (rdAll_back hrd).2
    have HR := Lib.hid (And.intro r1 (And.intro r2 (And.intro r3 hbd)))
    have HOW := Lib.hid (show IntOwn 3 (NewB w wr) wr l _ from rowI_own (by rw [hkl]; exact HO.out) (fun n hn => i64_6 (hbd n hn)) (by unfold maxLen; omega) (fun b e => ⟨own_base HO.out b e, own_lt' HO.out e⟩))
    clear hrd r1 r2 r3 hbd
    go_wp2_with fail
    refine (isPosition_any l _ _ HOW.out.at_).mono ?_
    rintro e w2 ⟨rfl, hb2⟩
    have hq2 := hb2.size
    cases hp : posB l
    ·have HPB := Lib.hid hp
     clear hp
     go_wp2
     go_ret2
     have hn : rdPos s.data.toList = none := by rw [HR.out.1, HPB.out]; rfl
     exact ⟨_, by rw [hn]; rfl, by rw [hn]; exact OwnRow.nil _ _ _ _ _, Below.step HB.out hb2⟩
    ·have HPB := Lib.hid hp
     have hdd := posB_dec hp
     have hl8 : l.length ≤ 8 := by simp only [posB, Bool.and_eq_true, decide_eq_true_eq] at hp; exact hp.1
     clear hp
     go_wp2_with fail
     refine (formatPosition_any l _ _ (IntsAt.below hb2 HOW.out.at_) HR.out.2.1 (fun x hx => by have := hdd x hx; omega) (by omega) (HE.out.below (Below.step HB.out hb2))).mono ?_
     rintro e w3 ⟨rfl, hb3⟩
     have hps : (⟨(posT l).toArray⟩ : ByteArray) = s := (str_eq HR.out.2.2.1.symm).symm
     rw [hps]
     go_wp2
     go_ret2
     have hn : rdPos s.data.toList = some l := by rw [HR.out.1, HPB.out]; rfl
     have hq3 := hb3.size
     exact ⟨_, by (rw [hn]; try rfl), by rw [hn]; exact IntOwn.mono (SameOn.refl _ _) (fun b hb => ⟨hb.1, by have := hb.2; omega⟩) (IntOwn.later hb3 (IntOwn.later hb2 HOW.out)), Below.step (Below.step HB.out hb2) hb3⟩
set_option maxHeartbeats 6400000 in
theorem position_any {lo : Nat} (g : Nat) (s : ByteArray) (p : PSt) (w : World) (h : PAt 35 w g s p) (hp : p.pos ≤ s.size) (hs : s.size ≤ 1000000) (hV : EnvP lo w) (hlo : lo ≤ g) :
  Calls Tryz.prog 35 #[.pointer (some ⟨g, 0, none⟩)] w (PStep 35 g s (iPos s.data.toList p).2 (fun v w' => IntOwn 3 (NewB w w') w' (iPos s.data.toList p).1 v) w) := by
 have H := Lib.hid h
 have HV := Lib.hid hV
 have hg := bsz h.lt
 obtain ⟨k, bad⟩ := p
 simp only at hp
 obtain ⟨c0, c1, c2, cf⟩ := h.cells
 simp only at c1 c2
 clear h hV
 go_enter Tryz.func35, Tryz.ntmps35
 go_wp2
 go_loopw [] (ScnRel posC 35 g s k bad w) (fun wr => s.size - posOf wr g)
 case atStart => exact ⟨k, Nat.le_refl _, hp, fun i h1 h2 => absurd h2 (by omega), H.out, gr_refl w g⟩
 case round =>
  obtain ⟨j, hj1, hj2, hall, hP, hgr⟩ := hrel
  have HP := Lib.hid hP
  have HALL := Lib.hid hall
  have HVR := Lib.hid (HV.out.gr hgr hlo)
  have hPO := hP.posOf
  obtain ⟨d0, d1, d2, df⟩ := hP.cells
  simp only at d1 d2
  have hgw := bsz hP.lt
  clear hP hall c0 c1 c2 cf
  by_cases hst : ∃ h : j < s.size, posC s[j] = true
  ·obtain ⟨hlt, hw⟩ := hst
   have hj3 : (j : Int) < s.size := by omega
   have HW := Lib.hid hw
   rw [posC, Bool.or_eq_true] at hw
   cases hdi : diC s[j]
   ·have h46 : ((s[j].toNat : Int) == 46) = true := by
     have : s[j] = 46 := by simpa [hdi] using hw
     rw [this]; rfl
    clear hw
    go_wp2
    refine wp_region_flowC wr.heap.size [(⟨g, 0, none⟩, .string s), (⟨g, 1, none⟩, .int .i64 (j : Nat)), (⟨g, 2, none⟩, .bool bad)] (by kernel_rfl) (by kernel_rfl) (by first | (intro _ hs; cases hs; done) | (simp only [List.forall_mem_cons]; go_simp)) fun C HC => ?_
    repeat (first | ((first | apply flow_free rfl | (apply flow_yes; (case hw => go_simp))); (intro L w' hun hrd hC; have ⟨hC, hb', hf'⟩ := flO HC hC; (try simp only [List.forall_mem_cons] at hf'); go_simp; first | exact ⟨flS HC hC, rfl⟩ | (rw [if_neg]; (exact ⟨flS HC hC, rfl⟩); omega) | (go_at_call 32; refine ((same_below (isDigit_any _ _))).mono ?_; rintro e w1 ⟨rfl, hb1⟩; exact ⟨rfl, flN HC hC (by first | (simp; done) | (simp; omega) | omega) hb1⟩)); go_simp) | (apply flow_noC HC; (case hw => (go_simp; try (intro hh; cases hh))); go_simp))
    refine flow_nil ?_
    intro L wz hL hz
    have ⟨_, hbz, hcz⟩ := flO HC hz
    try simp only [List.forall_mem_cons] at hcz
    have hPz := HP.out.below hbz
    have HPZ := Lib.hid hPz
    obtain ⟨z0, z1, z2, zf⟩ := hPz.cells
    simp only at z1 z2
    have hgz := bsz hPz.lt
    clear hPz
    go_wp2
    rw [show ((j : Int) + 1) = ((j + 1 : Nat) : Int) by omega]
    have hP2 := HPZ.out.pos (j + 1)
    refine ⟨⟨j + 1, by omega, by omega, fun i h1 h2 h3 => ?_, hP2, gr_sc (gr_below hgr hbz) (.inl rfl) _⟩, by rw [hP2.posOf, hPO]; show s.size - (j + 1) < s.size - j; omega⟩
    by_cases e : i = j
    ·subst e; exact HW.out
    ·exact HALL.out i h1 (by omega) h3
   ·clear hw
    go_wp2
    refine wp_region_flowC wr.heap.size [(⟨g, 0, none⟩, .string s), (⟨g, 1, none⟩, .int .i64 (j : Nat)), (⟨g, 2, none⟩, .bool bad)] (by kernel_rfl) (by kernel_rfl) (by first | (intro _ hs; cases hs; done) | (simp only [List.forall_mem_cons]; go_simp)) fun C HC => ?_
    repeat (first | ((first | apply flow_free rfl | (apply flow_yes; (case hw => go_simp))); (intro L w' hun hrd hC; have ⟨hC, hb', hf'⟩ := flO HC hC; (try simp only [List.forall_mem_cons] at hf'); go_simp; first | exact ⟨flS HC hC, rfl⟩ | (rw [if_neg]; (exact ⟨flS HC hC, rfl⟩); omega) | (go_at_call 32; refine ((same_below (isDigit_any _ _))).mono ?_; rintro e w1 ⟨rfl, hb1⟩; exact ⟨rfl, flN HC hC (by first | (simp; done) | (simp; omega) | omega) hb1⟩)); go_simp) | (apply flow_noC HC; (case hw => (go_simp; try (intro hh; cases hh))); go_simp))
    refine flow_nil ?_
    intro L wz hL hz
    have ⟨_, hbz, hcz⟩ := flO HC hz
    try simp only [List.forall_mem_cons] at hcz
    have hPz := HP.out.below hbz
    have HPZ := Lib.hid hPz
    obtain ⟨z0, z1, z2, zf⟩ := hPz.cells
    simp only at z1 z2
    have hgz := bsz hPz.lt
    clear hPz
    go_wp2
    rw [show ((j : Int) + 1) = ((j + 1 : Nat) : Int) by omega]
    have hP2 := HPZ.out.pos (j + 1)
    refine ⟨⟨j + 1, by omega, by omega, fun i h1 h2 h3 => ?_, hP2, gr_sc (gr_below hgr hbz) (.inl rfl) _⟩, by rw [hP2.posOf, hPO]; show s.size - (j + 1) < s.size - j; omega⟩
    by_cases e : i = j
    ·subst e; exact HW.out
    ·exact HALL.out i h1 (by omega) h3
  ·have HSTOP := Lib.hid (show ∀ h : j < s.size, posC s[j] = false from fun h => by simpa using fun e => hst ⟨h, e⟩)
   have HD := Lib.hid (show iPlc s.data.toList ⟨k, bad⟩ = (s.extract k j).data.toList from by rw [ext_list]; exact scan_at HALL.out hj1 hj2 HSTOP.out)
   have hll : (iPlc s.data.toList ⟨k, bad⟩).length = j - k := by rw [HD.out, ← size_list, ByteArray.size_extract]; omega
   have HLL := Lib.hid hll
   have hxz : (s.extract k j).size ≤ 1000000 := by rw [ByteArray.size_extract]; omega
   obtain ⟨ok, hok⟩ : ∃ ok, (rdPos (s.extract k j).data.toList).isSome = ok := ⟨_, rfl⟩
   obtain ⟨rl, hrl⟩ : ∃ rl, (rdPos (s.extract k j).data.toList).getD [] = rl := ⟨_, rfl⟩
   have HN := Lib.hid (show iPos s.data.toList ⟨k, bad⟩ = (rl, ⟨j, bad || !ok⟩) by rw [iPos, HLL.out, HD.out, hrl, show k + (j - k) = j by omega, ← Option.not_isSome, hok])
   have HPI := Lib.hid (show ∀ w' : World, Below wr.heap.size wr w' → Calls Tryz.prog 66 #[.string (s.extract k j)] w' (fun e w'' => ∃ v, e = .returned (.tuple #[v, .bool ok]) ∧ IntOwn 3 (NewB w' w'') w'' rl v ∧ Below w'.heap.size w' w'') from fun w' hw' => by
    have := implPPos_any (s.extract k j) hxz w' (HVR.out.below hw').env.1 (HVR.out.below hw').env.2
    unfold PosV at this
    rw [hrl, hok] at this
    exact this)
   have HSP := Lib.hid (show StabP (fun a b F w => b = .bool ok ∧ IntOwn 3 F w rl a) from fun a b F w w' hs hz h => ⟨h.1, IntOwn.mono (fun x hx _ => hs x hx) (fun _ h => h) h.2⟩)
   clear hll hok hrl
   by_cases hlt : j < s.size
   case' pos =>
    have hj3 : (j : Int) < s.size := by omega
    have hps := HSTOP.out hlt
    rw [posC, Bool.or_eq_false_iff] at hps
    obtain ⟨hdi, h46⟩ := hps
    have h46 : ((s[j].toNat : Int) == 46) = false := by
     have : ¬ s[j] = 46 := by simpa using h46
     simp only [beq_eq_false_iff_ne, ne_eq]
     exact fun e => this (UInt8.toNat_inj.1 (show s[j].toNat = 46 by omega))
    go_wp2
    refine wp_region_flowC wr.heap.size [(⟨g, 0, none⟩, .string s), (⟨g, 1, none⟩, .int .i64 (j : Nat)), (⟨g, 2, none⟩, .bool bad)] (by kernel_rfl) (by kernel_rfl) (by first | (intro _ hs; cases hs; done) | (simp only [List.forall_mem_cons]; go_simp)) fun C HC => ?_
    repeat (first | ((first | apply flow_free rfl | (apply flow_yes; (case hw => go_simp))); (intro L w' hun hrd hC; have ⟨hC, hb', hf'⟩ := flO HC hC; (try simp only [List.forall_mem_cons] at hf'); go_simp; first | exact ⟨flS HC hC, rfl⟩ | (rw [if_neg]; (exact ⟨flS HC hC, rfl⟩); omega) | (go_at_call 32; refine ((same_below (isDigit_any _ _))).mono ?_; rintro e w1 ⟨rfl, hb1⟩; exact ⟨rfl, flN HC hC (by first | (simp; done) | (simp; omega) | omega) hb1⟩)); go_simp) | (apply flow_noC HC; (case hw => (go_simp; try (intro hh; cases hh))); go_simp))
    refine flow_nil ?_
    intro L wz hL hz
    have ⟨_, hbz, hcz⟩ := flO HC hz
    try simp only [List.forall_mem_cons] at hcz
   case' neg =>
    have hj3 : ¬ (j : Int) < s.size := by omega
    go_wp2
    refine wp_region_flowC wr.heap.size [(⟨g, 0, none⟩, .string s), (⟨g, 1, none⟩, .int .i64 (j : Nat)), (⟨g, 2, none⟩, .bool bad)] (by kernel_rfl) (by kernel_rfl) (by first | (intro _ hs; cases hs; done) | (simp only [List.forall_mem_cons]; go_simp)) fun C HC => ?_
    repeat (first | ((first | apply flow_free rfl | (apply flow_yes; (case hw => go_simp))); (intro L w' hun hrd hC; have ⟨hC, hb', hf'⟩ := flO HC hC; (try simp only [List.forall_mem_cons] at hf'); go_simp; first | exact ⟨flS HC hC, rfl⟩ | (rw [if_neg]; (exact ⟨flS HC hC, rfl⟩); omega) | (go_at_call 32; refine ((same_below (isDigit_any _ _))).mono ?_; rintro e w1 ⟨rfl, hb1⟩; exact ⟨rfl, flN HC hC (by first | (simp; done) | (simp; omega) | omega) hb1⟩)); go_simp) | (apply flow_noC HC; (case hw => (go_simp; try (intro hh; cases hh))); go_simp))
    refine flow_nil ?_
    intro L wz hL hz
    have ⟨_, hbz, hcz⟩ := flO HC hz
    try simp only [List.forall_mem_cons] at hcz
   all_goals
    have hPz := HP.out.below hbz
    have HPZ := Lib.hid hPz
    have hgr1 := gr_below hgr hbz
    have HPI1 := Lib.hid (fun (w' : World) (hw' : Below wz.heap.size wz w') => HPI.out w' (Below.step hbz hw'))
    obtain ⟨z0, z1, z2, zf⟩ := hPz.cells
    simp only at z1 z2
    have hgz := bsz hPz.lt
    clear hPz
    go_wp2_with fail
    refine wp_region_foot [some (.pointer (some ⟨g, 0, none⟩)), some (.pointer (some ⟨g, 0, none⟩)), some (.pointer (some ⟨g, 0, none⟩)), some (.string s), some (.int .i64 k), some (.pointer (some ⟨g, 0, none⟩)), some (.pointer (some ⟨g, 0, none⟩)), some (.pointer (some ⟨g, 1, none⟩)), some (.int .i64 (j : Nat)), some (.string (s.extract k j)), none, none, none, none, none, none] (fun _ => False) (prS 10) (PrF 10 (fun a b F w => b = .bool ok ∧ IntOwn 3 F w rl a)) (prT 10) (fun _ _ => False) (by kernel_rfl) (by kernel_rfl)
     (fun s hs h' => by
      simp only [List.mem_cons, List.not_mem_nil, or_false] at hs
      subst hs
      exact absurd h' (by simp))
     (fun s hs r hr h' => by
      simp only [List.mem_cons, List.not_mem_nil, or_false] at hs
      subst hs
      exact absurd h' (by simp)) ?_
    go_simp
    iterate 3
     refine flowV_st rfl rfl (by
      intro u' L w' hun hbe hD
      go_simp
      first | exact ⟨hD.other rfl hbe hun (by rfl) (by rfl), rfl⟩ | exact hD.other rfl hbe hun (by rfl) (by rfl)) ?_
     go_simp
    refine flowV_st rfl rfl (by
     intro u' L w' hun hbe hD
     have hPq := HPZ.out.below (hD.bw.below (fun _ h => h))
     obtain ⟨q0, q1, q2, -⟩ := hPq.cells
     simp only at q1 q2
     have zq := bsz hPq.lt
     clear hPq
     go_simp
     first | exact ⟨hD.other rfl hbe hun (by rfl) (by rfl), rfl⟩ | exact hD.other rfl hbe hun (by rfl) (by rfl)) ?_
    go_simp
    iterate 4
     refine flowV_st rfl rfl (by
      intro u' L w' hun hbe hD
      go_simp
      first | exact ⟨hD.other rfl hbe hun (by rfl) (by rfl), rfl⟩ | exact hD.other rfl hbe hun (by rfl) (by rfl)) ?_
     go_simp
    refine flowV_st rfl rfl (by
     intro u' L w' hun hbe hD
     have hPq := HPZ.out.below (hD.bw.below (fun _ h => h))
     obtain ⟨q0, q1, q2, -⟩ := hPq.cells
     simp only at q1 q2
     have zq := bsz hPq.lt
     clear hPq
     go_simp
     first | exact ⟨hD.other rfl hbe hun (by rfl) (by rfl), rfl⟩ | exact hD.other rfl hbe hun (by rfl) (by rfl)) ?_
    go_simp
    refine flowV_st rfl rfl (by
     intro u' L w' hun hbe hD
     go_simp
     first | exact ⟨hD.other rfl hbe hun (by rfl) (by rfl), rfl⟩ | exact hD.other rfl hbe hun (by rfl) (by rfl)) ?_
    go_simp
    refine flowV_ch rfl rfl (by
     intro u' hu' L w' hun hbe hD
     have hk' := hD.bw.below (fun _ h => h)
     go_simp
     refine (HPI1.out _ hk').mono ?_
     rintro e w'' ⟨v, rfl, hv, hb2⟩
     exact ⟨_, rfl, PrD.call hD HSP.out (by kernel_rfl) rfl hbe hun hb2 ⟨rfl, hv⟩⟩) ?_
    intro xc
    go_simp
    refine flowV_ch rfl rfl (by
     intro u' hu' L w' hun hbe hD
     have d := after_behind hbe (p := 10) (by kernel_rfl)
     have e : u' 10 = xc := (after_eq hu' (p := 10) (by kernel_rfl)).trans (by simp [upd])
     have hst := PrD.mv1 hD HSP.out (by kernel_rfl) rfl hbe hun d
     rw [e] at hst
     first | (go_simp; done) | (go_simp; exact hst)) ?_
    intro x1
    go_simp
    refine flowV_ch rfl rfl (by
     intro u' hu' L w' hun hbe hD
     have d := after_behind hbe (p := 11) (by kernel_rfl)
     have e : u' 11 = x1 := (after_eq hu' (p := 11) (by kernel_rfl)).trans (by simp [upd])
     obtain ⟨a, b, hf⟩ := PrD.form1 hD d
     have hst := PrD.mv2 hD HSP.out (by kernel_rfl) rfl hbe hun d
     rw [hf] at hst
     obtain rfl : x1 = .tuple #[a, b] := e.symm.trans hf
     first | (go_simp; done) | (go_simp; exact hst)) ?_
    intro x2
    go_simp
    refine flowV_ch rfl rfl (by
     intro u' hu' L w' hun hbe hD
     have d := after_behind hbe (p := 11) (by kernel_rfl)
     have e : u' 11 = x1 := (after_eq hu' (p := 11) (by kernel_rfl)).trans (by simp [upd])
     obtain ⟨a, b, hf⟩ := PrD.form1 hD d
     have hst := PrD.mv3 hD HSP.out (by kernel_rfl) rfl hbe hun d
     rw [hf] at hst
     obtain rfl : x1 = .tuple #[a, b] := e.symm.trans hf
     first | (go_simp; done) | (go_simp; exact hst)) ?_
    intro x3
    go_simp
    refine flowV_ch rfl rfl (by
     intro u' hu' L w' hun hbe hD
     have d := after_behind hbe (p := 12) (by kernel_rfl)
     have e : u' 12 = x2 := (after_eq hu' (p := 12) (by kernel_rfl)).trans (by simp [upd])
     have hst := PrD.mv4 hD HSP.out (by kernel_rfl) rfl hbe hun d
     rw [e] at hst
     first | (go_simp; done) | (go_simp; exact hst)) ?_
    intro x4
    go_simp
    refine flowV_ch rfl rfl (by
     intro u' hu' L w' hun hbe hD
     have d := after_behind hbe (p := 13) (by kernel_rfl)
     have e : u' 13 = x3 := (after_eq hu' (p := 13) (by kernel_rfl)).trans (by simp [upd])
     have hst := PrD.mv5 hD HSP.out (by kernel_rfl) rfl hbe hun d
     rw [e] at hst
     first | (go_simp; done) | (go_simp; exact hst)) ?_
    intro x5
    refine flowV_nil ?_
    intro L w6 hL hD
    obtain ⟨hb6, pa, pb, F6, f1, f2, f3, f4, f5, ⟨rfl, hv6⟩, hF6⟩ := PrD.end hD rfl (fun i hi => by simpa using hL i (by simpa using hi)) (by decide)
    simp [upd] at f1 f2 f3 f4 f5
    subst f1 f2 f3 f4 f5
    have hPy := HPZ.out.below hb6
    have HPY := Lib.hid hPy
    have hgr2 := gr_below hgr1 hb6
    obtain ⟨y0, y1, y2, yf⟩ := hPy.cells
    simp only at y1 y2
    have hgy := bsz hPy.lt
    clear hPy
    have hwz := hgr1.size
    have hw6 := hb6.size
    cases bad
    all_goals
     go_wp2
     go_ret
     exact ⟨_, rfl, by rw [HN.out]; exact IntOwn.mono ((SameOn.refl _ _).sc (fun b hb e => by have := (hF6 b hb).1; simp at e; omega) _) (fun b hb => ⟨by have := (hF6 b hb).1; omega, by have := (hF6 b hb).2; simp; omega⟩) hv6, by rw [HN.out]; simpa using HPY.out.setBad _, gr_sc hgr2 (.inl rfl) _⟩
section
variable {P : Program}
theorem each_app3 {w : World} {o : Oper} {a : Act} {E : Value → World → Prop} (s x : Operand) (t : TypeId) (ho : o.op = .call { callee := .builtin .append, args := #[s, x], argTypes := #[t, t] })
  (e : TypeId) (size bytes : Nat) (hE : Elem P t e size bytes) (v : Value) (n : Nat) (xs : List Value) (hs : a.eval s = v) (k : Nat) (e' : TypeId) (ce : Array Value) (hk : w.heap[k]? = some (.cells ce e' (0, 0))) (hx : a.eval x = .slice (some ⟨k, 0, none⟩) 1 1)
  (hown : w.ownsRow 0 e size v n xs) (hcs : ce.size = size) (h1 : ∀ u ∈ ce.toList, u.oneCell' = true) (hbytes : (n + 1) * bytes ≤ 140737488355328) (h63 : n + 1 ≤ maxLen)
  (h : ∀ v' w', (∀ xs', w.ownsRow 0 e size v n xs' → w'.ownsRow 0 e size v' (n + 1) (xs' ++ ce.toList)) → w.grownBy w' v.ownBlock → NewRow v v' w.heap.size → E v' w') : eachUpon P E ((execOp a.eval o).run P w) := by
 obtain ⟨ht, i, z, hi, hz, hsz, hby, hzs, hpos⟩ := hE
 have hnews : ∀ j u, ce.toList[j]? = some u → w.cell? ((⟨k, 0, none⟩ : Addr).add j) = some u := by
  intro j u hu
  have : ((⟨k, 0, none⟩ : Addr).add j) = ⟨k, j, none⟩ := by unfold Addr.add; split <;> simp_all
  rw [this, cell_of_row _ _ j ce e' (0, 0) hk]
  simpa using hu
 have key := fun (xs' : List Value) (hown : w.ownsRow 0 e size v n xs') => run_append_own_at (P := P) w 0 t o.type e i z size bytes ht hi hz hsz hby hzs hpos v n xs' hown ⟨k, 0, none⟩ 1 1 ce.toList (by rw [Array.length_toList, hcs, Nat.one_mul]) hnews h1 h63 hbytes (Nat.zero_le _)
 obtain ⟨v', w', hrun, h2, h3, _, h5⟩ := key xs hown
 unfold execOp
 simp only [ho, resolve, invoke, builtin, Sem.run_bind, Sem.run_pure, Result.andThen_ok, List.map_toArray, List.map_cons, List.map_nil, hs, hx, hrun]
 refine h v' w' (fun xs' hb => ?_) h3 ?_
 ·obtain ⟨v2, w2, hrun2, g2, _⟩ := key xs' hb
  rw [hrun] at hrun2
  injection hrun2 with e1 e2
  subst e1 e2
  exact g2
 ·rcases h5 with h5 | h5
  ·exact .inl h5
  ·exact .inr ⟨_, h5, Nat.le_refl _⟩
end
def StabR {α : Type} (R : World → (Nat → Prop) → α → List Value → Prop) : Prop := ∀ w w' S x cs, (∀ b, S b → w'.heap[b]? = w.heap[b]?) → w.heap.size ≤ w'.heap.size → R w S x cs → R w' S x cs
theorem OwnRow.stab {α : Type} {S : Nat → Prop} {w w' : World} {e : TypeId} {size : Nat} {R : World → (Nat → Prop) → α → List Value → Prop} {v : Value} {xs : List α} (hR : StabR R) (h : OwnRow S w e size (R w) v xs) (hs : ∀ b, S b → w'.heap[b]? = w.heap[b]?) (hz : w.heap.size ≤ w'.heap.size) : OwnRow S w' e size (R w') v xs :=
 h.mono (fun b hb _ => hs b hb) (fun _ h => h) (fun T x cs _ hT hx => hR w w' T x cs (fun b hb => hs b (hT b hb)) hz hx)
section
variable {α : Type}
structure Four (ix ib ia is : Nat) : Prop where
 d : ix ≠ ib ∧ ix ≠ ia ∧ ix ≠ is ∧ ib ≠ ia ∧ ib ≠ is ∧ ia ≠ is
 l : ix < 1000 ∧ ib < 1000 ∧ ia < 1000 ∧ is < 1000
variable {eT : TypeId} {size : Nat} {R : World → (Nat → Prop) → α → List Value → Prop} {bt ci : Nat} {cells : Array Value} {bT : TypeId} {v : Value} {xs : List α} {ix ib ia is : Nat} {x : α}
end
end Go.Proofs.YtabkdonplmlbcaaGreatDoor
