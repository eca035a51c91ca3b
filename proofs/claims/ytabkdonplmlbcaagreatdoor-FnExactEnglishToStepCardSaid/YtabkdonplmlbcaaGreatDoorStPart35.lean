import Derived.Test.YtabkdonplmlbcaaGreatDoorStPart26
import Derived.Test.YtabkdonplmlbcaaGreatDoorStPart34
namespace Go.Proofs.YtabkdonplmlbcaaGreatDoor
set_option maxRecDepth 100000
open Go.RowKit
theorem decFrom_bad : ∀ (l : List UInt8) (acc : Nat) (c : UInt8), c ∈ l → diC c = false → Lib.decFrom acc l = none
 | [], _, _, h, _ => by cases h
 | b :: l, acc, c, h, hc => by
  rw [Lib.decFrom]
  cases hb : Lib.digitVal b with
  | none => rfl
  | some d =>
   rcases List.mem_cons.1 h with rfl | h
   ·exfalso
    unfold Lib.digitVal at hb
    simp only [diC, Bool.and_eq_false_iff, decide_eq_false_iff_not] at hc
    split at hb
    ·omega
    ·cases hb
   ·exact decFrom_bad l _ c h hc
theorem digV {c : UInt8} (hc : diC c = true) : Lib.digitVal c = some (c.toNat - 48) ∧ 48 ≤ c.toNat ∧ c.toNat ≤ 57 := by
 simp only [diC, Bool.and_eq_true, decide_eq_true_eq] at hc
 exact ⟨by rw [Lib.digitVal, if_pos ⟨by omega, by omega⟩], by omega, by omega⟩
theorem decFrom_six {l : List UInt8} {k n : Nat} (h : Lib.decFrom 0 (l.take k) = some n) (hk : l.length ≤ 6) : n ≤ 999999 := by
 have h1 := decFrom_lt6 _ 0 0 n (by simp) h
 have h2 : (l.take k).length ≤ 6 := by rw [List.length_take]; omega
 have h3 := Nat.pow_le_pow_right (n := 10) (by decide) (show 0 + (l.take k).length ≤ 6 by omega)
 have e : (10 : Nat) ^ 6 = 1000000 := by decide
 omega
theorem byte_mem (s : ByteArray) (k : Nat) (h : k < s.size) : s[k] ∈ s.data.toList := by
 have : s.data.toList[k]'(by rw [← size_list]; exact h) ∈ s.data.toList := List.getElem_mem _
 exact this
theorem head_byte (s : ByteArray) (h : 0 < s.size) : s.data.toList.head? = some s[0] := by
 rw [List.head?_eq_getElem?, List.getElem?_eq_getElem (by rw [← size_list]; exact h)]
 rfl
theorem rdTail_no (s : ByteArray) (h : 1 < s.size → ∃ h0 : 0 < s.size, s[0].toNat ≠ 45) : s.data.toList = rdTail s.data.toList := by
 rw [rdTail]
 split
 ·rename_i hc
  simp only [Bool.and_eq_true, decide_eq_true_eq, beq_iff_eq, ← size_list] at hc
  obtain ⟨h0, hne⟩ := h hc.1
  rw [head_byte s h0] at hc
  have := Option.some.inj hc.2
  rw [this] at hne
  exact absurd rfl hne
 ·rfl
theorem rdTail_yes (s : ByteArray) (h1 : 1 < s.size) (h : s[0].toNat = 45) : (s.extract 1 s.size).data.toList = rdTail s.data.toList := by
 have h45 : s[0] = 45 := UInt8.toNat_inj.1 h
 rw [rdTail, if_pos, extract_list, size_list, List.take_length, List.drop_one]
 rw [head_byte s (by omega), h45, ← size_list]
 simpa using h1
set_option maxHeartbeats 400000 in
theorem l1Num_int (n : Int) (w : World) (h0 : -9223372036854775807 ≤ n) (h1 : n ≤ 9223372036854775807) :
  Calls Tryz.prog 60 #[.int .i64 n] w fun e w' => e = .returned (.string ⟨(Lib.itoa n).toArray⟩) ∧ Drew w w' := by
 by_cases hn : n < 0
 ·have HI := Lib.hid (itoa_neg n hn)
  have HL : ¬ 9223372036854775807 < (Lib.itoa (-n)).length + 1 := by have := itoa_len (-n) (by omega) (by omega); omega
  have HN := Lib.hid (fun w => l1Num_any (-n) w (by omega) (by omega))
  have q1 : IntKind.i64.wrap (-n) = -n := IntWalk.i64_in _ (by omega)
  go_enter Tryz.func60, Tryz.ntmps60
  go_wp2_with fail
  refine (HN.out _).mono ?_
  rintro e w2 ⟨rfl, k, rfl⟩
  go_wp2
  go_ret
  refine ⟨?_, k, rfl⟩
  show Ending.returned (Value.string (_ ++ _)) = _
  rw [HI.out, show (⟨#[45]⟩ : ByteArray) = ⟨([45] : List UInt8).toArray⟩ from rfl, bytes_append]
  rfl
 ·exact l1Num_any n w (by omega) h1
def RdRel (t : ByteArray) (w : World) (n i : Value) (wr : World) : Prop := ∃ k m : Nat, k ≤ t.size ∧ i = .int .i64 k ∧ n = .int .i64 m ∧ Lib.decFrom 0 (t.data.toList.take k) = some m ∧ Below w.heap.size w wr
set_option maxHeartbeats 1600000 in
theorem l1Read_any (s : ByteArray) (hs : s.size ≤ 1000000000000) (w : World) :
  Calls Tryz.prog 51 #[.string s] w fun e w' => e = .returned (.tuple #[.int .i64 ((rdInt s.data.toList).getD 0), .bool (rdInt s.data.toList).isSome]) ∧ Below w.heap.size w w' := by
 have HREF := Lib.hid (rdRef_eq s.data.toList)
 by_cases h1 : (1 : Int) < s.size
 ·cases h0 : ((s[0].toNat : Int) == 45)
  ·have HTT := Lib.hid (rdTail_no s (fun _ => ⟨by omega, fun e => by rw [e] at h0; cases h0⟩))
   go_enter Tryz.func51, Tryz.ntmps51
   go_wp2_with fail
   have hrd : rdRef s.data.toList = rdInt s.data.toList := HREF.out
   have HSZ := Lib.hid (show s.size = (rdTail s.data.toList).length by rw [← HTT.out, ← size_list])
   refine (l1In_any _ _ _ _).mono ?_
   rintro e w' ⟨rfl, rfl⟩
   by_cases h6 : 1 ≤ s.size ∧ s.size ≤ 6
   case neg =>
    rw [show inB (s.size : Int) 1 6 = false by simp [inB]; omega]
    go_wp2
    go_ret2
    exact ⟨by rw [← HREF.out, rdRef, if_neg (by rw [← HSZ.out]; exact h6)]; rfl, by exact bel⟩
   rw [show inB (s.size : Int) 1 6 = true by simp [inB]; omega]
   go_wp2
   go_loopw [5, 6] (RdRel s w) (fun _ i _ => s.size - (intOf i).toNat)
   case atStart => exact ⟨0, 0, Nat.zero_le _, rfl, rfl, rfl, Below.refl _ _⟩
   case round =>
    obtain ⟨k, m, hk, rfl, rfl, hm, hb⟩ := hrel
    have hm6 := decFrom_six hm (by rw [← size_list]; exact h6.2)
    have HM := Lib.hid hm
    clear hm
    by_cases hlt : k < s.size
    ·have hlti : (k : Int) < s.size := by omega
     cases hd : diC s[k]
     ·have HD := Lib.hid hd
      have hnd : s[k].toNat < 48 ∨ 57 < s[k].toNat := by
       simp only [diC, Bool.and_eq_false_iff, decide_eq_false_iff_not] at hd; omega
      clear hd
      go_wp2
      all_goals first | (exfalso; simp_all; omega) | skip
      all_goals go_ret2
      all_goals exact ⟨by rw [← HREF.out, rdRef, if_pos (by rw [← HSZ.out]; exact h6), ← HTT.out, decFrom_bad _ _ s[k] (byte_mem _ k hlt) HD.out]; rfl, by exact bel⟩
     ·obtain ⟨hv, hd0, hd1⟩ := digV hd
      have HV := Lib.hid hv
      clear hd hv
      go_wp2
      all_goals first | (exfalso; simp_all; omega) | skip
      refine ⟨⟨k + 1, m * 10 + (s[k].toNat - 48), by omega, by go_num, ?_, ?_, hb⟩, by simp [intOf]; omega⟩
      ·exact congrArg (Value.int .i64) (by omega)
      ·exact Lib.decFrom_take _ k 0 m s[k] _ HM.out (by rw [List.getElem?_eq_getElem (by rw [← size_list]; exact hlt)]; rfl) HV.out
    ·obtain rfl : k = s.size := by omega
     have hm0 := HM.out
     rw [take_all _ _ (by omega)] at hm0
     have hn3 : ¬ (s.size : Int) < s.size := by omega
     have HV := Lib.hid (show rdInt s.data.toList = if Lib.itoa (m : Int) = s.data.toList then some (m : Int) else none by
      rw [← HREF.out, rdRef, if_pos (by rw [← HSZ.out]; exact h6), ← HTT.out, hm0]; simp only [← size_list, if_neg (Nat.lt_irrefl _)])
     clear hm0
     go_wp2_with (first | (go_at_call 60; refine (drew_below (l1Num_int (m : Int) _ (by omega) (by omega))).mono ?_; rintro e w2 ⟨rfl, hb2⟩; have ⟨cw2, fw2⟩ := bcell hb2; have qw2 := hb2.size; (try simp at qw2); (try have zw2w := bsz (show w.heap.size < w2.heap.size by omega))))
     all_goals (go_ret2; exact ⟨by rw [HV.out]; simp_all [Lib.toList_data], by exact bel⟩)
  ·have HTT := Lib.hid (rdTail_yes s (by omega) (by have := eq_of_beq h0; omega))
   go_enter Tryz.func51, Tryz.ntmps51
   go_wp2_with fail
   obtain ⟨t, htt⟩ : ∃ t, s.extract 1 s.size = t := ⟨_, rfl⟩
   rw [htt] at HTT ⊢
   have hts : s.size - 1 = t.size := by rw [← htt, ByteArray.size_extract]; omega
   have hneg : t.size < s.size := by omega
   rw [hts]
   have hrd : rdRef s.data.toList = rdInt s.data.toList := HREF.out
   have HSZ := Lib.hid (show t.size = (rdTail s.data.toList).length by rw [← HTT.out, ← size_list])
   refine (l1In_any _ _ _ _).mono ?_
   rintro e w' ⟨rfl, rfl⟩
   by_cases h6 : 1 ≤ t.size ∧ t.size ≤ 6
   case neg =>
    rw [show inB (t.size : Int) 1 6 = false by simp [inB]; omega]
    go_wp2
    go_ret2
    exact ⟨by rw [← HREF.out, rdRef, if_neg (by rw [← HSZ.out]; exact h6)]; rfl, by exact bel⟩
   rw [show inB (t.size : Int) 1 6 = true by simp [inB]; omega]
   go_wp2
   go_loopw [5, 6] (RdRel t w) (fun _ i _ => t.size - (intOf i).toNat)
   case atStart => exact ⟨0, 0, Nat.zero_le _, rfl, rfl, rfl, Below.refl _ _⟩
   case round =>
    obtain ⟨k, m, hk, rfl, rfl, hm, hb⟩ := hrel
    have hm6 := decFrom_six hm (by rw [← size_list]; exact h6.2)
    have HM := Lib.hid hm
    clear hm
    by_cases hlt : k < t.size
    ·have hlti : (k : Int) < t.size := by omega
     cases hd : diC t[k]
     ·have HD := Lib.hid hd
      have hnd : t[k].toNat < 48 ∨ 57 < t[k].toNat := by
       simp only [diC, Bool.and_eq_false_iff, decide_eq_false_iff_not] at hd; omega
      clear hd
      go_wp2
      all_goals first | (exfalso; simp_all; omega) | skip
      all_goals go_ret2
      all_goals exact ⟨by rw [← HREF.out, rdRef, if_pos (by rw [← HSZ.out]; exact h6), ← HTT.out, decFrom_bad _ _ t[k] (byte_mem _ k hlt) HD.out]; rfl, by exact bel⟩
     ·obtain ⟨hv, hd0, hd1⟩ := digV hd
      have HV := Lib.hid hv
      clear hd hv
      go_wp2
      all_goals first | (exfalso; simp_all; omega) | skip
      refine ⟨⟨k + 1, m * 10 + (t[k].toNat - 48), by omega, by go_num, ?_, ?_, hb⟩, by simp [intOf]; omega⟩
      ·exact congrArg (Value.int .i64) (by omega)
      ·exact Lib.decFrom_take _ k 0 m t[k] _ HM.out (by rw [List.getElem?_eq_getElem (by rw [← size_list]; exact hlt)]; rfl) HV.out
    ·obtain rfl : k = t.size := by omega
     have hm0 := HM.out
     rw [take_all _ _ (by omega)] at hm0
     have hn3 : (t.size : Int) < s.size := by omega
     have HV := Lib.hid (show rdInt s.data.toList = if Lib.itoa (-(m : Int)) = s.data.toList then some (-(m : Int)) else none by
      rw [← HREF.out, rdRef, if_pos (by rw [← HSZ.out]; exact h6), ← HTT.out, hm0]; simp only [← size_list, if_pos hneg])
     have wrn : IntKind.i64.wrap (-(m : Int)) = -(m : Int) := IntWalk.i64_in _ (by omega)
     clear hm0
     go_wp2_with (first | (go_at_call 60; refine (drew_below (l1Num_int (-(m : Int)) _ (by omega) (by omega))).mono ?_; rintro e w2 ⟨rfl, hb2⟩; have ⟨cw2, fw2⟩ := bcell hb2; have qw2 := hb2.size; (try simp at qw2); (try have zw2w := bsz (show w.heap.size < w2.heap.size by omega))))
     all_goals (go_ret2; exact ⟨by rw [HV.out]; simp_all [Lib.toList_data], by exact bel⟩)
 ·have HTT := Lib.hid (rdTail_no s (fun h => absurd h (by omega)))
  go_enter Tryz.func51, Tryz.ntmps51
  go_wp2_with fail
  have hrd : rdRef s.data.toList = rdInt s.data.toList := HREF.out
  have HSZ := Lib.hid (show s.size = (rdTail s.data.toList).length by rw [← HTT.out, ← size_list])
  refine (l1In_any _ _ _ _).mono ?_
  rintro e w' ⟨rfl, rfl⟩
  by_cases h6 : 1 ≤ s.size ∧ s.size ≤ 6
  case neg =>
   rw [show inB (s.size : Int) 1 6 = false by simp [inB]; omega]
   go_wp2
   go_ret2
   exact ⟨by rw [← HREF.out, rdRef, if_neg (by rw [← HSZ.out]; exact h6)]; rfl, by exact bel⟩
  rw [show inB (s.size : Int) 1 6 = true by simp [inB]; omega]
  go_wp2
  go_loopw [5, 6] (RdRel s w) (fun _ i _ => s.size - (intOf i).toNat)
  case atStart => exact ⟨0, 0, Nat.zero_le _, rfl, rfl, rfl, Below.refl _ _⟩
  case round =>
   obtain ⟨k, m, hk, rfl, rfl, hm, hb⟩ := hrel
   have hm6 := decFrom_six hm (by rw [← size_list]; exact h6.2)
   have HM := Lib.hid hm
   clear hm
   by_cases hlt : k < s.size
   ·have hlti : (k : Int) < s.size := by omega
    cases hd : diC s[k]
    ·have HD := Lib.hid hd
     have hnd : s[k].toNat < 48 ∨ 57 < s[k].toNat := by
      simp only [diC, Bool.and_eq_false_iff, decide_eq_false_iff_not] at hd; omega
     clear hd
     go_wp2
     all_goals first | (exfalso; simp_all; omega) | skip
     all_goals go_ret2
     all_goals exact ⟨by rw [← HREF.out, rdRef, if_pos (by rw [← HSZ.out]; exact h6), ← HTT.out, decFrom_bad _ _ s[k] (byte_mem _ k hlt) HD.out]; rfl, by exact bel⟩
    ·obtain ⟨hv, hd0, hd1⟩ := digV hd
     have HV := Lib.hid hv
     clear hd hv
     go_wp2
     all_goals first | (exfalso; simp_all; omega) | skip
     refine ⟨⟨k + 1, m * 10 + (s[k].toNat - 48), by omega, by go_num, ?_, ?_, hb⟩, by simp [intOf]; omega⟩
     ·exact congrArg (Value.int .i64) (by omega)
     ·exact Lib.decFrom_take _ k 0 m s[k] _ HM.out (by rw [List.getElem?_eq_getElem (by rw [← size_list]; exact hlt)]; rfl) HV.out
   ·obtain rfl : k = s.size := by omega
    have hm0 := HM.out
    rw [take_all _ _ (by omega)] at hm0
    have hn3 : ¬ (s.size : Int) < s.size := by omega
    have HV := Lib.hid (show rdInt s.data.toList = if Lib.itoa (m : Int) = s.data.toList then some (m : Int) else none by
     rw [← HREF.out, rdRef, if_pos (by rw [← HSZ.out]; exact h6), ← HTT.out, hm0]; simp only [← size_list, if_neg (Nat.lt_irrefl _)])
    clear hm0
    go_wp2_with (first | (go_at_call 60; refine (drew_below (l1Num_int (m : Int) _ (by omega) (by omega))).mono ?_; rintro e w2 ⟨rfl, hb2⟩; have ⟨cw2, fw2⟩ := bcell hb2; have qw2 := hb2.size; (try simp at qw2); (try have zw2w := bsz (show w.heap.size < w2.heap.size by omega))))
    all_goals (go_ret2; exact ⟨by rw [HV.out]; simp_all [Lib.toList_data], by exact bel⟩)
set_option maxHeartbeats 3200000 in
theorem refNum_any (g : Nat) (s : ByteArray) (p : PSt) (w : World) (h : PAt 51 w g s p) (hp : p.pos ≤ s.size) (hs : s.size ≤ 1000000000000) :
  Calls Tryz.prog 24 #[.pointer (some ⟨g, 0, none⟩)] w (PStep 51 g s (rNum s.data.toList p).2 (fun v _ => v = .int .i64 (rNum s.data.toList p).1) w) := by
 have H := Lib.hid h
 have hg := bsz h.lt
 obtain ⟨k, bad⟩ := p
 simp only at hp
 obtain ⟨c0, c1, c2, cf⟩ := h.cells
 simp only at c1 c2
 clear h
 cases bad
 ·go_enter Tryz.func24, Tryz.ntmps24
  go_wp2
  go_loopw [] (ScnRel diC 51 g s k false w) (fun wr => s.size - posOf wr g)
  case atStart => exact ⟨k, Nat.le_refl _, hp, fun i h1 h2 => absurd h2 (by omega), H.out, gr_refl w g⟩
  case round =>
   obtain ⟨j, hj1, hj2, hall, hP, hgr⟩ := hrel
   have HP := Lib.hid hP
   have HALL := Lib.hid hall
   have hPO := hP.posOf
   obtain ⟨d0, d1, d2, df⟩ := hP.cells
   simp only at d1 d2
   have hgw := bsz hP.lt
   clear hP hall c0 c1 c2 cf
   by_cases hst : ∃ h : j < s.size, diC s[j] = true
   ·obtain ⟨hlt, hw⟩ := hst
    have hj3 : (j : Int) < s.size := by omega
    obtain ⟨-, h48, h57⟩ := digV hw
    have h48 : (48 : Int) ≤ s[j].toNat := by omega
    have h57 : (s[j].toNat : Int) ≤ 57 := by omega
    have HW := Lib.hid hw
    clear hw
    go_wp2
    refine wp_region_flowC wr.heap.size [(⟨g, 0, none⟩, .string s), (⟨g, 1, none⟩, .int .i64 (j : Nat)), (⟨g, 2, none⟩, .bool false)] (by kernel_rfl) (by kernel_rfl) (by first | (intro _ hs; cases hs; done) | (simp only [List.forall_mem_cons]; go_simp)) fun C HC => ?_
    repeat (first | ((first | apply flow_free rfl | (apply flow_yes; (case hw => go_simp))); (intro L w' hun hrd hC; have ⟨hC, hb', hf'⟩ := flO HC hC; (try simp only [List.forall_mem_cons] at hf'); go_simp; first | exact ⟨flS HC hC, rfl⟩ | (rw [if_neg]; (exact ⟨flS HC hC, rfl⟩); omega) | fail); go_simp) | (apply flow_noC HC; (case hw => (go_simp; try (intro hh; cases hh))); go_simp))
    refine flow_nil ?_
    intro L wz hL hz
    have ⟨_, hbz, hcz⟩ := flO HC hz
    try simp only [List.forall_mem_cons] at hcz
    have hPz := HP.out.below hbz
    have HPZ := Lib.hid hPz
    obtain ⟨z0, z1, z2, zf⟩ := hPz.cells
    simp only at z1 z2
    have hgz := bsz hPz.lt
    clear hPz
    go_wp2
    rw [show ((j : Int) + 1) = ((j + 1 : Nat) : Int) by omega]
    have hP2 := HPZ.out.pos (j + 1)
    refine ⟨⟨j + 1, by omega, by omega, fun i h1 h2 h3 => ?_, hP2, gr_sc (gr_below hgr hbz) (.inl rfl) _⟩, by rw [hP2.posOf, hPO]; show s.size - (j + 1) < s.size - j; omega⟩
    by_cases e : i = j
    ·subst e; exact HW.out
    ·exact HALL.out i h1 (by omega) h3
   ·have HSTOP := Lib.hid (show ∀ h : j < s.size, diC s[j] = false from fun h => by simpa using fun e => hst ⟨h, e⟩)
    have HD := Lib.hid (show digs s.data.toList ⟨k, false⟩ = (s.extract k j).data.toList from by rw [ext_list]; exact scan_at HALL.out hj1 hj2 HSTOP.out)
    have hll : (digs s.data.toList ⟨k, false⟩).length = j - k := by rw [HD.out, ← size_list, ByteArray.size_extract]; omega
    have HLL := Lib.hid hll
    have hxz : (s.extract k j).size ≤ 1000000000000 := by rw [ByteArray.size_extract]; omega
    obtain ⟨nv, hnv⟩ : ∃ nv, (rdInt (s.extract k j).data.toList).getD 0 = nv := ⟨_, rfl⟩
    have HN := Lib.hid (show rNum s.data.toList ⟨k, false⟩ = (nv, ⟨j, !(rdInt (s.extract k j).data.toList).isSome⟩) by rw [rNum, rDig, if_neg (by simp), HLL.out, HD.out, hnv, show k + (j - k) = j by omega, Option.not_isSome]; rfl)
    by_cases hlt : j < s.size
    case' neg =>
     have hj3 : ¬ (j : Int) < s.size := by omega
    case' pos =>
     have hj3 : (j : Int) < s.size := by omega
     have hnd := HSTOP.out hlt
     simp only [diC, Bool.and_eq_false_iff, decide_eq_false_iff_not] at hnd
     by_cases h48 : (48 : Int) ≤ s[j].toNat
     all_goals (first | (have h57 : ¬ (s[j].toNat : Int) ≤ 57 := by omega) | skip)
     all_goals clear hnd
    all_goals
     go_wp2
     refine wp_region_flowC wr.heap.size [(⟨g, 0, none⟩, .string s), (⟨g, 1, none⟩, .int .i64 (j : Nat)), (⟨g, 2, none⟩, .bool false)] (by kernel_rfl) (by kernel_rfl) (by first | (intro _ hs; cases hs; done) | (simp only [List.forall_mem_cons]; go_simp)) fun C HC => ?_
     repeat (first | ((first | apply flow_free rfl | (apply flow_yes; (case hw => go_simp))); (intro L w' hun hrd hC; have ⟨hC, hb', hf'⟩ := flO HC hC; (try simp only [List.forall_mem_cons] at hf'); go_simp; first | exact ⟨flS HC hC, rfl⟩ | (rw [if_neg]; (exact ⟨flS HC hC, rfl⟩); omega) | fail); go_simp) | (apply flow_noC HC; (case hw => (go_simp; try (intro hh; cases hh))); go_simp))
     refine flow_nil ?_
     intro L wz hL hz
     have ⟨_, hbz, hcz⟩ := flO HC hz
     try simp only [List.forall_mem_cons] at hcz
     obtain ⟨ok, hok⟩ : ∃ ok, (rdInt (s.extract k j).data.toList).isSome = ok := ⟨_, rfl⟩
     have HPI := Lib.hid (fun w' => l1Read_any (s.extract k j) hxz w')
     rw [hnv, hok] at HPI
     rw [hok] at HN
     clear hll hnv hok
     have hPz := HP.out.below hbz
     have HPZ := Lib.hid hPz
     have hgr1 := gr_below hgr hbz
     obtain ⟨z0, z1, z2, zf⟩ := hPz.cells
     simp only at z1 z2
     have hgz := bsz hPz.lt
     clear hPz
     go_wp2
     refine wp_region_flowC wz.heap.size [(⟨g, 0, none⟩, .string s), (⟨g, 1, none⟩, .int .i64 (j : Nat)), (⟨g, 2, none⟩, .bool false)] (by kernel_rfl) (by kernel_rfl) (by first | (intro _ hs; cases hs; done) | (simp only [List.forall_mem_cons]; go_simp)) fun C HC => ?_
     repeat (first | ((first | apply flow_free rfl | (apply flow_yes; (case hw => go_simp))); (intro L w' hun hrd hC; have ⟨hC, hb', hf'⟩ := flO HC hC; (try simp only [List.forall_mem_cons] at hf'); go_simp; first | exact ⟨flS HC hC, rfl⟩ | (rw [if_neg]; (exact ⟨flS HC hC, rfl⟩); omega) | (go_at_call 51; refine (HPI.out _).mono ?_; rintro e w1 ⟨rfl, hb1⟩; exact ⟨rfl, flN HC hC (by first | (simp; done) | (simp; omega) | omega) hb1⟩)); go_simp) | (apply flow_noC HC; (case hw => (go_simp; try (intro hh; cases hh))); go_simp))
     refine flow_nil ?_
     intro L wz hL hz
     have ⟨_, hbz, hcz⟩ := flO HC hz
     try simp only [List.forall_mem_cons] at hcz
     have hPy := HPZ.out.below hbz
     have HPY := Lib.hid hPy
     have hgr2 := gr_below hgr1 hbz
     obtain ⟨y0, y1, y2, yf⟩ := hPy.cells
     simp only at y1 y2
     have hgy := bsz hPy.lt
     clear hPy
     cases ok
     ·go_wp2
      go_ret
      exact ⟨_, rfl, by rw [HN.out]; rfl, by rw [HN.out]; exact HPY.out.setBad true, gr_sc hgr2 (.inl rfl) _⟩
     ·go_wp2
      go_ret
      exact ⟨_, rfl, by rw [HN.out]; rfl, by rw [HN.out]; exact HPY.out, hgr2⟩
 ·go_enter Tryz.func24, Tryz.ntmps24
  go_wp2
  go_loopw [] (fun wr => Below w.heap.size w wr) (fun wr => 0)
  case atStart => exact Below.refl _ _
  case round =>
   have HP := Lib.hid (H.out.below hrel)
   obtain ⟨d0, d1, d2, df⟩ := HP.out.cells
   simp only at d1 d2
   have hgw := bsz HP.out.lt
   have hgr := gr_below (gr_refl w g) hrel
   clear c0 c1 c2 cf
   obtain ⟨j, rfl⟩ : ∃ j, j = k := ⟨_, rfl⟩
   have HN := Lib.hid (show rNum s.data.toList ⟨j, true⟩ = (0, ⟨j, true⟩) by rw [rNum, rDig, if_pos rfl]; rfl)
   go_wp2
   refine wp_region_flowC wr.heap.size [(⟨g, 0, none⟩, .string s), (⟨g, 1, none⟩, .int .i64 (j : Nat)), (⟨g, 2, none⟩, .bool true)] (by kernel_rfl) (by kernel_rfl) (by first | (intro _ hs; cases hs; done) | (simp only [List.forall_mem_cons]; go_simp)) fun C HC => ?_
   repeat (first | ((first | apply flow_free rfl | (apply flow_yes; (case hw => go_simp))); (intro L w' hun hrd hC; have ⟨hC, hb', hf'⟩ := flO HC hC; (try simp only [List.forall_mem_cons] at hf'); go_simp; first | exact ⟨flS HC hC, rfl⟩ | (rw [if_neg]; (exact ⟨flS HC hC, rfl⟩); omega) | fail); go_simp) | (apply flow_noC HC; (case hw => (go_simp; try (intro hh; cases hh))); go_simp))
   refine flow_nil ?_
   intro L wz hL hz
   have ⟨_, hbz, hcz⟩ := flO HC hz
   try simp only [List.forall_mem_cons] at hcz
   have hPz := HP.out.below hbz
   have HPZ := Lib.hid hPz
   have hgr1 := gr_below hgr hbz
   obtain ⟨z0, z1, z2, zf⟩ := hPz.cells
   simp only at z1 z2
   have hgz := bsz hPz.lt
   clear hPz
   go_wp2
   refine wp_region_flowC wz.heap.size [(⟨g, 0, none⟩, .string s), (⟨g, 1, none⟩, .int .i64 (j : Nat)), (⟨g, 2, none⟩, .bool true)] (by kernel_rfl) (by kernel_rfl) (by first | (intro _ hs; cases hs; done) | (simp only [List.forall_mem_cons]; go_simp)) fun C HC => ?_
   repeat (first | ((first | apply flow_free rfl | (apply flow_yes; (case hw => go_simp))); (intro L w' hun hrd hC; have ⟨hC, hb', hf'⟩ := flO HC hC; (try simp only [List.forall_mem_cons] at hf'); go_simp; first | exact ⟨flS HC hC, rfl⟩ | (rw [if_neg]; (exact ⟨flS HC hC, rfl⟩); omega) | (go_at_call 51; refine ((l1Read_any _ (by first | (simp; done) | (rw [ByteArray.size_extract]; omega)) _)).mono ?_; rintro e w1 ⟨rfl, hb1⟩; exact ⟨rfl, flN HC hC (by first | (simp; done) | (simp; omega) | omega) hb1⟩)); go_simp) | (apply flow_noC HC; (case hw => (go_simp; try (intro hh; cases hh))); go_simp))
   refine flow_nil ?_
   intro L wz hL hz
   have ⟨_, hbz, hcz⟩ := flO HC hz
   try simp only [List.forall_mem_cons] at hcz
   have hPy := HPZ.out.below hbz
   have HPY := Lib.hid hPy
   have hgr2 := gr_below hgr1 hbz
   obtain ⟨y0, y1, y2, yf⟩ := hPy.cells
   simp only at y1 y2
   have hgy := bsz hPy.lt
   clear hPy
   go_wp2
   go_ret
   exact ⟨_, rfl, by rw [HN.out]; rfl, by rw [HN.out]; exact HPY.out.setBad true, gr_sc hgr2 (.inl rfl) _⟩
set_option maxHeartbeats 3200000 in
theorem specPPos_any (s : ByteArray) (hs : s.size ≤ 1000000) (w : World) :
  Calls Tryz.prog 86 #[.string s] w (PosV s.data.toList w) := by
 by_cases hd : s.data.toList = [45]
 ·obtain rfl : s = ⟨#[45]⟩ := str_eq hd
  clear hd
  go_enter Tryz.func86, Tryz.ntmps86
  go_wp2
  go_ret2
  refine ⟨_, rfl, ?_, by exact bel⟩
  exact rowI_own (us := []) (row_empty _ _ _ _ (Nat.le_refl _)) (by simp) (by simp) (fun g hg => by simp [Value.ownBlock] at hg; subst hg; exact ⟨Nat.le_refl _, by simp⟩)
 ·have HD := Lib.hid hd
  have hns : (s.toList == [45]) = false := by rw [Lib.toList_data]; simpa using hd
  obtain ⟨ws, hws⟩ : ∃ ws, splitF s.data.toList 46 = ws := ⟨_, rfl⟩
  have HWS := Lib.hid hws
  have hwl : ws.length ≤ s.size + 1 := by
   rw [← hws, count_split]
   have : Lib.countByte s.data.toList 46 ≤ s.data.toList.length := by unfold Lib.countByte; first | exact List.count_le_length | exact List.countP_le_length | exact List.length_filter_le _ _
   rw [← size_list] at this; omega
  have HWZ := Lib.hid (show ∀ x ∈ ws, x.length ≤ s.size from fun x hx => by
   have h1 := lsum_mem hx
   rw [← hws, lsum_split, ← size_list] at h1; omega)
  clear hd
  go_enter Tryz.func86, Tryz.ntmps86
  go_wp2_with fail
  refine (l1Split_any s 46 _ (by omega)).mono ?_
  rw [hws]
  rintro e w1 ⟨vl, rfl, hl1, hb1⟩
  have hq1 := hb1.size
  simp at hq1
  have hsv : strV ws = strW (ws.map baL) := by rw [strV, strW, List.map_map]; rfl
  rw [hsv] at hl1
  have HLS := Lib.hid (rowS_own (S := NewB (w.alloc (.cells #[] 3)) w1) (us := ws.map baL) (by rw [List.length_map]; exact hl1) (fun x hx => by
   obtain ⟨y, hy, rfl⟩ := List.mem_map.1 hx
   have := HWZ.out y hy
   rw [baL_size]; unfold maxLen; omega) (by rw [List.length_map]; unfold maxLen; omega) (fun g hg => ⟨own_base hl1 g hg, own_lt' hl1 hg⟩)).at_
  obtain ⟨pl, kl, rfl⟩ : ∃ p c, vl = .slice p ws.length c := by
   rcases hl1.2 with ⟨rfl, h0⟩ | ⟨g, cap, cur, rfl, _⟩
   ·exact ⟨none, 0, by rw [h0]⟩
   ·exact ⟨_, _, rfl⟩
  have HB1 := Lib.hid hb1
  clear hl1 hws hsv
  go_wp2
  have hp1 : w.heap.size < w1.heap.size := by omega
  go_loopw [4, 6] (PosRel ws w.heap.size w1) (fun _ i _ => ws.length - (intOf i).toNat)
  case atStart => exact ⟨0, [], Nat.zero_le _, rfl, rfl, rfl, own_below (row_empty _ _ _ _ (Nat.le_refl _)) HB1.out, fun b e => by simp [Value.ownBlock] at e; exact .inl e.symm, gr_refl _ _⟩
  case round =>
   obtain ⟨k, l, hk, rfl, hrd, hkl, ho, hob, hgr⟩ := hrel
   have HO := Lib.hid ho
   have HRD := Lib.hid hrd
   have HOB := Lib.hid hob
   have HB := Lib.hid (show Below w.heap.size w wr from by
    have h1 : Below w.heap.size w w1 := Below.step ((Below.refl _ _).alloc (Nat.le_refl _) _) HB1.out
    exact ⟨hgr.os.trans h1.os, hgr.tape.trans h1.tape, hgr.output.trans h1.output, by have := hgr.size; omega, fun b hb => (hgr.block b (by omega) (by simp; omega)).trans (h1.block b hb)⟩)
   have hqr := hgr.size
   clear ho hrd hob
   by_cases hlt : k < ws.length
   ·have hlti : (k : Int) < ws.length := by omega
    obtain ⟨b', o', rfl, hB', hy0, hys⟩ := HLS.out.at_ (i := k) (by rw [List.length_map]; exact hlt)
    rw [List.getElem_map] at hy0 hys
    have hgn : b' ≠ w.heap.size := by have := hB'.1; simp at this; omega
    have y0 := (World.cell?_of_block (a := ⟨b', o' + k, none⟩) (hgr.block b' hB'.2 (by simpa using hgn))).trans hy0
    have zy := bsz (World.block_lt_of_cell? _ _ y0)
    have hwz := HWZ.out _ (List.getElem_mem hlt)
    obtain ⟨a, ha⟩ : ∃ a, ws[k] = a := ⟨_, rfl⟩
    have HA := Lib.hid ha
    rw [ha] at y0 hwz
    clear hy0 hys ha
    go_wp2_with fail
    refine (l1Read_any (baL a) (by rw [baL_size]; omega) _).mono ?_
    rw [baL_list]
    rintro e w2 ⟨rfl, hb2⟩
    have hq2 := hb2.size
    cases hr : rdInt a with
    | none =>
     have HN := Lib.hid (show rdPos s.data.toList = none from rdPos_none HD.out (by rw [HWS.out]; exact rdAll_none (List.getElem_mem hlt) (by rw [HA.out]; exact hr)))
     clear hr
     go_wp2
     go_ret2
     exact ⟨_, by rw [HN.out]; rfl, by rw [HN.out]; exact rowI_own (us := []) (own_lower (row_empty _ w2.heap.size _ _ (Nat.le_refl _)) (Nat.zero_le _)) (by simp) (by simp) (fun g hg => by simp [Value.ownBlock] at hg; subst hg; exact ⟨by omega, by simp⟩), by exact bel⟩
    | some n =>
     have hnb := (rdInt_of hr)
     have HTK := Lib.hid (show rdAll (ws.take (k + 1)) = some (l ++ [n]) from by rw [List.take_succ_eq_append_getElem hlt, rdAll_snoc, HRD.out, HA.out, hr]; rfl)
     have HO1 := Lib.hid (own_below HO.out hb2)
     clear hr hnb
     go_wp2_with (at_builtin; refine wpList_app1 rfl (.tmp 32) (.tmp 34) _ rfl w.heap.size 3 1 8 elemIntE _ _ _ rfl w2 #[.int .i64 n] rfl _ (by simp) rfl HO1.out rfl (by simp [Value.oneCell']) (by omega) (by unfold maxLen; omega) (by omega) ?_; intro v1 w3 hown1 hg1 hnr1 hlt1)
     refine ⟨⟨k + 1, l ++ [n], by omega, by go_num, HTK.out, by simp [hkl], by rw [intW_snoc]; exact hown1, fun b e => ?_, ?_⟩, by simp [intOf]; omega⟩
     ·rcases hnr1 with h1 | ⟨b2, h1, h2⟩
      ·rw [h1] at e; exact HOB.out b e
      ·rw [h1] at e; injection e with e; exact .inr (by omega)
     ·have hz3 := hg1.size
      exact ⟨hg1.os.trans (hb2.os.trans hgr.os), hg1.tape.trans (hb2.tape.trans hgr.tape), hg1.output.trans (hb2.output.trans hgr.output), by omega, fun b hb hn => (hg1.block b (by omega) (fun e => (HOB.out b e.symm).elim (fun e => hn (by rw [e])) (fun e => by omega))).trans ((hb2.block b (by omega)).trans (hgr.block b hb hn))⟩
   ·obtain rfl : k = ws.length := by omega
    have hrd := HRD.out
    rw [List.take_length, ← HWS.out] at hrd
    obtain ⟨r1, r2, r3⟩ := rdPos_some HD.out hrd
    have hbd := (rdAll_back hrd).2
    have HR := Lib.hid (And.intro r1 (And.intro r2 (And.intro r3 hbd)))
    have HOW := Lib.hid (show IntOwn 3 (NewB w wr) wr l _ from rowI_own (by rw [hkl]; exact HO.out) (fun n hn => i64_6 (hbd n hn)) (by unfold maxLen; omega) (fun b e => ⟨own_base HO.out b e, own_lt' HO.out e⟩))
    clear hrd r1 r2 r3 hbd
    go_wp2_with fail
    refine (l3Place_any l _ _ HOW.out.at_).mono ?_
    rintro e w2 ⟨rfl, hb2⟩
    have hq2 := hb2.size
    rw [show (l.all in03 && decide (l.length ≤ 8)) = posB l by rw [posB, Bool.and_comm]; rfl]
    cases hp : posB l
    ·have HPB := Lib.hid hp
     clear hp
     go_wp2
     go_ret2
     have hn : rdPos s.data.toList = none := by rw [HR.out.1, HPB.out]; rfl
     exact ⟨_, by rw [hn]; rfl, by rw [hn]; exact rowI_own (us := []) (own_lower (row_empty _ w2.heap.size _ _ (Nat.le_refl _)) (Nat.zero_le _)) (by simp) (by simp) (fun g hg => by simp [Value.ownBlock] at hg; subst hg; exact ⟨by omega, by simp⟩), by exact bel⟩
    ·have HPB := Lib.hid hp
     clear hp
     go_wp2
     go_ret2
     have hn : rdPos s.data.toList = some l := by rw [HR.out.1, HPB.out]; rfl
     exact ⟨_, by (rw [hn]; try rfl), by rw [hn]; exact IntOwn.mono (SameOn.refl _ _) (fun b hb => ⟨hb.1, by have := hb.2; omega⟩) (IntOwn.later hb2 HOW.out), Below.step HB.out hb2⟩
end Go.Proofs.YtabkdonplmlbcaaGreatDoor
