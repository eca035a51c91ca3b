import Derived.Lib.AtoiErrMem
import Derived.Shelf.Strings.BuilderF
import Derived.Test.YtabkdonplmlbcaaGreatDoorStPart23
namespace Go.Proofs.YtabkdonplmlbcaaGreatDoor
set_option maxRecDepth 100000
open Go.RowKit
structure EnvE (w : World) : Prop where
 syn : ∃ t p, w.cell? ⟨0, 0, none⟩ = some (.iface t p)
 rng : ∃ t p, w.cell? ⟨1, 0, none⟩ = some (.iface t p)
theorem EnvE.below {w w' : World} (h : EnvE w) (hb : Below w.heap.size w w') : EnvE w' := by
 obtain ⟨⟨t, p, h1⟩, ⟨t', p', h2⟩⟩ := h
 exact ⟨⟨t, p, (hb.cell (World.block_lt_of_cell? w _ h1)).trans h1⟩, ⟨t', p', (hb.cell (World.block_lt_of_cell? w _ h2)).trans h2⟩⟩
theorem rdInt_ok {l : List UInt8} {v : Int} (h : Lib.atoiAll l = .ok v) : rdInt l = if inB v (-999999) 999999 && (Lib.itoa v == l) then some v else none := by
 split
 ·rename_i hc
  simp only [inB, Bool.and_eq_true, decide_eq_true_eq, beq_iff_eq] at hc
  rw [← hc.2]; exact rdInt_itoa hc.1.1 hc.1.2
 ·rename_i hc
  cases hr : rdInt l with
  | none => rfl
  | some n =>
   obtain ⟨h1, h2, h3⟩ := rdInt_of hr
   have := rdInt_len hr
   have ha := Lib.atoiAll_short l (by omega)
   rw [h, ← h3, atoi_itoa] at ha
   have : v = n := by injection ha
   subst this
   exact absurd (by simp [inB, h1, h2, h3]) hc
theorem rdInt_bad {l : List UInt8} (h : ∀ v, Lib.atoiAll l ≠ .ok v) : rdInt l = none := by
 cases hr : rdInt l with
 | none => rfl
 | some n =>
  obtain ⟨h1, h2, h3⟩ := rdInt_of hr
  have := rdInt_len hr
  have ha := Lib.atoiAll_short l (by omega)
  rw [← h3, atoi_itoa] at ha
  exact absurd (by rw [← h3]; exact ha) (h n)
def AtoiV (l : List UInt8) (w : World) (e : Ending) (w' : World) : Prop := Below w.heap.size w w' ∧ ((∃ v, Lib.atoiAll l = .ok v ∧ e = .returned (.tuple #[.int .i64 v, .nilIface])) ∨ ((∀ v, Lib.atoiAll l ≠ .ok v) ∧ ∃ v t N, e = .returned (.tuple #[.int .i64 v, .iface t (.pointer (some ⟨N, 0, none⟩))])))
theorem atoi_any (s : ByteArray) (hs : s.size ≤ 1000000000000) (w : World) (hE : EnvE w) : Calls Tryz.prog 63 #[.string s] w (AtoiV s.data.toList w) := by
 cases h : Lib.atoiAll s.data.toList
 ·rename_i v
  refine (Tryz.strconv_Atoi_ok s (by omega) v h w).mono ?_
  rintro e w' ⟨rfl, hw⟩
  refine ⟨?_, .inl ⟨v, h, rfl⟩⟩
  rcases hw with rfl | ⟨t, rfl⟩
  ·exact Below.refl _ _
  ·exact Lib.bytesWorld_below _ _ _
 ·obtain ⟨t, p, hv⟩ := hE.syn
  refine (Tryz.strconv_Atoi_syntax s (by omega) (fun v e => by rw [h] at e; cases e) (by rw [h]; intro e; cases e) _ w hv (.inr ⟨_, _, rfl⟩)).mono ?_
  rintro e w' ⟨N, rfl, -, -, hb⟩
  exact ⟨hb, .inr ⟨fun v hv => (by rw [h] at hv; cases hv), _, _, N, rfl⟩⟩
 ·obtain ⟨t, p, hv⟩ := hE.rng
  refine (Tryz.strconv_Atoi_range s (by omega) h _ w hv (.inr ⟨_, _, rfl⟩)).mono ?_
  rintro e w' ⟨N, rfl, -, -, hb⟩
  exact ⟨hb, .inr ⟨fun v hv => (by rw [h] at hv; cases hv), _, _, N, rfl⟩⟩
theorem ba_iff (l : List UInt8) (s : ByteArray) : ((⟨l.toArray⟩ : ByteArray) = s) ↔ l = s.data.toList := ⟨fun h => by rw [← h], fun h => (str_eq h.symm).symm⟩
set_option maxHeartbeats 1600000 in
theorem parseInt_any (s : ByteArray) (hs : s.size ≤ 1000000000000) (w : World) (hE : Env w) (hV : EnvE w) :
  Calls Tryz.prog 33 #[.string s] w fun e w' => e = .returned (.tuple #[.int .i64 ((rdInt s.data.toList).getD 0), .bool (rdInt s.data.toList).isSome]) ∧ Below w.heap.size w w' := by
 have HE := Lib.hid hE
 have HV := Lib.hid hV
 clear hE hV
 go_enter Tryz.func33, Tryz.ntmps33
 go_wp2_with fail
 refine (atoi_any s hs _ (HV.out.below (by exact bel))).mono ?_
 rintro e w1 ⟨hb1, ⟨v, hv, rfl⟩ | ⟨hv, v, t, N, rfl⟩⟩
 ·have HR := Lib.hid (rdInt_ok hv)
  have HB := Lib.hid (Lib.atoiAll_bounds hv)
  clear hv
  go_wp2_with (first | (go_at_call 40; refine (within_any _ _ _ _).mono ?_; rintro e w' ⟨rfl, rfl⟩) | (go_at_call 64; refine (itoa_any v HB.out.1 HB.out.2 _ (HE.out.below (by exact bel))).mono ?_; rintro e w2 ⟨rfl, hb2⟩; have ⟨cw2, fw2⟩ := bcell hb2; have qw2 := hb2.size; (try simp at qw2); (try have zw2w := bsz (show w.heap.size < w2.heap.size by omega))))
  all_goals (go_ret2; exact ⟨by rw [HR.out]; simp_all [Lib.toList_data], by exact bel⟩)
 ·have HR := Lib.hid (rdInt_bad hv)
  clear hv
  go_wp2
  go_ret2
  exact ⟨by rw [HR.out]; rfl, by exact bel⟩
def EnvP (lo : Nat) (w : World) : Prop := ∃ w0 : World, w0.heap.size ≤ lo ∧ Env w0 ∧ EnvE w0 ∧ Below w0.heap.size w0 w
theorem EnvP.env {lo : Nat} {w : World} (h : EnvP lo w) : Env w ∧ EnvE w := by
 obtain ⟨w0, -, h1, h2, h3⟩ := h
 exact ⟨h1.below h3, h2.below h3⟩
theorem EnvP.below {lo : Nat} {w w' : World} (h : EnvP lo w) (hb : Below w.heap.size w w') : EnvP lo w' := by
 obtain ⟨w0, h0, h1, h2, h3⟩ := h
 exact ⟨w0, h0, h1, h2, Below.step h3 hb⟩
theorem EnvP.kp {X : Nat → Prop} {lo : Nat} {w w' : World} (h : EnvP lo w) (hk : Kp X w w') (hX : ∀ b, X b → lo ≤ b) : EnvP lo w' := by
 obtain ⟨w0, h0, h1, h2, h3⟩ := h
 have hz := h3.size
 have hz2 := hk.size
 exact ⟨w0, h0, h1, h2, ⟨hk.os.trans h3.os, hk.tape.trans h3.tape, hk.output.trans h3.output, by omega, fun b hb => (hk.block b (by omega) (fun e => by have := hX b e; omega)).trans (h3.block b hb)⟩⟩
theorem EnvP.gr {lo g : Nat} {w w' : World} (h : EnvP lo w) (hg : w.grownBy w' (some g)) (hlo : lo ≤ g) : EnvP lo w' :=
 h.kp (X := fun b => b = g) ⟨hg.os, hg.tape, hg.output, hg.size, fun b hb hn => hg.block b hb (fun e => hn (by injection e with e))⟩ (fun b e => by omega)
theorem PAt.setBad {T : TypeId} {w : World} {g : Nat} {s : ByteArray} {p : PSt} (h : PAt T w g s p) (b : Bool) : PAt T (w.setCell ⟨g, 2, none⟩ (.bool b)) g s ⟨p.pos, b⟩ := by
 have := heap_setCell_same w g 2 _ T (.bool b) h
 simpa [PAt] using this
def ScnRel (q : UInt8 → Bool) (T : TypeId) (g : Nat) (s : ByteArray) (k : Nat) (bad : Bool) (w : World) (wr : World) : Prop := ∃ j, k ≤ j ∧ j ≤ s.size ∧ (∀ i, k ≤ i → (h : i < j) → (h2 : i < s.size) → q s[i] = true) ∧ PAt T wr g s ⟨j, bad⟩ ∧ w.grownBy wr (some g)
theorem scan_at {q : UInt8 → Bool} {s : ByteArray} {k j : Nat} (hall : ∀ i, k ≤ i → (h : i < j) → (h2 : i < s.size) → q s[i] = true) (h1 : k ≤ j) (h2 : j ≤ s.size) (hst : ∀ h : j < s.size, q s[j] = false) : (s.data.toList.drop k).takeWhile q = (s.data.toList.drop k).take (j - k) :=
 by
 have e : s.data.toList.drop k = (s.data.toList.drop k).take (j - k) ++ s.data.toList.drop j := by
  have := (List.take_append_drop (j - k) (s.data.toList.drop k)).symm
  rw [List.drop_drop, show k + (j - k) = j by omega] at this; exact this
 show (s.data.toList.drop k).takeWhile q = _
 rw [e, takeWhile_app]
 ·rw [List.take_append_of_le_length (by rw [List.length_take, List.length_drop, ← size_list]; omega), List.take_take, Nat.min_self]
 ·rw [List.all_eq_true]
  intro c hc
  obtain ⟨i, hi, rfl⟩ := List.getElem_of_mem hc
  rw [List.length_take, List.length_drop, ← size_list] at hi
  rw [List.getElem_take, List.getElem_drop]
  exact hall (k + i) (by omega) (by omega) (by omega)
 ·intro c hc
  rw [List.head?_drop] at hc
  obtain ⟨hlt, rfl⟩ := List.getElem?_eq_some_iff.1 hc
  exact hst (by simpa using hlt)
theorem ext_list (s : ByteArray) (k j : Nat) : (s.extract k j).data.toList = (s.data.toList.drop k).take (j - k) := by rw [extract_list, List.drop_take]
theorem rdInt_bd (l : List UInt8) : -999999 ≤ (rdInt l).getD 0 ∧ (rdInt l).getD 0 ≤ 999999 := by
 cases h : rdInt l with
 | none => simp
 | some n => obtain ⟨h1, h2, -⟩ := rdInt_of h; exact ⟨h1, h2⟩
set_option maxHeartbeats 3200000 in
theorem number_any {lo : Nat} (g : Nat) (s : ByteArray) (p : PSt) (w : World) (h : PAt 35 w g s p) (hp : p.pos ≤ s.size) (hs : s.size ≤ 1000000000000) (hV : EnvP lo w) (hlo : lo ≤ g) :
  Calls Tryz.prog 10 #[.pointer (some ⟨g, 0, none⟩)] w (PStep 35 g s (iNum s.data.toList p).2 (fun v _ => v = .int .i64 (iNum s.data.toList p).1) w) := by
 have H := Lib.hid h
 have HV := Lib.hid hV
 have hg := bsz h.lt
 obtain ⟨k, bad⟩ := p
 simp only at hp
 obtain ⟨c0, c1, c2, cf⟩ := h.cells
 simp only at c1 c2
 clear h hV
 go_enter Tryz.func10, Tryz.ntmps10
 go_wp2
 go_loopw [] (ScnRel diC 35 g s k bad w) (fun wr => s.size - posOf wr g)
 case atStart => exact ⟨k, Nat.le_refl _, hp, fun i h1 h2 => absurd h2 (by omega), H.out, gr_refl w g⟩
 case round =>
  obtain ⟨j, hj1, hj2, hall, hP, hgr⟩ := hrel
  have HP := Lib.hid hP
  have HALL := Lib.hid hall
  have HVR := Lib.hid (HV.out.gr hgr hlo)
  have hPO := hP.posOf
  obtain ⟨d0, d1, d2, df⟩ := hP.cells
  simp only at d1 d2
  have hgw := bsz hP.lt
  clear hP hall c0 c1 c2 cf
  by_cases hst : ∃ h : j < s.size, diC s[j] = true
  ·obtain ⟨hlt, hw⟩ := hst
   have hj3 : (j : Int) < s.size := by omega
   have HW := Lib.hid hw
   go_wp2
   refine wp_region_flowC wr.heap.size [(⟨g, 0, none⟩, .string s), (⟨g, 1, none⟩, .int .i64 (j : Nat)), (⟨g, 2, none⟩, .bool bad)] (by kernel_rfl) (by kernel_rfl) (by first | (intro _ hs; cases hs; done) | (simp only [List.forall_mem_cons]; go_simp)) fun C HC => ?_
   repeat (first | ((first | apply flow_free rfl | (apply flow_yes; (case hw => go_simp))); (intro L w' hun hrd hC; have ⟨hC, hb', hf'⟩ := flO HC hC; (try simp only [List.forall_mem_cons] at hf'); go_simp; first | exact ⟨flS HC hC, rfl⟩ | (rw [if_neg]; (exact ⟨flS HC hC, rfl⟩); omega) | (go_at_call 32; refine ((same_below (isDigit_any _ _))).mono ?_; rintro e w1 ⟨rfl, hb1⟩; exact ⟨rfl, flN HC hC (by first | (simp; done) | (simp; omega) | omega) hb1⟩)); go_simp) | (apply flow_noC HC; (case hw => (go_simp; try (intro hh; cases hh))); go_simp))
   refine flow_nil ?_
   intro L wz hL hz
   have ⟨_, hbz, hcz⟩ := flO HC hz
   try simp only [List.forall_mem_cons] at hcz
   have hPz := HP.out.below hbz
   have HPZ := Lib.hid hPz
   obtain ⟨z0, z1, z2, zf⟩ := hPz.cells
   simp only at z1 z2
   have hgz := bsz hPz.lt
   clear hPz
   go_wp2
   rw [show ((j : Int) + 1) = ((j + 1 : Nat) : Int) by omega]
   have hP2 := HPZ.out.pos (j + 1)
   refine ⟨⟨j + 1, by omega, by omega, fun i h1 h2 h3 => ?_, hP2, gr_sc (gr_below hgr hbz) (.inl rfl) _⟩, by rw [hP2.posOf, hPO]; show s.size - (j + 1) < s.size - j; omega⟩
   by_cases e : i = j
   ·subst e; exact HW.out
   ·exact HALL.out i h1 (by omega) h3
  ·have HSTOP := Lib.hid (show ∀ h : j < s.size, diC s[j] = false from fun h => by simpa using fun e => hst ⟨h, e⟩)
   have HD := Lib.hid (show digs s.data.toList ⟨k, bad⟩ = (s.extract k j).data.toList from by rw [ext_list]; exact scan_at HALL.out hj1 hj2 HSTOP.out)
   have hll : (digs s.data.toList ⟨k, bad⟩).length = j - k := by rw [HD.out, ← size_list, ByteArray.size_extract]; omega
   have HLL := Lib.hid hll
   have hxz : (s.extract k j).size ≤ 1000000000000 := by rw [ByteArray.size_extract]; omega
   obtain ⟨nv, hnv⟩ : ∃ nv, (rdInt (s.extract k j).data.toList).getD 0 = nv := ⟨_, rfl⟩
   obtain ⟨ok, hok⟩ : ∃ ok, (rdInt (s.extract k j).data.toList).isSome = ok := ⟨_, rfl⟩
   have hrb := rdInt_bd (s.extract k j).data.toList
   rw [hnv] at hrb
   have HN := Lib.hid (show iNum s.data.toList ⟨k, bad⟩ = (nv - 1, ⟨j, bad || !ok⟩) by rw [iNum, HLL.out, HD.out, hnv, show k + (j - k) = j by omega, ← Option.not_isSome, hok])
   have wrk : IntKind.i64.wrap (nv - 1) = nv - 1 := IntWalk.i64_in _ (by omega)
   have HPI := Lib.hid (fun (w' : World) (hw' : Below wr.heap.size wr w') => parseInt_any (s.extract k j) hxz w' (HVR.out.below hw').env.1 (HVR.out.below hw').env.2)
   rw [hnv, hok] at HPI
   clear hll hnv hok
   by_cases hlt : j < s.size
   case' pos =>
    have hj3 : (j : Int) < s.size := by omega
    have hds := HSTOP.out hlt
    go_wp2
    refine wp_region_flowC wr.heap.size [(⟨g, 0, none⟩, .string s), (⟨g, 1, none⟩, .int .i64 (j : Nat)), (⟨g, 2, none⟩, .bool bad)] (by kernel_rfl) (by kernel_rfl) (by first | (intro _ hs; cases hs; done) | (simp only [List.forall_mem_cons]; go_simp)) fun C HC => ?_
    repeat (first | ((first | apply flow_free rfl | (apply flow_yes; (case hw => go_simp))); (intro L w' hun hrd hC; have ⟨hC, hb', hf'⟩ := flO HC hC; (try simp only [List.forall_mem_cons] at hf'); go_simp; first | exact ⟨flS HC hC, rfl⟩ | (rw [if_neg]; (exact ⟨flS HC hC, rfl⟩); omega) | (go_at_call 32; refine ((same_below (isDigit_any _ _))).mono ?_; rintro e w1 ⟨rfl, hb1⟩; exact ⟨rfl, flN HC hC (by first | (simp; done) | (simp; omega) | omega) hb1⟩)); go_simp) | (apply flow_noC HC; (case hw => (go_simp; try (intro hh; cases hh))); go_simp))
    refine flow_nil ?_
    intro L wz hL hz
    have ⟨_, hbz, hcz⟩ := flO HC hz
    try simp only [List.forall_mem_cons] at hcz
   case' neg =>
    have hj3 : ¬ (j : Int) < s.size := by omega
    go_wp2
    refine wp_region_flowC wr.heap.size [(⟨g, 0, none⟩, .string s), (⟨g, 1, none⟩, .int .i64 (j : Nat)), (⟨g, 2, none⟩, .bool bad)] (by kernel_rfl) (by kernel_rfl) (by first | (intro _ hs; cases hs; done) | (simp only [List.forall_mem_cons]; go_simp)) fun C HC => ?_
    repeat (first | ((first | apply flow_free rfl | (apply flow_yes; (case hw => go_simp))); (intro L w' hun hrd hC; have ⟨hC, hb', hf'⟩ := flO HC hC; (try simp only [List.forall_mem_cons] at hf'); go_simp; first | exact ⟨flS HC hC, rfl⟩ | (rw [if_neg]; (exact ⟨flS HC hC, rfl⟩); omega) | (go_at_call 32; refine ((same_below (isDigit_any _ _))).mono ?_; rintro e w1 ⟨rfl, hb1⟩; exact ⟨rfl, flN HC hC (by first | (simp; done) | (simp; omega) | omega) hb1⟩)); go_simp) | (apply flow_noC HC; (case hw => (go_simp; try (intro hh; cases hh))); go_simp))
    refine flow_nil ?_
    intro L wz hL hz
    have ⟨_, hbz, hcz⟩ := flO HC hz
    try simp only [List.forall_mem_cons] at hcz
   all_goals
    have hPz := HP.out.below hbz
    have HPZ := Lib.hid hPz
    have hgr1 := gr_below hgr hbz
    have HPI1 := Lib.hid (fun (w' : World) (hw' : Below wz.heap.size wz w') => HPI.out w' (Below.step hbz hw'))
    obtain ⟨z0, z1, z2, zf⟩ := hPz.cells
    simp only at z1 z2
    have hgz := bsz hPz.lt
    clear hPz
    go_wp2
    refine wp_region_flowC wz.heap.size [(⟨g, 0, none⟩, .string s), (⟨g, 1, none⟩, .int .i64 (j : Nat)), (⟨g, 2, none⟩, .bool bad)] (by kernel_rfl) (by kernel_rfl) (by first | (intro _ hs; cases hs; done) | (simp only [List.forall_mem_cons]; go_simp)) fun C HC => ?_
    repeat (first | ((first | apply flow_free rfl | (apply flow_yes; (case hw => go_simp))); (intro L w' hun hrd hC; have ⟨hC, hb', hf'⟩ := flO HC hC; (try simp only [List.forall_mem_cons] at hf'); go_simp; first | exact ⟨flS HC hC, rfl⟩ | (rw [if_neg]; (exact ⟨flS HC hC, rfl⟩); omega) | (go_at_call 33; refine (HPI1.out _ hb').mono ?_; rintro e w1 ⟨rfl, hb1⟩; exact ⟨rfl, flN HC hC (by first | (simp; done) | (simp; omega) | omega) hb1⟩)); go_simp) | (apply flow_noC HC; (case hw => (go_simp; try (intro hh; cases hh))); go_simp))
    refine flow_nil ?_
    intro L wz hL hz
    have ⟨_, hbz, hcz⟩ := flO HC hz
    try simp only [List.forall_mem_cons] at hcz
    have hPy := HPZ.out.below hbz
    have HPY := Lib.hid hPy
    have hgr2 := gr_below hgr1 hbz
    obtain ⟨y0, y1, y2, yf⟩ := hPy.cells
    simp only at y1 y2
    have hgy := bsz hPy.lt
    clear hPy
    cases bad
    all_goals
     go_wp2
     go_ret
     exact ⟨_, rfl, by rw [HN.out]; rfl, by rw [HN.out]; simpa using HPY.out.setBad _, gr_sc hgr2 (.inl rfl) _⟩
def u0 : Un := ⟨⟨#[]⟩, [], [], ⟨#[]⟩⟩
def lsum : List (List UInt8) → Nat | [] => 0 | l :: ls => (l.length + 1) + lsum ls
theorem lsum_mem : ∀ {ls : List (List UInt8)} {l : List UInt8}, l ∈ ls → l.length + 1 ≤ lsum ls
 | [], _, h => by cases h
 | m :: ls, l, h => by
  rw [lsum]
  rcases List.mem_cons.1 h with rfl | h
  ·omega
  ·have := lsum_mem h; omega
theorem lsum_split (b : UInt8) : ∀ l : List UInt8, lsum (splitF l b) = l.length + 1
 | [] => rfl
 | x :: l => by
  have ih := lsum_split b l
  rw [splitF_cons]
  split
  ·rw [lsum, ih]; simp; omega
  ·cases hs : splitF l b with
   | nil => have := splitF_ne l b; rw [hs] at this; simp at this
   | cons p ps => rw [hs, lsum] at ih; rw [lsum]; simp only [List.length_cons]; omega
section
variable {P : Program} {ops : Array Oper} {md : Region.Mode} {vs : List (Option Value)} {D : (Nat → Value) → Array Bool → World → Prop}
theorem upd_comm (u : Nat → Value) {i j : Nat} (x y : Value) (h : i ≠ j) : upd (upd u i x) j y = upd (upd u j y) i x := by
 funext k
 unfold upd
 by_cases h1 : k = j
 ·by_cases h2 : k = i
  ·exact absurd (h2.symm.trans h1) h
  ·rw [if_pos h1, if_neg h2, if_pos h1]
 ·rw [if_neg h1]
  by_cases h2 : k = i
  ·rw [if_pos h2, if_pos h2]
  ·rw [if_neg h2, if_neg h2, if_neg h1]
def GV (P : Program) (md : Region.Mode) (ops : Array Oper) (D : (Nat → Value) → Array Bool → World → Prop) (o : Oper) (i : Nat) (a : Act) (u : Nat → Value) : Prop :=
 Region.wanted o (yielded ops a.tmps) = true ∧ ∀ u', (∀ e ∈ o.after, Region.binds md e = true → u' e.on = u e.on) → ∀ L w, L.getD i true = false → Behind md o L → D u' L w → eachUpon P (fun x w' => D (upd u' i x) (L.setIfInBounds i true) w') ((execOp a.eval o).run P w)
theorem GV.eval {o : Oper} {i : Nat} {a a' : Act} {u u' : Nat → Value} (h : GV P md ops D o i a u) (he : execOp a'.eval o = execOp a.eval o) (hw : Region.wanted o (yielded ops a'.tmps) = Region.wanted o (yielded ops a.tmps)) (hu : ∀ e ∈ o.after, Region.binds md e = true → u' e.on = u e.on) : GV P md ops D o i a' u' := by
 unfold GV at *
 rw [he, hw]
 exact ⟨h.1, fun v hv => h.2 v fun e h1 h2 => (hv e h1 h2).trans (hu e h1 h2)⟩
def opV (P : Program) (md : Region.Mode) (ops : Array Oper) (vs : List (Option Value)) (D : (Nat → Value) → Array Bool → World → Prop) (i : Nat) (K : Act → (Nat → Value) → Prop) (a : Act) (u : Nat → Value) : Prop :=
 ∃ o, ops[i]? = some o ∧ ((stB vs i = true ∧ GS P md ops vs D o i a ∧ K (a.put o.dst (baseV vs i)) u) ∨ (stB vs i = false ∧ GV P md ops D o i a u ∧ ∀ x, K (a.put o.dst x) (upd u i x)))
def anyV (P : Program) (md : Region.Mode) (ops : Array Oper) (vs : List (Option Value)) (D : (Nat → Value) → Array Bool → World → Prop) (Q : Array Bool → Act → (Nat → Value) → Prop) : Nat → Array Bool → Act → (Nat → Value) → Prop
 | 0, L, a, u => Region.ready md ops L = [] ∧ Q L a u
 | fuel + 1, L, a, u => (Region.ready md ops L = [] → Q L a u) ∧ ∀ i ∈ Region.ready md ops L, opV P md ops vs D i (anyV P md ops vs D Q fuel (L.setIfInBounds i true)) a u
theorem wpAny_of_anyV {Q : Array Bool → Act → (Nat → Value) → Prop} {Q' : Exit → Act → World → Prop} (hQ : ∀ L a u w, D u L w → Q L a u → Q' .normal a w) : ∀ (fuel : Nat) (L : Array Bool) (a : Act) (u : Nat → Value) (w : World), D u L w →
  anyV P md ops vs D Q fuel L a u → wpAny P md ops Q' fuel L a w
 | 0, _, _, _, _, hw, h => ⟨h.1, hQ _ _ _ _ hw h.2⟩
 | fuel + 1, L, a, u, w, hw, h => by
  refine ⟨fun h0 => hQ _ _ _ _ hw (h.1 h0), fun i hi => ?_⟩
  obtain ⟨o, ho, ⟨hs, hg, hK⟩ | ⟨hs, hg, hK⟩⟩ := h.2 i hi
  ·exact wpOp_of_flowOp (C := D u) (K := fun a' => anyV P md ops vs D Q fuel (L.setIfInBounds i true) a' u) hi hw (fun a' w' hw' hK => wpAny_of_anyV hQ fuel _ a' u w' hw' hK) ⟨o, _, ho, hg u, hK⟩
  ·obtain ⟨hun, oj, hoj, hall⟩ := mem_ready.1 hi
   obtain rfl : oj = o := Option.some.inj (hoj.symm.trans ho)
   have hbe : Behind md oj L := fun e he hb => by simpa using hall e he hb
   have h3 := hg.2 u (fun _ _ _ => rfl) L w hun hbe hw
   unfold wpOp
   simp only [ho]
   rw [if_pos hg.1]
   refine .inl ?_
   unfold Oper.wp
   generalize (execOp a.eval oj).run P w = r at *
   cases r with
   | ok n w' =>
    cases n <;> simp only [eachUpon] at h3 <;> simp only [Oper.upon]
    case value x => exact wpAny_of_anyV hQ fuel _ _ _ _ h3 (hK x)
    case skip => exact wpAny_of_anyV hQ fuel _ _ _ _ h3 (hK undef)
    case enter f args => exact h3.mono fun e w'' ⟨x, he, hw''⟩ => by subst he; exact wpAny_of_anyV hQ fuel _ _ _ _ hw'' (hK x)
   | halt x w' => simp only [eachUpon] at h3
theorem anyV_firstS {Q : Array Bool → Act → (Nat → Value) → Prop} {i : Nat} {oi : Oper} (hi : ops[i]? = some oi) (hst : stB vs i = true) (hsel : ∀ (j : Nat) (o : Oper) cs b, ops[j]? = some o → o.op ≠ .select cs b) :
  ∀ (fuel : Nat) (L : Array Bool) (a : Act) (u : Nat → Value),
   (∀ j oj, ops[j]? = some oj → j ≠ i → L.getD j true = false → (∀ e ∈ oj.after, Region.binds md e = true → e.on ≠ i) → oi.apart ops oj = true) →
   i ∈ Region.ready md ops L → GS P md ops vs D oi i a →
   anyV P md ops vs D Q fuel (L.setIfInBounds i true) (a.put oi.dst (baseV vs i)) u → anyV P md ops vs D Q (fuel + 1) L a u := by
 intro fuel
 induction fuel with
 | zero =>
  intro L a u _ hr hy H
  refine ⟨fun h => (by rw [h] at hr; cases hr), fun j hj => ?_⟩
  by_cases hji : j = i
  ·subst hji; exact ⟨oi, hi, .inl ⟨hst, hy, H⟩⟩
  ·have := ready_mono hj hji
   rw [H.1] at this
   cases this
 | succ fuel ih =>
  intro L a u hfree hr hy H
  refine ⟨fun h => (by rw [h] at hr; cases hr), fun j hj => ?_⟩
  by_cases hji : j = i
  ·subst hji; exact ⟨oi, hi, .inl ⟨hst, hy, H⟩⟩
  ·obtain ⟨hjun, oj, hoj, hall⟩ := mem_ready.1 hj
   have hnot : ∀ e ∈ oj.after, Region.binds md e = true → e.on ≠ i := fun e he hb heq => by
    have h1 := hall e he hb
    have h0 := (mem_ready.1 hr).1
    rw [heq] at h1
    rw [getD_tf h0] at h1; cases h1
   obtain ⟨p1, p2, p3⟩ := Oper.apart_spec (hfree j oj hoj hji hjun hnot)
   have hfree' : ∀ k ok, ops[k]? = some ok → k ≠ i → (L.setIfInBounds j true).getD k true = false →
     (∀ e ∈ ok.after, Region.binds md e = true → e.on ≠ i) → oi.apart ops ok = true := fun k ok hk hki hun hno => by
    refine hfree k ok hk hki ?_ hno
    by_cases hjk : j = k
    ·subst hjk; exact hjun
    ·rw [getD_set_ne true hjk] at hun; exact hun
   obtain ⟨o, ho, hcase⟩ := H.2 j (ready_mono hj hji)
   obtain rfl : oj = o := Option.some.inj (hoj.symm.trans ho)
   have hej := execOp_put oj (fun cs b => hsel j oj cs b hoj) a oi.dst (baseV vs i) p1
   have hwj := wanted_put (ops := ops) oj a oi.dst (baseV vs i) p1
   rcases hcase with ⟨hs, hg, hK⟩ | ⟨hs, hg, hK⟩
   ·refine ⟨oj, hoj, .inl ⟨hs, hg.eval hej.symm hwj.symm, ih (L.setIfInBounds j true) _ u hfree' (ready_mono hr (Ne.symm hji)) (hy.eval (execOp_put oi (fun cs b => hsel i oi cs b hi) a oj.dst _ p3) (wanted_put oi a oj.dst _ p3)) ?_⟩⟩
    rw [Array.setIfInBounds_comm _ _ hji, ← Act.put_comm a _ _ p2]; exact hK
   ·refine ⟨oj, hoj, .inr ⟨hs, hg.eval hej.symm hwj.symm (fun _ _ _ => rfl), fun x => ih (L.setIfInBounds j true) _ _ hfree' (ready_mono hr (Ne.symm hji)) (hy.eval (execOp_put oi (fun cs b => hsel i oi cs b hi) a oj.dst x p3) (wanted_put oi a oj.dst x p3)) ?_⟩⟩
    rw [Array.setIfInBounds_comm _ _ hji, ← Act.put_comm a _ _ p2]; exact hK x
theorem anyV_firstV {Q : Array Bool → Act → (Nat → Value) → Prop} {i : Nat} {oi : Oper} (hi : ops[i]? = some oi) (hst : stB vs i = false) (hsel : ∀ (j : Nat) (o : Oper) cs b, ops[j]? = some o → o.op ≠ .select cs b) :
  ∀ (fuel : Nat) (L : Array Bool) (a : Act) (u : Nat → Value),
   (∀ j oj, ops[j]? = some oj → j ≠ i → L.getD j true = false → (∀ e ∈ oj.after, Region.binds md e = true → e.on ≠ i) → oi.apart ops oj = true) →
   i ∈ Region.ready md ops L → GV P md ops D oi i a u →
   (∀ x, anyV P md ops vs D Q fuel (L.setIfInBounds i true) (a.put oi.dst x) (upd u i x)) → anyV P md ops vs D Q (fuel + 1) L a u := by
 intro fuel
 induction fuel with
 | zero =>
  intro L a u _ hr hy H
  refine ⟨fun h => (by rw [h] at hr; cases hr), fun j hj => ?_⟩
  by_cases hji : j = i
  ·subst hji; exact ⟨oi, hi, .inr ⟨hst, hy, H⟩⟩
  ·have := ready_mono hj hji
   rw [(H undef).1] at this
   cases this
 | succ fuel ih =>
  intro L a u hfree hr hy H
  refine ⟨fun h => (by rw [h] at hr; cases hr), fun j hj => ?_⟩
  by_cases hji : j = i
  ·subst hji; exact ⟨oi, hi, .inr ⟨hst, hy, H⟩⟩
  ·obtain ⟨hjun, oj, hoj, hall⟩ := mem_ready.1 hj
   have hnot : ∀ e ∈ oj.after, Region.binds md e = true → e.on ≠ i := fun e he hb heq => by
    have h1 := hall e he hb
    have h0 := (mem_ready.1 hr).1
    rw [heq] at h1
    rw [getD_tf h0] at h1; cases h1
   have hnoti : ∀ e ∈ oi.after, Region.binds md e = true → e.on ≠ j := fun e he hb heq => by
    obtain ⟨_, oi', hoi', hall'⟩ := mem_ready.1 hr
    obtain rfl : oi = oi' := Option.some.inj (hi.symm.trans hoi')
    have h1 := hall' e he hb
    rw [heq] at h1
    rw [getD_tf hjun] at h1; cases h1
   obtain ⟨p1, p2, p3⟩ := Oper.apart_spec (hfree j oj hoj hji hjun hnot)
   have hfree' : ∀ k ok, ops[k]? = some ok → k ≠ i → (L.setIfInBounds j true).getD k true = false →
     (∀ e ∈ ok.after, Region.binds md e = true → e.on ≠ i) → oi.apart ops ok = true := fun k ok hk hki hun hno => by
    refine hfree k ok hk hki ?_ hno
    by_cases hjk : j = k
    ·subst hjk; exact hjun
    ·rw [getD_set_ne true hjk] at hun; exact hun
   have hej : ∀ x, execOp (a.put oi.dst x).eval oj = execOp a.eval oj := fun x => execOp_put oj (fun cs b => hsel j oj cs b hoj) a oi.dst x p1
   have hwj : ∀ x, Region.wanted oj (yielded ops (a.put oi.dst x).tmps) = Region.wanted oj (yielded ops a.tmps) := fun x => wanted_put (ops := ops) oj a oi.dst x p1
   have hei : ∀ y, execOp (a.put oj.dst y).eval oi = execOp a.eval oi := fun y => execOp_put oi (fun cs b => hsel i oi cs b hi) a oj.dst y p3
   have hwi : ∀ y, Region.wanted oi (yielded ops (a.put oj.dst y).tmps) = Region.wanted oi (yielded ops a.tmps) := fun y => wanted_put (ops := ops) oi a oj.dst y p3
   cases hsj : stB vs j with
   | true =>
    have hx : ∀ x, GS P md ops vs D oj j a ∧ anyV P md ops vs D Q fuel ((L.setIfInBounds i true).setIfInBounds j true) ((a.put oi.dst x).put oj.dst (baseV vs j)) (upd u i x) := fun x => by
     obtain ⟨o, ho, hcase⟩ := (H x).2 j (ready_mono hj hji)
     obtain rfl : oj = o := Option.some.inj (hoj.symm.trans ho)
     rcases hcase with ⟨hs, hg, hK⟩ | ⟨hs, hg, hK⟩
     ·exact ⟨hg.eval (hej x).symm (hwj x).symm, hK⟩
     ·rw [hs] at hsj; cases hsj
    refine ⟨oj, hoj, .inl ⟨hsj, (hx undef).1, ih (L.setIfInBounds j true) _ u hfree' (ready_mono hr (Ne.symm hji)) (hy.eval (hei _) (hwi _) (fun _ _ _ => rfl)) fun x => ?_⟩⟩
    rw [Array.setIfInBounds_comm _ _ hji, ← Act.put_comm a _ _ p2]; exact (hx x).2
   | false =>
    have hx : ∀ x, GV P md ops D oj j a u ∧ ∀ y, anyV P md ops vs D Q fuel ((L.setIfInBounds i true).setIfInBounds j true) ((a.put oi.dst x).put oj.dst y) (upd (upd u i x) j y) := fun x => by
     obtain ⟨o, ho, hcase⟩ := (H x).2 j (ready_mono hj hji)
     obtain rfl : oj = o := Option.some.inj (hoj.symm.trans ho)
     rcases hcase with ⟨hs, hg, hK⟩ | ⟨hs, hg, hK⟩
     ·rw [hs] at hsj; cases hsj
     ·exact ⟨hg.eval (hej x).symm (hwj x).symm (fun e h1 h2 => (upd_other u x (hnot e h1 h2)).symm), hK⟩
    refine ⟨oj, hoj, .inr ⟨hsj, (hx undef).1, fun y => ih (L.setIfInBounds j true) _ _ hfree' (ready_mono hr (Ne.symm hji)) (hy.eval (hei y) (hwi y) (fun e h1 h2 => upd_other u y (hnoti e h1 h2))) fun x => ?_⟩⟩
    rw [Array.setIfInBounds_comm _ _ hji, ← Act.put_comm a _ _ p2, ← upd_comm u x y (Ne.symm hji)]; exact (hx x).2 y
def flowV (P : Program) (md : Region.Mode) (ops : Array Oper) (vs : List (Option Value)) (D : (Nat → Value) → Array Bool → World → Prop) (Q : Act → (Nat → Value) → Prop) : Nat → List Oper → Act → (Nat → Value) → Prop
 | _, [], a, u => Q a u
 | k, o :: rest, a, u => (stB vs k = true ∧ GS P md ops vs D o k a ∧ flowV P md ops vs D Q (k + 1) rest (a.put o.dst (baseV vs k)) u) ∨ (stB vs k = false ∧ GV P md ops D o k a u ∧ ∀ x, flowV P md ops vs D Q (k + 1) rest (a.put o.dst x) (upd u k x))
theorem anyV_lex {Q : Act → (Nat → Value) → Prop} (hs : Region.noSelect ops = true) : ∀ (l : List Oper) (k : Nat) (L : Array Bool) (a : Act) (u : Nat → Value), (∀ j, l[j]? = ops[k + j]?) → L.size = ops.size → k + l.length = ops.size → (∀ i, i < k → L.getD i false = true) →
  Region.lexFrom md ops l.length k L = true → flowV P md ops vs D Q k l a u → anyV P md ops vs D (fun L a u => (∀ i, i < ops.size → L.getD i false = true) ∧ Q a u) l.length L a u
 | [], k, _, _, _, _, _, hk, hall, hB, h => ⟨by simpa [Region.lexFrom] using hB, fun i hi => hall i (by simp at hk; omega), h⟩
 | o :: l, k, L, a, u, hl, hz, hk, hall, hB, h => by
  have h0 : ops[k]? = some o := by simpa using (hl 0).symm
  simp only [List.length_cons, Region.lexFrom, Bool.and_eq_true] at hB
  obtain ⟨⟨hr, hf⟩, hB'⟩ := hB
  have hlt : k < L.size := by simp only [List.length_cons] at hk; omega
  have hrk : k ∈ Region.ready md ops L := by simpa using hr
  have next : ∀ a u, flowV P md ops vs D Q (k + 1) l a u → anyV P md ops vs D (fun L a u => (∀ i, i < ops.size → L.getD i false = true) ∧ Q a u) l.length (L.setIfInBounds k true) a u := fun a u hK =>
   anyV_lex hs l (k + 1) _ _ u (fun j => by have := hl (j + 1); simpa [Nat.add_assoc, Nat.add_comm 1 j] using this) (by simpa using hz) (by simp only [List.length_cons] at hk; omega)
    (fun i hi => by
     by_cases hik : i = k
     ·subst hik; simp [hlt]
     ·rw [getD_set_ne false (Ne.symm hik)]; exact hall i (by omega)) hB' hK
  rcases h with ⟨hst, hy, hK⟩ | ⟨hst, hy, hK⟩
  ·exact anyV_firstS h0 hst (Region.noSelect_spec hs) l.length L a u (Region.free_spec h0 hf) hrk hy (next _ _ hK)
  ·exact anyV_firstV h0 hst (Region.noSelect_spec hs) l.length L a u (Region.free_spec h0 hf) hrk hy (fun x => next _ _ (hK x))
theorem flowV_st {Q : Act → (Nat → Value) → Prop} {k : Nat} {o : Oper} {rest : List Oper} {a : Act} {u : Nat → Value} (hs : stB vs k = true) (hg : o.guard = none)
  (h1 : ∀ u L w, L.getD k true = false → Behind md o L → D u L w → goesUpon P (D u (L.setIfInBounds k true)) (baseV vs k) ((execOp a.eval o).run P w)) (h2 : flowV P md ops vs D Q (k + 1) rest (a.put o.dst (baseV vs k)) u) : flowV P md ops vs D Q k (o :: rest) a u :=
 .inl ⟨hs, fun u => .inl ⟨by simp [Region.wanted, hg], h1 u⟩, h2⟩
theorem flowV_ch {Q : Act → (Nat → Value) → Prop} {k : Nat} {o : Oper} {rest : List Oper} {a : Act} {u : Nat → Value} (hs : stB vs k = false) (hg : o.guard = none)
  (h1 : ∀ u', (∀ e ∈ o.after, Region.binds md e = true → u' e.on = u e.on) → ∀ L w, L.getD k true = false → Behind md o L → D u' L w → eachUpon P (fun x w' => D (upd u' k x) (L.setIfInBounds k true) w') ((execOp a.eval o).run P w)) (h2 : ∀ x, flowV P md ops vs D Q (k + 1) rest (a.put o.dst x) (upd u k x)) : flowV P md ops vs D Q k (o :: rest) a u :=
 .inr ⟨hs, ⟨by simp [Region.wanted, hg], h1⟩, h2⟩
theorem flowV_nil {Q : Act → (Nat → Value) → Prop} {k : Nat} {a : Act} {u : Nat → Value} (h : Q a u) : flowV P md ops vs D Q k [] a u := h
end
theorem after_eq {o : Oper} {u u' : Nat → Value} {p : Nat} (hu : ∀ e ∈ o.after, Region.binds .any e = true → u' e.on = u e.on) (h : (o.after.any fun e => Region.binds .any e && e.on == p) = true) : u' p = u p := by
 obtain ⟨e, he1, he2⟩ := Array.any_eq_true'.1 h
 simp only [Bool.and_eq_true, beq_iff_eq] at he2
 rw [← he2.2]; exact hu e he1 he2.1
theorem after_behind {o : Oper} {L : Array Bool} {p : Nat} (hb : Behind .any o L) (h : (o.after.any fun e => Region.binds .any e && e.on == p) = true) : L.getD p false = true := by
 obtain ⟨e, he1, he2⟩ := Array.any_eq_true'.1 h
 simp only [Bool.and_eq_true, beq_iff_eq] at he2
 rw [← he2.2]; exact hb e he1 he2.1
theorem bV9 (x0 x1 x2 x3 x4 x5 x6 x7 x8 : Option Value) (v : Value) (l : List (Option Value)) : baseV (x0 :: x1 :: x2 :: x3 :: x4 :: x5 :: x6 :: x7 :: x8 :: some v :: l) 9 = v := rfl
theorem bV10 (x0 x1 x2 x3 x4 x5 x6 x7 x8 x9 : Option Value) (v : Value) (l : List (Option Value)) : baseV (x0 :: x1 :: x2 :: x3 :: x4 :: x5 :: x6 :: x7 :: x8 :: x9 :: some v :: l) 10 = v := rfl
theorem bV11 (x0 x1 x2 x3 x4 x5 x6 x7 x8 x9 x10 : Option Value) (v : Value) (l : List (Option Value)) : baseV (x0 :: x1 :: x2 :: x3 :: x4 :: x5 :: x6 :: x7 :: x8 :: x9 :: x10 :: some v :: l) 11 = v := rfl
theorem bV12 (x0 x1 x2 x3 x4 x5 x6 x7 x8 x9 x10 x11 : Option Value) (v : Value) (l : List (Option Value)) : baseV (x0 :: x1 :: x2 :: x3 :: x4 :: x5 :: x6 :: x7 :: x8 :: x9 :: x10 :: x11 :: some v :: l) 12 = v := rfl
theorem bV13 (x0 x1 x2 x3 x4 x5 x6 x7 x8 x9 x10 x11 x12 : Option Value) (v : Value) (l : List (Option Value)) : baseV (x0 :: x1 :: x2 :: x3 :: x4 :: x5 :: x6 :: x7 :: x8 :: x9 :: x10 :: x11 :: x12 :: some v :: l) 13 = v := rfl
theorem bV14 (x0 x1 x2 x3 x4 x5 x6 x7 x8 x9 x10 x11 x12 x13 : Option Value) (v : Value) (l : List (Option Value)) : baseV (x0 :: x1 :: x2 :: x3 :: x4 :: x5 :: x6 :: x7 :: x8 :: x9 :: x10 :: x11 :: x12 :: x13 :: some v :: l) 14 = v := rfl
theorem bV15 (x0 x1 x2 x3 x4 x5 x6 x7 x8 x9 x10 x11 x12 x13 x14 : Option Value) (v : Value) (l : List (Option Value)) : baseV (x0 :: x1 :: x2 :: x3 :: x4 :: x5 :: x6 :: x7 :: x8 :: x9 :: x10 :: x11 :: x12 :: x13 :: x14 :: some v :: l) 15 = v := rfl
theorem bV16 (x0 x1 x2 x3 x4 x5 x6 x7 x8 x9 x10 x11 x12 x13 x14 x15 : Option Value) (v : Value) (l : List (Option Value)) : baseV (x0 :: x1 :: x2 :: x3 :: x4 :: x5 :: x6 :: x7 :: x8 :: x9 :: x10 :: x11 :: x12 :: x13 :: x14 :: x15 :: some v :: l) 16 = v := rfl
theorem bV17 (x0 x1 x2 x3 x4 x5 x6 x7 x8 x9 x10 x11 x12 x13 x14 x15 x16 : Option Value) (v : Value) (l : List (Option Value)) : baseV (x0 :: x1 :: x2 :: x3 :: x4 :: x5 :: x6 :: x7 :: x8 :: x9 :: x10 :: x11 :: x12 :: x13 :: x14 :: x15 :: x16 :: some v :: l) 17 = v := rfl
theorem bV18 (x0 x1 x2 x3 x4 x5 x6 x7 x8 x9 x10 x11 x12 x13 x14 x15 x16 x17 : Option Value) (v : Value) (l : List (Option Value)) : baseV (x0 :: x1 :: x2 :: x3 :: x4 :: x5 :: x6 :: x7 :: x8 :: x9 :: x10 :: x11 :: x12 :: x13 :: x14 :: x15 :: x16 :: x17 :: some v :: l) 18 = v := rfl
theorem bV19 (x0 x1 x2 x3 x4 x5 x6 x7 x8 x9 x10 x11 x12 x13 x14 x15 x16 x17 x18 : Option Value) (v : Value) (l : List (Option Value)) : baseV (x0 :: x1 :: x2 :: x3 :: x4 :: x5 :: x6 :: x7 :: x8 :: x9 :: x10 :: x11 :: x12 :: x13 :: x14 :: x15 :: x16 :: x17 :: x18 :: some v :: l) 19 = v := rfl
theorem bV20 (x0 x1 x2 x3 x4 x5 x6 x7 x8 x9 x10 x11 x12 x13 x14 x15 x16 x17 x18 x19 : Option Value) (v : Value) (l : List (Option Value)) : baseV (x0 :: x1 :: x2 :: x3 :: x4 :: x5 :: x6 :: x7 :: x8 :: x9 :: x10 :: x11 :: x12 :: x13 :: x14 :: x15 :: x16 :: x17 :: x18 :: x19 :: some v :: l) 20 = v := rfl
attribute [go_sem] bV9 bV10 bV11 bV12 bV13 bV14 bV15 bV16 bV17 bV18 bV19 bV20
section
variable {ops : Array Oper}
def anc (ops : Array Oper) : Nat → Nat → Nat → Bool
 | 0, _, _ => false
 | n + 1, c, i => match ops[c]? with
  | some oc => oc.after.any fun e => Region.binds .any e && (e.on == i || anc ops n e.on i)
  | none => false
theorem Closed.anc {L : Array Bool} (h : Closed .any ops L) : ∀ (n c i : Nat), anc ops n c i = true → L.getD c false = true → L.getD i false = true
 | 0, _, _, h1, _ => by rw [Proofs.YtabkdonplmlbcaaGreatDoor.anc] at h1; cases h1
 | n + 1, c, i, h1, h2 => by
  rw [Proofs.YtabkdonplmlbcaaGreatDoor.anc] at h1
  split at h1
  ·next oc hoc =>
   obtain ⟨e, he1, he2⟩ := Array.any_eq_true'.1 h1
   simp only [Bool.and_eq_true, Bool.or_eq_true, beq_iff_eq] at he2
   have h3 := h c oc hoc h2 e he1 he2.1
   rcases he2.2 with rfl | h4
   ·exact h3
   ·exact Closed.anc h n e.on i h4 h3
  ·cases h1
end
end Go.Proofs.YtabkdonplmlbcaaGreatDoor
