import Derived.Test.YtabkdonplmlbcaaGreatDoorStPart35
namespace Go.Proofs.YtabkdonplmlbcaaGreatDoor
set_option maxRecDepth 100000
open Go.RowKit
set_option maxHeartbeats 6400000 in
theorem refPlace_any (g : Nat) (s : ByteArray) (p : PSt) (w : World) (h : PAt 51 w g s p) (hp : p.pos ≤ s.size) (hs : s.size ≤ 1000000) :
  Calls Tryz.prog 53 #[.pointer (some ⟨g, 0, none⟩)] w (PStep 51 g s (rPos s.data.toList p).2 (fun v w' => IntOwn 3 (NewB w w') w' (rPos s.data.toList p).1 v) w) := by
 have H := Lib.hid h
 have hg := bsz h.lt
 obtain ⟨k, bad⟩ := p
 simp only at hp
 obtain ⟨c0, c1, c2, cf⟩ := h.cells
 simp only at c1 c2
 clear h
 cases bad
 ·go_enter Tryz.func53, Tryz.ntmps53
  go_wp2
  go_loopw [] (ScnRel (fun c => c != 32) 51 g s k false w) (fun wr => s.size - posOf wr g)
  case atStart => exact ⟨k, Nat.le_refl _, hp, fun i h1 h2 => absurd h2 (by omega), H.out, gr_refl w g⟩
  case round =>
   obtain ⟨j, hj1, hj2, hall, hP, hgr⟩ := hrel
   have HP := Lib.hid hP
   have HALL := Lib.hid hall
   have hPO := hP.posOf
   obtain ⟨d0, d1, d2, df⟩ := hP.cells
   simp only at d1 d2
   have hgw := bsz hP.lt
   clear hP hall c0 c1 c2 cf
   by_cases hst : ∃ h : j < s.size, (s[j] != 32) = true
   ·obtain ⟨hlt, hw⟩ := hst
    have hj3 : (j : Int) < s.size := by omega
    have h32 : ((s[j].toNat : Int) == 32) = false := by
     have : ¬ s[j] = 32 := by simpa using hw
     simp only [beq_eq_false_iff_ne, ne_eq]
     exact fun e => this (UInt8.toNat_inj.1 (show s[j].toNat = 32 by omega))
    have HW := Lib.hid hw
    clear hw
    go_wp2
    refine wp_region_flowC wr.heap.size [(⟨g, 0, none⟩, .string s), (⟨g, 1, none⟩, .int .i64 (j : Nat)), (⟨g, 2, none⟩, .bool false)] (by kernel_rfl) (by kernel_rfl) (by first | (intro _ hs; cases hs; done) | (simp only [List.forall_mem_cons]; go_simp)) fun C HC => ?_
    repeat (first | ((first | apply flow_free rfl | (apply flow_yes; (case hw => go_simp))); (intro L w' hun hrd hC; have ⟨hC, hb', hf'⟩ := flO HC hC; (try simp only [List.forall_mem_cons] at hf'); go_simp; first | exact ⟨flS HC hC, rfl⟩ | (rw [if_neg]; (exact ⟨flS HC hC, rfl⟩); omega) | fail); go_simp) | (apply flow_noC HC; (case hw => (go_simp; try (intro hh; cases hh))); go_simp))
    refine flow_nil ?_
    intro L wz hL hz
    have ⟨_, hbz, hcz⟩ := flO HC hz
    try simp only [List.forall_mem_cons] at hcz
    have hPz := HP.out.below hbz
    have HPZ := Lib.hid hPz
    obtain ⟨z0, z1, z2, zf⟩ := hPz.cells
    simp only at z1 z2
    have hgz := bsz hPz.lt
    clear hPz
    go_wp2
    rw [show ((j : Int) + 1) = ((j + 1 : Nat) : Int) by omega]
    have hP2 := HPZ.out.pos (j + 1)
    refine ⟨⟨j + 1, by omega, by omega, fun i h1 h2 h3 => ?_, hP2, gr_sc (gr_below hgr hbz) (.inl rfl) _⟩, by rw [hP2.posOf, hPO]; show s.size - (j + 1) < s.size - j; omega⟩
    by_cases e : i = j
    ·subst e; exact HW.out
    ·exact HALL.out i h1 (by omega) h3
   ·have HSTOP := Lib.hid (show ∀ h : j < s.size, (s[j] != 32) = false from fun h => by
     cases hb : (s[j] != 32)
     ·rfl
     ·exact absurd ⟨h, hb⟩ hst)
    have HD := Lib.hid (show rPlc s.data.toList ⟨k, false⟩ = (s.extract k j).data.toList from by rw [rPlc, if_neg (by simp), ext_list]; exact scan_at HALL.out hj1 hj2 HSTOP.out)
    have hll : (rPlc s.data.toList ⟨k, false⟩).length = j - k := by rw [HD.out, ← size_list, ByteArray.size_extract]; omega
    have HLL := Lib.hid hll
    have hxz : (s.extract k j).size ≤ 1000000 := by rw [ByteArray.size_extract]; omega
    obtain ⟨ok, hok⟩ : ∃ ok, (rdPos (s.extract k j).data.toList).isSome = ok := ⟨_, rfl⟩
    obtain ⟨rl, hrl⟩ : ∃ rl, (rdPos (s.extract k j).data.toList).getD [] = rl := ⟨_, rfl⟩
    have HN := Lib.hid (show rPos s.data.toList ⟨k, false⟩ = (rl, ⟨j, !ok⟩) by rw [rPos, HLL.out, HD.out, hrl, show k + (j - k) = j by omega, ← Option.not_isSome, hok]; rfl)
    have HPI := Lib.hid (show ∀ w' : World, Calls Tryz.prog 86 #[.string (s.extract k j)] w' (fun e w'' => ∃ v, e = .returned (.tuple #[v, .bool ok]) ∧ IntOwn 3 (NewB w' w'') w'' rl v ∧ Below w'.heap.size w' w'') from fun w' => by
     have := specPPos_any (s.extract k j) hxz w'
     unfold PosV at this
     rw [hrl, hok] at this
     exact this)
    have HSP := Lib.hid (show StabP (fun a b F w => b = .bool ok ∧ IntOwn 3 F w rl a) from fun a b F w w' hs hz h => ⟨h.1, IntOwn.mono (fun x hx _ => hs x hx) (fun _ h => h) h.2⟩)
    clear hll hok hrl
    by_cases hlt : j < s.size
    case' pos =>
     have hj3 : (j : Int) < s.size := by omega
     have h32 : ((s[j].toNat : Int) == 32) = true := by
      have : s[j] = 32 := by simpa using HSTOP.out hlt
      rw [this]; rfl
     go_wp2
     refine wp_region_flowC wr.heap.size [(⟨g, 0, none⟩, .string s), (⟨g, 1, none⟩, .int .i64 (j : Nat)), (⟨g, 2, none⟩, .bool false)] (by kernel_rfl) (by kernel_rfl) (by first | (intro _ hs; cases hs; done) | (simp only [List.forall_mem_cons]; go_simp)) fun C HC => ?_
     repeat (first | ((first | apply flow_free rfl | (apply flow_yes; (case hw => go_simp))); (intro L w' hun hrd hC; have ⟨hC, hb', hf'⟩ := flO HC hC; (try simp only [List.forall_mem_cons] at hf'); go_simp; first | exact ⟨flS HC hC, rfl⟩ | (rw [if_neg]; (exact ⟨flS HC hC, rfl⟩); omega) | fail); go_simp) | (apply flow_noC HC; (case hw => (go_simp; try (intro hh; cases hh))); go_simp))
     refine flow_nil ?_
     intro L wz hL hz
     have ⟨_, hbz, hcz⟩ := flO HC hz
     try simp only [List.forall_mem_cons] at hcz
    case' neg =>
     have hj3 : ¬ (j : Int) < s.size := by omega
     go_wp2
     refine wp_region_flowC wr.heap.size [(⟨g, 0, none⟩, .string s), (⟨g, 1, none⟩, .int .i64 (j : Nat)), (⟨g, 2, none⟩, .bool false)] (by kernel_rfl) (by kernel_rfl) (by first | (intro _ hs; cases hs; done) | (simp only [List.forall_mem_cons]; go_simp)) fun C HC => ?_
     repeat (first | ((first | apply flow_free rfl | (apply flow_yes; (case hw => go_simp))); (intro L w' hun hrd hC; have ⟨hC, hb', hf'⟩ := flO HC hC; (try simp only [List.forall_mem_cons] at hf'); go_simp; first | exact ⟨flS HC hC, rfl⟩ | (rw [if_neg]; (exact ⟨flS HC hC, rfl⟩); omega) | fail); go_simp) | (apply flow_noC HC; (case hw => (go_simp; try (intro hh; cases hh))); go_simp))
     refine flow_nil ?_
     intro L wz hL hz
     have ⟨_, hbz, hcz⟩ := flO HC hz
     try simp only [List.forall_mem_cons] at hcz
    all_goals
     have hPz := HP.out.below hbz
     have HPZ := Lib.hid hPz
     have hgr1 := gr_below hgr hbz
     obtain ⟨z0, z1, z2, zf⟩ := hPz.cells
     simp only at z1 z2
     have hgz := bsz hPz.lt
     clear hPz
     go_wp2_with fail
     refine wp_region_foot [some (.pointer (some ⟨g, 0, none⟩)), some (.pointer (some ⟨g, 0, none⟩)), some (.pointer (some ⟨g, 0, none⟩)), some (.string s), some (.int .i64 k), some (.pointer (some ⟨g, 0, none⟩)), some (.pointer (some ⟨g, 0, none⟩)), some (.pointer (some ⟨g, 1, none⟩)), some (.int .i64 (j : Nat)), some (.string (s.extract k j)), none, none, none, none, none, none] (fun _ => False) (prS 10) (PrF 10 (fun a b F w => b = .bool ok ∧ IntOwn 3 F w rl a)) (prT 10) (fun _ _ => False) (by kernel_rfl) (by kernel_rfl)
      (fun s hs h' => by
       simp only [List.mem_cons, List.not_mem_nil, or_false] at hs
       subst hs
       exact absurd h' (by simp))
      (fun s hs r hr h' => by
       simp only [List.mem_cons, List.not_mem_nil, or_false] at hs
       subst hs
       exact absurd h' (by simp)) ?_
     go_simp
     iterate 3
      refine flowV_st rfl rfl (by
       intro u' L w' hun hbe hD
       go_simp
       first | exact ⟨hD.other rfl hbe hun (by rfl) (by rfl), rfl⟩ | exact hD.other rfl hbe hun (by rfl) (by rfl)) ?_
      go_simp
     refine flowV_st rfl rfl (by
      intro u' L w' hun hbe hD
      have hPq := HPZ.out.below (hD.bw.below (fun _ h => h))
      obtain ⟨q0, q1, q2, -⟩ := hPq.cells
      simp only at q1 q2
      have zq := bsz hPq.lt
      clear hPq
      go_simp
      first | exact ⟨hD.other rfl hbe hun (by rfl) (by rfl), rfl⟩ | exact hD.other rfl hbe hun (by rfl) (by rfl)) ?_
     go_simp
     iterate 4
      refine flowV_st rfl rfl (by
       intro u' L w' hun hbe hD
       go_simp
       first | exact ⟨hD.other rfl hbe hun (by rfl) (by rfl), rfl⟩ | exact hD.other rfl hbe hun (by rfl) (by rfl)) ?_
      go_simp
     refine flowV_st rfl rfl (by
      intro u' L w' hun hbe hD
      have hPq := HPZ.out.below (hD.bw.below (fun _ h => h))
      obtain ⟨q0, q1, q2, -⟩ := hPq.cells
      simp only at q1 q2
      have zq := bsz hPq.lt
      clear hPq
      go_simp
      first | exact ⟨hD.other rfl hbe hun (by rfl) (by rfl), rfl⟩ | exact hD.other rfl hbe hun (by rfl) (by rfl)) ?_
     go_simp
     refine flowV_st rfl rfl (by
      intro u' L w' hun hbe hD
      go_simp
      first | exact ⟨hD.other rfl hbe hun (by rfl) (by rfl), rfl⟩ | exact hD.other rfl hbe hun (by rfl) (by rfl)) ?_
     go_simp
     refine flowV_ch rfl rfl (by
      intro u' hu' L w' hun hbe hD
      have hk' := hD.bw.below (fun _ h => h)
      go_simp
      refine (HPI.out _).mono ?_
      rintro e w'' ⟨v, rfl, hv, hb2⟩
      exact ⟨_, rfl, PrD.call hD HSP.out (by kernel_rfl) rfl hbe hun hb2 ⟨rfl, hv⟩⟩) ?_
     intro xc
     go_simp
     refine flowV_ch rfl rfl (by
      intro u' hu' L w' hun hbe hD
      have d := after_behind hbe (p := 10) (by kernel_rfl)
      have e : u' 10 = xc := (after_eq hu' (p := 10) (by kernel_rfl)).trans (by simp [upd])
      have hst := PrD.mv1 hD HSP.out (by kernel_rfl) rfl hbe hun d
      rw [e] at hst
      first | (go_simp; done) | (go_simp; exact hst)) ?_
     intro x1
     go_simp
     refine flowV_ch rfl rfl (by
      intro u' hu' L w' hun hbe hD
      have d := after_behind hbe (p := 11) (by kernel_rfl)
      have e : u' 11 = x1 := (after_eq hu' (p := 11) (by kernel_rfl)).trans (by simp [upd])
      obtain ⟨a, b, hf⟩ := PrD.form1 hD d
      have hst := PrD.mv2 hD HSP.out (by kernel_rfl) rfl hbe hun d
      rw [hf] at hst
      obtain rfl : x1 = .tuple #[a, b] := e.symm.trans hf
      first | (go_simp; done) | (go_simp; exact hst)) ?_
     intro x2
     go_simp
     refine flowV_ch rfl rfl (by
      intro u' hu' L w' hun hbe hD
      have d := after_behind hbe (p := 11) (by kernel_rfl)
      have e : u' 11 = x1 := (after_eq hu' (p := 11) (by kernel_rfl)).trans (by simp [upd])
      obtain ⟨a, b, hf⟩ := PrD.form1 hD d
      have hst := PrD.mv3 hD HSP.out (by kernel_rfl) rfl hbe hun d
      rw [hf] at hst
      obtain rfl : x1 = .tuple #[a, b] := e.symm.trans hf
      first | (go_simp; done) | (go_simp; exact hst)) ?_
     intro x3
     go_simp
     refine flowV_ch rfl rfl (by
      intro u' hu' L w' hun hbe hD
      have d := after_behind hbe (p := 12) (by kernel_rfl)
      have e : u' 12 = x2 := (after_eq hu' (p := 12) (by kernel_rfl)).trans (by simp [upd])
      have hst := PrD.mv4 hD HSP.out (by kernel_rfl) rfl hbe hun d
      rw [e] at hst
      first | (go_simp; done) | (go_simp; exact hst)) ?_
     intro x4
     go_simp
     refine flowV_ch rfl rfl (by
      intro u' hu' L w' hun hbe hD
      have d := after_behind hbe (p := 13) (by kernel_rfl)
      have e : u' 13 = x3 := (after_eq hu' (p := 13) (by kernel_rfl)).trans (by simp [upd])
      have hst := PrD.mv5 hD HSP.out (by kernel_rfl) rfl hbe hun d
      rw [e] at hst
      first | (go_simp; done) | (go_simp; exact hst)) ?_
     intro x5
     refine flowV_nil ?_
     intro L w6 hL hD
     obtain ⟨hb6, pa, pb, F6, f1, f2, f3, f4, f5, ⟨rfl, hv6⟩, hF6⟩ := PrD.end hD rfl (fun i hi => by simpa using hL i (by simpa using hi)) (by decide)
     simp [upd] at f1 f2 f3 f4 f5
     subst f1 f2 f3 f4 f5
     have hPy := HPZ.out.below hb6
     have HPY := Lib.hid hPy
     have hgr2 := gr_below hgr1 hb6
     obtain ⟨y0, y1, y2, yf⟩ := hPy.cells
     simp only at y1 y2
     have hgy := bsz hPy.lt
     clear hPy
     have hwz := hgr1.size
     have hw6 := hb6.size
     cases ok
     ·go_wp2
      go_ret
      exact ⟨_, rfl, by rw [HN.out]; exact IntOwn.mono ((SameOn.refl _ _).sc (fun b hb e => by have := (hF6 b hb).1; simp at e; omega) _) (fun b hb => ⟨by have := (hF6 b hb).1; omega, by have := (hF6 b hb).2; simp; omega⟩) hv6, by rw [HN.out]; exact HPY.out.setBad true, gr_sc hgr2 (.inl rfl) _⟩
     ·go_wp2
      go_ret
      exact ⟨_, rfl, by rw [HN.out]; exact IntOwn.mono (SameOn.refl _ _) (fun b hb => ⟨by have := (hF6 b hb).1; omega, (hF6 b hb).2⟩) hv6, by rw [HN.out]; exact HPY.out, hgr2⟩
 ·go_enter Tryz.func53, Tryz.ntmps53
  go_wp2
  go_loopw [] (fun wr => Below w.heap.size w wr) (fun wr => 0)
  case atStart => exact Below.refl _ _
  case round =>
   have HP := Lib.hid (H.out.below hrel)
   obtain ⟨d0, d1, d2, df⟩ := HP.out.cells
   simp only at d1 d2
   have hgw := bsz HP.out.lt
   have hgr := gr_below (gr_refl w g) hrel
   clear c0 c1 c2 cf
   obtain ⟨j, rfl⟩ : ∃ j, j = k := ⟨_, rfl⟩
   obtain ⟨ok, hok⟩ : ∃ ok, (rdPos []).isSome = ok := ⟨_, rfl⟩
   obtain ⟨rl, hrl⟩ : ∃ rl, (rdPos []).getD [] = rl := ⟨_, rfl⟩
   have HN := Lib.hid (show rPos s.data.toList ⟨j, true⟩ = (rl, ⟨j, true⟩) by rw [← hrl, rPos, rPlc, if_pos rfl]; rfl)
   have HPI := Lib.hid (show ∀ (t : ByteArray), t.size = 0 → ∀ w' : World, Calls Tryz.prog 86 #[.string t] w' (fun e w'' => ∃ v, e = .returned (.tuple #[v, .bool ok]) ∧ IntOwn 3 (NewB w' w'') w'' rl v ∧ Below w'.heap.size w' w'') from fun t ht w' => by
    have := specPPos_any t (by omega) w'
    unfold PosV at this
    rw [List.eq_nil_of_length_eq_zero (show t.data.toList.length = 0 by rw [← size_list]; exact ht), hrl, hok] at this
    exact this)
   have HSP := Lib.hid (show StabP (fun a b F w => b = .bool ok ∧ IntOwn 3 F w rl a) from fun a b F w w' hs hz h => ⟨h.1, IntOwn.mono (fun x hx _ => hs x hx) (fun _ h => h) h.2⟩)
   clear hok hrl
   go_wp2
   refine wp_region_flowC wr.heap.size [(⟨g, 0, none⟩, .string s), (⟨g, 1, none⟩, .int .i64 (j : Nat)), (⟨g, 2, none⟩, .bool true)] (by kernel_rfl) (by kernel_rfl) (by first | (intro _ hs; cases hs; done) | (simp only [List.forall_mem_cons]; go_simp)) fun C HC => ?_
   repeat (first | ((first | apply flow_free rfl | (apply flow_yes; (case hw => go_simp))); (intro L w' hun hrd hC; have ⟨hC, hb', hf'⟩ := flO HC hC; (try simp only [List.forall_mem_cons] at hf'); go_simp; first | exact ⟨flS HC hC, rfl⟩ | (rw [if_neg]; (exact ⟨flS HC hC, rfl⟩); omega) | fail); go_simp) | (apply flow_noC HC; (case hw => (go_simp; try (intro hh; cases hh))); go_simp))
   refine flow_nil ?_
   intro L wz hL hz
   have ⟨_, hbz, hcz⟩ := flO HC hz
   try simp only [List.forall_mem_cons] at hcz
   have hPz := HP.out.below hbz
   have HPZ := Lib.hid hPz
   have hgr1 := gr_below hgr hbz
   obtain ⟨z0, z1, z2, zf⟩ := hPz.cells
   simp only at z1 z2
   have hgz := bsz hPz.lt
   clear hPz
   go_wp2_with fail
   refine wp_region_foot [some (.pointer (some ⟨g, 0, none⟩)), some (.pointer (some ⟨g, 0, none⟩)), some (.pointer (some ⟨g, 0, none⟩)), some (.string s), some (.int .i64 j), some (.pointer (some ⟨g, 0, none⟩)), some (.pointer (some ⟨g, 0, none⟩)), some (.pointer (some ⟨g, 1, none⟩)), some (.int .i64 (j : Nat)), some (.string (s.extract j j)), none, none, none, none, none, none] (fun _ => False) (prS 10) (PrF 10 (fun a b F w => b = .bool ok ∧ IntOwn 3 F w rl a)) (prT 10) (fun _ _ => False) (by kernel_rfl) (by kernel_rfl)
    (fun s hs h' => by
     simp only [List.mem_cons, List.not_mem_nil, or_false] at hs
     subst hs
     exact absurd h' (by simp))
    (fun s hs r hr h' => by
     simp only [List.mem_cons, List.not_mem_nil, or_false] at hs
     subst hs
     exact absurd h' (by simp)) ?_
   go_simp
   iterate 3
    refine flowV_st rfl rfl (by
     intro u' L w' hun hbe hD
     go_simp
     first | exact ⟨hD.other rfl hbe hun (by rfl) (by rfl), rfl⟩ | exact hD.other rfl hbe hun (by rfl) (by rfl)) ?_
    go_simp
   refine flowV_st rfl rfl (by
    intro u' L w' hun hbe hD
    have hPq := HPZ.out.below (hD.bw.below (fun _ h => h))
    obtain ⟨q0, q1, q2, -⟩ := hPq.cells
    simp only at q1 q2
    have zq := bsz hPq.lt
    clear hPq
    go_simp
    first | exact ⟨hD.other rfl hbe hun (by rfl) (by rfl), rfl⟩ | exact hD.other rfl hbe hun (by rfl) (by rfl)) ?_
   go_simp
   iterate 4
    refine flowV_st rfl rfl (by
     intro u' L w' hun hbe hD
     go_simp
     first | exact ⟨hD.other rfl hbe hun (by rfl) (by rfl), rfl⟩ | exact hD.other rfl hbe hun (by rfl) (by rfl)) ?_
    go_simp
   refine flowV_st rfl rfl (by
    intro u' L w' hun hbe hD
    have hPq := HPZ.out.below (hD.bw.below (fun _ h => h))
    obtain ⟨q0, q1, q2, -⟩ := hPq.cells
    simp only at q1 q2
    have zq := bsz hPq.lt
    clear hPq
    go_simp
    first | exact ⟨hD.other rfl hbe hun (by rfl) (by rfl), rfl⟩ | exact hD.other rfl hbe hun (by rfl) (by rfl)) ?_
   go_simp
   refine flowV_st rfl rfl (by
    intro u' L w' hun hbe hD
    go_simp
    first | exact ⟨hD.other rfl hbe hun (by rfl) (by rfl), rfl⟩ | exact hD.other rfl hbe hun (by rfl) (by rfl)) ?_
   go_simp
   refine flowV_ch rfl rfl (by
    intro u' hu' L w' hun hbe hD
    have hk' := hD.bw.below (fun _ h => h)
    go_simp
    refine (HPI.out _ (by first | (simp; done) | (rw [ByteArray.size_extract]; omega)) _).mono ?_
    rintro e w'' ⟨v, rfl, hv, hb2⟩
    exact ⟨_, rfl, PrD.call hD HSP.out (by kernel_rfl) rfl hbe hun hb2 ⟨rfl, hv⟩⟩) ?_
   intro xc
   go_simp
   refine flowV_ch rfl rfl (by
    intro u' hu' L w' hun hbe hD
    have d := after_behind hbe (p := 10) (by kernel_rfl)
    have e : u' 10 = xc := (after_eq hu' (p := 10) (by kernel_rfl)).trans (by simp [upd])
    have hst := PrD.mv1 hD HSP.out (by kernel_rfl) rfl hbe hun d
    rw [e] at hst
    first | (go_simp; done) | (go_simp; exact hst)) ?_
   intro x1
   go_simp
   refine flowV_ch rfl rfl (by
    intro u' hu' L w' hun hbe hD
    have d := after_behind hbe (p := 11) (by kernel_rfl)
    have e : u' 11 = x1 := (after_eq hu' (p := 11) (by kernel_rfl)).trans (by simp [upd])
    obtain ⟨a, b, hf⟩ := PrD.form1 hD d
    have hst := PrD.mv2 hD HSP.out (by kernel_rfl) rfl hbe hun d
    rw [hf] at hst
    obtain rfl : x1 = .tuple #[a, b] := e.symm.trans hf
    first | (go_simp; done) | (go_simp; exact hst)) ?_
   intro x2
   go_simp
   refine flowV_ch rfl rfl (by
    intro u' hu' L w' hun hbe hD
    have d := after_behind hbe (p := 11) (by kernel_rfl)
    have e : u' 11 = x1 := (after_eq hu' (p := 11) (by kernel_rfl)).trans (by simp [upd])
    obtain ⟨a, b, hf⟩ := PrD.form1 hD d
    have hst := PrD.mv3 hD HSP.out (by kernel_rfl) rfl hbe hun d
    rw [hf] at hst
    obtain rfl : x1 = .tuple #[a, b] := e.symm.trans hf
    first | (go_simp; done) | (go_simp; exact hst)) ?_
   intro x3
   go_simp
   refine flowV_ch rfl rfl (by
    intro u' hu' L w' hun hbe hD
    have d := after_behind hbe (p := 12) (by kernel_rfl)
    have e : u' 12 = x2 := (after_eq hu' (p := 12) (by kernel_rfl)).trans (by simp [upd])
    have hst := PrD.mv4 hD HSP.out (by kernel_rfl) rfl hbe hun d
    rw [e] at hst
    first | (go_simp; done) | (go_simp; exact hst)) ?_
   intro x4
   go_simp
   refine flowV_ch rfl rfl (by
    intro u' hu' L w' hun hbe hD
    have d := after_behind hbe (p := 13) (by kernel_rfl)
    have e : u' 13 = x3 := (after_eq hu' (p := 13) (by kernel_rfl)).trans (by simp [upd])
    have hst := PrD.mv5 hD HSP.out (by kernel_rfl) rfl hbe hun d
    rw [e] at hst
    first | (go_simp; done) | (go_simp; exact hst)) ?_
   intro x5
   refine flowV_nil ?_
   intro L w6 hL hD
   obtain ⟨hb6, pa, pb, F6, f1, f2, f3, f4, f5, ⟨rfl, hv6⟩, hF6⟩ := PrD.end hD rfl (fun i hi => by simpa using hL i (by simpa using hi)) (by decide)
   simp [upd] at f1 f2 f3 f4 f5
   subst f1 f2 f3 f4 f5
   have hPy := HPZ.out.below hb6
   have HPY := Lib.hid hPy
   have hgr2 := gr_below hgr1 hb6
   obtain ⟨y0, y1, y2, yf⟩ := hPy.cells
   simp only at y1 y2
   have hgy := bsz hPy.lt
   clear hPy
   have hwz := hgr1.size
   have hw6 := hb6.size
   cases ok
   ·go_wp2
    go_ret
    exact ⟨_, rfl, by rw [HN.out]; exact IntOwn.mono ((SameOn.refl _ _).sc (fun b hb e => by have := (hF6 b hb).1; simp at e; omega) _) (fun b hb => ⟨by have := (hF6 b hb).1; omega, by have := (hF6 b hb).2; simp; omega⟩) hv6, by rw [HN.out]; exact HPY.out.setBad true, gr_sc hgr2 (.inl rfl) _⟩
   ·go_wp2
    go_ret
    exact ⟨_, rfl, by rw [HN.out]; exact IntOwn.mono (SameOn.refl _ _) (fun b hb => ⟨by have := (hF6 b hb).1; omega, (hF6 b hb).2⟩) hv6, by rw [HN.out]; exact HPY.out, hgr2⟩
end Go.Proofs.YtabkdonplmlbcaaGreatDoor
