import Derived.Test.YtkgfanajgdelcaaGreatDoorUnPart9
namespace Go.Proofs.YtkgfanajgdelcaaGreatDoor
set_option maxRecDepth 100000
open Go.RowKit
def L3C (f : Nat) : Prop := ∀ (s : ByteArray) (k : Nat) (w : World), k ≤ s.size → s.size ≤ 1000000 → s.size - k < f →
    Calls Tryz.prog 273 #[.string s, .int .i64 (k : Nat)] w fun e w' => ∃ x, e = .returned x ∧ GotTm 41 f (rTerm s.data.toList f k) w x w'
def ScanRel (s : ByteArray) (k : Nat) (W : World) (i : Value) (wr : World) : Prop := ∃ j, i = .int .i64 (j : Nat) ∧ k ≤ j ∧ j ≤ s.size ∧ (∀ i, k ≤ i → (h : i < j) → (h2 : i < s.size) → wordC s[i] = true) ∧ Below W.heap.size W wr
def LArgRel (s : ByteArray) (n : ByteArray) (f rb bt : Nat) (w : World) (res : Option (Tm × Nat)) (i : Value) (wr : World) : Prop :=
  ∃ (f' e : Nat) (v : Value) (us : List Tm), i = .int .i64 (e : Nat) ∧ LSt 41 rb bt n w f v us wr ∧ f' ≤ f ∧ rArgs s.data.toList n.data.toList f' us e = res ∧ e < s.size ∧ s.size - e < f' ∧ us.length ≤ e
set_option maxHeartbeats 3200000 in
theorem l3Read_any : ∀ f : Nat, L3C f := by
  intro f
  induction f using Nat.strongRecOn with
  | _ f0 ih =>
    intro s k w hk hs hf
    obtain ⟨f, rfl⟩ : ∃ f, f0 = f + 1 := ⟨f0 - 1, by omega⟩
    have IH := Lib.hid ih
    clear ih
    go_enter Tryz.func273, Tryz.ntmps273
    go_wp2
    go_loopw [6] (ScanRel s k (w.alloc (.cells #[.string ⟨#[]⟩, .slice none 0 0] 41))) (fun i _ => s.size - (intOf i).toNat)
    case atStart => exact ⟨k, rfl, Nat.le_refl _, hk, fun i h1 h2 => absurd h2 (by omega), Below.refl _ _⟩
    case round =>
      obtain ⟨j, rfl, hj1, hj2, hall, hbr⟩ := hrel
      obtain ⟨wa, rfl⟩ : ∃ wa, wa = wr := ⟨_, rfl⟩
      have HALL := Lib.hid hall
      have hqr := hbr.size
      simp at hqr
      have HBR := Lib.hid (show True → _ from fun _ => hbr)
      have HR := (hbr.block w.heap.size (by simp)).trans (heap_alloc_new w _)
      obtain ⟨r0, r1, rf⟩ := cells2_cell HR
      have hr1 := bsz (heap_lt HR)
      clear hall HR hbr
      by_cases hlt : j < s.size
      · have hj3 : (j : Int) < s.size := by omega
        cases hw : wordC s[j]
        · have HSTOP := Lib.hid (show ∀ h : j < s.size, wordC s[j] = false from fun _ => hw)
          have HWD := Lib.hid (show rWordL s.data.toList k = (s.data.toList.drop k).take (j - k) from wordL_at (bad := false) HALL.out hj1 hj2 HSTOP.out)
          have HLL := Lib.hid (show (rWordL s.data.toList k).length = j - k by rw [HWD.out, List.length_take, List.length_drop, ← size_list]; omega)
          by_cases hjk : j = k
          · subst hjk
            have HFIN := Lib.hid (show rTerm s.data.toList (f + 1) j = none by rw [rTerm, HWD.out]; simp)
            go_wp2_with (first | (go_at_call 272; refine (l3Word_any _ _).mono ?_; rintro e w' ⟨rfl, rfl⟩))
            refine bodyPost_ret (v := .tuple #[.agg #[.string ByteArray.empty, .slice none 0 0], .int .i64 (-1)]) (by simp only [results, Tryz.results273]; go_simp) rfl ⟨_, rfl, ?_⟩
            rw [HFIN.out]
            have := LSt.none (f' := f + 1) (LSt.init (n := ByteArray.empty) (f := 0) (HBR.out trivial)) (.string ByteArray.empty) (.slice none 0 0)
            rw [World.setCell_alloc_past _ _ _ _ (show w.heap.size < wa.heap.size by omega), World.setCell_alloc_past _ _ _ _ (by simp; omega)] at this
            exact this
          · have hk1 : ((j : Int) == (k : Int)) = false := by simp; omega
            have HNE := Lib.hid (show (rWordL s.data.toList k).isEmpty = false by
              rw [Bool.eq_false_iff]; intro e; rw [List.isEmpty_iff] at e; have := HLL.out; rw [e] at this; simp at this; omega)
            have HNM := Lib.hid (show (⟨(rWordL s.data.toList k).toArray⟩ : ByteArray) = s.extract k j by
              exact (str_eq (by rw [extract_list, HWD.out, List.drop_take])).symm)
            have HJ := Lib.hid (show k + (rWordL s.data.toList k).length = j by rw [HLL.out]; omega)
            cases h40 : ((s[j].toNat : Int) == 40)
            · have HFIN := Lib.hid (show rTerm s.data.toList (f + 1) k = some (.mk (s.extract k j) [], j) by
                rw [rTerm, HNE.out, HJ.out, HNM.out, list_at s j hlt, if_neg (by simp), if_neg (by
                  intro e; injection e with e; rw [byte_40] at h40; rw [e] at h40; simp at h40)])
              have h40' : ((s[j].toNat : Int) != 40) = true := by rw [bne, h40]; rfl
              go_wp2_with (first | (go_at_call 272; refine (l3Word_any _ _).mono ?_; rintro e w' ⟨rfl, rfl⟩))
              refine bodyPost_ret (v := .tuple #[.agg #[.string (s.extract k j), .slice none 0 0], .int .i64 (j : Nat)]) (by simp only [results, Tryz.results273]; go_simp) rfl ⟨_, rfl, ?_⟩
              rw [HFIN.out]
              have := LSt.done (f := f) (us := []) (LSt.init (HBR.out trivial)) (extract_le s k j hs) (.string (s.extract k j)) (.slice none 0 0) j
              rw [World.setCell_alloc_past _ _ _ _ (show w.heap.size < wa.heap.size by omega), World.setCell_alloc_past _ _ _ _ (by simp; omega)] at this
              exact this
            · have HFIN := Lib.hid (show rTerm s.data.toList (f + 1) k = rArgs s.data.toList (s.extract k j).data.toList f [] j by
                rw [rTerm, HNE.out, HJ.out, list_at s j hlt, if_neg (by simp), if_pos (by
                  rw [byte_40, beq_iff_eq] at h40; rw [h40]), ← HNM.out])
              have h40' : ((s[j].toNat : Int) != 40) = false := by rw [bne, h40]; rfl
              have hq40 : ((j : Int) == (s.size : Int)) = false := by simp; omega
              have HL0 := Lib.hid (LSt.init (n := s.extract k j) (f := f) (HBR.out trivial))
              clear r0 r1 rf
              go_wp2_with (first | (go_at_call 272; refine (l3Word_any _ _).mono ?_; rintro e w' ⟨rfl, rfl⟩))
              go_loopw [6] (LArgRel s (s.extract k j) f w.heap.size wa.heap.size w (rTerm s.data.toList (f + 1) k)) (fun i _ => s.size - (intOf i).toNat)
              case atStart => exact ⟨f, j, _, [], rfl, HL0.out, Nat.le_refl _, HFIN.out.symm, hlt, by omega, Nat.zero_le _⟩
              case round =>
                obtain ⟨f', e, v, us, rfl, hL, hff, hres, he, hfe, hul⟩ := hrel
                have HL := Lib.hid hL
                clear hL HFIN HL0
                obtain ⟨f'', rfl⟩ : ∃ q, f' = q + 1 := ⟨f' - 1, by omega⟩
                rw [rArgs] at hres
                go_wp2_with fail
                rw [show ((e : Int) + 1) = ((e + 1 : Nat) : Int) by omega]
                refine (IH.out f'' (by omega) s (e + 1) _ (by omega) hs (by omega)).mono ?_
                rintro e0 w1 ⟨x, rfl, hb1, s0, p0, k0, c0, z0, rfl, hgot⟩
                have hq1 := hb1.size
                have hlL := HL.out.lt
                have HL1 := Lib.hid (HL.out.later hb1)
                have HL2 := Lib.hid (HL1.out.later ((Below.refl w1.heap.size w1).alloc (Nat.le_refl _) (.cells #[.string s0, .slice p0 k0 c0] 41)))
                obtain ⟨pv, cv, hvv, -⟩ := HL.out.row.form
                subst hvv
                obtain ⟨b0, b1, bf⟩ := cells2_cell HL1.out.cell
                obtain ⟨r0, r1, rf⟩ := cells2_cell HL1.out.res
                have hz1 := bsz (show w.heap.size < w1.heap.size by omega)
                have hz2 := bsz (show wa.heap.size < w1.heap.size by omega)
                cases hr : rTerm s.data.toList f'' (e + 1) with
                | none =>
                  rw [hr] at hgot hres
                  simp only at hgot hres
                  subst hgot
                  have HRES := Lib.hid hres
                  clear hres
                  go_wp2
                  refine bodyPost_ret (v := .tuple #[.agg #[.string (s.extract k j), .slice pv us.length cv], .int .i64 (-1)]) (by simp only [results, Tryz.results273]; go_simp) rfl ⟨_, rfl, ?_⟩
                  rw [← HRES.out]
                  have := LSt.none (f' := f + 1) HL2.out (.string (s.extract k j)) (.slice pv us.length cv)
                  rw [World.setCell_alloc_past _ _ _ _ (show w.heap.size < w1.heap.size by omega), World.setCell_alloc_past _ _ _ _ (by simp; omega)] at this
                  exact this
                | some am =>
                  obtain ⟨a, m⟩ := am
                  rw [hr] at hgot hres
                  simp only at hgot hres
                  obtain ⟨rfl, hO⟩ := hgot
                  have hwt := rTerm_wt s.data.toList f'' (e + 1) a m (by rw [← size_list]; omega) hr
                  rw [← size_list] at hwt
                  have hbW : Below wr.heap.size wr (w1.alloc (.cells #[.string s0, .slice p0 k0 c0] 41)) := by exact bel
                  have HA := Lib.hid (show TmOwn 41 f (fun b => wr.heap.size ≤ b ∧ b < (w1.alloc (.cells #[.string s0, .slice p0 k0 c0] 41)).heap.size) (w1.alloc (.cells #[.string s0, .slice p0 k0 c0] 41)) a [.string s0, .slice p0 k0 c0] from
                    TmOwn.mono f'' f a _ (by omega) (SameOn.below ((Below.refl w1.heap.size w1).alloc (Nat.le_refl _) _)) (fun b hb => ⟨hb.1, by simp; omega⟩) hO)
                  clear hO
                  obtain ⟨hm, vals, Ss, hv1, -⟩ := HL2.out.row
                  have HV := Lib.hid hv1
                  clear hv1 hm
                  have hm0 : ¬ (m : Int) < 0 := by omega
                  by_cases hms : m = s.size
                  · have hms1 : ((m : Int) == (s.size : Int)) = true := by simp; omega
                    have HRES := Lib.hid (show none = rTerm s.data.toList (f + 1) k by rw [← hres, List.getElem?_eq_none (by rw [← size_list]; omega), if_neg (by simp), if_neg (by simp)])
                    clear hres
                    go_wp2
                    refine bodyPost_ret (v := .tuple #[.agg #[.string (s.extract k j), .slice pv us.length cv], .int .i64 (-1)]) (by simp only [results, Tryz.results273]; go_simp) rfl ⟨_, rfl, ?_⟩
                    rw [← HRES.out]
                    have := LSt.none (f' := f + 1) HL2.out (.string (s.extract k j)) (.slice pv us.length cv)
                    rw [World.setCell_alloc_past _ _ _ _ (show w.heap.size < w1.heap.size by omega), World.setCell_alloc_past _ _ _ _ (by simp; omega)] at this
                    exact this
                  have hms1 : ((m : Int) == (s.size : Int)) = false := by simp; omega
                  have hml : m < s.size := by omega
                  have hml1 : (m : Int) < s.size := by omega
                  rw [list_at s m hml] at hres
                  cases h44 : ((s[m].toNat : Int) == 44)
                  · have h44' : ((s[m].toNat : Int) != 44) = true := by rw [bne, h44]; rfl
                    rw [if_neg (by intro e; injection e with e; rw [byte_44, e] at h44; simp at h44)] at hres
                    cases h41 : ((s[m].toNat : Int) == 41)
                    · have h41' : ((s[m].toNat : Int) != 41) = true := by rw [bne, h41]; rfl
                      rw [if_neg (by intro e; injection e with e; rw [byte_41, e] at h41; simp at h41)] at hres
                      have HRES := Lib.hid hres
                      clear hres
                      go_wp2
                      refine bodyPost_ret (v := .tuple #[.agg #[.string (s.extract k j), .slice pv us.length cv], .int .i64 (-1)]) (by simp only [results, Tryz.results273]; go_simp) rfl ⟨_, rfl, ?_⟩
                      rw [← HRES.out]
                      have := LSt.none (f' := f + 1) HL2.out (.string (s.extract k j)) (.slice pv us.length cv)
                      rw [World.setCell_alloc_past _ _ _ _ (show w.heap.size < w1.heap.size by omega), World.setCell_alloc_past _ _ _ _ (by simp; omega)] at this
                      exact this
                    · have h41' : ((s[m].toNat : Int) != 41) = false := by rw [bne, h41]; rfl
                      rw [if_pos (by rw [byte_41, beq_iff_eq] at h41; rw [h41]), ba_eq] at hres
                      have HRES := Lib.hid hres
                      clear hres
                      go_wp2_with (at_builtin; refine wpList_app1 rfl (.tmp 73) (.tmp 75) _ rfl 0 41 2 40 elemTmI _ _ vals rfl (w1.alloc (.cells #[.string s0, .slice p0 k0 c0] 41)) #[.string s0, .slice p0 k0 c0] rfl _ (by simp) rfl HV.out rfl (by simp [Value.oneCell']) (by omega) (by unfold maxLen; omega) (Nat.zero_le _) ?_; intro v3 w3 hown3 hg3 hnr3 hlt3; obtain ⟨⟨q3, c3, rfl⟩, hbt3, hrb3⟩ := HL2.out.three hown3 hg3; obtain ⟨y0, y1, yf⟩ := cells2_cell hbt3; obtain ⟨t0, t1, tf⟩ := cells2_cell hrb3; simp only [World.size_alloc] at hlt3; have hz3 := bsz (show w.heap.size < w3.heap.size by omega); have hz4 := bsz (show wa.heap.size < w3.heap.size by omega); have HL3 := Lib.hid (HL.out.app hbW HA.out HV.out hown3 hg3 hnr3 (by omega)); clear hown3 hg3 hnr3 hbt3 hrb3)
                      refine bodyPost_ret (v := .tuple #[.agg #[.string (s.extract k j), .slice (some ⟨q3, 0, none⟩) (us.length + 1) c3], .int .i64 ((m : Int) + 1)]) (by simp only [results, Tryz.results273]; go_simp) rfl ⟨_, rfl, ?_⟩
                      rw [← HRES.out, show ((m : Int) + 1) = ((m + 1 : Nat) : Int) by omega]
                      exact LSt.done HL3.out (extract_le s k j hs) _ _ (m + 1)
                  · have h44' : ((s[m].toNat : Int) != 44) = false := by rw [bne, h44]; rfl
                    have h41 : ((s[m].toNat : Int) == 41) = false := by
                      rw [byte_44, beq_iff_eq] at h44
                      rw [byte_41, h44]; rfl
                    rw [if_pos (by rw [byte_44, beq_iff_eq] at h44; rw [h44])] at hres
                    have HRES := Lib.hid hres
                    clear hres
                    go_wp2_with (at_builtin; refine wpList_app1 rfl (.tmp 73) (.tmp 75) _ rfl 0 41 2 40 elemTmI _ _ vals rfl (w1.alloc (.cells #[.string s0, .slice p0 k0 c0] 41)) #[.string s0, .slice p0 k0 c0] rfl _ (by simp) rfl HV.out rfl (by simp [Value.oneCell']) (by omega) (by unfold maxLen; omega) (Nat.zero_le _) ?_; intro v3 w3 hown3 hg3 hnr3 hlt3; obtain ⟨⟨q3, c3, rfl⟩, hbt3, hrb3⟩ := HL2.out.three hown3 hg3; obtain ⟨y0, y1, yf⟩ := cells2_cell hbt3; obtain ⟨t0, t1, tf⟩ := cells2_cell hrb3; simp only [World.size_alloc] at hlt3; have hz3 := bsz (show w.heap.size < w3.heap.size by omega); have hz4 := bsz (show wa.heap.size < w3.heap.size by omega); have HL3 := Lib.hid (HL.out.app hbW HA.out HV.out hown3 hg3 hnr3 (by omega)); clear hown3 hg3 hnr3 hbt3 hrb3)
                    refine ⟨⟨f'', m, _, us ++ [a], rfl, HL3.out, by omega, HRES.out, hml, by omega, by simp; omega⟩, by simp [intOf]; omega⟩
        · have HW := Lib.hid hw
          go_wp2_with (first | (go_at_call 272; refine (l3Word_any _ _).mono ?_; rintro e w' ⟨rfl, rfl⟩))
          refine ⟨⟨j + 1, by go_num, by omega, by omega, fun i h1 h2 h3 => ?_, HBR.out trivial⟩, by simp [intOf]; omega⟩
          by_cases e : i = j
          · subst e; exact HW.out
          · exact HALL.out i h1 (by omega) h3
      · have HSTOP := Lib.hid (show ∀ h : j < s.size, wordC s[j] = false from fun h => absurd h hlt)
        have hj3 : ¬ (j : Int) < s.size := by omega
        have HWD := Lib.hid (show rWordL s.data.toList k = (s.data.toList.drop k).take (j - k) from wordL_at (bad := false) HALL.out hj1 hj2 HSTOP.out)
        have HLL := Lib.hid (show (rWordL s.data.toList k).length = j - k by rw [HWD.out, List.length_take, List.length_drop, ← size_list]; omega)
        by_cases hjk : j = k
        · subst hjk
          have HFIN := Lib.hid (show rTerm s.data.toList (f + 1) j = none by rw [rTerm, HWD.out]; simp)
          go_wp2
          refine bodyPost_ret (v := .tuple #[.agg #[.string ByteArray.empty, .slice none 0 0], .int .i64 (-1)]) (by simp only [results, Tryz.results273]; go_simp) rfl ⟨_, rfl, ?_⟩
          rw [HFIN.out]
          have := LSt.none (f' := f + 1) (LSt.init (n := ByteArray.empty) (f := 0) (HBR.out trivial)) (.string ByteArray.empty) (.slice none 0 0)
          rw [World.setCell_alloc_past _ _ _ _ (show w.heap.size < wa.heap.size by omega), World.setCell_alloc_past _ _ _ _ (by simp; omega)] at this
          exact this
        · have hk1 : ((j : Int) == (k : Int)) = false := by simp; omega
          have hk2 : ((j : Int) == (s.size : Int)) = true := by simp; omega
          have HFIN := Lib.hid (show rTerm s.data.toList (f + 1) k = some (.mk (s.extract k j) [], j) by
            have h1 : (rWordL s.data.toList k).isEmpty = false := by
              rw [Bool.eq_false_iff]; intro e; rw [List.isEmpty_iff] at e; have := HLL.out; rw [e] at this; simp at this; omega
            have h2 : (⟨(rWordL s.data.toList k).toArray⟩ : ByteArray) = s.extract k j := by
              exact (str_eq (by rw [extract_list, HWD.out, List.drop_take])).symm
            have h3 : k + (rWordL s.data.toList k).length = j := by rw [HLL.out]; omega
            rw [rTerm, h1, h3, h2, List.getElem?_eq_none (by rw [← size_list]; omega), if_neg (by simp), if_neg (by simp)])
          go_wp2
          refine bodyPost_ret (v := .tuple #[.agg #[.string (s.extract k j), .slice none 0 0], .int .i64 (j : Nat)]) (by simp only [results, Tryz.results273]; go_simp) rfl ⟨_, rfl, ?_⟩
          rw [HFIN.out]
          have := LSt.done (f := f) (us := []) (LSt.init (HBR.out trivial)) (extract_le s k j hs) (.string (s.extract k j)) (.slice none 0 0) j
          rw [World.setCell_alloc_past _ _ _ _ (show w.heap.size < wa.heap.size by omega), World.setCell_alloc_past _ _ _ _ (by simp; omega)] at this
          exact this
def sAll8 : List UInt8 := [97, 108, 108, 32]
def sSome8 : List UInt8 := [115, 111, 109, 101, 32]
def sTrue8 : List UInt8 := [116, 114, 117, 101]
def sFalse8 : List UInt8 := [102, 97, 108, 115, 101]
def sAnd8 : List UInt8 := [32, 38, 32]
def sOr8 : List UInt8 := [32, 124, 32]
def sImp8 : List UInt8 := [32, 61, 62, 32]
def sEq8 : List UInt8 := [32, 61, 32]
def sign8 (op : Int) : List UInt8 := if op = 5 then sAnd8 else if op = 6 then sOr8 else sImp8
theorem sign8_len (op : Int) : 3 ≤ (sign8 op).length ∧ (sign8 op).length ≤ 4 := by unfold sign8; split <;> (try split) <;> decide
def Fm.eq0 (ps : List Fm) : Bool := match ps with | f :: _ => f.a.n.data.toList == [61] | [] => false
mutual
def Fm.txt : Fm → List UInt8
  | .mk op a v ps =>
    if op = 1 then sTrue8 else if op = 2 then sFalse8 else if op = 3 then a.fmt
    else if op = 4 then (if Fm.eq0 ps then [126, 40] ++ Fm.txtN 0 ps ++ [41] else [126] ++ Fm.txtN 0 ps)
    else if op = 8 then sAll8 ++ v.data.toList ++ [46] ++ Fm.txtN 0 ps
    else if op = 9 then sSome8 ++ v.data.toList ++ [46] ++ Fm.txtN 0 ps
    else [40] ++ Fm.txtN 0 ps ++ sign8 op ++ Fm.txtN 1 ps ++ [41]
def Fm.txtN : Nat → List Fm → List UInt8
  | _, [] => []
  | 0, f :: _ => f.txt
  | n + 1, _ :: fs => Fm.txtN n fs
end
/-! ### The program's parser -/
def pAtomT (L : List UInt8) (f : Nat) (p : PSt) : Tm × PSt :=
  if pTake L sEq8 (pTerm L f p).2 then (eqTm (pTerm L f p).1 (pTerm L f (pAdv sEq8 (pTerm L f p).2)).1, (pTerm L f (pAdv sEq8 (pTerm L f p).2)).2) else pTerm L f p
def pSign (L : List UInt8) (p : PSt) : Int := if pTake L sAnd8 p then 5 else if pTake L sOr8 p then 6 else if pTake L sImp8 p then 7 else 0
def atomF (t : Tm) : Fm := if t.n.data.toList = sTrue8 ∧ t.us = [] then opF 1 [] else if t.n.data.toList = sFalse8 ∧ t.us = [] then opF 2 [] else atomOfF t
mutual
def pFrm (L : List UInt8) : Nat → PSt → Fm × PSt
  | 0, p => (opF 0 [], p)
  | f + 1, p =>
    if pTake L sAll8 p then (quantF 8 (pWord L (pAdv sAll8 p)).1 (pFrm L f (pMust L [46] (pWord L (pAdv sAll8 p)).2)).1, (pFrm L f (pMust L [46] (pWord L (pAdv sAll8 p)).2)).2)
    else if pTake L sSome8 p then (quantF 9 (pWord L (pAdv sSome8 p)).1 (pFrm L f (pMust L [46] (pWord L (pAdv sSome8 p)).2)).1, (pFrm L f (pMust L [46] (pWord L (pAdv sSome8 p)).2)).2)
    else if pTake L [126] p then (opF 4 [(pFrm L f (pAdv [126] p)).1], (pFrm L f (pAdv [126] p)).2)
    else if pTake L [40] p then pInn L f (pAdv [40] p)
    else (atomF (pAtomT L (L.length + 2) p).1, (pAtomT L (L.length + 2) p).2)
def pInn (L : List UInt8) : Nat → PSt → Fm × PSt
  | 0, p => (opF 0 [], p)
  | f + 1, p =>
    if pSign L (pFrm L f p).2 = 0 then ((pFrm L f p).1, pMust L [41] (pFrm L f p).2)
    else (opF (pSign L (pFrm L f p).2) [(pFrm L f p).1, (pFrm L f (pAdv (sign8 (pSign L (pFrm L f p).2)) (pFrm L f p).2)).1], pMust L [41] (pFrm L f (pAdv (sign8 (pSign L (pFrm L f p).2)) (pFrm L f p).2)).2)
end
/-! ### What is written is read back -/
inductive GoodF : List UInt8 → Prop
  | nil : GoodF []
  | and (R : List UInt8) : GoodF (sAnd8 ++ R)
  | or (R : List UInt8) : GoodF (sOr8 ++ R)
  | imp (R : List UInt8) : GoodF (sImp8 ++ R)
  | close (R : List UInt8) : GoodF (41 :: R)
theorem GoodF.stop {R : List UInt8} (h : GoodF R) : stopC R := by
  intro c hc
  cases h with
  | nil => simp at hc
  | and R => simp [sAnd8] at hc; subst hc; decide
  | or R => simp [sOr8] at hc; subst hc; decide
  | imp R => simp [sImp8] at hc; subst hc; decide
  | close R => simp at hc; subst hc; decide
theorem GoodF.noEq {R : List UInt8} (h : GoodF R) : sEq8.isPrefixOf R = false := by
  cases h <;> rfl
inductive BehindF : List UInt8 → Prop
  | open_ (R : List UInt8) : BehindF (40 :: R)
  | eq (R : List UInt8) : BehindF (sEq8 ++ R)
  | good (R : List UInt8) : GoodF R → BehindF R
theorem BehindF.stop {X : List UInt8} (h : BehindF X) : ∀ c, X.head? = some c → wordC c = false := by
  intro c hc
  cases h with
  | open_ R => simp at hc; subst hc; decide
  | eq R => simp [sEq8] at hc; subst hc; decide
  | good R h => exact (h.stop c hc).1
def noKw8 (T : List UInt8) : Prop := sAll8.isPrefixOf T = false ∧ sSome8.isPrefixOf T = false ∧ ([126] : List UInt8).isPrefixOf T = false ∧ ([40] : List UInt8).isPrefixOf T = false
theorem key_sym {l : List UInt8} (h : symB l = true) : l ≠ [97, 108, 108] ∧ l ≠ [115, 111, 109, 101] ∧ l ≠ sTrue8 ∧ l ≠ sFalse8 := by
  refine ⟨?_, ?_, ?_, ?_⟩ <;> (rintro rfl; exact absurd h (by decide))
theorem key_var {l : List UInt8} (h : varB l = true) : l ≠ [97, 108, 108] ∧ l ≠ [115, 111, 109, 101] ∧ l ≠ sTrue8 ∧ l ≠ sFalse8 := by
  refine ⟨?_, ?_, ?_, ?_⟩ <;> (rintro rfl; exact absurd h (by decide))
theorem kw8_word {n X : List UInt8} (h : varB n = true ∨ symB n = true) (hX : BehindF X) : noKw8 (n ++ X) := by
  have hn : n.all wordC = true ∧ n ≠ [] := by rcases h with h | h; exact varB_word h; exact symB_word h
  have hk : n ≠ [97, 108, 108] ∧ n ≠ [115, 111, 109, 101] := by rcases h with h | h; exact ⟨(key_var h).1, (key_var h).2.1⟩; exact ⟨(key_sym h).1, (key_sym h).2.1⟩
  obtain ⟨c, r, rfl⟩ : ∃ c r, n = c :: r := by cases n with
    | nil => exact absurd rfl hn.2
    | cons c r => exact ⟨c, r, rfl⟩
  have hc : wordC c = true := by have := hn.1; simp only [List.all_cons, Bool.and_eq_true] at this; exact this.1
  have gen : ∀ w rest : List UInt8, w.all wordC = true → (c :: r) ≠ w → (w ++ 32 :: rest).isPrefixOf ((c :: r) ++ X) = false := by
    intro w rest hw hne
    rw [Bool.eq_false_iff]
    intro h
    rw [List.isPrefixOf_iff_prefix] at h
    obtain ⟨Z, hZ⟩ := h
    have e1 : ((w ++ 32 :: rest) ++ Z).takeWhile wordC = w := by
      rw [List.append_assoc]; exact takeWhile_app hw (by intro c hc; simp at hc; subst hc; decide)
    have e2 : ((c :: r) ++ X).takeWhile wordC = c :: r := takeWhile_app hn.1 hX.stop
    rw [hZ, e2] at e1
    exact hne e1
  refine ⟨gen [97, 108, 108] [] (by decide) hk.1, gen [115, 111, 109, 101] [] (by decide) hk.2, ?_, ?_⟩
  · simp only [List.cons_append, List.isPrefixOf, Bool.and_eq_false_iff, beq_eq_false_iff_ne]
    left; rintro rfl; exact absurd hc (by decide)
  · simp only [List.cons_append, List.isPrefixOf, Bool.and_eq_false_iff, beq_eq_false_iff_ne]
    left; rintro rfl; exact absurd hc (by decide)
theorem fmt_eq (a b : Tm) : (eqTm a b).fmt = a.fmt ++ sEq8 ++ b.fmt := by rw [eqTm, Tm.fmt, if_pos (by rfl)]; rfl
theorem atom_noKw8 {t : Tm} (h : t.atom = true) {R : List UInt8} (hR : GoodF R) : noKw8 (t.fmt ++ R) := by
  cases atom_cases h with
  | eq a b ha hb =>
    rw [fmt_eq, List.append_assoc, List.append_assoc]
    obtain ⟨n, X, hn, he, hX⟩ := fmt_split ha (sEq8 ++ (b.fmt ++ R))
    rw [he]
    refine kw8_word hn ?_
    rcases hX with ⟨Y, rfl⟩ | rfl
    · exact .open_ _
    · exact .eq _
  | pred n us hs hu hd =>
    obtain ⟨m, X, hn, he, hX⟩ := fmt_split hd R
    rw [he]
    refine kw8_word hn ?_
    rcases hX with ⟨Y, rfl⟩ | rfl
    · exact .open_ _
    · exact .good _ hR
theorem pAtomT_ok {L : List UInt8} {f : Nat} {t : Tm} {k : Nat} {R : List UInt8} (ht : t.atom = true) (hL : L.drop k = t.fmt ++ R) (hR : GoodF R) (hf : t.fmt.length < f) : pAtomT L f ⟨k, false⟩ = (t, ⟨k + t.fmt.length, false⟩) := by
  cases atom_cases ht with
  | eq a b ha hb =>
    rw [fmt_eq] at hL hf ⊢
    have e0 : L.drop k = a.fmt ++ (sEq8 ++ (b.fmt ++ R)) := by rw [hL]; simp [List.append_assoc]
    have e1 := drop_adv e0
    have e2 := drop_adv e1
    simp only [List.length_append] at hf
    have h1 := pTerm_ok f a _ _ ha e0 (by intro c hc; simp [sEq8] at hc; subst hc; decide) (by omega)
    have h2 := pTerm_ok f b _ _ hb e2 hR.stop (by omega)
    rw [pAtomT, h1, if_pos (pTake_yes e1)]
    simp only [pAdv] at h2 ⊢
    rw [h2]
    refine Prod.ext rfl ?_
    show PSt.mk _ _ = PSt.mk _ _
    congr 1
    simp only [List.length_append]; omega
  | pred n us hs hu hd =>
    have h1 := pTerm_ok f _ _ _ hd hL hR.stop hf
    rw [pAtomT, h1, if_neg (by rw [pTake_no (drop_adv hL) hR.noEq]; simp)]
theorem atomF_of {t : Tm} (h : t.atom = true) : atomF t = atomOfF t := by
  cases atom_cases h with
  | eq a b ha hb =>
    rw [atomF, if_neg (fun h => absurd (show ([61] : List UInt8) = sTrue8 from h.1) (by decide)), if_neg (fun h => absurd (show ([61] : List UInt8) = sFalse8 from h.1) (by decide))]
  | pred n us hs hu hd =>
    have hk := key_sym hs
    rw [atomF, if_neg (fun h => hk.2.2.1 h.1), if_neg (fun h => hk.2.2.2 h.1)]
theorem txt_neg (g : Fm) : (opF 4 [g]).txt = if g.a.n.data.toList = [61] then [126, 40] ++ g.txt ++ [41] else [126] ++ g.txt := by
  rw [opF, Fm.txt]
  simp only [Fm.eq0, Fm.txtN, beq_iff_eq]
  rfl
theorem txt_atm (a : Tm) : (atomOfF a).txt = a.fmt := by rw [atomOfF, Fm.txt]; rfl
theorem txt_bin {op : Int} (h : op = 5 ∨ op = 6 ∨ op = 7) (g g' : Fm) : (opF op [g, g']).txt = [40] ++ g.txt ++ sign8 op ++ g'.txt ++ [41] := by
  rcases h with rfl | rfl | rfl <;> (rw [opF, Fm.txt]; rfl)
theorem txt_qua {op : Int} (h : op = 8 ∨ op = 9) (v : List UInt8) (g : Fm) : (quantF op v g).txt = (if op = 8 then sAll8 else sSome8) ++ v ++ [46] ++ g.txt := by
  rcases h with rfl | rfl <;> (rw [quantF, Fm.txt]; rfl)
theorem eq_form {g : Fm} (hg : g.form = true) (h : g.a.n.data.toList = [61]) : ∃ a b, g = atomOfF (eqTm a b) ∧ (eqTm a b).atom = true := by
  cases form_cases hg with
  | atm t ht =>
    cases atom_cases ht with
    | eq a b ha hb => exact ⟨a, b, rfl, ht⟩
    | pred n us hs hu hd =>
      have h : n.data.toList = [61] := h
      rw [h] at hs; exact absurd hs (by decide)
  | tru => exact absurd h (by decide)
  | fal => exact absurd h (by decide)
  | neg g _ => exact absurd h (by simp [opF, Fm.a, tm0, Tm.n])
  | bin op g h' _ _ _ => exact absurd h (by simp [opF, Fm.a, tm0, Tm.n])
  | qua op v g _ _ _ => exact absurd h (by simp [quantF, Fm.a, tm0, Tm.n])
theorem pFrm_atom {L : List UInt8} {f k : Nat} {T : List UInt8} (h : L.drop k = T) (hn : noKw8 T) : pFrm L (f + 1) ⟨k, false⟩ = (atomF (pAtomT L (L.length + 2) ⟨k, false⟩).1, (pAtomT L (L.length + 2) ⟨k, false⟩).2) := by
  obtain ⟨h1, h2, h3, h4⟩ := hn
  rw [pFrm, if_neg (by rw [pTake_no h h1]; simp), if_neg (by rw [pTake_no h h2]; simp), if_neg (by rw [pTake_no h h3]; simp), if_neg (by rw [pTake_no h h4]; simp)]
theorem drop_le {L T : List UInt8} {k : Nat} (h : L.drop k = T) : T.length ≤ L.length := by
  have := congrArg List.length h
  rw [List.length_drop] at this; omega
theorem pEnd {F : Fm} {p : PSt} {k n : Nat} (h : p = ⟨n, false⟩) (hn : n = k) : (F, p) = (F, (⟨k, false⟩ : PSt)) := by subst h hn; rfl
theorem pSign_op {L : List UInt8} {op : Int} {k : Nat} {R : List UInt8} (ho : op = 5 ∨ op = 6 ∨ op = 7) (h : L.drop k = sign8 op ++ R) : pSign L ⟨k, false⟩ = op := by
  rcases ho with rfl | rfl | rfl
  · have h : L.drop k = sAnd8 ++ R := h
    rw [pSign, if_pos (pTake_yes h)]
  · have h : L.drop k = sOr8 ++ R := h
    rw [pSign, if_neg (by rw [pTake_no h (by rfl)]; simp), if_pos (pTake_yes h)]
  · have h : L.drop k = sImp8 ++ R := h
    rw [pSign, if_neg (by rw [pTake_no h (by rfl)]; simp), if_neg (by rw [pTake_no h (by rfl)]; simp), if_pos (pTake_yes h)]
theorem pSign_close {L : List UInt8} {k : Nat} {R : List UInt8} (h : L.drop k = 41 :: R) : pSign L ⟨k, false⟩ = 0 := by
  rw [pSign, if_neg (by rw [pTake_no h (by rfl)]; simp), if_neg (by rw [pTake_no h (by rfl)]; simp), if_neg (by rw [pTake_no h (by rfl)]; simp)]
theorem good_sign {op : Int} (ho : op = 5 ∨ op = 6 ∨ op = 7) (R : List UInt8) : GoodF (sign8 op ++ R) := by
  rcases ho with rfl | rfl | rfl
  · exact .and R
  · exact .or R
  · exact .imp R
mutual
theorem pFrm_ok {L : List UInt8} : ∀ (f : Nat) (F : Fm) (k : Nat) (R : List UInt8), F.form = true → L.drop k = F.txt ++ R → GoodF R → F.txt.length + 1 < f → pFrm L f ⟨k, false⟩ = (F, ⟨k + F.txt.length, false⟩)
  | 0, _, _, _, _, _, _, h => absurd h (by omega)
  | f + 1, F, k, R, hF, hL, hR, hf => by
    cases form_cases hF with
    | tru =>
      have e : (opF 1 []).txt = (Tm.mk ⟨sTrue8.toArray⟩ []).fmt := by rw [opF, Fm.txt, Tm.fmt]; rfl
      have hn : (Tm.mk ⟨sTrue8.toArray⟩ []).fmt = sTrue8 := by rw [Tm.fmt]; rfl
      rw [e] at hL hf ⊢
      have hk : noKw8 ((Tm.mk ⟨sTrue8.toArray⟩ []).fmt ++ R) := by rw [hn]; exact ⟨rfl, rfl, rfl, rfl⟩
      have hL' : L.drop k = sTrue8 ++ R := by rw [hL, hn]
      have hw := pWord_ok hL' (by decide) (by decide) (fun c hc => (hR.stop c hc).1)
      have e1 := drop_adv hL'
      have h40 : pTake L [40] ⟨k + sTrue8.length, false⟩ = false := by
        refine pTake_no e1 ?_
        cases R with
        | nil => rfl
        | cons c R => simp [List.isPrefixOf, (hR.stop c rfl).2.symm]
      have ht : ∀ n, pTerm L (n + 1) ⟨k, false⟩ = (.mk ⟨sTrue8.toArray⟩ [], ⟨k + sTrue8.length, false⟩) := fun n => by rw [pTerm, hw, h40]; rfl
      rw [pFrm_atom hL hk, pAtomT, ht (L.length + 1), if_neg (by rw [pTake_no e1 hR.noEq]; simp), hn]
      rfl
    | fal =>
      have e : (opF 2 []).txt = (Tm.mk ⟨sFalse8.toArray⟩ []).fmt := by rw [opF, Fm.txt, Tm.fmt]; rfl
      have hn : (Tm.mk ⟨sFalse8.toArray⟩ []).fmt = sFalse8 := by rw [Tm.fmt]; rfl
      rw [e] at hL hf ⊢
      have hk : noKw8 ((Tm.mk ⟨sFalse8.toArray⟩ []).fmt ++ R) := by rw [hn]; exact ⟨rfl, rfl, rfl, rfl⟩
      have hL' : L.drop k = sFalse8 ++ R := by rw [hL, hn]
      have hw := pWord_ok hL' (by decide) (by decide) (fun c hc => (hR.stop c hc).1)
      have e1 := drop_adv hL'
      have h40 : pTake L [40] ⟨k + sFalse8.length, false⟩ = false := by
        refine pTake_no e1 ?_
        cases R with
        | nil => rfl
        | cons c R => simp [List.isPrefixOf, (hR.stop c rfl).2.symm]
      have ht : ∀ n, pTerm L (n + 1) ⟨k, false⟩ = (.mk ⟨sFalse8.toArray⟩ [], ⟨k + sFalse8.length, false⟩) := fun n => by rw [pTerm, hw, h40]; rfl
      rw [pFrm_atom hL hk, pAtomT, ht (L.length + 1), if_neg (by rw [pTake_no e1 hR.noEq]; simp), hn]
      rfl
    | atm a ha =>
      rw [txt_atm] at hL hf ⊢
      have hl := drop_le hL
      rw [List.length_append] at hl
      rw [pFrm_atom hL (atom_noKw8 ha hR), pAtomT_ok ha hL hR (by omega), atomF_of ha]
    | neg g hg =>
      rw [txt_neg] at hL hf ⊢
      by_cases hq : g.a.n.data.toList = [61]
      · rw [if_pos hq] at hL hf ⊢
        have e0 : L.drop k = [126] ++ ([40] ++ (g.txt ++ ([41] ++ R))) := by rw [hL]; simp [List.append_assoc]
        have e1 := drop_adv e0
        have e2 := drop_adv e1
        have e3 := drop_adv e2
        simp only [List.length_append, List.length_cons, List.length_nil] at hf e1 e2 e3
        obtain ⟨f1, rfl⟩ : ∃ q, f = q + 1 := ⟨f - 1, by omega⟩
        obtain ⟨f2, rfl⟩ : ∃ q, f1 = q + 1 := ⟨f1 - 1, by omega⟩
        have h1 := pFrm_ok f2 g _ _ hg e2 (.close R) (by omega)
        have n1 : pTake L sAll8 ⟨k, false⟩ = false := pTake_no e0 rfl
        have n2 : pTake L sSome8 ⟨k, false⟩ = false := pTake_no e0 rfl
        have m1 : pTake L sAll8 ⟨k + 1, false⟩ = false := pTake_no e1 rfl
        have m2 : pTake L sSome8 ⟨k + 1, false⟩ = false := pTake_no e1 rfl
        have m3 : pTake L [126] ⟨k + 1, false⟩ = false := pTake_no e1 rfl
        have hi : pInn L (f2 + 1) ⟨k + 1 + 1, false⟩ = (g, ⟨k + 1 + 1 + g.txt.length + 1, false⟩) := by
          rw [pInn, h1, if_pos (pSign_close e3), pMust_yes e3]; rfl
        have hin : pFrm L (f2 + 1 + 1) ⟨k + 1, false⟩ = (g, ⟨k + 1 + 1 + g.txt.length + 1, false⟩) := by
          rw [pFrm, if_neg (by rw [m1]; simp), if_neg (by rw [m2]; simp), if_neg (by rw [m3]; simp), if_pos (pTake_yes e1)]
          exact hi
        rw [pFrm, if_neg (by rw [n1]; simp), if_neg (by rw [n2]; simp), if_pos (pTake_yes e0)]
        show (opF 4 [(pFrm L (f2 + 1 + 1) ⟨k + 1, false⟩).1], (pFrm L (f2 + 1 + 1) ⟨k + 1, false⟩).2) = _
        rw [hin]
        exact pEnd rfl (by simp only [List.length_append, List.length_cons, List.length_nil]; omega)
      · rw [if_neg hq] at hL hf ⊢
        have e0 : L.drop k = [126] ++ (g.txt ++ R) := by rw [hL]; simp []
        have e1 := drop_adv e0
        simp only [List.length_append, List.length_cons, List.length_nil] at hf e1
        have h1 := pFrm_ok f g _ _ hg e1 hR (by omega)
        have n1 : pTake L sAll8 ⟨k, false⟩ = false := pTake_no e0 rfl
        have n2 : pTake L sSome8 ⟨k, false⟩ = false := pTake_no e0 rfl
        rw [pFrm, if_neg (by rw [n1]; simp), if_neg (by rw [n2]; simp), if_pos (pTake_yes e0)]
        show (opF 4 [(pFrm L f ⟨k + 1, false⟩).1], (pFrm L f ⟨k + 1, false⟩).2) = _
        have h1' : pFrm L f ⟨k + 1, false⟩ = (g, ⟨k + 1 + g.txt.length, false⟩) := h1
        rw [h1']
        exact pEnd rfl (by simp only [List.length_append, List.length_cons, List.length_nil]; omega)
    | bin op g h ho hg hh =>
      rw [txt_bin ho] at hL hf ⊢
      have e0 : L.drop k = [40] ++ (g.txt ++ (sign8 op ++ (h.txt ++ ([41] ++ R)))) := by rw [hL]; simp [List.append_assoc]
      have e1 := drop_adv e0
      have e2 := drop_adv e1
      have e3 := drop_adv e2
      have e4 := drop_adv e3
      simp only [List.length_append, List.length_cons, List.length_nil] at hf
      obtain ⟨f1, rfl⟩ : ∃ q, f = q + 1 := ⟨f - 1, by omega⟩
      have h1 := pFrm_ok f1 g _ _ hg e1 (good_sign ho _) (by omega)
      have h2 := pFrm_ok f1 h _ _ hh e3 (.close R) (by omega)
      have hs := pSign_op ho e2
      have n1 : pTake L sAll8 ⟨k, false⟩ = false := pTake_no e0 rfl
      have n2 : pTake L sSome8 ⟨k, false⟩ = false := pTake_no e0 rfl
      have n3 : pTake L [126] ⟨k, false⟩ = false := pTake_no e0 rfl
      have h0 : op ≠ 0 := by omega
      have hi : pInn L (f1 + 1) (pAdv [40] ⟨k, false⟩) = (opF op [g, h], ⟨k + 1 + g.txt.length + (sign8 op).length + h.txt.length + 1, false⟩) := by
        have h1' : pFrm L f1 (pAdv [40] ⟨k, false⟩) = (g, ⟨k + 1 + g.txt.length, false⟩) := h1
        have hs' : pSign L ⟨k + 1 + g.txt.length, false⟩ = op := hs
        have h2' : pFrm L f1 (pAdv (sign8 op) ⟨k + 1 + g.txt.length, false⟩) = (h, ⟨k + 1 + g.txt.length + (sign8 op).length + h.txt.length, false⟩) := h2
        have h3' : pMust L [41] ⟨k + 1 + g.txt.length + (sign8 op).length + h.txt.length, false⟩ = _ := pMust_yes e4
        rw [pInn, h1']
        simp only [hs']
        rw [if_neg h0, h2']
        simp only
        rw [h3']
        rfl
      rw [pFrm, if_neg (by rw [n1]; simp), if_neg (by rw [n2]; simp), if_neg (by rw [n3]; simp), if_pos (pTake_yes e0), hi]
      exact pEnd rfl (by simp only [List.length_append, List.length_cons, List.length_nil]; omega)
    | qua op v g ho hv hg =>
      rw [txt_qua ho] at hL hf ⊢
      have hw := varB_word hv
      obtain ⟨kw, hkw, hkn⟩ : ∃ kw, (if op = 8 then sAll8 else sSome8) = kw ∧ 0 < kw.length := ⟨_, rfl, by split <;> decide⟩
      rw [hkw] at hL hf ⊢
      have e0 : L.drop k = kw ++ (v ++ ([46] ++ (g.txt ++ R))) := by rw [hL]; simp [List.append_assoc]
      have e1 := drop_adv e0
      have e2 := drop_adv e1
      have e3 := drop_adv e2
      simp only [List.length_append, List.length_cons, List.length_nil] at hf
      have h1 := pWord_ok e1 hw.1 hw.2 (by intro c hc; simp at hc; subst hc; decide)
      have h2 := pMust_yes e2
      have h3 := pFrm_ok f g _ _ hg e3 hR (by omega)
      have hi : (quantF op (pWord L (pAdv kw ⟨k, false⟩)).1 (pFrm L f (pMust L [46] (pWord L (pAdv kw ⟨k, false⟩)).2)).1, (pFrm L f (pMust L [46] (pWord L (pAdv kw ⟨k, false⟩)).2)).2) = (quantF op v g, (⟨k + kw.length + v.length + 1 + g.txt.length, false⟩ : PSt)) := by
        have h1' : pWord L (pAdv kw ⟨k, false⟩) = _ := h1
        rw [h1']
        simp only
        rw [h2, h3]
        rfl
      rcases ho with rfl | rfl
      · obtain rfl : sAll8 = kw := hkw
        rw [pFrm, if_pos (pTake_yes e0), hi]
        exact pEnd rfl (by simp only [List.length_append, List.length_cons, List.length_nil]; omega)
      · obtain rfl : sSome8 = kw := hkw
        have n1 : pTake L sAll8 ⟨k, false⟩ = false := pTake_no e0 rfl
        rw [pFrm, if_neg (by rw [n1]; simp), if_pos (pTake_yes e0), hi]
        exact pEnd rfl (by simp only [List.length_append, List.length_cons, List.length_nil]; omega)
end
end Go.Proofs.YtkgfanajgdelcaaGreatDoor
