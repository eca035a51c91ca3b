/- EnglishToFormula, the reference's. Conditions: the text is no longer than the limit, or it is refused. -/
import Derived.Test.YtdklemmincejpaaGreatEtcPart2
import Derived.Test.YtdklemmincejpaaGreatEtcPart6
import Derived.Test.YtdklemmincejpaaGreatEtcPart7
import Derived.Test.YtdklemmincejpaaGreatEtcPart8
import Derived.Test.YtdklemmincejpaaGreatEtcPart10
import Derived.Test.YtdklemmincejpaaGreatEtcPart11
namespace Go.Proofs.YtdklemmincejpaaGreat
open Go.RowKit
def L3C (f : Nat) : Prop := ∀ (s : ByteArray) (k : Nat) (w : World), k ≤ s.size → s.size ≤ 1000000 → s.size - k < f →
    Calls Tryz.prog 137 #[.string s, .int .i64 (k : Nat)] w fun e w' => ∃ x, e = .returned x ∧ GotTm 24 f (rTerm s.data.toList f k) w x w'
def ScanRel (s : ByteArray) (k : Nat) (W : World) (i : Value) (wr : World) : Prop := ∃ j, i = .int .i64 (j : Nat) ∧ k ≤ j ∧ j ≤ s.size ∧ (∀ i, k ≤ i → (h : i < j) → (h2 : i < s.size) → wordC s[i] = true) ∧ Below W.heap.size W wr
def LArgRel (s : ByteArray) (n : ByteArray) (f rb bt : Nat) (w : World) (res : Option (Tm × Nat)) (i : Value) (wr : World) : Prop :=
  ∃ (f' e : Nat) (v : Value) (us : List Tm), i = .int .i64 (e : Nat) ∧ LSt 24 rb bt n w f v us wr ∧ f' ≤ f ∧ rArgs s.data.toList n.data.toList f' us e = res ∧ e < s.size ∧ s.size - e < f' ∧ us.length ≤ e
set_option maxRecDepth 100000 in
set_option maxHeartbeats 3200000 in
theorem l3Read_any : ∀ f : Nat, L3C f := by
  intro f
  induction f using Nat.strongRecOn with
  | _ f0 ih =>
    intro s k w hk hs hf
    obtain ⟨f, rfl⟩ : ∃ f, f0 = f + 1 := ⟨f0 - 1, by omega⟩
    have IH := Lib.hid ih
    clear ih
    go_enter Tryz.func137, Tryz.ntmps137
    go_wp2
    go_loopw [6] (ScanRel s k (w.alloc (.cells #[.string ⟨#[]⟩, .slice none 0 0] 24))) (fun i _ => s.size - (intOf i).toNat)
    case atStart => exact ⟨k, rfl, Nat.le_refl _, hk, fun i h1 h2 => absurd h2 (by omega), Below.refl _ _⟩
    case round =>
      obtain ⟨j, rfl, hj1, hj2, hall, hbr⟩ := hrel
      obtain ⟨wa, rfl⟩ : ∃ wa, wa = wr := ⟨_, rfl⟩
      have HALL := Lib.hid hall
      have hqr := hbr.size
      simp at hqr
      have HBR := Lib.hid (show True → _ from fun _ => hbr)
      have HR := (hbr.block w.heap.size (by simp)).trans (heap_alloc_new w _)
      obtain ⟨r0, r1, rf⟩ := cells2_cell HR
      have hr1 := bsz (heap_lt HR)
      clear hall HR hbr
      by_cases hlt : j < s.size
      · have hj3 : (j : Int) < s.size := by omega
        cases hw : wordC s[j]
        · have HSTOP := Lib.hid (show ∀ h : j < s.size, wordC s[j] = false from fun _ => hw)
          have HWD := Lib.hid (show rWordL s.data.toList k = (s.data.toList.drop k).take (j - k) from wordL_at (bad := false) HALL.out hj1 hj2 HSTOP.out)
          have HLL := Lib.hid (show (rWordL s.data.toList k).length = j - k by rw [HWD.out, List.length_take, List.length_drop, ← size_list]; omega)
          by_cases hjk : j = k
          · subst hjk
            have HFIN := Lib.hid (show rTerm s.data.toList (f + 1) j = none by rw [rTerm, HWD.out]; simp)
            go_wp2_with (first | (go_at_call 136; refine (l3Word_any _ _).mono ?_; rintro e w' ⟨rfl, rfl⟩))
            refine bodyPost_ret (v := .tuple #[.agg #[.string ByteArray.empty, .slice none 0 0], .int .i64 (-1)]) (by simp only [results, Tryz.results137]; go_simp) rfl ⟨_, rfl, ?_⟩
            rw [HFIN.out]
            have := LSt.none (f' := f + 1) (LSt.init (n := ByteArray.empty) (f := 0) (HBR.out trivial)) (.string ByteArray.empty) (.slice none 0 0)
            rw [World.setCell_alloc_past _ _ _ _ (show w.heap.size < wa.heap.size by omega), World.setCell_alloc_past _ _ _ _ (by simp; omega)] at this
            exact this
          · have hk1 : ((j : Int) == (k : Int)) = false := by simp; omega
            have HNE := Lib.hid (show (rWordL s.data.toList k).isEmpty = false by
              rw [Bool.eq_false_iff]; intro e; rw [List.isEmpty_iff] at e; have := HLL.out; rw [e] at this; simp at this; omega)
            have HNM := Lib.hid (show (⟨(rWordL s.data.toList k).toArray⟩ : ByteArray) = s.extract k j by
              exact (str_eq (by rw [extract_list, HWD.out, List.drop_take])).symm)
            have HJ := Lib.hid (show k + (rWordL s.data.toList k).length = j by rw [HLL.out]; omega)
            cases h40 : ((s[j].toNat : Int) == 40)
            · have HFIN := Lib.hid (show rTerm s.data.toList (f + 1) k = some (.mk (s.extract k j) [], j) by
                rw [rTerm, HNE.out, HJ.out, HNM.out, list_at s j hlt, if_neg (by simp), if_neg (by
                  intro e; injection e with e; rw [byte_40] at h40; rw [e] at h40; simp at h40)])
              have h40' : ((s[j].toNat : Int) != 40) = true := by rw [bne, h40]; rfl
              go_wp2_with (first | (go_at_call 136; refine (l3Word_any _ _).mono ?_; rintro e w' ⟨rfl, rfl⟩))
              refine bodyPost_ret (v := .tuple #[.agg #[.string (s.extract k j), .slice none 0 0], .int .i64 (j : Nat)]) (by simp only [results, Tryz.results137]; go_simp) rfl ⟨_, rfl, ?_⟩
              rw [HFIN.out]
              have := LSt.done (f := f) (us := []) (LSt.init (HBR.out trivial)) (extract_le s k j hs) (.string (s.extract k j)) (.slice none 0 0) j
              rw [World.setCell_alloc_past _ _ _ _ (show w.heap.size < wa.heap.size by omega), World.setCell_alloc_past _ _ _ _ (by simp; omega)] at this
              exact this
            · have HFIN := Lib.hid (show rTerm s.data.toList (f + 1) k = rArgs s.data.toList (s.extract k j).data.toList f [] j by
                rw [rTerm, HNE.out, HJ.out, list_at s j hlt, if_neg (by simp), if_pos (by
                  rw [byte_40, beq_iff_eq] at h40; rw [h40]), ← HNM.out])
              have h40' : ((s[j].toNat : Int) != 40) = false := by rw [bne, h40]; rfl
              have hq40 : ((j : Int) == (s.size : Int)) = false := by simp; omega
              have HL0 := Lib.hid (LSt.init (n := s.extract k j) (f := f) (HBR.out trivial))
              clear r0 r1 rf
              go_wp2_with (first | (go_at_call 136; refine (l3Word_any _ _).mono ?_; rintro e w' ⟨rfl, rfl⟩))
              go_loopw [6] (LArgRel s (s.extract k j) f w.heap.size wa.heap.size w (rTerm s.data.toList (f + 1) k)) (fun i _ => s.size - (intOf i).toNat)
              case atStart => exact ⟨f, j, _, [], rfl, HL0.out, Nat.le_refl _, HFIN.out.symm, hlt, by omega, Nat.zero_le _⟩
              case round =>
                obtain ⟨f', e, v, us, rfl, hL, hff, hres, he, hfe, hul⟩ := hrel
                have HL := Lib.hid hL
                clear hL HFIN HL0
                obtain ⟨f'', rfl⟩ : ∃ q, f' = q + 1 := ⟨f' - 1, by omega⟩
                rw [rArgs] at hres
                go_wp2_with fail
                rw [show ((e : Int) + 1) = ((e + 1 : Nat) : Int) by omega]
                refine (IH.out f'' (by omega) s (e + 1) _ (by omega) hs (by omega)).mono ?_
                rintro e0 w1 ⟨x, rfl, hb1, s0, p0, k0, c0, z0, rfl, hgot⟩
                have hq1 := hb1.size
                have hlL := HL.out.lt
                have HL1 := Lib.hid (HL.out.later hb1)
                have HL2 := Lib.hid (HL1.out.later ((Below.refl w1.heap.size w1).alloc (Nat.le_refl _) (.cells #[.string s0, .slice p0 k0 c0] 24)))
                obtain ⟨pv, cv, hvv, -⟩ := HL.out.row.form
                subst hvv
                obtain ⟨b0, b1, bf⟩ := cells2_cell HL1.out.cell
                obtain ⟨r0, r1, rf⟩ := cells2_cell HL1.out.res
                have hz1 := bsz (show w.heap.size < w1.heap.size by omega)
                have hz2 := bsz (show wa.heap.size < w1.heap.size by omega)
                cases hr : rTerm s.data.toList f'' (e + 1) with
                | none =>
                  rw [hr] at hgot hres
                  simp only at hgot hres
                  subst hgot
                  have HRES := Lib.hid hres
                  clear hres
                  go_wp2
                  refine bodyPost_ret (v := .tuple #[.agg #[.string (s.extract k j), .slice pv us.length cv], .int .i64 (-1)]) (by simp only [results, Tryz.results137]; go_simp) rfl ⟨_, rfl, ?_⟩
                  rw [← HRES.out]
                  have := LSt.none (f' := f + 1) HL2.out (.string (s.extract k j)) (.slice pv us.length cv)
                  rw [World.setCell_alloc_past _ _ _ _ (show w.heap.size < w1.heap.size by omega), World.setCell_alloc_past _ _ _ _ (by simp; omega)] at this
                  exact this
                | some am =>
                  obtain ⟨a, m⟩ := am
                  rw [hr] at hgot hres
                  simp only at hgot hres
                  obtain ⟨rfl, hO⟩ := hgot
                  have hwt := rTerm_wt s.data.toList f'' (e + 1) a m (by rw [← size_list]; omega) hr
                  rw [← size_list] at hwt
                  have hbW : Below wr.heap.size wr (w1.alloc (.cells #[.string s0, .slice p0 k0 c0] 24)) := by (repeat (first | with_reducible exact Below.refl _ _ | with_reducible assumption | with_reducible refine Below.al ?_ _ | with_reducible refine Below.sc ?_ (by first | exact Nat.le_refl _ | (simp; done) | (simp; omega)) _ | assumption | exact Below.refl _ _ | refine Below.dr ?_ | refine Below.drN ?_ _ | refine Below.step ?_ (by assumption)))
                  have HA := Lib.hid (show TmOwn 24 f (fun b => wr.heap.size ≤ b ∧ b < (w1.alloc (.cells #[.string s0, .slice p0 k0 c0] 24)).heap.size) (w1.alloc (.cells #[.string s0, .slice p0 k0 c0] 24)) a [.string s0, .slice p0 k0 c0] from
                    TmOwn.mono f'' f a _ (by omega) (SameOn.below ((Below.refl w1.heap.size w1).alloc (Nat.le_refl _) _)) (fun b hb => ⟨hb.1, by simp; omega⟩) hO)
                  clear hO
                  obtain ⟨hm, vals, Ss, hv1, -⟩ := HL2.out.row
                  have HV := Lib.hid hv1
                  clear hv1 hm
                  have hm0 : ¬ (m : Int) < 0 := by omega
                  by_cases hms : m = s.size
                  · have hms1 : ((m : Int) == (s.size : Int)) = true := by simp; omega
                    have HRES := Lib.hid (show none = rTerm s.data.toList (f + 1) k by rw [← hres, List.getElem?_eq_none (by rw [← size_list]; omega), if_neg (by simp), if_neg (by simp)])
                    clear hres
                    go_wp2
                    refine bodyPost_ret (v := .tuple #[.agg #[.string (s.extract k j), .slice pv us.length cv], .int .i64 (-1)]) (by simp only [results, Tryz.results137]; go_simp) rfl ⟨_, rfl, ?_⟩
                    rw [← HRES.out]
                    have := LSt.none (f' := f + 1) HL2.out (.string (s.extract k j)) (.slice pv us.length cv)
                    rw [World.setCell_alloc_past _ _ _ _ (show w.heap.size < w1.heap.size by omega), World.setCell_alloc_past _ _ _ _ (by simp; omega)] at this
                    exact this
                  have hms1 : ((m : Int) == (s.size : Int)) = false := by simp; omega
                  have hml : m < s.size := by omega
                  have hml1 : (m : Int) < s.size := by omega
                  rw [list_at s m hml] at hres
                  cases h44 : ((s[m].toNat : Int) == 44)
                  · have h44' : ((s[m].toNat : Int) != 44) = true := by rw [bne, h44]; rfl
                    rw [if_neg (by intro e; injection e with e; rw [byte_44, e] at h44; simp at h44)] at hres
                    cases h41 : ((s[m].toNat : Int) == 41)
                    · have h41' : ((s[m].toNat : Int) != 41) = true := by rw [bne, h41]; rfl
                      rw [if_neg (by intro e; injection e with e; rw [byte_41, e] at h41; simp at h41)] at hres
                      have HRES := Lib.hid hres
                      clear hres
                      go_wp2
                      refine bodyPost_ret (v := .tuple #[.agg #[.string (s.extract k j), .slice pv us.length cv], .int .i64 (-1)]) (by simp only [results, Tryz.results137]; go_simp) rfl ⟨_, rfl, ?_⟩
                      rw [← HRES.out]
                      have := LSt.none (f' := f + 1) HL2.out (.string (s.extract k j)) (.slice pv us.length cv)
                      rw [World.setCell_alloc_past _ _ _ _ (show w.heap.size < w1.heap.size by omega), World.setCell_alloc_past _ _ _ _ (by simp; omega)] at this
                      exact this
                    · have h41' : ((s[m].toNat : Int) != 41) = false := by rw [bne, h41]; rfl
                      rw [if_pos (by rw [byte_41, beq_iff_eq] at h41; rw [h41]), ba_eq] at hres
                      have HRES := Lib.hid hres
                      clear hres
                      go_wp2_with (at_builtin; refine wpList_app1 rfl (.tmp 73) (.tmp 75) _ rfl 0 24 2 40 elemTmI _ _ vals rfl (w1.alloc (.cells #[.string s0, .slice p0 k0 c0] 24)) #[.string s0, .slice p0 k0 c0] rfl _ (by simp) rfl HV.out rfl (by simp [Value.oneCell']) (by omega) (by unfold maxLen; omega) (Nat.zero_le _) ?_; intro v3 w3 hown3 hg3 hnr3 hlt3; obtain ⟨⟨q3, c3, rfl⟩, hbt3, hrb3⟩ := HL2.out.three hown3 hg3; obtain ⟨y0, y1, yf⟩ := cells2_cell hbt3; obtain ⟨t0, t1, tf⟩ := cells2_cell hrb3; simp only [World.size_alloc] at hlt3; have hz3 := bsz (show w.heap.size < w3.heap.size by omega); have hz4 := bsz (show wa.heap.size < w3.heap.size by omega); have HL3 := Lib.hid (HL.out.app hbW HA.out HV.out hown3 hg3 hnr3 (by omega)); clear hown3 hg3 hnr3 hbt3 hrb3)
                      refine bodyPost_ret (v := .tuple #[.agg #[.string (s.extract k j), .slice (some ⟨q3, 0, none⟩) (us.length + 1) c3], .int .i64 ((m : Int) + 1)]) (by simp only [results, Tryz.results137]; go_simp) rfl ⟨_, rfl, ?_⟩
                      rw [← HRES.out, show ((m : Int) + 1) = ((m + 1 : Nat) : Int) by omega]
                      exact LSt.done HL3.out (extract_le s k j hs) _ _ (m + 1)
                  · have h44' : ((s[m].toNat : Int) != 44) = false := by rw [bne, h44]; rfl
                    have h41 : ((s[m].toNat : Int) == 41) = false := by
                      rw [byte_44, beq_iff_eq] at h44
                      rw [byte_41, h44]; rfl
                    rw [if_pos (by rw [byte_44, beq_iff_eq] at h44; rw [h44])] at hres
                    have HRES := Lib.hid hres
                    clear hres
                    go_wp2_with (at_builtin; refine wpList_app1 rfl (.tmp 73) (.tmp 75) _ rfl 0 24 2 40 elemTmI _ _ vals rfl (w1.alloc (.cells #[.string s0, .slice p0 k0 c0] 24)) #[.string s0, .slice p0 k0 c0] rfl _ (by simp) rfl HV.out rfl (by simp [Value.oneCell']) (by omega) (by unfold maxLen; omega) (Nat.zero_le _) ?_; intro v3 w3 hown3 hg3 hnr3 hlt3; obtain ⟨⟨q3, c3, rfl⟩, hbt3, hrb3⟩ := HL2.out.three hown3 hg3; obtain ⟨y0, y1, yf⟩ := cells2_cell hbt3; obtain ⟨t0, t1, tf⟩ := cells2_cell hrb3; simp only [World.size_alloc] at hlt3; have hz3 := bsz (show w.heap.size < w3.heap.size by omega); have hz4 := bsz (show wa.heap.size < w3.heap.size by omega); have HL3 := Lib.hid (HL.out.app hbW HA.out HV.out hown3 hg3 hnr3 (by omega)); clear hown3 hg3 hnr3 hbt3 hrb3)
                    refine ⟨⟨f'', m, _, us ++ [a], rfl, HL3.out, by omega, HRES.out, hml, by omega, by simp; omega⟩, by simp [intOf]; omega⟩
        · have HW := Lib.hid hw
          go_wp2_with (first | (go_at_call 136; refine (l3Word_any _ _).mono ?_; rintro e w' ⟨rfl, rfl⟩))
          refine ⟨⟨j + 1, by go_num, by omega, by omega, fun i h1 h2 h3 => ?_, HBR.out trivial⟩, by simp [intOf]; omega⟩
          by_cases e : i = j
          · subst e; exact HW.out
          · exact HALL.out i h1 (by omega) h3
      · have HSTOP := Lib.hid (show ∀ h : j < s.size, wordC s[j] = false from fun h => absurd h hlt)
        have hj3 : ¬ (j : Int) < s.size := by omega
        have HWD := Lib.hid (show rWordL s.data.toList k = (s.data.toList.drop k).take (j - k) from wordL_at (bad := false) HALL.out hj1 hj2 HSTOP.out)
        have HLL := Lib.hid (show (rWordL s.data.toList k).length = j - k by rw [HWD.out, List.length_take, List.length_drop, ← size_list]; omega)
        by_cases hjk : j = k
        · subst hjk
          have HFIN := Lib.hid (show rTerm s.data.toList (f + 1) j = none by rw [rTerm, HWD.out]; simp)
          go_wp2
          refine bodyPost_ret (v := .tuple #[.agg #[.string ByteArray.empty, .slice none 0 0], .int .i64 (-1)]) (by simp only [results, Tryz.results137]; go_simp) rfl ⟨_, rfl, ?_⟩
          rw [HFIN.out]
          have := LSt.none (f' := f + 1) (LSt.init (n := ByteArray.empty) (f := 0) (HBR.out trivial)) (.string ByteArray.empty) (.slice none 0 0)
          rw [World.setCell_alloc_past _ _ _ _ (show w.heap.size < wa.heap.size by omega), World.setCell_alloc_past _ _ _ _ (by simp; omega)] at this
          exact this
        · have hk1 : ((j : Int) == (k : Int)) = false := by simp; omega
          have hk2 : ((j : Int) == (s.size : Int)) = true := by simp; omega
          have HFIN := Lib.hid (show rTerm s.data.toList (f + 1) k = some (.mk (s.extract k j) [], j) by
            have h1 : (rWordL s.data.toList k).isEmpty = false := by
              rw [Bool.eq_false_iff]; intro e; rw [List.isEmpty_iff] at e; have := HLL.out; rw [e] at this; simp at this; omega
            have h2 : (⟨(rWordL s.data.toList k).toArray⟩ : ByteArray) = s.extract k j := by
              exact (str_eq (by rw [extract_list, HWD.out, List.drop_take])).symm
            have h3 : k + (rWordL s.data.toList k).length = j := by rw [HLL.out]; omega
            rw [rTerm, h1, h3, h2, List.getElem?_eq_none (by rw [← size_list]; omega), if_neg (by simp), if_neg (by simp)])
          go_wp2
          refine bodyPost_ret (v := .tuple #[.agg #[.string (s.extract k j), .slice none 0 0], .int .i64 (j : Nat)]) (by simp only [results, Tryz.results137]; go_simp) rfl ⟨_, rfl, ?_⟩
          rw [HFIN.out]
          have := LSt.done (f := f) (us := []) (LSt.init (HBR.out trivial)) (extract_le s k j hs) (.string (s.extract k j)) (.slice none 0 0) j
          rw [World.setCell_alloc_past _ _ _ _ (show w.heap.size < wa.heap.size by omega), World.setCell_alloc_past _ _ _ _ (by simp; omega)] at this
          exact this
end Go.Proofs.YtdklemmincejpaaGreat
namespace Go.Proofs.YtdklemmincejpaaGreat
open Go.RowKit
theorem cellB2 {n : Nat} {w w' : World} {a : Addr} {v : Value} (hb : Below n w w') (ha : a.block < n) (h : w.cell? a = some v) : w'.cell? a = some v := (World.cell?_of_block (hb.block _ ha)).trans h
/-- The answer of the parsing, its memory from block lo on. -/
def GotZ (T : TypeId) (f : Nat) (r : Option (Tm × Nat)) (lo : Nat) (w' : World) (z : Int) (s : ByteArray) (p : Option Addr) (k c : Nat) : Prop :=
  match r with
    | none => z = -1
    | some (t, j) => z = (j : Nat) ∧ TmOwn T f (fun b => lo ≤ b ∧ b < w'.heap.size) w' t [.string s, .slice p k c]
/-- Behind the parsing: block w.heap.size waits for the result, block bx holds the parsed term, the reader stands at k. -/
structure RT (T TP : TypeId) (F : Nat) (r : Option (Tm × Nat)) (g k : Nat) (s : ByteArray) (w : World) (bx : Nat) (z : Int) (s0 : ByteArray) (p0 : Option Addr) (k0 c0 : Nat) (W : World) : Prop where
  at_ : PAt TP W g s ⟨k, false⟩
  gr : w.grownBy W (some g)
  res : W.heap[w.heap.size]? = some (.cells #[.string ⟨#[]⟩, .slice none 0 0] T (0, 0))
  box : W.heap[bx]? = some (.cells #[.string s0, .slice p0 k0 c0] T (0, 0))
  got : GotZ T F r (w.heap.size + 1) W z s0 p0 k0 c0
  lt : g < w.heap.size ∧ w.heap.size < bx ∧ bx < W.heap.size
theorem GotZ.mono {T : TypeId} {f : Nat} {r : Option (Tm × Nat)} {lo lo' : Nat} {w w' : World} {z : Int} {s : ByteArray} {p : Option Addr} {k c : Nat} (h : GotZ T f r lo w z s p k c) (hl : lo' ≤ lo) (hz : w.heap.size ≤ w'.heap.size) (hs : ∀ b, lo ≤ b → b < w.heap.size → w'.heap[b]? = w.heap[b]?) : GotZ T f r lo' w' z s p k c := by
  unfold GotZ at h ⊢
  split at h
  · exact h
  · exact ⟨h.1, TmOwn.mono f f _ _ (Nat.le_refl _) (fun b hb _ => hs b hb.1 hb.2) (fun b hb => ⟨by omega, by omega⟩) h.2⟩
theorem RT.first {T TP : TypeId} {F : Nat} {r : Option (Tm × Nat)} {g k : Nat} {s : ByteArray} {w W w1 : World} {z : Int} {s0 : ByteArray} {p0 : Option Addr} {k0 c0 : Nat} (hg : g < w.heap.size) (hsW : W.heap.size = w.heap.size + 1) (hP : PAt TP W g s ⟨k, false⟩) (hG : w.grownBy W (some g)) (hR : W.heap[w.heap.size]? = some (.cells #[.string ⟨#[]⟩, .slice none 0 0] T (0, 0)))
    (hb : Below (W.alloc (.cells #[.string ⟨#[]⟩, .slice none 0 0] T)).drew.heap.size (W.alloc (.cells #[.string ⟨#[]⟩, .slice none 0 0] T)).drew w1) (hgot : GotZ T F r (W.alloc (.cells #[.string ⟨#[]⟩, .slice none 0 0] T)).drew.heap.size w1 z s0 p0 k0 c0) :
    RT T TP F r g k s w (w.heap.size + 1) z s0 p0 k0 c0 ((w1.setCell ⟨w.heap.size + 1, 0, none⟩ (.string s0)).setCell ⟨w.heap.size + 1, 1, none⟩ (.slice p0 k0 c0)) := by
  have hz := hb.size
  simp at hz
  have hk : ∀ b, b < w1.heap.size → b ≠ w.heap.size + 1 → ((w1.setCell ⟨w.heap.size + 1, 0, none⟩ (.string s0)).setCell ⟨w.heap.size + 1, 1, none⟩ (.slice p0 k0 c0)).heap[b]? = w1.heap[b]? := fun b hb hne => by
    repeat rw [heap_setCell_other _ _ _ _ (fun e => hne e)]
  have hw : ∀ b, b < W.heap.size → w1.heap[b]? = W.heap[b]? := fun b hlt => (hb.block b (by simp; omega)).trans (hao W _ _ hlt)
  have hbx : w1.heap[w.heap.size + 1]? = some (.cells #[.string ⟨#[]⟩, .slice none 0 0] T (0, 0)) := (hb.block _ (by simp; omega)).trans (by have := heap_alloc_new W (.cells #[.string ⟨#[]⟩, .slice none 0 0] T); rw [hsW] at this; exact this)
  refine ⟨(hk g (by omega) (by omega)).trans ((hw g (by omega)).trans hP), ?_, (hk _ (by omega) (by omega)).trans ((hw _ (by omega)).trans hR), ?_, ?_, hg, by omega, by simp; omega⟩
  · have h1 : W.grownBy w1 (some g) := ⟨hb.os, hb.tape, hb.output, by omega, fun b hlt _ => hw b hlt⟩
    exact gr_sc (gr_sc (gr_trans hG h1) (.inr (by simp)) _) (.inr (by simp)) _
  · have h1 := heap_setCell_same w1 (w.heap.size + 1) 0 _ T (.string s0) hbx
    have h2 := heap_setCell_same _ (w.heap.size + 1) 1 _ T (.slice p0 k0 c0) h1
    simpa using h2
  · exact hgot.mono (by simp; omega) (by simp) (fun b hb hlt => hk b hlt (by simp at hb; omega))
theorem RT.last {T TP : TypeId} {F : Nat} {r : Option (Tm × Nat)} {g k : Nat} {s : ByteArray} {w W w1 : World} {z : Int} {s0 : ByteArray} {p0 : Option Addr} {k0 c0 : Nat} (hg : g < w.heap.size) (hsW : W.heap.size = w.heap.size + 1) (hP : PAt TP W g s ⟨k, false⟩) (hG : w.grownBy W (some g)) (hR : W.heap[w.heap.size]? = some (.cells #[.string ⟨#[]⟩, .slice none 0 0] T (0, 0)))
    (hb : Below W.drew.heap.size W.drew w1) (hgot : GotZ T F r W.drew.heap.size w1 z s0 p0 k0 c0) :
    RT T TP F r g k s w w1.heap.size z s0 p0 k0 c0 (w1.alloc (.cells #[.string s0, .slice p0 k0 c0] T)) := by
  have hz : W.heap.size ≤ w1.heap.size := hb.size
  have hw : ∀ b, b < W.heap.size → (w1.alloc (.cells #[.string s0, .slice p0 k0 c0] T)).heap[b]? = W.heap[b]? := fun b hlt => (hao w1 _ _ (by omega)).trans (hb.block b hlt)
  refine ⟨(hw g (by omega)).trans hP, ?_, (hw _ (by omega)).trans hR, heap_alloc_new w1 _, ?_, hg, by omega, by simp⟩
  · have h1 : W.grownBy w1 (some g) := ⟨hb.os, hb.tape, hb.output, hz, fun b hlt _ => hb.block b hlt⟩
    exact gr_al (gr_trans hG h1) _
  · exact hgot.mono (by simp; omega) (by simp) (fun b _ hlt => hao w1 _ _ hlt)
theorem RT.no {T TP : TypeId} {F F' : Nat} {r : Option (Tm × Nat)} {g k : Nat} {s : ByteArray} {w W : World} {bx : Nat} {z : Int} {s0 : ByteArray} {p0 : Option Addr} {k0 c0 : Nat} (h : RT T TP F r g k s w bx z s0 p0 k0 c0 W) (a b : Value) :
    TermP T g w.heap.size s (F' + 1) tm0 ⟨k, true⟩ TP w (.agg #[.string ⟨#[]⟩, .slice none 0 0]) (((W.setCell ⟨g, 2, none⟩ (.bool true)).setCell ⟨w.heap.size, 0, none⟩ a).setCell ⟨w.heap.size, 1, none⟩ b) := by
  obtain ⟨l1, l2, l3⟩ := h.lt
  have hf := h.at_.fail
  refine ⟨_, _, rfl, ⟨_, rfl, Nat.zero_le _, OwnRow.nil _ _ _ _ _⟩, ?_, gr_sc (gr_sc (gr_sc h.gr (.inl rfl) _) (.inr (Nat.le_refl _)) _) (.inr (Nat.le_refl _)) _⟩
  exact ((heap_setCell_other _ ⟨w.heap.size, 1, none⟩ g b (by simp; omega)).trans (heap_setCell_other _ ⟨w.heap.size, 0, none⟩ g a (by simp; omega))).trans hf
theorem RT.yes {T TP : TypeId} {F j : Nat} {t : Tm} {g k : Nat} {s : ByteArray} {w W : World} {bx : Nat} {z : Int} {s0 : ByteArray} {p0 : Option Addr} {k0 c0 : Nat} (h : RT T TP F (some (t, j)) g k s w bx z s0 p0 k0 c0 W) (a b : Value) :
    TermP T g w.heap.size s F t ⟨j, false⟩ TP w (.agg #[.string s0, .slice p0 k0 c0]) (((W.setCell ⟨g, 1, none⟩ (.int .i64 (j : Nat))).setCell ⟨w.heap.size, 0, none⟩ a).setCell ⟨w.heap.size, 1, none⟩ b) := by
  obtain ⟨l1, l2, l3⟩ := h.lt
  have hf := h.at_.pos j
  have hO := h.got.2
  refine ⟨_, _, rfl, TmOwn.mono F F _ _ (Nat.le_refl _) (fun c hc _ => ?_) (fun c hc => ⟨by omega, by simpa using hc.2⟩) hO, ?_, gr_sc (gr_sc (gr_sc h.gr (.inl rfl) _) (.inr (Nat.le_refl _)) _) (.inr (Nat.le_refl _)) _⟩
  · rw [heap_setCell_other _ ⟨w.heap.size, 1, none⟩ c b (by simp; omega), heap_setCell_other _ ⟨w.heap.size, 0, none⟩ c a (by simp; omega), heap_setCell_other _ ⟨g, 1, none⟩ c _ (by simp; omega)]
  · exact ((heap_setCell_other _ ⟨w.heap.size, 1, none⟩ g b (by simp; omega)).trans (heap_setCell_other _ ⟨w.heap.size, 0, none⟩ g a (by simp; omega))).trans hf
set_option maxRecDepth 100000 in
set_option maxHeartbeats 3200000 in
theorem refTerm_any (g : Nat) (s : ByteArray) (p : PSt) (w : World) (h : PAt 52 w g s p) (hp : p.pos ≤ s.size) (hs : s.size ≤ 1000000) :
    Calls Tryz.prog 95 #[.pointer (some ⟨g, 0, none⟩)] w fun e w' => ∃ x, e = .returned x ∧ TermP 24 g w.heap.size s (s.size + 2) (qTerm s.data.toList p).1 (qTerm s.data.toList p).2 52 w x w' := by
  have H := Lib.hid h
  have hg := bsz h.lt
  obtain ⟨k, bad⟩ := p
  simp only at hp
  obtain ⟨c0, c1, c2, cf⟩ := h.cells
  simp only at c1 c2
  clear h
  cases bad
  · have HQ := Lib.hid (show qTerm s.data.toList ⟨k, false⟩ = qGot ⟨k, false⟩ (rTerm s.data.toList (s.size + 2) k) from rfl)
    go_enter Tryz.func95, Tryz.ntmps95
    go_wp2
    obtain ⟨W, hW⟩ : ∃ W : World, W = w.alloc (.cells #[.string ⟨#[]⟩, .slice none 0 0] 24) := ⟨_, rfl⟩
    have hsW : W.heap.size = w.heap.size + 1 := by rw [hW]; simp
    have hGW := Lib.hid (show w.grownBy W (some g) by rw [hW]; exact gr_al (gr_refl w g) _)
    have hHW := Lib.hid (show PAt 52 W g s ⟨k, false⟩ by rw [hW]; exact H.out.below (by (repeat (first | with_reducible exact Below.refl _ _ | with_reducible assumption | with_reducible refine Below.al ?_ _ | with_reducible refine Below.sc ?_ (by first | exact Nat.le_refl _ | (simp; done) | (simp; omega)) _ | assumption | exact Below.refl _ _ | refine Below.dr ?_ | refine Below.drN ?_ _ | refine Below.step ?_ (by assumption)))))
    have hRW := Lib.hid (show W.heap[w.heap.size]? = some (.cells #[.string ⟨#[]⟩, .slice none 0 0] 24 (0, 0)) by rw [hW]; exact heap_alloc_new w _)
    rw [← hW]
    clear hW c0 c1 c2 cf
    obtain ⟨d0, d1, d2, df⟩ := hHW.out.cells
    simp only at d1 d2
    obtain ⟨r0, r1, rf⟩ := cells2_cell hRW.out
    have hgW := bsz (show g < W.heap.size by omega)
    have hrW := bsz (show w.heap.size < W.heap.size by omega)
    have hn0 : W.heap.size ≠ g := by omega
    go_region_held3 (fun w' => w'.cell? ⟨g, 0, none⟩ = some (.string s) ∧ w'.cell? ⟨g, 1, none⟩ = some (.int .i64 (k : Nat))) (first | go_keep | (refine ⟨?_, ?_⟩ <;> exact cellB2 hb1 (by simp; omega) (by assumption)) | (refine ⟨?_, ?_⟩ <;> go_simp; done)) (first | (go_at_call 137; refine (l3Read_any (s.size + 2) s k _ hp hs (by omega)).mono ?_; rintro e0 w1 ⟨x, rfl, hb1, s0, p0, k0, c0', z0, rfl, hgot⟩; have hq1 := hb1.size; (try simp at hq1); have ⟨cb1, fb1⟩ := bcell hb1; have hg1 := bsz (show g < w1.heap.size by omega); have hr1 := bsz (show w.heap.size < w1.heap.size by omega); have hn1 : w1.heap.size ≠ g := by omega))
    all_goals
      first
      | (have HRT := Lib.hid (RT.first (by omega) hsW hHW.out hGW.out hRW.out hb1 hgot)
         generalize ((w1.setCell ⟨w.heap.size + 1, 0, none⟩ (.string s0)).setCell ⟨w.heap.size + 1, 1, none⟩ (.slice p0 k0 c0')) = wz at HRT ⊢)
      | (have HRT := Lib.hid (RT.last (by omega) hsW hHW.out hGW.out hRW.out hb1 hgot)
         generalize (w1.alloc (.cells #[.string s0, .slice p0 k0 c0'] 24)) = wz at HRT ⊢)
      clear hb1 cb1 fb1 hgot d0 d1 d2 df r0 r1 rf
      obtain ⟨d0, d1, d2, df⟩ := HRT.out.at_.cells
      simp only at d1 d2
      obtain ⟨r0, r1, rf⟩ := cells2_cell HRT.out.res
      obtain ⟨b0, b1, bf⟩ := cells2_cell HRT.out.box
      have hlz := HRT.out.lt
      have hz1 := bsz (show g < wz.heap.size by omega)
      have hz2 := bsz (show w.heap.size < wz.heap.size by omega)
      have hgz := HRT.out.got
      cases hr : rTerm s.data.toList (s.size + 2) k with
      | none =>
        rw [hr] at hgz HRT
        have hz0 : z0 = -1 := hgz
        subst hz0
        have HQ2 := Lib.hid (HQ.out.trans (congrArg _ hr))
        clear hgz hr
        go_wp2
        refine bodyPost_ret (v := .agg #[.string ⟨#[]⟩, .slice none 0 0]) (by simp only [results, Tryz.results95]; go_simp) rfl ⟨_, rfl, ?_⟩
        rw [HQ2.out]
        exact HRT.out.no _ _
      | some tj =>
        obtain ⟨t, j⟩ := tj
        rw [hr] at hgz HRT
        have hz0 : z0 = (j : Nat) := hgz.1
        subst hz0
        have HQ2 := Lib.hid (HQ.out.trans (congrArg _ hr))
        clear hgz hr
        go_wp2
        refine bodyPost_ret (v := .agg #[.string s0, .slice p0 k0 c0']) (by simp only [results, Tryz.results95]; go_simp) rfl ⟨_, rfl, ?_⟩
        rw [HQ2.out]
        exact HRT.out.yes _ _
  · have HQ := Lib.hid (show qTerm s.data.toList ⟨k, true⟩ = (tm0, ⟨k, true⟩) from rfl)
    go_enter Tryz.func95, Tryz.ntmps95
    have hP := H.out.below (show Below w.heap.size w (w.alloc (.cells #[.string ⟨#[]⟩, .slice none 0 0] 24)) by (repeat (first | with_reducible exact Below.refl _ _ | with_reducible assumption | with_reducible refine Below.al ?_ _ | with_reducible refine Below.sc ?_ (by first | exact Nat.le_refl _ | (simp; done) | (simp; omega)) _ | assumption | exact Below.refl _ _ | refine Below.dr ?_ | refine Below.drN ?_ _ | refine Below.step ?_ (by assumption))))
    have HPP := Lib.hid hP
    clear hP
    go_wp2
    refine bodyPost_ret (v := .agg #[.string ⟨#[]⟩, .slice none 0 0]) (by simp only [results, Tryz.results95]; go_simp) rfl ⟨_, rfl, ?_⟩
    rw [HQ.out]
    exact ⟨_, _, rfl, ⟨_, rfl, Nat.zero_le _, OwnRow.nil _ _ _ _ _⟩, HPP.out, gr_al (gr_refl w g) _⟩
end Go.Proofs.YtdklemmincejpaaGreat
namespace Go.Proofs.YtdklemmincejpaaGreat
open Go.RowKit
/-- What a call of the reader leaves: a formula in new memory, its value x. -/
def FmQ (m g : Nat) (s : ByteArray) (F : Fm) (p' : PSt) (w : World) (x : Value) (w' : World) : Prop := FmV m (NewB w w') w' F x ∧ PAt 52 w' g s p' ∧ w.grownBy w' (some g)
theorem FmQ.of {m g rb : Nat} {s : ByteArray} {F : Fm} {p' : PSt} {w w4 w5 : World} {S : Nat → Prop} {x : Value} (hP : PAt 52 w4 g s p') (hG : w.grownBy w4 (some g)) (hb : Below w4.heap.size w4 w5) (hV : FmV m S w5 F x) (hS : ∀ b, S b → rb < b ∧ b < w5.heap.size) (hrb : w.heap.size ≤ rb) (hg : g < rb) (a0 a1 a2 a3 a4 : Value) :
    FmQ m g s F p' w x (((((w5.setCell ⟨rb, 0, none⟩ a0).setCell ⟨rb, 1, none⟩ a1).setCell ⟨rb, 2, none⟩ a2).setCell ⟨rb, 3, none⟩ a3).setCell ⟨rb, 4, none⟩ a4) := by
  have hk : ∀ b, b ≠ rb → (((((w5.setCell ⟨rb, 0, none⟩ a0).setCell ⟨rb, 1, none⟩ a1).setCell ⟨rb, 2, none⟩ a2).setCell ⟨rb, 3, none⟩ a3).setCell ⟨rb, 4, none⟩ a4).heap[b]? = w5.heap[b]? := fun b hb => by
    repeat rw [heap_setCell_other _ _ _ _ (fun e => hb e)]
  obtain ⟨v0, v1, v2, v3, v4, rfl, hO⟩ := hV
  refine ⟨⟨_, _, _, _, _, rfl, FmOwn.mono _ _ _ _ (Nat.le_refl _) (fun b hb' _ => hk b (by have := hS b hb'; omega)) (fun b hb' => ?_) hO⟩, (hk g (by omega)).trans (hP.below hb), ?_⟩
  · have := hS b hb'
    exact ⟨by omega, by simpa using this.2⟩
  · exact gr_sc (gr_sc (gr_sc (gr_sc (gr_sc (gr_below hG hb) (.inr hrb) _) (.inr hrb) _) (.inr hrb) _) (.inr hrb) _) (.inr hrb) _
theorem FmQ.mono {m n g : Nat} {s : ByteArray} {F : Fm} {p' : PSt} {w w' : World} {x : Value} (hm : m ≤ n) (h : FmQ m g s F p' w x w') : FmQ n g s F p' w x w' := by
  obtain ⟨⟨v0, v1, v2, v3, v4, hx, hO⟩, h2⟩ := h
  exact ⟨⟨v0, v1, v2, v3, v4, hx, FmOwn.mono _ _ _ _ hm (SameOn.refl _ _) (fun _ h => h) hO⟩, h2⟩
/-- An equation's formula, before it is handed over. -/
def QQ (m g rb : Nat) (s : ByteArray) (F : Fm) (pq : PSt) (ro : Obj) (w0 : World) (y : Value) (w : World) : Prop :=
  PAt 52 w g s pq ∧ w0.grownBy w (some g) ∧ FmV m (fun b => rb < b ∧ b < w.heap.size) w F y ∧ w.heap[rb]? = some ro
/-- The equation's term, owned, in the world in which its arguments' slice has been made. -/
theorem eq_ownQ {f g rb bt : Nat} {s : ByteArray} {p pq : PSt} {ro : Obj} {w0 W w1 : World} {n : List UInt8} {v v0 v1 : Value} {xs : List Tm} {tq : Tm} (h : TSt 24 52 ro w0 g rb bt s n p v xs f W) (hn : n.length ≤ 1000000) (hT : TermP 24 g W.heap.size s f tq pq 52 W.drew (.agg #[v0, v1]) w1) :
    TmOwn 24 (f + 2) (fun b => rb < b ∧ b < w1.heap.size + 1) (w1.alloc (.cells #[.string ⟨n.toArray⟩, v, v0, v1] 24)) (eqTm (.mk ⟨n.toArray⟩ xs) tq) [.string ⟨#[61]⟩, .slice (some ⟨w1.heap.size, 0, none⟩) 2 2] := by
  obtain ⟨v0', v1', he, hO, hP, hG⟩ := hT
  simp only [Value.agg.injEq, Array.mk.injEq, List.cons.injEq, and_true] at he
  obtain ⟨rfl, rfl⟩ := he
  obtain ⟨l1, l2, l3, l4⟩ := h.lt
  have hz : W.heap.size ≤ w1.heap.size := hG.size
  have hG1 : W.grownBy w1 (some g) := ⟨hG.os, hG.tape, hG.output, hG.size, hG.block⟩
  have h1 := TmOwn.mono (f + 1) (f + 1) _ _ (Nat.le_refl _) (w' := w1) (fun b hb hlt => hG1.block b hlt (by simp; omega)) (fun _ h => h) (h.term hn)
  refine ⟨_, rfl, by decide, ?_⟩
  exact OwnRow.two' rfl [.string ⟨n.toArray⟩, v] [v0, v1] _ rfl rfl rfl (TmOwn.below ((Below.refl _ _).alloc (Nat.le_refl _) _) h1) (TmOwn.mono f (f + 1) _ _ (by omega) (SameOn.below ((Below.refl _ _).alloc (Nat.le_refl _) _)) (fun _ h => h) hO)
    (fun b hb => by omega) (fun b hb => hb.2) (fun b hb hb' => by omega) (fun b hb => by omega) (fun b hb => by omega) (by omega)
theorem atomF_own {eT eF : TypeId} {m : Nat} {S : Nat → Prop} {w : World} {t : Tm} {v0 v1 : Value} (h : TmOwn eT m S w t [v0, v1]) : FmOwn eT eF (m + 1) S w (atomOfF t) [.int .i64 3, v0, v1, .string ⟨#[]⟩, .slice none 0 0] :=
  ⟨_, _, _, S, fun _ => False, rfl, by omega, Nat.zero_le _, h, OwnRow.nil _ _ _ _ _, fun _ hb => ⟨hb, fun h => h⟩, fun _ h => h.elim⟩
end Go.Proofs.YtdklemmincejpaaGreat
namespace Go.Proofs.YtdklemmincejpaaGreat
open Go.RowKit
/-- Between two arguments: what is still to come, added to what is there, makes the whole. -/
def QArgRel (ro : Obj) (w : World) (g rb bt : Nat) (s : ByteArray) (n : List UInt8) (all : List Tm) (pe : PSt) (wr : World) : Prop :=
  ∃ (f' : Nat) (p' : PSt) (v : Value) (xs : List Tm), TSt 24 52 ro w g rb bt s n p' v xs (s.size + 2) wr ∧ xs ++ (qArgs s.data.toList f' p').1 = all ∧ (qArgs s.data.toList f' p').2 = pe ∧ s.size - p'.pos < f' ∧ p'.pos ≤ s.size ∧ xs.length ≤ p'.pos
theorem qName_le (L : List UInt8) (p : PSt) (hp : p.pos ≤ L.length) : (qTerm L p).1.n.data.toList.length ≤ L.length ∧ (qTerm L p).1.us.length ≤ (qTerm L p).2.pos := by
  have h := qTerm_wt L p hp
  have e : (qTerm L p).1.wt = (qTerm L p).1.n.size + (qTerm L p).1.us.length + Tm.wts (qTerm L p).1.us := by cases (qTerm L p).1; rfl
  rw [size_list] at e
  omega
theorem FmQ.atom {f g rb bt : Nat} {s : ByteArray} {ro : Obj} {w W : World} {n : List UInt8} {p : PSt} {v : Value} {xs : List Tm} (h : TSt 24 52 ro w g rb bt s n p v xs f W) (hn : n.length ≤ 1000000) (a0 a1 a2 a3 a4 : Value) :
    FmQ (f + 3) g s (atomOfF (.mk ⟨n.toArray⟩ xs)) p w (.agg #[.int .i64 3, .string ⟨n.toArray⟩, v, .string ⟨#[]⟩, .slice none 0 0]) (((((W.setCell ⟨rb, 0, none⟩ a0).setCell ⟨rb, 1, none⟩ a1).setCell ⟨rb, 2, none⟩ a2).setCell ⟨rb, 3, none⟩ a3).setCell ⟨rb, 4, none⟩ a4) :=
  FmQ.of (S := fun b => rb < b ∧ b ≠ bt ∧ b < W.heap.size) h.at_ h.gr (Below.refl _ _) ⟨_, _, _, _, _, rfl, FmOwn.mono _ _ _ _ (by omega) (SameOn.refl _ _) (fun _ h => h) (atomF_own (h.term hn))⟩ (fun b hb => ⟨hb.1, hb.2.2⟩) h.lt.2.1 (by have := h.lt; omega) _ _ _ _ _
set_option maxRecDepth 100000 in
set_option maxHeartbeats 3200000 in
theorem refAtom_hold (g : Nat) (s : ByteArray) (p : PSt) (w : World) (h : PAt 52 w g s p) (hp : p.pos ≤ s.size) (hs : s.size ≤ 1000000) (h1 : pTake s.data.toList sEquals (qTerm s.data.toList p).2 = false) :
    Calls Tryz.prog 57 #[.pointer (some ⟨g, 0, none⟩)] w fun e w' => ∃ x, e = .returned x ∧ FmQ (s.size + 5) g s (qAtom s.data.toList p).1 (qAtom s.data.toList p).2 w x w' := by
  have H := Lib.hid h
  have hg := bsz h.lt
  have hpos := qTerm_wt s.data.toList p (by rw [← size_list]; exact hp)
  have hnm := qName_le s.data.toList p (by rw [← size_list]; exact hp)
  have HA := Lib.hid h1
  have HPA := Lib.hid (show qAtom s.data.toList p = if pTake s.data.toList sOf (qHold s.data.toList (qTerm s.data.toList p)) then
    (atomOfF (.mk (qTerm s.data.toList p).1.n ((qTerm s.data.toList p).1.us ++ (qTerm s.data.toList (pAdv sOf (qHold s.data.toList (qTerm s.data.toList p)))).1 :: (qArgs s.data.toList (s.size + 2) (qTerm s.data.toList (pAdv sOf (qHold s.data.toList (qTerm s.data.toList p)))).2).1)), (qArgs s.data.toList (s.size + 2) (qTerm s.data.toList (pAdv sOf (qHold s.data.toList (qTerm s.data.toList p)))).2).2)
  else (atomOfF (qTerm s.data.toList p).1, qHold s.data.toList (qTerm s.data.toList p)) by rw [qAtom, h1]; rfl)
  rw [← size_list] at hpos
  rw [← size_list, ← size_list] at hnm
  clear h h1
  go_enter Tryz.func57, Tryz.ntmps57
  go_wp2_with fail
  refine (refTerm_any g s p _ (H.out.below (by (repeat (first | with_reducible exact Below.refl _ _ | with_reducible assumption | with_reducible refine Below.al ?_ _ | with_reducible refine Below.sc ?_ (by first | exact Nat.le_refl _ | (simp; done) | (simp; omega)) _ | assumption | exact Below.refl _ _ | refine Below.dr ?_ | refine Below.drN ?_ _ | refine Below.step ?_ (by assumption))))) hp hs).mono ?_
  rintro e w1 ⟨x, rfl, v0, v1, rfl, hO, hP1, hg1⟩
  obtain ⟨pp, cc, rfl, rfl, -⟩ := hO.form
  generalize qTerm s.data.toList p = r at *
  obtain ⟨⟨tn, tus⟩, p1⟩ := r
  simp only [Tm.n, Tm.us] at hpos hO HA hP1 HPA hnm
  have HO := Lib.hid (show TmOwn 24 (s.size + 2) (fun b => w.heap.size + 1 ≤ b ∧ b < w1.heap.size) w1 (.mk tn tus) _ by simpa using hO)
  have HG1 := Lib.hid hg1
  have ⟨c1, f1⟩ := gcell hg1
  have hz1 := hg1.size
  (try simp at hz1)
  have HP1 := Lib.hid hP1
  clear hO hP1 hg1
  go_wp2_with fail
  refine (refTake_any g s _ p1 _ (HP1.out.below (by (repeat (first | with_reducible exact Below.refl _ _ | with_reducible assumption | with_reducible refine Below.al ?_ _ | with_reducible refine Below.sc ?_ (by first | exact Nat.le_refl _ | (simp; done) | (simp; omega)) _ | assumption | exact Below.refl _ _ | refine Below.dr ?_ | refine Below.drN ?_ _ | refine Below.step ?_ (by assumption))))) hpos.2 (by omega) (by decide)).mono ?_
  rw [show (⟨#[32, 101, 113, 117, 97, 108, 115, 32]⟩ : ByteArray).data.toList = sEquals from rfl, HA.out]
  rintro e w2 ⟨_, rfl, rfl, h2, hg2⟩
  have HTS := Lib.hid (TSt.initT (s := s) (t := .mk tn tus) (by omega) HO.out HG1.out hg2 h2)
  simp only [Tm.n, Tm.us] at HTS
  clear h2 hg2 c1 f1
  go_wp2_with fail
  refine (refWant_any g s _ p1 _ (PAt.below HTS.out.at_ (by (repeat (first | with_reducible exact Below.refl _ _ | with_reducible assumption | with_reducible refine Below.al ?_ _ | with_reducible refine Below.sc ?_ (by first | exact Nat.le_refl _ | (simp; done) | (simp; omega)) _ | assumption | exact Below.refl _ _ | refine Below.dr ?_ | refine Below.drN ?_ _ | refine Below.step ?_ (by assumption))))) hpos.2 (by omega) (by decide)).mono ?_
  rw [show (⟨#[32, 104, 111, 108, 100, 115]⟩ : ByteArray).data.toList = sHolds from rfl]
  rintro e w3 ⟨_, rfl, rfl, h3, hg3⟩
  have HT3 := Lib.hid (HTS.out.reader (p' := pMust s.data.toList sHolds p1) h3 hg3)
  clear h3 hg3
  have hpm := pMust_pos s.data.toList sHolds p1 (by rw [← size_list]; exact hpos.2)
  rw [← size_list] at hpm
  cases tus with
  | cons a us =>
    obtain ⟨b0, b1, bf⟩ := cells2_cell HT3.out.cell
    simp only [List.length_cons] at b1
    obtain ⟨d0, d1, d2, df⟩ := HT3.out.at_.cells
    have hlt3 := HT3.out.lt
    have hz2 := bsz (show g < w3.heap.size by omega)
    have hz3 := bsz (show w1.heap.size < w3.heap.size by omega)
    have hu0 : (0 : Int) < (us.length : Int) + 1 := by omega
    have HFIN := Lib.hid (show qAtom s.data.toList p = (atomOfF (.mk tn (a :: us)), ⟨(pMust s.data.toList sHolds p1).pos, true⟩) by
      rw [HPA.out, show qHold s.data.toList (.mk tn (a :: us), p1) = ⟨(pMust s.data.toList sHolds p1).pos, true⟩ from rfl, if_neg (by simp [pTake])])
    go_wp2_with fail
    have HT4 := Lib.hid (HT3.out.reader (p' := ⟨(pMust s.data.toList sHolds p1).pos, true⟩) HT3.out.at_.fail (gr_sc (gr_refl w3 g) (.inl rfl) _))
    clear b0 b1 bf d0 d1 d2 df
    refine (refTake_any g s _ ⟨(pMust s.data.toList sHolds p1).pos, true⟩ _ (PAt.below HT4.out.at_ (by (repeat (first | with_reducible exact Below.refl _ _ | with_reducible assumption | with_reducible refine Below.al ?_ _ | with_reducible refine Below.sc ?_ (by first | exact Nat.le_refl _ | (simp; done) | (simp; omega)) _ | assumption | exact Below.refl _ _ | refine Below.dr ?_ | refine Below.drN ?_ _ | refine Below.step ?_ (by assumption))))) hpm.2 (by omega) (by decide)).mono ?_
    rw [show pTake s.data.toList (⟨#[32, 111, 102, 32]⟩ : ByteArray).data.toList ⟨(pMust s.data.toList sHolds p1).pos, true⟩ = false from rfl, if_neg Bool.false_ne_true]
    rintro e w4 ⟨_, rfl, rfl, h4, hg4⟩
    have HT5 := Lib.hid (HT4.out.reader h4 hg4)
    clear h4 hg4
    obtain ⟨pv, cv, hvv, -⟩ := HT5.out.row.form
    (try subst hvv)
    obtain ⟨b0, b1, -⟩ := cells2_cell HT5.out.cell
    obtain ⟨r0, r1, r2, r3, r4, rf⟩ := cells5_cell HT5.out.res
    have hrb := bsz (heap_lt HT5.out.res)
    have hltt := HT5.out.lt
    (try simp only [List.length_cons, List.length_nil] at b1)
    go_wp2
    refine bodyPost_ret (v := .agg #[.int .i64 3, .string ⟨tn.data⟩, .slice pp (us.length + 1) cc, .string ⟨#[]⟩, .slice none 0 0]) (by simp only [results, Tryz.results57]; go_simp) rfl ⟨_, rfl, ?_⟩
    rw [HFIN.out]
    exact FmQ.mono (by omega) (FmQ.atom HT5.out (by rw [← size_list]; omega) _ _ _ _ _)
  | nil =>
    obtain ⟨b0, b1, bf⟩ := cells2_cell HT3.out.cell
    simp only [List.length_nil] at b1
    have hlt3 := HT3.out.lt
    have hz3 := bsz (show w1.heap.size < w3.heap.size by omega)
    have HPB := Lib.hid HPA.out
    rw [show qHold s.data.toList (.mk tn [], p1) = pMust s.data.toList sHolds p1 from rfl] at HPB
    generalize pMust s.data.toList sHolds p1 = pm at *
    cases hT : pTake s.data.toList sOf pm
    · have HT := Lib.hid hT
      have HFIN := Lib.hid (show qAtom s.data.toList p = (atomOfF (.mk tn []), pm) by rw [HPB.out, hT]; rfl)
      go_wp2_with fail
      clear b0 b1 bf
      refine (refTake_any g s _ pm _ (PAt.below HT3.out.at_ (by (repeat (first | with_reducible exact Below.refl _ _ | with_reducible assumption | with_reducible refine Below.al ?_ _ | with_reducible refine Below.sc ?_ (by first | exact Nat.le_refl _ | (simp; done) | (simp; omega)) _ | assumption | exact Below.refl _ _ | refine Below.dr ?_ | refine Below.drN ?_ _ | refine Below.step ?_ (by assumption))))) hpm.2 (by omega) (by decide)).mono ?_
      rw [show (⟨#[32, 111, 102, 32]⟩ : ByteArray).data.toList = sOf from rfl, HT.out]
      rintro e w4 ⟨_, rfl, rfl, h4, hg4⟩
      have HT5 := Lib.hid (HT3.out.reader (p' := pm) h4 hg4)
      clear h4 hg4
      obtain ⟨pv, cv, hvv, -⟩ := HT5.out.row.form
      (try subst hvv)
      obtain ⟨b0, b1, -⟩ := cells2_cell HT5.out.cell
      obtain ⟨r0, r1, r2, r3, r4, rf⟩ := cells5_cell HT5.out.res
      have hrb := bsz (heap_lt HT5.out.res)
      have hltt := HT5.out.lt
      (try simp only [List.length_cons, List.length_nil] at b1)
      go_wp2
      refine bodyPost_ret (v := .agg #[.int .i64 3, .string ⟨tn.data⟩, .slice pp 0 cc, .string ⟨#[]⟩, .slice none 0 0]) (by simp only [results, Tryz.results57]; go_simp) rfl ⟨_, rfl, ?_⟩
      rw [HFIN.out]
      exact FmQ.mono (by omega) (FmQ.atom HT5.out (by rw [← size_list]; omega) _ _ _ _ _)
    · have HT := Lib.hid hT
      have hle := pTake_le hT (by rw [← size_list]; exact hpm.2)
      rw [← size_list] at hle
      have hl4 : sOf.length = 4 := rfl
      go_wp2_with fail
      clear b0 b1 bf
      refine (refTake_any g s _ pm _ (PAt.below HT3.out.at_ (by (repeat (first | with_reducible exact Below.refl _ _ | with_reducible assumption | with_reducible refine Below.al ?_ _ | with_reducible refine Below.sc ?_ (by first | exact Nat.le_refl _ | (simp; done) | (simp; omega)) _ | assumption | exact Below.refl _ _ | refine Below.dr ?_ | refine Below.drN ?_ _ | refine Below.step ?_ (by assumption))))) hpm.2 (by omega) (by decide)).mono ?_
      rw [show (⟨#[32, 111, 102, 32]⟩ : ByteArray).data.toList = sOf from rfl, HT.out]
      rintro e w4 ⟨_, rfl, rfl, h4, hg4⟩
      have HTS0 := Lib.hid (HT3.out.reader (p' := pAdv sOf pm) h4 hg4)
      clear h4 hg4 HTS
      have HTS := Lib.hid HTS0.out
      simp only [List.length_nil] at HTS
      clear HTS0
      have HBT := Lib.hid (show w4.cell? ⟨w1.heap.size, 1, none⟩ = some (.slice pp 0 cc) from (cells2_cell HTS.out.cell).2.1)
      have HNE := Lib.hid (show w1.heap.size ≠ g by omega)
      go_wp2
      obtain ⟨tq, htq⟩ : ∃ tq, (qTerm s.data.toList (pAdv sOf pm)).1 = tq := ⟨_, rfl⟩
      obtain ⟨pq, hpq⟩ : ∃ pq, (qTerm s.data.toList (pAdv sOf pm)).2 = pq := ⟨_, rfl⟩
      have HTQ := Lib.hid htq
      have HPQ := Lib.hid hpq
      have HRD := Lib.hid (show (pAdv sOf pm).pos ≤ s.size by simp only [pAdv]; omega)
      have HLEN := Lib.hid (show ([] : List Tm).length + 1 ≤ 1000000 by decide)
      have HFIN := Lib.hid (show qAtom s.data.toList p = (atomOfF (.mk tn (tq :: (qArgs s.data.toList (s.size + 2) pq).1)), (qArgs s.data.toList (s.size + 2) pq).2) by rw [HPB.out, HT.out, if_pos rfl, htq, hpq]; rfl)
      have hpp := qTerm_wt s.data.toList (pAdv sOf pm) (by rw [← size_list]; exact HRD.out)
      rw [hpq, ← size_list] at hpp
      have HPP := Lib.hid (show 4 ≤ pq.pos ∧ pq.pos ≤ s.size by simp only [pAdv] at hpp; omega)
      clear htq hpq hpp
      obtain ⟨CP, hCP0⟩ : ∃ CP : Value → World → Prop, CP = TermP 24 g w4.heap.size s (s.size + 2) tq pq 52 w4.drew := ⟨_, rfl⟩
      have HCP := Lib.hid hCP0
      have HGR := Lib.hid (show ∀ x w', CP x w' → w4.grownBy w' (some g) from by
        rw [hCP0]; rintro x w' ⟨_, _, _, _, _, hG⟩; exact ⟨hG.os, hG.tape, hG.output, hG.size, hG.block⟩)
      have HAGG := Lib.hid (show ∀ x w', CP x w' → ∃ v0 v1, x = .agg #[v0, v1] ∧ v0.oneCell' = true ∧ v1.oneCell' = true from by
        rw [hCP0]; rintro x w' ⟨v0, v1, hx, hO, _, _⟩
        obtain ⟨pp, cc, rfl, rfl, -⟩ := hO.form
        exact ⟨_, _, hx, rfl, rfl⟩)
      clear hCP0
      refine wp_region_stages [some (.pointer (some ⟨w1.heap.size, 1, none⟩)), some (.slice pp 0 cc), some (.pointer (some ⟨g, 0, none⟩)), none, none, none, some (.pointer (some ⟨w1.heap.size, 1, none⟩)), none] [3, 4, 5, 7] (AppSt 24 g w1.heap.size CP (.slice pp 0 cc) 0 w4 3 4 5) (by kernel_rfl) (by kernel_rfl) (by first | kernel_rfl | rfl) (by rfl) rfl ?_
      refine chain_st rfl rfl (by decide) rfl (by intro j u w' hS; go_simp; first | done | exact ⟨hS, rfl⟩ | exact hS | rfl) ?_
      go_simp
      refine chain_stb (c := 5) 2 rfl rfl (by decide) rfl rfl rfl (by first | kernel_rfl | rfl) ?_ ?_
      · intro j u w' hj hS
        have hc := AppSt.cell HGR.out HBT.out HNE.out hj hS
        go_simp
        first | done | exact ⟨hS, rfl⟩ | exact hS | rfl
      go_simp
      refine chain_st rfl rfl (by decide) rfl (by intro j u w' hS; go_simp; first | done | exact ⟨hS, rfl⟩ | exact hS | rfl) ?_
      go_simp
      refine chain_first rfl rfl rfl (by decide) rfl ?_ ?_
      · intro w' hS
        obtain rfl : w' = w4.drew := hS
        go_simp
        refine (refTerm_any g s _ _ (PAt.below HTS.out.at_ (by (repeat (first | with_reducible exact Below.refl _ _ | with_reducible assumption | with_reducible refine Below.al ?_ _ | with_reducible refine Below.sc ?_ (by first | exact Nat.le_refl _ | (simp; done) | (simp; omega)) _ | assumption | exact Below.refl _ _ | refine Below.dr ?_ | refine Below.drN ?_ _ | refine Below.step ?_ (by assumption))))) HRD.out hs).mono ?_
        rintro e w'' ⟨x, he, hx⟩
        rw [HTQ.out, HPQ.out] at hx
        exact ⟨x, he, by show CP (upd _ 3 x 3) w''; rw [upd_same, HCP.out]; exact hx⟩
      intro x
      go_simp
      refine chain_next 0 rfl rfl rfl rfl (by decide) rfl (by first | kernel_rfl | rfl) ?_ ?_
      · intro w' hS
        have hS : CP (upd _ 3 x 3) w' := hS
        rw [upd_same] at hS
        obtain ⟨v0, v1, rfl, o0, o1⟩ := HAGG.out _ _ hS
        go_simp
        exact ⟨w', v0, v1, hS, by rw [upd_same], rfl⟩
      intro y
      go_simp
      refine chain_next 1 rfl rfl rfl rfl (by decide) rfl (by first | kernel_rfl | rfl) ?_ ?_
      · intro w' hS
        obtain ⟨w1', v0, v1, hcp, hy, rfl⟩ := hS
        rw [upd_same] at hy
        subst hy
        obtain ⟨v0', v1', he, o0, o1⟩ := HAGG.out _ _ hcp
        simp only [Value.agg.injEq, Array.mk.injEq, List.cons.injEq, and_true] at he
        obtain ⟨rfl, rfl⟩ := he
        have hG1 := HGR.out _ _ hcp
        obtain ⟨hm, vals, Ss, r1, r2, r3, r4⟩ := HTS.out.row
        have hlt := HTS.out.lt
        have hlen := HLEN.out
        refine each_app1 (.tmp 26) (.tmp 29) _ rfl 0 24 2 40 elemTmI (.slice pp 0 cc) _ vals rfl w1' #[v0, v1] rfl rfl (own_same r1 fun b hb hl => hG1.block b hl (by have := r2 b hb; simp; omega)) rfl (by intro u hu; simp at hu; rcases hu with rfl | rfl <;> assumption) (by omega) (by unfold maxLen; omega) (Nat.zero_le _) ?_
        intro v' w3 happ hg3 hnr hsz
        exact ⟨w1', v0, v1, hcp, by rw [upd_same]; exact happ, hg3, by rw [upd_same]; exact hnr, hsz⟩
      intro z
      go_simp
      refine chain_st rfl rfl (by decide) rfl (by intro j u w' hS; go_simp; first | done | exact ⟨hS, rfl⟩ | exact hS | rfl) ?_
      go_simp
      refine chain_next 2 rfl rfl rfl rfl (by decide) rfl (by first | kernel_rfl | rfl) ?_ ?_
      · intro w' hS
        obtain ⟨w1', v0, v1, hcp, happ, hg3, hnr, hsz⟩ := hS
        rw [upd_same] at happ hnr
        obtain ⟨⟨q', c', rfl⟩, hbt⟩ := HTS.out.three HGR.out hcp happ hg3
        have hcell : w'.cell? ⟨w1.heap.size, 1, none⟩ = some (.slice pp 0 cc) := by rw [cell_of_row w' _ 1 _ _ (0, 0) hbt]; rfl
        have hfro : w'.frozen? ⟨w1.heap.size, 1, none⟩ = false := frozen_of_row w' _ 1 _ _ hbt
        clear hbt
        go_simp
        refine ⟨w1', w', v0, v1, hcp, ?_, hg3, ?_, hsz, ?_⟩
        · rw [upd_other _ _ (by decide), upd_same]; exact happ
        · rw [upd_other _ _ (by decide), upd_same]; exact hnr
        · rw [upd_other _ _ (by decide), upd_same]
      intro x'
      refine flowU_nil ?_
      intro wz hz
      have HZ := Lib.hid (HTS.out.app (by have := hz; rw [HCP.out] at this; exact this) HLEN.out)
      rw [upd_other _ _ (by decide), upd_same] at HZ
      clear hz
      go_simp
      go_wp2
      go_loopw [] (QArgRel (.cells #[.int .i64 0, .string ⟨#[]⟩, .slice none 0 0, .string ⟨#[]⟩, .slice none 0 0] 27 (0, 0)) w g w.heap.size w1.heap.size s tn.data.toList (tq :: (qArgs s.data.toList (s.size + 2) pq).1) (qArgs s.data.toList (s.size + 2) pq).2) (fun wr => s.size - posOf wr g)
      case atStart => exact ⟨s.size + 2, pq, z, [tq], by simpa using HZ.out, rfl, rfl, by omega, HPP.out.2, by have := HPP.out; simp; omega⟩
      case round =>
        obtain ⟨f', p', v, xs, hts, hal, hpe, hfu, hpl, hxl⟩ := hrel
        have HTS2 := Lib.hid hts
        have HAL := Lib.hid (And.intro hal hpe)
        have HPO := hts.at_.posOf
        clear hts hal hpe HTS HBT HNE HTQ HPQ HRD HLEN HZ
        obtain ⟨f'', rfl⟩ : ∃ q, f' = q + 1 := ⟨f' - 1, by omega⟩
        have hg' := bsz HTS2.out.at_.lt
        obtain ⟨k', bad'⟩ := p'
        obtain ⟨d0, d1, d2, df⟩ := HTS2.out.at_.cells
        simp only at d1 d2 hfu hpl hxl HPO
        cases bad'
        · cases hT2 : pTake s.data.toList sComma ⟨k', false⟩
          · have HEND := Lib.hid (show qArgs s.data.toList (f'' + 1) ⟨k', false⟩ = ([], ⟨k', false⟩) by rw [qArgs, hT2]; rfl)
            have HT2 := Lib.hid (show (⟨#[44, 32]⟩ : ByteArray).data.toList.isPrefixOf (s.data.toList.drop k') = false from hT2)
            clear hT2
            go_wp2
            obtain ⟨C, HC0⟩ := class_of (InF wr.heap.size _ [(⟨g, 0, none⟩, .string s), (⟨g, 1, none⟩, .int .i64 (k' : Nat)), (⟨g, 2, none⟩, .bool false)] [] [])
            have HC := Lib.hid HC0
            clear HC0
            refine wp_region_flow (C := C) (by kernel_rfl) (by kernel_rfl) (fun L hL => (HC.out _ _).2 (InF.start (by first | (intro _ hs; cases hs; done) | (simp only [List.forall_mem_cons]; go_simp)) (by first | (intro _ hs; cases hs; done) | (simp only [List.forall_mem_cons]; go_simp)) (by first | (intro _ hs; cases hs; done) | (simp only [List.forall_mem_cons]; go_simp)) (by first | (intro _ hs; cases hs; done) | (simp only [List.forall_mem_cons]; go_simp)) L hL)) ?_
            repeat (first | (apply flow_free rfl; (intro L w' hun hrd hC; have hC := (HC.out _ _).1 hC; have hb' := hC.below; (try have hw' : Below w.heap.size w w' := by first | exact Below.trans (by (repeat (first | with_reducible exact Below.refl _ _ | with_reducible assumption | with_reducible refine Below.al ?_ _ | with_reducible refine Below.sc ?_ (by first | exact Nat.le_refl _ | (simp; done) | (simp; omega)) _ | assumption | exact Below.refl _ _ | refine Below.dr ?_ | refine Below.drN ?_ _ | refine Below.step ?_ (by assumption)))) hb' | ((repeat (first | with_reducible exact Below.refl _ _ | with_reducible assumption | with_reducible refine Below.al ?_ _ | with_reducible refine Below.sc ?_ (by first | exact Nat.le_refl _ | (simp; done) | (simp; omega)) _ | assumption | exact Below.refl _ _ | refine Below.dr ?_ | refine Below.drN ?_ _ | refine Below.step ?_ (by assumption))); done)); have hf' := hC.cell; (try simp only [List.forall_mem_cons] at hf'); go_simp; first | exact ⟨(HC.out _ _).2 (hC.skip _ (by rfl)), rfl⟩ | (rw [if_neg]; (exact ⟨(HC.out _ _).2 (hC.skip _ (by rfl)), rfl⟩); omega) | (go_at_call 92; refine ((same_below (l8Starts_any s _ k' _ hpl (by omega) (by decide)))).mono ?_; rintro e w1 ⟨rfl, hb1⟩; exact ⟨rfl, (HC.out _ _).2 ((hC.next (by first | (simp; done) | (simp; omega) | omega) hb1).skip _ (by rfl))⟩)); go_simp) | (apply flow_yes; (case hw => go_simp); (intro L w' hun hrd hC; have hC := (HC.out _ _).1 hC; have hb' := hC.below; (try have hw' : Below w.heap.size w w' := by first | exact Below.trans (by (repeat (first | with_reducible exact Below.refl _ _ | with_reducible assumption | with_reducible refine Below.al ?_ _ | with_reducible refine Below.sc ?_ (by first | exact Nat.le_refl _ | (simp; done) | (simp; omega)) _ | assumption | exact Below.refl _ _ | refine Below.dr ?_ | refine Below.drN ?_ _ | refine Below.step ?_ (by assumption)))) hb' | ((repeat (first | with_reducible exact Below.refl _ _ | with_reducible assumption | with_reducible refine Below.al ?_ _ | with_reducible refine Below.sc ?_ (by first | exact Nat.le_refl _ | (simp; done) | (simp; omega)) _ | assumption | exact Below.refl _ _ | refine Below.dr ?_ | refine Below.drN ?_ _ | refine Below.step ?_ (by assumption))); done)); have hf' := hC.cell; (try simp only [List.forall_mem_cons] at hf'); go_simp; first | exact ⟨(HC.out _ _).2 (hC.skip _ (by rfl)), rfl⟩ | (rw [if_neg]; (exact ⟨(HC.out _ _).2 (hC.skip _ (by rfl)), rfl⟩); omega) | (go_at_call 92; refine ((same_below (l8Starts_any s _ k' _ hpl (by omega) (by decide)))).mono ?_; rintro e w1 ⟨rfl, hb1⟩; exact ⟨rfl, (HC.out _ _).2 ((hC.next (by first | (simp; done) | (simp; omega) | omega) hb1).skip _ (by rfl))⟩)); go_simp) | (apply flow_no; (case hw => (go_simp; try (intro hh; cases hh))); (intro L w' _ _ hC; exact (HC.out _ _).2 (((HC.out _ _).1 hC).skip _ (by rfl))); go_simp))
            refine flow_nil ?_
            intro L wz hL hz
            have hz := (HC.out _ _).1 hz
            have hbz := hz.below
            have hcz := hz.cell
            try simp only [List.forall_mem_cons] at hcz
            have hdz := hz.done
            try simp only [List.forall_mem_cons] at hdz
            (try have hwz : Below w.heap.size w wz := by first | exact Below.trans (by (repeat (first | with_reducible exact Below.refl _ _ | with_reducible assumption | with_reducible refine Below.al ?_ _ | with_reducible refine Below.sc ?_ (by first | exact Nat.le_refl _ | (simp; done) | (simp; omega)) _ | assumption | exact Below.refl _ _ | refine Below.dr ?_ | refine Below.drN ?_ _ | refine Below.step ?_ (by assumption)))) hbz | ((repeat (first | with_reducible exact Below.refl _ _ | with_reducible assumption | with_reducible refine Below.al ?_ _ | with_reducible refine Below.sc ?_ (by first | exact Nat.le_refl _ | (simp; done) | (simp; omega)) _ | assumption | exact Below.refl _ _ | refine Below.dr ?_ | refine Below.drN ?_ _ | refine Below.step ?_ (by assumption))); done))
            rw [HT2.out]
            have HTS3 := Lib.hid (HTS2.out.reader (HTS2.out.at_.below hbz) (gr_below (gr_refl wr g) hbz))
            clear d0 d1 d2 df
            obtain ⟨pv, cv, hvv, -⟩ := HTS3.out.row.form
            subst hvv
            obtain ⟨b0, b1, -⟩ := cells2_cell HTS3.out.cell
            obtain ⟨r0, r1, r2, r3, r4, rf⟩ := cells5_cell HTS3.out.res
            have hrb := bsz (heap_lt HTS3.out.res)
            have hltt := HTS3.out.lt
            go_wp2
            refine bodyPost_ret (v := .agg #[.int .i64 3, .string ⟨tn.data⟩, .slice pv xs.length cv, .string ⟨#[]⟩, .slice none 0 0]) (by simp only [results, Tryz.results57]; go_simp) rfl ⟨_, rfl, ?_⟩
            have hal := HAL.out
            rw [HEND.out, List.append_nil] at hal
            rw [HFIN.out, ← hal.1, ← hal.2]
            exact FmQ.mono (by omega) (FmQ.atom HTS3.out (by rw [← size_list]; omega) _ _ _ _ _)
          · have HSTEP := Lib.hid (show qArgs s.data.toList (f'' + 1) ⟨k', false⟩ = ((qTerm s.data.toList ⟨k' + 2, false⟩).1 :: (qArgs s.data.toList f'' (qTerm s.data.toList ⟨k' + 2, false⟩).2).1, (qArgs s.data.toList f'' (qTerm s.data.toList ⟨k' + 2, false⟩).2).2) by rw [qArgs, hT2]; rfl)
            have HT2 := Lib.hid (show (⟨#[44, 32]⟩ : ByteArray).data.toList.isPrefixOf (s.data.toList.drop k') = true from hT2)
            have hle2 := pTake_le hT2 (by rw [← size_list]; exact hpl)
            rw [← size_list, show sComma.length = 2 from rfl] at hle2
            simp only at hle2
            clear hT2
            go_wp2
            obtain ⟨C, HC0⟩ := class_of (InF wr.heap.size _ [(⟨g, 0, none⟩, .string s), (⟨g, 1, none⟩, .int .i64 (k' : Nat)), (⟨g, 2, none⟩, .bool false)] [] [])
            have HC := Lib.hid HC0
            clear HC0
            refine wp_region_flow (C := C) (by kernel_rfl) (by kernel_rfl) (fun L hL => (HC.out _ _).2 (InF.start (by first | (intro _ hs; cases hs; done) | (simp only [List.forall_mem_cons]; go_simp)) (by first | (intro _ hs; cases hs; done) | (simp only [List.forall_mem_cons]; go_simp)) (by first | (intro _ hs; cases hs; done) | (simp only [List.forall_mem_cons]; go_simp)) (by first | (intro _ hs; cases hs; done) | (simp only [List.forall_mem_cons]; go_simp)) L hL)) ?_
            repeat (first | (apply flow_free rfl; (intro L w' hun hrd hC; have hC := (HC.out _ _).1 hC; have hb' := hC.below; (try have hw' : Below w.heap.size w w' := by first | exact Below.trans (by (repeat (first | with_reducible exact Below.refl _ _ | with_reducible assumption | with_reducible refine Below.al ?_ _ | with_reducible refine Below.sc ?_ (by first | exact Nat.le_refl _ | (simp; done) | (simp; omega)) _ | assumption | exact Below.refl _ _ | refine Below.dr ?_ | refine Below.drN ?_ _ | refine Below.step ?_ (by assumption)))) hb' | ((repeat (first | with_reducible exact Below.refl _ _ | with_reducible assumption | with_reducible refine Below.al ?_ _ | with_reducible refine Below.sc ?_ (by first | exact Nat.le_refl _ | (simp; done) | (simp; omega)) _ | assumption | exact Below.refl _ _ | refine Below.dr ?_ | refine Below.drN ?_ _ | refine Below.step ?_ (by assumption))); done)); have hf' := hC.cell; (try simp only [List.forall_mem_cons] at hf'); go_simp; first | exact ⟨(HC.out _ _).2 (hC.skip _ (by rfl)), rfl⟩ | (rw [if_neg]; (exact ⟨(HC.out _ _).2 (hC.skip _ (by rfl)), rfl⟩); omega) | (go_at_call 92; refine ((same_below (l8Starts_any s _ k' _ hpl (by omega) (by decide)))).mono ?_; rintro e w1 ⟨rfl, hb1⟩; exact ⟨rfl, (HC.out _ _).2 ((hC.next (by first | (simp; done) | (simp; omega) | omega) hb1).skip _ (by rfl))⟩)); go_simp) | (apply flow_yes; (case hw => go_simp); (intro L w' hun hrd hC; have hC := (HC.out _ _).1 hC; have hb' := hC.below; (try have hw' : Below w.heap.size w w' := by first | exact Below.trans (by (repeat (first | with_reducible exact Below.refl _ _ | with_reducible assumption | with_reducible refine Below.al ?_ _ | with_reducible refine Below.sc ?_ (by first | exact Nat.le_refl _ | (simp; done) | (simp; omega)) _ | assumption | exact Below.refl _ _ | refine Below.dr ?_ | refine Below.drN ?_ _ | refine Below.step ?_ (by assumption)))) hb' | ((repeat (first | with_reducible exact Below.refl _ _ | with_reducible assumption | with_reducible refine Below.al ?_ _ | with_reducible refine Below.sc ?_ (by first | exact Nat.le_refl _ | (simp; done) | (simp; omega)) _ | assumption | exact Below.refl _ _ | refine Below.dr ?_ | refine Below.drN ?_ _ | refine Below.step ?_ (by assumption))); done)); have hf' := hC.cell; (try simp only [List.forall_mem_cons] at hf'); go_simp; first | exact ⟨(HC.out _ _).2 (hC.skip _ (by rfl)), rfl⟩ | (rw [if_neg]; (exact ⟨(HC.out _ _).2 (hC.skip _ (by rfl)), rfl⟩); omega) | (go_at_call 92; refine ((same_below (l8Starts_any s _ k' _ hpl (by omega) (by decide)))).mono ?_; rintro e w1 ⟨rfl, hb1⟩; exact ⟨rfl, (HC.out _ _).2 ((hC.next (by first | (simp; done) | (simp; omega) | omega) hb1).skip _ (by rfl))⟩)); go_simp) | (apply flow_no; (case hw => (go_simp; try (intro hh; cases hh))); (intro L w' _ _ hC; exact (HC.out _ _).2 (((HC.out _ _).1 hC).skip _ (by rfl))); go_simp))
            refine flow_nil ?_
            intro L wz hL hz
            have hz := (HC.out _ _).1 hz
            have hbz := hz.below
            have hcz := hz.cell
            try simp only [List.forall_mem_cons] at hcz
            have hdz := hz.done
            try simp only [List.forall_mem_cons] at hdz
            (try have hwz : Below w.heap.size w wz := by first | exact Below.trans (by (repeat (first | with_reducible exact Below.refl _ _ | with_reducible assumption | with_reducible refine Below.al ?_ _ | with_reducible refine Below.sc ?_ (by first | exact Nat.le_refl _ | (simp; done) | (simp; omega)) _ | assumption | exact Below.refl _ _ | refine Below.dr ?_ | refine Below.drN ?_ _ | refine Below.step ?_ (by assumption)))) hbz | ((repeat (first | with_reducible exact Below.refl _ _ | with_reducible assumption | with_reducible refine Below.al ?_ _ | with_reducible refine Below.sc ?_ (by first | exact Nat.le_refl _ | (simp; done) | (simp; omega)) _ | assumption | exact Below.refl _ _ | refine Below.dr ?_ | refine Below.drN ?_ _ | refine Below.step ?_ (by assumption))); done))
            rw [HT2.out]
            have HTS3 := Lib.hid (HTS2.out.reader (HTS2.out.at_.below hbz) (gr_below (gr_refl wr g) hbz))
            have HTS4 := Lib.hid (HTS3.out.reader (p' := ⟨k' + 2, false⟩) (HTS3.out.at_.pos (k' + 2)) (gr_sc (gr_refl wz g) (.inl rfl) _))
            clear d0 d1 d2 df
            obtain ⟨d0, d1, d2, df⟩ := HTS3.out.at_.cells
            simp only at d1 d2
            have hg3 := bsz HTS3.out.at_.lt
            go_wp2
            rw [show ((k' : Int) + 2) = ((k' + 2 : Nat) : Int) by omega]
            obtain ⟨w6, hw6⟩ : ∃ w6, w6 = wz.setCell ⟨g, 1, none⟩ (.int .i64 ((k' + 2 : Nat) : Int)) := ⟨_, rfl⟩
            rw [← hw6] at HTS4 ⊢
            have HTS := Lib.hid HTS4.out
            clear HTS4 HTS3 hw6 d0 d1 d2 df hbz
            have HBT := Lib.hid (show w6.cell? ⟨w1.heap.size, 1, none⟩ = some v from (cells2_cell HTS.out.cell).2.1)
            have HNE := Lib.hid (show w1.heap.size ≠ g by omega)
            obtain ⟨tq2, htq⟩ : ∃ tq2, (qTerm s.data.toList ⟨k' + 2, false⟩).1 = tq2 := ⟨_, rfl⟩
            obtain ⟨pq2, hpq⟩ : ∃ pq2, (qTerm s.data.toList ⟨k' + 2, false⟩).2 = pq2 := ⟨_, rfl⟩
            have HTQ := Lib.hid htq
            have HPQ := Lib.hid hpq
            have HRD := Lib.hid (show (⟨k' + 2, false⟩ : PSt).pos ≤ s.size from hle2)
            have HLEN := Lib.hid (show xs.length + 1 ≤ 1000000 by omega)
            have hpp := qTerm_wt s.data.toList ⟨k' + 2, false⟩ (by rw [← size_list]; exact hle2)
            have hst := HSTEP.out
            have hal := HAL.out
            rw [hpq, ← size_list] at hpp
            simp only at hpp
            rw [htq, hpq] at hst
            rw [hst] at hal
            have HAL2 := Lib.hid hal
            have HPP2 := Lib.hid (show k' + 2 ≤ pq2.pos ∧ pq2.pos ≤ s.size by omega)
            clear htq hpq hpp hst hal HSTEP HAL
            obtain ⟨CP, hCP0⟩ : ∃ CP : Value → World → Prop, CP = TermP 24 g w6.heap.size s (s.size + 2) tq2 pq2 52 w6.drew := ⟨_, rfl⟩
            have HCP := Lib.hid hCP0
            have HGR := Lib.hid (show ∀ x w', CP x w' → w6.grownBy w' (some g) from by
              rw [hCP0]; rintro x w' ⟨_, _, _, _, _, hG⟩; exact ⟨hG.os, hG.tape, hG.output, hG.size, hG.block⟩)
            have HAGG := Lib.hid (show ∀ x w', CP x w' → ∃ v0 v1, x = .agg #[v0, v1] ∧ v0.oneCell' = true ∧ v1.oneCell' = true from by
              rw [hCP0]; rintro x w' ⟨v0, v1, hx, hO, _, _⟩
              obtain ⟨pp, cc, rfl, rfl, -⟩ := hO.form
              exact ⟨_, _, hx, rfl, rfl⟩)
            clear hCP0
            refine wp_region_stages [some (.pointer (some ⟨w1.heap.size, 1, none⟩)), some v, some (.pointer (some ⟨g, 0, none⟩)), none, none, none, some (.pointer (some ⟨w1.heap.size, 1, none⟩)), none] [3, 4, 5, 7] (AppSt 24 g w1.heap.size CP v xs.length w6 3 4 5) (by kernel_rfl) (by kernel_rfl) (by first | kernel_rfl | rfl) (by rfl) rfl ?_
            refine chain_st rfl rfl (by decide) rfl (by intro j u w' hS; go_simp; first | done | exact ⟨hS, rfl⟩ | exact hS | rfl) ?_
            go_simp
            refine chain_stb (c := 5) 2 rfl rfl (by decide) rfl rfl rfl (by first | kernel_rfl | rfl) ?_ ?_
            · intro j u w' hj hS
              have hc := AppSt.cell HGR.out HBT.out HNE.out hj hS
              go_simp
              first | done | exact ⟨hS, rfl⟩ | exact hS | rfl
            go_simp
            refine chain_st rfl rfl (by decide) rfl (by intro j u w' hS; go_simp; first | done | exact ⟨hS, rfl⟩ | exact hS | rfl) ?_
            go_simp
            refine chain_first rfl rfl rfl (by decide) rfl ?_ ?_
            · intro w' hS
              obtain rfl : w' = w6.drew := hS
              go_simp
              refine (refTerm_any g s _ _ (PAt.below HTS.out.at_ (by (repeat (first | with_reducible exact Below.refl _ _ | with_reducible assumption | with_reducible refine Below.al ?_ _ | with_reducible refine Below.sc ?_ (by first | exact Nat.le_refl _ | (simp; done) | (simp; omega)) _ | assumption | exact Below.refl _ _ | refine Below.dr ?_ | refine Below.drN ?_ _ | refine Below.step ?_ (by assumption))))) HRD.out hs).mono ?_
              rintro e w'' ⟨x, he, hx⟩
              rw [HTQ.out, HPQ.out] at hx
              exact ⟨x, he, by show CP (upd _ 3 x 3) w''; rw [upd_same, HCP.out]; exact hx⟩
            intro x
            go_simp
            refine chain_next 0 rfl rfl rfl rfl (by decide) rfl (by first | kernel_rfl | rfl) ?_ ?_
            · intro w' hS
              have hS : CP (upd _ 3 x 3) w' := hS
              rw [upd_same] at hS
              obtain ⟨v0, v1, rfl, o0, o1⟩ := HAGG.out _ _ hS
              go_simp
              exact ⟨w', v0, v1, hS, by rw [upd_same], rfl⟩
            intro y
            go_simp
            refine chain_next 1 rfl rfl rfl rfl (by decide) rfl (by first | kernel_rfl | rfl) ?_ ?_
            · intro w' hS
              obtain ⟨w1', v0, v1, hcp, hy, rfl⟩ := hS
              rw [upd_same] at hy
              subst hy
              obtain ⟨v0', v1', he, o0, o1⟩ := HAGG.out _ _ hcp
              simp only [Value.agg.injEq, Array.mk.injEq, List.cons.injEq, and_true] at he
              obtain ⟨rfl, rfl⟩ := he
              have hG1 := HGR.out _ _ hcp
              obtain ⟨hm, vals, Ss, r1, r2, r3, r4⟩ := HTS.out.row
              have hlt := HTS.out.lt
              have hlen := HLEN.out
              refine each_app1 (.tmp 57) (.tmp 60) _ rfl 0 24 2 40 elemTmI v _ vals rfl w1' #[v0, v1] rfl rfl (own_same r1 fun b hb hl => hG1.block b hl (by have := r2 b hb; simp; omega)) rfl (by intro u hu; simp at hu; rcases hu with rfl | rfl <;> assumption) (by omega) (by unfold maxLen; omega) (Nat.zero_le _) ?_
              intro v' w3 happ hg3 hnr hsz
              exact ⟨w1', v0, v1, hcp, by rw [upd_same]; exact happ, hg3, by rw [upd_same]; exact hnr, hsz⟩
            intro z'
            go_simp
            refine chain_st rfl rfl (by decide) rfl (by intro j u w' hS; go_simp; first | done | exact ⟨hS, rfl⟩ | exact hS | rfl) ?_
            go_simp
            refine chain_next 2 rfl rfl rfl rfl (by decide) rfl (by first | kernel_rfl | rfl) ?_ ?_
            · intro w' hS
              obtain ⟨w1', v0, v1, hcp, happ, hg3, hnr, hsz⟩ := hS
              rw [upd_same] at happ hnr
              obtain ⟨⟨q', c', rfl⟩, hbt⟩ := HTS.out.three HGR.out hcp happ hg3
              have hcell : w'.cell? ⟨w1.heap.size, 1, none⟩ = some v := by rw [cell_of_row w' _ 1 _ _ (0, 0) hbt]; rfl
              have hfro : w'.frozen? ⟨w1.heap.size, 1, none⟩ = false := frozen_of_row w' _ 1 _ _ hbt
              clear hbt
              go_simp
              refine ⟨w1', w', v0, v1, hcp, ?_, hg3, ?_, hsz, ?_⟩
              · rw [upd_other _ _ (by decide), upd_same]; exact happ
              · rw [upd_other _ _ (by decide), upd_same]; exact hnr
              · rw [upd_other _ _ (by decide), upd_same]
            intro x'
            refine flowU_nil ?_
            intro wz hz
            have HZ := Lib.hid (HTS.out.app (by have := hz; rw [HCP.out] at this; exact this) HLEN.out)
            rw [upd_other _ _ (by decide), upd_same] at HZ
            clear hz
            go_simp
            go_wp2
            have hpp := HPP2.out
            refine ⟨⟨f'', pq2, z', xs ++ [tq2], HZ.out, by rw [← HAL2.out.1]; simp, HAL2.out.2, by omega, hpp.2, by simp; omega⟩, ?_⟩
            rw [HZ.out.at_.posOf, HPO]
            show s.size - pq2.pos < s.size - k'
            omega
        · have HEND := Lib.hid (show qArgs s.data.toList (f'' + 1) ⟨k', true⟩ = ([], ⟨k', true⟩) by rw [qArgs]; rfl)
          go_wp2
          obtain ⟨C, HC0⟩ := class_of (InF wr.heap.size _ [(⟨g, 0, none⟩, .string s), (⟨g, 1, none⟩, .int .i64 (k' : Nat)), (⟨g, 2, none⟩, .bool true)] [] [])
          have HC := Lib.hid HC0
          clear HC0
          refine wp_region_flow (C := C) (by kernel_rfl) (by kernel_rfl) (fun L hL => (HC.out _ _).2 (InF.start (by first | (intro _ hs; cases hs; done) | (simp only [List.forall_mem_cons]; go_simp)) (by first | (intro _ hs; cases hs; done) | (simp only [List.forall_mem_cons]; go_simp)) (by first | (intro _ hs; cases hs; done) | (simp only [List.forall_mem_cons]; go_simp)) (by first | (intro _ hs; cases hs; done) | (simp only [List.forall_mem_cons]; go_simp)) L hL)) ?_
          repeat (first | (apply flow_free rfl; (intro L w' hun hrd hC; have hC := (HC.out _ _).1 hC; have hb' := hC.below; (try have hw' : Below w.heap.size w w' := by first | exact Below.trans (by (repeat (first | with_reducible exact Below.refl _ _ | with_reducible assumption | with_reducible refine Below.al ?_ _ | with_reducible refine Below.sc ?_ (by first | exact Nat.le_refl _ | (simp; done) | (simp; omega)) _ | assumption | exact Below.refl _ _ | refine Below.dr ?_ | refine Below.drN ?_ _ | refine Below.step ?_ (by assumption)))) hb' | ((repeat (first | with_reducible exact Below.refl _ _ | with_reducible assumption | with_reducible refine Below.al ?_ _ | with_reducible refine Below.sc ?_ (by first | exact Nat.le_refl _ | (simp; done) | (simp; omega)) _ | assumption | exact Below.refl _ _ | refine Below.dr ?_ | refine Below.drN ?_ _ | refine Below.step ?_ (by assumption))); done)); have hf' := hC.cell; (try simp only [List.forall_mem_cons] at hf'); go_simp; first | exact ⟨(HC.out _ _).2 (hC.skip _ (by rfl)), rfl⟩ | (rw [if_neg]; (exact ⟨(HC.out _ _).2 (hC.skip _ (by rfl)), rfl⟩); omega) | fail); go_simp) | (apply flow_yes; (case hw => go_simp); (intro L w' hun hrd hC; have hC := (HC.out _ _).1 hC; have hb' := hC.below; (try have hw' : Below w.heap.size w w' := by first | exact Below.trans (by (repeat (first | with_reducible exact Below.refl _ _ | with_reducible assumption | with_reducible refine Below.al ?_ _ | with_reducible refine Below.sc ?_ (by first | exact Nat.le_refl _ | (simp; done) | (simp; omega)) _ | assumption | exact Below.refl _ _ | refine Below.dr ?_ | refine Below.drN ?_ _ | refine Below.step ?_ (by assumption)))) hb' | ((repeat (first | with_reducible exact Below.refl _ _ | with_reducible assumption | with_reducible refine Below.al ?_ _ | with_reducible refine Below.sc ?_ (by first | exact Nat.le_refl _ | (simp; done) | (simp; omega)) _ | assumption | exact Below.refl _ _ | refine Below.dr ?_ | refine Below.drN ?_ _ | refine Below.step ?_ (by assumption))); done)); have hf' := hC.cell; (try simp only [List.forall_mem_cons] at hf'); go_simp; first | exact ⟨(HC.out _ _).2 (hC.skip _ (by rfl)), rfl⟩ | (rw [if_neg]; (exact ⟨(HC.out _ _).2 (hC.skip _ (by rfl)), rfl⟩); omega) | fail); go_simp) | (apply flow_no; (case hw => (go_simp; try (intro hh; cases hh))); (intro L w' _ _ hC; exact (HC.out _ _).2 (((HC.out _ _).1 hC).skip _ (by rfl))); go_simp))
          refine flow_nil ?_
          intro L wz hL hz
          have hz := (HC.out _ _).1 hz
          have hbz := hz.below
          have hcz := hz.cell
          try simp only [List.forall_mem_cons] at hcz
          have hdz := hz.done
          try simp only [List.forall_mem_cons] at hdz
          (try have hwz : Below w.heap.size w wz := by first | exact Below.trans (by (repeat (first | with_reducible exact Below.refl _ _ | with_reducible assumption | with_reducible refine Below.al ?_ _ | with_reducible refine Below.sc ?_ (by first | exact Nat.le_refl _ | (simp; done) | (simp; omega)) _ | assumption | exact Below.refl _ _ | refine Below.dr ?_ | refine Below.drN ?_ _ | refine Below.step ?_ (by assumption)))) hbz | ((repeat (first | with_reducible exact Below.refl _ _ | with_reducible assumption | with_reducible refine Below.al ?_ _ | with_reducible refine Below.sc ?_ (by first | exact Nat.le_refl _ | (simp; done) | (simp; omega)) _ | assumption | exact Below.refl _ _ | refine Below.dr ?_ | refine Below.drN ?_ _ | refine Below.step ?_ (by assumption))); done))
          have HTS3 := Lib.hid (HTS2.out.reader (HTS2.out.at_.below hbz) (gr_below (gr_refl wr g) hbz))
          clear d0 d1 d2 df
          obtain ⟨pv, cv, hvv, -⟩ := HTS3.out.row.form
          subst hvv
          obtain ⟨b0, b1, -⟩ := cells2_cell HTS3.out.cell
          obtain ⟨r0, r1, r2, r3, r4, rf⟩ := cells5_cell HTS3.out.res
          have hrb := bsz (heap_lt HTS3.out.res)
          have hltt := HTS3.out.lt
          go_wp2
          refine bodyPost_ret (v := .agg #[.int .i64 3, .string ⟨tn.data⟩, .slice pv xs.length cv, .string ⟨#[]⟩, .slice none 0 0]) (by simp only [results, Tryz.results57]; go_simp) rfl ⟨_, rfl, ?_⟩
          have hal := HAL.out
          rw [HEND.out, List.append_nil] at hal
          rw [HFIN.out, ← hal.1, ← hal.2]
          exact FmQ.mono (by omega) (FmQ.atom HTS3.out (by rw [← size_list]; omega) _ _ _ _ _)
end Go.Proofs.YtdklemmincejpaaGreat
namespace Go.Proofs.YtdklemmincejpaaGreat
open Go.RowKit
def QEqSt (m g rb : Nat) (s : ByteArray) (F : Fm) (pq : PSt) (ro : Obj) (w0 : World) (CP : Value → World → Prop) (a0 a1 : Value) (W : World) : Nat → (Nat → Value) → World → Prop
  | 0, _, w => w = W.drew
  | 1, u, w => CP (u 2) w
  | 2, u, w => ∃ w1 v0 v1, CP (.agg #[v0, v1]) w1 ∧ u 3 = .slice (some ⟨w1.heap.size, 0, none⟩) 2 2 ∧ w = w1.alloc (.cells #[a0, a1, v0, v1] 24)
  | 3, u, w => ∃ w1 v0 v1, CP (.agg #[v0, v1]) w1 ∧ u 4 = .agg #[.string ⟨#[61]⟩, .slice (some ⟨w1.heap.size, 0, none⟩) 2 2] ∧ w = w1.alloc (.cells #[a0, a1, v0, v1] 24)
  | 4, u, w => QQ m g rb s F pq ro w0 (u 5) w
  | 5, u, w => ∃ w5 y0 y1 y2 y3 y4, QQ m g rb s F pq ro w0 (.agg #[y0, y1, y2, y3, y4]) w5 ∧ w = ((((w5.setCell ⟨rb, 0, none⟩ y0).setCell ⟨rb, 1, none⟩ y1).setCell ⟨rb, 2, none⟩ y2).setCell ⟨rb, 3, none⟩ y3).setCell ⟨rb, 4, none⟩ y4
  | _, _, _ => False
theorem QEqSt.cells {m g rb bt : Nat} {s : ByteArray} {F : Fm} {pq : PSt} {ro : Obj} {w0 : World} {CP : Value → World → Prop} {a0 a1 x0 x1 : Value} {W : World} (hG : ∀ x w', CP x w' → W.grownBy w' (some g)) (h0 : W.cell? ⟨bt, 0, none⟩ = some x0) (h1 : W.cell? ⟨bt, 1, none⟩ = some x1) (hne : bt ≠ g) {j : Nat} (hj : j ≤ 1) {u : Nat → Value} {w : World}
    (h : QEqSt m g rb s F pq ro w0 CP a0 a1 W j u w) : w.cell? ⟨bt, 0, none⟩ = some x0 ∧ w.cell? ⟨bt, 1, none⟩ = some x1 := by
  match j, hj, h with
  | 0, _, h => obtain rfl : w = W.drew := h; exact ⟨h0, h1⟩
  | 1, _, h => exact ⟨grown_cell (hG _ _ h) h0 (by simpa using hne), grown_cell (hG _ _ h) h1 (by simpa using hne)⟩
theorem QQ.made {f g rb bt : Nat} {s : ByteArray} {p pq : PSt} {ro : Obj} {w0 W w1 : World} {n : List UInt8} {v v0 v1 c0 c1 : Value} {xs : List Tm} {tq t : Tm} (h : TSt 24 52 ro w0 g rb bt s n p v xs f W) (hn : n.length ≤ 1000000) (hT : TermP 24 g W.heap.size s f tq pq 52 W.drew (.agg #[v0, v1]) w1)
    (hO : TmOwn 24 (f + 2) (fun b => rb < b ∧ b < w1.heap.size + 1) (w1.alloc (.cells #[.string ⟨n.toArray⟩, v, v0, v1] 24)) t [c0, c1]) :
    QQ (f + 3) g rb s (atomOfF t) pq ro w0 (.agg #[.int .i64 3, c0, c1, .string ⟨#[]⟩, .slice none 0 0]) (w1.alloc (.cells #[.string ⟨n.toArray⟩, v, v0, v1] 24)) := by
  obtain ⟨v0', v1', he, hO', hP, hG⟩ := hT
  obtain ⟨l1, l2, l3, l4⟩ := h.lt
  have hz : W.heap.size ≤ w1.heap.size := hG.size
  have hG1 : W.grownBy w1 (some g) := ⟨hG.os, hG.tape, hG.output, hG.size, hG.block⟩
  exact ⟨(hao w1 _ _ (by omega)).trans hP, gr_al (gr_trans h.gr hG1) _, ⟨_, _, _, _, _, rfl, FmOwn.mono _ _ _ _ (Nat.le_refl _) (SameOn.refl _ _) (fun b hb => ⟨hb.1, by simpa using hb.2⟩) (atomF_own hO)⟩, (hao w1 _ _ (by omega)).trans ((hG1.block rb (by omega) (by simp; omega)).trans h.res)⟩
set_option maxRecDepth 100000 in
set_option maxHeartbeats 3200000 in
theorem refAtom_eq (g : Nat) (s : ByteArray) (p : PSt) (w : World) (h : PAt 52 w g s p) (hp : p.pos ≤ s.size) (hs : s.size ≤ 1000000) 
    (h1 : pTake s.data.toList sEquals (qTerm s.data.toList p).2 = true) :
    Calls Tryz.prog 57 #[.pointer (some ⟨g, 0, none⟩)] w fun e w' => ∃ x, e = .returned x ∧ FmQ (s.size + 5) g s (qAtom s.data.toList p).1 (qAtom s.data.toList p).2 w x w' := by
  have H := Lib.hid h
  have hg := bsz h.lt
  have hpos := qTerm_wt s.data.toList p (by rw [← size_list]; exact hp)
  have hnm := (qName_le s.data.toList p (by rw [← size_list]; exact hp)).1
  rw [← size_list] at hpos
  rw [← size_list, ← size_list] at hnm
  have hle := pTake_le h1 (by rw [← size_list]; exact hpos.2)
  rw [← size_list] at hle
  have hl8 : sEquals.length = 8 := rfl
  have HA := Lib.hid h1
  have HPA := Lib.hid (show qAtom s.data.toList p = (atomOfF (eqTm (qTerm s.data.toList p).1 (qTerm s.data.toList (pAdv sEquals (qTerm s.data.toList p).2)).1), (qTerm s.data.toList (pAdv sEquals (qTerm s.data.toList p).2)).2) by rw [qAtom, h1]; rfl)
  clear h h1
  go_enter Tryz.func57, Tryz.ntmps57
  go_wp2_with fail
  refine (refTerm_any g s p _ (H.out.below (by (repeat (first | with_reducible exact Below.refl _ _ | with_reducible assumption | with_reducible refine Below.al ?_ _ | with_reducible refine Below.sc ?_ (by first | exact Nat.le_refl _ | (simp; done) | (simp; omega)) _ | assumption | exact Below.refl _ _ | refine Below.dr ?_ | refine Below.drN ?_ _ | refine Below.step ?_ (by assumption))))) hp hs).mono ?_
  rintro e w1 ⟨x, rfl, v0, v1, rfl, hO, hP1, hg1⟩
  obtain ⟨pp, cc, rfl, rfl, -⟩ := hO.form
  generalize qTerm s.data.toList p = r at *
  obtain ⟨t, p1⟩ := r
  simp only at hpos hO HA hP1 HPA hnm hle
  have HO := Lib.hid (show TmOwn 24 (s.size + 2) (fun b => w.heap.size + 1 ≤ b ∧ b < w1.heap.size) w1 t _ by simpa using hO)
  have HG1 := Lib.hid hg1
  have ⟨c1, f1⟩ := gcell hg1
  have hz1 := hg1.size
  (try simp at hz1)
  have HP1 := Lib.hid hP1
  clear hO hP1 hg1
  go_wp2_with fail
  refine (refTake_any g s _ p1 _ (HP1.out.below (by (repeat (first | with_reducible exact Below.refl _ _ | with_reducible assumption | with_reducible refine Below.al ?_ _ | with_reducible refine Below.sc ?_ (by first | exact Nat.le_refl _ | (simp; done) | (simp; omega)) _ | assumption | exact Below.refl _ _ | refine Below.dr ?_ | refine Below.drN ?_ _ | refine Below.step ?_ (by assumption))))) hpos.2 (by omega) (by decide)).mono ?_
  rw [show (⟨#[32, 101, 113, 117, 97, 108, 115, 32]⟩ : ByteArray).data.toList = sEquals from rfl, HA.out]
  rintro e w2 ⟨_, rfl, rfl, h2, hg2⟩
  have HTS := Lib.hid (TSt.initT (s := s) (p := pAdv sEquals p1) (by omega) HO.out HG1.out hg2 h2)
  clear h2 hg2 c1 f1
  obtain ⟨hb0, hb1, -⟩ := cells2_cell HTS.out.cell
  have HB := Lib.hid (And.intro (show w2.cell? ⟨w1.heap.size, 0, none⟩ = some (.string t.n) from hb0) hb1)
  have hlt := HTS.out.lt
  clear hb0 hb1
  go_wp2
  obtain ⟨tq, htq⟩ : ∃ tq, (qTerm s.data.toList (pAdv sEquals p1)).1 = tq := ⟨_, rfl⟩
  obtain ⟨pq, hpq⟩ : ∃ pq, (qTerm s.data.toList (pAdv sEquals p1)).2 = pq := ⟨_, rfl⟩
  have HTQ := Lib.hid htq
  have HPQ := Lib.hid hpq
  have HRD := Lib.hid (show (pAdv sEquals p1).pos ≤ s.size by simp only [pAdv]; omega)
  have HPA2 := Lib.hid (show qAtom s.data.toList p = (atomOfF (eqTm t tq), pq) by rw [HPA.out, htq, hpq])
  clear htq hpq
  obtain ⟨CP, hCP0⟩ : ∃ CP : Value → World → Prop, CP = TermP 24 g w2.heap.size s (s.size + 2) tq pq 52 w2.drew := ⟨_, rfl⟩
  have HCP := Lib.hid hCP0
  have HGR := Lib.hid (show ∀ x w', CP x w' → w2.grownBy w' (some g) from by
    rw [hCP0]; rintro x w' ⟨_, _, _, _, _, hG⟩; exact ⟨hG.os, hG.tape, hG.output, hG.size, hG.block⟩)
  have HAGG := Lib.hid (show ∀ x w', CP x w' → ∃ pp cc, x = .agg #[.string tq.n, .slice pp tq.us.length cc] from by
    rw [hCP0]; rintro x w' ⟨v0, v1, hx, hO, _, _⟩
    obtain ⟨pp, cc, rfl, rfl, -⟩ := hO.form
    exact ⟨_, _, hx⟩)
  clear hCP0
  refine wp_region_stages [some (.agg #[.string t.n, .slice pp t.us.length cc]), some (.pointer (some ⟨g, 0, none⟩)), none, none, none, none, none] [2, 3, 4, 5, 6] (QEqSt (s.size + 5) g w.heap.size s (atomOfF (eqTm t tq)) pq (.cells #[.int .i64 0, .string ⟨#[]⟩, .slice none 0 0, .string ⟨#[]⟩, .slice none 0 0] 27 (0, 0)) w CP (.string t.n) (.slice pp t.us.length cc) w2) (by kernel_rfl) (by kernel_rfl) (by first | kernel_rfl | rfl) (by rfl) rfl ?_
  refine chain_stb (c := 3) 1 rfl rfl (by decide) rfl rfl rfl (by first | kernel_rfl | rfl) ?_ ?_
  · intro j u w' hj hS
    obtain ⟨hc0, hc1⟩ := QEqSt.cells HGR.out HB.out.1 HB.out.2 (by omega) hj hS
    go_simp
    first | done | exact ⟨hS, rfl⟩ | exact hS | rfl
  go_simp
  refine chain_st rfl rfl (by decide) rfl (by intro j u w' hS; go_simp; first | done | exact ⟨hS, rfl⟩ | exact hS | rfl) ?_
  go_simp
  refine chain_first rfl rfl rfl (by decide) rfl ?_ ?_
  · intro w' hS
    obtain rfl : w' = w2.drew := hS
    go_simp
    refine (refTerm_any g s _ _ (PAt.below HTS.out.at_ (by (repeat (first | with_reducible exact Below.refl _ _ | with_reducible assumption | with_reducible refine Below.al ?_ _ | with_reducible refine Below.sc ?_ (by first | exact Nat.le_refl _ | (simp; done) | (simp; omega)) _ | assumption | exact Below.refl _ _ | refine Below.dr ?_ | refine Below.drN ?_ _ | refine Below.step ?_ (by assumption))))) HRD.out hs).mono ?_
    rintro e w'' ⟨x, he, hx⟩
    rw [HTQ.out, HPQ.out] at hx
    exact ⟨x, he, by show CP (upd _ 2 x 2) w''; rw [upd_same, HCP.out]; exact hx⟩
  intro x
  go_simp
  refine chain_next 0 rfl rfl rfl rfl (by decide) rfl (by first | kernel_rfl | rfl) ?_ ?_
  · intro w' hS
    have hS : CP (upd _ 2 x 2) w' := hS
    rw [upd_same] at hS
    obtain ⟨pp4, cc4, rfl⟩ := HAGG.out _ _ hS
    go_simp
    exact ⟨w', _, _, hS, by rw [upd_same], rfl⟩
  intro y
  go_simp
  refine chain_next 1 rfl rfl rfl rfl (by decide) rfl (by first | kernel_rfl | rfl) ?_ ?_
  · intro w' hS
    obtain ⟨w3, v0, v1, hcp, hy, rfl⟩ := hS
    rw [upd_same] at hy
    subst hy
    go_simp
    exact ⟨w3, v0, v1, hcp, by rw [upd_same], rfl⟩
  intro z
  go_simp
  refine chain_next 2 rfl rfl rfl rfl (by decide) rfl (by first | kernel_rfl | rfl) ?_ ?_
  · intro w' hS
    obtain ⟨w3, v0, v1, hcp, hy, rfl⟩ := hS
    rw [upd_same] at hy
    subst hy
    have HE := Lib.hid (eq_ownQ HTS.out (by rw [← size_list]; omega) (by rw [HCP.out] at hcp; exact hcp))
    have HCPP := Lib.hid hcp
    go_simp
    show QQ _ _ _ _ _ _ _ _ (upd _ 5 _ 5) _
    rw [upd_same]
    have hcp := HCPP.out
    rw [HCP.out] at hcp
    have hte : (Tm.mk ⟨t.n.data.toList.toArray⟩ t.us) = t := by obtain ⟨n, us⟩ := t; rfl
    have hq := QQ.made HTS.out (by rw [← size_list]; omega) hcp HE.out
    rw [hte] at hq
    exact hq
  intro q
  go_simp
  refine chain_next 3 rfl rfl rfl rfl (by decide) rfl (by first | kernel_rfl | rfl) ?_ ?_
  · intro w' hS
    have hS : QQ _ _ _ _ _ _ _ _ (upd _ 5 q 5) w' := hS
    rw [upd_same] at hS
    have HS := Lib.hid hS
    obtain ⟨hQ1, hQ2, ⟨y0, y1, y2, y3, y4, rfl, hO⟩, hro⟩ := hS
    obtain ⟨q1, d1, q2, d2, rfl, rfl, rfl, rfl, rfl, -⟩ := hO.form
    obtain ⟨r0, r1, r2, r3, r4, rf⟩ := cells5_cell hro
    clear hQ1 hQ2 hO hro
    go_simp
    exact ⟨w', _, _, _, _, _, HS.out, rfl⟩
  intro x'
  refine flowU_nil ?_
  intro wz hz
  obtain ⟨w5, y0, y1, y2, y3, y4, hQ, rfl⟩ := hz
  have HQ := Lib.hid hQ
  obtain ⟨hQ1, hQ2, ⟨y0', y1', y2', y3', y4', he, hO⟩, hro⟩ := hQ
  simp only [Value.agg.injEq, Array.mk.injEq, List.cons.injEq, and_true] at he
  obtain ⟨rfl, rfl, rfl, rfl, rfl⟩ := he
  obtain ⟨q1, d1, q2, d2, rfl, rfl, rfl, rfl, rfl, -⟩ := hO.form
  obtain ⟨r0, r1, r2, r3, r4, rf⟩ := cells5_cell hro
  clear hQ1 hQ2 hO hro
  go_simp
  go_wp2
  refine bodyPost_ret (v := .agg #[.int .i64 (atomOfF (eqTm t tq)).op, .string (atomOfF (eqTm t tq)).a.n, .slice q1 (atomOfF (eqTm t tq)).a.us.length d1, .string (atomOfF (eqTm t tq)).v, .slice q2 (atomOfF (eqTm t tq)).ps.length d2]) (by simp only [results, Tryz.results57]; go_simp) rfl ⟨_, rfl, ?_⟩
  rw [HPA2.out]
  exact FmQ.of HQ.out.1 HQ.out.2.1 (Below.refl _ _) HQ.out.2.2.1 (fun b hb => hb) (Nat.le_refl _) (by omega) _ _ _ _ _
theorem refAtom_any (g : Nat) (s : ByteArray) (p : PSt) (w : World) (h : PAt 52 w g s p) (hp : p.pos ≤ s.size) (hs : s.size ≤ 1000000) :
    Calls Tryz.prog 57 #[.pointer (some ⟨g, 0, none⟩)] w fun e w' => ∃ x, e = .returned x ∧ FmQ (s.size + 5) g s (qAtom s.data.toList p).1 (qAtom s.data.toList p).2 w x w' := by
  cases h1 : pTake s.data.toList sEquals (qTerm s.data.toList p).2
  · exact refAtom_hold g s p w h hp hs h1
  · exact refAtom_eq g s p w h hp hs h1
end Go.Proofs.YtdklemmincejpaaGreat
