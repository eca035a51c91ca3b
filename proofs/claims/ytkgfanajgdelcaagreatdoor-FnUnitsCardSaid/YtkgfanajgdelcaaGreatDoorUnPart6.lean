/- The program's parser reads an equation's English. Conditions: it stands inside its text. -/
import Derived.Test.YtkgfanajgdelcaaGreatDoorUnPart3
import Derived.Test.YtkgfanajgdelcaaGreatDoorUnPart4
import Derived.Test.YtkgfanajgdelcaaGreatDoorUnPart5
namespace Go.Proofs.YtkgfanajgdelcaaGreatDoor
open Go.RowKit
theorem byte_46 (c : UInt8) : ((c.toNat : Int) == 46) = (c == 46) := by
  rw [Bool.eq_iff_iff, beq_iff_eq, beq_iff_eq]
  exact ⟨fun e => UInt8.toNat_inj.1 (show c.toNat = 46 by omega), fun e => by subst e; rfl⟩
/-- The stages of 'Formula{Op: op, Var: v, Parts: []Formula{p}}' stored into the result. -/
def QuaSt (rb : Nat) (op : Int) (v : ByteArray) (y0 y1 y2 y3 y4 : Value) (W : World) : Nat → (Nat → Value) → World → Prop
  | 0, _, w => w = W.drew
  | 1, u, w => u 6 = .slice (some ⟨W.heap.size, 0, none⟩) 1 1 ∧ w = W.drew.alloc (.cells #[y0, y1, y2, y3, y4] 44)
  | 2, u, w => u 7 = .agg #[.int .i64 op, .string ⟨#[]⟩, .slice none 0 0, .string v, .slice (some ⟨W.heap.size, 0, none⟩) 1 1] ∧ w = W.drew.alloc (.cells #[y0, y1, y2, y3, y4] 44)
  | 3, _, w => w = ((((((W.setCell ⟨rb, 0, none⟩ (.int .i64 op)).setCell ⟨rb, 1, none⟩ (.string ⟨#[]⟩)).setCell ⟨rb, 2, none⟩ (.slice none 0 0)).setCell ⟨rb, 3, none⟩ (.string v)).setCell ⟨rb, 4, none⟩ (.slice (some ⟨W.heap.size, 0, none⟩) 1 1)).alloc (.cells #[y0, y1, y2, y3, y4] 44)).drew
  | _, _, _ => False
theorem qua_own {f k : Nat} {S : Nat → Prop} {W : World} (hk : W.heap.size = k) {F : Fm} {op : Int} {v : List UInt8} {y0 y1 y2 y3 y4 : Value} (ho : -9223372036854775808 ≤ op ∧ op ≤ 9223372036854775807) (hv : v.length ≤ 1000000) (hO : FmOwn 41 44 (f + 2) S W F [y0, y1, y2, y3, y4]) (hS : ∀ b, S b → b < k) :
    FmOwn 41 44 (f + 3) (fun b => S b ∨ b = k) (W.alloc (.cells #[y0, y1, y2, y3, y4] 44)) (quantF op v F) [.int .i64 op, .string ⟨#[]⟩, .slice none 0 0, .string ⟨v.toArray⟩, .slice (some ⟨k, 0, none⟩) 1 1] := by
  subst hk
  refine ⟨_, _, _, fun _ => False, fun b => S b ∨ b = W.heap.size, rfl, ho, by show v.toArray.size ≤ _; unfold maxLen; simp; omega, ?_, ?_, fun _ h => h.elim, fun _ h => h⟩
  · exact ⟨_, rfl, Nat.zero_le _, OwnRow.nil _ _ _ _ _⟩
  · exact OwnRow.one' rfl #[y0, y1, y2, y3, y4] rfl (FmOwn.later ((Below.refl _ _).alloc (Nat.le_refl _) _) hO) hS (fun b h => .inl h) (.inr rfl)
def ReadC (f : Nat) : Prop := ∀ (s : ByteArray) (k : Nat) (w : World), k ≤ s.size → s.size ≤ 1000000 → 2 * (s.size - k) + 1 < f →
    Calls Tryz.prog 213 #[.string s, .int .i64 (k : Nat)] w fun e w' => ∃ x, e = .returned x ∧ GotFm (f + s.size + 6) (rFrm s.data.toList f k) w x w'
set_option maxRecDepth 100000 in
set_option maxHeartbeats 3200000 in
theorem l8Quantified_of (f : Nat) (ih : ReadC f) (s : ByteArray) (k : Nat) (op : Int) (ho : -9223372036854775808 ≤ op ∧ op ≤ 9223372036854775807) (w : World) (hk : k ≤ s.size) (hs : s.size ≤ 1000000) (hf : 2 * (s.size - k) ≤ f) :
    Calls Tryz.prog 252 #[.string s, .int .i64 (k : Nat), .int .i64 op] w fun e w' => ∃ x, e = .returned x ∧ GotFm (f + 1 + s.size + 6) (rQua s.data.toList (f + 1) op k) w x w' := by
  have IH := Lib.hid ih
  have HB0 := Lib.hid (BSt.start w)
  clear ih
  go_enter Tryz.func252, Tryz.ntmps252
  go_wp2
  go_loopw [8] (ScanRel s k (w.alloc (.cells #[.int .i64 0, .string ⟨#[]⟩, .slice none 0 0, .string ⟨#[]⟩, .slice none 0 0] 44))) (fun i _ => s.size - (intOf i).toNat)
  case atStart => exact ⟨k, rfl, Nat.le_refl _, hk, fun i h1 h2 => absurd h2 (by omega), Below.refl _ _⟩
  case round =>
    obtain ⟨j, rfl, hj1, hj2, hall, hbr⟩ := hrel
    have HALL := Lib.hid hall
    have hqr := hbr.size
    simp at hqr
    have HBR := Lib.hid (show True → _ from fun _ => hbr)
    have HBW := Lib.hid (HB0.out.later hbr)
    clear hall hbr
    obtain ⟨r0, r1, r2, r3, r4, rf⟩ := cells5_cell HBW.out.res
    have hrb := bsz (heap_lt HBW.out.res)
    by_cases hlt : j < s.size
    · have hj3 : (j : Int) < s.size := by omega
      cases hw : wordC s[j]
      · have HSTOP := Lib.hid (show ∀ h : j < s.size, wordC s[j] = false from fun _ => hw)
        have HWD := Lib.hid (show rWordL s.data.toList k = (s.data.toList.drop k).take (j - k) from wordL_at (bad := false) HALL.out hj1 hj2 HSTOP.out)
        have HLL := Lib.hid (show (rWordL s.data.toList k).length = j - k by rw [HWD.out, List.length_take, List.length_drop, ← size_list]; omega)
        have HJ := Lib.hid (show k + (rWordL s.data.toList k).length = j by rw [HLL.out]; omega)
        have hq46 : ((j : Int) == (s.size : Int)) = false := by simp; omega
        cases h46 : ((s[j].toNat : Int) == 46)
        · have HFIN := Lib.hid (show rQua s.data.toList (f + 1) op k = none by
            rw [rQua, HJ.out, list_at s j hlt, if_neg (by
              intro e; injection e with e; rw [byte_46] at h46; rw [e] at h46; simp at h46)])
          have h46' : ((s[j].toNat : Int) != 46) = true := by rw [bne, h46]; rfl
          go_wp2_with (first | (go_at_call 272; refine (l3Word_any _ _).mono ?_; rintro e w' ⟨rfl, rfl⟩))
          refine bodyPost_ret (v := .tuple #[.agg #[.int .i64 0, .string ⟨#[]⟩, .slice none 0 0, .string ⟨#[]⟩, .slice none 0 0], .int .i64 (-1)]) (by simp only [results, Tryz.results252]; go_simp) rfl ⟨_, rfl, ?_⟩
          rw [HFIN.out]
          exact GotFm.no HBW.out _ _ _ _ _ _ _ _ _ _ _ _ _ _
        · have HFIN0 := Lib.hid (show rQua s.data.toList (f + 1) op k = (rFrm s.data.toList f (j + 1)).map (fun r => (quantF op (rWordL s.data.toList k) r.1, r.2)) by
            rw [rQua, HJ.out, list_at s j hlt, if_pos (by
              rw [byte_46, beq_iff_eq] at h46; rw [h46])])
          have h46' : ((s[j].toNat : Int) != 46) = false := by rw [bne, h46]; rfl
          have HNM := Lib.hid (show (⟨(rWordL s.data.toList k).toArray⟩ : ByteArray) = s.extract k j by
            exact (str_eq (by rw [extract_list, HWD.out, List.drop_take])).symm)
          have hwl : (rWordL s.data.toList k).length ≤ 1000000 := by rw [HLL.out]; omega
          clear HB0 r0 r1 r2 r3 r4 rf hrb
          go_wp2_with (first | (go_at_call 272; refine (l3Word_any _ _).mono ?_; rintro e w' ⟨rfl, rfl⟩))
          rw [show ((j : Int) + 1) = ((j + 1 : Nat) : Int) by omega]
          refine (IH.out s (j + 1) _ (by omega) hs (by omega)).mono ?_
          rintro e w1 ⟨x, rfl, hb1, op1, n1, v1, p1, q1, k1, c1, k2, d1, z1, rfl, hgot⟩
          have HB1 := Lib.hid (HBW.out.later hb1)
          have hq1 := hb1.size
          clear HBW hb1
          go_wp2
          obtain ⟨W, hW⟩ : ∃ W : World, W = w1.alloc (.cells #[.int .i64 op1, .string n1, .slice p1 k1 c1, .string v1, .slice q1 k2 d1] 44) := ⟨_, rfl⟩
          have HBV := Lib.hid (HB1.out.later (show Below w1.heap.size w1 W by rw [hW]; exact (Below.refl _ _).alloc (Nat.le_refl _) _))
          have HT := Lib.hid (show W.heap[w1.heap.size]? = some (.cells #[.int .i64 op1, .string n1, .slice p1 k1 c1, .string v1, .slice q1 k2 d1] 44 (0, 0)) by rw [hW]; exact heap_alloc_new w1 _)
          have hzW : W.heap.size = w1.heap.size + 1 := by rw [hW]; simp
          have HO := Lib.hid (show ∀ F S, FmOwn 41 44 (f + s.size + 6) S w1 F [.int .i64 op1, .string n1, .slice p1 k1 c1, .string v1, .slice q1 k2 d1] → FmOwn 41 44 (f + s.size + 6) S W F [.int .i64 op1, .string n1, .slice p1 k1 c1, .string v1, .slice q1 k2 d1] from fun F S h => FmOwn.mono _ _ _ _ (Nat.le_refl _) (fun b hb hlt => by rw [hW]; exact hao w1 _ b hlt) (fun _ h => h) h)
          have HZW := Lib.hid hzW
          have hwW := HBV.out.bel.size
          rw [← hW]
          clear hW HB1 hzW
          refine wp_region_stages [some (.int .i64 op), some (.string s), some (.int .i64 (k : Nat)), some (.int .i64 (j : Nat)), some (.string (s.extract k j)), some (.agg #[.int .i64 op1, .string n1, .slice p1 k1 c1, .string v1, .slice q1 k2 d1]), none, none, some (.int .i64 z1), none, some (.int .i64 z1)] [6, 7, 9] (QuaSt w.heap.size op (s.extract k j) (.int .i64 op1) (.string n1) (.slice p1 k1 c1) (.string v1) (.slice q1 k2 d1) W) (by kernel_rfl) (by kernel_rfl) (by first | kernel_rfl | rfl) (by rfl) rfl ?_
          refine chain_st rfl rfl (by decide) rfl (by intro j u w' hS; go_simp; first | done | exact ⟨hS, rfl⟩ | exact hS | rfl) ?_
          go_simp
          refine chain_st rfl rfl (by decide) rfl (by intro j u w' hS; go_simp; first | done | exact ⟨hS, rfl⟩ | exact hS | rfl) ?_
          go_simp
          refine chain_st rfl rfl (by decide) rfl (by intro j u w' hS; go_simp; first | done | exact ⟨hS, rfl⟩ | exact hS | rfl) ?_
          go_simp
          refine chain_st rfl rfl (by decide) rfl (by intro j u w' hS; go_simp; first | done | exact ⟨hS, rfl⟩ | exact hS | rfl) ?_
          go_simp
          refine chain_st rfl rfl (by decide) rfl (by intro j u w' hS; go_simp; first | done | exact ⟨hS, rfl⟩ | exact hS | rfl) ?_
          go_simp
          refine chain_stb (c := 6) 0 rfl rfl (by decide) rfl rfl rfl (by first | kernel_rfl | rfl) ?_ ?_
          · intro j u w' hj hS
            obtain ⟨hc0, hc1, hc2, hc3, hc4, -⟩ := cells5_cell (w := w') (g := w1.heap.size) (by
              match j, hj, hS with
              | 0, _, h => obtain rfl : w' = W.drew := h; exact HT.out)
            go_simp
            first | done | exact ⟨hS, rfl⟩ | exact hS | rfl
          go_simp
          refine chain_first rfl rfl rfl (by decide) rfl ?_ ?_
          · intro w' hS
            obtain rfl : w' = W.drew := hS
            go_simp
            exact ⟨by show upd _ 6 _ 6 = _; rw [upd_same], rfl⟩
          intro x
          go_simp
          refine chain_next 0 rfl rfl rfl rfl (by decide) rfl (by first | kernel_rfl | rfl) ?_ ?_
          · intro w' hS
            obtain ⟨hu, rfl⟩ := hS
            rw [upd_same] at hu
            subst hu
            go_simp
            exact ⟨by show upd _ 7 _ 7 = _; rw [upd_same], rfl⟩
          intro y
          go_simp
          refine chain_st rfl rfl (by decide) rfl (by intro j u w' hS; go_simp; first | done | exact ⟨hS, rfl⟩ | exact hS | rfl) ?_
          go_simp
          refine chain_next 1 rfl rfl rfl rfl (by decide) rfl (by first | kernel_rfl | rfl) ?_ ?_
          · intro w' hS
            obtain ⟨hu, rfl⟩ := hS
            have hu : upd _ 7 y 7 = _ := hu
            rw [upd_same] at hu
            subst hu
            obtain ⟨r0, r1, r2, r3, r4, rf⟩ := cells5_cell HBV.out.res
            have hrb := bsz (heap_lt HBV.out.res)
            go_simp
            rfl
          intro z
          go_simp
          refine chain_st rfl rfl (by decide) rfl (by intro j u w' hS; go_simp; first | done | exact ⟨hS, rfl⟩ | exact hS | rfl) ?_
          go_simp
          refine flowU_nil ?_
          intro wz hz
          obtain rfl := hz
          obtain ⟨r0, r1, r2, r3, r4, rf⟩ := cells5_cell HBV.out.res
          have hrb := bsz (heap_lt HBV.out.res)
          go_simp
          go_wp2
          refine bodyPost_ret (v := .tuple #[.agg #[.int .i64 op, .string ⟨#[]⟩, .slice none 0 0, .string (s.extract k j), .slice (some ⟨W.heap.size, 0, none⟩) 1 1], .int .i64 z1]) (by simp only [results, Tryz.results252]; go_simp) rfl ⟨_, rfl, ?_⟩
          rw [HFIN0.out]
          cases hr : rFrm s.data.toList f (j + 1) with
          | none =>
            rw [hr] at hgot
            simp only at hgot
            subst hgot
            exact ((GotFm.no HBV.out _ _ _ _ _ _ _ _ _ _ _ _ _ _).later ((Below.refl _ _).alloc (Nat.le_refl _) _)).later (Below.dr (Below.refl _ _))
          | some r =>
            obtain ⟨F, i⟩ := r
            rw [hr] at hgot
            simp only at hgot
            obtain ⟨rfl, hO⟩ := hgot
            have h1 := HBV.out.bel.size
            have h0 := HZW.out
            have hO1 := FmOwn.mono _ _ _ _ (Nat.le_refl _) (w' := ((((W.setCell ⟨w.heap.size, 0, none⟩ (.int .i64 op)).setCell ⟨w.heap.size, 1, none⟩ (.string ⟨#[]⟩)).setCell ⟨w.heap.size, 2, none⟩ (.slice none 0 0)).setCell ⟨w.heap.size, 3, none⟩ (.string (s.extract k j))).setCell ⟨w.heap.size, 4, none⟩ (.slice (some ⟨W.heap.size, 0, none⟩) 1 1)) (fun b (hb : NewB wr w1 b) _ => set5_heap W _ b _ _ _ _ _ (by have := hb.1; omega)) (fun _ h => h) (HO.out F _ hO)
            have h2 := qua_own (f := f + s.size + 4) (k := W.heap.size) (by simp) (op := op) (v := rWordL s.data.toList k) ho hwl hO1 (fun b hb => by have := hb.2; omega)
            rw [HNM.out] at h2
            exact (GotFm.made (Below.al (HBV.out.set _ _ _ _ _) _) (FmOwn.mono _ _ _ _ (by omega) (SameOn.refl _ _) (fun _ h => h) h2) (fun b hb => by
              rcases hb with hb | hb
              · have h3 := hb.1; have h4 := hb.2; exact ⟨by omega, by simp; omega⟩
              · have hb : b = W.heap.size := hb
                exact ⟨by omega, by simp; omega⟩) i).later (Below.dr (Below.refl _ _))
      · have HW := Lib.hid hw
        go_wp2_with (first | (go_at_call 272; refine (l3Word_any _ _).mono ?_; rintro e w' ⟨rfl, rfl⟩))
        refine ⟨⟨j + 1, by go_num, by omega, by omega, fun i h1 h2 h3 => ?_, HBR.out trivial⟩, by simp [intOf]; omega⟩
        by_cases e : i = j
        · subst e; exact HW.out
        · exact HALL.out i h1 (by omega) h3
    · have HSTOP := Lib.hid (show ∀ h : j < s.size, wordC s[j] = false from fun h => absurd h hlt)
      have hj3 : ¬ (j : Int) < s.size := by omega
      have HWD := Lib.hid (show rWordL s.data.toList k = (s.data.toList.drop k).take (j - k) from wordL_at (bad := false) HALL.out hj1 hj2 HSTOP.out)
      have HLL := Lib.hid (show (rWordL s.data.toList k).length = j - k by rw [HWD.out, List.length_take, List.length_drop, ← size_list]; omega)
      have HJ := Lib.hid (show k + (rWordL s.data.toList k).length = j by rw [HLL.out]; omega)
      have hk2 : ((j : Int) == (s.size : Int)) = true := by simp; omega
      have HFIN := Lib.hid (show rQua s.data.toList (f + 1) op k = none by
        rw [rQua, HJ.out, List.getElem?_eq_none (by rw [← size_list]; omega), if_neg (by simp)])
      go_wp2
      refine bodyPost_ret (v := .tuple #[.agg #[.int .i64 0, .string ⟨#[]⟩, .slice none 0 0, .string ⟨#[]⟩, .slice none 0 0], .int .i64 (-1)]) (by simp only [results, Tryz.results252]; go_simp) rfl ⟨_, rfl, ?_⟩
      rw [HFIN.out]
      exact GotFm.no HBW.out _ _ _ _ _ _ _ _ _ _ _ _ _ _
end Go.Proofs.YtkgfanajgdelcaaGreatDoor
namespace Go.Proofs.YtkgfanajgdelcaaGreatDoor
open Go.RowKit
set_option maxRecDepth 100000 in
set_option maxHeartbeats 6400000 in
theorem l8Pair_of (f : Nat) (ih : ReadC f) (s : ByteArray) (k : Nat) (w : World) (hk : k + 1 ≤ s.size) (hs : s.size ≤ 1000000) (hf : 2 * (s.size - (k + 1)) + 1 < f) :
    Calls Tryz.prog 254 #[.string s, .int .i64 (k : Nat)] w fun e w' => ∃ x, e = .returned x ∧ GotFm (f + 1 + s.size + 6) (rPair s.data.toList (f + 1) k) w x w' := by
  have IH := Lib.hid ih
  have HB0 := Lib.hid (BSt.start w)
  clear ih
  go_enter Tryz.func254, Tryz.ntmps254
  go_wp2_with fail
  rw [show ((k : Int) + 1) = ((k + 1 : Nat) : Int) by omega]
  refine (IH.out s (k + 1) _ hk hs hf).mono ?_
  rintro e w1 ⟨x, rfl, hb1, op1, n1, v1, p1, q1, k1, c1, k2, d1, z1, rfl, hgot⟩
  have HB1 := Lib.hid (HB0.out.later hb1)
  have hq1 := hb1.size
  (try simp at hq1)
  clear HB0 hb1
  cases hr : rFrm s.data.toList f (k + 1) with
  | none =>
    rw [hr] at hgot
    simp only at hgot
    subst hgot
    obtain ⟨r0, r1, r2, r3, r4, rf⟩ := cells5_cell HB1.out.res
    have hrb := bsz (heap_lt HB1.out.res)
    have HFIN := Lib.hid (show rPair s.data.toList (f + 1) k = none by rw [rPair, hr])
    go_wp2
    refine bodyPost_ret (v := .tuple #[.agg #[.int .i64 0, .string ⟨#[]⟩, .slice none 0 0, .string ⟨#[]⟩, .slice none 0 0], .int .i64 (-1)]) (by simp only [results, Tryz.results254]; go_simp) rfl ⟨_, rfl, ?_⟩
    rw [HFIN.out]
    exact (GotFm.no HB1.out _ _ _ _ _ _ _ _ _ _ _ _ _ _).later ((Below.refl _ _).alloc (Nat.le_refl _) _)
  | some aj =>
    obtain ⟨a, j⟩ := aj
    have hw1 := rFrm_wt s.data.toList f (k + 1) a j (by rw [← size_list]; exact hk) hr
    rw [← size_list] at hw1
    rw [hr] at hgot
    simp only at hgot
    obtain ⟨rfl, hOA⟩ := hgot
    have hjn : ¬ ((j : Nat) : Int) < 0 := by omega
    go_wp2_with fail
    obtain ⟨W, hW⟩ : ∃ W : World, W = w1.alloc (.cells #[.int .i64 op1, .string n1, .slice p1 k1 c1, .string v1, .slice q1 k2 d1] 44) := ⟨_, rfl⟩
    have HBW := Lib.hid (HB1.out.later (show Below w1.heap.size w1 W by rw [hW]; exact (Below.refl _ _).alloc (Nat.le_refl _) _))
    have HT := Lib.hid (show W.heap[w1.heap.size]? = some (.cells #[.int .i64 op1, .string n1, .slice p1 k1 c1, .string v1, .slice q1 k2 d1] 44 (0, 0)) by rw [hW]; exact heap_alloc_new w1 _)
    have hzW : W.heap.size = w1.heap.size + 1 := by rw [hW]; simp
    have HOA := Lib.hid (show FmOwn 41 44 (f + s.size + 6) (fun b => w.heap.size + 1 ≤ b ∧ b < w1.heap.size) W a [.int .i64 op1, .string n1, .slice p1 k1 c1, .string v1, .slice q1 k2 d1] from FmOwn.mono _ _ _ _ (Nat.le_refl _) (fun b hb hlt => by rw [hW]; exact hao w1 _ b hlt) (fun b hb => by simpa [NewB] using hb) hOA)
    rw [← hW]
    clear hW hOA HB1
    obtain ⟨r0, r1, r2, r3, r4, rf⟩ := cells5_cell HBW.out.res
    have hrb := bsz (heap_lt HBW.out.res)
    obtain ⟨b0, b1, b2, b3, b4, bf⟩ := cells5_cell HT.out
    have hbb := bsz (heap_lt HT.out)
    have st := fun (t : ByteArray) (ht : t.size ≤ 1000000) => l8Starts_any s t j W hw1.2 (by omega) ht
    have HST := Lib.hid st
    clear st
    refine (HST.out _ (by decide)).mono ?_
    rw [show (⟨#[32, 38, 32]⟩ : ByteArray).data.toList.isPrefixOf (s.data.toList.drop j) = at8 s.data.toList sAnd8 j from rfl]
    rintro e w2 ⟨rfl, rfl⟩
    cases h5 : at8 s.data.toList sAnd8 j
    · go_wp2_with fail
      refine (HST.out _ (by decide)).mono ?_
      rw [show (⟨#[32, 124, 32]⟩ : ByteArray).data.toList.isPrefixOf (s.data.toList.drop j) = at8 s.data.toList sOr8 j from rfl]
      rintro e w2 ⟨rfl, rfl⟩
      cases h6 : at8 s.data.toList sOr8 j
      · go_wp2_with fail
        refine (HST.out _ (by decide)).mono ?_
        rw [show (⟨#[32, 61, 62, 32]⟩ : ByteArray).data.toList.isPrefixOf (s.data.toList.drop j) = at8 s.data.toList sImp8 j from rfl]
        rintro e w2 ⟨rfl, rfl⟩
        cases h7 : at8 s.data.toList sImp8 j
        · have HFIN := Lib.hid (show rPair s.data.toList (f + 1) k = none by
            rw [rPair, hr]
            simp only
            rw [if_pos (by rw [rSign, h5, h6, h7]; rfl)])
          go_wp2
          refine bodyPost_ret (v := .tuple #[.agg #[.int .i64 0, .string ⟨#[]⟩, .slice none 0 0, .string ⟨#[]⟩, .slice none 0 0], .int .i64 (-1)]) (by simp only [results, Tryz.results254]; go_simp) rfl ⟨_, rfl, ?_⟩
          rw [HFIN.out]
          exact GotFm.no HBW.out _ _ _ _ _ _ _ _ _ _ _ _ _ _
        · have HS := Lib.hid (show rSign s.data.toList j = 7 by rw [rSign, h5, h6, h7]; rfl)
          have hle := at8_le h7 (by rw [← size_list]; exact hw1.2)
          rw [← size_list, show sImp8.length = 4 from rfl] at hle
          clear h5 h6 h7
          go_wp2_with fail
          rw [show ((j : Int) + 4) = ((j + 4 : Nat) : Int) by omega]
          refine (IH.out s (j + 4) _ (by omega) hs (by omega)).mono ?_
          rintro e w2 ⟨x, rfl, hb2, op2, n2, v2, p2, q2, k2', c2', k3, d3, z2, rfl, hgot2⟩
          have HB2 := Lib.hid (HBW.out.later hb2)
          have HT2 := Lib.hid ((hb2.block _ (by omega)).trans HT.out)
          have HOA2 := Lib.hid (FmOwn.later hb2 HOA.out)
          have hq2 := hb2.size
          clear HBW HT HOA hb2 r0 r1 r2 r3 r4 rf hrb b0 b1 b2 b3 b4 bf hbb
          obtain ⟨r0, r1, r2, r3, r4, rf⟩ := cells5_cell HB2.out.res
          have hrb := bsz (heap_lt HB2.out.res)
          obtain ⟨b0, b1, b2, b3, b4, bf⟩ := cells5_cell HT2.out
          have hbb := bsz (heap_lt HT2.out)
          cases hr2 : rFrm s.data.toList f (j + 4) with
          | none =>
            rw [hr2] at hgot2
            simp only at hgot2
            subst hgot2
            have HFIN := Lib.hid (show rPair s.data.toList (f + 1) k = none by rw [rPair, hr]; simp only [HS.out]; rw [if_neg (by decide), show (sign8 7).length = 4 from rfl, hr2])
            go_wp2
            refine bodyPost_ret (v := .tuple #[.agg #[.int .i64 0, .string ⟨#[]⟩, .slice none 0 0, .string ⟨#[]⟩, .slice none 0 0], .int .i64 (-1)]) (by simp only [results, Tryz.results254]; go_simp) rfl ⟨_, rfl, ?_⟩
            rw [HFIN.out]
            exact (GotFm.no HB2.out _ _ _ _ _ _ _ _ _ _ _ _ _ _).later ((Below.refl _ _).alloc (Nat.le_refl _) _)
          | some be =>
            obtain ⟨b, e⟩ := be
            have hw2 := rFrm_wt s.data.toList f (j + 4) b e (by rw [← size_list]; omega) hr2
            rw [← size_list] at hw2
            rw [hr2] at hgot2
            simp only at hgot2
            obtain ⟨rfl, hOB⟩ := hgot2
            have HOB := Lib.hid hOB
            clear hOB
            have hen : ¬ ((e : Nat) : Int) < 0 := by omega
            have HPF := Lib.hid (show rPair s.data.toList (f + 1) k = if s.data.toList[e]? = some 41 then some (opF 7 [a, b], e + 1) else none by rw [rPair, hr]; simp only [HS.out]; rw [if_neg (by decide), show (sign8 7).length = 4 from rfl, hr2])
            clear hr hr2
            by_cases hes : e = s.size
            · have hes1 : ((e : Int) == (s.size : Int)) = true := by simp; omega
              have HFIN := Lib.hid (show rPair s.data.toList (f + 1) k = none by rw [HPF.out, List.getElem?_eq_none (by rw [← size_list]; omega), if_neg (by simp)])
              go_wp2
              refine bodyPost_ret (v := .tuple #[.agg #[.int .i64 0, .string ⟨#[]⟩, .slice none 0 0, .string ⟨#[]⟩, .slice none 0 0], .int .i64 (-1)]) (by simp only [results, Tryz.results254]; go_simp) rfl ⟨_, rfl, ?_⟩
              rw [HFIN.out]
              exact (GotFm.no HB2.out _ _ _ _ _ _ _ _ _ _ _ _ _ _).later ((Below.refl _ _).alloc (Nat.le_refl _) _)
            have hes1 : ((e : Int) == (s.size : Int)) = false := by simp; omega
            have hel : e < s.size := by omega
            have hel1 : (e : Int) < s.size := by omega
            cases h41 : ((s[e].toNat : Int) == 41)
            · have h41' : ((s[e].toNat : Int) != 41) = true := by rw [bne, h41]; rfl
              have HFIN := Lib.hid (show rPair s.data.toList (f + 1) k = none by rw [HPF.out, list_at s e hel, if_neg (by intro e; injection e with e; rw [byte_41, e] at h41; simp at h41)])
              go_wp2
              refine bodyPost_ret (v := .tuple #[.agg #[.int .i64 0, .string ⟨#[]⟩, .slice none 0 0, .string ⟨#[]⟩, .slice none 0 0], .int .i64 (-1)]) (by simp only [results, Tryz.results254]; go_simp) rfl ⟨_, rfl, ?_⟩
              rw [HFIN.out]
              exact (GotFm.no HB2.out _ _ _ _ _ _ _ _ _ _ _ _ _ _).later ((Below.refl _ _).alloc (Nat.le_refl _) _)
            · have h41' : ((s[e].toNat : Int) != 41) = false := by rw [bne, h41]; rfl
              have HFIN := Lib.hid (show rPair s.data.toList (f + 1) k = some (opF 7 [a, b], e + 1) by rw [HPF.out, list_at s e hel, if_pos (by rw [byte_41, beq_iff_eq] at h41; rw [h41])])
              go_wp2
              refine bodyPost_ret (v := .tuple #[.agg #[.int .i64 7, .string ⟨#[]⟩, .slice none 0 0, .string ⟨#[]⟩, .slice (some ⟨w2.heap.size + 1, 0, none⟩) 2 2], .int .i64 ((e + 1 : Nat) : Int)]) (by simp only [results, Tryz.results254]; go_simp) rfl ⟨_, rfl, ?_⟩
              rw [HFIN.out]
              have hk : ∀ (W3 : World), W3.heap.size = w2.heap.size → (∀ c, c ≠ w.heap.size → W3.heap[c]? = w2.heap[c]?) → ∀ (o o2 : Obj) c, c ≠ w.heap.size → c < w2.heap.size → ((W3.alloc o).alloc o2).heap[c]? = w2.heap[c]? := fun W3 hz hs o o2 c hc hlt => (hao _ _ c (by simp; omega)).trans ((hao _ _ c (by omega)).trans (hs c hc))
              refine GotFm.made (S := fun c => w.heap.size + 1 ≤ c ∧ c < w2.heap.size + 2 ∧ c ≠ w1.heap.size ∧ c ≠ w2.heap.size) (Below.al (Below.al (HB2.out.set _ _ _ _ _) _) _) ?_ (fun c hc => ⟨by omega, by simp; omega⟩) (e + 1)
              refine FmOwn.mono (f + s.size + 7) (f + 1 + s.size + 6) _ _ (by omega) (SameOn.refl _ _) (fun _ h => h) (opF_own (m := f + s.size + 5) (by omega) ?_)
              exact OwnRow.two' (by simp) [.int .i64 op1, .string n1, .slice p1 k1 c1, .string v1, .slice q1 k2 d1] [.int .i64 op2, .string n2, .slice p2 k2' c2', .string v2, .slice q2 k3 d3] _ rfl rfl rfl
                (FmOwn.mono _ _ _ _ (by omega) (fun c (hc : w.heap.size + 1 ≤ c ∧ c < w1.heap.size) _ => hk _ (by simp) (fun c hc => set5_heap w2 _ c _ _ _ _ _ hc) _ _ c (by omega) (by omega)) (fun _ h => h) HOA2.out)
                (FmOwn.mono _ _ _ _ (by omega) (fun c (hc : NewB W w2 c) hlt => hk _ (by simp) (fun c hc => set5_heap w2 _ c _ _ _ _ _ hc) _ _ c (by have := hc.1; omega) hlt) (fun _ h => h) HOB.out)
                (fun c hc => by omega) (fun c hc => by have := hc.2; omega) (fun c hc hc' => by have := hc'.1; omega) (fun c hc => by omega) (fun c hc => by have h1 := hc.1; have h2 := hc.2; omega) (by omega)
      · have HS := Lib.hid (show rSign s.data.toList j = 6 by rw [rSign, h5, h6]; rfl)
        have hle := at8_le h6 (by rw [← size_list]; exact hw1.2)
        rw [← size_list, show sOr8.length = 3 from rfl] at hle
        clear h5 h6
        go_wp2_with fail
        rw [show ((j : Int) + 3) = ((j + 3 : Nat) : Int) by omega]
        refine (IH.out s (j + 3) _ (by omega) hs (by omega)).mono ?_
        rintro e w2 ⟨x, rfl, hb2, op2, n2, v2, p2, q2, k2', c2', k3, d3, z2, rfl, hgot2⟩
        have HB2 := Lib.hid (HBW.out.later hb2)
        have HT2 := Lib.hid ((hb2.block _ (by omega)).trans HT.out)
        have HOA2 := Lib.hid (FmOwn.later hb2 HOA.out)
        have hq2 := hb2.size
        clear HBW HT HOA hb2 r0 r1 r2 r3 r4 rf hrb b0 b1 b2 b3 b4 bf hbb
        obtain ⟨r0, r1, r2, r3, r4, rf⟩ := cells5_cell HB2.out.res
        have hrb := bsz (heap_lt HB2.out.res)
        obtain ⟨b0, b1, b2, b3, b4, bf⟩ := cells5_cell HT2.out
        have hbb := bsz (heap_lt HT2.out)
        cases hr2 : rFrm s.data.toList f (j + 3) with
        | none =>
          rw [hr2] at hgot2
          simp only at hgot2
          subst hgot2
          have HFIN := Lib.hid (show rPair s.data.toList (f + 1) k = none by rw [rPair, hr]; simp only [HS.out]; rw [if_neg (by decide), show (sign8 6).length = 3 from rfl, hr2])
          go_wp2
          refine bodyPost_ret (v := .tuple #[.agg #[.int .i64 0, .string ⟨#[]⟩, .slice none 0 0, .string ⟨#[]⟩, .slice none 0 0], .int .i64 (-1)]) (by simp only [results, Tryz.results254]; go_simp) rfl ⟨_, rfl, ?_⟩
          rw [HFIN.out]
          exact (GotFm.no HB2.out _ _ _ _ _ _ _ _ _ _ _ _ _ _).later ((Below.refl _ _).alloc (Nat.le_refl _) _)
        | some be =>
          obtain ⟨b, e⟩ := be
          have hw2 := rFrm_wt s.data.toList f (j + 3) b e (by rw [← size_list]; omega) hr2
          rw [← size_list] at hw2
          rw [hr2] at hgot2
          simp only at hgot2
          obtain ⟨rfl, hOB⟩ := hgot2
          have HOB := Lib.hid hOB
          clear hOB
          have hen : ¬ ((e : Nat) : Int) < 0 := by omega
          have HPF := Lib.hid (show rPair s.data.toList (f + 1) k = if s.data.toList[e]? = some 41 then some (opF 6 [a, b], e + 1) else none by rw [rPair, hr]; simp only [HS.out]; rw [if_neg (by decide), show (sign8 6).length = 3 from rfl, hr2])
          clear hr hr2
          by_cases hes : e = s.size
          · have hes1 : ((e : Int) == (s.size : Int)) = true := by simp; omega
            have HFIN := Lib.hid (show rPair s.data.toList (f + 1) k = none by rw [HPF.out, List.getElem?_eq_none (by rw [← size_list]; omega), if_neg (by simp)])
            go_wp2
            refine bodyPost_ret (v := .tuple #[.agg #[.int .i64 0, .string ⟨#[]⟩, .slice none 0 0, .string ⟨#[]⟩, .slice none 0 0], .int .i64 (-1)]) (by simp only [results, Tryz.results254]; go_simp) rfl ⟨_, rfl, ?_⟩
            rw [HFIN.out]
            exact (GotFm.no HB2.out _ _ _ _ _ _ _ _ _ _ _ _ _ _).later ((Below.refl _ _).alloc (Nat.le_refl _) _)
          have hes1 : ((e : Int) == (s.size : Int)) = false := by simp; omega
          have hel : e < s.size := by omega
          have hel1 : (e : Int) < s.size := by omega
          cases h41 : ((s[e].toNat : Int) == 41)
          · have h41' : ((s[e].toNat : Int) != 41) = true := by rw [bne, h41]; rfl
            have HFIN := Lib.hid (show rPair s.data.toList (f + 1) k = none by rw [HPF.out, list_at s e hel, if_neg (by intro e; injection e with e; rw [byte_41, e] at h41; simp at h41)])
            go_wp2
            refine bodyPost_ret (v := .tuple #[.agg #[.int .i64 0, .string ⟨#[]⟩, .slice none 0 0, .string ⟨#[]⟩, .slice none 0 0], .int .i64 (-1)]) (by simp only [results, Tryz.results254]; go_simp) rfl ⟨_, rfl, ?_⟩
            rw [HFIN.out]
            exact (GotFm.no HB2.out _ _ _ _ _ _ _ _ _ _ _ _ _ _).later ((Below.refl _ _).alloc (Nat.le_refl _) _)
          · have h41' : ((s[e].toNat : Int) != 41) = false := by rw [bne, h41]; rfl
            have HFIN := Lib.hid (show rPair s.data.toList (f + 1) k = some (opF 6 [a, b], e + 1) by rw [HPF.out, list_at s e hel, if_pos (by rw [byte_41, beq_iff_eq] at h41; rw [h41])])
            go_wp2
            refine bodyPost_ret (v := .tuple #[.agg #[.int .i64 6, .string ⟨#[]⟩, .slice none 0 0, .string ⟨#[]⟩, .slice (some ⟨w2.heap.size + 1, 0, none⟩) 2 2], .int .i64 ((e + 1 : Nat) : Int)]) (by simp only [results, Tryz.results254]; go_simp) rfl ⟨_, rfl, ?_⟩
            rw [HFIN.out]
            have hk : ∀ (W3 : World), W3.heap.size = w2.heap.size → (∀ c, c ≠ w.heap.size → W3.heap[c]? = w2.heap[c]?) → ∀ (o o2 : Obj) c, c ≠ w.heap.size → c < w2.heap.size → ((W3.alloc o).alloc o2).heap[c]? = w2.heap[c]? := fun W3 hz hs o o2 c hc hlt => (hao _ _ c (by simp; omega)).trans ((hao _ _ c (by omega)).trans (hs c hc))
            refine GotFm.made (S := fun c => w.heap.size + 1 ≤ c ∧ c < w2.heap.size + 2 ∧ c ≠ w1.heap.size ∧ c ≠ w2.heap.size) (Below.al (Below.al (HB2.out.set _ _ _ _ _) _) _) ?_ (fun c hc => ⟨by omega, by simp; omega⟩) (e + 1)
            refine FmOwn.mono (f + s.size + 7) (f + 1 + s.size + 6) _ _ (by omega) (SameOn.refl _ _) (fun _ h => h) (opF_own (m := f + s.size + 5) (by omega) ?_)
            exact OwnRow.two' (by simp) [.int .i64 op1, .string n1, .slice p1 k1 c1, .string v1, .slice q1 k2 d1] [.int .i64 op2, .string n2, .slice p2 k2' c2', .string v2, .slice q2 k3 d3] _ rfl rfl rfl
              (FmOwn.mono _ _ _ _ (by omega) (fun c (hc : w.heap.size + 1 ≤ c ∧ c < w1.heap.size) _ => hk _ (by simp) (fun c hc => set5_heap w2 _ c _ _ _ _ _ hc) _ _ c (by omega) (by omega)) (fun _ h => h) HOA2.out)
              (FmOwn.mono _ _ _ _ (by omega) (fun c (hc : NewB W w2 c) hlt => hk _ (by simp) (fun c hc => set5_heap w2 _ c _ _ _ _ _ hc) _ _ c (by have := hc.1; omega) hlt) (fun _ h => h) HOB.out)
              (fun c hc => by omega) (fun c hc => by have := hc.2; omega) (fun c hc hc' => by have := hc'.1; omega) (fun c hc => by omega) (fun c hc => by have h1 := hc.1; have h2 := hc.2; omega) (by omega)
    · have HS := Lib.hid (show rSign s.data.toList j = 5 by rw [rSign, h5]; rfl)
      have hle := at8_le h5 (by rw [← size_list]; exact hw1.2)
      rw [← size_list, show sAnd8.length = 3 from rfl] at hle
      clear h5
      go_wp2_with fail
      rw [show ((j : Int) + 3) = ((j + 3 : Nat) : Int) by omega]
      refine (IH.out s (j + 3) _ (by omega) hs (by omega)).mono ?_
      rintro e w2 ⟨x, rfl, hb2, op2, n2, v2, p2, q2, k2', c2', k3, d3, z2, rfl, hgot2⟩
      have HB2 := Lib.hid (HBW.out.later hb2)
      have HT2 := Lib.hid ((hb2.block _ (by omega)).trans HT.out)
      have HOA2 := Lib.hid (FmOwn.later hb2 HOA.out)
      have hq2 := hb2.size
      clear HBW HT HOA hb2 r0 r1 r2 r3 r4 rf hrb b0 b1 b2 b3 b4 bf hbb
      obtain ⟨r0, r1, r2, r3, r4, rf⟩ := cells5_cell HB2.out.res
      have hrb := bsz (heap_lt HB2.out.res)
      obtain ⟨b0, b1, b2, b3, b4, bf⟩ := cells5_cell HT2.out
      have hbb := bsz (heap_lt HT2.out)
      cases hr2 : rFrm s.data.toList f (j + 3) with
      | none =>
        rw [hr2] at hgot2
        simp only at hgot2
        subst hgot2
        have HFIN := Lib.hid (show rPair s.data.toList (f + 1) k = none by rw [rPair, hr]; simp only [HS.out]; rw [if_neg (by decide), show (sign8 5).length = 3 from rfl, hr2])
        go_wp2
        refine bodyPost_ret (v := .tuple #[.agg #[.int .i64 0, .string ⟨#[]⟩, .slice none 0 0, .string ⟨#[]⟩, .slice none 0 0], .int .i64 (-1)]) (by simp only [results, Tryz.results254]; go_simp) rfl ⟨_, rfl, ?_⟩
        rw [HFIN.out]
        exact (GotFm.no HB2.out _ _ _ _ _ _ _ _ _ _ _ _ _ _).later ((Below.refl _ _).alloc (Nat.le_refl _) _)
      | some be =>
        obtain ⟨b, e⟩ := be
        have hw2 := rFrm_wt s.data.toList f (j + 3) b e (by rw [← size_list]; omega) hr2
        rw [← size_list] at hw2
        rw [hr2] at hgot2
        simp only at hgot2
        obtain ⟨rfl, hOB⟩ := hgot2
        have HOB := Lib.hid hOB
        clear hOB
        have hen : ¬ ((e : Nat) : Int) < 0 := by omega
        have HPF := Lib.hid (show rPair s.data.toList (f + 1) k = if s.data.toList[e]? = some 41 then some (opF 5 [a, b], e + 1) else none by rw [rPair, hr]; simp only [HS.out]; rw [if_neg (by decide), show (sign8 5).length = 3 from rfl, hr2])
        clear hr hr2
        by_cases hes : e = s.size
        · have hes1 : ((e : Int) == (s.size : Int)) = true := by simp; omega
          have HFIN := Lib.hid (show rPair s.data.toList (f + 1) k = none by rw [HPF.out, List.getElem?_eq_none (by rw [← size_list]; omega), if_neg (by simp)])
          go_wp2
          refine bodyPost_ret (v := .tuple #[.agg #[.int .i64 0, .string ⟨#[]⟩, .slice none 0 0, .string ⟨#[]⟩, .slice none 0 0], .int .i64 (-1)]) (by simp only [results, Tryz.results254]; go_simp) rfl ⟨_, rfl, ?_⟩
          rw [HFIN.out]
          exact (GotFm.no HB2.out _ _ _ _ _ _ _ _ _ _ _ _ _ _).later ((Below.refl _ _).alloc (Nat.le_refl _) _)
        have hes1 : ((e : Int) == (s.size : Int)) = false := by simp; omega
        have hel : e < s.size := by omega
        have hel1 : (e : Int) < s.size := by omega
        cases h41 : ((s[e].toNat : Int) == 41)
        · have h41' : ((s[e].toNat : Int) != 41) = true := by rw [bne, h41]; rfl
          have HFIN := Lib.hid (show rPair s.data.toList (f + 1) k = none by rw [HPF.out, list_at s e hel, if_neg (by intro e; injection e with e; rw [byte_41, e] at h41; simp at h41)])
          go_wp2
          refine bodyPost_ret (v := .tuple #[.agg #[.int .i64 0, .string ⟨#[]⟩, .slice none 0 0, .string ⟨#[]⟩, .slice none 0 0], .int .i64 (-1)]) (by simp only [results, Tryz.results254]; go_simp) rfl ⟨_, rfl, ?_⟩
          rw [HFIN.out]
          exact (GotFm.no HB2.out _ _ _ _ _ _ _ _ _ _ _ _ _ _).later ((Below.refl _ _).alloc (Nat.le_refl _) _)
        · have h41' : ((s[e].toNat : Int) != 41) = false := by rw [bne, h41]; rfl
          have HFIN := Lib.hid (show rPair s.data.toList (f + 1) k = some (opF 5 [a, b], e + 1) by rw [HPF.out, list_at s e hel, if_pos (by rw [byte_41, beq_iff_eq] at h41; rw [h41])])
          go_wp2
          refine bodyPost_ret (v := .tuple #[.agg #[.int .i64 5, .string ⟨#[]⟩, .slice none 0 0, .string ⟨#[]⟩, .slice (some ⟨w2.heap.size + 1, 0, none⟩) 2 2], .int .i64 ((e + 1 : Nat) : Int)]) (by simp only [results, Tryz.results254]; go_simp) rfl ⟨_, rfl, ?_⟩
          rw [HFIN.out]
          have hk : ∀ (W3 : World), W3.heap.size = w2.heap.size → (∀ c, c ≠ w.heap.size → W3.heap[c]? = w2.heap[c]?) → ∀ (o o2 : Obj) c, c ≠ w.heap.size → c < w2.heap.size → ((W3.alloc o).alloc o2).heap[c]? = w2.heap[c]? := fun W3 hz hs o o2 c hc hlt => (hao _ _ c (by simp; omega)).trans ((hao _ _ c (by omega)).trans (hs c hc))
          refine GotFm.made (S := fun c => w.heap.size + 1 ≤ c ∧ c < w2.heap.size + 2 ∧ c ≠ w1.heap.size ∧ c ≠ w2.heap.size) (Below.al (Below.al (HB2.out.set _ _ _ _ _) _) _) ?_ (fun c hc => ⟨by omega, by simp; omega⟩) (e + 1)
          refine FmOwn.mono (f + s.size + 7) (f + 1 + s.size + 6) _ _ (by omega) (SameOn.refl _ _) (fun _ h => h) (opF_own (m := f + s.size + 5) (by omega) ?_)
          exact OwnRow.two' (by simp) [.int .i64 op1, .string n1, .slice p1 k1 c1, .string v1, .slice q1 k2 d1] [.int .i64 op2, .string n2, .slice p2 k2' c2', .string v2, .slice q2 k3 d3] _ rfl rfl rfl
            (FmOwn.mono _ _ _ _ (by omega) (fun c (hc : w.heap.size + 1 ≤ c ∧ c < w1.heap.size) _ => hk _ (by simp) (fun c hc => set5_heap w2 _ c _ _ _ _ _ hc) _ _ c (by omega) (by omega)) (fun _ h => h) HOA2.out)
            (FmOwn.mono _ _ _ _ (by omega) (fun c (hc : NewB W w2 c) hlt => hk _ (by simp) (fun c hc => set5_heap w2 _ c _ _ _ _ _ hc) _ _ c (by have := hc.1; omega) hlt) (fun _ h => h) HOB.out)
            (fun c hc => by omega) (fun c hc => by have := hc.2; omega) (fun c hc hc' => by have := hc'.1; omega) (fun c hc => by omega) (fun c hc => by have h1 := hc.1; have h2 := hc.2; omega) (by omega)
end Go.Proofs.YtkgfanajgdelcaaGreatDoor
namespace Go.Proofs.YtkgfanajgdelcaaGreatDoor
open Go.RowKit
theorem BSt.pass {f : Nat} {r : Option (Fm × Nat)} {w W w1 : World} {x : Value} (h : BSt w W) (hg : GotFm f r W x w1) (a0 a1 a2 a3 a4 : Value) :
    GotFm f r w x (((((w1.setCell ⟨w.heap.size, 0, none⟩ a0).setCell ⟨w.heap.size, 1, none⟩ a1).setCell ⟨w.heap.size, 2, none⟩ a2).setCell ⟨w.heap.size, 3, none⟩ a3).setCell ⟨w.heap.size, 4, none⟩ a4) := by
  obtain ⟨hb, op, n, v, p, q, k, c, k2, d, z, rfl, hm⟩ := hg
  have hB := h.later hb
  match r, hm with
  | none, hm => obtain rfl := hm; exact GotFm.no hB _ _ _ _ _ _ _ _ _ _ _ _ _ _
  | some (F, j), ⟨hz, hO⟩ =>
    subst hz
    have := heap_lt h.res
    exact GotFm.yes hB hO (fun b hb => ⟨by have := hb.1; omega, hb.2⟩) j _ _ _ _ _
set_option maxRecDepth 100000 in
set_option maxHeartbeats 6400000 in
theorem l8Read_of (f : Nat) (ih : ReadC f) (ih2 : ∀ f', f = f' + 1 → ReadC f') (s : ByteArray) (k : Nat) (w : World) (hk : k ≤ s.size) (hs : s.size ≤ 1000000) (hf : 2 * (s.size - k) + 1 < f + 1) :
    Calls Tryz.prog 213 #[.string s, .int .i64 (k : Nat)] w fun e w' => ∃ x, e = .returned x ∧ GotFm (f + 1 + s.size + 6) (rFrm s.data.toList (f + 1) k) w x w' := by
  have IH := Lib.hid ih
  have IH2 := Lib.hid ih2
  have hk' : k ≤ s.data.toList.length := by rw [← size_list]; exact hk
  obtain ⟨W, hW⟩ : ∃ W : World, W = w.alloc (.cells #[.int .i64 0, .string ⟨#[]⟩, .slice none 0 0, .string ⟨#[]⟩, .slice none 0 0] 44) := ⟨_, rfl⟩
  have HB := Lib.hid (show BSt w W by rw [hW]; exact BSt.start w)
  have hzW : W.heap.size = w.heap.size + 1 := by rw [hW]; simp
  have st := fun (t : ByteArray) (ht : t.size ≤ 1000000) => l8Starts_any s t k W hk (by omega) ht
  have HST := Lib.hid st
  clear ih ih2 st
  go_enter Tryz.func213, Tryz.ntmps213
  go_wp2_with fail
  rw [← hW]
  clear hW
  cases h1 : at8 s.data.toList sAll8 k
  case true =>
    have H1 := Lib.hid h1
    have h2 : k + 4 ≤ s.size := by have := at8_le h1 hk'; rw [← size_list] at this; exact this
    obtain ⟨f', rfl⟩ : ∃ q, f = q + 1 := ⟨f - 1, by omega⟩
    have HFIN := Lib.hid (show rFrm s.data.toList (f' + 1 + 1) k = rQua s.data.toList (f' + 1) 8 (k + 4) by rw [rFrm, if_pos h1])
    clear h1
    go_wp2_with fail
    refine (HST.out _ (by decide)).mono ?_
    rw [show (⟨#[97, 108, 108, 32]⟩ : ByteArray).data.toList.isPrefixOf (s.data.toList.drop k) = at8 s.data.toList sAll8 k from rfl, H1.out]
    rintro e w1 ⟨rfl, rfl⟩
    go_wp2_with fail
    rw [show ((k : Int) + 4) = ((k + 4 : Nat) : Int) by omega]
    refine (l8Quantified_of f' (IH2.out f' rfl) s (k + 4) 8 (by omega) _ h2 hs (by omega)).mono ?_
    rintro e w1 ⟨x, rfl, hg⟩
    have HG := Lib.hid hg
    obtain ⟨r0, r1, r2, r3, r4, rf⟩ := cells5_cell (HB.out.later hg.1).res
    have hrb := bsz (heap_lt (HB.out.later hg.1).res)
    obtain ⟨hb1, op1, n1, v1, p1, q1, k1, c1, k2, d1, z1, rfl, -⟩ := hg
    clear hb1
    go_wp2
    refine bodyPost_ret (v := .tuple #[.agg #[.int .i64 op1, .string n1, .slice p1 k1 c1, .string v1, .slice q1 k2 d1], .int .i64 z1]) (by simp only [results, Tryz.results213]; go_simp) rfl ⟨_, rfl, ?_⟩
    rw [HFIN.out]
    exact GotFm.mono (by omega) (HB.out.pass HG.out _ _ _ _ _)
  have H1 := Lib.hid h1
  go_wp2_with fail
  refine (HST.out _ (by decide)).mono ?_
  rw [show (⟨#[97, 108, 108, 32]⟩ : ByteArray).data.toList.isPrefixOf (s.data.toList.drop k) = at8 s.data.toList sAll8 k from rfl, H1.out]
  rintro e w1 ⟨rfl, rfl⟩
  cases h2 : at8 s.data.toList sSome8 k
  case true =>
    have H2 := Lib.hid h2
    have h3 : k + 5 ≤ s.size := by have := at8_le h2 hk'; rw [← size_list] at this; exact this
    obtain ⟨f', rfl⟩ : ∃ q, f = q + 1 := ⟨f - 1, by omega⟩
    have HFIN := Lib.hid (show rFrm s.data.toList (f' + 1 + 1) k = rQua s.data.toList (f' + 1) 9 (k + 5) by rw [rFrm, if_neg (by rw [h1]; simp), if_pos h2])
    clear h1 h2
    go_wp2_with fail
    refine (HST.out _ (by decide)).mono ?_
    rw [show (⟨#[115, 111, 109, 101, 32]⟩ : ByteArray).data.toList.isPrefixOf (s.data.toList.drop k) = at8 s.data.toList sSome8 k from rfl, H2.out]
    rintro e w1 ⟨rfl, rfl⟩
    go_wp2_with fail
    rw [show ((k : Int) + 5) = ((k + 5 : Nat) : Int) by omega]
    refine (l8Quantified_of f' (IH2.out f' rfl) s (k + 5) 9 (by omega) _ h3 hs (by omega)).mono ?_
    rintro e w1 ⟨x, rfl, hg⟩
    have HG := Lib.hid hg
    obtain ⟨r0, r1, r2, r3, r4, rf⟩ := cells5_cell (HB.out.later hg.1).res
    have hrb := bsz (heap_lt (HB.out.later hg.1).res)
    obtain ⟨hb1, op1, n1, v1, p1, q1, k1, c1, k2, d1, z1, rfl, -⟩ := hg
    clear hb1
    go_wp2
    refine bodyPost_ret (v := .tuple #[.agg #[.int .i64 op1, .string n1, .slice p1 k1 c1, .string v1, .slice q1 k2 d1], .int .i64 z1]) (by simp only [results, Tryz.results213]; go_simp) rfl ⟨_, rfl, ?_⟩
    rw [HFIN.out]
    exact GotFm.mono (by omega) (HB.out.pass HG.out _ _ _ _ _)
  have H2 := Lib.hid h2
  go_wp2_with fail
  refine (HST.out _ (by decide)).mono ?_
  rw [show (⟨#[115, 111, 109, 101, 32]⟩ : ByteArray).data.toList.isPrefixOf (s.data.toList.drop k) = at8 s.data.toList sSome8 k from rfl, H2.out]
  rintro e w1 ⟨rfl, rfl⟩
  cases h3 : at8 s.data.toList [126, 40] k
  case true =>
    have H3 := Lib.hid h3
    have h4 : k + 2 ≤ s.size := by have := at8_le h3 hk'; rw [← size_list] at this; exact this
    obtain ⟨f', rfl⟩ : ∃ q, f = q + 1 := ⟨f - 1, by omega⟩
    have HF0 := Lib.hid (show rFrm s.data.toList (f' + 1 + 1) k = if rEqP s.data.toList (rSimp s.data.toList (k + 2)) then (rSimp s.data.toList (k + 2)).map (fun r => (opF 4 [r.1], r.2 + 1)) else (rPair s.data.toList (f' + 1) (k + 1)).map (fun r => (opF 4 [r.1], r.2)) by rw [rFrm, if_neg (by rw [h1]; simp), if_neg (by rw [h2]; simp), if_pos h3])
    clear h1 h2 h3
    go_wp2_with fail
    refine (HST.out _ (by decide)).mono ?_
    rw [show (⟨#[126, 40]⟩ : ByteArray).data.toList.isPrefixOf (s.data.toList.drop k) = at8 s.data.toList [126, 40] k from rfl, H3.out]
    rintro e w1 ⟨rfl, rfl⟩
    go_wp2_with fail
    rw [show ((k : Int) + 2) = ((k + 2 : Nat) : Int) by omega]
    refine (l8Simple_any s (k + 2) _ h4 hs).mono ?_
    rintro e w1 ⟨x, rfl, hgot1⟩
    have HB1 := Lib.hid (HB.out.later hgot1.1)
    obtain ⟨hb1, op1, n1, v1, p1, q1, k1, c1, k2, d1, z1, rfl, hm1⟩ := hgot1
    have hq1 := hb1.size
    cases hr : rSimp s.data.toList (k + 2) with
    | none =>
      rw [hr] at hm1
      simp only at hm1
      subst hm1
      have HFIN := Lib.hid (show rFrm s.data.toList (f' + 1 + 1) k = (rPair s.data.toList (f' + 1) (k + 1)).map (fun r => (opF 4 [r.1], r.2)) by rw [HF0.out, hr, if_neg (by simp [rEqP])])
      obtain ⟨r0, r1, r2, r3, r4, rf⟩ := cells5_cell HB1.out.res
      have hrb := bsz (heap_lt HB1.out.res)
      go_wp2_with fail
      obtain ⟨WB, hWB⟩ : ∃ WB : World, WB = w1.alloc (.cells #[.int .i64 op1, .string n1, .slice p1 k1 c1, .string v1, .slice q1 k2 d1] 44) := ⟨_, rfl⟩
      have HBB := Lib.hid (HB1.out.later (show Below w1.heap.size w1 WB by rw [hWB]; exact (Below.refl _ _).alloc (Nat.le_refl _) _))
      rw [← hWB]
      clear hWB
      rw [show ((k : Int) + 1) = ((k + 1 : Nat) : Int) by omega]
      refine (l8Pair_of f' (IH2.out f' rfl) s (k + 1) _ (by omega) hs (by omega)).mono ?_
      rintro e w2 ⟨x2, rfl, hgot⟩
      have HG := Lib.hid hgot
      clear hgot r0 r1 r2 r3 r4 rf hrb
      have HBR := Lib.hid (HBB.out.later HG.out.1)
      obtain ⟨r0, r1, r2, r3, r4, rf⟩ := cells5_cell HBR.out.res
      have hrb := bsz (heap_lt HBR.out.res)
      obtain ⟨hb2, op2, n2, v2, p2, q2, k2', c2', k3, d3, z2, hx2, hm2⟩ := HG.out
      subst hx2
      have HM := Lib.hid hm2
      have hq2 := hb2.size
      have hwW := HBB.out.bel.size
      have hwz := heap_lt HBB.out.res
      clear hb2 hm2
      go_wp2
      refine bodyPost_ret (v := .tuple #[.agg #[.int .i64 4, .string ⟨#[]⟩, .slice none 0 0, .string ⟨#[]⟩, .slice (some ⟨w2.heap.size + 1, 0, none⟩) 1 1], .int .i64 z2]) (by simp only [results, Tryz.results213]; go_simp) rfl ⟨_, rfl, ?_⟩
      rw [HFIN.out]
      have hmm := HM.out
      cases hr : rPair s.data.toList (f' + 1) (k + 1) with
      | none =>
        rw [hr] at hmm
        simp only at hmm
        subst hmm
        exact ((GotFm.no HBR.out _ _ _ _ _ _ _ _ _ _ _ _ _ _).later ((Below.refl _ _).alloc (Nat.le_refl _) _)).later ((Below.refl _ _).alloc (Nat.le_refl _) _)
      | some r =>
        obtain ⟨F, i⟩ := r
        rw [hr] at hmm
        simp only at hmm
        obtain ⟨rfl, hO⟩ := hmm
        have hk : ∀ (W3 : World), W3.heap.size = w2.heap.size → (∀ c, c ≠ w.heap.size → W3.heap[c]? = w2.heap[c]?) → ∀ (o o2 : Obj) c, c ≠ w.heap.size → c < w2.heap.size → ((W3.alloc o).alloc o2).heap[c]? = w2.heap[c]? := fun W3 hz hs o o2 c hc hlt => (hao _ _ c (by simp; omega)).trans ((hao _ _ c (by omega)).trans (hs c hc))
        refine GotFm.made (S := fun c => w.heap.size < c ∧ c < w2.heap.size + 2) (Below.al (Below.al (HBR.out.set _ _ _ _ _) _) _) ?_ (fun c hc => ⟨by omega, by simp; omega⟩) i
        refine FmOwn.mono ((f' + 1) + s.size + 7) ((f' + 1) + 1 + s.size + 6) _ _ (by omega) (SameOn.refl _ _) (fun _ h => h) (opF_own (m := (f' + 1) + s.size + 5) (by omega) ?_)
        exact OwnRow.one' (S := NewB WB w2) (by simp) #[.int .i64 op2, .string n2, .slice p2 k2' c2', .string v2, .slice q2 k3 d3] rfl
          (FmOwn.mono _ _ _ _ (by omega) (fun c (hc : NewB WB w2 c) hlt => hk _ (by simp) (fun c hc => set5_heap w2 _ c _ _ _ _ _ hc) _ _ c (by have := hc.1; omega) hlt) (fun _ h => h) hO)
          (fun c hc => by have := hc.2; omega) (fun c hc => by have h1 := hc.1; have h2 := hc.2; exact ⟨by omega, by omega⟩) ⟨by omega, by omega⟩
    | some r =>
      obtain ⟨P, j⟩ := r
      have hwt := rSimp_wt s.data.toList (k + 2) P j (by rw [← size_list]; exact h4) hr
      rw [← size_list] at hwt
      rw [hr] at hm1
      simp only at hm1
      obtain ⟨rfl, hO1⟩ := hm1
      obtain ⟨p', c', q', d', e1, e2, e3, e4, e5, -⟩ := hO1.form
      simp only [Value.int.injEq, Value.string.injEq, Value.slice.injEq, true_and] at e1 e2 e3 e4 e5
      obtain rfl := e1
      obtain rfl := e2
      obtain rfl := e4
      obtain ⟨rfl, rfl, rfl⟩ := e3
      obtain ⟨rfl, rfl, rfl⟩ := e5
      have HO1 := Lib.hid hO1
      have hjn : ((j : Nat) : Int) ≥ 0 := by omega
      have hjn' : (0 : Int) ≤ ((j : Nat) : Int) := by omega
      clear hO1
      cases hop : (P.op == 3)
      · have HFIN := Lib.hid (show rFrm s.data.toList (f' + 1 + 1) k = (rPair s.data.toList (f' + 1) (k + 1)).map (fun r => (opF 4 [r.1], r.2)) by rw [HF0.out, hr, if_neg (by simp [rEqP, hop])])
        clear hr
        obtain ⟨r0, r1, r2, r3, r4, rf⟩ := cells5_cell HB1.out.res
        have hrb := bsz (heap_lt HB1.out.res)
        go_wp2_with fail
        obtain ⟨WB, hWB⟩ : ∃ WB : World, WB = w1.alloc (.cells #[.int .i64 P.op, .string P.a.n, .slice p1 P.a.us.length c1, .string P.v, .slice q1 P.ps.length d1] 44) := ⟨_, rfl⟩
        have HBB := Lib.hid (HB1.out.later (show Below w1.heap.size w1 WB by rw [hWB]; exact (Below.refl _ _).alloc (Nat.le_refl _) _))
        rw [← hWB]
        clear hWB
        rw [show ((k : Int) + 1) = ((k + 1 : Nat) : Int) by omega]
        refine (l8Pair_of f' (IH2.out f' rfl) s (k + 1) _ (by omega) hs (by omega)).mono ?_
        rintro e w2 ⟨x2, rfl, hgot⟩
        have HG := Lib.hid hgot
        clear hgot r0 r1 r2 r3 r4 rf hrb
        have HBR := Lib.hid (HBB.out.later HG.out.1)
        obtain ⟨r0, r1, r2, r3, r4, rf⟩ := cells5_cell HBR.out.res
        have hrb := bsz (heap_lt HBR.out.res)
        obtain ⟨hb2, op2, n2, v2, p2, q2, k2', c2', k3, d3, z2, hx2, hm2⟩ := HG.out
        subst hx2
        have HM := Lib.hid hm2
        have hq2 := hb2.size
        have hwW := HBB.out.bel.size
        have hwz := heap_lt HBB.out.res
        clear hb2 hm2
        go_wp2
        refine bodyPost_ret (v := .tuple #[.agg #[.int .i64 4, .string ⟨#[]⟩, .slice none 0 0, .string ⟨#[]⟩, .slice (some ⟨w2.heap.size + 1, 0, none⟩) 1 1], .int .i64 z2]) (by simp only [results, Tryz.results213]; go_simp) rfl ⟨_, rfl, ?_⟩
        rw [HFIN.out]
        have hmm := HM.out
        cases hr : rPair s.data.toList (f' + 1) (k + 1) with
        | none =>
          rw [hr] at hmm
          simp only at hmm
          subst hmm
          exact ((GotFm.no HBR.out _ _ _ _ _ _ _ _ _ _ _ _ _ _).later ((Below.refl _ _).alloc (Nat.le_refl _) _)).later ((Below.refl _ _).alloc (Nat.le_refl _) _)
        | some r =>
          obtain ⟨F, i⟩ := r
          rw [hr] at hmm
          simp only at hmm
          obtain ⟨rfl, hO⟩ := hmm
          have hk : ∀ (W3 : World), W3.heap.size = w2.heap.size → (∀ c, c ≠ w.heap.size → W3.heap[c]? = w2.heap[c]?) → ∀ (o o2 : Obj) c, c ≠ w.heap.size → c < w2.heap.size → ((W3.alloc o).alloc o2).heap[c]? = w2.heap[c]? := fun W3 hz hs o o2 c hc hlt => (hao _ _ c (by simp; omega)).trans ((hao _ _ c (by omega)).trans (hs c hc))
          refine GotFm.made (S := fun c => w.heap.size < c ∧ c < w2.heap.size + 2) (Below.al (Below.al (HBR.out.set _ _ _ _ _) _) _) ?_ (fun c hc => ⟨by omega, by simp; omega⟩) i
          refine FmOwn.mono ((f' + 1) + s.size + 7) ((f' + 1) + 1 + s.size + 6) _ _ (by omega) (SameOn.refl _ _) (fun _ h => h) (opF_own (m := (f' + 1) + s.size + 5) (by omega) ?_)
          exact OwnRow.one' (S := NewB WB w2) (by simp) #[.int .i64 op2, .string n2, .slice p2 k2' c2', .string v2, .slice q2 k3 d3] rfl
            (FmOwn.mono _ _ _ _ (by omega) (fun c (hc : NewB WB w2 c) hlt => hk _ (by simp) (fun c hc => set5_heap w2 _ c _ _ _ _ _ hc) _ _ c (by have := hc.1; omega) hlt) (fun _ h => h) hO)
            (fun c hc => by have := hc.2; omega) (fun c hc => by have h1 := hc.1; have h2 := hc.2; exact ⟨by omega, by omega⟩) ⟨by omega, by omega⟩
      · cases hnm : (P.a.n.toList == [61])
        · have HFIN := Lib.hid (show rFrm s.data.toList (f' + 1 + 1) k = (rPair s.data.toList (f' + 1) (k + 1)).map (fun r => (opF 4 [r.1], r.2)) by
            rw [ByteArray.toList_eq] at hnm
            rw [HF0.out, hr, if_neg (by simp only [rEqP, hnm]; simp)])
          clear hr
          obtain ⟨r0, r1, r2, r3, r4, rf⟩ := cells5_cell HB1.out.res
          have hrb := bsz (heap_lt HB1.out.res)
          go_wp2_with fail
          obtain ⟨WB, hWB⟩ : ∃ WB : World, WB = w1.alloc (.cells #[.int .i64 P.op, .string P.a.n, .slice p1 P.a.us.length c1, .string P.v, .slice q1 P.ps.length d1] 44) := ⟨_, rfl⟩
          have HBB := Lib.hid (HB1.out.later (show Below w1.heap.size w1 WB by rw [hWB]; exact (Below.refl _ _).alloc (Nat.le_refl _) _))
          rw [← hWB]
          clear hWB
          rw [show ((k : Int) + 1) = ((k + 1 : Nat) : Int) by omega]
          refine (l8Pair_of f' (IH2.out f' rfl) s (k + 1) _ (by omega) hs (by omega)).mono ?_
          rintro e w2 ⟨x2, rfl, hgot⟩
          have HG := Lib.hid hgot
          clear hgot r0 r1 r2 r3 r4 rf hrb
          have HBR := Lib.hid (HBB.out.later HG.out.1)
          obtain ⟨r0, r1, r2, r3, r4, rf⟩ := cells5_cell HBR.out.res
          have hrb := bsz (heap_lt HBR.out.res)
          obtain ⟨hb2, op2, n2, v2, p2, q2, k2', c2', k3, d3, z2, hx2, hm2⟩ := HG.out
          subst hx2
          have HM := Lib.hid hm2
          have hq2 := hb2.size
          have hwW := HBB.out.bel.size
          have hwz := heap_lt HBB.out.res
          clear hb2 hm2
          go_wp2
          refine bodyPost_ret (v := .tuple #[.agg #[.int .i64 4, .string ⟨#[]⟩, .slice none 0 0, .string ⟨#[]⟩, .slice (some ⟨w2.heap.size + 1, 0, none⟩) 1 1], .int .i64 z2]) (by simp only [results, Tryz.results213]; go_simp) rfl ⟨_, rfl, ?_⟩
          rw [HFIN.out]
          have hmm := HM.out
          cases hr : rPair s.data.toList (f' + 1) (k + 1) with
          | none =>
            rw [hr] at hmm
            simp only at hmm
            subst hmm
            exact ((GotFm.no HBR.out _ _ _ _ _ _ _ _ _ _ _ _ _ _).later ((Below.refl _ _).alloc (Nat.le_refl _) _)).later ((Below.refl _ _).alloc (Nat.le_refl _) _)
          | some r =>
            obtain ⟨F, i⟩ := r
            rw [hr] at hmm
            simp only at hmm
            obtain ⟨rfl, hO⟩ := hmm
            have hk : ∀ (W3 : World), W3.heap.size = w2.heap.size → (∀ c, c ≠ w.heap.size → W3.heap[c]? = w2.heap[c]?) → ∀ (o o2 : Obj) c, c ≠ w.heap.size → c < w2.heap.size → ((W3.alloc o).alloc o2).heap[c]? = w2.heap[c]? := fun W3 hz hs o o2 c hc hlt => (hao _ _ c (by simp; omega)).trans ((hao _ _ c (by omega)).trans (hs c hc))
            refine GotFm.made (S := fun c => w.heap.size < c ∧ c < w2.heap.size + 2) (Below.al (Below.al (HBR.out.set _ _ _ _ _) _) _) ?_ (fun c hc => ⟨by omega, by simp; omega⟩) i
            refine FmOwn.mono ((f' + 1) + s.size + 7) ((f' + 1) + 1 + s.size + 6) _ _ (by omega) (SameOn.refl _ _) (fun _ h => h) (opF_own (m := (f' + 1) + s.size + 5) (by omega) ?_)
            exact OwnRow.one' (S := NewB WB w2) (by simp) #[.int .i64 op2, .string n2, .slice p2 k2' c2', .string v2, .slice q2 k3 d3] rfl
              (FmOwn.mono _ _ _ _ (by omega) (fun c (hc : NewB WB w2 c) hlt => hk _ (by simp) (fun c hc => set5_heap w2 _ c _ _ _ _ _ hc) _ _ c (by have := hc.1; omega) hlt) (fun _ h => h) hO)
              (fun c hc => by have := hc.2; omega) (fun c hc => by have h1 := hc.1; have h2 := hc.2; exact ⟨by omega, by omega⟩) ⟨by omega, by omega⟩
        · have HEQ := Lib.hid (show rEqP s.data.toList (rSimp s.data.toList (k + 2)) = at8 s.data.toList [41] j by
            rw [ByteArray.toList_eq] at hnm
            rw [hr]; simp only [rEqP, hnm, hop, Bool.true_and])
          have HR := Lib.hid hr
          clear hr
          obtain ⟨r0, r1, r2, r3, r4, rf⟩ := cells5_cell HB1.out.res
          have hrb := bsz (heap_lt HB1.out.res)
          go_wp2_with fail
          obtain ⟨WB, hWB⟩ : ∃ WB : World, WB = w1.alloc (.cells #[.int .i64 P.op, .string P.a.n, .slice p1 P.a.us.length c1, .string P.v, .slice q1 P.ps.length d1] 44) := ⟨_, rfl⟩
          have HBB := Lib.hid (HB1.out.later (show Below w1.heap.size w1 WB by rw [hWB]; exact (Below.refl _ _).alloc (Nat.le_refl _) _))
          have HTB := Lib.hid (show WB.heap[w1.heap.size]? = some (.cells #[.int .i64 P.op, .string P.a.n, .slice p1 P.a.us.length c1, .string P.v, .slice q1 P.ps.length d1] 44 (0, 0)) by rw [hWB]; exact heap_alloc_new w1 _)
          have hzB : WB.heap.size = w1.heap.size + 1 := by rw [hWB]; simp
          have HOB := Lib.hid (show FmOwn 41 44 (s.size + 6) (NewB W w1) WB P [.int .i64 P.op, .string P.a.n, .slice p1 P.a.us.length c1, .string P.v, .slice q1 P.ps.length d1] from FmOwn.mono _ _ _ _ (Nat.le_refl _) (fun b hb hlt => by rw [hWB]; exact hao w1 _ b hlt) (fun _ h => h) HO1.out)
          rw [← hWB]
          clear hWB HO1 r0 r1 r2 r3 r4 rf hrb
          obtain ⟨r0, r1, r2, r3, r4, rf⟩ := cells5_cell HBB.out.res
          have hrb := bsz (heap_lt HBB.out.res)
          refine (l8Starts_any s _ j _ hwt.2.1 (by omega) (by decide)).mono ?_
          rw [show (⟨#[41]⟩ : ByteArray).data.toList.isPrefixOf (s.data.toList.drop j) = at8 s.data.toList [41] j from rfl]
          rintro e w2 ⟨rfl, rfl⟩
          cases h41 : at8 s.data.toList [41] j
          · have HFIN := Lib.hid (show rFrm s.data.toList (f' + 1 + 1) k = (rPair s.data.toList (f' + 1) (k + 1)).map (fun r => (opF 4 [r.1], r.2)) by rw [HF0.out, HEQ.out, h41, if_neg (by simp)])
            clear hzB
            go_wp2_with fail
            rw [show ((k : Int) + 1) = ((k + 1 : Nat) : Int) by omega]
            refine (l8Pair_of f' (IH2.out f' rfl) s (k + 1) _ (by omega) hs (by omega)).mono ?_
            rintro e w2 ⟨x2, rfl, hgot⟩
            have HG := Lib.hid hgot
            clear hgot r0 r1 r2 r3 r4 rf hrb
            have HBR := Lib.hid (HBB.out.later HG.out.1)
            obtain ⟨r0, r1, r2, r3, r4, rf⟩ := cells5_cell HBR.out.res
            have hrb := bsz (heap_lt HBR.out.res)
            obtain ⟨hb2, op2, n2, v2, p2, q2, k2', c2', k3, d3, z2, hx2, hm2⟩ := HG.out
            subst hx2
            have HM := Lib.hid hm2
            have hq2 := hb2.size
            have hwW := HBB.out.bel.size
            have hwz := heap_lt HBB.out.res
            clear hb2 hm2
            go_wp2
            refine bodyPost_ret (v := .tuple #[.agg #[.int .i64 4, .string ⟨#[]⟩, .slice none 0 0, .string ⟨#[]⟩, .slice (some ⟨w2.heap.size + 1, 0, none⟩) 1 1], .int .i64 z2]) (by simp only [results, Tryz.results213]; go_simp) rfl ⟨_, rfl, ?_⟩
            rw [HFIN.out]
            have hmm := HM.out
            cases hr : rPair s.data.toList (f' + 1) (k + 1) with
            | none =>
              rw [hr] at hmm
              simp only at hmm
              subst hmm
              exact ((GotFm.no HBR.out _ _ _ _ _ _ _ _ _ _ _ _ _ _).later ((Below.refl _ _).alloc (Nat.le_refl _) _)).later ((Below.refl _ _).alloc (Nat.le_refl _) _)
            | some r =>
              obtain ⟨F, i⟩ := r
              rw [hr] at hmm
              simp only at hmm
              obtain ⟨rfl, hO⟩ := hmm
              have hk : ∀ (W3 : World), W3.heap.size = w2.heap.size → (∀ c, c ≠ w.heap.size → W3.heap[c]? = w2.heap[c]?) → ∀ (o o2 : Obj) c, c ≠ w.heap.size → c < w2.heap.size → ((W3.alloc o).alloc o2).heap[c]? = w2.heap[c]? := fun W3 hz hs o o2 c hc hlt => (hao _ _ c (by simp; omega)).trans ((hao _ _ c (by omega)).trans (hs c hc))
              refine GotFm.made (S := fun c => w.heap.size < c ∧ c < w2.heap.size + 2) (Below.al (Below.al (HBR.out.set _ _ _ _ _) _) _) ?_ (fun c hc => ⟨by omega, by simp; omega⟩) i
              refine FmOwn.mono ((f' + 1) + s.size + 7) ((f' + 1) + 1 + s.size + 6) _ _ (by omega) (SameOn.refl _ _) (fun _ h => h) (opF_own (m := (f' + 1) + s.size + 5) (by omega) ?_)
              exact OwnRow.one' (S := NewB WB w2) (by simp) #[.int .i64 op2, .string n2, .slice p2 k2' c2', .string v2, .slice q2 k3 d3] rfl
                (FmOwn.mono _ _ _ _ (by omega) (fun c (hc : NewB WB w2 c) hlt => hk _ (by simp) (fun c hc => set5_heap w2 _ c _ _ _ _ _ hc) _ _ c (by have := hc.1; omega) hlt) (fun _ h => h) hO)
                (fun c hc => by have := hc.2; omega) (fun c hc => by have h1 := hc.1; have h2 := hc.2; exact ⟨by omega, by omega⟩) ⟨by omega, by omega⟩
          · have HFIN := Lib.hid (show rFrm s.data.toList (f' + 1 + 1) k = some (opF 4 [P], j + 1) by rw [HF0.out, HEQ.out, h41, if_pos rfl, HR.out]; rfl)
            obtain ⟨b0, b1, b2, b3, b4, bf⟩ := cells5_cell HTB.out
            have hbb := bsz (heap_lt HTB.out)
            have HZB := Lib.hid hzB
            clear hzB
            go_wp2
            refine bodyPost_ret (v := .tuple #[.agg #[.int .i64 4, .string ⟨#[]⟩, .slice none 0 0, .string ⟨#[]⟩, .slice (some ⟨WB.heap.size, 0, none⟩) 1 1], .int .i64 ((j + 1 : Nat) : Int)]) (by simp only [results, Tryz.results213]; go_simp) rfl ⟨_, rfl, ?_⟩
            rw [HFIN.out]
            have hz := HZB.out
            refine GotFm.made (S := fun c => w.heap.size < c ∧ c < WB.heap.size + 1) (Below.al (HBB.out.set _ _ _ _ _) _) ?_ (fun c hc => ⟨by omega, by simp; omega⟩) (j + 1)
            refine FmOwn.mono (s.size + 7) (f' + 1 + 1 + s.size + 6) _ _ (by omega) (SameOn.refl _ _) (fun _ h => h) (opF_own (m := s.size + 5) (by omega) ?_)
            exact OwnRow.one' (S := NewB W w1) (by simp) #[.int .i64 P.op, .string P.a.n, .slice p1 P.a.us.length c1, .string P.v, .slice q1 P.ps.length d1] rfl
              (FmOwn.mono _ _ _ _ (by omega) (fun c (hc : NewB W w1 c) hlt => (hao _ _ c (by simp; omega)).trans (set5_heap WB _ c _ _ _ _ _ (by have := hc.1; omega))) (fun _ h => h) HOB.out)
              (fun c hc => by have := hc.2; omega) (fun c hc => by have h1 := hc.1; have h2 := hc.2; exact ⟨by omega, by omega⟩) ⟨by omega, by omega⟩
  have H3 := Lib.hid h3
  go_wp2_with fail
  refine (HST.out _ (by decide)).mono ?_
  rw [show (⟨#[126, 40]⟩ : ByteArray).data.toList.isPrefixOf (s.data.toList.drop k) = at8 s.data.toList [126, 40] k from rfl, H3.out]
  rintro e w1 ⟨rfl, rfl⟩
  cases h4 : at8 s.data.toList [126] k
  case true =>
    have H4 := Lib.hid h4
    have h5 : k + 1 ≤ s.size := by have := at8_le h4 hk'; rw [← size_list] at this; exact this
    have HFIN := Lib.hid (show rFrm s.data.toList (f + 1) k = (rFrm s.data.toList f (k + 1)).map (fun r => (opF 4 [r.1], r.2)) by rw [rFrm, if_neg (by rw [h1]; simp), if_neg (by rw [h2]; simp), if_neg (by rw [h3]; simp), if_pos h4])
    clear h1 h2 h3 h4
    go_wp2_with fail
    refine (HST.out _ (by decide)).mono ?_
    rw [show (⟨#[126]⟩ : ByteArray).data.toList.isPrefixOf (s.data.toList.drop k) = at8 s.data.toList [126] k from rfl, H4.out]
    rintro e w1 ⟨rfl, rfl⟩
    go_wp2_with fail
    rw [show ((k : Int) + 1) = ((k + 1 : Nat) : Int) by omega]
    refine (IH.out s (k + 1) _ h5 hs (by omega)).mono ?_
    rintro e w2 ⟨x2, rfl, hgot⟩
    obtain ⟨r0, r1, r2, r3, r4, rf⟩ := cells5_cell HB.out.res
    have hrb := bsz (heap_lt HB.out.res)
    have HG := Lib.hid hgot
    clear hgot r0 r1 r2 r3 r4 rf hrb
    have HBR := Lib.hid (HB.out.later HG.out.1)
    obtain ⟨r0, r1, r2, r3, r4, rf⟩ := cells5_cell HBR.out.res
    have hrb := bsz (heap_lt HBR.out.res)
    obtain ⟨hb2, op2, n2, v2, p2, q2, k2', c2', k3, d3, z2, hx2, hm2⟩ := HG.out
    subst hx2
    have HM := Lib.hid hm2
    have hq2 := hb2.size
    have hwW := HB.out.bel.size
    have hwz := heap_lt HB.out.res
    clear hb2 hm2
    go_wp2
    refine bodyPost_ret (v := .tuple #[.agg #[.int .i64 4, .string ⟨#[]⟩, .slice none 0 0, .string ⟨#[]⟩, .slice (some ⟨w2.heap.size + 1, 0, none⟩) 1 1], .int .i64 z2]) (by simp only [results, Tryz.results213]; go_simp) rfl ⟨_, rfl, ?_⟩
    rw [HFIN.out]
    have hmm := HM.out
    cases hr : rFrm s.data.toList f (k + 1) with
    | none =>
      rw [hr] at hmm
      simp only at hmm
      subst hmm
      exact ((GotFm.no HBR.out _ _ _ _ _ _ _ _ _ _ _ _ _ _).later ((Below.refl _ _).alloc (Nat.le_refl _) _)).later ((Below.refl _ _).alloc (Nat.le_refl _) _)
    | some r =>
      obtain ⟨F, i⟩ := r
      rw [hr] at hmm
      simp only at hmm
      obtain ⟨rfl, hO⟩ := hmm
      have hk : ∀ (W3 : World), W3.heap.size = w2.heap.size → (∀ c, c ≠ w.heap.size → W3.heap[c]? = w2.heap[c]?) → ∀ (o o2 : Obj) c, c ≠ w.heap.size → c < w2.heap.size → ((W3.alloc o).alloc o2).heap[c]? = w2.heap[c]? := fun W3 hz hs o o2 c hc hlt => (hao _ _ c (by simp; omega)).trans ((hao _ _ c (by omega)).trans (hs c hc))
      refine GotFm.made (S := fun c => w.heap.size < c ∧ c < w2.heap.size + 2) (Below.al (Below.al (HBR.out.set _ _ _ _ _) _) _) ?_ (fun c hc => ⟨by omega, by simp; omega⟩) i
      refine FmOwn.mono (f + s.size + 7) (f + 1 + s.size + 6) _ _ (by omega) (SameOn.refl _ _) (fun _ h => h) (opF_own (m := f + s.size + 5) (by omega) ?_)
      exact OwnRow.one' (S := NewB W w2) (by simp) #[.int .i64 op2, .string n2, .slice p2 k2' c2', .string v2, .slice q2 k3 d3] rfl
        (FmOwn.mono _ _ _ _ (by omega) (fun c (hc : NewB W w2 c) hlt => hk _ (by simp) (fun c hc => set5_heap w2 _ c _ _ _ _ _ hc) _ _ c (by have := hc.1; omega) hlt) (fun _ h => h) hO)
        (fun c hc => by have := hc.2; omega) (fun c hc => by have h1 := hc.1; have h2 := hc.2; exact ⟨by omega, by omega⟩) ⟨by omega, by omega⟩
  have H4 := Lib.hid h4
  go_wp2_with fail
  refine (HST.out _ (by decide)).mono ?_
  rw [show (⟨#[126]⟩ : ByteArray).data.toList.isPrefixOf (s.data.toList.drop k) = at8 s.data.toList [126] k from rfl, H4.out]
  rintro e w1 ⟨rfl, rfl⟩
  cases h5 : at8 s.data.toList [40] k
  case true =>
    have H5 := Lib.hid h5
    have h6 : k + 1 ≤ s.size := by have := at8_le h5 hk'; rw [← size_list] at this; exact this
    obtain ⟨f', rfl⟩ : ∃ q, f = q + 1 := ⟨f - 1, by omega⟩
    have HFIN := Lib.hid (show rFrm s.data.toList (f' + 1 + 1) k = rPair s.data.toList (f' + 1) k by rw [rFrm, if_neg (by rw [h1]; simp), if_neg (by rw [h2]; simp), if_neg (by rw [h3]; simp), if_neg (by rw [h4]; simp), if_pos h5])
    clear h1 h2 h3 h4 h5
    go_wp2_with fail
    refine (HST.out _ (by decide)).mono ?_
    rw [show (⟨#[40]⟩ : ByteArray).data.toList.isPrefixOf (s.data.toList.drop k) = at8 s.data.toList [40] k from rfl, H5.out]
    rintro e w1 ⟨rfl, rfl⟩
    go_wp2_with fail
    refine (l8Pair_of f' (IH2.out f' rfl) s k _ h6 hs (by omega)).mono ?_
    rintro e w1 ⟨x, rfl, hg⟩
    have HG := Lib.hid hg
    obtain ⟨r0, r1, r2, r3, r4, rf⟩ := cells5_cell (HB.out.later hg.1).res
    have hrb := bsz (heap_lt (HB.out.later hg.1).res)
    obtain ⟨hb1, op1, n1, v1, p1, q1, k1, c1, k2, d1, z1, rfl, -⟩ := hg
    clear hb1
    go_wp2
    refine bodyPost_ret (v := .tuple #[.agg #[.int .i64 op1, .string n1, .slice p1 k1 c1, .string v1, .slice q1 k2 d1], .int .i64 z1]) (by simp only [results, Tryz.results213]; go_simp) rfl ⟨_, rfl, ?_⟩
    rw [HFIN.out]
    exact GotFm.mono (by omega) (HB.out.pass HG.out _ _ _ _ _)
  have H5 := Lib.hid h5
  have HFIN := Lib.hid (show rFrm s.data.toList (f + 1) k = rSimp s.data.toList k by rw [rFrm, if_neg (by rw [h1]; simp), if_neg (by rw [h2]; simp), if_neg (by rw [h3]; simp), if_neg (by rw [h4]; simp), if_neg (by rw [h5]; simp)])
  clear h1 h2 h3 h4 h5
  go_wp2_with fail
  refine (HST.out _ (by decide)).mono ?_
  rw [show (⟨#[40]⟩ : ByteArray).data.toList.isPrefixOf (s.data.toList.drop k) = at8 s.data.toList [40] k from rfl, H5.out]
  rintro e w1 ⟨rfl, rfl⟩
  go_wp2_with fail
  refine (l8Simple_any s k _ hk hs).mono ?_
  rintro e w1 ⟨x, rfl, hg⟩
  have HG := Lib.hid hg
  obtain ⟨r0, r1, r2, r3, r4, rf⟩ := cells5_cell (HB.out.later hg.1).res
  have hrb := bsz (heap_lt (HB.out.later hg.1).res)
  obtain ⟨hb1, op1, n1, v1, p1, q1, k1, c1, k2, d1, z1, rfl, -⟩ := hg
  clear hb1
  go_wp2
  refine bodyPost_ret (v := .tuple #[.agg #[.int .i64 op1, .string n1, .slice p1 k1 c1, .string v1, .slice q1 k2 d1], .int .i64 z1]) (by simp only [results, Tryz.results213]; go_simp) rfl ⟨_, rfl, ?_⟩
  rw [HFIN.out]
  exact GotFm.mono (by omega) (HB.out.pass HG.out _ _ _ _ _)
theorem l8Read_any : ∀ f : Nat, ReadC f ∧ ReadC (f + 1)
  | 0 => ⟨fun _ _ _ _ _ hf => absurd hf (by omega), fun _ _ _ _ _ hf => absurd hf (by omega)⟩
  | f + 1 => ⟨(l8Read_any f).2, fun s k w hk hs hf => l8Read_of (f + 1) (l8Read_any f).2 (fun f' hf' => (show f = f' by omega) ▸ (l8Read_any f).1) s k w hk hs hf⟩
end Go.Proofs.YtkgfanajgdelcaaGreatDoor
namespace Go.Proofs.YtkgfanajgdelcaaGreatDoor
open Go.RowKit
def TxtAt (P : Program) (k : FuncId) (B : Nat → Prop) (m : Nat) : Prop := ∀ (t : Fm) (v0 v1 v2 v3 v4 : Value) (w : World), FmAt B m w t [v0, v1, v2, v3, v4] → t.form = true → t.txt.length ≤ 1000000000000 →
      Calls P k #[.agg #[v0, v1, v2, v3, v4]] w fun e w' => e = .returned (.string ⟨t.txt.toArray⟩) ∧ Below w.heap.size w w'
theorem TxtAt.call {P : Program} {k : FuncId} {B : Nat → Prop} {m : Nat} (ih : TxtAt P k B m) (t : Fm) (v0 v1 v2 v3 v4 : Value) (w : World) (h : FmAt B m w t [v0, v1, v2, v3, v4]) (hf : t.form = true) (hz : t.txt.length ≤ 1000000000000) :
      Calls P k #[.agg #[v0, v1, v2, v3, v4]] w fun e w' => e = .returned (.string ⟨t.txt.toArray⟩) ∧ Below w.heap.size w w' := ih t v0 v1 v2 v3 v4 w h hf hz
theorem FmAt.oneT {B : Nat → Prop} {m : Nat} {w : World} {g : Fm} {p : Option Addr} {c : Nat} (h : ListAt B w 5 (FmAt B m w) (.slice p 1 c) [g]) :
    ∃ b o x0 x1 x2 x3 x4, p = some ⟨b, o, none⟩ ∧ w.cell? ⟨b, o, none⟩ = some x0 ∧ w.cell? ⟨b, o + 1, none⟩ = some x1 ∧ w.cell? ⟨b, o + 2, none⟩ = some x2 ∧ w.cell? ⟨b, o + 3, none⟩ = some x3 ∧ w.cell? ⟨b, o + 4, none⟩ = some x4 ∧ FmAt B m w g [x0, x1, x2, x3, x4] := by
  obtain ⟨b, o, rfl, _, x0, x1, x2, x3, x4, hx0, hx1, hx2, hx3, hx4, hx⟩ := h.at5 (i := 0) (by simp)
  exact ⟨b, o, x0, x1, x2, x3, x4, rfl, by simpa using hx0, by simpa using hx1, by simpa using hx2, by simpa using hx3, by simpa using hx4, hx⟩
theorem FmAt.twoT {B : Nat → Prop} {m : Nat} {w : World} {g h : Fm} {p : Option Addr} {c : Nat} (hl : ListAt B w 5 (FmAt B m w) (.slice p 2 c) [g, h]) :
    ∃ b o x0 x1 x2 x3 x4 y0 y1 y2 y3 y4, p = some ⟨b, o, none⟩ ∧ (w.cell? ⟨b, o, none⟩ = some x0 ∧ w.cell? ⟨b, o + 1, none⟩ = some x1 ∧ w.cell? ⟨b, o + 2, none⟩ = some x2 ∧ w.cell? ⟨b, o + 3, none⟩ = some x3 ∧ w.cell? ⟨b, o + 4, none⟩ = some x4) ∧
      (w.cell? ⟨b, o + 5, none⟩ = some y0 ∧ w.cell? ⟨b, o + 6, none⟩ = some y1 ∧ w.cell? ⟨b, o + 7, none⟩ = some y2 ∧ w.cell? ⟨b, o + 8, none⟩ = some y3 ∧ w.cell? ⟨b, o + 9, none⟩ = some y4) ∧ FmAt B m w g [x0, x1, x2, x3, x4] ∧ FmAt B m w h [y0, y1, y2, y3, y4] := by
  obtain ⟨b, o, rfl, _, x0, x1, x2, x3, x4, hx0, hx1, hx2, hx3, hx4, hx⟩ := hl.at5 (i := 0) (by simp)
  obtain ⟨b', o', he, _, y0, y1, y2, y3, y4, hy0, hy1, hy2, hy3, hy4, hy⟩ := hl.at5 (i := 1) (by simp)
  simp only [Option.some.injEq, Addr.mk.injEq, and_true] at he
  obtain ⟨rfl, rfl⟩ := he
  exact ⟨b, o, x0, x1, x2, x3, x4, y0, y1, y2, y3, y4, rfl, ⟨by simpa using hx0, by simpa using hx1, by simpa using hx2, by simpa using hx3, by simpa using hx4⟩, ⟨by simpa using hy0, by simpa using hy1, by simpa using hy2, by simpa using hy3, by simpa using hy4⟩, hx, hy⟩
set_option maxRecDepth 100000 in
set_option maxHeartbeats 1600000 in
theorem l3Term_eq {B : Nat → Prop} (m : Nat) (a b : Tm) (v0 v1 : Value) (w : World) (h : TmAt B m w (eqTm a b) [v0, v1]) (ha : a.nodes = true) (hb : b.nodes = true) (hz : (eqTm a b).fmt.length ≤ 1000000000000) :
      Calls Tryz.prog 255 #[.agg #[v0, v1]] w fun e w' => e = .returned (.string ⟨(eqTm a b).fmt.toArray⟩) ∧ Below w.heap.size w w' := by
  have hl := h.args
  obtain ⟨p, c, rfl, rfl, -, -⟩ := h.form
  clear h
  have hl2 : ListAt B w 2 (TmAt B m w) (.slice p 2 c) [a, b] := hl
  obtain ⟨g, o, pa, ca, pb, cb, rfl, hx0, hx1, hx2, hx3, hta, htb⟩ := TmAt.pair hl2
  have HE := Lib.hid (fmt_eq a b)
  have hz2 : a.fmt.length + b.fmt.length + 3 ≤ 1000000000000 := by rw [fmt_eq] at hz; simp [sEq8] at hz; omega
  have HA := Lib.hid (And.intro hta ha)
  have HB := Lib.hid (And.intro htb hb)
  clear hl hl2 hta htb ha hb hz
  show Calls Tryz.prog 255 #[.agg #[.string ⟨#[61]⟩, .slice (some ⟨g, o, none⟩) 2 c]] w _
  go_enter Tryz.func255, Tryz.ntmps255
  go_wp2
  have zg := bsz (World.block_lt_of_cell? _ _ hx0)
  obtain ⟨W, hW⟩ : ∃ W : World, W = w.alloc (.cells #[.string ⟨#[61]⟩, .slice (some ⟨g, o, none⟩) 2 c] 41) := ⟨_, rfl⟩
  have hwb : W.cell? ⟨w.heap.size, 1, none⟩ = some (.slice (some ⟨g, o, none⟩) 2 c) := by rw [hW]; go_simp
  have hbW : Below w.heap.size w W := by rw [hW]; exact bel
  rw [← hW]
  clear hW
  have ⟨cW, fW⟩ := bcell hbW
  obtain ⟨C, HC0⟩ := class_of (InF W.heap.size _ [(⟨w.heap.size, 1, none⟩, .slice (some ⟨g, o, none⟩) 2 c), (⟨g, o, none⟩, .string a.n), (⟨g, o + 1, none⟩, .slice pa a.us.length ca), (⟨g, o + 2, none⟩, .string b.n), (⟨g, o + 3, none⟩, .slice pb b.us.length cb)] [] [])
  have HC := Lib.hid HC0
  clear HC0
  refine wp_region_flow (C := C) (by kernel_rfl) (by kernel_rfl) (fun L hL => (HC.out _ _).2 (InF.start (by first | (intro _ hs; cases hs; done) | (simp only [List.forall_mem_cons]; go_simp)) (by first | (intro _ hs; cases hs; done) | (simp only [List.forall_mem_cons]; go_simp)) (by first | (intro _ hs; cases hs; done) | (simp only [List.forall_mem_cons]; go_simp)) (by first | (intro _ hs; cases hs; done) | (simp only [List.forall_mem_cons]; go_simp)) L hL)) ?_
  repeat (first | ((first | apply flow_free rfl | (apply flow_yes; (case hw => go_simp))); (intro L w' hun hrd hC; have hC := (HC.out _ _).1 hC; have hb' := hC.below; (try have hw' : Below w.heap.size w w' := by first | exact Below.trans (by exact bel) hb' | (exact bel; done)); have hf' := hC.cell; (try simp only [List.forall_mem_cons] at hf'); go_simp; first | exact ⟨(HC.out _ _).2 (hC.skip _ (by rfl)), rfl⟩ | (rw [if_neg]; (exact ⟨(HC.out _ _).2 (hC.skip _ (by rfl)), rfl⟩); omega) | (go_at_call 255; (with_reducible refine (l3Term_any m a _ _ _ (HA.out.1.below hw') HA.out.2 (by omega)).mono ?_); rintro e w1 ⟨rfl, hb1⟩; exact ⟨rfl, (HC.out _ _).2 ((hC.next (by first | (simp; done) | (simp; omega) | omega) hb1).skip _ (by rfl))⟩) | (go_at_call 255; (with_reducible refine (l3Term_any m b _ _ _ (HB.out.1.below hw') HB.out.2 (by omega)).mono ?_); rintro e w1 ⟨rfl, hb1⟩; exact ⟨rfl, (HC.out _ _).2 ((hC.next (by first | (simp; done) | (simp; omega) | omega) hb1).skip _ (by rfl))⟩)); go_simp) | (apply flow_no; (case hw => (go_simp; try (intro hh; cases hh))); (intro L w' _ _ hC; exact (HC.out _ _).2 (((HC.out _ _).1 hC).skip _ (by rfl))); go_simp))
  refine flow_nil ?_
  intro L wz hL hz
  have hz := (HC.out _ _).1 hz
  have hbz := hz.below
  have hcz := hz.cell
  try simp only [List.forall_mem_cons] at hcz
  have hdz := hz.done
  try simp only [List.forall_mem_cons] at hdz
  (try have hwz : Below w.heap.size w wz := by first | exact Below.trans (by exact bel) hbz | (exact bel; done))
  go_wp2
  go_ret
  exact ⟨ret_strs (by rw [HE.out]; simp [sEq8]), by exact bel⟩
theorem l3Term_atom {B : Nat → Prop} (m : Nat) (t : Tm) (v0 v1 : Value) (w : World) (h : TmAt B m w t [v0, v1]) (ht : t.atom = true) (hz : t.fmt.length ≤ 1000000000000) :
      Calls Tryz.prog 255 #[.agg #[v0, v1]] w fun e w' => e = .returned (.string ⟨t.fmt.toArray⟩) ∧ Below w.heap.size w w' := by
  cases atom_cases ht with
  | eq a b ha hb => exact l3Term_eq m a b _ _ w h ha hb hz
  | pred n us hs hu hd => exact l3Term_any m _ _ _ w h hd hz
set_option maxRecDepth 100000 in
set_option maxHeartbeats 3200000 in
theorem l8Text_any {B : Nat → Prop} : ∀ m : Nat, TxtAt Tryz.prog 214 B m := by
  intro m
  induction m with
  | zero => intro t v0 v1 v2 v3 v4 w h; exact h.elim
  | succ m ih =>
    intro t v0 v1 v2 v3 v4 w hfm hf hz
    have IH := Lib.hid ih
    clear ih
    cases form_cases hf with
    | tru =>
      obtain ⟨p, c, q, d, rfl, rfl, rfl, rfl, rfl, -⟩ := hfm.form
      clear hfm hf hz
      show Calls Tryz.prog 214 #[.agg #[.int .i64 1, .string ⟨#[]⟩, .slice p 0 c, .string ⟨#[]⟩, .slice q 0 d]] w _
      go_enter Tryz.func214, Tryz.ntmps214
      go_wp2
      go_ret
      exact ⟨ret_str (by rw [opF, Fm.txt]; rfl), by exact bel⟩
    | fal =>
      obtain ⟨p, c, q, d, rfl, rfl, rfl, rfl, rfl, -⟩ := hfm.form
      clear hfm hf hz
      show Calls Tryz.prog 214 #[.agg #[.int .i64 2, .string ⟨#[]⟩, .slice p 0 c, .string ⟨#[]⟩, .slice q 0 d]] w _
      go_enter Tryz.func214, Tryz.ntmps214
      go_wp2
      go_ret
      exact ⟨ret_str (by rw [opF, Fm.txt]; rfl), by exact bel⟩
    | atm a ha =>
      have HA := Lib.hid (show TmAt B (m + 1) w a _ from hfm.atm)
      obtain ⟨p, c, q, d, rfl, rfl, rfl, rfl, rfl, -⟩ := hfm.form
      rw [txt_atm] at hz ⊢
      have HZ := Lib.hid (And.intro ha hz)
      clear hfm hf hz
      show Calls Tryz.prog 214 #[.agg #[.int .i64 3, .string a.n, .slice p a.us.length c, .string ⟨#[]⟩, .slice q 0 d]] w _
      go_enter Tryz.func214, Tryz.ntmps214
      go_wp2_with fail
      refine (l3Term_atom (m + 1) a _ _ _ (HA.out.below (by exact bel)) HZ.out.1 HZ.out.2).mono ?_
      rintro e w1 ⟨rfl, hb1⟩
      have ⟨cw1, fw1⟩ := bcell hb1
      have qw1 := hb1.size
      (try simp at qw1)
      (try have zw1w := bsz (show w.heap.size < w1.heap.size by omega))
      go_wp2
      go_ret
      exact ⟨rfl, by exact bel⟩
    | neg g hg =>
      obtain ⟨p, c, q, d, rfl, rfl, rfl, rfl, rfl, -⟩ := hfm.form
      obtain ⟨vn, va, vp, hcs, hop, hs, ht, hl⟩ := hfm
      simp only [List.cons.injEq, and_true] at hcs
      obtain ⟨-, -, -, -, rfl⟩ := hcs
      have hl' : ListAt B w 5 (FmAt B m w) (.slice q 1 d) [g] := hl
      obtain ⟨b, o, x0, x1, x2, x3, x4, rfl, hx0, hx1, hx2, hx3, hx4, hx⟩ := FmAt.oneT hl'
      have zb := bsz (World.block_lt_of_cell? _ _ hx0)
      obtain ⟨pg, cg, qg, dg, rfl, rfl, rfl, rfl, rfl, -⟩ := hx.form
      have HT := Lib.hid (txt_neg g)
      have hz2 : g.txt.length + 3 ≤ 1000000000003 := by rw [txt_neg] at hz; split at hz <;> (simp at hz; omega)
      have HX := Lib.hid (And.intro hx hg)
      have HQ := Lib.hid (fun h => eq_form hg h)
      clear hf hz ht hl hl' hx hg
      show Calls Tryz.prog 214 #[.agg #[.int .i64 4, .string ⟨#[]⟩, .slice p 0 c, .string ⟨#[]⟩, .slice (some ⟨b, o, none⟩) 1 d]] w _
      by_cases hq : g.a.n.data.toList = [61]
      · have hq2 : (g.a.n.toList == [61]) = true := by rw [ByteArray.toList_eq]; simpa using hq
        have hop3 : (g.op == 3) = true := by obtain ⟨a, b, rfl, -⟩ := HQ.out hq; rfl
        have HN := Lib.hid hq
        clear hq
        go_enter Tryz.func214, Tryz.ntmps214
        go_wp2_with fail
        refine (TxtAt.call IH.out g _ _ _ _ _ _ (HX.out.1.below (by exact bel)) HX.out.2 (by omega)).mono ?_
        rintro e w1 ⟨rfl, hb1⟩
        have ⟨cw1, fw1⟩ := bcell hb1
        have qw1 := hb1.size
        (try simp at qw1)
        (try have zw1w := bsz (show w.heap.size < w1.heap.size by omega))
        go_wp2
        go_ret
        exact ⟨ret_strs (by rw [HT.out, if_pos HN.out]; simp), by exact bel⟩
      · have hq2 : (g.a.n.toList == [61]) = false := by rw [ByteArray.toList_eq]; simpa using hq
        have HN := Lib.hid hq
        clear hq
        cases hop3 : (g.op == 3)
        all_goals
          go_enter Tryz.func214, Tryz.ntmps214
          go_wp2_with fail
          refine (TxtAt.call IH.out g _ _ _ _ _ _ (HX.out.1.below (by exact bel)) HX.out.2 (by omega)).mono ?_
          rintro e w1 ⟨rfl, hb1⟩
          have ⟨cw1, fw1⟩ := bcell hb1
          have qw1 := hb1.size
          (try simp at qw1)
          (try have zw1w := bsz (show w.heap.size < w1.heap.size by omega))
          go_wp2
          go_ret
          exact ⟨ret_strs (by rw [HT.out, if_neg HN.out]; simp), by exact bel⟩
    | bin op g h ho hg hh =>
      obtain ⟨p, c, q, d, rfl, rfl, rfl, rfl, rfl, -⟩ := hfm.form
      obtain ⟨vn, va, vp, hcs, hop, hs, ht, hl⟩ := hfm
      simp only [List.cons.injEq, and_true] at hcs
      obtain ⟨-, -, -, -, rfl⟩ := hcs
      have hl' : ListAt B w 5 (FmAt B m w) (.slice q 2 d) [g, h] := hl
      obtain ⟨b, o, x0, x1, x2, x3, x4, y0, y1, y2, y3, y4, rfl, ⟨hx0, hx1, hx2, hx3, hx4⟩, ⟨hy0, hy1, hy2, hy3, hy4⟩, hx, hy⟩ := FmAt.twoT hl'
      have zb := bsz (World.block_lt_of_cell? _ _ hx0)
      have HG := Lib.hid (And.intro hg hh)
      have HX := Lib.hid hx
      have HY := Lib.hid hy
      clear hf ht hl hl' hg hh hx hy
      rcases ho with rfl | rfl | rfl
      · have hz2 : g.txt.length + h.txt.length + 30 ≤ 1000000000030 := by rw [txt_bin (by decide)] at hz; simp at hz; omega
        clear hz
        show Calls Tryz.prog 214 #[.agg #[.int .i64 5, .string ⟨#[]⟩, .slice p 0 c, .string ⟨#[]⟩, .slice (some ⟨b, o, none⟩) 2 d]] w _
        go_enter Tryz.func214, Tryz.ntmps214
        go_wp2
        obtain ⟨W, hW⟩ : ∃ W : World, W = w.alloc (.cells #[.int .i64 5, .string ⟨#[]⟩, .slice p 0 c, .string ⟨#[]⟩, .slice (some ⟨b, o, none⟩) 2 d] 44) := ⟨_, rfl⟩
        have hwb : W.cell? ⟨w.heap.size, 4, none⟩ = some (.slice (some ⟨b, o, none⟩) 2 d) := by rw [hW]; go_simp
        have hbW : Below w.heap.size w W := by rw [hW]; exact bel
        rw [← hW]
        clear hW
        have ⟨cW, fW⟩ := bcell hbW
        obtain ⟨C, HC0⟩ := class_of (InF W.heap.size _ [(⟨w.heap.size, 4, none⟩, .slice (some ⟨b, o, none⟩) 2 d), (⟨b, o, none⟩, x0), (⟨b, o + 1, none⟩, x1), (⟨b, o + 2, none⟩, x2), (⟨b, o + 3, none⟩, x3), (⟨b, o + 4, none⟩, x4), (⟨b, o + 5, none⟩, y0), (⟨b, o + 6, none⟩, y1), (⟨b, o + 7, none⟩, y2), (⟨b, o + 8, none⟩, y3), (⟨b, o + 9, none⟩, y4)] [] [])
        have HC := Lib.hid HC0
        clear HC0
        refine wp_region_flow (C := C) (by kernel_rfl) (by kernel_rfl) (fun L hL => (HC.out _ _).2 (InF.start (by first | (intro _ hs; cases hs; done) | (simp only [List.forall_mem_cons]; go_simp)) (by first | (intro _ hs; cases hs; done) | (simp only [List.forall_mem_cons]; go_simp)) (by first | (intro _ hs; cases hs; done) | (simp only [List.forall_mem_cons]; go_simp)) (by first | (intro _ hs; cases hs; done) | (simp only [List.forall_mem_cons]; go_simp)) L hL)) ?_
        repeat (first | ((first | apply flow_free rfl | (apply flow_yes; (case hw => go_simp))); (intro L w' hun hrd hC; have hC := (HC.out _ _).1 hC; have hb' := hC.below; (try have hw' : Below w.heap.size w w' := by first | exact Below.trans (by exact bel) hb' | (exact bel; done)); have hf' := hC.cell; (try simp only [List.forall_mem_cons] at hf'); go_simp; first | exact ⟨(HC.out _ _).2 (hC.skip _ (by rfl)), rfl⟩ | (rw [if_neg]; (exact ⟨(HC.out _ _).2 (hC.skip _ (by rfl)), rfl⟩); omega) | (go_at_call 214; (with_reducible refine (TxtAt.call IH.out g x0 x1 x2 x3 x4 _ (HX.out.below hw') HG.out.1 (by omega)).mono ?_); rintro e w1 ⟨rfl, hb1⟩; exact ⟨rfl, (HC.out _ _).2 ((hC.next (by first | (simp; done) | (simp; omega) | omega) hb1).skip _ (by rfl))⟩) | (go_at_call 214; (with_reducible refine (TxtAt.call IH.out h y0 y1 y2 y3 y4 _ (HY.out.below hw') HG.out.2 (by omega)).mono ?_); rintro e w1 ⟨rfl, hb1⟩; exact ⟨rfl, (HC.out _ _).2 ((hC.next (by first | (simp; done) | (simp; omega) | omega) hb1).skip _ (by rfl))⟩)); go_simp) | (apply flow_no; (case hw => (go_simp; try (intro hh; cases hh))); (intro L w' _ _ hC; exact (HC.out _ _).2 (((HC.out _ _).1 hC).skip _ (by rfl))); go_simp))
        refine flow_nil ?_
        intro L wz hL hz
        have hz := (HC.out _ _).1 hz
        have hbz := hz.below
        have hcz := hz.cell
        try simp only [List.forall_mem_cons] at hcz
        have hdz := hz.done
        try simp only [List.forall_mem_cons] at hdz
        (try have hwz : Below w.heap.size w wz := by first | exact Below.trans (by exact bel) hbz | (exact bel; done))
        go_wp2
        go_ret
        exact ⟨ret_strs (by rw [txt_bin (by decide)]; simp [sign8, sAnd8]), by exact bel⟩
      · have hz2 : g.txt.length + h.txt.length + 30 ≤ 1000000000030 := by rw [txt_bin (by decide)] at hz; simp at hz; omega
        clear hz
        show Calls Tryz.prog 214 #[.agg #[.int .i64 6, .string ⟨#[]⟩, .slice p 0 c, .string ⟨#[]⟩, .slice (some ⟨b, o, none⟩) 2 d]] w _
        go_enter Tryz.func214, Tryz.ntmps214
        go_wp2
        obtain ⟨W, hW⟩ : ∃ W : World, W = w.alloc (.cells #[.int .i64 6, .string ⟨#[]⟩, .slice p 0 c, .string ⟨#[]⟩, .slice (some ⟨b, o, none⟩) 2 d] 44) := ⟨_, rfl⟩
        have hwb : W.cell? ⟨w.heap.size, 4, none⟩ = some (.slice (some ⟨b, o, none⟩) 2 d) := by rw [hW]; go_simp
        have hbW : Below w.heap.size w W := by rw [hW]; exact bel
        rw [← hW]
        clear hW
        have ⟨cW, fW⟩ := bcell hbW
        obtain ⟨C, HC0⟩ := class_of (InF W.heap.size _ [(⟨w.heap.size, 4, none⟩, .slice (some ⟨b, o, none⟩) 2 d), (⟨b, o, none⟩, x0), (⟨b, o + 1, none⟩, x1), (⟨b, o + 2, none⟩, x2), (⟨b, o + 3, none⟩, x3), (⟨b, o + 4, none⟩, x4), (⟨b, o + 5, none⟩, y0), (⟨b, o + 6, none⟩, y1), (⟨b, o + 7, none⟩, y2), (⟨b, o + 8, none⟩, y3), (⟨b, o + 9, none⟩, y4)] [] [])
        have HC := Lib.hid HC0
        clear HC0
        refine wp_region_flow (C := C) (by kernel_rfl) (by kernel_rfl) (fun L hL => (HC.out _ _).2 (InF.start (by first | (intro _ hs; cases hs; done) | (simp only [List.forall_mem_cons]; go_simp)) (by first | (intro _ hs; cases hs; done) | (simp only [List.forall_mem_cons]; go_simp)) (by first | (intro _ hs; cases hs; done) | (simp only [List.forall_mem_cons]; go_simp)) (by first | (intro _ hs; cases hs; done) | (simp only [List.forall_mem_cons]; go_simp)) L hL)) ?_
        repeat (first | ((first | apply flow_free rfl | (apply flow_yes; (case hw => go_simp))); (intro L w' hun hrd hC; have hC := (HC.out _ _).1 hC; have hb' := hC.below; (try have hw' : Below w.heap.size w w' := by first | exact Below.trans (by exact bel) hb' | (exact bel; done)); have hf' := hC.cell; (try simp only [List.forall_mem_cons] at hf'); go_simp; first | exact ⟨(HC.out _ _).2 (hC.skip _ (by rfl)), rfl⟩ | (rw [if_neg]; (exact ⟨(HC.out _ _).2 (hC.skip _ (by rfl)), rfl⟩); omega) | (go_at_call 214; (with_reducible refine (TxtAt.call IH.out g x0 x1 x2 x3 x4 _ (HX.out.below hw') HG.out.1 (by omega)).mono ?_); rintro e w1 ⟨rfl, hb1⟩; exact ⟨rfl, (HC.out _ _).2 ((hC.next (by first | (simp; done) | (simp; omega) | omega) hb1).skip _ (by rfl))⟩) | (go_at_call 214; (with_reducible refine (TxtAt.call IH.out h y0 y1 y2 y3 y4 _ (HY.out.below hw') HG.out.2 (by omega)).mono ?_); rintro e w1 ⟨rfl, hb1⟩; exact ⟨rfl, (HC.out _ _).2 ((hC.next (by first | (simp; done) | (simp; omega) | omega) hb1).skip _ (by rfl))⟩)); go_simp) | (apply flow_no; (case hw => (go_simp; try (intro hh; cases hh))); (intro L w' _ _ hC; exact (HC.out _ _).2 (((HC.out _ _).1 hC).skip _ (by rfl))); go_simp))
        refine flow_nil ?_
        intro L wz hL hz
        have hz := (HC.out _ _).1 hz
        have hbz := hz.below
        have hcz := hz.cell
        try simp only [List.forall_mem_cons] at hcz
        have hdz := hz.done
        try simp only [List.forall_mem_cons] at hdz
        (try have hwz : Below w.heap.size w wz := by first | exact Below.trans (by exact bel) hbz | (exact bel; done))
        go_wp2
        go_ret
        exact ⟨ret_strs (by rw [txt_bin (by decide)]; simp [sign8, sOr8]), by exact bel⟩
      · have hz2 : g.txt.length + h.txt.length + 30 ≤ 1000000000030 := by rw [txt_bin (by decide)] at hz; simp at hz; omega
        clear hz
        show Calls Tryz.prog 214 #[.agg #[.int .i64 7, .string ⟨#[]⟩, .slice p 0 c, .string ⟨#[]⟩, .slice (some ⟨b, o, none⟩) 2 d]] w _
        go_enter Tryz.func214, Tryz.ntmps214
        go_wp2
        obtain ⟨W, hW⟩ : ∃ W : World, W = w.alloc (.cells #[.int .i64 7, .string ⟨#[]⟩, .slice p 0 c, .string ⟨#[]⟩, .slice (some ⟨b, o, none⟩) 2 d] 44) := ⟨_, rfl⟩
        have hwb : W.cell? ⟨w.heap.size, 4, none⟩ = some (.slice (some ⟨b, o, none⟩) 2 d) := by rw [hW]; go_simp
        have hbW : Below w.heap.size w W := by rw [hW]; exact bel
        rw [← hW]
        clear hW
        have ⟨cW, fW⟩ := bcell hbW
        obtain ⟨C, HC0⟩ := class_of (InF W.heap.size _ [(⟨w.heap.size, 4, none⟩, .slice (some ⟨b, o, none⟩) 2 d), (⟨b, o, none⟩, x0), (⟨b, o + 1, none⟩, x1), (⟨b, o + 2, none⟩, x2), (⟨b, o + 3, none⟩, x3), (⟨b, o + 4, none⟩, x4), (⟨b, o + 5, none⟩, y0), (⟨b, o + 6, none⟩, y1), (⟨b, o + 7, none⟩, y2), (⟨b, o + 8, none⟩, y3), (⟨b, o + 9, none⟩, y4)] [] [])
        have HC := Lib.hid HC0
        clear HC0
        refine wp_region_flow (C := C) (by kernel_rfl) (by kernel_rfl) (fun L hL => (HC.out _ _).2 (InF.start (by first | (intro _ hs; cases hs; done) | (simp only [List.forall_mem_cons]; go_simp)) (by first | (intro _ hs; cases hs; done) | (simp only [List.forall_mem_cons]; go_simp)) (by first | (intro _ hs; cases hs; done) | (simp only [List.forall_mem_cons]; go_simp)) (by first | (intro _ hs; cases hs; done) | (simp only [List.forall_mem_cons]; go_simp)) L hL)) ?_
        repeat (first | ((first | apply flow_free rfl | (apply flow_yes; (case hw => go_simp))); (intro L w' hun hrd hC; have hC := (HC.out _ _).1 hC; have hb' := hC.below; (try have hw' : Below w.heap.size w w' := by first | exact Below.trans (by exact bel) hb' | (exact bel; done)); have hf' := hC.cell; (try simp only [List.forall_mem_cons] at hf'); go_simp; first | exact ⟨(HC.out _ _).2 (hC.skip _ (by rfl)), rfl⟩ | (rw [if_neg]; (exact ⟨(HC.out _ _).2 (hC.skip _ (by rfl)), rfl⟩); omega) | (go_at_call 214; (with_reducible refine (TxtAt.call IH.out g x0 x1 x2 x3 x4 _ (HX.out.below hw') HG.out.1 (by omega)).mono ?_); rintro e w1 ⟨rfl, hb1⟩; exact ⟨rfl, (HC.out _ _).2 ((hC.next (by first | (simp; done) | (simp; omega) | omega) hb1).skip _ (by rfl))⟩) | (go_at_call 214; (with_reducible refine (TxtAt.call IH.out h y0 y1 y2 y3 y4 _ (HY.out.below hw') HG.out.2 (by omega)).mono ?_); rintro e w1 ⟨rfl, hb1⟩; exact ⟨rfl, (HC.out _ _).2 ((hC.next (by first | (simp; done) | (simp; omega) | omega) hb1).skip _ (by rfl))⟩)); go_simp) | (apply flow_no; (case hw => (go_simp; try (intro hh; cases hh))); (intro L w' _ _ hC; exact (HC.out _ _).2 (((HC.out _ _).1 hC).skip _ (by rfl))); go_simp))
        refine flow_nil ?_
        intro L wz hL hz
        have hz := (HC.out _ _).1 hz
        have hbz := hz.below
        have hcz := hz.cell
        try simp only [List.forall_mem_cons] at hcz
        have hdz := hz.done
        try simp only [List.forall_mem_cons] at hdz
        (try have hwz : Below w.heap.size w wz := by first | exact Below.trans (by exact bel) hbz | (exact bel; done))
        go_wp2
        go_ret
        exact ⟨ret_strs (by rw [txt_bin (by decide)]; simp [sign8, sImp8]), by exact bel⟩
    | qua op v g ho hv hg =>
      obtain ⟨p, c, q, d, rfl, rfl, rfl, rfl, rfl, -⟩ := hfm.form
      obtain ⟨vn, va, vp, hcs, hop, hs, ht, hl⟩ := hfm
      simp only [List.cons.injEq, and_true] at hcs
      obtain ⟨-, -, -, -, rfl⟩ := hcs
      have hl' : ListAt B w 5 (FmAt B m w) (.slice q 1 d) [g] := hl
      obtain ⟨b, o, x0, x1, x2, x3, x4, rfl, hx0, hx1, hx2, hx3, hx4, hx⟩ := FmAt.oneT hl'
      have zb := bsz (World.block_lt_of_cell? _ _ hx0)
      have HG := Lib.hid hg
      have HX := Lib.hid hx
      clear hf ht hl hl' hg hx
      rcases ho with rfl | rfl
      · have hz2 : g.txt.length + v.length + 30 ≤ 1000000000030 := by rw [txt_qua (by decide)] at hz; simp at hz; omega
        clear hz
        show Calls Tryz.prog 214 #[.agg #[.int .i64 8, .string ⟨#[]⟩, .slice p 0 c, .string ⟨v.toArray⟩, .slice (some ⟨b, o, none⟩) 1 d]] w _
        go_enter Tryz.func214, Tryz.ntmps214
        go_wp2
        obtain ⟨W, hW⟩ : ∃ W : World, W = w.alloc (.cells #[.int .i64 8, .string ⟨#[]⟩, .slice p 0 c, .string ⟨v.toArray⟩, .slice (some ⟨b, o, none⟩) 1 d] 44) := ⟨_, rfl⟩
        have hwb : W.cell? ⟨w.heap.size, 3, none⟩ = some (.string ⟨v.toArray⟩) := by rw [hW]; go_simp
        have hwc : W.cell? ⟨w.heap.size, 4, none⟩ = some (.slice (some ⟨b, o, none⟩) 1 d) := by rw [hW]; go_simp
        have hbW : Below w.heap.size w W := by rw [hW]; exact bel
        rw [← hW]
        clear hW
        have zW := bsz (World.block_lt_of_cell? _ _ hwb)
        have ⟨cW, fW⟩ := bcell hbW
        obtain ⟨C, HC0⟩ := class_of (InF W.heap.size _ [(⟨w.heap.size, 3, none⟩, .string ⟨v.toArray⟩), (⟨w.heap.size, 4, none⟩, .slice (some ⟨b, o, none⟩) 1 d), (⟨b, o, none⟩, x0), (⟨b, o + 1, none⟩, x1), (⟨b, o + 2, none⟩, x2), (⟨b, o + 3, none⟩, x3), (⟨b, o + 4, none⟩, x4)] [] [])
        have HC := Lib.hid HC0
        clear HC0
        refine wp_region_flow (C := C) (by kernel_rfl) (by kernel_rfl) (fun L hL => (HC.out _ _).2 (InF.start (by first | (intro _ hs; cases hs; done) | (simp only [List.forall_mem_cons]; go_simp)) (by first | (intro _ hs; cases hs; done) | (simp only [List.forall_mem_cons]; go_simp)) (by first | (intro _ hs; cases hs; done) | (simp only [List.forall_mem_cons]; go_simp)) (by first | (intro _ hs; cases hs; done) | (simp only [List.forall_mem_cons]; go_simp)) L hL)) ?_
        repeat (first | ((first | apply flow_free rfl | (apply flow_yes; (case hw => go_simp))); (intro L w' hun hrd hC; have hC := (HC.out _ _).1 hC; have hb' := hC.below; (try have hw' : Below w.heap.size w w' := by first | exact Below.trans (by exact bel) hb' | (exact bel; done)); have hf' := hC.cell; (try simp only [List.forall_mem_cons] at hf'); go_simp; first | exact ⟨(HC.out _ _).2 (hC.skip _ (by rfl)), rfl⟩ | (rw [if_neg]; (exact ⟨(HC.out _ _).2 (hC.skip _ (by rfl)), rfl⟩); omega) | (go_at_call 214; (with_reducible refine (TxtAt.call IH.out g x0 x1 x2 x3 x4 _ (HX.out.below hw') HG.out (by omega)).mono ?_); rintro e w1 ⟨rfl, hb1⟩; exact ⟨rfl, (HC.out _ _).2 ((hC.next (by first | (simp; done) | (simp; omega) | omega) hb1).skip _ (by rfl))⟩)); go_simp) | (apply flow_no; (case hw => (go_simp; try (intro hh; cases hh))); (intro L w' _ _ hC; exact (HC.out _ _).2 (((HC.out _ _).1 hC).skip _ (by rfl))); go_simp))
        refine flow_nil ?_
        intro L wz hL hz
        have hz := (HC.out _ _).1 hz
        have hbz := hz.below
        have hcz := hz.cell
        try simp only [List.forall_mem_cons] at hcz
        have hdz := hz.done
        try simp only [List.forall_mem_cons] at hdz
        (try have hwz : Below w.heap.size w wz := by first | exact Below.trans (by exact bel) hbz | (exact bel; done))
        go_wp2
        go_ret
        exact ⟨ret_strs (by rw [txt_qua (by decide)]; simp [sAll8]), by exact bel⟩
      · have hz2 : g.txt.length + v.length + 30 ≤ 1000000000030 := by rw [txt_qua (by decide)] at hz; simp at hz; omega
        clear hz
        show Calls Tryz.prog 214 #[.agg #[.int .i64 9, .string ⟨#[]⟩, .slice p 0 c, .string ⟨v.toArray⟩, .slice (some ⟨b, o, none⟩) 1 d]] w _
        go_enter Tryz.func214, Tryz.ntmps214
        go_wp2
        obtain ⟨W, hW⟩ : ∃ W : World, W = w.alloc (.cells #[.int .i64 9, .string ⟨#[]⟩, .slice p 0 c, .string ⟨v.toArray⟩, .slice (some ⟨b, o, none⟩) 1 d] 44) := ⟨_, rfl⟩
        have hwb : W.cell? ⟨w.heap.size, 3, none⟩ = some (.string ⟨v.toArray⟩) := by rw [hW]; go_simp
        have hwc : W.cell? ⟨w.heap.size, 4, none⟩ = some (.slice (some ⟨b, o, none⟩) 1 d) := by rw [hW]; go_simp
        have hbW : Below w.heap.size w W := by rw [hW]; exact bel
        rw [← hW]
        clear hW
        have zW := bsz (World.block_lt_of_cell? _ _ hwb)
        have ⟨cW, fW⟩ := bcell hbW
        obtain ⟨C, HC0⟩ := class_of (InF W.heap.size _ [(⟨w.heap.size, 3, none⟩, .string ⟨v.toArray⟩), (⟨w.heap.size, 4, none⟩, .slice (some ⟨b, o, none⟩) 1 d), (⟨b, o, none⟩, x0), (⟨b, o + 1, none⟩, x1), (⟨b, o + 2, none⟩, x2), (⟨b, o + 3, none⟩, x3), (⟨b, o + 4, none⟩, x4)] [] [])
        have HC := Lib.hid HC0
        clear HC0
        refine wp_region_flow (C := C) (by kernel_rfl) (by kernel_rfl) (fun L hL => (HC.out _ _).2 (InF.start (by first | (intro _ hs; cases hs; done) | (simp only [List.forall_mem_cons]; go_simp)) (by first | (intro _ hs; cases hs; done) | (simp only [List.forall_mem_cons]; go_simp)) (by first | (intro _ hs; cases hs; done) | (simp only [List.forall_mem_cons]; go_simp)) (by first | (intro _ hs; cases hs; done) | (simp only [List.forall_mem_cons]; go_simp)) L hL)) ?_
        repeat (first | ((first | apply flow_free rfl | (apply flow_yes; (case hw => go_simp))); (intro L w' hun hrd hC; have hC := (HC.out _ _).1 hC; have hb' := hC.below; (try have hw' : Below w.heap.size w w' := by first | exact Below.trans (by exact bel) hb' | (exact bel; done)); have hf' := hC.cell; (try simp only [List.forall_mem_cons] at hf'); go_simp; first | exact ⟨(HC.out _ _).2 (hC.skip _ (by rfl)), rfl⟩ | (rw [if_neg]; (exact ⟨(HC.out _ _).2 (hC.skip _ (by rfl)), rfl⟩); omega) | (go_at_call 214; (with_reducible refine (TxtAt.call IH.out g x0 x1 x2 x3 x4 _ (HX.out.below hw') HG.out (by omega)).mono ?_); rintro e w1 ⟨rfl, hb1⟩; exact ⟨rfl, (HC.out _ _).2 ((hC.next (by first | (simp; done) | (simp; omega) | omega) hb1).skip _ (by rfl))⟩)); go_simp) | (apply flow_no; (case hw => (go_simp; try (intro hh; cases hh))); (intro L w' _ _ hC; exact (HC.out _ _).2 (((HC.out _ _).1 hC).skip _ (by rfl))); go_simp))
        refine flow_nil ?_
        intro L wz hL hz
        have hz := (HC.out _ _).1 hz
        have hbz := hz.below
        have hcz := hz.cell
        try simp only [List.forall_mem_cons] at hcz
        have hdz := hz.done
        try simp only [List.forall_mem_cons] at hdz
        (try have hwz : Below w.heap.size w wz := by first | exact Below.trans (by exact bel) hbz | (exact bel; done))
        go_wp2
        go_ret
        exact ⟨ret_strs (by rw [txt_qua (by decide)]; simp [sSome8]), by exact bel⟩
end Go.Proofs.YtkgfanajgdelcaaGreatDoor
namespace Go.Proofs.YtkgfanajgdelcaaGreatDoor
open Go.RowKit
theorem FmP.mono {m n g : Nat} {s : ByteArray} {F : Fm} {p' : PSt} {w w' : World} {x : Value} (hm : m ≤ n) (h : FmP m g s F p' w x w') : FmP n g s F p' w x w' := by
  obtain ⟨⟨v0, v1, v2, v3, v4, hx, hO⟩, h2⟩ := h
  exact ⟨⟨v0, v1, v2, v3, v4, hx, FmOwn.mono _ _ _ _ hm (SameOn.refl _ _) (fun _ h => h) hO⟩, h2⟩
/-- The equation's term, owned, in the world in which its arguments' slice has been made. -/
theorem eq_own {f g rb bt : Nat} {s : ByteArray} {p pq : PSt} {ro : Obj} {w0 W w1 : World} {n : List UInt8} {v v0 v1 : Value} {xs : List Tm} {tq : Tm} (h : TSt 41 190 ro w0 g rb bt s n p v xs f W) (hn : n.length ≤ 1000000) (hT : TermP 41 g W.heap.size s f tq pq 190 W.drew (.agg #[v0, v1]) w1) :
    TmOwn 41 (f + 2) (fun b => rb < b ∧ b < w1.heap.size + 1) (w1.alloc (.cells #[.string ⟨n.toArray⟩, v, v0, v1] 41)) (eqTm (.mk ⟨n.toArray⟩ xs) tq) [.string ⟨#[61]⟩, .slice (some ⟨w1.heap.size, 0, none⟩) 2 2] := by
  obtain ⟨v0', v1', he, hO, hP, hG⟩ := hT
  simp only [Value.agg.injEq, Array.mk.injEq, List.cons.injEq, and_true] at he
  obtain ⟨rfl, rfl⟩ := he
  obtain ⟨l1, l2, l3, l4⟩ := h.lt
  have hz : W.heap.size ≤ w1.heap.size := hG.size
  have hG1 : W.grownBy w1 (some g) := ⟨hG.os, hG.tape, hG.output, hG.size, hG.block⟩
  have h1 := TmOwn.mono (f + 1) (f + 1) _ _ (Nat.le_refl _) (w' := w1) (fun b hb hlt => hG1.block b hlt (by simp; omega)) (fun _ h => h) (h.term hn)
  refine ⟨_, rfl, by decide, ?_⟩
  exact OwnRow.two' rfl [.string ⟨n.toArray⟩, v] [v0, v1] _ rfl rfl rfl (TmOwn.below ((Below.refl _ _).alloc (Nat.le_refl _) _) h1) (TmOwn.mono f (f + 1) _ _ (by omega) (SameOn.below ((Below.refl _ _).alloc (Nat.le_refl _) _)) (fun _ h => h) hO)
    (fun b hb => by omega) (fun b hb => hb.2) (fun b hb hb' => by omega) (fun b hb => by omega) (fun b hb => by omega) (by omega)
end Go.Proofs.YtkgfanajgdelcaaGreatDoor
