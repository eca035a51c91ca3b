import Derived.Test.YtkgfanajgdelcaaGreatDoorUnPart13
namespace Go.Proofs.YtkgfanajgdelcaaGreatDoor
set_option maxRecDepth 100000
open Go.RowKit
theorem byte_46 (c : UInt8) : ((c.toNat : Int) == 46) = (c == 46) := by
  rw [Bool.eq_iff_iff, beq_iff_eq, beq_iff_eq]
  exact ⟨fun e => UInt8.toNat_inj.1 (show c.toNat = 46 by omega), fun e => by subst e; rfl⟩
def QuaSt (rb : Nat) (op : Int) (v : ByteArray) (y0 y1 y2 y3 y4 : Value) (W : World) : Nat → (Nat → Value) → World → Prop
  | 0, _, w => w = W.drew
  | 1, u, w => u 6 = .slice (some ⟨W.heap.size, 0, none⟩) 1 1 ∧ w = W.drew.alloc (.cells #[y0, y1, y2, y3, y4] 44)
  | 2, u, w => u 7 = .agg #[.int .i64 op, .string ⟨#[]⟩, .slice none 0 0, .string v, .slice (some ⟨W.heap.size, 0, none⟩) 1 1] ∧ w = W.drew.alloc (.cells #[y0, y1, y2, y3, y4] 44)
  | 3, _, w => w = ((((((W.setCell ⟨rb, 0, none⟩ (.int .i64 op)).setCell ⟨rb, 1, none⟩ (.string ⟨#[]⟩)).setCell ⟨rb, 2, none⟩ (.slice none 0 0)).setCell ⟨rb, 3, none⟩ (.string v)).setCell ⟨rb, 4, none⟩ (.slice (some ⟨W.heap.size, 0, none⟩) 1 1)).alloc (.cells #[y0, y1, y2, y3, y4] 44)).drew
  | _, _, _ => False
theorem qua_own {f k : Nat} {S : Nat → Prop} {W : World} (hk : W.heap.size = k) {F : Fm} {op : Int} {v : List UInt8} {y0 y1 y2 y3 y4 : Value} (ho : -9223372036854775808 ≤ op ∧ op ≤ 9223372036854775807) (hv : v.length ≤ 1000000) (hO : FmOwn 41 44 (f + 2) S W F [y0, y1, y2, y3, y4]) (hS : ∀ b, S b → b < k) :
    FmOwn 41 44 (f + 3) (fun b => S b ∨ b = k) (W.alloc (.cells #[y0, y1, y2, y3, y4] 44)) (quantF op v F) [.int .i64 op, .string ⟨#[]⟩, .slice none 0 0, .string ⟨v.toArray⟩, .slice (some ⟨k, 0, none⟩) 1 1] := by
  subst hk
  refine ⟨_, _, _, fun _ => False, fun b => S b ∨ b = W.heap.size, rfl, ho, by show v.toArray.size ≤ _; unfold maxLen; simp; omega, ?_, ?_, fun _ h => h.elim, fun _ h => h⟩
  · exact ⟨_, rfl, Nat.zero_le _, OwnRow.nil _ _ _ _ _⟩
  · exact OwnRow.one' rfl #[y0, y1, y2, y3, y4] rfl (FmOwn.later ((Below.refl _ _).alloc (Nat.le_refl _) _) hO) hS (fun b h => .inl h) (.inr rfl)
def ReadC (f : Nat) : Prop := ∀ (s : ByteArray) (k : Nat) (w : World), k ≤ s.size → s.size ≤ 1000000 → 2 * (s.size - k) + 1 < f →
    Calls Tryz.prog 213 #[.string s, .int .i64 (k : Nat)] w fun e w' => ∃ x, e = .returned x ∧ GotFm (f + s.size + 6) (rFrm s.data.toList f k) w x w'
set_option maxHeartbeats 3200000 in
theorem l8Quantified_of (f : Nat) (ih : ReadC f) (s : ByteArray) (k : Nat) (op : Int) (ho : -9223372036854775808 ≤ op ∧ op ≤ 9223372036854775807) (w : World) (hk : k ≤ s.size) (hs : s.size ≤ 1000000) (hf : 2 * (s.size - k) ≤ f) :
    Calls Tryz.prog 252 #[.string s, .int .i64 (k : Nat), .int .i64 op] w fun e w' => ∃ x, e = .returned x ∧ GotFm (f + 1 + s.size + 6) (rQua s.data.toList (f + 1) op k) w x w' := by
  have IH := Lib.hid ih
  have HB0 := Lib.hid (BSt.start w)
  clear ih
  go_enter Tryz.func252, Tryz.ntmps252
  go_wp2
  go_loopw [8] (ScanRel s k (w.alloc (.cells #[.int .i64 0, .string ⟨#[]⟩, .slice none 0 0, .string ⟨#[]⟩, .slice none 0 0] 44))) (fun i _ => s.size - (intOf i).toNat)
  case atStart => exact ⟨k, rfl, Nat.le_refl _, hk, fun i h1 h2 => absurd h2 (by omega), Below.refl _ _⟩
  case round =>
    obtain ⟨j, rfl, hj1, hj2, hall, hbr⟩ := hrel
    have HALL := Lib.hid hall
    have hqr := hbr.size
    simp at hqr
    have HBR := Lib.hid (show True → _ from fun _ => hbr)
    have HBW := Lib.hid (HB0.out.later hbr)
    clear hall hbr
    obtain ⟨r0, r1, r2, r3, r4, rf⟩ := cells5_cell HBW.out.res
    have hrb := bsz (heap_lt HBW.out.res)
    by_cases hlt : j < s.size
    · have hj3 : (j : Int) < s.size := by omega
      cases hw : wordC s[j]
      · have HSTOP := Lib.hid (show ∀ h : j < s.size, wordC s[j] = false from fun _ => hw)
        have HWD := Lib.hid (show rWordL s.data.toList k = (s.data.toList.drop k).take (j - k) from wordL_at (bad := false) HALL.out hj1 hj2 HSTOP.out)
        have HLL := Lib.hid (show (rWordL s.data.toList k).length = j - k by rw [HWD.out, List.length_take, List.length_drop, ← size_list]; omega)
        have HJ := Lib.hid (show k + (rWordL s.data.toList k).length = j by rw [HLL.out]; omega)
        have hq46 : ((j : Int) == (s.size : Int)) = false := by simp; omega
        cases h46 : ((s[j].toNat : Int) == 46)
        · have HFIN := Lib.hid (show rQua s.data.toList (f + 1) op k = none by
            rw [rQua, HJ.out, list_at s j hlt, if_neg (by
              intro e; injection e with e; rw [byte_46] at h46; rw [e] at h46; simp at h46)])
          have h46' : ((s[j].toNat : Int) != 46) = true := by rw [bne, h46]; rfl
          go_wp2_with (first | (go_at_call 272; refine (l3Word_any _ _).mono ?_; rintro e w' ⟨rfl, rfl⟩))
          refine bodyPost_ret (v := .tuple #[.agg #[.int .i64 0, .string ⟨#[]⟩, .slice none 0 0, .string ⟨#[]⟩, .slice none 0 0], .int .i64 (-1)]) (by simp only [results, Tryz.results252]; go_simp) rfl ⟨_, rfl, ?_⟩
          rw [HFIN.out]
          exact GotFm.no HBW.out _ _ _ _ _ _ _ _ _ _ _ _ _ _
        · have HFIN0 := Lib.hid (show rQua s.data.toList (f + 1) op k = (rFrm s.data.toList f (j + 1)).map (fun r => (quantF op (rWordL s.data.toList k) r.1, r.2)) by
            rw [rQua, HJ.out, list_at s j hlt, if_pos (by
              rw [byte_46, beq_iff_eq] at h46; rw [h46])])
          have h46' : ((s[j].toNat : Int) != 46) = false := by rw [bne, h46]; rfl
          have HNM := Lib.hid (show (⟨(rWordL s.data.toList k).toArray⟩ : ByteArray) = s.extract k j by
            exact (str_eq (by rw [extract_list, HWD.out, List.drop_take])).symm)
          have hwl : (rWordL s.data.toList k).length ≤ 1000000 := by rw [HLL.out]; omega
          clear HB0 r0 r1 r2 r3 r4 rf hrb
          go_wp2_with (first | (go_at_call 272; refine (l3Word_any _ _).mono ?_; rintro e w' ⟨rfl, rfl⟩))
          rw [show ((j : Int) + 1) = ((j + 1 : Nat) : Int) by omega]
          refine (IH.out s (j + 1) _ (by omega) hs (by omega)).mono ?_
          rintro e w1 ⟨x, rfl, hb1, op1, n1, v1, p1, q1, k1, c1, k2, d1, z1, rfl, hgot⟩
          have HB1 := Lib.hid (HBW.out.later hb1)
          have hq1 := hb1.size
          clear HBW hb1
          go_wp2
          obtain ⟨W, hW⟩ : ∃ W : World, W = w1.alloc (.cells #[.int .i64 op1, .string n1, .slice p1 k1 c1, .string v1, .slice q1 k2 d1] 44) := ⟨_, rfl⟩
          have HBV := Lib.hid (HB1.out.later (show Below w1.heap.size w1 W by rw [hW]; exact (Below.refl _ _).alloc (Nat.le_refl _) _))
          have HT := Lib.hid (show W.heap[w1.heap.size]? = some (.cells #[.int .i64 op1, .string n1, .slice p1 k1 c1, .string v1, .slice q1 k2 d1] 44 (0, 0)) by rw [hW]; exact heap_alloc_new w1 _)
          have hzW : W.heap.size = w1.heap.size + 1 := by rw [hW]; simp
          have HO := Lib.hid (show ∀ F S, FmOwn 41 44 (f + s.size + 6) S w1 F [.int .i64 op1, .string n1, .slice p1 k1 c1, .string v1, .slice q1 k2 d1] → FmOwn 41 44 (f + s.size + 6) S W F [.int .i64 op1, .string n1, .slice p1 k1 c1, .string v1, .slice q1 k2 d1] from fun F S h => FmOwn.mono _ _ _ _ (Nat.le_refl _) (fun b hb hlt => by rw [hW]; exact hao w1 _ b hlt) (fun _ h => h) h)
          have HZW := Lib.hid hzW
          have hwW := HBV.out.bel.size
          rw [← hW]
          clear hW HB1 hzW
          refine wp_region_stages [some (.int .i64 op), some (.string s), some (.int .i64 (k : Nat)), some (.int .i64 (j : Nat)), some (.string (s.extract k j)), some (.agg #[.int .i64 op1, .string n1, .slice p1 k1 c1, .string v1, .slice q1 k2 d1]), none, none, some (.int .i64 z1), none, some (.int .i64 z1)] [6, 7, 9] (QuaSt w.heap.size op (s.extract k j) (.int .i64 op1) (.string n1) (.slice p1 k1 c1) (.string v1) (.slice q1 k2 d1) W) (by kernel_rfl) (by kernel_rfl) (by first | kernel_rfl | rfl) (by rfl) rfl ?_
          refine chain_st rfl rfl (by decide) rfl (by intro j u w' hS; go_simp; first | done | exact ⟨hS, rfl⟩ | exact hS | rfl) ?_
          go_simp
          refine chain_st rfl rfl (by decide) rfl (by intro j u w' hS; go_simp; first | done | exact ⟨hS, rfl⟩ | exact hS | rfl) ?_
          go_simp
          refine chain_st rfl rfl (by decide) rfl (by intro j u w' hS; go_simp; first | done | exact ⟨hS, rfl⟩ | exact hS | rfl) ?_
          go_simp
          refine chain_st rfl rfl (by decide) rfl (by intro j u w' hS; go_simp; first | done | exact ⟨hS, rfl⟩ | exact hS | rfl) ?_
          go_simp
          refine chain_st rfl rfl (by decide) rfl (by intro j u w' hS; go_simp; first | done | exact ⟨hS, rfl⟩ | exact hS | rfl) ?_
          go_simp
          refine chain_stb (c := 6) 0 rfl rfl (by decide) rfl rfl rfl (by first | kernel_rfl | rfl) ?_ ?_
          · intro j u w' hj hS
            obtain ⟨hc0, hc1, hc2, hc3, hc4, -⟩ := cells5_cell (w := w') (g := w1.heap.size) (by
              match j, hj, hS with
              | 0, _, h => obtain rfl : w' = W.drew := h; exact HT.out)
            go_simp
            first | done | exact ⟨hS, rfl⟩ | exact hS | rfl
          go_simp
          refine chain_first rfl rfl rfl (by decide) rfl ?_ ?_
          · intro w' hS
            obtain rfl : w' = W.drew := hS
            go_simp
            exact ⟨by show upd _ 6 _ 6 = _; rw [upd_same], rfl⟩
          intro x
          go_simp
          refine chain_next 0 rfl rfl rfl rfl (by decide) rfl (by first | kernel_rfl | rfl) ?_ ?_
          · intro w' hS
            obtain ⟨hu, rfl⟩ := hS
            rw [upd_same] at hu
            subst hu
            go_simp
            exact ⟨by show upd _ 7 _ 7 = _; rw [upd_same], rfl⟩
          intro y
          go_simp
          refine chain_st rfl rfl (by decide) rfl (by intro j u w' hS; go_simp; first | done | exact ⟨hS, rfl⟩ | exact hS | rfl) ?_
          go_simp
          refine chain_next 1 rfl rfl rfl rfl (by decide) rfl (by first | kernel_rfl | rfl) ?_ ?_
          · intro w' hS
            obtain ⟨hu, rfl⟩ := hS
            have hu : upd _ 7 y 7 = _ := hu
            rw [upd_same] at hu
            subst hu
            obtain ⟨r0, r1, r2, r3, r4, rf⟩ := cells5_cell HBV.out.res
            have hrb := bsz (heap_lt HBV.out.res)
            go_simp
            rfl
          intro z
          go_simp
          refine chain_st rfl rfl (by decide) rfl (by intro j u w' hS; go_simp; first | done | exact ⟨hS, rfl⟩ | exact hS | rfl) ?_
          go_simp
          refine flowU_nil ?_
          intro wz hz
          obtain rfl := hz
          obtain ⟨r0, r1, r2, r3, r4, rf⟩ := cells5_cell HBV.out.res
          have hrb := bsz (heap_lt HBV.out.res)
          go_simp
          go_wp2
          refine bodyPost_ret (v := .tuple #[.agg #[.int .i64 op, .string ⟨#[]⟩, .slice none 0 0, .string (s.extract k j), .slice (some ⟨W.heap.size, 0, none⟩) 1 1], .int .i64 z1]) (by simp only [results, Tryz.results252]; go_simp) rfl ⟨_, rfl, ?_⟩
          rw [HFIN0.out]
          cases hr : rFrm s.data.toList f (j + 1) with
          | none =>
            rw [hr] at hgot
            simp only at hgot
            subst hgot
            exact ((GotFm.no HBV.out _ _ _ _ _ _ _ _ _ _ _ _ _ _).later ((Below.refl _ _).alloc (Nat.le_refl _) _)).later (Below.dr (Below.refl _ _))
          | some r =>
            obtain ⟨F, i⟩ := r
            rw [hr] at hgot
            simp only at hgot
            obtain ⟨rfl, hO⟩ := hgot
            have h1 := HBV.out.bel.size
            have h0 := HZW.out
            have hO1 := FmOwn.mono _ _ _ _ (Nat.le_refl _) (w' := ((((W.setCell ⟨w.heap.size, 0, none⟩ (.int .i64 op)).setCell ⟨w.heap.size, 1, none⟩ (.string ⟨#[]⟩)).setCell ⟨w.heap.size, 2, none⟩ (.slice none 0 0)).setCell ⟨w.heap.size, 3, none⟩ (.string (s.extract k j))).setCell ⟨w.heap.size, 4, none⟩ (.slice (some ⟨W.heap.size, 0, none⟩) 1 1)) (fun b (hb : NewB wr w1 b) _ => set5_heap W _ b _ _ _ _ _ (by have := hb.1; omega)) (fun _ h => h) (HO.out F _ hO)
            have h2 := qua_own (f := f + s.size + 4) (k := W.heap.size) (by simp) (op := op) (v := rWordL s.data.toList k) ho hwl hO1 (fun b hb => by have := hb.2; omega)
            rw [HNM.out] at h2
            exact (GotFm.made (Below.al (HBV.out.set _ _ _ _ _) _) (FmOwn.mono _ _ _ _ (by omega) (SameOn.refl _ _) (fun _ h => h) h2) (fun b hb => by
              rcases hb with hb | hb
              · have h3 := hb.1; have h4 := hb.2; exact ⟨by omega, by simp; omega⟩
              · have hb : b = W.heap.size := hb
                exact ⟨by omega, by simp; omega⟩) i).later (Below.dr (Below.refl _ _))
      · have HW := Lib.hid hw
        go_wp2_with (first | (go_at_call 272; refine (l3Word_any _ _).mono ?_; rintro e w' ⟨rfl, rfl⟩))
        refine ⟨⟨j + 1, by go_num, by omega, by omega, fun i h1 h2 h3 => ?_, HBR.out trivial⟩, by simp [intOf]; omega⟩
        by_cases e : i = j
        · subst e; exact HW.out
        · exact HALL.out i h1 (by omega) h3
    · have HSTOP := Lib.hid (show ∀ h : j < s.size, wordC s[j] = false from fun h => absurd h hlt)
      have hj3 : ¬ (j : Int) < s.size := by omega
      have HWD := Lib.hid (show rWordL s.data.toList k = (s.data.toList.drop k).take (j - k) from wordL_at (bad := false) HALL.out hj1 hj2 HSTOP.out)
      have HLL := Lib.hid (show (rWordL s.data.toList k).length = j - k by rw [HWD.out, List.length_take, List.length_drop, ← size_list]; omega)
      have HJ := Lib.hid (show k + (rWordL s.data.toList k).length = j by rw [HLL.out]; omega)
      have hk2 : ((j : Int) == (s.size : Int)) = true := by simp; omega
      have HFIN := Lib.hid (show rQua s.data.toList (f + 1) op k = none by
        rw [rQua, HJ.out, List.getElem?_eq_none (by rw [← size_list]; omega), if_neg (by simp)])
      go_wp2
      refine bodyPost_ret (v := .tuple #[.agg #[.int .i64 0, .string ⟨#[]⟩, .slice none 0 0, .string ⟨#[]⟩, .slice none 0 0], .int .i64 (-1)]) (by simp only [results, Tryz.results252]; go_simp) rfl ⟨_, rfl, ?_⟩
      rw [HFIN.out]
      exact GotFm.no HBW.out _ _ _ _ _ _ _ _ _ _ _ _ _ _
set_option maxHeartbeats 6400000 in
theorem l8Pair_of (f : Nat) (ih : ReadC f) (s : ByteArray) (k : Nat) (w : World) (hk : k + 1 ≤ s.size) (hs : s.size ≤ 1000000) (hf : 2 * (s.size - (k + 1)) + 1 < f) :
    Calls Tryz.prog 254 #[.string s, .int .i64 (k : Nat)] w fun e w' => ∃ x, e = .returned x ∧ GotFm (f + 1 + s.size + 6) (rPair s.data.toList (f + 1) k) w x w' := by
  have IH := Lib.hid ih
  have HB0 := Lib.hid (BSt.start w)
  clear ih
  go_enter Tryz.func254, Tryz.ntmps254
  go_wp2_with fail
  rw [show ((k : Int) + 1) = ((k + 1 : Nat) : Int) by omega]
  refine (IH.out s (k + 1) _ hk hs hf).mono ?_
  rintro e w1 ⟨x, rfl, hb1, op1, n1, v1, p1, q1, k1, c1, k2, d1, z1, rfl, hgot⟩
  have HB1 := Lib.hid (HB0.out.later hb1)
  have hq1 := hb1.size
  (try simp at hq1)
  clear HB0 hb1
  cases hr : rFrm s.data.toList f (k + 1) with
  | none =>
    rw [hr] at hgot
    simp only at hgot
    subst hgot
    obtain ⟨r0, r1, r2, r3, r4, rf⟩ := cells5_cell HB1.out.res
    have hrb := bsz (heap_lt HB1.out.res)
    have HFIN := Lib.hid (show rPair s.data.toList (f + 1) k = none by rw [rPair, hr])
    go_wp2
    refine bodyPost_ret (v := .tuple #[.agg #[.int .i64 0, .string ⟨#[]⟩, .slice none 0 0, .string ⟨#[]⟩, .slice none 0 0], .int .i64 (-1)]) (by simp only [results, Tryz.results254]; go_simp) rfl ⟨_, rfl, ?_⟩
    rw [HFIN.out]
    exact (GotFm.no HB1.out _ _ _ _ _ _ _ _ _ _ _ _ _ _).later ((Below.refl _ _).alloc (Nat.le_refl _) _)
  | some aj =>
    obtain ⟨a, j⟩ := aj
    have hw1 := rFrm_wt s.data.toList f (k + 1) a j (by rw [← size_list]; exact hk) hr
    rw [← size_list] at hw1
    rw [hr] at hgot
    simp only at hgot
    obtain ⟨rfl, hOA⟩ := hgot
    have hjn : ¬ ((j : Nat) : Int) < 0 := by omega
    go_wp2_with fail
    obtain ⟨W, hW⟩ : ∃ W : World, W = w1.alloc (.cells #[.int .i64 op1, .string n1, .slice p1 k1 c1, .string v1, .slice q1 k2 d1] 44) := ⟨_, rfl⟩
    have HBW := Lib.hid (HB1.out.later (show Below w1.heap.size w1 W by rw [hW]; exact (Below.refl _ _).alloc (Nat.le_refl _) _))
    have HT := Lib.hid (show W.heap[w1.heap.size]? = some (.cells #[.int .i64 op1, .string n1, .slice p1 k1 c1, .string v1, .slice q1 k2 d1] 44 (0, 0)) by rw [hW]; exact heap_alloc_new w1 _)
    have hzW : W.heap.size = w1.heap.size + 1 := by rw [hW]; simp
    have HOA := Lib.hid (show FmOwn 41 44 (f + s.size + 6) (fun b => w.heap.size + 1 ≤ b ∧ b < w1.heap.size) W a [.int .i64 op1, .string n1, .slice p1 k1 c1, .string v1, .slice q1 k2 d1] from FmOwn.mono _ _ _ _ (Nat.le_refl _) (fun b hb hlt => by rw [hW]; exact hao w1 _ b hlt) (fun b hb => by simpa [NewB] using hb) hOA)
    rw [← hW]
    clear hW hOA HB1
    obtain ⟨r0, r1, r2, r3, r4, rf⟩ := cells5_cell HBW.out.res
    have hrb := bsz (heap_lt HBW.out.res)
    obtain ⟨b0, b1, b2, b3, b4, bf⟩ := cells5_cell HT.out
    have hbb := bsz (heap_lt HT.out)
    have st := fun (t : ByteArray) (ht : t.size ≤ 1000000) => l8Starts_any s t j W hw1.2 (by omega) ht
    have HST := Lib.hid st
    clear st
    refine (HST.out _ (by decide)).mono ?_
    rw [show (⟨#[32, 38, 32]⟩ : ByteArray).data.toList.isPrefixOf (s.data.toList.drop j) = at8 s.data.toList sAnd8 j from rfl]
    rintro e w2 ⟨rfl, rfl⟩
    cases h5 : at8 s.data.toList sAnd8 j
    · go_wp2_with fail
      refine (HST.out _ (by decide)).mono ?_
      rw [show (⟨#[32, 124, 32]⟩ : ByteArray).data.toList.isPrefixOf (s.data.toList.drop j) = at8 s.data.toList sOr8 j from rfl]
      rintro e w2 ⟨rfl, rfl⟩
      cases h6 : at8 s.data.toList sOr8 j
      · go_wp2_with fail
        refine (HST.out _ (by decide)).mono ?_
        rw [show (⟨#[32, 61, 62, 32]⟩ : ByteArray).data.toList.isPrefixOf (s.data.toList.drop j) = at8 s.data.toList sImp8 j from rfl]
        rintro e w2 ⟨rfl, rfl⟩
        cases h7 : at8 s.data.toList sImp8 j
        · have HFIN := Lib.hid (show rPair s.data.toList (f + 1) k = none by
            rw [rPair, hr]
            simp only
            rw [if_pos (by rw [rSign, h5, h6, h7]; rfl)])
          go_wp2
          refine bodyPost_ret (v := .tuple #[.agg #[.int .i64 0, .string ⟨#[]⟩, .slice none 0 0, .string ⟨#[]⟩, .slice none 0 0], .int .i64 (-1)]) (by simp only [results, Tryz.results254]; go_simp) rfl ⟨_, rfl, ?_⟩
          rw [HFIN.out]
          exact GotFm.no HBW.out _ _ _ _ _ _ _ _ _ _ _ _ _ _
        · have HS := Lib.hid (show rSign s.data.toList j = 7 by rw [rSign, h5, h6, h7]; rfl)
          have hle := at8_le h7 (by rw [← size_list]; exact hw1.2)
          rw [← size_list, show sImp8.length = 4 from rfl] at hle
          clear h5 h6 h7
          go_wp2_with fail
          rw [show ((j : Int) + 4) = ((j + 4 : Nat) : Int) by omega]
          refine (IH.out s (j + 4) _ (by omega) hs (by omega)).mono ?_
          rintro e w2 ⟨x, rfl, hb2, op2, n2, v2, p2, q2, k2', c2', k3, d3, z2, rfl, hgot2⟩
          have HB2 := Lib.hid (HBW.out.later hb2)
          have HT2 := Lib.hid ((hb2.block _ (by omega)).trans HT.out)
          have HOA2 := Lib.hid (FmOwn.later hb2 HOA.out)
          have hq2 := hb2.size
          clear HBW HT HOA hb2 r0 r1 r2 r3 r4 rf hrb b0 b1 b2 b3 b4 bf hbb
          obtain ⟨r0, r1, r2, r3, r4, rf⟩ := cells5_cell HB2.out.res
          have hrb := bsz (heap_lt HB2.out.res)
          obtain ⟨b0, b1, b2, b3, b4, bf⟩ := cells5_cell HT2.out
          have hbb := bsz (heap_lt HT2.out)
          cases hr2 : rFrm s.data.toList f (j + 4) with
          | none =>
            rw [hr2] at hgot2
            simp only at hgot2
            subst hgot2
            have HFIN := Lib.hid (show rPair s.data.toList (f + 1) k = none by rw [rPair, hr]; simp only [HS.out]; rw [if_neg (by decide), show (sign8 7).length = 4 from rfl, hr2])
            go_wp2
            refine bodyPost_ret (v := .tuple #[.agg #[.int .i64 0, .string ⟨#[]⟩, .slice none 0 0, .string ⟨#[]⟩, .slice none 0 0], .int .i64 (-1)]) (by simp only [results, Tryz.results254]; go_simp) rfl ⟨_, rfl, ?_⟩
            rw [HFIN.out]
            exact (GotFm.no HB2.out _ _ _ _ _ _ _ _ _ _ _ _ _ _).later ((Below.refl _ _).alloc (Nat.le_refl _) _)
          | some be =>
            obtain ⟨b, e⟩ := be
            have hw2 := rFrm_wt s.data.toList f (j + 4) b e (by rw [← size_list]; omega) hr2
            rw [← size_list] at hw2
            rw [hr2] at hgot2
            simp only at hgot2
            obtain ⟨rfl, hOB⟩ := hgot2
            have HOB := Lib.hid hOB
            clear hOB
            have hen : ¬ ((e : Nat) : Int) < 0 := by omega
            have HPF := Lib.hid (show rPair s.data.toList (f + 1) k = if s.data.toList[e]? = some 41 then some (opF 7 [a, b], e + 1) else none by rw [rPair, hr]; simp only [HS.out]; rw [if_neg (by decide), show (sign8 7).length = 4 from rfl, hr2])
            clear hr hr2
            by_cases hes : e = s.size
            · have hes1 : ((e : Int) == (s.size : Int)) = true := by simp; omega
              have HFIN := Lib.hid (show rPair s.data.toList (f + 1) k = none by rw [HPF.out, List.getElem?_eq_none (by rw [← size_list]; omega), if_neg (by simp)])
              go_wp2
              refine bodyPost_ret (v := .tuple #[.agg #[.int .i64 0, .string ⟨#[]⟩, .slice none 0 0, .string ⟨#[]⟩, .slice none 0 0], .int .i64 (-1)]) (by simp only [results, Tryz.results254]; go_simp) rfl ⟨_, rfl, ?_⟩
              rw [HFIN.out]
              exact (GotFm.no HB2.out _ _ _ _ _ _ _ _ _ _ _ _ _ _).later ((Below.refl _ _).alloc (Nat.le_refl _) _)
            have hes1 : ((e : Int) == (s.size : Int)) = false := by simp; omega
            have hel : e < s.size := by omega
            have hel1 : (e : Int) < s.size := by omega
            cases h41 : ((s[e].toNat : Int) == 41)
            · have h41' : ((s[e].toNat : Int) != 41) = true := by rw [bne, h41]; rfl
              have HFIN := Lib.hid (show rPair s.data.toList (f + 1) k = none by rw [HPF.out, list_at s e hel, if_neg (by intro e; injection e with e; rw [byte_41, e] at h41; simp at h41)])
              go_wp2
              refine bodyPost_ret (v := .tuple #[.agg #[.int .i64 0, .string ⟨#[]⟩, .slice none 0 0, .string ⟨#[]⟩, .slice none 0 0], .int .i64 (-1)]) (by simp only [results, Tryz.results254]; go_simp) rfl ⟨_, rfl, ?_⟩
              rw [HFIN.out]
              exact (GotFm.no HB2.out _ _ _ _ _ _ _ _ _ _ _ _ _ _).later ((Below.refl _ _).alloc (Nat.le_refl _) _)
            · have h41' : ((s[e].toNat : Int) != 41) = false := by rw [bne, h41]; rfl
              have HFIN := Lib.hid (show rPair s.data.toList (f + 1) k = some (opF 7 [a, b], e + 1) by rw [HPF.out, list_at s e hel, if_pos (by rw [byte_41, beq_iff_eq] at h41; rw [h41])])
              go_wp2
              refine bodyPost_ret (v := .tuple #[.agg #[.int .i64 7, .string ⟨#[]⟩, .slice none 0 0, .string ⟨#[]⟩, .slice (some ⟨w2.heap.size + 1, 0, none⟩) 2 2], .int .i64 ((e + 1 : Nat) : Int)]) (by simp only [results, Tryz.results254]; go_simp) rfl ⟨_, rfl, ?_⟩
              rw [HFIN.out]
              have hk : ∀ (W3 : World), W3.heap.size = w2.heap.size → (∀ c, c ≠ w.heap.size → W3.heap[c]? = w2.heap[c]?) → ∀ (o o2 : Obj) c, c ≠ w.heap.size → c < w2.heap.size → ((W3.alloc o).alloc o2).heap[c]? = w2.heap[c]? := fun W3 hz hs o o2 c hc hlt => (hao _ _ c (by simp; omega)).trans ((hao _ _ c (by omega)).trans (hs c hc))
              refine GotFm.made (S := fun c => w.heap.size + 1 ≤ c ∧ c < w2.heap.size + 2 ∧ c ≠ w1.heap.size ∧ c ≠ w2.heap.size) (Below.al (Below.al (HB2.out.set _ _ _ _ _) _) _) ?_ (fun c hc => ⟨by omega, by simp; omega⟩) (e + 1)
              refine FmOwn.mono (f + s.size + 7) (f + 1 + s.size + 6) _ _ (by omega) (SameOn.refl _ _) (fun _ h => h) (opF_own (m := f + s.size + 5) (by omega) ?_)
              exact OwnRow.two' (by simp) [.int .i64 op1, .string n1, .slice p1 k1 c1, .string v1, .slice q1 k2 d1] [.int .i64 op2, .string n2, .slice p2 k2' c2', .string v2, .slice q2 k3 d3] _ rfl rfl rfl
                (FmOwn.mono _ _ _ _ (by omega) (fun c (hc : w.heap.size + 1 ≤ c ∧ c < w1.heap.size) _ => hk _ (by simp) (fun c hc => set5_heap w2 _ c _ _ _ _ _ hc) _ _ c (by omega) (by omega)) (fun _ h => h) HOA2.out)
                (FmOwn.mono _ _ _ _ (by omega) (fun c (hc : NewB W w2 c) hlt => hk _ (by simp) (fun c hc => set5_heap w2 _ c _ _ _ _ _ hc) _ _ c (by have := hc.1; omega) hlt) (fun _ h => h) HOB.out)
                (fun c hc => by omega) (fun c hc => by have := hc.2; omega) (fun c hc hc' => by have := hc'.1; omega) (fun c hc => by omega) (fun c hc => by have h1 := hc.1; have h2 := hc.2; omega) (by omega)
      · have HS := Lib.hid (show rSign s.data.toList j = 6 by rw [rSign, h5, h6]; rfl)
        have hle := at8_le h6 (by rw [← size_list]; exact hw1.2)
        rw [← size_list, show sOr8.length = 3 from rfl] at hle
        clear h5 h6
        go_wp2_with fail
        rw [show ((j : Int) + 3) = ((j + 3 : Nat) : Int) by omega]
        refine (IH.out s (j + 3) _ (by omega) hs (by omega)).mono ?_
        rintro e w2 ⟨x, rfl, hb2, op2, n2, v2, p2, q2, k2', c2', k3, d3, z2, rfl, hgot2⟩
        have HB2 := Lib.hid (HBW.out.later hb2)
        have HT2 := Lib.hid ((hb2.block _ (by omega)).trans HT.out)
        have HOA2 := Lib.hid (FmOwn.later hb2 HOA.out)
        have hq2 := hb2.size
        clear HBW HT HOA hb2 r0 r1 r2 r3 r4 rf hrb b0 b1 b2 b3 b4 bf hbb
        obtain ⟨r0, r1, r2, r3, r4, rf⟩ := cells5_cell HB2.out.res
        have hrb := bsz (heap_lt HB2.out.res)
        obtain ⟨b0, b1, b2, b3, b4, bf⟩ := cells5_cell HT2.out
        have hbb := bsz (heap_lt HT2.out)
        cases hr2 : rFrm s.data.toList f (j + 3) with
        | none =>
          rw [hr2] at hgot2
          simp only at hgot2
          subst hgot2
          have HFIN := Lib.hid (show rPair s.data.toList (f + 1) k = none by rw [rPair, hr]; simp only [HS.out]; rw [if_neg (by decide), show (sign8 6).length = 3 from rfl, hr2])
          go_wp2
          refine bodyPost_ret (v := .tuple #[.agg #[.int .i64 0, .string ⟨#[]⟩, .slice none 0 0, .string ⟨#[]⟩, .slice none 0 0], .int .i64 (-1)]) (by simp only [results, Tryz.results254]; go_simp) rfl ⟨_, rfl, ?_⟩
          rw [HFIN.out]
          exact (GotFm.no HB2.out _ _ _ _ _ _ _ _ _ _ _ _ _ _).later ((Below.refl _ _).alloc (Nat.le_refl _) _)
        | some be =>
          obtain ⟨b, e⟩ := be
          have hw2 := rFrm_wt s.data.toList f (j + 3) b e (by rw [← size_list]; omega) hr2
          rw [← size_list] at hw2
          rw [hr2] at hgot2
          simp only at hgot2
          obtain ⟨rfl, hOB⟩ := hgot2
          have HOB := Lib.hid hOB
          clear hOB
          have hen : ¬ ((e : Nat) : Int) < 0 := by omega
          have HPF := Lib.hid (show rPair s.data.toList (f + 1) k = if s.data.toList[e]? = some 41 then some (opF 6 [a, b], e + 1) else none by rw [rPair, hr]; simp only [HS.out]; rw [if_neg (by decide), show (sign8 6).length = 3 from rfl, hr2])
          clear hr hr2
          by_cases hes : e = s.size
          · have hes1 : ((e : Int) == (s.size : Int)) = true := by simp; omega
            have HFIN := Lib.hid (show rPair s.data.toList (f + 1) k = none by rw [HPF.out, List.getElem?_eq_none (by rw [← size_list]; omega), if_neg (by simp)])
            go_wp2
            refine bodyPost_ret (v := .tuple #[.agg #[.int .i64 0, .string ⟨#[]⟩, .slice none 0 0, .string ⟨#[]⟩, .slice none 0 0], .int .i64 (-1)]) (by simp only [results, Tryz.results254]; go_simp) rfl ⟨_, rfl, ?_⟩
            rw [HFIN.out]
            exact (GotFm.no HB2.out _ _ _ _ _ _ _ _ _ _ _ _ _ _).later ((Below.refl _ _).alloc (Nat.le_refl _) _)
          have hes1 : ((e : Int) == (s.size : Int)) = false := by simp; omega
          have hel : e < s.size := by omega
          have hel1 : (e : Int) < s.size := by omega
          cases h41 : ((s[e].toNat : Int) == 41)
          · have h41' : ((s[e].toNat : Int) != 41) = true := by rw [bne, h41]; rfl
            have HFIN := Lib.hid (show rPair s.data.toList (f + 1) k = none by rw [HPF.out, list_at s e hel, if_neg (by intro e; injection e with e; rw [byte_41, e] at h41; simp at h41)])
            go_wp2
            refine bodyPost_ret (v := .tuple #[.agg #[.int .i64 0, .string ⟨#[]⟩, .slice none 0 0, .string ⟨#[]⟩, .slice none 0 0], .int .i64 (-1)]) (by simp only [results, Tryz.results254]; go_simp) rfl ⟨_, rfl, ?_⟩
            rw [HFIN.out]
            exact (GotFm.no HB2.out _ _ _ _ _ _ _ _ _ _ _ _ _ _).later ((Below.refl _ _).alloc (Nat.le_refl _) _)
          · have h41' : ((s[e].toNat : Int) != 41) = false := by rw [bne, h41]; rfl
            have HFIN := Lib.hid (show rPair s.data.toList (f + 1) k = some (opF 6 [a, b], e + 1) by rw [HPF.out, list_at s e hel, if_pos (by rw [byte_41, beq_iff_eq] at h41; rw [h41])])
            go_wp2
            refine bodyPost_ret (v := .tuple #[.agg #[.int .i64 6, .string ⟨#[]⟩, .slice none 0 0, .string ⟨#[]⟩, .slice (some ⟨w2.heap.size + 1, 0, none⟩) 2 2], .int .i64 ((e + 1 : Nat) : Int)]) (by simp only [results, Tryz.results254]; go_simp) rfl ⟨_, rfl, ?_⟩
            rw [HFIN.out]
            have hk : ∀ (W3 : World), W3.heap.size = w2.heap.size → (∀ c, c ≠ w.heap.size → W3.heap[c]? = w2.heap[c]?) → ∀ (o o2 : Obj) c, c ≠ w.heap.size → c < w2.heap.size → ((W3.alloc o).alloc o2).heap[c]? = w2.heap[c]? := fun W3 hz hs o o2 c hc hlt => (hao _ _ c (by simp; omega)).trans ((hao _ _ c (by omega)).trans (hs c hc))
            refine GotFm.made (S := fun c => w.heap.size + 1 ≤ c ∧ c < w2.heap.size + 2 ∧ c ≠ w1.heap.size ∧ c ≠ w2.heap.size) (Below.al (Below.al (HB2.out.set _ _ _ _ _) _) _) ?_ (fun c hc => ⟨by omega, by simp; omega⟩) (e + 1)
            refine FmOwn.mono (f + s.size + 7) (f + 1 + s.size + 6) _ _ (by omega) (SameOn.refl _ _) (fun _ h => h) (opF_own (m := f + s.size + 5) (by omega) ?_)
            exact OwnRow.two' (by simp) [.int .i64 op1, .string n1, .slice p1 k1 c1, .string v1, .slice q1 k2 d1] [.int .i64 op2, .string n2, .slice p2 k2' c2', .string v2, .slice q2 k3 d3] _ rfl rfl rfl
              (FmOwn.mono _ _ _ _ (by omega) (fun c (hc : w.heap.size + 1 ≤ c ∧ c < w1.heap.size) _ => hk _ (by simp) (fun c hc => set5_heap w2 _ c _ _ _ _ _ hc) _ _ c (by omega) (by omega)) (fun _ h => h) HOA2.out)
              (FmOwn.mono _ _ _ _ (by omega) (fun c (hc : NewB W w2 c) hlt => hk _ (by simp) (fun c hc => set5_heap w2 _ c _ _ _ _ _ hc) _ _ c (by have := hc.1; omega) hlt) (fun _ h => h) HOB.out)
              (fun c hc => by omega) (fun c hc => by have := hc.2; omega) (fun c hc hc' => by have := hc'.1; omega) (fun c hc => by omega) (fun c hc => by have h1 := hc.1; have h2 := hc.2; omega) (by omega)
    · have HS := Lib.hid (show rSign s.data.toList j = 5 by rw [rSign, h5]; rfl)
      have hle := at8_le h5 (by rw [← size_list]; exact hw1.2)
      rw [← size_list, show sAnd8.length = 3 from rfl] at hle
      clear h5
      go_wp2_with fail
      rw [show ((j : Int) + 3) = ((j + 3 : Nat) : Int) by omega]
      refine (IH.out s (j + 3) _ (by omega) hs (by omega)).mono ?_
      rintro e w2 ⟨x, rfl, hb2, op2, n2, v2, p2, q2, k2', c2', k3, d3, z2, rfl, hgot2⟩
      have HB2 := Lib.hid (HBW.out.later hb2)
      have HT2 := Lib.hid ((hb2.block _ (by omega)).trans HT.out)
      have HOA2 := Lib.hid (FmOwn.later hb2 HOA.out)
      have hq2 := hb2.size
      clear HBW HT HOA hb2 r0 r1 r2 r3 r4 rf hrb b0 b1 b2 b3 b4 bf hbb
      obtain ⟨r0, r1, r2, r3, r4, rf⟩ := cells5_cell HB2.out.res
      have hrb := bsz (heap_lt HB2.out.res)
      obtain ⟨b0, b1, b2, b3, b4, bf⟩ := cells5_cell HT2.out
      have hbb := bsz (heap_lt HT2.out)
      cases hr2 : rFrm s.data.toList f (j + 3) with
      | none =>
        rw [hr2] at hgot2
        simp only at hgot2
        subst hgot2
        have HFIN := Lib.hid (show rPair s.data.toList (f + 1) k = none by rw [rPair, hr]; simp only [HS.out]; rw [if_neg (by decide), show (sign8 5).length = 3 from rfl, hr2])
        go_wp2
        refine bodyPost_ret (v := .tuple #[.agg #[.int .i64 0, .string ⟨#[]⟩, .slice none 0 0, .string ⟨#[]⟩, .slice none 0 0], .int .i64 (-1)]) (by simp only [results, Tryz.results254]; go_simp) rfl ⟨_, rfl, ?_⟩
        rw [HFIN.out]
        exact (GotFm.no HB2.out _ _ _ _ _ _ _ _ _ _ _ _ _ _).later ((Below.refl _ _).alloc (Nat.le_refl _) _)
      | some be =>
        obtain ⟨b, e⟩ := be
        have hw2 := rFrm_wt s.data.toList f (j + 3) b e (by rw [← size_list]; omega) hr2
        rw [← size_list] at hw2
        rw [hr2] at hgot2
        simp only at hgot2
        obtain ⟨rfl, hOB⟩ := hgot2
        have HOB := Lib.hid hOB
        clear hOB
        have hen : ¬ ((e : Nat) : Int) < 0 := by omega
        have HPF := Lib.hid (show rPair s.data.toList (f + 1) k = if s.data.toList[e]? = some 41 then some (opF 5 [a, b], e + 1) else none by rw [rPair, hr]; simp only [HS.out]; rw [if_neg (by decide), show (sign8 5).length = 3 from rfl, hr2])
        clear hr hr2
        by_cases hes : e = s.size
        · have hes1 : ((e : Int) == (s.size : Int)) = true := by simp; omega
          have HFIN := Lib.hid (show rPair s.data.toList (f + 1) k = none by rw [HPF.out, List.getElem?_eq_none (by rw [← size_list]; omega), if_neg (by simp)])
          go_wp2
          refine bodyPost_ret (v := .tuple #[.agg #[.int .i64 0, .string ⟨#[]⟩, .slice none 0 0, .string ⟨#[]⟩, .slice none 0 0], .int .i64 (-1)]) (by simp only [results, Tryz.results254]; go_simp) rfl ⟨_, rfl, ?_⟩
          rw [HFIN.out]
          exact (GotFm.no HB2.out _ _ _ _ _ _ _ _ _ _ _ _ _ _).later ((Below.refl _ _).alloc (Nat.le_refl _) _)
        have hes1 : ((e : Int) == (s.size : Int)) = false := by simp; omega
        have hel : e < s.size := by omega
        have hel1 : (e : Int) < s.size := by omega
        cases h41 : ((s[e].toNat : Int) == 41)
        · have h41' : ((s[e].toNat : Int) != 41) = true := by rw [bne, h41]; rfl
          have HFIN := Lib.hid (show rPair s.data.toList (f + 1) k = none by rw [HPF.out, list_at s e hel, if_neg (by intro e; injection e with e; rw [byte_41, e] at h41; simp at h41)])
          go_wp2
          refine bodyPost_ret (v := .tuple #[.agg #[.int .i64 0, .string ⟨#[]⟩, .slice none 0 0, .string ⟨#[]⟩, .slice none 0 0], .int .i64 (-1)]) (by simp only [results, Tryz.results254]; go_simp) rfl ⟨_, rfl, ?_⟩
          rw [HFIN.out]
          exact (GotFm.no HB2.out _ _ _ _ _ _ _ _ _ _ _ _ _ _).later ((Below.refl _ _).alloc (Nat.le_refl _) _)
        · have h41' : ((s[e].toNat : Int) != 41) = false := by rw [bne, h41]; rfl
          have HFIN := Lib.hid (show rPair s.data.toList (f + 1) k = some (opF 5 [a, b], e + 1) by rw [HPF.out, list_at s e hel, if_pos (by rw [byte_41, beq_iff_eq] at h41; rw [h41])])
          go_wp2
          refine bodyPost_ret (v := .tuple #[.agg #[.int .i64 5, .string ⟨#[]⟩, .slice none 0 0, .string ⟨#[]⟩, .slice (some ⟨w2.heap.size + 1, 0, none⟩) 2 2], .int .i64 ((e + 1 : Nat) : Int)]) (by simp only [results, Tryz.results254]; go_simp) rfl ⟨_, rfl, ?_⟩
          rw [HFIN.out]
          have hk : ∀ (W3 : World), W3.heap.size = w2.heap.size → (∀ c, c ≠ w.heap.size → W3.heap[c]? = w2.heap[c]?) → ∀ (o o2 : Obj) c, c ≠ w.heap.size → c < w2.heap.size → ((W3.alloc o).alloc o2).heap[c]? = w2.heap[c]? := fun W3 hz hs o o2 c hc hlt => (hao _ _ c (by simp; omega)).trans ((hao _ _ c (by omega)).trans (hs c hc))
          refine GotFm.made (S := fun c => w.heap.size + 1 ≤ c ∧ c < w2.heap.size + 2 ∧ c ≠ w1.heap.size ∧ c ≠ w2.heap.size) (Below.al (Below.al (HB2.out.set _ _ _ _ _) _) _) ?_ (fun c hc => ⟨by omega, by simp; omega⟩) (e + 1)
          refine FmOwn.mono (f + s.size + 7) (f + 1 + s.size + 6) _ _ (by omega) (SameOn.refl _ _) (fun _ h => h) (opF_own (m := f + s.size + 5) (by omega) ?_)
          exact OwnRow.two' (by simp) [.int .i64 op1, .string n1, .slice p1 k1 c1, .string v1, .slice q1 k2 d1] [.int .i64 op2, .string n2, .slice p2 k2' c2', .string v2, .slice q2 k3 d3] _ rfl rfl rfl
            (FmOwn.mono _ _ _ _ (by omega) (fun c (hc : w.heap.size + 1 ≤ c ∧ c < w1.heap.size) _ => hk _ (by simp) (fun c hc => set5_heap w2 _ c _ _ _ _ _ hc) _ _ c (by omega) (by omega)) (fun _ h => h) HOA2.out)
            (FmOwn.mono _ _ _ _ (by omega) (fun c (hc : NewB W w2 c) hlt => hk _ (by simp) (fun c hc => set5_heap w2 _ c _ _ _ _ _ hc) _ _ c (by have := hc.1; omega) hlt) (fun _ h => h) HOB.out)
            (fun c hc => by omega) (fun c hc => by have := hc.2; omega) (fun c hc hc' => by have := hc'.1; omega) (fun c hc => by omega) (fun c hc => by have h1 := hc.1; have h2 := hc.2; omega) (by omega)
end Go.Proofs.YtkgfanajgdelcaaGreatDoor
