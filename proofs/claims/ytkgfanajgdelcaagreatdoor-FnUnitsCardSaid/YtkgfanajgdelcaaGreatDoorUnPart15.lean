import Derived.Test.YtkgfanajgdelcaaGreatDoorUnPart14
namespace Go.Proofs.YtkgfanajgdelcaaGreatDoor
set_option maxRecDepth 100000
open Go.RowKit
theorem BSt.pass {f : Nat} {r : Option (Fm × Nat)} {w W w1 : World} {x : Value} (h : BSt w W) (hg : GotFm f r W x w1) (a0 a1 a2 a3 a4 : Value) :
    GotFm f r w x (((((w1.setCell ⟨w.heap.size, 0, none⟩ a0).setCell ⟨w.heap.size, 1, none⟩ a1).setCell ⟨w.heap.size, 2, none⟩ a2).setCell ⟨w.heap.size, 3, none⟩ a3).setCell ⟨w.heap.size, 4, none⟩ a4) := by
  obtain ⟨hb, op, n, v, p, q, k, c, k2, d, z, rfl, hm⟩ := hg
  have hB := h.later hb
  match r, hm with
  | none, hm => obtain rfl := hm; exact GotFm.no hB _ _ _ _ _ _ _ _ _ _ _ _ _ _
  | some (F, j), ⟨hz, hO⟩ =>
    subst hz
    have := heap_lt h.res
    exact GotFm.yes hB hO (fun b hb => ⟨by have := hb.1; omega, hb.2⟩) j _ _ _ _ _
set_option maxHeartbeats 6400000 in
theorem l8Read_of (f : Nat) (ih : ReadC f) (ih2 : ∀ f', f = f' + 1 → ReadC f') (s : ByteArray) (k : Nat) (w : World) (hk : k ≤ s.size) (hs : s.size ≤ 1000000) (hf : 2 * (s.size - k) + 1 < f + 1) :
    Calls Tryz.prog 213 #[.string s, .int .i64 (k : Nat)] w fun e w' => ∃ x, e = .returned x ∧ GotFm (f + 1 + s.size + 6) (rFrm s.data.toList (f + 1) k) w x w' := by
  have IH := Lib.hid ih
  have IH2 := Lib.hid ih2
  have hk' : k ≤ s.data.toList.length := by rw [← size_list]; exact hk
  obtain ⟨W, hW⟩ : ∃ W : World, W = w.alloc (.cells #[.int .i64 0, .string ⟨#[]⟩, .slice none 0 0, .string ⟨#[]⟩, .slice none 0 0] 44) := ⟨_, rfl⟩
  have HB := Lib.hid (show BSt w W by rw [hW]; exact BSt.start w)
  have hzW : W.heap.size = w.heap.size + 1 := by rw [hW]; simp
  have st := fun (t : ByteArray) (ht : t.size ≤ 1000000) => l8Starts_any s t k W hk (by omega) ht
  have HST := Lib.hid st
  clear ih ih2 st
  go_enter Tryz.func213, Tryz.ntmps213
  go_wp2_with fail
  rw [← hW]
  clear hW
  cases h1 : at8 s.data.toList sAll8 k
  case true =>
    have H1 := Lib.hid h1
    have h2 : k + 4 ≤ s.size := by have := at8_le h1 hk'; rw [← size_list] at this; exact this
    obtain ⟨f', rfl⟩ : ∃ q, f = q + 1 := ⟨f - 1, by omega⟩
    have HFIN := Lib.hid (show rFrm s.data.toList (f' + 1 + 1) k = rQua s.data.toList (f' + 1) 8 (k + 4) by rw [rFrm, if_pos h1])
    clear h1
    go_wp2_with fail
    refine (HST.out _ (by decide)).mono ?_
    rw [show (⟨#[97, 108, 108, 32]⟩ : ByteArray).data.toList.isPrefixOf (s.data.toList.drop k) = at8 s.data.toList sAll8 k from rfl, H1.out]
    rintro e w1 ⟨rfl, rfl⟩
    go_wp2_with fail
    rw [show ((k : Int) + 4) = ((k + 4 : Nat) : Int) by omega]
    refine (l8Quantified_of f' (IH2.out f' rfl) s (k + 4) 8 (by omega) _ h2 hs (by omega)).mono ?_
    rintro e w1 ⟨x, rfl, hg⟩
    have HG := Lib.hid hg
    obtain ⟨r0, r1, r2, r3, r4, rf⟩ := cells5_cell (HB.out.later hg.1).res
    have hrb := bsz (heap_lt (HB.out.later hg.1).res)
    obtain ⟨hb1, op1, n1, v1, p1, q1, k1, c1, k2, d1, z1, rfl, -⟩ := hg
    clear hb1
    go_wp2
    refine bodyPost_ret (v := .tuple #[.agg #[.int .i64 op1, .string n1, .slice p1 k1 c1, .string v1, .slice q1 k2 d1], .int .i64 z1]) (by simp only [results, Tryz.results213]; go_simp) rfl ⟨_, rfl, ?_⟩
    rw [HFIN.out]
    exact GotFm.mono (by omega) (HB.out.pass HG.out _ _ _ _ _)
  have H1 := Lib.hid h1
  go_wp2_with fail
  refine (HST.out _ (by decide)).mono ?_
  rw [show (⟨#[97, 108, 108, 32]⟩ : ByteArray).data.toList.isPrefixOf (s.data.toList.drop k) = at8 s.data.toList sAll8 k from rfl, H1.out]
  rintro e w1 ⟨rfl, rfl⟩
  cases h2 : at8 s.data.toList sSome8 k
  case true =>
    have H2 := Lib.hid h2
    have h3 : k + 5 ≤ s.size := by have := at8_le h2 hk'; rw [← size_list] at this; exact this
    obtain ⟨f', rfl⟩ : ∃ q, f = q + 1 := ⟨f - 1, by omega⟩
    have HFIN := Lib.hid (show rFrm s.data.toList (f' + 1 + 1) k = rQua s.data.toList (f' + 1) 9 (k + 5) by rw [rFrm, if_neg (by rw [h1]; simp), if_pos h2])
    clear h1 h2
    go_wp2_with fail
    refine (HST.out _ (by decide)).mono ?_
    rw [show (⟨#[115, 111, 109, 101, 32]⟩ : ByteArray).data.toList.isPrefixOf (s.data.toList.drop k) = at8 s.data.toList sSome8 k from rfl, H2.out]
    rintro e w1 ⟨rfl, rfl⟩
    go_wp2_with fail
    rw [show ((k : Int) + 5) = ((k + 5 : Nat) : Int) by omega]
    refine (l8Quantified_of f' (IH2.out f' rfl) s (k + 5) 9 (by omega) _ h3 hs (by omega)).mono ?_
    rintro e w1 ⟨x, rfl, hg⟩
    have HG := Lib.hid hg
    obtain ⟨r0, r1, r2, r3, r4, rf⟩ := cells5_cell (HB.out.later hg.1).res
    have hrb := bsz (heap_lt (HB.out.later hg.1).res)
    obtain ⟨hb1, op1, n1, v1, p1, q1, k1, c1, k2, d1, z1, rfl, -⟩ := hg
    clear hb1
    go_wp2
    refine bodyPost_ret (v := .tuple #[.agg #[.int .i64 op1, .string n1, .slice p1 k1 c1, .string v1, .slice q1 k2 d1], .int .i64 z1]) (by simp only [results, Tryz.results213]; go_simp) rfl ⟨_, rfl, ?_⟩
    rw [HFIN.out]
    exact GotFm.mono (by omega) (HB.out.pass HG.out _ _ _ _ _)
  have H2 := Lib.hid h2
  go_wp2_with fail
  refine (HST.out _ (by decide)).mono ?_
  rw [show (⟨#[115, 111, 109, 101, 32]⟩ : ByteArray).data.toList.isPrefixOf (s.data.toList.drop k) = at8 s.data.toList sSome8 k from rfl, H2.out]
  rintro e w1 ⟨rfl, rfl⟩
  cases h3 : at8 s.data.toList [126, 40] k
  case true =>
    have H3 := Lib.hid h3
    have h4 : k + 2 ≤ s.size := by have := at8_le h3 hk'; rw [← size_list] at this; exact this
    obtain ⟨f', rfl⟩ : ∃ q, f = q + 1 := ⟨f - 1, by omega⟩
    have HF0 := Lib.hid (show rFrm s.data.toList (f' + 1 + 1) k = if rEqP s.data.toList (rSimp s.data.toList (k + 2)) then (rSimp s.data.toList (k + 2)).map (fun r => (opF 4 [r.1], r.2 + 1)) else (rPair s.data.toList (f' + 1) (k + 1)).map (fun r => (opF 4 [r.1], r.2)) by rw [rFrm, if_neg (by rw [h1]; simp), if_neg (by rw [h2]; simp), if_pos h3])
    clear h1 h2 h3
    go_wp2_with fail
    refine (HST.out _ (by decide)).mono ?_
    rw [show (⟨#[126, 40]⟩ : ByteArray).data.toList.isPrefixOf (s.data.toList.drop k) = at8 s.data.toList [126, 40] k from rfl, H3.out]
    rintro e w1 ⟨rfl, rfl⟩
    go_wp2_with fail
    rw [show ((k : Int) + 2) = ((k + 2 : Nat) : Int) by omega]
    refine (l8Simple_any s (k + 2) _ h4 hs).mono ?_
    rintro e w1 ⟨x, rfl, hgot1⟩
    have HB1 := Lib.hid (HB.out.later hgot1.1)
    obtain ⟨hb1, op1, n1, v1, p1, q1, k1, c1, k2, d1, z1, rfl, hm1⟩ := hgot1
    have hq1 := hb1.size
    cases hr : rSimp s.data.toList (k + 2) with
    | none =>
      rw [hr] at hm1
      simp only at hm1
      subst hm1
      have HFIN := Lib.hid (show rFrm s.data.toList (f' + 1 + 1) k = (rPair s.data.toList (f' + 1) (k + 1)).map (fun r => (opF 4 [r.1], r.2)) by rw [HF0.out, hr, if_neg (by simp [rEqP])])
      obtain ⟨r0, r1, r2, r3, r4, rf⟩ := cells5_cell HB1.out.res
      have hrb := bsz (heap_lt HB1.out.res)
      go_wp2_with fail
      obtain ⟨WB, hWB⟩ : ∃ WB : World, WB = w1.alloc (.cells #[.int .i64 op1, .string n1, .slice p1 k1 c1, .string v1, .slice q1 k2 d1] 44) := ⟨_, rfl⟩
      have HBB := Lib.hid (HB1.out.later (show Below w1.heap.size w1 WB by rw [hWB]; exact (Below.refl _ _).alloc (Nat.le_refl _) _))
      rw [← hWB]
      clear hWB
      rw [show ((k : Int) + 1) = ((k + 1 : Nat) : Int) by omega]
      refine (l8Pair_of f' (IH2.out f' rfl) s (k + 1) _ (by omega) hs (by omega)).mono ?_
      rintro e w2 ⟨x2, rfl, hgot⟩
      have HG := Lib.hid hgot
      clear hgot r0 r1 r2 r3 r4 rf hrb
      have HBR := Lib.hid (HBB.out.later HG.out.1)
      obtain ⟨r0, r1, r2, r3, r4, rf⟩ := cells5_cell HBR.out.res
      have hrb := bsz (heap_lt HBR.out.res)
      obtain ⟨hb2, op2, n2, v2, p2, q2, k2', c2', k3, d3, z2, hx2, hm2⟩ := HG.out
      subst hx2
      have HM := Lib.hid hm2
      have hq2 := hb2.size
      have hwW := HBB.out.bel.size
      have hwz := heap_lt HBB.out.res
      clear hb2 hm2
      go_wp2
      refine bodyPost_ret (v := .tuple #[.agg #[.int .i64 4, .string ⟨#[]⟩, .slice none 0 0, .string ⟨#[]⟩, .slice (some ⟨w2.heap.size + 1, 0, none⟩) 1 1], .int .i64 z2]) (by simp only [results, Tryz.results213]; go_simp) rfl ⟨_, rfl, ?_⟩
      rw [HFIN.out]
      have hmm := HM.out
      cases hr : rPair s.data.toList (f' + 1) (k + 1) with
      | none =>
        rw [hr] at hmm
        simp only at hmm
        subst hmm
        exact ((GotFm.no HBR.out _ _ _ _ _ _ _ _ _ _ _ _ _ _).later ((Below.refl _ _).alloc (Nat.le_refl _) _)).later ((Below.refl _ _).alloc (Nat.le_refl _) _)
      | some r =>
        obtain ⟨F, i⟩ := r
        rw [hr] at hmm
        simp only at hmm
        obtain ⟨rfl, hO⟩ := hmm
        have hk : ∀ (W3 : World), W3.heap.size = w2.heap.size → (∀ c, c ≠ w.heap.size → W3.heap[c]? = w2.heap[c]?) → ∀ (o o2 : Obj) c, c ≠ w.heap.size → c < w2.heap.size → ((W3.alloc o).alloc o2).heap[c]? = w2.heap[c]? := fun W3 hz hs o o2 c hc hlt => (hao _ _ c (by simp; omega)).trans ((hao _ _ c (by omega)).trans (hs c hc))
        refine GotFm.made (S := fun c => w.heap.size < c ∧ c < w2.heap.size + 2) (Below.al (Below.al (HBR.out.set _ _ _ _ _) _) _) ?_ (fun c hc => ⟨by omega, by simp; omega⟩) i
        refine FmOwn.mono ((f' + 1) + s.size + 7) ((f' + 1) + 1 + s.size + 6) _ _ (by omega) (SameOn.refl _ _) (fun _ h => h) (opF_own (m := (f' + 1) + s.size + 5) (by omega) ?_)
        exact OwnRow.one' (S := NewB WB w2) (by simp) #[.int .i64 op2, .string n2, .slice p2 k2' c2', .string v2, .slice q2 k3 d3] rfl
          (FmOwn.mono _ _ _ _ (by omega) (fun c (hc : NewB WB w2 c) hlt => hk _ (by simp) (fun c hc => set5_heap w2 _ c _ _ _ _ _ hc) _ _ c (by have := hc.1; omega) hlt) (fun _ h => h) hO)
          (fun c hc => by have := hc.2; omega) (fun c hc => by have h1 := hc.1; have h2 := hc.2; exact ⟨by omega, by omega⟩) ⟨by omega, by omega⟩
    | some r =>
      obtain ⟨P, j⟩ := r
      have hwt := rSimp_wt s.data.toList (k + 2) P j (by rw [← size_list]; exact h4) hr
      rw [← size_list] at hwt
      rw [hr] at hm1
      simp only at hm1
      obtain ⟨rfl, hO1⟩ := hm1
      obtain ⟨p', c', q', d', e1, e2, e3, e4, e5, -⟩ := hO1.form
      simp only [Value.int.injEq, Value.string.injEq, Value.slice.injEq, true_and] at e1 e2 e3 e4 e5
      obtain rfl := e1
      obtain rfl := e2
      obtain rfl := e4
      obtain ⟨rfl, rfl, rfl⟩ := e3
      obtain ⟨rfl, rfl, rfl⟩ := e5
      have HO1 := Lib.hid hO1
      have hjn : ((j : Nat) : Int) ≥ 0 := by omega
      have hjn' : (0 : Int) ≤ ((j : Nat) : Int) := by omega
      clear hO1
      cases hop : (P.op == 3)
      · have HFIN := Lib.hid (show rFrm s.data.toList (f' + 1 + 1) k = (rPair s.data.toList (f' + 1) (k + 1)).map (fun r => (opF 4 [r.1], r.2)) by rw [HF0.out, hr, if_neg (by simp [rEqP, hop])])
        clear hr
        obtain ⟨r0, r1, r2, r3, r4, rf⟩ := cells5_cell HB1.out.res
        have hrb := bsz (heap_lt HB1.out.res)
        go_wp2_with fail
        obtain ⟨WB, hWB⟩ : ∃ WB : World, WB = w1.alloc (.cells #[.int .i64 P.op, .string P.a.n, .slice p1 P.a.us.length c1, .string P.v, .slice q1 P.ps.length d1] 44) := ⟨_, rfl⟩
        have HBB := Lib.hid (HB1.out.later (show Below w1.heap.size w1 WB by rw [hWB]; exact (Below.refl _ _).alloc (Nat.le_refl _) _))
        rw [← hWB]
        clear hWB
        rw [show ((k : Int) + 1) = ((k + 1 : Nat) : Int) by omega]
        refine (l8Pair_of f' (IH2.out f' rfl) s (k + 1) _ (by omega) hs (by omega)).mono ?_
        rintro e w2 ⟨x2, rfl, hgot⟩
        have HG := Lib.hid hgot
        clear hgot r0 r1 r2 r3 r4 rf hrb
        have HBR := Lib.hid (HBB.out.later HG.out.1)
        obtain ⟨r0, r1, r2, r3, r4, rf⟩ := cells5_cell HBR.out.res
        have hrb := bsz (heap_lt HBR.out.res)
        obtain ⟨hb2, op2, n2, v2, p2, q2, k2', c2', k3, d3, z2, hx2, hm2⟩ := HG.out
        subst hx2
        have HM := Lib.hid hm2
        have hq2 := hb2.size
        have hwW := HBB.out.bel.size
        have hwz := heap_lt HBB.out.res
        clear hb2 hm2
        go_wp2
        refine bodyPost_ret (v := .tuple #[.agg #[.int .i64 4, .string ⟨#[]⟩, .slice none 0 0, .string ⟨#[]⟩, .slice (some ⟨w2.heap.size + 1, 0, none⟩) 1 1], .int .i64 z2]) (by simp only [results, Tryz.results213]; go_simp) rfl ⟨_, rfl, ?_⟩
        rw [HFIN.out]
        have hmm := HM.out
        cases hr : rPair s.data.toList (f' + 1) (k + 1) with
        | none =>
          rw [hr] at hmm
          simp only at hmm
          subst hmm
          exact ((GotFm.no HBR.out _ _ _ _ _ _ _ _ _ _ _ _ _ _).later ((Below.refl _ _).alloc (Nat.le_refl _) _)).later ((Below.refl _ _).alloc (Nat.le_refl _) _)
        | some r =>
          obtain ⟨F, i⟩ := r
          rw [hr] at hmm
          simp only at hmm
          obtain ⟨rfl, hO⟩ := hmm
          have hk : ∀ (W3 : World), W3.heap.size = w2.heap.size → (∀ c, c ≠ w.heap.size → W3.heap[c]? = w2.heap[c]?) → ∀ (o o2 : Obj) c, c ≠ w.heap.size → c < w2.heap.size → ((W3.alloc o).alloc o2).heap[c]? = w2.heap[c]? := fun W3 hz hs o o2 c hc hlt => (hao _ _ c (by simp; omega)).trans ((hao _ _ c (by omega)).trans (hs c hc))
          refine GotFm.made (S := fun c => w.heap.size < c ∧ c < w2.heap.size + 2) (Below.al (Below.al (HBR.out.set _ _ _ _ _) _) _) ?_ (fun c hc => ⟨by omega, by simp; omega⟩) i
          refine FmOwn.mono ((f' + 1) + s.size + 7) ((f' + 1) + 1 + s.size + 6) _ _ (by omega) (SameOn.refl _ _) (fun _ h => h) (opF_own (m := (f' + 1) + s.size + 5) (by omega) ?_)
          exact OwnRow.one' (S := NewB WB w2) (by simp) #[.int .i64 op2, .string n2, .slice p2 k2' c2', .string v2, .slice q2 k3 d3] rfl
            (FmOwn.mono _ _ _ _ (by omega) (fun c (hc : NewB WB w2 c) hlt => hk _ (by simp) (fun c hc => set5_heap w2 _ c _ _ _ _ _ hc) _ _ c (by have := hc.1; omega) hlt) (fun _ h => h) hO)
            (fun c hc => by have := hc.2; omega) (fun c hc => by have h1 := hc.1; have h2 := hc.2; exact ⟨by omega, by omega⟩) ⟨by omega, by omega⟩
      · cases hnm : (P.a.n.toList == [61])
        · have HFIN := Lib.hid (show rFrm s.data.toList (f' + 1 + 1) k = (rPair s.data.toList (f' + 1) (k + 1)).map (fun r => (opF 4 [r.1], r.2)) by
            rw [ByteArray.toList_eq] at hnm
            rw [HF0.out, hr, if_neg (by simp only [rEqP, hnm]; simp)])
          clear hr
          obtain ⟨r0, r1, r2, r3, r4, rf⟩ := cells5_cell HB1.out.res
          have hrb := bsz (heap_lt HB1.out.res)
          go_wp2_with fail
          obtain ⟨WB, hWB⟩ : ∃ WB : World, WB = w1.alloc (.cells #[.int .i64 P.op, .string P.a.n, .slice p1 P.a.us.length c1, .string P.v, .slice q1 P.ps.length d1] 44) := ⟨_, rfl⟩
          have HBB := Lib.hid (HB1.out.later (show Below w1.heap.size w1 WB by rw [hWB]; exact (Below.refl _ _).alloc (Nat.le_refl _) _))
          rw [← hWB]
          clear hWB
          rw [show ((k : Int) + 1) = ((k + 1 : Nat) : Int) by omega]
          refine (l8Pair_of f' (IH2.out f' rfl) s (k + 1) _ (by omega) hs (by omega)).mono ?_
          rintro e w2 ⟨x2, rfl, hgot⟩
          have HG := Lib.hid hgot
          clear hgot r0 r1 r2 r3 r4 rf hrb
          have HBR := Lib.hid (HBB.out.later HG.out.1)
          obtain ⟨r0, r1, r2, r3, r4, rf⟩ := cells5_cell HBR.out.res
          have hrb := bsz (heap_lt HBR.out.res)
          obtain ⟨hb2, op2, n2, v2, p2, q2, k2', c2', k3, d3, z2, hx2, hm2⟩ := HG.out
          subst hx2
          have HM := Lib.hid hm2
          have hq2 := hb2.size
          have hwW := HBB.out.bel.size
          have hwz := heap_lt HBB.out.res
          clear hb2 hm2
          go_wp2
          refine bodyPost_ret (v := .tuple #[.agg #[.int .i64 4, .string ⟨#[]⟩, .slice none 0 0, .string ⟨#[]⟩, .slice (some ⟨w2.heap.size + 1, 0, none⟩) 1 1], .int .i64 z2]) (by simp only [results, Tryz.results213]; go_simp) rfl ⟨_, rfl, ?_⟩
          rw [HFIN.out]
          have hmm := HM.out
          cases hr : rPair s.data.toList (f' + 1) (k + 1) with
          | none =>
            rw [hr] at hmm
            simp only at hmm
            subst hmm
            exact ((GotFm.no HBR.out _ _ _ _ _ _ _ _ _ _ _ _ _ _).later ((Below.refl _ _).alloc (Nat.le_refl _) _)).later ((Below.refl _ _).alloc (Nat.le_refl _) _)
          | some r =>
            obtain ⟨F, i⟩ := r
            rw [hr] at hmm
            simp only at hmm
            obtain ⟨rfl, hO⟩ := hmm
            have hk : ∀ (W3 : World), W3.heap.size = w2.heap.size → (∀ c, c ≠ w.heap.size → W3.heap[c]? = w2.heap[c]?) → ∀ (o o2 : Obj) c, c ≠ w.heap.size → c < w2.heap.size → ((W3.alloc o).alloc o2).heap[c]? = w2.heap[c]? := fun W3 hz hs o o2 c hc hlt => (hao _ _ c (by simp; omega)).trans ((hao _ _ c (by omega)).trans (hs c hc))
            refine GotFm.made (S := fun c => w.heap.size < c ∧ c < w2.heap.size + 2) (Below.al (Below.al (HBR.out.set _ _ _ _ _) _) _) ?_ (fun c hc => ⟨by omega, by simp; omega⟩) i
            refine FmOwn.mono ((f' + 1) + s.size + 7) ((f' + 1) + 1 + s.size + 6) _ _ (by omega) (SameOn.refl _ _) (fun _ h => h) (opF_own (m := (f' + 1) + s.size + 5) (by omega) ?_)
            exact OwnRow.one' (S := NewB WB w2) (by simp) #[.int .i64 op2, .string n2, .slice p2 k2' c2', .string v2, .slice q2 k3 d3] rfl
              (FmOwn.mono _ _ _ _ (by omega) (fun c (hc : NewB WB w2 c) hlt => hk _ (by simp) (fun c hc => set5_heap w2 _ c _ _ _ _ _ hc) _ _ c (by have := hc.1; omega) hlt) (fun _ h => h) hO)
              (fun c hc => by have := hc.2; omega) (fun c hc => by have h1 := hc.1; have h2 := hc.2; exact ⟨by omega, by omega⟩) ⟨by omega, by omega⟩
        · have HEQ := Lib.hid (show rEqP s.data.toList (rSimp s.data.toList (k + 2)) = at8 s.data.toList [41] j by
            rw [ByteArray.toList_eq] at hnm
            rw [hr]; simp only [rEqP, hnm, hop, Bool.true_and])
          have HR := Lib.hid hr
          clear hr
          obtain ⟨r0, r1, r2, r3, r4, rf⟩ := cells5_cell HB1.out.res
          have hrb := bsz (heap_lt HB1.out.res)
          go_wp2_with fail
          obtain ⟨WB, hWB⟩ : ∃ WB : World, WB = w1.alloc (.cells #[.int .i64 P.op, .string P.a.n, .slice p1 P.a.us.length c1, .string P.v, .slice q1 P.ps.length d1] 44) := ⟨_, rfl⟩
          have HBB := Lib.hid (HB1.out.later (show Below w1.heap.size w1 WB by rw [hWB]; exact (Below.refl _ _).alloc (Nat.le_refl _) _))
          have HTB := Lib.hid (show WB.heap[w1.heap.size]? = some (.cells #[.int .i64 P.op, .string P.a.n, .slice p1 P.a.us.length c1, .string P.v, .slice q1 P.ps.length d1] 44 (0, 0)) by rw [hWB]; exact heap_alloc_new w1 _)
          have hzB : WB.heap.size = w1.heap.size + 1 := by rw [hWB]; simp
          have HOB := Lib.hid (show FmOwn 41 44 (s.size + 6) (NewB W w1) WB P [.int .i64 P.op, .string P.a.n, .slice p1 P.a.us.length c1, .string P.v, .slice q1 P.ps.length d1] from FmOwn.mono _ _ _ _ (Nat.le_refl _) (fun b hb hlt => by rw [hWB]; exact hao w1 _ b hlt) (fun _ h => h) HO1.out)
          rw [← hWB]
          clear hWB HO1 r0 r1 r2 r3 r4 rf hrb
          obtain ⟨r0, r1, r2, r3, r4, rf⟩ := cells5_cell HBB.out.res
          have hrb := bsz (heap_lt HBB.out.res)
          refine (l8Starts_any s _ j _ hwt.2.1 (by omega) (by decide)).mono ?_
          rw [show (⟨#[41]⟩ : ByteArray).data.toList.isPrefixOf (s.data.toList.drop j) = at8 s.data.toList [41] j from rfl]
          rintro e w2 ⟨rfl, rfl⟩
          cases h41 : at8 s.data.toList [41] j
          · have HFIN := Lib.hid (show rFrm s.data.toList (f' + 1 + 1) k = (rPair s.data.toList (f' + 1) (k + 1)).map (fun r => (opF 4 [r.1], r.2)) by rw [HF0.out, HEQ.out, h41, if_neg (by simp)])
            clear hzB
            go_wp2_with fail
            rw [show ((k : Int) + 1) = ((k + 1 : Nat) : Int) by omega]
            refine (l8Pair_of f' (IH2.out f' rfl) s (k + 1) _ (by omega) hs (by omega)).mono ?_
            rintro e w2 ⟨x2, rfl, hgot⟩
            have HG := Lib.hid hgot
            clear hgot r0 r1 r2 r3 r4 rf hrb
            have HBR := Lib.hid (HBB.out.later HG.out.1)
            obtain ⟨r0, r1, r2, r3, r4, rf⟩ := cells5_cell HBR.out.res
            have hrb := bsz (heap_lt HBR.out.res)
            obtain ⟨hb2, op2, n2, v2, p2, q2, k2', c2', k3, d3, z2, hx2, hm2⟩ := HG.out
            subst hx2
            have HM := Lib.hid hm2
            have hq2 := hb2.size
            have hwW := HBB.out.bel.size
            have hwz := heap_lt HBB.out.res
            clear hb2 hm2
            go_wp2
            refine bodyPost_ret (v := .tuple #[.agg #[.int .i64 4, .string ⟨#[]⟩, .slice none 0 0, .string ⟨#[]⟩, .slice (some ⟨w2.heap.size + 1, 0, none⟩) 1 1], .int .i64 z2]) (by simp only [results, Tryz.results213]; go_simp) rfl ⟨_, rfl, ?_⟩
            rw [HFIN.out]
            have hmm := HM.out
            cases hr : rPair s.data.toList (f' + 1) (k + 1) with
            | none =>
              rw [hr] at hmm
              simp only at hmm
              subst hmm
              exact ((GotFm.no HBR.out _ _ _ _ _ _ _ _ _ _ _ _ _ _).later ((Below.refl _ _).alloc (Nat.le_refl _) _)).later ((Below.refl _ _).alloc (Nat.le_refl _) _)
            | some r =>
              obtain ⟨F, i⟩ := r
              rw [hr] at hmm
              simp only at hmm
              obtain ⟨rfl, hO⟩ := hmm
              have hk : ∀ (W3 : World), W3.heap.size = w2.heap.size → (∀ c, c ≠ w.heap.size → W3.heap[c]? = w2.heap[c]?) → ∀ (o o2 : Obj) c, c ≠ w.heap.size → c < w2.heap.size → ((W3.alloc o).alloc o2).heap[c]? = w2.heap[c]? := fun W3 hz hs o o2 c hc hlt => (hao _ _ c (by simp; omega)).trans ((hao _ _ c (by omega)).trans (hs c hc))
              refine GotFm.made (S := fun c => w.heap.size < c ∧ c < w2.heap.size + 2) (Below.al (Below.al (HBR.out.set _ _ _ _ _) _) _) ?_ (fun c hc => ⟨by omega, by simp; omega⟩) i
              refine FmOwn.mono ((f' + 1) + s.size + 7) ((f' + 1) + 1 + s.size + 6) _ _ (by omega) (SameOn.refl _ _) (fun _ h => h) (opF_own (m := (f' + 1) + s.size + 5) (by omega) ?_)
              exact OwnRow.one' (S := NewB WB w2) (by simp) #[.int .i64 op2, .string n2, .slice p2 k2' c2', .string v2, .slice q2 k3 d3] rfl
                (FmOwn.mono _ _ _ _ (by omega) (fun c (hc : NewB WB w2 c) hlt => hk _ (by simp) (fun c hc => set5_heap w2 _ c _ _ _ _ _ hc) _ _ c (by have := hc.1; omega) hlt) (fun _ h => h) hO)
                (fun c hc => by have := hc.2; omega) (fun c hc => by have h1 := hc.1; have h2 := hc.2; exact ⟨by omega, by omega⟩) ⟨by omega, by omega⟩
          · have HFIN := Lib.hid (show rFrm s.data.toList (f' + 1 + 1) k = some (opF 4 [P], j + 1) by rw [HF0.out, HEQ.out, h41, if_pos rfl, HR.out]; rfl)
            obtain ⟨b0, b1, b2, b3, b4, bf⟩ := cells5_cell HTB.out
            have hbb := bsz (heap_lt HTB.out)
            have HZB := Lib.hid hzB
            clear hzB
            go_wp2
            refine bodyPost_ret (v := .tuple #[.agg #[.int .i64 4, .string ⟨#[]⟩, .slice none 0 0, .string ⟨#[]⟩, .slice (some ⟨WB.heap.size, 0, none⟩) 1 1], .int .i64 ((j + 1 : Nat) : Int)]) (by simp only [results, Tryz.results213]; go_simp) rfl ⟨_, rfl, ?_⟩
            rw [HFIN.out]
            have hz := HZB.out
            refine GotFm.made (S := fun c => w.heap.size < c ∧ c < WB.heap.size + 1) (Below.al (HBB.out.set _ _ _ _ _) _) ?_ (fun c hc => ⟨by omega, by simp; omega⟩) (j + 1)
            refine FmOwn.mono (s.size + 7) (f' + 1 + 1 + s.size + 6) _ _ (by omega) (SameOn.refl _ _) (fun _ h => h) (opF_own (m := s.size + 5) (by omega) ?_)
            exact OwnRow.one' (S := NewB W w1) (by simp) #[.int .i64 P.op, .string P.a.n, .slice p1 P.a.us.length c1, .string P.v, .slice q1 P.ps.length d1] rfl
              (FmOwn.mono _ _ _ _ (by omega) (fun c (hc : NewB W w1 c) hlt => (hao _ _ c (by simp; omega)).trans (set5_heap WB _ c _ _ _ _ _ (by have := hc.1; omega))) (fun _ h => h) HOB.out)
              (fun c hc => by have := hc.2; omega) (fun c hc => by have h1 := hc.1; have h2 := hc.2; exact ⟨by omega, by omega⟩) ⟨by omega, by omega⟩
  have H3 := Lib.hid h3
  go_wp2_with fail
  refine (HST.out _ (by decide)).mono ?_
  rw [show (⟨#[126, 40]⟩ : ByteArray).data.toList.isPrefixOf (s.data.toList.drop k) = at8 s.data.toList [126, 40] k from rfl, H3.out]
  rintro e w1 ⟨rfl, rfl⟩
  cases h4 : at8 s.data.toList [126] k
  case true =>
    have H4 := Lib.hid h4
    have h5 : k + 1 ≤ s.size := by have := at8_le h4 hk'; rw [← size_list] at this; exact this
    have HFIN := Lib.hid (show rFrm s.data.toList (f + 1) k = (rFrm s.data.toList f (k + 1)).map (fun r => (opF 4 [r.1], r.2)) by rw [rFrm, if_neg (by rw [h1]; simp), if_neg (by rw [h2]; simp), if_neg (by rw [h3]; simp), if_pos h4])
    clear h1 h2 h3 h4
    go_wp2_with fail
    refine (HST.out _ (by decide)).mono ?_
    rw [show (⟨#[126]⟩ : ByteArray).data.toList.isPrefixOf (s.data.toList.drop k) = at8 s.data.toList [126] k from rfl, H4.out]
    rintro e w1 ⟨rfl, rfl⟩
    go_wp2_with fail
    rw [show ((k : Int) + 1) = ((k + 1 : Nat) : Int) by omega]
    refine (IH.out s (k + 1) _ h5 hs (by omega)).mono ?_
    rintro e w2 ⟨x2, rfl, hgot⟩
    obtain ⟨r0, r1, r2, r3, r4, rf⟩ := cells5_cell HB.out.res
    have hrb := bsz (heap_lt HB.out.res)
    have HG := Lib.hid hgot
    clear hgot r0 r1 r2 r3 r4 rf hrb
    have HBR := Lib.hid (HB.out.later HG.out.1)
    obtain ⟨r0, r1, r2, r3, r4, rf⟩ := cells5_cell HBR.out.res
    have hrb := bsz (heap_lt HBR.out.res)
    obtain ⟨hb2, op2, n2, v2, p2, q2, k2', c2', k3, d3, z2, hx2, hm2⟩ := HG.out
    subst hx2
    have HM := Lib.hid hm2
    have hq2 := hb2.size
    have hwW := HB.out.bel.size
    have hwz := heap_lt HB.out.res
    clear hb2 hm2
    go_wp2
    refine bodyPost_ret (v := .tuple #[.agg #[.int .i64 4, .string ⟨#[]⟩, .slice none 0 0, .string ⟨#[]⟩, .slice (some ⟨w2.heap.size + 1, 0, none⟩) 1 1], .int .i64 z2]) (by simp only [results, Tryz.results213]; go_simp) rfl ⟨_, rfl, ?_⟩
    rw [HFIN.out]
    have hmm := HM.out
    cases hr : rFrm s.data.toList f (k + 1) with
    | none =>
      rw [hr] at hmm
      simp only at hmm
      subst hmm
      exact ((GotFm.no HBR.out _ _ _ _ _ _ _ _ _ _ _ _ _ _).later ((Below.refl _ _).alloc (Nat.le_refl _) _)).later ((Below.refl _ _).alloc (Nat.le_refl _) _)
    | some r =>
      obtain ⟨F, i⟩ := r
      rw [hr] at hmm
      simp only at hmm
      obtain ⟨rfl, hO⟩ := hmm
      have hk : ∀ (W3 : World), W3.heap.size = w2.heap.size → (∀ c, c ≠ w.heap.size → W3.heap[c]? = w2.heap[c]?) → ∀ (o o2 : Obj) c, c ≠ w.heap.size → c < w2.heap.size → ((W3.alloc o).alloc o2).heap[c]? = w2.heap[c]? := fun W3 hz hs o o2 c hc hlt => (hao _ _ c (by simp; omega)).trans ((hao _ _ c (by omega)).trans (hs c hc))
      refine GotFm.made (S := fun c => w.heap.size < c ∧ c < w2.heap.size + 2) (Below.al (Below.al (HBR.out.set _ _ _ _ _) _) _) ?_ (fun c hc => ⟨by omega, by simp; omega⟩) i
      refine FmOwn.mono (f + s.size + 7) (f + 1 + s.size + 6) _ _ (by omega) (SameOn.refl _ _) (fun _ h => h) (opF_own (m := f + s.size + 5) (by omega) ?_)
      exact OwnRow.one' (S := NewB W w2) (by simp) #[.int .i64 op2, .string n2, .slice p2 k2' c2', .string v2, .slice q2 k3 d3] rfl
        (FmOwn.mono _ _ _ _ (by omega) (fun c (hc : NewB W w2 c) hlt => hk _ (by simp) (fun c hc => set5_heap w2 _ c _ _ _ _ _ hc) _ _ c (by have := hc.1; omega) hlt) (fun _ h => h) hO)
        (fun c hc => by have := hc.2; omega) (fun c hc => by have h1 := hc.1; have h2 := hc.2; exact ⟨by omega, by omega⟩) ⟨by omega, by omega⟩
  have H4 := Lib.hid h4
  go_wp2_with fail
  refine (HST.out _ (by decide)).mono ?_
  rw [show (⟨#[126]⟩ : ByteArray).data.toList.isPrefixOf (s.data.toList.drop k) = at8 s.data.toList [126] k from rfl, H4.out]
  rintro e w1 ⟨rfl, rfl⟩
  cases h5 : at8 s.data.toList [40] k
  case true =>
    have H5 := Lib.hid h5
    have h6 : k + 1 ≤ s.size := by have := at8_le h5 hk'; rw [← size_list] at this; exact this
    obtain ⟨f', rfl⟩ : ∃ q, f = q + 1 := ⟨f - 1, by omega⟩
    have HFIN := Lib.hid (show rFrm s.data.toList (f' + 1 + 1) k = rPair s.data.toList (f' + 1) k by rw [rFrm, if_neg (by rw [h1]; simp), if_neg (by rw [h2]; simp), if_neg (by rw [h3]; simp), if_neg (by rw [h4]; simp), if_pos h5])
    clear h1 h2 h3 h4 h5
    go_wp2_with fail
    refine (HST.out _ (by decide)).mono ?_
    rw [show (⟨#[40]⟩ : ByteArray).data.toList.isPrefixOf (s.data.toList.drop k) = at8 s.data.toList [40] k from rfl, H5.out]
    rintro e w1 ⟨rfl, rfl⟩
    go_wp2_with fail
    refine (l8Pair_of f' (IH2.out f' rfl) s k _ h6 hs (by omega)).mono ?_
    rintro e w1 ⟨x, rfl, hg⟩
    have HG := Lib.hid hg
    obtain ⟨r0, r1, r2, r3, r4, rf⟩ := cells5_cell (HB.out.later hg.1).res
    have hrb := bsz (heap_lt (HB.out.later hg.1).res)
    obtain ⟨hb1, op1, n1, v1, p1, q1, k1, c1, k2, d1, z1, rfl, -⟩ := hg
    clear hb1
    go_wp2
    refine bodyPost_ret (v := .tuple #[.agg #[.int .i64 op1, .string n1, .slice p1 k1 c1, .string v1, .slice q1 k2 d1], .int .i64 z1]) (by simp only [results, Tryz.results213]; go_simp) rfl ⟨_, rfl, ?_⟩
    rw [HFIN.out]
    exact GotFm.mono (by omega) (HB.out.pass HG.out _ _ _ _ _)
  have H5 := Lib.hid h5
  have HFIN := Lib.hid (show rFrm s.data.toList (f + 1) k = rSimp s.data.toList k by rw [rFrm, if_neg (by rw [h1]; simp), if_neg (by rw [h2]; simp), if_neg (by rw [h3]; simp), if_neg (by rw [h4]; simp), if_neg (by rw [h5]; simp)])
  clear h1 h2 h3 h4 h5
  go_wp2_with fail
  refine (HST.out _ (by decide)).mono ?_
  rw [show (⟨#[40]⟩ : ByteArray).data.toList.isPrefixOf (s.data.toList.drop k) = at8 s.data.toList [40] k from rfl, H5.out]
  rintro e w1 ⟨rfl, rfl⟩
  go_wp2_with fail
  refine (l8Simple_any s k _ hk hs).mono ?_
  rintro e w1 ⟨x, rfl, hg⟩
  have HG := Lib.hid hg
  obtain ⟨r0, r1, r2, r3, r4, rf⟩ := cells5_cell (HB.out.later hg.1).res
  have hrb := bsz (heap_lt (HB.out.later hg.1).res)
  obtain ⟨hb1, op1, n1, v1, p1, q1, k1, c1, k2, d1, z1, rfl, -⟩ := hg
  clear hb1
  go_wp2
  refine bodyPost_ret (v := .tuple #[.agg #[.int .i64 op1, .string n1, .slice p1 k1 c1, .string v1, .slice q1 k2 d1], .int .i64 z1]) (by simp only [results, Tryz.results213]; go_simp) rfl ⟨_, rfl, ?_⟩
  rw [HFIN.out]
  exact GotFm.mono (by omega) (HB.out.pass HG.out _ _ _ _ _)
theorem l8Read_any : ∀ f : Nat, ReadC f ∧ ReadC (f + 1)
  | 0 => ⟨fun _ _ _ _ _ hf => absurd hf (by omega), fun _ _ _ _ _ hf => absurd hf (by omega)⟩
  | f + 1 => ⟨(l8Read_any f).2, fun s k w hk hs hf => l8Read_of (f + 1) (l8Read_any f).2 (fun f' hf' => (show f = f' by omega) ▸ (l8Read_any f).1) s k w hk hs hf⟩
end Go.Proofs.YtkgfanajgdelcaaGreatDoor
