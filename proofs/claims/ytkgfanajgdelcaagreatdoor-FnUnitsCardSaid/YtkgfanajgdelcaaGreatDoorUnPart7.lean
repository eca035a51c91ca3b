/- The program's table of signs: a map that the call makes. No conditions. -/
import Derived.Maps.StringElems
import Derived.Test.YtkgfanajgdelcaaGreatDoorUnPart3
import Derived.Test.YtkgfanajgdelcaaGreatDoorUnPart5
import Derived.Test.YtkgfanajgdelcaaGreatDoorUnPart6
namespace Go.Proofs.YtkgfanajgdelcaaGreatDoor
open Go.RowKit
theorem BSt.pass {f : Nat} {r : Option (Fm × Nat)} {w W w1 : World} {x : Value} (h : BSt w W) (hg : GotFm f r W x w1) (a0 a1 a2 a3 a4 : Value) :
    GotFm f r w x (((((w1.setCell ⟨w.heap.size, 0, none⟩ a0).setCell ⟨w.heap.size, 1, none⟩ a1).setCell ⟨w.heap.size, 2, none⟩ a2).setCell ⟨w.heap.size, 3, none⟩ a3).setCell ⟨w.heap.size, 4, none⟩ a4) := by
  obtain ⟨hb, op, n, v, p, q, k, c, k2, d, z, rfl, hm⟩ := hg
  have hB := h.later hb
  match r, hm with
  | none, hm => obtain rfl := hm; exact GotFm.no hB _ _ _ _ _ _ _ _ _ _ _ _ _ _
  | some (F, j), ⟨hz, hO⟩ =>
    subst hz
    have := heap_lt h.res
    exact GotFm.yes hB hO (fun b hb => ⟨by have := hb.1; omega, hb.2⟩) j _ _ _ _ _
set_option maxRecDepth 100000 in
set_option maxHeartbeats 6400000 in
theorem l8Read_of (f : Nat) (ih : ReadC f) (ih2 : ∀ f', f = f' + 1 → ReadC f') (s : ByteArray) (k : Nat) (w : World) (hk : k ≤ s.size) (hs : s.size ≤ 1000000) (hf : 2 * (s.size - k) + 1 < f + 1) :
    Calls Tryz.prog 213 #[.string s, .int .i64 (k : Nat)] w fun e w' => ∃ x, e = .returned x ∧ GotFm (f + 1 + s.size + 6) (rFrm s.data.toList (f + 1) k) w x w' := by
  have IH := Lib.hid ih
  have IH2 := Lib.hid ih2
  have hk' : k ≤ s.data.toList.length := by rw [← size_list]; exact hk
  obtain ⟨W, hW⟩ : ∃ W : World, W = w.alloc (.cells #[.int .i64 0, .string ⟨#[]⟩, .slice none 0 0, .string ⟨#[]⟩, .slice none 0 0] 44) := ⟨_, rfl⟩
  have HB := Lib.hid (show BSt w W by rw [hW]; exact BSt.start w)
  have hzW : W.heap.size = w.heap.size + 1 := by rw [hW]; simp
  have st := fun (t : ByteArray) (ht : t.size ≤ 1000000) => l8Starts_any s t k W hk (by omega) ht
  have HST := Lib.hid st
  clear ih ih2 st
  go_enter Tryz.func213, Tryz.ntmps213
  go_wp2_with fail
  rw [← hW]
  clear hW
  cases h1 : at8 s.data.toList sAll8 k
  case true =>
    have H1 := Lib.hid h1
    have h2 : k + 4 ≤ s.size := by have := at8_le h1 hk'; rw [← size_list] at this; exact this
    obtain ⟨f', rfl⟩ : ∃ q, f = q + 1 := ⟨f - 1, by omega⟩
    have HFIN := Lib.hid (show rFrm s.data.toList (f' + 1 + 1) k = rQua s.data.toList (f' + 1) 8 (k + 4) by rw [rFrm, if_pos h1])
    clear h1
    go_wp2_with fail
    refine (HST.out _ (by decide)).mono ?_
    rw [show (⟨#[97, 108, 108, 32]⟩ : ByteArray).data.toList.isPrefixOf (s.data.toList.drop k) = at8 s.data.toList sAll8 k from rfl, H1.out]
    rintro e w1 ⟨rfl, rfl⟩
    go_wp2_with fail
    rw [show ((k : Int) + 4) = ((k + 4 : Nat) : Int) by omega]
    refine (l8Quantified_of f' (IH2.out f' rfl) s (k + 4) 8 (by omega) _ h2 hs (by omega)).mono ?_
    rintro e w1 ⟨x, rfl, hg⟩
    have HG := Lib.hid hg
    obtain ⟨r0, r1, r2, r3, r4, rf⟩ := cells5_cell (HB.out.later hg.1).res
    have hrb := bsz (heap_lt (HB.out.later hg.1).res)
    obtain ⟨hb1, op1, n1, v1, p1, q1, k1, c1, k2, d1, z1, rfl, -⟩ := hg
    clear hb1
    go_wp2
    refine bodyPost_ret (v := .tuple #[.agg #[.int .i64 op1, .string n1, .slice p1 k1 c1, .string v1, .slice q1 k2 d1], .int .i64 z1]) (by simp only [results, Tryz.results213]; go_simp) rfl ⟨_, rfl, ?_⟩
    rw [HFIN.out]
    exact GotFm.mono (by omega) (HB.out.pass HG.out _ _ _ _ _)
  have H1 := Lib.hid h1
  go_wp2_with fail
  refine (HST.out _ (by decide)).mono ?_
  rw [show (⟨#[97, 108, 108, 32]⟩ : ByteArray).data.toList.isPrefixOf (s.data.toList.drop k) = at8 s.data.toList sAll8 k from rfl, H1.out]
  rintro e w1 ⟨rfl, rfl⟩
  cases h2 : at8 s.data.toList sSome8 k
  case true =>
    have H2 := Lib.hid h2
    have h3 : k + 5 ≤ s.size := by have := at8_le h2 hk'; rw [← size_list] at this; exact this
    obtain ⟨f', rfl⟩ : ∃ q, f = q + 1 := ⟨f - 1, by omega⟩
    have HFIN := Lib.hid (show rFrm s.data.toList (f' + 1 + 1) k = rQua s.data.toList (f' + 1) 9 (k + 5) by rw [rFrm, if_neg (by rw [h1]; simp), if_pos h2])
    clear h1 h2
    go_wp2_with fail
    refine (HST.out _ (by decide)).mono ?_
    rw [show (⟨#[115, 111, 109, 101, 32]⟩ : ByteArray).data.toList.isPrefixOf (s.data.toList.drop k) = at8 s.data.toList sSome8 k from rfl, H2.out]
    rintro e w1 ⟨rfl, rfl⟩
    go_wp2_with fail
    rw [show ((k : Int) + 5) = ((k + 5 : Nat) : Int) by omega]
    refine (l8Quantified_of f' (IH2.out f' rfl) s (k + 5) 9 (by omega) _ h3 hs (by omega)).mono ?_
    rintro e w1 ⟨x, rfl, hg⟩
    have HG := Lib.hid hg
    obtain ⟨r0, r1, r2, r3, r4, rf⟩ := cells5_cell (HB.out.later hg.1).res
    have hrb := bsz (heap_lt (HB.out.later hg.1).res)
    obtain ⟨hb1, op1, n1, v1, p1, q1, k1, c1, k2, d1, z1, rfl, -⟩ := hg
    clear hb1
    go_wp2
    refine bodyPost_ret (v := .tuple #[.agg #[.int .i64 op1, .string n1, .slice p1 k1 c1, .string v1, .slice q1 k2 d1], .int .i64 z1]) (by simp only [results, Tryz.results213]; go_simp) rfl ⟨_, rfl, ?_⟩
    rw [HFIN.out]
    exact GotFm.mono (by omega) (HB.out.pass HG.out _ _ _ _ _)
  have H2 := Lib.hid h2
  go_wp2_with fail
  refine (HST.out _ (by decide)).mono ?_
  rw [show (⟨#[115, 111, 109, 101, 32]⟩ : ByteArray).data.toList.isPrefixOf (s.data.toList.drop k) = at8 s.data.toList sSome8 k from rfl, H2.out]
  rintro e w1 ⟨rfl, rfl⟩
  cases h3 : at8 s.data.toList [126, 40] k
  case true =>
    have H3 := Lib.hid h3
    have h4 : k + 2 ≤ s.size := by have := at8_le h3 hk'; rw [← size_list] at this; exact this
    obtain ⟨f', rfl⟩ : ∃ q, f = q + 1 := ⟨f - 1, by omega⟩
    have HF0 := Lib.hid (show rFrm s.data.toList (f' + 1 + 1) k = if rEqP s.data.toList (rSimp s.data.toList (k + 2)) then (rSimp s.data.toList (k + 2)).map (fun r => (opF 4 [r.1], r.2 + 1)) else (rPair s.data.toList (f' + 1) (k + 1)).map (fun r => (opF 4 [r.1], r.2)) by rw [rFrm, if_neg (by rw [h1]; simp), if_neg (by rw [h2]; simp), if_pos h3])
    clear h1 h2 h3
    go_wp2_with fail
    refine (HST.out _ (by decide)).mono ?_
    rw [show (⟨#[126, 40]⟩ : ByteArray).data.toList.isPrefixOf (s.data.toList.drop k) = at8 s.data.toList [126, 40] k from rfl, H3.out]
    rintro e w1 ⟨rfl, rfl⟩
    go_wp2_with fail
    rw [show ((k : Int) + 2) = ((k + 2 : Nat) : Int) by omega]
    refine (l8Simple_any s (k + 2) _ h4 hs).mono ?_
    rintro e w1 ⟨x, rfl, hgot1⟩
    have HB1 := Lib.hid (HB.out.later hgot1.1)
    obtain ⟨hb1, op1, n1, v1, p1, q1, k1, c1, k2, d1, z1, rfl, hm1⟩ := hgot1
    have hq1 := hb1.size
    cases hr : rSimp s.data.toList (k + 2) with
    | none =>
      rw [hr] at hm1
      simp only at hm1
      subst hm1
      have HFIN := Lib.hid (show rFrm s.data.toList (f' + 1 + 1) k = (rPair s.data.toList (f' + 1) (k + 1)).map (fun r => (opF 4 [r.1], r.2)) by rw [HF0.out, hr, if_neg (by simp [rEqP])])
      obtain ⟨r0, r1, r2, r3, r4, rf⟩ := cells5_cell HB1.out.res
      have hrb := bsz (heap_lt HB1.out.res)
      go_wp2_with fail
      obtain ⟨WB, hWB⟩ : ∃ WB : World, WB = w1.alloc (.cells #[.int .i64 op1, .string n1, .slice p1 k1 c1, .string v1, .slice q1 k2 d1] 44) := ⟨_, rfl⟩
      have HBB := Lib.hid (HB1.out.later (show Below w1.heap.size w1 WB by rw [hWB]; exact (Below.refl _ _).alloc (Nat.le_refl _) _))
      rw [← hWB]
      clear hWB
      rw [show ((k : Int) + 1) = ((k + 1 : Nat) : Int) by omega]
      refine (l8Pair_of f' (IH2.out f' rfl) s (k + 1) _ (by omega) hs (by omega)).mono ?_
      rintro e w2 ⟨x2, rfl, hgot⟩
      have HG := Lib.hid hgot
      clear hgot r0 r1 r2 r3 r4 rf hrb
      have HBR := Lib.hid (HBB.out.later HG.out.1)
      obtain ⟨r0, r1, r2, r3, r4, rf⟩ := cells5_cell HBR.out.res
      have hrb := bsz (heap_lt HBR.out.res)
      obtain ⟨hb2, op2, n2, v2, p2, q2, k2', c2', k3, d3, z2, hx2, hm2⟩ := HG.out
      subst hx2
      have HM := Lib.hid hm2
      have hq2 := hb2.size
      have hwW := HBB.out.bel.size
      have hwz := heap_lt HBB.out.res
      clear hb2 hm2
      go_wp2
      refine bodyPost_ret (v := .tuple #[.agg #[.int .i64 4, .string ⟨#[]⟩, .slice none 0 0, .string ⟨#[]⟩, .slice (some ⟨w2.heap.size + 1, 0, none⟩) 1 1], .int .i64 z2]) (by simp only [results, Tryz.results213]; go_simp) rfl ⟨_, rfl, ?_⟩
      rw [HFIN.out]
      have hmm := HM.out
      cases hr : rPair s.data.toList (f' + 1) (k + 1) with
      | none =>
        rw [hr] at hmm
        simp only at hmm
        subst hmm
        exact ((GotFm.no HBR.out _ _ _ _ _ _ _ _ _ _ _ _ _ _).later ((Below.refl _ _).alloc (Nat.le_refl _) _)).later ((Below.refl _ _).alloc (Nat.le_refl _) _)
      | some r =>
        obtain ⟨F, i⟩ := r
        rw [hr] at hmm
        simp only at hmm
        obtain ⟨rfl, hO⟩ := hmm
        have hk : ∀ (W3 : World), W3.heap.size = w2.heap.size → (∀ c, c ≠ w.heap.size → W3.heap[c]? = w2.heap[c]?) → ∀ (o o2 : Obj) c, c ≠ w.heap.size → c < w2.heap.size → ((W3.alloc o).alloc o2).heap[c]? = w2.heap[c]? := fun W3 hz hs o o2 c hc hlt => (hao _ _ c (by simp; omega)).trans ((hao _ _ c (by omega)).trans (hs c hc))
        refine GotFm.made (S := fun c => w.heap.size < c ∧ c < w2.heap.size + 2) (Below.al (Below.al (HBR.out.set _ _ _ _ _) _) _) ?_ (fun c hc => ⟨by omega, by simp; omega⟩) i
        refine FmOwn.mono ((f' + 1) + s.size + 7) ((f' + 1) + 1 + s.size + 6) _ _ (by omega) (SameOn.refl _ _) (fun _ h => h) (opF_own (m := (f' + 1) + s.size + 5) (by omega) ?_)
        exact OwnRow.one' (S := NewB WB w2) (by simp) #[.int .i64 op2, .string n2, .slice p2 k2' c2', .string v2, .slice q2 k3 d3] rfl
          (FmOwn.mono _ _ _ _ (by omega) (fun c (hc : NewB WB w2 c) hlt => hk _ (by simp) (fun c hc => set5_heap w2 _ c _ _ _ _ _ hc) _ _ c (by have := hc.1; omega) hlt) (fun _ h => h) hO)
          (fun c hc => by have := hc.2; omega) (fun c hc => by have h1 := hc.1; have h2 := hc.2; exact ⟨by omega, by omega⟩) ⟨by omega, by omega⟩
    | some r =>
      obtain ⟨P, j⟩ := r
      have hwt := rSimp_wt s.data.toList (k + 2) P j (by rw [← size_list]; exact h4) hr
      rw [← size_list] at hwt
      rw [hr] at hm1
      simp only at hm1
      obtain ⟨rfl, hO1⟩ := hm1
      obtain ⟨p', c', q', d', e1, e2, e3, e4, e5, -⟩ := hO1.form
      simp only [Value.int.injEq, Value.string.injEq, Value.slice.injEq, true_and] at e1 e2 e3 e4 e5
      obtain rfl := e1
      obtain rfl := e2
      obtain rfl := e4
      obtain ⟨rfl, rfl, rfl⟩ := e3
      obtain ⟨rfl, rfl, rfl⟩ := e5
      have HO1 := Lib.hid hO1
      have hjn : ((j : Nat) : Int) ≥ 0 := by omega
      have hjn' : (0 : Int) ≤ ((j : Nat) : Int) := by omega
      clear hO1
      cases hop : (P.op == 3)
      · have HFIN := Lib.hid (show rFrm s.data.toList (f' + 1 + 1) k = (rPair s.data.toList (f' + 1) (k + 1)).map (fun r => (opF 4 [r.1], r.2)) by rw [HF0.out, hr, if_neg (by simp [rEqP, hop])])
        clear hr
        obtain ⟨r0, r1, r2, r3, r4, rf⟩ := cells5_cell HB1.out.res
        have hrb := bsz (heap_lt HB1.out.res)
        go_wp2_with fail
        obtain ⟨WB, hWB⟩ : ∃ WB : World, WB = w1.alloc (.cells #[.int .i64 P.op, .string P.a.n, .slice p1 P.a.us.length c1, .string P.v, .slice q1 P.ps.length d1] 44) := ⟨_, rfl⟩
        have HBB := Lib.hid (HB1.out.later (show Below w1.heap.size w1 WB by rw [hWB]; exact (Below.refl _ _).alloc (Nat.le_refl _) _))
        rw [← hWB]
        clear hWB
        rw [show ((k : Int) + 1) = ((k + 1 : Nat) : Int) by omega]
        refine (l8Pair_of f' (IH2.out f' rfl) s (k + 1) _ (by omega) hs (by omega)).mono ?_
        rintro e w2 ⟨x2, rfl, hgot⟩
        have HG := Lib.hid hgot
        clear hgot r0 r1 r2 r3 r4 rf hrb
        have HBR := Lib.hid (HBB.out.later HG.out.1)
        obtain ⟨r0, r1, r2, r3, r4, rf⟩ := cells5_cell HBR.out.res
        have hrb := bsz (heap_lt HBR.out.res)
        obtain ⟨hb2, op2, n2, v2, p2, q2, k2', c2', k3, d3, z2, hx2, hm2⟩ := HG.out
        subst hx2
        have HM := Lib.hid hm2
        have hq2 := hb2.size
        have hwW := HBB.out.bel.size
        have hwz := heap_lt HBB.out.res
        clear hb2 hm2
        go_wp2
        refine bodyPost_ret (v := .tuple #[.agg #[.int .i64 4, .string ⟨#[]⟩, .slice none 0 0, .string ⟨#[]⟩, .slice (some ⟨w2.heap.size + 1, 0, none⟩) 1 1], .int .i64 z2]) (by simp only [results, Tryz.results213]; go_simp) rfl ⟨_, rfl, ?_⟩
        rw [HFIN.out]
        have hmm := HM.out
        cases hr : rPair s.data.toList (f' + 1) (k + 1) with
        | none =>
          rw [hr] at hmm
          simp only at hmm
          subst hmm
          exact ((GotFm.no HBR.out _ _ _ _ _ _ _ _ _ _ _ _ _ _).later ((Below.refl _ _).alloc (Nat.le_refl _) _)).later ((Below.refl _ _).alloc (Nat.le_refl _) _)
        | some r =>
          obtain ⟨F, i⟩ := r
          rw [hr] at hmm
          simp only at hmm
          obtain ⟨rfl, hO⟩ := hmm
          have hk : ∀ (W3 : World), W3.heap.size = w2.heap.size → (∀ c, c ≠ w.heap.size → W3.heap[c]? = w2.heap[c]?) → ∀ (o o2 : Obj) c, c ≠ w.heap.size → c < w2.heap.size → ((W3.alloc o).alloc o2).heap[c]? = w2.heap[c]? := fun W3 hz hs o o2 c hc hlt => (hao _ _ c (by simp; omega)).trans ((hao _ _ c (by omega)).trans (hs c hc))
          refine GotFm.made (S := fun c => w.heap.size < c ∧ c < w2.heap.size + 2) (Below.al (Below.al (HBR.out.set _ _ _ _ _) _) _) ?_ (fun c hc => ⟨by omega, by simp; omega⟩) i
          refine FmOwn.mono ((f' + 1) + s.size + 7) ((f' + 1) + 1 + s.size + 6) _ _ (by omega) (SameOn.refl _ _) (fun _ h => h) (opF_own (m := (f' + 1) + s.size + 5) (by omega) ?_)
          exact OwnRow.one' (S := NewB WB w2) (by simp) #[.int .i64 op2, .string n2, .slice p2 k2' c2', .string v2, .slice q2 k3 d3] rfl
            (FmOwn.mono _ _ _ _ (by omega) (fun c (hc : NewB WB w2 c) hlt => hk _ (by simp) (fun c hc => set5_heap w2 _ c _ _ _ _ _ hc) _ _ c (by have := hc.1; omega) hlt) (fun _ h => h) hO)
            (fun c hc => by have := hc.2; omega) (fun c hc => by have h1 := hc.1; have h2 := hc.2; exact ⟨by omega, by omega⟩) ⟨by omega, by omega⟩
      · cases hnm : (P.a.n.toList == [61])
        · have HFIN := Lib.hid (show rFrm s.data.toList (f' + 1 + 1) k = (rPair s.data.toList (f' + 1) (k + 1)).map (fun r => (opF 4 [r.1], r.2)) by
            rw [ByteArray.toList_eq] at hnm
            rw [HF0.out, hr, if_neg (by simp only [rEqP, hnm]; simp)])
          clear hr
          obtain ⟨r0, r1, r2, r3, r4, rf⟩ := cells5_cell HB1.out.res
          have hrb := bsz (heap_lt HB1.out.res)
          go_wp2_with fail
          obtain ⟨WB, hWB⟩ : ∃ WB : World, WB = w1.alloc (.cells #[.int .i64 P.op, .string P.a.n, .slice p1 P.a.us.length c1, .string P.v, .slice q1 P.ps.length d1] 44) := ⟨_, rfl⟩
          have HBB := Lib.hid (HB1.out.later (show Below w1.heap.size w1 WB by rw [hWB]; exact (Below.refl _ _).alloc (Nat.le_refl _) _))
          rw [← hWB]
          clear hWB
          rw [show ((k : Int) + 1) = ((k + 1 : Nat) : Int) by omega]
          refine (l8Pair_of f' (IH2.out f' rfl) s (k + 1) _ (by omega) hs (by omega)).mono ?_
          rintro e w2 ⟨x2, rfl, hgot⟩
          have HG := Lib.hid hgot
          clear hgot r0 r1 r2 r3 r4 rf hrb
          have HBR := Lib.hid (HBB.out.later HG.out.1)
          obtain ⟨r0, r1, r2, r3, r4, rf⟩ := cells5_cell HBR.out.res
          have hrb := bsz (heap_lt HBR.out.res)
          obtain ⟨hb2, op2, n2, v2, p2, q2, k2', c2', k3, d3, z2, hx2, hm2⟩ := HG.out
          subst hx2
          have HM := Lib.hid hm2
          have hq2 := hb2.size
          have hwW := HBB.out.bel.size
          have hwz := heap_lt HBB.out.res
          clear hb2 hm2
          go_wp2
          refine bodyPost_ret (v := .tuple #[.agg #[.int .i64 4, .string ⟨#[]⟩, .slice none 0 0, .string ⟨#[]⟩, .slice (some ⟨w2.heap.size + 1, 0, none⟩) 1 1], .int .i64 z2]) (by simp only [results, Tryz.results213]; go_simp) rfl ⟨_, rfl, ?_⟩
          rw [HFIN.out]
          have hmm := HM.out
          cases hr : rPair s.data.toList (f' + 1) (k + 1) with
          | none =>
            rw [hr] at hmm
            simp only at hmm
            subst hmm
            exact ((GotFm.no HBR.out _ _ _ _ _ _ _ _ _ _ _ _ _ _).later ((Below.refl _ _).alloc (Nat.le_refl _) _)).later ((Below.refl _ _).alloc (Nat.le_refl _) _)
          | some r =>
            obtain ⟨F, i⟩ := r
            rw [hr] at hmm
            simp only at hmm
            obtain ⟨rfl, hO⟩ := hmm
            have hk : ∀ (W3 : World), W3.heap.size = w2.heap.size → (∀ c, c ≠ w.heap.size → W3.heap[c]? = w2.heap[c]?) → ∀ (o o2 : Obj) c, c ≠ w.heap.size → c < w2.heap.size → ((W3.alloc o).alloc o2).heap[c]? = w2.heap[c]? := fun W3 hz hs o o2 c hc hlt => (hao _ _ c (by simp; omega)).trans ((hao _ _ c (by omega)).trans (hs c hc))
            refine GotFm.made (S := fun c => w.heap.size < c ∧ c < w2.heap.size + 2) (Below.al (Below.al (HBR.out.set _ _ _ _ _) _) _) ?_ (fun c hc => ⟨by omega, by simp; omega⟩) i
            refine FmOwn.mono ((f' + 1) + s.size + 7) ((f' + 1) + 1 + s.size + 6) _ _ (by omega) (SameOn.refl _ _) (fun _ h => h) (opF_own (m := (f' + 1) + s.size + 5) (by omega) ?_)
            exact OwnRow.one' (S := NewB WB w2) (by simp) #[.int .i64 op2, .string n2, .slice p2 k2' c2', .string v2, .slice q2 k3 d3] rfl
              (FmOwn.mono _ _ _ _ (by omega) (fun c (hc : NewB WB w2 c) hlt => hk _ (by simp) (fun c hc => set5_heap w2 _ c _ _ _ _ _ hc) _ _ c (by have := hc.1; omega) hlt) (fun _ h => h) hO)
              (fun c hc => by have := hc.2; omega) (fun c hc => by have h1 := hc.1; have h2 := hc.2; exact ⟨by omega, by omega⟩) ⟨by omega, by omega⟩
        · have HEQ := Lib.hid (show rEqP s.data.toList (rSimp s.data.toList (k + 2)) = at8 s.data.toList [41] j by
            rw [ByteArray.toList_eq] at hnm
            rw [hr]; simp only [rEqP, hnm, hop, Bool.true_and])
          have HR := Lib.hid hr
          clear hr
          obtain ⟨r0, r1, r2, r3, r4, rf⟩ := cells5_cell HB1.out.res
          have hrb := bsz (heap_lt HB1.out.res)
          go_wp2_with fail
          obtain ⟨WB, hWB⟩ : ∃ WB : World, WB = w1.alloc (.cells #[.int .i64 P.op, .string P.a.n, .slice p1 P.a.us.length c1, .string P.v, .slice q1 P.ps.length d1] 44) := ⟨_, rfl⟩
          have HBB := Lib.hid (HB1.out.later (show Below w1.heap.size w1 WB by rw [hWB]; exact (Below.refl _ _).alloc (Nat.le_refl _) _))
          have HTB := Lib.hid (show WB.heap[w1.heap.size]? = some (.cells #[.int .i64 P.op, .string P.a.n, .slice p1 P.a.us.length c1, .string P.v, .slice q1 P.ps.length d1] 44 (0, 0)) by rw [hWB]; exact heap_alloc_new w1 _)
          have hzB : WB.heap.size = w1.heap.size + 1 := by rw [hWB]; simp
          have HOB := Lib.hid (show FmOwn 41 44 (s.size + 6) (NewB W w1) WB P [.int .i64 P.op, .string P.a.n, .slice p1 P.a.us.length c1, .string P.v, .slice q1 P.ps.length d1] from FmOwn.mono _ _ _ _ (Nat.le_refl _) (fun b hb hlt => by rw [hWB]; exact hao w1 _ b hlt) (fun _ h => h) HO1.out)
          rw [← hWB]
          clear hWB HO1 r0 r1 r2 r3 r4 rf hrb
          obtain ⟨r0, r1, r2, r3, r4, rf⟩ := cells5_cell HBB.out.res
          have hrb := bsz (heap_lt HBB.out.res)
          refine (l8Starts_any s _ j _ hwt.2.1 (by omega) (by decide)).mono ?_
          rw [show (⟨#[41]⟩ : ByteArray).data.toList.isPrefixOf (s.data.toList.drop j) = at8 s.data.toList [41] j from rfl]
          rintro e w2 ⟨rfl, rfl⟩
          cases h41 : at8 s.data.toList [41] j
          · have HFIN := Lib.hid (show rFrm s.data.toList (f' + 1 + 1) k = (rPair s.data.toList (f' + 1) (k + 1)).map (fun r => (opF 4 [r.1], r.2)) by rw [HF0.out, HEQ.out, h41, if_neg (by simp)])
            clear hzB
            go_wp2_with fail
            rw [show ((k : Int) + 1) = ((k + 1 : Nat) : Int) by omega]
            refine (l8Pair_of f' (IH2.out f' rfl) s (k + 1) _ (by omega) hs (by omega)).mono ?_
            rintro e w2 ⟨x2, rfl, hgot⟩
            have HG := Lib.hid hgot
            clear hgot r0 r1 r2 r3 r4 rf hrb
            have HBR := Lib.hid (HBB.out.later HG.out.1)
            obtain ⟨r0, r1, r2, r3, r4, rf⟩ := cells5_cell HBR.out.res
            have hrb := bsz (heap_lt HBR.out.res)
            obtain ⟨hb2, op2, n2, v2, p2, q2, k2', c2', k3, d3, z2, hx2, hm2⟩ := HG.out
            subst hx2
            have HM := Lib.hid hm2
            have hq2 := hb2.size
            have hwW := HBB.out.bel.size
            have hwz := heap_lt HBB.out.res
            clear hb2 hm2
            go_wp2
            refine bodyPost_ret (v := .tuple #[.agg #[.int .i64 4, .string ⟨#[]⟩, .slice none 0 0, .string ⟨#[]⟩, .slice (some ⟨w2.heap.size + 1, 0, none⟩) 1 1], .int .i64 z2]) (by simp only [results, Tryz.results213]; go_simp) rfl ⟨_, rfl, ?_⟩
            rw [HFIN.out]
            have hmm := HM.out
            cases hr : rPair s.data.toList (f' + 1) (k + 1) with
            | none =>
              rw [hr] at hmm
              simp only at hmm
              subst hmm
              exact ((GotFm.no HBR.out _ _ _ _ _ _ _ _ _ _ _ _ _ _).later ((Below.refl _ _).alloc (Nat.le_refl _) _)).later ((Below.refl _ _).alloc (Nat.le_refl _) _)
            | some r =>
              obtain ⟨F, i⟩ := r
              rw [hr] at hmm
              simp only at hmm
              obtain ⟨rfl, hO⟩ := hmm
              have hk : ∀ (W3 : World), W3.heap.size = w2.heap.size → (∀ c, c ≠ w.heap.size → W3.heap[c]? = w2.heap[c]?) → ∀ (o o2 : Obj) c, c ≠ w.heap.size → c < w2.heap.size → ((W3.alloc o).alloc o2).heap[c]? = w2.heap[c]? := fun W3 hz hs o o2 c hc hlt => (hao _ _ c (by simp; omega)).trans ((hao _ _ c (by omega)).trans (hs c hc))
              refine GotFm.made (S := fun c => w.heap.size < c ∧ c < w2.heap.size + 2) (Below.al (Below.al (HBR.out.set _ _ _ _ _) _) _) ?_ (fun c hc => ⟨by omega, by simp; omega⟩) i
              refine FmOwn.mono ((f' + 1) + s.size + 7) ((f' + 1) + 1 + s.size + 6) _ _ (by omega) (SameOn.refl _ _) (fun _ h => h) (opF_own (m := (f' + 1) + s.size + 5) (by omega) ?_)
              exact OwnRow.one' (S := NewB WB w2) (by simp) #[.int .i64 op2, .string n2, .slice p2 k2' c2', .string v2, .slice q2 k3 d3] rfl
                (FmOwn.mono _ _ _ _ (by omega) (fun c (hc : NewB WB w2 c) hlt => hk _ (by simp) (fun c hc => set5_heap w2 _ c _ _ _ _ _ hc) _ _ c (by have := hc.1; omega) hlt) (fun _ h => h) hO)
                (fun c hc => by have := hc.2; omega) (fun c hc => by have h1 := hc.1; have h2 := hc.2; exact ⟨by omega, by omega⟩) ⟨by omega, by omega⟩
          · have HFIN := Lib.hid (show rFrm s.data.toList (f' + 1 + 1) k = some (opF 4 [P], j + 1) by rw [HF0.out, HEQ.out, h41, if_pos rfl, HR.out]; rfl)
            obtain ⟨b0, b1, b2, b3, b4, bf⟩ := cells5_cell HTB.out
            have hbb := bsz (heap_lt HTB.out)
            have HZB := Lib.hid hzB
            clear hzB
            go_wp2
            refine bodyPost_ret (v := .tuple #[.agg #[.int .i64 4, .string ⟨#[]⟩, .slice none 0 0, .string ⟨#[]⟩, .slice (some ⟨WB.heap.size, 0, none⟩) 1 1], .int .i64 ((j + 1 : Nat) : Int)]) (by simp only [results, Tryz.results213]; go_simp) rfl ⟨_, rfl, ?_⟩
            rw [HFIN.out]
            have hz := HZB.out
            refine GotFm.made (S := fun c => w.heap.size < c ∧ c < WB.heap.size + 1) (Below.al (HBB.out.set _ _ _ _ _) _) ?_ (fun c hc => ⟨by omega, by simp; omega⟩) (j + 1)
            refine FmOwn.mono (s.size + 7) (f' + 1 + 1 + s.size + 6) _ _ (by omega) (SameOn.refl _ _) (fun _ h => h) (opF_own (m := s.size + 5) (by omega) ?_)
            exact OwnRow.one' (S := NewB W w1) (by simp) #[.int .i64 P.op, .string P.a.n, .slice p1 P.a.us.length c1, .string P.v, .slice q1 P.ps.length d1] rfl
              (FmOwn.mono _ _ _ _ (by omega) (fun c (hc : NewB W w1 c) hlt => (hao _ _ c (by simp; omega)).trans (set5_heap WB _ c _ _ _ _ _ (by have := hc.1; omega))) (fun _ h => h) HOB.out)
              (fun c hc => by have := hc.2; omega) (fun c hc => by have h1 := hc.1; have h2 := hc.2; exact ⟨by omega, by omega⟩) ⟨by omega, by omega⟩
  have H3 := Lib.hid h3
  go_wp2_with fail
  refine (HST.out _ (by decide)).mono ?_
  rw [show (⟨#[126, 40]⟩ : ByteArray).data.toList.isPrefixOf (s.data.toList.drop k) = at8 s.data.toList [126, 40] k from rfl, H3.out]
  rintro e w1 ⟨rfl, rfl⟩
  cases h4 : at8 s.data.toList [126] k
  case true =>
    have H4 := Lib.hid h4
    have h5 : k + 1 ≤ s.size := by have := at8_le h4 hk'; rw [← size_list] at this; exact this
    have HFIN := Lib.hid (show rFrm s.data.toList (f + 1) k = (rFrm s.data.toList f (k + 1)).map (fun r => (opF 4 [r.1], r.2)) by rw [rFrm, if_neg (by rw [h1]; simp), if_neg (by rw [h2]; simp), if_neg (by rw [h3]; simp), if_pos h4])
    clear h1 h2 h3 h4
    go_wp2_with fail
    refine (HST.out _ (by decide)).mono ?_
    rw [show (⟨#[126]⟩ : ByteArray).data.toList.isPrefixOf (s.data.toList.drop k) = at8 s.data.toList [126] k from rfl, H4.out]
    rintro e w1 ⟨rfl, rfl⟩
    go_wp2_with fail
    rw [show ((k : Int) + 1) = ((k + 1 : Nat) : Int) by omega]
    refine (IH.out s (k + 1) _ h5 hs (by omega)).mono ?_
    rintro e w2 ⟨x2, rfl, hgot⟩
    obtain ⟨r0, r1, r2, r3, r4, rf⟩ := cells5_cell HB.out.res
    have hrb := bsz (heap_lt HB.out.res)
    have HG := Lib.hid hgot
    clear hgot r0 r1 r2 r3 r4 rf hrb
    have HBR := Lib.hid (HB.out.later HG.out.1)
    obtain ⟨r0, r1, r2, r3, r4, rf⟩ := cells5_cell HBR.out.res
    have hrb := bsz (heap_lt HBR.out.res)
    obtain ⟨hb2, op2, n2, v2, p2, q2, k2', c2', k3, d3, z2, hx2, hm2⟩ := HG.out
    subst hx2
    have HM := Lib.hid hm2
    have hq2 := hb2.size
    have hwW := HB.out.bel.size
    have hwz := heap_lt HB.out.res
    clear hb2 hm2
    go_wp2
    refine bodyPost_ret (v := .tuple #[.agg #[.int .i64 4, .string ⟨#[]⟩, .slice none 0 0, .string ⟨#[]⟩, .slice (some ⟨w2.heap.size + 1, 0, none⟩) 1 1], .int .i64 z2]) (by simp only [results, Tryz.results213]; go_simp) rfl ⟨_, rfl, ?_⟩
    rw [HFIN.out]
    have hmm := HM.out
    cases hr : rFrm s.data.toList f (k + 1) with
    | none =>
      rw [hr] at hmm
      simp only at hmm
      subst hmm
      exact ((GotFm.no HBR.out _ _ _ _ _ _ _ _ _ _ _ _ _ _).later ((Below.refl _ _).alloc (Nat.le_refl _) _)).later ((Below.refl _ _).alloc (Nat.le_refl _) _)
    | some r =>
      obtain ⟨F, i⟩ := r
      rw [hr] at hmm
      simp only at hmm
      obtain ⟨rfl, hO⟩ := hmm
      have hk : ∀ (W3 : World), W3.heap.size = w2.heap.size → (∀ c, c ≠ w.heap.size → W3.heap[c]? = w2.heap[c]?) → ∀ (o o2 : Obj) c, c ≠ w.heap.size → c < w2.heap.size → ((W3.alloc o).alloc o2).heap[c]? = w2.heap[c]? := fun W3 hz hs o o2 c hc hlt => (hao _ _ c (by simp; omega)).trans ((hao _ _ c (by omega)).trans (hs c hc))
      refine GotFm.made (S := fun c => w.heap.size < c ∧ c < w2.heap.size + 2) (Below.al (Below.al (HBR.out.set _ _ _ _ _) _) _) ?_ (fun c hc => ⟨by omega, by simp; omega⟩) i
      refine FmOwn.mono (f + s.size + 7) (f + 1 + s.size + 6) _ _ (by omega) (SameOn.refl _ _) (fun _ h => h) (opF_own (m := f + s.size + 5) (by omega) ?_)
      exact OwnRow.one' (S := NewB W w2) (by simp) #[.int .i64 op2, .string n2, .slice p2 k2' c2', .string v2, .slice q2 k3 d3] rfl
        (FmOwn.mono _ _ _ _ (by omega) (fun c (hc : NewB W w2 c) hlt => hk _ (by simp) (fun c hc => set5_heap w2 _ c _ _ _ _ _ hc) _ _ c (by have := hc.1; omega) hlt) (fun _ h => h) hO)
        (fun c hc => by have := hc.2; omega) (fun c hc => by have h1 := hc.1; have h2 := hc.2; exact ⟨by omega, by omega⟩) ⟨by omega, by omega⟩
  have H4 := Lib.hid h4
  go_wp2_with fail
  refine (HST.out _ (by decide)).mono ?_
  rw [show (⟨#[126]⟩ : ByteArray).data.toList.isPrefixOf (s.data.toList.drop k) = at8 s.data.toList [126] k from rfl, H4.out]
  rintro e w1 ⟨rfl, rfl⟩
  cases h5 : at8 s.data.toList [40] k
  case true =>
    have H5 := Lib.hid h5
    have h6 : k + 1 ≤ s.size := by have := at8_le h5 hk'; rw [← size_list] at this; exact this
    obtain ⟨f', rfl⟩ : ∃ q, f = q + 1 := ⟨f - 1, by omega⟩
    have HFIN := Lib.hid (show rFrm s.data.toList (f' + 1 + 1) k = rPair s.data.toList (f' + 1) k by rw [rFrm, if_neg (by rw [h1]; simp), if_neg (by rw [h2]; simp), if_neg (by rw [h3]; simp), if_neg (by rw [h4]; simp), if_pos h5])
    clear h1 h2 h3 h4 h5
    go_wp2_with fail
    refine (HST.out _ (by decide)).mono ?_
    rw [show (⟨#[40]⟩ : ByteArray).data.toList.isPrefixOf (s.data.toList.drop k) = at8 s.data.toList [40] k from rfl, H5.out]
    rintro e w1 ⟨rfl, rfl⟩
    go_wp2_with fail
    refine (l8Pair_of f' (IH2.out f' rfl) s k _ h6 hs (by omega)).mono ?_
    rintro e w1 ⟨x, rfl, hg⟩
    have HG := Lib.hid hg
    obtain ⟨r0, r1, r2, r3, r4, rf⟩ := cells5_cell (HB.out.later hg.1).res
    have hrb := bsz (heap_lt (HB.out.later hg.1).res)
    obtain ⟨hb1, op1, n1, v1, p1, q1, k1, c1, k2, d1, z1, rfl, -⟩ := hg
    clear hb1
    go_wp2
    refine bodyPost_ret (v := .tuple #[.agg #[.int .i64 op1, .string n1, .slice p1 k1 c1, .string v1, .slice q1 k2 d1], .int .i64 z1]) (by simp only [results, Tryz.results213]; go_simp) rfl ⟨_, rfl, ?_⟩
    rw [HFIN.out]
    exact GotFm.mono (by omega) (HB.out.pass HG.out _ _ _ _ _)
  have H5 := Lib.hid h5
  have HFIN := Lib.hid (show rFrm s.data.toList (f + 1) k = rSimp s.data.toList k by rw [rFrm, if_neg (by rw [h1]; simp), if_neg (by rw [h2]; simp), if_neg (by rw [h3]; simp), if_neg (by rw [h4]; simp), if_neg (by rw [h5]; simp)])
  clear h1 h2 h3 h4 h5
  go_wp2_with fail
  refine (HST.out _ (by decide)).mono ?_
  rw [show (⟨#[40]⟩ : ByteArray).data.toList.isPrefixOf (s.data.toList.drop k) = at8 s.data.toList [40] k from rfl, H5.out]
  rintro e w1 ⟨rfl, rfl⟩
  go_wp2_with fail
  refine (l8Simple_any s k _ hk hs).mono ?_
  rintro e w1 ⟨x, rfl, hg⟩
  have HG := Lib.hid hg
  obtain ⟨r0, r1, r2, r3, r4, rf⟩ := cells5_cell (HB.out.later hg.1).res
  have hrb := bsz (heap_lt (HB.out.later hg.1).res)
  obtain ⟨hb1, op1, n1, v1, p1, q1, k1, c1, k2, d1, z1, rfl, -⟩ := hg
  clear hb1
  go_wp2
  refine bodyPost_ret (v := .tuple #[.agg #[.int .i64 op1, .string n1, .slice p1 k1 c1, .string v1, .slice q1 k2 d1], .int .i64 z1]) (by simp only [results, Tryz.results213]; go_simp) rfl ⟨_, rfl, ?_⟩
  rw [HFIN.out]
  exact GotFm.mono (by omega) (HB.out.pass HG.out _ _ _ _ _)
theorem l8Read_any : ∀ f : Nat, ReadC f ∧ ReadC (f + 1)
  | 0 => ⟨fun _ _ _ _ _ hf => absurd hf (by omega), fun _ _ _ _ _ hf => absurd hf (by omega)⟩
  | f + 1 => ⟨(l8Read_any f).2, fun s k w hk hs hf => l8Read_of (f + 1) (l8Read_any f).2 (fun f' hf' => (show f = f' by omega) ▸ (l8Read_any f).1) s k w hk hs hf⟩
open Go.RowKit
def TxtAt (P : Program) (k : FuncId) (B : Nat → Prop) (m : Nat) : Prop := ∀ (t : Fm) (v0 v1 v2 v3 v4 : Value) (w : World), FmAt B m w t [v0, v1, v2, v3, v4] → t.form = true → t.txt.length ≤ 1000000000000 →
      Calls P k #[.agg #[v0, v1, v2, v3, v4]] w fun e w' => e = .returned (.string ⟨t.txt.toArray⟩) ∧ Below w.heap.size w w'
theorem TxtAt.call {P : Program} {k : FuncId} {B : Nat → Prop} {m : Nat} (ih : TxtAt P k B m) (t : Fm) (v0 v1 v2 v3 v4 : Value) (w : World) (h : FmAt B m w t [v0, v1, v2, v3, v4]) (hf : t.form = true) (hz : t.txt.length ≤ 1000000000000) :
      Calls P k #[.agg #[v0, v1, v2, v3, v4]] w fun e w' => e = .returned (.string ⟨t.txt.toArray⟩) ∧ Below w.heap.size w w' := ih t v0 v1 v2 v3 v4 w h hf hz
theorem FmAt.oneT {B : Nat → Prop} {m : Nat} {w : World} {g : Fm} {p : Option Addr} {c : Nat} (h : ListAt B w 5 (FmAt B m w) (.slice p 1 c) [g]) :
    ∃ b o x0 x1 x2 x3 x4, p = some ⟨b, o, none⟩ ∧ w.cell? ⟨b, o, none⟩ = some x0 ∧ w.cell? ⟨b, o + 1, none⟩ = some x1 ∧ w.cell? ⟨b, o + 2, none⟩ = some x2 ∧ w.cell? ⟨b, o + 3, none⟩ = some x3 ∧ w.cell? ⟨b, o + 4, none⟩ = some x4 ∧ FmAt B m w g [x0, x1, x2, x3, x4] := by
  obtain ⟨b, o, rfl, _, x0, x1, x2, x3, x4, hx0, hx1, hx2, hx3, hx4, hx⟩ := h.at5 (i := 0) (by simp)
  exact ⟨b, o, x0, x1, x2, x3, x4, rfl, by simpa using hx0, by simpa using hx1, by simpa using hx2, by simpa using hx3, by simpa using hx4, hx⟩
theorem FmAt.twoT {B : Nat → Prop} {m : Nat} {w : World} {g h : Fm} {p : Option Addr} {c : Nat} (hl : ListAt B w 5 (FmAt B m w) (.slice p 2 c) [g, h]) :
    ∃ b o x0 x1 x2 x3 x4 y0 y1 y2 y3 y4, p = some ⟨b, o, none⟩ ∧ (w.cell? ⟨b, o, none⟩ = some x0 ∧ w.cell? ⟨b, o + 1, none⟩ = some x1 ∧ w.cell? ⟨b, o + 2, none⟩ = some x2 ∧ w.cell? ⟨b, o + 3, none⟩ = some x3 ∧ w.cell? ⟨b, o + 4, none⟩ = some x4) ∧
      (w.cell? ⟨b, o + 5, none⟩ = some y0 ∧ w.cell? ⟨b, o + 6, none⟩ = some y1 ∧ w.cell? ⟨b, o + 7, none⟩ = some y2 ∧ w.cell? ⟨b, o + 8, none⟩ = some y3 ∧ w.cell? ⟨b, o + 9, none⟩ = some y4) ∧ FmAt B m w g [x0, x1, x2, x3, x4] ∧ FmAt B m w h [y0, y1, y2, y3, y4] := by
  obtain ⟨b, o, rfl, _, x0, x1, x2, x3, x4, hx0, hx1, hx2, hx3, hx4, hx⟩ := hl.at5 (i := 0) (by simp)
  obtain ⟨b', o', he, _, y0, y1, y2, y3, y4, hy0, hy1, hy2, hy3, hy4, hy⟩ := hl.at5 (i := 1) (by simp)
  simp only [Option.some.injEq, Addr.mk.injEq, and_true] at he
  obtain ⟨rfl, rfl⟩ := he
  exact ⟨b, o, x0, x1, x2, x3, x4, y0, y1, y2, y3, y4, rfl, ⟨by simpa using hx0, by simpa using hx1, by simpa using hx2, by simpa using hx3, by simpa using hx4⟩, ⟨by simpa using hy0, by simpa using hy1, by simpa using hy2, by simpa using hy3, by simpa using hy4⟩, hx, hy⟩
set_option maxRecDepth 100000 in
set_option maxHeartbeats 1600000 in
theorem l3Term_eq {B : Nat → Prop} (m : Nat) (a b : Tm) (v0 v1 : Value) (w : World) (h : TmAt B m w (eqTm a b) [v0, v1]) (ha : a.nodes = true) (hb : b.nodes = true) (hz : (eqTm a b).fmt.length ≤ 1000000000000) :
      Calls Tryz.prog 255 #[.agg #[v0, v1]] w fun e w' => e = .returned (.string ⟨(eqTm a b).fmt.toArray⟩) ∧ Below w.heap.size w w' := by
  have hl := h.args
  obtain ⟨p, c, rfl, rfl, -, -⟩ := h.form
  clear h
  have hl2 : ListAt B w 2 (TmAt B m w) (.slice p 2 c) [a, b] := hl
  obtain ⟨g, o, pa, ca, pb, cb, rfl, hx0, hx1, hx2, hx3, hta, htb⟩ := TmAt.pair hl2
  have HE := Lib.hid (fmt_eq a b)
  have hz2 : a.fmt.length + b.fmt.length + 3 ≤ 1000000000000 := by rw [fmt_eq] at hz; simp [sEq8] at hz; omega
  have HA := Lib.hid (And.intro hta ha)
  have HB := Lib.hid (And.intro htb hb)
  clear hl hl2 hta htb ha hb hz
  show Calls Tryz.prog 255 #[.agg #[.string ⟨#[61]⟩, .slice (some ⟨g, o, none⟩) 2 c]] w _
  go_enter Tryz.func255, Tryz.ntmps255
  go_wp2
  have zg := bsz (World.block_lt_of_cell? _ _ hx0)
  obtain ⟨W, hW⟩ : ∃ W : World, W = w.alloc (.cells #[.string ⟨#[61]⟩, .slice (some ⟨g, o, none⟩) 2 c] 41) := ⟨_, rfl⟩
  have hwb : W.cell? ⟨w.heap.size, 1, none⟩ = some (.slice (some ⟨g, o, none⟩) 2 c) := by rw [hW]; go_simp
  have hbW : Below w.heap.size w W := by rw [hW]; exact bel
  rw [← hW]
  clear hW
  have ⟨cW, fW⟩ := bcell hbW
  obtain ⟨C, HC0⟩ := class_of (InF W.heap.size _ [(⟨w.heap.size, 1, none⟩, .slice (some ⟨g, o, none⟩) 2 c), (⟨g, o, none⟩, .string a.n), (⟨g, o + 1, none⟩, .slice pa a.us.length ca), (⟨g, o + 2, none⟩, .string b.n), (⟨g, o + 3, none⟩, .slice pb b.us.length cb)] [] [])
  have HC := Lib.hid HC0
  clear HC0
  refine wp_region_flow (C := C) (by kernel_rfl) (by kernel_rfl) (fun L hL => (HC.out _ _).2 (InF.start (by first | (intro _ hs; cases hs; done) | (simp only [List.forall_mem_cons]; go_simp)) (by first | (intro _ hs; cases hs; done) | (simp only [List.forall_mem_cons]; go_simp)) (by first | (intro _ hs; cases hs; done) | (simp only [List.forall_mem_cons]; go_simp)) (by first | (intro _ hs; cases hs; done) | (simp only [List.forall_mem_cons]; go_simp)) L hL)) ?_
  repeat (first | ((first | apply flow_free rfl | (apply flow_yes; (case hw => go_simp))); (intro L w' hun hrd hC; have hC := (HC.out _ _).1 hC; have hb' := hC.below; (try have hw' : Below w.heap.size w w' := by first | exact Below.trans (by (repeat (first | with_reducible (first | exact bR _ _ | assumption | refine bA ?_ _ | refine bS ?_ (by first | exact Nat.le_refl _ | (simp; done) | (simp; omega)) _) | assumption | exact bR _ _ | refine bD ?_ | refine bN ?_ _ | refine bT ?_ (by assumption)))) hb' | ((repeat (first | with_reducible (first | exact bR _ _ | assumption | refine bA ?_ _ | refine bS ?_ (by first | exact Nat.le_refl _ | (simp; done) | (simp; omega)) _) | assumption | exact bR _ _ | refine bD ?_ | refine bN ?_ _ | refine bT ?_ (by assumption))); done)); have hf' := hC.cell; (try simp only [List.forall_mem_cons] at hf'); go_simp; first | exact ⟨(HC.out _ _).2 (hC.skip _ (by rfl)), rfl⟩ | (rw [if_neg]; (exact ⟨(HC.out _ _).2 (hC.skip _ (by rfl)), rfl⟩); omega) | (go_at_call 255; (with_reducible refine (l3Term_any m a _ _ _ (HA.out.1.below hw') HA.out.2 (by omega)).mono ?_); rintro e w1 ⟨rfl, hb1⟩; exact ⟨rfl, (HC.out _ _).2 ((hC.next (by first | (simp; done) | (simp; omega) | omega) hb1).skip _ (by rfl))⟩) | (go_at_call 255; (with_reducible refine (l3Term_any m b _ _ _ (HB.out.1.below hw') HB.out.2 (by omega)).mono ?_); rintro e w1 ⟨rfl, hb1⟩; exact ⟨rfl, (HC.out _ _).2 ((hC.next (by first | (simp; done) | (simp; omega) | omega) hb1).skip _ (by rfl))⟩)); go_simp) | (apply flow_no; (case hw => (go_simp; try (intro hh; cases hh))); (intro L w' _ _ hC; exact (HC.out _ _).2 (((HC.out _ _).1 hC).skip _ (by rfl))); go_simp))
  refine flow_nil ?_
  intro L wz hL hz
  have hz := (HC.out _ _).1 hz
  have hbz := hz.below
  have hcz := hz.cell
  try simp only [List.forall_mem_cons] at hcz
  have hdz := hz.done
  try simp only [List.forall_mem_cons] at hdz
  (try have hwz : Below w.heap.size w wz := by first | exact Below.trans (by (repeat (first | with_reducible (first | exact bR _ _ | assumption | refine bA ?_ _ | refine bS ?_ (by first | exact Nat.le_refl _ | (simp; done) | (simp; omega)) _) | assumption | exact bR _ _ | refine bD ?_ | refine bN ?_ _ | refine bT ?_ (by assumption)))) hbz | ((repeat (first | with_reducible (first | exact bR _ _ | assumption | refine bA ?_ _ | refine bS ?_ (by first | exact Nat.le_refl _ | (simp; done) | (simp; omega)) _) | assumption | exact bR _ _ | refine bD ?_ | refine bN ?_ _ | refine bT ?_ (by assumption))); done))
  go_wp2
  go_ret
  exact ⟨ret_strs (by rw [HE.out]; simp [sEq8]), by exact bel⟩
theorem l3Term_atom {B : Nat → Prop} (m : Nat) (t : Tm) (v0 v1 : Value) (w : World) (h : TmAt B m w t [v0, v1]) (ht : t.atom = true) (hz : t.fmt.length ≤ 1000000000000) :
      Calls Tryz.prog 255 #[.agg #[v0, v1]] w fun e w' => e = .returned (.string ⟨t.fmt.toArray⟩) ∧ Below w.heap.size w w' := by
  cases atom_cases ht with
  | eq a b ha hb => exact l3Term_eq m a b _ _ w h ha hb hz
  | pred n us hs hu hd => exact l3Term_any m _ _ _ w h hd hz
set_option maxRecDepth 100000 in
set_option maxHeartbeats 3200000 in
theorem l8Text_any {B : Nat → Prop} : ∀ m : Nat, TxtAt Tryz.prog 214 B m := by
  intro m
  induction m with
  | zero => intro t v0 v1 v2 v3 v4 w h; exact h.elim
  | succ m ih =>
    intro t v0 v1 v2 v3 v4 w hfm hf hz
    have IH := Lib.hid ih
    clear ih
    cases form_cases hf with
    | tru =>
      obtain ⟨p, c, q, d, rfl, rfl, rfl, rfl, rfl, -⟩ := hfm.form
      clear hfm hf hz
      show Calls Tryz.prog 214 #[.agg #[.int .i64 1, .string ⟨#[]⟩, .slice p 0 c, .string ⟨#[]⟩, .slice q 0 d]] w _
      go_enter Tryz.func214, Tryz.ntmps214
      go_wp2
      go_ret
      exact ⟨ret_str (by rw [opF, Fm.txt]; rfl), by exact bel⟩
    | fal =>
      obtain ⟨p, c, q, d, rfl, rfl, rfl, rfl, rfl, -⟩ := hfm.form
      clear hfm hf hz
      show Calls Tryz.prog 214 #[.agg #[.int .i64 2, .string ⟨#[]⟩, .slice p 0 c, .string ⟨#[]⟩, .slice q 0 d]] w _
      go_enter Tryz.func214, Tryz.ntmps214
      go_wp2
      go_ret
      exact ⟨ret_str (by rw [opF, Fm.txt]; rfl), by exact bel⟩
    | atm a ha =>
      have HA := Lib.hid (show TmAt B (m + 1) w a _ from hfm.atm)
      obtain ⟨p, c, q, d, rfl, rfl, rfl, rfl, rfl, -⟩ := hfm.form
      rw [txt_atm] at hz ⊢
      have HZ := Lib.hid (And.intro ha hz)
      clear hfm hf hz
      show Calls Tryz.prog 214 #[.agg #[.int .i64 3, .string a.n, .slice p a.us.length c, .string ⟨#[]⟩, .slice q 0 d]] w _
      go_enter Tryz.func214, Tryz.ntmps214
      go_wp2_with fail
      refine (l3Term_atom (m + 1) a _ _ _ (HA.out.below (by exact bel)) HZ.out.1 HZ.out.2).mono ?_
      rintro e w1 ⟨rfl, hb1⟩
      have ⟨cw1, fw1⟩ := bcell hb1
      have qw1 := hb1.size
      (try simp at qw1)
      (try have zw1w := bsz (show w.heap.size < w1.heap.size by omega))
      go_wp2
      go_ret
      exact ⟨rfl, by exact bel⟩
    | neg g hg =>
      obtain ⟨p, c, q, d, rfl, rfl, rfl, rfl, rfl, -⟩ := hfm.form
      obtain ⟨vn, va, vp, hcs, hop, hs, ht, hl⟩ := hfm
      simp only [List.cons.injEq, and_true] at hcs
      obtain ⟨-, -, -, -, rfl⟩ := hcs
      have hl' : ListAt B w 5 (FmAt B m w) (.slice q 1 d) [g] := hl
      obtain ⟨b, o, x0, x1, x2, x3, x4, rfl, hx0, hx1, hx2, hx3, hx4, hx⟩ := FmAt.oneT hl'
      have zb := bsz (World.block_lt_of_cell? _ _ hx0)
      obtain ⟨pg, cg, qg, dg, rfl, rfl, rfl, rfl, rfl, -⟩ := hx.form
      have HT := Lib.hid (txt_neg g)
      have hz2 : g.txt.length + 3 ≤ 1000000000003 := by rw [txt_neg] at hz; split at hz <;> (simp at hz; omega)
      have HX := Lib.hid (And.intro hx hg)
      have HQ := Lib.hid (fun h => eq_form hg h)
      clear hf hz ht hl hl' hx hg
      show Calls Tryz.prog 214 #[.agg #[.int .i64 4, .string ⟨#[]⟩, .slice p 0 c, .string ⟨#[]⟩, .slice (some ⟨b, o, none⟩) 1 d]] w _
      by_cases hq : g.a.n.data.toList = [61]
      · have hq2 : (g.a.n.toList == [61]) = true := by rw [ByteArray.toList_eq]; simpa using hq
        have hop3 : (g.op == 3) = true := by obtain ⟨a, b, rfl, -⟩ := HQ.out hq; rfl
        have HN := Lib.hid hq
        clear hq
        go_enter Tryz.func214, Tryz.ntmps214
        go_wp2_with fail
        refine (TxtAt.call IH.out g _ _ _ _ _ _ (HX.out.1.below (by exact bel)) HX.out.2 (by omega)).mono ?_
        rintro e w1 ⟨rfl, hb1⟩
        have ⟨cw1, fw1⟩ := bcell hb1
        have qw1 := hb1.size
        (try simp at qw1)
        (try have zw1w := bsz (show w.heap.size < w1.heap.size by omega))
        go_wp2
        go_ret
        exact ⟨ret_strs (by rw [HT.out, if_pos HN.out]; simp), by exact bel⟩
      · have hq2 : (g.a.n.toList == [61]) = false := by rw [ByteArray.toList_eq]; simpa using hq
        have HN := Lib.hid hq
        clear hq
        cases hop3 : (g.op == 3)
        all_goals
          go_enter Tryz.func214, Tryz.ntmps214
          go_wp2_with fail
          refine (TxtAt.call IH.out g _ _ _ _ _ _ (HX.out.1.below (by exact bel)) HX.out.2 (by omega)).mono ?_
          rintro e w1 ⟨rfl, hb1⟩
          have ⟨cw1, fw1⟩ := bcell hb1
          have qw1 := hb1.size
          (try simp at qw1)
          (try have zw1w := bsz (show w.heap.size < w1.heap.size by omega))
          go_wp2
          go_ret
          exact ⟨ret_strs (by rw [HT.out, if_neg HN.out]; simp), by exact bel⟩
    | bin op g h ho hg hh =>
      obtain ⟨p, c, q, d, rfl, rfl, rfl, rfl, rfl, -⟩ := hfm.form
      obtain ⟨vn, va, vp, hcs, hop, hs, ht, hl⟩ := hfm
      simp only [List.cons.injEq, and_true] at hcs
      obtain ⟨-, -, -, -, rfl⟩ := hcs
      have hl' : ListAt B w 5 (FmAt B m w) (.slice q 2 d) [g, h] := hl
      obtain ⟨b, o, x0, x1, x2, x3, x4, y0, y1, y2, y3, y4, rfl, ⟨hx0, hx1, hx2, hx3, hx4⟩, ⟨hy0, hy1, hy2, hy3, hy4⟩, hx, hy⟩ := FmAt.twoT hl'
      have zb := bsz (World.block_lt_of_cell? _ _ hx0)
      have HG := Lib.hid (And.intro hg hh)
      have HX := Lib.hid hx
      have HY := Lib.hid hy
      clear hf ht hl hl' hg hh hx hy
      rcases ho with rfl | rfl | rfl
      · have hz2 : g.txt.length + h.txt.length + 30 ≤ 1000000000030 := by rw [txt_bin (by decide)] at hz; simp at hz; omega
        clear hz
        show Calls Tryz.prog 214 #[.agg #[.int .i64 5, .string ⟨#[]⟩, .slice p 0 c, .string ⟨#[]⟩, .slice (some ⟨b, o, none⟩) 2 d]] w _
        go_enter Tryz.func214, Tryz.ntmps214
        go_wp2
        obtain ⟨W, hW⟩ : ∃ W : World, W = w.alloc (.cells #[.int .i64 5, .string ⟨#[]⟩, .slice p 0 c, .string ⟨#[]⟩, .slice (some ⟨b, o, none⟩) 2 d] 44) := ⟨_, rfl⟩
        have hwb : W.cell? ⟨w.heap.size, 4, none⟩ = some (.slice (some ⟨b, o, none⟩) 2 d) := by rw [hW]; go_simp
        have hbW : Below w.heap.size w W := by rw [hW]; exact bel
        rw [← hW]
        clear hW
        have ⟨cW, fW⟩ := bcell hbW
        obtain ⟨C, HC0⟩ := class_of (InF W.heap.size _ [(⟨w.heap.size, 4, none⟩, .slice (some ⟨b, o, none⟩) 2 d), (⟨b, o, none⟩, x0), (⟨b, o + 1, none⟩, x1), (⟨b, o + 2, none⟩, x2), (⟨b, o + 3, none⟩, x3), (⟨b, o + 4, none⟩, x4), (⟨b, o + 5, none⟩, y0), (⟨b, o + 6, none⟩, y1), (⟨b, o + 7, none⟩, y2), (⟨b, o + 8, none⟩, y3), (⟨b, o + 9, none⟩, y4)] [] [])
        have HC := Lib.hid HC0
        clear HC0
        refine wp_region_flow (C := C) (by kernel_rfl) (by kernel_rfl) (fun L hL => (HC.out _ _).2 (InF.start (by first | (intro _ hs; cases hs; done) | (simp only [List.forall_mem_cons]; go_simp)) (by first | (intro _ hs; cases hs; done) | (simp only [List.forall_mem_cons]; go_simp)) (by first | (intro _ hs; cases hs; done) | (simp only [List.forall_mem_cons]; go_simp)) (by first | (intro _ hs; cases hs; done) | (simp only [List.forall_mem_cons]; go_simp)) L hL)) ?_
        repeat (first | ((first | apply flow_free rfl | (apply flow_yes; (case hw => go_simp))); (intro L w' hun hrd hC; have hC := (HC.out _ _).1 hC; have hb' := hC.below; (try have hw' : Below w.heap.size w w' := by first | exact Below.trans (by (repeat (first | with_reducible (first | exact bR _ _ | assumption | refine bA ?_ _ | refine bS ?_ (by first | exact Nat.le_refl _ | (simp; done) | (simp; omega)) _) | assumption | exact bR _ _ | refine bD ?_ | refine bN ?_ _ | refine bT ?_ (by assumption)))) hb' | ((repeat (first | with_reducible (first | exact bR _ _ | assumption | refine bA ?_ _ | refine bS ?_ (by first | exact Nat.le_refl _ | (simp; done) | (simp; omega)) _) | assumption | exact bR _ _ | refine bD ?_ | refine bN ?_ _ | refine bT ?_ (by assumption))); done)); have hf' := hC.cell; (try simp only [List.forall_mem_cons] at hf'); go_simp; first | exact ⟨(HC.out _ _).2 (hC.skip _ (by rfl)), rfl⟩ | (rw [if_neg]; (exact ⟨(HC.out _ _).2 (hC.skip _ (by rfl)), rfl⟩); omega) | (go_at_call 214; (with_reducible refine (TxtAt.call IH.out g x0 x1 x2 x3 x4 _ (HX.out.below hw') HG.out.1 (by omega)).mono ?_); rintro e w1 ⟨rfl, hb1⟩; exact ⟨rfl, (HC.out _ _).2 ((hC.next (by first | (simp; done) | (simp; omega) | omega) hb1).skip _ (by rfl))⟩) | (go_at_call 214; (with_reducible refine (TxtAt.call IH.out h y0 y1 y2 y3 y4 _ (HY.out.below hw') HG.out.2 (by omega)).mono ?_); rintro e w1 ⟨rfl, hb1⟩; exact ⟨rfl, (HC.out _ _).2 ((hC.next (by first | (simp; done) | (simp; omega) | omega) hb1).skip _ (by rfl))⟩)); go_simp) | (apply flow_no; (case hw => (go_simp; try (intro hh; cases hh))); (intro L w' _ _ hC; exact (HC.out _ _).2 (((HC.out _ _).1 hC).skip _ (by rfl))); go_simp))
        refine flow_nil ?_
        intro L wz hL hz
        have hz := (HC.out _ _).1 hz
        have hbz := hz.below
        have hcz := hz.cell
        try simp only [List.forall_mem_cons] at hcz
        have hdz := hz.done
        try simp only [List.forall_mem_cons] at hdz
        (try have hwz : Below w.heap.size w wz := by first | exact Below.trans (by (repeat (first | with_reducible (first | exact bR _ _ | assumption | refine bA ?_ _ | refine bS ?_ (by first | exact Nat.le_refl _ | (simp; done) | (simp; omega)) _) | assumption | exact bR _ _ | refine bD ?_ | refine bN ?_ _ | refine bT ?_ (by assumption)))) hbz | ((repeat (first | with_reducible (first | exact bR _ _ | assumption | refine bA ?_ _ | refine bS ?_ (by first | exact Nat.le_refl _ | (simp; done) | (simp; omega)) _) | assumption | exact bR _ _ | refine bD ?_ | refine bN ?_ _ | refine bT ?_ (by assumption))); done))
        go_wp2
        go_ret
        exact ⟨ret_strs (by rw [txt_bin (by decide)]; simp [sign8, sAnd8]), by exact bel⟩
      · have hz2 : g.txt.length + h.txt.length + 30 ≤ 1000000000030 := by rw [txt_bin (by decide)] at hz; simp at hz; omega
        clear hz
        show Calls Tryz.prog 214 #[.agg #[.int .i64 6, .string ⟨#[]⟩, .slice p 0 c, .string ⟨#[]⟩, .slice (some ⟨b, o, none⟩) 2 d]] w _
        go_enter Tryz.func214, Tryz.ntmps214
        go_wp2
        obtain ⟨W, hW⟩ : ∃ W : World, W = w.alloc (.cells #[.int .i64 6, .string ⟨#[]⟩, .slice p 0 c, .string ⟨#[]⟩, .slice (some ⟨b, o, none⟩) 2 d] 44) := ⟨_, rfl⟩
        have hwb : W.cell? ⟨w.heap.size, 4, none⟩ = some (.slice (some ⟨b, o, none⟩) 2 d) := by rw [hW]; go_simp
        have hbW : Below w.heap.size w W := by rw [hW]; exact bel
        rw [← hW]
        clear hW
        have ⟨cW, fW⟩ := bcell hbW
        obtain ⟨C, HC0⟩ := class_of (InF W.heap.size _ [(⟨w.heap.size, 4, none⟩, .slice (some ⟨b, o, none⟩) 2 d), (⟨b, o, none⟩, x0), (⟨b, o + 1, none⟩, x1), (⟨b, o + 2, none⟩, x2), (⟨b, o + 3, none⟩, x3), (⟨b, o + 4, none⟩, x4), (⟨b, o + 5, none⟩, y0), (⟨b, o + 6, none⟩, y1), (⟨b, o + 7, none⟩, y2), (⟨b, o + 8, none⟩, y3), (⟨b, o + 9, none⟩, y4)] [] [])
        have HC := Lib.hid HC0
        clear HC0
        refine wp_region_flow (C := C) (by kernel_rfl) (by kernel_rfl) (fun L hL => (HC.out _ _).2 (InF.start (by first | (intro _ hs; cases hs; done) | (simp only [List.forall_mem_cons]; go_simp)) (by first | (intro _ hs; cases hs; done) | (simp only [List.forall_mem_cons]; go_simp)) (by first | (intro _ hs; cases hs; done) | (simp only [List.forall_mem_cons]; go_simp)) (by first | (intro _ hs; cases hs; done) | (simp only [List.forall_mem_cons]; go_simp)) L hL)) ?_
        repeat (first | ((first | apply flow_free rfl | (apply flow_yes; (case hw => go_simp))); (intro L w' hun hrd hC; have hC := (HC.out _ _).1 hC; have hb' := hC.below; (try have hw' : Below w.heap.size w w' := by first | exact Below.trans (by (repeat (first | with_reducible (first | exact bR _ _ | assumption | refine bA ?_ _ | refine bS ?_ (by first | exact Nat.le_refl _ | (simp; done) | (simp; omega)) _) | assumption | exact bR _ _ | refine bD ?_ | refine bN ?_ _ | refine bT ?_ (by assumption)))) hb' | ((repeat (first | with_reducible (first | exact bR _ _ | assumption | refine bA ?_ _ | refine bS ?_ (by first | exact Nat.le_refl _ | (simp; done) | (simp; omega)) _) | assumption | exact bR _ _ | refine bD ?_ | refine bN ?_ _ | refine bT ?_ (by assumption))); done)); have hf' := hC.cell; (try simp only [List.forall_mem_cons] at hf'); go_simp; first | exact ⟨(HC.out _ _).2 (hC.skip _ (by rfl)), rfl⟩ | (rw [if_neg]; (exact ⟨(HC.out _ _).2 (hC.skip _ (by rfl)), rfl⟩); omega) | (go_at_call 214; (with_reducible refine (TxtAt.call IH.out g x0 x1 x2 x3 x4 _ (HX.out.below hw') HG.out.1 (by omega)).mono ?_); rintro e w1 ⟨rfl, hb1⟩; exact ⟨rfl, (HC.out _ _).2 ((hC.next (by first | (simp; done) | (simp; omega) | omega) hb1).skip _ (by rfl))⟩) | (go_at_call 214; (with_reducible refine (TxtAt.call IH.out h y0 y1 y2 y3 y4 _ (HY.out.below hw') HG.out.2 (by omega)).mono ?_); rintro e w1 ⟨rfl, hb1⟩; exact ⟨rfl, (HC.out _ _).2 ((hC.next (by first | (simp; done) | (simp; omega) | omega) hb1).skip _ (by rfl))⟩)); go_simp) | (apply flow_no; (case hw => (go_simp; try (intro hh; cases hh))); (intro L w' _ _ hC; exact (HC.out _ _).2 (((HC.out _ _).1 hC).skip _ (by rfl))); go_simp))
        refine flow_nil ?_
        intro L wz hL hz
        have hz := (HC.out _ _).1 hz
        have hbz := hz.below
        have hcz := hz.cell
        try simp only [List.forall_mem_cons] at hcz
        have hdz := hz.done
        try simp only [List.forall_mem_cons] at hdz
        (try have hwz : Below w.heap.size w wz := by first | exact Below.trans (by (repeat (first | with_reducible (first | exact bR _ _ | assumption | refine bA ?_ _ | refine bS ?_ (by first | exact Nat.le_refl _ | (simp; done) | (simp; omega)) _) | assumption | exact bR _ _ | refine bD ?_ | refine bN ?_ _ | refine bT ?_ (by assumption)))) hbz | ((repeat (first | with_reducible (first | exact bR _ _ | assumption | refine bA ?_ _ | refine bS ?_ (by first | exact Nat.le_refl _ | (simp; done) | (simp; omega)) _) | assumption | exact bR _ _ | refine bD ?_ | refine bN ?_ _ | refine bT ?_ (by assumption))); done))
        go_wp2
        go_ret
        exact ⟨ret_strs (by rw [txt_bin (by decide)]; simp [sign8, sOr8]), by exact bel⟩
      · have hz2 : g.txt.length + h.txt.length + 30 ≤ 1000000000030 := by rw [txt_bin (by decide)] at hz; simp at hz; omega
        clear hz
        show Calls Tryz.prog 214 #[.agg #[.int .i64 7, .string ⟨#[]⟩, .slice p 0 c, .string ⟨#[]⟩, .slice (some ⟨b, o, none⟩) 2 d]] w _
        go_enter Tryz.func214, Tryz.ntmps214
        go_wp2
        obtain ⟨W, hW⟩ : ∃ W : World, W = w.alloc (.cells #[.int .i64 7, .string ⟨#[]⟩, .slice p 0 c, .string ⟨#[]⟩, .slice (some ⟨b, o, none⟩) 2 d] 44) := ⟨_, rfl⟩
        have hwb : W.cell? ⟨w.heap.size, 4, none⟩ = some (.slice (some ⟨b, o, none⟩) 2 d) := by rw [hW]; go_simp
        have hbW : Below w.heap.size w W := by rw [hW]; exact bel
        rw [← hW]
        clear hW
        have ⟨cW, fW⟩ := bcell hbW
        obtain ⟨C, HC0⟩ := class_of (InF W.heap.size _ [(⟨w.heap.size, 4, none⟩, .slice (some ⟨b, o, none⟩) 2 d), (⟨b, o, none⟩, x0), (⟨b, o + 1, none⟩, x1), (⟨b, o + 2, none⟩, x2), (⟨b, o + 3, none⟩, x3), (⟨b, o + 4, none⟩, x4), (⟨b, o + 5, none⟩, y0), (⟨b, o + 6, none⟩, y1), (⟨b, o + 7, none⟩, y2), (⟨b, o + 8, none⟩, y3), (⟨b, o + 9, none⟩, y4)] [] [])
        have HC := Lib.hid HC0
        clear HC0
        refine wp_region_flow (C := C) (by kernel_rfl) (by kernel_rfl) (fun L hL => (HC.out _ _).2 (InF.start (by first | (intro _ hs; cases hs; done) | (simp only [List.forall_mem_cons]; go_simp)) (by first | (intro _ hs; cases hs; done) | (simp only [List.forall_mem_cons]; go_simp)) (by first | (intro _ hs; cases hs; done) | (simp only [List.forall_mem_cons]; go_simp)) (by first | (intro _ hs; cases hs; done) | (simp only [List.forall_mem_cons]; go_simp)) L hL)) ?_
        repeat (first | ((first | apply flow_free rfl | (apply flow_yes; (case hw => go_simp))); (intro L w' hun hrd hC; have hC := (HC.out _ _).1 hC; have hb' := hC.below; (try have hw' : Below w.heap.size w w' := by first | exact Below.trans (by (repeat (first | with_reducible (first | exact bR _ _ | assumption | refine bA ?_ _ | refine bS ?_ (by first | exact Nat.le_refl _ | (simp; done) | (simp; omega)) _) | assumption | exact bR _ _ | refine bD ?_ | refine bN ?_ _ | refine bT ?_ (by assumption)))) hb' | ((repeat (first | with_reducible (first | exact bR _ _ | assumption | refine bA ?_ _ | refine bS ?_ (by first | exact Nat.le_refl _ | (simp; done) | (simp; omega)) _) | assumption | exact bR _ _ | refine bD ?_ | refine bN ?_ _ | refine bT ?_ (by assumption))); done)); have hf' := hC.cell; (try simp only [List.forall_mem_cons] at hf'); go_simp; first | exact ⟨(HC.out _ _).2 (hC.skip _ (by rfl)), rfl⟩ | (rw [if_neg]; (exact ⟨(HC.out _ _).2 (hC.skip _ (by rfl)), rfl⟩); omega) | (go_at_call 214; (with_reducible refine (TxtAt.call IH.out g x0 x1 x2 x3 x4 _ (HX.out.below hw') HG.out.1 (by omega)).mono ?_); rintro e w1 ⟨rfl, hb1⟩; exact ⟨rfl, (HC.out _ _).2 ((hC.next (by first | (simp; done) | (simp; omega) | omega) hb1).skip _ (by rfl))⟩) | (go_at_call 214; (with_reducible refine (TxtAt.call IH.out h y0 y1 y2 y3 y4 _ (HY.out.below hw') HG.out.2 (by omega)).mono ?_); rintro e w1 ⟨rfl, hb1⟩; exact ⟨rfl, (HC.out _ _).2 ((hC.next (by first | (simp; done) | (simp; omega) | omega) hb1).skip _ (by rfl))⟩)); go_simp) | (apply flow_no; (case hw => (go_simp; try (intro hh; cases hh))); (intro L w' _ _ hC; exact (HC.out _ _).2 (((HC.out _ _).1 hC).skip _ (by rfl))); go_simp))
        refine flow_nil ?_
        intro L wz hL hz
        have hz := (HC.out _ _).1 hz
        have hbz := hz.below
        have hcz := hz.cell
        try simp only [List.forall_mem_cons] at hcz
        have hdz := hz.done
        try simp only [List.forall_mem_cons] at hdz
        (try have hwz : Below w.heap.size w wz := by first | exact Below.trans (by (repeat (first | with_reducible (first | exact bR _ _ | assumption | refine bA ?_ _ | refine bS ?_ (by first | exact Nat.le_refl _ | (simp; done) | (simp; omega)) _) | assumption | exact bR _ _ | refine bD ?_ | refine bN ?_ _ | refine bT ?_ (by assumption)))) hbz | ((repeat (first | with_reducible (first | exact bR _ _ | assumption | refine bA ?_ _ | refine bS ?_ (by first | exact Nat.le_refl _ | (simp; done) | (simp; omega)) _) | assumption | exact bR _ _ | refine bD ?_ | refine bN ?_ _ | refine bT ?_ (by assumption))); done))
        go_wp2
        go_ret
        exact ⟨ret_strs (by rw [txt_bin (by decide)]; simp [sign8, sImp8]), by exact bel⟩
    | qua op v g ho hv hg =>
      obtain ⟨p, c, q, d, rfl, rfl, rfl, rfl, rfl, -⟩ := hfm.form
      obtain ⟨vn, va, vp, hcs, hop, hs, ht, hl⟩ := hfm
      simp only [List.cons.injEq, and_true] at hcs
      obtain ⟨-, -, -, -, rfl⟩ := hcs
      have hl' : ListAt B w 5 (FmAt B m w) (.slice q 1 d) [g] := hl
      obtain ⟨b, o, x0, x1, x2, x3, x4, rfl, hx0, hx1, hx2, hx3, hx4, hx⟩ := FmAt.oneT hl'
      have zb := bsz (World.block_lt_of_cell? _ _ hx0)
      have HG := Lib.hid hg
      have HX := Lib.hid hx
      clear hf ht hl hl' hg hx
      rcases ho with rfl | rfl
      · have hz2 : g.txt.length + v.length + 30 ≤ 1000000000030 := by rw [txt_qua (by decide)] at hz; simp at hz; omega
        clear hz
        show Calls Tryz.prog 214 #[.agg #[.int .i64 8, .string ⟨#[]⟩, .slice p 0 c, .string ⟨v.toArray⟩, .slice (some ⟨b, o, none⟩) 1 d]] w _
        go_enter Tryz.func214, Tryz.ntmps214
        go_wp2
        obtain ⟨W, hW⟩ : ∃ W : World, W = w.alloc (.cells #[.int .i64 8, .string ⟨#[]⟩, .slice p 0 c, .string ⟨v.toArray⟩, .slice (some ⟨b, o, none⟩) 1 d] 44) := ⟨_, rfl⟩
        have hwb : W.cell? ⟨w.heap.size, 3, none⟩ = some (.string ⟨v.toArray⟩) := by rw [hW]; go_simp
        have hwc : W.cell? ⟨w.heap.size, 4, none⟩ = some (.slice (some ⟨b, o, none⟩) 1 d) := by rw [hW]; go_simp
        have hbW : Below w.heap.size w W := by rw [hW]; exact bel
        rw [← hW]
        clear hW
        have zW := bsz (World.block_lt_of_cell? _ _ hwb)
        have ⟨cW, fW⟩ := bcell hbW
        obtain ⟨C, HC0⟩ := class_of (InF W.heap.size _ [(⟨w.heap.size, 3, none⟩, .string ⟨v.toArray⟩), (⟨w.heap.size, 4, none⟩, .slice (some ⟨b, o, none⟩) 1 d), (⟨b, o, none⟩, x0), (⟨b, o + 1, none⟩, x1), (⟨b, o + 2, none⟩, x2), (⟨b, o + 3, none⟩, x3), (⟨b, o + 4, none⟩, x4)] [] [])
        have HC := Lib.hid HC0
        clear HC0
        refine wp_region_flow (C := C) (by kernel_rfl) (by kernel_rfl) (fun L hL => (HC.out _ _).2 (InF.start (by first | (intro _ hs; cases hs; done) | (simp only [List.forall_mem_cons]; go_simp)) (by first | (intro _ hs; cases hs; done) | (simp only [List.forall_mem_cons]; go_simp)) (by first | (intro _ hs; cases hs; done) | (simp only [List.forall_mem_cons]; go_simp)) (by first | (intro _ hs; cases hs; done) | (simp only [List.forall_mem_cons]; go_simp)) L hL)) ?_
        repeat (first | ((first | apply flow_free rfl | (apply flow_yes; (case hw => go_simp))); (intro L w' hun hrd hC; have hC := (HC.out _ _).1 hC; have hb' := hC.below; (try have hw' : Below w.heap.size w w' := by first | exact Below.trans (by (repeat (first | with_reducible (first | exact bR _ _ | assumption | refine bA ?_ _ | refine bS ?_ (by first | exact Nat.le_refl _ | (simp; done) | (simp; omega)) _) | assumption | exact bR _ _ | refine bD ?_ | refine bN ?_ _ | refine bT ?_ (by assumption)))) hb' | ((repeat (first | with_reducible (first | exact bR _ _ | assumption | refine bA ?_ _ | refine bS ?_ (by first | exact Nat.le_refl _ | (simp; done) | (simp; omega)) _) | assumption | exact bR _ _ | refine bD ?_ | refine bN ?_ _ | refine bT ?_ (by assumption))); done)); have hf' := hC.cell; (try simp only [List.forall_mem_cons] at hf'); go_simp; first | exact ⟨(HC.out _ _).2 (hC.skip _ (by rfl)), rfl⟩ | (rw [if_neg]; (exact ⟨(HC.out _ _).2 (hC.skip _ (by rfl)), rfl⟩); omega) | (go_at_call 214; (with_reducible refine (TxtAt.call IH.out g x0 x1 x2 x3 x4 _ (HX.out.below hw') HG.out (by omega)).mono ?_); rintro e w1 ⟨rfl, hb1⟩; exact ⟨rfl, (HC.out _ _).2 ((hC.next (by first | (simp; done) | (simp; omega) | omega) hb1).skip _ (by rfl))⟩)); go_simp) | (apply flow_no; (case hw => (go_simp; try (intro hh; cases hh))); (intro L w' _ _ hC; exact (HC.out _ _).2 (((HC.out _ _).1 hC).skip _ (by rfl))); go_simp))
        refine flow_nil ?_
        intro L wz hL hz
        have hz := (HC.out _ _).1 hz
        have hbz := hz.below
        have hcz := hz.cell
        try simp only [List.forall_mem_cons] at hcz
        have hdz := hz.done
        try simp only [List.forall_mem_cons] at hdz
        (try have hwz : Below w.heap.size w wz := by first | exact Below.trans (by (repeat (first | with_reducible (first | exact bR _ _ | assumption | refine bA ?_ _ | refine bS ?_ (by first | exact Nat.le_refl _ | (simp; done) | (simp; omega)) _) | assumption | exact bR _ _ | refine bD ?_ | refine bN ?_ _ | refine bT ?_ (by assumption)))) hbz | ((repeat (first | with_reducible (first | exact bR _ _ | assumption | refine bA ?_ _ | refine bS ?_ (by first | exact Nat.le_refl _ | (simp; done) | (simp; omega)) _) | assumption | exact bR _ _ | refine bD ?_ | refine bN ?_ _ | refine bT ?_ (by assumption))); done))
        go_wp2
        go_ret
        exact ⟨ret_strs (by rw [txt_qua (by decide)]; simp [sAll8]), by exact bel⟩
      · have hz2 : g.txt.length + v.length + 30 ≤ 1000000000030 := by rw [txt_qua (by decide)] at hz; simp at hz; omega
        clear hz
        show Calls Tryz.prog 214 #[.agg #[.int .i64 9, .string ⟨#[]⟩, .slice p 0 c, .string ⟨v.toArray⟩, .slice (some ⟨b, o, none⟩) 1 d]] w _
        go_enter Tryz.func214, Tryz.ntmps214
        go_wp2
        obtain ⟨W, hW⟩ : ∃ W : World, W = w.alloc (.cells #[.int .i64 9, .string ⟨#[]⟩, .slice p 0 c, .string ⟨v.toArray⟩, .slice (some ⟨b, o, none⟩) 1 d] 44) := ⟨_, rfl⟩
        have hwb : W.cell? ⟨w.heap.size, 3, none⟩ = some (.string ⟨v.toArray⟩) := by rw [hW]; go_simp
        have hwc : W.cell? ⟨w.heap.size, 4, none⟩ = some (.slice (some ⟨b, o, none⟩) 1 d) := by rw [hW]; go_simp
        have hbW : Below w.heap.size w W := by rw [hW]; exact bel
        rw [← hW]
        clear hW
        have zW := bsz (World.block_lt_of_cell? _ _ hwb)
        have ⟨cW, fW⟩ := bcell hbW
        obtain ⟨C, HC0⟩ := class_of (InF W.heap.size _ [(⟨w.heap.size, 3, none⟩, .string ⟨v.toArray⟩), (⟨w.heap.size, 4, none⟩, .slice (some ⟨b, o, none⟩) 1 d), (⟨b, o, none⟩, x0), (⟨b, o + 1, none⟩, x1), (⟨b, o + 2, none⟩, x2), (⟨b, o + 3, none⟩, x3), (⟨b, o + 4, none⟩, x4)] [] [])
        have HC := Lib.hid HC0
        clear HC0
        refine wp_region_flow (C := C) (by kernel_rfl) (by kernel_rfl) (fun L hL => (HC.out _ _).2 (InF.start (by first | (intro _ hs; cases hs; done) | (simp only [List.forall_mem_cons]; go_simp)) (by first | (intro _ hs; cases hs; done) | (simp only [List.forall_mem_cons]; go_simp)) (by first | (intro _ hs; cases hs; done) | (simp only [List.forall_mem_cons]; go_simp)) (by first | (intro _ hs; cases hs; done) | (simp only [List.forall_mem_cons]; go_simp)) L hL)) ?_
        repeat (first | ((first | apply flow_free rfl | (apply flow_yes; (case hw => go_simp))); (intro L w' hun hrd hC; have hC := (HC.out _ _).1 hC; have hb' := hC.below; (try have hw' : Below w.heap.size w w' := by first | exact Below.trans (by (repeat (first | with_reducible (first | exact bR _ _ | assumption | refine bA ?_ _ | refine bS ?_ (by first | exact Nat.le_refl _ | (simp; done) | (simp; omega)) _) | assumption | exact bR _ _ | refine bD ?_ | refine bN ?_ _ | refine bT ?_ (by assumption)))) hb' | ((repeat (first | with_reducible (first | exact bR _ _ | assumption | refine bA ?_ _ | refine bS ?_ (by first | exact Nat.le_refl _ | (simp; done) | (simp; omega)) _) | assumption | exact bR _ _ | refine bD ?_ | refine bN ?_ _ | refine bT ?_ (by assumption))); done)); have hf' := hC.cell; (try simp only [List.forall_mem_cons] at hf'); go_simp; first | exact ⟨(HC.out _ _).2 (hC.skip _ (by rfl)), rfl⟩ | (rw [if_neg]; (exact ⟨(HC.out _ _).2 (hC.skip _ (by rfl)), rfl⟩); omega) | (go_at_call 214; (with_reducible refine (TxtAt.call IH.out g x0 x1 x2 x3 x4 _ (HX.out.below hw') HG.out (by omega)).mono ?_); rintro e w1 ⟨rfl, hb1⟩; exact ⟨rfl, (HC.out _ _).2 ((hC.next (by first | (simp; done) | (simp; omega) | omega) hb1).skip _ (by rfl))⟩)); go_simp) | (apply flow_no; (case hw => (go_simp; try (intro hh; cases hh))); (intro L w' _ _ hC; exact (HC.out _ _).2 (((HC.out _ _).1 hC).skip _ (by rfl))); go_simp))
        refine flow_nil ?_
        intro L wz hL hz
        have hz := (HC.out _ _).1 hz
        have hbz := hz.below
        have hcz := hz.cell
        try simp only [List.forall_mem_cons] at hcz
        have hdz := hz.done
        try simp only [List.forall_mem_cons] at hdz
        (try have hwz : Below w.heap.size w wz := by first | exact Below.trans (by (repeat (first | with_reducible (first | exact bR _ _ | assumption | refine bA ?_ _ | refine bS ?_ (by first | exact Nat.le_refl _ | (simp; done) | (simp; omega)) _) | assumption | exact bR _ _ | refine bD ?_ | refine bN ?_ _ | refine bT ?_ (by assumption)))) hbz | ((repeat (first | with_reducible (first | exact bR _ _ | assumption | refine bA ?_ _ | refine bS ?_ (by first | exact Nat.le_refl _ | (simp; done) | (simp; omega)) _) | assumption | exact bR _ _ | refine bD ?_ | refine bN ?_ _ | refine bT ?_ (by assumption))); done))
        go_wp2
        go_ret
        exact ⟨ret_strs (by rw [txt_qua (by decide)]; simp [sSome8]), by exact bel⟩
open Go.RowKit
theorem FmP.mono {m n g : Nat} {s : ByteArray} {F : Fm} {p' : PSt} {w w' : World} {x : Value} (hm : m ≤ n) (h : FmP m g s F p' w x w') : FmP n g s F p' w x w' := by
  obtain ⟨⟨v0, v1, v2, v3, v4, hx, hO⟩, h2⟩ := h
  exact ⟨⟨v0, v1, v2, v3, v4, hx, FmOwn.mono _ _ _ _ hm (SameOn.refl _ _) (fun _ h => h) hO⟩, h2⟩
theorem eq_own {f g rb bt : Nat} {s : ByteArray} {p pq : PSt} {ro : Obj} {w0 W w1 : World} {n : List UInt8} {v v0 v1 : Value} {xs : List Tm} {tq : Tm} (h : TSt 41 190 ro w0 g rb bt s n p v xs f W) (hn : n.length ≤ 1000000) (hT : TermP 41 g W.heap.size s f tq pq 190 W.drew (.agg #[v0, v1]) w1) :
    TmOwn 41 (f + 2) (fun b => rb < b ∧ b < w1.heap.size + 1) (w1.alloc (.cells #[.string ⟨n.toArray⟩, v, v0, v1] 41)) (eqTm (.mk ⟨n.toArray⟩ xs) tq) [.string ⟨#[61]⟩, .slice (some ⟨w1.heap.size, 0, none⟩) 2 2] := by
  obtain ⟨v0', v1', he, hO, hP, hG⟩ := hT
  simp only [Value.agg.injEq, Array.mk.injEq, List.cons.injEq, and_true] at he
  obtain ⟨rfl, rfl⟩ := he
  obtain ⟨l1, l2, l3, l4⟩ := h.lt
  have hz : W.heap.size ≤ w1.heap.size := hG.size
  have hG1 : W.grownBy w1 (some g) := ⟨hG.os, hG.tape, hG.output, hG.size, hG.block⟩
  have h1 := TmOwn.mono (f + 1) (f + 1) _ _ (Nat.le_refl _) (w' := w1) (fun b hb hlt => hG1.block b hlt (by simp; omega)) (fun _ h => h) (h.term hn)
  refine ⟨_, rfl, by decide, ?_⟩
  exact OwnRow.two' rfl [.string ⟨n.toArray⟩, v] [v0, v1] _ rfl rfl rfl (TmOwn.below ((Below.refl _ _).alloc (Nat.le_refl _) _) h1) (TmOwn.mono f (f + 1) _ _ (by omega) (SameOn.below ((Below.refl _ _).alloc (Nat.le_refl _) _)) (fun _ h => h) hO)
    (fun b hb => by omega) (fun b hb => hb.2) (fun b hb hb' => by omega) (fun b hb => by omega) (fun b hb => by omega) (by omega)
open Go.RowKit
def EqTSt (_bt rb : Nat) (CP : Value → World → Prop) (a0 a1 : Value) (W : World) : Nat → (Nat → Value) → World → Prop
  | 0, _, w => w = W.drew
  | 1, u, w => CP (u 2) w
  | 2, u, w => ∃ w1 v0 v1, CP (.agg #[v0, v1]) w1 ∧ u 3 = .slice (some ⟨w1.heap.size, 0, none⟩) 2 2 ∧ w = w1.alloc (.cells #[a0, a1, v0, v1] 41)
  | 3, u, w => ∃ w1 v0 v1, CP (.agg #[v0, v1]) w1 ∧ u 4 = .agg #[.string ⟨#[61]⟩, .slice (some ⟨w1.heap.size, 0, none⟩) 2 2] ∧ w = w1.alloc (.cells #[a0, a1, v0, v1] 41)
  | 4, _, w => ∃ w1 v0 v1, CP (.agg #[v0, v1]) w1 ∧ w = ((w1.alloc (.cells #[a0, a1, v0, v1] 41)).setCell ⟨rb, 0, none⟩ (.string ⟨#[61]⟩)).setCell ⟨rb, 1, none⟩ (.slice (some ⟨w1.heap.size, 0, none⟩) 2 2)
  | _, _, _ => False
theorem EqTSt.cells {g rb bt : Nat} {CP : Value → World → Prop} {a0 a1 x0 x1 : Value} {W : World} (hG : ∀ x w', CP x w' → W.grownBy w' (some g)) (h0 : W.cell? ⟨bt, 0, none⟩ = some x0) (h1 : W.cell? ⟨bt, 1, none⟩ = some x1) (hne : bt ≠ g) {j : Nat} (hj : j ≤ 1) {u : Nat → Value} {w : World}
    (h : EqTSt bt rb CP a0 a1 W j u w) : w.cell? ⟨bt, 0, none⟩ = some x0 ∧ w.cell? ⟨bt, 1, none⟩ = some x1 := by
  match j, hj, h with
  | 0, _, h => obtain rfl : w = W.drew := h; exact ⟨h0, h1⟩
  | 1, _, h => exact ⟨grown_cell (hG _ _ h) h0 (by simpa using hne), grown_cell (hG _ _ h) h1 (by simpa using hne)⟩
set_option maxRecDepth 100000 in
set_option maxHeartbeats 3200000 in
theorem patom_any (f g : Nat) (s : ByteArray) (p : PSt) (w : World) (h : PAt 190 w g s p) (hp : p.pos ≤ s.size) (hs : s.size ≤ 1000000) (hf : s.size - p.pos < f) :
    Calls Tryz.prog 229 #[.pointer (some ⟨g, 0, none⟩)] w fun e w' => ∃ x, e = .returned x ∧ TermP 41 g w.heap.size s (f + 2) (pAtomT s.data.toList f p).1 (pAtomT s.data.toList f p).2 190 w x w' := by
  have H := Lib.hid h
  have hg := bsz h.lt
  have hpos := pTerm_pos s.data.toList f p (by rw [← size_list]; exact hp)
  rw [← size_list] at hpos
  have hnm := pTerm_name s.data.toList f p
  rw [← size_list, ← size_list] at hnm
  have HPA := Lib.hid (show pAtomT s.data.toList f p = if pTake s.data.toList sEq8 (pTerm s.data.toList f p).2 then (eqTm (pTerm s.data.toList f p).1 (pTerm s.data.toList f (pAdv sEq8 (pTerm s.data.toList f p).2)).1, (pTerm s.data.toList f (pAdv sEq8 (pTerm s.data.toList f p).2)).2) else pTerm s.data.toList f p from rfl)
  clear h
  go_enter Tryz.func229, Tryz.ntmps229
  go_wp2_with fail
  refine (term_any f g s p _ (H.out.below (by exact bel)) hp hs hf).mono ?_
  rintro e w1 ⟨x, rfl, v0, v1, rfl, hO, hP1, hg1⟩
  obtain ⟨pp, cc, rfl, rfl, -⟩ := hO.form
  generalize pTerm s.data.toList f p = r at *
  obtain ⟨t, p1⟩ := r
  simp only at hpos hO hP1 HPA hnm
  have HO := Lib.hid (show TmOwn 41 f (fun b => w.heap.size + 1 ≤ b ∧ b < w1.heap.size) w1 t _ by simpa using hO)
  have HG1 := Lib.hid hg1
  have ⟨c1, f1⟩ := gcell hg1
  have hz1 := hg1.size
  (try simp at hz1)
  have HP1 := Lib.hid hP1
  clear hO hP1 hg1
  cases h1 : pTake s.data.toList sEq8 p1
  · have HA := Lib.hid h1
    have HF2 := Lib.hid (show pAtomT s.data.toList f p = (t, p1) by rw [HPA.out, h1]; rfl)
    clear h1
    go_wp2_with fail
    refine (take_any g s _ p1 _ (HP1.out.below (by exact bel)) hpos.2 (by omega) (by decide)).mono ?_
    rw [show (⟨#[32, 61, 32]⟩ : ByteArray).data.toList = sEq8 from rfl, HA.out]
    rintro e w2 ⟨_, rfl, rfl, h2, hg2⟩
    have HTS := Lib.hid (TSt.initT (s := s) (p := p1) (by omega) HO.out HG1.out hg2 h2)
    clear h2 hg2 c1 f1
    obtain ⟨hb0, hb1, -⟩ := cells2_cell HTS.out.cell
    have hb0 : w2.cell? ⟨w1.heap.size, 0, none⟩ = some (.string t.n) := hb0
    obtain ⟨r0, r1, rf⟩ := cells2_cell HTS.out.res
    have hrb := bsz (heap_lt HTS.out.res)
    have hlt := HTS.out.lt
    go_wp2
    refine bodyPost_ret (v := .agg #[.string t.n, .slice pp t.us.length cc]) (by simp only [results, Tryz.results229]; go_simp) rfl ⟨_, rfl, ?_⟩
    rw [HF2.out]
    have := (HTS.out.done (by rw [← size_list]; omega) (.string t.n) (.slice pp t.us.length cc)).mono (f' := f + 2) (by omega)
    have hte : (Tm.mk ⟨t.n.data.toList.toArray⟩ t.us) = t := by obtain ⟨n, us⟩ := t; rfl
    rw [hte] at this
    exact this
  · have HA := Lib.hid h1
    have hle := pTake_le h1 (by rw [← size_list]; exact hpos.2)
    rw [← size_list] at hle
    have hl8 : sEq8.length = 3 := rfl
    have HPB := Lib.hid (show pAtomT s.data.toList f p = (eqTm t (pTerm s.data.toList f (pAdv sEq8 p1)).1, (pTerm s.data.toList f (pAdv sEq8 p1)).2) by rw [HPA.out, h1]; rfl)
    clear h1
    go_wp2_with fail
    refine (take_any g s _ p1 _ (HP1.out.below (by exact bel)) hpos.2 (by omega) (by decide)).mono ?_
    rw [show (⟨#[32, 61, 32]⟩ : ByteArray).data.toList = sEq8 from rfl, HA.out]
    rintro e w2 ⟨_, rfl, rfl, h2, hg2⟩
    have HTS := Lib.hid (TSt.initT (s := s) (p := pAdv sEq8 p1) (by omega) HO.out HG1.out hg2 h2)
    clear h2 hg2 c1 f1
    obtain ⟨hb0, hb1, -⟩ := cells2_cell HTS.out.cell
    have HB := Lib.hid (And.intro (show w2.cell? ⟨w1.heap.size, 0, none⟩ = some (.string t.n) from hb0) hb1)
    have hlt := HTS.out.lt
    clear hb0 hb1
    go_wp2
    obtain ⟨tq, htq⟩ : ∃ tq, (pTerm s.data.toList f (pAdv sEq8 p1)).1 = tq := ⟨_, rfl⟩
    obtain ⟨pq, hpq⟩ : ∃ pq, (pTerm s.data.toList f (pAdv sEq8 p1)).2 = pq := ⟨_, rfl⟩
    have HTQ := Lib.hid htq
    have HPQ := Lib.hid hpq
    have HRD := Lib.hid (show (pAdv sEq8 p1).pos ≤ s.size ∧ s.size - (pAdv sEq8 p1).pos < f by simp only [pAdv]; omega)
    have HPA2 := Lib.hid (show pAtomT s.data.toList f p = (eqTm t tq, pq) by rw [HPB.out, htq, hpq])
    clear htq hpq
    obtain ⟨CP, hCP0⟩ : ∃ CP : Value → World → Prop, CP = TermP 41 g w2.heap.size s f tq pq 190 w2.drew := ⟨_, rfl⟩
    have HCP := Lib.hid hCP0
    have HGR := Lib.hid (show ∀ x w', CP x w' → w2.grownBy w' (some g) from by
      rw [hCP0]; rintro x w' ⟨_, _, _, _, _, hG⟩; exact ⟨hG.os, hG.tape, hG.output, hG.size, hG.block⟩)
    have HAGG := Lib.hid (show ∀ x w', CP x w' → ∃ pp cc, x = .agg #[.string tq.n, .slice pp tq.us.length cc] from by
      rw [hCP0]; rintro x w' ⟨v0, v1, hx, hO, _, _⟩
      obtain ⟨pp, cc, rfl, rfl, -⟩ := hO.form
      exact ⟨_, _, hx⟩)
    clear hCP0
    refine wp_region_stages [some (.agg #[.string t.n, .slice pp t.us.length cc]), some (.pointer (some ⟨g, 0, none⟩)), none, none, none, none] [2, 3, 4, 5] (EqTSt w1.heap.size w.heap.size CP (.string t.n) (.slice pp t.us.length cc) w2) (by kernel_rfl) (by kernel_rfl) (by first | kernel_rfl | rfl) (by rfl) rfl ?_
    refine chain_stb (c := 3) 1 rfl rfl (by decide) rfl rfl rfl (by first | kernel_rfl | rfl) ?_ ?_
    · intro j u w' hj hS
      obtain ⟨hc0, hc1⟩ := EqTSt.cells HGR.out HB.out.1 HB.out.2 (by omega) hj hS
      go_simp
      first | done | exact ⟨hS, rfl⟩ | exact hS | rfl
    go_simp
    refine chain_st rfl rfl (by decide) rfl (by intro j u w' hS; go_simp; first | done | exact ⟨hS, rfl⟩ | exact hS | rfl) ?_
    go_simp
    refine chain_first rfl rfl rfl (by decide) rfl ?_ ?_
    · intro w' hS
      obtain rfl : w' = w2.drew := hS
      go_simp
      refine (term_any f g s _ _ (PAt.below HTS.out.at_ (by exact bel)) HRD.out.1 hs HRD.out.2).mono ?_
      rintro e w'' ⟨x, he, hx⟩
      rw [HTQ.out, HPQ.out] at hx
      exact ⟨x, he, by show CP (upd _ 2 x 2) w''; rw [upd_same, HCP.out]; exact hx⟩
    intro x
    go_simp
    refine chain_next 0 rfl rfl rfl rfl (by decide) rfl (by first | kernel_rfl | rfl) ?_ ?_
    · intro w' hS
      have hS : CP (upd _ 2 x 2) w' := hS
      rw [upd_same] at hS
      obtain ⟨pp4, cc4, rfl⟩ := HAGG.out _ _ hS
      go_simp
      exact ⟨w', _, _, hS, by rw [upd_same], rfl⟩
    intro y
    go_simp
    refine chain_next 1 rfl rfl rfl rfl (by decide) rfl (by first | kernel_rfl | rfl) ?_ ?_
    · intro w' hS
      obtain ⟨w3, v0, v1, hcp, hy, rfl⟩ := hS
      rw [upd_same] at hy
      subst hy
      go_simp
      exact ⟨w3, v0, v1, hcp, by rw [upd_same], rfl⟩
    intro z
    go_simp
    refine chain_next 2 rfl rfl rfl rfl (by decide) rfl (by first | kernel_rfl | rfl) ?_ ?_
    · intro w' hS
      obtain ⟨w3, v0, v1, hcp, hy, rfl⟩ := hS
      rw [upd_same] at hy
      subst hy
      have hG1 := HGR.out _ _ hcp
      have hz3 := hG1.size
      have hro : (w3.alloc (.cells #[.string t.n, .slice pp t.us.length cc, v0, v1] 41)).heap[w.heap.size]? = some (.cells #[.string ⟨#[]⟩, .slice none 0 0] 41 (0, 0)) := (hao w3 _ _ (by omega)).trans ((hG1.block _ (by omega) (by simp; omega)).trans HTS.out.res)
      obtain ⟨r0, r1, rf⟩ := cells2_cell hro
      have hrb := bsz (heap_lt hro)
      clear hro
      go_simp
      exact ⟨w3, v0, v1, hcp, rfl⟩
    intro x'
    refine flowU_nil ?_
    intro wz hz
    obtain ⟨w3, v0, v1, hcp, rfl⟩ := hz
    have hG1 := HGR.out _ _ hcp
    have hz3 := hG1.size
    rw [HCP.out] at hcp
    have HE := Lib.hid (eq_own HTS.out (by rw [← size_list]; omega) hcp)
    have HP3 := Lib.hid (show PAt 190 w3 g s pq from by obtain ⟨_, _, _, _, h, _⟩ := hcp; exact h)
    have HG3 := Lib.hid (gr_trans HTS.out.gr hG1)
    have hk : ∀ b, b ≠ w.heap.size → b < w3.heap.size + 1 → (((w3.alloc (.cells #[.string t.n, .slice pp t.us.length cc, v0, v1] 41)).setCell ⟨w.heap.size, 0, none⟩ (.string ⟨#[61]⟩)).setCell ⟨w.heap.size, 1, none⟩ (.slice (some ⟨w3.heap.size, 0, none⟩) 2 2)).heap[b]? = (w3.alloc (.cells #[.string t.n, .slice pp t.us.length cc, v0, v1] 41)).heap[b]? := fun b hb _ => by
      repeat rw [heap_setCell_other _ _ _ _ (fun e => hb e)]
    have HK := Lib.hid hk
    clear hk
    have hro : (((w3.alloc (.cells #[.string t.n, .slice pp t.us.length cc, v0, v1] 41)).setCell ⟨w.heap.size, 0, none⟩ (.string ⟨#[61]⟩)).setCell ⟨w.heap.size, 1, none⟩ (.slice (some ⟨w3.heap.size, 0, none⟩) 2 2)).heap[w.heap.size]? = some (.cells #[.string ⟨#[61]⟩, .slice (some ⟨w3.heap.size, 0, none⟩) 2 2] 41 (0, 0)) := by
      have h1 : (w3.alloc (.cells #[.string t.n, .slice pp t.us.length cc, v0, v1] 41)).heap[w.heap.size]? = some (.cells #[.string ⟨#[]⟩, .slice none 0 0] 41 (0, 0)) := (hao w3 _ _ (by omega)).trans ((hG1.block _ (by omega) (by simp; omega)).trans HTS.out.res)
      have h2 := heap_setCell_same _ w.heap.size 0 _ 41 (.string ⟨#[61]⟩) h1
      have h3 := heap_setCell_same _ w.heap.size 1 _ 41 (.slice (some ⟨w3.heap.size, 0, none⟩) 2 2) h2
      simpa using h3
    obtain ⟨r0, r1, rf⟩ := cells2_cell hro
    have hrb := bsz (heap_lt hro)
    clear hro hcp
    go_simp
    go_wp2
    refine bodyPost_ret (v := .agg #[.string ⟨#[61]⟩, .slice (some ⟨w3.heap.size, 0, none⟩) 2 2]) (by simp only [results, Tryz.results229]; go_simp) rfl ⟨_, rfl, ?_⟩
    rw [HPA2.out]
    have hte : (Tm.mk ⟨t.n.data.toList.toArray⟩ t.us) = t := by obtain ⟨n, us⟩ := t; rfl
    have hE := HE.out
    rw [hte] at hE
    refine ⟨_, _, rfl, TmOwn.mono _ _ _ _ (Nat.le_refl _) (fun b hb hlt => HK.out b (by omega) hb.2) (fun b hb => ⟨by omega, by simp; omega⟩) hE, (HK.out g (by omega) (by omega)).trans ((hao w3 _ _ (by omega)).trans HP3.out), ?_⟩
    exact gr_sc (gr_sc (gr_al HG3.out _) (.inr (Nat.le_refl _)) _) (.inr (Nat.le_refl _)) _
open Go.RowKit
structure ESt (w : World) (g : Nat) (s : ByteArray) (p : PSt) (W : World) : Prop where
  at_ : PAt 190 W g s p
  gr : w.grownBy W (some g)
  res : W.heap[w.heap.size]? = some (.cells #[.int .i64 0, .string ⟨#[]⟩, .slice none 0 0, .string ⟨#[]⟩, .slice none 0 0] 44 (0, 0))
  lt : g < w.heap.size
theorem ESt.step {w W W' : World} {g : Nat} {s : ByteArray} {p p' : PSt} (h : ESt w g s p W) (hP : PAt 190 W' g s p') (hG : W.grownBy W' (some g)) : ESt w g s p' W' :=
  ⟨hP, gr_trans h.gr hG, (hG.block _ (heap_lt h.res) (by have := h.lt; simp; omega)).trans h.res, h.lt⟩
theorem ESt.hand {w W W' : World} {m g : Nat} {s : ByteArray} {p p' : PSt} {F : Fm} {x : Value} (h : ESt w g s p W) (hF : FmP m g s F p' W x W') (a0 a1 a2 a3 a4 : Value) :
    FmP m g s F p' w x (((((W'.setCell ⟨w.heap.size, 0, none⟩ a0).setCell ⟨w.heap.size, 1, none⟩ a1).setCell ⟨w.heap.size, 2, none⟩ a2).setCell ⟨w.heap.size, 3, none⟩ a3).setCell ⟨w.heap.size, 4, none⟩ a4) :=
  FmP.of hF.2.1 (gr_trans h.gr hF.2.2) (Below.refl _ _) hF.1 (fun _ hb => ⟨Nat.lt_of_lt_of_le (heap_lt h.res) hb.1, hb.2⟩) (Nat.le_refl _) h.lt _ _ _ _ _
theorem FmP.form {m g : Nat} {s : ByteArray} {F : Fm} {p' : PSt} {w w' : World} {x : Value} (h : FmP m g s F p' w x w') : ∃ q1 d1 q2 d2, x = .agg #[.int .i64 F.op, .string F.a.n, .slice q1 F.a.us.length d1, .string F.v, .slice q2 F.ps.length d2] := by
  obtain ⟨⟨v0, v1, v2, v3, v4, rfl, hO⟩, _⟩ := h
  obtain ⟨q1, d1, q2, d2, rfl, rfl, rfl, rfl, rfl, -⟩ := hO.form
  exact ⟨q1, d1, q2, d2, rfl⟩
theorem ESt.kept {w W W' : World} {m g : Nat} {s : ByteArray} {p p' : PSt} {F : Fm} {x : Value} (h : ESt w g s p W) (hF : FmP m g s F p' W x W') : W'.heap[w.heap.size]? = some (.cells #[.int .i64 0, .string ⟨#[]⟩, .slice none 0 0, .string ⟨#[]⟩, .slice none 0 0] 44 (0, 0)) :=
  (hF.2.2.block _ (heap_lt h.res) (by have := h.lt; simp; omega)).trans h.res
theorem FmP.wrap {m n g : Nat} {s : ByteArray} {F F' : Fm} {p' : PSt} {w w' w5 : World} {x y : Value} (h : FmP m g s F p' w x w') (hV : FmV n (fun b => NewB w w' b ∨ NewB w' w5 b) w5 F' y) (hb : Below w'.heap.size w' w5) (_ : True ∨ n = n) : FmP n g s F' p' w y w5 := by
  obtain ⟨v0, v1, v2, v3, v4, rfl, hO⟩ := hV
  have h1 := h.2.2.size
  have h2 := hb.size
  refine ⟨⟨_, _, _, _, _, rfl, FmOwn.mono _ _ _ _ (Nat.le_refl _) (SameOn.refl _ _) (fun b hb => ?_) hO⟩, h.2.1.below hb, gr_below h.2.2 hb⟩
  rcases hb with hb | hb
  · exact ⟨hb.1, Nat.lt_of_lt_of_le hb.2 h2⟩
  · exact ⟨Nat.le_trans h1 hb.1, hb.2⟩
open Go.RowKit Go.Maps
def D8 : DataW Unit := (((DataW.map []).put (.int .i64 5) (.lit (.string sAnd8))).put (.int .i64 6) (.lit (.string sOr8))).put (.int .i64 7) (.lit (.string sImp8))
theorem D8_at (x : Int) (z : DataW Unit) : D8.atKey (.int .i64 x) z = if x = 5 ∨ x = 6 ∨ x = 7 then .lit (.string (sign8 x)) else z := by
  by_cases h5 : x = 5
  · subst h5; rfl
  · by_cases h6 : x = 6
    · subst h6; rfl
    · by_cases h7 : x = 7
      · subst h7; rfl
      · rw [if_neg (by omega), D8, atKey_put_other (by simpa using h7), atKey_put_other (by simpa using h6), atKey_put_other (by simpa using h5)]
        rfl
theorem D8_entry {x : Int} {c : List UInt8} (h : ∀ zd, D8.atKey (.int .i64 x) zd = .lit (.string c)) : (x = 5 ∨ x = 6 ∨ x = 7) ∧ c = sign8 x := by
  by_cases hx : x = 5 ∨ x = 6 ∨ x = 7
  · have := h (.map [])
    rw [D8_at, if_pos hx] at this
    simp only [DataW.lit.injEq, Lit.string.injEq] at this
    exact ⟨hx, this.symm⟩
  · have := h (.map [])
    rw [D8_at, if_neg hx] at this
    cases this
theorem pSign_of {L : List UInt8} {p : PSt} {x : Int} (hx : x = 5 ∨ x = 6 ∨ x = 7) (h : pTake L (sign8 x) p = true) : pSign L p = x := by
  have key : ∀ t u : List UInt8, pTake L t p = true → t.length ≤ 3 + 1 → t[1]? ≠ u[1]? → 1 < t.length → 1 < u.length → pTake L u p = false := fun t u ht _ hne h1 h2 => by
    rw [Bool.eq_false_iff]; intro hu
    simp only [pTake, Bool.and_eq_true] at ht hu
    obtain ⟨X, hX⟩ := List.isPrefixOf_iff_prefix.1 ht.2
    obtain ⟨Y, hY⟩ := List.isPrefixOf_iff_prefix.1 hu.2
    have e1 : (L.drop p.pos)[1]? = t[1]? := by rw [← hX, List.getElem?_append_left h1]
    have e2 : (L.drop p.pos)[1]? = u[1]? := by rw [← hY, List.getElem?_append_left h2]
    exact hne (e1.symm.trans e2)
  rcases hx with rfl | rfl | rfl
  · have h : pTake L sAnd8 p = true := h
    rw [pSign, if_pos h]
  · have h : pTake L sOr8 p = true := h
    rw [pSign, if_neg (by rw [key _ sAnd8 h (by decide) (by decide) (by decide) (by decide)]; simp), if_pos h]
  · have h : pTake L sImp8 p = true := h
    rw [pSign, if_neg (by rw [key _ sAnd8 h (by decide) (by decide) (by decide) (by decide)]; simp), if_neg (by rw [key _ sOr8 h (by decide) (by decide) (by decide) (by decide)]; simp), if_pos h]
theorem pSign_no {L : List UInt8} {p : PSt} (h : ∀ x : Int, x = 5 ∨ x = 6 ∨ x = 7 → pTake L (sign8 x) p = false) : pSign L p = 0 := by
  have h5 : pTake L sAnd8 p = false := h 5 (.inl rfl)
  have h6 : pTake L sOr8 p = false := h 6 (.inr (.inl rfl))
  have h7 : pTake L sImp8 p = false := h 7 (.inr (.inr rfl))
  rw [pSign, h5, h6, h7]; rfl
theorem strE_of (s : ByteArray) (h : s.size ≤ maxLen) : plainElem (H := Unit) Tryz.prog 9 (.string s) = some (.lit (.string s.data.toList), []) := plainElem_string Tryz.underlying9 h
theorem key8 (n : Int) (h : (Lit.int .i64 n).wf = true) : keyOf Tryz.prog 3 (.int .i64 n) = some (.int .i64 n) := keyOf_int_mk Tryz.underlying3 h
set_option maxRecDepth 100000 in
set_option maxHeartbeats 1600000 in
theorem signs_any (w : World) : Calls Tryz.prog 231 #[] w fun e w' => ∃ b, e = .returned (.map (some b)) ∧ w'.ownsMap Tryz.prog 3 (plainElem (H := Unit) Tryz.prog 9) b 3 D8 ∧ w.heap.size ≤ b ∧ Below w.heap.size w w' := by
  have hmm := @run_makeMap Tryz.prog
  have hown0 := World.ownsMap_made w Tryz.prog 3 (plainElem (H := Unit) Tryz.prog 9)
  obtain ⟨w1, hr1, hown1, hg1⟩ := hown0.update (int_keyed Tryz.underlying3) Tryz.underlying217 (by unfold maxLen; omega) (key8 5 (by decide)) (strE_of ⟨#[32, 38, 32]⟩ (by decide))
  obtain ⟨w2, hr2, hown2, hg2⟩ := hown1.update (int_keyed Tryz.underlying3) Tryz.underlying217 (by unfold maxLen; omega) (key8 6 (by decide)) (strE_of ⟨#[32, 124, 32]⟩ (by decide))
  obtain ⟨w3, hr3, hown3, hg3⟩ := hown2.update (int_keyed Tryz.underlying3) Tryz.underlying217 (by unfold maxLen; omega) (key8 7 (by decide)) (strE_of ⟨#[32, 61, 62, 32]⟩ (by decide))
  have HG := Lib.hid ((hg1.trans hg2).trans hg3)
  have HO := Lib.hid hown3
  clear hown0 hown1 hown2 hown3 hg1 hg2 hg3
  go_enter Tryz.func231, Tryz.ntmps231
  go_wp2
  go_ret
  have hz := HG.out.size
  simp at hz
  exact ⟨_, rfl, HO.out, Nat.le_refl _, HG.out.os, HG.out.tape, HG.out.output, by omega, fun b hb => (HG.out.block b (by simp; omega) (by simp; omega)).trans (hao w _ b hb)⟩
end Go.Proofs.YtkgfanajgdelcaaGreatDoor
