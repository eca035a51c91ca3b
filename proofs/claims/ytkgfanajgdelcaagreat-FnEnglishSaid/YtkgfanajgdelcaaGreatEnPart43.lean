/- 'FnEnglish': the law is true for all arguments. -/
import Derived.OpenShut
import Derived.JoinedCond
import Derived.Deep.DeepHandedRow
import Derived.Lib.SmallJoins
import Derived.Stop.LaidErr
import Derived.ChangeSlices
import Derived.Test.YtkgfanajgdelcaaGreatEnPart41
import Derived.Test.YtkgfanajgdelcaaGreatEnPart42
namespace Go.Proofs.YtkgfanajgdelcaaGreat
set_option maxRecDepth 100000
open Go.RowKit
set_option maxHeartbeats 800000 in
theorem specIVF_any {B : Nat → Prop} (m : Nat) (t : Fm) (v0 v1 v2 v3 v4 : Value) (w : World) (h : FmAt B m w t [v0, v1, v2, v3, v4]) (hw : t.wt ≤ 1048576) :
    Calls Tryz.prog 8 #[.agg #[v0, v1, v2, v3, v4]] w fun e w' => e = .returned (.bool t.good) ∧ Below w.heap.size w w' := by
  obtain ⟨p, c, q, d, rfl, rfl, rfl, rfl, rfl, -⟩ := h.form
  have H := Lib.hid h
  have h1 : t.sz ≤ 100000000 := by have := t.sz_wt; omega
  have h2 : t.asz ≤ 100000000 := by have := t.asz_wt; omega
  clear h
  go_enter Tryz.func8, Tryz.ntmps8
  go_wp2_with fail
  refine (l8Good_any m t _ _ _ _ _ _ (H.out.below (by exact bel)) h1 h2).mono ?_
  rintro e w1 ⟨rfl, hb1⟩
  have ⟨cw1, fw1⟩ := bcell hb1
  have qw1 := hb1.size
  (try simp at qw1)
  (try have zw1w := bsz (show w.heap.size < w1.heap.size by omega))
  go_wp2
  go_ret
  exact ⟨rfl, by exact bel⟩
set_option maxHeartbeats 800000 in
theorem specIVC_any {B : Nat → Prop} (m : Nat) (c : List Lit3) (v : Value) (w : World) (h : ClsAt B m w c v) (hw : Cls.wts c ≤ 1048576) :
    Calls Tryz.prog 13 #[.agg #[v]] w fun e w' => e = .returned (.bool (Cls.good c)) ∧ Below w.heap.size w w' := by
  obtain ⟨p, d, rfl, -⟩ := (show ListAt B w 3 (LitAt B m w) v c from h).form
  have H := Lib.hid h
  have HZ := Lib.hid (show ∀ l ∈ c, l.a.sz ≤ 100000000 from fun l hl => by have h1 := Cls.wts_le c l hl; have h2 := l.a.sz_wt; omega)
  clear h
  go_enter Tryz.func13, Tryz.ntmps13
  go_wp2_with fail
  refine (l7Good_any m c _ _ (ClsAt.below (by exact bel) H.out) HZ.out).mono ?_
  rintro e w1 ⟨rfl, hb1⟩
  have ⟨cw1, fw1⟩ := bcell hb1
  have qw1 := hb1.size
  (try simp at qw1)
  (try have zw1w := bsz (show w.heap.size < w1.heap.size by omega))
  go_wp2
  go_ret
  exact ⟨rfl, by exact bel⟩
theorem vBigE_any (pp : Option Addr) (nn cc : Nat) (w : World) : Calls Tryz.prog 4 #[.slice pp nn cc] w fun e w' => e = .returned (.bool (decide ((65536 : Int) < (nn : Int)))) ∧ w = w' := by
  go_enter Tryz.func4, Tryz.ntmps4
  go_wp2
  go_ret
  exact ⟨rfl, rfl⟩
theorem etf_wt (u : ByteArray) : (etfF u).wt ≤ 12000 := by
  cases h : etfOk u
  · rw [etfF, h, if_neg (by decide), opF, Fm.wt, Fm.wts]; decide
  · exact (etfF_good h).2
theorem eng_str (l : List UInt8) (n : Nat) (h : l.length ≤ n) : (⟨l.toArray⟩ : ByteArray).size ≤ n := h
set_option maxHeartbeats 12800000 in
theorem fnEnglish_small (pp : Option Addr) (nn cc : Nat) (w : World) (h : CodeIn w (.slice pp nn cc)) (hn : nn ≤ 65536) :
    Calls Tryz.prog 3 #[.slice pp nn cc] w fun e w' => e = .returned (.bool true) ∧ Below w.heap.size w w' := by
  have H := Lib.hid h
  have hnn : ¬ (65536 : Int) < (nn : Int) := by omega
  clear h
  go_enter Tryz.func3, Tryz.ntmps3
  go_wp2_with fail
  refine (vBigE_any _ _ _ _).mono ?_
  rintro e w' ⟨rfl, rfl⟩
  go_wp2_with fail
  refine (drawFTE_any pp nn cc _ H.out).mono ?_
  rintro e w1 ⟨v, rfl, hf, hb1⟩
  obtain ⟨f, va, vp, rfl, hO, hfw⟩ := hf
  obtain ⟨p, c, q, d, -, -, rfl, -, rfl, -⟩ := hO.form
  obtain ⟨W1, hW1⟩ : ∃ q' : World, q' = w1.alloc (.cells #[.int .i64 f.op, .string f.a.n, .slice p f.a.us.length c, .string f.v, .slice q f.ps.length d] 29) := ⟨_, rfl⟩
  have hbW1 : Below w1.heap.size w1 W1 := by rw [hW1]; exact (Below.refl _ _).alloc (Nat.le_refl _) _
  have B1 : W1.heap[w1.heap.size]? = some (.cells #[.int .i64 f.op, .string f.a.n, .slice p f.a.us.length c, .string f.v, .slice q f.ps.length d] 29 (0, 0)) := by rw [hW1]; exact heap_alloc_new w1 _
  have HF := Lib.hid (FmAt.below hbW1 (FmOwn.at_ _ _ _ hO))
  have hb01 := Below.step hb1 hbW1
  clear hO
  go_wp2_with fail
  rw [← hW1]
  clear hW1
  refine (implFTE_any 60 f _ _ _ _ _ W1 HF.out (by omega)).mono ?_
  rintro e w2 ⟨rfl, hb2⟩
  obtain ⟨s, hs⟩ : ∃ s : ByteArray, s = ⟨f.engG.toArray⟩ := ⟨_, rfl⟩
  rw [← hs]
  have hsz : s.size ≤ 100000 := by
    rw [hs]
    refine eng_str _ _ ?_
    rw [Fm.engG]
    split
    · next hg =>
      have hf : f.form = true := by rw [Fm.good, Bool.and_eq_true] at hg; exact hg.2
      have := Fm.eng_wt _ f (Nat.le_refl _) hf; omega
    · simp
  have HS := Lib.hid hs
  clear hs
  have hb02 := Below.step hb01 hb2
  go_wp2_with fail
  refine (implETF_any s (by omega) w2).mono ?_
  rintro e w3 ⟨hb3, x0, x1, x2, x3, x4, rfl, hO3⟩
  obtain ⟨p3, c3, q3, d3, rfl, rfl, rfl, rfl, rfl, -⟩ := hO3.form
  have hb13 := Below.step hb2 hb3
  have hb03 := Below.step hb02 hb3
  have B3 := (hb13.block _ (blk_lt B1)).trans B1
  obtain ⟨W3, hW3⟩ : ∃ q' : World, q' = w3.alloc (.cells #[.int .i64 (etfF s).op, .string (etfF s).a.n, .slice p3 (etfF s).a.us.length c3, .string (etfF s).v, .slice q3 (etfF s).ps.length d3] 29) := ⟨_, rfl⟩
  have hbW3 : Below w3.heap.size w3 W3 := by rw [hW3]; exact (Below.refl _ _).alloc (Nat.le_refl _) _
  have D3 : W3.heap[w3.heap.size]? = some (.cells #[.int .i64 (etfF s).op, .string (etfF s).a.n, .slice p3 (etfF s).a.us.length c3, .string (etfF s).v, .slice q3 (etfF s).ps.length d3] 29 (0, 0)) := by rw [hW3]; exact heap_alloc_new w3 _
  have HG := Lib.hid (FmAt.below hbW3 (FmOwn.at_ _ _ _ hO3))
  have HF3 := Lib.hid (FmAt.below (Below.step hb13 hbW3) HF.out)
  obtain ⟨a0, a1, a2, a3, a4⟩ := five_at B3
  have zb3 := bsz (blk_lt B3)
  clear hO3
  go_wp2_with fail
  rw [← hW3]
  clear hW3
  refine (specIVF_any 60 f _ _ _ _ _ W3 HF3.out (by omega)).mono ?_
  rintro e w4 ⟨rfl, hb4⟩
  have hb04 := Below.step (Below.step hb03 hbW3) hb4
  have B4 := (hb4.block _ (by have := hbW3.size; have := blk_lt B3; omega)).trans ((hbW3.block _ (blk_lt B3)).trans B3)
  have D4 := (hb4.block _ (blk_lt D3)).trans D3
  have HF4 := Lib.hid (FmAt.below hb4 HF3.out)
  have HG4 := Lib.hid (FmAt.below hb4 HG.out)
  clear a0 a1 a2 a3 a4 zb3
  obtain ⟨a0, a1, a2, a3, a4⟩ := five_at B4
  obtain ⟨g0, g1, g2, g3, g4⟩ := five_at D4
  have za4 := bsz (blk_lt B4)
  have zd4 := bsz (blk_lt D4)
  have HB := Lib.hid hb04
  clear B1 B3 D3 B4 D4 hb1 hbW1 hb01 hb2 hb02 hb3 hb13 hb03 hbW3 hb4 hb04
  cases hg : f.good
  · have HX := Lib.hid hg
    clear hg
    go_wp2_with fail
    refine (drawCTE_any pp nn cc _ (code_below H.out HB.out)).mono ?_
    rintro e c1 ⟨v, rfl, hgc, hb1⟩
    obtain ⟨pc, dc, cl, rfl, hcl, hcap, hlen, hcw⟩ := hgc
    obtain ⟨C1, hC1⟩ : ∃ q' : World, q' = c1.alloc (.cells #[.slice pc cl.length dc] 39) := ⟨_, rfl⟩
    have hbC1 : Below c1.heap.size c1 C1 := by rw [hC1]; exact (Below.refl _ _).alloc (Nat.le_refl _) _
    have B1 : C1.heap[c1.heap.size]? = some (.cells #[.slice pc cl.length dc] 39 (0, 0)) := by rw [hC1]; exact heap_alloc_new c1 _
    have hwts : Cls.wts cl ≤ 1500 := by have h1 := wts_cap 120 cl hcw; have h2 : 120 * cl.length ≤ 120 * 10 := Nat.mul_le_mul_left _ hlen; omega
    have HCL := Lib.hid (ClsAt.below hbC1 hcl)
    have HCAP := Lib.hid hcap
    have hb01 := Below.step (Below.step HB.out hb1) hbC1
    clear hcl hcw
    go_wp2_with fail
    rw [← hC1]
    clear hC1
    refine (implCTE_any 12 cl _ C1 HCL.out (fun p' d' e => by injection e with _ _ e; have := HCAP.out; omega) (by omega)).mono ?_
    rintro e c2 ⟨rfl, hb2⟩
    obtain ⟨t, ht⟩ : ∃ t : ByteArray, t = ⟨(Cls.engG cl).toArray⟩ := ⟨_, rfl⟩
    rw [← ht]
    have htz : t.size ≤ 12000 := by
      rw [ht]
      refine eng_str _ _ ?_
      rw [Cls.engG]
      split
      · next hg => exact cls_len hg hwts
      · simp
    have HTT := Lib.hid ht
    clear ht
    have hb02 := Below.step hb01 hb2
    go_wp2_with fail
    refine (implETC_any t (by omega) c2).mono ?_
    rintro e c3 ⟨hb3, q3, k3, d3, rfl, hO3⟩
    have hb13 := Below.step hb2 hb3
    have hb03 := Below.step hb02 hb3
    have B3 := (hb13.block _ (blk_lt B1)).trans B1
    obtain ⟨C3, hC3⟩ : ∃ q' : World, q' = c3.alloc (.cells #[.slice q3 k3 d3] 39) := ⟨_, rfl⟩
    have hbC3 : Below c3.heap.size c3 C3 := by rw [hC3]; exact (Below.refl _ _).alloc (Nat.le_refl _) _
    have D3 : C3.heap[c3.heap.size]? = some (.cells #[.slice q3 k3 d3] 39 (0, 0)) := by rw [hC3]; exact heap_alloc_new c3 _
    have HCO := Lib.hid (ClsAt.below hbC3 (ClsOwn.at_ hO3))
    have HCL3 := Lib.hid (ClsAt.below (Below.step hb13 hbC3) HCL.out)
    have b0 : c3.cell? ⟨c1.heap.size, 0, none⟩ = some (.slice pc cl.length dc) := by rw [cell_of_row c3 _ 0 _ _ (0, 0) B3]; rfl
    have zb3 := bsz (blk_lt B3)
    clear hO3
    go_wp2_with fail
    rw [← hC3]
    clear hC3
    refine (specIVC_any 12 cl _ C3 HCL3.out (by omega)).mono ?_
    rintro e c4 ⟨rfl, hb4⟩
    have hb04 := Below.step (Below.step hb03 hbC3) hb4
    have B4 := (hb4.block _ (by have := hbC3.size; have := blk_lt B3; omega)).trans ((hbC3.block _ (blk_lt B3)).trans B3)
    have D4 := (hb4.block _ (blk_lt D3)).trans D3
    have HCL4 := Lib.hid (ClsAt.below hb4 HCL3.out)
    have HCO4 := Lib.hid (ClsAt.below hb4 HCO.out)
    clear b0 zb3
    have b0 : c4.cell? ⟨c1.heap.size, 0, none⟩ = some (.slice pc cl.length dc) := by rw [cell_of_row c4 _ 0 _ _ (0, 0) B4]; rfl
    have e0 : c4.cell? ⟨c3.heap.size, 0, none⟩ = some (.slice q3 k3 d3) := by rw [cell_of_row c4 _ 0 _ _ (0, 0) D4]; rfl
    have zb4 := bsz (blk_lt B4)
    have zd4c := bsz (blk_lt D4)
    have HBC := Lib.hid hb04
    clear B1 B3 D3 B4 D4 hb1 hbC1 hb01 hb2 hb02 hb3 hb13 hb03 hbC3 hb4 hb04
    cases hgc : Cls.good cl
    · clear HCL HCL3 HCL4 HCO HCO4
      go_wp2_with fail
      refine (drawETF_any pp nn cc _ (code_below H.out HBC.out)).mono ?_
      rintro e d1 ⟨u, rfl, hu, hb1⟩
      go_wp2_with fail
      refine (implETF_any u (by omega) d1).mono ?_
      rintro e d2 ⟨hb2, x0, x1, x2, x3, x4, rfl, hO⟩
      obtain ⟨p', c', q', d', rfl, rfl, rfl, rfl, rfl, -⟩ := hO.form
      obtain ⟨D2, hD2⟩ : ∃ q'' : World, q'' = d2.alloc (.cells #[.int .i64 (etfF u).op, .string (etfF u).a.n, .slice p' (etfF u).a.us.length c', .string (etfF u).v, .slice q' (etfF u).ps.length d'] 29) := ⟨_, rfl⟩
      have hbD2 : Below d2.heap.size d2 D2 := by rw [hD2]; exact (Below.refl _ _).alloc (Nat.le_refl _) _
      have HU := Lib.hid (FmAt.below hbD2 (FmOwn.at_ _ _ _ hO))
      have HBD := Lib.hid (Below.step (Below.step (Below.step HBC.out hb1) hb2) hbD2)
      clear hO hb1 hb2 hbD2
      go_wp2_with fail
      rw [← hD2]
      clear hD2
      refine (implFTE_any _ (etfF u) _ _ _ _ _ D2 HU.out (by have := etf_wt u; omega)).mono ?_
      rintro e d3 ⟨rfl, hb3⟩
      have HBZ := Lib.hid (Below.step HBD.out hb3)
      clear hb3
      cases hk : etfOk u
      · go_wp2
        go_ret
        exact ⟨rfl, HBZ.out⟩
      · obtain ⟨g1, g2⟩ := etf_forth hk
        have e5 : (⟨(etfF u).engG.toArray⟩ : ByteArray) = u := by rw [Fm.engG, if_pos g1]; exact g2.symm
        rw [e5]
        clear g2
        go_wp2
        go_ret
        exact ⟨ret_bool (by simp), HBZ.out⟩
    · obtain ⟨k1, k2⟩ := etc_back hgc hwts (HTT.out.trans (by rw [Cls.engG, if_pos hgc]))
      have hcl2 : ClsAt _ (2 * t.size + 7) c4 cl (.slice q3 k3 d3) := k2 ▸ HCO4.out
      obtain ⟨p', d', e', -⟩ := (show ListAt _ c4 3 (LitAt _ (2 * t.size + 7) c4) (.slice q3 k3 d3) cl from hcl2).form
      simp only [Value.slice.injEq] at e'
      obtain ⟨rfl, rfl, rfl⟩ := e'
      have HCL5 := Lib.hid hcl2
      clear hcl2
      go_wp2_with fail
      refine (vClauses_same (2 * t.size + 19) cl _ _ _ (ClsAt.mono (SameOn.refl _ _) (fun _ h => h) (by omega) HCL4.out) (ClsAt.mono (SameOn.refl _ _) (fun _ h => h) (by omega) HCL5.out)).mono ?_
      rintro e c5 ⟨rfl, hb5⟩
      have HBC5 := Lib.hid (Below.step HBC.out hb5)
      clear HBC hb5 b0 e0 zb4 zd4c k1 k2
      have HBC := HBC5
      go_wp2_with fail
      refine (drawETF_any pp nn cc _ (code_below H.out HBC.out)).mono ?_
      rintro e d1 ⟨u, rfl, hu, hb1⟩
      go_wp2_with fail
      refine (implETF_any u (by omega) d1).mono ?_
      rintro e d2 ⟨hb2, x0, x1, x2, x3, x4, rfl, hO⟩
      obtain ⟨p', c', q', d', rfl, rfl, rfl, rfl, rfl, -⟩ := hO.form
      obtain ⟨D2, hD2⟩ : ∃ q'' : World, q'' = d2.alloc (.cells #[.int .i64 (etfF u).op, .string (etfF u).a.n, .slice p' (etfF u).a.us.length c', .string (etfF u).v, .slice q' (etfF u).ps.length d'] 29) := ⟨_, rfl⟩
      have hbD2 : Below d2.heap.size d2 D2 := by rw [hD2]; exact (Below.refl _ _).alloc (Nat.le_refl _) _
      have HU := Lib.hid (FmAt.below hbD2 (FmOwn.at_ _ _ _ hO))
      have HBD := Lib.hid (Below.step (Below.step (Below.step HBC.out hb1) hb2) hbD2)
      clear hO hb1 hb2 hbD2
      go_wp2_with fail
      rw [← hD2]
      clear hD2
      refine (implFTE_any _ (etfF u) _ _ _ _ _ D2 HU.out (by have := etf_wt u; omega)).mono ?_
      rintro e d3 ⟨rfl, hb3⟩
      have HBZ := Lib.hid (Below.step HBD.out hb3)
      clear hb3
      cases hk : etfOk u
      · go_wp2
        go_ret
        exact ⟨rfl, HBZ.out⟩
      · obtain ⟨g1, g2⟩ := etf_forth hk
        have e5 : (⟨(etfF u).engG.toArray⟩ : ByteArray) = u := by rw [Fm.engG, if_pos g1]; exact g2.symm
        rw [e5]
        clear g2
        go_wp2
        go_ret
        exact ⟨ret_bool (by simp), HBZ.out⟩
  · obtain ⟨k1, k2⟩ := etf_back hg (by omega) (HS.out.trans (by rw [Fm.engG, if_pos hg]))
    have HG5 := Lib.hid (k2 ▸ HG4.out)
    rw [k2] at g0 g1 g2 g3 g4
    go_wp2_with fail
    refine (vFormulas_same (2 * s.size + 67) f _ _ _ _ _ _ _ _ _ _ _ (FmAt.mono (SameOn.refl _ _) (fun _ h => h) _ _ _ _ (by omega) HF4.out) (FmAt.mono (SameOn.refl _ _) (fun _ h => h) _ _ _ _ (by omega) HG5.out)).mono ?_
    rintro e w5 ⟨rfl, hb5⟩
    have HB5 := Lib.hid (Below.step HB.out hb5)
    clear HB hb5 a0 a1 a2 a3 a4 g0 g1 g2 g3 g4 za4 zd4 k1 k2 hg
    have HB := HB5
    go_wp2_with fail
    refine (drawCTE_any pp nn cc _ (code_below H.out HB.out)).mono ?_
    rintro e c1 ⟨v, rfl, hgc, hb1⟩
    obtain ⟨pc, dc, cl, rfl, hcl, hcap, hlen, hcw⟩ := hgc
    obtain ⟨C1, hC1⟩ : ∃ q' : World, q' = c1.alloc (.cells #[.slice pc cl.length dc] 39) := ⟨_, rfl⟩
    have hbC1 : Below c1.heap.size c1 C1 := by rw [hC1]; exact (Below.refl _ _).alloc (Nat.le_refl _) _
    have B1 : C1.heap[c1.heap.size]? = some (.cells #[.slice pc cl.length dc] 39 (0, 0)) := by rw [hC1]; exact heap_alloc_new c1 _
    have hwts : Cls.wts cl ≤ 1500 := by have h1 := wts_cap 120 cl hcw; have h2 : 120 * cl.length ≤ 120 * 10 := Nat.mul_le_mul_left _ hlen; omega
    have HCL := Lib.hid (ClsAt.below hbC1 hcl)
    have HCAP := Lib.hid hcap
    have hb01 := Below.step (Below.step HB.out hb1) hbC1
    clear hcl hcw
    go_wp2_with fail
    rw [← hC1]
    clear hC1
    refine (implCTE_any 12 cl _ C1 HCL.out (fun p' d' e => by injection e with _ _ e; have := HCAP.out; omega) (by omega)).mono ?_
    rintro e c2 ⟨rfl, hb2⟩
    obtain ⟨t, ht⟩ : ∃ t : ByteArray, t = ⟨(Cls.engG cl).toArray⟩ := ⟨_, rfl⟩
    rw [← ht]
    have htz : t.size ≤ 12000 := by
      rw [ht]
      refine eng_str _ _ ?_
      rw [Cls.engG]
      split
      · next hg => exact cls_len hg hwts
      · simp
    have HTT := Lib.hid ht
    clear ht
    have hb02 := Below.step hb01 hb2
    go_wp2_with fail
    refine (implETC_any t (by omega) c2).mono ?_
    rintro e c3 ⟨hb3, q3, k3, d3, rfl, hO3⟩
    have hb13 := Below.step hb2 hb3
    have hb03 := Below.step hb02 hb3
    have B3 := (hb13.block _ (blk_lt B1)).trans B1
    obtain ⟨C3, hC3⟩ : ∃ q' : World, q' = c3.alloc (.cells #[.slice q3 k3 d3] 39) := ⟨_, rfl⟩
    have hbC3 : Below c3.heap.size c3 C3 := by rw [hC3]; exact (Below.refl _ _).alloc (Nat.le_refl _) _
    have D3 : C3.heap[c3.heap.size]? = some (.cells #[.slice q3 k3 d3] 39 (0, 0)) := by rw [hC3]; exact heap_alloc_new c3 _
    have HCO := Lib.hid (ClsAt.below hbC3 (ClsOwn.at_ hO3))
    have HCL3 := Lib.hid (ClsAt.below (Below.step hb13 hbC3) HCL.out)
    have b0 : c3.cell? ⟨c1.heap.size, 0, none⟩ = some (.slice pc cl.length dc) := by rw [cell_of_row c3 _ 0 _ _ (0, 0) B3]; rfl
    have zb3 := bsz (blk_lt B3)
    clear hO3
    go_wp2_with fail
    rw [← hC3]
    clear hC3
    refine (specIVC_any 12 cl _ C3 HCL3.out (by omega)).mono ?_
    rintro e c4 ⟨rfl, hb4⟩
    have hb04 := Below.step (Below.step hb03 hbC3) hb4
    have B4 := (hb4.block _ (by have := hbC3.size; have := blk_lt B3; omega)).trans ((hbC3.block _ (blk_lt B3)).trans B3)
    have D4 := (hb4.block _ (blk_lt D3)).trans D3
    have HCL4 := Lib.hid (ClsAt.below hb4 HCL3.out)
    have HCO4 := Lib.hid (ClsAt.below hb4 HCO.out)
    clear b0 zb3
    have b0 : c4.cell? ⟨c1.heap.size, 0, none⟩ = some (.slice pc cl.length dc) := by rw [cell_of_row c4 _ 0 _ _ (0, 0) B4]; rfl
    have e0 : c4.cell? ⟨c3.heap.size, 0, none⟩ = some (.slice q3 k3 d3) := by rw [cell_of_row c4 _ 0 _ _ (0, 0) D4]; rfl
    have zb4 := bsz (blk_lt B4)
    have zd4c := bsz (blk_lt D4)
    have HBC := Lib.hid hb04
    clear B1 B3 D3 B4 D4 hb1 hbC1 hb01 hb2 hb02 hb3 hb13 hb03 hbC3 hb4 hb04
    cases hgc : Cls.good cl
    · clear HCL HCL3 HCL4 HCO HCO4
      go_wp2_with fail
      refine (drawETF_any pp nn cc _ (code_below H.out HBC.out)).mono ?_
      rintro e d1 ⟨u, rfl, hu, hb1⟩
      go_wp2_with fail
      refine (implETF_any u (by omega) d1).mono ?_
      rintro e d2 ⟨hb2, x0, x1, x2, x3, x4, rfl, hO⟩
      obtain ⟨p', c', q', d', rfl, rfl, rfl, rfl, rfl, -⟩ := hO.form
      obtain ⟨D2, hD2⟩ : ∃ q'' : World, q'' = d2.alloc (.cells #[.int .i64 (etfF u).op, .string (etfF u).a.n, .slice p' (etfF u).a.us.length c', .string (etfF u).v, .slice q' (etfF u).ps.length d'] 29) := ⟨_, rfl⟩
      have hbD2 : Below d2.heap.size d2 D2 := by rw [hD2]; exact (Below.refl _ _).alloc (Nat.le_refl _) _
      have HU := Lib.hid (FmAt.below hbD2 (FmOwn.at_ _ _ _ hO))
      have HBD := Lib.hid (Below.step (Below.step (Below.step HBC.out hb1) hb2) hbD2)
      clear hO hb1 hb2 hbD2
      go_wp2_with fail
      rw [← hD2]
      clear hD2
      refine (implFTE_any _ (etfF u) _ _ _ _ _ D2 HU.out (by have := etf_wt u; omega)).mono ?_
      rintro e d3 ⟨rfl, hb3⟩
      have HBZ := Lib.hid (Below.step HBD.out hb3)
      clear hb3
      cases hk : etfOk u
      · go_wp2
        go_ret
        exact ⟨rfl, HBZ.out⟩
      · obtain ⟨g1, g2⟩ := etf_forth hk
        have e5 : (⟨(etfF u).engG.toArray⟩ : ByteArray) = u := by rw [Fm.engG, if_pos g1]; exact g2.symm
        rw [e5]
        clear g2
        go_wp2
        go_ret
        exact ⟨ret_bool (by simp), HBZ.out⟩
    · obtain ⟨k1, k2⟩ := etc_back hgc hwts (HTT.out.trans (by rw [Cls.engG, if_pos hgc]))
      have hcl2 : ClsAt _ (2 * t.size + 7) c4 cl (.slice q3 k3 d3) := k2 ▸ HCO4.out
      obtain ⟨p', d', e', -⟩ := (show ListAt _ c4 3 (LitAt _ (2 * t.size + 7) c4) (.slice q3 k3 d3) cl from hcl2).form
      simp only [Value.slice.injEq] at e'
      obtain ⟨rfl, rfl, rfl⟩ := e'
      have HCL5 := Lib.hid hcl2
      clear hcl2
      go_wp2_with fail
      refine (vClauses_same (2 * t.size + 19) cl _ _ _ (ClsAt.mono (SameOn.refl _ _) (fun _ h => h) (by omega) HCL4.out) (ClsAt.mono (SameOn.refl _ _) (fun _ h => h) (by omega) HCL5.out)).mono ?_
      rintro e c5 ⟨rfl, hb5⟩
      have HBC5 := Lib.hid (Below.step HBC.out hb5)
      clear HBC hb5 b0 e0 zb4 zd4c k1 k2
      have HBC := HBC5
      go_wp2_with fail
      refine (drawETF_any pp nn cc _ (code_below H.out HBC.out)).mono ?_
      rintro e d1 ⟨u, rfl, hu, hb1⟩
      go_wp2_with fail
      refine (implETF_any u (by omega) d1).mono ?_
      rintro e d2 ⟨hb2, x0, x1, x2, x3, x4, rfl, hO⟩
      obtain ⟨p', c', q', d', rfl, rfl, rfl, rfl, rfl, -⟩ := hO.form
      obtain ⟨D2, hD2⟩ : ∃ q'' : World, q'' = d2.alloc (.cells #[.int .i64 (etfF u).op, .string (etfF u).a.n, .slice p' (etfF u).a.us.length c', .string (etfF u).v, .slice q' (etfF u).ps.length d'] 29) := ⟨_, rfl⟩
      have hbD2 : Below d2.heap.size d2 D2 := by rw [hD2]; exact (Below.refl _ _).alloc (Nat.le_refl _) _
      have HU := Lib.hid (FmAt.below hbD2 (FmOwn.at_ _ _ _ hO))
      have HBD := Lib.hid (Below.step (Below.step (Below.step HBC.out hb1) hb2) hbD2)
      clear hO hb1 hb2 hbD2
      go_wp2_with fail
      rw [← hD2]
      clear hD2
      refine (implFTE_any _ (etfF u) _ _ _ _ _ D2 HU.out (by have := etf_wt u; omega)).mono ?_
      rintro e d3 ⟨rfl, hb3⟩
      have HBZ := Lib.hid (Below.step HBD.out hb3)
      clear hb3
      cases hk : etfOk u
      · go_wp2
        go_ret
        exact ⟨rfl, HBZ.out⟩
      · obtain ⟨g1, g2⟩ := etf_forth hk
        have e5 : (⟨(etfF u).engG.toArray⟩ : ByteArray) = u := by rw [Fm.engG, if_pos g1]; exact g2.symm
        rw [e5]
        clear g2
        go_wp2
        go_ret
        exact ⟨ret_bool (by simp), HBZ.out⟩
theorem fnEnglish (pp : Option Addr) (nn cc : Nat) (w : World) (h : nn ≤ 1000000 → CodeIn w (.slice pp nn cc)) :
    Calls Tryz.prog 3 #[.slice pp nn cc] w fun e w' => e = .returned (.bool true) ∧ Below w.heap.size w w' := by
  by_cases hn : nn ≤ 65536
  · exact fnEnglish_small pp nn cc w (h (by omega)) hn
  · have hnn : (65536 : Int) < (nn : Int) := by omega
    clear h
    go_enter Tryz.func3, Tryz.ntmps3
    go_wp2_with fail
    refine (vBigE_any _ _ _ _).mono ?_
    rintro e w' ⟨rfl, rfl⟩
    go_wp2
    go_ret
    exact ⟨rfl, Below.refl _ _⟩
open Go.ChangeShapes Go.WideShapes Go.ChangeAt Go.RowKit Go.Joins
theorem own : ownKnob Tryz.prog.godebug = none := by kernel_rfl
theorem laidOut : laidOutB Tryz.prog = true := by kernel_rfl
theorem trodAll_stays {H : Type} {enc : TypeId × Value → H} {P : Program} (hl : laidOutB P = true) {W W' : World} {sp : Nat → Bool} : ∀ (ts : List TypeId) (vs : List Value) (ds : List (DataW H)) (ps : List MemPlace),
    (∀ t ∈ ts, P.readableRec t = true ∧ t < P.types.size) → DataW.TrodAll enc P W 0 (fun _ => true) true ts vs ds ps → (∀ x ∈ ps, W.sameAt W' x) → (∀ x ∈ ps, sp x.block = true) → DataW.TrodAll enc P W' 0 sp true ts vs ds ps
  | [], vs, ds, ps, _, h, _, _ => by
    cases vs <;> cases ds <;> simp_all [DataW.TrodAll]
  | t :: ts, [], ds, ps, _, h, _, _ => by simp [DataW.TrodAll] at h
  | t :: ts, v :: vs, [], ps, _, h, _, _ => by simp [DataW.TrodAll] at h
  | t :: ts, v :: vs, d :: ds, ps, ht, h, hs, hp => by
    obtain ⟨p, q, h1, h2, rfl⟩ := h
    exact ⟨p, q, WideElems.Trod_stays hl (ht t (by simp)).1 (ht t (by simp)).2 h1 (fun x hx => hs x (by simp [hx])) (fun x hx => hp x (by simp [hx])),
      trodAll_stays hl ts vs ds q (fun t h => ht t (by simp [h])) h2 (fun x hx => hs x (by simp [hx])) (fun x hx => hp x (by simp [hx])), rfl⟩
theorem close_true {H : Type} {enc : TypeId × Value → H} {f : Func} {s : ChangeSpec} {W W' : World} {args : Array Value} {ds gs : List (DataW H)} {before : List MemPlace}
    (hW : DataW.Whole enc Tryz.prog f.params.toList s.vars false W args.toList ds gs before) (hv : s.vars = []) (hr : f.resultTypes = #[4])
    (hp : f.params.toList.all (fun t => Tryz.prog.readableRec t && decide (t < Tryz.prog.types.size)) = true) (hfn : s.fn H ds = { results := [.lit (.bool true)], args := ds }) (hb : Below W.heap.size W W') :
    s.post enc Tryz.prog f false true false false W args (.bool true) W' := by
  have hW2 := hW
  have hlt : ∀ p ∈ before, p.block < W.heap.size := fun p hp => hW.lt p hp
  obtain ⟨p, q, hA, hV, rfl, _, _⟩ := hW2
  rw [hv] at hV
  obtain ⟨rfl, rfl⟩ := trodVars_none hV
  rw [List.append_nil] at hlt
  refine ⟨ds, [], p ++ [], [], p, [], hW, ?_, ?_, ?_, hb.frame _, fun h => by cases h⟩
  · rw [List.append_nil, hfn, hr]; exact trodAll_mk1 (shut_bool Tryz.underlying4 true)
  · rw [List.append_nil, hfn]
    refine trodAll_stays laidOut _ _ _ _ (fun t ht => ?_) hA (fun x hx => hb.same (hlt x hx)) (fun x hx => by simpa using hlt x hx)
    have := List.all_eq_true.1 hp t ht
    simpa using this
  · rw [List.append_nil, hfn, hv]; rfl
open Go.RowKit Go.ChangeShapes Go.WideShapes
theorem addr_add0 (b o : Nat) (i : Nat) : (⟨b, o, none⟩ : Addr).add i = ⟨b, o + i, none⟩ := by unfold Addr.add; split <;> simp_all
theorem cell_spot {w : World} {a : Addr} {v : Value} (h : w.cell? a = some v) : a.spot = none := by
  unfold World.cell? at h
  split at h
  · split at h
    · cases h
    · rename_i hs; simpa using hs
  · cases h
theorem bytes_of {H : Type} {enc : TypeId × Value → H} {W : World} {base : Nat} {sp : Nat → Bool} {held : Bool} {a : Option Addr} {len cap : Nat} {d : DataW H} {p : List MemPlace}
    (hsp : ∀ b, sp b = true) (h : DataW.Trod enc Tryz.prog W base sp held 22 (.slice a len cap) d p) : len ≤ 1000000 → CodeIn W (.slice a len cap) := by
  intro hl
  obtain ⟨fuel, hf⟩ := h
  rcases open_ints Tryz.underlying22 Tryz.underlying5 (by kernel_rfl) hf with ⟨hcs, _⟩ | ⟨a', len', cap', zs, hcs, _, hlc, hcm, hz, _, hcell, hwf⟩
  · simp [Value.cells] at hcs
    obtain ⟨rfl, rfl, rfl⟩ := hcs
    exact ⟨[], by simp, ListAt.nil _ _ _ _ _ _⟩
  · simp [Value.cells] at hcs
    obtain ⟨rfl, rfl, rfl⟩ := hcs
    rw [hsp, if_pos rfl] at hz
    have hlen : ((zs.take len).map fun z => UInt8.ofNat z.toNat).length = len := by simp; omega
    refine ⟨(zs.take len).map fun z => UInt8.ofNat z.toNat, by rw [hlen]; exact hl, some a', cap, by rw [hlen], by rw [hlen]; exact Nat.le_trans hlc hcm, fun i x hx => ?_⟩
    have hi : i < len := by
      have := (List.getElem?_eq_some_iff.1 hx).1
      omega
    have hc := hcell i (by omega)
    have h0 := hcell 0 (by omega)
    obtain ⟨b, o, s⟩ := a'
    have hs : s = none := by
      have := cell_spot h0
      simpa [Addr.add] using this
    subst hs
    rw [addr_add0] at hc
    refine ⟨b, o, rfl, World.block_lt_of_cell? W _ hc, [.int .u8 (zs.getD i 0)], rfl, fun j hj => ?_, ?_⟩
    · obtain rfl : j = 0 := by omega
      rw [Nat.mul_one, Nat.add_zero]; exact hc
    · have hz2 : zs.getD i 0 ∈ zs := by
        rw [List.getD_eq_getElem?_getD, List.getElem?_eq_getElem (by omega)]; exact List.getElem_mem _
      have hw := hwf _ hz2
      have hb : 0 ≤ zs.getD i 0 ∧ zs.getD i 0 ≤ 255 := by
        simpa [Lit.wf, IntKind.min, IntKind.max, IntKind.signed, IntKind.bits] using hw
      have hx2 : x = UInt8.ofNat (zs.getD i 0).toNat := by
        rw [List.getElem?_map, List.getElem?_take, if_pos hi, List.getElem?_eq_getElem (by omega)] at hx
        rw [List.getD_eq_getElem?_getD, List.getElem?_eq_getElem (by omega)]
        simpa using hx.symm
      show [Value.int .u8 (zs.getD i 0)] = [.int .u8 (x.toNat : Int)]
      have e : (x.toNat : Int) = zs.getD i 0 := by
        rw [hx2, UInt8.toNat_ofNat']; omega
      rw [e]
end Go.Proofs.YtkgfanajgdelcaaGreat
namespace Go.Proofs.YtkgfanajgdelcaaGreat.fnEnglishLaw
set_option maxRecDepth 100000
open Go.ChangeShapes Go.WideShapes Go.ChangeAt Go.RowKit Go.Joins Go.ChangeMaps
theorem contract (H : Type) (enc : TypeId × Value → H) (W : World) (base : Nat) (args : Array Value) (ds gs : List (DataW H)) (before : List MemPlace)
    (hval : ∀ (j : Nat) t v, Tryz.f3.params[j]? = some t → args[j]? = some v → Value.okWide Tryz.prog W .any base t v)
    (hW : DataW.Whole enc Tryz.prog Tryz.f3.params.toList Rows.fnEnglishSpec.vars false W args.toList ds gs before) :
    Calls Tryz.prog 3 args W fun e W' => ∃ v, e = .returned v ∧ Rows.fnEnglishSpec.post enc Tryz.prog Tryz.f3 false true false false W args v W' := by
  have hW' := hW
  obtain ⟨p, q, hA0, hV, rfl, hfz, hnd⟩ := hW
  have hA : DataW.TrodAll enc Tryz.prog W 0 (fun _ => true) true Tryz.f3.params.toList args.toList ds p := hA0
  rw [Tryz.params3] at hA hval
  obtain ⟨v0, vs0, d0, ds0, p0, q0, hargs, rfl, rfl, h0, r0⟩ := trodAll_cons hA
  obtain ⟨rfl, rfl, rfl⟩ := trodAll_nil r0
  obtain rfl : args = #[v0] := Array.ext' hargs
  obtain ⟨a0, len0, cap0, rfl⟩ := okWide_slice Tryz.underlying22 (hval 0 22 v0 rfl rfl)
  have hl0 := bytes_of (fun _ => rfl) h0
  clear hA0
  refine (fnEnglish a0 len0 cap0 W hl0).mono fun e W' ⟨he, hb⟩ => ?_
  subst he
  exact ⟨_, rfl, close_true hW' rfl (by kernel_rfl) (by kernel_rfl) rfl hb⟩
theorem lifted (os : Os) (started : os.Started) (H : Type) (enc : TypeId × Value → H) :
    ReturnsInHanded {} Tryz.checked os 3 .any (Rows.fnEnglishSpec.pre6 enc Tryz.prog Tryz.f3 Rows.fnEnglishRow.domain false) (Rows.fnEnglishSpec.post enc Tryz.prog Tryz.f3 false true false false) := by
  refine returnsInHanded_of_change (C := Tryz.checked) own started (by kernel_rfl) Tryz.func3
    (ChangeSpec.witness6 (enc := enc) (C := Tryz.checked) false ⟨#[], #[.slice none 0 0], []⟩ 8 (by kernel_rfl) (by kernel_rfl) (by kernel_rfl) (by kernel_rfl)) ?_
  intro W base args ds gs before hval hW _ _
  exact contract H enc W base args ds gs before hval hW
theorem said : Rows.FnEnglishSaid :=
  OpenClaim.holds_of_wide 3 Tryz.f3 rfl rfl rfl rfl rfl rfl rfl ⟨rfl, rfl, rfl, rfl, rfl⟩ rfl rfl rfl rfl rfl (by kernel_rfl) Tryz.func3 (by kernel_rfl)
    (of_decide_eq_true (by kernel_rfl)) (by unfold Func.isWrapper; first | (rw [if_pos (by decide +kernel)]; kernel_rfl) | (rw [if_neg (by decide +kernel)]; exact ⟨rfl, rfl⟩))
    (fun os started H enc _ => lifted os started H enc)
end Go.Proofs.YtkgfanajgdelcaaGreat.fnEnglishLaw
