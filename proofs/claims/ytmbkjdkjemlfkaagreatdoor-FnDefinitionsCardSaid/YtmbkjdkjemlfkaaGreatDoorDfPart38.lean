import Derived.Test.YtmbkjdkjemlfkaaGreatDoorDfPart36
import Derived.Test.YtmbkjdkjemlfkaaGreatDoorDfPart37
namespace Go.Proofs.YtmbkjdkjemlfkaaGreatDoor
set_option maxRecDepth 100000
open Go.RowKit
mutual
theorem Fm.nq_has : ∀ f : Fm, f.nq = (!f.has 8 && !f.has 9)
  | .mk op a v ps => by
    rw [Fm.nq, Fm.has, Fm.has, Fm.nqs_has ps]
    cases op == 8 <;> cases op == 9 <;> cases Fm.hass 8 ps <;> cases Fm.hass 9 ps <;> rfl
theorem Fm.nqs_has : ∀ fs : List Fm, Fm.nqs fs = (!Fm.hass 8 fs && !Fm.hass 9 fs)
  | [] => by rw [Fm.nqs, Fm.hass, Fm.hass]; rfl
  | f :: fs => by
    rw [Fm.nqs, Fm.hass, Fm.hass, Fm.nq_has f, Fm.nqs_has fs]
    cases f.has 8 <;> cases f.has 9 <;> cases Fm.hass 8 fs <;> cases Fm.hass 9 fs <;> rfl
end
mutual
theorem Tm.syms_size : ∀ (t : Tm), ∀ s ∈ t.syms, s.size ≤ t.wt
  | .mk n us, s, h => by
    rw [Tm.syms, List.mem_append] at h
    rw [Tm.wt]
    rcases h with h | h
    · split at h
      · obtain rfl : s = n := by simpa using h
        omega
      · cases h
    · have := Tm.symss_size us s h; omega
theorem Tm.symss_size : ∀ (us : List Tm), ∀ s ∈ Tm.symss us, s.size ≤ Tm.wts us
  | [], s, h => by rw [Tm.symss] at h; cases h
  | a :: us, s, h => by
    rw [Tm.symss, List.mem_append] at h
    rw [Tm.wts]
    rcases h with h | h
    · have := Tm.syms_size a s h; omega
    · have := Tm.symss_size us s h; omega
end
mutual
theorem Fm.syms_size : ∀ (f : Fm), ∀ s ∈ f.syms, s.size ≤ f.wt
  | .mk op a v ps, s, h => by
    rw [Fm.syms, List.mem_append] at h
    rw [Fm.wt]
    rcases h with h | h
    · have := Tm.syms_size a s h; omega
    · have := Fm.symss_size ps s h; omega
theorem Fm.symss_size : ∀ (fs : List Fm), ∀ s ∈ Fm.symss fs, s.size ≤ Fm.wts fs
  | [], s, h => by rw [Fm.symss] at h; cases h
  | f :: fs, s, h => by
    rw [Fm.symss, List.mem_append] at h
    rw [Fm.wts]
    rcases h with h | h
    · have := Fm.syms_size f s h; omega
    · have := Fm.symss_size fs s h; omega
end
def SdQ (us : List ByteArray) (t : Fm) (w : World) (e : Ending) (w' : World) : Prop := ∃ (y : FC) (lv : Value), e = .returned (.tuple #[.agg y.cs.toArray, lv, .bool (dcOk (inS us) t)]) ∧ Below w.heap.size w w'
set_option maxHeartbeats 6400000 in
theorem specDC_any {B : Nat → Prop} (m : Nat) (t : Fm) (v0 v1 v2 v3 v4 : Value) (w : World) (h : FmAt B m w t [v0, v1, v2, v3, v4]) (hw : t.wt ≤ 100000) (hS : t.good = true → ∀ j, 99999 < j → inS t.syms (dNm j) = false) :
    Calls Tryz.prog 7 #[.agg #[v0, v1, v2, v3, v4]] w (SdQ t.syms t w) := by
  have h := FmAt.inb _ _ _ h
  obtain ⟨p, c, q, d, rfl, rfl, rfl, rfl, rfl, -⟩ := h.form
  obtain ⟨W, hW⟩ : ∃ W : World, W = (w.alloc (.cells #[.int .i64 t.op, .string t.a.n, .slice p t.a.us.length c, .string t.v, .slice q t.ps.length d] 29)).alloc (.cells #[.int .i64 0, .string ⟨#[]⟩, .slice none 0 0, .string ⟨#[]⟩, .slice none 0 0] 29) := ⟨_, rfl⟩
  obtain ⟨hsW, hbW, A0, A1⟩ := two_new hW
  have hs1 := Fm.sz_wt t
  have hs2 := Fm.asz_wt t
  have H := Lib.hid h
  have HBW := Lib.hid hbW
  have HA0 := Lib.hid A0
  have HA1 := Lib.hid A1
  obtain ⟨a0, a1, a2, a3, a4⟩ := five_at A0
  have za := bsz (show w.heap.size < W.heap.size by omega)
  clear h hbW A0 A1
  go_enter Tryz.func7, Tryz.ntmps7
  go_wp2_with fail
  rw [← hW]
  clear hW
  refine (l8Good_any m t _ _ _ _ _ W (FmAt.below HBW.out H.out) (by omega) (by omega)).mono ?_
  rintro e w1 ⟨rfl, hb1⟩
  have hz1 := hb1.size
  have HA01 := Lib.hid ((hb1.block _ (by omega)).trans HA0.out)
  have HA11 := Lib.hid ((hb1.block _ (by omega)).trans HA1.out)
  have HB1 := Lib.hid (Below.step HBW.out hb1)
  clear hb1 a0 a1 a2 a3 a4 za
  obtain ⟨a0, a1, a2, a3, a4⟩ := five_at HA01.out
  have za := bsz (blk_lt HA01.out)
  cases hg : t.good
  · have HNO := Lib.hid (dcOk_no (S := inS t.syms) (show (t.good && t.nq && t.nnf) = false by rw [hg]; rfl))
    clear hg
    (try clear a0 a1 a2 a3 a4 za)
    obtain ⟨r0, r1, r2, r3, r4⟩ := five_at HA11.out
    have rf := fun j => frozen_of_row _ _ j _ _ HA11.out
    have zr := bsz (blk_lt HA11.out)
    have hbe := HB1.out
    go_wp2
    refine bodyPost_ret (v := .tuple #[.agg #[.int .i64 0, .string ⟨#[]⟩, .slice none 0 0, .string ⟨#[]⟩, .slice none 0 0], .slice (some ⟨w1.heap.size, 0, none⟩) 0 0, .bool false]) (by simp only [results, Tryz.results7]; go_simp) rfl ⟨⟨fmZero, none, 0, none, 0⟩, .slice (some ⟨w1.heap.size, 0, none⟩) 0 0, ?_, ?_⟩
    · rw [HNO.out]; rfl
    · exact bel
  have HG := Lib.hid hg
  clear hg
  go_wp2_with fail
  refine (l9IsNnf_any m t _ _ _ _ _ w1 (FmAt.below HB1.out H.out) (by have := HG.out; rw [Fm.good, Bool.and_eq_true] at this; exact this.2)).mono ?_
  rintro e w2 ⟨rfl, hb2⟩
  have hz2 := hb2.size
  have HA02 := Lib.hid ((hb2.block _ (by omega)).trans HA01.out)
  have HA12 := Lib.hid ((hb2.block _ (by omega)).trans HA11.out)
  have HB2 := Lib.hid (Below.step HB1.out hb2)
  clear hb2 a0 a1 a2 a3 a4 za
  obtain ⟨a0, a1, a2, a3, a4⟩ := five_at HA02.out
  have za := bsz (blk_lt HA02.out)
  cases hn : t.nnf
  · have HNO := Lib.hid (dcOk_no (S := inS t.syms) (show (t.good && t.nq && t.nnf) = false by rw [hn]; simp))
    clear hn
    (try clear a0 a1 a2 a3 a4 za)
    obtain ⟨r0, r1, r2, r3, r4⟩ := five_at HA12.out
    have rf := fun j => frozen_of_row _ _ j _ _ HA12.out
    have zr := bsz (blk_lt HA12.out)
    have hbe := HB2.out
    go_wp2
    refine bodyPost_ret (v := .tuple #[.agg #[.int .i64 0, .string ⟨#[]⟩, .slice none 0 0, .string ⟨#[]⟩, .slice none 0 0], .slice (some ⟨w2.heap.size, 0, none⟩) 0 0, .bool false]) (by simp only [results, Tryz.results7]; go_simp) rfl ⟨⟨fmZero, none, 0, none, 0⟩, .slice (some ⟨w2.heap.size, 0, none⟩) 0 0, ?_, ?_⟩
    · rw [HNO.out]; rfl
    · exact bel
  have HN := Lib.hid hn
  clear hn
  go_wp2_with fail
  refine (l9Has_any 8 (by omega) m t _ _ _ _ _ w2 (FmAt.below HB2.out H.out)).mono ?_
  rintro e w3 ⟨rfl, hb3⟩
  have hz3 := hb3.size
  have HA03 := Lib.hid ((hb3.block _ (by omega)).trans HA02.out)
  have HA13 := Lib.hid ((hb3.block _ (by omega)).trans HA12.out)
  have HB3 := Lib.hid (Below.step HB2.out hb3)
  clear hb3 a0 a1 a2 a3 a4 za
  obtain ⟨a0, a1, a2, a3, a4⟩ := five_at HA03.out
  have za := bsz (blk_lt HA03.out)
  cases h8 : t.has 8
  rotate_left
  · have HNO := Lib.hid (dcOk_no (S := inS t.syms) (show (t.good && t.nq && t.nnf) = false by rw [Fm.nq_has, h8]; simp))
    clear h8
    (try clear a0 a1 a2 a3 a4 za)
    obtain ⟨r0, r1, r2, r3, r4⟩ := five_at HA13.out
    have rf := fun j => frozen_of_row _ _ j _ _ HA13.out
    have zr := bsz (blk_lt HA13.out)
    have hbe := HB3.out
    go_wp2
    refine bodyPost_ret (v := .tuple #[.agg #[.int .i64 0, .string ⟨#[]⟩, .slice none 0 0, .string ⟨#[]⟩, .slice none 0 0], .slice (some ⟨w3.heap.size, 0, none⟩) 0 0, .bool false]) (by simp only [results, Tryz.results7]; go_simp) rfl ⟨⟨fmZero, none, 0, none, 0⟩, .slice (some ⟨w3.heap.size, 0, none⟩) 0 0, ?_, ?_⟩
    · rw [HNO.out]; rfl
    · exact bel
  have H8 := Lib.hid h8
  clear h8
  go_wp2_with fail
  refine (l9Has_any 9 (by omega) m t _ _ _ _ _ w3 (FmAt.below HB3.out H.out)).mono ?_
  rintro e w4 ⟨rfl, hb4⟩
  have hz4 := hb4.size
  have HA04 := Lib.hid ((hb4.block _ (by omega)).trans HA03.out)
  have HA14 := Lib.hid ((hb4.block _ (by omega)).trans HA13.out)
  have HB4 := Lib.hid (Below.step HB3.out hb4)
  clear hb4 a0 a1 a2 a3 a4 za
  obtain ⟨a0, a1, a2, a3, a4⟩ := five_at HA04.out
  have za := bsz (blk_lt HA04.out)
  cases h9 : t.has 9
  rotate_left
  · have HNO := Lib.hid (dcOk_no (S := inS t.syms) (show (t.good && t.nq && t.nnf) = false by rw [Fm.nq_has, h9]; simp))
    clear h9
    (try clear a0 a1 a2 a3 a4 za)
    obtain ⟨r0, r1, r2, r3, r4⟩ := five_at HA14.out
    have rf := fun j => frozen_of_row _ _ j _ _ HA14.out
    have zr := bsz (blk_lt HA14.out)
    have hbe := HB4.out
    go_wp2
    refine bodyPost_ret (v := .tuple #[.agg #[.int .i64 0, .string ⟨#[]⟩, .slice none 0 0, .string ⟨#[]⟩, .slice none 0 0], .slice (some ⟨w4.heap.size, 0, none⟩) 0 0, .bool false]) (by simp only [results, Tryz.results7]; go_simp) rfl ⟨⟨fmZero, none, 0, none, 0⟩, .slice (some ⟨w4.heap.size, 0, none⟩) 0 0, ?_, ?_⟩
    · rw [HNO.out]; rfl
    · exact bel
  have HQ := Lib.hid (show t.nq = true by rw [Fm.nq_has, H8.out, h9]; rfl)
  clear h9
  have HYES := Lib.hid (show (t.good && t.nq && t.nnf) = true by rw [HG.out, HQ.out, HN.out]; rfl)
  replace hS := hS HG.out
  have hgood := HG.out
  rw [Fm.good, Bool.and_eq_true, decide_eq_true_eq] at hgood
  obtain ⟨hz40, hform⟩ := hgood
  have hokn := Fm.okD_form t hform HQ.out
  have hnn := hokn.2
  have HOK := Lib.hid hokn.1
  have hsl := Fm.syms_len t
  have HSS := Lib.hid (show ∀ s ∈ t.syms, s.size ≤ maxLen from fun s hs => by have := Fm.syms_size t s hs; unfold maxLen; omega)
  obtain ⟨US, hUS⟩ : ∃ US, US = t.syms := ⟨_, rfl⟩
  rw [← hUS] at hS HSS hsl
  have HUS := Lib.hid hUS
  have HHS := Lib.hid hS
  obtain ⟨R, hR⟩ : ∃ R, R = dfn (inS US) vfD t false 0 := ⟨_, rfl⟩
  have HRE := Lib.hid hR
  have hbw4 := HB4.out.size
  clear hform hokn hUS hS hR a0 a1 a2 a3 a4 za
  go_wp2_with fail
  go_wp2
  refine wp_region_foot [some (.agg #[.int .i64 t.op, .string t.a.n, .slice p t.a.us.length c, .string t.v, .slice q t.ps.length d]), none, some (.agg #[.int .i64 t.op, .string t.a.n, .slice p t.a.us.length c, .string t.v, .slice q t.ps.length d]), none, none, none, none, none, none, none, none, none, none, none] (fun _ => False) dsS (DsF US w4.heap.size (m + 3) R) dsT (fun _ _ => False) (by kernel_rfl) (by kernel_rfl)
    (fun s hs h' => by
      simp only [dsS, List.mem_cons, List.not_mem_nil, or_false] at hs
      rcases hs with rfl | rfl | rfl | rfl | rfl | rfl | rfl <;> exact absurd h' (by simp))
    (fun s hs r hr h' => by
      simp only [dsS, List.mem_cons, List.not_mem_nil, or_false] at hs
      rcases hs with rfl | rfl | rfl | rfl | rfl | rfl | rfl <;> exact absurd h' (by simp)) ?_
  go_simp
  refine flowV_st rfl rfl (by
    intro u' L w' hun hbe hD
    have hbx := (hD.bw.block w.heap.size (by omega) (fun e => e)).trans HA04.out
    obtain ⟨e0, e1, e2, e3, e4⟩ := five_at hbx
    have ze := bsz (blk_lt hbx)
    clear hbx
    go_simp
    first | exact ⟨hD.other rfl hbe hun (by rfl) (by rfl), rfl⟩ | exact hD.other rfl hbe hun (by rfl) (by rfl)) ?_
  go_simp
  refine flowV_ch rfl rfl (by
    intro u' hu' L w' hun hbe hD
    have hst := DsD.s1 hD (by kernel_rfl) rfl hbe hun
    first | (go_simp; done) | (go_simp; exact hst)) ?_
  intro x1
  go_simp
  refine flowV_st rfl rfl (by
    intro u' L w' hun hbe hD
    have hbx := (hD.bw.block w.heap.size (by omega) (fun e => e)).trans HA04.out
    obtain ⟨e0, e1, e2, e3, e4⟩ := five_at hbx
    have ze := bsz (blk_lt hbx)
    clear hbx
    go_simp
    first | exact ⟨hD.other rfl hbe hun (by rfl) (by rfl), rfl⟩ | exact hD.other rfl hbe hun (by rfl) (by rfl)) ?_
  go_simp
  refine flowV_ch rfl rfl (by
    intro u' hu' L w' hun hbe hD
    have hw' := hD.bw
    have hr := DsD.r1 hD (by kernel_rfl) rfl hbe hun
    have e1 : u' 1 = x1 := (after_eq hu' (p := 1) (by kernel_rfl)).trans (by simp [upd])
    have hs3 := fun v' w2 hg => DsD.s3 (v' := v') (w' := w2) hD (by kernel_rfl) rfl hbe hun hg
    rw [e1] at hr hs3
    obtain ⟨p1, c1, rfl⟩ := own_slice hr
    have hz' := hw'.size
    go_simp
    refine (l9Names_any w4.heap.size m t _ _ _ _ _ (.slice p1 0 c1) [] w' (FmAt.mono (fun b hb hl => hw'.block b hl (fun e => e)) (fun b hb => by have := hb.2; omega) _ _ _ _ (Nat.le_refl _) (FmAt.below HB4.out H.out)) hz' (by simpa [strW] using hr) (by simp; omega)).mono ?_
    rintro e w2 ⟨v', he, hg⟩
    rw [List.nil_append, ← HUS.out] at hg
    exact ⟨_, he, hs3 v' w2 hg⟩) ?_
  intro x3
  go_simp
  refine flowV_ch rfl rfl (by
    intro u' hu' L w' hun hbe hD
    have e3 : u' 3 = x3 := (after_eq hu' (p := 3) (by kernel_rfl)).trans (by simp [upd])
    have d3 := after_behind hbe (p := 3) (by kernel_rfl)
    have hr := DsD.r3 hD d3 hun (by kernel_rfl)
    rw [e3] at hr
    obtain ⟨p3, c3, rfl⟩ := own_slice hr
    have hst := FtD.det (n := 16) (k := 4) (p := 3) (φ := mkNmr) hD (by kernel_rfl) (DsF.ok _ _ _ _) rfl hbe hun (by rfl) d3 (mkNmr (u' 3)) rfl (by intro t ht h; simp only [dsT, List.mem_cons, List.not_mem_nil, or_false] at ht; rcases ht with rfl | rfl | rfl | rfl | rfl <;> first | rfl | exact absurd h (by decide))
    rw [e3] at hst
    first | (go_simp; done) | (go_simp; exact hst)) ?_
  intro x4
  go_simp
  refine flowV_ch rfl rfl (by
    intro u' hu' L w' hun hbe hD
    have e4 : u' 4 = x4 := (after_eq hu' (p := 4) (by kernel_rfl)).trans (by simp [upd])
    have d4 := after_behind hbe (p := 4) (by kernel_rfl)
    obtain ⟨d3, e43⟩ := hD.2 (4, 3, mkNmr) (by simp [dsT]) d4
    have e43 : u' 4 = mkNmr (u' 3) := e43
    have hr := DsD.r3 hD d3 hun (by kernel_rfl)
    obtain ⟨p3, c3, e3⟩ := own_slice hr
    have hst := DsD.s5 hD (by kernel_rfl) rfl hbe hun
    rw [e3] at e43 hst
    rw [e4] at e43
    subst e43
    rw [mkNmr]
    first | (go_simp; done) | (go_simp; exact hst)) ?_
  intro x5
  go_simp
  refine flowV_ch rfl rfl (by
    intro u' hu' L w' hun hbe hD
    have hst := DsD.s6 hD (by kernel_rfl) rfl hbe hun
    first | (go_simp; done) | (go_simp; exact hst)) ?_
  intro x6
  go_simp
  refine flowV_ch rfl rfl (by
    intro u' hu' L w' hun hbe hD
    have hw' := hD.bw
    have hz' := hw'.size
    have e5 : u' 5 = x5 := (after_eq hu' (p := 5) (by kernel_rfl)).trans (by simp [upd])
    have e6 : u' 6 = x6 := (after_eq hu' (p := 6) (by kernel_rfl)).trans (by simp [upd])
    obtain ⟨g, h1, h2, h3⟩ := DsD.st hD (by kernel_rfl) rfl hbe hun HSS.out (by unfold maxLen; omega)
    have hs7 := fun v w2 hq hk => DsD.s7 (t := t) (g := g) (v := v) (w' := w2) hD (by kernel_rfl) rfl hbe hun HRE.out hq hk
    obtain ⟨p6, c6, e6'⟩ := own_slice h2.row
    rw [e5] at h1
    rw [e6] at e6'
    rw [e6, e6'] at h2
    subst h1 e6'
    go_simp
    refine (l9Define_any US w4.heap.size g (u' 3) HHS.out m (fun b => B b ∧ b < w.heap.size) t false 0 [] _ [] (nmX u') w' 0 _ _ _ _ _ (FmAt.mono (fun b hb hl => hw'.block b hl (fun e => e)) (fun _ h => h) _ _ _ _ (Nat.le_refl _) (FmAt.below HB4.out H.out)) (fun b hb e => by have := h3 b e; have := hb.2; omega) HOK.out (by omega) (by omega) h2 hz' (by omega) (by omega) (by simp; omega)).mono ?_
    rintro e w2 ⟨v, he, hq, hk⟩
    exact ⟨_, he, hs7 v w2 hq hk⟩) ?_
  intro x7
  go_simp
  refine flowV_ch rfl rfl (by
    intro u' hu' L w' hun hbe hD
    have e7 : u' 7 = x7 := (after_eq hu' (p := 7) (by kernel_rfl)).trans (by simp [upd])
    have d7 := after_behind hbe (p := 7) (by kernel_rfl)
    have hst := FtD.det (n := 16) (k := 8) (p := 7) (φ := fun v => v) hD (by kernel_rfl) (DsF.ok _ _ _ _) rfl hbe hun (by rfl) d7 (u' 7) rfl (by intro t ht h; simp only [dsT, List.mem_cons, List.not_mem_nil, or_false] at ht; rcases ht with rfl | rfl | rfl | rfl | rfl <;> first | rfl | exact absurd h (by decide))
    rw [e7] at hst
    first | (go_simp; done) | (go_simp; exact hst)) ?_
  intro x8
  go_simp
  refine flowV_ch rfl rfl (by
    intro u' hu' L w' hun hbe hD
    have e8 : u' 8 = x8 := (after_eq hu' (p := 8) (by kernel_rfl)).trans (by simp [upd])
    have d8 := after_behind hbe (p := 8) (by kernel_rfl)
    obtain ⟨d7, e87⟩ := hD.2 (8, 7, fun v => v) (by simp [dsT]) d8
    obtain ⟨y, lv, h7⟩ := DsD.tup hD d7
    have e8' : x8 = .tuple #[.agg y.cs.toArray, lv] := e8.symm.trans (e87.trans h7)
    have hst := FtD.det (n := 16) (k := 9) (p := 8) (φ := fstV) hD (by kernel_rfl) (DsF.ok _ _ _ _) rfl hbe hun (by rfl) d8 (fstV (u' 8)) rfl (by intro t ht h; simp only [dsT, List.mem_cons, List.not_mem_nil, or_false] at ht; rcases ht with rfl | rfl | rfl | rfl | rfl <;> first | rfl | exact absurd h (by decide))
    rw [e8, e8', show fstV (.tuple #[.agg y.cs.toArray, lv]) = .agg y.cs.toArray from rfl] at hst
    subst e8'
    first | (go_simp; done) | (go_simp; exact hst)) ?_
  intro x9
  go_simp
  refine flowV_ch rfl rfl (by
    intro u' hu' L w' hun hbe hD
    have e8 : u' 8 = x8 := (after_eq hu' (p := 8) (by kernel_rfl)).trans (by simp [upd])
    have d8 := after_behind hbe (p := 8) (by kernel_rfl)
    obtain ⟨d7, e87⟩ := hD.2 (8, 7, fun v => v) (by simp [dsT]) d8
    obtain ⟨y, lv, h7⟩ := DsD.tup hD d7
    have e8' : x8 = .tuple #[.agg y.cs.toArray, lv] := e8.symm.trans (e87.trans h7)
    have hst := FtD.det (n := 16) (k := 10) (p := 8) (φ := sndV) hD (by kernel_rfl) (DsF.ok _ _ _ _) rfl hbe hun (by rfl) d8 (sndV (u' 8)) rfl (by intro t ht h; simp only [dsT, List.mem_cons, List.not_mem_nil, or_false] at ht; rcases ht with rfl | rfl | rfl | rfl | rfl <;> first | rfl | exact absurd h (by decide))
    rw [e8, e8', show sndV (.tuple #[.agg y.cs.toArray, lv]) = lv from rfl] at hst
    subst e8'
    first | (go_simp; done) | (go_simp; exact hst)) ?_
  intro x10
  go_simp
  refine flowV_ch rfl rfl (by
    intro u' hu' L w' hun hbe hD
    have hst := DsD.s11 hD (by kernel_rfl) rfl hbe hun
    first | (go_simp; done) | (go_simp; exact hst)) ?_
  intro x11
  go_simp
  refine flowV_ch rfl rfl (by
    intro u' hu' L w' hun hbe hD
    have e9 : u' 9 = x9 := (after_eq hu' (p := 9) (by kernel_rfl)).trans (by simp [upd])
    have e11 : u' 11 = x11 := (after_eq hu' (p := 11) (by kernel_rfl)).trans (by simp [upd])
    have d9 := after_behind hbe (p := 9) (by kernel_rfl)
    obtain ⟨d8, e98⟩ := hD.2 (9, 8, fstV) (by simp [dsT]) d9
    obtain ⟨d7, e87⟩ := hD.2 (8, 7, fun v => v) (by simp [dsT]) d8
    obtain ⟨y, lv, kk, h7, h11, hbx, hst⟩ := DsD.s12 hD (by kernel_rfl) rfl hbe hun
    have hst := hst undef
    have e98 : u' 9 = fstV (u' 8) := e98
    have e87 : u' 8 = u' 7 := e87
    have e9' : x9 = .agg #[.int .i64 y.f.op, .string y.f.a.n, .slice y.p y.f.a.us.length y.c, .string y.f.v, .slice y.q y.f.ps.length y.d] := e9.symm.trans (e98.trans (by rw [e87, h7]; rfl))
    have e11' : x11 = .pointer (some ⟨kk, 0, none⟩) := e11.symm.trans h11
    subst e9' e11'
    obtain ⟨r0, r1, r2, r3, r4⟩ := five_at hbx
    have rf : ∀ j, w'.frozen? ⟨kk, j, none⟩ = false := fun j => frozen_of_row w' _ j _ _ hbx
    have zr := bsz (blk_lt hbx)
    clear hbx h7 h11 e98 e87
    first | (go_simp; done) | (go_simp; exact hst)) ?_
  intro x12
  go_simp
  refine flowV_ch rfl rfl (by
    intro u' hu' L w' hun hbe hD
    have e10 : u' 10 = x10 := (after_eq hu' (p := 10) (by kernel_rfl)).trans (by simp [upd])
    have d10 := after_behind hbe (p := 10) (by kernel_rfl)
    have hst := FtD.det (n := 16) (k := 13) (p := 10) (φ := fun v => v) hD (by kernel_rfl) (DsF.ok _ _ _ _) rfl hbe hun (by rfl) d10 (u' 10) rfl (by intro t ht h; simp only [dsT, List.mem_cons, List.not_mem_nil, or_false] at ht; rcases ht with rfl | rfl | rfl | rfl | rfl <;> first | rfl | exact absurd h (by decide))
    rw [e10] at hst
    first | (go_simp; done) | (go_simp; exact hst)) ?_
  intro x13
  refine flowV_nil ?_
  intro L wz hL hD
  have hLL : ∀ i, i < 14 → L.getD i false = true := fun i hi => by simpa using hL i (by simpa using hi)
  obtain ⟨hkz, Fo, hq, -⟩ := hD.done (n := 14) rfl hLL
  obtain ⟨⟨y, lv, D, kk, h7, h11, hge, hy, hf, hrow, hds, hown, hFk, hbox⟩, hfo⟩ := hq (12, none, [7, 11]) (by simp [dsS]) rfl
  have t13 := (hD.2 (13, 10, fun v => v) (by simp [dsT]) (hLL 13 (by omega))).2
  have t10 := (hD.2 (10, 8, sndV) (by simp [dsT]) (hLL 10 (by omega))).2
  have t8 := (hD.2 (8, 7, fun v => v) (by simp [dsT]) (hLL 8 (by omega))).2
  have e13 : x13 = lv := by
    have h1 : x13 = x10 := by simpa [upd] using t13
    have h2 : x10 = sndV x8 := by simpa [upd] using t10
    have h3 : x8 = x7 := by simpa [upd] using t8
    have h4 : x7 = .tuple #[.agg y.cs.toArray, lv] := by simpa [upd] using h7
    rw [h1, h2, h3, h4]; rfl
  have e11 : x11 = .pointer (some ⟨kk, 0, none⟩) := by simpa [upd] using h11
  obtain ⟨pl, cl, hlv⟩ := own_slice hrow
  rw [hlv] at e13
  subst e13 e11
  have hbz : Below w4.heap.size w4 wz := hkz.below (fun _ h => h)
  have hzz := hbz.size
  have HKK := Lib.hid hbox
  have HF := Lib.hid hf
  have HROW := Lib.hid (hlv ▸ hrow)
  have HDS := Lib.hid hds
  have HY := Lib.hid hy
  have HAZ := Lib.hid ((hbz.block _ (by omega)).trans HA14.out)
  have HBZ := Lib.hid (Below.step HB4.out hbz)
  have hkk2 : w4.heap.size ≤ kk := hge
  clear hL hD hLL hkz hq h7 h11 hf hrow hds hown hFk hfo t13 t10 t8 hbz hbox hlv hy
  have hys := (dfn_size (S := inS US) t false 0 HOK.out).sz
  have hyn := (dfn_size (S := inS US) t false 0 HOK.out).nn
  rw [← HRE.out, ← HY.out] at hys hyn
  have hya : y.f.asz ≤ 100000000 := by have := Fm.asz_nn y.f; omega
  have hD2 : D.length ≤ 40 := by
    have h1 := congrArg List.length HDS.out
    rw [List.length_map, HRE.out] at h1
    have h2 := dfn_cnt (S := inS US) (vf := vfD) t false 0
    omega
  have HTM := Lib.hid (show tooMany R.2.2 = D.any fun x => decide (4 < x.vars.length) by rw [← HDS.out, tooMany, List.any_map]; rfl)
  go_wp2
  go_loopw [7] (fun iv wr => ∃ i : Nat, i ≤ D.length ∧ iv = .int .i64 i ∧ (D.any fun x => decide (4 < x.vars.length)) = ((D.drop i).any fun x => decide (4 < x.vars.length)) ∧ wr = wz) (fun iv _ => D.length - (intOf iv).toNat)
  case atStart => exact ⟨0, Nat.zero_le _, rfl, rfl, rfl⟩
  case round =>
    obtain ⟨i, hi, rfl, heq, rfl⟩ := hrel
    have HEQ := Lib.hid heq
    clear heq
    by_cases hlt : i < D.length
    · have hlti : (i : Int) < D.length := by omega
      obtain ⟨g, rfl, g1, g2, -, g3⟩ := rowD_cell HROW.out (by omega)
      obtain ⟨x, hx⟩ : ∃ x, D[i] = x := ⟨_, rfl⟩
      have c1 : wr.cell? ⟨g, i * 7 + 1, none⟩ = some (.slice x.p x.vars.length x.c) := g3 i x (by rw [← hx]; exact List.getElem?_eq_getElem hlt) 1 (by omega)
      have zg := bsz g2
      have HDR := Lib.hid (show ((D.drop i).any fun x => decide (4 < x.vars.length)) = (decide (4 < x.vars.length) || (D.drop (i + 1)).any fun x => decide (4 < x.vars.length)) by rw [List.drop_eq_getElem_cons hlt, List.any_cons, hx])
      clear hx g3
      by_cases h4 : 4 < x.vars.length
      · have h4i : (4 : Int) < x.vars.length := by omega
        have HNO := Lib.hid (dcOk_many (S := inS US) (t := t) (by rw [← HRE.out, HTM.out, HEQ.out, HDR.out]; simp [h4]))
        rw [HUS.out] at HNO
        (try clear a0 a1 a2 a3 a4 za)
        obtain ⟨r0, r1, r2, r3, r4⟩ := five_at HAZ.out
        have rf := fun j => frozen_of_row _ _ j _ _ HAZ.out
        have zr := bsz (blk_lt HAZ.out)
        have hbe := HBZ.out
        go_wp2
        refine bodyPost_ret (v := .tuple #[.agg #[.int .i64 0, .string ⟨#[]⟩, .slice none 0 0, .string ⟨#[]⟩, .slice none 0 0], .slice (some ⟨wr.heap.size, 0, none⟩) 0 0, .bool false]) (by simp only [results, Tryz.results7]; go_simp) rfl ⟨⟨fmZero, none, 0, none, 0⟩, .slice (some ⟨wr.heap.size, 0, none⟩) 0 0, ?_, ?_⟩
        · rw [HNO.out]; rfl
        · exact bel
      · have h4i : ¬ (4 : Int) < x.vars.length := by omega
        go_wp2
        refine ⟨⟨i + 1, by omega, by go_num, ?_, trivial⟩, by simp [intOf]; omega⟩
        rw [HEQ.out, HDR.out]; simp [h4]
    · obtain rfl : i = D.length := by omega
      have HFEW := Lib.hid (show tooMany R.2.2 = false by rw [HTM.out, HEQ.out]; simp)
      obtain ⟨k0, k1, k2, k3, k4⟩ := five_at HKK.out
      have zk := bsz (blk_lt HKK.out)
      go_wp2_with fail
      refine (l8Good_any (m + 3) y.f _ _ _ _ _ wr HF.out (by omega) hya).mono ?_
      rintro e w6 ⟨rfl, hb6⟩
      have hz6 := hb6.size
      have HAY := Lib.hid ((hb6.block _ (by omega)).trans HAZ.out)
      have HKY := Lib.hid ((hb6.block _ (blk_lt HKK.out)).trans HKK.out)
      have HBY := Lib.hid (Below.step HBZ.out hb6)
      clear hb6 k0 k1 k2 k3 k4 zk
      cases hv : y.f.good
      · have HNO := Lib.hid (dcOk_bad (S := inS US) (t := t) (by rw [← HRE.out, ← HY.out]; exact hv))
        rw [HUS.out] at HNO
        clear hv
        (try clear a0 a1 a2 a3 a4 za)
        obtain ⟨r0, r1, r2, r3, r4⟩ := five_at HAY.out
        have rf := fun j => frozen_of_row _ _ j _ _ HAY.out
        have zr := bsz (blk_lt HAY.out)
        have hbe := HBY.out
        go_wp2
        refine bodyPost_ret (v := .tuple #[.agg #[.int .i64 0, .string ⟨#[]⟩, .slice none 0 0, .string ⟨#[]⟩, .slice none 0 0], .slice (some ⟨w6.heap.size, 0, none⟩) 0 0, .bool false]) (by simp only [results, Tryz.results7]; go_simp) rfl ⟨⟨fmZero, none, 0, none, 0⟩, .slice (some ⟨w6.heap.size, 0, none⟩) 0 0, ?_, ?_⟩
        · rw [HNO.out]; rfl
        · exact bel
      · have HYS := Lib.hid (dcOk_yes (S := inS US) (t := t) HYES.out (by rw [← HRE.out]; exact HFEW.out) (by rw [← HRE.out, ← HY.out]; exact hv))
        rw [HUS.out] at HYS
        clear hv
        obtain ⟨k0, k1, k2, k3, k4⟩ := five_at HKY.out
        have zk := bsz (blk_lt HKY.out)
        obtain ⟨r0, r1, r2, r3, r4⟩ := five_at HAY.out
        have rf : ∀ j, w6.frozen? ⟨w.heap.size + 1, j, none⟩ = false := fun j => frozen_of_row w6 _ j _ _ HAY.out
        have zr := bsz (blk_lt HAY.out)
        have hbe := HBY.out
        go_wp2
        refine bodyPost_ret (v := .tuple #[.agg #[.int .i64 y.f.op, .string y.f.a.n, .slice y.p y.f.a.us.length y.c, .string y.f.v, .slice y.q y.f.ps.length y.d], .slice pl D.length cl, .bool true]) (by simp only [results, Tryz.results7]; go_simp) rfl ⟨y, .slice pl D.length cl, ?_, ?_⟩
        · rw [HYS.out]; rfl
        · exact bel
structure DfOk (d : Dfn) : Prop where
  nm : symB d.name.data.toList = true
  vs : ∀ v ∈ d.vars, varB v.data.toList = true
  asc : Asc lessB d.vars
  good : d.f.good = true
  nq : d.f.nq = true
set_option maxHeartbeats 6400000 in
theorem isDef_true {B : Nat → Prop} (m : Nat) (x : DC) (w : World) (h : DAt B m w x) (hd : DfOk x.d) (hz : x.f.f.sz ≤ 100000) (hz2 : x.f.f.asz ≤ 100000) (hl : x.vars.length ≤ 100000) :
    Calls Tryz.prog 23 #[.agg x.cs.toArray] w fun e w' => e = .returned (.bool true) ∧ Below w.heap.size w w' := by
  have H := Lib.hid h
  have HD := Lib.hid hd
  have hxc : x.cs.toArray = #[.string x.name, .slice x.p x.vars.length x.c, .int .i64 x.f.f.op, .string x.f.f.a.n, .slice x.f.p x.f.f.a.us.length x.f.c, .string x.f.f.v, .slice x.f.q x.f.f.ps.length x.f.d] := rfl
  rw [hxc]
  obtain ⟨W, hW⟩ : ∃ W : World, W = w.alloc (.cells #[.string x.name, .slice x.p x.vars.length x.c, .int .i64 x.f.f.op, .string x.f.f.a.n, .slice x.f.p x.f.f.a.us.length x.f.c, .string x.f.f.v, .slice x.f.q x.f.f.ps.length x.f.d] 60) := ⟨_, rfl⟩
  have hsW : W.heap.size = w.heap.size + 1 := by rw [hW]; simp
  have hbW : Below w.heap.size w W := by rw [hW]; exact bel
  have A0 := Lib.hid (show W.heap[w.heap.size]? = some (.cells #[.string x.name, .slice x.p x.vars.length x.c, .int .i64 x.f.f.op, .string x.f.f.a.n, .slice x.f.p x.f.f.a.us.length x.f.c, .string x.f.f.v, .slice x.f.q x.f.f.ps.length x.f.d] 60 (0, 0)) by rw [hW]; exact heap_alloc_new w _)
  have HBW := Lib.hid hbW
  clear h hd hxc hbW
  go_enter Tryz.func23, Tryz.ntmps23
  go_wp2_with fail
  rw [← hW]
  clear hW
  obtain ⟨d0, d1, d2, d3, d4, d5, d6⟩ := seven_at A0.out
  have zd := bsz (show w.heap.size < W.heap.size by omega)
  go_wp2
  clear d0 d1 d2 d3 d4 d5 d6 zd
  go_loopw [8] (fun iv wr => ∃ i : Nat, i ≤ x.vars.length ∧ iv = .int .i64 i ∧ Below W.heap.size W wr) (fun iv _ => x.vars.length - (intOf iv).toNat)
  case atStart => exact ⟨0, Nat.zero_le _, rfl, Below.refl _ _⟩
  case round =>
    obtain ⟨i, hi, rfl, hb⟩ := hrel
    have HB := Lib.hid (Below.step HBW.out hb)
    have HA := (hb.block _ (by omega)).trans A0.out
    obtain ⟨d0, d1, d2, d3, d4, d5, d6⟩ := seven_at HA
    have zd := bsz (blk_lt HA)
    have HBR := Lib.hid hb
    clear hb HA
    by_cases hlt : i < x.vars.length
    · have hlti : (i : Int) < x.vars.length := by omega
      obtain ⟨b, o, hpe, hBb, hx0, hxs⟩ := (H.out.vs.below HB.out).at_ hlt
      obtain ⟨nm, hnm⟩ : ∃ nm, x.vars[i] = nm := ⟨_, rfl⟩
      have hv := HD.out.vs nm (by rw [← hnm]; exact List.getElem_mem hlt)
      have HV := Lib.hid hv
      have zb := bsz (World.block_lt_of_cell? _ _ hx0)
      have HNM := Lib.hid hnm
      rw [hnm] at hx0 hxs
      rw [hpe] at d1 ⊢
      cases i with
      | zero =>
        clear hpe hv hnm
        rw [Nat.add_zero] at hx0
        simp only [Int.ofNat_zero] at hlti
        go_wp2_with fail
        refine (isVariable_any nm _ hxs).mono ?_
        rintro e w1 ⟨rfl, rfl⟩
        rw [HV.out]
        go_wp2
        exact ⟨⟨1, by omega, by go_num, HBR.out⟩, by simp [intOf]; omega⟩
      | succ i =>
        obtain ⟨b', o', hpe', -, hy0, -⟩ := (H.out.vs.below HB.out).at_ (show i < x.vars.length by omega)
        rw [hpe] at hpe'
        simp only [Option.some.injEq, Addr.mk.injEq, and_true] at hpe'
        obtain ⟨rfl, rfl⟩ := hpe'
        have hlb : lessB (x.vars[i]'(by omega)) x.vars[i + 1] = true := List.pairwise_iff_getElem.1 (show Asc lessB x.vars from HD.out.asc) i (i + 1) (by omega) hlt (by omega)
        rw [hnm] at hlb
        obtain ⟨pv, hpv⟩ : ∃ pv, x.vars[i] = pv := ⟨_, rfl⟩
        rw [hpv] at hlb hy0
        have hll : Op.bytesLess nm.toList pv.toList = false := by
          rw [ByteArray.toList_eq, ByteArray.toList_eq, less_total]
          rw [lessB] at hlb
          rw [hlb]; rfl
        have hle : (nm.toList == pv.toList) = false := by
          rw [ByteArray.toList_eq, ByteArray.toList_eq, beq_eq_false_iff_ne]
          intro e
          rw [lessB, e, less_irrefl] at hlb
          cases hlb
        clear hpe hv hnm hlb hpv
        go_wp2_with fail
        refine (isVariable_any nm _ hxs).mono ?_
        rintro e w1 ⟨rfl, rfl⟩
        rw [HV.out]
        go_wp2
        exact ⟨⟨i + 2, by omega, by go_num, HBR.out⟩, by simp [intOf]; omega⟩
    · obtain rfl : i = x.vars.length := by omega
      have hnm := H.out.nm
      go_wp2_with fail
      refine (isSymbol_any x.name _ hnm).mono ?_
      rintro e w1 ⟨rfl, hb1⟩
      rw [show symB x.name.data.toList = true from HD.out.nm]
      have HB1 := Lib.hid (Below.step HB.out hb1)
      have HA1 := (hb1.block _ (by omega)).trans ((HBR.out.block _ (by omega)).trans A0.out)
      have hz1 := hb1.size
      clear d0 d1 d2 d3 d4 d5 d6 zd hb1
      obtain ⟨d0, d1, d2, d3, d4, d5, d6⟩ := seven_at HA1
      have zd := bsz (blk_lt HA1)
      go_wp2_with fail
      refine (isValidFormula_any m x.f.f _ _ _ _ _ _ (FmAt.below HB1.out H.out.fm) (by omega) (by omega)).mono ?_
      rintro e w2 ⟨rfl, hb2⟩
      rw [show x.f.f.good = true from HD.out.good]
      have HB2 := Lib.hid (Below.step HB1.out hb2)
      have HA2 := (hb2.block _ (by omega)).trans HA1
      have hz2' := hb2.size
      clear d0 d1 d2 d3 d4 d5 d6 zd hb2
      obtain ⟨d0, d1, d2, d3, d4, d5, d6⟩ := seven_at HA2
      have zd := bsz (blk_lt HA2)
      go_wp2_with fail
      obtain ⟨W3, hW3⟩ : ∃ q, q = w2.alloc (.cells #[.int .i64 8, .int .i64 9] 3) := ⟨_, rfl⟩
      have hb3 : Below w2.heap.size w2 W3 := by rw [hW3]; exact (Below.refl _ _).alloc (Nat.le_refl _) _
      have h89 : Ops89 W3 w2.heap.size := by
        have := heap_alloc_new w2 (.cells #[.int .i64 8, .int .i64 9] 3)
        rw [← hW3] at this
        exact ⟨by rw [cell_of_row W3 _ 0 _ _ (0, 0) this]; rfl, by rw [cell_of_row W3 _ 1 _ _ (0, 0) this]; rfl⟩
      rw [← hW3]
      clear hW3
      have HB3 := Lib.hid (Below.step HB2.out hb3)
      refine (hasOp_any w2.heap.size 2 m x.f.f _ _ _ _ _ W3 (FmAt.below HB3.out H.out.fm) h89).mono ?_
      rintro e w4 ⟨rfl, hb4⟩
      rw [show x.f.f.nq = true from HD.out.nq]
      have HB4 := Lib.hid (Below.step HB3.out hb4)
      go_wp2
      go_ret
      exact ⟨rfl, HB4.out⟩
end Go.Proofs.YtmbkjdkjemlfkaaGreatDoor
