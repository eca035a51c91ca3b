import Derived.Test.YtmbkjdkjemlfkaaGreatDoorDfPart32
import Derived.Test.YtmbkjdkjemlfkaaGreatDoorDfPart33
import Derived.Test.YtmbkjdkjemlfkaaGreatDoorDfPart34
namespace Go.Proofs.YtmbkjdkjemlfkaaGreatDoor
set_option maxRecDepth 100000
open Go.RowKit
def dcOk (S : ByteArray → Bool) (t : Fm) : Bool := t.good && t.nq && t.nnf && !tooMany (dfn S vfD t false 0).2.2 && (dfn S vfD t false 0).1.good
theorem dcOk_no {S : ByteArray → Bool} {t : Fm} (h : (t.good && t.nq && t.nnf) = false) : dcOk S t = false := by rw [dcOk, h]; rfl
theorem dcOk_many {S : ByteArray → Bool} {t : Fm} (h : tooMany (dfn S vfD t false 0).2.2 = true) : dcOk S t = false := by rw [dcOk, h]; simp
theorem dcOk_bad {S : ByteArray → Bool} {t : Fm} (h : (dfn S vfD t false 0).1.good = false) : dcOk S t = false := by rw [dcOk, h]; simp
theorem dcOk_yes {S : ByteArray → Bool} {t : Fm} (h1 : (t.good && t.nq && t.nnf) = true) (h2 : tooMany (dfn S vfD t false 0).2.2 = false) (h3 : (dfn S vfD t false 0).1.good = true) : dcOk S t = true := by rw [dcOk, h1, h2, h3]; rfl
mutual
theorem Fm.asz_nn : ∀ f : Fm, f.asz ≤ f.nn
  | .mk _ a _ ps => by have := Fm.aszs_nns ps; rw [Fm.asz, Fm.nn]; omega
theorem Fm.aszs_nns : ∀ fs : List Fm, Fm.aszs fs ≤ Fm.nns fs
  | [] => by rw [Fm.aszs, Fm.nns]; omega
  | f :: fs => by have := Fm.asz_nn f; have := Fm.aszs_nns fs; rw [Fm.aszs, Fm.nns]; omega
end
def fmZa : Array Value := #[.int .i64 0, .string ⟨#[]⟩, .slice none 0 0, .string ⟨#[]⟩, .slice none 0 0]
def DcQ (S : ByteArray → Bool) (m : Nat) (t : Fm) (w : World) (e : Ending) (w' : World) : Prop :=
  Below w.heap.size w w' ∧ ((dcOk S t = false ∧ e = .returned (.tuple #[.agg fmZa, .slice none 0 0, .bool false])) ∨
    (dcOk S t = true ∧ ∃ (y : FC) (lv : Value) (D : List DC), e = .returned (.tuple #[.agg y.cs.toArray, lv, .bool true]) ∧ y.f = (dfn S vfD t false 0).1 ∧ FmAt (fun b => b < w'.heap.size) (m + 4) w' y.f y.cs ∧ w'.ownsRow w.heap.size 60 7 lv D.length (flatD D) ∧ D.map DC.d = (dfn S vfD t false 0).2.2 ∧ ∀ x ∈ D, DAt (fun b => b < w'.heap.size) (m + 4) w' x))
theorem DSt.init {us : List ByteArray} {N lo : Nat} {uv : Value} {w W : World} (hE : Env w) (hr : w.ownsRow lo 9 1 uv us.length (strW us)) (hs : ∀ s ∈ us, s.size ≤ maxLen) (hl : us.length ≤ maxLen)
    (hW : W = (w.alloc (.cells (nmrI 0 uv) 49)).alloc (.cells #[.pointer (some ⟨w.heap.size, 0, none⟩), .slice none 0 0, .bool false] 51)) :
    DSt (w.heap[0]?) us N (w.heap.size + 2) (w.heap.size + 1) w.heap.size 0 [] uv (.slice none 0 0) [] (fun b => b = w.heap.size + 1 ∨ b = w.heap.size ∨ uv.ownBlock = some b ∨ b = 0) W := by
  have hGw := hE.size
  have hb : Below w.heap.size w W := by rw [hW]; exact bel
  have hz : W.heap.size = w.heap.size + 2 := by rw [hW]; simp
  have huw : ∀ b, uv.ownBlock = some b → lo ≤ b ∧ b < w.heap.size := fun b e => ⟨own_base hr b e, own_lt' hr e⟩
  have hst : StrsAt (fun b => uv.ownBlock = some b) W uv us := ((rowS_own hr hs hl fun _ e => e).at_).below hb
  have h1 : W.heap[w.heap.size + 1]? = some (.cells #[.pointer (some ⟨w.heap.size, 0, none⟩), .slice none 0 0, .bool false] 51 (0, 0)) := by
    rw [hW]
    have := heap_alloc_new (w.alloc (.cells (nmrI 0 uv) 49)) (.cells #[.pointer (some ⟨w.heap.size, 0, none⟩), .slice none 0 0, .bool false] 51)
    simpa using this
  have h0 : W.heap[w.heap.size]? = some (.cells (nmrI 0 uv) 49 (0, 0)) := by rw [hW]; exact (hao _ _ _ (by simp)).trans (heap_alloc_new w _)
  refine ⟨h1, h0, hst.mono (SameOn.refl _ _) (fun b e => ⟨.inr (.inr (.inl e)), by have := (huw b e).2; omega, by have := (huw b e).2; omega, by simp [Value.ownBlock]⟩), ⟨by simp [flatD], .inl ⟨rfl, rfl⟩⟩, rfl, fun x hx => (by cases hx), .inl rfl, .inr (.inl rfl), fun b e => by simp [Value.ownBlock] at e, fun b e => ?_, by omega, by omega, hE.below hb, ⟨.inr (.inr (.inr rfl)), by omega, by omega⟩, hb.block _ hGw⟩
  rcases e with rfl | rfl | e | rfl
  · omega
  · omega
  · have := (huw b e).2; omega
  · omega
set_option maxHeartbeats 6400000 in
theorem defineC_any {B : Nat → Prop} (m : Nat) (t : Fm) (v0 v1 v2 v3 v4 : Value) (w : World) (hE : Env w) (h : FmAt B m w t [v0, v1, v2, v3, v4]) (hB : ∀ b, B b → b ≠ 0) (hw : t.wt ≤ 100000) :
    Calls Tryz.prog 6 #[.agg #[v0, v1, v2, v3, v4]] w (DcQ (inS (Tm.symIs t.atoms [])) m t w) := by
  have h := FmAt.inb _ _ _ h
  obtain ⟨p, c, q, d, rfl, rfl, rfl, rfl, rfl, -⟩ := h.form
  obtain ⟨W, hW⟩ : ∃ W : World, W = (w.alloc (.cells #[.int .i64 t.op, .string t.a.n, .slice p t.a.us.length c, .string t.v, .slice q t.ps.length d] 29)).alloc (.cells #[.int .i64 0, .string ⟨#[]⟩, .slice none 0 0, .string ⟨#[]⟩, .slice none 0 0] 29) := ⟨_, rfl⟩
  obtain ⟨hsW, hbW, A0, A1⟩ := two_new hW
  have hs1 := Fm.sz_wt t
  have hs2 := Fm.asz_wt t
  have H := Lib.hid h
  have HB := Lib.hid hB
  have HE := Lib.hid hE
  have HBW := Lib.hid hbW
  have HA0 := Lib.hid A0
  have HA1 := Lib.hid A1
  have hGw := hE.size
  obtain ⟨a0, a1, a2, a3, a4⟩ := five_at A0
  have za := bsz (show w.heap.size < W.heap.size by omega)
  clear h hB hE hbW A0 A1
  go_enter Tryz.func6, Tryz.ntmps6
  go_wp2_with fail
  rw [← hW]
  clear hW
  refine (isValidFormula_any m t _ _ _ _ _ W (FmAt.below HBW.out H.out) (by omega) (by omega)).mono ?_
  rintro e w1 ⟨rfl, hb1⟩
  have hz1 := hb1.size
  have HA01 := Lib.hid ((hb1.block _ (by omega)).trans HA0.out)
  have HA11 := Lib.hid ((hb1.block _ (by omega)).trans HA1.out)
  have HB1 := Lib.hid (Below.step HBW.out hb1)
  clear hb1 a0 a1 a2 a3 a4 za
  obtain ⟨a0, a1, a2, a3, a4⟩ := five_at HA01.out
  have za := bsz (blk_lt HA01.out)
  cases hg : t.good
  · have HNO := Lib.hid (dcOk_no (S := inS (Tm.symIs t.atoms [])) (show (t.good && t.nq && t.nnf) = false by rw [hg]; rfl))
    clear hg
    (try clear a0 a1 a2 a3 a4 za)
    obtain ⟨r0, r1, r2, r3, r4⟩ := five_at HA11.out
    have rf := fun j => frozen_of_row _ _ j _ _ HA11.out
    have zr := bsz (blk_lt HA11.out)
    have hbe := HB1.out
    go_wp2
    refine bodyPost_ret (v := .tuple #[.agg #[.int .i64 0, .string ⟨#[]⟩, .slice none 0 0, .string ⟨#[]⟩, .slice none 0 0], .slice none 0 0, .bool false]) (by simp only [results, Tryz.results6]; go_simp) rfl ⟨?_, .inl ⟨HNO.out, rfl⟩⟩
    exact bel
  have HG := Lib.hid hg
  clear hg
  go_wp2_with fail
  obtain ⟨W3, hW3⟩ : ∃ q, q = w1.alloc (.cells #[.int .i64 8, .int .i64 9] 3) := ⟨_, rfl⟩
  have hb3 : Below w1.heap.size w1 W3 := by rw [hW3]; exact (Below.refl _ _).alloc (Nat.le_refl _) _
  have h89 : Ops89 W3 w1.heap.size := by
    have := heap_alloc_new w1 (.cells #[.int .i64 8, .int .i64 9] 3)
    rw [← hW3] at this
    exact ⟨by rw [cell_of_row W3 _ 0 _ _ (0, 0) this]; rfl, by rw [cell_of_row W3 _ 1 _ _ (0, 0) this]; rfl⟩
  rw [← hW3]
  clear hW3
  have HB3 := Lib.hid (Below.step HB1.out hb3)
  refine (hasOp_any w1.heap.size 2 m t _ _ _ _ _ W3 (FmAt.below HB3.out H.out) h89).mono ?_
  rintro e w4 ⟨rfl, hb4⟩
  have hz4 : w1.heap.size ≤ w4.heap.size := Nat.le_trans hb3.size hb4.size
  have HA04 := Lib.hid ((hb4.block _ (by have := hb3.size; omega)).trans ((hb3.block _ (by omega)).trans HA01.out))
  have HA14 := Lib.hid ((hb4.block _ (by have := hb3.size; omega)).trans ((hb3.block _ (by omega)).trans HA11.out))
  have HB4 := Lib.hid (Below.step HB3.out hb4)
  clear hb3 hb4 h89 a0 a1 a2 a3 a4 za
  obtain ⟨a0, a1, a2, a3, a4⟩ := five_at HA04.out
  have za := bsz (blk_lt HA04.out)
  cases hq : t.nq
  · have HNO := Lib.hid (dcOk_no (S := inS (Tm.symIs t.atoms [])) (show (t.good && t.nq && t.nnf) = false by rw [hq]; simp))
    clear hq
    (try clear a0 a1 a2 a3 a4 za)
    obtain ⟨r0, r1, r2, r3, r4⟩ := five_at HA14.out
    have rf := fun j => frozen_of_row _ _ j _ _ HA14.out
    have zr := bsz (blk_lt HA14.out)
    have hbe := HB4.out
    go_wp2
    refine bodyPost_ret (v := .tuple #[.agg #[.int .i64 0, .string ⟨#[]⟩, .slice none 0 0, .string ⟨#[]⟩, .slice none 0 0], .slice none 0 0, .bool false]) (by simp only [results, Tryz.results6]; go_simp) rfl ⟨?_, .inl ⟨HNO.out, rfl⟩⟩
    exact bel
  have HQ := Lib.hid hq
  clear hq
  go_wp2_with fail
  refine (isNN_any m t _ _ _ _ _ w4 (FmAt.below HB4.out H.out) (by have := HG.out; rw [Fm.good, Bool.and_eq_true] at this; exact this.2)).mono ?_
  rintro e w5 ⟨rfl, hb5⟩
  have hz5 := hb5.size
  have HA05 := Lib.hid ((hb5.block _ (by omega)).trans HA04.out)
  have HA15 := Lib.hid ((hb5.block _ (by omega)).trans HA14.out)
  have HB5 := Lib.hid (Below.step HB4.out hb5)
  clear hb5 a0 a1 a2 a3 a4 za
  obtain ⟨a0, a1, a2, a3, a4⟩ := five_at HA05.out
  have za := bsz (blk_lt HA05.out)
  cases hn : t.nnf
  · have HNO := Lib.hid (dcOk_no (S := inS (Tm.symIs t.atoms [])) (show (t.good && t.nq && t.nnf) = false by rw [hn]; simp))
    clear hn
    (try clear a0 a1 a2 a3 a4 za)
    obtain ⟨r0, r1, r2, r3, r4⟩ := five_at HA15.out
    have rf := fun j => frozen_of_row _ _ j _ _ HA15.out
    have zr := bsz (blk_lt HA15.out)
    have hbe := HB5.out
    go_wp2
    refine bodyPost_ret (v := .tuple #[.agg #[.int .i64 0, .string ⟨#[]⟩, .slice none 0 0, .string ⟨#[]⟩, .slice none 0 0], .slice none 0 0, .bool false]) (by simp only [results, Tryz.results6]; go_simp) rfl ⟨?_, .inl ⟨HNO.out, rfl⟩⟩
    exact bel
  have HYES := Lib.hid (show (t.good && t.nq && t.nnf) = true by rw [HG.out, HQ.out, hn]; rfl)
  clear hn
  have hgood := HG.out
  rw [Fm.good, Bool.and_eq_true, decide_eq_true_eq] at hgood
  obtain ⟨hz40, hform⟩ := hgood
  have hokn := Fm.okD_form t hform HQ.out
  have hnn := hokn.2
  have HOK := Lib.hid hokn.1
  have hat := Fm.szs_atoms t
  have hsl := Tm.symIs_len t.atoms []
  simp only [List.length_nil, Nat.zero_add] at hsl
  clear hform hokn
  go_wp2_with fail
  refine (symbolsIn_any w.heap.size m t _ _ _ _ _ w5 (FmAt.mono (SameOn.refl _ _) (fun b hb => hb.2) _ _ _ _ (Nat.le_refl _) (FmAt.below HB5.out H.out)) HB5.out.size (by omega) (by omega)).mono ?_
  rintro e w6 ⟨uv, rfl, hr, hss, hb6⟩
  have hz6 := hb6.size
  have HA06 := Lib.hid ((hb6.block _ (by omega)).trans HA05.out)
  have HA16 := Lib.hid ((hb6.block _ (by omega)).trans HA15.out)
  have HB6 := Lib.hid (Below.step HB5.out hb6)
  have hzw := HB5.out.size
  have hns : (Tm.symIs t.atoms []).length ≤ maxLen := by unfold maxLen; omega
  obtain ⟨pu, cu, rfl⟩ := own_slice hr
  obtain ⟨US, hUS⟩ : ∃ US, US = Tm.symIs t.atoms [] := ⟨_, rfl⟩
  rw [← hUS] at hr hss hns ⊢
  have HUSN := Lib.hid (show ∀ j, 99999 < j → inS US (dNm j) = false by rw [hUS]; exact taken_short)
  have HUS := Lib.hid hUS
  obtain ⟨W7, hW7⟩ : ∃ q, q = (w6.alloc (.cells (nmrI 0 (.slice pu US.length cu)) 49)).alloc (.cells #[.pointer (some ⟨w6.heap.size, 0, none⟩), .slice none 0 0, .bool false] 51) := ⟨_, rfl⟩
  have hb7 : Below w6.heap.size w6 W7 := by rw [hW7]; exact bel
  have hs7 : W7.heap.size = w6.heap.size + 2 := by rw [hW7]; simp
  have HD7 := Lib.hid (DSt.init (N := m + 4) (HE.out.below HB6.out) hr hss hns hW7)
  have HA07 := Lib.hid ((hb7.block _ (by omega)).trans HA06.out)
  have HA17 := Lib.hid ((hb7.block _ (by omega)).trans HA16.out)
  have HB7 := Lib.hid (Below.step HB6.out hb7)
  have HT7 := Lib.hid (FmAt.below HB7.out H.out)
  have huw : ∀ b, (Value.slice pu US.length cu).ownBlock = some b → w5.heap.size ≤ b := fun b e => own_base hr b e
  have HUW := Lib.hid huw
  clear hr hss hb6 hb7 hUS a0 a1 a2 a3 a4 za huw
  obtain ⟨a0, a1, a2, a3, a4⟩ := five_at HA06.out
  have za := bsz (blk_lt HA06.out)
  go_wp2_with fail
  rw [show nmrI 0 (.slice pu US.length cu) = #[.string ⟨#[100]⟩, .slice pu US.length cu, .int .i64 0] from rfl] at hW7
  rw [← hW7]
  clear hW7
  refine (define_any _ US (m + 4) (w6.heap.size + 2) (w6.heap.size + 1) w6.heap.size (.slice pu US.length cu) HUSN.out m _ t false 0 [] (.slice none 0 0) [] _ W7 0 _ _ _ _ _ (by omega) HT7.out (fun b hb e => ?_) HOK.out (by omega) (by omega) HD7.out (by omega) (by omega) (by omega) (by simp; omega)).mono ?_
  · rcases e with rfl | rfl | e | rfl
    · have := hb.2; omega
    · have := hb.2; omega
    · have := HUW.out b e; have := hb.2; omega
    · exact HB.out _ hb.1 rfl
  rintro e w8 ⟨y, X', lv, D, rfl, hy, h1, h2, h3, h4⟩
  have hz8 := h4.size
  have hX : ∀ b, w.heap.size ≤ b → b < w6.heap.size → (Value.slice pu US.length cu).ownBlock ≠ some b → ¬ (b = w6.heap.size + 1 ∨ b = w6.heap.size ∨ (Value.slice pu US.length cu).ownBlock = some b ∨ b = 0) := fun b k1 k2 k3 e => by
    rcases e with e | e | e | e
    · omega
    · omega
    · exact k3 e
    · omega
  have hun : ∀ b, b < w5.heap.size → (Value.slice pu US.length cu).ownBlock ≠ some b := fun b k1 e => by have := HUW.out b e; omega
  have HA08 := Lib.hid ((h4.block (w.heap.size + 1) (by omega) (hX _ (by omega) (by omega) (hun _ (by omega)))).trans HA17.out)
  have HB8 := Lib.hid (show Below w.heap.size w w8 from by
    have hb7 := HB7.out
    refine ⟨h4.os.trans hb7.os, h4.tape.trans hb7.tape, h4.output.trans hb7.output, by omega, fun b hb => ?_⟩
    by_cases e : b = 0
    · subst e
      exact h2.tab.trans (HB6.out.block _ hb)
    · exact (h4.block b (by omega) (fun e' => by
        rcases e' with e' | e' | e' | e'
        · omega
        · omega
        · have := HUW.out b e'; omega
        · exact e e')).trans (hb7.block b hb))
  rw [List.nil_append] at h2
  have HF8 := Lib.hid (FmAt.mono (B' := fun b => w.heap.size + 1 < b ∧ b < w8.heap.size ∧ ¬ X' b) (SameOn.refl _ _) (fun b hb => ⟨by have := hb.1; omega, hb.2⟩) _ _ _ _ (by omega : m + 3 ≤ m + 4) h1)
  have HXR := Lib.hid (show ∀ b, X' b → b ≠ w.heap.size + 1 from fun b hb e => by
    subst e
    rcases h3 _ hb with e | e
    · exact hX _ (by omega) (by omega) (hun _ (by omega)) e
    · have := e.1; omega)
  have HD8 := Lib.hid h2
  have HY := Lib.hid hy
  clear h1 h2 h3 h4 hy hX hun a0 a1 a2 a3 a4 za
  rw [show y.cs.toArray = #[.int .i64 y.f.op, .string y.f.a.n, .slice y.p y.f.a.us.length y.c, .string y.f.v, .slice y.q y.f.ps.length y.d] from rfl]
  obtain ⟨W9, hW9⟩ : ∃ q, q = w8.alloc (.cells #[.int .i64 y.f.op, .string y.f.a.n, .slice y.p y.f.a.us.length y.c, .string y.f.v, .slice y.q y.f.ps.length y.d] 29) := ⟨_, rfl⟩
  have hs9 : W9.heap.size = w8.heap.size + 1 := by rw [hW9]; simp
  have hb9 : Below w8.heap.size w8 W9 := by rw [hW9]; exact (Below.refl _ _).alloc (Nat.le_refl _) _
  have HY9 := Lib.hid (show W9.heap[w8.heap.size]? = some (.cells #[.int .i64 y.f.op, .string y.f.a.n, .slice y.p y.f.a.us.length y.c, .string y.f.v, .slice y.q y.f.ps.length y.d] 29 (0, 0)) by rw [hW9]; exact heap_alloc_new w8 _)
  have HA19 := Lib.hid ((hb9.block _ (by omega)).trans HA08.out)
  have HB9 := Lib.hid (Below.step HB8.out hb9)
  have HD9 := Lib.hid (HD8.out.be hb9)
  have HF9 := Lib.hid (FmAt.below hb9 HF8.out)
  obtain ⟨x0, x1, x2, -⟩ := box3_at HD8.out.box
  have zx := bsz (blk_lt HD8.out.box)
  clear hb9
  have hys := (dfn_size (S := inS US) t false 0 HOK.out).sz
  have hyn := (dfn_size (S := inS US) t false 0 HOK.out).nn
  rw [← HY.out] at hys hyn
  have hya : y.f.asz ≤ 100000000 := by have := Fm.asz_nn y.f; omega
  obtain ⟨R, hR⟩ : ∃ R, R = dfn (inS US) vfD t false 0 := ⟨_, rfl⟩
  rw [← hR] at x2 HD9 HY
  have HRE := Lib.hid (show R = dfn (inS (Tm.symIs t.atoms [])) vfD t false 0 by rw [← HUS.out]; exact hR)
  clear hR
  cases hm : tooMany R.2.2
  · rw [hm] at x2
    have HM := Lib.hid hm
    clear hm
    go_wp2_with fail
    rw [← hW9]
    clear hW9
    refine (isValidFormula_any _ y.f _ _ _ _ _ W9 HF9.out (by omega) hya).mono ?_
    rintro e w10 ⟨rfl, hb10⟩
    have hz10 := hb10.size
    have HY10 := Lib.hid ((hb10.block _ (by omega)).trans HY9.out)
    have HA110 := Lib.hid ((hb10.block _ (by omega)).trans HA19.out)
    have HB10 := Lib.hid (Below.step HB9.out hb10)
    have HD10 := Lib.hid (HD9.out.be hb10)
    have HF10 := Lib.hid (FmAt.below hb10 HF9.out)
    clear hb10 x0 x1 x2 zx
    cases hv : y.f.good
    · have HNO := Lib.hid (show dcOk (inS (Tm.symIs t.atoms [])) t = false from dcOk_bad (by rw [← HRE.out, ← HY.out]; exact hv))
      clear hv
      (try clear a0 a1 a2 a3 a4 za)
      obtain ⟨r0, r1, r2, r3, r4⟩ := five_at HA110.out
      have rf := fun j => frozen_of_row _ _ j _ _ HA110.out
      have zr := bsz (blk_lt HA110.out)
      have hbe := HB10.out
      go_wp2
      refine bodyPost_ret (v := .tuple #[.agg #[.int .i64 0, .string ⟨#[]⟩, .slice none 0 0, .string ⟨#[]⟩, .slice none 0 0], .slice none 0 0, .bool false]) (by simp only [results, Tryz.results6]; go_simp) rfl ⟨?_, .inl ⟨HNO.out, rfl⟩⟩
      exact bel
    · have HYS := Lib.hid (show dcOk (inS (Tm.symIs t.atoms [])) t = true from dcOk_yes HYES.out (by rw [← HRE.out]; exact HM.out) (by rw [← HRE.out, ← HY.out]; exact hv))
      clear hv
      obtain ⟨pl, cl, hlv⟩ := own_slice HD10.out.row
      subst hlv
      go_wp2_with fail
      go_wp2
      refine wp_region_grow [some (.agg #[.int .i64 y.f.op, .string y.f.a.n, .slice y.p y.f.a.us.length y.c, .string y.f.v, .slice y.q y.f.ps.length y.d]), some (.pointer (some ⟨w6.heap.size + 1, 0, none⟩)), some (.pointer (some ⟨w6.heap.size + 1, 0, none⟩)), some (.pointer (some ⟨w6.heap.size + 1, 1, none⟩)), some (.slice pl D.length cl), none, some (.slice pl D.length cl), some (.bool true)] 5 [] (fun _ wa wb => wb = set5C wa (w.heap.size + 1) (.int .i64 y.f.op) (.string y.f.a.n) (.slice y.p y.f.a.us.length y.c) (.string y.f.v) (.slice y.q y.f.ps.length y.d)) (by kernel_rfl) (by kernel_rfl) ?_
      go_simp
      refine InG.rd 12 rfl rfl rfl (by kernel_rfl) (by intro w' hw' D hD; have hbx := (hw'.block w8.heap.size (blk_lt HY10.out)).trans HY10.out; obtain ⟨e0, e1, e2, e3, e4⟩ := five_at hbx; have ze := bsz (blk_lt hbx); clear hbx; go_simp; first | exact hD | exact ⟨hD, rfl⟩) ?_
      go_simp
      refine flowV_st rfl rfl (by
        intro u' L w' hun hbe hD
        go_simp
        first | exact ⟨hD.other rfl hbe (by decide) rfl, rfl⟩ | exact hD.other rfl hbe (by decide) rfl) ?_
      go_simp
      refine flowV_st rfl rfl (by
        intro u' L w' hun hbe hD
        go_simp
        first | exact ⟨hD.other rfl hbe (by decide) rfl, rfl⟩ | exact hD.other rfl hbe (by decide) rfl) ?_
      go_simp
      refine flowV_st rfl rfl (by
        intro u' L w' hun hbe hD
        go_simp
        first | exact ⟨hD.other rfl hbe (by decide) rfl, rfl⟩ | exact hD.other rfl hbe (by decide) rfl) ?_
      go_simp
      refine flowV_st rfl rfl (by
        intro u' L w' hun hbe hD
        have hbx : w'.heap[w6.heap.size + 1]? = some (.cells #[.pointer (some ⟨w6.heap.size, 0, none⟩), .slice pl D.length cl, .bool (tooMany R.2.2)] 51 (0, 0)) := by
          cases hk : L.getD 5 false with
          | false => exact ((hD.nst hk).1.block _ (blk_lt HD10.out.box)).trans HD10.out.box
          | true =>
            obtain ⟨w0, h1, -, h2⟩ := hD.st hk
            rw [h2]
            exact (set5C_other _ _ _ _ _ _ (by omega)).trans ((h1.block _ (blk_lt HD10.out.box)).trans HD10.out.box)
        obtain ⟨x0, x1, x2, -⟩ := box3_at hbx
        have zx := bsz (blk_lt hbx)
        clear hbx
        go_simp
        first | exact ⟨hD.other rfl hbe (by decide) rfl, rfl⟩ | exact hD.other rfl hbe (by decide) rfl) ?_
      go_simp
      refine flowV_ch rfl rfl (by
        intro u' hu' L w' hun hbe hD
        have hw' := (hD.pre (n := 12) hun (by kernel_rfl)).2.1
        have hbx := (hw'.block (w.heap.size + 1) (blk_lt HA110.out)).trans HA110.out
        obtain ⟨e0, e1, e2, e3, e4⟩ := five_at hbx
        have ze := bsz (blk_lt hbx)
        have df : ∀ j, w'.frozen? ⟨w.heap.size + 1, j, none⟩ = false := fun j => frozen_of_row w' _ j _ _ hbx
        have hst := hD.store (x := undef) (w' := set5C w' (w.heap.size + 1) (.int .i64 y.f.op) (.string y.f.a.n) (.slice y.p y.f.a.us.length y.c) (.string y.f.v) (.slice y.q y.f.ps.length y.d)) rfl hbe hun rfl
        clear hbx hu'
        first | (go_simp; done) | (go_simp; exact hst)) ?_
      intro xs2
      go_simp
      refine flowV_st rfl rfl (by
        intro u' L w' hun hbe hD
        go_simp
        first | exact ⟨hD.other rfl hbe (by decide) rfl, rfl⟩ | exact hD.other rfl hbe (by decide) rfl) ?_
      go_simp
      refine flowV_st rfl rfl (by
        intro u' L w' hun hbe hD
        go_simp
        first | exact ⟨hD.other rfl hbe (by decide) rfl, rfl⟩ | exact hD.other rfl hbe (by decide) rfl) ?_
      go_simp
      refine flowV_nil ?_
      intro L wf hL hD
      obtain ⟨wa, hba, -, hwf⟩ := hD.done (fun i hi => by simpa using hL i (by simpa using hi)) (by decide)
      have hra := (hba.block _ (blk_lt HA110.out)).trans HA110.out
      obtain ⟨r0, r1, r2, r3, r4⟩ := five_at hra
      have rf : ∀ j, wa.frozen? ⟨w.heap.size + 1, j, none⟩ = false := fun j => frozen_of_row wa _ j _ _ hra
      have zr := bsz (blk_lt hra)
      have HBA := Lib.hid hba
      have hza := hba.size
      clear hra hba hL hD
      subst hwf
      go_wp2
      refine bodyPost_ret (v := .tuple #[.agg #[.int .i64 y.f.op, .string y.f.a.n, .slice y.p y.f.a.us.length y.c, .string y.f.v, .slice y.q y.f.ps.length y.d], .slice pl D.length cl, .bool true]) (by simp only [results, Tryz.results6]; go_simp) rfl ⟨?_, .inr ⟨HYS.out, y, _, D, rfl, HY.out.trans (by rw [HRE.out]), ?_, ?_, by rw [← HRE.out]; exact HD10.out.ds, fun x hx => ?_⟩⟩
      · have h1 := Below.step HB10.out HBA.out
        exact set5C_below h1 (by omega) _ _ _ _ _
      · refine FmAt.mono (fun b hb _ => ?_) (fun b hb => ?_) _ _ _ _ (Nat.le_refl _) HF10.out
        · exact (set5C_other _ _ _ _ _ _ (by have := hb.1; omega)).trans (HBA.out.block b (by have := hb.2.1; omega))
        · have := hb.2.1
          rw [set5C_size]; omega
      · refine own_lower (own_same HD10.out.row (fun b hb hl => (set5C_other _ _ _ _ _ _ (by have := own_base HD10.out.row b hb; omega)).trans (HBA.out.block b hl))) (by omega)
      · refine (HD10.out.each x hx).mono (fun b hb hl => ?_) (fun b hb => ?_) (Nat.le_refl _)
        · exact (set5C_other _ _ _ _ _ _ (fun e => HXR.out _ hb.1 e)).trans (HBA.out.block b hl)
        · have := HD10.out.foot b hb.1
          rw [set5C_size]; omega
  · have HNO := Lib.hid (show dcOk (inS (Tm.symIs t.atoms [])) t = false from dcOk_many (by rw [← HRE.out]; exact hm))
    rw [hm] at x2
    clear hm
    clear hW9
    (try clear a0 a1 a2 a3 a4 za)
    obtain ⟨r0, r1, r2, r3, r4⟩ := five_at HA08.out
    have rf := fun j => frozen_of_row _ _ j _ _ HA08.out
    have zr := bsz (blk_lt HA08.out)
    have hbe := HB8.out
    go_wp2
    refine bodyPost_ret (v := .tuple #[.agg #[.int .i64 0, .string ⟨#[]⟩, .slice none 0 0, .string ⟨#[]⟩, .slice none 0 0], .slice none 0 0, .bool false]) (by simp only [results, Tryz.results6]; go_simp) rfl ⟨?_, .inl ⟨HNO.out, rfl⟩⟩
    exact bel
section
variable {T : TypeId} {m base k : Nat} {X X' : Nat → Prop} {h0 h1 h2 h3 v v' : Value} {D : List FC} {w w' w1 w3 : World}
theorem FOm.app2 {x : FC} (h : FOm T m base k X h0 h1 h2 h3 v D w) (hk : Kp X w w1) (hf : ∀ b, X' b → X b ∨ (w.heap.size ≤ b ∧ b < w1.heap.size)) (hx0 : ∀ b, X b → b < w.heap.size) (hx : FmAt (fun b => w.heap.size ≤ b ∧ b < w1.heap.size ∧ ¬ X' b) m w1 x.f x.cs) (hbw : base ≤ w.heap.size)
    (hr3 : w3.ownsRow base T 5 v' (D.length + 1) (flatF D ++ x.cs)) (hg3 : w1.grownBy w3 v.ownBlock) (hnr : NewRow v v' w1.heap.size) (hl : D.length + 1 ≤ 1000000) :
    FOm T m base k X' h0 h1 h2 h3 v' (D ++ [x]) (w3.setCell ⟨k, 4, none⟩ v') ∧ Kp (fun b => ¬ X' b) w1 (w3.setCell ⟨k, 4, none⟩ v') := by
  have hkk := blk_lt h.box
  have hlk := h.lt
  have hz := hk.size
  have hz3 := hg3.size
  have h1' := h.kp hk (fun b e => (hf b e).imp id (fun e => e.1))
  have hvw : ∀ b, v.ownBlock = some b → b < w.heap.size ∧ ¬ X' b := fun b e => ⟨own_lt' h.row e, h1'.vX b e⟩
  have hb3 : w3.heap[k]? = _ := (hg3.block k (by omega) (fun e => h.nk e.symm)).trans h1'.box
  have hX'1 : ∀ b, X' b → b < w1.heap.size := fun b e => (hf b e).elim (fun e => by have := hx0 b e; omega) (fun e => e.2)
  have hX'k : ¬ X' k := h1'.kX
  have hv'X : ∀ b, v'.ownBlock = some b → ¬ X' b ∧ b ≠ k := fun b e => by
    rcases hnr with e' | ⟨b', e', hge⟩
    · rw [e'] at e; exact ⟨(hvw b e).2, fun e2 => h.nk (e2 ▸ e)⟩
    · rw [e'] at e; injection e with e; subst e
      exact ⟨fun e2 => by have := hX'1 _ e2; omega, by omega⟩
  have same : ∀ b, b < w1.heap.size → v.ownBlock ≠ some b → b ≠ k → (w3.setCell ⟨k, 4, none⟩ v').heap[b]? = w1.heap[b]? := fun b h1 h2 h3 => (heap_setCell_other w3 ⟨k, 4, none⟩ b v' h3).trans (hg3.block b h1 (fun e => h2 e.symm))
  have key : ∀ b, b < w1.heap.size → v.ownBlock ≠ some b → v'.ownBlock ≠ some b := fun b h1 h2 => by
    rcases hnr with e' | ⟨b', e', hge⟩
    · rw [e']; exact h2
    · rw [e']; intro e; injection e with e; omega
  refine ⟨⟨?_, ?_, fun y hy => ?_, hlk, hX'k, fun b e => (hv'X b e).1, by rw [List.length_append]; exact hl⟩, ⟨hg3.os, hg3.tape, hg3.output, by simpa using hz3, fun b hb hn => ?_⟩⟩
  · have := heap_setCell_same w3 k 4 _ _ v' hb3
    simpa using this
  · rw [List.length_append, flatF_app]
    refine own_same (by simpa [flatF] using hr3) (fun b hb _ => heap_setCell_other w3 ⟨k, 4, none⟩ b v' (hv'X b hb).2)
  · rcases List.mem_append.1 hy with hy | hy
    · refine FmAt.mono (fun b hb _ => same b hb.2.1 hb.2.2.2 (by have := hb.1; omega)) (fun b hb => ⟨hb.1, by have := hb.2.1; simp; omega, hb.2.2.1, key b hb.2.1 hb.2.2.2⟩) _ _ _ _ (Nat.le_refl _) (h1'.each y hy)
    · obtain rfl : y = x := by simpa using hy
      have hv2 : ∀ b, w.heap.size ≤ b → v.ownBlock ≠ some b := fun b hb e => by have := (hvw b e).1; omega
      refine FmAt.mono (fun b hb _ => same b hb.2.1 (hv2 b hb.1) (by have := hb.1; omega)) (fun b hb => ⟨by have := hb.1; omega, by have := hb.2.1; simp; omega, hb.2.2, key b hb.2.1 (hv2 b hb.1)⟩) _ _ _ _ (Nat.le_refl _) hx
  · have hb' : X' b := Classical.not_not.1 hn
    exact same b hb (fun e => (hvw b e).2 hb') (fun e => hX'k (e ▸ hb'))
end
structure SSt (us : List ByteArray) (base g k : Nat) (E : List Dfn) (uv lv : Value) (D : List DC) (X : Nat → Prop) (w : World) : Prop where
  nm : w.heap[g]? = some (.cells (nmrS k uv) 58 (0, 0))
  tk : StrsAt (fun b => X b ∧ b ≠ g ∧ lv.ownBlock ≠ some b) w uv us
  row : w.ownsRow base 60 7 lv D.length (flatD D)
  ds : D.map DC.d = E
  xg : X g
  xl : ∀ b, lv.ownBlock = some b → X b
  foot : ∀ b, X b → b < w.heap.size
  ng : lv.ownBlock ≠ some g
section
variable {us : List ByteArray} {base g k : Nat} {E : List Dfn} {uv lv : Value} {D : List DC} {X X' : Nat → Prop} {w w' : World}
theorem SSt.nl (h : SSt us base g k E uv lv D X w) : lv.ownBlock ≠ some g := h.ng
theorem SSt.stab (h : SSt us base g k E uv lv D X w) (hk : Kp (fun b => ¬ X b) w w') : SSt us base g k E uv lv D X w' := by
  have hs : ∀ b, X b → w'.heap[b]? = w.heap[b]? := fun b hb => hk.block b (h.foot b hb) (fun e => e hb)
  exact ⟨(hs _ h.xg).trans h.nm, h.tk.mono (fun b hb _ => hs b hb.1) (fun _ h => h), own_same h.row (fun b hb _ => hs b (h.xl b hb)), h.ds, h.xg, h.xl, fun b hb => Nat.lt_of_lt_of_le (h.foot b hb) hk.size, h.ng⟩
theorem SSt.be (h : SSt us base g k E uv lv D X w) (hb : Below w.heap.size w w') : SSt us base g k E uv lv D X w' := h.stab (Kp.of_below hb)
theorem SSt.named (h : SSt us base g k E uv lv D X w) {n : Nat} (hn : w'.heap[g]? = some (.cells (nmrS n uv) 58 (0, 0))) (hg : w.grownBy w' (some g)) : SSt us base g n E uv lv D X w' := by
  have hs : ∀ b, X b → b ≠ g → w'.heap[b]? = w.heap[b]? := fun b hb hne => hg.block b (h.foot b hb) (fun e => hne (Option.some.inj e))
  have hl := h.nl
  exact ⟨hn, h.tk.mono (fun b hb _ => hs b hb.1 hb.2.1) (fun _ h => h), own_same h.row (fun b hb _ => hs b (h.xl b hb) (fun e => hl (e ▸ hb))), h.ds, h.xg, h.xl, fun b hb => Nat.lt_of_lt_of_le (h.foot b hb) hg.size, h.ng⟩
theorem SSt.grown {lv' : Value} {x : DC} {w4 : World} (h : SSt us base g k E uv lv D X w) (hr : w4.ownsRow base 60 7 lv' (D.length + 1) (flatD D ++ x.cs)) (hnr : NewRow lv lv' w.heap.size)
    (hs : ∀ b, b < w.heap.size → lv.ownBlock ≠ some b → w4.heap[b]? = w.heap[b]?) (hz : w.heap.size ≤ w4.heap.size) :
    SSt us base g k (E ++ [x.d]) uv lv' (D ++ [x]) (fun b => X b ∨ lv'.ownBlock = some b) w4 := by
  have hl := h.nl
  have hg0 := h.foot _ h.xg
  have hv'e : ∀ b, lv'.ownBlock = some b → lv.ownBlock = some b ∨ w.heap.size ≤ b := fun b e => by
    rcases hnr with e1 | ⟨b', e1, hge⟩
    · exact .inl (e1 ▸ e)
    · rw [e1] at e; injection e with e; exact .inr (by omega)
  refine ⟨(hs g hg0 hl).trans h.nm, h.tk.mono (fun b hb hlt => hs b hlt hb.2.2) (fun b hb => ⟨.inl hb.1, hb.2.1, fun e => (hv'e b e).elim hb.2.2 (fun e => by have := h.foot b hb.1; omega)⟩), ?_, by rw [List.map_append, h.ds]; rfl, .inl h.xg, fun b hb => .inr hb, fun b hb => ?_, fun e => (hv'e g e).elim hl (fun e => by omega)⟩
  · rw [List.length_append, flatD_app]
    simpa [flatD] using hr
  · rcases hb with hb | hb
    · have := h.foot b hb; omega
    · have := own_lt' hr hb
      omega
end
def SpR (us : List ByteArray) (base g : Nat) (uv : Value) (n : Nat) (f : Fm) (b : Bool) (k : Nat) (E : List Dfn) (X : Nat → Prop) (w : World) (v : Value) (w' : World) : Prop :=
  ∃ (y : FC) (X' : Nat → Prop) (lv : Value) (D : List DC), v = .tuple #[.agg y.cs.toArray, lv] ∧ y.f = (dfn (inS us) vfD f b k).1 ∧ FmAt (fun b => w.heap.size ≤ b ∧ b < w'.heap.size ∧ ¬ X' b) n w' y.f y.cs ∧ SSt us base g (dfn (inS us) vfD f b k).2.1 (E ++ (dfn (inS us) vfD f b k).2.2) uv lv D X' w' ∧ (∀ b, X' b → X b ∨ (w.heap.size ≤ b ∧ b < w'.heap.size))
def SpQ (us : List ByteArray) (base g : Nat) (uv : Value) (n : Nat) (f : Fm) (b : Bool) (k : Nat) (E : List Dfn) (X : Nat → Prop) (w : World) (e : Ending) (w' : World) : Prop := ∃ v, e = .returned v ∧ SpR us base g uv n f b k E X w v w' ∧ Kp X w w'
section
variable {ops : Array Oper}
def ADone (ix al : Nat) (z0 : Obj) (P : Value → (Nat → Prop) → World → Prop) (W : World) (u : Nat → Value) (L : Array Bool) (w : World) : Prop :=
  (L.getD ix false = true → ∃ F, P (u ix) F w ∧ (∀ b, F b → b < w.heap.size) ∧ (L.getD al false = true → ∀ kk, u al = .pointer (some ⟨kk, 0, none⟩) → ¬ F kk)) ∧
  (L.getD al false = true → ∃ kk, u al = .pointer (some ⟨kk, 0, none⟩) ∧ W.heap.size ≤ kk ∧ w.heap[kk]? = some z0)
structure InA (ops : Array Oper) (W : World) (X : Nat → Prop) (ix al ks : Nat) (J : World → Prop) (z0 : Obj) (P : Value → (Nat → Prop) → World → Prop) (R : (Nat → Value) → World → World → Prop) (u : Nat → Value) (L : Array Bool) (w : World) : Prop where
  cl : Closed .any ops L
  nst : L.getD ks false = false → Kp X W w ∧ (L.getD ix false = false → J w) ∧ ADone ix al z0 P W u L w
  st : L.getD ks false = true → L.getD ix false = true ∧ L.getD al false = true ∧ ∃ w0, Kp X W w0 ∧ ADone ix al z0 P W u L w0 ∧ R u w0 w
variable {W w w' : World} {X : Nat → Prop} {ix al ks : Nat} {J : World → Prop} {z0 : Obj} {P : Value → (Nat → Prop) → World → Prop} {R : (Nat → Value) → World → World → Prop} {u : Nat → Value} {L : Array Bool}
theorem InA.start (hJ : J W.drew) (hL : ∀ i, L.getD i false = false) : InA ops W X ix al ks J z0 P R (fun _ => undef) L W.drew :=
  ⟨fun c oc _ hl => (by rw [hL] at hl; cases hl), fun _ => ⟨(Kp.refl _ _).drew, fun _ => hJ, fun h => (by rw [hL] at h; cases h), fun h => (by rw [hL] at h; cases h)⟩, fun h => (by rw [hL] at h; cases h)⟩
theorem ADone.put (h : ADone ix al z0 P W u L w) {i : Nat} (x : Value) (h1 : i ≠ ix) (h2 : i ≠ al) : ADone ix al z0 P W (upd u i x) (L.setIfInBounds i true) w := by
  refine ⟨fun hd => ?_, fun hd => ?_⟩
  · rw [getD_set_ne false h1] at hd
    obtain ⟨F, a1, a2, a3⟩ := h.1 hd
    refine ⟨F, by rw [upd_other _ _ (Ne.symm h1)]; exact a1, a2, fun ha => ?_⟩
    rw [getD_set_ne false h2] at ha
    rw [upd_other _ _ (Ne.symm h2)]; exact a3 ha
  · rw [getD_set_ne false h2] at hd
    rw [upd_other _ _ (Ne.symm h2)]; exact h.2 hd
theorem ADone.other (h : ADone ix al z0 P W u L w) {i : Nat} (h1 : i ≠ ix) (h2 : i ≠ al) : ADone ix al z0 P W u (L.setIfInBounds i true) w := by
  refine ⟨fun hd => ?_, fun hd => ?_⟩
  · rw [getD_set_ne false h1] at hd
    obtain ⟨F, a1, a2, a3⟩ := h.1 hd
    exact ⟨F, a1, a2, fun ha => a3 (by rwa [getD_set_ne false h2] at ha)⟩
  · rw [getD_set_ne false h2] at hd
    exact h.2 hd
theorem InA.other (h : InA ops W X ix al ks J z0 P R u L w) {k : Nat} {o : Oper} (ho : ops[k]? = some o) (hb : Behind .any o L) (h1 : k ≠ ix) (h2 : k ≠ al) (h3 : k ≠ ks) : InA ops W X ix al ks J z0 P R u (L.setIfInBounds k true) w := by
  refine ⟨h.cl.put ho hb, fun hn => ?_, fun hn => ?_⟩ <;> rw [getD_set_ne false h3] at hn
  · obtain ⟨a1, a2, a3⟩ := h.nst hn
    exact ⟨a1, fun hi => a2 (by rwa [getD_set_ne false h1] at hi), a3.other h1 h2⟩
  · obtain ⟨b1, b2, w0, a1, a2, a3⟩ := h.st hn
    exact ⟨set_mono b1, set_mono b2, w0, a1, a2.other h1 h2, a3⟩
theorem InA.pure (h : InA ops W X ix al ks J z0 P R u L w) {k : Nat} {o : Oper} (ho : ops[k]? = some o) (hb : Behind .any o L) (h1 : k ≠ ix) (h2 : k ≠ al) (h3 : k ≠ ks) (x : Value) (hR : L.getD ks false = true → ∀ w0, R u w0 w → R (upd u k x) w0 w) : InA ops W X ix al ks J z0 P R (upd u k x) (L.setIfInBounds k true) w := by
  refine ⟨h.cl.put ho hb, fun hn => ?_, fun hn => ?_⟩ <;> rw [getD_set_ne false h3] at hn
  · obtain ⟨a1, a2, a3⟩ := h.nst hn
    exact ⟨a1, fun hi => a2 (by rwa [getD_set_ne false h1] at hi), a3.put x h1 h2⟩
  · obtain ⟨b1, b2, w0, a1, a2, a3⟩ := h.st hn
    exact ⟨set_mono b1, set_mono b2, w0, a1, a2.put x h1 h2, hR hn w0 a3⟩
theorem InA.pre (h : InA ops W X ix al ks J z0 P R u L w) {i n : Nat} (hun : L.getD i true = false) (ha : (i == ks || Proofs.YtmbkjdkjemlfkaaGreatDoor.anc ops n ks i) = true) : L.getD ks false = false ∧ Kp X W w ∧ (L.getD ix false = false → J w) ∧ ADone ix al z0 P W u L w := by
  have hn : L.getD ks false = false := by
    cases h' : L.getD ks false with
    | false => rfl
    | true =>
      rw [Bool.or_eq_true, beq_iff_eq] at ha
      have h0 := getD_tf hun
      rcases ha with rfl | ha
      · rw [h'] at h0; cases h0
      · have := h.cl.anc _ _ _ ha h'
        rw [h0] at this; cases this
  exact ⟨hn, h.nst hn⟩
theorem InA.turn (h : InA ops W X ix al ks J z0 P R u L w) {n : Nat} {o : Oper} (ho : ops[ix]? = some o) (hbe : Behind .any o L) (hun : L.getD ix true = false) (hks : ix ≠ ks) (hal : ix ≠ al) (ha : (ix == ks || Proofs.YtmbkjdkjemlfkaaGreatDoor.anc ops n ks ix) = true) {x : Value} (F : Nat → Prop) (hp : P x F w') (hF : ∀ b, F b → X b ∨ w.heap.size ≤ b) (hF2 : ∀ b, F b → b < w'.heap.size) (hX : ∀ b, X b → b < W.heap.size) (hk : Kp X w w') : InA ops W X ix al ks J z0 P R (upd u ix x) (L.setIfInBounds ix true) w' := by
  obtain ⟨hn, h1, h2, h3⟩ := h.pre hun ha
  have hn' : (L.setIfInBounds ix true).getD ks false = false := by rw [getD_set_ne false hks]; exact hn
  have hd : (L.setIfInBounds ix true).getD ix false = true := getD_now hun
  refine ⟨h.cl.put ho hbe, fun _ => ⟨h1.trans hk (fun b e => .inl e), fun h' => (by rw [hd] at h'; cases h'), fun _ => ⟨F, by rw [upd_same]; exact hp, hF2, fun hal' kk hkk hf => ?_⟩, fun hal' => ?_⟩, fun h' => (by rw [hn'] at h'; cases h')⟩
  · rw [getD_set_ne false hal] at hal'
    rw [upd_other _ _ (Ne.symm hal)] at hkk
    obtain ⟨kk', e1, e2, e3⟩ := h3.2 hal'
    rw [e1] at hkk
    obtain rfl : kk' = kk := by simpa using hkk
    have := heap_lt e3
    exact (hF _ hf).elim (fun e => by have := hX _ e; omega) (fun e => by omega)
  · rw [getD_set_ne false hal] at hal'
    obtain ⟨kk', e1, e2, e3⟩ := h3.2 hal'
    exact ⟨kk', by rw [upd_other _ _ (Ne.symm hal)]; exact e1, e2, (hk.block kk' (heap_lt e3) (fun e => by have := hX _ e; omega)).trans e3⟩
theorem InA.alloc (h : InA ops W X ix al ks J z0 P R u L w) {n : Nat} {o : Oper} (ho : ops[al]? = some o) (hbe : Behind .any o L) (hun : L.getD al true = false) (hks : al ≠ ks) (hal : ix ≠ al) (ha : (al == ks || Proofs.YtmbkjdkjemlfkaaGreatDoor.anc ops n ks al) = true) (hJ : ∀ w w', Below w.heap.size w w' → J w → J w') (hP : ∀ v F w w', Below w.heap.size w w' → P v F w → P v F w') (hz : (w.alloc z0).heap[w.heap.size]? = some z0) : InA ops W X ix al ks J z0 P R (upd u al (.pointer (some ⟨w.heap.size, 0, none⟩))) (L.setIfInBounds al true) (w.alloc z0) := by
  obtain ⟨hn, h1, h2, h3⟩ := h.pre hun ha
  have hn' : (L.setIfInBounds al true).getD ks false = false := by rw [getD_set_ne false hks]; exact hn
  have hb := (Below.refl w.heap.size w).alloc (Nat.le_refl _) z0
  refine ⟨h.cl.put ho hbe, fun _ => ⟨h1.alloc _, fun h' => hJ _ _ hb (h2 (by rwa [getD_set_ne false (Ne.symm hal)] at h')), fun hd => ?_, fun _ => ⟨w.heap.size, by rw [upd_same], h1.size, hz⟩⟩, fun h' => (by rw [hn'] at h'; cases h')⟩
  rw [getD_set_ne false (Ne.symm hal)] at hd
  obtain ⟨F, a1, a2, -⟩ := h3.1 hd
  refine ⟨F, by rw [upd_other _ _ hal]; exact hP _ _ _ _ hb a1, fun b e => Nat.lt_of_lt_of_le (a2 b e) hb.size, fun _ kk hkk hf => ?_⟩
  rw [upd_same] at hkk
  obtain rfl : w.heap.size = kk := by simpa using hkk
  have := a2 _ hf
  omega
theorem InA.store (h : InA ops W X ix al ks J z0 P R u L w) {n : Nat} {o : Oper} (ho : ops[ks]? = some o) (hbe : Behind .any o L) (hun : L.getD ks true = false) (h1 : ks ≠ ix) (h2 : ks ≠ al) (hi : Proofs.YtmbkjdkjemlfkaaGreatDoor.anc ops n ks ix = true) (ha : Proofs.YtmbkjdkjemlfkaaGreatDoor.anc ops n ks al = true) {x : Value} (hr : R (upd u ks x) w w') : InA ops W X ix al ks J z0 P R (upd u ks x) (L.setIfInBounds ks true) w' := by
  obtain ⟨hn, a1, a2, a3⟩ := h.pre (n := 0) hun (by simp)
  have hd : (L.setIfInBounds ks true).getD ks false = true := getD_now hun
  have hcl := h.cl.put ho hbe
  exact ⟨hcl, fun h' => (by rw [hd] at h'; cases h'), fun _ => ⟨hcl.anc _ _ _ hi hd, hcl.anc _ _ _ ha hd, w, a1, a3.put x h1 h2, hr⟩⟩
theorem InA.val (h : InA ops W X ix al ks J z0 P R u L w) (hi : L.getD ix false = true) : ∃ F w0, P (u ix) F w0 := by
  cases hk : L.getD ks false with
  | false => obtain ⟨F, h1, -⟩ := (h.nst hk).2.2.1 hi; exact ⟨F, w, h1⟩
  | true => obtain ⟨-, -, w0, -, h2, -⟩ := h.st hk; obtain ⟨F, h1, -⟩ := h2.1 hi; exact ⟨F, w0, h1⟩
theorem wp_region_acall {Pr : Program} {id : Nat} {Q' : Exit → Act → World → Prop} {a : Act} {w : World} {l : List Oper} (vs : List (Option Value)) (X : Nat → Prop) (ix al ks : Nat) (J : World → Prop) (z0 : Obj) (P : Value → (Nat → Prop) → World → Prop) (R : (Nat → Value) → World → World → Prop) (T : DetL) (hm : Pr.follows .mixedOrders = true) (hB : Region.lexB .any l.toArray = true) (hJ : J w.drew)
    (h : flowV Pr .any l.toArray vs (fun u L w' => InA l.toArray w X ix al ks J z0 P R u L w' ∧ Dets T u L) (fun a' u => ∀ L w', (∀ i, i < l.length → L.getD i false = true) → InA l.toArray w X ix al ks J z0 P R u L w' ∧ Dets T u L → Q' .normal a' w') 0 l a (fun _ => undef)) : (Code.region id l.toArray true).wp Pr Q' a w :=
  wp_region_any3 vs (fun u L w' => InA l.toArray w X ix al ks J z0 P R u L w' ∧ Dets T u L) hm hB (fun _ hL => ⟨InA.start hJ hL, Dets.start hL⟩) h
end
end Go.Proofs.YtmbkjdkjemlfkaaGreatDoor
