import Derived.Maps.StringElems
import Derived.Test.YtkgfanajgdelcaaGreatDoorUnPart16
namespace Go.Proofs.YtkgfanajgdelcaaGreatDoor
set_option maxRecDepth 100000
open Go.RowKit
def EqTSt (_bt rb : Nat) (CP : Value → World → Prop) (a0 a1 : Value) (W : World) : Nat → (Nat → Value) → World → Prop
  | 0, _, w => w = W.drew
  | 1, u, w => CP (u 2) w
  | 2, u, w => ∃ w1 v0 v1, CP (.agg #[v0, v1]) w1 ∧ u 3 = .slice (some ⟨w1.heap.size, 0, none⟩) 2 2 ∧ w = w1.alloc (.cells #[a0, a1, v0, v1] 41)
  | 3, u, w => ∃ w1 v0 v1, CP (.agg #[v0, v1]) w1 ∧ u 4 = .agg #[.string ⟨#[61]⟩, .slice (some ⟨w1.heap.size, 0, none⟩) 2 2] ∧ w = w1.alloc (.cells #[a0, a1, v0, v1] 41)
  | 4, _, w => ∃ w1 v0 v1, CP (.agg #[v0, v1]) w1 ∧ w = ((w1.alloc (.cells #[a0, a1, v0, v1] 41)).setCell ⟨rb, 0, none⟩ (.string ⟨#[61]⟩)).setCell ⟨rb, 1, none⟩ (.slice (some ⟨w1.heap.size, 0, none⟩) 2 2)
  | _, _, _ => False
theorem EqTSt.cells {g rb bt : Nat} {CP : Value → World → Prop} {a0 a1 x0 x1 : Value} {W : World} (hG : ∀ x w', CP x w' → W.grownBy w' (some g)) (h0 : W.cell? ⟨bt, 0, none⟩ = some x0) (h1 : W.cell? ⟨bt, 1, none⟩ = some x1) (hne : bt ≠ g) {j : Nat} (hj : j ≤ 1) {u : Nat → Value} {w : World}
    (h : EqTSt bt rb CP a0 a1 W j u w) : w.cell? ⟨bt, 0, none⟩ = some x0 ∧ w.cell? ⟨bt, 1, none⟩ = some x1 := by
  match j, hj, h with
  | 0, _, h => obtain rfl : w = W.drew := h; exact ⟨h0, h1⟩
  | 1, _, h => exact ⟨grown_cell (hG _ _ h) h0 (by simpa using hne), grown_cell (hG _ _ h) h1 (by simpa using hne)⟩
set_option maxHeartbeats 3200000 in
theorem patom_any (f g : Nat) (s : ByteArray) (p : PSt) (w : World) (h : PAt 190 w g s p) (hp : p.pos ≤ s.size) (hs : s.size ≤ 1000000) (hf : s.size - p.pos < f) :
    Calls Tryz.prog 229 #[.pointer (some ⟨g, 0, none⟩)] w fun e w' => ∃ x, e = .returned x ∧ TermP 41 g w.heap.size s (f + 2) (pAtomT s.data.toList f p).1 (pAtomT s.data.toList f p).2 190 w x w' := by
  have H := Lib.hid h
  have hg := bsz h.lt
  have hpos := pTerm_pos s.data.toList f p (by rw [← size_list]; exact hp)
  rw [← size_list] at hpos
  have hnm := pTerm_name s.data.toList f p
  rw [← size_list, ← size_list] at hnm
  have HPA := Lib.hid (show pAtomT s.data.toList f p = if pTake s.data.toList sEq8 (pTerm s.data.toList f p).2 then (eqTm (pTerm s.data.toList f p).1 (pTerm s.data.toList f (pAdv sEq8 (pTerm s.data.toList f p).2)).1, (pTerm s.data.toList f (pAdv sEq8 (pTerm s.data.toList f p).2)).2) else pTerm s.data.toList f p from rfl)
  clear h
  go_enter Tryz.func229, Tryz.ntmps229
  go_wp2_with fail
  refine (term_any f g s p _ (H.out.below (by exact bel)) hp hs hf).mono ?_
  rintro e w1 ⟨x, rfl, v0, v1, rfl, hO, hP1, hg1⟩
  obtain ⟨pp, cc, rfl, rfl, -⟩ := hO.form
  generalize pTerm s.data.toList f p = r at *
  obtain ⟨t, p1⟩ := r
  simp only at hpos hO hP1 HPA hnm
  have HO := Lib.hid (show TmOwn 41 f (fun b => w.heap.size + 1 ≤ b ∧ b < w1.heap.size) w1 t _ by simpa using hO)
  have HG1 := Lib.hid hg1
  have ⟨c1, f1⟩ := gcell hg1
  have hz1 := hg1.size
  (try simp at hz1)
  have HP1 := Lib.hid hP1
  clear hO hP1 hg1
  cases h1 : pTake s.data.toList sEq8 p1
  · have HA := Lib.hid h1
    have HF2 := Lib.hid (show pAtomT s.data.toList f p = (t, p1) by rw [HPA.out, h1]; rfl)
    clear h1
    go_wp2_with fail
    refine (take_any g s _ p1 _ (HP1.out.below (by exact bel)) hpos.2 (by omega) (by decide)).mono ?_
    rw [show (⟨#[32, 61, 32]⟩ : ByteArray).data.toList = sEq8 from rfl, HA.out]
    rintro e w2 ⟨_, rfl, rfl, h2, hg2⟩
    have HTS := Lib.hid (TSt.initT (s := s) (p := p1) (by omega) HO.out HG1.out hg2 h2)
    clear h2 hg2 c1 f1
    obtain ⟨hb0, hb1, -⟩ := cells2_cell HTS.out.cell
    have hb0 : w2.cell? ⟨w1.heap.size, 0, none⟩ = some (.string t.n) := hb0
    obtain ⟨r0, r1, rf⟩ := cells2_cell HTS.out.res
    have hrb := bsz (heap_lt HTS.out.res)
    have hlt := HTS.out.lt
    go_wp2
    refine bodyPost_ret (v := .agg #[.string t.n, .slice pp t.us.length cc]) (by simp only [results, Tryz.results229]; go_simp) rfl ⟨_, rfl, ?_⟩
    rw [HF2.out]
    have := (HTS.out.done (by rw [← size_list]; omega) (.string t.n) (.slice pp t.us.length cc)).mono (f' := f + 2) (by omega)
    have hte : (Tm.mk ⟨t.n.data.toList.toArray⟩ t.us) = t := by obtain ⟨n, us⟩ := t; rfl
    rw [hte] at this
    exact this
  · have HA := Lib.hid h1
    have hle := pTake_le h1 (by rw [← size_list]; exact hpos.2)
    rw [← size_list] at hle
    have hl8 : sEq8.length = 3 := rfl
    have HPB := Lib.hid (show pAtomT s.data.toList f p = (eqTm t (pTerm s.data.toList f (pAdv sEq8 p1)).1, (pTerm s.data.toList f (pAdv sEq8 p1)).2) by rw [HPA.out, h1]; rfl)
    clear h1
    go_wp2_with fail
    refine (take_any g s _ p1 _ (HP1.out.below (by exact bel)) hpos.2 (by omega) (by decide)).mono ?_
    rw [show (⟨#[32, 61, 32]⟩ : ByteArray).data.toList = sEq8 from rfl, HA.out]
    rintro e w2 ⟨_, rfl, rfl, h2, hg2⟩
    have HTS := Lib.hid (TSt.initT (s := s) (p := pAdv sEq8 p1) (by omega) HO.out HG1.out hg2 h2)
    clear h2 hg2 c1 f1
    obtain ⟨hb0, hb1, -⟩ := cells2_cell HTS.out.cell
    have HB := Lib.hid (And.intro (show w2.cell? ⟨w1.heap.size, 0, none⟩ = some (.string t.n) from hb0) hb1)
    have hlt := HTS.out.lt
    clear hb0 hb1
    go_wp2
    obtain ⟨tq, htq⟩ : ∃ tq, (pTerm s.data.toList f (pAdv sEq8 p1)).1 = tq := ⟨_, rfl⟩
    obtain ⟨pq, hpq⟩ : ∃ pq, (pTerm s.data.toList f (pAdv sEq8 p1)).2 = pq := ⟨_, rfl⟩
    have HTQ := Lib.hid htq
    have HPQ := Lib.hid hpq
    have HRD := Lib.hid (show (pAdv sEq8 p1).pos ≤ s.size ∧ s.size - (pAdv sEq8 p1).pos < f by simp only [pAdv]; omega)
    have HPA2 := Lib.hid (show pAtomT s.data.toList f p = (eqTm t tq, pq) by rw [HPB.out, htq, hpq])
    clear htq hpq
    obtain ⟨CP, hCP0⟩ : ∃ CP : Value → World → Prop, CP = TermP 41 g w2.heap.size s f tq pq 190 w2.drew := ⟨_, rfl⟩
    have HCP := Lib.hid hCP0
    have HGR := Lib.hid (show ∀ x w', CP x w' → w2.grownBy w' (some g) from by
      rw [hCP0]; rintro x w' ⟨_, _, _, _, _, hG⟩; exact ⟨hG.os, hG.tape, hG.output, hG.size, hG.block⟩)
    have HAGG := Lib.hid (show ∀ x w', CP x w' → ∃ pp cc, x = .agg #[.string tq.n, .slice pp tq.us.length cc] from by
      rw [hCP0]; rintro x w' ⟨v0, v1, hx, hO, _, _⟩
      obtain ⟨pp, cc, rfl, rfl, -⟩ := hO.form
      exact ⟨_, _, hx⟩)
    clear hCP0
    refine wp_region_stages [some (.agg #[.string t.n, .slice pp t.us.length cc]), some (.pointer (some ⟨g, 0, none⟩)), none, none, none, none] [2, 3, 4, 5] (EqTSt w1.heap.size w.heap.size CP (.string t.n) (.slice pp t.us.length cc) w2) (by kernel_rfl) (by kernel_rfl) (by first | kernel_rfl | rfl) (by rfl) rfl ?_
    refine chain_stb (c := 3) 1 rfl rfl (by decide) rfl rfl rfl (by first | kernel_rfl | rfl) ?_ ?_
    · intro j u w' hj hS
      obtain ⟨hc0, hc1⟩ := EqTSt.cells HGR.out HB.out.1 HB.out.2 (by omega) hj hS
      go_simp
      first | done | exact ⟨hS, rfl⟩ | exact hS | rfl
    go_simp
    refine chain_st rfl rfl (by decide) rfl (by intro j u w' hS; go_simp; first | done | exact ⟨hS, rfl⟩ | exact hS | rfl) ?_
    go_simp
    refine chain_first rfl rfl rfl (by decide) rfl ?_ ?_
    · intro w' hS
      obtain rfl : w' = w2.drew := hS
      go_simp
      refine (term_any f g s _ _ (PAt.below HTS.out.at_ (by exact bel)) HRD.out.1 hs HRD.out.2).mono ?_
      rintro e w'' ⟨x, he, hx⟩
      rw [HTQ.out, HPQ.out] at hx
      exact ⟨x, he, by show CP (upd _ 2 x 2) w''; rw [upd_same, HCP.out]; exact hx⟩
    intro x
    go_simp
    refine chain_next 0 rfl rfl rfl rfl (by decide) rfl (by first | kernel_rfl | rfl) ?_ ?_
    · intro w' hS
      have hS : CP (upd _ 2 x 2) w' := hS
      rw [upd_same] at hS
      obtain ⟨pp4, cc4, rfl⟩ := HAGG.out _ _ hS
      go_simp
      exact ⟨w', _, _, hS, by rw [upd_same], rfl⟩
    intro y
    go_simp
    refine chain_next 1 rfl rfl rfl rfl (by decide) rfl (by first | kernel_rfl | rfl) ?_ ?_
    · intro w' hS
      obtain ⟨w3, v0, v1, hcp, hy, rfl⟩ := hS
      rw [upd_same] at hy
      subst hy
      go_simp
      exact ⟨w3, v0, v1, hcp, by rw [upd_same], rfl⟩
    intro z
    go_simp
    refine chain_next 2 rfl rfl rfl rfl (by decide) rfl (by first | kernel_rfl | rfl) ?_ ?_
    · intro w' hS
      obtain ⟨w3, v0, v1, hcp, hy, rfl⟩ := hS
      rw [upd_same] at hy
      subst hy
      have hG1 := HGR.out _ _ hcp
      have hz3 := hG1.size
      have hro : (w3.alloc (.cells #[.string t.n, .slice pp t.us.length cc, v0, v1] 41)).heap[w.heap.size]? = some (.cells #[.string ⟨#[]⟩, .slice none 0 0] 41 (0, 0)) := (hao w3 _ _ (by omega)).trans ((hG1.block _ (by omega) (by simp; omega)).trans HTS.out.res)
      obtain ⟨r0, r1, rf⟩ := cells2_cell hro
      have hrb := bsz (heap_lt hro)
      clear hro
      go_simp
      exact ⟨w3, v0, v1, hcp, rfl⟩
    intro x'
    refine flowU_nil ?_
    intro wz hz
    obtain ⟨w3, v0, v1, hcp, rfl⟩ := hz
    have hG1 := HGR.out _ _ hcp
    have hz3 := hG1.size
    rw [HCP.out] at hcp
    have HE := Lib.hid (eq_own HTS.out (by rw [← size_list]; omega) hcp)
    have HP3 := Lib.hid (show PAt 190 w3 g s pq from by obtain ⟨_, _, _, _, h, _⟩ := hcp; exact h)
    have HG3 := Lib.hid (gr_trans HTS.out.gr hG1)
    have hk : ∀ b, b ≠ w.heap.size → b < w3.heap.size + 1 → (((w3.alloc (.cells #[.string t.n, .slice pp t.us.length cc, v0, v1] 41)).setCell ⟨w.heap.size, 0, none⟩ (.string ⟨#[61]⟩)).setCell ⟨w.heap.size, 1, none⟩ (.slice (some ⟨w3.heap.size, 0, none⟩) 2 2)).heap[b]? = (w3.alloc (.cells #[.string t.n, .slice pp t.us.length cc, v0, v1] 41)).heap[b]? := fun b hb _ => by
      repeat rw [heap_setCell_other _ _ _ _ (fun e => hb e)]
    have HK := Lib.hid hk
    clear hk
    have hro : (((w3.alloc (.cells #[.string t.n, .slice pp t.us.length cc, v0, v1] 41)).setCell ⟨w.heap.size, 0, none⟩ (.string ⟨#[61]⟩)).setCell ⟨w.heap.size, 1, none⟩ (.slice (some ⟨w3.heap.size, 0, none⟩) 2 2)).heap[w.heap.size]? = some (.cells #[.string ⟨#[61]⟩, .slice (some ⟨w3.heap.size, 0, none⟩) 2 2] 41 (0, 0)) := by
      have h1 : (w3.alloc (.cells #[.string t.n, .slice pp t.us.length cc, v0, v1] 41)).heap[w.heap.size]? = some (.cells #[.string ⟨#[]⟩, .slice none 0 0] 41 (0, 0)) := (hao w3 _ _ (by omega)).trans ((hG1.block _ (by omega) (by simp; omega)).trans HTS.out.res)
      have h2 := heap_setCell_same _ w.heap.size 0 _ 41 (.string ⟨#[61]⟩) h1
      have h3 := heap_setCell_same _ w.heap.size 1 _ 41 (.slice (some ⟨w3.heap.size, 0, none⟩) 2 2) h2
      simpa using h3
    obtain ⟨r0, r1, rf⟩ := cells2_cell hro
    have hrb := bsz (heap_lt hro)
    clear hro hcp
    go_simp
    go_wp2
    refine bodyPost_ret (v := .agg #[.string ⟨#[61]⟩, .slice (some ⟨w3.heap.size, 0, none⟩) 2 2]) (by simp only [results, Tryz.results229]; go_simp) rfl ⟨_, rfl, ?_⟩
    rw [HPA2.out]
    have hte : (Tm.mk ⟨t.n.data.toList.toArray⟩ t.us) = t := by obtain ⟨n, us⟩ := t; rfl
    have hE := HE.out
    rw [hte] at hE
    refine ⟨_, _, rfl, TmOwn.mono _ _ _ _ (Nat.le_refl _) (fun b hb hlt => HK.out b (by omega) hb.2) (fun b hb => ⟨by omega, by simp; omega⟩) hE, (HK.out g (by omega) (by omega)).trans ((hao w3 _ _ (by omega)).trans HP3.out), ?_⟩
    exact gr_sc (gr_sc (gr_al HG3.out _) (.inr (Nat.le_refl _)) _) (.inr (Nat.le_refl _)) _
structure ESt (w : World) (g : Nat) (s : ByteArray) (p : PSt) (W : World) : Prop where
  at_ : PAt 190 W g s p
  gr : w.grownBy W (some g)
  res : W.heap[w.heap.size]? = some (.cells #[.int .i64 0, .string ⟨#[]⟩, .slice none 0 0, .string ⟨#[]⟩, .slice none 0 0] 44 (0, 0))
  lt : g < w.heap.size
theorem ESt.step {w W W' : World} {g : Nat} {s : ByteArray} {p p' : PSt} (h : ESt w g s p W) (hP : PAt 190 W' g s p') (hG : W.grownBy W' (some g)) : ESt w g s p' W' :=
  ⟨hP, gr_trans h.gr hG, (hG.block _ (heap_lt h.res) (by have := h.lt; simp; omega)).trans h.res, h.lt⟩
theorem ESt.hand {w W W' : World} {m g : Nat} {s : ByteArray} {p p' : PSt} {F : Fm} {x : Value} (h : ESt w g s p W) (hF : FmP m g s F p' W x W') (a0 a1 a2 a3 a4 : Value) :
    FmP m g s F p' w x (((((W'.setCell ⟨w.heap.size, 0, none⟩ a0).setCell ⟨w.heap.size, 1, none⟩ a1).setCell ⟨w.heap.size, 2, none⟩ a2).setCell ⟨w.heap.size, 3, none⟩ a3).setCell ⟨w.heap.size, 4, none⟩ a4) :=
  FmP.of hF.2.1 (gr_trans h.gr hF.2.2) (Below.refl _ _) hF.1 (fun _ hb => ⟨Nat.lt_of_lt_of_le (heap_lt h.res) hb.1, hb.2⟩) (Nat.le_refl _) h.lt _ _ _ _ _
theorem FmP.form {m g : Nat} {s : ByteArray} {F : Fm} {p' : PSt} {w w' : World} {x : Value} (h : FmP m g s F p' w x w') : ∃ q1 d1 q2 d2, x = .agg #[.int .i64 F.op, .string F.a.n, .slice q1 F.a.us.length d1, .string F.v, .slice q2 F.ps.length d2] := by
  obtain ⟨⟨v0, v1, v2, v3, v4, rfl, hO⟩, _⟩ := h
  obtain ⟨q1, d1, q2, d2, rfl, rfl, rfl, rfl, rfl, -⟩ := hO.form
  exact ⟨q1, d1, q2, d2, rfl⟩
theorem ESt.kept {w W W' : World} {m g : Nat} {s : ByteArray} {p p' : PSt} {F : Fm} {x : Value} (h : ESt w g s p W) (hF : FmP m g s F p' W x W') : W'.heap[w.heap.size]? = some (.cells #[.int .i64 0, .string ⟨#[]⟩, .slice none 0 0, .string ⟨#[]⟩, .slice none 0 0] 44 (0, 0)) :=
  (hF.2.2.block _ (heap_lt h.res) (by have := h.lt; simp; omega)).trans h.res
theorem FmP.wrap {m n g : Nat} {s : ByteArray} {F F' : Fm} {p' : PSt} {w w' w5 : World} {x y : Value} (h : FmP m g s F p' w x w') (hV : FmV n (fun b => NewB w w' b ∨ NewB w' w5 b) w5 F' y) (hb : Below w'.heap.size w' w5) (_ : True ∨ n = n) : FmP n g s F' p' w y w5 := by
  obtain ⟨v0, v1, v2, v3, v4, rfl, hO⟩ := hV
  have h1 := h.2.2.size
  have h2 := hb.size
  refine ⟨⟨_, _, _, _, _, rfl, FmOwn.mono _ _ _ _ (Nat.le_refl _) (SameOn.refl _ _) (fun b hb => ?_) hO⟩, h.2.1.below hb, gr_below h.2.2 hb⟩
  rcases hb with hb | hb
  · exact ⟨hb.1, Nat.lt_of_lt_of_le hb.2 h2⟩
  · exact ⟨Nat.le_trans h1 hb.1, hb.2⟩
open Go.RowKit Go.Maps
def D8 : DataW Unit := (((DataW.map []).put (.int .i64 5) (.lit (.string sAnd8))).put (.int .i64 6) (.lit (.string sOr8))).put (.int .i64 7) (.lit (.string sImp8))
theorem D8_at (x : Int) (z : DataW Unit) : D8.atKey (.int .i64 x) z = if x = 5 ∨ x = 6 ∨ x = 7 then .lit (.string (sign8 x)) else z := by
  by_cases h5 : x = 5
  · subst h5; rfl
  · by_cases h6 : x = 6
    · subst h6; rfl
    · by_cases h7 : x = 7
      · subst h7; rfl
      · rw [if_neg (by omega), D8, atKey_put_other (by simpa using h7), atKey_put_other (by simpa using h6), atKey_put_other (by simpa using h5)]
        rfl
theorem D8_entry {x : Int} {c : List UInt8} (h : ∀ zd, D8.atKey (.int .i64 x) zd = .lit (.string c)) : (x = 5 ∨ x = 6 ∨ x = 7) ∧ c = sign8 x := by
  by_cases hx : x = 5 ∨ x = 6 ∨ x = 7
  · have := h (.map [])
    rw [D8_at, if_pos hx] at this
    simp only [DataW.lit.injEq, Lit.string.injEq] at this
    exact ⟨hx, this.symm⟩
  · have := h (.map [])
    rw [D8_at, if_neg hx] at this
    cases this
theorem pSign_of {L : List UInt8} {p : PSt} {x : Int} (hx : x = 5 ∨ x = 6 ∨ x = 7) (h : pTake L (sign8 x) p = true) : pSign L p = x := by
  have key : ∀ t u : List UInt8, pTake L t p = true → t.length ≤ 3 + 1 → t[1]? ≠ u[1]? → 1 < t.length → 1 < u.length → pTake L u p = false := fun t u ht _ hne h1 h2 => by
    rw [Bool.eq_false_iff]; intro hu
    simp only [pTake, Bool.and_eq_true] at ht hu
    obtain ⟨X, hX⟩ := List.isPrefixOf_iff_prefix.1 ht.2
    obtain ⟨Y, hY⟩ := List.isPrefixOf_iff_prefix.1 hu.2
    have e1 : (L.drop p.pos)[1]? = t[1]? := by rw [← hX, List.getElem?_append_left h1]
    have e2 : (L.drop p.pos)[1]? = u[1]? := by rw [← hY, List.getElem?_append_left h2]
    exact hne (e1.symm.trans e2)
  rcases hx with rfl | rfl | rfl
  · have h : pTake L sAnd8 p = true := h
    rw [pSign, if_pos h]
  · have h : pTake L sOr8 p = true := h
    rw [pSign, if_neg (by rw [key _ sAnd8 h (by decide) (by decide) (by decide) (by decide)]; simp), if_pos h]
  · have h : pTake L sImp8 p = true := h
    rw [pSign, if_neg (by rw [key _ sAnd8 h (by decide) (by decide) (by decide) (by decide)]; simp), if_neg (by rw [key _ sOr8 h (by decide) (by decide) (by decide) (by decide)]; simp), if_pos h]
theorem pSign_no {L : List UInt8} {p : PSt} (h : ∀ x : Int, x = 5 ∨ x = 6 ∨ x = 7 → pTake L (sign8 x) p = false) : pSign L p = 0 := by
  have h5 : pTake L sAnd8 p = false := h 5 (.inl rfl)
  have h6 : pTake L sOr8 p = false := h 6 (.inr (.inl rfl))
  have h7 : pTake L sImp8 p = false := h 7 (.inr (.inr rfl))
  rw [pSign, h5, h6, h7]; rfl
theorem strE_of (s : ByteArray) (h : s.size ≤ maxLen) : plainElem (H := Unit) Tryz.prog 9 (.string s) = some (.lit (.string s.data.toList), []) := plainElem_string Tryz.underlying9 h
theorem key8 (n : Int) (h : (Lit.int .i64 n).wf = true) : keyOf Tryz.prog 3 (.int .i64 n) = some (.int .i64 n) := keyOf_int_mk Tryz.underlying3 h
set_option maxHeartbeats 1600000 in
theorem signs_any (w : World) : Calls Tryz.prog 231 #[] w fun e w' => ∃ b, e = .returned (.map (some b)) ∧ w'.ownsMap Tryz.prog 3 (plainElem (H := Unit) Tryz.prog 9) b 3 D8 ∧ w.heap.size ≤ b ∧ Below w.heap.size w w' := by
  have hmm := @run_makeMap Tryz.prog
  have hown0 := World.ownsMap_made w Tryz.prog 3 (plainElem (H := Unit) Tryz.prog 9)
  obtain ⟨w1, hr1, hown1, hg1⟩ := hown0.update (int_keyed Tryz.underlying3) Tryz.underlying217 (by unfold maxLen; omega) (key8 5 (by decide)) (strE_of ⟨#[32, 38, 32]⟩ (by decide))
  obtain ⟨w2, hr2, hown2, hg2⟩ := hown1.update (int_keyed Tryz.underlying3) Tryz.underlying217 (by unfold maxLen; omega) (key8 6 (by decide)) (strE_of ⟨#[32, 124, 32]⟩ (by decide))
  obtain ⟨w3, hr3, hown3, hg3⟩ := hown2.update (int_keyed Tryz.underlying3) Tryz.underlying217 (by unfold maxLen; omega) (key8 7 (by decide)) (strE_of ⟨#[32, 61, 62, 32]⟩ (by decide))
  have HG := Lib.hid ((hg1.trans hg2).trans hg3)
  have HO := Lib.hid hown3
  clear hown0 hown1 hown2 hown3 hg1 hg2 hg3
  go_enter Tryz.func231, Tryz.ntmps231
  go_wp2
  go_ret
  have hz := HG.out.size
  simp at hz
  exact ⟨_, rfl, HO.out, Nat.le_refl _, HG.out.os, HG.out.tape, HG.out.output, by omega, fun b hb => (HG.out.block b (by simp; omega) (by simp; omega)).trans (hao w _ b hb)⟩
open Go.RowKit Go.Maps
structure ISt (m g top : Nat) (s : ByteArray) (w : World) (bt : Nat) (F : Fm) (p : PSt) (y0 y1 y2 y3 y4 : Value) (W : World) : Prop where
  at_ : PAt 190 W g s p
  gr : w.grownBy W (some g)
  res : W.heap[w.heap.size]? = some (.cells #[.int .i64 0, .string ⟨#[]⟩, .slice none 0 0, .string ⟨#[]⟩, .slice none 0 0] 44 (0, 0))
  cellb : W.heap[bt]? = some (.cells #[y0, y1, y2, y3, y4] 44 (0, 0))
  fm : FmV m (fun b => w.heap.size < b ∧ b ≠ bt ∧ b < top) W F (.agg #[y0, y1, y2, y3, y4])
  lt : g < w.heap.size ∧ w.heap.size < bt ∧ bt < W.heap.size ∧ top ≤ W.heap.size
theorem ISt.form {m g top : Nat} {s : ByteArray} {w W : World} {bt : Nat} {F : Fm} {p : PSt} {y0 y1 y2 y3 y4 : Value} (h : ISt m g top s w bt F p y0 y1 y2 y3 y4 W) : ∃ q1 d1 q2 d2, y0 = .int .i64 F.op ∧ y1 = .string F.a.n ∧ y2 = .slice q1 F.a.us.length d1 ∧ y3 = .string F.v ∧ y4 = .slice q2 F.ps.length d2 := by
  obtain ⟨v0, v1, v2, v3, v4, he, hO⟩ := h.fm
  simp only [Value.agg.injEq, Array.mk.injEq, List.cons.injEq, and_true] at he
  obtain ⟨rfl, rfl, rfl, rfl, rfl⟩ := he
  obtain ⟨q1, d1, q2, d2, h1, h2, h3, h4, h5, -⟩ := hO.form
  exact ⟨q1, d1, q2, d2, h1, h2, h3, h4, h5⟩
theorem ISt.move {m g top r : Nat} {s : ByteArray} {w W W' : World} {bt : Nat} {F : Fm} {p p' : PSt} {y0 y1 y2 y3 y4 : Value} (h : ISt m g top s w bt F p y0 y1 y2 y3 y4 W) (hP : PAt 190 W' g s p') (hG : W.grownBy W' (some r)) (hr : r = g ∨ (w.heap.size < r ∧ r ≠ bt ∧ top ≤ r)) : ISt m g top s w bt F p' y0 y1 y2 y3 y4 W' := by
  obtain ⟨l1, l2, l3, l4⟩ := h.lt
  have hz := hG.size
  obtain ⟨v0, v1, v2, v3, v4, he, hO⟩ := h.fm
  have hgz := h.gr.size
  refine ⟨hP, ⟨hG.os.trans h.gr.os, hG.tape.trans h.gr.tape, hG.output.trans h.gr.output, by omega, fun b hb hne => ?_⟩, (hG.block _ (by omega) (by simp; omega)).trans h.res, (hG.block _ l3 (by simp; omega)).trans h.cellb, ⟨_, _, _, _, _, he, FmOwn.mono _ _ _ _ (Nat.le_refl _) (fun b hb _ => hG.block b (by omega) (by simp; omega)) (fun _ h => h) hO⟩, l1, l2, by omega, by omega⟩
  have h1 : ¬ b = g := by simpa using hne
  exact (hG.block b (by omega) (by simp; omega)).trans (h.gr.block b hb hne)
theorem ISt.step {m g top : Nat} {s : ByteArray} {w W W' : World} {bt : Nat} {F : Fm} {p p' : PSt} {y0 y1 y2 y3 y4 : Value} (h : ISt m g top s w bt F p y0 y1 y2 y3 y4 W) (hP : PAt 190 W' g s p') (hG : W.grownBy W' (some g)) : ISt m g top s w bt F p' y0 y1 y2 y3 y4 W' := h.move hP hG (.inl rfl)
theorem ISt.later {m g top : Nat} {s : ByteArray} {w W W' : World} {bt : Nat} {F : Fm} {p : PSt} {y0 y1 y2 y3 y4 : Value} (h : ISt m g top s w bt F p y0 y1 y2 y3 y4 W) (hb : Below W.heap.size W W') : ISt m g top s w bt F p y0 y1 y2 y3 y4 W' :=
  h.move (h.at_.below hb) ⟨hb.os, hb.tape, hb.output, hb.size, fun b hlt _ => hb.block b hlt⟩ (.inl rfl)
def InnSt (m g bt : Nat) (s : ByteArray) (F : Fm) (pq : PSt) (w0 : World) (CP : Value → World → Prop) (y0 y1 y2 y3 y4 : Value) (W : World) : Nat → (Nat → Value) → World → Prop
  | 0, _, w => w = W.drew
  | 1, u, w => CP (u 3) w
  | 2, u, w => w.heap[bt]? = some (.cells #[y0, y1, y2, y3, y4] 44 (0, 0)) ∧ FmV m (fun b => w0.heap.size < b ∧ b ≠ bt ∧ b < w.heap.size) w F (u 4) ∧ PAt 190 w g s pq ∧ W.grownBy w (some g)
  | 3, _, w => ∃ w5 z0 z1 z2 z3 z4, (w5.heap[bt]? = some (.cells #[y0, y1, y2, y3, y4] 44 (0, 0)) ∧ FmV m (fun b => w0.heap.size < b ∧ b ≠ bt ∧ b < w5.heap.size) w5 F (.agg #[z0, z1, z2, z3, z4]) ∧ PAt 190 w5 g s pq ∧ W.grownBy w5 (some g)) ∧ w = ((((w5.setCell ⟨bt, 0, none⟩ z0).setCell ⟨bt, 1, none⟩ z1).setCell ⟨bt, 2, none⟩ z2).setCell ⟨bt, 3, none⟩ z3).setCell ⟨bt, 4, none⟩ z4
  | _, _, _ => False
theorem ISt.set {m m' g top : Nat} {s : ByteArray} {w W w5 : World} {bt : Nat} {F F' : Fm} {p pq : PSt} {y0 y1 y2 y3 y4 z0 z1 z2 z3 z4 : Value} (h : ISt m g top s w bt F p y0 y1 y2 y3 y4 W) (hb : w5.heap[bt]? = some (.cells #[y0, y1, y2, y3, y4] 44 (0, 0))) (hF : FmV m' (fun b => w.heap.size < b ∧ b ≠ bt ∧ b < w5.heap.size) w5 F' (.agg #[z0, z1, z2, z3, z4])) (hP : PAt 190 w5 g s pq) (hG : W.grownBy w5 (some g)) :
    ISt m' g w5.heap.size s w bt F' pq z0 z1 z2 z3 z4 (((((w5.setCell ⟨bt, 0, none⟩ z0).setCell ⟨bt, 1, none⟩ z1).setCell ⟨bt, 2, none⟩ z2).setCell ⟨bt, 3, none⟩ z3).setCell ⟨bt, 4, none⟩ z4) := by
  obtain ⟨l1, l2, l3, l4⟩ := h.lt
  have hz := hG.size
  have hgz := h.gr.size
  have hk : ∀ b, b ≠ bt → (((((w5.setCell ⟨bt, 0, none⟩ z0).setCell ⟨bt, 1, none⟩ z1).setCell ⟨bt, 2, none⟩ z2).setCell ⟨bt, 3, none⟩ z3).setCell ⟨bt, 4, none⟩ z4).heap[b]? = w5.heap[b]? := fun b hb => by
    repeat rw [heap_setCell_other _ _ _ _ (fun e => hb e)]
  obtain ⟨v0, v1, v2, v3, v4, he, hO⟩ := hF
  have G := gr_trans h.gr hG
  refine ⟨(hk g (by omega)).trans hP, gr_sc (gr_sc (gr_sc (gr_sc (gr_sc G (.inr (by simp; omega)) _) (.inr (by simp; omega)) _) (.inr (by simp; omega)) _) (.inr (by simp; omega)) _) (.inr (by simp; omega)) _, (hk _ (by omega)).trans ((hG.block _ (by omega) (by simp; omega)).trans h.res), ?_, ⟨_, _, _, _, _, he, FmOwn.mono _ _ _ _ (Nat.le_refl _) (fun b hb _ => hk b hb.2.1) (fun _ h => h) hO⟩, l1, l2, by simp; omega, by simp⟩
  have h1 := heap_setCell_same _ bt 0 _ 44 z0 hb
  have h2 := heap_setCell_same _ bt 1 _ 44 z1 h1
  have h3 := heap_setCell_same _ bt 2 _ 44 z2 h2
  have h4 := heap_setCell_same _ bt 3 _ 44 z3 h3
  have h5 := heap_setCell_same _ bt 4 _ 44 z4 h4
  simpa using h5
def FrmC (f : Nat) : Prop := ∀ (g : Nat) (s : ByteArray) (p : PSt) (w : World), PAt 190 w g s p → p.pos ≤ s.size → s.size ≤ 1000000 → 2 * (s.size - p.pos) + 1 < f →
    Calls Tryz.prog 186 #[.pointer (some ⟨g, 0, none⟩)] w fun e w' => ∃ x, e = .returned x ∧ FmP (f + s.size + 6) g s (pFrm s.data.toList f p).1 (pFrm s.data.toList f p).2 w x w'
def InnRel (m g bt r b : Nat) (s : ByteArray) (w : World) (F : Fm) (p : PSt) (y0 y1 y2 y3 y4 : Value) (wr : World) : Prop :=
  ∃ left cnt, wr.ranges Tryz.prog 3 (plainElem (H := Unit) Tryz.prog 9) b r 3 D8 left cnt ∧ ISt m g bt s w bt F p y0 y1 y2 y3 y4 wr ∧ (∀ x : Int, x = 5 ∨ x = 6 ∨ x = 7 → left (.int .i64 x) = false → pTake s.data.toList (sign8 x) p = false)
set_option maxHeartbeats 6400000 in
theorem inner_of (f : Nat) (ih : FrmC f) (g : Nat) (s : ByteArray) (p : PSt) (w : World) (h : PAt 190 w g s p) (hp : p.pos ≤ s.size) (hs : s.size ≤ 1000000) (hf : 2 * (s.size - p.pos) + 1 < f) :
    Calls Tryz.prog 228 #[.pointer (some ⟨g, 0, none⟩)] w fun e w' => ∃ x, e = .returned x ∧ FmP (f + 1 + s.size + 6) g s (pInn s.data.toList (f + 1) p).1 (pInn s.data.toList (f + 1) p).2 w x w' := by
  have H := Lib.hid h
  have hg := bsz h.lt
  have IH := Lib.hid ih
  have hpos := pFrm_wt s.data.toList f p (by rw [← size_list]; exact hp)
  have HINN := Lib.hid (show pInn s.data.toList (f + 1) p = if pSign s.data.toList (pFrm s.data.toList f p).2 = 0 then ((pFrm s.data.toList f p).1, pMust s.data.toList [41] (pFrm s.data.toList f p).2)
    else (opF (pSign s.data.toList (pFrm s.data.toList f p).2) [(pFrm s.data.toList f p).1, (pFrm s.data.toList f (pAdv (sign8 (pSign s.data.toList (pFrm s.data.toList f p).2)) (pFrm s.data.toList f p).2)).1], pMust s.data.toList [41] (pFrm s.data.toList f (pAdv (sign8 (pSign s.data.toList (pFrm s.data.toList f p).2)) (pFrm s.data.toList f p).2)).2) by rw [pInn])
  clear h ih
  go_enter Tryz.func228, Tryz.ntmps228
  go_wp2_with fail
  refine (IH.out g s p _ (H.out.below (by exact bel)) hp hs hf).mono ?_
  rintro e w1 ⟨x, rfl, ⟨v0, v1, v2, v3, v4, rfl, hO⟩, hP1, hg1⟩
  obtain ⟨q1, d1, q2, d2, rfl, rfl, rfl, rfl, rfl, -⟩ := hO.form
  generalize pFrm s.data.toList f p = r at *
  obtain ⟨F1, p1⟩ := r
  simp only at hpos hO hP1 HINN ⊢
  rw [← size_list] at hpos
  have hz1 := hg1.size
  (try simp at hz1)
  have HI1 := Lib.hid (show ISt (f + s.size + 6) g w1.heap.size s w w1.heap.size F1 p1 _ _ _ _ _ (w1.alloc (.cells #[.int .i64 F1.op, .string F1.a.n, .slice q1 F1.a.us.length d1, .string F1.v, .slice q2 F1.ps.length d2] 44)) from
    ⟨(hao w1 _ g (by omega)).trans hP1, gr_al (gr_trans (gr_al (gr_refl w g) _) hg1) _, (hao w1 _ _ (by omega)).trans ((hg1.block _ (by simp) (by simp; omega)).trans (heap_alloc_new w _)), heap_alloc_new w1 _,
      ⟨_, _, _, _, _, rfl, FmOwn.mono _ _ _ _ (Nat.le_refl _) (fun b hb _ => hao w1 _ b (by omega)) (fun b hb => by have := hb.1; simp at this; exact ⟨by omega, by have := hb.2; omega, hb.2⟩) hO⟩, by omega, by omega, by simp, by simp⟩)
  clear hO hP1 hg1
  go_wp2_with fail
  refine (signs_any _).mono ?_
  rintro e w2 ⟨b, rfl, hmap, hbb, hb2⟩
  have HI2 := Lib.hid (HI1.out.later hb2)
  have hq2 := hb2.size
  (try simp at hq2 hbb)
  clear HI1 hb2
  go_wp2_with (first | (at_range; refine wpList_range_own _ rfl _ 217 rfl 3 9 (int_keyed Tryz.underlying3) Tryz.underlying217 _ b 3 D8 rfl hmap ?_; intro w3 hrg hg3 hs3))
  go_frame
  have HI3 := Lib.hid (HI2.out.later (⟨hg3.os, hg3.tape, hg3.output, hg3.size, fun b hb => hg3.block b hb (by simp)⟩ : Below w2.heap.size w2 w3))
  clear HI2 hmap hg3
  have HPS := Lib.hid hpos
  clear hpos
  go_loopw [4, 5] (fun _ _ wr => InnRel (f + s.size + 6) g w1.heap.size w2.heap.size b s w F1 p1 (.int .i64 F1.op) (.string F1.a.n) (.slice q1 F1.a.us.length d1) (.string F1.v) (.slice q2 F1.ps.length d2) wr) (fun _ _ wr => wr.rangeLeft b w2.heap.size)
  case atStart => exact ⟨_, _, hrg, HI3.out, fun x hx hl => by rcases hx with rfl | rfl | rfl <;> exact absurd hl (by decide)⟩
  case round =>
    obtain ⟨left, cnt, hrg, hI, hno⟩ := hrel
    have HIR := Lib.hid hI
    have HNO := Lib.hid hno
    have HRG := Lib.hid hrg
    clear hI hno HI3
    go_wp2_with (first | (at_next; refine wpList_next_ranges_is _ rfl _ rfl 3 9 .i64 (int_keyed Tryz.underlying3) Tryz.underlying3 Tryz.underlying9 b w2.heap.size 3 D8 left cnt rfl hrg ?_ ?_))
    · intro hc0 hl0
      have HFIN := Lib.hid (show pInn s.data.toList (f + 1) p = (F1, pMust s.data.toList [41] p1) by rw [HINN.out, if_pos (pSign_no fun x hx => HNO.out x hx (hl0 _))])
      have HI := Lib.hid HIR.out
      have hpe2 := HPS.out.2
      obtain ⟨pe, hpe⟩ : ∃ pe, p1 = pe := ⟨_, rfl⟩
      obtain ⟨FE, hFE⟩ : ∃ FE, F1 = FE := ⟨_, rfl⟩
      clear hrg hl0 HNO HRG HIR
      go_wp2_with fail
      subst hpe
      refine (must_any g s _ p1 _ (PAt.below HI.out.at_ (by exact bel)) hpe2 (by omega) (by decide)).mono ?_
      rw [show (⟨#[41]⟩ : ByteArray).data.toList = [41] from rfl]
      rintro e w9 ⟨_, rfl, rfl, h9, hg9⟩
      have HI9 := Lib.hid (HI.out.step h9 hg9)
      clear h9 hg9
      obtain ⟨b0, b1, b2, b3, b4, bf⟩ := cells5_cell HI9.out.cellb
      obtain ⟨r0, r1, r2, r3, r4, rf⟩ := cells5_cell HI9.out.res
      have hrb := bsz (heap_lt HI9.out.res)
      have hbb := bsz (heap_lt HI9.out.cellb)
      have hlt9 := HI9.out.lt
      go_wp2
      refine bodyPost_ret (v := .agg #[.int .i64 F1.op, .string F1.a.n, .slice q1 F1.a.us.length d1, .string F1.v, .slice q2 F1.ps.length d2]) (by simp only [results, Tryz.results228]; go_simp) rfl ⟨_, rfl, ?_⟩
      rw [HFIN.out]
      exact FmP.mono (by omega) (FmP.of HI9.out.at_ HI9.out.gr (Below.refl _ _) HI9.out.fm (fun b hb => ⟨hb.1, by omega⟩) (Nat.le_refl _) hlt9.1 _ _ _ _ _)
    · intro x c w4 cnt' hwx hwc hlx hat hrg4 hlt hg4 hs4 hen
      obtain ⟨hx, hc⟩ := D8_entry hat
      have hl := HIR.out.lt
      have HI4 := Lib.hid (HIR.out.move ((hg4.block g (by omega) (by simp; omega)).trans HIR.out.at_) hg4 (.inr ⟨by omega, by omega, by omega⟩))
      have hcs : c.size ≤ 4 := by rw [size_list, hc]; exact (sign8_len x).2
      have HX := Lib.hid hx
      have HC := Lib.hid hc
      have HRG4 := Lib.hid hrg4
      have hbg : b ≠ g := by omega
      have hxi : -9223372036854775808 ≤ x ∧ x ≤ 9223372036854775807 := by omega
      clear hrg hat hrg4 hx hc hg4 hlx HIR
      cases hT : pTake s.data.toList (sign8 x) p1
      · have HT := Lib.hid hT
        clear hT
        go_wp2_with fail
        refine (take_any g s c p1 _ (PAt.below HI4.out.at_ (by exact bel)) HPS.out.2 (by omega) (by omega)).mono ?_
        rw [HC.out, HT.out]
        rintro e w5 ⟨_, rfl, rfl, h5, hg5⟩
        have HI5 := Lib.hid (HI4.out.step (p' := p1) h5 hg5)
        have HRG5 := Lib.hid (HRG4.out.kept hg5 (by simp; omega) (by simp; omega))
        clear h5 hg5
        go_wp2
        refine ⟨⟨_, cnt', HRG5.out, HI5.out, fun y hy hl => ?_⟩, ?_⟩
        · have hl : (left (.int .i64 y) && !(Lit.int .i64 y).sameKey (.int .i64 x)) = false := hl
          have hX := HX.out
          have hTT := HT.out
          have hN := HNO.out y hy
          rcases hX with rfl | rfl | rfl <;> rcases hy with rfl | rfl | rfl <;> first | exact hTT | exact hN (by simpa [Lit.sameKey] using hl)
        · rw [HRG5.out.left_eq, HRG.out.left_eq]; exact hlt
      · have HT := Lib.hid hT
        have hle := pTake_le hT (by rw [← size_list]; exact HPS.out.2)
        rw [← size_list] at hle
        have h3 := (sign8_len x).1
        have HFIN0 := Lib.hid (show pInn s.data.toList (f + 1) p = (opF x [F1, (pFrm s.data.toList f (pAdv (sign8 x) p1)).1], pMust s.data.toList [41] (pFrm s.data.toList f (pAdv (sign8 x) p1)).2) by
          have hS := pSign_of HX.out hT
          have hX := HX.out
          rw [HINN.out, hS, if_neg (by omega)])
        clear hT
        go_wp2_with fail
        refine (take_any g s c p1 _ (PAt.below HI4.out.at_ (by exact bel)) HPS.out.2 (by omega) (by omega)).mono ?_
        rw [HC.out, HT.out]
        rintro e w5 ⟨_, rfl, rfl, h5, hg5⟩
        have HI5 := Lib.hid (HI4.out.step (p' := pAdv (sign8 x) p1) h5 hg5)
        have hl5 := HI5.out.lt
        clear h5 hg5
        go_wp2
        obtain ⟨F2, hF2⟩ : ∃ F2, (pFrm s.data.toList f (pAdv (sign8 x) p1)).1 = F2 := ⟨_, rfl⟩
        obtain ⟨pq, hpq⟩ : ∃ pq, (pFrm s.data.toList f (pAdv (sign8 x) p1)).2 = pq := ⟨_, rfl⟩
        have HF2 := Lib.hid hF2
        have HPQ := Lib.hid hpq
        have HRD := Lib.hid (show (pAdv (sign8 x) p1).pos ≤ s.size ∧ 2 * (s.size - (pAdv (sign8 x) p1).pos) + 1 < f by have := HPS.out; simp only [pAdv]; omega)
        have hpp := pFrm_wt s.data.toList f (pAdv (sign8 x) p1) (by rw [← size_list]; exact HRD.out.1)
        rw [hpq, ← size_list] at hpp
        have hpe2 := hpp.2
        have HFIN := Lib.hid (show pInn s.data.toList (f + 1) p = (opF x [F1, F2], pMust s.data.toList [41] pq) by rw [HFIN0.out, hF2, hpq])
        clear hF2 hpq hpp HFIN0
        obtain ⟨CP, hCP0⟩ : ∃ CP : Value → World → Prop, CP = FmP (f + s.size + 6) g s F2 pq w5.drew := ⟨_, rfl⟩
        have HCP := Lib.hid hCP0
        have HGR := Lib.hid (show ∀ x w', CP x w' → w5.grownBy w' (some g) from by
          rw [hCP0]; rintro x w' ⟨_, _, hG⟩; exact ⟨hG.os, hG.tape, hG.output, hG.size, hG.block⟩)
        clear hCP0
        refine wp_region_stages [some (.int .i64 x), some (.agg #[.int .i64 F1.op, .string F1.a.n, .slice q1 F1.a.us.length d1, .string F1.v, .slice q2 F1.ps.length d2]), some (.pointer (some ⟨g, 0, none⟩)), none, none, none] [3, 4, 5] (InnSt (f + s.size + 7) g w1.heap.size s (opF x [F1, F2]) pq w CP (.int .i64 F1.op) (.string F1.a.n) (.slice q1 F1.a.us.length d1) (.string F1.v) (.slice q2 F1.ps.length d2) w5) (by kernel_rfl) (by kernel_rfl) (by first | kernel_rfl | rfl) (by rfl) rfl ?_
        refine chain_st rfl rfl (by decide) rfl (by intro j u w' hS; go_simp; first | done | exact ⟨hS, rfl⟩ | exact hS | rfl) ?_
        go_simp
        refine chain_stb (c := 4) 1 rfl rfl (by decide) rfl rfl rfl (by first | kernel_rfl | rfl) ?_ ?_
        · intro j u w' hj hS
          obtain ⟨hc0, hc1, hc2, hc3, hc4, -⟩ : w'.cell? ⟨w1.heap.size, 0, none⟩ = some (.int .i64 F1.op) ∧ w'.cell? ⟨w1.heap.size, 1, none⟩ = some (.string F1.a.n) ∧ w'.cell? ⟨w1.heap.size, 2, none⟩ = some (.slice q1 F1.a.us.length d1) ∧ w'.cell? ⟨w1.heap.size, 3, none⟩ = some (.string F1.v) ∧ w'.cell? ⟨w1.heap.size, 4, none⟩ = some (.slice q2 F1.ps.length d2) ∧ (∀ j, w'.frozen? ⟨w1.heap.size, j, none⟩ = false) := by
            match j, hj, hS with
            | 0, _, h => obtain rfl : w' = w5.drew := h; exact cells5_cell HI5.out.cellb
            | 1, _, h => exact cells5_cell (((HGR.out _ _ h).block _ hl5.2.2.1 (by simp; omega)).trans HI5.out.cellb)
          go_simp
          first | done | exact ⟨hS, rfl⟩ | exact hS | rfl
        go_simp
        refine chain_st rfl rfl (by decide) rfl (by intro j u w' hS; go_simp; first | done | exact ⟨hS, rfl⟩ | exact hS | rfl) ?_
        go_simp
        refine chain_first rfl rfl rfl (by decide) rfl ?_ ?_
        · intro w' hS
          obtain rfl : w' = w5.drew := hS
          go_simp
          refine (IH.out g s _ _ (PAt.below HI5.out.at_ (by exact bel)) HRD.out.1 hs HRD.out.2).mono ?_
          rintro e w'' ⟨x', he, hx'⟩
          rw [HF2.out, HPQ.out] at hx'
          exact ⟨x', he, by show CP (upd _ 3 x' 3) w''; rw [upd_same, HCP.out]; exact hx'⟩
        intro xv
        go_simp
        refine chain_next 0 rfl rfl rfl rfl (by decide) rfl (by first | kernel_rfl | rfl) ?_ ?_
        · intro w' hS
          have hS : CP (upd _ 3 xv 3) w' := hS
          rw [upd_same] at hS
          have hG := HGR.out _ _ hS
          have HGX := Lib.hid hG
          rw [HCP.out] at hS
          have HS := Lib.hid hS
          have hzz := hG.size
          have HI6 := Lib.hid (HI5.out.step HS.out.2.1 hG)
          clear hG hS
          go_simp
          refine (binary_any (f + s.size + 5) x hxi (fun b => w.heap.size < b ∧ b ≠ w1.heap.size ∧ b < w1.heap.size) (NewB w5.drew w') F1 F2 _ xv w' HI6.out.fm HS.out.1 (fun b hb => by omega) (fun b hb => hb.2) (fun b hb hb' => by have := hb'.1; have : w5.heap.size ≤ b := this; omega)).mono ?_
          rintro e w6 ⟨y, rfl, hV, hb6⟩
          refine ⟨y, rfl, ?_⟩
          show InnSt _ _ _ _ _ _ _ _ _ _ _ _ _ _ 2 (upd _ 4 y) w6
          have hq6 := hb6.size
          refine ⟨(hb6.block _ (by omega)).trans HI6.out.cellb, ?_, HI6.out.at_.below hb6, gr_below HGX.out hb6⟩
          rw [upd_same]
          obtain ⟨y0, y1, y2, y3, y4, rfl, hO5⟩ := hV
          refine ⟨_, _, _, _, _, rfl, FmOwn.mono _ _ _ _ (Nat.le_refl _) (SameOn.refl _ _) (fun b hb => ?_) hO5⟩
          rcases hb with hb | hb | hb
          · exact ⟨hb.1, hb.2.1, by omega⟩
          · have h1 : w5.heap.size ≤ b := hb.1
            have := hb.2; exact ⟨by omega, by omega, by omega⟩
          · have := hb.1; have := hb.2; exact ⟨by omega, by omega, by omega⟩
        intro y
        go_simp
        refine chain_next 1 rfl rfl rfl rfl (by decide) rfl (by first | kernel_rfl | rfl) ?_ ?_
        · intro w' hS
          obtain ⟨hcb, hV, hP, hG⟩ := hS
          rw [upd_same] at hV
          have HS := Lib.hid (And.intro hcb (And.intro hV (And.intro hP hG)))
          obtain ⟨y0, y1, y2, y3, y4, rfl, hO⟩ := hV
          obtain ⟨e1, c1, e2, c2, rfl, rfl, rfl, rfl, rfl, -⟩ := hO.form
          obtain ⟨r0, r1, r2, r3, r4, rf⟩ := cells5_cell hcb
          clear hP hG hO hcb
          go_simp
          exact ⟨w', _, _, _, _, _, HS.out, rfl⟩
        intro x'
        refine flowU_nil ?_
        intro wz hz
        obtain ⟨w6, z0, z1, z2, z3, z4, ⟨hcb, hV, hP, hG⟩, rfl⟩ := hz
        have HI := Lib.hid (ISt.set HI5.out hcb hV hP hG)
        obtain ⟨e1, c1, e2, c2, rfl, rfl, rfl, rfl, rfl⟩ := HI.out.form
        clear hcb hV hP hG
        obtain ⟨W7, hW7⟩ : ∃ W7 : World, W7 = ((((w6.setCell ⟨w1.heap.size, 0, none⟩ (.int .i64 (opF x [F1, F2]).op)).setCell ⟨w1.heap.size, 1, none⟩ (.string (opF x [F1, F2]).a.n)).setCell ⟨w1.heap.size, 2, none⟩ (.slice e1 (opF x [F1, F2]).a.us.length c1)).setCell ⟨w1.heap.size, 3, none⟩ (.string (opF x [F1, F2]).v)).setCell ⟨w1.heap.size, 4, none⟩ (.slice e2 (opF x [F1, F2]).ps.length c2) := ⟨_, rfl⟩
        rw [← hW7] at HI ⊢
        clear hW7
        go_simp
        go_wp2_with fail
        refine (must_any g s _ pq _ (PAt.below HI.out.at_ (by exact bel)) hpe2 (by omega) (by decide)).mono ?_
        rw [show (⟨#[41]⟩ : ByteArray).data.toList = [41] from rfl]
        rintro e w9 ⟨_, rfl, rfl, h9, hg9⟩
        have HI9 := Lib.hid (HI.out.step h9 hg9)
        clear h9 hg9
        obtain ⟨b0, b1, b2, b3, b4, bf⟩ := cells5_cell HI9.out.cellb
        obtain ⟨r0, r1, r2, r3, r4, rf⟩ := cells5_cell HI9.out.res
        have hrb := bsz (heap_lt HI9.out.res)
        have hbb := bsz (heap_lt HI9.out.cellb)
        have hlt9 := HI9.out.lt
        go_wp2
        refine bodyPost_ret (v := .agg #[.int .i64 (opF x [F1, F2]).op, .string (opF x [F1, F2]).a.n, .slice e1 (opF x [F1, F2]).a.us.length c1, .string (opF x [F1, F2]).v, .slice e2 (opF x [F1, F2]).ps.length c2]) (by simp only [results, Tryz.results228]; go_simp) rfl ⟨_, rfl, ?_⟩
        rw [HFIN.out]
        exact FmP.mono (by omega) (FmP.of HI9.out.at_ HI9.out.gr (Below.refl _ _) HI9.out.fm (fun b hb => ⟨hb.1, by omega⟩) (Nat.le_refl _) hlt9.1 _ _ _ _ _)
end Go.Proofs.YtkgfanajgdelcaaGreatDoor
