/- The reference's reader: what its smallest steps answer. Conditions: it stands inside its text. -/
import Derived.Test.YtdklemmincejpaaGreatEtcPart2
import Derived.Test.YtdklemmincejpaaGreatEtcPart6
import Derived.Test.YtdklemmincejpaaGreatEtcPart7
import Derived.Test.YtdklemmincejpaaGreatEtcPart8
import Derived.Test.YtdklemmincejpaaGreatEtcPart10
namespace Go.Proofs.YtdklemmincejpaaGreat
open Go.RowKit
theorem FmP.mono {m n g : Nat} {s : ByteArray} {F : Fm} {p' : PSt} {w w' : World} {x : Value} (hm : m ≤ n) (h : FmP m g s F p' w x w') : FmP n g s F p' w x w' := by
  obtain ⟨⟨v0, v1, v2, v3, v4, hx, hO⟩, h2⟩ := h
  exact ⟨⟨v0, v1, v2, v3, v4, hx, FmOwn.mono _ _ _ _ hm (SameOn.refl _ _) (fun _ h => h) hO⟩, h2⟩
/-- An equation's formula, before it is handed over. -/
def EqQ (m g rb : Nat) (s : ByteArray) (F : Fm) (pq : PSt) (ro : Obj) (w0 : World) (y : Value) (w : World) : Prop :=
  PAt 57 w g s pq ∧ w0.grownBy w (some g) ∧ FmV m (fun b => rb < b ∧ b < w.heap.size) w F y ∧ w.heap[rb]? = some ro
def EqSt (m g rb : Nat) (s : ByteArray) (F : Fm) (pq : PSt) (ro : Obj) (w0 : World) (CP : Value → World → Prop) (a0 a1 : Value) (W : World) : Nat → (Nat → Value) → World → Prop
  | 0, _, w => w = W.drew
  | 1, u, w => CP (u 2) w
  | 2, u, w => ∃ w1 v0 v1, CP (.agg #[v0, v1]) w1 ∧ u 3 = .slice (some ⟨w1.heap.size, 0, none⟩) 2 2 ∧ w = w1.alloc (.cells #[a0, a1, v0, v1] 24)
  | 3, u, w => ∃ w1 v0 v1, CP (.agg #[v0, v1]) w1 ∧ u 4 = .agg #[.string ⟨#[61]⟩, .slice (some ⟨w1.heap.size, 0, none⟩) 2 2] ∧ w = w1.alloc (.cells #[a0, a1, v0, v1] 24)
  | 4, u, w => EqQ m g rb s F pq ro w0 (u 5) w
  | 5, u, w => ∃ w5 y0 y1 y2 y3 y4, EqQ m g rb s F pq ro w0 (.agg #[y0, y1, y2, y3, y4]) w5 ∧ w = ((((w5.setCell ⟨rb, 0, none⟩ y0).setCell ⟨rb, 1, none⟩ y1).setCell ⟨rb, 2, none⟩ y2).setCell ⟨rb, 3, none⟩ y3).setCell ⟨rb, 4, none⟩ y4
  | _, _, _ => False
theorem EqSt.cells {m g rb bt : Nat} {s : ByteArray} {F : Fm} {pq : PSt} {ro : Obj} {w0 : World} {CP : Value → World → Prop} {a0 a1 x0 x1 : Value} {W : World} (hG : ∀ x w', CP x w' → W.grownBy w' (some g)) (h0 : W.cell? ⟨bt, 0, none⟩ = some x0) (h1 : W.cell? ⟨bt, 1, none⟩ = some x1) (hne : bt ≠ g) {j : Nat} (hj : j ≤ 1) {u : Nat → Value} {w : World}
    (h : EqSt m g rb s F pq ro w0 CP a0 a1 W j u w) : w.cell? ⟨bt, 0, none⟩ = some x0 ∧ w.cell? ⟨bt, 1, none⟩ = some x1 := by
  match j, hj, h with
  | 0, _, h => obtain rfl : w = W.drew := h; exact ⟨h0, h1⟩
  | 1, _, h => exact ⟨grown_cell (hG _ _ h) h0 (by simpa using hne), grown_cell (hG _ _ h) h1 (by simpa using hne)⟩
theorem EqQ.made {f g rb bt : Nat} {s : ByteArray} {p pq : PSt} {ro : Obj} {w0 W w1 w5 : World} {n : List UInt8} {v v0 v1 y : Value} {xs : List Tm} {tq : Tm} (h : TSt 24 57 ro w0 g rb bt s n p v xs f W) (hn : n.length ≤ 1000000) (hT : TermP 24 g W.heap.size s f tq pq 57 W.drew (.agg #[v0, v1]) w1)
    (hb : Below (w1.alloc (.cells #[.string ⟨n.toArray⟩, v, v0, v1] 24)).heap.size (w1.alloc (.cells #[.string ⟨n.toArray⟩, v, v0, v1] 24)) w5)
    (hV : FmV (f + 3) (fun b => rb < b ∧ b < w1.heap.size + 1) w5 (atomOfF (eqTm (.mk ⟨n.toArray⟩ xs) tq)) y) : EqQ (f + 3) g rb s (atomOfF (eqTm (.mk ⟨n.toArray⟩ xs) tq)) pq ro w0 y w5 := by
  obtain ⟨v0', v1', he, hO, hP, hG⟩ := hT
  obtain ⟨l1, l2, l3, l4⟩ := h.lt
  have hz : W.heap.size ≤ w1.heap.size := hG.size
  have hzb := hb.size
  simp at hzb
  have hk : ∀ b, b < w1.heap.size → w5.heap[b]? = w1.heap[b]? := fun b hlt => (hb.block b (by simp; omega)).trans (hao w1 _ _ hlt)
  have hG1 : W.grownBy w1 (some g) := ⟨hG.os, hG.tape, hG.output, hG.size, hG.block⟩
  refine ⟨(hk g (by omega)).trans hP, gr_below (gr_al (gr_trans h.gr hG1) _) hb, ?_, (hk rb (by omega)).trans ((hG1.block rb (by omega) (by simp; omega)).trans h.res)⟩
  obtain ⟨y0, y1, y2, y3, y4, rfl, hO5⟩ := hV
  exact ⟨_, _, _, _, _, rfl, FmOwn.mono _ _ _ _ (Nat.le_refl _) (SameOn.refl _ _) (fun b hb => ⟨hb.1, by omega⟩) hO5⟩
/-- The equation's term, owned, in the world in which its arguments' slice has been made. -/
theorem eq_own {f g rb bt : Nat} {s : ByteArray} {p pq : PSt} {ro : Obj} {w0 W w1 : World} {n : List UInt8} {v v0 v1 : Value} {xs : List Tm} {tq : Tm} (h : TSt 24 57 ro w0 g rb bt s n p v xs f W) (hn : n.length ≤ 1000000) (hT : TermP 24 g W.heap.size s f tq pq 57 W.drew (.agg #[v0, v1]) w1) :
    TmOwn 24 (f + 2) (fun b => rb < b ∧ b < w1.heap.size + 1) (w1.alloc (.cells #[.string ⟨n.toArray⟩, v, v0, v1] 24)) (eqTm (.mk ⟨n.toArray⟩ xs) tq) [.string ⟨#[61]⟩, .slice (some ⟨w1.heap.size, 0, none⟩) 2 2] := by
  obtain ⟨v0', v1', he, hO, hP, hG⟩ := hT
  simp only [Value.agg.injEq, Array.mk.injEq, List.cons.injEq, and_true] at he
  obtain ⟨rfl, rfl⟩ := he
  obtain ⟨l1, l2, l3, l4⟩ := h.lt
  have hz : W.heap.size ≤ w1.heap.size := hG.size
  have hG1 : W.grownBy w1 (some g) := ⟨hG.os, hG.tape, hG.output, hG.size, hG.block⟩
  have h1 := TmOwn.mono (f + 1) (f + 1) _ _ (Nat.le_refl _) (w' := w1) (fun b hb hlt => hG1.block b hlt (by simp; omega)) (fun _ h => h) (h.term hn)
  refine ⟨_, rfl, by decide, ?_⟩
  exact OwnRow.two' rfl [.string ⟨n.toArray⟩, v] [v0, v1] _ rfl rfl rfl (TmOwn.below ((Below.refl _ _).alloc (Nat.le_refl _) _) h1) (TmOwn.mono f (f + 1) _ _ (by omega) (SameOn.below ((Below.refl _ _).alloc (Nat.le_refl _) _)) (fun _ h => h) hO)
    (fun b hb => by omega) (fun b hb => hb.2) (fun b hb hb' => by omega) (fun b hb => by omega) (fun b hb => by omega) (by omega)
set_option maxRecDepth 100000 in
set_option maxHeartbeats 3200000 in
theorem atomEnglish_eq (f g : Nat) (s : ByteArray) (p : PSt) (w : World) (h : PAt 57 w g s p) (hp : p.pos ≤ s.size) (hs : s.size ≤ 1000000) (hf : s.size - p.pos < f)
    (h1 : pTake s.data.toList sEquals (pTerm s.data.toList f p).2 = true) :
    Calls Tryz.prog 67 #[.pointer (some ⟨g, 0, none⟩)] w fun e w' => ∃ x, e = .returned x ∧ FmP (f + 3) g s (pAtom s.data.toList f p).1 (pAtom s.data.toList f p).2 w x w' := by
  have H := Lib.hid h
  have hg := bsz h.lt
  have hpos := pTerm_pos s.data.toList f p (by rw [← size_list]; exact hp)
  rw [← size_list] at hpos
  have hnm := pTerm_name s.data.toList f p
  rw [← size_list, ← size_list] at hnm
  have hle := pTake_le h1 (by rw [← size_list]; exact hpos.2)
  rw [← size_list] at hle
  have hl8 : sEquals.length = 8 := rfl
  have HA := Lib.hid h1
  have HPA := Lib.hid (show pAtom s.data.toList f p = (atomOfF (eqTm (pTerm s.data.toList f p).1 (pTerm s.data.toList f (pAdv sEquals (pTerm s.data.toList f p).2)).1), (pTerm s.data.toList f (pAdv sEquals (pTerm s.data.toList f p).2)).2) by rw [pAtom, h1]; rfl)
  clear h h1
  go_enter Tryz.func67, Tryz.ntmps67
  go_wp2_with fail
  refine (term_any f g s p _ (H.out.below (by (repeat (first | with_reducible exact Below.refl _ _ | with_reducible assumption | with_reducible refine Below.al ?_ _ | with_reducible refine Below.sc ?_ (by first | exact Nat.le_refl _ | (simp; done) | (simp; omega)) _ | assumption | exact Below.refl _ _ | refine Below.dr ?_ | refine Below.drN ?_ _ | refine Below.step ?_ (by assumption))))) hp hs hf).mono ?_
  rintro e w1 ⟨x, rfl, v0, v1, rfl, hO, hP1, hg1⟩
  obtain ⟨pp, cc, rfl, rfl, -⟩ := hO.form
  generalize pTerm s.data.toList f p = r at *
  obtain ⟨t, p1⟩ := r
  simp only at hpos hO HA hP1 HPA hnm hle
  have HO := Lib.hid (show TmOwn 24 f (fun b => w.heap.size + 1 ≤ b ∧ b < w1.heap.size) w1 t _ by simpa using hO)
  have HG1 := Lib.hid hg1
  have ⟨c1, f1⟩ := gcell hg1
  have hz1 := hg1.size
  (try simp at hz1)
  have HP1 := Lib.hid hP1
  clear hO hP1 hg1
  go_wp2_with fail
  refine (take_any g s _ p1 _ (HP1.out.below (by (repeat (first | with_reducible exact Below.refl _ _ | with_reducible assumption | with_reducible refine Below.al ?_ _ | with_reducible refine Below.sc ?_ (by first | exact Nat.le_refl _ | (simp; done) | (simp; omega)) _ | assumption | exact Below.refl _ _ | refine Below.dr ?_ | refine Below.drN ?_ _ | refine Below.step ?_ (by assumption))))) hpos.2 (by omega) (by decide)).mono ?_
  rw [show (⟨#[32, 101, 113, 117, 97, 108, 115, 32]⟩ : ByteArray).data.toList = sEquals from rfl, HA.out]
  rintro e w2 ⟨_, rfl, rfl, h2, hg2⟩
  have HTS := Lib.hid (TSt.initT (s := s) (p := pAdv sEquals p1) (by omega) HO.out HG1.out hg2 h2)
  clear h2 hg2 c1 f1
  obtain ⟨hb0, hb1, -⟩ := cells2_cell HTS.out.cell
  have HB := Lib.hid (And.intro (show w2.cell? ⟨w1.heap.size, 0, none⟩ = some (.string t.n) from hb0) hb1)
  have hlt := HTS.out.lt
  clear hb0 hb1
  go_wp2
  obtain ⟨tq, htq⟩ : ∃ tq, (pTerm s.data.toList f (pAdv sEquals p1)).1 = tq := ⟨_, rfl⟩
  obtain ⟨pq, hpq⟩ : ∃ pq, (pTerm s.data.toList f (pAdv sEquals p1)).2 = pq := ⟨_, rfl⟩
  have HTQ := Lib.hid htq
  have HPQ := Lib.hid hpq
  have HRD := Lib.hid (show (pAdv sEquals p1).pos ≤ s.size ∧ s.size - (pAdv sEquals p1).pos < f by simp only [pAdv]; omega)
  have HPA2 := Lib.hid (show pAtom s.data.toList f p = (atomOfF (eqTm t tq), pq) by rw [HPA.out, htq, hpq])
  clear htq hpq
  obtain ⟨CP, hCP0⟩ : ∃ CP : Value → World → Prop, CP = TermP 24 g w2.heap.size s f tq pq 57 w2.drew := ⟨_, rfl⟩
  have HCP := Lib.hid hCP0
  have HGR := Lib.hid (show ∀ x w', CP x w' → w2.grownBy w' (some g) from by
    rw [hCP0]; rintro x w' ⟨_, _, _, _, _, hG⟩; exact ⟨hG.os, hG.tape, hG.output, hG.size, hG.block⟩)
  have HAGG := Lib.hid (show ∀ x w', CP x w' → ∃ pp cc, x = .agg #[.string tq.n, .slice pp tq.us.length cc] from by
    rw [hCP0]; rintro x w' ⟨v0, v1, hx, hO, _, _⟩
    obtain ⟨pp, cc, rfl, rfl, -⟩ := hO.form
    exact ⟨_, _, hx⟩)
  clear hCP0
  refine wp_region_stages [some (.agg #[.string t.n, .slice pp t.us.length cc]), some (.pointer (some ⟨g, 0, none⟩)), none, none, none, none, none] [2, 3, 4, 5, 6] (EqSt (f + 3) g w.heap.size s (atomOfF (eqTm t tq)) pq (.cells #[.int .i64 0, .string ⟨#[]⟩, .slice none 0 0, .string ⟨#[]⟩, .slice none 0 0] 27 (0, 0)) w CP (.string t.n) (.slice pp t.us.length cc) w2) (by kernel_rfl) (by kernel_rfl) (by first | kernel_rfl | rfl) (by rfl) rfl ?_
  refine chain_stb (c := 3) 1 rfl rfl (by decide) rfl rfl rfl (by first | kernel_rfl | rfl) ?_ ?_
  · intro j u w' hj hS
    obtain ⟨hc0, hc1⟩ := EqSt.cells HGR.out HB.out.1 HB.out.2 (by omega) hj hS
    go_simp
    first | done | exact ⟨hS, rfl⟩ | exact hS | rfl
  go_simp
  refine chain_st rfl rfl (by decide) rfl (by intro j u w' hS; go_simp; first | done | exact ⟨hS, rfl⟩ | exact hS | rfl) ?_
  go_simp
  refine chain_first rfl rfl rfl (by decide) rfl ?_ ?_
  · intro w' hS
    obtain rfl : w' = w2.drew := hS
    go_simp
    refine (term_any f g s _ _ (PAt.below HTS.out.at_ (by (repeat (first | with_reducible exact Below.refl _ _ | with_reducible assumption | with_reducible refine Below.al ?_ _ | with_reducible refine Below.sc ?_ (by first | exact Nat.le_refl _ | (simp; done) | (simp; omega)) _ | assumption | exact Below.refl _ _ | refine Below.dr ?_ | refine Below.drN ?_ _ | refine Below.step ?_ (by assumption))))) HRD.out.1 hs HRD.out.2).mono ?_
    rintro e w'' ⟨x, he, hx⟩
    rw [HTQ.out, HPQ.out] at hx
    exact ⟨x, he, by show CP (upd _ 2 x 2) w''; rw [upd_same, HCP.out]; exact hx⟩
  intro x
  go_simp
  refine chain_next 0 rfl rfl rfl rfl (by decide) rfl (by first | kernel_rfl | rfl) ?_ ?_
  · intro w' hS
    have hS : CP (upd _ 2 x 2) w' := hS
    rw [upd_same] at hS
    obtain ⟨pp4, cc4, rfl⟩ := HAGG.out _ _ hS
    go_simp
    exact ⟨w', _, _, hS, by rw [upd_same], rfl⟩
  intro y
  go_simp
  refine chain_next 1 rfl rfl rfl rfl (by decide) rfl (by first | kernel_rfl | rfl) ?_ ?_
  · intro w' hS
    obtain ⟨w3, v0, v1, hcp, hy, rfl⟩ := hS
    rw [upd_same] at hy
    subst hy
    go_simp
    exact ⟨w3, v0, v1, hcp, by rw [upd_same], rfl⟩
  intro z
  go_simp
  refine chain_next 2 rfl rfl rfl rfl (by decide) rfl (by first | kernel_rfl | rfl) ?_ ?_
  · intro w' hS
    obtain ⟨w3, v0, v1, hcp, hy, rfl⟩ := hS
    rw [upd_same] at hy
    subst hy
    have HE := Lib.hid (eq_own HTS.out (by rw [← size_list]; omega) (by rw [HCP.out] at hcp; exact hcp))
    have HCPP := Lib.hid hcp
    go_simp
    refine (atomOf_any (f + 2) _ _ _ _ _ HE.out).mono ?_
    rintro e w5 ⟨q, rfl, hV, hb5⟩
    refine ⟨q, rfl, ?_⟩
    show EqQ _ _ _ _ _ _ _ _ (upd _ 5 q 5) w5
    rw [upd_same]
    have hcp := HCPP.out
    rw [HCP.out] at hcp
    have hte : (Tm.mk ⟨t.n.data.toList.toArray⟩ t.us) = t := by obtain ⟨n, us⟩ := t; rfl
    have hq := EqQ.made HTS.out (by rw [← size_list]; omega) hcp hb5 hV
    rw [hte] at hq
    exact hq
  intro q
  go_simp
  refine chain_next 3 rfl rfl rfl rfl (by decide) rfl (by first | kernel_rfl | rfl) ?_ ?_
  · intro w' hS
    have hS : EqQ _ _ _ _ _ _ _ _ (upd _ 5 q 5) w' := hS
    rw [upd_same] at hS
    have HS := Lib.hid hS
    obtain ⟨hQ1, hQ2, ⟨y0, y1, y2, y3, y4, rfl, hO⟩, hro⟩ := hS
    obtain ⟨q1, d1, q2, d2, rfl, rfl, rfl, rfl, rfl, -⟩ := hO.form
    obtain ⟨r0, r1, r2, r3, r4, rf⟩ := cells5_cell hro
    clear hQ1 hQ2 hO hro
    go_simp
    exact ⟨w', _, _, _, _, _, HS.out, rfl⟩
  intro x'
  refine flowU_nil ?_
  intro wz hz
  obtain ⟨w5, y0, y1, y2, y3, y4, hQ, rfl⟩ := hz
  have HQ := Lib.hid hQ
  obtain ⟨hQ1, hQ2, ⟨y0', y1', y2', y3', y4', he, hO⟩, hro⟩ := hQ
  simp only [Value.agg.injEq, Array.mk.injEq, List.cons.injEq, and_true] at he
  obtain ⟨rfl, rfl, rfl, rfl, rfl⟩ := he
  obtain ⟨q1, d1, q2, d2, rfl, rfl, rfl, rfl, rfl, -⟩ := hO.form
  obtain ⟨r0, r1, r2, r3, r4, rf⟩ := cells5_cell hro
  clear hQ1 hQ2 hO hro
  go_simp
  go_wp2
  refine bodyPost_ret (v := .agg #[.int .i64 (atomOfF (eqTm t tq)).op, .string (atomOfF (eqTm t tq)).a.n, .slice q1 (atomOfF (eqTm t tq)).a.us.length d1, .string (atomOfF (eqTm t tq)).v, .slice q2 (atomOfF (eqTm t tq)).ps.length d2]) (by simp only [results, Tryz.results67]; go_simp) rfl ⟨_, rfl, ?_⟩
  rw [HPA2.out]
  exact FmP.of HQ.out.1 HQ.out.2.1 (Below.refl _ _) HQ.out.2.2.1 (fun b hb => hb) (Nat.le_refl _) (by omega) _ _ _ _ _
theorem readAtom_any (f g : Nat) (s : ByteArray) (p : PSt) (w : World) (h : PAt 57 w g s p) (hp : p.pos ≤ s.size) (hs : s.size ≤ 1000000) (hf : s.size - p.pos < f) :
    Calls Tryz.prog 67 #[.pointer (some ⟨g, 0, none⟩)] w fun e w' => ∃ x, e = .returned x ∧ FmP (f + 3) g s (pAtom s.data.toList f p).1 (pAtom s.data.toList f p).2 w x w' := by
  cases h1 : pTake s.data.toList sEquals (pTerm s.data.toList f p).2
  · cases h2 : pTake s.data.toList sHoldsOf (pTerm s.data.toList f p).2
    · exact (atomEnglish_one f g s p w h hp hs hf h1 h2).mono fun e w' ⟨x, he, hx⟩ => ⟨x, he, hx.mono (by omega)⟩
    · exact (atomEnglish_of f g s p w h hp hs hf h1 h2).mono fun e w' ⟨x, he, hx⟩ => ⟨x, he, hx.mono (by omega)⟩
  · exact atomEnglish_eq f g s p w h hp hs hf h1
end Go.Proofs.YtdklemmincejpaaGreat
namespace Go.Proofs.YtdklemmincejpaaGreat
open Go.RowKit
def PairSt (m g rb : Nat) (s : ByteArray) (F : Fm) (pq : PSt) (ro : Obj) (w0 : World) (CP : Value → World → Prop) (W : World) : Nat → (Nat → Value) → World → Prop
  | 0, _, w => w = W.drew
  | 1, u, w => CP (u 3) w
  | 2, u, w => EqQ m g rb s F pq ro w0 (u 4) w
  | 3, u, w => ∃ w5 y0 y1 y2 y3 y4, EqQ m g rb s F pq ro w0 (.agg #[y0, y1, y2, y3, y4]) w5 ∧ w = ((((w5.setCell ⟨rb, 0, none⟩ y0).setCell ⟨rb, 1, none⟩ y1).setCell ⟨rb, 2, none⟩ y2).setCell ⟨rb, 3, none⟩ y3).setCell ⟨rb, 4, none⟩ y4
  | _, _, _ => False
def EngP (f : Nat) : Prop := ∀ (g : Nat) (s : ByteArray) (p : PSt) (w : World), PAt 57 w g s p → p.pos ≤ s.size → s.size ≤ 1000000 → s.size - p.pos + 1 < f →
    Calls Tryz.prog 29 #[.pointer (some ⟨g, 0, none⟩)] w fun e w' => ∃ x, e = .returned x ∧ FmP (f + 3) g s (pEng s.data.toList f p).1 (pEng s.data.toList f p).2 w x w'
set_option maxRecDepth 100000 in
set_option maxHeartbeats 3200000 in
theorem readPair_any (f : Nat) (ih : EngP f) (g : Nat) (s word : ByteArray) (hwd : word.size ≤ 1000000) (op : Int) (ho : -9223372036854775808 ≤ op ∧ op ≤ 9223372036854775807) (p : PSt) (w : World) (h : PAt 57 w g s p) (hp : p.pos ≤ s.size) (hs : s.size ≤ 1000000) (hf : s.size - p.pos + 1 < f) :
    Calls Tryz.prog 63 #[.pointer (some ⟨g, 0, none⟩), .int .i64 op, .string word] w fun e w' => ∃ x, e = .returned x ∧
      FmP (f + 4) g s (opF op [(pEng s.data.toList f p).1, (pEng s.data.toList f (pMust s.data.toList word.data.toList (pEng s.data.toList f p).2)).1]) (pEng s.data.toList f (pMust s.data.toList word.data.toList (pEng s.data.toList f p).2)).2 w x w' := by
  have H := Lib.hid h
  have hg := bsz h.lt
  have IH := Lib.hid ih
  have hpos := pEng_pos s.data.toList f p (by rw [← size_list]; exact hp)
  clear h ih
  go_enter Tryz.func63, Tryz.ntmps63
  go_wp2_with fail
  refine (IH.out g s p _ (H.out.below (by (repeat (first | with_reducible exact Below.refl _ _ | with_reducible assumption | with_reducible refine Below.al ?_ _ | with_reducible refine Below.sc ?_ (by first | exact Nat.le_refl _ | (simp; done) | (simp; omega)) _ | assumption | exact Below.refl _ _ | refine Below.dr ?_ | refine Below.drN ?_ _ | refine Below.step ?_ (by assumption))))) hp hs hf).mono ?_
  rintro e w1 ⟨x, rfl, ⟨v0, v1, v2, v3, v4, rfl, hO⟩, hP1, hg1⟩
  obtain ⟨q1, d1, q2, d2, rfl, rfl, rfl, rfl, rfl, -⟩ := hO.form
  generalize hr : pEng s.data.toList f p = r at *
  obtain ⟨F1, p1⟩ := r
  have HR := Lib.hid hr
  clear hr
  simp only at hpos hO hP1 ⊢
  have hpm := pMust_pos s.data.toList word.data.toList p1 hpos.2
  rw [← size_list] at hpos hpm
  have HO := Lib.hid hO
  have HG1 := Lib.hid hg1
  have hz1 := hg1.size
  (try simp at hz1)
  have HP1 := Lib.hid hP1
  clear hO hP1 hg1
  go_wp2_with fail
  refine (must_any g s word p1 _ (HP1.out.below (by (repeat (first | with_reducible exact Below.refl _ _ | with_reducible assumption | with_reducible refine Below.al ?_ _ | with_reducible refine Below.sc ?_ (by first | exact Nat.le_refl _ | (simp; done) | (simp; omega)) _ | assumption | exact Below.refl _ _ | refine Below.dr ?_ | refine Below.drN ?_ _ | refine Below.step ?_ (by assumption))))) hpos.2 (by omega) (by omega)).mono ?_
  rintro e w2 ⟨_, rfl, rfl, h2, hg2⟩
  have hz2 := hg2.size
  (try simp at hz2)
  have hbox := (hg2.block w1.heap.size (by simp) (by simp; omega)).trans (heap_alloc_new w1 _)
  have HK := Lib.hid (show ∀ b, b < w1.heap.size → b ≠ g → w2.heap[b]? = w1.heap[b]? from fun b hb hne => (hg2.block b (by simp; omega) (by simp; omega)).trans (hao w1 _ _ hb))
  have HRO := Lib.hid (show w2.heap[w.heap.size]? = some (.cells #[.int .i64 0, .string ⟨#[]⟩, .slice none 0 0, .string ⟨#[]⟩, .slice none 0 0] 27 (0, 0)) from (HK.out _ (by omega) (by omega)).trans ((HG1.out.block w.heap.size (by simp) (by simp; omega)).trans (heap_alloc_new w _)))
  have HG2 := Lib.hid (gr_trans (gr_al (gr_trans (gr_al (gr_refl w g) _) HG1.out) _) hg2)
  have HP2 := Lib.hid h2
  obtain ⟨hb0, hb1, hb2, hb3, hb4, -⟩ := cells5_cell hbox
  have HB := Lib.hid (And.intro hb0 (And.intro hb1 (And.intro hb2 (And.intro hb3 hb4))))
  clear hg2 h2 hb0 hb1 hb2 hb3 hb4 hbox
  go_wp2
  obtain ⟨F2, hF2⟩ : ∃ F2, (pEng s.data.toList f (pMust s.data.toList word.data.toList p1)).1 = F2 := ⟨_, rfl⟩
  obtain ⟨pq, hpq⟩ : ∃ pq, (pEng s.data.toList f (pMust s.data.toList word.data.toList p1)).2 = pq := ⟨_, rfl⟩
  have HF2 := Lib.hid hF2
  have HPQ := Lib.hid hpq
  clear hF2 hpq
  obtain ⟨CP, hCP0⟩ : ∃ CP : Value → World → Prop, CP = FmP (f + 3) g s F2 pq w2.drew := ⟨_, rfl⟩
  have HCP := Lib.hid hCP0
  have HGR := Lib.hid (show ∀ x w', CP x w' → w2.grownBy w' (some g) from by
    rw [hCP0]; rintro x w' ⟨_, _, hG⟩; exact ⟨hG.os, hG.tape, hG.output, hG.size, hG.block⟩)
  clear hCP0
  refine wp_region_stages [some (.int .i64 op), some (.agg #[.int .i64 F1.op, .string F1.a.n, .slice q1 F1.a.us.length d1, .string F1.v, .slice q2 F1.ps.length d2]), some (.pointer (some ⟨g, 0, none⟩)), none, none, none] [3, 4, 5] (PairSt (f + 4) g w.heap.size s (opF op [F1, F2]) pq (.cells #[.int .i64 0, .string ⟨#[]⟩, .slice none 0 0, .string ⟨#[]⟩, .slice none 0 0] 27 (0, 0)) w CP w2) (by kernel_rfl) (by kernel_rfl) (by first | kernel_rfl | rfl) (by rfl) rfl ?_
  refine chain_st rfl rfl (by decide) rfl (by intro j u w' hS; go_simp; first | done | exact ⟨hS, rfl⟩ | exact hS | rfl) ?_
  go_simp
  refine chain_stb (c := 4) 1 rfl rfl (by decide) rfl rfl rfl (by first | kernel_rfl | rfl) ?_ ?_
  · intro j u w' hj hS
    obtain ⟨hc0, hc1, hc2, hc3, hc4⟩ : w'.cell? ⟨w1.heap.size, 0, none⟩ = some (.int .i64 F1.op) ∧ w'.cell? ⟨w1.heap.size, 1, none⟩ = some (.string F1.a.n) ∧ w'.cell? ⟨w1.heap.size, 2, none⟩ = some (.slice q1 F1.a.us.length d1) ∧ w'.cell? ⟨w1.heap.size, 3, none⟩ = some (.string F1.v) ∧ w'.cell? ⟨w1.heap.size, 4, none⟩ = some (.slice q2 F1.ps.length d2) := by
      have hne : (some w1.heap.size : Option Nat) ≠ some g := by simp; omega
      match j, hj, hS with
      | 0, _, h => obtain rfl : w' = w2.drew := h; exact HB.out
      | 1, _, h =>
        have hG := HGR.out _ _ h
        exact ⟨grown_cell hG HB.out.1 hne, grown_cell hG HB.out.2.1 hne, grown_cell hG HB.out.2.2.1 hne, grown_cell hG HB.out.2.2.2.1 hne, grown_cell hG HB.out.2.2.2.2 hne⟩
    go_simp
    first | done | exact ⟨hS, rfl⟩ | exact hS | rfl
  go_simp
  refine chain_st rfl rfl (by decide) rfl (by intro j u w' hS; go_simp; first | done | exact ⟨hS, rfl⟩ | exact hS | rfl) ?_
  go_simp
  refine chain_first rfl rfl rfl (by decide) rfl ?_ ?_
  · intro w' hS
    obtain rfl : w' = w2.drew := hS
    go_simp
    refine (IH.out g s _ _ (PAt.below HP2.out (by (repeat (first | with_reducible exact Below.refl _ _ | with_reducible assumption | with_reducible refine Below.al ?_ _ | with_reducible refine Below.sc ?_ (by first | exact Nat.le_refl _ | (simp; done) | (simp; omega)) _ | assumption | exact Below.refl _ _ | refine Below.dr ?_ | refine Below.drN ?_ _ | refine Below.step ?_ (by assumption))))) hpm.2 hs (by omega)).mono ?_
    rintro e w'' ⟨x, he, hx⟩
    rw [HF2.out, HPQ.out] at hx
    exact ⟨x, he, by show CP (upd _ 3 x 3) w''; rw [upd_same, HCP.out]; exact hx⟩
  intro x
  go_simp
  refine chain_next 0 rfl rfl rfl rfl (by decide) rfl (by first | kernel_rfl | rfl) ?_ ?_
  · intro w' hS
    have hS : CP (upd _ 3 x 3) w' := hS
    rw [upd_same] at hS
    have hG := HGR.out _ _ hS
    have HGX := Lib.hid hG
    rw [HCP.out] at hS
    have HS := Lib.hid hS
    have hzz := hG.size
    clear hG hS
    go_simp
    refine (binary_any (f + 2) op ho (fun b => w.heap.size + 1 ≤ b ∧ b < w1.heap.size) (NewB w2.drew w') F1 F2 _ x w' ⟨_, _, _, _, _, rfl, FmOwn.mono _ _ _ _ (Nat.le_refl _) (fun b hb hlt => by
      have h1 : b < w1.heap.size := hb.2
      have h0 : w.heap.size + 1 ≤ b := by simpa using hb.1
      exact (HGX.out.block b (by omega) (by simp; omega)).trans (HK.out b h1 (by omega))) (fun b hb => by simpa [NewB] using hb) HO.out⟩ HS.out.1 (fun b hb => by omega) (fun b hb => hb.2) (fun b hb hb' => by have := hb'.1; have : w2.heap.size ≤ b := this; omega)).mono ?_
    rintro e w5 ⟨y, rfl, hV, hb5⟩
    refine ⟨y, rfl, ?_⟩
    show EqQ _ _ _ _ _ _ _ _ (upd _ 4 y 4) w5
    rw [upd_same]
    have hq5 := hb5.size
    refine ⟨HS.out.2.1.below hb5, gr_below (gr_trans HG2.out HGX.out) hb5, ?_, (hb5.block _ (by omega)).trans ((HGX.out.block _ (by omega) (by simp; omega)).trans HRO.out)⟩
    obtain ⟨y0, y1, y2, y3, y4, rfl, hO5⟩ := hV
    refine ⟨_, _, _, _, _, rfl, FmOwn.mono _ _ _ _ (Nat.le_refl _) (SameOn.refl _ _) (fun b hb => ?_) hO5⟩
    rcases hb with hb | hb | hb
    · omega
    · have h1 : w2.heap.size ≤ b := hb.1
      have := hb.2; omega
    · have := hb.1; have := hb.2; omega
  intro y
  go_simp
  refine chain_next 1 rfl rfl rfl rfl (by decide) rfl (by first | kernel_rfl | rfl) ?_ ?_
  · intro w' hS
    have hS : EqQ _ _ _ _ _ _ _ _ (upd _ 4 y 4) w' := hS
    rw [upd_same] at hS
    have HS := Lib.hid hS
    obtain ⟨hQ1, hQ2, ⟨y0, y1, y2, y3, y4, rfl, hO⟩, hro⟩ := hS
    obtain ⟨e1, c1, e2, c2, rfl, rfl, rfl, rfl, rfl, -⟩ := hO.form
    obtain ⟨r0, r1, r2, r3, r4, rf⟩ := cells5_cell hro
    clear hQ1 hQ2 hO hro
    go_simp
    exact ⟨w', _, _, _, _, _, HS.out, rfl⟩
  intro x'
  refine flowU_nil ?_
  intro wz hz
  obtain ⟨w5, y0, y1, y2, y3, y4, hQ, rfl⟩ := hz
  have HQ := Lib.hid hQ
  obtain ⟨hQ1, hQ2, ⟨y0', y1', y2', y3', y4', he, hO⟩, hro⟩ := hQ
  simp only [Value.agg.injEq, Array.mk.injEq, List.cons.injEq, and_true] at he
  obtain ⟨rfl, rfl, rfl, rfl, rfl⟩ := he
  obtain ⟨e1, c1, e2, c2, rfl, rfl, rfl, rfl, rfl, -⟩ := hO.form
  obtain ⟨r0, r1, r2, r3, r4, rf⟩ := cells5_cell hro
  clear hQ1 hQ2 hO hro
  go_simp
  go_wp2
  refine bodyPost_ret (v := .agg #[.int .i64 (opF op [F1, F2]).op, .string (opF op [F1, F2]).a.n, .slice e1 (opF op [F1, F2]).a.us.length c1, .string (opF op [F1, F2]).v, .slice e2 (opF op [F1, F2]).ps.length c2]) (by simp only [results, Tryz.results63]; go_simp) rfl ⟨_, rfl, ?_⟩
  rw [HR.out]
  show FmP (f + 4) g s (opF op [F1, (pEng s.data.toList f (pMust s.data.toList word.data.toList p1)).1]) (pEng s.data.toList f (pMust s.data.toList word.data.toList p1)).2 w _ _
  rw [HF2.out, HPQ.out]
  exact FmP.of HQ.out.1 HQ.out.2.1 (Below.refl _ _) HQ.out.2.2.1 (fun b hb => hb) (Nat.le_refl _) (by omega) _ _ _ _ _
end Go.Proofs.YtdklemmincejpaaGreat
namespace Go.Proofs.YtdklemmincejpaaGreat
open Go.RowKit
/-- The result's block waits, the reader is in state p. -/
structure ESt (w : World) (g : Nat) (s : ByteArray) (p : PSt) (W : World) : Prop where
  at_ : PAt 57 W g s p
  gr : w.grownBy W (some g)
  res : W.heap[w.heap.size]? = some (.cells #[.int .i64 0, .string ⟨#[]⟩, .slice none 0 0, .string ⟨#[]⟩, .slice none 0 0] 27 (0, 0))
  lt : g < w.heap.size
theorem ESt.step {w W W' : World} {g : Nat} {s : ByteArray} {p p' : PSt} (h : ESt w g s p W) (hP : PAt 57 W' g s p') (hG : W.grownBy W' (some g)) : ESt w g s p' W' :=
  ⟨hP, gr_trans h.gr hG, (hG.block _ (heap_lt h.res) (by have := h.lt; simp; omega)).trans h.res, h.lt⟩
theorem ESt.hand {w W W' : World} {m g : Nat} {s : ByteArray} {p p' : PSt} {F : Fm} {x : Value} (h : ESt w g s p W) (hF : FmP m g s F p' W x W') (a0 a1 a2 a3 a4 : Value) :
    FmP m g s F p' w x (((((W'.setCell ⟨w.heap.size, 0, none⟩ a0).setCell ⟨w.heap.size, 1, none⟩ a1).setCell ⟨w.heap.size, 2, none⟩ a2).setCell ⟨w.heap.size, 3, none⟩ a3).setCell ⟨w.heap.size, 4, none⟩ a4) :=
  FmP.of hF.2.1 (gr_trans h.gr hF.2.2) (Below.refl _ _) hF.1 (fun b hb => ⟨Nat.lt_of_lt_of_le (heap_lt h.res) hb.1, hb.2⟩) (Nat.le_refl _) h.lt _ _ _ _ _
theorem FmP.form {m g : Nat} {s : ByteArray} {F : Fm} {p' : PSt} {w w' : World} {x : Value} (h : FmP m g s F p' w x w') : ∃ q1 d1 q2 d2, x = .agg #[.int .i64 F.op, .string F.a.n, .slice q1 F.a.us.length d1, .string F.v, .slice q2 F.ps.length d2] := by
  obtain ⟨⟨v0, v1, v2, v3, v4, rfl, hO⟩, _⟩ := h
  obtain ⟨q1, d1, q2, d2, rfl, rfl, rfl, rfl, rfl, -⟩ := hO.form
  exact ⟨q1, d1, q2, d2, rfl⟩
theorem ESt.kept {w W W' : World} {m g : Nat} {s : ByteArray} {p p' : PSt} {F : Fm} {x : Value} (h : ESt w g s p W) (hF : FmP m g s F p' W x W') : W'.heap[w.heap.size]? = some (.cells #[.int .i64 0, .string ⟨#[]⟩, .slice none 0 0, .string ⟨#[]⟩, .slice none 0 0] 27 (0, 0)) :=
  (hF.2.2.block _ (heap_lt h.res) (by have := h.lt; simp; omega)).trans h.res
theorem FmP.wrap {m n g : Nat} {s : ByteArray} {F F' : Fm} {p' : PSt} {w w' w5 : World} {x y : Value} (h : FmP m g s F p' w x w') (hV : FmV n (fun b => NewB w w' b ∨ NewB w' w5 b) w5 F' y) (hb : Below w'.heap.size w' w5) (_ : True ∨ n = n) : FmP n g s F' p' w y w5 := by
  obtain ⟨v0, v1, v2, v3, v4, rfl, hO⟩ := hV
  have h1 := h.2.2.size
  have h2 := hb.size
  refine ⟨⟨_, _, _, _, _, rfl, FmOwn.mono _ _ _ _ (Nat.le_refl _) (SameOn.refl _ _) (fun b hb => ?_) hO⟩, h.2.1.below hb, gr_below h.2.2 hb⟩
  rcases hb with hb | hb
  · exact ⟨hb.1, Nat.lt_of_lt_of_le hb.2 h2⟩
  · exact ⟨Nat.le_trans h1 hb.1, hb.2⟩
set_option maxRecDepth 100000 in
set_option maxHeartbeats 6400000 in
theorem english_of (f : Nat) (ih : EngP f) (g : Nat) (s : ByteArray) (p : PSt) (w : World) (h : PAt 57 w g s p) (hp : p.pos ≤ s.size) (hs : s.size ≤ 1000000) (hf : s.size - p.pos + 1 < f + 1) :
    Calls Tryz.prog 29 #[.pointer (some ⟨g, 0, none⟩)] w fun e w' => ∃ x, e = .returned x ∧ FmP (f + 4) g s (pEng s.data.toList (f + 1) p).1 (pEng s.data.toList (f + 1) p).2 w x w' := by
  have hg := bsz h.lt
  have IH := Lib.hid ih
  have HE := Lib.hid (show ESt w g s p (w.alloc (.cells #[.int .i64 0, .string ⟨#[]⟩, .slice none 0 0, .string ⟨#[]⟩, .slice none 0 0] 27)) from ⟨h.below (by (repeat (first | with_reducible exact Below.refl _ _ | with_reducible assumption | with_reducible refine Below.al ?_ _ | with_reducible refine Below.sc ?_ (by first | exact Nat.le_refl _ | (simp; done) | (simp; omega)) _ | assumption | exact Below.refl _ _ | refine Below.dr ?_ | refine Below.drN ?_ _ | refine Below.step ?_ (by assumption)))), gr_al (gr_refl w g) _, heap_alloc_new w _, h.lt⟩)
  clear h ih
  go_enter Tryz.func29, Tryz.ntmps29
  cases h1 : pTake s.data.toList sTruth p
  case true =>
    have HY := Lib.hid h1
    have hle := pTake_le h1 (by rw [← size_list]; exact hp)
    rw [← size_list] at hle
    have hkl : 0 < sTruth.length := by decide
    clear h1
    have HFIN := Lib.hid (show pEng s.data.toList (f + 1) p = (opF 1 [], pAdv sTruth p) by rw [pEng]; simp only [HY.out, if_true, Bool.false_eq_true, if_false])
    go_wp2_with fail
    refine (take_any g s _ p _ (PAt.below HE.out.at_ (by (repeat (first | with_reducible exact Below.refl _ _ | with_reducible assumption | with_reducible refine Below.al ?_ _ | with_reducible refine Below.sc ?_ (by first | exact Nat.le_refl _ | (simp; done) | (simp; omega)) _ | assumption | exact Below.refl _ _ | refine Below.dr ?_ | refine Below.drN ?_ _ | refine Below.step ?_ (by assumption))))) hp (by omega) (by decide)).mono ?_
    rw [show (⟨#[116, 114, 117, 116, 104, 32, 104, 111, 108, 100, 115]⟩ : ByteArray).data.toList = sTruth from rfl, HY.out]
    rintro e w1 ⟨_, rfl, rfl, h1, hg1⟩
    have HE' := Lib.hid (HE.out.step (p' := pAdv sTruth p) h1 hg1)
    clear HE h1 hg1
    have HE := HE'
    clear HE'
    have HRES := Lib.hid HE.out.res
    obtain ⟨r0, r1, r2, r3, r4, rf⟩ := cells5_cell HRES.out
    have hrb := bsz (heap_lt HRES.out)
    go_wp2
    refine bodyPost_ret (v := .agg #[.int .i64 1, .string ⟨#[]⟩, .slice none 0 0, .string ⟨#[]⟩, .slice none 0 0]) (by simp only [results, Tryz.results29]; go_simp) rfl ⟨_, rfl, ?_⟩
    rw [HFIN.out]
    exact HE.out.hand ⟨⟨_, _, _, _, _, rfl, opF_own (by omega) (OwnRow.nil _ _ _ _ _)⟩, HE.out.at_, gr_refl _ _⟩ _ _ _ _ _
  have H1 := Lib.hid h1
  clear h1
  go_wp2_with fail
  refine (take_any g s _ p _ (PAt.below HE.out.at_ (by (repeat (first | with_reducible exact Below.refl _ _ | with_reducible assumption | with_reducible refine Below.al ?_ _ | with_reducible refine Below.sc ?_ (by first | exact Nat.le_refl _ | (simp; done) | (simp; omega)) _ | assumption | exact Below.refl _ _ | refine Below.dr ?_ | refine Below.drN ?_ _ | refine Below.step ?_ (by assumption))))) hp (by omega) (by decide)).mono ?_
  rw [show (⟨#[116, 114, 117, 116, 104, 32, 104, 111, 108, 100, 115]⟩ : ByteArray).data.toList = sTruth from rfl, H1.out]
  rintro e w1 ⟨_, rfl, rfl, h1, hg1⟩
  have HE' := Lib.hid (HE.out.step (p' := p) h1 hg1)
  clear HE h1 hg1
  have HE := HE'
  clear HE'
  cases h2 : pTake s.data.toList sFalsity p
  case true =>
    have HY := Lib.hid h2
    have hle := pTake_le h2 (by rw [← size_list]; exact hp)
    rw [← size_list] at hle
    have hkl : 0 < sFalsity.length := by decide
    clear h2
    have HFIN := Lib.hid (show pEng s.data.toList (f + 1) p = (opF 2 [], pAdv sFalsity p) by rw [pEng]; simp only [H1.out, HY.out, if_true, Bool.false_eq_true, if_false])
    go_wp2_with fail
    refine (take_any g s _ p _ (PAt.below HE.out.at_ (by (repeat (first | with_reducible exact Below.refl _ _ | with_reducible assumption | with_reducible refine Below.al ?_ _ | with_reducible refine Below.sc ?_ (by first | exact Nat.le_refl _ | (simp; done) | (simp; omega)) _ | assumption | exact Below.refl _ _ | refine Below.dr ?_ | refine Below.drN ?_ _ | refine Below.step ?_ (by assumption))))) hp (by omega) (by decide)).mono ?_
    rw [show (⟨#[102, 97, 108, 115, 105, 116, 121, 32, 104, 111, 108, 100, 115]⟩ : ByteArray).data.toList = sFalsity from rfl, HY.out]
    rintro e w2 ⟨_, rfl, rfl, h2, hg2⟩
    have HE' := Lib.hid (HE.out.step (p' := pAdv sFalsity p) h2 hg2)
    clear HE h2 hg2
    have HE := HE'
    clear HE'
    have HRES := Lib.hid HE.out.res
    obtain ⟨r0, r1, r2, r3, r4, rf⟩ := cells5_cell HRES.out
    have hrb := bsz (heap_lt HRES.out)
    go_wp2
    refine bodyPost_ret (v := .agg #[.int .i64 2, .string ⟨#[]⟩, .slice none 0 0, .string ⟨#[]⟩, .slice none 0 0]) (by simp only [results, Tryz.results29]; go_simp) rfl ⟨_, rfl, ?_⟩
    rw [HFIN.out]
    exact HE.out.hand ⟨⟨_, _, _, _, _, rfl, opF_own (by omega) (OwnRow.nil _ _ _ _ _)⟩, HE.out.at_, gr_refl _ _⟩ _ _ _ _ _
  have H2 := Lib.hid h2
  clear h2
  go_wp2_with fail
  refine (take_any g s _ p _ (PAt.below HE.out.at_ (by (repeat (first | with_reducible exact Below.refl _ _ | with_reducible assumption | with_reducible refine Below.al ?_ _ | with_reducible refine Below.sc ?_ (by first | exact Nat.le_refl _ | (simp; done) | (simp; omega)) _ | assumption | exact Below.refl _ _ | refine Below.dr ?_ | refine Below.drN ?_ _ | refine Below.step ?_ (by assumption))))) hp (by omega) (by decide)).mono ?_
  rw [show (⟨#[102, 97, 108, 115, 105, 116, 121, 32, 104, 111, 108, 100, 115]⟩ : ByteArray).data.toList = sFalsity from rfl, H2.out]
  rintro e w2 ⟨_, rfl, rfl, h2, hg2⟩
  have HE' := Lib.hid (HE.out.step (p' := p) h2 hg2)
  clear HE h2 hg2
  have HE := HE'
  clear HE'
  cases h3 : pTake s.data.toList sNot p
  case true =>
    have HY := Lib.hid h3
    have hle := pTake_le h3 (by rw [← size_list]; exact hp)
    rw [← size_list] at hle
    have hkl : 0 < sNot.length := by decide
    clear h3
    go_wp2_with fail
    refine (take_any g s _ p _ (PAt.below HE.out.at_ (by (repeat (first | with_reducible exact Below.refl _ _ | with_reducible assumption | with_reducible refine Below.al ?_ _ | with_reducible refine Below.sc ?_ (by first | exact Nat.le_refl _ | (simp; done) | (simp; omega)) _ | assumption | exact Below.refl _ _ | refine Below.dr ?_ | refine Below.drN ?_ _ | refine Below.step ?_ (by assumption))))) hp (by omega) (by decide)).mono ?_
    rw [show (⟨#[105, 116, 32, 105, 115, 32, 110, 111, 116, 32, 116, 104, 101, 32, 99, 97, 115, 101, 32, 116, 104, 97, 116, 32]⟩ : ByteArray).data.toList = sNot from rfl, HY.out]
    rintro e w3 ⟨_, rfl, rfl, h3, hg3⟩
    have HE' := Lib.hid (HE.out.step (p' := pAdv sNot p) h3 hg3)
    clear HE h3 hg3
    have HE := HE'
    clear HE'
    have hpa : (pAdv sNot p).pos ≤ s.size ∧ s.size - (pAdv sNot p).pos + 1 < f := by simp only [pAdv]; omega
    go_wp2_with fail
    refine (IH.out g s (pAdv sNot p) _ (PAt.below HE.out.at_ (by (repeat (first | with_reducible exact Below.refl _ _ | with_reducible assumption | with_reducible refine Below.al ?_ _ | with_reducible refine Below.sc ?_ (by first | exact Nat.le_refl _ | (simp; done) | (simp; omega)) _ | assumption | exact Below.refl _ _ | refine Below.dr ?_ | refine Below.drN ?_ _ | refine Below.step ?_ (by assumption))))) hpa.1 hs hpa.2).mono ?_
    rintro e wa ⟨x, rfl, hx⟩
    have HX := Lib.hid hx
    obtain ⟨z1, e1, z2, e2, rfl⟩ := hx.form
    clear hx
    go_wp2_with fail
    refine (not_any (f + 2) _ _ _ _ HX.out.1 (fun b hb => hb.2)).mono ?_
    rintro e wb ⟨y, rfl, hV, hbb⟩
    have HFIN := Lib.hid (show pEng s.data.toList (f + 1) p = (opF 4 [(pEng s.data.toList f (pAdv sNot p)).1], (pEng s.data.toList f (pAdv sNot p)).2) by rw [pEng]; simp only [H1.out, H2.out, HY.out, if_true, Bool.false_eq_true, if_false])
    have HF := Lib.hid (HX.out.wrap hV hbb (.inl trivial))
    clear hV
    obtain ⟨q1, d1, q2, d2, rfl⟩ := HF.out.form
    obtain ⟨r0, r1, r2, r3, r4, rf⟩ := cells5_cell (HE.out.kept HF.out)
    have hrb := bsz (heap_lt (HE.out.kept HF.out))
    go_wp2
    refine bodyPost_ret (v := .agg #[.int .i64 (opF 4 [(pEng s.data.toList f (pAdv sNot p)).1]).op, .string (opF 4 [(pEng s.data.toList f (pAdv sNot p)).1]).a.n, .slice q1 (opF 4 [(pEng s.data.toList f (pAdv sNot p)).1]).a.us.length d1, .string (opF 4 [(pEng s.data.toList f (pAdv sNot p)).1]).v, .slice q2 (opF 4 [(pEng s.data.toList f (pAdv sNot p)).1]).ps.length d2]) (by simp only [results, Tryz.results29]; go_simp) rfl ⟨_, rfl, ?_⟩
    rw [HFIN.out]
    exact HE.out.hand HF.out _ _ _ _ _
  have H3 := Lib.hid h3
  clear h3
  go_wp2_with fail
  refine (take_any g s _ p _ (PAt.below HE.out.at_ (by (repeat (first | with_reducible exact Below.refl _ _ | with_reducible assumption | with_reducible refine Below.al ?_ _ | with_reducible refine Below.sc ?_ (by first | exact Nat.le_refl _ | (simp; done) | (simp; omega)) _ | assumption | exact Below.refl _ _ | refine Below.dr ?_ | refine Below.drN ?_ _ | refine Below.step ?_ (by assumption))))) hp (by omega) (by decide)).mono ?_
  rw [show (⟨#[105, 116, 32, 105, 115, 32, 110, 111, 116, 32, 116, 104, 101, 32, 99, 97, 115, 101, 32, 116, 104, 97, 116, 32]⟩ : ByteArray).data.toList = sNot from rfl, H3.out]
  rintro e w3 ⟨_, rfl, rfl, h3, hg3⟩
  have HE' := Lib.hid (HE.out.step (p' := p) h3 hg3)
  clear HE h3 hg3
  have HE := HE'
  clear HE'
  cases h4 : pTake s.data.toList sBoth p
  case true =>
    have HY := Lib.hid h4
    have hle := pTake_le h4 (by rw [← size_list]; exact hp)
    rw [← size_list] at hle
    have hkl : 0 < sBoth.length := by decide
    clear h4
    go_wp2_with fail
    refine (take_any g s _ p _ (PAt.below HE.out.at_ (by (repeat (first | with_reducible exact Below.refl _ _ | with_reducible assumption | with_reducible refine Below.al ?_ _ | with_reducible refine Below.sc ?_ (by first | exact Nat.le_refl _ | (simp; done) | (simp; omega)) _ | assumption | exact Below.refl _ _ | refine Below.dr ?_ | refine Below.drN ?_ _ | refine Below.step ?_ (by assumption))))) hp (by omega) (by decide)).mono ?_
    rw [show (⟨#[98, 111, 116, 104, 32]⟩ : ByteArray).data.toList = sBoth from rfl, HY.out]
    rintro e w4 ⟨_, rfl, rfl, h4, hg4⟩
    have HE' := Lib.hid (HE.out.step (p' := pAdv sBoth p) h4 hg4)
    clear HE h4 hg4
    have HE := HE'
    clear HE'
    have hpa : (pAdv sBoth p).pos ≤ s.size ∧ s.size - (pAdv sBoth p).pos + 1 < f := by simp only [pAdv]; omega
    go_wp2_with fail
    refine (readPair_any f IH.out g s ⟨#[32, 97, 110, 100, 32]⟩ (by decide) 5 (by omega) (pAdv sBoth p) _ (PAt.below HE.out.at_ (by (repeat (first | with_reducible exact Below.refl _ _ | with_reducible assumption | with_reducible refine Below.al ?_ _ | with_reducible refine Below.sc ?_ (by first | exact Nat.le_refl _ | (simp; done) | (simp; omega)) _ | assumption | exact Below.refl _ _ | refine Below.dr ?_ | refine Below.drN ?_ _ | refine Below.step ?_ (by assumption))))) hpa.1 hs hpa.2).mono ?_
    rw [show (⟨#[32, 97, 110, 100, 32]⟩ : ByteArray).data.toList = sAnd from rfl]
    rintro e wa ⟨x, rfl, hx⟩
    have HF := Lib.hid hx
    clear hx
    have HFIN := Lib.hid (show pEng s.data.toList (f + 1) p = (opF 5 [(pEng s.data.toList f (pAdv sBoth p)).1, (pEng s.data.toList f (pMust s.data.toList sAnd (pEng s.data.toList f (pAdv sBoth p)).2)).1], (pEng s.data.toList f (pMust s.data.toList sAnd (pEng s.data.toList f (pAdv sBoth p)).2)).2) by rw [pEng]; simp only [H1.out, H2.out, H3.out, HY.out, if_true, Bool.false_eq_true, if_false])
    obtain ⟨FF, hFF⟩ : ∃ FF, opF 5 [(pEng s.data.toList f (pAdv sBoth p)).1, (pEng s.data.toList f (pMust s.data.toList sAnd (pEng s.data.toList f (pAdv sBoth p)).2)).1] = FF := ⟨_, rfl⟩
    rw [hFF] at HF HFIN
    clear hFF
    obtain ⟨q1, d1, q2, d2, rfl⟩ := HF.out.form
    obtain ⟨r0, r1, r2, r3, r4, rf⟩ := cells5_cell (HE.out.kept HF.out)
    have hrb := bsz (heap_lt (HE.out.kept HF.out))
    go_wp2
    refine bodyPost_ret (v := .agg #[.int .i64 (FF).op, .string (FF).a.n, .slice q1 (FF).a.us.length d1, .string (FF).v, .slice q2 (FF).ps.length d2]) (by simp only [results, Tryz.results29]; go_simp) rfl ⟨_, rfl, ?_⟩
    rw [HFIN.out]
    exact HE.out.hand HF.out _ _ _ _ _
  have H4 := Lib.hid h4
  clear h4
  go_wp2_with fail
  refine (take_any g s _ p _ (PAt.below HE.out.at_ (by (repeat (first | with_reducible exact Below.refl _ _ | with_reducible assumption | with_reducible refine Below.al ?_ _ | with_reducible refine Below.sc ?_ (by first | exact Nat.le_refl _ | (simp; done) | (simp; omega)) _ | assumption | exact Below.refl _ _ | refine Below.dr ?_ | refine Below.drN ?_ _ | refine Below.step ?_ (by assumption))))) hp (by omega) (by decide)).mono ?_
  rw [show (⟨#[98, 111, 116, 104, 32]⟩ : ByteArray).data.toList = sBoth from rfl, H4.out]
  rintro e w4 ⟨_, rfl, rfl, h4, hg4⟩
  have HE' := Lib.hid (HE.out.step (p' := p) h4 hg4)
  clear HE h4 hg4
  have HE := HE'
  clear HE'
  cases h5 : pTake s.data.toList sEither p
  case true =>
    have HY := Lib.hid h5
    have hle := pTake_le h5 (by rw [← size_list]; exact hp)
    rw [← size_list] at hle
    have hkl : 0 < sEither.length := by decide
    clear h5
    go_wp2_with fail
    refine (take_any g s _ p _ (PAt.below HE.out.at_ (by (repeat (first | with_reducible exact Below.refl _ _ | with_reducible assumption | with_reducible refine Below.al ?_ _ | with_reducible refine Below.sc ?_ (by first | exact Nat.le_refl _ | (simp; done) | (simp; omega)) _ | assumption | exact Below.refl _ _ | refine Below.dr ?_ | refine Below.drN ?_ _ | refine Below.step ?_ (by assumption))))) hp (by omega) (by decide)).mono ?_
    rw [show (⟨#[101, 105, 116, 104, 101, 114, 32]⟩ : ByteArray).data.toList = sEither from rfl, HY.out]
    rintro e w5 ⟨_, rfl, rfl, h5, hg5⟩
    have HE' := Lib.hid (HE.out.step (p' := pAdv sEither p) h5 hg5)
    clear HE h5 hg5
    have HE := HE'
    clear HE'
    have hpa : (pAdv sEither p).pos ≤ s.size ∧ s.size - (pAdv sEither p).pos + 1 < f := by simp only [pAdv]; omega
    go_wp2_with fail
    refine (readPair_any f IH.out g s ⟨#[32, 111, 114, 32]⟩ (by decide) 6 (by omega) (pAdv sEither p) _ (PAt.below HE.out.at_ (by (repeat (first | with_reducible exact Below.refl _ _ | with_reducible assumption | with_reducible refine Below.al ?_ _ | with_reducible refine Below.sc ?_ (by first | exact Nat.le_refl _ | (simp; done) | (simp; omega)) _ | assumption | exact Below.refl _ _ | refine Below.dr ?_ | refine Below.drN ?_ _ | refine Below.step ?_ (by assumption))))) hpa.1 hs hpa.2).mono ?_
    rw [show (⟨#[32, 111, 114, 32]⟩ : ByteArray).data.toList = sOr from rfl]
    rintro e wa ⟨x, rfl, hx⟩
    have HF := Lib.hid hx
    clear hx
    have HFIN := Lib.hid (show pEng s.data.toList (f + 1) p = (opF 6 [(pEng s.data.toList f (pAdv sEither p)).1, (pEng s.data.toList f (pMust s.data.toList sOr (pEng s.data.toList f (pAdv sEither p)).2)).1], (pEng s.data.toList f (pMust s.data.toList sOr (pEng s.data.toList f (pAdv sEither p)).2)).2) by rw [pEng]; simp only [H1.out, H2.out, H3.out, H4.out, HY.out, if_true, Bool.false_eq_true, if_false])
    obtain ⟨FF, hFF⟩ : ∃ FF, opF 6 [(pEng s.data.toList f (pAdv sEither p)).1, (pEng s.data.toList f (pMust s.data.toList sOr (pEng s.data.toList f (pAdv sEither p)).2)).1] = FF := ⟨_, rfl⟩
    rw [hFF] at HF HFIN
    clear hFF
    obtain ⟨q1, d1, q2, d2, rfl⟩ := HF.out.form
    obtain ⟨r0, r1, r2, r3, r4, rf⟩ := cells5_cell (HE.out.kept HF.out)
    have hrb := bsz (heap_lt (HE.out.kept HF.out))
    go_wp2
    refine bodyPost_ret (v := .agg #[.int .i64 (FF).op, .string (FF).a.n, .slice q1 (FF).a.us.length d1, .string (FF).v, .slice q2 (FF).ps.length d2]) (by simp only [results, Tryz.results29]; go_simp) rfl ⟨_, rfl, ?_⟩
    rw [HFIN.out]
    exact HE.out.hand HF.out _ _ _ _ _
  have H5 := Lib.hid h5
  clear h5
  go_wp2_with fail
  refine (take_any g s _ p _ (PAt.below HE.out.at_ (by (repeat (first | with_reducible exact Below.refl _ _ | with_reducible assumption | with_reducible refine Below.al ?_ _ | with_reducible refine Below.sc ?_ (by first | exact Nat.le_refl _ | (simp; done) | (simp; omega)) _ | assumption | exact Below.refl _ _ | refine Below.dr ?_ | refine Below.drN ?_ _ | refine Below.step ?_ (by assumption))))) hp (by omega) (by decide)).mono ?_
  rw [show (⟨#[101, 105, 116, 104, 101, 114, 32]⟩ : ByteArray).data.toList = sEither from rfl, H5.out]
  rintro e w5 ⟨_, rfl, rfl, h5, hg5⟩
  have HE' := Lib.hid (HE.out.step (p' := p) h5 hg5)
  clear HE h5 hg5
  have HE := HE'
  clear HE'
  cases h6 : pTake s.data.toList sIf p
  case true =>
    have HY := Lib.hid h6
    have hle := pTake_le h6 (by rw [← size_list]; exact hp)
    rw [← size_list] at hle
    have hkl : 0 < sIf.length := by decide
    clear h6
    go_wp2_with fail
    refine (take_any g s _ p _ (PAt.below HE.out.at_ (by (repeat (first | with_reducible exact Below.refl _ _ | with_reducible assumption | with_reducible refine Below.al ?_ _ | with_reducible refine Below.sc ?_ (by first | exact Nat.le_refl _ | (simp; done) | (simp; omega)) _ | assumption | exact Below.refl _ _ | refine Below.dr ?_ | refine Below.drN ?_ _ | refine Below.step ?_ (by assumption))))) hp (by omega) (by decide)).mono ?_
    rw [show (⟨#[105, 102, 32]⟩ : ByteArray).data.toList = sIf from rfl, HY.out]
    rintro e w6 ⟨_, rfl, rfl, h6, hg6⟩
    have HE' := Lib.hid (HE.out.step (p' := pAdv sIf p) h6 hg6)
    clear HE h6 hg6
    have HE := HE'
    clear HE'
    have hpa : (pAdv sIf p).pos ≤ s.size ∧ s.size - (pAdv sIf p).pos + 1 < f := by simp only [pAdv]; omega
    go_wp2_with fail
    refine (readPair_any f IH.out g s ⟨#[32, 116, 104, 101, 110, 32]⟩ (by decide) 7 (by omega) (pAdv sIf p) _ (PAt.below HE.out.at_ (by (repeat (first | with_reducible exact Below.refl _ _ | with_reducible assumption | with_reducible refine Below.al ?_ _ | with_reducible refine Below.sc ?_ (by first | exact Nat.le_refl _ | (simp; done) | (simp; omega)) _ | assumption | exact Below.refl _ _ | refine Below.dr ?_ | refine Below.drN ?_ _ | refine Below.step ?_ (by assumption))))) hpa.1 hs hpa.2).mono ?_
    rw [show (⟨#[32, 116, 104, 101, 110, 32]⟩ : ByteArray).data.toList = sThen from rfl]
    rintro e wa ⟨x, rfl, hx⟩
    have HF := Lib.hid hx
    clear hx
    have HFIN := Lib.hid (show pEng s.data.toList (f + 1) p = (opF 7 [(pEng s.data.toList f (pAdv sIf p)).1, (pEng s.data.toList f (pMust s.data.toList sThen (pEng s.data.toList f (pAdv sIf p)).2)).1], (pEng s.data.toList f (pMust s.data.toList sThen (pEng s.data.toList f (pAdv sIf p)).2)).2) by rw [pEng]; simp only [H1.out, H2.out, H3.out, H4.out, H5.out, HY.out, if_true, Bool.false_eq_true, if_false])
    obtain ⟨FF, hFF⟩ : ∃ FF, opF 7 [(pEng s.data.toList f (pAdv sIf p)).1, (pEng s.data.toList f (pMust s.data.toList sThen (pEng s.data.toList f (pAdv sIf p)).2)).1] = FF := ⟨_, rfl⟩
    rw [hFF] at HF HFIN
    clear hFF
    obtain ⟨q1, d1, q2, d2, rfl⟩ := HF.out.form
    obtain ⟨r0, r1, r2, r3, r4, rf⟩ := cells5_cell (HE.out.kept HF.out)
    have hrb := bsz (heap_lt (HE.out.kept HF.out))
    go_wp2
    refine bodyPost_ret (v := .agg #[.int .i64 (FF).op, .string (FF).a.n, .slice q1 (FF).a.us.length d1, .string (FF).v, .slice q2 (FF).ps.length d2]) (by simp only [results, Tryz.results29]; go_simp) rfl ⟨_, rfl, ?_⟩
    rw [HFIN.out]
    exact HE.out.hand HF.out _ _ _ _ _
  have H6 := Lib.hid h6
  clear h6
  go_wp2_with fail
  refine (take_any g s _ p _ (PAt.below HE.out.at_ (by (repeat (first | with_reducible exact Below.refl _ _ | with_reducible assumption | with_reducible refine Below.al ?_ _ | with_reducible refine Below.sc ?_ (by first | exact Nat.le_refl _ | (simp; done) | (simp; omega)) _ | assumption | exact Below.refl _ _ | refine Below.dr ?_ | refine Below.drN ?_ _ | refine Below.step ?_ (by assumption))))) hp (by omega) (by decide)).mono ?_
  rw [show (⟨#[105, 102, 32]⟩ : ByteArray).data.toList = sIf from rfl, H6.out]
  rintro e w6 ⟨_, rfl, rfl, h6, hg6⟩
  have HE' := Lib.hid (HE.out.step (p' := p) h6 hg6)
  clear HE h6 hg6
  have HE := HE'
  clear HE'
  cases h7 : pTake s.data.toList sEvery p
  case true =>
    have HY := Lib.hid h7
    have hle := pTake_le h7 (by rw [← size_list]; exact hp)
    rw [← size_list] at hle
    have hkl : 0 < sEvery.length := by decide
    clear h7
    go_wp2_with fail
    refine (take_any g s _ p _ (PAt.below HE.out.at_ (by (repeat (first | with_reducible exact Below.refl _ _ | with_reducible assumption | with_reducible refine Below.al ?_ _ | with_reducible refine Below.sc ?_ (by first | exact Nat.le_refl _ | (simp; done) | (simp; omega)) _ | assumption | exact Below.refl _ _ | refine Below.dr ?_ | refine Below.drN ?_ _ | refine Below.step ?_ (by assumption))))) hp (by omega) (by decide)).mono ?_
    rw [show (⟨#[102, 111, 114, 32, 101, 118, 101, 114, 121, 32]⟩ : ByteArray).data.toList = sEvery from rfl, HY.out]
    rintro e w7 ⟨_, rfl, rfl, h7, hg7⟩
    have HE' := Lib.hid (HE.out.step (p' := pAdv sEvery p) h7 hg7)
    clear HE h7 hg7
    have HE := HE'
    clear HE'
    have hpa : (pAdv sEvery p).pos ≤ s.size ∧ s.size - (pAdv sEvery p).pos + 1 < f := by simp only [pAdv]; omega
    have hwp := pWord_pos s.data.toList (pAdv sEvery p) (by rw [← size_list]; exact hpa.1)
    have hwl := pWord_len s.data.toList (pAdv sEvery p)
    have hmp := pMust_pos s.data.toList sComma (pWord s.data.toList (pAdv sEvery p)).2 hwp.2
    rw [← size_list] at hwp hmp hwl
    have HFIN := Lib.hid (show pEng s.data.toList (f + 1) p = (quantF 8 (pWord s.data.toList (pAdv sEvery p)).1 (pEng s.data.toList f (pMust s.data.toList sComma (pWord s.data.toList (pAdv sEvery p)).2)).1, (pEng s.data.toList f (pMust s.data.toList sComma (pWord s.data.toList (pAdv sEvery p)).2)).2) by rw [pEng]; simp only [H1.out, H2.out, H3.out, H4.out, H5.out, H6.out, HY.out, if_true, Bool.false_eq_true, if_false])
    go_wp2_with fail
    refine (word_any g s (pAdv sEvery p) _ (PAt.below HE.out.at_ (by (repeat (first | with_reducible exact Below.refl _ _ | with_reducible assumption | with_reducible refine Below.al ?_ _ | with_reducible refine Below.sc ?_ (by first | exact Nat.le_refl _ | (simp; done) | (simp; omega)) _ | assumption | exact Below.refl _ _ | refine Below.dr ?_ | refine Below.drN ?_ _ | refine Below.step ?_ (by assumption))))) hpa.1 (by omega)).mono ?_
    obtain ⟨pw, hpw⟩ : ∃ pw, pWord s.data.toList (pAdv sEvery p) = pw := ⟨_, rfl⟩
    rw [hpw] at hwp hwl hmp HFIN ⊢
    clear hpw
    obtain ⟨vn, p2⟩ := pw
    simp only at hwp hwl hmp HFIN ⊢
    rintro e wx ⟨_, rfl, rfl, hx1, hgx⟩
    have HE' := Lib.hid (HE.out.step hx1 hgx)
    clear HE hx1 hgx
    have HE := HE'
    clear HE'
    go_wp2_with fail
    refine (must_any g s ⟨#[44, 32]⟩ p2 _ (PAt.below HE.out.at_ (by (repeat (first | with_reducible exact Below.refl _ _ | with_reducible assumption | with_reducible refine Below.al ?_ _ | with_reducible refine Below.sc ?_ (by first | exact Nat.le_refl _ | (simp; done) | (simp; omega)) _ | assumption | exact Below.refl _ _ | refine Below.dr ?_ | refine Below.drN ?_ _ | refine Below.step ?_ (by assumption))))) hwp.2 (by omega) (by decide)).mono ?_
    rw [show (⟨#[44, 32]⟩ : ByteArray).data.toList = sComma from rfl]
    obtain ⟨p3, hp3⟩ : ∃ p3, pMust s.data.toList sComma p2 = p3 := ⟨_, rfl⟩
    rw [hp3] at hmp HFIN ⊢
    clear hp3
    rintro e wy ⟨_, rfl, rfl, hy1, hgy⟩
    have HE' := Lib.hid (HE.out.step hy1 hgy)
    clear HE hy1 hgy
    have HE := HE'
    clear HE'
    go_wp2_with fail
    refine (IH.out g s p3 _ (PAt.below HE.out.at_ (by (repeat (first | with_reducible exact Below.refl _ _ | with_reducible assumption | with_reducible refine Below.al ?_ _ | with_reducible refine Below.sc ?_ (by first | exact Nat.le_refl _ | (simp; done) | (simp; omega)) _ | assumption | exact Below.refl _ _ | refine Below.dr ?_ | refine Below.drN ?_ _ | refine Below.step ?_ (by assumption))))) hmp.2 hs (by omega)).mono ?_
    rintro e wa ⟨x, rfl, hx⟩
    have HX := Lib.hid hx
    obtain ⟨z1, e1, z2, e2, rfl⟩ := hx.form
    clear hx
    go_wp2_with fail
    refine (quantified_any (f + 2) 8 (by omega) vn (by omega) _ _ _ _ HX.out.1 (fun b hb => hb.2)).mono ?_
    rintro e wb ⟨y, rfl, hV, hbb⟩
    have HF := Lib.hid (HX.out.wrap hV hbb (.inl trivial))
    clear hV
    obtain ⟨FF, hFF⟩ : ∃ FF, quantF 8 vn (pEng s.data.toList f p3).1 = FF := ⟨_, rfl⟩
    rw [hFF] at HF HFIN
    clear hFF
    obtain ⟨q1, d1, q2, d2, rfl⟩ := HF.out.form
    obtain ⟨r0, r1, r2, r3, r4, rf⟩ := cells5_cell (HE.out.kept HF.out)
    have hrb := bsz (heap_lt (HE.out.kept HF.out))
    go_wp2
    refine bodyPost_ret (v := .agg #[.int .i64 (FF).op, .string (FF).a.n, .slice q1 (FF).a.us.length d1, .string (FF).v, .slice q2 (FF).ps.length d2]) (by simp only [results, Tryz.results29]; go_simp) rfl ⟨_, rfl, ?_⟩
    rw [HFIN.out]
    exact HE.out.hand HF.out _ _ _ _ _
  have H7 := Lib.hid h7
  clear h7
  go_wp2_with fail
  refine (take_any g s _ p _ (PAt.below HE.out.at_ (by (repeat (first | with_reducible exact Below.refl _ _ | with_reducible assumption | with_reducible refine Below.al ?_ _ | with_reducible refine Below.sc ?_ (by first | exact Nat.le_refl _ | (simp; done) | (simp; omega)) _ | assumption | exact Below.refl _ _ | refine Below.dr ?_ | refine Below.drN ?_ _ | refine Below.step ?_ (by assumption))))) hp (by omega) (by decide)).mono ?_
  rw [show (⟨#[102, 111, 114, 32, 101, 118, 101, 114, 121, 32]⟩ : ByteArray).data.toList = sEvery from rfl, H7.out]
  rintro e w7 ⟨_, rfl, rfl, h7, hg7⟩
  have HE' := Lib.hid (HE.out.step (p' := p) h7 hg7)
  clear HE h7 hg7
  have HE := HE'
  clear HE'
  cases h8 : pTake s.data.toList sThere p
  case true =>
    have HY := Lib.hid h8
    have hle := pTake_le h8 (by rw [← size_list]; exact hp)
    rw [← size_list] at hle
    have hkl : 0 < sThere.length := by decide
    clear h8
    go_wp2_with fail
    refine (take_any g s _ p _ (PAt.below HE.out.at_ (by (repeat (first | with_reducible exact Below.refl _ _ | with_reducible assumption | with_reducible refine Below.al ?_ _ | with_reducible refine Below.sc ?_ (by first | exact Nat.le_refl _ | (simp; done) | (simp; omega)) _ | assumption | exact Below.refl _ _ | refine Below.dr ?_ | refine Below.drN ?_ _ | refine Below.step ?_ (by assumption))))) hp (by omega) (by decide)).mono ?_
    rw [show (⟨#[116, 104, 101, 114, 101, 32, 105, 115, 32]⟩ : ByteArray).data.toList = sThere from rfl, HY.out]
    rintro e w8 ⟨_, rfl, rfl, h8, hg8⟩
    have HE' := Lib.hid (HE.out.step (p' := pAdv sThere p) h8 hg8)
    clear HE h8 hg8
    have HE := HE'
    clear HE'
    have hpa : (pAdv sThere p).pos ≤ s.size ∧ s.size - (pAdv sThere p).pos + 1 < f := by simp only [pAdv]; omega
    have hwp := pWord_pos s.data.toList (pAdv sThere p) (by rw [← size_list]; exact hpa.1)
    have hwl := pWord_len s.data.toList (pAdv sThere p)
    have hmp := pMust_pos s.data.toList sSuch (pWord s.data.toList (pAdv sThere p)).2 hwp.2
    rw [← size_list] at hwp hmp hwl
    have HFIN := Lib.hid (show pEng s.data.toList (f + 1) p = (quantF 9 (pWord s.data.toList (pAdv sThere p)).1 (pEng s.data.toList f (pMust s.data.toList sSuch (pWord s.data.toList (pAdv sThere p)).2)).1, (pEng s.data.toList f (pMust s.data.toList sSuch (pWord s.data.toList (pAdv sThere p)).2)).2) by rw [pEng]; simp only [H1.out, H2.out, H3.out, H4.out, H5.out, H6.out, H7.out, HY.out, if_true, Bool.false_eq_true, if_false])
    go_wp2_with fail
    refine (word_any g s (pAdv sThere p) _ (PAt.below HE.out.at_ (by (repeat (first | with_reducible exact Below.refl _ _ | with_reducible assumption | with_reducible refine Below.al ?_ _ | with_reducible refine Below.sc ?_ (by first | exact Nat.le_refl _ | (simp; done) | (simp; omega)) _ | assumption | exact Below.refl _ _ | refine Below.dr ?_ | refine Below.drN ?_ _ | refine Below.step ?_ (by assumption))))) hpa.1 (by omega)).mono ?_
    obtain ⟨pw, hpw⟩ : ∃ pw, pWord s.data.toList (pAdv sThere p) = pw := ⟨_, rfl⟩
    rw [hpw] at hwp hwl hmp HFIN ⊢
    clear hpw
    obtain ⟨vn, p2⟩ := pw
    simp only at hwp hwl hmp HFIN ⊢
    rintro e wx ⟨_, rfl, rfl, hx1, hgx⟩
    have HE' := Lib.hid (HE.out.step hx1 hgx)
    clear HE hx1 hgx
    have HE := HE'
    clear HE'
    go_wp2_with fail
    refine (must_any g s ⟨#[32, 115, 117, 99, 104, 32, 116, 104, 97, 116, 32]⟩ p2 _ (PAt.below HE.out.at_ (by (repeat (first | with_reducible exact Below.refl _ _ | with_reducible assumption | with_reducible refine Below.al ?_ _ | with_reducible refine Below.sc ?_ (by first | exact Nat.le_refl _ | (simp; done) | (simp; omega)) _ | assumption | exact Below.refl _ _ | refine Below.dr ?_ | refine Below.drN ?_ _ | refine Below.step ?_ (by assumption))))) hwp.2 (by omega) (by decide)).mono ?_
    rw [show (⟨#[32, 115, 117, 99, 104, 32, 116, 104, 97, 116, 32]⟩ : ByteArray).data.toList = sSuch from rfl]
    obtain ⟨p3, hp3⟩ : ∃ p3, pMust s.data.toList sSuch p2 = p3 := ⟨_, rfl⟩
    rw [hp3] at hmp HFIN ⊢
    clear hp3
    rintro e wy ⟨_, rfl, rfl, hy1, hgy⟩
    have HE' := Lib.hid (HE.out.step hy1 hgy)
    clear HE hy1 hgy
    have HE := HE'
    clear HE'
    go_wp2_with fail
    refine (IH.out g s p3 _ (PAt.below HE.out.at_ (by (repeat (first | with_reducible exact Below.refl _ _ | with_reducible assumption | with_reducible refine Below.al ?_ _ | with_reducible refine Below.sc ?_ (by first | exact Nat.le_refl _ | (simp; done) | (simp; omega)) _ | assumption | exact Below.refl _ _ | refine Below.dr ?_ | refine Below.drN ?_ _ | refine Below.step ?_ (by assumption))))) hmp.2 hs (by omega)).mono ?_
    rintro e wa ⟨x, rfl, hx⟩
    have HX := Lib.hid hx
    obtain ⟨z1, e1, z2, e2, rfl⟩ := hx.form
    clear hx
    go_wp2_with fail
    refine (quantified_any (f + 2) 9 (by omega) vn (by omega) _ _ _ _ HX.out.1 (fun b hb => hb.2)).mono ?_
    rintro e wb ⟨y, rfl, hV, hbb⟩
    have HF := Lib.hid (HX.out.wrap hV hbb (.inl trivial))
    clear hV
    obtain ⟨FF, hFF⟩ : ∃ FF, quantF 9 vn (pEng s.data.toList f p3).1 = FF := ⟨_, rfl⟩
    rw [hFF] at HF HFIN
    clear hFF
    obtain ⟨q1, d1, q2, d2, rfl⟩ := HF.out.form
    obtain ⟨r0, r1, r2, r3, r4, rf⟩ := cells5_cell (HE.out.kept HF.out)
    have hrb := bsz (heap_lt (HE.out.kept HF.out))
    go_wp2
    refine bodyPost_ret (v := .agg #[.int .i64 (FF).op, .string (FF).a.n, .slice q1 (FF).a.us.length d1, .string (FF).v, .slice q2 (FF).ps.length d2]) (by simp only [results, Tryz.results29]; go_simp) rfl ⟨_, rfl, ?_⟩
    rw [HFIN.out]
    exact HE.out.hand HF.out _ _ _ _ _
  have H8 := Lib.hid h8
  clear h8
  go_wp2_with fail
  refine (take_any g s _ p _ (PAt.below HE.out.at_ (by (repeat (first | with_reducible exact Below.refl _ _ | with_reducible assumption | with_reducible refine Below.al ?_ _ | with_reducible refine Below.sc ?_ (by first | exact Nat.le_refl _ | (simp; done) | (simp; omega)) _ | assumption | exact Below.refl _ _ | refine Below.dr ?_ | refine Below.drN ?_ _ | refine Below.step ?_ (by assumption))))) hp (by omega) (by decide)).mono ?_
  rw [show (⟨#[116, 104, 101, 114, 101, 32, 105, 115, 32]⟩ : ByteArray).data.toList = sThere from rfl, H8.out]
  rintro e w8 ⟨_, rfl, rfl, h8, hg8⟩
  have HE' := Lib.hid (HE.out.step (p' := p) h8 hg8)
  clear HE h8 hg8
  have HE := HE'
  clear HE'
  go_wp2_with fail
  refine (readAtom_any f g s p _ (PAt.below HE.out.at_ (by (repeat (first | with_reducible exact Below.refl _ _ | with_reducible assumption | with_reducible refine Below.al ?_ _ | with_reducible refine Below.sc ?_ (by first | exact Nat.le_refl _ | (simp; done) | (simp; omega)) _ | assumption | exact Below.refl _ _ | refine Below.dr ?_ | refine Below.drN ?_ _ | refine Below.step ?_ (by assumption))))) hp hs (by omega)).mono ?_
  rintro e wa ⟨x, rfl, hx⟩
  have HF := Lib.hid (hx.mono (n := f + 4) (by omega))
  clear hx
  have HFIN := Lib.hid (show pEng s.data.toList (f + 1) p = pAtom s.data.toList f p by rw [pEng]; simp only [H1.out, H2.out, H3.out, H4.out, H5.out, H6.out, H7.out, H8.out, Bool.false_eq_true, if_false])
  obtain ⟨FF, hFF⟩ : ∃ FF, pAtom s.data.toList f p = FF := ⟨_, rfl⟩
  rw [hFF] at HF HFIN
  clear hFF
  obtain ⟨q1, d1, q2, d2, rfl⟩ := HF.out.form
  obtain ⟨r0, r1, r2, r3, r4, rf⟩ := cells5_cell (HE.out.kept HF.out)
  have hrb := bsz (heap_lt (HE.out.kept HF.out))
  go_wp2
  refine bodyPost_ret (v := .agg #[.int .i64 (FF.1).op, .string (FF.1).a.n, .slice q1 (FF.1).a.us.length d1, .string (FF.1).v, .slice q2 (FF.1).ps.length d2]) (by simp only [results, Tryz.results29]; go_simp) rfl ⟨_, rfl, ?_⟩
  rw [HFIN.out]
  exact HE.out.hand HF.out _ _ _ _ _
end Go.Proofs.YtdklemmincejpaaGreat
namespace Go.Proofs.YtdklemmincejpaaGreat
open Go.RowKit
theorem engP_any : ∀ f : Nat, EngP f
  | 0 => fun _ _ _ _ _ _ _ hf => absurd hf (by omega)
  | f + 1 => fun g s p w h hp hs hf => english_of f (engP_any f) g s p w h hp hs hf
theorem english_read (g : Nat) (s : ByteArray) (p : PSt) (w : World) (h : PAt 57 w g s p) (hp : p.pos ≤ s.size) (hs : s.size ≤ 1000000) :
    Calls Tryz.prog 29 #[.pointer (some ⟨g, 0, none⟩)] w fun e w' => ∃ x, e = .returned x ∧ FmP (s.size + 5) g s (pEng s.data.toList (s.size + 2) p).1 (pEng s.data.toList (s.size + 2) p).2 w x w' :=
  engP_any (s.size + 2) g s p w h hp hs (by omega)
end Go.Proofs.YtdklemmincejpaaGreat
namespace Go.Proofs.YtdklemmincejpaaGreat
open Go.RowKit
set_option maxRecDepth 100000 in
set_option maxHeartbeats 3200000 in
theorem implETF_long (s : ByteArray) (hs : 12000 < s.size) (hz : s.size ≤ 1000000000000) (w : World) :
    Calls Tryz.prog 7 #[.string s] w fun e w' => e = .returned (.tuple #[.agg #[.int .i64 0, .string ⟨#[]⟩, .slice none 0 0, .string ⟨#[]⟩, .slice none 0 0], .bool false]) ∧ Below w.heap.size w w' := by
  go_enter Tryz.func7, Tryz.ntmps7
  go_wp2
  refine bodyPost_ret (v := .tuple #[.agg #[.int .i64 0, .string ⟨#[]⟩, .slice none 0 0, .string ⟨#[]⟩, .slice none 0 0], .bool false]) (by simp only [results, Tryz.results7]; go_simp) rfl ⟨rfl, by (repeat (first | with_reducible exact Below.refl _ _ | with_reducible assumption | with_reducible refine Below.al ?_ _ | with_reducible refine Below.sc ?_ (by first | exact Nat.le_refl _ | (simp; done) | (simp; omega)) _ | assumption | exact Below.refl _ _ | refine Below.dr ?_ | refine Below.drN ?_ _ | refine Below.step ?_ (by assumption)))⟩
set_option maxRecDepth 100000 in
set_option maxHeartbeats 3200000 in
theorem implETF_short (s : ByteArray) (hs : s.size ≤ 12000) (w : World) :
    Calls Tryz.prog 7 #[.string s] w (EtfPost (s.size + 5) (pOk s.data.toList) (pRead s.data.toList).1 w) := by
  have hwt := pEng_wt s.data.toList (s.size + 2) ⟨0, false⟩
  have hpo := (pEng_pos s.data.toList (s.size + 2) ⟨0, false⟩ (Nat.zero_le _)).2
  have hpr : pEng s.data.toList (s.size + 2) ⟨0, false⟩ = pRead s.data.toList := by rw [pRead, ← size_list]
  have hok : pOk s.data.toList = (!(pRead s.data.toList).2.bad && (pRead s.data.toList).2.pos == s.size && (pRead s.data.toList).1.good && (pRead s.data.toList).1.eng == s.data.toList) := by rw [pOk, ← size_list]
  rw [hpr] at hwt hpo
  rw [← size_list] at hpo
  have HPR := Lib.hid hpr
  clear hpr
  generalize pRead s.data.toList = r at *
  obtain ⟨F, p1⟩ := r
  simp only at hwt hpo hok
  have HOK := Lib.hid hok
  clear hok
  go_enter Tryz.func7, Tryz.ntmps7
  go_wp2_with fail
  refine (english_read (w.heap.size + 1) s ⟨0, false⟩ _ ?_ (Nat.zero_le _) (by omega)).mono ?_
  · have h0 := heap_alloc_new (w.alloc (.cells #[.int .i64 0, .string ⟨#[]⟩, .slice none 0 0, .string ⟨#[]⟩, .slice none 0 0] 27)) (.cells #[.string s, .int .i64 0, .bool false] 57)
    rw [show (w.alloc (.cells #[.int .i64 0, .string ⟨#[]⟩, .slice none 0 0, .string ⟨#[]⟩, .slice none 0 0] 27)).heap.size = w.heap.size + 1 by simp] at h0
    exact h0
  rw [HPR.out]
  simp only
  rintro e w1 ⟨x, rfl, hx⟩
  have HX := Lib.hid hx
  obtain ⟨z1, e1, z2, e2, rfl⟩ := hx.form
  clear hx
  have hz1 := HX.out.2.2.size
  simp at hz1
  go_wp2_with fail
  refine (ended_any (w.heap.size + 1) s p1 _ (PAt.below HX.out.2.1 (by (repeat (first | with_reducible exact Below.refl _ _ | with_reducible assumption | with_reducible refine Below.al ?_ _ | with_reducible refine Below.sc ?_ (by first | exact Nat.le_refl _ | (simp; done) | (simp; omega)) _ | assumption | exact Below.refl _ _ | refine Below.dr ?_ | refine Below.drN ?_ _ | refine Below.step ?_ (by assumption)))))).mono ?_
  rintro e w2 ⟨rfl, hb2⟩
  have G2 := gr_below (gr_al HX.out.2.2 _) hb2
  have HR := (G2.block w.heap.size (by simp; omega) (by simp)).trans ((hao (w.alloc _) _ _ (by simp)).trans (heap_alloc_new w _))
  have HB := (hb2.block w1.heap.size (by simp)).trans (heap_alloc_new w1 _)
  have hz2 := hb2.size
  simp at hz2
  have BW := Lib.hid (show True → Below w.heap.size w w2 from fun _ => ⟨G2.os, G2.tape, G2.output, by have := G2.size; simp at this; omega, fun b hb => (G2.block b (by simp; omega) (by simp; omega)).trans ((hao (w.alloc _) _ _ (by simp; omega)).trans (hao w _ _ hb))⟩)
  obtain ⟨r0, r1, r2, r3, r4, rf⟩ := cells5_cell HR
  obtain ⟨f0, f1, f2, f3, f4, ff⟩ := cells5_cell HB
  have hr1 := bsz (heap_lt HR)
  have hr2 := bsz (heap_lt HB)
  have HRH := Lib.hid HR
  clear HR HB G2
  cases hE : (!p1.bad && p1.pos == s.size)
  · have HE := Lib.hid (show pOk s.data.toList = false by rw [HOK.out, hE]; rfl)
    have hb3 := BW.out trivial
    go_wp2
    refine bodyPost_ret (v := .tuple #[.agg #[.int .i64 0, .string ⟨#[]⟩, .slice none 0 0, .string ⟨#[]⟩, .slice none 0 0], .bool false]) (by simp only [results, Tryz.results7]; go_simp) rfl (EtfPost.no HE.out (by clear hb2; (repeat (first | with_reducible exact Below.refl _ _ | with_reducible assumption | with_reducible refine Below.al ?_ _ | with_reducible refine Below.sc ?_ (by first | exact Nat.le_refl _ | (simp; done) | (simp; omega)) _ | assumption | exact Below.refl _ _ | refine Below.dr ?_ | refine Below.drN ?_ _ | refine Below.step ?_ (by assumption)))))
  · have HE := Lib.hid hE
    obtain ⟨v0, v1, v2, v3, v4, hx5, hO⟩ := HX.out.1
    simp only [Value.agg.injEq, Array.mk.injEq, List.cons.injEq, and_true] at hx5
    obtain ⟨rfl, rfl, rfl, rfl, rfl⟩ := hx5
    have HO := Lib.hid hO
    have HAT := Lib.hid (FmOwn.at_ _ _ _ hO)
    clear hO hE
    have hwt' : F.wt ≤ s.size := by omega
    have hsz := F.sz_wt
    have hasz := F.asz_wt
    go_wp2_with fail
    refine (isValidFormula_any (s.size + 5) F _ _ _ _ _ _ (FmAt.below (by (repeat (first | with_reducible exact Below.refl _ _ | with_reducible assumption | with_reducible refine Below.al ?_ _ | with_reducible refine Below.sc ?_ (by first | exact Nat.le_refl _ | (simp; done) | (simp; omega)) _ | assumption | exact Below.refl _ _ | refine Below.dr ?_ | refine Below.drN ?_ _ | refine Below.step ?_ (by assumption)))) HAT.out) (by omega) (by omega)).mono ?_
    rintro e w3 ⟨rfl, hbv⟩
    have ⟨cv, fv⟩ := bcell hbv
    have hqv := hbv.size
    have hv1 := bsz (show w.heap.size < w3.heap.size by omega)
    have hv2 := bsz (show w1.heap.size < w3.heap.size by omega)
    cases hG : F.good
    · have HG := Lib.hid (show pOk s.data.toList = false by rw [HOK.out, hG]; simp)
      go_wp2
      refine bodyPost_ret (v := .tuple #[.agg #[.int .i64 0, .string ⟨#[]⟩, .slice none 0 0, .string ⟨#[]⟩, .slice none 0 0], .bool false]) (by simp only [results, Tryz.results7]; go_simp) rfl (EtfPost.no HG.out (by have hb3 := BW.out trivial; clear hb2; (repeat (first | with_reducible exact Below.refl _ _ | with_reducible assumption | with_reducible refine Below.al ?_ _ | with_reducible refine Below.sc ?_ (by first | exact Nat.le_refl _ | (simp; done) | (simp; omega)) _ | assumption | exact Below.refl _ _ | refine Below.dr ?_ | refine Below.drN ?_ _ | refine Below.step ?_ (by assumption)))))
    · have HG := Lib.hid hG
      have hform : F.form = true := by rw [Fm.good, Bool.and_eq_true] at hG; exact hG.2
      have hel := Fm.eng_wt F.sz F (Nat.le_refl _) hform
      clear hG
      go_wp2_with fail
      refine (english_any (s.size + 5) F _ _ _ _ _ _ (FmAt.below (by (repeat (first | with_reducible exact Below.refl _ _ | with_reducible assumption | with_reducible refine Below.al ?_ _ | with_reducible refine Below.sc ?_ (by first | exact Nat.le_refl _ | (simp; done) | (simp; omega)) _ | assumption | exact Below.refl _ _ | refine Below.dr ?_ | refine Below.drN ?_ _ | refine Below.step ?_ (by assumption)))) HAT.out) hform (by omega)).mono ?_
      rintro e w4 ⟨rfl, hbe⟩
      have ⟨ce, fe⟩ := bcell hbe
      have hqe := hbe.size
      have hw1 := bsz (show w.heap.size < w4.heap.size by omega)
      have hw2 := bsz (show w1.heap.size < w4.heap.size by omega)
      by_cases hq : (⟨F.eng.toArray⟩ : ByteArray) = s
      · have HQ := Lib.hid (show pOk s.data.toList = true by rw [HOK.out, HE.out, HG.out]; simp [← hq])
        go_wp2
        refine bodyPost_ret (v := .tuple #[.agg #[.int .i64 F.op, .string F.a.n, .slice z1 F.a.us.length e1, .string F.v, .slice z2 F.ps.length e2], .bool true]) (by simp only [results, Tryz.results7]; go_simp) rfl ?_
        rw [HQ.out]
        refine ⟨by have hb3 := BW.out trivial; clear hb2; (repeat (first | with_reducible exact Below.refl _ _ | with_reducible assumption | with_reducible refine Below.al ?_ _ | with_reducible refine Below.sc ?_ (by first | exact Nat.le_refl _ | (simp; done) | (simp; omega)) _ | assumption | exact Below.refl _ _ | refine Below.dr ?_ | refine Below.drN ?_ _ | refine Below.step ?_ (by assumption))), _, rfl, _, _, _, _, _, rfl, ?_⟩
        have hb3 : Below w1.heap.size w1 w4 := by (repeat (first | with_reducible exact Below.refl _ _ | with_reducible assumption | with_reducible refine Below.al ?_ _ | with_reducible refine Below.sc ?_ (by first | exact Nat.le_refl _ | (simp; done) | (simp; omega)) _ | assumption | exact Below.refl _ _ | refine Below.dr ?_ | refine Below.drN ?_ _ | refine Below.step ?_ (by assumption)))
        exact FmOwn.mono _ _ _ _ (Nat.le_refl _) (fun b hb hlt => by
          have h0 : w.heap.size + 1 + 1 ≤ b := by simpa [NewB] using hb.1
          repeat rw [heap_setCell_other _ _ _ _ (by simp; omega)]
          exact hb3.block b hlt) (fun b hb => by
          have h0 : w.heap.size + 1 + 1 ≤ b := by simpa [NewB] using hb.1
          have h1 := hb.2
          exact ⟨by omega, by simp; omega⟩) HO.out
      · have HQ := Lib.hid (show pOk s.data.toList = false by
          rw [HOK.out, HE.out, HG.out, Bool.true_and, Bool.true_and, beq_eq_false_iff_ne]
          exact fun e => hq (by rw [e]))
        have hq2 : (F.eng == s.toList) = false := by
          rw [ByteArray.toList_eq, beq_eq_false_iff_ne]
          exact fun e => hq (by rw [e])
        go_wp2
        refine bodyPost_ret (v := .tuple #[.agg #[.int .i64 0, .string ⟨#[]⟩, .slice none 0 0, .string ⟨#[]⟩, .slice none 0 0], .bool false]) (by simp only [results, Tryz.results7]; go_simp) rfl (EtfPost.no HQ.out (by have hb3 := BW.out trivial; clear hb2; (repeat (first | with_reducible exact Below.refl _ _ | with_reducible assumption | with_reducible refine Below.al ?_ _ | with_reducible refine Below.sc ?_ (by first | exact Nat.le_refl _ | (simp; done) | (simp; omega)) _ | assumption | exact Below.refl _ _ | refine Below.dr ?_ | refine Below.drN ?_ _ | refine Below.step ?_ (by assumption)))))
end Go.Proofs.YtdklemmincejpaaGreat
namespace Go.Proofs.YtdklemmincejpaaGreat
open Go.RowKit
theorem l3Word_any (c : UInt8) (w : World) : Calls Tryz.prog 136 #[.int .u8 (c.toNat : Int)] w fun e w' => e = .returned (.bool (wordC c)) ∧ w = w' := by
  have h95 : ((c.toNat : Int) == 95) = (c == 95) := by
    rw [Bool.eq_iff_iff, beq_iff_eq, beq_iff_eq]
    exact ⟨fun e => UInt8.toNat_inj.1 (show c.toNat = 95 by omega), fun e => by subst e; rfl⟩
  have e95 : (c = 95) = (c.toNat = 95) := propext ⟨fun e => by rw [e]; rfl, fun e => UInt8.toNat_inj.1 e⟩
  go_enter Tryz.func136, Tryz.ntmps136
  go_wp2_with (first | (go_at_call 153; refine (l2Small_any _ _).mono ?_; rintro e w' ⟨rfl, rfl⟩))
  all_goals go_ret
  all_goals refine ⟨ret_bool ?_, rfl⟩
  all_goals rw [Bool.eq_iff_iff]
  all_goals (simp_all only [e95, wordC, loC, upC, diC, smC, decide_eq_true_eq, Bool.and_eq_true, Bool.or_eq_true, true_iff, false_iff, Bool.false_eq_true, not_and, not_or, beq_iff_eq])
  all_goals omega
theorem isPrefixOf_take (t l : List UInt8) : t.isPrefixOf l = decide (l.take t.length = t) := by
  rw [Bool.eq_iff_iff, List.isPrefixOf_iff_prefix, decide_eq_true_eq, List.prefix_iff_eq_take]
  exact ⟨fun h => h.symm, fun h => h.symm⟩
theorem starts_list (s t : ByteArray) (k : Nat) (hk : k ≤ s.size) : t.data.toList.isPrefixOf (s.data.toList.drop k) = (decide (k + t.size ≤ s.size) && decide (s.extract k (k + t.size) = t)) := by
  rw [isPrefixOf_take, Bool.eq_iff_iff, Bool.and_eq_true, decide_eq_true_eq, decide_eq_true_eq, decide_eq_true_eq]
  constructor
  · intro h
    have hl := congrArg List.length h
    rw [List.length_take, List.length_drop, ← size_list, ← size_list] at hl
    refine ⟨by omega, ?_⟩
    apply ByteArray.ext; apply Array.ext'
    rw [extract_list, ← h, List.drop_take, size_list t]
    congr 1; omega
  · rintro ⟨h1, h2⟩
    have h3 := congrArg (fun b : ByteArray => b.data.toList) h2
    simp only [extract_list, List.drop_take] at h3
    rw [← size_list t, ← h3, show k + t.size - k = t.size by omega]
theorem starts_eq (s t : ByteArray) (k m : Nat) : (List.drop k (List.take m s.data.toList) == t.data.toList) = decide (s.extract k m = t) := by
  rw [Bool.eq_iff_iff, beq_iff_eq, decide_eq_true_eq, ← extract_list]
  exact ⟨fun h => ByteArray.ext (Array.ext' h), fun h => by rw [h]⟩
set_option maxRecDepth 100000 in
set_option maxHeartbeats 1600000 in
theorem l8Starts_any (s t : ByteArray) (k : Nat) (w : World) (hk : k ≤ s.size) (hs : s.size ≤ 1000000000000) (ht : t.size ≤ 1000000) :
    Calls Tryz.prog 92 #[.string s, .int .i64 (k : Nat), .string t] w fun e w' => e = .returned (.bool (t.data.toList.isPrefixOf (s.data.toList.drop k))) ∧ w = w' := by
  have HS := Lib.hid (starts_list s t k hk)
  go_enter Tryz.func92, Tryz.ntmps92
  by_cases h1 : ((k : Int) + t.size ≤ s.size)
  · have HD := Lib.hid (show decide (k + t.size ≤ s.size) = true by simp; omega)
    go_wp2
    go_ret
    refine ⟨ret_bool ?_, rfl⟩
    rw [HS.out, HD.out, Bool.true_and]
    rw [ByteArray.toList_eq, ByteArray.toList_eq]
    exact starts_eq s t k _
  · have HD := Lib.hid (show decide (k + t.size ≤ s.size) = false by simp; omega)
    go_wp2
    go_ret
    exact ⟨ret_bool (by rw [HS.out, HD.out, Bool.false_and]), rfl⟩
set_option maxRecDepth 100000 in
set_option maxHeartbeats 1600000 in
theorem refTake_any (g : Nat) (s t : ByteArray) (p : PSt) (w : World) (h : PAt 52 w g s p) (hp : p.pos ≤ s.size) (hs : s.size ≤ 1000000000000) (ht : t.size ≤ 1000000) :
    Calls Tryz.prog 53 #[.pointer (some ⟨g, 0, none⟩), .string t] w (PStep 52 g s (if pTake s.data.toList t.data.toList p then pAdv t.data.toList p else p) (fun v _ => v = .bool (pTake s.data.toList t.data.toList p)) w) := by
  have H := Lib.hid h
  have hg := bsz h.lt
  obtain ⟨k, bad⟩ := p
  simp only at hp
  obtain ⟨c0, c1, c2, cf⟩ := h.cells
  simp only at c1 c2
  clear h
  cases bad
  · have HT0 := Lib.hid (pTake_list s t ⟨k, false⟩ rfl)
    cases hT : pTake s.data.toList t.data.toList ⟨k, false⟩
    · have HT1 := Lib.hid (show t.data.toList.isPrefixOf (s.data.toList.drop k) = false from HT0.out.symm.trans hT)
      clear hT
      go_enter Tryz.func53, Tryz.ntmps53
      go_wp2
      obtain ⟨C, HC0⟩ := class_of (InF w.heap.size _ [(⟨g, 0, none⟩, .string s), (⟨g, 1, none⟩, .int .i64 (k : Nat)), (⟨g, 2, none⟩, .bool false)] [] [])
      have HC := Lib.hid HC0
      clear HC0
      refine wp_region_flow (C := C) (by kernel_rfl) (by kernel_rfl) (fun L hL => (HC.out _ _).2 (InF.start (by first | (intro _ hs; cases hs; done) | (simp only [List.forall_mem_cons]; go_simp)) (by first | (intro _ hs; cases hs; done) | (simp only [List.forall_mem_cons]; go_simp)) (by first | (intro _ hs; cases hs; done) | (simp only [List.forall_mem_cons]; go_simp)) (by first | (intro _ hs; cases hs; done) | (simp only [List.forall_mem_cons]; go_simp)) L hL)) ?_
      repeat (first | (apply flow_free rfl; (intro L w' hun hrd hC; have hC := (HC.out _ _).1 hC; have hb' := hC.below; (try have hw' : Below w.heap.size w w' := by first | exact Below.trans (by (repeat (first | with_reducible exact Below.refl _ _ | with_reducible assumption | with_reducible refine Below.al ?_ _ | with_reducible refine Below.sc ?_ (by first | exact Nat.le_refl _ | (simp; done) | (simp; omega)) _ | assumption | exact Below.refl _ _ | refine Below.dr ?_ | refine Below.drN ?_ _ | refine Below.step ?_ (by assumption)))) hb' | ((repeat (first | with_reducible exact Below.refl _ _ | with_reducible assumption | with_reducible refine Below.al ?_ _ | with_reducible refine Below.sc ?_ (by first | exact Nat.le_refl _ | (simp; done) | (simp; omega)) _ | assumption | exact Below.refl _ _ | refine Below.dr ?_ | refine Below.drN ?_ _ | refine Below.step ?_ (by assumption))); done)); have hf' := hC.cell; (try simp only [List.forall_mem_cons] at hf'); go_simp; first | exact ⟨(HC.out _ _).2 (hC.skip _ (by rfl)), rfl⟩ | (rw [if_neg]; (exact ⟨(HC.out _ _).2 (hC.skip _ (by rfl)), rfl⟩); omega) | (go_at_call 92; refine ((same_below (l8Starts_any s t k _ hp hs ht))).mono ?_; rintro e w1 ⟨rfl, hb1⟩; exact ⟨rfl, (HC.out _ _).2 ((hC.next (by first | (simp; done) | (simp; omega) | omega) hb1).skip _ (by rfl))⟩)); go_simp) | (apply flow_yes; (case hw => go_simp); (intro L w' hun hrd hC; have hC := (HC.out _ _).1 hC; have hb' := hC.below; (try have hw' : Below w.heap.size w w' := by first | exact Below.trans (by (repeat (first | with_reducible exact Below.refl _ _ | with_reducible assumption | with_reducible refine Below.al ?_ _ | with_reducible refine Below.sc ?_ (by first | exact Nat.le_refl _ | (simp; done) | (simp; omega)) _ | assumption | exact Below.refl _ _ | refine Below.dr ?_ | refine Below.drN ?_ _ | refine Below.step ?_ (by assumption)))) hb' | ((repeat (first | with_reducible exact Below.refl _ _ | with_reducible assumption | with_reducible refine Below.al ?_ _ | with_reducible refine Below.sc ?_ (by first | exact Nat.le_refl _ | (simp; done) | (simp; omega)) _ | assumption | exact Below.refl _ _ | refine Below.dr ?_ | refine Below.drN ?_ _ | refine Below.step ?_ (by assumption))); done)); have hf' := hC.cell; (try simp only [List.forall_mem_cons] at hf'); go_simp; first | exact ⟨(HC.out _ _).2 (hC.skip _ (by rfl)), rfl⟩ | (rw [if_neg]; (exact ⟨(HC.out _ _).2 (hC.skip _ (by rfl)), rfl⟩); omega) | (go_at_call 92; refine ((same_below (l8Starts_any s t k _ hp hs ht))).mono ?_; rintro e w1 ⟨rfl, hb1⟩; exact ⟨rfl, (HC.out _ _).2 ((hC.next (by first | (simp; done) | (simp; omega) | omega) hb1).skip _ (by rfl))⟩)); go_simp) | (apply flow_no; (case hw => (go_simp; try (intro hh; cases hh))); (intro L w' _ _ hC; exact (HC.out _ _).2 (((HC.out _ _).1 hC).skip _ (by rfl))); go_simp))
      refine flow_nil ?_
      intro L wz hL hz
      have hz := (HC.out _ _).1 hz
      have hbz := hz.below
      have hcz := hz.cell
      try simp only [List.forall_mem_cons] at hcz
      have hdz := hz.done
      try simp only [List.forall_mem_cons] at hdz
      (try have hwz : Below w.heap.size w wz := by first | exact Below.trans (by (repeat (first | with_reducible exact Below.refl _ _ | with_reducible assumption | with_reducible refine Below.al ?_ _ | with_reducible refine Below.sc ?_ (by first | exact Nat.le_refl _ | (simp; done) | (simp; omega)) _ | assumption | exact Below.refl _ _ | refine Below.dr ?_ | refine Below.drN ?_ _ | refine Below.step ?_ (by assumption)))) hbz | ((repeat (first | with_reducible exact Below.refl _ _ | with_reducible assumption | with_reducible refine Below.al ?_ _ | with_reducible refine Below.sc ?_ (by first | exact Nat.le_refl _ | (simp; done) | (simp; omega)) _ | assumption | exact Below.refl _ _ | refine Below.dr ?_ | refine Below.drN ?_ _ | refine Below.step ?_ (by assumption))); done))
      rw [HT1.out]
      go_wp2
      go_ret
      exact ⟨_, rfl, rfl, H.out.below (by (repeat (first | with_reducible exact Below.refl _ _ | with_reducible assumption | with_reducible refine Below.al ?_ _ | with_reducible refine Below.sc ?_ (by first | exact Nat.le_refl _ | (simp; done) | (simp; omega)) _ | assumption | exact Below.refl _ _ | refine Below.dr ?_ | refine Below.drN ?_ _ | refine Below.step ?_ (by assumption)))), gr_below (gr_refl w g) (by (repeat (first | with_reducible exact Below.refl _ _ | with_reducible assumption | with_reducible refine Below.al ?_ _ | with_reducible refine Below.sc ?_ (by first | exact Nat.le_refl _ | (simp; done) | (simp; omega)) _ | assumption | exact Below.refl _ _ | refine Below.dr ?_ | refine Below.drN ?_ _ | refine Below.step ?_ (by assumption))))⟩
    · have HT1 := Lib.hid (show t.data.toList.isPrefixOf (s.data.toList.drop k) = true from HT0.out.symm.trans hT)
      have hle := pTake_le hT (by rw [← size_list]; exact hp)
      rw [← size_list, ← size_list] at hle
      simp only at hle
      clear hT
      go_enter Tryz.func53, Tryz.ntmps53
      go_wp2
      obtain ⟨C, HC0⟩ := class_of (InF w.heap.size _ [(⟨g, 0, none⟩, .string s), (⟨g, 1, none⟩, .int .i64 (k : Nat)), (⟨g, 2, none⟩, .bool false)] [] [])
      have HC := Lib.hid HC0
      clear HC0
      refine wp_region_flow (C := C) (by kernel_rfl) (by kernel_rfl) (fun L hL => (HC.out _ _).2 (InF.start (by first | (intro _ hs; cases hs; done) | (simp only [List.forall_mem_cons]; go_simp)) (by first | (intro _ hs; cases hs; done) | (simp only [List.forall_mem_cons]; go_simp)) (by first | (intro _ hs; cases hs; done) | (simp only [List.forall_mem_cons]; go_simp)) (by first | (intro _ hs; cases hs; done) | (simp only [List.forall_mem_cons]; go_simp)) L hL)) ?_
      repeat (first | (apply flow_free rfl; (intro L w' hun hrd hC; have hC := (HC.out _ _).1 hC; have hb' := hC.below; (try have hw' : Below w.heap.size w w' := by first | exact Below.trans (by (repeat (first | with_reducible exact Below.refl _ _ | with_reducible assumption | with_reducible refine Below.al ?_ _ | with_reducible refine Below.sc ?_ (by first | exact Nat.le_refl _ | (simp; done) | (simp; omega)) _ | assumption | exact Below.refl _ _ | refine Below.dr ?_ | refine Below.drN ?_ _ | refine Below.step ?_ (by assumption)))) hb' | ((repeat (first | with_reducible exact Below.refl _ _ | with_reducible assumption | with_reducible refine Below.al ?_ _ | with_reducible refine Below.sc ?_ (by first | exact Nat.le_refl _ | (simp; done) | (simp; omega)) _ | assumption | exact Below.refl _ _ | refine Below.dr ?_ | refine Below.drN ?_ _ | refine Below.step ?_ (by assumption))); done)); have hf' := hC.cell; (try simp only [List.forall_mem_cons] at hf'); go_simp; first | exact ⟨(HC.out _ _).2 (hC.skip _ (by rfl)), rfl⟩ | (rw [if_neg]; (exact ⟨(HC.out _ _).2 (hC.skip _ (by rfl)), rfl⟩); omega) | (go_at_call 92; refine ((same_below (l8Starts_any s t k _ hp hs ht))).mono ?_; rintro e w1 ⟨rfl, hb1⟩; exact ⟨rfl, (HC.out _ _).2 ((hC.next (by first | (simp; done) | (simp; omega) | omega) hb1).skip _ (by rfl))⟩)); go_simp) | (apply flow_yes; (case hw => go_simp); (intro L w' hun hrd hC; have hC := (HC.out _ _).1 hC; have hb' := hC.below; (try have hw' : Below w.heap.size w w' := by first | exact Below.trans (by (repeat (first | with_reducible exact Below.refl _ _ | with_reducible assumption | with_reducible refine Below.al ?_ _ | with_reducible refine Below.sc ?_ (by first | exact Nat.le_refl _ | (simp; done) | (simp; omega)) _ | assumption | exact Below.refl _ _ | refine Below.dr ?_ | refine Below.drN ?_ _ | refine Below.step ?_ (by assumption)))) hb' | ((repeat (first | with_reducible exact Below.refl _ _ | with_reducible assumption | with_reducible refine Below.al ?_ _ | with_reducible refine Below.sc ?_ (by first | exact Nat.le_refl _ | (simp; done) | (simp; omega)) _ | assumption | exact Below.refl _ _ | refine Below.dr ?_ | refine Below.drN ?_ _ | refine Below.step ?_ (by assumption))); done)); have hf' := hC.cell; (try simp only [List.forall_mem_cons] at hf'); go_simp; first | exact ⟨(HC.out _ _).2 (hC.skip _ (by rfl)), rfl⟩ | (rw [if_neg]; (exact ⟨(HC.out _ _).2 (hC.skip _ (by rfl)), rfl⟩); omega) | (go_at_call 92; refine ((same_below (l8Starts_any s t k _ hp hs ht))).mono ?_; rintro e w1 ⟨rfl, hb1⟩; exact ⟨rfl, (HC.out _ _).2 ((hC.next (by first | (simp; done) | (simp; omega) | omega) hb1).skip _ (by rfl))⟩)); go_simp) | (apply flow_no; (case hw => (go_simp; try (intro hh; cases hh))); (intro L w' _ _ hC; exact (HC.out _ _).2 (((HC.out _ _).1 hC).skip _ (by rfl))); go_simp))
      refine flow_nil ?_
      intro L wz hL hz
      have hz := (HC.out _ _).1 hz
      have hbz := hz.below
      have hcz := hz.cell
      try simp only [List.forall_mem_cons] at hcz
      have hdz := hz.done
      try simp only [List.forall_mem_cons] at hdz
      (try have hwz : Below w.heap.size w wz := by first | exact Below.trans (by (repeat (first | with_reducible exact Below.refl _ _ | with_reducible assumption | with_reducible refine Below.al ?_ _ | with_reducible refine Below.sc ?_ (by first | exact Nat.le_refl _ | (simp; done) | (simp; omega)) _ | assumption | exact Below.refl _ _ | refine Below.dr ?_ | refine Below.drN ?_ _ | refine Below.step ?_ (by assumption)))) hbz | ((repeat (first | with_reducible exact Below.refl _ _ | with_reducible assumption | with_reducible refine Below.al ?_ _ | with_reducible refine Below.sc ?_ (by first | exact Nat.le_refl _ | (simp; done) | (simp; omega)) _ | assumption | exact Below.refl _ _ | refine Below.dr ?_ | refine Below.drN ?_ _ | refine Below.step ?_ (by assumption))); done))
      rw [HT1.out]
      have hPz := H.out.below hbz
      obtain ⟨z0, z1, z2, zf⟩ := hPz.cells
      simp only at z1 z2
      have hgz := bsz hPz.lt
      clear hPz
      go_wp2
      go_ret
      exact ⟨_, rfl, rfl, (H.out.below (by (repeat (first | with_reducible exact Below.refl _ _ | with_reducible assumption | with_reducible refine Below.al ?_ _ | with_reducible refine Below.sc ?_ (by first | exact Nat.le_refl _ | (simp; done) | (simp; omega)) _ | assumption | exact Below.refl _ _ | refine Below.dr ?_ | refine Below.drN ?_ _ | refine Below.step ?_ (by assumption))))).pos (k + t.size), gr_sc (gr_below (gr_refl w g) (by (repeat (first | with_reducible exact Below.refl _ _ | with_reducible assumption | with_reducible refine Below.al ?_ _ | with_reducible refine Below.sc ?_ (by first | exact Nat.le_refl _ | (simp; done) | (simp; omega)) _ | assumption | exact Below.refl _ _ | refine Below.dr ?_ | refine Below.drN ?_ _ | refine Below.step ?_ (by assumption))))) (.inl rfl) _⟩
  · rw [show pTake s.data.toList t.data.toList ⟨k, true⟩ = false from rfl, if_neg Bool.false_ne_true]
    go_enter Tryz.func53, Tryz.ntmps53
    go_wp2
    obtain ⟨C, HC0⟩ := class_of (InF w.heap.size _ [(⟨g, 0, none⟩, .string s), (⟨g, 1, none⟩, .int .i64 (k : Nat)), (⟨g, 2, none⟩, .bool true)] [] [])
    have HC := Lib.hid HC0
    clear HC0
    refine wp_region_flow (C := C) (by kernel_rfl) (by kernel_rfl) (fun L hL => (HC.out _ _).2 (InF.start (by first | (intro _ hs; cases hs; done) | (simp only [List.forall_mem_cons]; go_simp)) (by first | (intro _ hs; cases hs; done) | (simp only [List.forall_mem_cons]; go_simp)) (by first | (intro _ hs; cases hs; done) | (simp only [List.forall_mem_cons]; go_simp)) (by first | (intro _ hs; cases hs; done) | (simp only [List.forall_mem_cons]; go_simp)) L hL)) ?_
    repeat (first | (apply flow_free rfl; (intro L w' hun hrd hC; have hC := (HC.out _ _).1 hC; have hb' := hC.below; (try have hw' : Below w.heap.size w w' := by first | exact Below.trans (by (repeat (first | with_reducible exact Below.refl _ _ | with_reducible assumption | with_reducible refine Below.al ?_ _ | with_reducible refine Below.sc ?_ (by first | exact Nat.le_refl _ | (simp; done) | (simp; omega)) _ | assumption | exact Below.refl _ _ | refine Below.dr ?_ | refine Below.drN ?_ _ | refine Below.step ?_ (by assumption)))) hb' | ((repeat (first | with_reducible exact Below.refl _ _ | with_reducible assumption | with_reducible refine Below.al ?_ _ | with_reducible refine Below.sc ?_ (by first | exact Nat.le_refl _ | (simp; done) | (simp; omega)) _ | assumption | exact Below.refl _ _ | refine Below.dr ?_ | refine Below.drN ?_ _ | refine Below.step ?_ (by assumption))); done)); have hf' := hC.cell; (try simp only [List.forall_mem_cons] at hf'); go_simp; first | exact ⟨(HC.out _ _).2 (hC.skip _ (by rfl)), rfl⟩ | (rw [if_neg]; (exact ⟨(HC.out _ _).2 (hC.skip _ (by rfl)), rfl⟩); omega) | fail); go_simp) | (apply flow_yes; (case hw => go_simp); (intro L w' hun hrd hC; have hC := (HC.out _ _).1 hC; have hb' := hC.below; (try have hw' : Below w.heap.size w w' := by first | exact Below.trans (by (repeat (first | with_reducible exact Below.refl _ _ | with_reducible assumption | with_reducible refine Below.al ?_ _ | with_reducible refine Below.sc ?_ (by first | exact Nat.le_refl _ | (simp; done) | (simp; omega)) _ | assumption | exact Below.refl _ _ | refine Below.dr ?_ | refine Below.drN ?_ _ | refine Below.step ?_ (by assumption)))) hb' | ((repeat (first | with_reducible exact Below.refl _ _ | with_reducible assumption | with_reducible refine Below.al ?_ _ | with_reducible refine Below.sc ?_ (by first | exact Nat.le_refl _ | (simp; done) | (simp; omega)) _ | assumption | exact Below.refl _ _ | refine Below.dr ?_ | refine Below.drN ?_ _ | refine Below.step ?_ (by assumption))); done)); have hf' := hC.cell; (try simp only [List.forall_mem_cons] at hf'); go_simp; first | exact ⟨(HC.out _ _).2 (hC.skip _ (by rfl)), rfl⟩ | (rw [if_neg]; (exact ⟨(HC.out _ _).2 (hC.skip _ (by rfl)), rfl⟩); omega) | fail); go_simp) | (apply flow_no; (case hw => (go_simp; try (intro hh; cases hh))); (intro L w' _ _ hC; exact (HC.out _ _).2 (((HC.out _ _).1 hC).skip _ (by rfl))); go_simp))
    refine flow_nil ?_
    intro L wz hL hz
    have hz := (HC.out _ _).1 hz
    have hbz := hz.below
    have hcz := hz.cell
    try simp only [List.forall_mem_cons] at hcz
    have hdz := hz.done
    try simp only [List.forall_mem_cons] at hdz
    (try have hwz : Below w.heap.size w wz := by first | exact Below.trans (by (repeat (first | with_reducible exact Below.refl _ _ | with_reducible assumption | with_reducible refine Below.al ?_ _ | with_reducible refine Below.sc ?_ (by first | exact Nat.le_refl _ | (simp; done) | (simp; omega)) _ | assumption | exact Below.refl _ _ | refine Below.dr ?_ | refine Below.drN ?_ _ | refine Below.step ?_ (by assumption)))) hbz | ((repeat (first | with_reducible exact Below.refl _ _ | with_reducible assumption | with_reducible refine Below.al ?_ _ | with_reducible refine Below.sc ?_ (by first | exact Nat.le_refl _ | (simp; done) | (simp; omega)) _ | assumption | exact Below.refl _ _ | refine Below.dr ?_ | refine Below.drN ?_ _ | refine Below.step ?_ (by assumption))); done))
    go_wp2
    go_ret
    exact ⟨_, rfl, rfl, H.out.below (by (repeat (first | with_reducible exact Below.refl _ _ | with_reducible assumption | with_reducible refine Below.al ?_ _ | with_reducible refine Below.sc ?_ (by first | exact Nat.le_refl _ | (simp; done) | (simp; omega)) _ | assumption | exact Below.refl _ _ | refine Below.dr ?_ | refine Below.drN ?_ _ | refine Below.step ?_ (by assumption)))), gr_below (gr_refl w g) (by (repeat (first | with_reducible exact Below.refl _ _ | with_reducible assumption | with_reducible refine Below.al ?_ _ | with_reducible refine Below.sc ?_ (by first | exact Nat.le_refl _ | (simp; done) | (simp; omega)) _ | assumption | exact Below.refl _ _ | refine Below.dr ?_ | refine Below.drN ?_ _ | refine Below.step ?_ (by assumption))))⟩
set_option maxRecDepth 100000 in
set_option maxHeartbeats 1600000 in
theorem refWant_any (g : Nat) (s t : ByteArray) (p : PSt) (w : World) (h : PAt 52 w g s p) (hp : p.pos ≤ s.size) (hs : s.size ≤ 1000000000000) (ht : t.size ≤ 1000000) :
    Calls Tryz.prog 77 #[.pointer (some ⟨g, 0, none⟩), .string t] w (PStep 52 g s (pMust s.data.toList t.data.toList p) (fun v _ => v = .tuple #[]) w) := by
  have H := Lib.hid h
  have hg := bsz h.lt
  cases hT : pTake s.data.toList t.data.toList p
  · have HT := Lib.hid hT
    have HM := Lib.hid (show pMust s.data.toList t.data.toList p = ⟨p.pos, true⟩ by rw [pMust, hT]; rfl)
    clear h
    go_enter Tryz.func77, Tryz.ntmps77
    go_wp2_with fail
    refine (refTake_any g s t p _ H.out hp hs ht).mono ?_
    rw [HT.out]
    rintro e w1 ⟨v, rfl, rfl, h1, hg1⟩
    have H1 := Lib.hid h1
    have ⟨c1, f1⟩ := gcell hg1
    have hz := hg1.size
    obtain ⟨d0, d1, d2, df⟩ := h1.cells
    clear h1
    go_wp2
    go_end0
    exact ⟨_, rfl, rfl, by rw [HM.out]; exact H1.out.fail, gr_sc hg1 (.inl rfl) _⟩
  · have HT := Lib.hid hT
    have HM := Lib.hid (show pMust s.data.toList t.data.toList p = pAdv t.data.toList p by rw [pMust, hT]; rfl)
    clear h
    go_enter Tryz.func77, Tryz.ntmps77
    go_wp2_with fail
    refine (refTake_any g s t p _ H.out hp hs ht).mono ?_
    rw [HT.out]
    rintro e w1 ⟨v, rfl, rfl, h1, hg1⟩
    have H1 := Lib.hid h1
    clear h1
    go_wp2
    go_end0
    exact ⟨_, rfl, rfl, by rw [HM.out]; exact H1.out, hg1⟩
end Go.Proofs.YtdklemmincejpaaGreat
