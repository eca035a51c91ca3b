/- FormulaToEnglish, both sides, and its law's walk. Conditions: sizes. -/
import Derived.Test.YtinfogmjijeliaaEngY
import Derived.Test.YtinfogmjijeliaaWts
namespace Go.Proofs.Ytinfogmjijeliaa
open Go.RowKit
theorem cellB {w w' : World} {a : Addr} {v : Value} (hb : Below w.heap.size w w') (h : w.cell? a = some v) : w'.cell? a = some v := (hb.cell (World.block_lt_of_cell? w _ h)).trans h
/-- The English of a formula; nothing where it is not valid. -/
def Fm.engG (t : Fm) : List UInt8 := if t.good then t.eng else []
set_option maxHeartbeats 800000 in
theorem implFTE_any {B : Nat → Prop} (m : Nat) (t : Fm) (v0 v1 v2 v3 v4 : Value) (w : World) (h : FmAt B m w t [v0, v1, v2, v3, v4]) (hw : t.wt ≤ 1048576) :
    Calls Try.prog 10 #[.agg #[v0, v1, v2, v3, v4]] w fun e w' => e = .returned (.tuple #[.string ⟨t.engG.toArray⟩, .bool t.good]) ∧ Below w.heap.size w w' := by
  obtain ⟨p, c, q, d, rfl, rfl, rfl, rfl, rfl, -⟩ := h.form
  have H := Lib.hid h
  have h1 : t.sz ≤ 100000000 := by have := t.sz_wt; omega
  have h2 : t.asz ≤ 100000000 := by have := t.asz_wt; omega
  clear h
  cases hg : t.good
  · have HG := Lib.hid hg
    go_enter Try.func10, Try.ntmps10
    go_wp2_with fail
    refine (isValidFormula_any m t _ _ _ _ _ _ (H.out.below (by (repeat (first | with_reducible exact Below.refl _ _ | with_reducible assumption | with_reducible refine Below.al ?_ _ | with_reducible refine Below.sc ?_ (by first | exact Nat.le_refl _ | (simp; done) | (simp; omega)) _ | assumption | exact Below.refl _ _ | refine Below.dr ?_ | refine Below.drN ?_ _ | refine Below.step ?_ (by assumption))))) h1 h2).mono ?_
    rintro e w1 ⟨rfl, hb1⟩
    have ⟨cw1, fw1⟩ := bcell hb1
    have qw1 := hb1.size
    (try simp at qw1)
    (try have zw1w := bsz (show w.heap.size < w1.heap.size by omega))
    rw [HG.out]
    go_wp2
    go_ret2
    exact ⟨by rw [Fm.engG, HG.out]; rfl, by (repeat (first | with_reducible exact Below.refl _ _ | with_reducible assumption | with_reducible refine Below.al ?_ _ | with_reducible refine Below.sc ?_ (by first | exact Nat.le_refl _ | (simp; done) | (simp; omega)) _ | assumption | exact Below.refl _ _ | refine Below.dr ?_ | refine Below.drN ?_ _ | refine Below.step ?_ (by assumption)))⟩
  · have HG := Lib.hid hg
    have hf : t.form = true := by rw [Fm.good, Bool.and_eq_true] at hg; exact hg.2
    have he : t.eng.length ≤ 1000000000000 := by have := Fm.eng_wt _ t (Nat.le_refl _) hf; omega
    have HF := Lib.hid (And.intro hf he)
    clear hf he
    go_enter Try.func10, Try.ntmps10
    go_wp2_with fail
    refine (isValidFormula_any m t _ _ _ _ _ _ (H.out.below (by (repeat (first | with_reducible exact Below.refl _ _ | with_reducible assumption | with_reducible refine Below.al ?_ _ | with_reducible refine Below.sc ?_ (by first | exact Nat.le_refl _ | (simp; done) | (simp; omega)) _ | assumption | exact Below.refl _ _ | refine Below.dr ?_ | refine Below.drN ?_ _ | refine Below.step ?_ (by assumption))))) h1 h2).mono ?_
    rintro e w1 ⟨rfl, hb1⟩
    have ⟨cw1, fw1⟩ := bcell hb1
    have qw1 := hb1.size
    (try simp at qw1)
    (try have zw1w := bsz (show w.heap.size < w1.heap.size by omega))
    rw [HG.out]
    go_wp2_with fail
    refine (english_any m t _ _ _ _ _ _ (H.out.below (by (repeat (first | with_reducible exact Below.refl _ _ | with_reducible assumption | with_reducible refine Below.al ?_ _ | with_reducible refine Below.sc ?_ (by first | exact Nat.le_refl _ | (simp; done) | (simp; omega)) _ | assumption | exact Below.refl _ _ | refine Below.dr ?_ | refine Below.drN ?_ _ | refine Below.step ?_ (by assumption))))) HF.out.1 HF.out.2).mono ?_
    rintro e w2 ⟨rfl, hb2⟩
    have ⟨cw2, fw2⟩ := bcell hb2
    have qw2 := hb2.size
    (try simp at qw2)
    (try have zw2w := bsz (show w.heap.size < w2.heap.size by omega))
    (try have zw2w1 := bsz (show w1.heap.size < w2.heap.size by omega))
    go_wp2
    go_ret2
    exact ⟨by rw [Fm.engG, HG.out]; rfl, by (repeat (first | with_reducible exact Below.refl _ _ | with_reducible assumption | with_reducible refine Below.al ?_ _ | with_reducible refine Below.sc ?_ (by first | exact Nat.le_refl _ | (simp; done) | (simp; omega)) _ | assumption | exact Below.refl _ _ | refine Below.dr ?_ | refine Below.drN ?_ _ | refine Below.step ?_ (by assumption)))⟩
set_option maxHeartbeats 800000 in
theorem specFTE_any {B : Nat → Prop} (m : Nat) (t : Fm) (v0 v1 v2 v3 v4 : Value) (w : World) (h : FmAt B m w t [v0, v1, v2, v3, v4]) (hw : t.wt ≤ 1048576) :
    Calls Try.prog 8 #[.agg #[v0, v1, v2, v3, v4]] w fun e w' => e = .returned (.tuple #[.string ⟨t.engG.toArray⟩, .bool t.good]) ∧ Below w.heap.size w w' := by
  obtain ⟨p, c, q, d, rfl, rfl, rfl, rfl, rfl, -⟩ := h.form
  have H := Lib.hid h
  have h1 : t.sz ≤ 100000000 := by have := t.sz_wt; omega
  have h2 : t.asz ≤ 100000000 := by have := t.asz_wt; omega
  clear h
  cases hg : t.good
  · have HG := Lib.hid hg
    go_enter Try.func8, Try.ntmps8
    go_wp2_with fail
    refine (l8Good_any m t _ _ _ _ _ _ (H.out.below (by (repeat (first | with_reducible exact Below.refl _ _ | with_reducible assumption | with_reducible refine Below.al ?_ _ | with_reducible refine Below.sc ?_ (by first | exact Nat.le_refl _ | (simp; done) | (simp; omega)) _ | assumption | exact Below.refl _ _ | refine Below.dr ?_ | refine Below.drN ?_ _ | refine Below.step ?_ (by assumption))))) h1 h2).mono ?_
    rintro e w1 ⟨rfl, hb1⟩
    have ⟨cw1, fw1⟩ := bcell hb1
    have qw1 := hb1.size
    (try simp at qw1)
    (try have zw1w := bsz (show w.heap.size < w1.heap.size by omega))
    rw [HG.out]
    go_wp2
    go_ret2
    exact ⟨by rw [Fm.engG, HG.out]; rfl, by (repeat (first | with_reducible exact Below.refl _ _ | with_reducible assumption | with_reducible refine Below.al ?_ _ | with_reducible refine Below.sc ?_ (by first | exact Nat.le_refl _ | (simp; done) | (simp; omega)) _ | assumption | exact Below.refl _ _ | refine Below.dr ?_ | refine Below.drN ?_ _ | refine Below.step ?_ (by assumption)))⟩
  · have HG := Lib.hid hg
    have hf : t.form = true := by rw [Fm.good, Bool.and_eq_true] at hg; exact hg.2
    have he : t.eng.length ≤ 1000000000000 := by have := Fm.eng_wt _ t (Nat.le_refl _) hf; omega
    have HF := Lib.hid (And.intro hf he)
    clear hf he
    go_enter Try.func8, Try.ntmps8
    go_wp2_with fail
    refine (l8Good_any m t _ _ _ _ _ _ (H.out.below (by (repeat (first | with_reducible exact Below.refl _ _ | with_reducible assumption | with_reducible refine Below.al ?_ _ | with_reducible refine Below.sc ?_ (by first | exact Nat.le_refl _ | (simp; done) | (simp; omega)) _ | assumption | exact Below.refl _ _ | refine Below.dr ?_ | refine Below.drN ?_ _ | refine Below.step ?_ (by assumption))))) h1 h2).mono ?_
    rintro e w1 ⟨rfl, hb1⟩
    have ⟨cw1, fw1⟩ := bcell hb1
    have qw1 := hb1.size
    (try simp at qw1)
    (try have zw1w := bsz (show w.heap.size < w1.heap.size by omega))
    rw [HG.out]
    go_wp2_with fail
    refine (l26Formula_any m t _ _ _ _ _ _ (H.out.below (by (repeat (first | with_reducible exact Below.refl _ _ | with_reducible assumption | with_reducible refine Below.al ?_ _ | with_reducible refine Below.sc ?_ (by first | exact Nat.le_refl _ | (simp; done) | (simp; omega)) _ | assumption | exact Below.refl _ _ | refine Below.dr ?_ | refine Below.drN ?_ _ | refine Below.step ?_ (by assumption))))) HF.out.1 HF.out.2).mono ?_
    rintro e w2 ⟨rfl, hb2⟩
    have ⟨cw2, fw2⟩ := bcell hb2
    have qw2 := hb2.size
    (try simp at qw2)
    (try have zw2w := bsz (show w.heap.size < w2.heap.size by omega))
    (try have zw2w1 := bsz (show w1.heap.size < w2.heap.size by omega))
    go_wp2
    go_ret2
    exact ⟨by rw [Fm.engG, HG.out]; rfl, by (repeat (first | with_reducible exact Below.refl _ _ | with_reducible assumption | with_reducible refine Below.al ?_ _ | with_reducible refine Below.sc ?_ (by first | exact Nat.le_refl _ | (simp; done) | (simp; omega)) _ | assumption | exact Below.refl _ _ | refine Below.dr ?_ | refine Below.drN ?_ _ | refine Below.step ?_ (by assumption)))⟩
set_option maxRecDepth 100000 in
set_option maxHeartbeats 1600000 in
theorem exactFTE {B : Nat → Prop} (m : Nat) (t : Fm) (v0 v1 v2 v3 v4 : Value) (w : World) (h : FmAt B m w t [v0, v1, v2, v3, v4]) :
    Calls Try.prog 3 #[.agg #[v0, v1, v2, v3, v4]] w fun e w' => e = .returned (.bool true) ∧ Below w.heap.size w w' := by
  obtain ⟨p, c, q, d, rfl, rfl, rfl, rfl, rfl, -⟩ := h.form
  have H := Lib.hid h
  clear h
  by_cases hw : t.wt ≤ 1048576
  · have HR := Lib.hid (show szR 1048576 t.wt = 1048576 - t.wt from if_pos (by omega))
    have hw0 : ¬ (1048576 - (t.wt : Int) < 0) := by omega
    go_enter Try.func3, Try.ntmps3
    go_wp2_with fail
    refine (szFormula_any m t _ _ _ _ _ _ _ (H.out.below (by (repeat (first | with_reducible exact Below.refl _ _ | with_reducible assumption | with_reducible refine Below.al ?_ _ | with_reducible refine Below.sc ?_ (by first | exact Nat.le_refl _ | (simp; done) | (simp; omega)) _ | assumption | exact Below.refl _ _ | refine Below.dr ?_ | refine Below.drN ?_ _ | refine Below.step ?_ (by assumption))))) (by omega) (by omega)).mono ?_
    rintro e w1 ⟨rfl, hb1⟩
    have ⟨cw1, fw1⟩ := bcell hb1
    have qw1 := hb1.size
    (try simp at qw1)
    (try have zw1w := bsz (show w.heap.size < w1.heap.size by omega))
    rw [HR.out]
    go_wp2_with fail
    refine (toFormula_any m t _ _ _ _ _ _ (H.out.below (by (repeat (first | with_reducible exact Below.refl _ _ | with_reducible assumption | with_reducible refine Below.al ?_ _ | with_reducible refine Below.sc ?_ (by first | exact Nat.le_refl _ | (simp; done) | (simp; omega)) _ | assumption | exact Below.refl _ _ | refine Below.dr ?_ | refine Below.drN ?_ _ | refine Below.step ?_ (by assumption))))) hw).mono ?_
    rintro e w2 ⟨u0, u1, u2, u3, u4, rfl, hu, hb2⟩
    have ⟨cw2, fw2⟩ := bcell hb2
    have qw2 := hb2.size
    (try simp at qw2)
    (try have zw2w := bsz (show w.heap.size < w2.heap.size by omega))
    (try have zw2w1 := bsz (show w1.heap.size < w2.heap.size by omega))
    obtain ⟨pu, cu, qu, du, rfl, rfl, rfl, rfl, rfl, -⟩ := hu.form
    have HU := Lib.hid hu
    clear hu
    go_wp2_with fail
    refine (specFTE_any m t _ _ _ _ _ _ (HU.out.below (by (repeat (first | with_reducible exact Below.refl _ _ | with_reducible assumption | with_reducible refine Below.al ?_ _ | with_reducible refine Below.sc ?_ (by first | exact Nat.le_refl _ | (simp; done) | (simp; omega)) _ | assumption | exact Below.refl _ _ | refine Below.dr ?_ | refine Below.drN ?_ _ | refine Below.step ?_ (by assumption))))) hw).mono ?_
    rintro e w3 ⟨rfl, hb3⟩
    have ⟨cw3, fw3⟩ := bcell hb3
    have qw3 := hb3.size
    (try simp at qw3)
    (try have zw3w := bsz (show w.heap.size < w3.heap.size by omega))
    (try have zw3w1 := bsz (show w1.heap.size < w3.heap.size by omega))
    (try have zw3w2 := bsz (show w2.heap.size < w3.heap.size by omega))
    go_wp2_with fail
    refine (toFormula_any m t _ _ _ _ _ _ (H.out.below (by (repeat (first | with_reducible exact Below.refl _ _ | with_reducible assumption | with_reducible refine Below.al ?_ _ | with_reducible refine Below.sc ?_ (by first | exact Nat.le_refl _ | (simp; done) | (simp; omega)) _ | assumption | exact Below.refl _ _ | refine Below.dr ?_ | refine Below.drN ?_ _ | refine Below.step ?_ (by assumption))))) hw).mono ?_
    rintro e w4 ⟨u0, u1, u2, u3, u4, rfl, hu2, hb4⟩
    have ⟨cw4, fw4⟩ := bcell hb4
    have qw4 := hb4.size
    (try simp at qw4)
    (try have zw4w := bsz (show w.heap.size < w4.heap.size by omega))
    (try have zw4w1 := bsz (show w1.heap.size < w4.heap.size by omega))
    (try have zw4w2 := bsz (show w2.heap.size < w4.heap.size by omega))
    (try have zw4w3 := bsz (show w3.heap.size < w4.heap.size by omega))
    obtain ⟨pu2, cu2, qu2, du2, rfl, rfl, rfl, rfl, rfl, -⟩ := hu2.form
    have HU2 := Lib.hid hu2
    clear hu2
    go_wp2_with fail
    refine (implFTE_any m t _ _ _ _ _ _ (HU2.out.below (by (repeat (first | with_reducible exact Below.refl _ _ | with_reducible assumption | with_reducible refine Below.al ?_ _ | with_reducible refine Below.sc ?_ (by first | exact Nat.le_refl _ | (simp; done) | (simp; omega)) _ | assumption | exact Below.refl _ _ | refine Below.dr ?_ | refine Below.drN ?_ _ | refine Below.step ?_ (by assumption))))) hw).mono ?_
    rintro e w5 ⟨rfl, hb5⟩
    have ⟨cw5, fw5⟩ := bcell hb5
    have qw5 := hb5.size
    (try simp at qw5)
    (try have zw5w := bsz (show w.heap.size < w5.heap.size by omega))
    (try have zw5w1 := bsz (show w1.heap.size < w5.heap.size by omega))
    (try have zw5w2 := bsz (show w2.heap.size < w5.heap.size by omega))
    (try have zw5w3 := bsz (show w3.heap.size < w5.heap.size by omega))
    (try have zw5w4 := bsz (show w4.heap.size < w5.heap.size by omega))
    go_wp2
    have ha0 : w5.cell? ⟨w.heap.size, 0, none⟩ = some (.int .i64 t.op) := by go_simp
    have ha1 : w5.cell? ⟨w.heap.size, 1, none⟩ = some (.string t.a.n) := by go_simp
    have ha2 : w5.cell? ⟨w.heap.size, 2, none⟩ = some (.slice p t.a.us.length c) := by go_simp
    have ha3 : w5.cell? ⟨w.heap.size, 3, none⟩ = some (.string t.v) := by go_simp
    have ha4 : w5.cell? ⟨w.heap.size, 4, none⟩ = some (.slice q t.ps.length d) := by go_simp
    have hx0 : w5.cell? ⟨w4.heap.size, 0, none⟩ = some (.int .i64 t.op) := by go_simp
    have hx1 : w5.cell? ⟨w4.heap.size, 1, none⟩ = some (.string t.a.n) := by go_simp
    have hx2 : w5.cell? ⟨w4.heap.size, 2, none⟩ = some (.slice pu2 t.a.us.length cu2) := by go_simp
    have hx3 : w5.cell? ⟨w4.heap.size, 3, none⟩ = some (.string t.v) := by go_simp
    have hx4 : w5.cell? ⟨w4.heap.size, 4, none⟩ = some (.slice qu2 t.ps.length du2) := by go_simp
    go_region_held3 (fun w' => w'.cell? ⟨w.heap.size, 0, none⟩ = some (.int .i64 t.op) ∧ w'.cell? ⟨w.heap.size, 1, none⟩ = some (.string t.a.n) ∧ w'.cell? ⟨w.heap.size, 2, none⟩ = some (.slice p t.a.us.length c) ∧ w'.cell? ⟨w.heap.size, 3, none⟩ = some (.string t.v) ∧ w'.cell? ⟨w.heap.size, 4, none⟩ = some (.slice q t.ps.length d) ∧ w'.cell? ⟨w4.heap.size, 0, none⟩ = some (.int .i64 t.op) ∧ w'.cell? ⟨w4.heap.size, 1, none⟩ = some (.string t.a.n) ∧ w'.cell? ⟨w4.heap.size, 2, none⟩ = some (.slice pu2 t.a.us.length cu2) ∧ w'.cell? ⟨w4.heap.size, 3, none⟩ = some (.string t.v) ∧ w'.cell? ⟨w4.heap.size, 4, none⟩ = some (.slice qu2 t.ps.length du2)) (first | go_keep | ((refine ⟨?_, ?_, ?_, ?_, ?_, ?_, ?_, ?_, ?_, ?_⟩ <;> first | exact cellB hb7 (cellB hb6 (by assumption)) | exact cellB hb7 (by assumption) | exact cellB hb6 (by assumption)))) (first | (go_at_call 9; refine (toFormula_any m t _ _ _ _ _ _ (H.out.below (by (repeat (first | with_reducible exact Below.refl _ _ | with_reducible assumption | with_reducible refine Below.al ?_ _ | with_reducible refine Below.sc ?_ (by first | exact Nat.le_refl _ | (simp; done) | (simp; omega)) _ | assumption | exact Below.refl _ _ | refine Below.dr ?_ | refine Below.drN ?_ _ | refine Below.step ?_ (by assumption))))) hw).mono ?_; rintro e w6 ⟨u0, u1, u2, u3, u4, rfl, hu3, hb6⟩; obtain ⟨pu3, cu3, qu3, du3, rfl, rfl, rfl, rfl, rfl, -⟩ := hu3.form; have HU3 := Lib.hid hu3; clear hu3; have ⟨c6, f6⟩ := bcell hb6; have q6 := hb6.size; (try simp at q6); have z6 := bsz (show w.heap.size < w6.heap.size by omega); have z63 := bsz (show w3.heap.size < w6.heap.size by omega); have z64 := bsz (show w4.heap.size < w6.heap.size by omega)) | (go_at_call 11; refine (eqFormula_same m t _ _ _ _ _ _ _ _ _ _ _ (HU2.out.below (by (repeat (first | with_reducible exact Below.refl _ _ | with_reducible assumption | with_reducible refine Below.al ?_ _ | with_reducible refine Below.sc ?_ (by first | exact Nat.le_refl _ | (simp; done) | (simp; omega)) _ | assumption | exact Below.refl _ _ | refine Below.dr ?_ | refine Below.drN ?_ _ | refine Below.step ?_ (by assumption))))) (HU3.out.below (by (repeat (first | with_reducible exact Below.refl _ _ | with_reducible assumption | with_reducible refine Below.al ?_ _ | with_reducible refine Below.sc ?_ (by first | exact Nat.le_refl _ | (simp; done) | (simp; omega)) _ | assumption | exact Below.refl _ _ | refine Below.dr ?_ | refine Below.drN ?_ _ | refine Below.step ?_ (by assumption)))))).mono ?_; rintro e w7 ⟨rfl, hb7⟩))
    go_wp2
    go_ret
    exact ⟨rfl, by (repeat (first | with_reducible exact Below.refl _ _ | with_reducible assumption | with_reducible refine Below.al ?_ _ | with_reducible refine Below.sc ?_ (by first | exact Nat.le_refl _ | (simp; done) | (simp; omega)) _ | assumption | exact Below.refl _ _ | refine Below.dr ?_ | refine Below.drN ?_ _ | refine Below.step ?_ (by assumption)))⟩
  · have HR := Lib.hid (show szR 1048576 t.wt = -1 from if_neg (by omega))
    go_enter Try.func3, Try.ntmps3
    go_wp2_with fail
    refine (szFormula_any m t _ _ _ _ _ _ _ (H.out.below (by (repeat (first | with_reducible exact Below.refl _ _ | with_reducible assumption | with_reducible refine Below.al ?_ _ | with_reducible refine Below.sc ?_ (by first | exact Nat.le_refl _ | (simp; done) | (simp; omega)) _ | assumption | exact Below.refl _ _ | refine Below.dr ?_ | refine Below.drN ?_ _ | refine Below.step ?_ (by assumption))))) (by omega) (by omega)).mono ?_
    rintro e w1 ⟨rfl, hb1⟩
    have ⟨cw1, fw1⟩ := bcell hb1
    have qw1 := hb1.size
    (try simp at qw1)
    (try have zw1w := bsz (show w.heap.size < w1.heap.size by omega))
    rw [HR.out]
    go_wp2
    go_ret
    exact ⟨rfl, by (repeat (first | with_reducible exact Below.refl _ _ | with_reducible assumption | with_reducible refine Below.al ?_ _ | with_reducible refine Below.sc ?_ (by first | exact Nat.le_refl _ | (simp; done) | (simp; omega)) _ | assumption | exact Below.refl _ _ | refine Below.dr ?_ | refine Below.drN ?_ _ | refine Below.step ?_ (by assumption)))⟩
end Go.Proofs.Ytinfogmjijeliaa
