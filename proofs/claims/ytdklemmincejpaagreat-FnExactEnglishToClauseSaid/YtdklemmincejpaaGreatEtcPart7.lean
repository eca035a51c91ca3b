/- What EnglishToFormula answers, as a predicate. No conditions; no program is walked. -/
import Derived.Test.YtdklemmincejpaaGreatEtcPart2
import Derived.Test.YtdklemmincejpaaGreatEtcPart5
import Derived.Test.YtdklemmincejpaaGreatEtcPart6
namespace Go.Proofs.YtdklemmincejpaaGreat
open Go.RowKit
/-- The texts in front of, between and behind the parts. -/
theorem eng_neg (g : Fm) : (opF 4 [g]).eng = sNot ++ g.eng := by rw [opF, Fm.eng]; rfl
theorem eng_and (g h : Fm) : (opF 5 [g, h]).eng = sBoth ++ g.eng ++ sAnd ++ h.eng := by rw [opF, Fm.eng]; rfl
theorem eng_or (g h : Fm) : (opF 6 [g, h]).eng = sEither ++ g.eng ++ sOr ++ h.eng := by rw [opF, Fm.eng]; rfl
theorem eng_imp (g h : Fm) : (opF 7 [g, h]).eng = sIf ++ g.eng ++ sThen ++ h.eng := by rw [opF, Fm.eng]; rfl
theorem eng_all (v : List UInt8) (g : Fm) : (quantF 8 v g).eng = sEvery ++ v ++ sComma ++ g.eng := by rw [quantF, Fm.eng]; rfl
theorem eng_ex (v : List UInt8) (g : Fm) : (quantF 9 v g).eng = sThere ++ v ++ sSuch ++ g.eng := by rw [quantF, Fm.eng]; rfl
theorem eng_atm (a : Tm) : (atomOfF a).eng = a.eng := by rw [atomOfF, Fm.eng]; rfl
def EngAt (P : Program) (k : FuncId) (B : Nat → Prop) (m : Nat) : Prop := ∀ (t : Fm) (v0 v1 v2 v3 v4 : Value) (w : World), FmAt B m w t [v0, v1, v2, v3, v4] → t.form = true → t.eng.length ≤ 1000000000000 →
      Calls P k #[.agg #[v0, v1, v2, v3, v4]] w fun e w' => e = .returned (.string ⟨t.eng.toArray⟩) ∧ Below w.heap.size w w'
theorem englishPart_of {B : Nat → Prop} (m : Nat) (ih : EngAt Tryz.prog 32 B m) (ps : List Fm) (q : Option Addr) (d g : Nat) (w : World) (hc : w.cell? ⟨g, 4, none⟩ = some (.slice q ps.length d))
    (hl : ListAt B w 5 (FmAt B m w) (.slice q ps.length d) ps) (k : Nat) (i : Int) (hi : i = k) (hk : k < ps.length) (hf : (ps[k]).form = true) (hz : (ps[k]).eng.length ≤ 1000000000000) :
    Calls Tryz.prog 70 #[.int .i64 i, .pointer (some ⟨g, 0, none⟩)] w fun e w' => e = .returned (.string ⟨(ps[k]).eng.toArray⟩) ∧ Below w.heap.size w w' := by
  subst hi
  obtain ⟨b, o, rfl, hB, x0, x1, x2, x3, x4, hx0, hx1, hx2, hx3, hx4, hx⟩ := hl.at5 hk
  obtain ⟨a, ha⟩ : ∃ a, ps[k] = a := ⟨_, rfl⟩
  rw [ha] at hx hf hz ⊢
  obtain ⟨pa, ca, qa, da, rfl, rfl, rfl, rfl, rfl, -⟩ := hx.form
  have HX := Lib.hid hx
  have IH := Lib.hid ih
  have HF := Lib.hid (And.intro hf hz)
  clear hl ha hx ih hf hz
  go_enter Tryz.func70, Tryz.ntmps70
  go_wp2_with fail
  refine (IH.out a _ _ _ _ _ _ (HX.out.below (by (repeat (first | with_reducible exact Below.refl _ _ | with_reducible assumption | with_reducible refine Below.al ?_ _ | with_reducible refine Below.sc ?_ (by first | exact Nat.le_refl _ | (simp; done) | (simp; omega)) _ | assumption | exact Below.refl _ _ | refine Below.dr ?_ | refine Below.drN ?_ _ | refine Below.step ?_ (by assumption))))) HF.out.1 HF.out.2).mono ?_
  rintro e w1 ⟨rfl, hb1⟩
  have ⟨cw1, fw1⟩ := bcell hb1
  have qw1 := hb1.size
  (try simp at qw1)
  (try have zw1w := bsz (show w.heap.size < w1.heap.size by omega))
  go_wp2
  go_ret
  exact ⟨rfl, by (repeat (first | with_reducible exact Below.refl _ _ | with_reducible assumption | with_reducible refine Below.al ?_ _ | with_reducible refine Below.sc ?_ (by first | exact Nat.le_refl _ | (simp; done) | (simp; omega)) _ | assumption | exact Below.refl _ _ | refine Below.dr ?_ | refine Below.drN ?_ _ | refine Below.step ?_ (by assumption)))⟩
set_option maxRecDepth 100000 in
set_option maxHeartbeats 3200000 in
theorem english_any {B : Nat → Prop} : ∀ m : Nat, EngAt Tryz.prog 32 B m := by
  intro m
  induction m with
  | zero => intro t v0 v1 v2 v3 v4 w h; exact h.elim
  | succ m ih =>
    intro t v0 v1 v2 v3 v4 w hfm hf hz
    have HP := Lib.hid (englishPart_of m ih)
    clear ih
    cases form_cases hf with
    | tru =>
      obtain ⟨p, c, q, d, rfl, rfl, rfl, rfl, rfl, -⟩ := hfm.form
      clear hfm hf hz
      show Calls Tryz.prog 32 #[.agg #[.int .i64 1, .string ⟨#[]⟩, .slice p 0 c, .string ⟨#[]⟩, .slice q 0 d]] w _
      go_enter Tryz.func32, Tryz.ntmps32
      go_wp2
      go_ret
      exact ⟨ret_str (by rw [opF, Fm.eng]; rfl), by (repeat (first | with_reducible exact Below.refl _ _ | with_reducible assumption | with_reducible refine Below.al ?_ _ | with_reducible refine Below.sc ?_ (by first | exact Nat.le_refl _ | (simp; done) | (simp; omega)) _ | assumption | exact Below.refl _ _ | refine Below.dr ?_ | refine Below.drN ?_ _ | refine Below.step ?_ (by assumption)))⟩
    | fal =>
      obtain ⟨p, c, q, d, rfl, rfl, rfl, rfl, rfl, -⟩ := hfm.form
      clear hfm hf hz
      show Calls Tryz.prog 32 #[.agg #[.int .i64 2, .string ⟨#[]⟩, .slice p 0 c, .string ⟨#[]⟩, .slice q 0 d]] w _
      go_enter Tryz.func32, Tryz.ntmps32
      go_wp2
      go_ret
      exact ⟨ret_str (by rw [opF, Fm.eng]; rfl), by (repeat (first | with_reducible exact Below.refl _ _ | with_reducible assumption | with_reducible refine Below.al ?_ _ | with_reducible refine Below.sc ?_ (by first | exact Nat.le_refl _ | (simp; done) | (simp; omega)) _ | assumption | exact Below.refl _ _ | refine Below.dr ?_ | refine Below.drN ?_ _ | refine Below.step ?_ (by assumption)))⟩
    | atm a ha =>
      have HA := Lib.hid (show TmAt B (m + 1) w a _ from hfm.atm)
      obtain ⟨p, c, q, d, rfl, rfl, rfl, rfl, rfl, -⟩ := hfm.form
      rw [eng_atm] at hz ⊢
      have HZ := Lib.hid (And.intro ha hz)
      clear hfm hf hz
      show Calls Tryz.prog 32 #[.agg #[.int .i64 3, .string a.n, .slice p a.us.length c, .string ⟨#[]⟩, .slice q 0 d]] w _
      go_enter Tryz.func32, Tryz.ntmps32
      go_wp2_with fail
      refine (atomEnglish_any (m + 1) a _ _ _ (HA.out.below (by (repeat (first | with_reducible exact Below.refl _ _ | with_reducible assumption | with_reducible refine Below.al ?_ _ | with_reducible refine Below.sc ?_ (by first | exact Nat.le_refl _ | (simp; done) | (simp; omega)) _ | assumption | exact Below.refl _ _ | refine Below.dr ?_ | refine Below.drN ?_ _ | refine Below.step ?_ (by assumption))))) HZ.out.1 HZ.out.2).mono ?_
      rintro e w1 ⟨rfl, hb1⟩
      have ⟨cw1, fw1⟩ := bcell hb1
      have qw1 := hb1.size
      (try simp at qw1)
      (try have zw1w := bsz (show w.heap.size < w1.heap.size by omega))
      go_wp2
      go_ret
      exact ⟨rfl, by (repeat (first | with_reducible exact Below.refl _ _ | with_reducible assumption | with_reducible refine Below.al ?_ _ | with_reducible refine Below.sc ?_ (by first | exact Nat.le_refl _ | (simp; done) | (simp; omega)) _ | assumption | exact Below.refl _ _ | refine Below.dr ?_ | refine Below.drN ?_ _ | refine Below.step ?_ (by assumption)))⟩
    | neg g hg =>
      obtain ⟨p, c, q, d, rfl, rfl, rfl, rfl, rfl, -⟩ := hfm.form
      obtain ⟨vn, va, vp, hcs, hop, hs, ht, hl⟩ := hfm
      simp only [List.cons.injEq, and_true] at hcs
      obtain ⟨-, -, -, -, rfl⟩ := hcs
      have HL := Lib.hid (show ListAt B w 5 (FmAt B m w) (.slice q 1 d) [g] from hl)
      have hz2 : g.eng.length + 24 ≤ 1000000000000 := by rw [eng_neg] at hz; simp [sNot] at hz; omega
      have HG := Lib.hid hg
      clear hf hz ht hl
      show Calls Tryz.prog 32 #[.agg #[.int .i64 4, .string ⟨#[]⟩, .slice p 0 c, .string ⟨#[]⟩, .slice q 1 d]] w _
      go_enter Tryz.func32, Tryz.ntmps32
      go_wp2_with fail
      refine (HP.out [g] q d _ _ (by go_simp) (HL.out.mono (SameOn.below (by (repeat (first | with_reducible exact Below.refl _ _ | with_reducible assumption | with_reducible refine Below.al ?_ _ | with_reducible refine Below.sc ?_ (by first | exact Nat.le_refl _ | (simp; done) | (simp; omega)) _ | assumption | exact Below.refl _ _ | refine Below.dr ?_ | refine Below.drN ?_ _ | refine Below.step ?_ (by assumption))))) (fun _ h => h) (fun x cs _ hx => FmAt.below (by (repeat (first | with_reducible exact Below.refl _ _ | with_reducible assumption | with_reducible refine Below.al ?_ _ | with_reducible refine Below.sc ?_ (by first | exact Nat.le_refl _ | (simp; done) | (simp; omega)) _ | assumption | exact Below.refl _ _ | refine Below.dr ?_ | refine Below.drN ?_ _ | refine Below.step ?_ (by assumption)))) hx)) 0 _ rfl (by simp) HG.out (by show g.eng.length ≤ _; omega)).mono ?_
      rintro e w1 ⟨rfl, hb1⟩
      have ⟨cw1, fw1⟩ := bcell hb1
      have qw1 := hb1.size
      (try simp at qw1)
      (try have zw1w := bsz (show w.heap.size < w1.heap.size by omega))
      simp only [List.getElem_cons_zero]
      go_wp2
      go_ret
      exact ⟨ret_strs (by rw [eng_neg]; simp [sNot]), by (repeat (first | with_reducible exact Below.refl _ _ | with_reducible assumption | with_reducible refine Below.al ?_ _ | with_reducible refine Below.sc ?_ (by first | exact Nat.le_refl _ | (simp; done) | (simp; omega)) _ | assumption | exact Below.refl _ _ | refine Below.dr ?_ | refine Below.drN ?_ _ | refine Below.step ?_ (by assumption)))⟩
    | bin op g h ho hg hh =>
      obtain ⟨p, c, q, d, rfl, rfl, rfl, rfl, rfl, -⟩ := hfm.form
      obtain ⟨vn, va, vp, hcs, hop, hs, ht, hl⟩ := hfm
      simp only [List.cons.injEq, and_true] at hcs
      obtain ⟨-, -, -, -, rfl⟩ := hcs
      have HL := Lib.hid (show ListAt B w 5 (FmAt B m w) (.slice q 2 d) [g, h] from hl)
      have HG := Lib.hid (And.intro hg hh)
      clear hf ht hl hg hh
      rcases ho with rfl | rfl | rfl
      · have hz2 : g.eng.length + h.eng.length + 30 ≤ 1000000000030 := by rw [eng_and] at hz; simp at hz; omega
        clear hz
        show Calls Tryz.prog 32 #[.agg #[.int .i64 5, .string ⟨#[]⟩, .slice p 0 c, .string ⟨#[]⟩, .slice q 2 d]] w _
        go_enter Tryz.func32, Tryz.ntmps32
        go_wp2_with fail
        refine (HP.out [g, h] q d _ _ (by go_simp) (HL.out.mono (SameOn.below (by (repeat (first | with_reducible exact Below.refl _ _ | with_reducible assumption | with_reducible refine Below.al ?_ _ | with_reducible refine Below.sc ?_ (by first | exact Nat.le_refl _ | (simp; done) | (simp; omega)) _ | assumption | exact Below.refl _ _ | refine Below.dr ?_ | refine Below.drN ?_ _ | refine Below.step ?_ (by assumption))))) (fun _ h => h) (fun x cs _ hx => FmAt.below (by (repeat (first | with_reducible exact Below.refl _ _ | with_reducible assumption | with_reducible refine Below.al ?_ _ | with_reducible refine Below.sc ?_ (by first | exact Nat.le_refl _ | (simp; done) | (simp; omega)) _ | assumption | exact Below.refl _ _ | refine Below.dr ?_ | refine Below.drN ?_ _ | refine Below.step ?_ (by assumption)))) hx)) 0 _ rfl (by simp) HG.out.1 (by show g.eng.length ≤ _; omega)).mono ?_
        rintro e w1 ⟨rfl, hb1⟩
        have ⟨cw1, fw1⟩ := bcell hb1
        have qw1 := hb1.size
        (try simp at qw1)
        (try have zw1w := bsz (show w.heap.size < w1.heap.size by omega))
        simp only [List.getElem_cons_zero]
        go_wp2_with fail
        refine (HP.out [g, h] q d _ _ (by go_simp) (HL.out.mono (SameOn.below (by (repeat (first | with_reducible exact Below.refl _ _ | with_reducible assumption | with_reducible refine Below.al ?_ _ | with_reducible refine Below.sc ?_ (by first | exact Nat.le_refl _ | (simp; done) | (simp; omega)) _ | assumption | exact Below.refl _ _ | refine Below.dr ?_ | refine Below.drN ?_ _ | refine Below.step ?_ (by assumption))))) (fun _ h => h) (fun x cs _ hx => FmAt.below (by (repeat (first | with_reducible exact Below.refl _ _ | with_reducible assumption | with_reducible refine Below.al ?_ _ | with_reducible refine Below.sc ?_ (by first | exact Nat.le_refl _ | (simp; done) | (simp; omega)) _ | assumption | exact Below.refl _ _ | refine Below.dr ?_ | refine Below.drN ?_ _ | refine Below.step ?_ (by assumption)))) hx)) 1 _ rfl (by simp) HG.out.2 (by show h.eng.length ≤ _; omega)).mono ?_
        rintro e w2 ⟨rfl, hb2⟩
        have ⟨cw2, fw2⟩ := bcell hb2
        have qw2 := hb2.size
        (try simp at qw2)
        (try have zw2w := bsz (show w.heap.size < w2.heap.size by omega))
        (try have zw2w1 := bsz (show w1.heap.size < w2.heap.size by omega))
        simp only [List.getElem_cons_succ, List.getElem_cons_zero]
        go_wp2
        go_ret
        exact ⟨ret_strs (by rw [eng_and]; simp [sBoth, sAnd]), by (repeat (first | with_reducible exact Below.refl _ _ | with_reducible assumption | with_reducible refine Below.al ?_ _ | with_reducible refine Below.sc ?_ (by first | exact Nat.le_refl _ | (simp; done) | (simp; omega)) _ | assumption | exact Below.refl _ _ | refine Below.dr ?_ | refine Below.drN ?_ _ | refine Below.step ?_ (by assumption)))⟩
      · have hz2 : g.eng.length + h.eng.length + 30 ≤ 1000000000030 := by rw [eng_or] at hz; simp at hz; omega
        clear hz
        show Calls Tryz.prog 32 #[.agg #[.int .i64 6, .string ⟨#[]⟩, .slice p 0 c, .string ⟨#[]⟩, .slice q 2 d]] w _
        go_enter Tryz.func32, Tryz.ntmps32
        go_wp2_with fail
        refine (HP.out [g, h] q d _ _ (by go_simp) (HL.out.mono (SameOn.below (by (repeat (first | with_reducible exact Below.refl _ _ | with_reducible assumption | with_reducible refine Below.al ?_ _ | with_reducible refine Below.sc ?_ (by first | exact Nat.le_refl _ | (simp; done) | (simp; omega)) _ | assumption | exact Below.refl _ _ | refine Below.dr ?_ | refine Below.drN ?_ _ | refine Below.step ?_ (by assumption))))) (fun _ h => h) (fun x cs _ hx => FmAt.below (by (repeat (first | with_reducible exact Below.refl _ _ | with_reducible assumption | with_reducible refine Below.al ?_ _ | with_reducible refine Below.sc ?_ (by first | exact Nat.le_refl _ | (simp; done) | (simp; omega)) _ | assumption | exact Below.refl _ _ | refine Below.dr ?_ | refine Below.drN ?_ _ | refine Below.step ?_ (by assumption)))) hx)) 0 _ rfl (by simp) HG.out.1 (by show g.eng.length ≤ _; omega)).mono ?_
        rintro e w1 ⟨rfl, hb1⟩
        have ⟨cw1, fw1⟩ := bcell hb1
        have qw1 := hb1.size
        (try simp at qw1)
        (try have zw1w := bsz (show w.heap.size < w1.heap.size by omega))
        simp only [List.getElem_cons_zero]
        go_wp2_with fail
        refine (HP.out [g, h] q d _ _ (by go_simp) (HL.out.mono (SameOn.below (by (repeat (first | with_reducible exact Below.refl _ _ | with_reducible assumption | with_reducible refine Below.al ?_ _ | with_reducible refine Below.sc ?_ (by first | exact Nat.le_refl _ | (simp; done) | (simp; omega)) _ | assumption | exact Below.refl _ _ | refine Below.dr ?_ | refine Below.drN ?_ _ | refine Below.step ?_ (by assumption))))) (fun _ h => h) (fun x cs _ hx => FmAt.below (by (repeat (first | with_reducible exact Below.refl _ _ | with_reducible assumption | with_reducible refine Below.al ?_ _ | with_reducible refine Below.sc ?_ (by first | exact Nat.le_refl _ | (simp; done) | (simp; omega)) _ | assumption | exact Below.refl _ _ | refine Below.dr ?_ | refine Below.drN ?_ _ | refine Below.step ?_ (by assumption)))) hx)) 1 _ rfl (by simp) HG.out.2 (by show h.eng.length ≤ _; omega)).mono ?_
        rintro e w2 ⟨rfl, hb2⟩
        have ⟨cw2, fw2⟩ := bcell hb2
        have qw2 := hb2.size
        (try simp at qw2)
        (try have zw2w := bsz (show w.heap.size < w2.heap.size by omega))
        (try have zw2w1 := bsz (show w1.heap.size < w2.heap.size by omega))
        simp only [List.getElem_cons_succ, List.getElem_cons_zero]
        go_wp2
        go_ret
        exact ⟨ret_strs (by rw [eng_or]; simp [sEither, sOr]), by (repeat (first | with_reducible exact Below.refl _ _ | with_reducible assumption | with_reducible refine Below.al ?_ _ | with_reducible refine Below.sc ?_ (by first | exact Nat.le_refl _ | (simp; done) | (simp; omega)) _ | assumption | exact Below.refl _ _ | refine Below.dr ?_ | refine Below.drN ?_ _ | refine Below.step ?_ (by assumption)))⟩
      · have hz2 : g.eng.length + h.eng.length + 30 ≤ 1000000000030 := by rw [eng_imp] at hz; simp at hz; omega
        clear hz
        show Calls Tryz.prog 32 #[.agg #[.int .i64 7, .string ⟨#[]⟩, .slice p 0 c, .string ⟨#[]⟩, .slice q 2 d]] w _
        go_enter Tryz.func32, Tryz.ntmps32
        go_wp2_with fail
        refine (HP.out [g, h] q d _ _ (by go_simp) (HL.out.mono (SameOn.below (by (repeat (first | with_reducible exact Below.refl _ _ | with_reducible assumption | with_reducible refine Below.al ?_ _ | with_reducible refine Below.sc ?_ (by first | exact Nat.le_refl _ | (simp; done) | (simp; omega)) _ | assumption | exact Below.refl _ _ | refine Below.dr ?_ | refine Below.drN ?_ _ | refine Below.step ?_ (by assumption))))) (fun _ h => h) (fun x cs _ hx => FmAt.below (by (repeat (first | with_reducible exact Below.refl _ _ | with_reducible assumption | with_reducible refine Below.al ?_ _ | with_reducible refine Below.sc ?_ (by first | exact Nat.le_refl _ | (simp; done) | (simp; omega)) _ | assumption | exact Below.refl _ _ | refine Below.dr ?_ | refine Below.drN ?_ _ | refine Below.step ?_ (by assumption)))) hx)) 0 _ rfl (by simp) HG.out.1 (by show g.eng.length ≤ _; omega)).mono ?_
        rintro e w1 ⟨rfl, hb1⟩
        have ⟨cw1, fw1⟩ := bcell hb1
        have qw1 := hb1.size
        (try simp at qw1)
        (try have zw1w := bsz (show w.heap.size < w1.heap.size by omega))
        simp only [List.getElem_cons_zero]
        go_wp2_with fail
        refine (HP.out [g, h] q d _ _ (by go_simp) (HL.out.mono (SameOn.below (by (repeat (first | with_reducible exact Below.refl _ _ | with_reducible assumption | with_reducible refine Below.al ?_ _ | with_reducible refine Below.sc ?_ (by first | exact Nat.le_refl _ | (simp; done) | (simp; omega)) _ | assumption | exact Below.refl _ _ | refine Below.dr ?_ | refine Below.drN ?_ _ | refine Below.step ?_ (by assumption))))) (fun _ h => h) (fun x cs _ hx => FmAt.below (by (repeat (first | with_reducible exact Below.refl _ _ | with_reducible assumption | with_reducible refine Below.al ?_ _ | with_reducible refine Below.sc ?_ (by first | exact Nat.le_refl _ | (simp; done) | (simp; omega)) _ | assumption | exact Below.refl _ _ | refine Below.dr ?_ | refine Below.drN ?_ _ | refine Below.step ?_ (by assumption)))) hx)) 1 _ rfl (by simp) HG.out.2 (by show h.eng.length ≤ _; omega)).mono ?_
        rintro e w2 ⟨rfl, hb2⟩
        have ⟨cw2, fw2⟩ := bcell hb2
        have qw2 := hb2.size
        (try simp at qw2)
        (try have zw2w := bsz (show w.heap.size < w2.heap.size by omega))
        (try have zw2w1 := bsz (show w1.heap.size < w2.heap.size by omega))
        simp only [List.getElem_cons_succ, List.getElem_cons_zero]
        go_wp2
        go_ret
        exact ⟨ret_strs (by rw [eng_imp]; simp [sIf, sThen]), by (repeat (first | with_reducible exact Below.refl _ _ | with_reducible assumption | with_reducible refine Below.al ?_ _ | with_reducible refine Below.sc ?_ (by first | exact Nat.le_refl _ | (simp; done) | (simp; omega)) _ | assumption | exact Below.refl _ _ | refine Below.dr ?_ | refine Below.drN ?_ _ | refine Below.step ?_ (by assumption)))⟩
    | qua op v g ho hv hg =>
      obtain ⟨p, c, q, d, rfl, rfl, rfl, rfl, rfl, -⟩ := hfm.form
      obtain ⟨vn, va, vp, hcs, hop, hs, ht, hl⟩ := hfm
      simp only [List.cons.injEq, and_true] at hcs
      obtain ⟨-, -, -, -, rfl⟩ := hcs
      have HL := Lib.hid (show ListAt B w 5 (FmAt B m w) (.slice q 1 d) [g] from hl)
      have HG := Lib.hid hg
      clear hf ht hl hg
      rcases ho with rfl | rfl
      · have hz2 : g.eng.length + v.length + 30 ≤ 1000000000030 := by rw [eng_all] at hz; simp at hz; omega
        clear hz
        show Calls Tryz.prog 32 #[.agg #[.int .i64 8, .string ⟨#[]⟩, .slice p 0 c, .string ⟨v.toArray⟩, .slice q 1 d]] w _
        go_enter Tryz.func32, Tryz.ntmps32
        go_wp2
        obtain ⟨W, hW⟩ : ∃ W : World, W = w.alloc (.cells #[.int .i64 8, .string ⟨#[]⟩, .slice p 0 c, .string ⟨v.toArray⟩, .slice q 1 d] 27) := ⟨_, rfl⟩
        have hwb : W.cell? ⟨w.heap.size, 3, none⟩ = some (.string ⟨v.toArray⟩) := by rw [hW]; go_simp
        have hwc : W.cell? ⟨w.heap.size, 4, none⟩ = some (.slice q 1 d) := by rw [hW]; go_simp
        have hbW : Below w.heap.size w W := by rw [hW]; (repeat (first | with_reducible exact Below.refl _ _ | with_reducible assumption | with_reducible refine Below.al ?_ _ | with_reducible refine Below.sc ?_ (by first | exact Nat.le_refl _ | (simp; done) | (simp; omega)) _ | assumption | exact Below.refl _ _ | refine Below.dr ?_ | refine Below.drN ?_ _ | refine Below.step ?_ (by assumption)))
        rw [← hW]
        clear hW
        have zW := bsz (World.block_lt_of_cell? _ _ hwb)
        obtain ⟨C, HC0⟩ := class_of (InF W.heap.size _ [(⟨w.heap.size, 3, none⟩, .string ⟨v.toArray⟩), (⟨w.heap.size, 4, none⟩, .slice q 1 d)] [] [])
        have HC := Lib.hid HC0
        clear HC0
        refine wp_region_flow (C := C) (by kernel_rfl) (by kernel_rfl) (fun L hL => (HC.out _ _).2 (InF.start (by first | (intro _ hs; cases hs; done) | (simp only [List.forall_mem_cons]; go_simp)) (by first | (intro _ hs; cases hs; done) | (simp only [List.forall_mem_cons]; go_simp)) (by first | (intro _ hs; cases hs; done) | (simp only [List.forall_mem_cons]; go_simp)) (by first | (intro _ hs; cases hs; done) | (simp only [List.forall_mem_cons]; go_simp)) L hL)) ?_
        repeat (first | (apply flow_free rfl; (intro L w' hun hrd hC; have hC := (HC.out _ _).1 hC; have hb' := hC.below; (try have hw' : Below w.heap.size w w' := by first | exact Below.trans (by (repeat (first | with_reducible exact Below.refl _ _ | with_reducible assumption | with_reducible refine Below.al ?_ _ | with_reducible refine Below.sc ?_ (by first | exact Nat.le_refl _ | (simp; done) | (simp; omega)) _ | assumption | exact Below.refl _ _ | refine Below.dr ?_ | refine Below.drN ?_ _ | refine Below.step ?_ (by assumption)))) hb' | ((repeat (first | with_reducible exact Below.refl _ _ | with_reducible assumption | with_reducible refine Below.al ?_ _ | with_reducible refine Below.sc ?_ (by first | exact Nat.le_refl _ | (simp; done) | (simp; omega)) _ | assumption | exact Below.refl _ _ | refine Below.dr ?_ | refine Below.drN ?_ _ | refine Below.step ?_ (by assumption))); done)); have hf' := hC.cell; (try simp only [List.forall_mem_cons] at hf'); go_simp; first | exact ⟨(HC.out _ _).2 (hC.skip _ (by rfl)), rfl⟩ | (rw [if_neg]; (exact ⟨(HC.out _ _).2 (hC.skip _ (by rfl)), rfl⟩); omega) | (go_at_call 70; refine (HP.out [g] q d _ _ hf'.2.1 (HL.out.mono (SameOn.below hw') (fun _ h => h) (fun x cs _ hx => FmAt.below hw' hx)) 0 _ rfl (by simp) HG.out (by show g.eng.length ≤ _; omega)).mono ?_; rintro e w1 ⟨rfl, hb1⟩; exact ⟨rfl, (HC.out _ _).2 ((hC.next (by first | (simp; done) | (simp; omega) | omega) hb1).skip _ (by rfl))⟩)); go_simp) | (apply flow_yes; (case hw => go_simp); (intro L w' hun hrd hC; have hC := (HC.out _ _).1 hC; have hb' := hC.below; (try have hw' : Below w.heap.size w w' := by first | exact Below.trans (by (repeat (first | with_reducible exact Below.refl _ _ | with_reducible assumption | with_reducible refine Below.al ?_ _ | with_reducible refine Below.sc ?_ (by first | exact Nat.le_refl _ | (simp; done) | (simp; omega)) _ | assumption | exact Below.refl _ _ | refine Below.dr ?_ | refine Below.drN ?_ _ | refine Below.step ?_ (by assumption)))) hb' | ((repeat (first | with_reducible exact Below.refl _ _ | with_reducible assumption | with_reducible refine Below.al ?_ _ | with_reducible refine Below.sc ?_ (by first | exact Nat.le_refl _ | (simp; done) | (simp; omega)) _ | assumption | exact Below.refl _ _ | refine Below.dr ?_ | refine Below.drN ?_ _ | refine Below.step ?_ (by assumption))); done)); have hf' := hC.cell; (try simp only [List.forall_mem_cons] at hf'); go_simp; first | exact ⟨(HC.out _ _).2 (hC.skip _ (by rfl)), rfl⟩ | (rw [if_neg]; (exact ⟨(HC.out _ _).2 (hC.skip _ (by rfl)), rfl⟩); omega) | (go_at_call 70; refine (HP.out [g] q d _ _ hf'.2.1 (HL.out.mono (SameOn.below hw') (fun _ h => h) (fun x cs _ hx => FmAt.below hw' hx)) 0 _ rfl (by simp) HG.out (by show g.eng.length ≤ _; omega)).mono ?_; rintro e w1 ⟨rfl, hb1⟩; exact ⟨rfl, (HC.out _ _).2 ((hC.next (by first | (simp; done) | (simp; omega) | omega) hb1).skip _ (by rfl))⟩)); go_simp) | (apply flow_no; (case hw => (go_simp; try (intro hh; cases hh))); (intro L w' _ _ hC; exact (HC.out _ _).2 (((HC.out _ _).1 hC).skip _ (by rfl))); go_simp))
        refine flow_nil ?_
        intro L wz hL hz
        have hz := (HC.out _ _).1 hz
        have hbz := hz.below
        have hcz := hz.cell
        try simp only [List.forall_mem_cons] at hcz
        have hdz := hz.done
        try simp only [List.forall_mem_cons] at hdz
        (try have hwz : Below w.heap.size w wz := by first | exact Below.trans (by (repeat (first | with_reducible exact Below.refl _ _ | with_reducible assumption | with_reducible refine Below.al ?_ _ | with_reducible refine Below.sc ?_ (by first | exact Nat.le_refl _ | (simp; done) | (simp; omega)) _ | assumption | exact Below.refl _ _ | refine Below.dr ?_ | refine Below.drN ?_ _ | refine Below.step ?_ (by assumption)))) hbz | ((repeat (first | with_reducible exact Below.refl _ _ | with_reducible assumption | with_reducible refine Below.al ?_ _ | with_reducible refine Below.sc ?_ (by first | exact Nat.le_refl _ | (simp; done) | (simp; omega)) _ | assumption | exact Below.refl _ _ | refine Below.dr ?_ | refine Below.drN ?_ _ | refine Below.step ?_ (by assumption))); done))
        go_wp2
        go_ret
        exact ⟨ret_strs (by rw [eng_all]; simp [sEvery, sComma]), by (repeat (first | with_reducible exact Below.refl _ _ | with_reducible assumption | with_reducible refine Below.al ?_ _ | with_reducible refine Below.sc ?_ (by first | exact Nat.le_refl _ | (simp; done) | (simp; omega)) _ | assumption | exact Below.refl _ _ | refine Below.dr ?_ | refine Below.drN ?_ _ | refine Below.step ?_ (by assumption)))⟩
      · have hz2 : g.eng.length + v.length + 30 ≤ 1000000000030 := by rw [eng_ex] at hz; simp at hz; omega
        clear hz
        show Calls Tryz.prog 32 #[.agg #[.int .i64 9, .string ⟨#[]⟩, .slice p 0 c, .string ⟨v.toArray⟩, .slice q 1 d]] w _
        go_enter Tryz.func32, Tryz.ntmps32
        go_wp2
        obtain ⟨W, hW⟩ : ∃ W : World, W = w.alloc (.cells #[.int .i64 9, .string ⟨#[]⟩, .slice p 0 c, .string ⟨v.toArray⟩, .slice q 1 d] 27) := ⟨_, rfl⟩
        have hwb : W.cell? ⟨w.heap.size, 3, none⟩ = some (.string ⟨v.toArray⟩) := by rw [hW]; go_simp
        have hwc : W.cell? ⟨w.heap.size, 4, none⟩ = some (.slice q 1 d) := by rw [hW]; go_simp
        have hbW : Below w.heap.size w W := by rw [hW]; (repeat (first | with_reducible exact Below.refl _ _ | with_reducible assumption | with_reducible refine Below.al ?_ _ | with_reducible refine Below.sc ?_ (by first | exact Nat.le_refl _ | (simp; done) | (simp; omega)) _ | assumption | exact Below.refl _ _ | refine Below.dr ?_ | refine Below.drN ?_ _ | refine Below.step ?_ (by assumption)))
        rw [← hW]
        clear hW
        have zW := bsz (World.block_lt_of_cell? _ _ hwb)
        obtain ⟨C, HC0⟩ := class_of (InF W.heap.size _ [(⟨w.heap.size, 3, none⟩, .string ⟨v.toArray⟩), (⟨w.heap.size, 4, none⟩, .slice q 1 d)] [] [])
        have HC := Lib.hid HC0
        clear HC0
        refine wp_region_flow (C := C) (by kernel_rfl) (by kernel_rfl) (fun L hL => (HC.out _ _).2 (InF.start (by first | (intro _ hs; cases hs; done) | (simp only [List.forall_mem_cons]; go_simp)) (by first | (intro _ hs; cases hs; done) | (simp only [List.forall_mem_cons]; go_simp)) (by first | (intro _ hs; cases hs; done) | (simp only [List.forall_mem_cons]; go_simp)) (by first | (intro _ hs; cases hs; done) | (simp only [List.forall_mem_cons]; go_simp)) L hL)) ?_
        repeat (first | (apply flow_free rfl; (intro L w' hun hrd hC; have hC := (HC.out _ _).1 hC; have hb' := hC.below; (try have hw' : Below w.heap.size w w' := by first | exact Below.trans (by (repeat (first | with_reducible exact Below.refl _ _ | with_reducible assumption | with_reducible refine Below.al ?_ _ | with_reducible refine Below.sc ?_ (by first | exact Nat.le_refl _ | (simp; done) | (simp; omega)) _ | assumption | exact Below.refl _ _ | refine Below.dr ?_ | refine Below.drN ?_ _ | refine Below.step ?_ (by assumption)))) hb' | ((repeat (first | with_reducible exact Below.refl _ _ | with_reducible assumption | with_reducible refine Below.al ?_ _ | with_reducible refine Below.sc ?_ (by first | exact Nat.le_refl _ | (simp; done) | (simp; omega)) _ | assumption | exact Below.refl _ _ | refine Below.dr ?_ | refine Below.drN ?_ _ | refine Below.step ?_ (by assumption))); done)); have hf' := hC.cell; (try simp only [List.forall_mem_cons] at hf'); go_simp; first | exact ⟨(HC.out _ _).2 (hC.skip _ (by rfl)), rfl⟩ | (rw [if_neg]; (exact ⟨(HC.out _ _).2 (hC.skip _ (by rfl)), rfl⟩); omega) | (go_at_call 70; refine (HP.out [g] q d _ _ hf'.2.1 (HL.out.mono (SameOn.below hw') (fun _ h => h) (fun x cs _ hx => FmAt.below hw' hx)) 0 _ rfl (by simp) HG.out (by show g.eng.length ≤ _; omega)).mono ?_; rintro e w1 ⟨rfl, hb1⟩; exact ⟨rfl, (HC.out _ _).2 ((hC.next (by first | (simp; done) | (simp; omega) | omega) hb1).skip _ (by rfl))⟩)); go_simp) | (apply flow_yes; (case hw => go_simp); (intro L w' hun hrd hC; have hC := (HC.out _ _).1 hC; have hb' := hC.below; (try have hw' : Below w.heap.size w w' := by first | exact Below.trans (by (repeat (first | with_reducible exact Below.refl _ _ | with_reducible assumption | with_reducible refine Below.al ?_ _ | with_reducible refine Below.sc ?_ (by first | exact Nat.le_refl _ | (simp; done) | (simp; omega)) _ | assumption | exact Below.refl _ _ | refine Below.dr ?_ | refine Below.drN ?_ _ | refine Below.step ?_ (by assumption)))) hb' | ((repeat (first | with_reducible exact Below.refl _ _ | with_reducible assumption | with_reducible refine Below.al ?_ _ | with_reducible refine Below.sc ?_ (by first | exact Nat.le_refl _ | (simp; done) | (simp; omega)) _ | assumption | exact Below.refl _ _ | refine Below.dr ?_ | refine Below.drN ?_ _ | refine Below.step ?_ (by assumption))); done)); have hf' := hC.cell; (try simp only [List.forall_mem_cons] at hf'); go_simp; first | exact ⟨(HC.out _ _).2 (hC.skip _ (by rfl)), rfl⟩ | (rw [if_neg]; (exact ⟨(HC.out _ _).2 (hC.skip _ (by rfl)), rfl⟩); omega) | (go_at_call 70; refine (HP.out [g] q d _ _ hf'.2.1 (HL.out.mono (SameOn.below hw') (fun _ h => h) (fun x cs _ hx => FmAt.below hw' hx)) 0 _ rfl (by simp) HG.out (by show g.eng.length ≤ _; omega)).mono ?_; rintro e w1 ⟨rfl, hb1⟩; exact ⟨rfl, (HC.out _ _).2 ((hC.next (by first | (simp; done) | (simp; omega) | omega) hb1).skip _ (by rfl))⟩)); go_simp) | (apply flow_no; (case hw => (go_simp; try (intro hh; cases hh))); (intro L w' _ _ hC; exact (HC.out _ _).2 (((HC.out _ _).1 hC).skip _ (by rfl))); go_simp))
        refine flow_nil ?_
        intro L wz hL hz
        have hz := (HC.out _ _).1 hz
        have hbz := hz.below
        have hcz := hz.cell
        try simp only [List.forall_mem_cons] at hcz
        have hdz := hz.done
        try simp only [List.forall_mem_cons] at hdz
        (try have hwz : Below w.heap.size w wz := by first | exact Below.trans (by (repeat (first | with_reducible exact Below.refl _ _ | with_reducible assumption | with_reducible refine Below.al ?_ _ | with_reducible refine Below.sc ?_ (by first | exact Nat.le_refl _ | (simp; done) | (simp; omega)) _ | assumption | exact Below.refl _ _ | refine Below.dr ?_ | refine Below.drN ?_ _ | refine Below.step ?_ (by assumption)))) hbz | ((repeat (first | with_reducible exact Below.refl _ _ | with_reducible assumption | with_reducible refine Below.al ?_ _ | with_reducible refine Below.sc ?_ (by first | exact Nat.le_refl _ | (simp; done) | (simp; omega)) _ | assumption | exact Below.refl _ _ | refine Below.dr ?_ | refine Below.drN ?_ _ | refine Below.step ?_ (by assumption))); done))
        go_wp2
        go_ret
        exact ⟨ret_strs (by rw [eng_ex]; simp [sThere, sSuch]), by (repeat (first | with_reducible exact Below.refl _ _ | with_reducible assumption | with_reducible refine Below.al ?_ _ | with_reducible refine Below.sc ?_ (by first | exact Nat.le_refl _ | (simp; done) | (simp; omega)) _ | assumption | exact Below.refl _ _ | refine Below.dr ?_ | refine Below.drN ?_ _ | refine Below.step ?_ (by assumption)))⟩
end Go.Proofs.YtdklemmincejpaaGreat
namespace Go.Proofs.YtdklemmincejpaaGreat
open Go.RowKit
mutual
theorem Tm.sz_wt : ∀ t : Tm, t.sz ≤ t.wt + 1
  | .mk n us => by have := Tm.szs_wt us; rw [Tm.sz, Tm.wt]; omega
theorem Tm.szs_wt : ∀ us : List Tm, Tm.szs us ≤ us.length + Tm.wts us
  | [] => by simp [Tm.szs]
  | a :: us => by have := Tm.sz_wt a; have := Tm.szs_wt us; rw [Tm.szs, Tm.wts, List.length_cons]; omega
end
mutual
theorem Fm.sz_wt : ∀ t : Fm, t.sz ≤ t.wt + 1
  | .mk op a v us => by have := Fm.szs_wt us; rw [Fm.sz, Fm.wt]; omega
theorem Fm.szs_wt : ∀ us : List Fm, Fm.szs us ≤ us.length + Fm.wts us
  | [] => by simp [Fm.szs]
  | a :: us => by have := Fm.sz_wt a; have := Fm.szs_wt us; rw [Fm.szs, Fm.wts, List.length_cons]; omega
end
mutual
theorem Fm.asz_wt : ∀ t : Fm, t.asz ≤ t.wt + 1
  | .mk op a v us => by have := Fm.aszs_wt us; have := a.sz_wt; rw [Fm.asz, Fm.wt]; omega
theorem Fm.aszs_wt : ∀ us : List Fm, Fm.aszs us ≤ us.length + Fm.wts us
  | [] => by simp [Fm.aszs]
  | a :: us => by have := Fm.asz_wt a; have := Fm.aszs_wt us; rw [Fm.aszs, Fm.wts, List.length_cons]; omega
end
theorem joinB_len (sep : List UInt8) : ∀ l : List (List UInt8), (joinB sep l).length ≤ (l.map (fun a => a.length + sep.length)).sum
  | [] => by simp [joinB]
  | [a] => by simp [joinB]
  | a :: b :: l => by
    have := joinB_len sep (b :: l)
    rw [joinB]
    simp only [List.length_append, List.map_cons, List.sum_cons] at this ⊢
    omega
mutual
theorem Tm.fmt_wt : ∀ t : Tm, t.nodes = true → t.fmt.length ≤ 3 * t.wt + 2
  | .mk n us, h => by
    have h1 := Tm.nodes_mk h
    have h2 := Tm.fmts_wt us h1.2
    have h3 := joinB_len [44] (Tm.fmtL us)
    rw [Tm.fmt_mk (word_not61 h1.1), Tm.wt]
    simp only [List.length_cons, List.length_nil] at h3
    have hn : n.data.toList.length = n.size := rfl
    split
    · omega
    · simp only [List.length_append, List.length_cons, List.length_nil, hn]; omega
theorem Tm.fmts_wt : ∀ us : List Tm, Tm.nodess us = true → ((Tm.fmtL us).map (fun a => a.length + (0 + 1))).sum ≤ 3 * us.length + 3 * Tm.wts us
  | [], _ => by simp [Tm.fmtL]
  | a :: us, h => by
    rw [Tm.nodess, Bool.and_eq_true] at h
    have h1 := Tm.fmt_wt a h.1
    have h2 := Tm.fmts_wt us h.2
    rw [Tm.fmtL, List.map_cons, List.sum_cons, Tm.wts, List.length_cons]; omega
end
theorem fmts_wt2 : ∀ us : List Tm, Tm.nodess us = true → ((Tm.fmtL us).map (fun a => a.length + sComma.length)).sum ≤ 4 * us.length + 3 * Tm.wts us
  | [], _ => by simp [Tm.fmtL]
  | a :: us, h => by
    rw [Tm.nodess, Bool.and_eq_true] at h
    have h1 := Tm.fmt_wt a h.1
    have h2 := fmts_wt2 us h.2
    have h3 : sComma.length = 2 := rfl
    rw [Tm.fmtL, List.map_cons, List.sum_cons, Tm.wts, List.length_cons]; omega
theorem Tm.eng_wt {t : Tm} (h : t.atom = true) : t.eng.length ≤ 4 * t.wt + 20 := by
  cases atom_cases h with
  | eq a b ha hb =>
    have h1 := Tm.fmt_wt a ha
    have h2 := Tm.fmt_wt b hb
    have h3 : sEquals.length = 8 := rfl
    rw [eng_eq, eqTm, Tm.wt, Tm.wts, Tm.wts, Tm.wts]
    simp only [List.length_append]; omega
  | pred n us hs hu hd =>
    rw [eng_pred hs, Tm.wt]
    have h3 : sHolds.length = 6 := rfl
    have h4 : sHoldsOf.length = 10 := rfl
    have hn : n.data.toList.length = n.size := rfl
    have h5 := joinB_len sComma (Tm.fmtL us)
    have h6 := fmts_wt2 us hu
    split <;> simp only [List.length_append, hn] <;> omega
theorem Fm.eng_wt : ∀ (k : Nat) (t : Fm), t.sz ≤ k → t.form = true → t.eng.length ≤ 30 * t.wt + 30
  | 0, .mk _ _ _ _, hk, _ => by rw [Fm.sz] at hk; omega
  | k + 1, t, hk, hf => by
    cases form_cases hf with
    | tru => rw [opF, Fm.eng]; simp [sTruth]
    | fal => rw [opF, Fm.eng]; simp [sFalsity]
    | atm a ha =>
      have := Tm.eng_wt ha
      rw [eng_atm, atomOfF, Fm.wt]; omega
    | neg g hg =>
      rw [opF, Fm.sz, Fm.szs, Fm.szs] at hk
      have h1 := Fm.eng_wt k g (by omega) hg
      have h2 : sNot.length = 24 := rfl
      rw [eng_neg, opF, Fm.wt, Fm.wts, Fm.wts, List.length_append, List.length_cons, List.length_nil]; omega
    | bin op g h ho hg hh =>
      rw [opF, Fm.sz, Fm.szs, Fm.szs, Fm.szs] at hk
      have h1 := Fm.eng_wt k g (by omega) hg
      have h2 := Fm.eng_wt k h (by omega) hh
      have h3 : sBoth.length = 5 ∧ sAnd.length = 5 ∧ sEither.length = 7 ∧ sOr.length = 4 ∧ sIf.length = 3 ∧ sThen.length = 6 := ⟨rfl, rfl, rfl, rfl, rfl, rfl⟩
      have hw : (opF op [g, h]).wt = tm0.wt + 0 + 2 + (g.wt + (h.wt + 0)) := by rw [opF, Fm.wt, Fm.wts, Fm.wts, Fm.wts]; rfl
      rcases ho with rfl | rfl | rfl
      · rw [eng_and, hw]; simp only [List.length_append]; omega
      · rw [eng_or, hw]; simp only [List.length_append]; omega
      · rw [eng_imp, hw]; simp only [List.length_append]; omega
    | qua op v g ho hv hg =>
      rw [quantF, Fm.sz, Fm.szs, Fm.szs] at hk
      have h1 := Fm.eng_wt k g (by omega) hg
      have h3 : sEvery.length = 10 ∧ sComma.length = 2 ∧ sThere.length = 9 ∧ sSuch.length = 11 := ⟨rfl, rfl, rfl, rfl⟩
      have hw : (quantF op v g).wt = tm0.wt + v.length + 1 + (g.wt + 0) := by rw [quantF, Fm.wt, Fm.wts, Fm.wts]; rfl
      rcases ho with rfl | rfl
      · rw [eng_all, hw]; simp only [List.length_append]; omega
      · rw [eng_ex, hw]; simp only [List.length_append]; omega
end Go.Proofs.YtdklemmincejpaaGreat
namespace Go.Proofs.YtdklemmincejpaaGreat
open Go.RowKit
theorem EngAt.call {P : Program} {k : FuncId} {B : Nat → Prop} {m : Nat} (ih : EngAt P k B m) (t : Fm) (v0 v1 v2 v3 v4 : Value) (w : World) (h : FmAt B m w t [v0, v1, v2, v3, v4]) (hf : t.form = true) (hz : t.eng.length ≤ 1000000000000) :
      Calls P k #[.agg #[v0, v1, v2, v3, v4]] w fun e w' => e = .returned (.string ⟨t.eng.toArray⟩) ∧ Below w.heap.size w w' := ih t v0 v1 v2 v3 v4 w h hf hz
theorem FmAt.one {B : Nat → Prop} {m : Nat} {w : World} {g : Fm} {p : Option Addr} {c : Nat} (h : ListAt B w 5 (FmAt B m w) (.slice p 1 c) [g]) :
    ∃ b o x0 x1 x2 x3 x4, p = some ⟨b, o, none⟩ ∧ w.cell? ⟨b, o, none⟩ = some x0 ∧ w.cell? ⟨b, o + 1, none⟩ = some x1 ∧ w.cell? ⟨b, o + 2, none⟩ = some x2 ∧ w.cell? ⟨b, o + 3, none⟩ = some x3 ∧ w.cell? ⟨b, o + 4, none⟩ = some x4 ∧ FmAt B m w g [x0, x1, x2, x3, x4] := by
  obtain ⟨b, o, rfl, _, x0, x1, x2, x3, x4, hx0, hx1, hx2, hx3, hx4, hx⟩ := h.at5 (i := 0) (by simp)
  exact ⟨b, o, x0, x1, x2, x3, x4, rfl, by simpa using hx0, by simpa using hx1, by simpa using hx2, by simpa using hx3, by simpa using hx4, hx⟩
theorem FmAt.two {B : Nat → Prop} {m : Nat} {w : World} {g h : Fm} {p : Option Addr} {c : Nat} (hl : ListAt B w 5 (FmAt B m w) (.slice p 2 c) [g, h]) :
    ∃ b o x0 x1 x2 x3 x4 y0 y1 y2 y3 y4, p = some ⟨b, o, none⟩ ∧ (w.cell? ⟨b, o, none⟩ = some x0 ∧ w.cell? ⟨b, o + 1, none⟩ = some x1 ∧ w.cell? ⟨b, o + 2, none⟩ = some x2 ∧ w.cell? ⟨b, o + 3, none⟩ = some x3 ∧ w.cell? ⟨b, o + 4, none⟩ = some x4) ∧
      (w.cell? ⟨b, o + 5, none⟩ = some y0 ∧ w.cell? ⟨b, o + 6, none⟩ = some y1 ∧ w.cell? ⟨b, o + 7, none⟩ = some y2 ∧ w.cell? ⟨b, o + 8, none⟩ = some y3 ∧ w.cell? ⟨b, o + 9, none⟩ = some y4) ∧ FmAt B m w g [x0, x1, x2, x3, x4] ∧ FmAt B m w h [y0, y1, y2, y3, y4] := by
  obtain ⟨b, o, rfl, _, x0, x1, x2, x3, x4, hx0, hx1, hx2, hx3, hx4, hx⟩ := hl.at5 (i := 0) (by simp)
  obtain ⟨b', o', he, _, y0, y1, y2, y3, y4, hy0, hy1, hy2, hy3, hy4, hy⟩ := hl.at5 (i := 1) (by simp)
  simp only [Option.some.injEq, Addr.mk.injEq, and_true] at he
  obtain ⟨rfl, rfl⟩ := he
  exact ⟨b, o, x0, x1, x2, x3, x4, y0, y1, y2, y3, y4, rfl, ⟨by simpa using hx0, by simpa using hx1, by simpa using hx2, by simpa using hx3, by simpa using hx4⟩, ⟨by simpa using hy0, by simpa using hy1, by simpa using hy2, by simpa using hy3, by simpa using hy4⟩, hx, hy⟩
set_option maxRecDepth 100000 in
set_option maxHeartbeats 3200000 in
theorem l26Formula_any {B : Nat → Prop} : ∀ m : Nat, EngAt Tryz.prog 28 B m := by
  intro m
  induction m with
  | zero => intro t v0 v1 v2 v3 v4 w h; exact h.elim
  | succ m ih =>
    intro t v0 v1 v2 v3 v4 w hfm hf hz
    have IH := Lib.hid ih
    clear ih
    cases form_cases hf with
    | tru =>
      obtain ⟨p, c, q, d, rfl, rfl, rfl, rfl, rfl, -⟩ := hfm.form
      clear hfm hf hz
      show Calls Tryz.prog 28 #[.agg #[.int .i64 1, .string ⟨#[]⟩, .slice p 0 c, .string ⟨#[]⟩, .slice q 0 d]] w _
      go_enter Tryz.func28, Tryz.ntmps28
      go_wp2
      go_ret
      exact ⟨ret_str (by rw [opF, Fm.eng]; rfl), by (repeat (first | with_reducible exact Below.refl _ _ | with_reducible assumption | with_reducible refine Below.al ?_ _ | with_reducible refine Below.sc ?_ (by first | exact Nat.le_refl _ | (simp; done) | (simp; omega)) _ | assumption | exact Below.refl _ _ | refine Below.dr ?_ | refine Below.drN ?_ _ | refine Below.step ?_ (by assumption)))⟩
    | fal =>
      obtain ⟨p, c, q, d, rfl, rfl, rfl, rfl, rfl, -⟩ := hfm.form
      clear hfm hf hz
      show Calls Tryz.prog 28 #[.agg #[.int .i64 2, .string ⟨#[]⟩, .slice p 0 c, .string ⟨#[]⟩, .slice q 0 d]] w _
      go_enter Tryz.func28, Tryz.ntmps28
      go_wp2
      go_ret
      exact ⟨ret_str (by rw [opF, Fm.eng]; rfl), by (repeat (first | with_reducible exact Below.refl _ _ | with_reducible assumption | with_reducible refine Below.al ?_ _ | with_reducible refine Below.sc ?_ (by first | exact Nat.le_refl _ | (simp; done) | (simp; omega)) _ | assumption | exact Below.refl _ _ | refine Below.dr ?_ | refine Below.drN ?_ _ | refine Below.step ?_ (by assumption)))⟩
    | atm a ha =>
      have HA := Lib.hid (show TmAt B (m + 1) w a _ from hfm.atm)
      obtain ⟨p, c, q, d, rfl, rfl, rfl, rfl, rfl, -⟩ := hfm.form
      rw [eng_atm] at hz ⊢
      have HZ := Lib.hid (And.intro ha hz)
      clear hfm hf hz
      show Calls Tryz.prog 28 #[.agg #[.int .i64 3, .string a.n, .slice p a.us.length c, .string ⟨#[]⟩, .slice q 0 d]] w _
      go_enter Tryz.func28, Tryz.ntmps28
      go_wp2_with fail
      refine (l26Atom_any (m + 1) a _ _ _ (HA.out.below (by (repeat (first | with_reducible exact Below.refl _ _ | with_reducible assumption | with_reducible refine Below.al ?_ _ | with_reducible refine Below.sc ?_ (by first | exact Nat.le_refl _ | (simp; done) | (simp; omega)) _ | assumption | exact Below.refl _ _ | refine Below.dr ?_ | refine Below.drN ?_ _ | refine Below.step ?_ (by assumption))))) HZ.out.1 HZ.out.2).mono ?_
      rintro e w1 ⟨rfl, hb1⟩
      have ⟨cw1, fw1⟩ := bcell hb1
      have qw1 := hb1.size
      (try simp at qw1)
      (try have zw1w := bsz (show w.heap.size < w1.heap.size by omega))
      go_wp2
      go_ret
      exact ⟨rfl, by (repeat (first | with_reducible exact Below.refl _ _ | with_reducible assumption | with_reducible refine Below.al ?_ _ | with_reducible refine Below.sc ?_ (by first | exact Nat.le_refl _ | (simp; done) | (simp; omega)) _ | assumption | exact Below.refl _ _ | refine Below.dr ?_ | refine Below.drN ?_ _ | refine Below.step ?_ (by assumption)))⟩
    | neg g hg =>
      obtain ⟨p, c, q, d, rfl, rfl, rfl, rfl, rfl, -⟩ := hfm.form
      obtain ⟨vn, va, vp, hcs, hop, hs, ht, hl⟩ := hfm
      simp only [List.cons.injEq, and_true] at hcs
      obtain ⟨-, -, -, -, rfl⟩ := hcs
      have hl' : ListAt B w 5 (FmAt B m w) (.slice q 1 d) [g] := hl
      obtain ⟨b, o, x0, x1, x2, x3, x4, rfl, hx0, hx1, hx2, hx3, hx4, hx⟩ := FmAt.one hl'
      have hz2 : g.eng.length + 24 ≤ 1000000000000 := by rw [eng_neg] at hz; simp [sNot] at hz; omega
      have HX := Lib.hid (And.intro hx hg)
      have zb := bsz (World.block_lt_of_cell? _ _ hx0)
      clear hf hz ht hl hl' hx
      show Calls Tryz.prog 28 #[.agg #[.int .i64 4, .string ⟨#[]⟩, .slice p 0 c, .string ⟨#[]⟩, .slice (some ⟨b, o, none⟩) 1 d]] w _
      go_enter Tryz.func28, Tryz.ntmps28
      go_wp2_with fail
      refine (IH.out g _ _ _ _ _ _ (HX.out.1.below (by (repeat (first | with_reducible exact Below.refl _ _ | with_reducible assumption | with_reducible refine Below.al ?_ _ | with_reducible refine Below.sc ?_ (by first | exact Nat.le_refl _ | (simp; done) | (simp; omega)) _ | assumption | exact Below.refl _ _ | refine Below.dr ?_ | refine Below.drN ?_ _ | refine Below.step ?_ (by assumption))))) HX.out.2 (by omega)).mono ?_
      rintro e w1 ⟨rfl, hb1⟩
      have ⟨cw1, fw1⟩ := bcell hb1
      have qw1 := hb1.size
      (try simp at qw1)
      (try have zw1w := bsz (show w.heap.size < w1.heap.size by omega))
      go_wp2
      go_ret
      exact ⟨ret_strs (by rw [eng_neg]; simp [sNot]), by (repeat (first | with_reducible exact Below.refl _ _ | with_reducible assumption | with_reducible refine Below.al ?_ _ | with_reducible refine Below.sc ?_ (by first | exact Nat.le_refl _ | (simp; done) | (simp; omega)) _ | assumption | exact Below.refl _ _ | refine Below.dr ?_ | refine Below.drN ?_ _ | refine Below.step ?_ (by assumption)))⟩
    | bin op g h ho hg hh =>
      obtain ⟨p, c, q, d, rfl, rfl, rfl, rfl, rfl, -⟩ := hfm.form
      obtain ⟨vn, va, vp, hcs, hop, hs, ht, hl⟩ := hfm
      simp only [List.cons.injEq, and_true] at hcs
      obtain ⟨-, -, -, -, rfl⟩ := hcs
      have hl' : ListAt B w 5 (FmAt B m w) (.slice q 2 d) [g, h] := hl
      obtain ⟨b, o, x0, x1, x2, x3, x4, y0, y1, y2, y3, y4, rfl, ⟨hx0, hx1, hx2, hx3, hx4⟩, ⟨hy0, hy1, hy2, hy3, hy4⟩, hx, hy⟩ := FmAt.two hl'
      have zb := bsz (World.block_lt_of_cell? _ _ hx0)
      have HG := Lib.hid (And.intro hg hh)
      have HX := Lib.hid hx
      have HY := Lib.hid hy
      clear hf ht hl hl' hg hh hx hy
      rcases ho with rfl | rfl | rfl
      · have hz2 : g.eng.length + h.eng.length + 30 ≤ 1000000000030 := by rw [eng_and] at hz; simp at hz; omega
        clear hz
        show Calls Tryz.prog 28 #[.agg #[.int .i64 5, .string ⟨#[]⟩, .slice p 0 c, .string ⟨#[]⟩, .slice (some ⟨b, o, none⟩) 2 d]] w _
        go_enter Tryz.func28, Tryz.ntmps28
        go_wp2
        obtain ⟨W, hW⟩ : ∃ W : World, W = w.alloc (.cells #[.int .i64 5, .string ⟨#[]⟩, .slice p 0 c, .string ⟨#[]⟩, .slice (some ⟨b, o, none⟩) 2 d] 27) := ⟨_, rfl⟩
        have hwb : W.cell? ⟨w.heap.size, 4, none⟩ = some (.slice (some ⟨b, o, none⟩) 2 d) := by rw [hW]; go_simp
        have hbW : Below w.heap.size w W := by rw [hW]; (repeat (first | with_reducible exact Below.refl _ _ | with_reducible assumption | with_reducible refine Below.al ?_ _ | with_reducible refine Below.sc ?_ (by first | exact Nat.le_refl _ | (simp; done) | (simp; omega)) _ | assumption | exact Below.refl _ _ | refine Below.dr ?_ | refine Below.drN ?_ _ | refine Below.step ?_ (by assumption)))
        rw [← hW]
        clear hW
        have ⟨cW, fW⟩ := bcell hbW
        obtain ⟨C, HC0⟩ := class_of (InF W.heap.size _ [(⟨w.heap.size, 4, none⟩, .slice (some ⟨b, o, none⟩) 2 d), (⟨b, o, none⟩, x0), (⟨b, o + 1, none⟩, x1), (⟨b, o + 2, none⟩, x2), (⟨b, o + 3, none⟩, x3), (⟨b, o + 4, none⟩, x4), (⟨b, o + 5, none⟩, y0), (⟨b, o + 6, none⟩, y1), (⟨b, o + 7, none⟩, y2), (⟨b, o + 8, none⟩, y3), (⟨b, o + 9, none⟩, y4)] [] [])
        have HC := Lib.hid HC0
        clear HC0
        refine wp_region_flow (C := C) (by kernel_rfl) (by kernel_rfl) (fun L hL => (HC.out _ _).2 (InF.start (by first | (intro _ hs; cases hs; done) | (simp only [List.forall_mem_cons]; go_simp)) (by first | (intro _ hs; cases hs; done) | (simp only [List.forall_mem_cons]; go_simp)) (by first | (intro _ hs; cases hs; done) | (simp only [List.forall_mem_cons]; go_simp)) (by first | (intro _ hs; cases hs; done) | (simp only [List.forall_mem_cons]; go_simp)) L hL)) ?_
        repeat (first | (apply flow_free rfl; (intro L w' hun hrd hC; have hC := (HC.out _ _).1 hC; have hb' := hC.below; (try have hw' : Below w.heap.size w w' := by first | exact Below.trans (by (repeat (first | with_reducible exact Below.refl _ _ | with_reducible assumption | with_reducible refine Below.al ?_ _ | with_reducible refine Below.sc ?_ (by first | exact Nat.le_refl _ | (simp; done) | (simp; omega)) _ | assumption | exact Below.refl _ _ | refine Below.dr ?_ | refine Below.drN ?_ _ | refine Below.step ?_ (by assumption)))) hb' | ((repeat (first | with_reducible exact Below.refl _ _ | with_reducible assumption | with_reducible refine Below.al ?_ _ | with_reducible refine Below.sc ?_ (by first | exact Nat.le_refl _ | (simp; done) | (simp; omega)) _ | assumption | exact Below.refl _ _ | refine Below.dr ?_ | refine Below.drN ?_ _ | refine Below.step ?_ (by assumption))); done)); have hf' := hC.cell; (try simp only [List.forall_mem_cons] at hf'); go_simp; first | exact ⟨(HC.out _ _).2 (hC.skip _ (by rfl)), rfl⟩ | (rw [if_neg]; (exact ⟨(HC.out _ _).2 (hC.skip _ (by rfl)), rfl⟩); omega) | (go_at_call 28; (with_reducible refine (EngAt.call IH.out g x0 x1 x2 x3 x4 _ (HX.out.below hw') HG.out.1 (by omega)).mono ?_); rintro e w1 ⟨rfl, hb1⟩; exact ⟨rfl, (HC.out _ _).2 ((hC.next (by first | (simp; done) | (simp; omega) | omega) hb1).skip _ (by rfl))⟩) | (go_at_call 28; (with_reducible refine (EngAt.call IH.out h y0 y1 y2 y3 y4 _ (HY.out.below hw') HG.out.2 (by omega)).mono ?_); rintro e w1 ⟨rfl, hb1⟩; exact ⟨rfl, (HC.out _ _).2 ((hC.next (by first | (simp; done) | (simp; omega) | omega) hb1).skip _ (by rfl))⟩)); go_simp) | (apply flow_yes; (case hw => go_simp); (intro L w' hun hrd hC; have hC := (HC.out _ _).1 hC; have hb' := hC.below; (try have hw' : Below w.heap.size w w' := by first | exact Below.trans (by (repeat (first | with_reducible exact Below.refl _ _ | with_reducible assumption | with_reducible refine Below.al ?_ _ | with_reducible refine Below.sc ?_ (by first | exact Nat.le_refl _ | (simp; done) | (simp; omega)) _ | assumption | exact Below.refl _ _ | refine Below.dr ?_ | refine Below.drN ?_ _ | refine Below.step ?_ (by assumption)))) hb' | ((repeat (first | with_reducible exact Below.refl _ _ | with_reducible assumption | with_reducible refine Below.al ?_ _ | with_reducible refine Below.sc ?_ (by first | exact Nat.le_refl _ | (simp; done) | (simp; omega)) _ | assumption | exact Below.refl _ _ | refine Below.dr ?_ | refine Below.drN ?_ _ | refine Below.step ?_ (by assumption))); done)); have hf' := hC.cell; (try simp only [List.forall_mem_cons] at hf'); go_simp; first | exact ⟨(HC.out _ _).2 (hC.skip _ (by rfl)), rfl⟩ | (rw [if_neg]; (exact ⟨(HC.out _ _).2 (hC.skip _ (by rfl)), rfl⟩); omega) | (go_at_call 28; (with_reducible refine (EngAt.call IH.out g x0 x1 x2 x3 x4 _ (HX.out.below hw') HG.out.1 (by omega)).mono ?_); rintro e w1 ⟨rfl, hb1⟩; exact ⟨rfl, (HC.out _ _).2 ((hC.next (by first | (simp; done) | (simp; omega) | omega) hb1).skip _ (by rfl))⟩) | (go_at_call 28; (with_reducible refine (EngAt.call IH.out h y0 y1 y2 y3 y4 _ (HY.out.below hw') HG.out.2 (by omega)).mono ?_); rintro e w1 ⟨rfl, hb1⟩; exact ⟨rfl, (HC.out _ _).2 ((hC.next (by first | (simp; done) | (simp; omega) | omega) hb1).skip _ (by rfl))⟩)); go_simp) | (apply flow_no; (case hw => (go_simp; try (intro hh; cases hh))); (intro L w' _ _ hC; exact (HC.out _ _).2 (((HC.out _ _).1 hC).skip _ (by rfl))); go_simp))
        refine flow_nil ?_
        intro L wz hL hz
        have hz := (HC.out _ _).1 hz
        have hbz := hz.below
        have hcz := hz.cell
        try simp only [List.forall_mem_cons] at hcz
        have hdz := hz.done
        try simp only [List.forall_mem_cons] at hdz
        (try have hwz : Below w.heap.size w wz := by first | exact Below.trans (by (repeat (first | with_reducible exact Below.refl _ _ | with_reducible assumption | with_reducible refine Below.al ?_ _ | with_reducible refine Below.sc ?_ (by first | exact Nat.le_refl _ | (simp; done) | (simp; omega)) _ | assumption | exact Below.refl _ _ | refine Below.dr ?_ | refine Below.drN ?_ _ | refine Below.step ?_ (by assumption)))) hbz | ((repeat (first | with_reducible exact Below.refl _ _ | with_reducible assumption | with_reducible refine Below.al ?_ _ | with_reducible refine Below.sc ?_ (by first | exact Nat.le_refl _ | (simp; done) | (simp; omega)) _ | assumption | exact Below.refl _ _ | refine Below.dr ?_ | refine Below.drN ?_ _ | refine Below.step ?_ (by assumption))); done))
        go_wp2
        go_ret
        exact ⟨ret_strs (by rw [eng_and]; simp [sBoth, sAnd]), by (repeat (first | with_reducible exact Below.refl _ _ | with_reducible assumption | with_reducible refine Below.al ?_ _ | with_reducible refine Below.sc ?_ (by first | exact Nat.le_refl _ | (simp; done) | (simp; omega)) _ | assumption | exact Below.refl _ _ | refine Below.dr ?_ | refine Below.drN ?_ _ | refine Below.step ?_ (by assumption)))⟩
      · have hz2 : g.eng.length + h.eng.length + 30 ≤ 1000000000030 := by rw [eng_or] at hz; simp at hz; omega
        clear hz
        show Calls Tryz.prog 28 #[.agg #[.int .i64 6, .string ⟨#[]⟩, .slice p 0 c, .string ⟨#[]⟩, .slice (some ⟨b, o, none⟩) 2 d]] w _
        go_enter Tryz.func28, Tryz.ntmps28
        go_wp2
        obtain ⟨W, hW⟩ : ∃ W : World, W = w.alloc (.cells #[.int .i64 6, .string ⟨#[]⟩, .slice p 0 c, .string ⟨#[]⟩, .slice (some ⟨b, o, none⟩) 2 d] 27) := ⟨_, rfl⟩
        have hwb : W.cell? ⟨w.heap.size, 4, none⟩ = some (.slice (some ⟨b, o, none⟩) 2 d) := by rw [hW]; go_simp
        have hbW : Below w.heap.size w W := by rw [hW]; (repeat (first | with_reducible exact Below.refl _ _ | with_reducible assumption | with_reducible refine Below.al ?_ _ | with_reducible refine Below.sc ?_ (by first | exact Nat.le_refl _ | (simp; done) | (simp; omega)) _ | assumption | exact Below.refl _ _ | refine Below.dr ?_ | refine Below.drN ?_ _ | refine Below.step ?_ (by assumption)))
        rw [← hW]
        clear hW
        have ⟨cW, fW⟩ := bcell hbW
        obtain ⟨C, HC0⟩ := class_of (InF W.heap.size _ [(⟨w.heap.size, 4, none⟩, .slice (some ⟨b, o, none⟩) 2 d), (⟨b, o, none⟩, x0), (⟨b, o + 1, none⟩, x1), (⟨b, o + 2, none⟩, x2), (⟨b, o + 3, none⟩, x3), (⟨b, o + 4, none⟩, x4), (⟨b, o + 5, none⟩, y0), (⟨b, o + 6, none⟩, y1), (⟨b, o + 7, none⟩, y2), (⟨b, o + 8, none⟩, y3), (⟨b, o + 9, none⟩, y4)] [] [])
        have HC := Lib.hid HC0
        clear HC0
        refine wp_region_flow (C := C) (by kernel_rfl) (by kernel_rfl) (fun L hL => (HC.out _ _).2 (InF.start (by first | (intro _ hs; cases hs; done) | (simp only [List.forall_mem_cons]; go_simp)) (by first | (intro _ hs; cases hs; done) | (simp only [List.forall_mem_cons]; go_simp)) (by first | (intro _ hs; cases hs; done) | (simp only [List.forall_mem_cons]; go_simp)) (by first | (intro _ hs; cases hs; done) | (simp only [List.forall_mem_cons]; go_simp)) L hL)) ?_
        repeat (first | (apply flow_free rfl; (intro L w' hun hrd hC; have hC := (HC.out _ _).1 hC; have hb' := hC.below; (try have hw' : Below w.heap.size w w' := by first | exact Below.trans (by (repeat (first | with_reducible exact Below.refl _ _ | with_reducible assumption | with_reducible refine Below.al ?_ _ | with_reducible refine Below.sc ?_ (by first | exact Nat.le_refl _ | (simp; done) | (simp; omega)) _ | assumption | exact Below.refl _ _ | refine Below.dr ?_ | refine Below.drN ?_ _ | refine Below.step ?_ (by assumption)))) hb' | ((repeat (first | with_reducible exact Below.refl _ _ | with_reducible assumption | with_reducible refine Below.al ?_ _ | with_reducible refine Below.sc ?_ (by first | exact Nat.le_refl _ | (simp; done) | (simp; omega)) _ | assumption | exact Below.refl _ _ | refine Below.dr ?_ | refine Below.drN ?_ _ | refine Below.step ?_ (by assumption))); done)); have hf' := hC.cell; (try simp only [List.forall_mem_cons] at hf'); go_simp; first | exact ⟨(HC.out _ _).2 (hC.skip _ (by rfl)), rfl⟩ | (rw [if_neg]; (exact ⟨(HC.out _ _).2 (hC.skip _ (by rfl)), rfl⟩); omega) | (go_at_call 28; (with_reducible refine (EngAt.call IH.out g x0 x1 x2 x3 x4 _ (HX.out.below hw') HG.out.1 (by omega)).mono ?_); rintro e w1 ⟨rfl, hb1⟩; exact ⟨rfl, (HC.out _ _).2 ((hC.next (by first | (simp; done) | (simp; omega) | omega) hb1).skip _ (by rfl))⟩) | (go_at_call 28; (with_reducible refine (EngAt.call IH.out h y0 y1 y2 y3 y4 _ (HY.out.below hw') HG.out.2 (by omega)).mono ?_); rintro e w1 ⟨rfl, hb1⟩; exact ⟨rfl, (HC.out _ _).2 ((hC.next (by first | (simp; done) | (simp; omega) | omega) hb1).skip _ (by rfl))⟩)); go_simp) | (apply flow_yes; (case hw => go_simp); (intro L w' hun hrd hC; have hC := (HC.out _ _).1 hC; have hb' := hC.below; (try have hw' : Below w.heap.size w w' := by first | exact Below.trans (by (repeat (first | with_reducible exact Below.refl _ _ | with_reducible assumption | with_reducible refine Below.al ?_ _ | with_reducible refine Below.sc ?_ (by first | exact Nat.le_refl _ | (simp; done) | (simp; omega)) _ | assumption | exact Below.refl _ _ | refine Below.dr ?_ | refine Below.drN ?_ _ | refine Below.step ?_ (by assumption)))) hb' | ((repeat (first | with_reducible exact Below.refl _ _ | with_reducible assumption | with_reducible refine Below.al ?_ _ | with_reducible refine Below.sc ?_ (by first | exact Nat.le_refl _ | (simp; done) | (simp; omega)) _ | assumption | exact Below.refl _ _ | refine Below.dr ?_ | refine Below.drN ?_ _ | refine Below.step ?_ (by assumption))); done)); have hf' := hC.cell; (try simp only [List.forall_mem_cons] at hf'); go_simp; first | exact ⟨(HC.out _ _).2 (hC.skip _ (by rfl)), rfl⟩ | (rw [if_neg]; (exact ⟨(HC.out _ _).2 (hC.skip _ (by rfl)), rfl⟩); omega) | (go_at_call 28; (with_reducible refine (EngAt.call IH.out g x0 x1 x2 x3 x4 _ (HX.out.below hw') HG.out.1 (by omega)).mono ?_); rintro e w1 ⟨rfl, hb1⟩; exact ⟨rfl, (HC.out _ _).2 ((hC.next (by first | (simp; done) | (simp; omega) | omega) hb1).skip _ (by rfl))⟩) | (go_at_call 28; (with_reducible refine (EngAt.call IH.out h y0 y1 y2 y3 y4 _ (HY.out.below hw') HG.out.2 (by omega)).mono ?_); rintro e w1 ⟨rfl, hb1⟩; exact ⟨rfl, (HC.out _ _).2 ((hC.next (by first | (simp; done) | (simp; omega) | omega) hb1).skip _ (by rfl))⟩)); go_simp) | (apply flow_no; (case hw => (go_simp; try (intro hh; cases hh))); (intro L w' _ _ hC; exact (HC.out _ _).2 (((HC.out _ _).1 hC).skip _ (by rfl))); go_simp))
        refine flow_nil ?_
        intro L wz hL hz
        have hz := (HC.out _ _).1 hz
        have hbz := hz.below
        have hcz := hz.cell
        try simp only [List.forall_mem_cons] at hcz
        have hdz := hz.done
        try simp only [List.forall_mem_cons] at hdz
        (try have hwz : Below w.heap.size w wz := by first | exact Below.trans (by (repeat (first | with_reducible exact Below.refl _ _ | with_reducible assumption | with_reducible refine Below.al ?_ _ | with_reducible refine Below.sc ?_ (by first | exact Nat.le_refl _ | (simp; done) | (simp; omega)) _ | assumption | exact Below.refl _ _ | refine Below.dr ?_ | refine Below.drN ?_ _ | refine Below.step ?_ (by assumption)))) hbz | ((repeat (first | with_reducible exact Below.refl _ _ | with_reducible assumption | with_reducible refine Below.al ?_ _ | with_reducible refine Below.sc ?_ (by first | exact Nat.le_refl _ | (simp; done) | (simp; omega)) _ | assumption | exact Below.refl _ _ | refine Below.dr ?_ | refine Below.drN ?_ _ | refine Below.step ?_ (by assumption))); done))
        go_wp2
        go_ret
        exact ⟨ret_strs (by rw [eng_or]; simp [sEither, sOr]), by (repeat (first | with_reducible exact Below.refl _ _ | with_reducible assumption | with_reducible refine Below.al ?_ _ | with_reducible refine Below.sc ?_ (by first | exact Nat.le_refl _ | (simp; done) | (simp; omega)) _ | assumption | exact Below.refl _ _ | refine Below.dr ?_ | refine Below.drN ?_ _ | refine Below.step ?_ (by assumption)))⟩
      · have hz2 : g.eng.length + h.eng.length + 30 ≤ 1000000000030 := by rw [eng_imp] at hz; simp at hz; omega
        clear hz
        show Calls Tryz.prog 28 #[.agg #[.int .i64 7, .string ⟨#[]⟩, .slice p 0 c, .string ⟨#[]⟩, .slice (some ⟨b, o, none⟩) 2 d]] w _
        go_enter Tryz.func28, Tryz.ntmps28
        go_wp2
        obtain ⟨W, hW⟩ : ∃ W : World, W = w.alloc (.cells #[.int .i64 7, .string ⟨#[]⟩, .slice p 0 c, .string ⟨#[]⟩, .slice (some ⟨b, o, none⟩) 2 d] 27) := ⟨_, rfl⟩
        have hwb : W.cell? ⟨w.heap.size, 4, none⟩ = some (.slice (some ⟨b, o, none⟩) 2 d) := by rw [hW]; go_simp
        have hbW : Below w.heap.size w W := by rw [hW]; (repeat (first | with_reducible exact Below.refl _ _ | with_reducible assumption | with_reducible refine Below.al ?_ _ | with_reducible refine Below.sc ?_ (by first | exact Nat.le_refl _ | (simp; done) | (simp; omega)) _ | assumption | exact Below.refl _ _ | refine Below.dr ?_ | refine Below.drN ?_ _ | refine Below.step ?_ (by assumption)))
        rw [← hW]
        clear hW
        have ⟨cW, fW⟩ := bcell hbW
        obtain ⟨C, HC0⟩ := class_of (InF W.heap.size _ [(⟨w.heap.size, 4, none⟩, .slice (some ⟨b, o, none⟩) 2 d), (⟨b, o, none⟩, x0), (⟨b, o + 1, none⟩, x1), (⟨b, o + 2, none⟩, x2), (⟨b, o + 3, none⟩, x3), (⟨b, o + 4, none⟩, x4), (⟨b, o + 5, none⟩, y0), (⟨b, o + 6, none⟩, y1), (⟨b, o + 7, none⟩, y2), (⟨b, o + 8, none⟩, y3), (⟨b, o + 9, none⟩, y4)] [] [])
        have HC := Lib.hid HC0
        clear HC0
        refine wp_region_flow (C := C) (by kernel_rfl) (by kernel_rfl) (fun L hL => (HC.out _ _).2 (InF.start (by first | (intro _ hs; cases hs; done) | (simp only [List.forall_mem_cons]; go_simp)) (by first | (intro _ hs; cases hs; done) | (simp only [List.forall_mem_cons]; go_simp)) (by first | (intro _ hs; cases hs; done) | (simp only [List.forall_mem_cons]; go_simp)) (by first | (intro _ hs; cases hs; done) | (simp only [List.forall_mem_cons]; go_simp)) L hL)) ?_
        repeat (first | (apply flow_free rfl; (intro L w' hun hrd hC; have hC := (HC.out _ _).1 hC; have hb' := hC.below; (try have hw' : Below w.heap.size w w' := by first | exact Below.trans (by (repeat (first | with_reducible exact Below.refl _ _ | with_reducible assumption | with_reducible refine Below.al ?_ _ | with_reducible refine Below.sc ?_ (by first | exact Nat.le_refl _ | (simp; done) | (simp; omega)) _ | assumption | exact Below.refl _ _ | refine Below.dr ?_ | refine Below.drN ?_ _ | refine Below.step ?_ (by assumption)))) hb' | ((repeat (first | with_reducible exact Below.refl _ _ | with_reducible assumption | with_reducible refine Below.al ?_ _ | with_reducible refine Below.sc ?_ (by first | exact Nat.le_refl _ | (simp; done) | (simp; omega)) _ | assumption | exact Below.refl _ _ | refine Below.dr ?_ | refine Below.drN ?_ _ | refine Below.step ?_ (by assumption))); done)); have hf' := hC.cell; (try simp only [List.forall_mem_cons] at hf'); go_simp; first | exact ⟨(HC.out _ _).2 (hC.skip _ (by rfl)), rfl⟩ | (rw [if_neg]; (exact ⟨(HC.out _ _).2 (hC.skip _ (by rfl)), rfl⟩); omega) | (go_at_call 28; (with_reducible refine (EngAt.call IH.out g x0 x1 x2 x3 x4 _ (HX.out.below hw') HG.out.1 (by omega)).mono ?_); rintro e w1 ⟨rfl, hb1⟩; exact ⟨rfl, (HC.out _ _).2 ((hC.next (by first | (simp; done) | (simp; omega) | omega) hb1).skip _ (by rfl))⟩) | (go_at_call 28; (with_reducible refine (EngAt.call IH.out h y0 y1 y2 y3 y4 _ (HY.out.below hw') HG.out.2 (by omega)).mono ?_); rintro e w1 ⟨rfl, hb1⟩; exact ⟨rfl, (HC.out _ _).2 ((hC.next (by first | (simp; done) | (simp; omega) | omega) hb1).skip _ (by rfl))⟩)); go_simp) | (apply flow_yes; (case hw => go_simp); (intro L w' hun hrd hC; have hC := (HC.out _ _).1 hC; have hb' := hC.below; (try have hw' : Below w.heap.size w w' := by first | exact Below.trans (by (repeat (first | with_reducible exact Below.refl _ _ | with_reducible assumption | with_reducible refine Below.al ?_ _ | with_reducible refine Below.sc ?_ (by first | exact Nat.le_refl _ | (simp; done) | (simp; omega)) _ | assumption | exact Below.refl _ _ | refine Below.dr ?_ | refine Below.drN ?_ _ | refine Below.step ?_ (by assumption)))) hb' | ((repeat (first | with_reducible exact Below.refl _ _ | with_reducible assumption | with_reducible refine Below.al ?_ _ | with_reducible refine Below.sc ?_ (by first | exact Nat.le_refl _ | (simp; done) | (simp; omega)) _ | assumption | exact Below.refl _ _ | refine Below.dr ?_ | refine Below.drN ?_ _ | refine Below.step ?_ (by assumption))); done)); have hf' := hC.cell; (try simp only [List.forall_mem_cons] at hf'); go_simp; first | exact ⟨(HC.out _ _).2 (hC.skip _ (by rfl)), rfl⟩ | (rw [if_neg]; (exact ⟨(HC.out _ _).2 (hC.skip _ (by rfl)), rfl⟩); omega) | (go_at_call 28; (with_reducible refine (EngAt.call IH.out g x0 x1 x2 x3 x4 _ (HX.out.below hw') HG.out.1 (by omega)).mono ?_); rintro e w1 ⟨rfl, hb1⟩; exact ⟨rfl, (HC.out _ _).2 ((hC.next (by first | (simp; done) | (simp; omega) | omega) hb1).skip _ (by rfl))⟩) | (go_at_call 28; (with_reducible refine (EngAt.call IH.out h y0 y1 y2 y3 y4 _ (HY.out.below hw') HG.out.2 (by omega)).mono ?_); rintro e w1 ⟨rfl, hb1⟩; exact ⟨rfl, (HC.out _ _).2 ((hC.next (by first | (simp; done) | (simp; omega) | omega) hb1).skip _ (by rfl))⟩)); go_simp) | (apply flow_no; (case hw => (go_simp; try (intro hh; cases hh))); (intro L w' _ _ hC; exact (HC.out _ _).2 (((HC.out _ _).1 hC).skip _ (by rfl))); go_simp))
        refine flow_nil ?_
        intro L wz hL hz
        have hz := (HC.out _ _).1 hz
        have hbz := hz.below
        have hcz := hz.cell
        try simp only [List.forall_mem_cons] at hcz
        have hdz := hz.done
        try simp only [List.forall_mem_cons] at hdz
        (try have hwz : Below w.heap.size w wz := by first | exact Below.trans (by (repeat (first | with_reducible exact Below.refl _ _ | with_reducible assumption | with_reducible refine Below.al ?_ _ | with_reducible refine Below.sc ?_ (by first | exact Nat.le_refl _ | (simp; done) | (simp; omega)) _ | assumption | exact Below.refl _ _ | refine Below.dr ?_ | refine Below.drN ?_ _ | refine Below.step ?_ (by assumption)))) hbz | ((repeat (first | with_reducible exact Below.refl _ _ | with_reducible assumption | with_reducible refine Below.al ?_ _ | with_reducible refine Below.sc ?_ (by first | exact Nat.le_refl _ | (simp; done) | (simp; omega)) _ | assumption | exact Below.refl _ _ | refine Below.dr ?_ | refine Below.drN ?_ _ | refine Below.step ?_ (by assumption))); done))
        go_wp2
        go_ret
        exact ⟨ret_strs (by rw [eng_imp]; simp [sIf, sThen]), by (repeat (first | with_reducible exact Below.refl _ _ | with_reducible assumption | with_reducible refine Below.al ?_ _ | with_reducible refine Below.sc ?_ (by first | exact Nat.le_refl _ | (simp; done) | (simp; omega)) _ | assumption | exact Below.refl _ _ | refine Below.dr ?_ | refine Below.drN ?_ _ | refine Below.step ?_ (by assumption)))⟩
    | qua op v g ho hv hg =>
      obtain ⟨p, c, q, d, rfl, rfl, rfl, rfl, rfl, -⟩ := hfm.form
      obtain ⟨vn, va, vp, hcs, hop, hs, ht, hl⟩ := hfm
      simp only [List.cons.injEq, and_true] at hcs
      obtain ⟨-, -, -, -, rfl⟩ := hcs
      have hl' : ListAt B w 5 (FmAt B m w) (.slice q 1 d) [g] := hl
      obtain ⟨b, o, x0, x1, x2, x3, x4, rfl, hx0, hx1, hx2, hx3, hx4, hx⟩ := FmAt.one hl'
      have zb := bsz (World.block_lt_of_cell? _ _ hx0)
      have HG := Lib.hid hg
      have HX := Lib.hid hx
      clear hf ht hl hl' hg hx
      rcases ho with rfl | rfl
      · have hz2 : g.eng.length + v.length + 30 ≤ 1000000000030 := by rw [eng_all] at hz; simp at hz; omega
        clear hz
        show Calls Tryz.prog 28 #[.agg #[.int .i64 8, .string ⟨#[]⟩, .slice p 0 c, .string ⟨v.toArray⟩, .slice (some ⟨b, o, none⟩) 1 d]] w _
        go_enter Tryz.func28, Tryz.ntmps28
        go_wp2
        obtain ⟨W, hW⟩ : ∃ W : World, W = w.alloc (.cells #[.int .i64 8, .string ⟨#[]⟩, .slice p 0 c, .string ⟨v.toArray⟩, .slice (some ⟨b, o, none⟩) 1 d] 27) := ⟨_, rfl⟩
        have hwb : W.cell? ⟨w.heap.size, 3, none⟩ = some (.string ⟨v.toArray⟩) := by rw [hW]; go_simp
        have hwc : W.cell? ⟨w.heap.size, 4, none⟩ = some (.slice (some ⟨b, o, none⟩) 1 d) := by rw [hW]; go_simp
        have hbW : Below w.heap.size w W := by rw [hW]; (repeat (first | with_reducible exact Below.refl _ _ | with_reducible assumption | with_reducible refine Below.al ?_ _ | with_reducible refine Below.sc ?_ (by first | exact Nat.le_refl _ | (simp; done) | (simp; omega)) _ | assumption | exact Below.refl _ _ | refine Below.dr ?_ | refine Below.drN ?_ _ | refine Below.step ?_ (by assumption)))
        rw [← hW]
        clear hW
        have zW := bsz (World.block_lt_of_cell? _ _ hwb)
        have ⟨cW, fW⟩ := bcell hbW
        obtain ⟨C, HC0⟩ := class_of (InF W.heap.size _ [(⟨w.heap.size, 3, none⟩, .string ⟨v.toArray⟩), (⟨w.heap.size, 4, none⟩, .slice (some ⟨b, o, none⟩) 1 d), (⟨b, o, none⟩, x0), (⟨b, o + 1, none⟩, x1), (⟨b, o + 2, none⟩, x2), (⟨b, o + 3, none⟩, x3), (⟨b, o + 4, none⟩, x4)] [] [])
        have HC := Lib.hid HC0
        clear HC0
        refine wp_region_flow (C := C) (by kernel_rfl) (by kernel_rfl) (fun L hL => (HC.out _ _).2 (InF.start (by first | (intro _ hs; cases hs; done) | (simp only [List.forall_mem_cons]; go_simp)) (by first | (intro _ hs; cases hs; done) | (simp only [List.forall_mem_cons]; go_simp)) (by first | (intro _ hs; cases hs; done) | (simp only [List.forall_mem_cons]; go_simp)) (by first | (intro _ hs; cases hs; done) | (simp only [List.forall_mem_cons]; go_simp)) L hL)) ?_
        repeat (first | (apply flow_free rfl; (intro L w' hun hrd hC; have hC := (HC.out _ _).1 hC; have hb' := hC.below; (try have hw' : Below w.heap.size w w' := by first | exact Below.trans (by (repeat (first | with_reducible exact Below.refl _ _ | with_reducible assumption | with_reducible refine Below.al ?_ _ | with_reducible refine Below.sc ?_ (by first | exact Nat.le_refl _ | (simp; done) | (simp; omega)) _ | assumption | exact Below.refl _ _ | refine Below.dr ?_ | refine Below.drN ?_ _ | refine Below.step ?_ (by assumption)))) hb' | ((repeat (first | with_reducible exact Below.refl _ _ | with_reducible assumption | with_reducible refine Below.al ?_ _ | with_reducible refine Below.sc ?_ (by first | exact Nat.le_refl _ | (simp; done) | (simp; omega)) _ | assumption | exact Below.refl _ _ | refine Below.dr ?_ | refine Below.drN ?_ _ | refine Below.step ?_ (by assumption))); done)); have hf' := hC.cell; (try simp only [List.forall_mem_cons] at hf'); go_simp; first | exact ⟨(HC.out _ _).2 (hC.skip _ (by rfl)), rfl⟩ | (rw [if_neg]; (exact ⟨(HC.out _ _).2 (hC.skip _ (by rfl)), rfl⟩); omega) | (go_at_call 28; (with_reducible refine (EngAt.call IH.out g x0 x1 x2 x3 x4 _ (HX.out.below hw') HG.out (by omega)).mono ?_); rintro e w1 ⟨rfl, hb1⟩; exact ⟨rfl, (HC.out _ _).2 ((hC.next (by first | (simp; done) | (simp; omega) | omega) hb1).skip _ (by rfl))⟩)); go_simp) | (apply flow_yes; (case hw => go_simp); (intro L w' hun hrd hC; have hC := (HC.out _ _).1 hC; have hb' := hC.below; (try have hw' : Below w.heap.size w w' := by first | exact Below.trans (by (repeat (first | with_reducible exact Below.refl _ _ | with_reducible assumption | with_reducible refine Below.al ?_ _ | with_reducible refine Below.sc ?_ (by first | exact Nat.le_refl _ | (simp; done) | (simp; omega)) _ | assumption | exact Below.refl _ _ | refine Below.dr ?_ | refine Below.drN ?_ _ | refine Below.step ?_ (by assumption)))) hb' | ((repeat (first | with_reducible exact Below.refl _ _ | with_reducible assumption | with_reducible refine Below.al ?_ _ | with_reducible refine Below.sc ?_ (by first | exact Nat.le_refl _ | (simp; done) | (simp; omega)) _ | assumption | exact Below.refl _ _ | refine Below.dr ?_ | refine Below.drN ?_ _ | refine Below.step ?_ (by assumption))); done)); have hf' := hC.cell; (try simp only [List.forall_mem_cons] at hf'); go_simp; first | exact ⟨(HC.out _ _).2 (hC.skip _ (by rfl)), rfl⟩ | (rw [if_neg]; (exact ⟨(HC.out _ _).2 (hC.skip _ (by rfl)), rfl⟩); omega) | (go_at_call 28; (with_reducible refine (EngAt.call IH.out g x0 x1 x2 x3 x4 _ (HX.out.below hw') HG.out (by omega)).mono ?_); rintro e w1 ⟨rfl, hb1⟩; exact ⟨rfl, (HC.out _ _).2 ((hC.next (by first | (simp; done) | (simp; omega) | omega) hb1).skip _ (by rfl))⟩)); go_simp) | (apply flow_no; (case hw => (go_simp; try (intro hh; cases hh))); (intro L w' _ _ hC; exact (HC.out _ _).2 (((HC.out _ _).1 hC).skip _ (by rfl))); go_simp))
        refine flow_nil ?_
        intro L wz hL hz
        have hz := (HC.out _ _).1 hz
        have hbz := hz.below
        have hcz := hz.cell
        try simp only [List.forall_mem_cons] at hcz
        have hdz := hz.done
        try simp only [List.forall_mem_cons] at hdz
        (try have hwz : Below w.heap.size w wz := by first | exact Below.trans (by (repeat (first | with_reducible exact Below.refl _ _ | with_reducible assumption | with_reducible refine Below.al ?_ _ | with_reducible refine Below.sc ?_ (by first | exact Nat.le_refl _ | (simp; done) | (simp; omega)) _ | assumption | exact Below.refl _ _ | refine Below.dr ?_ | refine Below.drN ?_ _ | refine Below.step ?_ (by assumption)))) hbz | ((repeat (first | with_reducible exact Below.refl _ _ | with_reducible assumption | with_reducible refine Below.al ?_ _ | with_reducible refine Below.sc ?_ (by first | exact Nat.le_refl _ | (simp; done) | (simp; omega)) _ | assumption | exact Below.refl _ _ | refine Below.dr ?_ | refine Below.drN ?_ _ | refine Below.step ?_ (by assumption))); done))
        go_wp2
        go_ret
        exact ⟨ret_strs (by rw [eng_all]; simp [sEvery, sComma]), by (repeat (first | with_reducible exact Below.refl _ _ | with_reducible assumption | with_reducible refine Below.al ?_ _ | with_reducible refine Below.sc ?_ (by first | exact Nat.le_refl _ | (simp; done) | (simp; omega)) _ | assumption | exact Below.refl _ _ | refine Below.dr ?_ | refine Below.drN ?_ _ | refine Below.step ?_ (by assumption)))⟩
      · have hz2 : g.eng.length + v.length + 30 ≤ 1000000000030 := by rw [eng_ex] at hz; simp at hz; omega
        clear hz
        show Calls Tryz.prog 28 #[.agg #[.int .i64 9, .string ⟨#[]⟩, .slice p 0 c, .string ⟨v.toArray⟩, .slice (some ⟨b, o, none⟩) 1 d]] w _
        go_enter Tryz.func28, Tryz.ntmps28
        go_wp2
        obtain ⟨W, hW⟩ : ∃ W : World, W = w.alloc (.cells #[.int .i64 9, .string ⟨#[]⟩, .slice p 0 c, .string ⟨v.toArray⟩, .slice (some ⟨b, o, none⟩) 1 d] 27) := ⟨_, rfl⟩
        have hwb : W.cell? ⟨w.heap.size, 3, none⟩ = some (.string ⟨v.toArray⟩) := by rw [hW]; go_simp
        have hwc : W.cell? ⟨w.heap.size, 4, none⟩ = some (.slice (some ⟨b, o, none⟩) 1 d) := by rw [hW]; go_simp
        have hbW : Below w.heap.size w W := by rw [hW]; (repeat (first | with_reducible exact Below.refl _ _ | with_reducible assumption | with_reducible refine Below.al ?_ _ | with_reducible refine Below.sc ?_ (by first | exact Nat.le_refl _ | (simp; done) | (simp; omega)) _ | assumption | exact Below.refl _ _ | refine Below.dr ?_ | refine Below.drN ?_ _ | refine Below.step ?_ (by assumption)))
        rw [← hW]
        clear hW
        have zW := bsz (World.block_lt_of_cell? _ _ hwb)
        have ⟨cW, fW⟩ := bcell hbW
        obtain ⟨C, HC0⟩ := class_of (InF W.heap.size _ [(⟨w.heap.size, 3, none⟩, .string ⟨v.toArray⟩), (⟨w.heap.size, 4, none⟩, .slice (some ⟨b, o, none⟩) 1 d), (⟨b, o, none⟩, x0), (⟨b, o + 1, none⟩, x1), (⟨b, o + 2, none⟩, x2), (⟨b, o + 3, none⟩, x3), (⟨b, o + 4, none⟩, x4)] [] [])
        have HC := Lib.hid HC0
        clear HC0
        refine wp_region_flow (C := C) (by kernel_rfl) (by kernel_rfl) (fun L hL => (HC.out _ _).2 (InF.start (by first | (intro _ hs; cases hs; done) | (simp only [List.forall_mem_cons]; go_simp)) (by first | (intro _ hs; cases hs; done) | (simp only [List.forall_mem_cons]; go_simp)) (by first | (intro _ hs; cases hs; done) | (simp only [List.forall_mem_cons]; go_simp)) (by first | (intro _ hs; cases hs; done) | (simp only [List.forall_mem_cons]; go_simp)) L hL)) ?_
        repeat (first | (apply flow_free rfl; (intro L w' hun hrd hC; have hC := (HC.out _ _).1 hC; have hb' := hC.below; (try have hw' : Below w.heap.size w w' := by first | exact Below.trans (by (repeat (first | with_reducible exact Below.refl _ _ | with_reducible assumption | with_reducible refine Below.al ?_ _ | with_reducible refine Below.sc ?_ (by first | exact Nat.le_refl _ | (simp; done) | (simp; omega)) _ | assumption | exact Below.refl _ _ | refine Below.dr ?_ | refine Below.drN ?_ _ | refine Below.step ?_ (by assumption)))) hb' | ((repeat (first | with_reducible exact Below.refl _ _ | with_reducible assumption | with_reducible refine Below.al ?_ _ | with_reducible refine Below.sc ?_ (by first | exact Nat.le_refl _ | (simp; done) | (simp; omega)) _ | assumption | exact Below.refl _ _ | refine Below.dr ?_ | refine Below.drN ?_ _ | refine Below.step ?_ (by assumption))); done)); have hf' := hC.cell; (try simp only [List.forall_mem_cons] at hf'); go_simp; first | exact ⟨(HC.out _ _).2 (hC.skip _ (by rfl)), rfl⟩ | (rw [if_neg]; (exact ⟨(HC.out _ _).2 (hC.skip _ (by rfl)), rfl⟩); omega) | (go_at_call 28; (with_reducible refine (EngAt.call IH.out g x0 x1 x2 x3 x4 _ (HX.out.below hw') HG.out (by omega)).mono ?_); rintro e w1 ⟨rfl, hb1⟩; exact ⟨rfl, (HC.out _ _).2 ((hC.next (by first | (simp; done) | (simp; omega) | omega) hb1).skip _ (by rfl))⟩)); go_simp) | (apply flow_yes; (case hw => go_simp); (intro L w' hun hrd hC; have hC := (HC.out _ _).1 hC; have hb' := hC.below; (try have hw' : Below w.heap.size w w' := by first | exact Below.trans (by (repeat (first | with_reducible exact Below.refl _ _ | with_reducible assumption | with_reducible refine Below.al ?_ _ | with_reducible refine Below.sc ?_ (by first | exact Nat.le_refl _ | (simp; done) | (simp; omega)) _ | assumption | exact Below.refl _ _ | refine Below.dr ?_ | refine Below.drN ?_ _ | refine Below.step ?_ (by assumption)))) hb' | ((repeat (first | with_reducible exact Below.refl _ _ | with_reducible assumption | with_reducible refine Below.al ?_ _ | with_reducible refine Below.sc ?_ (by first | exact Nat.le_refl _ | (simp; done) | (simp; omega)) _ | assumption | exact Below.refl _ _ | refine Below.dr ?_ | refine Below.drN ?_ _ | refine Below.step ?_ (by assumption))); done)); have hf' := hC.cell; (try simp only [List.forall_mem_cons] at hf'); go_simp; first | exact ⟨(HC.out _ _).2 (hC.skip _ (by rfl)), rfl⟩ | (rw [if_neg]; (exact ⟨(HC.out _ _).2 (hC.skip _ (by rfl)), rfl⟩); omega) | (go_at_call 28; (with_reducible refine (EngAt.call IH.out g x0 x1 x2 x3 x4 _ (HX.out.below hw') HG.out (by omega)).mono ?_); rintro e w1 ⟨rfl, hb1⟩; exact ⟨rfl, (HC.out _ _).2 ((hC.next (by first | (simp; done) | (simp; omega) | omega) hb1).skip _ (by rfl))⟩)); go_simp) | (apply flow_no; (case hw => (go_simp; try (intro hh; cases hh))); (intro L w' _ _ hC; exact (HC.out _ _).2 (((HC.out _ _).1 hC).skip _ (by rfl))); go_simp))
        refine flow_nil ?_
        intro L wz hL hz
        have hz := (HC.out _ _).1 hz
        have hbz := hz.below
        have hcz := hz.cell
        try simp only [List.forall_mem_cons] at hcz
        have hdz := hz.done
        try simp only [List.forall_mem_cons] at hdz
        (try have hwz : Below w.heap.size w wz := by first | exact Below.trans (by (repeat (first | with_reducible exact Below.refl _ _ | with_reducible assumption | with_reducible refine Below.al ?_ _ | with_reducible refine Below.sc ?_ (by first | exact Nat.le_refl _ | (simp; done) | (simp; omega)) _ | assumption | exact Below.refl _ _ | refine Below.dr ?_ | refine Below.drN ?_ _ | refine Below.step ?_ (by assumption)))) hbz | ((repeat (first | with_reducible exact Below.refl _ _ | with_reducible assumption | with_reducible refine Below.al ?_ _ | with_reducible refine Below.sc ?_ (by first | exact Nat.le_refl _ | (simp; done) | (simp; omega)) _ | assumption | exact Below.refl _ _ | refine Below.dr ?_ | refine Below.drN ?_ _ | refine Below.step ?_ (by assumption))); done))
        go_wp2
        go_ret
        exact ⟨ret_strs (by rw [eng_ex]; simp [sThere, sSuch]), by (repeat (first | with_reducible exact Below.refl _ _ | with_reducible assumption | with_reducible refine Below.al ?_ _ | with_reducible refine Below.sc ?_ (by first | exact Nat.le_refl _ | (simp; done) | (simp; omega)) _ | assumption | exact Below.refl _ _ | refine Below.dr ?_ | refine Below.drN ?_ _ | refine Below.step ?_ (by assumption)))⟩
end Go.Proofs.YtdklemmincejpaaGreat
namespace Go.Proofs.YtdklemmincejpaaGreat
open Go.RowKit
theorem atomOfF_form (a : Tm) : (atomOfF a).form = a.atom := by simp [atomOfF, Fm.form, Fm.forms, Fm.form1, arity, isQ, Fm.op, Fm.a, Fm.v, Fm.ps]
theorem tm0_none : tm0.none = true := rfl
theorem neg_form (g : Fm) : (opF 4 [g]).form = g.form := by simp [opF, Fm.form, Fm.forms, Fm.form1, arity, isQ, Fm.op, Fm.a, Fm.v, Fm.ps, tm0_none]
theorem or_form (g h : Fm) : (opF 6 [g, h]).form = (g.form && h.form) := by simp [opF, Fm.form, Fm.forms, Fm.form1, arity, isQ, Fm.op, Fm.a, Fm.v, Fm.ps, tm0_none]
theorem Lit3.fm_form (l : Lit3) (h : l.a.atom = true) : l.fm.form = true := by
  rw [Lit3.fm]; split
  · rw [atomOfF_form, h]
  · rw [neg_form, atomOfF_form, h]
theorem size_nil : (⟨#[]⟩ : ByteArray).size = 0 := rfl
theorem Lit3.fm_wt (l : Lit3) : l.fm.wt ≤ l.a.wt + 1 := by
  rw [Lit3.fm]; split <;> simp [opF, atomOfF, Fm.wt, Fm.wts, tm0, Tm.wt, Tm.wts, size_nil] <;> omega
theorem or_wt (g h : Fm) : (opF 6 [g, h]).wt = 2 + g.wt + h.wt := by simp [opF, Fm.wt, Fm.wts, tm0, Tm.wt, Tm.wts, size_nil]; omega
def Cls.wts : List Lit3 → Nat | [] => 0 | l :: ls => l.a.wt + Cls.wts ls
theorem Cls.wts_le (c : List Lit3) : ∀ l ∈ c, l.a.wt ≤ Cls.wts c := by
  induction c with
  | nil => simp
  | cons a c ih =>
    intro l hl
    rw [Cls.wts]
    rcases List.mem_cons.1 hl with rfl | h
    · omega
    · have := ih l h; omega
theorem Cls.wts_drop_le : ∀ (c : List Lit3) (k : Nat), Cls.wts (c.drop k) ≤ Cls.wts c
  | [], k => by simp
  | a :: c, 0 => by simp
  | a :: c, k + 1 => by have := Cls.wts_drop_le c k; rw [List.drop_succ_cons, Cls.wts]; omega
theorem disj_one (l : Lit3) : disj [l] = l.fm := rfl
theorem disj_cons (l a : Lit3) (c : List Lit3) : disj (l :: a :: c) = opF 6 [l.fm, disj (a :: c)] := by
  have h : ∀ (x y : Lit3) (ys : List Lit3), disj (x :: (y :: ys)) = opF 6 [x.fm, disj (y :: ys)] := by
    intro x y ys
    rw [disj_of (c := x :: (y :: ys)) (by simp), disj_of (c := y :: ys) (by simp)]
    have e1 : (x :: (y :: ys)).length - 1 = ((y :: ys).length - 1) + 1 := by simp
    simp only [e1, List.take_succ_cons, List.reverse_cons, List.getElem_cons_succ, disF_snoc]
  exact h l a c
theorem disj_drop {c : List Lit3} {k : Nat} (h : k + 1 < c.length) : disj (c.drop k) = opF 6 [(c[k]'(by omega)).fm, disj (c.drop (k + 1))] := by
  rw [List.drop_eq_getElem_cons (by omega : k < c.length), List.drop_eq_getElem_cons h, disj_cons]
theorem disj_form : ∀ (c : List Lit3), 0 < c.length → (∀ l ∈ c, l.a.atom = true) → (disj c).form = true
  | [], h, _ => absurd h (by simp)
  | [l], _, h => by rw [disj_one]; exact l.fm_form (h l (by simp))
  | l :: a :: c, _, h => by rw [disj_cons, or_form, l.fm_form (h l (by simp)), disj_form (a :: c) (by simp) (fun x hx => h x (List.mem_cons_of_mem _ hx))]; rfl
theorem disj_wt : ∀ (c : List Lit3), 0 < c.length → (disj c).wt ≤ Cls.wts c + 3 * c.length
  | [], h => absurd h (by simp)
  | [l], _ => by have := l.fm_wt; rw [disj_one, Cls.wts, Cls.wts]; simp; omega
  | l :: a :: c, _ => by
    have h1 := l.fm_wt
    have h2 := disj_wt (a :: c) (by simp)
    rw [disj_cons, or_wt, Cls.wts]; simp only [List.length_cons] at h2 ⊢; omega
theorem okF_atoms : ∀ (c : List Lit3) (p : Option Lit3), Cls.okF p c = true → ∀ l ∈ c, l.a.atom = true
  | [], _, _ => by simp
  | a :: c, p, h => by
    rw [Cls.okF, Bool.and_eq_true, Bool.and_eq_true] at h
    intro l hl
    rcases List.mem_cons.1 hl with rfl | h'
    · exact h.1.1
    · exact okF_atoms c _ h.2 l h'
theorem good_atoms {c : List Lit3} (h : Cls.good c = true) : c.length ≤ 8 ∧ ∀ l ∈ c, l.a.atom = true := by
  rw [Cls.good, Bool.and_eq_true] at h
  exact ⟨of_decide_eq_true h.1, okF_atoms c none h.2⟩
/-- 'a contradiction' -/
def sContr : List UInt8 := [97, 32, 99, 111, 110, 116, 114, 97, 100, 105, 99, 116, 105, 111, 110]
/-- The English of a clause. -/
def Cls.eng (c : List Lit3) : List UInt8 := if c.length = 0 then sContr else (disj c).eng
theorem disj_len {c : List Lit3} (h0 : 0 < c.length) (h8 : c.length ≤ 8) (ha : ∀ l ∈ c, l.a.atom = true) (hw : Cls.wts c ≤ 1048576) : (disj c).eng.length ≤ 40000000 := by
  have h1 := Fm.eng_wt _ (disj c) (Nat.le_refl _) (disj_form c h0 ha)
  have h2 := disj_wt c h0
  omega
theorem fm_len {l : Lit3} (ha : l.a.atom = true) (hw : l.a.wt ≤ 1048576) : l.fm.eng.length ≤ 40000000 := by
  have h1 := Fm.eng_wt _ l.fm (Nat.le_refl _) (l.fm_form ha)
  have h2 := l.fm_wt
  omega
end Go.Proofs.YtdklemmincejpaaGreat
namespace Go.Proofs.YtdklemmincejpaaGreat
open Go.RowKit
def rWordL (L : List UInt8) (k : Nat) : List UInt8 := (L.drop k).takeWhile wordC
mutual
/-- A term from a place on, and the place behind it. -/
def rTerm (L : List UInt8) : Nat → Nat → Option (Tm × Nat)
  | 0, _ => none
  | f + 1, k =>
    if (rWordL L k).isEmpty then none
    else if L[k + (rWordL L k).length]? = some 40 then rArgs L (rWordL L k) f [] (k + (rWordL L k).length)
    else some (.mk ⟨(rWordL L k).toArray⟩ [], k + (rWordL L k).length)
/-- The arguments from a bracket or a comma on, behind those that are read. -/
def rArgs (L n : List UInt8) : Nat → List Tm → Nat → Option (Tm × Nat)
  | 0, _, _ => none
  | f + 1, us, e =>
    match rTerm L f (e + 1) with
    | none => none
    | some (a, j) => if L[j]? = some 44 then rArgs L n f (us ++ [a]) j else if L[j]? = some 41 then some (.mk ⟨n.toArray⟩ (us ++ [a]), j + 1) else none
end
def sOf : List UInt8 := [32, 111, 102, 32]
/-- What the reader's term answers for what l3Read has answered. -/
def qGot (p : PSt) : Option (Tm × Nat) → Tm × PSt
  | none => (tm0, ⟨p.pos, true⟩)
  | some (t, k) => (t, ⟨k, false⟩)
def qTerm (L : List UInt8) (p : PSt) : Tm × PSt := if p.bad then (tm0, p) else qGot p (rTerm L (L.length + 2) p.pos)
def qArgs (L : List UInt8) : Nat → PSt → List Tm × PSt
  | 0, p => ([], p)
  | f + 1, p => if pTake L sComma p then ((qTerm L (pAdv sComma p)).1 :: (qArgs L f (qTerm L (pAdv sComma p)).2).1, (qArgs L f (qTerm L (pAdv sComma p)).2).2) else ([], p)
/-- The state behind 'holds'. -/
def qHold (L : List UInt8) (a : Tm × PSt) : PSt := if a.1.us.isEmpty then pMust L sHolds a.2 else ⟨(pMust L sHolds a.2).pos, true⟩
def qAtom (L : List UInt8) (p : PSt) : Fm × PSt :=
  if pTake L sEquals (qTerm L p).2 then (atomOfF (eqTm (qTerm L p).1 (qTerm L (pAdv sEquals (qTerm L p).2)).1), (qTerm L (pAdv sEquals (qTerm L p).2)).2)
  else if pTake L sOf (qHold L (qTerm L p)) then
    (atomOfF (.mk (qTerm L p).1.n ((qTerm L p).1.us ++ (qTerm L (pAdv sOf (qHold L (qTerm L p)))).1 :: (qArgs L (L.length + 2) (qTerm L (pAdv sOf (qHold L (qTerm L p)))).2).1)), (qArgs L (L.length + 2) (qTerm L (pAdv sOf (qHold L (qTerm L p)))).2).2)
  else (atomOfF (qTerm L p).1, qHold L (qTerm L p))
/-! ### What is written is read back -/
theorem drop_get {L R : List UInt8} {k : Nat} (h : L.drop k = R) : L[k]? = R.head? := by rw [← h, List.head?_drop]
mutual
theorem rTerm_ok {L : List UInt8} : ∀ (f : Nat) (t : Tm) (k : Nat) (R : List UInt8), t.nodes = true → L.drop k = t.fmt ++ R → stopC R → t.fmt.length < f → rTerm L f k = some (t, k + t.fmt.length)
  | 0, _, _, _, _, _, _, h => absurd h (by omega)
  | f + 1, .mk n us, k, R, hn, hL, hR, hf => by
    have h1 := Tm.nodes_mk hn
    have hm := Tm.fmt_mk (us := us) (word_not61 h1.1)
    cases us with
    | nil =>
      rw [if_pos (by rfl)] at hm
      rw [hm] at hL ⊢
      have hw : rWordL L k = n.data.toList := by rw [rWordL, hL, takeWhile_app h1.1.1 (fun c hc => (hR c hc).1)]
      have e1 := drop_adv hL
      have hno : L[k + n.data.toList.length]? ≠ some 40 := by rw [drop_get e1]; intro h; exact (hR 40 h).2 rfl
      rw [rTerm, hw, if_neg (by simpa using h1.1.2), if_neg hno, ba_eq]
    | cons a us =>
      rw [if_neg (by simp), joinB_cons] at hm
      have h2 : a.nodes = true ∧ Tm.nodess us = true := by simpa [Tm.nodess] using h1.2
      have hlen : (Tm.mk n (a :: us)).fmt.length = n.data.toList.length + 1 + a.fmt.length + (sepAll [44] us).length + 1 := by rw [hm]; simp; omega
      have e0 : L.drop k = n.data.toList ++ ([40] ++ (a.fmt ++ (sepAll [44] us ++ ([41] ++ R)))) := by rw [hL, hm]; simp [List.append_assoc]
      have hw : rWordL L k = n.data.toList := by rw [rWordL, e0, takeWhile_app h1.1.1 (fun c hc => by simp at hc; subst hc; decide)]
      have e1 := drop_adv e0
      have hp : 0 < n.data.toList.length := List.length_pos_iff.2 h1.1.2
      rw [rTerm, hw, if_neg (by simpa using h1.1.2), if_pos (by rw [drop_get e1]; rfl)]
      rw [rArgs_ok f n.data.toList [] a us (k + n.data.toList.length) 40 R h2.1 h2.2 e1 (by omega), ba_eq, hlen]
      refine congrArg some (Prod.ext rfl ?_)
      show _ = _
      simp only; omega
theorem rArgs_ok {L : List UInt8} : ∀ (f : Nat) (n : List UInt8) (acc : List Tm) (a : Tm) (us : List Tm) (e : Nat) (c : UInt8) (R : List UInt8), a.nodes = true → Tm.nodess us = true → L.drop e = [c] ++ (a.fmt ++ (sepAll [44] us ++ ([41] ++ R))) → a.fmt.length + (sepAll [44] us).length + 1 < f →
    rArgs L n f acc e = some (.mk ⟨n.toArray⟩ (acc ++ a :: us), e + 1 + a.fmt.length + (sepAll [44] us).length + 1)
  | 0, _, _, _, _, _, _, _, _, _, _, h => absurd h (by omega)
  | f + 1, n, acc, a, us, e, c, R, ha, hu, hL, hf => by
    have s41 : stopC ([41] ++ R) := by intro c hc; simp at hc; subst hc; decide
    have s44 : stopC [44] := by intro c hc; simp at hc; subst hc; decide
    have e1 := drop_adv hL
    have e2 := drop_adv e1
    have h1 := rTerm_ok f a (e + 1) _ ha e1 (stop_sep s44 (by simp) s41) (by omega)
    rw [rArgs, h1]
    simp only
    have e2' : L.drop (e + 1 + a.fmt.length) = sepAll [44] us ++ ([41] ++ R) := e2
    cases us with
    | nil =>
      have hg : L[e + 1 + a.fmt.length]? = some 41 := by rw [drop_get e2']; rfl
      rw [hg, if_neg (by decide), if_pos rfl]
      simp [sepAll]
    | cons b us =>
      have h2 : b.nodes = true ∧ Tm.nodess us = true := by simpa [Tm.nodess] using hu
      have hg : L[e + 1 + a.fmt.length]? = some 44 := by rw [drop_get e2']; simp [sepAll]
      rw [hg, if_pos rfl]
      have hlen : (sepAll [44] (b :: us)).length = 1 + b.fmt.length + (sepAll [44] us).length := by rw [sepAll]; simp; omega
      rw [rArgs_ok f n (acc ++ [a]) b us (e + 1 + a.fmt.length) 44 R h2.1 h2.2 (by rw [e2', sepAll]; simp [List.append_assoc]) (by omega), hlen, List.append_assoc]
      refine congrArg some (Prod.ext rfl ?_)
      show _ = _
      simp only; omega
end
theorem fmt_lt {L R : List UInt8} {k : Nat} {t : List UInt8} (h : L.drop k = t ++ R) : t.length < L.length + 2 := by
  have := congrArg List.length h
  rw [List.length_drop, List.length_append] at this; omega
theorem qTerm_ok {L : List UInt8} {t : Tm} {k : Nat} {R : List UInt8} (hn : t.nodes = true) (hL : L.drop k = t.fmt ++ R) (hR : stopC R) : qTerm L ⟨k, false⟩ = (t, ⟨k + t.fmt.length, false⟩) := by
  rw [qTerm]
  show qGot _ _ = _
  rw [rTerm_ok _ t k R hn hL hR (fmt_lt hL)]
  rfl
theorem qArgs_ok {L : List UInt8} : ∀ (f : Nat) (us : List Tm) (k : Nat) (R : List UInt8), Tm.nodess us = true → L.drop k = sepAll sComma us ++ R → stopC R → sComma.isPrefixOf R = false → (sepAll sComma us).length < f →
    qArgs L f ⟨k, false⟩ = (us, ⟨k + (sepAll sComma us).length, false⟩)
  | 0, _, _, _, _, _, _, _, h => absurd h (by omega)
  | f + 1, [], k, R, hn, hL, hR, hp, hf => by
    rw [qArgs]
    have : pTake L sComma ⟨k, false⟩ = false := by simp only [pTake, hL]; simpa [sepAll] using hp
    rw [this]; rfl
  | f + 1, a :: us, k, R, hn, hL, hR, hp, hf => by
    have hs : stopC sComma := by intro c hc; simp [sComma] at hc; subst hc; decide
    have h2 : a.nodes = true ∧ Tm.nodess us = true := by simpa [Tm.nodess] using hn
    have e0 : L.drop k = sComma ++ (a.fmt ++ (sepAll sComma us ++ R)) := by rw [hL, sepAll]; simp [List.append_assoc]
    have e1 := drop_adv e0
    have e2 := drop_adv e1
    have hl : 0 < sComma.length := by decide
    rw [sepAll] at hf ⊢
    simp only [List.length_append] at hf ⊢
    have ha := qTerm_ok h2.1 e1 (stop_sep hs (by decide) hR)
    have hb := qArgs_ok f us _ R h2.2 e2 hR hp (by omega)
    rw [qArgs, if_pos (pTake_yes e0)]
    simp only [pAdv] at ha hb ⊢
    rw [ha, hb]
    refine Prod.ext rfl ?_
    show PSt.mk _ _ = PSt.mk _ _
    congr 1
    omega
theorem qHold_ok {L R : List UInt8} {k : Nat} {t : Tm} (ht : t.us = []) (h : L.drop k = sHolds ++ R) : qHold L (t, ⟨k, false⟩) = ⟨k + sHolds.length, false⟩ := by
  rw [qHold, ht]; exact pMust_yes h
theorem qAtom_ok {L : List UInt8} {t : Tm} {k : Nat} {R : List UInt8} (ht : t.atom = true) (hL : L.drop k = t.eng ++ R) (hR : GoodR R) : qAtom L ⟨k, false⟩ = (atomOfF t, ⟨k + t.eng.length, false⟩) := by
  cases atom_cases ht with
  | eq a b ha hb =>
    rw [eng_eq] at hL ⊢
    have e0 : L.drop k = a.fmt ++ (sEquals ++ (b.fmt ++ R)) := by rw [hL]; simp [List.append_assoc]
    have e1 := drop_adv e0
    have e2 := drop_adv e1
    have h1 := qTerm_ok ha e0 (by intro c hc; simp [sEquals] at hc; subst hc; decide)
    have h2 := qTerm_ok hb e2 hR.stop
    rw [qAtom, h1, if_pos (pTake_yes e1)]
    simp only [pAdv] at h2 ⊢
    rw [h2]
    refine Prod.ext rfl ?_
    show PSt.mk _ _ = PSt.mk _ _
    congr 1
    simp only [List.length_append]; omega
  | pred n us hs hu hd =>
    have h0 := symB_nodes0 hs
    have hm := symB_fmt0 hs
    rw [eng_pred hs] at hL ⊢
    cases us with
    | nil =>
      rw [if_pos (show ([] : List Tm).isEmpty = true from rfl)] at hL ⊢
      have e0 : L.drop k = (Tm.mk n []).fmt ++ (sHolds ++ R) := by rw [hL, hm]; simp [List.append_assoc]
      have e1 := drop_adv e0
      have e2 := drop_adv e1
      have h1 := qTerm_ok h0 e0 (by intro c hc; simp [sHolds] at hc; subst hc; decide)
      have h2 := qHold_ok (t := .mk n []) rfl e1
      rw [qAtom, h1, if_neg (by rw [pTake_no e1 rfl]; simp), h2, if_neg (by
        rw [pTake_no e2 ?_]; simp
        exact hR.no.2), hm]
      refine Prod.ext rfl ?_
      show PSt.mk _ _ = PSt.mk _ _
      congr 1
      simp only [List.length_append]; omega
    | cons a us =>
      rw [if_neg (by simp), joinB_cons] at hL ⊢
      have hau : a.nodes = true ∧ Tm.nodess us = true := by simpa [Tm.nodess] using hu
      have e0 : L.drop k = (Tm.mk n []).fmt ++ (sHolds ++ (sOf ++ (a.fmt ++ (sepAll sComma us ++ R)))) := by rw [hL, hm]; simp [List.append_assoc, sHoldsOf, sHolds, sOf]
      have e1 := drop_adv e0
      have e2 := drop_adv e1
      have e3 := drop_adv e2
      have e4 := drop_adv e3
      have sc : stopC sComma := by intro c hc; simp [sComma] at hc; subst hc; decide
      have h1 := qTerm_ok h0 e0 (by intro c hc; simp [sHolds] at hc; subst hc; decide)
      have h2 := qHold_ok (t := .mk n []) rfl e1
      have h3 := qTerm_ok hau.1 e3 (stop_sep sc (by decide) hR.stop)
      have h4 := qArgs_ok (L.length + 2) us _ R hau.2 e4 hR.stop hR.no.1 (fmt_lt e4)
      rw [qAtom, h1, if_neg (by rw [pTake_no e1 rfl]; simp), h2, if_pos (pTake_yes e2)]
      simp only [pAdv] at h3 h4 ⊢
      rw [h3, h4]
      refine Prod.ext rfl ?_
      show PSt.mk _ _ = PSt.mk _ _
      congr 1
      rw [hm]
      have hl : sHoldsOf.length = sHolds.length + sOf.length := rfl
      simp only [List.length_append]; omega
end Go.Proofs.YtdklemmincejpaaGreat
namespace Go.Proofs.YtdklemmincejpaaGreat
open Go.RowKit
/-- What EnglishToFormula answers. -/
def EtfPost (n : Nat) (ok : Bool) (F : Fm) (w : World) (e : Ending) (w' : World) : Prop :=
  Below w.heap.size w w' ∧ if ok = true then ∃ x, e = .returned (.tuple #[x, .bool true]) ∧ FmV n (NewB w w') w' F x
    else e = .returned (.tuple #[.agg #[.int .i64 0, .string ⟨#[]⟩, .slice none 0 0, .string ⟨#[]⟩, .slice none 0 0], .bool false])
theorem EtfPost.no {n : Nat} {ok : Bool} {F : Fm} {w w' : World} (h : ok = false) (hb : Below w.heap.size w w') : EtfPost n ok F w (.returned (.tuple #[.agg #[.int .i64 0, .string ⟨#[]⟩, .slice none 0 0, .string ⟨#[]⟩, .slice none 0 0], .bool false])) w' := by
  subst h; exact ⟨hb, rfl⟩
end Go.Proofs.YtdklemmincejpaaGreat
