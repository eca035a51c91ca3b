/- A row in a struct's block that grows beside the cursor, of any kind of element. No program is walked. -/
import Derived.Test.YtkgfanajgdelcaaGreatDoorUnPart1
import Derived.Test.YtkgfanajgdelcaaGreatDoorUnPart2
import Derived.Test.YtkgfanajgdelcaaGreatDoorUnPart4
import Derived.Test.YtkgfanajgdelcaaGreatDoorUnPart5
import Derived.Test.YtkgfanajgdelcaaGreatDoorUnPart10
namespace Go.Proofs.YtkgfanajgdelcaaGreatDoor
open Go.RowKit
/-- No line ends in it. -/
def NoNl (l : List UInt8) : Prop := ∀ c ∈ l, c ≠ 10
instance (l : List UInt8) : Decidable (NoNl l) := inferInstanceAs (Decidable (∀ c ∈ l, c ≠ 10))
theorem NoNl.app {a b : List UInt8} (h : NoNl a) (h2 : NoNl b) : NoNl (a ++ b) := fun c hc => (List.mem_append.1 hc).elim (h c) (h2 c)
theorem headTail_or {p q : UInt8 → Bool} {l : List UInt8} (h : headTail p q l = true) : ∀ c ∈ l, p c = true ∨ q c = true := by
  cases l with
  | nil => simp
  | cons x l =>
    rw [headTail, Bool.and_eq_true, List.all_eq_true] at h
    intro c hc
    rcases List.mem_cons.1 hc with rfl | hc
    · exact .inl h.1
    · exact .inr (h.2 c hc)
theorem symB_nl {l : List UInt8} (h : symB l = true) : NoNl l := by
  unfold symB at h
  simp only [Bool.and_eq_true] at h
  intro c hc e
  subst e
  rcases headTail_or h.1.2 _ hc with h | h
  · exact absurd h (by decide)
  · exact absurd h (by decide)
theorem varB_nl {l : List UInt8} (h : varB l = true) : NoNl l := by
  unfold varB at h
  simp only [Bool.and_eq_true] at h
  intro c hc e
  subst e
  rcases headTail_or h.2 _ hc with h | h
  · exact absurd h (by decide)
  · exact absurd h (by decide)
theorem joinB_nl {sep : List UInt8} (hs : NoNl sep) : ∀ l : List (List UInt8), (∀ x ∈ l, NoNl x) → NoNl (joinB sep l)
  | [], _ => by intro c hc; rw [joinB] at hc; cases hc
  | [a], h => by rw [joinB]; exact h a (List.mem_cons_self ..)
  | a :: b :: l, h => by
    rw [joinB]
    exact ((h a (List.mem_cons_self ..)).app hs).app (joinB_nl hs (b :: l) (fun x hx => h x (List.mem_cons_of_mem _ hx)))
theorem fmt_nl_of {n : ByteArray} {us : List Tm} (hn : NoNl n.data.toList) (hu : ∀ x ∈ Tm.fmtL us, NoNl x) : NoNl (Tm.fmt (.mk n us)) := by
  rw [Tm.fmt.eq_def]
  dsimp only
  split
  · split
    · rename_i a b l he
      exact ((hu a (by rw [he]; simp)).app (by decide)).app (hu b (by rw [he]; simp))
    · intro c hc; cases hc
  · split
    · exact hn
    · exact ((hn.app (by decide)).app (joinB_nl (by decide) _ hu)).app (by decide)
mutual
theorem Tm.fmt_nl : ∀ t : Tm, t.nodes = true → NoNl t.fmt
  | .mk n us, h => by
    rw [Tm.nodes] at h
    split at h
    · rename_i hv
      have : us = [] := by simpa using h
      subst this
      exact fmt_nl_of (varB_nl hv) (by intro x hx; rw [Tm.fmtL] at hx; cases hx)
    · simp only [Bool.and_eq_true] at h
      exact fmt_nl_of (symB_nl h.1.1) (Tm.fmtL_nl us h.2)
theorem Tm.fmtL_nl : ∀ us : List Tm, Tm.nodess us = true → ∀ x ∈ Tm.fmtL us, NoNl x
  | [], _ => by intro x hx; rw [Tm.fmtL] at hx; cases hx
  | a :: us, h => by
    rw [Tm.nodess, Bool.and_eq_true] at h
    intro x hx
    rw [Tm.fmtL] at hx
    rcases List.mem_cons.1 hx with rfl | hx
    · exact Tm.fmt_nl a h.1
    · exact Tm.fmtL_nl us h.2 x hx
end
theorem atom_nl {t : Tm} (h : t.atom = true) : NoNl t.fmt := by
  obtain ⟨n, us⟩ := t
  rw [Tm.atom] at h
  split at h
  · rename_i he
    simp only [Bool.and_eq_true] at h
    have he : n.data.toList = [61] := by simpa [isEq, Tm.n] using he
    exact fmt_nl_of (by rw [he]; decide) (Tm.fmtL_nl us h.2)
  · simp only [Bool.and_eq_true, Tm.good] at h
    exact Tm.fmt_nl _ h.2.2
mutual
theorem Fm.txt_nl : ∀ f : Fm, f.form = true → NoNl f.txt
  | .mk op a v ps, h => by
    rw [Fm.form, Fm.form1, Bool.and_eq_true, Bool.and_eq_true, Bool.and_eq_true] at h
    obtain ⟨⟨⟨h1, h2⟩, h3⟩, h4⟩ := h
    have hp := Fm.txtN_nl ps h4
    simp only [Fm.op, Fm.v, Fm.a] at h1 h2 h3
    rw [Fm.txt]
    split
    · decide
    split
    · decide
    split
    · rename_i e; exact atom_nl (by simpa [e] using h3)
    split
    · split
      · exact (NoNl.app (by decide) (hp 0)).app (by decide)
      · exact NoNl.app (by decide) (hp 0)
    split
    · rename_i e; subst e
      exact ((NoNl.app (by decide) (varB_nl h2)).app (by decide)).app (hp 0)
    split
    · rename_i e; subst e
      exact ((NoNl.app (by decide) (varB_nl h2)).app (by decide)).app (hp 0)
    · refine (((NoNl.app (by decide) (hp 0)).app ?_).app (hp 1)).app (by decide)
      unfold sign8; split <;> (try split) <;> decide
theorem Fm.txtN_nl : ∀ (ps : List Fm), Fm.forms ps = true → ∀ n, NoNl (Fm.txtN n ps)
  | [], _, n => by intro c hc; cases n <;> rw [Fm.txtN] at hc <;> cases hc
  | f :: fs, h, n => by
    rw [Fm.forms, Bool.and_eq_true] at h
    cases n with
    | zero => rw [Fm.txtN]; exact Fm.txt_nl f h.1
    | succ n => rw [Fm.txtN]; exact Fm.txtN_nl fs h.2 n
end
theorem unitTxt_nl {s : ByteArray} (h : unitTxt s = true) : NoNl s.data.toList ∧ s.size ≤ 100 := by
  rw [unitTxt, Bool.and_eq_true, pfOk, Bool.and_eq_true, fOkL] at h
  simp only [Bool.and_eq_true] at h
  obtain ⟨⟨_, ⟨_, h1⟩, h2⟩, h3⟩ := h
  refine ⟨?_, of_decide_eq_true h3⟩
  rw [← beq_iff_eq.1 h2]
  rw [Fm.good, Bool.and_eq_true] at h1
  exact Fm.txt_nl _ h1.2
theorem namesF_sym : ∀ (p : Option ByteArray) (us : List ByteArray), namesF p us = true → ∀ x ∈ us, symB x.data.toList = true
  | _, [], _, _, hx => by cases hx
  | p, a :: us, h, x, hx => by
    rw [namesF, Bool.and_eq_true, Bool.and_eq_true] at h
    rcases List.mem_cons.1 hx with rfl | hx
    · exact h.1.1
    · exact namesF_sym (some a) us h.2 x hx
theorem sym_size {s : ByteArray} (h : symB s.data.toList = true) : s.size ≤ 6 := by
  unfold symB at h
  simp only [Bool.and_eq_true, decide_eq_true_iff] at h
  have := h.1.1.2
  rw [size_list]; exact this
/-- What a valid unit's parts are like. -/
structure UnP (u : Un) : Prop where
  name : NoNl u.name.data.toList ∧ u.name.size ≤ 6
  incs : ∀ x ∈ u.incs, NoNl x.data.toList ∧ x.size ≤ 6
  ilen : u.incs.length ≤ 12
  axs : ∀ x ∈ u.axs, NoNl x.data.toList ∧ x.size ≤ 100
  alen : u.axs.length ≤ 6
  goal : NoNl u.goal.data.toList ∧ u.goal.size ≤ 100
theorem Un.good_parts {u : Un} (h : u.good = true) : UnP u := by
  unfold Un.good at h
  simp only [Bool.and_eq_true, decide_eq_true_iff, Bool.or_eq_true, List.all_eq_true] at h
  obtain ⟨⟨⟨⟨⟨h1, h2⟩, h3⟩, h4⟩, h5⟩, h6⟩ := h
  refine ⟨⟨symB_nl h1, sym_size h1⟩, fun x hx => ?_, h2, fun x hx => unitTxt_nl (h5 x hx), h4, ?_⟩
  · have := namesF_sym _ _ h3 x hx; exact ⟨symB_nl this, sym_size this⟩
  · rcases h6 with h6 | h6
    · have h6 := beq_iff_eq.1 h6
      rw [size_list, h6]; exact ⟨(by intro c hc; cases hc), (by simp)⟩
    · exact unitTxt_nl h6
theorem wtS_bound {n : Nat} : ∀ us : List ByteArray, (∀ x ∈ us, x.size ≤ n) → wtS us ≤ n * us.length
  | [], _ => by simp [wtS]
  | a :: us, h => by
    have h1 := wtS_bound us (fun x hx => h x (List.mem_cons_of_mem _ hx))
    have h2 := h a (List.mem_cons_self ..)
    rw [wtS, List.length_cons, Nat.mul_succ]; omega
theorem lineU_len (k : List UInt8) (s : ByteArray) : (lineU k s).length = k.length + s.size + 1 := by rw [lineU, List.length_append, List.length_append, ← size_list]; rfl
theorem txt_size {u : Un} (h : u.good = true) : u.txt.length ≤ 4000 := by
  have hp := u.good_parts h
  have h1 := wtS_bound u.incs (fun x hx => (hp.incs x hx).2)
  have h2 := wtS_bound u.axs (fun x hx => (hp.axs x hx).2)
  have h3 := hp.ilen
  have h4 := hp.alen
  have h5 := hp.name.2
  have h6 := hp.goal.2
  have h7 : (if u.goal.toList == [] then ([] : List UInt8) else lineU kwGoal u.goal).length ≤ 106 := by
    split
    · simp
    · rw [lineU_len]; simp [kwGoal]; omega
  rw [Un.txt, List.length_append, List.length_append, List.length_append, linesU_len, linesU_len, lineU_len]
  simp [kwUnit, kwInc, kwAx]
  simp at h7
  omega
/-! ### Reading -/
def u0 : Un := ⟨⟨#[]⟩, [], [], ⟨#[]⟩⟩
def kwU : List UInt8 := [117, 110, 105, 116]
def kwI : List UInt8 := [105, 110, 99, 108, 117, 100, 101]
def kwA : List UInt8 := [97, 120, 105, 111, 109]
def kwG : List UInt8 := [103, 111, 97, 108]
def Un.putN (u : Un) (r : List UInt8) : Un := { u with name := baL r }
def Un.putI (u : Un) (r : List UInt8) : Un := { u with incs := u.incs ++ [baL r] }
def Un.putA (u : Un) (r : List UInt8) : Un := { u with axs := u.axs ++ [baL r] }
def Un.putG (u : Un) (r : List UInt8) : Un := { u with goal := baL r }
/-- The program's step. -/
def stI (u : Un) (line : List UInt8) : Un :=
  if (cut1 line 32).1 = kwU then u.putN (cut1 line 32).2.1 else if (cut1 line 32).1 = kwI then u.putI (cut1 line 32).2.1 else
  if (cut1 line 32).1 = kwA then u.putA (cut1 line 32).2.1 else if (cut1 line 32).1 = kwG then u.putG (cut1 line 32).2.1 else u
/-- The reference's. -/
def aft (k line : List UInt8) : Bool := k.isPrefixOf line
def onA (k : List UInt8) (f : Un → List UInt8 → Un) (u : Un) (line : List UInt8) : Un := if aft k line then f u (line.drop k.length) else u
def stS (u : Un) (line : List UInt8) : Un := onA kwGoal Un.putG (onA kwAx Un.putA (onA kwInc Un.putI (onA kwUnit Un.putN u line) line) line) line
theorem splitF_line (L : List UInt8) : ∀ a : List UInt8, NoNl a → splitF (a ++ 10 :: L) 10 = a :: splitF L 10
  | [], _ => by rw [List.nil_append, splitF_cons, if_pos (by decide)]
  | c :: a, h => by
    have h1 : (c == (10 : UInt8)) = false := beq_eq_false_iff_ne.2 (h c (List.mem_cons_self ..))
    rw [List.cons_append, splitF_cons, h1, if_neg (by decide), splitF_line L a (fun x hx => h x (List.mem_cons_of_mem _ hx))]
theorem fold_lines {σ : Type} (st : σ → List UInt8 → σ) (k rest : List UInt8) (hk : NoNl k) : ∀ (us : List ByteArray) (s : σ), (∀ x ∈ us, NoNl x.data.toList) → (splitF (linesU k us ++ rest) 10).foldl st s = (splitF rest 10).foldl st (us.foldl (fun s x => st s (k ++ x.data.toList)) s)
  | [], s, _ => by simp [linesU]
  | a :: us, s, h => by
    have e : linesU k (a :: us) ++ rest = (k ++ a.data.toList) ++ 10 :: (linesU k us ++ rest) := by simp [linesU, lineU]
    rw [e, splitF_line _ _ (hk.app (h a (List.mem_cons_self ..))), List.foldl_cons, fold_lines st k rest hk us _ (fun x hx => h x (List.mem_cons_of_mem _ hx)), List.foldl_cons]
/-- A step that reads what is written. -/
structure Reads (st : Un → List UInt8 → Un) : Prop where
  n : ∀ u r, st u (kwUnit ++ r) = u.putN r
  i : ∀ u r, st u (kwInc ++ r) = u.putI r
  a : ∀ u r, st u (kwAx ++ r) = u.putA r
  g : ∀ u r, st u (kwGoal ++ r) = u.putG r
  z : ∀ u, st u [] = u
theorem Reads.incs {st : Un → List UInt8 → Un} (h : Reads st) : ∀ (us : List ByteArray) (u : Un), us.foldl (fun s x => st s (kwInc ++ x.data.toList)) u = { u with incs := u.incs ++ us }
  | [], u => by simp
  | a :: us, u => by rw [List.foldl_cons, h.i, h.incs us, Un.putI, baL_of]; simp
theorem Reads.axs {st : Un → List UInt8 → Un} (h : Reads st) : ∀ (us : List ByteArray) (u : Un), us.foldl (fun s x => st s (kwAx ++ x.data.toList)) u = { u with axs := u.axs ++ us }
  | [], u => by simp
  | a :: us, u => by rw [List.foldl_cons, h.a, h.axs us, Un.putA, baL_of]; simp
theorem Reads.back {st : Un → List UInt8 → Un} (h : Reads st) {u : Un} (hg : u.good = true) : (splitF u.txt 10).foldl st u0 = u := by
  have hp := u.good_parts hg
  have e : u.txt = linesU kwUnit [u.name] ++ (linesU kwInc u.incs ++ (linesU kwAx u.axs ++ (if u.goal.toList == [] then [] else lineU kwGoal u.goal))) := by
    rw [Un.txt]; simp [linesU, List.append_assoc]
  rw [e, fold_lines st _ _ (by decide) _ _ (by intro x hx; rw [List.mem_singleton] at hx; subst hx; exact hp.name.1), fold_lines st _ _ (by decide) _ _ (fun x hx => (hp.incs x hx).1), fold_lines st _ _ (by decide) _ _ (fun x hx => (hp.axs x hx).1), h.incs, h.axs, List.foldl_cons, List.foldl_nil, h.n]
  have ht : u.goal.toList = u.goal.data.toList := ByteArray.toList_eq u.goal
  by_cases hz : u.goal.toList = []
  · rw [if_pos (by rw [hz]; rfl)]
    have : splitF ([] : List UInt8) 10 = [[]] := rfl
    rw [this, List.foldl_cons, List.foldl_nil, h.z]
    have hz2 : u.goal = ⟨#[]⟩ := by apply ByteArray.ext; apply Array.toList_inj.1; rw [← ht, hz]
    obtain ⟨a, b, c, d⟩ := u
    simp only at hz2
    subst hz2
    simp [Un.putN, baL_of, u0]
  · rw [if_neg (by simpa using hz)]
    have e2 : lineU kwGoal u.goal = (kwGoal ++ u.goal.data.toList) ++ 10 :: [] := rfl
    rw [e2, splitF_line _ _ (NoNl.app (by decide) hp.goal.1)]
    have : splitF ([] : List UInt8) 10 = [[]] := rfl
    rw [this, List.foldl_cons, List.foldl_cons, List.foldl_nil, h.z, h.g]
    obtain ⟨a, b, c, d⟩ := u
    simp [Un.putN, Un.putG, baL_of, u0]
theorem stI_reads : Reads stI := by
  refine ⟨fun u r => ?_, fun u r => ?_, fun u r => ?_, fun u r => ?_, fun u => rfl⟩
  · rw [stI, show kwUnit ++ r = kwU ++ 32 :: r from rfl, cut1_yes _ _ _ (by decide)]; exact if_pos rfl
  · rw [stI, show kwInc ++ r = kwI ++ 32 :: r from rfl, cut1_yes _ _ _ (by decide)]
    exact (if_neg (show ¬ kwI = kwU by decide)).trans (if_pos rfl)
  · rw [stI, show kwAx ++ r = kwA ++ 32 :: r from rfl, cut1_yes _ _ _ (by decide)]
    exact (if_neg (show ¬ kwA = kwU by decide)).trans ((if_neg (show ¬ kwA = kwI by decide)).trans (if_pos rfl))
  · rw [stI, show kwGoal ++ r = kwG ++ 32 :: r from rfl, cut1_yes _ _ _ (by decide)]
    exact (if_neg (show ¬ kwG = kwU by decide)).trans ((if_neg (show ¬ kwG = kwI by decide)).trans ((if_neg (show ¬ kwG = kwA by decide)).trans (if_pos rfl)))
theorem stS_reads : Reads stS := by
  refine ⟨fun u r => ?_, fun u r => ?_, fun u r => ?_, fun u r => ?_, fun u => rfl⟩ <;>
    simp [stS, onA, aft, kwUnit, kwInc, kwAx, kwGoal, List.isPrefixOf]
/-! ### Weights -/
def lsum : List (List UInt8) → Nat | [] => 0 | l :: ls => (l.length + 1) + lsum ls
theorem lsum_take : ∀ (ls : List (List UInt8)) (n : Nat), lsum (ls.take n) ≤ lsum ls
  | [], n => by simp [lsum]
  | l :: ls, 0 => by simp [lsum]
  | l :: ls, n + 1 => by have := lsum_take ls n; rw [List.take_succ_cons, lsum, lsum]; omega
theorem lsum_mem : ∀ {ls : List (List UInt8)} {l : List UInt8}, l ∈ ls → l.length + 1 ≤ lsum ls
  | [], _, h => by cases h
  | m :: ls, l, h => by
    rw [lsum]
    rcases List.mem_cons.1 h with rfl | h
    · omega
    · have := lsum_mem h; omega
theorem lsum_split (b : UInt8) : ∀ l : List UInt8, lsum (splitF l b) = l.length + 1
  | [] => rfl
  | x :: l => by
    have ih := lsum_split b l
    rw [splitF_cons]
    split
    · rw [lsum, ih]; simp; omega
    · cases hs : splitF l b with
      | nil => have := splitF_ne l b; rw [hs] at this; simp at this
      | cons p ps => rw [hs, lsum] at ih; rw [lsum]; simp only [List.length_cons]; omega
theorem wtS_snoc : ∀ (us : List ByteArray) (a : ByteArray), wtS (us ++ [a]) = wtS us + a.size
  | [], a => by simp [wtS]
  | b :: us, a => by rw [List.cons_append, wtS, wtS, wtS_snoc us a]; omega
theorem wt_putN (u : Un) (r : List UInt8) : (u.putN r).wt ≤ u.wt + (r.length + 1) := by simp only [Un.putN, Un.wt, baL_size]; omega
theorem wt_putG (u : Un) (r : List UInt8) : (u.putG r).wt ≤ u.wt + (r.length + 1) := by simp only [Un.putG, Un.wt, baL_size]; omega
theorem wt_putI (u : Un) (r : List UInt8) : (u.putI r).wt ≤ u.wt + (r.length + 1) := by simp only [Un.putI, Un.wt, wtS_snoc, baL_size, List.length_append, List.length_cons, List.length_nil]; omega
theorem wt_putA (u : Un) (r : List UInt8) : (u.putA r).wt ≤ u.wt + (r.length + 1) := by simp only [Un.putA, Un.wt, wtS_snoc, baL_size, List.length_append, List.length_cons, List.length_nil]; omega
theorem cut1_le (b : UInt8) : ∀ l : List UInt8, (cut1 l b).1.length ≤ l.length ∧ (cut1 l b).2.1.length ≤ l.length
  | [] => by simp [cut1]
  | x :: l => by
    have := cut1_le b l
    rw [cut1]; split
    · simp
    · simp only [List.length_cons]; omega
theorem stI_wt (u : Un) (l : List UInt8) : (stI u l).wt ≤ u.wt + 1 * (l.length + 1) := by
  have h := (cut1_le 32 l).2
  rw [stI]
  split
  · have := wt_putN u (cut1 l 32).2.1; omega
  split
  · have := wt_putI u (cut1 l 32).2.1; omega
  split
  · have := wt_putA u (cut1 l 32).2.1; omega
  split
  · have := wt_putG u (cut1 l 32).2.1; omega
  · omega
theorem onA_wt {k : List UInt8} {f : Un → List UInt8 → Un} (hf : ∀ u r, (f u r).wt ≤ u.wt + (r.length + 1)) (u : Un) (l : List UInt8) : (onA k f u l).wt ≤ u.wt + (l.length + 1) := by
  rw [onA]; split
  · have := hf u (l.drop k.length); rw [List.length_drop] at this; omega
  · omega
theorem stS_wt (u : Un) (l : List UInt8) : (stS u l).wt ≤ u.wt + 4 * (l.length + 1) := by
  have h1 := onA_wt (k := kwUnit) wt_putN u l
  have h2 := onA_wt (k := kwInc) wt_putI (onA kwUnit Un.putN u l) l
  have h3 := onA_wt (k := kwAx) wt_putA (onA kwInc Un.putI (onA kwUnit Un.putN u l) l) l
  have h4 := onA_wt (k := kwGoal) wt_putG (onA kwAx Un.putA (onA kwInc Un.putI (onA kwUnit Un.putN u l) l) l) l
  rw [stS]; omega
theorem fold_wt {st : Un → List UInt8 → Un} {c : Nat} (h : ∀ u l, (st u l).wt ≤ u.wt + c * (l.length + 1)) : ∀ (ls : List (List UInt8)) (u : Un), (ls.foldl st u).wt ≤ u.wt + c * lsum ls
  | [], u => by simp [lsum]
  | l :: ls, u => by
    have h1 := fold_wt h ls (st u l)
    have h2 := h u l
    rw [List.foldl_cons, lsum, Nat.mul_add]; omega
theorem parI_wt (L : List UInt8) (n : Nat) : (((splitF L 10).take n).foldl stI u0).wt ≤ L.length + 1 := by
  have h1 := fold_wt stI_wt ((splitF L 10).take n) u0
  have h2 := lsum_take (splitF L 10) n
  rw [lsum_split] at h2
  have h3 : u0.wt = 0 := rfl
  omega
theorem parS_wt (L : List UInt8) (n : Nat) : (((splitF L 10).take n).foldl stS u0).wt ≤ 4 * (L.length + 1) := by
  have h1 := fold_wt stS_wt ((splitF L 10).take n) u0
  have h2 := lsum_take (splitF L 10) n
  rw [lsum_split] at h2
  have h3 : u0.wt = 0 := rfl
  omega
/-- A unit's texts are no longer than its weight. -/
theorem wt_sizes {u : Un} {m : Nat} (h : u.wt ≤ m) : u.name.size ≤ m ∧ u.goal.size ≤ m ∧ (∀ s ∈ u.incs, s.size ≤ m) ∧ (∀ s ∈ u.axs, s.size ≤ m) ∧ u.incs.length ≤ m ∧ u.axs.length ≤ m := by
  rw [Un.wt] at h
  refine ⟨by omega, by omega, fun s hs => ?_, fun s hs => ?_, by omega, by omega⟩
  · have := wtS_le u.incs s hs; omega
  · have := wtS_le u.axs s hs; omega
theorem take_fold {σ α : Type} (st : σ → α → σ) (s : σ) {ls : List α} {n : Nat} (h : n < ls.length) : (ls.take (n + 1)).foldl st s = st ((ls.take n).foldl st s) ls[n] := by
  rw [List.take_succ_eq_append_getElem h, List.foldl_append]; rfl
def parI (L : List UInt8) : Un := (splitF L 10).foldl stI u0
def parS (L : List UInt8) : Un := (splitF L 10).foldl stS u0
def puOk (L : List UInt8) : Bool := (parI L).good && (parI L).txt == L
def puV (L : List UInt8) : Un := if puOk L then parI L else u0
theorem puOk_parts {L : List UInt8} (h : puOk L = true) : (parI L).good = true ∧ (parI L).txt = L := by rw [puOk, Bool.and_eq_true] at h; exact ⟨h.1, beq_iff_eq.1 h.2⟩
theorem puS_eq (L : List UInt8) : ((parS L).good && (parS L).txt == L) = puOk L := by
  rw [Bool.eq_iff_iff, puOk, Bool.and_eq_true, Bool.and_eq_true, beq_iff_eq, beq_iff_eq]
  constructor
  · rintro ⟨h1, h2⟩
    have : parI L = parS L := by have := stI_reads.back h1; rwa [h2] at this
    rw [this]; exact ⟨h1, h2⟩
  · rintro ⟨h1, h2⟩
    have : parS L = parI L := by have := stS_reads.back h1; rwa [h2] at this
    rw [this]; exact ⟨h1, h2⟩
theorem puS_same {L : List UInt8} (h : puOk L = true) : parS L = parI L := by
  obtain ⟨h1, h2⟩ := puOk_parts h
  have := stS_reads.back h1; rwa [h2] at this
theorem pu_long {L : List UInt8} (h : 4000 < L.length) : puOk L = false := by
  cases he : puOk L with
  | false => rfl
  | true =>
    obtain ⟨h1, h2⟩ := puOk_parts he
    have := txt_size h1
    rw [h2] at this; omega
end Go.Proofs.YtkgfanajgdelcaaGreatDoor
namespace Go.Proofs.YtkgfanajgdelcaaGreatDoor
open Go.RowKit
theorem wtS_put (l : List ByteArray) (x : ByteArray) (k : Nat) : wtS (l.take k ++ x :: l.drop k) ≤ wtS l + x.size := by
  have app : ∀ a b : List ByteArray, wtS (a ++ b) = wtS a + wtS b := fun a b => by
    induction a with
    | nil => simp [wtS]
    | cons x a ih => rw [List.cons_append, wtS, ih, wtS]; omega
  have e := congrArg wtS (List.take_append_drop k l)
  rw [app] at e
  rw [app, wtS]; omega
set_option maxRecDepth 100000 in
set_option maxHeartbeats 6400000 in
theorem l2Put_gen (base : Nat) (l : List ByteArray) (v : Value) (x : ByteArray) (w : World) (h : w.ownsRow base 9 1 v l.length (strW l)) (hbs : base ≤ w.heap.size) (hl : l.length ≤ 1000000) :
    Calls Tryz.prog 79 #[v, .string x] w fun e w' => ∃ (l' : List ByteArray) (v' : Value), e = .returned v' ∧ w'.ownsRow base 9 1 v' l'.length (strW l') ∧ l'.length ≤ l.length + 1 ∧ wtS l' ≤ wtS l + x.size ∧ Below w.heap.size w w' := by
  have H := Lib.hid h
  have HBS := Lib.hid hbs
  rcases h.2 with ⟨rfl, h0⟩ | ⟨g, c, cur, rfl, -, -, hnc, -⟩
  · obtain rfl : l = [] := List.eq_nil_of_length_eq_zero h0
    clear h hbs
    go_enter Tryz.func79, Tryz.ntmps79
    go_wp2
    go_loopw [5] (fun i wr => i = .int .i64 ((0 : Nat) : Int) ∧ wr = w) (fun _ _ => 0)
    case atStart => exact ⟨rfl, rfl⟩
    case round =>
      obtain ⟨rfl, rfl⟩ := hrel
      go_wp2
      refine wp_region_any3 [none, some (.slice none 0 0), some (.int .i64 (0 : Nat)), some (.slice none 0 0), none, some (.string x), none, none, some (.slice none 0 0), some (.int .i64 (0 : Nat)), some (.slice none 0 0), none, none] (InsD 9 1 wr 0 (0 + 1) ([]) ([]) (#[.string x])) (by kernel_rfl) (by kernel_rfl) (fun L hL => InsD.start hL) ?_
      refine flowV_ch rfl rfl (by intro u' hu' L w' hun hbe hD; go_simp; exact hD.b0 hun) ?_
      intro x0
      go_simp
      refine flowV_st rfl rfl (by intro u' L w' hun hbe hD; go_simp; first | exact ⟨hD.other 1 (by decide), rfl⟩ | exact hD.other 1 (by decide)) ?_
      go_simp
      refine flowV_st rfl rfl (by intro u' L w' hun hbe hD; go_simp; first | exact ⟨hD.other 2 (by decide), rfl⟩ | exact hD.other 2 (by decide)) ?_
      go_simp
      refine flowV_st rfl rfl (by intro u' L w' hun hbe hD; go_simp; first | exact ⟨hD.other 3 (by decide), rfl⟩ | exact hD.other 3 (by decide)) ?_
      go_simp
      refine flowV_ch rfl rfl ?_ ?_
      · intro u' hu' L w' hun hbe hD
        have hu0 : u' 0 = x0 := (after_eq hu' (by kernel_rfl)).trans (by simp [upd])
        have h0 := after_behind hbe (p := 0) (by kernel_rfl)
        have hw := hD.bel
        refine each_app (.tmp 33) (.tmp 36) 26 rfl wr.heap.size 9 1 16 elemStr (u' 0) 0 [] (by rw [hu0]; rfl) _ 0 ([]) rfl ((.inl ⟨rfl, rfl, rfl⟩)) (hD.r0 h0 (getD_tf hun)) (by simp) (by omega) (by unfold maxLen; omega) hw.size ?_
        intro v' w2 hr hg hn
        exact hD.a4 hun h0 hr hg hn
      intro x4
      go_simp
      refine flowV_st rfl rfl (by intro u' L w' hun hbe hD; have hw := hD.bel; go_simp; first | exact ⟨hD.other 5 (by decide), rfl⟩ | exact hD.other 5 (by decide)) ?_
      go_simp
      refine flowV_ch rfl rfl (by intro u' hu' L w' hun hbe hD; go_simp; exact hD.b6 hun) ?_
      intro x6
      go_simp
      refine flowV_ch rfl rfl ?_ ?_
      · intro u' hu' L w' hun hbe hD
        have hu4 : u' 4 = x4 := (after_eq hu' (by kernel_rfl)).trans (by simp [upd])
        have hu6 : u' 6 = x6 := (after_eq hu' (by kernel_rfl)).trans (by simp [upd])
        have h4 := after_behind hbe (p := 4) (by kernel_rfl)
        have h6 := after_behind hbe (p := 6) (by kernel_rfl)
        have hw := hD.bel
        obtain ⟨q, hq, hqc, -, -⟩ := hD.r6 h6 (getD_tf hun)
        refine each_app (.tmp 37) (.tmp 39) 26 rfl wr.heap.size 9 1 16 elemStr (u' 4) 0 ([]) (by rw [hu4]; rfl) (.slice (some ⟨q, 0, none⟩) 1 1) 1 (#[.string x]).toList (by rw [← hq, hu6]; rfl) (src_block hqc (by simp)) (hD.r4 h4 (getD_tf hun)) (by simp [Value.oneCell']) (by omega) (by unfold maxLen; omega) hw.size ?_
        intro v' w2 hr hg hn
        exact hD.a7 hun h4 h6 hr hg
      intro x7
      go_simp
      refine flowV_st rfl rfl (by intro u' L w' hun hbe hD; go_simp; first | exact ⟨hD.other 8 (by decide), rfl⟩ | exact hD.other 8 (by decide)) ?_
      go_simp
      refine flowV_st rfl rfl (by intro u' L w' hun hbe hD; go_simp; first | exact ⟨hD.other 9 (by decide), rfl⟩ | exact hD.other 9 (by decide)) ?_
      go_simp
      refine flowV_st rfl rfl (by intro u' L w' hun hbe hD; go_simp; first | exact ⟨hD.other 10 (by decide), rfl⟩ | exact hD.other 10 (by decide)) ?_
      go_simp
      refine flowV_ch rfl rfl ?_ ?_
      · intro u' hu' L w' hun hbe hD
        have hu7 : u' 7 = x7 := (after_eq hu' (by kernel_rfl)).trans (by simp [upd])
        have h7 := after_behind hbe (p := 7) (by kernel_rfl)
        have hw := hD.bel
        refine each_app (.tmp 40) (.tmp 43) 26 rfl wr.heap.size 9 1 16 elemStr (u' 7) (0 + 1) (([]) ++ (#[.string x]).toList) (by rw [hu7]; rfl) _ ((0 + 1) - (0 + 1)) ([]) rfl ((.inl ⟨rfl, by simp, rfl⟩)) (hD.r7 h7 (getD_tf hun)) (by simp) (by omega) (by unfold maxLen; omega) hw.size ?_
        intro v' w2 hr hg hn
        rw [show 0 + 1 + ((0 + 1) - (0 + 1)) = (0 + 1) by omega] at hr
        exact hD.a11 hun h7 hr hg
      intro x11
      go_simp
      refine flowV_ch rfl rfl ?_ ?_
      · intro u' hu' L w' hun hbe hD
        have hu11 : u' 11 = x11 := (after_eq hu' (by kernel_rfl)).trans (by simp [upd])
        have h11 := after_behind hbe (p := 11) (by kernel_rfl)
        go_simp
        rw [← hu11]
        exact hD.m12 hun h11
      intro x12
      go_simp
      refine flowV_nil ?_
      intro L w3 hL hD
      have hx12 : x12 = x11 := by have := hD.r12 (by simpa using hL 12 (by simp)); simpa [upd] using this
      have hrow : w3.ownsRow wr.heap.size 9 1 x11 (0 + 1) (([]) ++ (#[.string x]).toList ++ ([])) := by have := hD.r11 (by simpa using hL 11 (by simp)); simpa [upd] using this
      have hbel3 := hD.bel
      subst hx12
      go_wp2
      refine bodyPost_ret (v := x12) (by simp only [results, Tryz.results79]; go_simp) rfl ⟨[x], _, rfl, ?_, by simp, by simp [wtS], hbel3⟩
      have := own_lower hrow HBS.out
      simpa [strW] using this
  · have hg := bsz (own_lt h)
    have hci : l.length ≤ c := hnc
    clear h hbs
    go_enter Tryz.func79, Tryz.ntmps79
    go_wp2
    go_loopw [5] (PutRel l x w) (fun i _ => l.length - (intOf i).toNat)
    case atStart => exact ⟨0, Nat.zero_le _, rfl, by simp, rfl⟩
    case round =>
      obtain ⟨k, hk, rfl, hle, rfl⟩ := hrel
      have HLE := Lib.hid hle
      clear hle
      by_cases hlt : k < l.length
      · have c0 : wr.cell? ⟨g, k, none⟩ = some (.string l[k]) := by rw [H.out.cellAt k (by omega), strW, List.getElem?_map, List.getElem?_eq_getElem hlt]; rfl
        have HK := Lib.hid (List.take_succ_eq_append_getElem hlt)
        obtain ⟨y, hy⟩ : ∃ y, l[k] = y := ⟨_, rfl⟩
        rw [hy] at c0 HK
        have HY := Lib.hid hy
        have hki : (k : Int) < l.length := by omega
        have hkc : (k : Int) ≤ c := by omega
        have hkc2 : k ≤ c := by omega
        have hlc : (l.length : Int) ≤ c := by omega
        have hkl : (k : Int) ≤ l.length := by omega
        have hck : c ≠ k := by omega
        clear hy
        have hll : Op.bytesLess y.toList x.toList = lessB y x := by rw [lessB, ByteArray.toList_eq, ByteArray.toList_eq]
        cases hL : lessB y x
        · rw [hL] at hll
          have HL := Lib.hid hL
          clear hL
          cases hE : (y.toList == x.toList)
          case true =>
            go_wp2
            refine bodyPost_ret (v := .slice (some ⟨g, 0, none⟩) l.length c) (by simp only [results, Tryz.results79]; go_simp) rfl ⟨l, _, rfl, ?_, by omega, by omega, by exact bel⟩
            exact own_below H.out (by exact bel)
          go_wp2
          refine wp_region_any3 [none, some (.slice (some ⟨g, 0, none⟩) l.length c), some (.int .i64 (k : Nat)), some (.slice (some ⟨g, 0, none⟩) k c), none, some (.string x), none, none, some (.slice (some ⟨g, 0, none⟩) l.length c), some (.int .i64 (k : Nat)), some (.slice (some ⟨g, k, none⟩) (l.length - k) (c - k)), none, none] (InsD 9 1 wr k (l.length + 1) (strW (l.take k)) (strW (l.drop k)) (#[.string x])) (by kernel_rfl) (by kernel_rfl) (fun L hL => InsD.start hL) ?_
          refine flowV_ch rfl rfl (by intro u' hu' L w' hun hbe hD; go_simp; exact hD.b0 hun) ?_
          intro x0
          go_simp
          refine flowV_st rfl rfl (by intro u' L w' hun hbe hD; go_simp; first | exact ⟨hD.other 1 (by decide), rfl⟩ | exact hD.other 1 (by decide)) ?_
          go_simp
          refine flowV_st rfl rfl (by intro u' L w' hun hbe hD; go_simp; first | exact ⟨hD.other 2 (by decide), rfl⟩ | exact hD.other 2 (by decide)) ?_
          go_simp
          refine flowV_st rfl rfl (by intro u' L w' hun hbe hD; go_simp; first | exact ⟨hD.other 3 (by decide), rfl⟩ | exact hD.other 3 (by decide)) ?_
          go_simp
          refine flowV_ch rfl rfl ?_ ?_
          · intro u' hu' L w' hun hbe hD
            have hu0 : u' 0 = x0 := (after_eq hu' (by kernel_rfl)).trans (by simp [upd])
            have h0 := after_behind hbe (p := 0) (by kernel_rfl)
            have hw := hD.bel
            refine each_app (.tmp 33) (.tmp 36) 26 rfl wr.heap.size 9 1 16 elemStr (u' 0) 0 [] (by rw [hu0]; rfl) _ k (strW (l.take k)) rfl ((srcS_head H.out (Nat.le_of_lt hlt) c).below hw) (hD.r0 h0 (getD_tf hun)) (by first | exact strW_cell _ | simp) (by omega) (by unfold maxLen; omega) hw.size ?_
            intro v' w2 hr hg hn
            exact hD.a4 hun h0 hr hg hn
          intro x4
          go_simp
          refine flowV_st rfl rfl (by intro u' L w' hun hbe hD; have hw := hD.bel; go_simp; first | exact ⟨hD.other 5 (by decide), rfl⟩ | exact hD.other 5 (by decide)) ?_
          go_simp
          refine flowV_ch rfl rfl (by intro u' hu' L w' hun hbe hD; go_simp; exact hD.b6 hun) ?_
          intro x6
          go_simp
          refine flowV_ch rfl rfl ?_ ?_
          · intro u' hu' L w' hun hbe hD
            have hu4 : u' 4 = x4 := (after_eq hu' (by kernel_rfl)).trans (by simp [upd])
            have hu6 : u' 6 = x6 := (after_eq hu' (by kernel_rfl)).trans (by simp [upd])
            have h4 := after_behind hbe (p := 4) (by kernel_rfl)
            have h6 := after_behind hbe (p := 6) (by kernel_rfl)
            have hw := hD.bel
            obtain ⟨q, hq, hqc, -, -⟩ := hD.r6 h6 (getD_tf hun)
            refine each_app (.tmp 37) (.tmp 39) 26 rfl wr.heap.size 9 1 16 elemStr (u' 4) k (strW (l.take k)) (by rw [hu4]; rfl) (.slice (some ⟨q, 0, none⟩) 1 1) 1 (#[.string x]).toList (by rw [← hq, hu6]; rfl) (src_block hqc (by simp)) (hD.r4 h4 (getD_tf hun)) (by simp [Value.oneCell']) (by omega) (by unfold maxLen; omega) hw.size ?_
            intro v' w2 hr hg hn
            exact hD.a7 hun h4 h6 hr hg
          intro x7
          go_simp
          refine flowV_st rfl rfl (by intro u' L w' hun hbe hD; go_simp; first | exact ⟨hD.other 8 (by decide), rfl⟩ | exact hD.other 8 (by decide)) ?_
          go_simp
          refine flowV_st rfl rfl (by intro u' L w' hun hbe hD; go_simp; first | exact ⟨hD.other 9 (by decide), rfl⟩ | exact hD.other 9 (by decide)) ?_
          go_simp
          refine flowV_st rfl rfl (by intro u' L w' hun hbe hD; go_simp; first | exact ⟨hD.other 10 (by decide), rfl⟩ | exact hD.other 10 (by decide)) ?_
          go_simp
          refine flowV_ch rfl rfl ?_ ?_
          · intro u' hu' L w' hun hbe hD
            have hu7 : u' 7 = x7 := (after_eq hu' (by kernel_rfl)).trans (by simp [upd])
            have h7 := after_behind hbe (p := 7) (by kernel_rfl)
            have hw := hD.bel
            refine each_app (.tmp 40) (.tmp 43) 26 rfl wr.heap.size 9 1 16 elemStr (u' 7) (k + 1) ((strW (l.take k)) ++ (#[.string x]).toList) (by rw [hu7]; rfl) _ ((l.length + 1) - (k + 1)) (strW (l.drop k)) rfl (srcS_tail' H.out (Nat.le_of_lt hlt) (c - k) (by omega) hw) (hD.r7 h7 (getD_tf hun)) (by first | exact strW_cell _ | simp) (by omega) (by unfold maxLen; omega) hw.size ?_
            intro v' w2 hr hg hn
            rw [show k + 1 + ((l.length + 1) - (k + 1)) = (l.length + 1) by omega] at hr
            exact hD.a11 hun h7 hr hg
          intro x11
          go_simp
          refine flowV_ch rfl rfl ?_ ?_
          · intro u' hu' L w' hun hbe hD
            have hu11 : u' 11 = x11 := (after_eq hu' (by kernel_rfl)).trans (by simp [upd])
            have h11 := after_behind hbe (p := 11) (by kernel_rfl)
            go_simp
            rw [← hu11]
            exact hD.m12 hun h11
          intro x12
          go_simp
          refine flowV_nil ?_
          intro L w3 hL hD
          have hx12 : x12 = x11 := by have := hD.r12 (by simpa using hL 12 (by simp)); simpa [upd] using this
          have hrow : w3.ownsRow wr.heap.size 9 1 x11 (l.length + 1) ((strW (l.take k)) ++ (#[.string x]).toList ++ (strW (l.drop k))) := by have := hD.r11 (by simpa using hL 11 (by simp)); simpa [upd] using this
          have hbel3 := hD.bel
          subst hx12
          go_wp2
          refine bodyPost_ret (v := x12) (by simp only [results, Tryz.results79]; go_simp) rfl ⟨l.take k ++ x :: l.drop k, _, rfl, ?_, by simp; omega, wtS_put l x k, hbel3⟩
          have e : (l.take k ++ x :: l.drop k).length = l.length + 1 := by simp; omega
          have := own_lower hrow HBS.out
          rw [e, strW_app, strW_cons]
          simpa using this
        · rw [hL] at hll
          have HL := Lib.hid hL
          clear hL
          go_wp2
          refine ⟨⟨k + 1, by omega, by go_num, fun z hz => ?_, rfl⟩, by simp [intOf]; omega⟩
          rw [HK.out] at hz
          rcases List.mem_append.1 hz with hz | hz
          · exact HLE.out z hz
          · obtain rfl : z = y := by simpa using hz
            exact HL.out
      · obtain rfl : k = l.length := by omega
        have hkl : (l.length : Int) ≤ c := by omega
        have hkn : ¬ (l.length : Int) < l.length := by omega
        by_cases hcl : c = l.length
        · subst hcl
          go_wp2
          refine wp_region_any3 [none, some (.slice (some ⟨g, 0, none⟩) l.length l.length), some (.int .i64 (l.length : Nat)), some (.slice (some ⟨g, 0, none⟩) l.length l.length), none, some (.string x), none, none, some (.slice (some ⟨g, 0, none⟩) l.length l.length), some (.int .i64 (l.length : Nat)), some (.slice (some ⟨g, 0, none⟩) 0 0), none, none] (InsD 9 1 wr l.length (l.length + 1) (strW l) ([]) (#[.string x])) (by kernel_rfl) (by kernel_rfl) (fun L hL => InsD.start hL) ?_
          refine flowV_ch rfl rfl (by intro u' hu' L w' hun hbe hD; go_simp; exact hD.b0 hun) ?_
          intro x0
          go_simp
          refine flowV_st rfl rfl (by intro u' L w' hun hbe hD; go_simp; first | exact ⟨hD.other 1 (by decide), rfl⟩ | exact hD.other 1 (by decide)) ?_
          go_simp
          refine flowV_st rfl rfl (by intro u' L w' hun hbe hD; go_simp; first | exact ⟨hD.other 2 (by decide), rfl⟩ | exact hD.other 2 (by decide)) ?_
          go_simp
          refine flowV_st rfl rfl (by intro u' L w' hun hbe hD; go_simp; first | exact ⟨hD.other 3 (by decide), rfl⟩ | exact hD.other 3 (by decide)) ?_
          go_simp
          refine flowV_ch rfl rfl ?_ ?_
          · intro u' hu' L w' hun hbe hD
            have hu0 : u' 0 = x0 := (after_eq hu' (by kernel_rfl)).trans (by simp [upd])
            have h0 := after_behind hbe (p := 0) (by kernel_rfl)
            have hw := hD.bel
            refine each_app (.tmp 33) (.tmp 36) 26 rfl wr.heap.size 9 1 16 elemStr (u' 0) 0 [] (by rw [hu0]; rfl) _ l.length (strW l) rfl ((src_all H.out).below hw) (hD.r0 h0 (getD_tf hun)) (by first | exact strW_cell _ | simp) (by omega) (by unfold maxLen; omega) hw.size ?_
            intro v' w2 hr hg hn
            exact hD.a4 hun h0 hr hg hn
          intro x4
          go_simp
          refine flowV_st rfl rfl (by intro u' L w' hun hbe hD; have hw := hD.bel; go_simp; first | exact ⟨hD.other 5 (by decide), rfl⟩ | exact hD.other 5 (by decide)) ?_
          go_simp
          refine flowV_ch rfl rfl (by intro u' hu' L w' hun hbe hD; go_simp; exact hD.b6 hun) ?_
          intro x6
          go_simp
          refine flowV_ch rfl rfl ?_ ?_
          · intro u' hu' L w' hun hbe hD
            have hu4 : u' 4 = x4 := (after_eq hu' (by kernel_rfl)).trans (by simp [upd])
            have hu6 : u' 6 = x6 := (after_eq hu' (by kernel_rfl)).trans (by simp [upd])
            have h4 := after_behind hbe (p := 4) (by kernel_rfl)
            have h6 := after_behind hbe (p := 6) (by kernel_rfl)
            have hw := hD.bel
            obtain ⟨q, hq, hqc, -, -⟩ := hD.r6 h6 (getD_tf hun)
            refine each_app (.tmp 37) (.tmp 39) 26 rfl wr.heap.size 9 1 16 elemStr (u' 4) l.length (strW l) (by rw [hu4]; rfl) (.slice (some ⟨q, 0, none⟩) 1 1) 1 (#[.string x]).toList (by rw [← hq, hu6]; rfl) (src_block hqc (by simp)) (hD.r4 h4 (getD_tf hun)) (by simp [Value.oneCell']) (by omega) (by unfold maxLen; omega) hw.size ?_
            intro v' w2 hr hg hn
            exact hD.a7 hun h4 h6 hr hg
          intro x7
          go_simp
          refine flowV_st rfl rfl (by intro u' L w' hun hbe hD; go_simp; first | exact ⟨hD.other 8 (by decide), rfl⟩ | exact hD.other 8 (by decide)) ?_
          go_simp
          refine flowV_st rfl rfl (by intro u' L w' hun hbe hD; go_simp; first | exact ⟨hD.other 9 (by decide), rfl⟩ | exact hD.other 9 (by decide)) ?_
          go_simp
          refine flowV_st rfl rfl (by intro u' L w' hun hbe hD; go_simp; first | exact ⟨hD.other 10 (by decide), rfl⟩ | exact hD.other 10 (by decide)) ?_
          go_simp
          refine flowV_ch rfl rfl ?_ ?_
          · intro u' hu' L w' hun hbe hD
            have hu7 : u' 7 = x7 := (after_eq hu' (by kernel_rfl)).trans (by simp [upd])
            have h7 := after_behind hbe (p := 7) (by kernel_rfl)
            have hw := hD.bel
            refine each_app (.tmp 40) (.tmp 43) 26 rfl wr.heap.size 9 1 16 elemStr (u' 7) (l.length + 1) ((strW l) ++ (#[.string x]).toList) (by rw [hu7]; rfl) _ ((l.length + 1) - (l.length + 1)) ([]) rfl (srcNil (by omega)) (hD.r7 h7 (getD_tf hun)) (by first | exact strW_cell _ | simp) (by omega) (by unfold maxLen; omega) hw.size ?_
            intro v' w2 hr hg hn
            rw [show l.length + 1 + ((l.length + 1) - (l.length + 1)) = (l.length + 1) by omega] at hr
            exact hD.a11 hun h7 hr hg
          intro x11
          go_simp
          refine flowV_ch rfl rfl ?_ ?_
          · intro u' hu' L w' hun hbe hD
            have hu11 : u' 11 = x11 := (after_eq hu' (by kernel_rfl)).trans (by simp [upd])
            have h11 := after_behind hbe (p := 11) (by kernel_rfl)
            go_simp
            rw [← hu11]
            exact hD.m12 hun h11
          intro x12
          go_simp
          refine flowV_nil ?_
          intro L w3 hL hD
          have hx12 : x12 = x11 := by have := hD.r12 (by simpa using hL 12 (by simp)); simpa [upd] using this
          have hrow : w3.ownsRow wr.heap.size 9 1 x11 (l.length + 1) ((strW l) ++ (#[.string x]).toList ++ ([])) := by have := hD.r11 (by simpa using hL 11 (by simp)); simpa [upd] using this
          have hbel3 := hD.bel
          subst hx12
          go_wp2
          refine bodyPost_ret (v := x12) (by simp only [results, Tryz.results79]; go_simp) rfl ⟨l ++ [x], _, rfl, ?_, by simp, by rw [wtS_snoc]; omega, hbel3⟩
          have := own_lower hrow HBS.out
          simpa [strW] using this
        · have hcl2 : ¬ l.length = c := fun e => hcl e.symm
          go_wp2
          refine wp_region_any3 [none, some (.slice (some ⟨g, 0, none⟩) l.length c), some (.int .i64 (l.length : Nat)), some (.slice (some ⟨g, 0, none⟩) l.length c), none, some (.string x), none, none, some (.slice (some ⟨g, 0, none⟩) l.length c), some (.int .i64 (l.length : Nat)), some (.slice (some ⟨g, l.length, none⟩) 0 (c - l.length)), none, none] (InsD 9 1 wr l.length (l.length + 1) (strW l) ([]) (#[.string x])) (by kernel_rfl) (by kernel_rfl) (fun L hL => InsD.start hL) ?_
          refine flowV_ch rfl rfl (by intro u' hu' L w' hun hbe hD; go_simp; exact hD.b0 hun) ?_
          intro x0
          go_simp
          refine flowV_st rfl rfl (by intro u' L w' hun hbe hD; go_simp; first | exact ⟨hD.other 1 (by decide), rfl⟩ | exact hD.other 1 (by decide)) ?_
          go_simp
          refine flowV_st rfl rfl (by intro u' L w' hun hbe hD; go_simp; first | exact ⟨hD.other 2 (by decide), rfl⟩ | exact hD.other 2 (by decide)) ?_
          go_simp
          refine flowV_st rfl rfl (by intro u' L w' hun hbe hD; go_simp; first | exact ⟨hD.other 3 (by decide), rfl⟩ | exact hD.other 3 (by decide)) ?_
          go_simp
          refine flowV_ch rfl rfl ?_ ?_
          · intro u' hu' L w' hun hbe hD
            have hu0 : u' 0 = x0 := (after_eq hu' (by kernel_rfl)).trans (by simp [upd])
            have h0 := after_behind hbe (p := 0) (by kernel_rfl)
            have hw := hD.bel
            refine each_app (.tmp 33) (.tmp 36) 26 rfl wr.heap.size 9 1 16 elemStr (u' 0) 0 [] (by rw [hu0]; rfl) _ l.length (strW l) rfl ((src_all H.out).below hw) (hD.r0 h0 (getD_tf hun)) (by first | exact strW_cell _ | simp) (by omega) (by unfold maxLen; omega) hw.size ?_
            intro v' w2 hr hg hn
            exact hD.a4 hun h0 hr hg hn
          intro x4
          go_simp
          refine flowV_st rfl rfl (by intro u' L w' hun hbe hD; have hw := hD.bel; go_simp; first | exact ⟨hD.other 5 (by decide), rfl⟩ | exact hD.other 5 (by decide)) ?_
          go_simp
          refine flowV_ch rfl rfl (by intro u' hu' L w' hun hbe hD; go_simp; exact hD.b6 hun) ?_
          intro x6
          go_simp
          refine flowV_ch rfl rfl ?_ ?_
          · intro u' hu' L w' hun hbe hD
            have hu4 : u' 4 = x4 := (after_eq hu' (by kernel_rfl)).trans (by simp [upd])
            have hu6 : u' 6 = x6 := (after_eq hu' (by kernel_rfl)).trans (by simp [upd])
            have h4 := after_behind hbe (p := 4) (by kernel_rfl)
            have h6 := after_behind hbe (p := 6) (by kernel_rfl)
            have hw := hD.bel
            obtain ⟨q, hq, hqc, -, -⟩ := hD.r6 h6 (getD_tf hun)
            refine each_app (.tmp 37) (.tmp 39) 26 rfl wr.heap.size 9 1 16 elemStr (u' 4) l.length (strW l) (by rw [hu4]; rfl) (.slice (some ⟨q, 0, none⟩) 1 1) 1 (#[.string x]).toList (by rw [← hq, hu6]; rfl) (src_block hqc (by simp)) (hD.r4 h4 (getD_tf hun)) (by simp [Value.oneCell']) (by omega) (by unfold maxLen; omega) hw.size ?_
            intro v' w2 hr hg hn
            exact hD.a7 hun h4 h6 hr hg
          intro x7
          go_simp
          refine flowV_st rfl rfl (by intro u' L w' hun hbe hD; go_simp; first | exact ⟨hD.other 8 (by decide), rfl⟩ | exact hD.other 8 (by decide)) ?_
          go_simp
          refine flowV_st rfl rfl (by intro u' L w' hun hbe hD; go_simp; first | exact ⟨hD.other 9 (by decide), rfl⟩ | exact hD.other 9 (by decide)) ?_
          go_simp
          refine flowV_st rfl rfl (by intro u' L w' hun hbe hD; go_simp; first | exact ⟨hD.other 10 (by decide), rfl⟩ | exact hD.other 10 (by decide)) ?_
          go_simp
          refine flowV_ch rfl rfl ?_ ?_
          · intro u' hu' L w' hun hbe hD
            have hu7 : u' 7 = x7 := (after_eq hu' (by kernel_rfl)).trans (by simp [upd])
            have h7 := after_behind hbe (p := 7) (by kernel_rfl)
            have hw := hD.bel
            refine each_app (.tmp 40) (.tmp 43) 26 rfl wr.heap.size 9 1 16 elemStr (u' 7) (l.length + 1) ((strW l) ++ (#[.string x]).toList) (by rw [hu7]; rfl) _ ((l.length + 1) - (l.length + 1)) ([]) rfl (srcNil (by omega)) (hD.r7 h7 (getD_tf hun)) (by first | exact strW_cell _ | simp) (by omega) (by unfold maxLen; omega) hw.size ?_
            intro v' w2 hr hg hn
            rw [show l.length + 1 + ((l.length + 1) - (l.length + 1)) = (l.length + 1) by omega] at hr
            exact hD.a11 hun h7 hr hg
          intro x11
          go_simp
          refine flowV_ch rfl rfl ?_ ?_
          · intro u' hu' L w' hun hbe hD
            have hu11 : u' 11 = x11 := (after_eq hu' (by kernel_rfl)).trans (by simp [upd])
            have h11 := after_behind hbe (p := 11) (by kernel_rfl)
            go_simp
            rw [← hu11]
            exact hD.m12 hun h11
          intro x12
          go_simp
          refine flowV_nil ?_
          intro L w3 hL hD
          have hx12 : x12 = x11 := by have := hD.r12 (by simpa using hL 12 (by simp)); simpa [upd] using this
          have hrow : w3.ownsRow wr.heap.size 9 1 x11 (l.length + 1) ((strW l) ++ (#[.string x]).toList ++ ([])) := by have := hD.r11 (by simpa using hL 11 (by simp)); simpa [upd] using this
          have hbel3 := hD.bel
          subst hx12
          go_wp2
          refine bodyPost_ret (v := x12) (by simp only [results, Tryz.results79]; go_simp) rfl ⟨l ++ [x], _, rfl, ?_, by simp, by rw [wtS_snoc]; omega, hbel3⟩
          have := own_lower hrow HBS.out
          simpa [strW] using this
end Go.Proofs.YtkgfanajgdelcaaGreatDoor
namespace Go.Proofs.YtkgfanajgdelcaaGreatDoor
open Go.RowKit
theorem own_slice {w : World} {base n size : Nat} {e : TypeId} {v : Value} {xs : List Value} (h : w.ownsRow base e size v n xs) : ∃ p c, v = .slice p n c := by
  rcases h.2 with ⟨rfl, h0⟩ | ⟨g, cap, cur, rfl, _⟩
  · exact ⟨none, 0, by rw [h0]⟩
  · exact ⟨_, _, rfl⟩
theorem Kept.grownB {S : Nat → Prop} {w w1 w2 : World} (h : Kept S w w1) {v : Value} (hg : w1.grownBy w2 v.ownBlock) (hv : ∀ b, v.ownBlock = some b → S b) : Kept S w w2 :=
  ⟨hg.os.trans h.os, hg.tape.trans h.tape, hg.output.trans h.output, Nat.le_trans h.size hg.size, fun b hb hs => (hg.block b (Nat.lt_of_lt_of_le hb h.size) (fun e => hs (hv b e.symm))).trans (h.block b hb hs)⟩
theorem row4_cells {w : World} {k : Nat} {x0 x1 x2 x3 : Value} {t : TypeId} (h : w.heap[k]? = some (.cells #[x0, x1, x2, x3] t (0, 0))) :
    w.cell? ⟨k, 0, none⟩ = some x0 ∧ w.cell? ⟨k, 1, none⟩ = some x1 ∧ w.cell? ⟨k, 2, none⟩ = some x2 ∧ w.cell? ⟨k, 3, none⟩ = some x3 ∧ ∀ j, w.frozen? ⟨k, j, none⟩ = false := by
  refine ⟨?_, ?_, ?_, ?_, fun j => frozen_of_row w k j _ _ h⟩
  · rw [cell_of_row w k 0 _ _ (0, 0) h]; rfl
  · rw [cell_of_row w k 1 _ _ (0, 0) h]; rfl
  · rw [cell_of_row w k 2 _ _ (0, 0) h]; rfl
  · rw [cell_of_row w k 3 _ _ (0, 0) h]; rfl
theorem cellQ {w w' : World} {a : Addr} {v : Value} (hb : Below w.heap.size w w') (h : w.cell? a = some v) : w'.cell? a = some v := (hb.cell (World.block_lt_of_cell? w _ h)).trans h
/-- A fresh unit's block. -/
def unitN : Array Value := #[.string ⟨#[]⟩, .slice none 0 0, .slice none 0 0, .string ⟨#[]⟩]
/-- Operations 4 and 7 (the two rows' copies), 10 (the unit's value), 11 (its block), 12 (the store). -/
structure CloD (e eU : TypeId) (W : World) (x : Un) (u : Nat → Value) (L : Array Bool) (w : World) : Prop where
  bel : Below W.heap.size W w
  o10 : L.getD 10 false = true → L.getD 4 false = true ∧ L.getD 7 false = true
  o12 : L.getD 12 false = true → L.getD 10 false = true ∧ L.getD 11 false = true
  r4 : L.getD 4 false = true → w.ownsRow W.heap.size e 1 (u 4) x.incs.length (strW x.incs)
  r7 : L.getD 7 false = true → w.ownsRow W.heap.size e 1 (u 7) x.axs.length (strW x.axs)
  ap : L.getD 4 false = true → L.getD 7 false = true → ∀ g, (u 4).ownBlock = some g → (u 7).ownBlock ≠ some g
  b10 : L.getD 10 false = true → u 10 = .agg #[.string x.name, u 4, u 7, .string x.goal]
  a11 : L.getD 11 false = true → ∃ k, u 11 = .pointer (some ⟨k, 0, none⟩) ∧ W.heap.size ≤ k ∧ (L.getD 12 false = false → w.heap[k]? = some (.cells unitN eU (0, 0))) ∧ (L.getD 12 false = true → w.heap[k]? = some (.cells #[.string x.name, u 4, u 7, .string x.goal] eU (0, 0))) ∧ k < w.heap.size ∧ (L.getD 4 false = true → (u 4).ownBlock ≠ some k) ∧ (L.getD 7 false = true → (u 7).ownBlock ≠ some k)
section
variable {e eU : TypeId} {W w w' : World} {x : Un} {u : Nat → Value} {L : Array Bool} {v' : Value}
theorem CloD.start (hL : ∀ i, L.getD i false = false) : CloD e eU W x (fun _ => undef) L W.drew := by
  refine ⟨(Below.refl _ _).drew, ?_, ?_, ?_, ?_, ?_, ?_, ?_⟩ <;> (intro h; exact absurd h (by rw [hL]; decide))
theorem CloD.other (h : CloD e eU W x u L w) (k : Nat) (hk : k ∉ [4, 7, 10, 11, 12]) : CloD e eU W x u (L.setIfInBounds k true) w := by
  simp only [List.mem_cons, List.not_mem_nil, or_false, not_or] at hk
  obtain ⟨k4, k7, k10, k11, k12⟩ := hk
  obtain ⟨h1, h2, h3, h4, h5, h6, h7, h8⟩ := h
  refine ⟨h1, ?_, ?_, ?_, ?_, ?_, ?_, ?_⟩ <;> simp only [getD_set_ne false k4, getD_set_ne false k7, getD_set_ne false k10, getD_set_ne false k11, getD_set_ne false k12] <;> assumption
theorem CloD.c4 (h : CloD e eU W x u L w) (hun : L.getD 4 true = false) (hr : w'.ownsRow w.heap.size e 1 v' x.incs.length (strW x.incs)) (hb : Below w.heap.size w w') : CloD e eU W x (upd u 4 v') (L.setIfInBounds 4 true) w' := by
  have hn := getD_tf hun
  obtain ⟨h1, h2, h3, h4, h5, h6, h7, h8⟩ := h
  have n10 : L.getD 10 false = false := by
    cases h' : L.getD 10 false with
    | false => rfl
    | true => have := (h2 h').1; rw [hn] at this; cases this
  have n12 : L.getD 12 false = false := by
    cases h' : L.getD 12 false with
    | false => rfl
    | true => have := (h3 h').1; rw [n10] at this; cases this
  have hz := h1.size
  refine ⟨h1.trans (hb.mono hz), ?_, ?_, ?_, ?_, ?_, ?_, ?_⟩ <;> simp only [getD_set_ne false (show (4 : Nat) ≠ 7 by decide), getD_set_ne false (show (4 : Nat) ≠ 10 by decide), getD_set_ne false (show (4 : Nat) ≠ 11 by decide), getD_set_ne false (show (4 : Nat) ≠ 12 by decide), getD_now hun, upd_same, upd_other u _ (show (7 : Nat) ≠ 4 by decide), upd_other u _ (show (10 : Nat) ≠ 4 by decide), upd_other u _ (show (11 : Nat) ≠ 4 by decide)]
  · intro a; rw [n10] at a; cases a
  · exact h3
  · intro _; exact own_lower hr hz
  · intro a; exact own_below (h5 a) hb
  · intro _ a g hg e'
    have k1 := own_base hr g hg
    have k2 := own_lt' (h5 a) e'
    omega
  · intro a; rw [n10] at a; cases a
  · intro a
    obtain ⟨k, e1, e2, e3, e4, e5, e6, e7⟩ := h8 a
    have hz2 := hb.size
    exact ⟨k, e1, e2, fun c => (hb.block k e5).trans (e3 c), fun c => (by rw [n12] at c; cases c), by omega, fun _ e' => by have := own_base hr k e'; omega, e7⟩
theorem CloD.c7 (h : CloD e eU W x u L w) (hun : L.getD 7 true = false) (hr : w'.ownsRow w.heap.size e 1 v' x.axs.length (strW x.axs)) (hb : Below w.heap.size w w') : CloD e eU W x (upd u 7 v') (L.setIfInBounds 7 true) w' := by
  have hn := getD_tf hun
  obtain ⟨h1, h2, h3, h4, h5, h6, h7, h8⟩ := h
  have n10 : L.getD 10 false = false := by
    cases h' : L.getD 10 false with
    | false => rfl
    | true => have := (h2 h').2; rw [hn] at this; cases this
  have n12 : L.getD 12 false = false := by
    cases h' : L.getD 12 false with
    | false => rfl
    | true => have := (h3 h').1; rw [n10] at this; cases this
  have hz := h1.size
  refine ⟨h1.trans (hb.mono hz), ?_, ?_, ?_, ?_, ?_, ?_, ?_⟩ <;> simp only [getD_set_ne false (show (7 : Nat) ≠ 4 by decide), getD_set_ne false (show (7 : Nat) ≠ 10 by decide), getD_set_ne false (show (7 : Nat) ≠ 11 by decide), getD_set_ne false (show (7 : Nat) ≠ 12 by decide), getD_now hun, upd_same, upd_other u _ (show (4 : Nat) ≠ 7 by decide), upd_other u _ (show (10 : Nat) ≠ 7 by decide), upd_other u _ (show (11 : Nat) ≠ 7 by decide)]
  · intro a; rw [n10] at a; cases a
  · exact h3
  · intro a; exact own_below (h4 a) hb
  · intro _; exact own_lower hr hz
  · intro a _ g hg e'
    have k1 := own_base hr g e'
    have k2 := own_lt' (h4 a) hg
    omega
  · intro a; rw [n10] at a; cases a
  · intro a
    obtain ⟨k, e1, e2, e3, e4, e5, e6, e7⟩ := h8 a
    have hz2 := hb.size
    exact ⟨k, e1, e2, fun c => (hb.block k e5).trans (e3 c), fun c => (by rw [n12] at c; cases c), by omega, e6, fun _ e' => by have := own_base hr k e'; omega⟩
theorem CloD.m10 (h : CloD e eU W x u L w) (hun : L.getD 10 true = false) (k4 : L.getD 4 false = true) (k7 : L.getD 7 false = true) : CloD e eU W x (upd u 10 (.agg #[.string x.name, u 4, u 7, .string x.goal])) (L.setIfInBounds 10 true) w := by
  obtain ⟨h1, h2, h3, h4, h5, h6, h7, h8⟩ := h
  have hn := getD_tf hun
  refine ⟨h1, ?_, ?_, ?_, ?_, ?_, ?_, ?_⟩ <;> simp only [getD_set_ne false (show (10 : Nat) ≠ 4 by decide), getD_set_ne false (show (10 : Nat) ≠ 7 by decide), getD_set_ne false (show (10 : Nat) ≠ 11 by decide), getD_set_ne false (show (10 : Nat) ≠ 12 by decide), getD_now hun, upd_same, upd_other u _ (show (4 : Nat) ≠ 10 by decide), upd_other u _ (show (7 : Nat) ≠ 10 by decide), upd_other u _ (show (11 : Nat) ≠ 10 by decide)]
  · intro _; exact ⟨k4, k7⟩
  · intro a; exact ⟨trivial, (h3 a).2⟩
  · exact h4
  · exact h5
  · exact h6
  · intro _; trivial
  · exact h8
theorem CloD.a11' (h : CloD e eU W x u L w) (hun : L.getD 11 true = false) : CloD e eU W x (upd u 11 (.pointer (some ⟨w.heap.size, 0, none⟩))) (L.setIfInBounds 11 true) (w.alloc (.cells unitN eU)) := by
  have hb := (Below.refl w.heap.size w).alloc (Nat.le_refl _) (.cells unitN eU)
  have hn := getD_tf hun
  obtain ⟨h1, h2, h3, h4, h5, h6, h7, h8⟩ := h
  have n12 : L.getD 12 false = false := by
    cases h' : L.getD 12 false with
    | false => rfl
    | true => have := (h3 h').2; rw [hn] at this; cases this
  refine ⟨h1.alloc h1.size _, ?_, ?_, ?_, ?_, ?_, ?_, ?_⟩ <;> simp only [getD_set_ne false (show (11 : Nat) ≠ 4 by decide), getD_set_ne false (show (11 : Nat) ≠ 7 by decide), getD_set_ne false (show (11 : Nat) ≠ 10 by decide), getD_set_ne false (show (11 : Nat) ≠ 12 by decide), getD_now hun, upd_same, upd_other u _ (show (4 : Nat) ≠ 11 by decide), upd_other u _ (show (7 : Nat) ≠ 11 by decide), upd_other u _ (show (10 : Nat) ≠ 11 by decide)]
  · exact h2
  · intro a; rw [n12] at a; cases a
  · intro a; exact own_below (h4 a) hb
  · intro a; exact own_below (h5 a) hb
  · exact h6
  · exact h7
  · intro _
    exact ⟨_, rfl, h1.size, fun _ => heap_alloc_new w _, fun c => (by rw [n12] at c; cases c), by simp, fun a e' => by have := own_lt' (h4 a) e'; omega, fun a e' => by have := own_lt' (h5 a) e'; omega⟩
theorem CloD.s12 (h : CloD e eU W x u L w) (hun : L.getD 12 true = false) (k10 : L.getD 10 false = true) (k11 : L.getD 11 false = true) {k : Nat} (hk : u 11 = .pointer (some ⟨k, 0, none⟩)) : CloD e eU W x (upd u 12 v') (L.setIfInBounds 12 true) (set4W w k 0 (.string x.name) (u 4) (u 7) (.string x.goal)) := by
  have hn := getD_tf hun
  obtain ⟨h1, h2, h3, h4, h5, h6, h7, h8⟩ := h
  obtain ⟨k', e1, e2, e3, e4, e5, e6, e7⟩ := h8 k11
  rw [hk] at e1
  injection e1 with e1
  injection e1 with e1
  injection e1 with e1
  subst e1
  obtain ⟨k4, k7⟩ := h2 k10
  have hsame : ∀ b, b ≠ k → (set4W w k 0 (.string x.name) (u 4) (u 7) (.string x.goal)).heap[b]? = w.heap[b]? := fun b hb => set4_other w _ _ _ _ hb
  refine ⟨⟨h1.os, h1.tape, h1.output, by simpa using h1.size, fun b hb => (hsame b (by omega)).trans (h1.block b hb)⟩, ?_, ?_, ?_, ?_, ?_, ?_, ?_⟩ <;> simp only [getD_set_ne false (show (12 : Nat) ≠ 4 by decide), getD_set_ne false (show (12 : Nat) ≠ 7 by decide), getD_set_ne false (show (12 : Nat) ≠ 10 by decide), getD_set_ne false (show (12 : Nat) ≠ 11 by decide), getD_now hun, upd_other u _ (show (4 : Nat) ≠ 12 by decide), upd_other u _ (show (7 : Nat) ≠ 12 by decide), upd_other u _ (show (10 : Nat) ≠ 12 by decide), upd_other u _ (show (11 : Nat) ≠ 12 by decide)]
  · exact h2
  · intro _; exact ⟨k10, k11⟩
  · intro a; exact own_same (h4 a) fun g hg _ => hsame g (fun e' => e6 k4 (by rw [hg, e']))
  · intro a; exact own_same (h5 a) fun g hg _ => hsame g (fun e' => e7 k7 (by rw [hg, e']))
  · exact h6
  · exact h7
  · intro _
    refine ⟨k, hk, e2, fun c => (by cases c), fun _ => ?_, by simpa using e5, e6, e7⟩
    have := heap_setCell_same _ k 3 _ _ (.string x.goal) (heap_setCell_same _ k 2 _ _ (u 7) (heap_setCell_same _ k 1 _ _ (u 4) (heap_setCell_same w k 0 _ _ (.string x.name) (e3 hn))))
    simpa [unitN] using this
end
end Go.Proofs.YtkgfanajgdelcaaGreatDoor
namespace Go.Proofs.YtkgfanajgdelcaaGreatDoor
open Go.RowKit
theorem run_app_nil {P : Program} (w : World) (base : Nat) (t ty e : TypeId) (size bytes : Nat) (hE : Elem P t e size bytes) (v : Value) (n : Nat) (xs : List Value) (hown : w.ownsRow base e size v n xs) (c : Nat) :
    (Builtin.append_ #[t, t] ty #[v, .slice none 0 c]).run P w = .ok v w := by
  obtain ⟨ht, i, z, hi, -⟩ := hE
  rcases hown.2 with ⟨rfl, rfl⟩ | ⟨g, cap, cur, rfl, _, _, hnc, _⟩
  · simp [Builtin.append_, run_underlying ht, sizeOf, typeInfo, hi, Builtin.lenOf, Builtin.firstCells]
  · simp [Builtin.append_, run_underlying ht, sizeOf, typeInfo, hi, Builtin.lenOf, Builtin.firstCells, hnc, storeCells]
theorem each_appS {P : Program} {w : World} {o : Oper} {a : Act} {E : Value → World → Prop} (s x : Operand) (t : TypeId) (ho : o.op = .call { callee := .builtin .append, args := #[s, x], argTypes := #[t, t] })
    (base : Nat) (e : TypeId) (bytes : Nat) (hE : Elem P t e 1 bytes)
    (v : Value) (n : Nat) (xs : List Value) (hs : a.eval s = v) (v2 : Value) {B : Nat → Prop} (us : List ByteArray) (hx : a.eval x = v2) (hsrc : StrsAt B w v2 us)
    (hown : w.ownsRow base e 1 v n xs) (hbytes : (n + us.length) * bytes ≤ 140737488355328) (h63 : n + us.length ≤ maxLen) (hbase : base ≤ w.heap.size)
    (h : ∀ v' w', w'.ownsRow base e 1 v' (n + us.length) (xs ++ strW us) → w.grownBy w' v.ownBlock → NewRow v v' w.heap.size → E v' w') : eachUpon P E ((execOp a.eval o).run P w) := by
  have h1 : ∀ u ∈ strW us, u.oneCell' = true := fun u hu => by
    rw [strW, List.mem_map] at hu
    obtain ⟨s, -, rfl⟩ := hu; rfl
  obtain ⟨p, c, rfl, -⟩ := hsrc.form
  cases p with
  | some b =>
    cases us with
    | nil =>
      obtain ⟨ht, i, z, hi, hz, hsz, hby, hzs, hpos⟩ := hE
      obtain ⟨v', w', hr, h2, h3, _, h5⟩ := run_append_own_at (P := P) w base t o.type e i z 1 bytes ht hi hz hsz hby hzs hpos v n xs hown b 0 c [] rfl (fun j u hu => by simp at hu) (by simp) (by simpa using h63) (by simpa using hbytes) hbase
      unfold execOp
      simp only [ho, resolve, invoke, builtin, Sem.run_bind, Sem.run_pure, Result.andThen_ok, List.map_toArray, List.map_cons, List.map_nil, hs, hx]
      simp only [List.length_nil]
      rw [hr]
      exact h _ _ h2 h3 (by
        rcases h5 with h5 | h5
        · exact .inl h5
        · exact .inr ⟨_, h5, Nat.le_refl _⟩)
    | cons a us =>
      obtain ⟨b', o', hq, -⟩ := hsrc.at_ (i := 0) (by simp)
      obtain rfl : b = ⟨b', o', none⟩ := Option.some.inj hq
      exact each_app s x t ho base e 1 bytes hE v n xs hs _ _ _ hx (src_strs hsrc (.inr ⟨_, _, _, rfl⟩)) hown h1 hbytes h63 hbase h
  | none =>
    have h0 : us.length = 0 := by
      rcases Nat.eq_zero_or_pos us.length with h0 | h0
      · exact h0
      · obtain ⟨b', o', h2, -⟩ := hsrc.at_ (i := 0) h0
        cases h2
    obtain rfl : us = [] := List.eq_nil_of_length_eq_zero h0
    have hrun := run_app_nil (P := P) w base t o.type e 1 bytes hE v n xs hown c
    unfold execOp
    simp only [ho, resolve, invoke, builtin, Sem.run_bind, Sem.run_pure, Result.andThen_ok, List.map_toArray, List.map_cons, List.map_nil, hs, hx]
    simp only [List.length_nil] at hrun ⊢
    rw [hrun]
    exact h _ _ (by simpa [strW] using hown) ⟨rfl, rfl, rfl, Nat.le_refl _, fun _ _ _ => rfl⟩ (.inl rfl)
/-- Operations 5 (the empty row), 11 (the axioms' copy), 17 (the unit's value), 18 (its block), 19 (the store). -/
structure CloE (e eU : TypeId) (W : World) (x : Un) (u : Nat → Value) (L : Array Bool) (w : World) : Prop where
  bel : Below W.heap.size W w
  o11 : L.getD 11 false = true → L.getD 5 false = true
  o17 : L.getD 17 false = true → L.getD 11 false = true
  o19 : L.getD 19 false = true → L.getD 17 false = true ∧ L.getD 18 false = true
  r5 : L.getD 5 false = true → L.getD 11 false = false → w.ownsRow W.heap.size e 1 (u 5) 0 []
  r11 : L.getD 11 false = true → w.ownsRow W.heap.size e 1 (u 11) x.axs.length (strW x.axs)
  b17 : L.getD 17 false = true → u 17 = .agg #[.string x.name, .slice none 0 0, u 11, .string x.goal]
  a18 : L.getD 18 false = true → ∃ k, u 18 = .pointer (some ⟨k, 0, none⟩) ∧ W.heap.size ≤ k ∧ (L.getD 19 false = false → w.heap[k]? = some (.cells unitN eU (0, 0))) ∧ (L.getD 19 false = true → w.heap[k]? = some (.cells #[.string x.name, .slice none 0 0, u 11, .string x.goal] eU (0, 0))) ∧ k < w.heap.size ∧ (L.getD 5 false = true → L.getD 11 false = false → (u 5).ownBlock ≠ some k) ∧ (L.getD 11 false = true → (u 11).ownBlock ≠ some k)
section
variable {e eU : TypeId} {W w w' : World} {x : Un} {u : Nat → Value} {L : Array Bool} {v' : Value}
theorem CloE.start (hL : ∀ i, L.getD i false = false) : CloE e eU W x (fun _ => undef) L W.drew := by
  refine ⟨(Below.refl _ _).drew, ?_, ?_, ?_, ?_, ?_, ?_, ?_⟩ <;> (intro h; exact absurd h (by rw [hL]; decide))
theorem CloE.other (h : CloE e eU W x u L w) (k : Nat) (hk : k ∉ [5, 11, 17, 18, 19]) : CloE e eU W x u (L.setIfInBounds k true) w := by
  simp only [List.mem_cons, List.not_mem_nil, or_false, not_or] at hk
  obtain ⟨k5, k11, k17, k18, k19⟩ := hk
  obtain ⟨h1, h2, h3, h4, h5, h6, h7, h8⟩ := h
  refine ⟨h1, ?_, ?_, ?_, ?_, ?_, ?_, ?_⟩ <;> simp only [getD_set_ne false k5, getD_set_ne false k11, getD_set_ne false k17, getD_set_ne false k18, getD_set_ne false k19] <;> assumption
theorem CloE.b5 (h : CloE e eU W x u L w) (hun : L.getD 5 true = false) : CloE e eU W x (upd u 5 (.slice (some ⟨w.heap.size, 0, none⟩) 0 0)) (L.setIfInBounds 5 true) (w.alloc (.cells #[] e)) := by
  have hb := (Below.refl w.heap.size w).alloc (Nat.le_refl _) (.cells #[] e)
  have hn := getD_tf hun
  obtain ⟨h1, h2, h3, h4, h5, h6, h7, h8⟩ := h
  have n11 : L.getD 11 false = false := by
    cases h' : L.getD 11 false with
    | false => rfl
    | true => have := h2 h'; rw [hn] at this; cases this
  refine ⟨h1.alloc h1.size _, ?_, ?_, ?_, ?_, ?_, ?_, ?_⟩ <;> simp only [getD_set_ne false (show (5 : Nat) ≠ 11 by decide), getD_set_ne false (show (5 : Nat) ≠ 17 by decide), getD_set_ne false (show (5 : Nat) ≠ 18 by decide), getD_set_ne false (show (5 : Nat) ≠ 19 by decide), getD_now hun, n11, upd_same, upd_other u _ (show (11 : Nat) ≠ 5 by decide), upd_other u _ (show (17 : Nat) ≠ 5 by decide), upd_other u _ (show (18 : Nat) ≠ 5 by decide)]
  · intro h; cases h
  · intro h; have := h3 h; rw [n11] at this; cases this
  · exact h4
  · intro _ _; exact row_empty w _ e 1 h1.size
  · intro h; cases h
  · exact h7
  · intro a
    obtain ⟨k, e1, e2, e3, e4, e5, e6, e7⟩ := h8 a
    exact ⟨k, e1, e2, fun c => (hb.block k e5).trans (e3 c), fun c => (hb.block k e5).trans (e4 c), by simp; omega, fun _ _ => by simp only [Value.ownBlock, ne_eq, Option.some.injEq]; omega, fun h => by cases h⟩
theorem CloE.a11 (h : CloE e eU W x u L w) (hun : L.getD 11 true = false) (k5 : L.getD 5 false = true) (hr : w'.ownsRow W.heap.size e 1 v' (0 + x.axs.length) ([] ++ strW x.axs)) (hg : w.grownBy w' (u 5).ownBlock) (hnr : NewRow (u 5) v' w.heap.size) : CloE e eU W x (upd u 11 v') (L.setIfInBounds 11 true) w' := by
  have hn := getD_tf hun
  obtain ⟨h1, h2, h3, h4, h5, h6, h7, h8⟩ := h
  have n17 : L.getD 17 false = false := by
    cases h' : L.getD 17 false with
    | false => rfl
    | true => have := h3 h'; rw [hn] at this; cases this
  have n19 : L.getD 19 false = false := by
    cases h' : L.getD 19 false with
    | false => rfl
    | true => have := (h4 h').1; rw [n17] at this; cases this
  have ho := h5 k5 hn
  rw [Nat.zero_add, List.nil_append] at hr
  refine ⟨h1.grown hg h1.size (fun k hk => own_base ho k hk), ?_, ?_, ?_, ?_, ?_, ?_, ?_⟩ <;> simp only [getD_set_ne false (show (11 : Nat) ≠ 5 by decide), getD_set_ne false (show (11 : Nat) ≠ 17 by decide), getD_set_ne false (show (11 : Nat) ≠ 18 by decide), getD_set_ne false (show (11 : Nat) ≠ 19 by decide), getD_now hun, n17, n19, k5, upd_same, upd_other u _ (show (5 : Nat) ≠ 11 by decide), upd_other u _ (show (17 : Nat) ≠ 11 by decide), upd_other u _ (show (18 : Nat) ≠ 11 by decide)]
  · intro _; trivial
  · intro h; cases h
  · intro h; cases h
  · intro _ h; cases h
  · intro _; exact hr
  · intro h; cases h
  · intro a
    obtain ⟨k, e1, e2, e3, e4, e5, e6, e7⟩ := h8 a
    have hz := hg.size
    exact ⟨k, e1, e2, fun _ => (hg.block k e5 (fun e => e6 k5 hn e.symm)).trans (e3 n19), fun c => (by cases c), by omega, fun _ h => (by cases h), fun _ => newRow_ne hnr e5 (e6 k5 hn)⟩
theorem CloE.m17 (h : CloE e eU W x u L w) (hun : L.getD 17 true = false) (k11 : L.getD 11 false = true) : CloE e eU W x (upd u 17 (.agg #[.string x.name, .slice none 0 0, u 11, .string x.goal])) (L.setIfInBounds 17 true) w := by
  obtain ⟨h1, h2, h3, h4, h5, h6, h7, h8⟩ := h
  refine ⟨h1, ?_, ?_, ?_, ?_, ?_, ?_, ?_⟩ <;> simp only [getD_set_ne false (show (17 : Nat) ≠ 5 by decide), getD_set_ne false (show (17 : Nat) ≠ 11 by decide), getD_set_ne false (show (17 : Nat) ≠ 18 by decide), getD_set_ne false (show (17 : Nat) ≠ 19 by decide), getD_now hun, upd_same, upd_other u _ (show (5 : Nat) ≠ 17 by decide), upd_other u _ (show (11 : Nat) ≠ 17 by decide), upd_other u _ (show (18 : Nat) ≠ 17 by decide)]
  · exact h2
  · intro _; exact k11
  · intro a; exact ⟨trivial, (h4 a).2⟩
  · exact h5
  · exact h6
  · intro _; trivial
  · exact h8
theorem CloE.a18' (h : CloE e eU W x u L w) (hun : L.getD 18 true = false) : CloE e eU W x (upd u 18 (.pointer (some ⟨w.heap.size, 0, none⟩))) (L.setIfInBounds 18 true) (w.alloc (.cells unitN eU)) := by
  have hb := (Below.refl w.heap.size w).alloc (Nat.le_refl _) (.cells unitN eU)
  have hn := getD_tf hun
  obtain ⟨h1, h2, h3, h4, h5, h6, h7, h8⟩ := h
  have n19 : L.getD 19 false = false := by
    cases h' : L.getD 19 false with
    | false => rfl
    | true => have := (h4 h').2; rw [hn] at this; cases this
  refine ⟨h1.alloc h1.size _, ?_, ?_, ?_, ?_, ?_, ?_, ?_⟩ <;> simp only [getD_set_ne false (show (18 : Nat) ≠ 5 by decide), getD_set_ne false (show (18 : Nat) ≠ 11 by decide), getD_set_ne false (show (18 : Nat) ≠ 17 by decide), getD_set_ne false (show (18 : Nat) ≠ 19 by decide), getD_now hun, upd_same, upd_other u _ (show (5 : Nat) ≠ 18 by decide), upd_other u _ (show (11 : Nat) ≠ 18 by decide), upd_other u _ (show (17 : Nat) ≠ 18 by decide)]
  · exact h2
  · exact h3
  · intro a; rw [n19] at a; cases a
  · intro a b; exact own_below (h5 a b) hb
  · intro a; exact own_below (h6 a) hb
  · exact h7
  · intro _
    exact ⟨_, rfl, h1.size, fun _ => heap_alloc_new w _, fun c => (by rw [n19] at c; cases c), by simp, fun a b e' => by have := own_lt' (h5 a b) e'; omega, fun a e' => by have := own_lt' (h6 a) e'; omega⟩
theorem CloE.s19 (h : CloE e eU W x u L w) (hun : L.getD 19 true = false) (k17 : L.getD 17 false = true) (k18 : L.getD 18 false = true) {k : Nat} (hk : u 18 = .pointer (some ⟨k, 0, none⟩)) : CloE e eU W x (upd u 19 v') (L.setIfInBounds 19 true) (set4W w k 0 (.string x.name) (.slice none 0 0) (u 11) (.string x.goal)) := by
  have hn := getD_tf hun
  obtain ⟨h1, h2, h3, h4, h5, h6, h7, h8⟩ := h
  obtain ⟨k', e1, e2, e3, e4, e5, e6, e7⟩ := h8 k18
  rw [hk] at e1
  injection e1 with e1
  injection e1 with e1
  injection e1 with e1
  subst e1
  have k11 := h3 k17
  have hsame : ∀ b, b ≠ k → (set4W w k 0 (.string x.name) (.slice none 0 0) (u 11) (.string x.goal)).heap[b]? = w.heap[b]? := fun b hb => set4_other w _ _ _ _ hb
  refine ⟨⟨h1.os, h1.tape, h1.output, by simpa using h1.size, fun b hb => (hsame b (by omega)).trans (h1.block b hb)⟩, ?_, ?_, ?_, ?_, ?_, ?_, ?_⟩ <;> simp only [getD_set_ne false (show (19 : Nat) ≠ 5 by decide), getD_set_ne false (show (19 : Nat) ≠ 11 by decide), getD_set_ne false (show (19 : Nat) ≠ 17 by decide), getD_set_ne false (show (19 : Nat) ≠ 18 by decide), getD_now hun, upd_other u _ (show (5 : Nat) ≠ 19 by decide), upd_other u _ (show (11 : Nat) ≠ 19 by decide), upd_other u _ (show (17 : Nat) ≠ 19 by decide), upd_other u _ (show (18 : Nat) ≠ 19 by decide)]
  · exact h2
  · exact h3
  · intro _; exact ⟨k17, k18⟩
  · intro a b; rw [k11] at b; cases b
  · intro a; exact own_same (h6 a) fun g hg _ => hsame g (fun e' => e7 k11 (by rw [hg, e']))
  · exact h7
  · intro _
    refine ⟨k, hk, e2, fun c => (by cases c), fun _ => ?_, by simpa using e5, e6, e7⟩
    have := heap_setCell_same _ k 3 _ _ (.string x.goal) (heap_setCell_same _ k 2 _ _ (u 11) (heap_setCell_same _ k 1 _ _ (.slice none 0 0) (heap_setCell_same w k 0 _ _ (.string x.name) (e3 hn))))
    simpa [unitN] using this
end
end Go.Proofs.YtkgfanajgdelcaaGreatDoor
namespace Go.Proofs.YtkgfanajgdelcaaGreatDoor
open Go.RowKit
set_option maxRecDepth 100000 in
set_option maxHeartbeats 1600000 in
theorem spoilt_any (g m : Nat) (t q : ByteArray) (w : World) (h : Cur w g m) (hm : m + 6 ≤ 1000000000) (ht : t.size ≤ 1000000) (hq : 0 < q.size) (hq2 : q.size ≤ 1000) :
    Calls Tryz.prog 66 #[.pointer (some ⟨g, 0, none⟩), .string t, .string q] w (Step g m 6 (IsStr (t.size + 1)) w) := by
  have H := Lib.hid h
  clear h
  cases he : t.data.toList.isEmpty
  · have he1 := empt_f he
    have ht0 : 0 < t.size := by
      rw [size_list]; cases hl : t.data.toList with
      | nil => rw [hl] at he; cases he
      | cons x l => simp
    go_enter Tryz.func66, Tryz.ntmps66
    go_wp2_with fail
    refine (pick_any g m _ _ H.out (by omega) (by omega) (by omega)).mono ?_
    rintro e w1 ⟨_, rfl, ⟨r1, rfl, hr1, hs1⟩, hc1, hg1⟩
    obtain ⟨i, rfl⟩ := Int.eq_ofNat_of_zero_le hr1
    have hi : i < t.size := by omega
    have hi2 : i ≤ t.size := by omega
    have hi3 : i + 1 ≤ t.size := by omega
    have hwi : IntKind.i64.wrap ((i : Int) + 1) = (i : Int) + 1 := IntWalk.i64_in _ (by omega)
    have hwi2 : ((i : Int) + 1).toNat = i + 1 := by omega
    have hwi3 : 0 ≤ (i : Int) + 1 := by omega
    have hwi4 : (i : Int) + 1 ≤ (t.size : Int) := by omega
    have HSZ := Lib.hid (And.intro ht hi)
    have HC1 := Lib.hid hc1
    clear hc1
    go_wp2_with fail
    refine (pick_any g (m + 2) _ _ HC1.out (by omega) (by omega) (by omega)).mono ?_
    rintro e w2 ⟨_, rfl, ⟨r2, rfl, hr2, hs2⟩, hc2, hg2⟩
    obtain ⟨j, rfl⟩ := Int.eq_ofNat_of_zero_le hr2
    have hj : j < q.size := by omega
    have HC2 := Lib.hid hc2
    clear hc2
    obtain ⟨x, hx⟩ : ∃ x, (q.extract j q.size).extract 0 1 = x := ⟨_, rfl⟩
    have hx1 : x.size ≤ 1 := by rw [← hx]; simp; omega
    go_wp2_with fail
    refine (pick_any g (m + 4) _ _ HC2.out (by omega) (by omega) (by omega)).mono ?_
    rintro e w3 ⟨_, rfl, ⟨r3, rfl, hr3, hs3⟩, hc3, hg3⟩
    have HC3 := Lib.hid hc3
    have HG := Lib.hid (gr_trans (gr_trans hg1 hg2) hg3)
    clear hc3 hg1 hg2 hg3
    clear hx
    rcases (by omega : r3 = 0 ∨ r3 = 1 ∨ r3 = 2) with rfl | rfl | rfl
    · go_wp2
      obtain ⟨C, HC0⟩ := class_of (InF w3.heap.size _ [] [] [])
      have HC := Lib.hid HC0
      clear HC0
      refine wp_region_flow (C := C) (by kernel_rfl) (by kernel_rfl) (fun L hL => (HC.out _ _).2 (InF.start (by first | (intro _ hs; cases hs; done) | (simp only [List.forall_mem_cons]; go_simp)) (by first | (intro _ hs; cases hs; done) | (simp only [List.forall_mem_cons]; go_simp)) (by first | (intro _ hs; cases hs; done) | (simp only [List.forall_mem_cons]; go_simp)) (by first | (intro _ hs; cases hs; done) | (simp only [List.forall_mem_cons]; go_simp)) L hL)) ?_
      repeat (first | ((first | apply flow_free rfl | (apply flow_yes; (case hw => go_simp))); (intro L w' hun hrd hC; have hC := (HC.out _ _).1 hC; have hb' := hC.below; (try have hw' : Below w.heap.size w w' := by first | exact Below.trans (by exact bel) hb' | (exact bel; done)); have hf' := hC.cell; (try simp only [List.forall_mem_cons] at hf'); go_simp; first | exact ⟨(HC.out _ _).2 (hC.skip _ (by rfl)), rfl⟩ | (rw [if_neg]; (exact ⟨(HC.out _ _).2 (hC.skip _ (by rfl)), rfl⟩); omega) | fail); go_simp) | (apply flow_no; (case hw => (go_simp; try (intro hh; cases hh))); (intro L w' _ _ hC; exact (HC.out _ _).2 (((HC.out _ _).1 hC).skip _ (by rfl))); go_simp))
      refine flow_nil ?_
      intro L wz hL hz
      have hz := (HC.out _ _).1 hz
      have hbz := hz.below
      have hcz := hz.cell
      try simp only [List.forall_mem_cons] at hcz
      have hdz := hz.done
      try simp only [List.forall_mem_cons] at hdz
      (try have hwz : Below w.heap.size w wz := by first | exact Below.trans (by exact bel) hbz | (exact bel; done))
      go_wp2
      go_ret
      refine ⟨_, rfl, ⟨_, rfl, ?_⟩, HC3.out.below hbz, gr_below HG.out hbz⟩
      have h1 := HSZ.out
      simp only [size_list, bytes_append', extract_list, List.length_append, List.length_drop, List.length_take] at h1 hx1 ⊢
      omega
    · go_wp2
      obtain ⟨C, HC0⟩ := class_of (InF w3.heap.size _ [] [] [])
      have HC := Lib.hid HC0
      clear HC0
      refine wp_region_flow (C := C) (by kernel_rfl) (by kernel_rfl) (fun L hL => (HC.out _ _).2 (InF.start (by first | (intro _ hs; cases hs; done) | (simp only [List.forall_mem_cons]; go_simp)) (by first | (intro _ hs; cases hs; done) | (simp only [List.forall_mem_cons]; go_simp)) (by first | (intro _ hs; cases hs; done) | (simp only [List.forall_mem_cons]; go_simp)) (by first | (intro _ hs; cases hs; done) | (simp only [List.forall_mem_cons]; go_simp)) L hL)) ?_
      repeat (first | ((first | apply flow_free rfl | (apply flow_yes; (case hw => go_simp))); (intro L w' hun hrd hC; have hC := (HC.out _ _).1 hC; have hb' := hC.below; (try have hw' : Below w.heap.size w w' := by first | exact Below.trans (by exact bel) hb' | (exact bel; done)); have hf' := hC.cell; (try simp only [List.forall_mem_cons] at hf'); go_simp; first | exact ⟨(HC.out _ _).2 (hC.skip _ (by rfl)), rfl⟩ | (rw [if_neg]; (exact ⟨(HC.out _ _).2 (hC.skip _ (by rfl)), rfl⟩); omega) | fail); go_simp) | (apply flow_no; (case hw => (go_simp; try (intro hh; cases hh))); (intro L w' _ _ hC; exact (HC.out _ _).2 (((HC.out _ _).1 hC).skip _ (by rfl))); go_simp))
      refine flow_nil ?_
      intro L wz hL hz
      have hz := (HC.out _ _).1 hz
      have hbz := hz.below
      have hcz := hz.cell
      try simp only [List.forall_mem_cons] at hcz
      have hdz := hz.done
      try simp only [List.forall_mem_cons] at hdz
      (try have hwz : Below w.heap.size w wz := by first | exact Below.trans (by exact bel) hbz | (exact bel; done))
      go_wp2
      go_ret
      refine ⟨_, rfl, ⟨_, rfl, ?_⟩, HC3.out.below hbz, gr_below HG.out hbz⟩
      have h1 := HSZ.out
      simp only [size_list, bytes_append', extract_list, List.length_append, List.length_drop, List.length_take] at h1 hx1 ⊢
      omega
    · go_wp2
      obtain ⟨C, HC0⟩ := class_of (InF w3.heap.size _ [] [] [])
      have HC := Lib.hid HC0
      clear HC0
      refine wp_region_flow (C := C) (by kernel_rfl) (by kernel_rfl) (fun L hL => (HC.out _ _).2 (InF.start (by first | (intro _ hs; cases hs; done) | (simp only [List.forall_mem_cons]; go_simp)) (by first | (intro _ hs; cases hs; done) | (simp only [List.forall_mem_cons]; go_simp)) (by first | (intro _ hs; cases hs; done) | (simp only [List.forall_mem_cons]; go_simp)) (by first | (intro _ hs; cases hs; done) | (simp only [List.forall_mem_cons]; go_simp)) L hL)) ?_
      repeat (first | ((first | apply flow_free rfl | (apply flow_yes; (case hw => go_simp))); (intro L w' hun hrd hC; have hC := (HC.out _ _).1 hC; have hb' := hC.below; (try have hw' : Below w.heap.size w w' := by first | exact Below.trans (by exact bel) hb' | (exact bel; done)); have hf' := hC.cell; (try simp only [List.forall_mem_cons] at hf'); go_simp; first | exact ⟨(HC.out _ _).2 (hC.skip _ (by rfl)), rfl⟩ | (rw [if_neg]; (exact ⟨(HC.out _ _).2 (hC.skip _ (by rfl)), rfl⟩); omega) | fail); go_simp) | (apply flow_no; (case hw => (go_simp; try (intro hh; cases hh))); (intro L w' _ _ hC; exact (HC.out _ _).2 (((HC.out _ _).1 hC).skip _ (by rfl))); go_simp))
      refine flow_nil ?_
      intro L wz hL hz
      have hz := (HC.out _ _).1 hz
      have hbz := hz.below
      have hcz := hz.cell
      try simp only [List.forall_mem_cons] at hcz
      have hdz := hz.done
      try simp only [List.forall_mem_cons] at hdz
      (try have hwz : Below w.heap.size w wz := by first | exact Below.trans (by exact bel) hbz | (exact bel; done))
      go_wp2
      go_ret
      refine ⟨_, rfl, ⟨_, rfl, ?_⟩, HC3.out.below hbz, gr_below HG.out hbz⟩
      have h1 := HSZ.out
      simp only [size_list, bytes_append', extract_list, List.length_append, List.length_drop, List.length_take] at h1 hx1 ⊢
      omega
  · have he1 := empt_t he
    go_enter Tryz.func66, Tryz.ntmps66
    go_wp2
    go_ret
    refine ⟨_, rfl, ⟨_, rfl, ?_⟩, H.out.more (by omega) (by omega), gr_refl _ _⟩
    simp only [size_list, extract_list, List.length_drop, List.length_take]
    omega
end Go.Proofs.YtkgfanajgdelcaaGreatDoor
namespace Go.Proofs.YtkgfanajgdelcaaGreatDoor
open Go.RowKit
theorem of_lit (g m k n b : Nat) (W : World) (cs : Array Value) (t : TypeId) (hn : n = cs.size) (hb : b = W.heap.size) (h : Cur W g m) (hm : m + 2 ≤ 1000000000) (h0 : 0 < cs.size) (h1 : cs.size ≤ 1000000000) (hs : ∀ v ∈ cs, IsStr k v) :
    Calls Tryz.prog 70 #[.pointer (some ⟨g, 0, none⟩), .slice (some ⟨b, 0, none⟩) n n] (W.alloc (.cells cs t)) (Step g m 2 (IsStr k) (W.alloc (.cells cs t))) := by
  subst hn hb
  have hlt := h.lt
  exact of_any g m W.heap.size cs.size k cs t (0, 0) _ (h.below ((Below.refl _ _).alloc (Nat.le_refl _) _)) hm (heap_alloc_new W _) (by omega) h0 h1 hs
theorem Cur.al {w : World} {g m : Nat} (h : Cur w g m) (o : Obj) : Cur (w.alloc o) g m := h.below ((Below.refl _ _).alloc (Nat.le_refl _) o)
theorem Cur.sc {w : World} {g m : Nat} (h : Cur w g m) {p : Addr} (hp : g < p.block) (u : Value) : Cur (w.setCell p u) g m := by
  obtain ⟨v, a, s, h1, h2, h3, h4, h5, code, h6, h7⟩ := h
  exact ⟨v, a, s, (heap_setCell_other w p g u (fun e => by omega)).trans h1, h2, h3, h4, h5, code, h6, h7.mono (SameOn.store w (fun b hb e => by omega) u) (fun _ h => h) (fun _ _ _ h => h)⟩
end Go.Proofs.YtkgfanajgdelcaaGreatDoor
namespace Go.Proofs.YtkgfanajgdelcaaGreatDoor
open Go.RowKit
/-- A cursor's step with a value that lies in the world behind it. -/
def StepO (g m k : Nat) (p : World → Value → Prop) (w : World) (e : Ending) (w' : World) : Prop :=
  ∃ v, e = .returned v ∧ p w' v ∧ Cur w' g (m + k) ∧ w.grownBy w' (some g)
theorem sameOn_grown {S : Nat → Prop} {w w' : World} {g : Nat} (hg : w.grownBy w' (some g)) (hS : ∀ b, S b → b ≠ g) : SameOn S w w' := fun b hb hlt => hg.block b hlt (by simpa using hS b hb)
end Go.Proofs.YtkgfanajgdelcaaGreatDoor
namespace Go.Proofs.YtkgfanajgdelcaaGreatDoor
open Go.RowKit
theorem Cur.own {w w' : World} {g m : Nat} {v : Value} (h : Cur w g m) (hg : w.grownBy w' v.ownBlock) (hv : ∀ b, v.ownBlock = some b → g < b) : Cur w' g m := by
  have hlt := h.lt
  obtain ⟨u, a, s, h1, h2, h3, h4, h5, code, h6, h7⟩ := h
  exact ⟨u, a, s, (hg.block g hlt (fun e => by have := hv g e.symm; omega)).trans h1, h2, h3, h4, h5, code, h6, h7.mono (fun b hb hlt => hg.block b hlt (fun e => by have := hv b e.symm; omega)) (fun _ h => h) (fun _ _ _ h => h)⟩
section
variable {α : Type} {R : (Nat → Prop) → World → α → List Value → Prop} {eT : TypeId} {sz : Nat} {mk : Value → Obj} {X : Nat → Prop} {w W W' W2 w3 : World} {g m m' bt ci : Nat} {v v' : Value} {xs : List α} {a : α}
end
end Go.Proofs.YtkgfanajgdelcaaGreatDoor
