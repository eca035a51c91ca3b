/- A unit in the making: two rows in one struct's block. No conditions; no program is walked. -/
import Derived.Laws.IdiomStrings
import Derived.Test.YtimpkjiglioflaaGreatDoorPuPart1
import Derived.Test.YtimpkjiglioflaaGreatDoorPuPart4
import Derived.Test.YtimpkjiglioflaaGreatDoorPuPart5
import Derived.Test.YtimpkjiglioflaaGreatDoorPuPart10
namespace Go.Proofs.YtimpkjiglioflaaGreatDoor
open Go.RowKit
/-- No line ends in it. -/
def NoNl (l : List UInt8) : Prop := ∀ c ∈ l, c ≠ 10
instance (l : List UInt8) : Decidable (NoNl l) := inferInstanceAs (Decidable (∀ c ∈ l, c ≠ 10))
theorem NoNl.app {a b : List UInt8} (h : NoNl a) (h2 : NoNl b) : NoNl (a ++ b) := fun c hc => (List.mem_append.1 hc).elim (h c) (h2 c)
theorem headTail_or {p q : UInt8 → Bool} {l : List UInt8} (h : headTail p q l = true) : ∀ c ∈ l, p c = true ∨ q c = true := by
  cases l with
  | nil => simp
  | cons x l =>
    rw [headTail, Bool.and_eq_true, List.all_eq_true] at h
    intro c hc
    rcases List.mem_cons.1 hc with rfl | hc
    · exact .inl h.1
    · exact .inr (h.2 c hc)
theorem symB_nl {l : List UInt8} (h : symB l = true) : NoNl l := by
  unfold symB at h
  simp only [Bool.and_eq_true] at h
  intro c hc e
  subst e
  rcases headTail_or h.1.2 _ hc with h | h
  · exact absurd h (by decide)
  · exact absurd h (by decide)
theorem varB_nl {l : List UInt8} (h : varB l = true) : NoNl l := by
  unfold varB at h
  simp only [Bool.and_eq_true] at h
  intro c hc e
  subst e
  rcases headTail_or h.2 _ hc with h | h
  · exact absurd h (by decide)
  · exact absurd h (by decide)
theorem joinB_nl {sep : List UInt8} (hs : NoNl sep) : ∀ l : List (List UInt8), (∀ x ∈ l, NoNl x) → NoNl (joinB sep l)
  | [], _ => by intro c hc; rw [joinB] at hc; cases hc
  | [a], h => by rw [joinB]; exact h a (List.mem_cons_self ..)
  | a :: b :: l, h => by
    rw [joinB]
    exact ((h a (List.mem_cons_self ..)).app hs).app (joinB_nl hs (b :: l) (fun x hx => h x (List.mem_cons_of_mem _ hx)))
theorem fmt_nl_of {n : ByteArray} {us : List Tm} (hn : NoNl n.data.toList) (hu : ∀ x ∈ Tm.fmtL us, NoNl x) : NoNl (Tm.fmt (.mk n us)) := by
  rw [Tm.fmt.eq_def]
  dsimp only
  split
  · split
    · rename_i a b l he
      exact ((hu a (by rw [he]; simp)).app (by decide)).app (hu b (by rw [he]; simp))
    · intro c hc; cases hc
  · split
    · exact hn
    · exact ((hn.app (by decide)).app (joinB_nl (by decide) _ hu)).app (by decide)
mutual
theorem Tm.fmt_nl : ∀ t : Tm, t.nodes = true → NoNl t.fmt
  | .mk n us, h => by
    rw [Tm.nodes] at h
    split at h
    · rename_i hv
      have : us = [] := by simpa using h
      subst this
      exact fmt_nl_of (varB_nl hv) (by intro x hx; rw [Tm.fmtL] at hx; cases hx)
    · simp only [Bool.and_eq_true] at h
      exact fmt_nl_of (symB_nl h.1.1) (Tm.fmtL_nl us h.2)
theorem Tm.fmtL_nl : ∀ us : List Tm, Tm.nodess us = true → ∀ x ∈ Tm.fmtL us, NoNl x
  | [], _ => by intro x hx; rw [Tm.fmtL] at hx; cases hx
  | a :: us, h => by
    rw [Tm.nodess, Bool.and_eq_true] at h
    intro x hx
    rw [Tm.fmtL] at hx
    rcases List.mem_cons.1 hx with rfl | hx
    · exact Tm.fmt_nl a h.1
    · exact Tm.fmtL_nl us h.2 x hx
end
theorem atom_nl {t : Tm} (h : t.atom = true) : NoNl t.fmt := by
  obtain ⟨n, us⟩ := t
  rw [Tm.atom] at h
  split at h
  · rename_i he
    simp only [Bool.and_eq_true] at h
    have he : n.data.toList = [61] := by simpa [isEq, Tm.n] using he
    exact fmt_nl_of (by rw [he]; decide) (Tm.fmtL_nl us h.2)
  · simp only [Bool.and_eq_true, Tm.good] at h
    exact Tm.fmt_nl _ h.2.2
mutual
theorem Fm.txt_nl : ∀ f : Fm, f.form = true → NoNl f.txt
  | .mk op a v ps, h => by
    rw [Fm.form, Fm.form1, Bool.and_eq_true, Bool.and_eq_true, Bool.and_eq_true] at h
    obtain ⟨⟨⟨h1, h2⟩, h3⟩, h4⟩ := h
    have hp := Fm.txtN_nl ps h4
    simp only [Fm.op, Fm.v, Fm.a] at h1 h2 h3
    rw [Fm.txt]
    split
    · decide
    split
    · decide
    split
    · rename_i e; exact atom_nl (by simpa [e] using h3)
    split
    · split
      · exact (NoNl.app (by decide) (hp 0)).app (by decide)
      · exact NoNl.app (by decide) (hp 0)
    split
    · rename_i e; subst e
      exact ((NoNl.app (by decide) (varB_nl h2)).app (by decide)).app (hp 0)
    split
    · rename_i e; subst e
      exact ((NoNl.app (by decide) (varB_nl h2)).app (by decide)).app (hp 0)
    · refine (((NoNl.app (by decide) (hp 0)).app ?_).app (hp 1)).app (by decide)
      unfold sign8; split <;> (try split) <;> decide
theorem Fm.txtN_nl : ∀ (ps : List Fm), Fm.forms ps = true → ∀ n, NoNl (Fm.txtN n ps)
  | [], _, n => by intro c hc; cases n <;> rw [Fm.txtN] at hc <;> cases hc
  | f :: fs, h, n => by
    rw [Fm.forms, Bool.and_eq_true] at h
    cases n with
    | zero => rw [Fm.txtN]; exact Fm.txt_nl f h.1
    | succ n => rw [Fm.txtN]; exact Fm.txtN_nl fs h.2 n
end
theorem unitTxt_nl {s : ByteArray} (h : unitTxt s = true) : NoNl s.data.toList ∧ s.size ≤ 100 := by
  rw [unitTxt, Bool.and_eq_true, pfOk, Bool.and_eq_true, fOkL] at h
  simp only [Bool.and_eq_true] at h
  obtain ⟨⟨_, ⟨_, h1⟩, h2⟩, h3⟩ := h
  refine ⟨?_, of_decide_eq_true h3⟩
  rw [← beq_iff_eq.1 h2]
  rw [Fm.good, Bool.and_eq_true] at h1
  exact Fm.txt_nl _ h1.2
theorem namesF_sym : ∀ (p : Option ByteArray) (us : List ByteArray), namesF p us = true → ∀ x ∈ us, symB x.data.toList = true
  | _, [], _, _, hx => by cases hx
  | p, a :: us, h, x, hx => by
    rw [namesF, Bool.and_eq_true, Bool.and_eq_true] at h
    rcases List.mem_cons.1 hx with rfl | hx
    · exact h.1.1
    · exact namesF_sym (some a) us h.2 x hx
theorem sym_size {s : ByteArray} (h : symB s.data.toList = true) : s.size ≤ 6 := by
  unfold symB at h
  simp only [Bool.and_eq_true, decide_eq_true_iff] at h
  have := h.1.1.2
  rw [size_list]; exact this
/-- What a valid unit's parts are like. -/
structure UnP (u : Un) : Prop where
  name : NoNl u.name.data.toList ∧ u.name.size ≤ 6
  incs : ∀ x ∈ u.incs, NoNl x.data.toList ∧ x.size ≤ 6
  ilen : u.incs.length ≤ 12
  axs : ∀ x ∈ u.axs, NoNl x.data.toList ∧ x.size ≤ 100
  alen : u.axs.length ≤ 6
  goal : NoNl u.goal.data.toList ∧ u.goal.size ≤ 100
theorem Un.good_parts {u : Un} (h : u.good = true) : UnP u := by
  unfold Un.good at h
  simp only [Bool.and_eq_true, decide_eq_true_iff, Bool.or_eq_true, List.all_eq_true] at h
  obtain ⟨⟨⟨⟨⟨h1, h2⟩, h3⟩, h4⟩, h5⟩, h6⟩ := h
  refine ⟨⟨symB_nl h1, sym_size h1⟩, fun x hx => ?_, h2, fun x hx => unitTxt_nl (h5 x hx), h4, ?_⟩
  · have := namesF_sym _ _ h3 x hx; exact ⟨symB_nl this, sym_size this⟩
  · rcases h6 with h6 | h6
    · have h6 := beq_iff_eq.1 h6
      rw [size_list, h6]; exact ⟨(by intro c hc; cases hc), (by simp)⟩
    · exact unitTxt_nl h6
theorem wtS_bound {n : Nat} : ∀ us : List ByteArray, (∀ x ∈ us, x.size ≤ n) → wtS us ≤ n * us.length
  | [], _ => by simp [wtS]
  | a :: us, h => by
    have h1 := wtS_bound us (fun x hx => h x (List.mem_cons_of_mem _ hx))
    have h2 := h a (List.mem_cons_self ..)
    rw [wtS, List.length_cons, Nat.mul_succ]; omega
theorem lineU_len (k : List UInt8) (s : ByteArray) : (lineU k s).length = k.length + s.size + 1 := by rw [lineU, List.length_append, List.length_append, ← size_list]; rfl
theorem txt_size {u : Un} (h : u.good = true) : u.txt.length ≤ 4000 := by
  have hp := u.good_parts h
  have h1 := wtS_bound u.incs (fun x hx => (hp.incs x hx).2)
  have h2 := wtS_bound u.axs (fun x hx => (hp.axs x hx).2)
  have h3 := hp.ilen
  have h4 := hp.alen
  have h5 := hp.name.2
  have h6 := hp.goal.2
  have h7 : (if u.goal.toList == [] then ([] : List UInt8) else lineU kwGoal u.goal).length ≤ 106 := by
    split
    · simp
    · rw [lineU_len]; simp [kwGoal]; omega
  rw [Un.txt, List.length_append, List.length_append, List.length_append, linesU_len, linesU_len, lineU_len]
  simp [kwUnit, kwInc, kwAx]
  simp at h7
  omega
/-! ### Reading -/
def u0 : Un := ⟨⟨#[]⟩, [], [], ⟨#[]⟩⟩
def kwU : List UInt8 := [117, 110, 105, 116]
def kwI : List UInt8 := [105, 110, 99, 108, 117, 100, 101]
def kwA : List UInt8 := [97, 120, 105, 111, 109]
def kwG : List UInt8 := [103, 111, 97, 108]
def Un.putN (u : Un) (r : List UInt8) : Un := { u with name := baL r }
def Un.putI (u : Un) (r : List UInt8) : Un := { u with incs := u.incs ++ [baL r] }
def Un.putA (u : Un) (r : List UInt8) : Un := { u with axs := u.axs ++ [baL r] }
def Un.putG (u : Un) (r : List UInt8) : Un := { u with goal := baL r }
/-- The program's step. -/
def stI (u : Un) (line : List UInt8) : Un :=
  if (cut1 line 32).1 = kwU then u.putN (cut1 line 32).2.1 else if (cut1 line 32).1 = kwI then u.putI (cut1 line 32).2.1 else
  if (cut1 line 32).1 = kwA then u.putA (cut1 line 32).2.1 else if (cut1 line 32).1 = kwG then u.putG (cut1 line 32).2.1 else u
/-- The reference's. -/
def aft (k line : List UInt8) : Bool := k.isPrefixOf line
def onA (k : List UInt8) (f : Un → List UInt8 → Un) (u : Un) (line : List UInt8) : Un := if aft k line then f u (line.drop k.length) else u
def stS (u : Un) (line : List UInt8) : Un := onA kwGoal Un.putG (onA kwAx Un.putA (onA kwInc Un.putI (onA kwUnit Un.putN u line) line) line) line
theorem splitF_line (L : List UInt8) : ∀ a : List UInt8, NoNl a → splitF (a ++ 10 :: L) 10 = a :: splitF L 10
  | [], _ => by rw [List.nil_append, splitF_cons, if_pos (by decide)]
  | c :: a, h => by
    have h1 : (c == (10 : UInt8)) = false := beq_eq_false_iff_ne.2 (h c (List.mem_cons_self ..))
    rw [List.cons_append, splitF_cons, h1, if_neg (by decide), splitF_line L a (fun x hx => h x (List.mem_cons_of_mem _ hx))]
theorem fold_lines {σ : Type} (st : σ → List UInt8 → σ) (k rest : List UInt8) (hk : NoNl k) : ∀ (us : List ByteArray) (s : σ), (∀ x ∈ us, NoNl x.data.toList) → (splitF (linesU k us ++ rest) 10).foldl st s = (splitF rest 10).foldl st (us.foldl (fun s x => st s (k ++ x.data.toList)) s)
  | [], s, _ => by simp [linesU]
  | a :: us, s, h => by
    have e : linesU k (a :: us) ++ rest = (k ++ a.data.toList) ++ 10 :: (linesU k us ++ rest) := by simp [linesU, lineU]
    rw [e, splitF_line _ _ (hk.app (h a (List.mem_cons_self ..))), List.foldl_cons, fold_lines st k rest hk us _ (fun x hx => h x (List.mem_cons_of_mem _ hx)), List.foldl_cons]
/-- A step that reads what is written. -/
structure Reads (st : Un → List UInt8 → Un) : Prop where
  n : ∀ u r, st u (kwUnit ++ r) = u.putN r
  i : ∀ u r, st u (kwInc ++ r) = u.putI r
  a : ∀ u r, st u (kwAx ++ r) = u.putA r
  g : ∀ u r, st u (kwGoal ++ r) = u.putG r
  z : ∀ u, st u [] = u
theorem Reads.incs {st : Un → List UInt8 → Un} (h : Reads st) : ∀ (us : List ByteArray) (u : Un), us.foldl (fun s x => st s (kwInc ++ x.data.toList)) u = { u with incs := u.incs ++ us }
  | [], u => by simp
  | a :: us, u => by rw [List.foldl_cons, h.i, h.incs us, Un.putI, baL_of]; simp
theorem Reads.axs {st : Un → List UInt8 → Un} (h : Reads st) : ∀ (us : List ByteArray) (u : Un), us.foldl (fun s x => st s (kwAx ++ x.data.toList)) u = { u with axs := u.axs ++ us }
  | [], u => by simp
  | a :: us, u => by rw [List.foldl_cons, h.a, h.axs us, Un.putA, baL_of]; simp
theorem Reads.back {st : Un → List UInt8 → Un} (h : Reads st) {u : Un} (hg : u.good = true) : (splitF u.txt 10).foldl st u0 = u := by
  have hp := u.good_parts hg
  have e : u.txt = linesU kwUnit [u.name] ++ (linesU kwInc u.incs ++ (linesU kwAx u.axs ++ (if u.goal.toList == [] then [] else lineU kwGoal u.goal))) := by
    rw [Un.txt]; simp [linesU, List.append_assoc]
  rw [e, fold_lines st _ _ (by decide) _ _ (by intro x hx; rw [List.mem_singleton] at hx; subst hx; exact hp.name.1), fold_lines st _ _ (by decide) _ _ (fun x hx => (hp.incs x hx).1), fold_lines st _ _ (by decide) _ _ (fun x hx => (hp.axs x hx).1), h.incs, h.axs, List.foldl_cons, List.foldl_nil, h.n]
  have ht : u.goal.toList = u.goal.data.toList := ByteArray.toList_eq u.goal
  by_cases hz : u.goal.toList = []
  · rw [if_pos (by rw [hz]; rfl)]
    have : splitF ([] : List UInt8) 10 = [[]] := rfl
    rw [this, List.foldl_cons, List.foldl_nil, h.z]
    have hz2 : u.goal = ⟨#[]⟩ := by apply ByteArray.ext; apply Array.toList_inj.1; rw [← ht, hz]
    obtain ⟨a, b, c, d⟩ := u
    simp only at hz2
    subst hz2
    simp [Un.putN, baL_of, u0]
  · rw [if_neg (by simpa using hz)]
    have e2 : lineU kwGoal u.goal = (kwGoal ++ u.goal.data.toList) ++ 10 :: [] := rfl
    rw [e2, splitF_line _ _ (NoNl.app (by decide) hp.goal.1)]
    have : splitF ([] : List UInt8) 10 = [[]] := rfl
    rw [this, List.foldl_cons, List.foldl_cons, List.foldl_nil, h.z, h.g]
    obtain ⟨a, b, c, d⟩ := u
    simp [Un.putN, Un.putG, baL_of, u0]
theorem stI_reads : Reads stI := by
  refine ⟨fun u r => ?_, fun u r => ?_, fun u r => ?_, fun u r => ?_, fun u => rfl⟩
  · rw [stI, show kwUnit ++ r = kwU ++ 32 :: r from rfl, cut1_yes _ _ _ (by decide)]; exact if_pos rfl
  · rw [stI, show kwInc ++ r = kwI ++ 32 :: r from rfl, cut1_yes _ _ _ (by decide)]
    exact (if_neg (show ¬ kwI = kwU by decide)).trans (if_pos rfl)
  · rw [stI, show kwAx ++ r = kwA ++ 32 :: r from rfl, cut1_yes _ _ _ (by decide)]
    exact (if_neg (show ¬ kwA = kwU by decide)).trans ((if_neg (show ¬ kwA = kwI by decide)).trans (if_pos rfl))
  · rw [stI, show kwGoal ++ r = kwG ++ 32 :: r from rfl, cut1_yes _ _ _ (by decide)]
    exact (if_neg (show ¬ kwG = kwU by decide)).trans ((if_neg (show ¬ kwG = kwI by decide)).trans ((if_neg (show ¬ kwG = kwA by decide)).trans (if_pos rfl)))
theorem stS_reads : Reads stS := by
  refine ⟨fun u r => ?_, fun u r => ?_, fun u r => ?_, fun u r => ?_, fun u => rfl⟩ <;>
    simp [stS, onA, aft, kwUnit, kwInc, kwAx, kwGoal, List.isPrefixOf]
/-! ### Weights -/
def lsum : List (List UInt8) → Nat | [] => 0 | l :: ls => (l.length + 1) + lsum ls
theorem lsum_take : ∀ (ls : List (List UInt8)) (n : Nat), lsum (ls.take n) ≤ lsum ls
  | [], n => by simp [lsum]
  | l :: ls, 0 => by simp [lsum]
  | l :: ls, n + 1 => by have := lsum_take ls n; rw [List.take_succ_cons, lsum, lsum]; omega
theorem lsum_mem : ∀ {ls : List (List UInt8)} {l : List UInt8}, l ∈ ls → l.length + 1 ≤ lsum ls
  | [], _, h => by cases h
  | m :: ls, l, h => by
    rw [lsum]
    rcases List.mem_cons.1 h with rfl | h
    · omega
    · have := lsum_mem h; omega
theorem lsum_split (b : UInt8) : ∀ l : List UInt8, lsum (splitF l b) = l.length + 1
  | [] => rfl
  | x :: l => by
    have ih := lsum_split b l
    rw [splitF_cons]
    split
    · rw [lsum, ih]; simp; omega
    · cases hs : splitF l b with
      | nil => have := splitF_ne l b; rw [hs] at this; simp at this
      | cons p ps => rw [hs, lsum] at ih; rw [lsum]; simp only [List.length_cons]; omega
theorem wtS_snoc : ∀ (us : List ByteArray) (a : ByteArray), wtS (us ++ [a]) = wtS us + a.size
  | [], a => by simp [wtS]
  | b :: us, a => by rw [List.cons_append, wtS, wtS, wtS_snoc us a]; omega
theorem wt_putN (u : Un) (r : List UInt8) : (u.putN r).wt ≤ u.wt + (r.length + 1) := by simp only [Un.putN, Un.wt, baL_size]; omega
theorem wt_putG (u : Un) (r : List UInt8) : (u.putG r).wt ≤ u.wt + (r.length + 1) := by simp only [Un.putG, Un.wt, baL_size]; omega
theorem wt_putI (u : Un) (r : List UInt8) : (u.putI r).wt ≤ u.wt + (r.length + 1) := by simp only [Un.putI, Un.wt, wtS_snoc, baL_size, List.length_append, List.length_cons, List.length_nil]; omega
theorem wt_putA (u : Un) (r : List UInt8) : (u.putA r).wt ≤ u.wt + (r.length + 1) := by simp only [Un.putA, Un.wt, wtS_snoc, baL_size, List.length_append, List.length_cons, List.length_nil]; omega
theorem cut1_le (b : UInt8) : ∀ l : List UInt8, (cut1 l b).1.length ≤ l.length ∧ (cut1 l b).2.1.length ≤ l.length
  | [] => by simp [cut1]
  | x :: l => by
    have := cut1_le b l
    rw [cut1]; split
    · simp
    · simp only [List.length_cons]; omega
theorem stI_wt (u : Un) (l : List UInt8) : (stI u l).wt ≤ u.wt + 1 * (l.length + 1) := by
  have h := (cut1_le 32 l).2
  rw [stI]
  split
  · have := wt_putN u (cut1 l 32).2.1; omega
  split
  · have := wt_putI u (cut1 l 32).2.1; omega
  split
  · have := wt_putA u (cut1 l 32).2.1; omega
  split
  · have := wt_putG u (cut1 l 32).2.1; omega
  · omega
theorem onA_wt {k : List UInt8} {f : Un → List UInt8 → Un} (hf : ∀ u r, (f u r).wt ≤ u.wt + (r.length + 1)) (u : Un) (l : List UInt8) : (onA k f u l).wt ≤ u.wt + (l.length + 1) := by
  rw [onA]; split
  · have := hf u (l.drop k.length); rw [List.length_drop] at this; omega
  · omega
theorem stS_wt (u : Un) (l : List UInt8) : (stS u l).wt ≤ u.wt + 4 * (l.length + 1) := by
  have h1 := onA_wt (k := kwUnit) wt_putN u l
  have h2 := onA_wt (k := kwInc) wt_putI (onA kwUnit Un.putN u l) l
  have h3 := onA_wt (k := kwAx) wt_putA (onA kwInc Un.putI (onA kwUnit Un.putN u l) l) l
  have h4 := onA_wt (k := kwGoal) wt_putG (onA kwAx Un.putA (onA kwInc Un.putI (onA kwUnit Un.putN u l) l) l) l
  rw [stS]; omega
theorem fold_wt {st : Un → List UInt8 → Un} {c : Nat} (h : ∀ u l, (st u l).wt ≤ u.wt + c * (l.length + 1)) : ∀ (ls : List (List UInt8)) (u : Un), (ls.foldl st u).wt ≤ u.wt + c * lsum ls
  | [], u => by simp [lsum]
  | l :: ls, u => by
    have h1 := fold_wt h ls (st u l)
    have h2 := h u l
    rw [List.foldl_cons, lsum, Nat.mul_add]; omega
theorem parI_wt (L : List UInt8) (n : Nat) : (((splitF L 10).take n).foldl stI u0).wt ≤ L.length + 1 := by
  have h1 := fold_wt stI_wt ((splitF L 10).take n) u0
  have h2 := lsum_take (splitF L 10) n
  rw [lsum_split] at h2
  have h3 : u0.wt = 0 := rfl
  omega
theorem parS_wt (L : List UInt8) (n : Nat) : (((splitF L 10).take n).foldl stS u0).wt ≤ 4 * (L.length + 1) := by
  have h1 := fold_wt stS_wt ((splitF L 10).take n) u0
  have h2 := lsum_take (splitF L 10) n
  rw [lsum_split] at h2
  have h3 : u0.wt = 0 := rfl
  omega
/-- A unit's texts are no longer than its weight. -/
theorem wt_sizes {u : Un} {m : Nat} (h : u.wt ≤ m) : u.name.size ≤ m ∧ u.goal.size ≤ m ∧ (∀ s ∈ u.incs, s.size ≤ m) ∧ (∀ s ∈ u.axs, s.size ≤ m) ∧ u.incs.length ≤ m ∧ u.axs.length ≤ m := by
  rw [Un.wt] at h
  refine ⟨by omega, by omega, fun s hs => ?_, fun s hs => ?_, by omega, by omega⟩
  · have := wtS_le u.incs s hs; omega
  · have := wtS_le u.axs s hs; omega
theorem take_fold {σ α : Type} (st : σ → α → σ) (s : σ) {ls : List α} {n : Nat} (h : n < ls.length) : (ls.take (n + 1)).foldl st s = st ((ls.take n).foldl st s) ls[n] := by
  rw [List.take_succ_eq_append_getElem h, List.foldl_append]; rfl
def parI (L : List UInt8) : Un := (splitF L 10).foldl stI u0
def parS (L : List UInt8) : Un := (splitF L 10).foldl stS u0
def puOk (L : List UInt8) : Bool := (parI L).good && (parI L).txt == L
def puV (L : List UInt8) : Un := if puOk L then parI L else u0
theorem puOk_parts {L : List UInt8} (h : puOk L = true) : (parI L).good = true ∧ (parI L).txt = L := by rw [puOk, Bool.and_eq_true] at h; exact ⟨h.1, beq_iff_eq.1 h.2⟩
theorem puS_eq (L : List UInt8) : ((parS L).good && (parS L).txt == L) = puOk L := by
  rw [Bool.eq_iff_iff, puOk, Bool.and_eq_true, Bool.and_eq_true, beq_iff_eq, beq_iff_eq]
  constructor
  · rintro ⟨h1, h2⟩
    have : parI L = parS L := by have := stI_reads.back h1; rwa [h2] at this
    rw [this]; exact ⟨h1, h2⟩
  · rintro ⟨h1, h2⟩
    have : parS L = parI L := by have := stS_reads.back h1; rwa [h2] at this
    rw [this]; exact ⟨h1, h2⟩
theorem puS_same {L : List UInt8} (h : puOk L = true) : parS L = parI L := by
  obtain ⟨h1, h2⟩ := puOk_parts h
  have := stS_reads.back h1; rwa [h2] at this
theorem pu_long {L : List UInt8} (h : 4000 < L.length) : puOk L = false := by
  cases he : puOk L with
  | false => rfl
  | true =>
    obtain ⟨h1, h2⟩ := puOk_parts he
    have := txt_size h1
    rw [h2] at this; omega
end Go.Proofs.YtimpkjiglioflaaGreatDoor
namespace Go.Proofs.YtimpkjiglioflaaGreatDoor
open Go.RowKit
/-- A number's digits, as 'markText' writes them. -/
def markL (n : Nat) : List UInt8 := if _ : n = 0 then [] else markL (n / 10) ++ [UInt8.ofNat (48 + n % 10)]
termination_by n
theorem markL_zero : markL 0 = [] := by rw [markL]; rfl
theorem markL_pos {n : Nat} (h : n ≠ 0) : markL n = markL (n / 10) ++ [UInt8.ofNat (48 + n % 10)] := by rw [markL, dif_neg h]
theorem markL_len (n : Nat) : (markL n).length ≤ n := by
  induction n using Nat.strongRecOn with
  | _ n ih =>
    by_cases h : n = 0
    · subst h; rw [markL_zero]; exact Nat.le_refl _
    · rw [markL_pos h, List.length_append]
      have := ih (n / 10) (by omega)
      simp; omega
def markB (n : Nat) : ByteArray := ⟨(109 :: markL n).toArray⟩
theorem digit_conv (w : World) (v : Int) (x : UInt8) (hv : v = x.toNat) :
    (convert 48 9 (.slice (some ⟨w.heap.size, 0, none⟩) 1 1)).run Tryz.prog (w.alloc (.cells #[.int .u8 v] 5)) = .ok (.string ⟨#[x]⟩) (w.alloc (.cells #[.int .u8 v] 5)) := by
  subst hv
  have h := run_convert_bytes_back (P := Tryz.prog) (w.alloc (.cells #[.int .u8 x.toNat] 5)) 48 9 5 ⟨w.heap.size, 0, none⟩ 1 [x] Tryz.underlying48 Tryz.underlying5 Tryz.underlying9 ?_
  · exact h
  · intro j hj
    have hj0 : j = 0 := by simpa using hj
    subst hj0
    have e : (⟨w.heap.size, 0, none⟩ : Addr).add 0 = ⟨w.heap.size, 0, none⟩ := by unfold Addr.add; simp
    rw [e, World.cell?_alloc_new]; rfl
theorem digit_val (k : Nat) : 48 + (k : Int) % 10 = ((UInt8.ofNat (48 + k % 10)).toNat : Int) := by
  rw [UInt8.toNat_ofNat']; omega
def MarkRel (n : Nat) (w : World) (d i : Value) (wr : World) : Prop :=
  ∃ (k : Nat) (l : List UInt8), k ≤ n ∧ i = .int .i64 k ∧ d = .string ⟨l.toArray⟩ ∧ markL k ++ l = markL n ∧ Below w.heap.size w wr
set_option maxRecDepth 100000 in
set_option maxHeartbeats 800000 in
theorem markText_any (n : Nat) (w : World) (h0 : 0 < n) (h1 : n ≤ 100000000) :
    Calls Tryz.prog 57 #[.int .i64 n] w fun e w' => e = .returned (.string (markB n)) ∧ Below w.heap.size w w' := by
  have hn : ¬ (n : Int) ≤ 0 := by omega
  go_enter Tryz.func57, Tryz.ntmps57
  go_wp2
  go_loopw [3, 0] (MarkRel n w) (fun _ i _ => (intOf i).toNat)
  case atStart => exact ⟨n, [], Nat.le_refl _, rfl, rfl, by simp, Below.refl _ _⟩
  case round =>
    obtain ⟨k, l, hk, rfl, rfl, hl, hb⟩ := hrel
    have HL := Lib.hid hl
    clear hl
    by_cases hk0 : 0 < (k : Int)
    · have kd := fun (w : World) => digit_conv w (48 + (k : Int) % 10) _ (digit_val k)
      have hll : ¬ 9223372036854775807 < 1 + l.length := by
        have h2 := congrArg List.length HL.out
        have h3 := markL_len n
        simp only [List.length_append] at h2; omega
      go_wp2
      refine ⟨⟨k / 10, (48 + UInt8.ofNat (k % 10)) :: l, by omega, by simp, ?_, ?_, ?_⟩, by simp [intOf]; omega⟩
      · exact congrArg Value.string (by apply ByteArray.ext; simp)
      · rw [← HL.out, markL_pos (n := k) (by omega), List.append_assoc]
        exact congrArg _ (congrArg (· :: l) (by rw [UInt8.ofNat_add]; rfl))
      · exact hb.alloc hb.size _
    · have hk1 : k = 0 := by omega
      subst hk1
      have hll : ¬ 9223372036854775807 < 1 + l.length := by
        have h2 := congrArg List.length HL.out
        have h3 := markL_len n
        simp only [List.length_append] at h2; omega
      go_wp2
      go_ret
      refine ⟨congrArg Ending.returned (congrArg Value.string ?_), hb⟩
      have h2 := HL.out
      rw [markL_zero, List.nil_append] at h2
      rw [markB, ← h2]; apply ByteArray.ext; simp
end Go.Proofs.YtimpkjiglioflaaGreatDoor
namespace Go.Proofs.YtimpkjiglioflaaGreatDoor
open Go.RowKit
/-- All blocks outside S are as they were. -/
structure Kept (S : Nat → Prop) (w w' : World) : Prop where
  os : w'.os = w.os
  tape : w'.tape = w.tape
  output : w'.output = w.output
  size : w.heap.size ≤ w'.heap.size
  block : ∀ b, b < w.heap.size → ¬ S b → w'.heap[b]? = w.heap[b]?
theorem Kept.refl (S : Nat → Prop) (w : World) : Kept S w w := ⟨rfl, rfl, rfl, Nat.le_refl _, fun _ _ _ => rfl⟩
theorem Kept.trans {S : Nat → Prop} {w w1 w2 : World} (h : Kept S w w1) (h2 : Kept S w1 w2) : Kept S w w2 :=
  ⟨h2.os.trans h.os, h2.tape.trans h.tape, h2.output.trans h.output, Nat.le_trans h.size h2.size, fun b hb hs => (h2.block b (Nat.lt_of_lt_of_le hb h.size) hs).trans (h.block b hb hs)⟩
theorem Kept.below {S : Nat → Prop} {w w1 w2 : World} (h : Kept S w w1) (h2 : Below w1.heap.size w1 w2) : Kept S w w2 :=
  ⟨h2.os.trans h.os, h2.tape.trans h.tape, h2.output.trans h.output, Nat.le_trans h.size h2.size, fun b hb hs => (h2.block b (Nat.lt_of_lt_of_le hb h.size)).trans (h.block b hb hs)⟩
theorem Kept.set {S : Nat → Prop} {w w1 : World} (h : Kept S w w1) {g : Nat} (hg : S g) (j : Nat) (v : Value) : Kept S w (w1.setCell ⟨g, j, none⟩ v) :=
  ⟨h.os, h.tape, h.output, by simpa using h.size, fun b hb hs => (heap_setCell_other w1 ⟨g, j, none⟩ b v (fun e => hs (by have e' : b = g := e; rw [e']; exact hg))).trans (h.block b hb hs)⟩
theorem Kept.mono {S S' : Nat → Prop} {w w1 : World} (h : Kept S w w1) (hS : ∀ b, S b → S' b) : Kept S' w w1 := ⟨h.os, h.tape, h.output, h.size, fun b hb hs => h.block b hb (fun e => hs (hS b e))⟩
theorem blk_lt {w : World} {b : Nat} {o : Obj} (h : w.heap[b]? = some o) : b < w.heap.size := by
  rcases Nat.lt_or_ge b w.heap.size with h' | h'
  · exact h'
  · rw [Array.getElem?_eq_none h'] at h; cases h
theorem markB_size (q : Nat) (h : q ≤ 100000000) : (markB q).size ≤ maxLen := by
  have := markL_len q
  simp only [markB, ByteArray.size, List.size_toArray, List.length_cons]
  unfold maxLen; omega
/-- Block g's cells from a place on are cs, all others as in cur. -/
def Patch (cur cur' : Array Value) (o : Nat) (cs : List Value) : Prop := cur'.size = cur.size ∧ (∀ j, j < cs.length → cur'[o + j]? = cs[j]?) ∧ ∀ k, (k < o ∨ o + cs.length ≤ k) → cur'[k]? = cur[k]?
theorem Patch.refl {cur : Array Value} {o : Nat} {cs : List Value} (h : ∀ j, j < cs.length → cur[o + j]? = cs[j]?) : Patch cur cur o cs := ⟨rfl, h, fun _ _ => rfl⟩
theorem Patch.set {cur cur' : Array Value} {o : Nat} {cs : List Value} (h : Patch cur cur' o cs) {j : Nat} (hj : j < cs.length) (hb : o + cs.length ≤ cur.size) (v : Value) : Patch cur (cur'.setIfInBounds (o + j) v) o (cs.set j v) := by
  obtain ⟨h1, h2, h3⟩ := h
  refine ⟨by simpa using h1, fun i hi => ?_, fun k hk => ?_⟩
  · rw [List.length_set] at hi
    by_cases e : j = i
    · subst e
      rw [Array.getElem?_setIfInBounds_self_of_lt (by omega), List.getElem?_set_self hj]
    · rw [Array.getElem?_setIfInBounds_ne (by omega), List.getElem?_set_ne e, h2 i hi]
  · rw [List.length_set] at hk
    rw [Array.getElem?_setIfInBounds_ne (by omega), h3 k hk]
theorem OwnRow.elem {α : Type} {S : Nat → Prop} {w : World} {e : TypeId} {size : Nat} {R : (Nat → Prop) → α → List Value → Prop} {v : Value} {xs : List α} {i : Nat} {x : α} (h : OwnRow S w e size R v xs) (hi : xs[i]? = some x) :
    ∃ (g cap : Nat) (cs : List Value) (Si : Nat → Prop) (cur : Array Value), v = .slice (some ⟨g, 0, none⟩) xs.length cap ∧ S g ∧ w.heap[g]? = some (.cells cur e (0, 0)) ∧ cs.length = size ∧ i * size + size ≤ cur.size ∧ (∀ j, j < size → cur[i * size + j]? = cs[j]?) ∧ R Si x cs ∧ (∀ b, Si b → S b ∧ b ≠ g) ∧
      ∀ (w' : World) (x' : α) (cs' : List Value) (cur' : Array Value) (R' : (Nat → Prop) → α → List Value → Prop), cs'.length = size → w'.heap[g]? = some (.cells cur' e (0, 0)) → Patch cur cur' (i * size) cs' → R' Si x' cs' → (∀ T y c, (∀ b, T b → S b ∧ b ≠ g ∧ ¬ Si b) → R T y c → R' T y c) → OwnRow S w' e size R' v (xs.set i x') := by
  obtain ⟨hm, vals, Ss, h1, h2, h3, h4⟩ := h
  have hlt : i < xs.length := (List.getElem?_eq_some_iff.1 hi).1
  rcases h1.2 with ⟨rfl, h0⟩ | ⟨g, cap, cur, rfl, _, hh, hc1, hc2, hc3, hc4⟩
  · omega
  have h5 : (i + 1) * size ≤ xs.length * size := Nat.mul_le_mul_right _ hlt
  rw [Nat.succ_mul] at h5
  have h6 : xs.length * size ≤ cap * size := Nat.mul_le_mul_right _ hc1
  have hvl : vals.length = xs.length * size := h1.1
  have hcv : ∀ k, k < xs.length * size → cur[k]? = vals[k]? := fun k hk => by
    rw [← hc4, List.getElem?_take, if_pos hk]; simp
  refine ⟨g, cap, (vals.drop (i * size)).take size, Ss i, cur, rfl, h2 g rfl, hh, by rw [List.length_take, List.length_drop]; omega, by omega, fun j hj => ?_, (h3 i x hi).1, fun b hb => ⟨((h3 i x hi).2 b hb).1, fun e => ((h3 i x hi).2 b hb).2 (by rw [e]; rfl)⟩, ?_⟩
  · rw [hcv _ (by omega), List.getElem?_take, if_pos hj, List.getElem?_drop]
  · intro w' x' cs' cur' R' hl hh' hp hx' hR
    have hcur' : ∀ k, k < xs.length * size → (cur'.toList.take (xs.length * size))[k]? = cur'[k]? := fun k hk => by rw [List.getElem?_take, if_pos hk]; simp
    have e1 : cur'.toList.length = cap * size := (Array.length_toList (xs := cur')).trans (hp.1.trans hc3)
    have hlen' : (cur'.toList.take (xs.length * size)).length = (xs.set i x').length * size := by rw [List.length_take, e1, List.length_set]; omega
    refine ⟨by simpa using hm, cur'.toList.take (xs.length * size), Ss, ⟨hlen', .inr ⟨g, cap, cur', by rw [List.length_set], Nat.zero_le _, hh', by rw [List.length_set]; exact hc1, hc2, by rw [hp.1]; exact hc3, by rw [List.length_set]⟩⟩, h2, fun j y hy => ?_, fun j j' b hj hj' hne => h4 j j' b (by simpa using hj) (by simpa using hj') hne⟩
    have hj : j < xs.length := by have := (List.getElem?_eq_some_iff.1 hy).1; simpa using this
    have h7 : (j + 1) * size ≤ xs.length * size := Nat.mul_le_mul_right _ hj
    rw [Nat.succ_mul] at h7
    by_cases ej : i = j
    · subst ej
      rw [List.getElem?_set_self hlt] at hy
      obtain rfl : x' = y := Option.some.inj hy
      refine ⟨?_, (h3 i x hi).2⟩
      have : ((cur'.toList.take (xs.length * size)).drop (i * size)).take size = cs' := by
        apply List.ext_getElem?
        intro k
        rw [List.getElem?_take]
        split
        · rename_i hk
          rw [List.getElem?_drop, hcur' _ (by omega), hp.2.1 k (by omega)]
        · rw [List.getElem?_eq_none (by omega)]
      rw [this]; exact hx'
    · rw [List.getElem?_set_ne ej] at hy
      obtain ⟨k1, k2⟩ := h3 j y hy
      refine ⟨?_, k2⟩
      have : ((cur'.toList.take (xs.length * size)).drop (j * size)).take size = (vals.drop (j * size)).take size := by
        apply List.ext_getElem?
        intro k
        rw [List.getElem?_take, List.getElem?_take]
        split
        · rename_i hk
          have hside : j * size + k < i * size ∨ i * size + size ≤ j * size + k := by
            rcases Nat.lt_or_ge j i with hlt2 | hge
            · have h8 : (j + 1) * size ≤ i * size := Nat.mul_le_mul_right _ hlt2
              rw [Nat.succ_mul] at h8; omega
            · have h8 : (i + 1) * size ≤ j * size := Nat.mul_le_mul_right _ (by omega)
              rw [Nat.succ_mul] at h8; omega
          rw [List.getElem?_drop, List.getElem?_drop, hcur' _ (by omega), hp.2.2 _ (by omega), hcv _ (by omega)]
        · rfl
      rw [this]
      exact hR _ _ _ (fun b hb => ⟨(k2 b hb).1, fun e => (k2 b hb).2 (by rw [e]; rfl), fun e => h4 i j b hlt hj ej e hb⟩) k1
end Go.Proofs.YtimpkjiglioflaaGreatDoor
namespace Go.Proofs.YtimpkjiglioflaaGreatDoor
open Go.RowKit
/-- Of the row in block g (n elements, each of so many cells) the first k read as the list's; each one's memory is its own. -/
structure FillRow {α : Type} (S : Nat → Prop) (w : World) (e : TypeId) (size : Nat) (R : (Nat → Prop) → World → α → List Value → Prop) (g n k : Nat) (us : List α) : Prop where
  own : S g
  row : ∃ cur : Array Value, w.heap[g]? = some (.cells cur e (0, 0)) ∧ cur.size = n * size ∧ ∃ Ss : Nat → Nat → Prop,
    (∀ j x, j < k → us[j]? = some x → ∃ cs : List Value, cs.length = size ∧ (∀ i, i < size → cur[j * size + i]? = cs[i]?) ∧ R (Ss j) w x cs ∧ ∀ b, Ss j b → S b ∧ b ≠ g ∧ b < w.heap.size) ∧
    ∀ i j b, i < k → j < k → i ≠ j → Ss i b → ¬ Ss j b
theorem FillRow.start {α : Type} {S : Nat → Prop} {w : World} {e : TypeId} {size base g n : Nat} {R : (Nat → Prop) → World → α → List Value → Prop} {xs : List Value} {us : List α} (hS : S g) (h : w.ownsRow base e size (.slice (some ⟨g, 0, none⟩) n n) n xs) : FillRow S w e size R g n 0 us := by
  refine ⟨hS, ?_⟩
  rcases h.2 with ⟨h0, _⟩ | ⟨g', cap, cur, hv, _, hh, _, _, hc, _⟩
  · cases h0
  · simp only [Value.slice.injEq, Option.some.injEq, Addr.mk.injEq, and_true, true_and] at hv
    obtain ⟨rfl, rfl⟩ := hv
    exact ⟨cur, hh, hc, fun _ _ => False, fun j x hj => absurd hj (Nat.not_lt_zero _), fun i j b hi => absurd hi (Nat.not_lt_zero _)⟩
theorem FillRow.later {α : Type} {S : Nat → Prop} {w w1 : World} {e : TypeId} {size g n k : Nat} {R : (Nat → Prop) → World → α → List Value → Prop} {us : List α} (h : FillRow S w e size R g n k us) (hb : Below w.heap.size w w1)
    (hm : ∀ T x cs, (∀ b, T b → b < w.heap.size) → R T w x cs → R T w1 x cs) : FillRow S w1 e size R g n k us := by
  obtain ⟨hS, cur, hh, hc, Ss, h1, h2⟩ := h
  refine ⟨hS, cur, (hb.block g (blk_lt hh)).trans hh, hc, Ss, fun j x hj hx => ?_, h2⟩
  obtain ⟨cs, a1, a2, a3, a4⟩ := h1 j x hj hx
  exact ⟨cs, a1, a2, hm _ _ _ (fun b hb => (a4 b hb).2.2) a3, fun b hb' => ⟨(a4 b hb').1, (a4 b hb').2.1, Nat.lt_of_lt_of_le (a4 b hb').2.2 hb.size⟩⟩
theorem FillRow.wider {α : Type} {S S' : Nat → Prop} {w : World} {e : TypeId} {size g n k : Nat} {R : (Nat → Prop) → World → α → List Value → Prop} {us : List α} (h : FillRow S w e size R g n k us) (hS : ∀ b, S b → S' b) : FillRow S' w e size R g n k us := by
  obtain ⟨h0, cur, hh, hc, Ss, h1, h2⟩ := h
  refine ⟨hS _ h0, cur, hh, hc, Ss, fun j x hj hx => ?_, h2⟩
  obtain ⟨cs, a1, a2, a3, a4⟩ := h1 j x hj hx
  exact ⟨cs, a1, a2, a3, fun b hb => ⟨hS _ (a4 b hb).1, (a4 b hb).2⟩⟩
theorem FillRow.lt {α : Type} {S : Nat → Prop} {w : World} {e : TypeId} {size g n k : Nat} {R : (Nat → Prop) → World → α → List Value → Prop} {us : List α} (h : FillRow S w e size R g n k us) : g < w.heap.size := by
  obtain ⟨_, _, hh, _⟩ := h; exact blk_lt hh
theorem FillRow.cell {α : Type} {S : Nat → Prop} {w : World} {e : TypeId} {size g n k : Nat} {R : (Nat → Prop) → World → α → List Value → Prop} {us : List α} (h : FillRow S w e size R g n k us) (j : Nat) (hj : j < n * size) : (∃ q, w.cell? ⟨g, j, none⟩ = some q) ∧ w.frozen? ⟨g, j, none⟩ = false := by
  obtain ⟨_, cur, hh, hc, _⟩ := h
  exact ⟨⟨cur[j], (cell_of_row w g j cur _ (0, 0) hh).trans (Array.getElem?_eq_getElem (by omega))⟩, frozen_of_row w g j _ _ hh⟩
theorem FillRow.put {α : Type} {S T : Nat → Prop} {w w1 w2 : World} {e : TypeId} {size g n k : Nat} {R : (Nat → Prop) → World → α → List Value → Prop} {us : List α} {x : α} {cs : List Value} (h : FillRow S w e size R g n k us) (hk : k < n) (hx : us[k]? = some x)
    (hb : Below w.heap.size w w1) (hl : cs.length = size) (hR : R T w2 x cs) (hT : ∀ b, T b → S b ∧ b ≠ g ∧ w.heap.size ≤ b ∧ b < w2.heap.size)
    (hp : ∀ cur : Array Value, w1.heap[g]? = some (.cells cur e (0, 0)) → k * size + size ≤ cur.size → ∃ cur', w2.heap[g]? = some (.cells cur' e (0, 0)) ∧ Patch cur cur' (k * size) cs)
    (hsz : w1.heap.size ≤ w2.heap.size) (hm : ∀ T x cs, (∀ b, T b → b < w.heap.size ∧ b ≠ g) → R T w x cs → R T w2 x cs) : FillRow S w2 e size R g n (k + 1) us := by
  obtain ⟨hS, cur, hh, hc, Ss, h1, h2⟩ := h
  have hg := blk_lt hh
  have h5 : (k + 1) * size ≤ n * size := Nat.mul_le_mul_right _ hk
  rw [Nat.succ_mul] at h5
  obtain ⟨cur', hh', hpt⟩ := hp cur ((hb.block g hg).trans hh) (by omega)
  have hws := hb.size
  refine ⟨hS, cur', hh', hpt.1.trans hc, fun j => if j = k then T else Ss j, fun j y hj hy => ?_, fun i j b hi hj hij hbi => ?_⟩
  · by_cases e : j = k
    · subst e
      rw [hx] at hy
      obtain rfl := Option.some.inj hy
      simp only [if_pos]
      exact ⟨cs, hl, fun i hi => hpt.2.1 i (by omega), hR, fun b hb' => ⟨(hT b hb').1, (hT b hb').2.1, (hT b hb').2.2.2⟩⟩
    · obtain ⟨ds, a1, a2, a3, a4⟩ := h1 j y (by omega) hy
      simp only [if_neg e]
      refine ⟨ds, a1, fun i hi => ?_, hm _ _ _ (fun b hb' => ⟨(a4 b hb').2.2, (a4 b hb').2.1⟩) a3, fun b hb' => ⟨(a4 b hb').1, (a4 b hb').2.1, by have := (a4 b hb').2.2; omega⟩⟩
      have h6 : (j + 1) * size ≤ k * size := Nat.mul_le_mul_right _ (by omega)
      rw [Nat.succ_mul] at h6
      rw [hpt.2.2 _ (.inl (by omega))]; exact a2 i hi
  · by_cases e : i = k
    · have ej : ¬ j = k := by omega
      simp only [if_pos e] at hbi
      simp only [if_neg ej]
      intro hbj
      rcases Nat.lt_or_ge j us.length with hlt | hge
      · obtain ⟨ds, _, _, _, a4⟩ := h1 j us[j] (by omega) (List.getElem?_eq_getElem hlt)
        have := (a4 b hbj).2.2
        have := (hT b hbi).2.2.1
        omega
      · have := (List.getElem?_eq_some_iff.1 hx).1; omega
    · simp only [if_neg e] at hbi
      by_cases ej : j = k
      · simp only [if_pos ej]
        intro hbj
        rcases Nat.lt_or_ge i us.length with hlt | hge
        · obtain ⟨ds, _, _, _, a4⟩ := h1 i us[i] (by omega) (List.getElem?_eq_getElem hlt)
          have := (a4 b hbi).2.2
          have := (hT b hbj).2.2.1
          omega
        · have := (List.getElem?_eq_some_iff.1 hx).1; omega
      · simp only [if_neg ej]
        exact h2 i j b (by omega) (by omega) hij hbi
theorem FillRow.done {α : Type} {S : Nat → Prop} {w : World} {e : TypeId} {size g : Nat} {R : (Nat → Prop) → World → α → List Value → Prop} {us : List α} (h : FillRow S w e size R g us.length us.length us) (hm : us.length ≤ maxLen) : OwnRow S w e size (fun T x cs => R T w x cs) (.slice (some ⟨g, 0, none⟩) us.length us.length) us := by
  obtain ⟨hS, cur, hh, hc, Ss, h1, h2⟩ := h
  refine ⟨hm, cur.toList, Ss, ⟨by simpa using hc, .inr ⟨g, us.length, cur, rfl, Nat.zero_le _, hh, Nat.le_refl _, hm, hc, by rw [List.take_of_length_le (by simp [hc])]⟩⟩, fun g' hg' => ?_, fun i x hx => ?_, h2⟩
  · have : g = g' := by simpa [Value.ownBlock] using hg'
    exact this ▸ hS
  · have hi := (List.getElem?_eq_some_iff.1 hx).1
    obtain ⟨cs, a1, a2, a3, a4⟩ := h1 i x hi hx
    have h6 : (i + 1) * size ≤ us.length * size := Nat.mul_le_mul_right _ hi
    rw [Nat.succ_mul] at h6
    have : (cur.toList.drop (i * size)).take size = cs := by
      apply List.ext_getElem?
      intro j
      rw [List.getElem?_take]
      split
      · rename_i hj
        rw [List.getElem?_drop, Array.getElem?_toList]; exact a2 j hj
      · rw [List.getElem?_eq_none (by omega)]
    rw [this]
    exact ⟨a3, fun b hb => ⟨(a4 b hb).1, fun e => (a4 b hb).2.1 (by simpa [Value.ownBlock] using e.symm)⟩⟩
end Go.Proofs.YtimpkjiglioflaaGreatDoor
namespace Go.Proofs.YtimpkjiglioflaaGreatDoor
open Go.RowKit
def StrOwn (e : TypeId) (S : Nat → Prop) (w : World) (us : List ByteArray) (v : Value) : Prop := OwnRow S w e 1 (fun _ s cs => StrAt s cs) v us
theorem StrOwn.mono {e : TypeId} {S S' : Nat → Prop} {w w' : World} {us : List ByteArray} {v : Value} (hs : SameOn S w w') (hS : ∀ b, S b → S' b) (h : StrOwn e S w us v) : StrOwn e S' w' us v := OwnRow.mono h hs hS (fun _ _ _ _ _ hx => hx)
theorem StrOwn.at_ {e : TypeId} {S : Nat → Prop} {w : World} {us : List ByteArray} {v : Value} (h : StrOwn e S w us v) : StrsAt S w v us := OwnRow.listAt (by omega) h (fun _ _ _ _ _ hx => hx)
theorem StrOwn.later {e : TypeId} {S : Nat → Prop} {w w' : World} {us : List ByteArray} {v : Value} (hb : Below w.heap.size w w') (h : StrOwn e S w us v) : StrOwn e S w' us v := h.mono (SameOn.below hb) (fun _ h => h)
def strW (l : List ByteArray) : List Value := l.map Value.string
theorem strW_snoc (l : List ByteArray) (s : ByteArray) : strW (l ++ [s]) = strW l ++ [Value.string s] := by simp [strW]
/-- A row of texts that lies by itself. -/
theorem rowS_own {S : Nat → Prop} {w : World} {base : Nat} {e : TypeId} {v : Value} {us : List ByteArray} (h : w.ownsRow base e 1 v us.length (strW us)) (hz : ∀ s ∈ us, s.size ≤ maxLen) (hm : us.length ≤ maxLen) (hS : ∀ g, v.ownBlock = some g → S g) : StrOwn e S w us v := by
  refine ⟨hm, strW us, fun _ _ => False, own_lower h (Nat.zero_le _), hS, fun i x hx => ⟨⟨?_, hz x (List.mem_of_getElem? hx)⟩, fun b hb => hb.elim⟩, fun i j b hi hj hij hb => hb.elim⟩
  have hi := (List.getElem?_eq_some_iff.1 hx).1
  have hx' := (List.getElem?_eq_some_iff.1 hx).2
  rw [Nat.mul_one, List.drop_eq_getElem_cons (by simpa [strW] using hi), List.take_succ_cons, List.take_zero]
  simp [strW, hx']
/-- The marks from k on. -/
def marksL (k n : Nat) : List ByteArray := (List.range n).map fun i => markB (k + i)
theorem marksL_len (k n : Nat) : (marksL k n).length = n := by simp [marksL]
theorem marksL_snoc (k n : Nat) : marksL k (n + 1) = marksL k n ++ [markB (k + n)] := by simp [marksL, List.range_succ]
theorem marksL_at {k n j : Nat} (h : j < n) : (marksL k n)[j]? = some (markB (k + j)) := by simp [marksL, h]
def MarkSRel (S : Nat → Prop) (us : List ByteArray) (v : Value) (k : Nat) (w : World) (kv i : Value) (wr : World) : Prop :=
  ∃ j : Nat, i = .int .i64 (j : Nat) ∧ kv = .int .i64 ((k + j : Nat) : Int) ∧ j ≤ us.length ∧ StrOwn 9 S wr (marksL k j ++ us.drop j) v ∧ Kept S w wr
set_option maxRecDepth 100000 in
set_option maxHeartbeats 1600000 in
theorem markStringS_any (S : Nat → Prop) (us : List ByteArray) (v : Value) (k : Nat) (w : World) (h : StrOwn 9 S w us v) (hk : 0 < k) (hb : k + us.length ≤ 100000000) :
  Calls Tryz.prog 25 #[v, .int .i64 (k : Nat)] w fun e w' => e = .returned (.int .i64 ((k + us.length : Nat) : Int)) ∧ StrOwn 9 S w' (marksL k us.length) v ∧ Kept S w w' := by
  obtain ⟨p, c, rfl, hlen⟩ := OwnRow.form h
  unfold maxLen at hlen
  have H := Lib.hid h
  clear h
  go_enter Tryz.func25, Tryz.ntmps25
  go_wp2
  go_loopw [1, 5] (MarkSRel S us (.slice p us.length c) k w) (fun _ i _ => us.length - (intOf i).toNat)
  case atStart => exact ⟨0, rfl, rfl, Nat.zero_le _, H.out, Kept.refl _ _⟩
  case round =>
    obtain ⟨j, rfl, rfl, hju, hrow, hkp⟩ := hrel
    have HKP := Lib.hid hkp
    clear hkp
    by_cases hlt : j < us.length
    · have hx : (marksL k j ++ us.drop j)[j]? = some us[j] := by rw [List.getElem?_append_right (by rw [marksL_len]; omega), marksL_len, Nat.sub_self, List.getElem?_drop, Nat.add_zero, List.getElem?_eq_getElem hlt]
      obtain ⟨g, cap, cs, Si, cur, hv, hSg, hh, hcl, hsz, hcs, hR, hSi, hclose⟩ := OwnRow.elem hrow hx
      have HCL := Lib.hid hclose
      clear hrow hclose hx
      have hset : ∀ y, (marksL k j ++ us.drop j).set j y = (marksL k j ++ [y]) ++ us.drop (j + 1) := fun y => by
        rw [List.set_append_right _ _ (by rw [marksL_len]; omega), marksL_len, Nat.sub_self, List.append_assoc, List.singleton_append]
        have e := List.drop_eq_getElem_cons hlt
        rw [e]; rfl
      have HSET := Lib.hid hset
      clear hset
      generalize us[j] = a at *
      obtain ⟨rfl, -⟩ := hR
      simp only [Value.slice.injEq] at hv
      obtain ⟨rfl, -, rfl⟩ := hv
      have HHH := Lib.hid hh
      have c0 : wr.cell? ⟨g, j, none⟩ = some (.string a) := by have := (cell_of_row wr g (j * 1 + 0) cur _ (0, 0) hh).trans (hcs 0 (by omega)); simpa using this
      have cf : ∀ i, wr.frozen? ⟨g, i, none⟩ = false := fun i => frozen_of_row wr g i _ _ hh
      have hgl := bsz (blk_lt hh)
      clear hh
      go_wp2_with fail
      refine (markText_any (k + j) _ (by omega) (by omega)).mono ?_
      rintro e w1 ⟨rfl, hb1⟩
      have ⟨cb, fb⟩ := bcell hb1
      have hq1 := hb1.size
      have hg1 := bsz (show g < w1.heap.size by omega)
      go_wp2
      refine ⟨⟨j + 1, by go_num, by go_num, by omega, ?_, ?_⟩, by simp [intOf]; omega⟩
      · rw [marksL_snoc, ← HSET.out]
        have hpt : Patch cur (cur.setIfInBounds (j * 1 + 0) (.string (markB (k + j)))) (j * 1) [.string (markB (k + j))] := Patch.set (cs := [.string a]) (Patch.refl hcs) (j := 0) (by simp) hsz _
        refine HCL.out _ (markB (k + j)) [.string (markB (k + j))] (cur.setIfInBounds (j * 1 + 0) (.string (markB (k + j)))) _ rfl ?_ hpt ⟨rfl, markB_size (k + j) (by omega)⟩ (fun T y c hT hy => hy)
        have := heap_setCell_same w1 g j cur _ (.string (markB (k + j))) ((hb1.block g (by omega)).trans HHH.out)
        rw [Nat.mul_one, Nat.add_zero]; exact this
      · exact HKP.out.trans (((Kept.refl S wr).below hb1).set hSg _ _)
    · obtain rfl : j = us.length := by omega
      rw [List.drop_length, List.append_nil] at hrow
      have HRW := Lib.hid hrow
      clear hrow
      go_wp2
      go_ret
      exact ⟨rfl, HRW.out, HKP.out⟩
set_option maxRecDepth 100000 in
set_option maxHeartbeats 1600000 in
theorem heldStringS_any {B : Nat → Prop} (n : Nat) (v : Value) (k : Nat) (w : World) (h : StrsAt B w v (marksL k n)) (hk : 0 < k) (hb0 : k + n ≤ 100000000) :
  Calls Tryz.prog 26 #[v, .int .i64 (k : Nat)] w fun e w' => e = .returned (.int .i64 ((k + n : Nat) : Int)) ∧ Below w.heap.size w w' := by
  obtain ⟨p, c, rfl, hlen⟩ := h.form
  unfold maxLen at hlen
  rw [marksL_len] at h hlen ⊢
  have HL := Lib.hid h
  clear h
  go_enter Tryz.func26, Tryz.ntmps26
  go_wp2
  go_loopw [1, 5] (fun kv i wr => ∃ j : Nat, i = .int .i64 (j : Nat) ∧ kv = .int .i64 ((k + j : Nat) : Int) ∧ j ≤ n ∧ Below w.heap.size w wr) (fun _ i _ => n - (intOf i).toNat)
  case atStart => exact ⟨0, rfl, rfl, Nat.zero_le _, by (repeat (first | with_reducible exact Below.refl _ _ | with_reducible assumption | with_reducible refine Below.al ?_ _ | with_reducible refine Below.sc ?_ (by first | exact Nat.le_refl _ | (simp; done) | (simp; omega)) _ | assumption | exact Below.refl _ _ | refine Below.dr ?_ | refine Below.drN ?_ _ | refine Below.step ?_ (by assumption)))⟩
  case round =>
    obtain ⟨j, rfl, rfl, hju, hb⟩ := hrel
    by_cases hlt : j < n
    · have hl := HL.out.below hb
      obtain ⟨b, o, rfl, hB, hx0, -⟩ := StrsAt.at_ hl (i := j) (by rw [marksL_len]; exact hlt)
      have hxe : (marksL k n)[j]'(by rw [marksL_len]; exact hlt) = markB (k + j) := by have := marksL_at (k := k) hlt; rw [List.getElem?_eq_getElem (by rw [marksL_len]; exact hlt)] at this; exact Option.some.inj this
      rw [hxe] at hx0
      clear hxe hl
      have zb := bsz (World.block_lt_of_cell? _ _ hx0)
      go_wp2
      obtain ⟨C, HC0⟩ := class_of (InF wr.heap.size _ [(⟨b, o + j, none⟩, .string (markB (k + j)))] [] [])
      have HC := Lib.hid HC0
      clear HC0
      refine wp_region_flow (C := C) (by kernel_rfl) (by kernel_rfl) (fun L hL => (HC.out _ _).2 (InF.start (by first | (intro _ hs; cases hs; done) | (simp only [List.forall_mem_cons]; go_simp)) (by first | (intro _ hs; cases hs; done) | (simp only [List.forall_mem_cons]; go_simp)) (by first | (intro _ hs; cases hs; done) | (simp only [List.forall_mem_cons]; go_simp)) (by first | (intro _ hs; cases hs; done) | (simp only [List.forall_mem_cons]; go_simp)) L hL)) ?_
      repeat (first | (apply flow_free rfl; (intro L w' hun hrd hC; have hC := (HC.out _ _).1 hC; have hb' := hC.below; (try have hw' : Below w.heap.size w w' := by first | exact Below.trans (by (repeat (first | with_reducible exact Below.refl _ _ | with_reducible assumption | with_reducible refine Below.al ?_ _ | with_reducible refine Below.sc ?_ (by first | exact Nat.le_refl _ | (simp; done) | (simp; omega)) _ | assumption | exact Below.refl _ _ | refine Below.dr ?_ | refine Below.drN ?_ _ | refine Below.step ?_ (by assumption)))) hb' | ((repeat (first | with_reducible exact Below.refl _ _ | with_reducible assumption | with_reducible refine Below.al ?_ _ | with_reducible refine Below.sc ?_ (by first | exact Nat.le_refl _ | (simp; done) | (simp; omega)) _ | assumption | exact Below.refl _ _ | refine Below.dr ?_ | refine Below.drN ?_ _ | refine Below.step ?_ (by assumption))); done)); have hf' := hC.cell; (try simp only [List.forall_mem_cons] at hf'); go_simp; first | exact ⟨(HC.out _ _).2 (hC.skip _ (by rfl)), rfl⟩ | (rw [if_neg]; (exact ⟨(HC.out _ _).2 (hC.skip _ (by rfl)), rfl⟩); omega) | (go_at_call 57; refine (markText_any (k + j) _ (by omega) (by omega)).mono ?_; rintro e w1 ⟨rfl, hb1⟩; exact ⟨rfl, (HC.out _ _).2 ((hC.next (by first | (simp; done) | (simp; omega) | omega) hb1).skip _ (by rfl))⟩)); go_simp) | (apply flow_yes; (case hw => go_simp); (intro L w' hun hrd hC; have hC := (HC.out _ _).1 hC; have hb' := hC.below; (try have hw' : Below w.heap.size w w' := by first | exact Below.trans (by (repeat (first | with_reducible exact Below.refl _ _ | with_reducible assumption | with_reducible refine Below.al ?_ _ | with_reducible refine Below.sc ?_ (by first | exact Nat.le_refl _ | (simp; done) | (simp; omega)) _ | assumption | exact Below.refl _ _ | refine Below.dr ?_ | refine Below.drN ?_ _ | refine Below.step ?_ (by assumption)))) hb' | ((repeat (first | with_reducible exact Below.refl _ _ | with_reducible assumption | with_reducible refine Below.al ?_ _ | with_reducible refine Below.sc ?_ (by first | exact Nat.le_refl _ | (simp; done) | (simp; omega)) _ | assumption | exact Below.refl _ _ | refine Below.dr ?_ | refine Below.drN ?_ _ | refine Below.step ?_ (by assumption))); done)); have hf' := hC.cell; (try simp only [List.forall_mem_cons] at hf'); go_simp; first | exact ⟨(HC.out _ _).2 (hC.skip _ (by rfl)), rfl⟩ | (rw [if_neg]; (exact ⟨(HC.out _ _).2 (hC.skip _ (by rfl)), rfl⟩); omega) | (go_at_call 57; refine (markText_any (k + j) _ (by omega) (by omega)).mono ?_; rintro e w1 ⟨rfl, hb1⟩; exact ⟨rfl, (HC.out _ _).2 ((hC.next (by first | (simp; done) | (simp; omega) | omega) hb1).skip _ (by rfl))⟩)); go_simp) | (apply flow_no; (case hw => (go_simp; try (intro hh; cases hh))); (intro L w' _ _ hC; exact (HC.out _ _).2 (((HC.out _ _).1 hC).skip _ (by rfl))); go_simp))
      refine flow_nil ?_
      intro L wz hL hz
      have hz := (HC.out _ _).1 hz
      have hbz := hz.below
      have hcz := hz.cell
      try simp only [List.forall_mem_cons] at hcz
      have hdz := hz.done
      try simp only [List.forall_mem_cons] at hdz
      (try have hwz : Below w.heap.size w wz := by first | exact Below.trans (by (repeat (first | with_reducible exact Below.refl _ _ | with_reducible assumption | with_reducible refine Below.al ?_ _ | with_reducible refine Below.sc ?_ (by first | exact Nat.le_refl _ | (simp; done) | (simp; omega)) _ | assumption | exact Below.refl _ _ | refine Below.dr ?_ | refine Below.drN ?_ _ | refine Below.step ?_ (by assumption)))) hbz | ((repeat (first | with_reducible exact Below.refl _ _ | with_reducible assumption | with_reducible refine Below.al ?_ _ | with_reducible refine Below.sc ?_ (by first | exact Nat.le_refl _ | (simp; done) | (simp; omega)) _ | assumption | exact Below.refl _ _ | refine Below.dr ?_ | refine Below.drN ?_ _ | refine Below.step ?_ (by assumption))); done))
      go_wp2
      exact ⟨⟨j + 1, by go_num, by go_num, by omega, by (repeat (first | with_reducible exact Below.refl _ _ | with_reducible assumption | with_reducible refine Below.al ?_ _ | with_reducible refine Below.sc ?_ (by first | exact Nat.le_refl _ | (simp; done) | (simp; omega)) _ | assumption | exact Below.refl _ _ | refine Below.dr ?_ | refine Below.drN ?_ _ | refine Below.step ?_ (by assumption)))⟩, by simp [intOf]; omega⟩
    · obtain rfl : j = n := by omega
      go_wp2
      go_ret
      exact ⟨rfl, by (repeat (first | with_reducible exact Below.refl _ _ | with_reducible assumption | with_reducible refine Below.al ?_ _ | with_reducible refine Below.sc ?_ (by first | exact Nat.le_refl _ | (simp; done) | (simp; omega)) _ | assumption | exact Below.refl _ _ | refine Below.dr ?_ | refine Below.drN ?_ _ | refine Below.step ?_ (by assumption)))⟩
end Go.Proofs.YtimpkjiglioflaaGreatDoor
namespace Go.Proofs.YtimpkjiglioflaaGreatDoor
open Go.RowKit
def SplRel (s : ByteArray) (b : UInt8) (US : List ByteArray) (w : World) (sv i : Value) (wr : World) : Prop :=
  ∃ (k : Nat) (rem : ByteArray), k + 1 ≤ US.length ∧ i = .int .i64 k ∧ sv = .string rem ∧ rem.size ≤ s.size ∧ (splitF s.data.toList b).drop k = splitF rem.data.toList b ∧
    FillRow (NewB w wr) wr 9 1 (fun _ _ s cs => StrAt s cs) w.heap.size US.length k US ∧ Below w.heap.size w wr
theorem wrap_nat0 {m : Nat} (h : m ≤ 1000000000) : wrap64 (m : Int) = m := IntWalk.wrap64_in _ (by omega)
theorem wrap_nat1 {m : Nat} (h : m ≤ 1000000000) : wrap64 ((m : Int) + 1) = ((m + 1 : Nat) : Int) := by rw [IntWalk.wrap64_in _ (by omega)]; omega
theorem extract_pre {rem : ByteArray} {a t : List UInt8} {b : UInt8} (h : rem.data.toList = a ++ b :: t) : rem.extract 0 a.length = baL a := by
  apply ByteArray.ext
  apply Array.toList_inj.1
  rw [extract_list, h]
  simp [baL]
theorem extract_suf {rem : ByteArray} {a t : List UInt8} {b : UInt8} (h : rem.data.toList = a ++ b :: t) : rem.extract (a.length + 1) rem.size = baL t := by
  apply ByteArray.ext
  apply Array.toList_inj.1
  rw [extract_list, take_all _ _ (by omega), h]
  simp [baL]
set_option maxRecDepth 100000 in
set_option maxHeartbeats 3200000 in
theorem genSplit_any (s : ByteArray) (b : UInt8) (w : World) (hs : s.size ≤ 1000000000) :
    Calls Tryz.prog 79 #[.string s, .string ⟨#[b]⟩, .int .i64 0, .int .i64 (-1)] w fun e w' => ∃ g, e = .returned (.slice (some ⟨g, 0, none⟩) ((splitF s.data.toList b).map baL).length ((splitF s.data.toList b).map baL).length) ∧
      StrOwn 9 (NewB w w') w' ((splitF s.data.toList b).map baL) (.slice (some ⟨g, 0, none⟩) ((splitF s.data.toList b).map baL).length ((splitF s.data.toList b).map baL).length) ∧ Below w.heap.size w w' := by
  have hsep : ((⟨#[b]⟩ : ByteArray).toList == []) = false := by rw [ByteArray.toList_eq]; rfl
  have hbs : (⟨#[b]⟩ : ByteArray).size = 1 := rfl
  obtain ⟨US, hUS⟩ : ∃ US, (splitF s.data.toList b).map baL = US := ⟨_, rfl⟩
  have hlen : US.length = Lib.countByte s.data.toList b + 1 := by rw [← hUS, List.length_map, count_split]
  have hcl : Lib.countByte s.data.toList b ≤ s.size := by rw [Lib.countByte, size_list]; exact List.count_le_length
  have HAT := Lib.hid (fun k => show US[k]? = ((splitF s.data.toList b)[k]?).map baL by rw [← hUS, List.getElem?_map])
  have hsl : (splitF s.data.toList b).length = US.length := by rw [← hUS, List.length_map]
  rw [hUS]
  have HSL := Lib.hid hsl
  obtain ⟨N, hN⟩ : ∃ N, Lib.countByte s.data.toList b = N := ⟨_, rfl⟩
  rw [hN] at hlen hcl
  obtain ⟨-, i, z, hi, hz, hsz, hby, hzs, -⟩ := elemStr
  have HLN := Lib.hid hlen
  have hmin : ¬ ((s.size : Int) + 1 < (N : Int) + 1) := by omega
  have hmin2 : min ((N : Int) + 1) ((s.size : Int) + 1) = (N : Int) + 1 := by omega
  clear hUS hsl
  go_enter Tryz.func79, Tryz.ntmps79
  go_wp2_with fail
  refine (Tryz.strings_Count_one s b w).mono ?_
  rintro e w1 ⟨rfl, rfl⟩
  rw [hN]
  go_wp2_with (at_make; refine wpList_make_full _ rfl _ _ _ rfl w1.heap.size 9 i z 1 Tryz.underlying22 hi hz hsz _ _ _ _ (N + 1) rfl rfl rfl rfl (by rw [hby]; omega) (by unfold maxLen; omega) (Nat.le_refl _) ?_; intro w2 ho2 hg2)
  have hb1 : Below w1.heap.size w1 w2 := ⟨hg2.os, hg2.tape, hg2.output, hg2.size, fun k hk => hg2.block k hk (by simp)⟩
  have HF1 := Lib.hid (show FillRow (NewB w1 w2) w2 9 1 (fun _ _ s cs => StrAt s cs) w1.heap.size US.length 0 US from FillRow.start ⟨Nat.le_refl _, own_lt ho2⟩ (by rw [hlen]; exact ho2))
  clear ho2 hg2
  go_loopw [0, 10] (SplRel s b US w1) (fun _ i _ => US.length - (intOf i).toNat)
  case atStart => exact ⟨0, s, by omega, rfl, rfl, Nat.le_refl _, rfl, HF1.out, hb1⟩
  case round =>
    obtain ⟨k, rem, hk, rfl, rfl, hrs, hdr, hf, hb⟩ := hrel
    have HF := Lib.hid hf
    have hgw := hf.lt
    have hgb := bsz hgw
    clear hf HF1 hb1
    by_cases hlt : k < N
    · obtain ⟨hfd, hre, hat, hdr2⟩ := split_drop hdr (by rw [HSL.out]; omega)
      have hix := index_cut b rem.data.toList
      rw [hfd, if_pos rfl] at hix
      have hle : (cut1 rem.data.toList b).1.length + 1 + (cut1 rem.data.toList b).2.1.length = rem.size := by
        have := congrArg List.length hre
        rw [← size_list, List.length_append, List.length_cons] at this; omega
      have HPR := Lib.hid (extract_pre hre)
      have HSU := Lib.hid (extract_suf hre)
      have HK : Hid (US[k]? = some (baL (cut1 rem.data.toList b).1)) := Lib.hid (by rw [HAT.out, hat]; rfl)
      have HDR := Lib.hid hdr2
      have HIX := Lib.hid hix
      clear hat hdr hdr2 hfd hre hix
      generalize (cut1 rem.data.toList b).1 = pa at *
      generalize (cut1 rem.data.toList b).2.1 = pb at *
      have hcz := HF.out.cell k (by omega)
      obtain ⟨⟨q0, hq0⟩, hf0⟩ := hcz
      have hki : (k : Int) < N := by omega
      obtain ⟨m, hm⟩ : ∃ m, pa.length = m := ⟨_, rfl⟩
      rw [hm] at HIX HPR HSU hle
      have HM := Lib.hid hm
      clear hm
      have hp1 : ¬ ((m : Int) < 0) := by omega
      have hp2 : (0 : Int) ≤ (m : Int) := by omega
      have hp3 : m ≤ rem.size := by omega
      have hp4 : m + 1 ≤ rem.size := by omega
      have HLE := Lib.hid hle
      clear hle
      go_wp2_with fail
      refine ((Tryz.strings_Index_one rem b wr).mono (fun e w' (h : e = _ ∧ w' = wr) => (show e = .returned (.int .i64 (m : Int)) ∧ Below wr.heap.size wr w' from ⟨h.1.trans (by rw [HIX.out]), h.2 ▸ Below.refl _ _⟩))).mono ?_
      rintro e w3 ⟨rfl, hb3⟩
      have hq3 := (hb3.cell hgw).trans hq0
      have hf3 := (hb3.frozen hgw).trans hf0
      have hgb3 := bsz (World.block_lt_of_cell? _ _ hq3)
      have HALL := Lib.hid (And.intro hlen (And.intro hcl (And.intro hrs (And.intro hlt (And.intro hs (And.intro hb hb3))))))
      have hk1 : (k : Int) < (N : Int) + 1 := by omega
      have hmb : m ≤ 1000000000 := by omega
      have hw1 := wrap_nat0 hmb
      have hw2 := wrap_nat1 hmb
      clear hmb hq0 hf0 hs hsep hbs hi hz hsz hby hzs hcl hlen hN hmin hmin2 hlt hgw hgb hrs hb hb3 hk hki
      go_wp2
      rw [show rem.extract (m + 1) rem.size = baL pb from HSU.out, show rem.extract 0 m = baL pa from HPR.out]
      obtain ⟨hlen, hcl, hrs, hlt, hs, hb, hb3⟩ := HALL.out
      have hbz : Below w1.heap.size w1 w3 := Below.step hb hb3
      have hm2 := HM.out
      have hle2 := HLE.out
      have hpz : (baL pa).size ≤ maxLen := by rw [baL_size, hm2]; unfold maxLen; clear hw1 hw2; omega
      clear hw1 hw2
      have hkb : k ≤ 1000000000 := by omega
      refine ⟨⟨k + 1, baL pb, by omega, congrArg (Value.int .i64) (wrap_nat1 hkb), rfl, by rw [baL_size]; omega, HDR.out, ?_, hbz.setCell (Nat.le_refl _) _⟩, by rw [wrap_nat1 hkb]; simp [intOf]; omega⟩
      refine FillRow.put (T := fun _ => False) ((HF.out.later hb3 (fun T x cs _ hx => hx)).wider (fun b hb => ⟨hb.1, by have := hb.2; have := hb3.size; simp; omega⟩)) (by omega) HK.out (Below.refl _ _) rfl ⟨rfl, hpz⟩ (fun _ h => h.elim) (fun cur hc hz => ⟨_, heap_setCell_same w3 _ k cur _ (.string (baL pa)) hc, ?_⟩) (by simp) (fun _ _ _ _ hx => hx)
      have := Patch.set (cur := cur) (cur' := cur) (o := k * 1) (cs := [q0]) ⟨rfl, fun j hj => ?_, fun _ _ => rfl⟩ (j := 0) (by simp) hz (.string (baL pa))
      · simpa using this
      · obtain rfl : j = 0 := by simpa using hj
        have h1 := (cell_of_row w3 _ k cur _ (0, 0) hc).symm.trans hq3
        simpa using h1
    · obtain rfl : k = N := by omega
      have HL := Lib.hid (split_last hdr (by rw [HSL.out]; omega))
      have HK : Hid (US[k]? = some (baL rem.data.toList)) := Lib.hid (by rw [HAT.out, HL.out]; rfl)
      have hcz := HF.out.cell k (by omega)
      obtain ⟨⟨q0, hq0⟩, hf0⟩ := hcz
      go_wp2
      go_ret
      refine ⟨w1.heap.size, by first | rfl | (rw [hlen]; rfl), ?_, hb.setCell (Nat.le_refl _) _⟩
      clear hmin hmin2
      have hrz : rem.size ≤ maxLen := by unfold maxLen; omega
      have hput : FillRow (NewB w1 (wr.setCell ⟨w1.heap.size, k, none⟩ (.string rem))) (wr.setCell ⟨w1.heap.size, k, none⟩ (.string rem)) 9 1 (fun _ _ s cs => StrAt s cs) w1.heap.size US.length (k + 1) US := by
        refine FillRow.put (T := fun _ => False) (HF.out.wider (fun b hb => ⟨hb.1, by simpa using hb.2⟩)) (by omega) HK.out (Below.refl _ _) rfl ⟨by rw [baL_of], by rw [baL_of]; exact hrz⟩ (fun _ h => h.elim) (fun cur hc hz => ⟨_, heap_setCell_same wr _ k cur _ (.string rem) hc, ?_⟩) (by simp) (fun _ _ _ _ hx => hx)
        have := Patch.set (cur := cur) (cur' := cur) (o := k * 1) (cs := [q0]) ⟨rfl, fun j hj => ?_, fun _ _ => rfl⟩ (j := 0) (by simp) hz (.string rem)
        · simpa using this
        · obtain rfl : j = 0 := by simpa using hj
          have h1 := (cell_of_row wr _ k cur _ (0, 0) hc).symm.trans hq0
          simpa using h1
      rw [← hlen] at hput
      exact hput.done (by unfold maxLen; omega)
set_option maxRecDepth 100000 in
theorem strSplit_any (s : ByteArray) (b : UInt8) (w : World) (hs : s.size ≤ 1000000000) :
    Calls Tryz.prog 46 #[.string s, .string ⟨#[b]⟩] w fun e w' => ∃ g, e = .returned (.slice (some ⟨g, 0, none⟩) ((splitF s.data.toList b).map baL).length ((splitF s.data.toList b).map baL).length) ∧
      StrOwn 9 (NewB w w') w' ((splitF s.data.toList b).map baL) (.slice (some ⟨g, 0, none⟩) ((splitF s.data.toList b).map baL).length ((splitF s.data.toList b).map baL).length) ∧ Below w.heap.size w w' := by
  have HG := Lib.hid (genSplit_any s b w hs)
  obtain ⟨US, hUS⟩ : ∃ US, (splitF s.data.toList b).map baL = US := ⟨_, rfl⟩
  rw [hUS] at HG ⊢
  clear hUS
  go_enter Tryz.func46, Tryz.ntmps46
  go_wp2_with fail
  refine HG.out.mono ?_
  rintro e w1 ⟨g, rfl, h1, hb1⟩
  have H1 := Lib.hid h1
  clear h1
  go_wp2
  go_ret
  exact ⟨g, rfl, H1.out, hb1⟩
end Go.Proofs.YtimpkjiglioflaaGreatDoor
namespace Go.Proofs.YtimpkjiglioflaaGreatDoor
open Go.RowKit
set_option maxRecDepth 100000 in
set_option maxHeartbeats 1600000 in
theorem szUnit_any {B : Nat → Prop} (u : Un) (v0 v1 v2 v3 : Value) (left : Int) (w : World) (h : UnAt B w u [v0, v1, v2, v3]) (h0 : 0 ≤ left) (h1 : left ≤ 1048576) :
    Calls Tryz.prog 50 #[.agg #[v0, v1, v2, v3], .int .i64 left] w fun e w' => e = .returned (.int .i64 (szR left u.wt)) ∧ Below w.heap.size w w' := by
  obtain ⟨p, c, q, d, rfl, rfl, rfl, rfl, hn, hg, l1, l2, hi, ha⟩ := h.form
  unfold maxLen at hn hg l1 l2
  have HI := Lib.hid hi
  have HA := Lib.hid ha
  have HW := Lib.hid (show u.wt = u.name.size + (u.incs.length + wtS u.incs) + (u.axs.length + wtS u.axs) + u.goal.size from rfl)
  clear h hi ha
  go_enter Tryz.func50, Tryz.ntmps50
  by_cases g1 : (u.name.size : Int) ≤ left
  case neg =>
    go_wp2
    go_ret
    exact ⟨ret_int (by have := HW.out; rw [szR, if_neg (by omega)]), by (repeat (first | with_reducible exact Below.refl _ _ | with_reducible assumption | with_reducible refine Below.al ?_ _ | with_reducible refine Below.sc ?_ (by first | exact Nat.le_refl _ | (simp; done) | (simp; omega)) _ | assumption | exact Below.refl _ _ | refine Below.dr ?_ | refine Below.drN ?_ _ | refine Below.step ?_ (by assumption)))⟩
  by_cases g2 : ((u.incs.length + wtS u.incs : Nat) : Int) ≤ left - u.name.size
  case neg =>
    have HS := Lib.hid (show szR (left - u.name.size) (u.incs.length + wtS u.incs) = -1 from if_neg g2)
    go_wp2_with fail
    refine (szStringS_any u.incs _ _ _ (HI.out.below (by (repeat (first | with_reducible exact Below.refl _ _ | with_reducible assumption | with_reducible refine Below.al ?_ _ | with_reducible refine Below.sc ?_ (by first | exact Nat.le_refl _ | (simp; done) | (simp; omega)) _ | assumption | exact Below.refl _ _ | refine Below.dr ?_ | refine Below.drN ?_ _ | refine Below.step ?_ (by assumption))))) (by omega) (by omega)).mono ?_
    rintro e w1 ⟨rfl, hb1⟩
    have ⟨cw1, fw1⟩ := bcell hb1
    have qw1 := hb1.size
    (try simp at qw1)
    (try have zw1w := bsz (show w.heap.size < w1.heap.size by omega))
    rw [HS.out]
    go_wp2
    go_ret
    exact ⟨ret_int (by have := HW.out; rw [szR, if_neg (by omega)]), by (repeat (first | with_reducible exact Below.refl _ _ | with_reducible assumption | with_reducible refine Below.al ?_ _ | with_reducible refine Below.sc ?_ (by first | exact Nat.le_refl _ | (simp; done) | (simp; omega)) _ | assumption | exact Below.refl _ _ | refine Below.dr ?_ | refine Below.drN ?_ _ | refine Below.step ?_ (by assumption)))⟩
  have HS := Lib.hid (show szR (left - u.name.size) (u.incs.length + wtS u.incs) = left - u.name.size - ((u.incs.length : Int) + (wtS u.incs : Nat)) by rw [szR, if_pos g2]; omega)
  go_wp2_with fail
  refine (szStringS_any u.incs _ _ _ (HI.out.below (by (repeat (first | with_reducible exact Below.refl _ _ | with_reducible assumption | with_reducible refine Below.al ?_ _ | with_reducible refine Below.sc ?_ (by first | exact Nat.le_refl _ | (simp; done) | (simp; omega)) _ | assumption | exact Below.refl _ _ | refine Below.dr ?_ | refine Below.drN ?_ _ | refine Below.step ?_ (by assumption))))) (by omega) (by omega)).mono ?_
  rintro e w1 ⟨rfl, hb1⟩
  have ⟨cw1, fw1⟩ := bcell hb1
  have qw1 := hb1.size
  (try simp at qw1)
  (try have zw1w := bsz (show w.heap.size < w1.heap.size by omega))
  rw [HS.out]
  by_cases g3 : ((u.axs.length + wtS u.axs : Nat) : Int) ≤ left - u.name.size - (u.incs.length + wtS u.incs : Nat)
  case neg =>
    have HS2 := Lib.hid (show szR (left - u.name.size - ((u.incs.length : Int) + (wtS u.incs : Nat))) (u.axs.length + wtS u.axs) = -1 by rw [szR, if_neg (by omega)])
    go_wp2_with fail
    refine (szStringS_any u.axs _ _ _ (HA.out.below (by (repeat (first | with_reducible exact Below.refl _ _ | with_reducible assumption | with_reducible refine Below.al ?_ _ | with_reducible refine Below.sc ?_ (by first | exact Nat.le_refl _ | (simp; done) | (simp; omega)) _ | assumption | exact Below.refl _ _ | refine Below.dr ?_ | refine Below.drN ?_ _ | refine Below.step ?_ (by assumption))))) (by omega) (by omega)).mono ?_
    rintro e w2 ⟨rfl, hb2⟩
    have ⟨cw2, fw2⟩ := bcell hb2
    have qw2 := hb2.size
    (try simp at qw2)
    (try have zw2w := bsz (show w.heap.size < w2.heap.size by omega))
    (try have zw2w1 := bsz (show w1.heap.size < w2.heap.size by omega))
    rw [HS2.out]
    go_wp2
    go_ret
    exact ⟨ret_int (by have := HW.out; rw [szR, if_neg (by omega)]), by (repeat (first | with_reducible exact Below.refl _ _ | with_reducible assumption | with_reducible refine Below.al ?_ _ | with_reducible refine Below.sc ?_ (by first | exact Nat.le_refl _ | (simp; done) | (simp; omega)) _ | assumption | exact Below.refl _ _ | refine Below.dr ?_ | refine Below.drN ?_ _ | refine Below.step ?_ (by assumption)))⟩
  have HS2 := Lib.hid (show szR (left - u.name.size - ((u.incs.length : Int) + (wtS u.incs : Nat))) (u.axs.length + wtS u.axs) = left - u.name.size - ((u.incs.length : Int) + (wtS u.incs : Nat)) - ((u.axs.length : Int) + (wtS u.axs : Nat)) by rw [szR, if_pos (by omega)]; omega)
  go_wp2_with fail
  refine (szStringS_any u.axs _ _ _ (HA.out.below (by (repeat (first | with_reducible exact Below.refl _ _ | with_reducible assumption | with_reducible refine Below.al ?_ _ | with_reducible refine Below.sc ?_ (by first | exact Nat.le_refl _ | (simp; done) | (simp; omega)) _ | assumption | exact Below.refl _ _ | refine Below.dr ?_ | refine Below.drN ?_ _ | refine Below.step ?_ (by assumption))))) (by omega) (by omega)).mono ?_
  rintro e w2 ⟨rfl, hb2⟩
  have ⟨cw2, fw2⟩ := bcell hb2
  have qw2 := hb2.size
  (try simp at qw2)
  (try have zw2w := bsz (show w.heap.size < w2.heap.size by omega))
  (try have zw2w1 := bsz (show w1.heap.size < w2.heap.size by omega))
  rw [HS2.out]
  by_cases g4 : (u.goal.size : Int) ≤ left - u.name.size - (u.incs.length + wtS u.incs : Nat) - (u.axs.length + wtS u.axs : Nat)
  case neg =>
    go_wp2
    go_ret
    exact ⟨ret_int (by have := HW.out; rw [szR, if_neg (by omega)]), by (repeat (first | with_reducible exact Below.refl _ _ | with_reducible assumption | with_reducible refine Below.al ?_ _ | with_reducible refine Below.sc ?_ (by first | exact Nat.le_refl _ | (simp; done) | (simp; omega)) _ | assumption | exact Below.refl _ _ | refine Below.dr ?_ | refine Below.drN ?_ _ | refine Below.step ?_ (by assumption)))⟩
  go_wp2
  go_ret
  exact ⟨ret_int (by have := HW.out; rw [szR, if_pos (by omega)]; omega), by (repeat (first | with_reducible exact Below.refl _ _ | with_reducible assumption | with_reducible refine Below.al ?_ _ | with_reducible refine Below.sc ?_ (by first | exact Nat.le_refl _ | (simp; done) | (simp; omega)) _ | assumption | exact Below.refl _ _ | refine Below.dr ?_ | refine Below.drN ?_ _ | refine Below.step ?_ (by assumption)))⟩
set_option maxRecDepth 100000 in
set_option maxHeartbeats 1600000 in
theorem eqUnit_same {B B' : Nat → Prop} (u : Un) (v0 v1 v2 v3 u0 u1 u2 u3 : Value) (w : World) (h : UnAt B w u [v0, v1, v2, v3]) (h' : UnAt B' w u [u0, u1, u2, u3]) :
    Calls Tryz.prog 10 #[.agg #[v0, v1, v2, v3], .agg #[u0, u1, u2, u3]] w fun e w' => e = .returned (.bool true) ∧ Below w.heap.size w w' := by
  obtain ⟨p, c, q, d, rfl, rfl, rfl, rfl, hn, hg, l1, l2, hi, ha⟩ := h.form
  obtain ⟨p', c', q', d', rfl, rfl, rfl, rfl, -, -, -, -, hi', ha'⟩ := h'.form
  have HI := Lib.hid hi
  have HA := Lib.hid ha
  have HI' := Lib.hid hi'
  have HA' := Lib.hid ha'
  clear h hi ha h' hi' ha'
  go_enter Tryz.func10, Tryz.ntmps10
  skip
  go_wp2_with fail
  refine (eqStringS_same u.incs _ _ _ (HI.out.below (by (repeat (first | with_reducible exact Below.refl _ _ | with_reducible assumption | with_reducible refine Below.al ?_ _ | with_reducible refine Below.sc ?_ (by first | exact Nat.le_refl _ | (simp; done) | (simp; omega)) _ | assumption | exact Below.refl _ _ | refine Below.dr ?_ | refine Below.drN ?_ _ | refine Below.step ?_ (by assumption))))) (HI'.out.below (by (repeat (first | with_reducible exact Below.refl _ _ | with_reducible assumption | with_reducible refine Below.al ?_ _ | with_reducible refine Below.sc ?_ (by first | exact Nat.le_refl _ | (simp; done) | (simp; omega)) _ | assumption | exact Below.refl _ _ | refine Below.dr ?_ | refine Below.drN ?_ _ | refine Below.step ?_ (by assumption)))))).mono ?_
  rintro e w1 ⟨rfl, hb1⟩
  have ⟨cw1, fw1⟩ := bcell hb1
  have qw1 := hb1.size
  (try simp at qw1)
  (try have zw1w := bsz (show w.heap.size < w1.heap.size by omega))
  (try have zw1_0 := bsz (show w.heap.size + 1 < w1.heap.size by omega))
  go_wp2_with fail
  refine (eqStringS_same u.axs _ _ _ (HA.out.below (by (repeat (first | with_reducible exact Below.refl _ _ | with_reducible assumption | with_reducible refine Below.al ?_ _ | with_reducible refine Below.sc ?_ (by first | exact Nat.le_refl _ | (simp; done) | (simp; omega)) _ | assumption | exact Below.refl _ _ | refine Below.dr ?_ | refine Below.drN ?_ _ | refine Below.step ?_ (by assumption))))) (HA'.out.below (by (repeat (first | with_reducible exact Below.refl _ _ | with_reducible assumption | with_reducible refine Below.al ?_ _ | with_reducible refine Below.sc ?_ (by first | exact Nat.le_refl _ | (simp; done) | (simp; omega)) _ | assumption | exact Below.refl _ _ | refine Below.dr ?_ | refine Below.drN ?_ _ | refine Below.step ?_ (by assumption)))))).mono ?_
  rintro e w2 ⟨rfl, hb2⟩
  have ⟨cw2, fw2⟩ := bcell hb2
  have qw2 := hb2.size
  (try simp at qw2)
  (try have zw2w := bsz (show w.heap.size < w2.heap.size by omega))
  (try have zw2w1 := bsz (show w1.heap.size < w2.heap.size by omega))
  (try have zw2_0 := bsz (show w.heap.size + 1 < w2.heap.size by omega))
  go_wp2
  go_ret
  exact ⟨rfl, by (repeat (first | with_reducible exact Below.refl _ _ | with_reducible assumption | with_reducible refine Below.al ?_ _ | with_reducible refine Below.sc ?_ (by first | exact Nat.le_refl _ | (simp; done) | (simp; omega)) _ | assumption | exact Below.refl _ _ | refine Below.dr ?_ | refine Below.drN ?_ _ | refine Below.step ?_ (by assumption)))⟩
end Go.Proofs.YtimpkjiglioflaaGreatDoor
namespace Go.Proofs.YtimpkjiglioflaaGreatDoor
open Go.RowKit
def UnOwn (e : TypeId) (S : Nat → Prop) (w : World) (u : Un) (cs : List Value) : Prop := ∃ va vb S1 S2, cs = [.string u.name, va, vb, .string u.goal] ∧ u.name.size ≤ maxLen ∧ u.goal.size ≤ maxLen ∧ StrOwn e S1 w u.incs va ∧ StrOwn e S2 w u.axs vb ∧ (∀ b, S1 b → S b) ∧ (∀ b, S2 b → S b) ∧ ∀ b, S1 b → ¬ S2 b
theorem UnOwn.mono {e : TypeId} {S S' : Nat → Prop} {w w' : World} {u : Un} {cs : List Value} (hs : SameOn S w w') (hS : ∀ b, S b → S' b) (h : UnOwn e S w u cs) : UnOwn e S' w' u cs := by
  obtain ⟨va, vb, S1, S2, h1, h2, h3, h4, h5, h6, h7, h8⟩ := h
  exact ⟨va, vb, S1, S2, h1, h2, h3, h4.mono (fun b hb hlt => hs b (h6 b hb) hlt) (fun _ h => h), h5.mono (fun b hb hlt => hs b (h7 b hb) hlt) (fun _ h => h), fun b hb => hS b (h6 b hb), fun b hb => hS b (h7 b hb), h8⟩
theorem UnOwn.at_ {e : TypeId} {S : Nat → Prop} {w : World} {u : Un} {cs : List Value} (h : UnOwn e S w u cs) : UnAt S w u cs := by
  obtain ⟨va, vb, S1, S2, h1, h2, h3, h4, h5, h6, h7, h8⟩ := h
  exact ⟨va, vb, h1, h2, h3, h4.at_.mono (SameOn.refl _ _) h6, h5.at_.mono (SameOn.refl _ _) h7⟩
theorem UnOwn.later {e : TypeId} {S : Nat → Prop} {w w' : World} {u : Un} {cs : List Value} (hb : Below w.heap.size w w') (h : UnOwn e S w u cs) : UnOwn e S w' u cs := h.mono (SameOn.below hb) (fun _ h => h)
/-! ### Marks -/
end Go.Proofs.YtimpkjiglioflaaGreatDoor
namespace Go.Proofs.YtimpkjiglioflaaGreatDoor
open Go.RowKit
theorem StrOwn.kept {e : TypeId} {S K : Nat → Prop} {w w' : World} {us : List ByteArray} {v : Value} (h : StrOwn e S w us v) (hk : Kept K w w') (hd : ∀ b, S b → ¬ K b) : StrOwn e S w' us v := h.mono (fun b hb hlt => hk.block b hlt (hd b hb)) (fun _ h => h)
end Go.Proofs.YtimpkjiglioflaaGreatDoor
namespace Go.Proofs.YtimpkjiglioflaaGreatDoor
open Go.RowKit
def Un.mk2 (k : Nat) (u : Un) : Un := ⟨u.name, marksL k u.incs.length, marksL (k + u.incs.length) u.axs.length, u.goal⟩
def Un.c2 (u : Un) : Nat := u.incs.length + u.axs.length
set_option maxRecDepth 100000 in
set_option maxHeartbeats 1600000 in
theorem markUnit_any (S : Nat → Prop) (u : Un) (v0 v1 v2 v3 : Value) (k : Nat) (w : World) (h : UnOwn 9 S w u [v0, v1, v2, v3]) (hS : ∀ b, S b → b < w.heap.size) (hk : 0 < k) (hb : k + u.c2 ≤ 100000000) :
  Calls Tryz.prog 11 #[.agg #[v0, v1, v2, v3], .int .i64 (k : Nat)] w fun e w' => e = .returned (.int .i64 ((k + u.c2 : Nat) : Int)) ∧ UnOwn 9 S w' (u.mk2 k) [v0, v1, v2, v3] ∧ Kept S w w' := by
  obtain ⟨va, vb, S1, S2, e, hn, hg, ho1, ho2, hs1, hs2, hdis⟩ := h
  simp only [List.cons.injEq, and_true] at e
  obtain ⟨rfl, rfl, rfl, rfl⟩ := e
  obtain ⟨p1, c1, rfl, hl1⟩ := OwnRow.form ho1
  obtain ⟨p2, c2, rfl, hl2⟩ := OwnRow.form ho2
  have hc2 : u.c2 = u.incs.length + u.axs.length := rfl
  have HO1 := Lib.hid ho1
  have HO2 := Lib.hid ho2
  have HDS := Lib.hid (And.intro hs1 (And.intro hs2 hdis))
  have HNG := Lib.hid (And.intro hn hg)
  have HSS := Lib.hid hS
  clear ho1 ho2 hs1 hs2 hdis hn hg hS
  go_enter Tryz.func11, Tryz.ntmps11
  go_wp2_with fail
  obtain ⟨W, hW⟩ : ∃ W : World, W = w.alloc (.cells #[.string u.name, .slice p1 u.incs.length c1, .slice p2 u.axs.length c2, .string u.goal] 24) := ⟨_, rfl⟩
  have hbW : Below w.heap.size w W := by rw [hW]; exact (Below.refl _ _).alloc (Nat.le_refl _) _
  have d2 : W.cell? ⟨w.heap.size, 2, none⟩ = some (.slice p2 u.axs.length c2) := by rw [hW]; go_simp
  rw [← hW]
  clear hW
  refine (markStringS_any S1 u.incs _ k W (HO1.out.later hbW) hk (by omega)).mono ?_
  rintro e w1 ⟨rfl, ho3, hk3⟩
  have HO3 := Lib.hid (And.intro ho3 hk3)
  have d2' : w1.cell? ⟨w.heap.size, 2, none⟩ = some (.slice p2 u.axs.length c2) := (World.cell?_of_block (hk3.block w.heap.size (World.block_lt_of_cell? _ _ d2) (fun e => by have := HSS.out _ (HDS.out.1 _ e); omega))).trans d2
  have zd := bsz (World.block_lt_of_cell? _ _ d2')
  clear ho3 hk3
  go_wp2_with fail
  rw [show ((k : Int) + (u.incs.length : Int)) = ((k + u.incs.length : Nat) : Int) by omega]
  refine (markStringS_any S2 u.axs _ (k + u.incs.length) w1 ((HO2.out.later hbW).kept HO3.out.2 (fun b h2 h1 => HDS.out.2.2 b h1 h2)) (by omega) (by omega)).mono ?_
  rintro e w2 ⟨rfl, ho4, hk4⟩
  have HO4 := Lib.hid (And.intro ho4 hk4)
  clear ho4 hk4
  go_wp2
  go_ret
  refine ⟨ret_int (by omega), ⟨_, _, S1, S2, rfl, HNG.out.1, HNG.out.2, HO3.out.1.kept HO4.out.2 (fun b h1 h2 => HDS.out.2.2 b h1 h2), HO4.out.1, HDS.out.1, HDS.out.2.1, HDS.out.2.2⟩, ?_⟩
  exact (((Kept.refl S w).below hbW).trans (HO3.out.2.mono HDS.out.1)).trans (HO4.out.2.mono HDS.out.2.1)
set_option maxRecDepth 100000 in
set_option maxHeartbeats 1600000 in
theorem heldUnit_any {B : Nat → Prop} (u : Un) (v0 v1 v2 v3 : Value) (k : Nat) (w : World) (h : UnAt B w (u.mk2 k) [v0, v1, v2, v3]) (hk : 0 < k) (hb : k + u.c2 ≤ 100000000) :
  Calls Tryz.prog 12 #[.agg #[v0, v1, v2, v3], .int .i64 (k : Nat)] w fun e w' => e = .returned (.int .i64 ((k + u.c2 : Nat) : Int)) ∧ Below w.heap.size w w' := by
  obtain ⟨p, c, q, d, rfl, rfl, rfl, rfl, -, -, l1, l2, hi, ha⟩ := h.form
  have hc2 : u.c2 = u.incs.length + u.axs.length := rfl
  have e1 : (u.mk2 k).incs = marksL k u.incs.length := rfl
  have e2 : (u.mk2 k).axs = marksL (k + u.incs.length) u.axs.length := rfl
  rw [e1] at hi l1 ⊢
  rw [e2] at ha l2 ⊢
  simp only [marksL_len] at hi l1 ha l2 ⊢
  have HI := Lib.hid hi
  have HA := Lib.hid ha
  clear h hi ha e1 e2
  go_enter Tryz.func12, Tryz.ntmps12
  go_wp2_with fail
  refine (heldStringS_any u.incs.length _ k _ (HI.out.below (by (repeat (first | with_reducible exact Below.refl _ _ | with_reducible assumption | with_reducible refine Below.al ?_ _ | with_reducible refine Below.sc ?_ (by first | exact Nat.le_refl _ | (simp; done) | (simp; omega)) _ | assumption | exact Below.refl _ _ | refine Below.dr ?_ | refine Below.drN ?_ _ | refine Below.step ?_ (by assumption))))) hk (by omega)).mono ?_
  rintro e w1 ⟨rfl, hb1⟩
  have ⟨cw1, fw1⟩ := bcell hb1
  have qw1 := hb1.size
  (try simp at qw1)
  (try have zw1w := bsz (show w.heap.size < w1.heap.size by omega))
  have hlt0 : ¬ ((k : Int) + (u.incs.length : Int) < 0) := by omega
  go_wp2_with fail
  rw [show ((k : Int) + (u.incs.length : Int)) = ((k + u.incs.length : Nat) : Int) by omega]
  refine (heldStringS_any u.axs.length _ (k + u.incs.length) _ (HA.out.below (by (repeat (first | with_reducible exact Below.refl _ _ | with_reducible assumption | with_reducible refine Below.al ?_ _ | with_reducible refine Below.sc ?_ (by first | exact Nat.le_refl _ | (simp; done) | (simp; omega)) _ | assumption | exact Below.refl _ _ | refine Below.dr ?_ | refine Below.drN ?_ _ | refine Below.step ?_ (by assumption))))) (by omega) (by omega)).mono ?_
  rintro e w2 ⟨rfl, hb2⟩
  have hlt1 : ¬ ((k : Int) + (u.incs.length : Int) + (u.axs.length : Int) < 0) := by omega
  go_wp2
  go_ret
  exact ⟨ret_int (by omega), by (repeat (first | with_reducible exact Below.refl _ _ | with_reducible assumption | with_reducible refine Below.al ?_ _ | with_reducible refine Below.sc ?_ (by first | exact Nat.le_refl _ | (simp; done) | (simp; omega)) _ | assumption | exact Below.refl _ _ | refine Below.dr ?_ | refine Below.drN ?_ _ | refine Below.step ?_ (by assumption)))⟩
end Go.Proofs.YtimpkjiglioflaaGreatDoor
namespace Go.Proofs.YtimpkjiglioflaaGreatDoor
open Go.RowKit
/-- Block k is the unit u; va, vb are its rows, in memory of their own behind W0 (which holds the block). -/
structure UnS (e eU : TypeId) (W0 : World) (k : Nat) (u : Un) (va vb : Value) (wr : World) : Prop where
  box : wr.heap[k]? = some (.cells #[.string u.name, va, vb, .string u.goal] eU (0, 0))
  ra : wr.ownsRow W0.heap.size e 1 va u.incs.length (strW u.incs)
  rb : wr.ownsRow W0.heap.size e 1 vb u.axs.length (strW u.axs)
  ap : ∀ g, va.ownBlock = some g → vb.ownBlock ≠ some g
  gr : W0.grownBy wr (some k)
  lt : k < W0.heap.size
theorem own_lenU {w : World} {base : Nat} {e : TypeId} {size : Nat} {v : Value} {n : Nat} {xs : List Value} (h : w.ownsRow base e size v n xs) : n ≤ maxLen := by
  rcases h.2 with ⟨_, rfl⟩ | ⟨g, cap, cur, _, _, _, h1, h2, _⟩
  · exact Nat.zero_le _
  · exact Nat.le_trans h1 h2
section
variable {e eU : TypeId} {W0 wr w2 : World} {k : Nat} {u : Un} {va vb v' : Value} {r : ByteArray}
theorem UnS.na (h : UnS e eU W0 k u va vb wr) : va.ownBlock ≠ some k := fun hg => by have := own_base h.ra k hg; have := h.lt; omega
theorem UnS.nb (h : UnS e eU W0 k u va vb wr) : vb.ownBlock ≠ some k := fun hg => by have := own_base h.rb k hg; have := h.lt; omega
theorem UnS.klt (h : UnS e eU W0 k u va vb wr) : k < wr.heap.size := Nat.lt_of_lt_of_le h.lt h.gr.size
theorem UnS.below (h : UnS e eU W0 k u va vb wr) (hb : Below wr.heap.size wr w2) : UnS e eU W0 k u va vb w2 :=
  ⟨(hb.block k h.klt).trans h.box, own_below h.ra hb, own_below h.rb hb, h.ap, ⟨hb.os.trans h.gr.os, hb.tape.trans h.gr.tape, hb.output.trans h.gr.output, Nat.le_trans h.gr.size hb.size, fun b hb' hne => (hb.block b (Nat.lt_of_lt_of_le hb' h.gr.size)).trans (h.gr.block b hb' hne)⟩, h.lt⟩
theorem own_cellSet {base n : Nat} {v : Value} {xs : List Value} {i : Nat} {x : Value} (h : wr.ownsRow base e 1 v n xs) (hne : v.ownBlock ≠ some k) : (wr.setCell ⟨k, i, none⟩ x).ownsRow base e 1 v n xs :=
  own_same h fun g hg _ => heap_setCell_other wr ⟨k, i, none⟩ g x (fun e' => hne (by rw [hg]; exact congrArg some e'))
theorem grown_set (h : W0.grownBy wr (some k)) (i : Nat) (x : Value) : W0.grownBy (wr.setCell ⟨k, i, none⟩ x) (some k) :=
  ⟨h.os, h.tape, h.output, by simpa using h.size, fun b hb hne => (heap_setCell_other wr ⟨k, i, none⟩ b x (fun e' => hne (congrArg some e'))).trans (h.block b hb hne)⟩
theorem UnS.setN (h : UnS e eU W0 k u va vb wr) (r : ByteArray) : UnS e eU W0 k { u with name := r } va vb (wr.setCell ⟨k, 0, none⟩ (.string r)) :=
  ⟨by have := heap_setCell_same wr k 0 _ _ (.string r) h.box; simpa using this, own_cellSet h.ra h.na, own_cellSet h.rb h.nb, h.ap, grown_set h.gr _ _, h.lt⟩
theorem UnS.setG (h : UnS e eU W0 k u va vb wr) (r : ByteArray) : UnS e eU W0 k { u with goal := r } va vb (wr.setCell ⟨k, 3, none⟩ (.string r)) :=
  ⟨by have := heap_setCell_same wr k 3 _ _ (.string r) h.box; simpa using this, own_cellSet h.ra h.na, own_cellSet h.rb h.nb, h.ap, grown_set h.gr _ _, h.lt⟩
theorem newRow_ne {H b : Nat} {v v' : Value} (hn : NewRow v v' H) (hb : b < H) (hv : v.ownBlock ≠ some b) : v'.ownBlock ≠ some b := fun hg => by
  rcases hn with h | ⟨g, h, hge⟩
  · exact hv (h ▸ hg)
  · rw [h] at hg; injection hg with hg; omega
theorem grown_row (h : W0.grownBy wr (some k)) {v : Value} (hv : ∀ g, v.ownBlock = some g → W0.heap.size ≤ g) (hg : wr.grownBy w2 v.ownBlock) : W0.grownBy w2 (some k) :=
  ⟨hg.os.trans h.os, hg.tape.trans h.tape, hg.output.trans h.output, Nat.le_trans h.size hg.size, fun b hb hne => (hg.block b (Nat.lt_of_lt_of_le hb h.size) (fun e' => by have := hv b e'.symm; omega)).trans (h.block b hb hne)⟩
theorem UnS.appI (h : UnS e eU W0 k u va vb wr) (ho : w2.ownsRow W0.heap.size e 1 v' (u.incs.length + 1) (strW u.incs ++ [.string r])) (hg : wr.grownBy w2 va.ownBlock) (hn : NewRow va v' wr.heap.size) : UnS e eU W0 k { u with incs := u.incs ++ [r] } v' vb (w2.setCell ⟨k, 1, none⟩ v') := by
  have hbox : w2.heap[k]? = _ := (hg.block k h.klt (fun e' => h.na e'.symm)).trans h.box
  refine ⟨by have := heap_setCell_same w2 k 1 _ _ v' hbox; simpa using this, own_cellSet (by rw [List.length_append, strW_snoc]; exact ho) (newRow_ne hn h.klt h.na), own_cellSet (own_same h.rb fun g hg' hl => hg.block g hl (fun e' => h.ap g e'.symm hg')) h.nb, fun g hg' hvb => ?_, grown_set (grown_row h.gr (own_base h.ra) hg) _ _, h.lt⟩
  exact newRow_ne hn (own_lt' h.rb hvb) (fun hva => h.ap g hva hvb) hg'
theorem UnS.appA (h : UnS e eU W0 k u va vb wr) (ho : w2.ownsRow W0.heap.size e 1 v' (u.axs.length + 1) (strW u.axs ++ [.string r])) (hg : wr.grownBy w2 vb.ownBlock) (hn : NewRow vb v' wr.heap.size) : UnS e eU W0 k { u with axs := u.axs ++ [r] } va v' (w2.setCell ⟨k, 2, none⟩ v') := by
  have hbox : w2.heap[k]? = _ := (hg.block k h.klt (fun e' => h.nb e'.symm)).trans h.box
  refine ⟨by have := heap_setCell_same w2 k 2 _ _ v' hbox; simpa using this, own_cellSet (own_same h.ra fun g hg' hl => hg.block g hl (fun e' => h.ap g hg' e'.symm)) h.na, own_cellSet (by rw [List.length_append, strW_snoc]; exact ho) (newRow_ne hn h.klt h.nb), fun g hva hg' => ?_, grown_set (grown_row h.gr (own_base h.rb) hg) _ _, h.lt⟩
  exact newRow_ne hn (own_lt' h.ra hva) (h.ap g hva) hg'
theorem UnS.form (h : UnS e eU W0 k u va vb wr) : ∃ p c q d, va = .slice p u.incs.length c ∧ vb = .slice q u.axs.length d := by
  have key : ∀ {v : Value} {n : Nat} {xs : List Value}, wr.ownsRow W0.heap.size e 1 v n xs → ∃ p c, v = .slice p n c := fun h => by
    rcases h.2 with ⟨rfl, h0⟩ | ⟨g, cap, cur, rfl, _⟩
    · exact ⟨none, 0, by rw [h0]⟩
    · exact ⟨_, _, rfl⟩
  obtain ⟨p, c, h1⟩ := key h.ra
  obtain ⟨q, d, h2⟩ := key h.rb
  exact ⟨p, c, q, d, h1, h2⟩
theorem UnS.own (h : UnS e eU W0 k u va vb wr) (hn : u.name.size ≤ maxLen) (hg : u.goal.size ≤ maxLen) (hi : ∀ s ∈ u.incs, s.size ≤ maxLen) (ha : ∀ s ∈ u.axs, s.size ≤ maxLen) : UnOwn e (NewB W0 wr) wr u [.string u.name, va, vb, .string u.goal] :=
  ⟨va, vb, fun b => va.ownBlock = some b, fun b => vb.ownBlock = some b, rfl, hn, hg, rowS_own h.ra hi (own_lenU h.ra) (fun _ h => h), rowS_own h.rb ha (own_lenU h.rb) (fun _ h => h),
    fun b hb => ⟨own_base h.ra b hb, own_lt' h.ra hb⟩, fun b hb => ⟨own_base h.rb b hb, own_lt' h.rb hb⟩, fun b h1 h2 => h.ap b h1 h2⟩
end
end Go.Proofs.YtimpkjiglioflaaGreatDoor
