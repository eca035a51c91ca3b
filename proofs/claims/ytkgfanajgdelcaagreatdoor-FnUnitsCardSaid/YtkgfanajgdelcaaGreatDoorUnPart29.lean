import Derived.Test.YtkgfanajgdelcaaGreatDoorUnPart28
namespace Go.Proofs.YtkgfanajgdelcaaGreatDoor
open Go.RowKit
def NoNl (l : List UInt8) : Prop := ∀ c ∈ l, c ≠ 10
instance (l : List UInt8) : Decidable (NoNl l) := inferInstanceAs (Decidable (∀ c ∈ l, c ≠ 10))
theorem NoNl.app {a b : List UInt8} (h : NoNl a) (h2 : NoNl b) : NoNl (a ++ b) := fun c hc => (List.mem_append.1 hc).elim (h c) (h2 c)
theorem headTail_or {p q : UInt8 → Bool} {l : List UInt8} (h : headTail p q l = true) : ∀ c ∈ l, p c = true ∨ q c = true := by
  cases l with
  | nil => simp
  | cons x l =>
    rw [headTail, Bool.and_eq_true, List.all_eq_true] at h
    intro c hc
    rcases List.mem_cons.1 hc with rfl | hc
    · exact .inl h.1
    · exact .inr (h.2 c hc)
theorem symB_nl {l : List UInt8} (h : symB l = true) : NoNl l := by
  unfold symB at h
  simp only [Bool.and_eq_true] at h
  intro c hc e
  subst e
  rcases headTail_or h.1.2 _ hc with h | h
  · exact absurd h (by decide)
  · exact absurd h (by decide)
theorem varB_nl {l : List UInt8} (h : varB l = true) : NoNl l := by
  unfold varB at h
  simp only [Bool.and_eq_true] at h
  intro c hc e
  subst e
  rcases headTail_or h.2 _ hc with h | h
  · exact absurd h (by decide)
  · exact absurd h (by decide)
theorem joinB_nl {sep : List UInt8} (hs : NoNl sep) : ∀ l : List (List UInt8), (∀ x ∈ l, NoNl x) → NoNl (joinB sep l)
  | [], _ => by intro c hc; rw [joinB] at hc; cases hc
  | [a], h => by rw [joinB]; exact h a (List.mem_cons_self ..)
  | a :: b :: l, h => by
    rw [joinB]
    exact ((h a (List.mem_cons_self ..)).app hs).app (joinB_nl hs (b :: l) (fun x hx => h x (List.mem_cons_of_mem _ hx)))
theorem fmt_nl_of {n : ByteArray} {us : List Tm} (hn : NoNl n.data.toList) (hu : ∀ x ∈ Tm.fmtL us, NoNl x) : NoNl (Tm.fmt (.mk n us)) := by
  rw [Tm.fmt.eq_def]
  dsimp only
  split
  · split
    · rename_i a b l he
      exact ((hu a (by rw [he]; simp)).app (by decide)).app (hu b (by rw [he]; simp))
    · intro c hc; cases hc
  · split
    · exact hn
    · exact ((hn.app (by decide)).app (joinB_nl (by decide) _ hu)).app (by decide)
mutual
theorem Tm.fmt_nl : ∀ t : Tm, t.nodes = true → NoNl t.fmt
  | .mk n us, h => by
    rw [Tm.nodes] at h
    split at h
    · rename_i hv
      have : us = [] := by simpa using h
      subst this
      exact fmt_nl_of (varB_nl hv) (by intro x hx; rw [Tm.fmtL] at hx; cases hx)
    · simp only [Bool.and_eq_true] at h
      exact fmt_nl_of (symB_nl h.1.1) (Tm.fmtL_nl us h.2)
theorem Tm.fmtL_nl : ∀ us : List Tm, Tm.nodess us = true → ∀ x ∈ Tm.fmtL us, NoNl x
  | [], _ => by intro x hx; rw [Tm.fmtL] at hx; cases hx
  | a :: us, h => by
    rw [Tm.nodess, Bool.and_eq_true] at h
    intro x hx
    rw [Tm.fmtL] at hx
    rcases List.mem_cons.1 hx with rfl | hx
    · exact Tm.fmt_nl a h.1
    · exact Tm.fmtL_nl us h.2 x hx
end
theorem atom_nl {t : Tm} (h : t.atom = true) : NoNl t.fmt := by
  obtain ⟨n, us⟩ := t
  rw [Tm.atom] at h
  split at h
  · rename_i he
    simp only [Bool.and_eq_true] at h
    have he : n.data.toList = [61] := by simpa [isEq, Tm.n] using he
    exact fmt_nl_of (by rw [he]; decide) (Tm.fmtL_nl us h.2)
  · simp only [Bool.and_eq_true, Tm.good] at h
    exact Tm.fmt_nl _ h.2.2
mutual
theorem Fm.txt_nl : ∀ f : Fm, f.form = true → NoNl f.txt
  | .mk op a v ps, h => by
    rw [Fm.form, Fm.form1, Bool.and_eq_true, Bool.and_eq_true, Bool.and_eq_true] at h
    obtain ⟨⟨⟨h1, h2⟩, h3⟩, h4⟩ := h
    have hp := Fm.txtN_nl ps h4
    simp only [Fm.op, Fm.v, Fm.a] at h1 h2 h3
    rw [Fm.txt]
    split
    · decide
    split
    · decide
    split
    · rename_i e; exact atom_nl (by simpa [e] using h3)
    split
    · split
      · exact (NoNl.app (by decide) (hp 0)).app (by decide)
      · exact NoNl.app (by decide) (hp 0)
    split
    · rename_i e; subst e
      exact ((NoNl.app (by decide) (varB_nl h2)).app (by decide)).app (hp 0)
    split
    · rename_i e; subst e
      exact ((NoNl.app (by decide) (varB_nl h2)).app (by decide)).app (hp 0)
    · refine (((NoNl.app (by decide) (hp 0)).app ?_).app (hp 1)).app (by decide)
      unfold sign8; split <;> (try split) <;> decide
theorem Fm.txtN_nl : ∀ (ps : List Fm), Fm.forms ps = true → ∀ n, NoNl (Fm.txtN n ps)
  | [], _, n => by intro c hc; cases n <;> rw [Fm.txtN] at hc <;> cases hc
  | f :: fs, h, n => by
    rw [Fm.forms, Bool.and_eq_true] at h
    cases n with
    | zero => rw [Fm.txtN]; exact Fm.txt_nl f h.1
    | succ n => rw [Fm.txtN]; exact Fm.txtN_nl fs h.2 n
end
theorem unitTxt_nl {s : ByteArray} (h : unitTxt s = true) : NoNl s.data.toList ∧ s.size ≤ 100 := by
  rw [unitTxt, Bool.and_eq_true, pfOk, Bool.and_eq_true, fOkL] at h
  simp only [Bool.and_eq_true] at h
  obtain ⟨⟨_, ⟨_, h1⟩, h2⟩, h3⟩ := h
  refine ⟨?_, of_decide_eq_true h3⟩
  rw [← beq_iff_eq.1 h2]
  rw [Fm.good, Bool.and_eq_true] at h1
  exact Fm.txt_nl _ h1.2
theorem namesF_sym : ∀ (p : Option ByteArray) (us : List ByteArray), namesF p us = true → ∀ x ∈ us, symB x.data.toList = true
  | _, [], _, _, hx => by cases hx
  | p, a :: us, h, x, hx => by
    rw [namesF, Bool.and_eq_true, Bool.and_eq_true] at h
    rcases List.mem_cons.1 hx with rfl | hx
    · exact h.1.1
    · exact namesF_sym (some a) us h.2 x hx
theorem sym_size {s : ByteArray} (h : symB s.data.toList = true) : s.size ≤ 6 := by
  unfold symB at h
  simp only [Bool.and_eq_true, decide_eq_true_iff] at h
  have := h.1.1.2
  rw [size_list]; exact this
structure UnP (u : Un) : Prop where
  name : NoNl u.name.data.toList ∧ u.name.size ≤ 6
  incs : ∀ x ∈ u.incs, NoNl x.data.toList ∧ x.size ≤ 6
  ilen : u.incs.length ≤ 12
  axs : ∀ x ∈ u.axs, NoNl x.data.toList ∧ x.size ≤ 100
  alen : u.axs.length ≤ 6
  goal : NoNl u.goal.data.toList ∧ u.goal.size ≤ 100
theorem Un.good_parts {u : Un} (h : u.good = true) : UnP u := by
  unfold Un.good at h
  simp only [Bool.and_eq_true, decide_eq_true_iff, Bool.or_eq_true, List.all_eq_true] at h
  obtain ⟨⟨⟨⟨⟨h1, h2⟩, h3⟩, h4⟩, h5⟩, h6⟩ := h
  refine ⟨⟨symB_nl h1, sym_size h1⟩, fun x hx => ?_, h2, fun x hx => unitTxt_nl (h5 x hx), h4, ?_⟩
  · have := namesF_sym _ _ h3 x hx; exact ⟨symB_nl this, sym_size this⟩
  · rcases h6 with h6 | h6
    · have h6 := beq_iff_eq.1 h6
      rw [size_list, h6]; exact ⟨(by intro c hc; cases hc), (by simp)⟩
    · exact unitTxt_nl h6
theorem wtS_bound {n : Nat} : ∀ us : List ByteArray, (∀ x ∈ us, x.size ≤ n) → wtS us ≤ n * us.length
  | [], _ => by simp [wtS]
  | a :: us, h => by
    have h1 := wtS_bound us (fun x hx => h x (List.mem_cons_of_mem _ hx))
    have h2 := h a (List.mem_cons_self ..)
    rw [wtS, List.length_cons, Nat.mul_succ]; omega
theorem lineU_len (k : List UInt8) (s : ByteArray) : (lineU k s).length = k.length + s.size + 1 := by rw [lineU, List.length_append, List.length_append, ← size_list]; rfl
theorem txt_size {u : Un} (h : u.good = true) : u.txt.length ≤ 4000 := by
  have hp := u.good_parts h
  have h1 := wtS_bound u.incs (fun x hx => (hp.incs x hx).2)
  have h2 := wtS_bound u.axs (fun x hx => (hp.axs x hx).2)
  have h3 := hp.ilen
  have h4 := hp.alen
  have h5 := hp.name.2
  have h6 := hp.goal.2
  have h7 : (if u.goal.toList == [] then ([] : List UInt8) else lineU kwGoal u.goal).length ≤ 106 := by
    split
    · simp
    · rw [lineU_len]; simp [kwGoal]; omega
  rw [Un.txt, List.length_append, List.length_append, List.length_append, linesU_len, linesU_len, lineU_len]
  simp [kwUnit, kwInc, kwAx]
  simp at h7
  omega
/-! ### Reading -/
def u0 : Un := ⟨⟨#[]⟩, [], [], ⟨#[]⟩⟩
def kwU : List UInt8 := [117, 110, 105, 116]
def kwI : List UInt8 := [105, 110, 99, 108, 117, 100, 101]
def kwA : List UInt8 := [97, 120, 105, 111, 109]
def kwG : List UInt8 := [103, 111, 97, 108]
def Un.putN (u : Un) (r : List UInt8) : Un := { u with name := baL r }
def Un.putI (u : Un) (r : List UInt8) : Un := { u with incs := u.incs ++ [baL r] }
def Un.putA (u : Un) (r : List UInt8) : Un := { u with axs := u.axs ++ [baL r] }
def Un.putG (u : Un) (r : List UInt8) : Un := { u with goal := baL r }
def stI (u : Un) (line : List UInt8) : Un :=
  if (cut1 line 32).1 = kwU then u.putN (cut1 line 32).2.1 else if (cut1 line 32).1 = kwI then u.putI (cut1 line 32).2.1 else
  if (cut1 line 32).1 = kwA then u.putA (cut1 line 32).2.1 else if (cut1 line 32).1 = kwG then u.putG (cut1 line 32).2.1 else u
def aft (k line : List UInt8) : Bool := k.isPrefixOf line
def onA (k : List UInt8) (f : Un → List UInt8 → Un) (u : Un) (line : List UInt8) : Un := if aft k line then f u (line.drop k.length) else u
def stS (u : Un) (line : List UInt8) : Un := onA kwGoal Un.putG (onA kwAx Un.putA (onA kwInc Un.putI (onA kwUnit Un.putN u line) line) line) line
theorem splitF_line (L : List UInt8) : ∀ a : List UInt8, NoNl a → splitF (a ++ 10 :: L) 10 = a :: splitF L 10
  | [], _ => by rw [List.nil_append, splitF_cons, if_pos (by decide)]
  | c :: a, h => by
    have h1 : (c == (10 : UInt8)) = false := beq_eq_false_iff_ne.2 (h c (List.mem_cons_self ..))
    rw [List.cons_append, splitF_cons, h1, if_neg (by decide), splitF_line L a (fun x hx => h x (List.mem_cons_of_mem _ hx))]
theorem fold_lines {σ : Type} (st : σ → List UInt8 → σ) (k rest : List UInt8) (hk : NoNl k) : ∀ (us : List ByteArray) (s : σ), (∀ x ∈ us, NoNl x.data.toList) → (splitF (linesU k us ++ rest) 10).foldl st s = (splitF rest 10).foldl st (us.foldl (fun s x => st s (k ++ x.data.toList)) s)
  | [], s, _ => by simp [linesU]
  | a :: us, s, h => by
    have e : linesU k (a :: us) ++ rest = (k ++ a.data.toList) ++ 10 :: (linesU k us ++ rest) := by simp [linesU, lineU]
    rw [e, splitF_line _ _ (hk.app (h a (List.mem_cons_self ..))), List.foldl_cons, fold_lines st k rest hk us _ (fun x hx => h x (List.mem_cons_of_mem _ hx)), List.foldl_cons]
structure Reads (st : Un → List UInt8 → Un) : Prop where
  n : ∀ u r, st u (kwUnit ++ r) = u.putN r
  i : ∀ u r, st u (kwInc ++ r) = u.putI r
  a : ∀ u r, st u (kwAx ++ r) = u.putA r
  g : ∀ u r, st u (kwGoal ++ r) = u.putG r
  z : ∀ u, st u [] = u
theorem Reads.incs {st : Un → List UInt8 → Un} (h : Reads st) : ∀ (us : List ByteArray) (u : Un), us.foldl (fun s x => st s (kwInc ++ x.data.toList)) u = { u with incs := u.incs ++ us }
  | [], u => by simp
  | a :: us, u => by rw [List.foldl_cons, h.i, h.incs us, Un.putI, baL_of]; simp
theorem Reads.axs {st : Un → List UInt8 → Un} (h : Reads st) : ∀ (us : List ByteArray) (u : Un), us.foldl (fun s x => st s (kwAx ++ x.data.toList)) u = { u with axs := u.axs ++ us }
  | [], u => by simp
  | a :: us, u => by rw [List.foldl_cons, h.a, h.axs us, Un.putA, baL_of]; simp
theorem Reads.back {st : Un → List UInt8 → Un} (h : Reads st) {u : Un} (hg : u.good = true) : (splitF u.txt 10).foldl st u0 = u := by
  have hp := u.good_parts hg
  have e : u.txt = linesU kwUnit [u.name] ++ (linesU kwInc u.incs ++ (linesU kwAx u.axs ++ (if u.goal.toList == [] then [] else lineU kwGoal u.goal))) := by
    rw [Un.txt]; simp [linesU, List.append_assoc]
  rw [e, fold_lines st _ _ (by decide) _ _ (by intro x hx; rw [List.mem_singleton] at hx; subst hx; exact hp.name.1), fold_lines st _ _ (by decide) _ _ (fun x hx => (hp.incs x hx).1), fold_lines st _ _ (by decide) _ _ (fun x hx => (hp.axs x hx).1), h.incs, h.axs, List.foldl_cons, List.foldl_nil, h.n]
  have ht : u.goal.toList = u.goal.data.toList := ByteArray.toList_eq u.goal
  by_cases hz : u.goal.toList = []
  · rw [if_pos (by rw [hz]; rfl)]
    have : splitF ([] : List UInt8) 10 = [[]] := rfl
    rw [this, List.foldl_cons, List.foldl_nil, h.z]
    have hz2 : u.goal = ⟨#[]⟩ := by apply ByteArray.ext; apply Array.toList_inj.1; rw [← ht, hz]
    obtain ⟨a, b, c, d⟩ := u
    simp only at hz2
    subst hz2
    simp [Un.putN, baL_of, u0]
  · rw [if_neg (by simpa using hz)]
    have e2 : lineU kwGoal u.goal = (kwGoal ++ u.goal.data.toList) ++ 10 :: [] := rfl
    rw [e2, splitF_line _ _ (NoNl.app (by decide) hp.goal.1)]
    have : splitF ([] : List UInt8) 10 = [[]] := rfl
    rw [this, List.foldl_cons, List.foldl_cons, List.foldl_nil, h.z, h.g]
    obtain ⟨a, b, c, d⟩ := u
    simp [Un.putN, Un.putG, baL_of, u0]
theorem stI_reads : Reads stI := by
  refine ⟨fun u r => ?_, fun u r => ?_, fun u r => ?_, fun u r => ?_, fun u => rfl⟩
  · rw [stI, show kwUnit ++ r = kwU ++ 32 :: r from rfl, cut1_yes _ _ _ (by decide)]; exact if_pos rfl
  · rw [stI, show kwInc ++ r = kwI ++ 32 :: r from rfl, cut1_yes _ _ _ (by decide)]
    exact (if_neg (show ¬ kwI = kwU by decide)).trans (if_pos rfl)
  · rw [stI, show kwAx ++ r = kwA ++ 32 :: r from rfl, cut1_yes _ _ _ (by decide)]
    exact (if_neg (show ¬ kwA = kwU by decide)).trans ((if_neg (show ¬ kwA = kwI by decide)).trans (if_pos rfl))
  · rw [stI, show kwGoal ++ r = kwG ++ 32 :: r from rfl, cut1_yes _ _ _ (by decide)]
    exact (if_neg (show ¬ kwG = kwU by decide)).trans ((if_neg (show ¬ kwG = kwI by decide)).trans ((if_neg (show ¬ kwG = kwA by decide)).trans (if_pos rfl)))
theorem stS_reads : Reads stS := by
  refine ⟨fun u r => ?_, fun u r => ?_, fun u r => ?_, fun u r => ?_, fun u => rfl⟩ <;>
    simp [stS, onA, aft, kwUnit, kwInc, kwAx, kwGoal, List.isPrefixOf]
/-! ### Weights -/
def lsum : List (List UInt8) → Nat | [] => 0 | l :: ls => (l.length + 1) + lsum ls
theorem lsum_take : ∀ (ls : List (List UInt8)) (n : Nat), lsum (ls.take n) ≤ lsum ls
  | [], n => by simp [lsum]
  | l :: ls, 0 => by simp [lsum]
  | l :: ls, n + 1 => by have := lsum_take ls n; rw [List.take_succ_cons, lsum, lsum]; omega
theorem lsum_mem : ∀ {ls : List (List UInt8)} {l : List UInt8}, l ∈ ls → l.length + 1 ≤ lsum ls
  | [], _, h => by cases h
  | m :: ls, l, h => by
    rw [lsum]
    rcases List.mem_cons.1 h with rfl | h
    · omega
    · have := lsum_mem h; omega
theorem lsum_split (b : UInt8) : ∀ l : List UInt8, lsum (splitF l b) = l.length + 1
  | [] => rfl
  | x :: l => by
    have ih := lsum_split b l
    rw [splitF_cons]
    split
    · rw [lsum, ih]; simp; omega
    · cases hs : splitF l b with
      | nil => have := splitF_ne l b; rw [hs] at this; simp at this
      | cons p ps => rw [hs, lsum] at ih; rw [lsum]; simp only [List.length_cons]; omega
theorem wtS_snoc : ∀ (us : List ByteArray) (a : ByteArray), wtS (us ++ [a]) = wtS us + a.size
  | [], a => by simp [wtS]
  | b :: us, a => by rw [List.cons_append, wtS, wtS, wtS_snoc us a]; omega
theorem wt_putN (u : Un) (r : List UInt8) : (u.putN r).wt ≤ u.wt + (r.length + 1) := by simp only [Un.putN, Un.wt, baL_size]; omega
theorem wt_putG (u : Un) (r : List UInt8) : (u.putG r).wt ≤ u.wt + (r.length + 1) := by simp only [Un.putG, Un.wt, baL_size]; omega
theorem wt_putI (u : Un) (r : List UInt8) : (u.putI r).wt ≤ u.wt + (r.length + 1) := by simp only [Un.putI, Un.wt, wtS_snoc, baL_size, List.length_append, List.length_cons, List.length_nil]; omega
theorem wt_putA (u : Un) (r : List UInt8) : (u.putA r).wt ≤ u.wt + (r.length + 1) := by simp only [Un.putA, Un.wt, wtS_snoc, baL_size, List.length_append, List.length_cons, List.length_nil]; omega
theorem cut1_le (b : UInt8) : ∀ l : List UInt8, (cut1 l b).1.length ≤ l.length ∧ (cut1 l b).2.1.length ≤ l.length
  | [] => by simp [cut1]
  | x :: l => by
    have := cut1_le b l
    rw [cut1]; split
    · simp
    · simp only [List.length_cons]; omega
theorem stI_wt (u : Un) (l : List UInt8) : (stI u l).wt ≤ u.wt + 1 * (l.length + 1) := by
  have h := (cut1_le 32 l).2
  rw [stI]
  split
  · have := wt_putN u (cut1 l 32).2.1; omega
  split
  · have := wt_putI u (cut1 l 32).2.1; omega
  split
  · have := wt_putA u (cut1 l 32).2.1; omega
  split
  · have := wt_putG u (cut1 l 32).2.1; omega
  · omega
theorem onA_wt {k : List UInt8} {f : Un → List UInt8 → Un} (hf : ∀ u r, (f u r).wt ≤ u.wt + (r.length + 1)) (u : Un) (l : List UInt8) : (onA k f u l).wt ≤ u.wt + (l.length + 1) := by
  rw [onA]; split
  · have := hf u (l.drop k.length); rw [List.length_drop] at this; omega
  · omega
theorem stS_wt (u : Un) (l : List UInt8) : (stS u l).wt ≤ u.wt + 4 * (l.length + 1) := by
  have h1 := onA_wt (k := kwUnit) wt_putN u l
  have h2 := onA_wt (k := kwInc) wt_putI (onA kwUnit Un.putN u l) l
  have h3 := onA_wt (k := kwAx) wt_putA (onA kwInc Un.putI (onA kwUnit Un.putN u l) l) l
  have h4 := onA_wt (k := kwGoal) wt_putG (onA kwAx Un.putA (onA kwInc Un.putI (onA kwUnit Un.putN u l) l) l) l
  rw [stS]; omega
theorem fold_wt {st : Un → List UInt8 → Un} {c : Nat} (h : ∀ u l, (st u l).wt ≤ u.wt + c * (l.length + 1)) : ∀ (ls : List (List UInt8)) (u : Un), (ls.foldl st u).wt ≤ u.wt + c * lsum ls
  | [], u => by simp [lsum]
  | l :: ls, u => by
    have h1 := fold_wt h ls (st u l)
    have h2 := h u l
    rw [List.foldl_cons, lsum, Nat.mul_add]; omega
theorem parI_wt (L : List UInt8) (n : Nat) : (((splitF L 10).take n).foldl stI u0).wt ≤ L.length + 1 := by
  have h1 := fold_wt stI_wt ((splitF L 10).take n) u0
  have h2 := lsum_take (splitF L 10) n
  rw [lsum_split] at h2
  have h3 : u0.wt = 0 := rfl
  omega
theorem parS_wt (L : List UInt8) (n : Nat) : (((splitF L 10).take n).foldl stS u0).wt ≤ 4 * (L.length + 1) := by
  have h1 := fold_wt stS_wt ((splitF L 10).take n) u0
  have h2 := lsum_take (splitF L 10) n
  rw [lsum_split] at h2
  have h3 : u0.wt = 0 := rfl
  omega
theorem wt_sizes {u : Un} {m : Nat} (h : u.wt ≤ m) : u.name.size ≤ m ∧ u.goal.size ≤ m ∧ (∀ s ∈ u.incs, s.size ≤ m) ∧ (∀ s ∈ u.axs, s.size ≤ m) ∧ u.incs.length ≤ m ∧ u.axs.length ≤ m := by
  rw [Un.wt] at h
  refine ⟨by omega, by omega, fun s hs => ?_, fun s hs => ?_, by omega, by omega⟩
  · have := wtS_le u.incs s hs; omega
  · have := wtS_le u.axs s hs; omega
theorem take_fold {σ α : Type} (st : σ → α → σ) (s : σ) {ls : List α} {n : Nat} (h : n < ls.length) : (ls.take (n + 1)).foldl st s = st ((ls.take n).foldl st s) ls[n] := by
  rw [List.take_succ_eq_append_getElem h, List.foldl_append]; rfl
def parI (L : List UInt8) : Un := (splitF L 10).foldl stI u0
def parS (L : List UInt8) : Un := (splitF L 10).foldl stS u0
def puOk (L : List UInt8) : Bool := (parI L).good && (parI L).txt == L
def puV (L : List UInt8) : Un := if puOk L then parI L else u0
theorem puOk_parts {L : List UInt8} (h : puOk L = true) : (parI L).good = true ∧ (parI L).txt = L := by rw [puOk, Bool.and_eq_true] at h; exact ⟨h.1, beq_iff_eq.1 h.2⟩
theorem puS_eq (L : List UInt8) : ((parS L).good && (parS L).txt == L) = puOk L := by
  rw [Bool.eq_iff_iff, puOk, Bool.and_eq_true, Bool.and_eq_true, beq_iff_eq, beq_iff_eq]
  constructor
  · rintro ⟨h1, h2⟩
    have : parI L = parS L := by have := stI_reads.back h1; rwa [h2] at this
    rw [this]; exact ⟨h1, h2⟩
  · rintro ⟨h1, h2⟩
    have : parS L = parI L := by have := stS_reads.back h1; rwa [h2] at this
    rw [this]; exact ⟨h1, h2⟩
theorem puS_same {L : List UInt8} (h : puOk L = true) : parS L = parI L := by
  obtain ⟨h1, h2⟩ := puOk_parts h
  have := stS_reads.back h1; rwa [h2] at this
theorem pu_long {L : List UInt8} (h : 4000 < L.length) : puOk L = false := by
  cases he : puOk L with
  | false => rfl
  | true =>
    obtain ⟨h1, h2⟩ := puOk_parts he
    have := txt_size h1
    rw [h2] at this; omega
end Go.Proofs.YtkgfanajgdelcaaGreatDoor
