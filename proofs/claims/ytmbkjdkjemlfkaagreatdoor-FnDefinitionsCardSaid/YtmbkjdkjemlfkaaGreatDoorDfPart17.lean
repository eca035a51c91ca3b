import Derived.Lib.Small
import Derived.Test.YtmbkjdkjemlfkaaGreatDoorDfPart16
namespace Go.Proofs.YtmbkjdkjemlfkaaGreatDoor
set_option maxRecDepth 100000
/-! ### Names -/
def valD (l : List UInt8) : Nat := l.foldl (fun a c => 10 * a + (c.toNat - 48)) 0
theorem valD_snoc (l : List UInt8) (c : UInt8) : valD (l ++ [c]) = 10 * valD l + (c.toNat - 48) := by simp [valD, List.foldl_append]
theorem digB_val {n : Nat} (h : n < 10) : (digB n).toNat - 48 = n := by
  rcases (by omega : n = 0 ∨ n = 1 ∨ n = 2 ∨ n = 3 ∨ n = 4 ∨ n = 5 ∨ n = 6 ∨ n = 7 ∨ n = 8 ∨ n = 9) with rfl | rfl | rfl | rfl | rfl | rfl | rfl | rfl | rfl | rfl <;> rfl
theorem valD_itoa : ∀ (f n : Nat), n < f → valD (Lib.itoa (n : Int)) = n
  | 0, _, h => by omega
  | f + 1, n, h => by
    by_cases h10 : n < 10
    · rw [itoa_small (n : Int) (by omega) (by omega)]
      show 10 * 0 + ((digB (n : Int).toNat).toNat - 48) = n
      rw [Int.toNat_natCast, digB_val h10]; omega
    · rw [itoa_step (n : Int) (by omega), valD_snoc]
      have e1 : (n : Int) / 10 = ((n / 10 : Nat) : Int) := by omega
      have e2 : ((n : Int) % 10).toNat = n % 10 := by omega
      rw [e1, e2, valD_itoa f (n / 10) (by omega), digB_val (Nat.mod_lt _ (by omega))]; omega
theorem dNm_inj {i j : Nat} (h : dNm i = dNm j) : i = j := by
  have h1 : (dNm i).data.toList = (dNm j).data.toList := by rw [h]
  have h2 : Lib.itoa (i : Int) = Lib.itoa (j : Int) := by
    simp only [dNm] at h1
    simpa using h1
  have h3 := valD_itoa (i + 1) i (by omega)
  rw [h2, valD_itoa (j + 1) j (by omega)] at h3
  omega
theorem nextF_free {S : ByteArray → Bool} (hS : ∀ j, 99999 < j → S (dNm j) = false) : ∀ n k, 100000 ≤ k + n → S (dNm (nextF S n k)) = false
  | 0, k, h => by rw [nextF]; exact hS _ (by omega)
  | n + 1, k, h => by
    rw [nextF]
    split
    · exact nextF_free hS n (k + 1) (by omega)
    · next e => simpa using e
/-! ### No quantifiers -/
mutual
def Fm.nq : Fm → Bool | .mk op _ _ ps => !(op == 8) && !(op == 9) && Fm.nqs ps
def Fm.nqs : List Fm → Bool | [] => true | f :: fs => f.nq && Fm.nqs fs
end
theorem form_neg' {g : Fm} (h : g.form = true) : (opF 4 [g]).form = true := by
  rw [opF, Fm.form, Fm.forms, Fm.forms, h]; rfl
theorem form_bin' {op : Int} {g h : Fm} (ho : op = 5 ∨ op = 6 ∨ op = 7) (hg : g.form = true) (hh : h.form = true) : (opF op [g, h]).form = true := by
  rw [opF, Fm.form, Fm.forms, Fm.forms, Fm.forms, hg, hh]
  rcases ho with rfl | rfl | rfl <;> rfl
theorem form_atm' {a : Tm} (h : a.atom = true) : (atomOfF a).form = true := by
  rw [atomOfF, Fm.form, Fm.forms]
  simp [Fm.form1, arity, isQ, Fm.op, Fm.ps, Fm.v, Fm.a, h]
structure DfR (S : ByteArray → Bool) (f : Fm) (k : Nat) (r : Fm × Nat × List Dfn) : Prop where
  le : k ≤ r.2.1
  nm : ∀ d ∈ r.2.2, ∃ j, k < j ∧ j ≤ r.2.1 ∧ d.name = dNm j ∧ S d.name = false
  an : ∀ x ∈ r.1.an, x ∈ f.an ∨ ∃ d ∈ r.2.2, d.name = x
  back : uAll r.2.2 r.1 = (f, true)
  mid : ∀ A B, r.2.2 = A ++ B → (uAll B r.1).2 = true ∧ (uAll B r.1).1.form = true ∧ (uAll B r.1).1.sz ≤ f.sz ∧ (uAll B r.1).1.nq = true
  ds : ∀ d ∈ r.2.2, d.f.form = true ∧ d.f.sz ≤ f.sz ∧ d.f.nq = true
section
variable {S : ByteArray → Bool} {f g h : Fm} {k : Nat}
theorem DfR.leaf (hf : f.form = true) (hq : f.nq = true) : DfR S f k (f, k, []) := by
  refine ⟨Nat.le_refl _, fun d hd => (by cases hd), fun x hx => .inl hx, rfl, fun A B e => ?_, fun d hd => (by cases hd)⟩
  obtain ⟨rfl, rfl⟩ := List.append_eq_nil_iff.1 e.symm
  exact ⟨rfl, hf, Nat.le_refl _, hq⟩
theorem an_op {op : Int} {ps : List Fm} (ho : op ≠ 3) : (opF op ps).an = Fm.ans ps := by rw [opF, Fm.an, if_neg ho, List.nil_append]
theorem DfR.neg {r : Fm × Nat × List Dfn} (hr : DfR S g k r) (_hg : g.nq = true) : DfR S (opF 4 [g]) k (opF 4 [r.1], r.2.1, r.2.2) := by
  obtain ⟨h1, h2, h3, h4, h5, h6⟩ := hr
  have hs : ∀ x : Fm, (opF 4 [x]).sz = 1 + (x.sz + 0) := fun x => by rw [opF, Fm.sz, Fm.szs, Fm.szs]
  have hn : ∀ x : Fm, x.nq = true → (opF 4 [x]).nq = true := fun x hx => by rw [opF, Fm.nq, Fm.nqs, Fm.nqs, hx]; rfl
  refine ⟨h1, h2, fun x hx => ?_, ?_, fun A B e => ?_, fun d hd => ?_⟩
  · rw [an_op (by decide), Fm.ans, Fm.ans, List.append_nil] at hx ⊢
    exact h3 x hx
  · show uAll r.2.2 (opF 4 [r.1]) = _
    rw [opF, uAll_neg _ _ _ _ _ (by decide), h4]; rfl
  · obtain ⟨m1, m2, m3, m4⟩ := h5 A B e
    have e2 : uAll B (opF 4 [r.1]) = (opF 4 [(uAll B r.1).1], (uAll B r.1).2) := uAll_neg _ _ _ _ _ (by decide)
    rw [e2]
    exact ⟨m1, form_neg' m2, by rw [hs, hs]; omega, hn _ m4⟩
  · obtain ⟨m1, m2, m3⟩ := h6 d hd
    exact ⟨m1, by rw [hs]; omega, m3⟩
theorem DfR.bin {op : Int} {r q : Fm × Nat × List Dfn} (ho : op = 5 ∨ op = 6 ∨ op = 7) (hr : DfR S g k r) (hq : DfR S h r.2.1 q) (hgS : ∀ x ∈ g.an, S x = true) (hhS : ∀ x ∈ h.an, S x = true) (hhf : h.form = true) (hhq : h.nq = true) : DfR S (opF op [g, h]) k (opF op [r.1, q.1], q.2.1, r.2.2 ++ q.2.2) := by
  obtain ⟨r1, r2, r3, r4, r5, r6⟩ := hr
  obtain ⟨q1, q2, q3, q4, q5, q6⟩ := hq
  have ho3 : op ≠ 3 := by omega
  have hs : ∀ x y : Fm, (opF op [x, y]).sz = 1 + (x.sz + (y.sz + 0)) := fun x y => by rw [opF, Fm.sz, Fm.szs, Fm.szs, Fm.szs]
  have hn : ∀ x y : Fm, x.nq = true → y.nq = true → (opF op [x, y]).nq = true := fun x y hx hy => by
    rw [opF, Fm.nq, Fm.nqs, Fm.nqs, Fm.nqs, hx, hy]
    rcases ho with rfl | rfl | rfl <;> rfl
  have b : ∀ (L : List Dfn) (x y : Fm), uAll L (opF op [x, y]) = (opF op [(uAll L x).1, (uAll L y).1], (uAll L x).2 && (uAll L y).2) := fun L x y => uAll_bin L op _ _ x y ho3
  have s2 : ∀ M : List Dfn, (∀ d ∈ M, d ∈ q.2.2) → uAll M r.1 = (r.1, true) := fun M hM => uAll_skip M r.1 fun d hd hx => by
    obtain ⟨j, j1, j2, j3, j4⟩ := q2 d (hM d hd)
    rcases r3 _ hx with h' | ⟨d', hd', e⟩
    · rw [hgS _ h'] at j4; cases j4
    · obtain ⟨i, i1, i2, i3, -⟩ := r2 d' hd'
      have := dNm_inj (i3.symm.trans (e.trans j3))
      omega
  have s1 : ∀ M : List Dfn, (∀ d ∈ M, d ∈ r.2.2) → uAll M h = (h, true) := fun M hM => uAll_skip M h fun d hd hx => by
    obtain ⟨j, -, -, -, j4⟩ := r2 d (hM d hd)
    rw [hhS _ hx] at j4; cases j4
  have e2 : uAll q.2.2 (opF op [r.1, q.1]) = (opF op [r.1, h], true) := by rw [b, s2 _ (fun _ h => h), q4]; rfl
  have app : ∀ M : List Dfn, uAll (M ++ q.2.2) (opF op [r.1, q.1]) = uAll M (opF op [r.1, h]) := fun M => by rw [uAll_app _ _ _ (by rw [e2]), e2]
  obtain ⟨-, rf, rz, rn⟩ := r5 r.2.2 [] (by simp)
  rw [uAll] at rf rz rn
  refine ⟨Nat.le_trans r1 q1, fun d hd => ?_, fun x hx => ?_, ?_, fun A B e => ?_, fun d hd => ?_⟩
  · rcases List.mem_append.1 hd with hd | hd
    · obtain ⟨j, j1, j2, j3, j4⟩ := r2 d hd
      exact ⟨j, j1, Nat.le_trans j2 q1, j3, j4⟩
    · obtain ⟨j, j1, j2, j3, j4⟩ := q2 d hd
      exact ⟨j, by omega, j2, j3, j4⟩
  · rw [an_op ho3, Fm.ans, Fm.ans, Fm.ans, List.append_nil] at hx ⊢
    rcases List.mem_append.1 hx with hx | hx
    · rcases r3 x hx with h' | ⟨d, hd, e⟩
      · exact .inl (List.mem_append_left _ h')
      · exact .inr ⟨d, List.mem_append_left _ hd, e⟩
    · rcases q3 x hx with h' | ⟨d, hd, e⟩
      · exact .inl (List.mem_append_right _ h')
      · exact .inr ⟨d, List.mem_append_right _ hd, e⟩
  · show uAll (r.2.2 ++ q.2.2) _ = _
    rw [app, b, r4, s1 _ (fun _ h => h)]; rfl
  · rcases List.append_eq_append_iff.1 (show r.2.2 ++ q.2.2 = A ++ B from e) with ⟨c, rfl, e3⟩ | ⟨c, e3, rfl⟩
    · obtain ⟨m1, m2, m3, m4⟩ := q5 c B e3
      rw [b, s2 B (fun d hd => by rw [e3]; exact List.mem_append_right _ hd)]
      exact ⟨by rw [m1]; rfl, form_bin' ho rf m2, by rw [hs, hs]; have rz' : r.1.sz ≤ g.sz := rz; show 1 + (r.1.sz + ((uAll B q.1).1.sz + 0)) ≤ _; omega, hn _ _ rn m4⟩
    · obtain ⟨m1, m2, m3, m4⟩ := r5 A c e3
      rw [app, b, s1 c (fun d hd => by rw [e3]; exact List.mem_append_right _ hd)]
      exact ⟨by rw [m1]; rfl, form_bin' ho m2 hhf, by rw [hs, hs]; show 1 + (_ + (h.sz + 0)) ≤ _; omega, hn _ _ m4 hhq⟩
  · rcases List.mem_append.1 hd with hd | hd
    · obtain ⟨m1, m2, m3⟩ := r6 d hd
      exact ⟨m1, by rw [hs]; omega, m3⟩
    · obtain ⟨m1, m2, m3⟩ := q6 d hd
      exact ⟨m1, by rw [hs]; omega, m3⟩
theorem DfR.wrap {r : Fm × Nat × List Dfn} {n : Nat} {vs : List ByteArray} (hr : DfR S f k r) (hn : r.2.1 < n) (hS : S (dNm n) = false) (ha : (Dfn.atm ⟨dNm n, vs, r.1⟩).atom = true) (hz : 1 ≤ f.sz) : DfR S f k (atomOfF (Dfn.atm ⟨dNm n, vs, r.1⟩), n, r.2.2 ++ [⟨dNm n, vs, r.1⟩]) := by
  obtain ⟨r1, r2, r3, r4, r5, r6⟩ := hr
  obtain ⟨-, rf, rz, rn⟩ := r5 r.2.2 [] (by simp)
  rw [uAll] at rf rz rn
  have e1 : uAll [⟨dNm n, vs, r.1⟩] (atomOfF (Dfn.atm ⟨dNm n, vs, r.1⟩)) = (r.1, true) := by
    rw [uAll, uAll]
    simp only
    rw [unf_atm ⟨dNm n, vs, r.1⟩ rf]; rfl
  have app : ∀ M : List Dfn, uAll (M ++ [⟨dNm n, vs, r.1⟩]) (atomOfF (Dfn.atm ⟨dNm n, vs, r.1⟩)) = uAll M r.1 := fun M => by rw [uAll_app _ _ _ (by rw [e1]), e1]
  refine ⟨by show k ≤ n; omega, fun d hd => ?_, fun x hx => ?_, ?_, fun A B e => ?_, fun d hd => ?_⟩
  · rcases List.mem_append.1 hd with hd | hd
    · obtain ⟨j, j1, j2, j3, j4⟩ := r2 d hd
      exact ⟨j, j1, by show j ≤ n; omega, j3, j4⟩
    · simp only [List.mem_cons, List.not_mem_nil, or_false] at hd
      subst hd
      exact ⟨n, by omega, Nat.le_refl _, rfl, hS⟩
  · rw [show (atomOfF (Dfn.atm ⟨dNm n, vs, r.1⟩)).an = [dNm n] by rw [atomOfF, Fm.an, if_pos rfl, Fm.ans]; rfl] at hx
    simp only [List.mem_cons, List.not_mem_nil, or_false] at hx
    subst hx
    exact .inr ⟨_, List.mem_append_right _ (List.mem_cons_self ..), rfl⟩
  · show uAll (r.2.2 ++ [_]) _ = _
    rw [app, r4]
  · rcases List.eq_nil_or_concat B with rfl | ⟨B', d, rfl⟩
    · rw [uAll]
      exact ⟨rfl, form_atm' ha, by rw [atomOfF, Fm.sz, Fm.szs]; omega, by rw [atomOfF, Fm.nq, Fm.nqs]; rfl⟩
    · have e2 : r.2.2 ++ [⟨dNm n, vs, r.1⟩] = (A ++ B') ++ [d] := by rw [List.append_assoc]; simpa using e
      obtain ⟨e3, e4⟩ := List.append_inj' e2 rfl
      simp only [List.cons.injEq, and_true] at e4
      subst e4
      have := r5 A B' e3
      rw [List.concat_eq_append, app]
      exact this
  · rcases List.mem_append.1 hd with hd | hd
    · exact r6 d hd
    · simp only [List.mem_cons, List.not_mem_nil, or_false] at hd
      subst hd
      exact ⟨rf, rz, rn⟩
end
theorem dfn_ok {S : ByteArray → Bool} {vf : Fm → List ByteArray} (hS : ∀ j, 99999 < j → S (dNm j) = false) : ∀ (n : Nat) (f : Fm), f.sz ≤ n → f.form = true → f.nq = true → (∀ x ∈ f.an, S x = true) → ∀ (b : Bool) (k : Nat),
    (∀ d ∈ (dfn S vf f b k).2.2, d.atm.atom = true) → DfR S f k (dfn S vf f b k)
  | 0, .mk _ _ _ _, hk, _, _, _, _, _, _ => by rw [Fm.sz] at hk; omega
  | n + 1, f, hk, hf, hq, hA, b, k, hv => by
    have hq0 := hq
    have hf0 := hf
    cases form_cases hf with
    | tru =>
      have e : dfn S vf (opF 1 []) b k = (opF 1 [], k, []) := by rw [opF, dfn, dfnL]; cases b <;> rfl
      rw [e]; exact DfR.leaf hf0 hq0
    | fal =>
      have e : dfn S vf (opF 2 []) b k = (opF 2 [], k, []) := by rw [opF, dfn, dfnL]; cases b <;> rfl
      rw [e]; exact DfR.leaf hf0 hq0
    | atm a ha =>
      have e : dfn S vf (atomOfF a) b k = (atomOfF a, k, []) := by rw [atomOfF, dfn, dfnL]; cases b <;> rfl
      rw [e]; exact DfR.leaf hf0 hq0
    | neg g hg =>
      have e : dfn S vf (opF 4 [g]) b k = (opF 4 [(dfn S vf g false k).1], (dfn S vf g false k).2.1, (dfn S vf g false k).2.2) := by
        rw [opF, dfn, dfnL, dfnL]
        cases b <;> simp [opF]
      have hgq : g.nq = true := by rw [opF, Fm.nq, Fm.nqs, Fm.nqs] at hq; simpa using hq
      rw [opF, Fm.sz, Fm.szs, Fm.szs] at hk
      have hAg : ∀ x ∈ g.an, S x = true := fun x hx => hA x (by rw [an_op (by decide), Fm.ans, Fm.ans, List.append_nil]; exact hx)
      rw [e] at hv ⊢
      exact DfR.neg (dfn_ok hS n g (by omega) hg hgq hAg false k hv) hgq
    | bin op g h ho hg hh =>
      have hgq : g.nq = true ∧ h.nq = true := by
        rw [opF, Fm.nq, Fm.nqs, Fm.nqs, Fm.nqs] at hq
        simp only [Bool.and_eq_true, Bool.and_true] at hq
        exact hq.2
      have ho3 : op ≠ 3 := by omega
      rw [opF, Fm.sz, Fm.szs, Fm.szs, Fm.szs] at hk
      have hAg : ∀ x ∈ g.an, S x = true := fun x hx => hA x (by rw [an_op ho3, Fm.ans, Fm.ans]; exact List.mem_append_left _ hx)
      have hAh : ∀ x ∈ h.an, S x = true := fun x hx => hA x (by rw [an_op ho3, Fm.ans, Fm.ans, Fm.ans, List.append_nil]; exact List.mem_append_right _ hx)
      obtain ⟨r, hr⟩ : ∃ r, r = dfn S vf g (op == 6) k := ⟨_, rfl⟩
      obtain ⟨q, hqe⟩ : ∃ q, q = dfn S vf h (op == 6) r.2.1 := ⟨_, rfl⟩
      have eL : dfnL S vf [g, h] (op == 6) k = ([r.1, q.1], q.2.1, r.2.2 ++ q.2.2) := by
        rw [dfnL, dfnL, dfnL, ← hr, ← hqe]; simp
      have node : (∀ d ∈ r.2.2 ++ q.2.2, d.atm.atom = true) → DfR S (opF op [g, h]) k (opF op [r.1, q.1], q.2.1, r.2.2 ++ q.2.2) := fun hv' =>
        DfR.bin ho (hr ▸ dfn_ok hS n g (by omega) hg hgq.1 hAg _ k (fun d hd => hv' d (List.mem_append_left _ (hr ▸ hd)))) (hqe ▸ dfn_ok hS n h (by omega) hh hgq.2 hAh _ _ (fun d hd => hv' d (List.mem_append_right _ (hqe ▸ hd)))) hAg hAh hh hgq.2
      have hu : dfn S vf (opF op [g, h]) b k = if b && op == 5 then (atomOfF (Dfn.atm ⟨dNm (nextD S q.2.1), vf (opF op [r.1, q.1]), opF op [r.1, q.1]⟩), nextD S q.2.1, (r.2.2 ++ q.2.2) ++ [⟨dNm (nextD S q.2.1), vf (opF op [r.1, q.1]), opF op [r.1, q.1]⟩]) else (opF op [r.1, q.1], q.2.1, r.2.2 ++ q.2.2) := by
        rw [opF, dfn, eL]; rfl
      rw [hu] at hv ⊢
      split
      · next hb =>
        rw [if_pos hb] at hv
        exact DfR.wrap (node fun d hd => hv d (List.mem_append_left _ hd)) (nextF_gt _ _ _) (nextF_free hS _ _ (by omega)) (hv _ (List.mem_append_right _ (List.mem_cons_self ..))) (by rw [opF, Fm.sz]; omega)
      · next hb =>
        rw [if_neg hb] at hv
        exact node hv
    | qua op v g ho hv' hg =>
      rw [quantF, Fm.nq] at hq
      rcases ho with rfl | rfl <;> simp at hq
open Go.RowKit
def lead (l : List UInt8) : Bool := match l with | [] => false | c :: _ => upC c
mutual
def Tm.ord : Tm → Bool | .mk n us => !n.data.toList.isEmpty && lead n.data.toList == varB n.data.toList && Tm.ords us
def Tm.ords : List Tm → Bool | [] => true | a :: us => a.ord && Tm.ords us
end
theorem varB_lead {l : List UInt8} (h : varB l = true) : lead l = true := by
  simp only [varB, Bool.and_eq_true, decide_eq_true_eq] at h
  cases l with
  | nil => simp at h
  | cons c r => have := h.2; simp only [headTail, Bool.and_eq_true] at this; exact this.1
theorem symB_lead {l : List UInt8} (h : symB l = true) : lead l = false ∧ varB l = false ∧ l ≠ [] := by
  simp only [symB, Bool.and_eq_true, decide_eq_true_eq] at h
  obtain ⟨⟨⟨h1, h2⟩, h3⟩, h4⟩ := h
  cases l with
  | nil => simp at h1
  | cons c r =>
    simp only [headTail, Bool.and_eq_true] at h3
    have hc : upC c = false := by
      have := h3.1
      rw [Bool.eq_false_iff]
      intro h'
      simp only [upC, loC, Bool.and_eq_true, decide_eq_true_eq] at h' this
      omega
    refine ⟨hc, ?_, by simp⟩
    rw [Bool.eq_false_iff]
    intro hv
    have := varB_lead hv
    rw [show lead (c :: r) = upC c from rfl, hc] at this
    cases this
theorem varB_ne {l : List UInt8} (h : varB l = true) : l ≠ [] := by rintro rfl; simp [varB] at h
mutual
theorem Tm.ord_nodes : ∀ t : Tm, t.nodes = true → t.ord = true
  | .mk n us, h => by
    rw [Tm.nodes] at h
    rw [Tm.ord]
    split at h
    · rename_i hv
      obtain rfl : us = [] := by simpa using h
      have hne : ¬ n.data = #[] := fun e => varB_ne hv (by rw [e])
      simp [hv, varB_lead hv, Tm.ords, hne]
    · rename_i hv
      simp only [Bool.and_eq_true] at h
      have hs := symB_lead h.1.1
      have := Tm.ords_nodes us h.2
      have hne : ¬ n.data = #[] := fun e => hs.2.2 (by rw [e])
      simp [hs.1, hs.2.1, this, hne]
theorem Tm.ords_nodes : ∀ us : List Tm, Tm.nodess us = true → Tm.ords us = true
  | [], _ => rfl
  | a :: us, h => by
    rw [Tm.nodess, Bool.and_eq_true] at h
    rw [Tm.ords, Bool.and_eq_true]
    exact ⟨Tm.ord_nodes a h.1, Tm.ords_nodes us h.2⟩
end
theorem Tm.ord_atom {t : Tm} (h : t.atom = true) : t.ord = true := by
  obtain ⟨n, us⟩ := t
  rw [Tm.atom] at h
  split at h
  · rename_i hq
    simp only [Bool.and_eq_true] at h
    have hn : n.data.toList = [61] := by simpa [isEq, Tm.n] using hq
    rw [Tm.ord, hn]
    have := Tm.ords_nodes us h.2
    rw [this]; rfl
  · simp only [Bool.and_eq_true, Tm.good] at h
    exact Tm.ord_nodes _ h.2.2
theorem isVar_any {B : Nat → Prop} (m : Nat) (t : Tm) (v0 v1 : Value) (w : World) (h : TmAt B m w t [v0, v1]) (ho : t.ord = true) :
    Calls Tryz.prog 99 #[.agg #[v0, v1]] w fun e w' => e = .returned (.bool (varB t.n.data.toList)) ∧ Below w.heap.size w w' := by
  obtain ⟨p, c, rfl, rfl, -⟩ := h.form
  obtain ⟨n, us⟩ := t
  rw [Tm.ord] at ho
  simp only [Bool.and_eq_true, beq_iff_eq] at ho
  simp only [Tm.n, Tm.us]
  clear h
  have hn : 0 < n.size := by
    rw [size_list]
    refine List.length_pos_iff.2 (fun e => ?_)
    have := ho.1.1; rw [e] at this; simp at this
  have hn' : (0 : Int) < n.size := by omega
  have HV := Lib.hid (show upC n[0] = varB n.data.toList by
    rw [← ho.1.2]
    have e : n.data.toList = n[0] :: n.data.toList.tail := by
      cases hl : n.data.toList with
      | nil => rw [size_list, hl] at hn; simp at hn
      | cons c r =>
        have : n.data.toList[0]? = some n[0] := by rw [List.getElem?_eq_getElem (by rw [← size_list]; exact hn)]; rfl
        rw [hl] at this; simp at this; rw [this]; rfl
    rw [e]; rfl)
  go_enter Tryz.func99, Tryz.ntmps99
  go_wp2_with (first | (go_at_call 77; refine (isUpper_any _ _).mono ?_; rintro e w' ⟨rfl, rfl⟩))
  go_ret
  exact ⟨ret_bool HV.out, by exact bel⟩
theorem two_new {w W : World} {a b : Array Value} {t : TypeId} (h : W = (w.alloc (.cells a t)).alloc (.cells b t)) : W.heap.size = w.heap.size + 2 ∧ Below w.heap.size w W ∧ W.heap[w.heap.size]? = some (.cells a t (0, 0)) ∧ W.heap[w.heap.size + 1]? = some (.cells b t (0, 0)) := by
  subst h
  refine ⟨by simp, ((Below.refl _ _).alloc (Nat.le_refl _) _).alloc (by simp) _, (hao _ _ _ (by simp)).trans (heap_alloc_new w _), ?_⟩
  have := heap_alloc_new (w.alloc (.cells a t)) (.cells b t)
  simpa using this
theorem five_at {w : World} {g : Nat} {v0 v1 v2 v3 v4 : Value} {t : TypeId} (h : w.heap[g]? = some (.cells #[v0, v1, v2, v3, v4] t (0, 0))) :
    w.cell? ⟨g, 0, none⟩ = some v0 ∧ w.cell? ⟨g, 1, none⟩ = some v1 ∧ w.cell? ⟨g, 2, none⟩ = some v2 ∧ w.cell? ⟨g, 3, none⟩ = some v3 ∧ w.cell? ⟨g, 4, none⟩ = some v4 := by
  refine ⟨?_, ?_, ?_, ?_, ?_⟩
  · rw [cell_of_row w g 0 _ _ (0, 0) h]; rfl
  · rw [cell_of_row w g 1 _ _ (0, 0) h]; rfl
  · rw [cell_of_row w g 2 _ _ (0, 0) h]; rfl
  · rw [cell_of_row w g 3 _ _ (0, 0) h]; rfl
  · rw [cell_of_row w g 4 _ _ (0, 0) h]; rfl
set_option maxHeartbeats 3200000 in
theorem vTerms_same {B B' : Nat → Prop} : ∀ (m : Nat) (t : Tm) (v0 v1 u0 u1 : Value) (w : World), TmAt B m w t [v0, v1] → TmAt B' m w t [u0, u1] →
      Calls Tryz.prog 27 #[.agg #[v0, v1], .agg #[u0, u1]] w fun e w' => e = .returned (.bool true) ∧ Below w.heap.size w w' := by
  intro m
  induction m with
  | zero => intro t v0 v1 u0 u1 w h; exact h.elim
  | succ m ih =>
    rintro ⟨s, us⟩ v0 v1 u0 u1 w ⟨va, hcs, hs, hl⟩ ⟨va', hcs', hs', hl'⟩
    simp only [List.cons.injEq, and_true] at hcs hcs'
    obtain ⟨rfl, rfl⟩ := hcs
    obtain ⟨rfl, rfl⟩ := hcs'
    obtain ⟨p, c, rfl, hlen⟩ := hl.form
    obtain ⟨p', c', rfl, -⟩ := hl'.form
    unfold maxLen at hlen
    have HL := Lib.hid hl
    have HL' := Lib.hid hl'
    have IH := Lib.hid ih
    clear ih hl hl' hs hs'
    go_enter Tryz.func27, Tryz.ntmps27
    go_wp2
    obtain ⟨W, hW⟩ : ∃ W : World, W = (w.alloc (.cells #[.string s, .slice p us.length c] 26)).alloc (.cells #[.string s, .slice p' us.length c'] 26) := ⟨_, rfl⟩
    obtain ⟨hsW, hbW, A0, A1⟩ := two_new hW
    rw [← hW]
    clear hW
    have HLW := Lib.hid (HL.out.mono (SameOn.below hbW) (fun _ h => h) (fun x cs _ hx => TmAt.below hbW hx))
    have HLW' := Lib.hid (HL'.out.mono (SameOn.below hbW) (fun _ h => h) (fun x cs _ hx => TmAt.below hbW hx))
    go_loopw [5] (fun i wr => ∃ k : Nat, k ≤ us.length ∧ i = .int .i64 k ∧ Below W.heap.size W wr) (fun i _ => us.length - (intOf i).toNat)
    case atStart => exact ⟨0, Nat.zero_le _, rfl, Below.refl _ _⟩
    case round =>
      obtain ⟨k, hk, rfl, hb⟩ := hrel
      have hqr := hb.size
      have hwr : Below w.heap.size w wr := hbW.trans (hb.mono hbW.size)
      obtain ⟨a0, a1, af⟩ := cells2_cell ((hb.block _ (by omega)).trans A0)
      obtain ⟨b0, b1, bf⟩ := cells2_cell ((hb.block _ (by omega)).trans A1)
      have za := bsz (show w.heap.size < wr.heap.size by omega)
      have zb := bsz (show w.heap.size + 1 < wr.heap.size by omega)
      by_cases hlt : k < us.length
      · have hlti : (k : Int) < us.length := by omega
        obtain ⟨b, o, rfl, hB, x0, x1, hx0, hx1, hx⟩ := (HLW.out.mono (SameOn.below hb) (fun _ h => h) (fun x cs _ hx => TmAt.below hb hx)).at2 hlt
        obtain ⟨b', o', rfl, hB', y0, y1, hy0, hy1, hy⟩ := (HLW'.out.mono (SameOn.below hb) (fun _ h => h) (fun x cs _ hx => TmAt.below hb hx)).at2 hlt
        obtain ⟨a, ha⟩ : ∃ a, us[k] = a := ⟨_, rfl⟩
        rw [ha] at hx hy
        have HX := Lib.hid hx
        have HY := Lib.hid hy
        clear hx hy ha
        go_wp2
        obtain ⟨C, HC0⟩ := class_of (InF wr.heap.size _ [(⟨w.heap.size, 1, none⟩, .slice (some ⟨b, o, none⟩) us.length c), (⟨w.heap.size + 1, 1, none⟩, .slice (some ⟨b', o', none⟩) us.length c'), (⟨b, o + k * 2, none⟩, x0), (⟨b, o + k * 2 + 1, none⟩, x1), (⟨b', o' + k * 2, none⟩, y0), (⟨b', o' + k * 2 + 1, none⟩, y1)] [] [])
        have HC := Lib.hid HC0
        clear HC0
        refine wp_region_flow (C := C) (by kernel_rfl) (by kernel_rfl) (fun L hL => (HC.out _ _).2 (InF.start (by first | (intro _ hs; cases hs; done) | (simp only [List.forall_mem_cons]; go_simp)) (by first | (intro _ hs; cases hs; done) | (simp only [List.forall_mem_cons]; go_simp)) (by first | (intro _ hs; cases hs; done) | (simp only [List.forall_mem_cons]; go_simp)) (by first | (intro _ hs; cases hs; done) | (simp only [List.forall_mem_cons]; go_simp)) L hL)) ?_
        repeat (first | ((first | apply flow_free rfl | (apply flow_yes; (case hw => go_simp))); (intro L w' hun hrd hC; have hC := (HC.out _ _).1 hC; have hb' := hC.below; (try have hw' : Below w.heap.size w w' := by first | exact Below.trans (by (repeat (first | with_reducible (first | exact bR _ _ | assumption | refine bA ?_ _ | refine bS ?_ (by first | exact Nat.le_refl _ | (simp; done) | (simp; omega)) _) | assumption | exact bR _ _ | refine bD ?_ | refine bN ?_ _ | refine bT ?_ (by assumption)))) hb' | ((repeat (first | with_reducible (first | exact bR _ _ | assumption | refine bA ?_ _ | refine bS ?_ (by first | exact Nat.le_refl _ | (simp; done) | (simp; omega)) _) | assumption | exact bR _ _ | refine bD ?_ | refine bN ?_ _ | refine bT ?_ (by assumption))); done)); have hf' := hC.cell; (try simp only [List.forall_mem_cons] at hf'); go_simp; first | exact ⟨(HC.out _ _).2 (hC.skip _ (by rfl)), rfl⟩ | (rw [if_neg]; (exact ⟨(HC.out _ _).2 (hC.skip _ (by rfl)), rfl⟩); omega) | (go_at_call 27; refine (IH.out a x0 x1 y0 y1 _ (HX.out.below hb') (HY.out.below hb')).mono ?_; rintro e w1 ⟨rfl, hb1⟩; exact ⟨rfl, (HC.out _ _).2 ((hC.next (by first | (simp; done) | (simp; omega) | omega) hb1).skip _ (by rfl))⟩)); go_simp) | (apply flow_no; (case hw => (go_simp; try (intro hh; cases hh))); (intro L w' _ _ hC; exact (HC.out _ _).2 (((HC.out _ _).1 hC).skip _ (by rfl))); go_simp))
        refine flow_nil ?_
        intro L wz hL hz
        have hz := (HC.out _ _).1 hz
        have hbz := hz.below
        have hcz := hz.cell
        try simp only [List.forall_mem_cons] at hcz
        have hdz := hz.done
        try simp only [List.forall_mem_cons] at hdz
        (try have hwz : Below w.heap.size w wz := by first | exact Below.trans (by (repeat (first | with_reducible (first | exact bR _ _ | assumption | refine bA ?_ _ | refine bS ?_ (by first | exact Nat.le_refl _ | (simp; done) | (simp; omega)) _) | assumption | exact bR _ _ | refine bD ?_ | refine bN ?_ _ | refine bT ?_ (by assumption)))) hbz | ((repeat (first | with_reducible (first | exact bR _ _ | assumption | refine bA ?_ _ | refine bS ?_ (by first | exact Nat.le_refl _ | (simp; done) | (simp; omega)) _) | assumption | exact bR _ _ | refine bD ?_ | refine bN ?_ _ | refine bT ?_ (by assumption))); done))
        go_wp2
        refine ⟨⟨k + 1, by omega, by go_num, Below.step hb hbz⟩, by simp [intOf]; omega⟩
      · obtain rfl : k = us.length := by omega
        go_wp2
        go_ret
        exact ⟨rfl, hwr⟩
set_option maxHeartbeats 3200000 in
theorem vFormulas_same {B B' : Nat → Prop} : ∀ (m : Nat) (t : Fm) (v0 v1 v2 v3 v4 u0 u1 u2 u3 u4 : Value) (w : World), FmAt B m w t [v0, v1, v2, v3, v4] → FmAt B' m w t [u0, u1, u2, u3, u4] →
      Calls Tryz.prog 9 #[.agg #[v0, v1, v2, v3, v4], .agg #[u0, u1, u2, u3, u4]] w fun e w' => e = .returned (.bool true) ∧ Below w.heap.size w w' := by
  intro m
  induction m with
  | zero => intro t v0 v1 v2 v3 v4 u0 u1 u2 u3 u4 w h; exact h.elim
  | succ m ih =>
    rintro ⟨op, t, x, ps⟩ v0 v1 v2 v3 v4 u0 u1 u2 u3 u4 w ⟨vn, va, vp, hcs, hop, hs, ht, hl⟩ ⟨vn', va', vp', hcs', hop', hs', ht', hl'⟩
    simp only [List.cons.injEq, and_true] at hcs hcs'
    obtain ⟨rfl, rfl, rfl, rfl, rfl⟩ := hcs
    obtain ⟨rfl, rfl, rfl, rfl, rfl⟩ := hcs'
    obtain ⟨pa, ca, rfl, rfl, -⟩ := ht.form
    obtain ⟨pa', ca', rfl, rfl, -⟩ := ht'.form
    obtain ⟨p, c, rfl, hlen⟩ := hl.form
    obtain ⟨p', c', rfl, -⟩ := hl'.form
    unfold maxLen at hlen
    have HT := Lib.hid ht
    have HT' := Lib.hid ht'
    have HL := Lib.hid hl
    have HL' := Lib.hid hl'
    have IH := Lib.hid ih
    clear ih hl hl' ht ht' hs hs' hop hop'
    go_enter Tryz.func9, Tryz.ntmps9
    go_wp2_with fail
    obtain ⟨W, hW⟩ : ∃ W : World, W = (w.alloc (.cells #[.int .i64 op, .string t.n, .slice pa t.us.length ca, .string x, .slice p ps.length c] 29)).alloc (.cells #[.int .i64 op, .string t.n, .slice pa' t.us.length ca', .string x, .slice p' ps.length c'] 29) := ⟨_, rfl⟩
    obtain ⟨hsW, hbW, A0, A1⟩ := two_new hW
    rw [← hW]
    clear hW
    refine (vTerms_same m t _ _ _ _ W (TmAt.below hbW HT.out) (TmAt.below hbW HT'.out)).mono ?_
    rintro e w1 ⟨rfl, hb1⟩
    have hbw1 := Below.step hbW hb1
    have A0 := (hb1.block _ (by omega)).trans A0
    have A1 := (hb1.block _ (by omega)).trans A1
    have hz1 := hb1.size
    obtain ⟨a0, a1, a2, a3, a4⟩ := five_at A0
    obtain ⟨b0, b1, b2, b3, b4⟩ := five_at A1
    have za := bsz (show w.heap.size < w1.heap.size by omega)
    have zb := bsz (show w.heap.size + 1 < w1.heap.size by omega)
    have HLW := Lib.hid (HL.out.mono (SameOn.below hbw1) (fun _ h => h) (fun x cs _ hx => FmAt.below hbw1 hx))
    have HLW' := Lib.hid (HL'.out.mono (SameOn.below hbw1) (fun _ h => h) (fun x cs _ hx => FmAt.below hbw1 hx))
    go_wp2
    clear a0 a1 a2 a3 a4 b0 b1 b2 b3 b4 za zb
    go_loopw [5] (fun i wr => ∃ k : Nat, k ≤ ps.length ∧ i = .int .i64 k ∧ Below w1.heap.size w1 wr) (fun i _ => ps.length - (intOf i).toNat)
    case atStart => exact ⟨0, Nat.zero_le _, rfl, Below.refl _ _⟩
    case round =>
      obtain ⟨k, hk, rfl, hb⟩ := hrel
      have hqr := hb.size
      have hwr : Below w.heap.size w wr := hbw1.trans (hb.mono hbw1.size)
      obtain ⟨a0, a1, a2, a3, a4⟩ := five_at ((hb.block _ (by omega)).trans A0)
      obtain ⟨b0, b1, b2, b3, b4⟩ := five_at ((hb.block _ (by omega)).trans A1)
      have za := bsz (show w.heap.size < wr.heap.size by omega)
      have zb := bsz (show w.heap.size + 1 < wr.heap.size by omega)
      by_cases hlt : k < ps.length
      · have hlti : (k : Int) < ps.length := by omega
        obtain ⟨b, o, rfl, hB, x0, x1, x2, x3, x4, hx0, hx1, hx2, hx3, hx4, hx⟩ := (HLW.out.mono (SameOn.below hb) (fun _ h => h) (fun x cs _ hx => FmAt.below hb hx)).at5 hlt
        obtain ⟨b', o', rfl, hB', y0, y1, y2, y3, y4, hy0, hy1, hy2, hy3, hy4, hy⟩ := (HLW'.out.mono (SameOn.below hb) (fun _ h => h) (fun x cs _ hx => FmAt.below hb hx)).at5 hlt
        obtain ⟨a, ha⟩ : ∃ a, ps[k] = a := ⟨_, rfl⟩
        rw [ha] at hx hy
        have HX := Lib.hid hx
        have HY := Lib.hid hy
        clear hx hy ha
        go_wp2
        obtain ⟨C, HC0⟩ := class_of (InF wr.heap.size _ [(⟨w.heap.size, 4, none⟩, .slice (some ⟨b, o, none⟩) ps.length c), (⟨w.heap.size + 1, 4, none⟩, .slice (some ⟨b', o', none⟩) ps.length c'), (⟨b, o + k * 5, none⟩, x0), (⟨b, o + k * 5 + 1, none⟩, x1), (⟨b, o + k * 5 + 2, none⟩, x2), (⟨b, o + k * 5 + 3, none⟩, x3), (⟨b, o + k * 5 + 4, none⟩, x4), (⟨b', o' + k * 5, none⟩, y0), (⟨b', o' + k * 5 + 1, none⟩, y1), (⟨b', o' + k * 5 + 2, none⟩, y2), (⟨b', o' + k * 5 + 3, none⟩, y3), (⟨b', o' + k * 5 + 4, none⟩, y4)] [] [])
        have HC := Lib.hid HC0
        clear HC0
        refine wp_region_flow (C := C) (by kernel_rfl) (by kernel_rfl) (fun L hL => (HC.out _ _).2 (InF.start (by first | (intro _ hs; cases hs; done) | (simp only [List.forall_mem_cons]; go_simp)) (by first | (intro _ hs; cases hs; done) | (simp only [List.forall_mem_cons]; go_simp)) (by first | (intro _ hs; cases hs; done) | (simp only [List.forall_mem_cons]; go_simp)) (by first | (intro _ hs; cases hs; done) | (simp only [List.forall_mem_cons]; go_simp)) L hL)) ?_
        repeat (first | ((first | apply flow_free rfl | (apply flow_yes; (case hw => go_simp))); (intro L w' hun hrd hC; have hC := (HC.out _ _).1 hC; have hb' := hC.below; (try have hw' : Below w.heap.size w w' := by first | exact Below.trans (by (repeat (first | with_reducible (first | exact bR _ _ | assumption | refine bA ?_ _ | refine bS ?_ (by first | exact Nat.le_refl _ | (simp; done) | (simp; omega)) _) | assumption | exact bR _ _ | refine bD ?_ | refine bN ?_ _ | refine bT ?_ (by assumption)))) hb' | ((repeat (first | with_reducible (first | exact bR _ _ | assumption | refine bA ?_ _ | refine bS ?_ (by first | exact Nat.le_refl _ | (simp; done) | (simp; omega)) _) | assumption | exact bR _ _ | refine bD ?_ | refine bN ?_ _ | refine bT ?_ (by assumption))); done)); have hf' := hC.cell; (try simp only [List.forall_mem_cons] at hf'); go_simp; first | exact ⟨(HC.out _ _).2 (hC.skip _ (by rfl)), rfl⟩ | (rw [if_neg]; (exact ⟨(HC.out _ _).2 (hC.skip _ (by rfl)), rfl⟩); omega) | (go_at_call 9; refine (IH.out a _ _ _ _ _ _ _ _ _ _ _ (HX.out.below hb') (HY.out.below hb')).mono ?_; rintro e w1 ⟨rfl, hb1⟩; exact ⟨rfl, (HC.out _ _).2 ((hC.next (by first | (simp; done) | (simp; omega) | omega) hb1).skip _ (by rfl))⟩)); go_simp) | (apply flow_no; (case hw => (go_simp; try (intro hh; cases hh))); (intro L w' _ _ hC; exact (HC.out _ _).2 (((HC.out _ _).1 hC).skip _ (by rfl))); go_simp))
        refine flow_nil ?_
        intro L wz hL hz
        have hz := (HC.out _ _).1 hz
        have hbz := hz.below
        have hcz := hz.cell
        try simp only [List.forall_mem_cons] at hcz
        have hdz := hz.done
        try simp only [List.forall_mem_cons] at hdz
        (try have hwz : Below w.heap.size w wz := by first | exact Below.trans (by (repeat (first | with_reducible (first | exact bR _ _ | assumption | refine bA ?_ _ | refine bS ?_ (by first | exact Nat.le_refl _ | (simp; done) | (simp; omega)) _) | assumption | exact bR _ _ | refine bD ?_ | refine bN ?_ _ | refine bT ?_ (by assumption)))) hbz | ((repeat (first | with_reducible (first | exact bR _ _ | assumption | refine bA ?_ _ | refine bS ?_ (by first | exact Nat.le_refl _ | (simp; done) | (simp; omega)) _) | assumption | exact bR _ _ | refine bD ?_ | refine bN ?_ _ | refine bT ?_ (by assumption))); done))
        go_wp2
        refine ⟨⟨k + 1, by omega, by go_num, Below.step hb hbz⟩, by simp [intOf]; omega⟩
      · obtain rfl : k = ps.length := by omega
        go_wp2
        go_ret
        exact ⟨rfl, hwr⟩
end Go.Proofs.YtmbkjdkjemlfkaaGreatDoor
