import Derived.Test.YtmbkjdkjemlfkaaGreatDoorDfPart28
namespace Go.Proofs.YtmbkjdkjemlfkaaGreatDoor
/-! ### Numbers' texts -/
theorem itoa_long : ∀ (d n : Nat), 10 ^ d ≤ n → d + 1 ≤ (Lib.itoa (n : Int)).length
  | 0, n, h => by
    by_cases h10 : n < 10
    · rw [itoa_small (n : Int) (by omega) (by omega)]; simp
    · rw [itoa_step (n : Int) (by omega)]; simp
  | d + 1, n, h => by
    have h1 : 10 ≤ n := by have : 10 ^ (d + 1) = 10 ^ d * 10 := Nat.pow_succ ..
                           have : 1 ≤ 10 ^ d := Nat.one_le_pow _ _ (by omega)
                           omega
    rw [itoa_step (n : Int) (by omega), List.length_append, show (n : Int) / 10 = ((n / 10 : Nat) : Int) by omega]
    have := itoa_long d (n / 10) (by rw [Nat.le_div_iff_mul_le (by omega)]; rw [Nat.pow_succ] at h; exact h)
    rw [List.length_singleton]; omega
theorem dNm_len {j : Nat} (h : 99999 < j) : 7 ≤ (dNm j).data.toList.length := by
  have := itoa_long 5 j (by omega)
  rw [dNm_list, List.length_cons]; omega
theorem symB_len {l : List UInt8} (h : symB l = true) : l.length ≤ 6 := by
  simp only [symB, Bool.and_eq_true, decide_eq_true_eq] at h
  exact h.1.1.2
/-! ### Names of valid formulas -/
mutual
def Tm.nms : Tm → List ByteArray | .mk n us => n :: Tm.nmss us
def Tm.nmss : List Tm → List ByteArray | [] => [] | a :: us => a.nms ++ Tm.nmss us
end
mutual
theorem Tm.syms_mem : ∀ (t : Tm) (z : ByteArray), varB z.data.toList = false → z.data.toList.isEmpty = false → (z ∈ t.syms ↔ z ∈ t.nms)
  | .mk n us, z, h1, h2 => by
    rw [Tm.syms, Tm.nms, List.mem_append, List.mem_cons, Tm.symss_mem us z h1 h2]
    by_cases e : z = n
    · subst e; rw [h1, h2]; simp
    · have : z ∉ (if (!varB n.data.toList && !n.data.toList.isEmpty) = true then [n] else []) := by
        split
        · simpa using e
        · simp
      exact ⟨fun h => h.elim (fun h => absurd h this) .inr, fun h => h.elim (fun h => absurd h e) .inr⟩
theorem Tm.symss_mem : ∀ (us : List Tm) (z : ByteArray), varB z.data.toList = false → z.data.toList.isEmpty = false → (z ∈ Tm.symss us ↔ z ∈ Tm.nmss us)
  | [], z, _, _ => by rw [Tm.symss, Tm.nmss]
  | a :: us, z, h1, h2 => by rw [Tm.symss, Tm.nmss, List.mem_append, List.mem_append, Tm.syms_mem a z h1 h2, Tm.symss_mem us z h1 h2]
end
theorem addN_mem (l : List ByteArray) (n z : ByteArray) : z ∈ addN l n ↔ z ∈ l ∨ (z = n ∧ symB n.data.toList = true) := by
  rw [addN]
  split
  · next h =>
    rw [Bool.and_eq_true] at h
    rw [List.mem_append, List.mem_singleton]
    exact ⟨fun h' => h'.imp id (fun e => ⟨e, h.1⟩), fun h' => h'.imp id (fun e => e.1)⟩
  · next h =>
    refine ⟨.inl, fun h' => h'.elim id (fun ⟨e, hs⟩ => ?_)⟩
    rw [hs, Bool.true_and] at h
    have h : inS l n = true := by simpa using h
    rw [inS] at h
    exact e ▸ of_decide_eq_true h
mutual
theorem Tm.symI_mem : ∀ (t : Tm) (l : List ByteArray) (z : ByteArray), symB z.data.toList = true → (z ∈ t.symI l ↔ z ∈ l ∨ z ∈ t.nms)
  | .mk n us, l, z, h => by
    rw [Tm.symI, Tm.symIs_mem us _ z h, addN_mem, Tm.nms, List.mem_cons, or_assoc]
    exact ⟨fun h' => h'.imp id (fun h' => h'.imp (fun e => e.1) id), fun h' => h'.imp id (fun h' => h'.imp (fun e => ⟨e, e ▸ h⟩) id)⟩
theorem Tm.symIs_mem : ∀ (us : List Tm) (l : List ByteArray) (z : ByteArray), symB z.data.toList = true → (z ∈ Tm.symIs us l ↔ z ∈ l ∨ z ∈ Tm.nmss us)
  | [], l, z, _ => by rw [Tm.symIs, Tm.nmss]; simp
  | a :: us, l, z, h => by rw [Tm.symIs, Tm.symIs_mem us _ z h, Tm.symI_mem a l z h, Tm.nmss, List.mem_append, or_assoc]
end
mutual
theorem Tm.symI_sym : ∀ (t : Tm) (l : List ByteArray), (∀ z ∈ l, symB z.data.toList = true) → ∀ z ∈ t.symI l, symB z.data.toList = true
  | .mk n us, l, h => by
    rw [Tm.symI]
    exact Tm.symIs_sym us _ fun z hz => ((addN_mem l n z).1 hz).elim (h z) (fun e => e.1 ▸ e.2)
theorem Tm.symIs_sym : ∀ (us : List Tm) (l : List ByteArray), (∀ z ∈ l, symB z.data.toList = true) → ∀ z ∈ Tm.symIs us l, symB z.data.toList = true
  | [], l, h => by rw [Tm.symIs]; exact h
  | a :: us, l, h => by rw [Tm.symIs]; exact Tm.symIs_sym us _ (Tm.symI_sym a l h)
end
mutual
theorem Fm.form_atoms : ∀ f : Fm, f.form = true → ∀ a ∈ f.atoms, a.atom = true
  | .mk op a v ps, h => by
    rw [Fm.form, Bool.and_eq_true] at h
    rw [Fm.atoms]
    split
    · next e =>
      have h1 := h.1
      simp only [Fm.form1, Fm.op, Fm.ps, Fm.v, Fm.a, Bool.and_eq_true] at h1
      have h2 := h1.2
      replace h2 : a.atom = true := by simpa [e] using h2
      intro b hb
      obtain rfl : b = a := by simpa using hb
      exact h2
    · exact Fm.forms_atoms ps h.2
theorem Fm.forms_atoms : ∀ fs : List Fm, Fm.forms fs = true → ∀ a ∈ Fm.atomss fs, a.atom = true
  | [], _, a, h => by rw [Fm.atomss] at h; cases h
  | f :: fs, h, a, ha => by
    rw [Fm.forms, Bool.and_eq_true] at h
    rw [Fm.atomss, List.mem_append] at ha
    exact ha.elim (Fm.form_atoms f h.1 a) (Fm.forms_atoms fs h.2 a)
end
theorem form_node {op : Int} {a : Tm} {v : ByteArray} {ps : List Fm} (h : (Fm.mk op a v ps).form = true) : (op = 3 → ps = [] ∧ a.atom = true) ∧ (op ≠ 3 → a.n.data.toList.isEmpty = true ∧ a.us = []) := by
  rw [Fm.form, Bool.and_eq_true] at h
  have h1 := h.1
  simp only [Fm.form1, Fm.op, Fm.ps, Fm.v, Fm.a, Bool.and_eq_true, beq_iff_eq] at h1
  obtain ⟨⟨h2, -⟩, h3⟩ := h1
  refine ⟨fun e => ?_, fun e => ?_⟩
  · replace h3 : a.atom = true := by simpa [e] using h3
    rw [e] at h2
    exact ⟨List.length_eq_zero_iff.1 (Option.some.inj h2).symm, h3⟩
  · replace h3 : a.none = true := by simpa [e] using h3
    rw [Tm.none, Bool.and_eq_true] at h3
    exact ⟨h3.1, by simpa using h3.2⟩
theorem nmss_app (a b : List Tm) : Tm.nmss (a ++ b) = Tm.nmss a ++ Tm.nmss b := by
  induction a with
  | nil => rw [Tm.nmss]; rfl
  | cons x a ih => rw [List.cons_append, Tm.nmss, Tm.nmss, ih, List.append_assoc]
mutual
theorem Fm.syms_atoms : ∀ (f : Fm) (z : ByteArray), f.form = true → varB z.data.toList = false → z.data.toList.isEmpty = false → (z ∈ f.syms ↔ z ∈ Tm.nmss f.atoms)
  | .mk op a v ps, z, h, h1, h2 => by
    obtain ⟨g1, g2⟩ := form_node h
    rw [Fm.form, Bool.and_eq_true] at h
    rw [Fm.syms, Fm.atoms, List.mem_append]
    split
    · next e =>
      rw [(g1 e).1, Fm.symss, Tm.nmss, Tm.nmss, List.append_nil, Tm.syms_mem a z h1 h2]
      simp
    · next e =>
      obtain ⟨g3, g4⟩ := g2 e
      have : z ∉ a.syms := by
        rw [Tm.syms_mem a z h1 h2]
        obtain ⟨n, us⟩ := a
        obtain rfl : us = [] := g4
        rw [Tm.nms, Tm.nmss, List.mem_singleton]
        rintro rfl
        have g3 : z.data.toList.isEmpty = true := g3
        rw [h2] at g3; cases g3
      rw [Fm.symss_atoms ps z h.2 h1 h2]
      exact ⟨fun h => h.elim (fun h => absurd h this) id, .inr⟩
theorem Fm.symss_atoms : ∀ (fs : List Fm) (z : ByteArray), Fm.forms fs = true → varB z.data.toList = false → z.data.toList.isEmpty = false → (z ∈ Fm.symss fs ↔ z ∈ Tm.nmss (Fm.atomss fs))
  | [], z, _, _, _ => by rw [Fm.symss, Fm.atomss, Tm.nmss]
  | f :: fs, z, h, h1, h2 => by
    rw [Fm.forms, Bool.and_eq_true] at h
    rw [Fm.symss, Fm.atomss, nmss_app, List.mem_append, List.mem_append, Fm.syms_atoms f z h.1 h1 h2, Fm.symss_atoms fs z h.2 h1 h2]
end
mutual
theorem Tm.nodes_nms : ∀ t : Tm, t.nodes = true → ∀ z ∈ t.nms, varB z.data.toList = true ∨ symB z.data.toList = true
  | .mk n us, h, z, hz => by
    rw [Tm.nodes] at h
    rw [Tm.nms, List.mem_cons] at hz
    split at h
    · next hv =>
      have : us = [] := by simpa using h
      subst this
      rw [Tm.nmss] at hz
      rcases hz with rfl | hz
      · exact .inl hv
      · cases hz
    · rw [Bool.and_eq_true, Bool.and_eq_true] at h
      rcases hz with rfl | hz
      · exact .inr h.1.1
      · exact Tm.nodess_nms us h.2 z hz
theorem Tm.nodess_nms : ∀ us : List Tm, Tm.nodess us = true → ∀ z ∈ Tm.nmss us, varB z.data.toList = true ∨ symB z.data.toList = true
  | [], _, z, hz => by rw [Tm.nmss] at hz; cases hz
  | a :: us, h, z, hz => by
    rw [Tm.nodess, Bool.and_eq_true] at h
    rw [Tm.nmss, List.mem_append] at hz
    exact hz.elim (Tm.nodes_nms a h.1 z) (Tm.nodess_nms us h.2 z)
end
theorem atom_nms {a : Tm} (h : a.atom = true) : ∀ z ∈ a.nms, isEq z = true ∨ varB z.data.toList = true ∨ symB z.data.toList = true := by
  intro z hz
  rw [Tm.atom] at h
  split at h
  · next he =>
    rw [Bool.and_eq_true] at h
    obtain ⟨n, us⟩ := a
    rw [Tm.nms, List.mem_cons] at hz
    rcases hz with rfl | hz
    · exact .inl he
    · exact .inr (Tm.nodess_nms us h.2 z hz)
  · rw [Bool.and_eq_true, Tm.good, Bool.and_eq_true] at h
    exact .inr (Tm.nodes_nms a h.2.2 z hz)
theorem nmss_mem : ∀ {us : List Tm} {z : ByteArray}, z ∈ Tm.nmss us → ∃ a ∈ us, z ∈ a.nms
  | [], _, h => by rw [Tm.nmss] at h; cases h
  | a :: us, z, h => by
    rw [Tm.nmss, List.mem_append] at h
    rcases h with h | h
    · exact ⟨a, List.mem_cons_self .., h⟩
    · obtain ⟨b, hb, hz⟩ := nmss_mem h
      exact ⟨b, List.mem_cons_of_mem _ hb, hz⟩
theorem dNm_plain (j : Nat) : varB (dNm j).data.toList = false ∧ (dNm j).data.toList.isEmpty = false ∧ isEq (dNm j) = false := by
  refine ⟨?_, by rw [dNm_list]; rfl, by rw [isEq, dNm_list]; simp⟩
  cases h : varB (dNm j).data.toList with
  | false => rfl
  | true => have := varB_lead h; rw [dNm_list] at this; cases this
theorem taken_agree {f : Fm} (hf : f.form = true) (j : Nat) : inS f.syms (dNm j) = inS (Tm.symIs f.atoms []) (dNm j) := by
  obtain ⟨h1, h2, h3⟩ := dNm_plain j
  rw [inS, inS, decide_eq_decide, Fm.syms_atoms f _ hf h1 h2]
  constructor
  · intro h
    obtain ⟨a, ha, hz⟩ := nmss_mem h
    have hs : symB (dNm j).data.toList = true := by
      rcases atom_nms (Fm.form_atoms f hf a ha) _ hz with h | h | h
      · rw [h3] at h; cases h
      · rw [h1] at h; cases h
      · exact h
    exact (Tm.symIs_mem _ _ _ hs).2 (.inr h)
  · intro h
    have hs := Tm.symIs_sym f.atoms [] (fun z hz => by cases hz) _ h
    exact ((Tm.symIs_mem _ _ _ hs).1 h).elim (fun h => by cases h) id
theorem taken_short {f : Fm} : ∀ j, 99999 < j → inS (Tm.symIs f.atoms []) (dNm j) = false := fun j hj => by
  cases h : inS (Tm.symIs f.atoms []) (dNm j) with
  | false => rfl
  | true =>
    rw [inS] at h
    have hs := Tm.symIs_sym f.atoms [] (fun z hz => by cases hz) _ (of_decide_eq_true h)
    have := symB_len hs
    have := dNm_len hj
    omega
theorem nextF_congr {S S' : ByteArray → Bool} (h : ∀ j, S (dNm j) = S' (dNm j)) : ∀ n k, nextF S n k = nextF S' n k
  | 0, k => by rw [nextF, nextF]
  | n + 1, k => by rw [nextF, nextF, h, nextF_congr h n]
mutual
theorem dfn_congr {S S' : ByteArray → Bool} {vf : Fm → List ByteArray} (h : ∀ j, S (dNm j) = S' (dNm j)) : ∀ (f : Fm) (b : Bool) (k : Nat), dfn S vf f b k = dfn S' vf f b k
  | .mk op a x ps, b, k => by rw [dfn, dfn, dfnL_congr h ps (op == 6) k, nextD, nextD, nextF_congr h]
theorem dfnL_congr {S S' : ByteArray → Bool} {vf : Fm → List ByteArray} (h : ∀ j, S (dNm j) = S' (dNm j)) : ∀ (fs : List Fm) (b : Bool) (k : Nat), dfnL S vf fs b k = dfnL S' vf fs b k
  | [], _, _ => by rw [dfnL, dfnL]
  | f :: fs, b, k => by rw [dfnL, dfnL, dfn_congr h f b k, dfnL_congr h fs]
end
/-! ### Few names are taken, so the numbers stay small -/
theorem nodup_sub_len : ∀ {l m : List ByteArray}, l.Nodup → (∀ x ∈ l, x ∈ m) → l.length ≤ m.length
  | [], _, _, _ => Nat.zero_le _
  | x :: l, m, hn, hs => by
    rw [List.nodup_cons] at hn
    have hx := hs x (List.mem_cons_self ..)
    have ih := nodup_sub_len (l := l) (m := m.erase x) hn.2 fun y hy => (List.mem_erase_of_ne (a := y) (b := x) (fun e : y = x => hn.1 (by rw [← e]; exact hy))).2 (hs y (List.mem_cons_of_mem _ hy))
    rw [List.length_erase_of_mem hx] at ih
    have := List.length_pos_of_mem hx
    rw [List.length_cons]; omega
def cntS (S : ByteArray → Bool) (n : Nat) : Nat := ((List.range n).filter fun j => S (dNm (j + 1))).length
theorem cntS_succ (S : ByteArray → Bool) (n : Nat) : cntS S (n + 1) = cntS S n + (if S (dNm (n + 1)) then 1 else 0) := by
  rw [cntS, cntS, List.range_succ, List.filter_append, List.length_append]
  congr 1
  rw [List.filter_cons]
  split <;> rfl
theorem cntS_le (us : List ByteArray) (n : Nat) : cntS (inS us) n ≤ us.length := by
  have e : cntS (inS us) n = (((List.range n).filter fun j => inS us (dNm (j + 1))).map fun j => dNm (j + 1)).length := by rw [cntS, List.length_map]
  rw [e]
  refine nodup_sub_len ?_ fun x hx => ?_
  · refine List.Pairwise.map _ (fun i j h => ?_) (List.Nodup.sublist List.filter_sublist List.nodup_range)
    exact fun e => h (by have := dNm_inj e; omega)
  · obtain ⟨j, hj, rfl⟩ := List.mem_map.1 hx
    have := (List.mem_filter.1 hj).2
    rw [inS] at this
    exact of_decide_eq_true this
theorem nextF_cnt (S : ByteArray → Bool) : ∀ n k, nextF S n k + cntS S k ≤ k + 1 + cntS S (nextF S n k)
  | 0, k => by rw [nextF, cntS_succ]; omega
  | n + 1, k => by
    rw [nextF]
    split
    · next h =>
      have ih := nextF_cnt S n (k + 1)
      rw [cntS_succ, if_pos h] at ih
      omega
    · rw [cntS_succ]; omega
mutual
theorem dfn_cntS {S : ByteArray → Bool} {vf : Fm → List ByteArray} : ∀ (f : Fm) (b : Bool) (k : Nat), (dfn S vf f b k).2.1 + cntS S k ≤ k + f.sz + cntS S (dfn S vf f b k).2.1
  | .mk op a x ps, b, k => by
    have ih := dfnL_cntS (S := S) (vf := vf) ps (op == 6) k
    rw [dfn, Fm.sz]
    simp only
    split
    · show nextD S _ + _ ≤ _ + cntS S (nextD S _)
      have := nextF_cnt S 100000 (dfnL S vf ps (op == 6) k).2.1
      rw [← nextD] at this
      omega
    · show (dfnL S vf ps (op == 6) k).2.1 + _ ≤ _ + cntS S (dfnL S vf ps (op == 6) k).2.1
      omega
theorem dfnL_cntS {S : ByteArray → Bool} {vf : Fm → List ByteArray} : ∀ (fs : List Fm) (b : Bool) (k : Nat), (dfnL S vf fs b k).2.1 + cntS S k ≤ k + Fm.szs fs + cntS S (dfnL S vf fs b k).2.1
  | [], b, k => by rw [dfnL, Fm.szs]; show k + _ ≤ k + 0 + cntS S k; omega
  | f :: fs, b, k => by
    have h1 := dfn_cntS (S := S) (vf := vf) f b k
    have h2 := dfnL_cntS (S := S) (vf := vf) fs b (dfn S vf f b k).2.1
    rw [dfnL, Fm.szs]
    show (dfnL S vf fs b (dfn S vf f b k).2.1).2.1 + _ ≤ _ + cntS S (dfnL S vf fs b (dfn S vf f b k).2.1).2.1
    omega
end
theorem dfn_few (us : List ByteArray) (vf : Fm → List ByteArray) (f : Fm) (b : Bool) : (dfn (inS us) vf f b 0).2.1 ≤ f.sz + us.length := by
  have h1 := dfn_cntS (S := inS us) (vf := vf) f b 0
  have h2 := cntS_le us (dfn (inS us) vf f b 0).2.1
  omega
/-! ### The atom of a definition is valid -/
mutual
theorem dfn_nm {S : ByteArray → Bool} {vf : Fm → List ByteArray} : ∀ (f : Fm) (b : Bool) (k : Nat), k ≤ (dfn S vf f b k).2.1 ∧ ∀ d ∈ (dfn S vf f b k).2.2, ∃ j, k < j ∧ j ≤ (dfn S vf f b k).2.1 ∧ d.name = dNm j
  | .mk op a x ps, b, k => by
    obtain ⟨h1, h2⟩ := dfnL_nm (S := S) (vf := vf) ps (op == 6) k
    rw [dfn]
    simp only
    split
    · have h3 := nextF_gt S 100000 (dfnL S vf ps (op == 6) k).2.1
      rw [← nextD] at h3
      refine ⟨show k ≤ nextD S _ by omega, fun d hd => ?_⟩
      rcases List.mem_append.1 hd with hd | hd
      · obtain ⟨j, j1, j2, j3⟩ := h2 d hd
        exact ⟨j, j1, show j ≤ nextD S _ by omega, j3⟩
      · simp only [List.mem_cons, List.not_mem_nil, or_false] at hd
        subst hd
        exact ⟨_, show k < nextD S _ by omega, Nat.le_refl _, rfl⟩
    · exact ⟨h1, h2⟩
theorem dfnL_nm {S : ByteArray → Bool} {vf : Fm → List ByteArray} : ∀ (fs : List Fm) (b : Bool) (k : Nat), k ≤ (dfnL S vf fs b k).2.1 ∧ ∀ d ∈ (dfnL S vf fs b k).2.2, ∃ j, k < j ∧ j ≤ (dfnL S vf fs b k).2.1 ∧ d.name = dNm j
  | [], b, k => by rw [dfnL]; exact ⟨Nat.le_refl _, fun d hd => by cases hd⟩
  | f :: fs, b, k => by
    obtain ⟨h1, h2⟩ := dfn_nm (S := S) (vf := vf) f b k
    obtain ⟨h3, h4⟩ := dfnL_nm (S := S) (vf := vf) fs b (dfn S vf f b k).2.1
    rw [dfnL]
    refine ⟨show k ≤ (dfnL S vf fs b (dfn S vf f b k).2.1).2.1 by omega, fun d hd => ?_⟩
    rcases List.mem_append.1 hd with hd | hd
    · obtain ⟨j, j1, j2, j3⟩ := h2 d hd
      exact ⟨j, j1, show j ≤ (dfnL S vf fs b (dfn S vf f b k).2.1).2.1 by omega, j3⟩
    · obtain ⟨j, j1, j2, j3⟩ := h4 d hd
      exact ⟨j, by omega, j2, j3⟩
end
theorem digB_di {n : Nat} (h : n < 10) : diC (digB n) = true := by
  rcases (by omega : n = 0 ∨ n = 1 ∨ n = 2 ∨ n = 3 ∨ n = 4 ∨ n = 5 ∨ n = 6 ∨ n = 7 ∨ n = 8 ∨ n = 9) with rfl | rfl | rfl | rfl | rfl | rfl | rfl | rfl | rfl | rfl <;> rfl
theorem itoa_digits : ∀ (m n : Nat), n < m → (Lib.itoa (n : Int)).all diC = true
  | 0, _, h => by omega
  | m + 1, n, h => by
    by_cases h10 : n < 10
    · rw [itoa_small (n : Int) (by omega) (by omega)]
      simp only [List.all_cons, List.all_nil, Bool.and_true]
      exact digB_di (by omega)
    · rw [itoa_step (n : Int) (by omega), List.all_append, show (n : Int) / 10 = ((n / 10 : Nat) : Int) by omega, itoa_digits m (n / 10) (by omega)]
      simp only [List.all_cons, List.all_nil, Bool.and_true, Bool.true_and]
      exact digB_di (by omega)
theorem itoa_short : ∀ (d n : Nat), n < 10 ^ (d + 1) → (Lib.itoa (n : Int)).length ≤ d + 1
  | 0, n, h => by rw [itoa_small (n : Int) (by omega) (by omega)]; simp
  | d + 1, n, h => by
    by_cases h10 : n < 10
    · rw [itoa_small (n : Int) (by omega) (by omega)]; simp
    · rw [itoa_step (n : Int) (by omega), List.length_append, show (n : Int) / 10 = ((n / 10 : Nat) : Int) by omega, List.length_singleton]
      have := itoa_short d (n / 10) (by rw [Nat.div_lt_iff_lt_mul (by omega)]; rw [Nat.pow_succ] at h; exact h)
      omega
theorem dNm_sym {j : Nat} (h : j ≤ 99999) : symB (dNm j).data.toList = true := by
  have h1 := itoa_short 4 j (by omega)
  have h2 := itoa_digits (j + 1) j (by omega)
  have h3 : (Lib.itoa (j : Int)).all unC = true := by
    rw [List.all_eq_true] at h2 ⊢
    intro c hc
    have := h2 c hc
    simp only [unC, smC, this, Bool.or_true, Bool.true_or]
  rw [dNm_list, symB, Bool.and_eq_true, Bool.and_eq_true, Bool.and_eq_true]
  refine ⟨⟨⟨by simp, by rw [decide_eq_true_iff, List.length_cons]; omega⟩, ?_⟩, ?_⟩
  · rw [headTail, h3]; rfl
  · rw [Bool.not_eq_true', ← Bool.not_eq_true, List.contains_iff_mem]
    intro hm
    simp [keyW] at hm
theorem atom_sz {a : Tm} (h : a.atom = true) : a.sz ≤ 30 := by
  rw [Tm.atom] at h
  split at h
  · rw [Bool.and_eq_true, Bool.and_eq_true, Tm.small, Bool.and_eq_true] at h
    exact of_decide_eq_true h.1.2.1
  · rw [Bool.and_eq_true, Tm.good, Bool.and_eq_true, Tm.small, Bool.and_eq_true] at h
    exact of_decide_eq_true h.2.1.1
mutual
theorem Tm.lv_nodes : ∀ t : Tm, t.nodes = true → t.lv = true
  | .mk n us, h => by
    rw [Tm.nodes] at h
    rw [Tm.lv]
    split at h
    · next hv =>
      have : us = [] := by simpa using h
      rw [this, Tm.lvs]; simp
    · next hv =>
      rw [Bool.and_eq_true, Bool.and_eq_true] at h
      rw [Tm.lvs_nodes us h.2]
      simp [hv]
theorem Tm.lvs_nodes : ∀ us : List Tm, Tm.nodess us = true → Tm.lvs us = true
  | [], _ => by rw [Tm.lvs]
  | a :: us, h => by
    rw [Tm.nodess, Bool.and_eq_true] at h
    rw [Tm.lvs, Tm.lv_nodes a h.1, Tm.lvs_nodes us h.2]; rfl
end
theorem atom_lv {a : Tm} (h : a.atom = true) : a.lv = true := by
  rw [Tm.atom] at h
  split at h
  · next he =>
    rw [Bool.and_eq_true] at h
    obtain ⟨n, us⟩ := a
    have hv : varB n.data.toList = false := by
      have he : n.data.toList = [61] := by have he : isEq n = true := he; rw [isEq] at he; simpa using he
      rw [he]; rfl
    rw [Tm.lv, hv, Tm.lvs_nodes us h.2]; rfl
  · rw [Bool.and_eq_true, Tm.good, Bool.and_eq_true] at h
    exact Tm.lv_nodes a h.2.2
mutual
theorem Fm.okD_form : ∀ f : Fm, f.form = true → f.nq = true → f.okD = true ∧ f.nn ≤ 30 * f.sz
  | .mk op a v ps, h, hq => by
    obtain ⟨g1, g2⟩ := form_node h
    rw [Fm.form, Bool.and_eq_true] at h
    rw [Fm.nq, Bool.and_eq_true] at hq
    obtain ⟨i1, i2⟩ := Fm.okDs_form ps h.2 hq.2
    rw [Fm.okD, Fm.nn, Fm.sz, i1, hq.1]
    by_cases e : op = 3
    · obtain ⟨hp, ha⟩ := g1 e
      have := atom_sz ha
      rw [if_pos e, Tm.ord_atom ha, atom_lv ha, hp]
      refine ⟨rfl, ?_⟩
      rw [hp] at i2
      omega
    · obtain ⟨-, hu⟩ := g2 e
      rw [if_neg e]
      refine ⟨rfl, ?_⟩
      obtain ⟨n, us⟩ := a
      obtain rfl : us = [] := hu
      rw [Tm.sz, Tm.szs]; omega
theorem Fm.okDs_form : ∀ fs : List Fm, Fm.forms fs = true → Fm.nqs fs = true → Fm.okDs fs = true ∧ Fm.nns fs ≤ 30 * Fm.szs fs
  | [], _, _ => by rw [Fm.okDs, Fm.nns, Fm.szs]; exact ⟨rfl, by omega⟩
  | f :: fs, h, hq => by
    rw [Fm.forms, Bool.and_eq_true] at h
    rw [Fm.nqs, Bool.and_eq_true] at hq
    obtain ⟨i1, i2⟩ := Fm.okD_form f h.1 hq.1
    obtain ⟨j1, j2⟩ := Fm.okDs_form fs h.2 hq.2
    rw [Fm.okDs, Fm.nns, Fm.szs, i1, j1]
    exact ⟨rfl, by omega⟩
end
theorem atm_atom {j : Nat} {vs : List ByteArray} {f : Fm} (hj : j ≤ 99999) (hv : ∀ z ∈ vs, varB z.data.toList = true) (hl : vs.length ≤ 4) : (Dfn.atm ⟨dNm j, vs, f⟩).atom = true := by
  obtain ⟨h1, -, h3⟩ := dNm_plain j
  have h2 := dNm_sym hj
  have hz := atm_sz j vs f
  have hd : ∀ l : List ByteArray, Tm.dps (l.map leafT) ≤ 1 := fun l => by
    induction l with
    | nil => rw [List.map_nil, Tm.dps]; omega
    | cons a l ih => rw [List.map_cons, Tm.dps, leafT, Tm.dp, Tm.dps]; omega
  have hn : ∀ l : List ByteArray, (∀ z ∈ l, varB z.data.toList = true) → Tm.nodess (l.map leafT) = true := fun l hl => by
    induction l with
    | nil => rw [List.map_nil, Tm.nodess]
    | cons a l ih =>
      rw [List.map_cons, Tm.nodess, leafT, Tm.nodes, hl a (List.mem_cons_self ..), ih fun z hz => hl z (List.mem_cons_of_mem _ hz)]; rfl
  have hdp : (Dfn.atm ⟨dNm j, vs, f⟩).dp ≤ 8 := by rw [Dfn.atm, Tm.dp]; have := hd vs; show Tm.dps (vs.map leafT) + 1 ≤ 8; omega
  have hnd : (Dfn.atm ⟨dNm j, vs, f⟩).nodes = true := by
    rw [Dfn.atm, Tm.nodes, h1, h2, hn vs hv]
    simp [hl]
  rw [Tm.atom, if_neg (by show ¬ isEq (dNm j) = true; rw [h3]; decide), Tm.good, Tm.small, hnd]
  show (symB (dNm j).data.toList && _) = true
  rw [h2]
  simp only [Bool.true_and, Bool.and_true, Bool.and_eq_true, decide_eq_true_eq]
  exact ⟨by omega, hdp⟩
mutual
theorem an_atoms : ∀ (f : Fm), f.form = true → ∀ x ∈ f.an, ∃ a ∈ f.atoms, x = a.n
  | .mk op a v ps, h, x, hx => by
    obtain ⟨g1, -⟩ := form_node h
    rw [Fm.form, Bool.and_eq_true] at h
    rw [Fm.an, List.mem_append] at hx
    rw [Fm.atoms]
    split
    · next e =>
      rw [if_pos e, (g1 e).1, Fm.ans] at hx
      rcases hx with hx | hx
      · exact ⟨a, List.mem_cons_self .., by simpa using hx⟩
      · cases hx
    · next e =>
      rw [if_neg e] at hx
      rcases hx with hx | hx
      · cases hx
      · exact ans_atoms ps h.2 x hx
theorem ans_atoms : ∀ (fs : List Fm), Fm.forms fs = true → ∀ x ∈ Fm.ans fs, ∃ a ∈ Fm.atomss fs, x = a.n
  | [], _, x, hx => by rw [Fm.ans] at hx; cases hx
  | f :: fs, h, x, hx => by
    rw [Fm.forms, Bool.and_eq_true] at h
    rw [Fm.ans, List.mem_append] at hx
    rw [Fm.atomss]
    rcases hx with hx | hx
    · obtain ⟨a, ha, e⟩ := an_atoms f h.1 x hx
      exact ⟨a, List.mem_append_left _ ha, e⟩
    · obtain ⟨a, ha, e⟩ := ans_atoms fs h.2 x hx
      exact ⟨a, List.mem_append_right _ ha, e⟩
end
theorem nmss_in {us : List Tm} {a : Tm} {z : ByteArray} (ha : a ∈ us) (hz : z ∈ a.nms) : z ∈ Tm.nmss us := by
  induction us with
  | nil => cases ha
  | cons b us ih =>
    rw [Tm.nmss, List.mem_append]
    rcases List.mem_cons.1 ha with rfl | ha
    · exact .inl hz
    · exact .inr (ih ha)
def takenE (f : Fm) (x : ByteArray) : Bool := inS (Tm.symIs f.atoms []) x || isEq x
theorem takenE_dNm (f : Fm) (j : Nat) : takenE f (dNm j) = inS (Tm.symIs f.atoms []) (dNm j) := by rw [takenE, (dNm_plain j).2.2, Bool.or_false]
theorem takenE_an {f : Fm} (hf : f.form = true) : ∀ x ∈ f.an, takenE f x = true := fun x hx => by
  obtain ⟨a, ha, rfl⟩ := an_atoms f hf x hx
  rw [takenE]
  cases he : isEq a.n with
  | true => simp
  | false =>
    have h := Fm.form_atoms f hf a ha
    rw [Tm.atom, if_neg (by rw [he]; decide), Bool.and_eq_true] at h
    have hm : a.n ∈ a.nms := by obtain ⟨n, us⟩ := a; rw [Tm.nms]; exact List.mem_cons_self ..
    have := (Tm.symIs_mem f.atoms [] a.n h.1).2 (.inr (nmss_in ha hm))
    rw [inS, decide_eq_true this]; rfl
theorem def_all {f : Fm} (hg : f.good = true) (hq : f.nq = true) (ht : tooMany (dfn (inS (Tm.symIs f.atoms [])) vfD f false 0).2.2 = false) :
    DfR (takenE f) f 0 (dfn (inS (Tm.symIs f.atoms [])) vfD f false 0) ∧ (dfn (inS (Tm.symIs f.atoms [])) vfD f false 0).1.good = true ∧
    ∀ d ∈ (dfn (inS (Tm.symIs f.atoms [])) vfD f false 0).2.2, symB d.name.data.toList = true ∧ (∀ v ∈ d.vars, varB v.data.toList = true) ∧ Asc lessB d.vars ∧ d.f.good = true ∧ d.f.nq = true := by
  rw [Fm.good, Bool.and_eq_true, decide_eq_true_eq] at hg
  obtain ⟨hz, hf⟩ := hg
  obtain ⟨hok, hnn⟩ := Fm.okD_form f hf hq
  have hsz := dfn_size (S := inS (Tm.symIs f.atoms [])) f false 0 hok
  have hnm := (dfn_nm (S := inS (Tm.symIs f.atoms [])) (vf := vfD) f false 0).2
  have hfew := dfn_few (Tm.symIs f.atoms []) vfD f false
  have hlen := Tm.symIs_len f.atoms []
  have hat := Fm.szs_atoms f
  simp only [List.length_nil, Nat.zero_add] at hlen
  have hvl : ∀ d ∈ (dfn (inS (Tm.symIs f.atoms [])) vfD f false 0).2.2, d.vars.length ≤ 4 := fun d hd => by
    rw [tooMany, List.any_eq_false] at ht
    have := ht d hd
    simp only [decide_eq_true_eq] at this
    omega
  have key : ∀ d ∈ (dfn (inS (Tm.symIs f.atoms [])) vfD f false 0).2.2, symB d.name.data.toList = true ∧ (∀ v ∈ d.vars, varB v.data.toList = true) ∧ Asc lessB d.vars ∧ d.atm.atom = true := fun d hd => by
    obtain ⟨j, -, hj, hdn⟩ := hnm d hd
    obtain ⟨d1, -, -, d4, -⟩ := hsz.ds d hd
    have hv : ∀ v ∈ d.vars, varB v.data.toList = true := by rw [d4]; exact vfD_var d1
    have hj2 : j ≤ 99999 := by omega
    refine ⟨by rw [hdn]; exact dNm_sym hj2, hv, by rw [d4]; exact (vfD_asc d.f).asc, ?_⟩
    obtain ⟨nm, vs, df⟩ := d
    obtain rfl : nm = dNm j := hdn
    exact atm_atom hj2 hv (hvl _ hd)
  have hce := dfn_congr (vf := vfD) (takenE_dNm f) f false 0
  have hR := dfn_ok (S := takenE f) (vf := vfD) (fun j hj => by rw [takenE_dNm]; exact taken_short j hj) f.sz f (Nat.le_refl _) hf hq (takenE_an hf) false 0 (fun d hd => (key d (by rw [← hce]; exact hd)).2.2.2)
  rw [hce] at hR
  obtain ⟨-, m1, m2, -⟩ := hR.mid (dfn (inS (Tm.symIs f.atoms [])) vfD f false 0).2.2 [] (by rw [List.append_nil])
  rw [uAll] at m1 m2
  refine ⟨hR, ?_, fun d hd => ?_⟩
  · rw [Fm.good, m1, Bool.and_true, decide_eq_true_eq]
    have m2 : (dfn (inS (Tm.symIs f.atoms [])) vfD f false 0).1.sz ≤ f.sz := m2
    omega
  · obtain ⟨k1, k2, k3, -⟩ := key d hd
    obtain ⟨e1, e2, e3⟩ := hR.ds d hd
    exact ⟨k1, k2, k3, by rw [Fm.good, e1, Bool.and_true, decide_eq_true_eq]; omega, e3⟩
end Go.Proofs.YtmbkjdkjemlfkaaGreatDoor
