import Derived.Test.YtmbkjdkjemlfkaaGreatDoorDfPart26
namespace Go.Proofs.YtmbkjdkjemlfkaaGreatDoor
set_option maxRecDepth 100000
/-! ### Formulas whose variables both sides find alike -/
mutual
def Tm.lv : Tm → Bool | .mk n us => (!varB n.data.toList || us.isEmpty) && Tm.lvs us
def Tm.lvs : List Tm → Bool | [] => true | a :: us => a.lv && Tm.lvs us
end
mutual
def Fm.okD : Fm → Bool | .mk op a _ ps => (if op = 3 then a.ord && a.lv && ps.isEmpty else true) && (!(op == 8) && !(op == 9)) && Fm.okDs ps
def Fm.okDs : List Fm → Bool | [] => true | f :: fs => f.okD && Fm.okDs fs
end
mutual
theorem Fm.okD_nq : ∀ f : Fm, f.okD = true → f.nq = true
  | .mk op a _ ps, h => by
    rw [Fm.okD, Bool.and_eq_true, Bool.and_eq_true] at h
    rw [Fm.nq, Fm.okDs_nq ps h.2, h.1.2]; rfl
theorem Fm.okDs_nq : ∀ fs : List Fm, Fm.okDs fs = true → Fm.nqs fs = true
  | [], _ => by rw [Fm.nqs]
  | f :: fs, h => by
    rw [Fm.okDs, Bool.and_eq_true] at h
    rw [Fm.nqs, Fm.okD_nq f h.1, Fm.okDs_nq fs h.2]; rfl
end
mutual
theorem Fm.okD_ord : ∀ f : Fm, f.okD = true → ∀ a ∈ f.atoms, a.ord = true ∧ a.lv = true
  | .mk op a _ ps, h => by
    rw [Fm.okD, Bool.and_eq_true, Bool.and_eq_true] at h
    obtain ⟨⟨h1, h2⟩, h3⟩ := h
    rw [Fm.atoms]
    split
    · next e =>
      rw [if_pos e, Bool.and_eq_true, Bool.and_eq_true] at h1
      intro b hb
      obtain rfl : b = a := by simpa using hb
      exact h1.1
    · exact Fm.okDs_ord ps h3
theorem Fm.okDs_ord : ∀ fs : List Fm, Fm.okDs fs = true → ∀ a ∈ Fm.atomss fs, a.ord = true ∧ a.lv = true
  | [], _, a, h => by rw [Fm.atomss] at h; cases h
  | f :: fs, h, a, ha => by
    rw [Fm.okDs, Bool.and_eq_true] at h
    rw [Fm.atomss, List.mem_append] at ha
    exact ha.elim (Fm.okD_ord f h.1 a) (Fm.okDs_ord fs h.2 a)
end
mutual
theorem Tm.colI_mem : ∀ (t : Tm) (l : List ByteArray) (z : ByteArray), t.lv = true → (z ∈ t.colI l ↔ z ∈ l ∨ z ∈ t.vs)
  | .mk n us, l, z, h => by
    rw [Tm.lv, Bool.and_eq_true] at h
    rw [Tm.colI, Tm.vs]
    cases hv : varB n.data.toList with
    | true =>
      rw [hv] at h
      have he : us.isEmpty = true := by simpa using h.1
      rw [he, if_pos (by decide), if_pos rfl, addV]
      split
      · next hi =>
        have : n ∈ l := by rw [inS] at hi; exact of_decide_eq_true hi
        simp only [List.mem_cons, List.not_mem_nil, or_false]
        exact ⟨.inl, fun h => h.elim id (fun e => e ▸ this)⟩
      · simp
    | false =>
      rw [Bool.and_false, if_neg (by decide), if_neg (by decide)]
      exact Tm.colIs_mem us l z h.2
theorem Tm.colIs_mem : ∀ (us : List Tm) (l : List ByteArray) (z : ByteArray), Tm.lvs us = true → (z ∈ Tm.colIs us l ↔ z ∈ l ∨ z ∈ Tm.vss us)
  | [], l, z, _ => by rw [Tm.colIs, Tm.vss]; simp
  | a :: us, l, z, h => by
    rw [Tm.lvs, Bool.and_eq_true] at h
    rw [Tm.colIs, Tm.vss, Tm.colIs_mem us _ z h.2, Tm.colI_mem a l z h.1, List.mem_append, or_assoc]
end
mutual
theorem Fm.vs_atoms : ∀ f : Fm, f.okD = true → f.vs = Tm.vss f.atoms
  | .mk op a _ ps, h => by
    rw [Fm.okD, Bool.and_eq_true, Bool.and_eq_true] at h
    obtain ⟨⟨h1, -⟩, h3⟩ := h
    rw [Fm.vs, Fm.atoms]
    split
    · next e =>
      rw [if_pos e, Bool.and_eq_true] at h1
      have : ps = [] := by simpa using h1.2
      rw [this, Fm.vss, Tm.vss, Tm.vss]
    · rw [List.nil_append]; exact Fm.vss_atoms ps h3
theorem Fm.vss_atoms : ∀ fs : List Fm, Fm.okDs fs = true → Fm.vss fs = Tm.vss (Fm.atomss fs)
  | [], _ => by rw [Fm.vss, Fm.atomss, Tm.vss]
  | f :: fs, h => by
    rw [Fm.okDs, Bool.and_eq_true] at h
    have app : ∀ a b : List Tm, Tm.vss (a ++ b) = Tm.vss a ++ Tm.vss b := fun a b => by
      induction a with
      | nil => rw [Tm.vss]; rfl
      | cons x a ih => rw [List.cons_append, Tm.vss, Tm.vss, ih, List.append_assoc]
    rw [Fm.vss, Fm.atomss, app, Fm.vs_atoms f h.1, Fm.vss_atoms fs h.2]
end
mutual
theorem Fm.szs_atoms : ∀ f : Fm, Tm.szs f.atoms ≤ f.nn
  | .mk op a _ ps => by
    have := Fm.szss_atoms ps
    rw [Fm.atoms, Fm.nn]
    split
    · rw [Tm.szs, Tm.szs]; omega
    · omega
theorem Fm.szss_atoms : ∀ fs : List Fm, Tm.szs (Fm.atomss fs) ≤ Fm.nns fs
  | [] => by rw [Fm.atomss, Tm.szs]; omega
  | f :: fs => by
    have app : ∀ a b : List Tm, Tm.szs (a ++ b) = Tm.szs a + Tm.szs b := fun a b => by
      induction a with
      | nil => rw [Tm.szs]; simp
      | cons x a ih => rw [List.cons_append, Tm.szs, Tm.szs, ih]; omega
    have := Fm.szs_atoms f
    have := Fm.szss_atoms fs
    rw [Fm.atomss, Fm.nns, app]; omega
end
def vfD (f : Fm) : List ByteArray := srtL (Tm.colIs f.atoms [])
theorem lvs_all : ∀ {us : List Tm}, (∀ a ∈ us, a.lv = true) → Tm.lvs us = true
  | [], _ => by rw [Tm.lvs]
  | a :: us, h => by rw [Tm.lvs, h a (List.mem_cons_self ..), lvs_all (fun b hb => h b (List.mem_cons_of_mem _ hb))]; rfl
theorem vfD_asc (f : Fm) : AscOf (vfD f) [] (Tm.colIs f.atoms []) :=
  ⟨srt_asc (colIs_nodup _ _ List.nodup_nil), fun z => by rw [vfD, (srt_perm _).mem_iff]; simp, by rw [vfD, srt_len]; simp⟩
theorem vfD_of {f : Fm} {l : List ByteArray} (h : AscOf l [] (Tm.colIs f.atoms [])) : l = vfD f := h.eq (vfD_asc f) fun _ => Iff.rfl
theorem vfD_mem {f : Fm} (hf : f.okD = true) (z : ByteArray) : z ∈ Tm.colIs f.atoms [] ↔ z ∈ f.vs := by
  rw [Tm.colIs_mem _ _ _ (lvs_all fun a ha => (Fm.okD_ord f hf a ha).2), Fm.vs_atoms f hf]; simp
theorem vfD_of' {f : Fm} {l : List ByteArray} (hf : f.okD = true) (h : AscOf l [] f.vs) : l = vfD f := h.eq (vfD_asc f) fun z => (vfD_mem hf z).symm
theorem vfD_len (f : Fm) : (vfD f).length ≤ f.nn := by
  rw [vfD, srt_len]
  have := Tm.colIs_len f.atoms []
  have := Fm.szs_atoms f
  simp at *; omega
mutual
theorem Tm.vs_leaf : ∀ (t : Tm), t.ord = true → ∀ z ∈ t.vs, varB z.data.toList = true
  | .mk n us, h, z, hz => by
    rw [Tm.ord, Bool.and_eq_true] at h
    rw [Tm.vs] at hz
    split at hz
    · next hv => obtain rfl : z = n := by simpa using hz
                 exact hv
    · exact Tm.vss_leaf us h.2 z hz
theorem Tm.vss_leaf : ∀ (us : List Tm), Tm.ords us = true → ∀ z ∈ Tm.vss us, varB z.data.toList = true
  | [], _, z, hz => by rw [Tm.vss] at hz; cases hz
  | a :: us, h, z, hz => by
    rw [Tm.ords, Bool.and_eq_true] at h
    rw [Tm.vss, List.mem_append] at hz
    exact hz.elim (Tm.vs_leaf a h.1 z) (Tm.vss_leaf us h.2 z)
end
theorem ords_all : ∀ {us : List Tm}, (∀ a ∈ us, a.ord = true) → Tm.ords us = true
  | [], _ => by rw [Tm.ords]
  | a :: us, h => by rw [Tm.ords, h a (List.mem_cons_self ..), ords_all (fun b hb => h b (List.mem_cons_of_mem _ hb))]; rfl
theorem vfD_var {f : Fm} (hf : f.okD = true) : ∀ z ∈ vfD f, varB z.data.toList = true := fun z hz => by
  have hz := (vfD_mem hf z).1 (by rw [vfD, (srt_perm _).mem_iff] at hz; exact hz)
  rw [Fm.vs_atoms f hf] at hz
  exact Tm.vss_leaf _ (ords_all fun a ha => (Fm.okD_ord f hf a ha).1) z hz
/-! ### The atom of a definition -/
theorem dNm_list (n : Nat) : (dNm n).data.toList = 100 :: Lib.itoa (n : Int) := by simp [dNm]
theorem atm_ok (n : Nat) (vs : List ByteArray) (f : Fm) (hv : ∀ z ∈ vs, varB z.data.toList = true) : (Dfn.atm ⟨dNm n, vs, f⟩).ord = true ∧ (Dfn.atm ⟨dNm n, vs, f⟩).lv = true := by
  have h1 : lead (dNm n).data.toList = false := by rw [dNm_list]; rfl
  have h2 : varB (dNm n).data.toList = false := by
    cases h : varB (dNm n).data.toList with
    | false => rfl
    | true => have := varB_lead h; rw [h1] at this; cases this
  have h3 : (dNm n).data.toList.isEmpty = false := by rw [dNm_list]; rfl
  have hl : ∀ z ∈ vs, (leafT z).ord = true ∧ (leafT z).lv = true := fun z hz => by
    have := hv z hz
    rw [leafT, Tm.ord, Tm.ords, Tm.lv, Tm.lvs, varB_lead this, this]
    have hn := varB_ne this
    cases h : z.data.toList with
    | nil => exact absurd h hn
    | cons => exact ⟨rfl, rfl⟩
  rw [Dfn.atm, Tm.ord, Tm.lv, h1, h2, h3]
  refine ⟨?_, ?_⟩
  · rw [ords_all]; · rfl
    intro a ha
    obtain ⟨z, hz, rfl⟩ := List.mem_map.1 ha
    exact (hl z hz).1
  · rw [lvs_all]; · rfl
    intro a ha
    obtain ⟨z, hz, rfl⟩ := List.mem_map.1 ha
    exact (hl z hz).2
theorem atm_sz (n : Nat) (vs : List ByteArray) (f : Fm) : (Dfn.atm ⟨dNm n, vs, f⟩).sz = 1 + vs.length := by
  have h : ∀ l : List ByteArray, Tm.szs (l.map leafT) = l.length := fun l => by
    induction l with
    | nil => rw [List.map_nil, Tm.szs]; rfl
    | cons a l ih => rw [List.map_cons, Tm.szs, ih, leafT, Tm.sz, Tm.szs, List.length_cons]; omega
  rw [Dfn.atm, Tm.sz, h]
/-! ### What 'define' makes -/
section
variable {S : ByteArray → Bool}
structure DfS (f : Fm) (r : Fm × Nat × List Dfn) : Prop where
  ok : r.1.okD = true
  sz : r.1.sz ≤ f.sz
  nn : r.1.nn ≤ f.nn + f.sz
  ds : ∀ d ∈ r.2.2, d.f.okD = true ∧ d.f.sz ≤ f.sz ∧ d.f.nn ≤ f.nn + f.sz ∧ d.vars = vfD d.f ∧ ∃ j, d.name = dNm j
structure DfSs (fs : List Fm) (r : List Fm × Nat × List Dfn) : Prop where
  ok : Fm.okDs r.1 = true
  sz : Fm.szs r.1 ≤ Fm.szs fs
  nn : Fm.nns r.1 ≤ Fm.nns fs + Fm.szs fs
  len : r.1.length = fs.length
  ds : ∀ d ∈ r.2.2, d.f.okD = true ∧ d.f.sz ≤ Fm.szs fs ∧ d.f.nn ≤ Fm.nns fs + Fm.szs fs ∧ d.vars = vfD d.f ∧ ∃ j, d.name = dNm j
mutual
theorem dfn_size : ∀ (f : Fm) (b : Bool) (k : Nat), f.okD = true → DfS f (dfn S vfD f b k)
  | .mk op a x ps, b, k, h => by
    have h0 := h
    rw [Fm.okD, Bool.and_eq_true, Bool.and_eq_true] at h
    have ih := dfnL_size ps (op == 6) k h.2
    obtain ⟨i1, i2, i3, i4, i5⟩ := ih
    have hok : (Fm.mk op a x (dfnL S vfD ps (op == 6) k).1).okD = true := by
      rw [Fm.okD, i1, h.1.2]
      have h11 := h.1.1
      split at h11
      · next e =>
        rw [if_pos e]
        rw [Bool.and_eq_true] at h11
        have hp : ps = [] := by simpa using h11.2
        rw [hp, dfnL, h11.1]; rfl
      · next e => rw [if_neg e]; rfl
    have hsz : (Fm.mk op a x (dfnL S vfD ps (op == 6) k).1).sz ≤ (Fm.mk op a x ps).sz := by rw [Fm.sz, Fm.sz]; omega
    have hnn : (Fm.mk op a x (dfnL S vfD ps (op == 6) k).1).nn + 1 ≤ (Fm.mk op a x ps).nn + (Fm.mk op a x ps).sz := by rw [Fm.nn, Fm.nn, Fm.sz]; omega
    have hds : ∀ d ∈ (dfnL S vfD ps (op == 6) k).2.2, d.f.okD = true ∧ d.f.sz ≤ (Fm.mk op a x ps).sz ∧ d.f.nn ≤ (Fm.mk op a x ps).nn + (Fm.mk op a x ps).sz ∧ d.vars = vfD d.f ∧ ∃ j, d.name = dNm j := fun d hd => by
      obtain ⟨j1, j2, j3, j4⟩ := i5 d hd
      exact ⟨j1, by rw [Fm.sz]; omega, by rw [Fm.nn, Fm.sz]; omega, j4⟩
    rw [dfn]
    simp only
    split
    · refine ⟨?_, ?_, ?_, ?_⟩
      · have := atm_ok (nextD S (dfnL S vfD ps (op == 6) k).2.1) (vfD (.mk op a x (dfnL S vfD ps (op == 6) k).1)) (.mk op a x (dfnL S vfD ps (op == 6) k).1) (vfD_var hok)
        show (atomOfF _).okD = true
        rw [atomOfF, Fm.okD, if_pos rfl, this.1, this.2, Fm.okDs]; rfl
      · show (atomOfF _).sz ≤ _
        rw [atomOfF, Fm.sz, Fm.szs, Fm.sz]; omega
      · show (atomOfF _).nn ≤ _
        have := vfD_len (.mk op a x (dfnL S vfD ps (op == 6) k).1)
        rw [atomOfF, Fm.nn, Fm.nns, atm_sz]; omega
      · intro d hd
        rcases List.mem_append.1 hd with hd | hd
        · exact hds d hd
        · simp only [List.mem_cons, List.not_mem_nil, or_false] at hd
          subst hd
          exact ⟨hok, hsz, by show (Fm.mk op a x _).nn ≤ _; omega, rfl, _, rfl⟩
    · exact ⟨hok, hsz, by show (Fm.mk op a x _).nn ≤ _; omega, hds⟩
theorem dfnL_size : ∀ (fs : List Fm) (b : Bool) (k : Nat), Fm.okDs fs = true → DfSs fs (dfnL S vfD fs b k)
  | [], b, k, _ => by
    rw [dfnL]
    exact ⟨by rw [Fm.okDs], by rw [Fm.szs]; exact Nat.le_refl _, by rw [Fm.nns, Fm.szs]; omega, rfl, fun d hd => by cases hd⟩
  | f :: fs, b, k, h => by
    rw [Fm.okDs, Bool.and_eq_true] at h
    obtain ⟨i1, i2, i3, i4⟩ := dfn_size f b k h.1
    obtain ⟨j1, j2, j3, j4, j5⟩ := dfnL_size fs b (dfn S vfD f b k).2.1 h.2
    rw [dfnL]
    refine ⟨?_, ?_, ?_, ?_, ?_⟩
    · show Fm.okDs (_ :: _) = true
      rw [Fm.okDs, i1, j1]; rfl
    · show Fm.szs (_ :: _) ≤ _
      rw [Fm.szs, Fm.szs]; omega
    · show Fm.nns (_ :: _) ≤ _
      rw [Fm.nns, Fm.nns, Fm.szs]; omega
    · show (_ :: _ : List Fm).length = _
      rw [List.length_cons, List.length_cons, j4]
    · intro d hd
      rcases List.mem_append.1 hd with hd | hd
      · obtain ⟨m1, m2, m3, m4⟩ := i4 d hd
        exact ⟨m1, by rw [Fm.szs]; omega, by rw [Fm.nns, Fm.szs]; omega, m4⟩
      · obtain ⟨m1, m2, m3, m4⟩ := j5 d hd
        exact ⟨m1, by rw [Fm.szs]; omega, by rw [Fm.nns, Fm.szs]; omega, m4⟩
end
theorem nextD_le {k : Nat} (hS : ∀ j, 99999 < j → S (dNm j) = false) : nextD S k ≤ max (k + 1) 100000 := by
  have key : ∀ n k, nextF S n k ≤ max (k + 1) 100000 := fun n => by
    induction n with
    | zero => intro k; rw [nextF]; omega
    | succ n ih =>
      intro k
      rw [nextF]
      split
      · next h =>
        have hk : k + 1 ≤ 99999 := by
          rcases Nat.lt_or_ge 99999 (k + 1) with h' | h'
          · rw [hS _ h'] at h; cases h
          · exact h'
        have := ih (k + 1)
        omega
      · omega
  exact key _ _
mutual
theorem dfn_num {vf : Fm → List ByteArray} (hS : ∀ j, 99999 < j → S (dNm j) = false) : ∀ (f : Fm) (b : Bool) (k s : Nat), k ≤ 100000 + s → k ≤ (dfn S vf f b k).2.1 ∧ (dfn S vf f b k).2.1 ≤ 100000 + s + f.sz
  | .mk op a x ps, b, k, s, h => by
    have ih := dfnL_num (vf := vf) hS ps (op == 6) k s h
    rw [dfn]
    simp only
    split
    · have h1 := nextD_le (k := (dfnL S vf ps (op == 6) k).2.1) hS
      have h2 := nextF_gt S 100000 (dfnL S vf ps (op == 6) k).2.1
      rw [← nextD] at h2
      show k ≤ nextD S _ ∧ nextD S _ ≤ _
      rw [Fm.sz]; omega
    · show k ≤ (dfnL S vf ps (op == 6) k).2.1 ∧ (dfnL S vf ps (op == 6) k).2.1 ≤ _
      rw [Fm.sz]; omega
theorem dfnL_num {vf : Fm → List ByteArray} (hS : ∀ j, 99999 < j → S (dNm j) = false) : ∀ (fs : List Fm) (b : Bool) (k s : Nat), k ≤ 100000 + s → k ≤ (dfnL S vf fs b k).2.1 ∧ (dfnL S vf fs b k).2.1 ≤ 100000 + s + Fm.szs fs
  | [], b, k, s, h => by rw [dfnL, Fm.szs]; exact ⟨Nat.le_refl _, h⟩
  | f :: fs, b, k, s, h => by
    have h1 := dfn_num (vf := vf) hS f b k s h
    have h2 := dfnL_num (vf := vf) hS fs b (dfn S vf f b k).2.1 (s + f.sz) (by omega)
    rw [dfnL, Fm.szs]
    show k ≤ (dfnL S vf fs b (dfn S vf f b k).2.1).2.1 ∧ (dfnL S vf fs b (dfn S vf f b k).2.1).2.1 ≤ _
    omega
end
theorem dfnL_snoc {vf : Fm → List ByteArray} (p : Fm) (b : Bool) : ∀ (ps : List Fm) (k : Nat), dfnL S vf (ps ++ [p]) b k = ((dfnL S vf ps b k).1 ++ [(dfn S vf p b (dfnL S vf ps b k).2.1).1], (dfn S vf p b (dfnL S vf ps b k).2.1).2.1, (dfnL S vf ps b k).2.2 ++ (dfn S vf p b (dfnL S vf ps b k).2.1).2.2)
  | [], k => by rw [List.nil_append, dfnL, dfnL, dfnL]; simp only [List.nil_append, List.append_nil]
  | a :: ps, k => by
    rw [List.cons_append, dfnL, dfnL_snoc p b ps, dfnL]
    simp
theorem dfnL_len {vf : Fm → List ByteArray} (b : Bool) : ∀ (ps : List Fm) (k : Nat), (dfnL S vf ps b k).1.length = ps.length
  | [], k => by rw [dfnL]
  | a :: ps, k => by rw [dfnL]; show (_ :: _ : List Fm).length = _; rw [List.length_cons, List.length_cons, dfnL_len b ps]
end
open Go.RowKit
theorem AppG.cell2 {eT : TypeId} {sz bt ci n i j k : Nat} {CP : Value → World → Prop} {v : Value} {W : World} {c : Nat} (hG : ∀ x w1, CP x w1 → w1.heap[c]? = W.heap[c]? ∧ c < w1.heap.size) {m : Nat} (hm : m ≤ 2) {u : Nat → Value} {w : World} (h : AppG eT sz bt ci CP v n W i j k m u w) : w.heap[c]? = W.heap[c]? := by
  match m, hm, h with
  | 0, _, h => obtain rfl : w = W.drew := h; rfl
  | 1, _, h => exact (hG _ _ h).1
  | 2, _, h =>
    obtain ⟨w1, cs, h2, _, rfl⟩ := h
    exact (hao w1 _ _ (hG _ _ h2).2).trans (hG _ _ h2).1
def MapQ (St : Nat → (Nat → Prop) → World → Prop) (N : Nat) (t : Fm) (n : Nat) (X : Nat → Prop) (w : World) (e : Ending) (w' : World) : Prop :=
  ∃ (y : FC) (X' : Nat → Prop), e = .returned (.agg y.cs.toArray) ∧ y.f = t ∧ FmAt (fun b => w.heap.size ≤ b ∧ b < w'.heap.size ∧ ¬ X' b) (N + 1) w' y.f y.cs ∧ St n X' w' ∧ (∀ b, X' b → X b ∨ (w.heap.size ≤ b ∧ b < w'.heap.size)) ∧ Kp X w w'
set_option maxHeartbeats 12800000 in
theorem mapParts_any {B : Nat → Prop} (kf : Nat) (caps : Array Value) (hkf : ∀ (args : Array Value) (w : World), Sem.run Tryz.prog (callFunc kf args) w = .ok (.enter kf args) w) (St : Nat → (Nat → Prop) → World → Prop) (hSt : StOk St) (N m : Nat) (hmN : m ≤ N) (res : Nat → Fm) (op : Int) (a : Tm) (xv : ByteArray) (ps : List Fm) (v0 v1 v2 v3 v4 : Value) (w : World) (X0 : Nat → Prop) (hB : ∀ b, B b → ¬ X0 b)
    (h : FmAt B (m + 1) w (.mk op a xv ps) [v0, v1, v2, v3, v4]) (hw : (Fm.mk op a xv ps).wt ≤ 1000000) (h0 : St 0 X0 w)
    (hstep : ∀ (k : Nat) (hk : k < ps.length) (X : Nat → Prop) (wr : World) (u0 u1 u2 u3 u4 : Value), St k X wr → Kp X0 w wr → (∀ b, X b → X0 b ∨ w.heap.size ≤ b) → FmAt B m wr ps[k] [u0, u1, u2, u3, u4] → Calls Tryz.prog kf (#[.agg #[u0, u1, u2, u3, u4]] ++ caps) wr (StepQ St N res k X wr)) :
    Calls Tryz.prog 39 #[.agg #[v0, v1, v2, v3, v4], .func (.func kf) #[] caps] w (MapQ St N (.mk op a xv ((List.range ps.length).map res)) ps.length X0 w) := by
  obtain ⟨vn, va, vp, hcs, hop, hs, ht, hl⟩ := h
  simp only [List.cons.injEq, and_true] at hcs
  obtain ⟨rfl, rfl, rfl, rfl, rfl⟩ := hcs
  obtain ⟨p, pc, rfl, rfl, -⟩ := ht.form
  obtain ⟨pq, pd, rfl, hlen⟩ := hl.form
  unfold maxLen at hlen
  rw [Fm.wt] at hw
  have HT0 := Lib.hid (TmAt.inb _ _ _ ht)
  have HL := Lib.hid hl
  have HST := Lib.hid hstep
  have HS0 := Lib.hid h0
  have HSO := Lib.hid hSt
  have HBX := Lib.hid hB
  have HOP := Lib.hid (And.intro hop hs)
  obtain ⟨W, hW⟩ : ∃ W : World, W = (w.alloc (.cells #[.int .i64 op, .string a.n, .slice p a.us.length pc, .string xv, .slice pq ps.length pd] 29)).alloc (.cells #[.int .i64 0, .string ⟨#[]⟩, .slice none 0 0, .string ⟨#[]⟩, .slice none 0 0] 29) := ⟨_, rfl⟩
  obtain ⟨hsW, hbW, A0, A1⟩ := two_new hW
  obtain ⟨a0, a1, a2, a3, a4⟩ := five_at A0
  have za := bsz (show w.heap.size < W.heap.size by omega)
  have HTW := Lib.hid (TmAt.below hbW HT0.out)
  have HA0 := Lib.hid A0
  have HR0 := Lib.hid A1
  have HBW := Lib.hid hbW
  clear ht hl hop hs hstep h0 hSt hB
  go_enter Tryz.func39, Tryz.ntmps39
  go_wp2_with fail
  rw [← hW]
  clear hW
  refine wp_region_any3 [some (.pointer (some ⟨w.heap.size, 0, none⟩)), some (.int .i64 op), some (.pointer (some ⟨w.heap.size, 1, none⟩)), some (.agg #[.string a.n, .slice p a.us.length pc]), none, some (.pointer (some ⟨w.heap.size, 3, none⟩)), some (.string xv), none, none, none] (MkH 29 m W op xv a) (by kernel_rfl) (by kernel_rfl) (fun L hL => MkH.start hL) ?_
  go_simp
  clear a0 a1 a2 a3 a4 za
  refine flowV_st rfl rfl (by intro u' L w' hun hbe hD; go_simp; first | exact ⟨hD.other 0 (by decide), rfl⟩ | exact hD.other 0 (by decide)) ?_
  go_simp
  refine flowV_st rfl rfl (by intro u' L w' hun hbe hD; have hw' := hD.bel; obtain ⟨e0, e1, e2, e3, e4⟩ := five_at ((hw'.block w.heap.size (by have := HBW.out.size; omega)).trans HA0.out); have ze := bsz (World.block_lt_of_cell? _ _ e0); go_simp; first | exact ⟨hD.other 1 (by decide), rfl⟩ | exact hD.other 1 (by decide)) ?_
  go_simp
  refine flowV_st rfl rfl (by intro u' L w' hun hbe hD; go_simp; first | exact ⟨hD.other 2 (by decide), rfl⟩ | exact hD.other 2 (by decide)) ?_
  go_simp
  refine flowV_st rfl rfl (by intro u' L w' hun hbe hD; have hw' := hD.bel; obtain ⟨e0, e1, e2, e3, e4⟩ := five_at ((hw'.block w.heap.size (by have := HBW.out.size; omega)).trans HA0.out); have ze := bsz (World.block_lt_of_cell? _ _ e0); go_simp; first | exact ⟨hD.other 3 (by decide), rfl⟩ | exact hD.other 3 (by decide)) ?_
  go_simp
  refine flowV_ch rfl rfl (by
    intro u' hu' L w' hun hbe hD
    go_simp
    refine (copyTerm_any m a _ _ w' (TmAt.below hD.bel HTW.out) (by omega)).mono ?_
    rintro e w'' ⟨u0, u1, he, hO, hb'⟩
    obtain ⟨pn, cn, rfl, rfl, -⟩ := hO.form
    exact ⟨_, he, hD.c10 hun (TmAt.inb _ _ _ hO) hb'⟩) ?_
  intro x4
  go_simp
  refine flowV_st rfl rfl (by intro u' L w' hun hbe hD; go_simp; first | exact ⟨hD.other 5 (by decide), rfl⟩ | exact hD.other 5 (by decide)) ?_
  go_simp
  refine flowV_st rfl rfl (by intro u' L w' hun hbe hD; have hw' := hD.bel; obtain ⟨e0, e1, e2, e3, e4⟩ := five_at ((hw'.block w.heap.size (by have := HBW.out.size; omega)).trans HA0.out); have ze := bsz (World.block_lt_of_cell? _ _ e0); go_simp; first | exact ⟨hD.other 6 (by decide), rfl⟩ | exact hD.other 6 (by decide)) ?_
  go_simp
  refine flowV_ch rfl rfl (by
    intro u' hu' L w' hun hbe hD
    have h10 := after_behind hbe (p := 4) (by kernel_rfl)
    have hu10 : u' 4 = x4 := (after_eq hu' (by kernel_rfl)).trans (by simp [upd])
    obtain ⟨pn, cn, e1, -⟩ := hD.r10 h10
    have hm := hD.m11 hun h10 e1
    obtain rfl : x4 = _ := hu10.symm.trans e1
    (first | (go_simp; done) | (go_simp; exact hm))) ?_
  intro x7
  go_simp
  refine flowV_ch rfl rfl (by intro u' hu' L w' hun hbe hD; go_simp; exact hD.a12' hun) ?_
  intro x8
  go_simp
  refine flowV_ch rfl rfl (by
    intro u' hu' L w' hun hbe hD
    have h11 := after_behind hbe (p := 7) (by kernel_rfl)
    have h12 := after_behind hbe (p := 8) (by kernel_rfl)
    have hu11 : u' 7 = x7 := (after_eq hu' (by kernel_rfl)).trans (by simp [upd])
    have hu12 : u' 8 = x8 := (after_eq hu' (by kernel_rfl)).trans (by simp [upd])
    obtain ⟨k', e1, e2, e3, e4, -⟩ := hD.a12 h12
    obtain ⟨pn, cn, e6, -⟩ := hD.r10 (hD.o11 h11)
    have hs := hD.s13 (v' := undef) hun h11 h12 e6 e1
    have hv := hD.b11 h11 _ _ e6
    obtain rfl : x7 = _ := hu11.symm.trans hv
    obtain rfl : x8 = _ := hu12.symm.trans e1
    obtain ⟨d0, d1, d2, d3, d4⟩ := five_at (e4 (getD_tf hun))
    have df : ∀ j, w'.frozen? ⟨k', j, none⟩ = false := fun j => frozen_of_row w' k' j _ _ (e4 (getD_tf hun))
    have ze := bsz e3
    clear e1 e2 e3 e4 e6 hv hu11 hu12 hu'
    (first | (go_simp; done) | (go_simp; exact hs))) ?_
  intro x9
  refine flowV_nil ?_
  intro L w4 hL hD
  obtain ⟨bk, pb, cb, e1, hbk, hbox, htm, hb4⟩ := hD.done (fun i hi => by simpa using hL i (by simpa using hi))
  obtain rfl : x8 = .pointer (some ⟨bk, 0, none⟩) := by simpa [upd] using e1
  have hz4 := hb4.size
  have HTM := Lib.hid htm
  have HB4 := Lib.hid hb4
  have HBX4 := Lib.hid hbox
  have zk := bsz (blk_lt hbox)
  clear hL hD e1 htm hb4 hbox
  have hw4 : Below w.heap.size w w4 := Below.step HBW.out HB4.out
  have HW4 := Lib.hid hw4
  have hX0 : ∀ b, X0 b → b < w.heap.size := HSO.out.foot _ _ _ HS0.out
  have HX0 := Lib.hid hX0
  have HSB : Hid (St 0 X0 w4) := Lib.hid (HSO.out.stab _ _ _ _ HS0.out (Kp.of_below hw4))
  have hz4' := hw4.size
  obtain ⟨a0, a1, a2, a3, a4⟩ := five_at ((HB4.out.block w.heap.size (by omega)).trans HA0.out)
  have za := bsz (show w.heap.size < w4.heap.size by omega)
  clear hw4 hX0
  go_wp2_with fail
  go_wp2
  clear a0 a1 a2 a3 a4 za zk
  go_loopw [19] (fun iv wr => ∃ (i : Nat) (X : Nat → Prop) (q : Option Addr) (d : Nat) (D : List FC), i ≤ ps.length ∧ iv = .int .i64 i ∧ D.length = i ∧ D.map (·.f) = (List.range i).map res ∧ FOm 29 N w4.heap.size bk X (.int .i64 op) (.string a.n) (.slice pb a.us.length cb) (.string xv) (.slice q i d) D wr ∧ St i X wr ∧ (∀ b, X b → X0 b ∨ w4.heap.size ≤ b) ∧ Kp (fun b => X0 b ∨ b = bk) w4 wr) (fun iv _ => ps.length - (intOf iv).toNat)
  case atStart =>
    refine ⟨0, X0, none, 0, [], Nat.zero_le _, rfl, rfl, rfl, ⟨HBX4.out, ⟨by simp [flatF], .inl ⟨rfl, rfl⟩⟩, fun x hx => by simp at hx, blk_lt HBX4.out, fun e => by have := HX0.out _ e; omega, fun b e => by simp [Value.ownBlock] at e, by simp⟩, HSB.out, fun b e => .inl e, Kp.refl _ _⟩
  case round =>
    obtain ⟨i, X, q, d, D, hi, rfl, hDi, hDm, hfo, hst, hxx, hkp⟩ := hrel
    have HFO := Lib.hid hfo
    have HDI := Lib.hid hDi
    have HDM := Lib.hid hDm
    have HSX := Lib.hid hst
    have HXX := Lib.hid hxx
    have HKP := Lib.hid hkp
    have hzr := hkp.size
    have HKW := Lib.hid (show ∀ b, b < w.heap.size → ¬ X0 b → wr.heap[b]? = w.heap[b]? from fun b h1 h2 => (hkp.block b (by omega) (fun e => e.elim h2 (fun e => by omega))).trans (HW4.out.block b h1))
    have HFT := Lib.hid (HSO.out.foot _ _ _ hst)
    obtain ⟨c0, c1, c2, c3, c4, cf, ck⟩ := hfo.cells
    have zk := bsz ck
    obtain ⟨a0, a1, a2, a3, a4⟩ := five_at ((hkp.block w.heap.size (by omega) (fun e => e.elim (fun e => by have := HX0.out _ e; omega) (fun e => by omega))).trans ((HB4.out.block _ (by omega)).trans HA0.out))
    have za := bsz (show w.heap.size < wr.heap.size by omega)
    clear hfo hst hxx hkp hDi hDm
    by_cases hlt : i < ps.length
    · have hlti : (i : Int) < ps.length := by omega
      have hsame : SameOn B w wr := fun b hb hl => HKW.out b hl (HBX.out b hb)
      obtain ⟨b, o, hpe, hBb, x0, x1, x2, x3, x4, hx0, hx1, hx2, hx3, hx4, hx⟩ := (HL.out.mono hsame (fun _ h => h) (fun x cs _ hx => FmAt.mono hsame (fun _ h => h) _ _ _ _ (Nat.le_refl _) hx)).at5 hlt
      obtain ⟨y, hy⟩ : ∃ y, ps[i] = y := ⟨_, rfl⟩
      have HY := Lib.hid hy
      rw [hy] at hx
      obtain ⟨py, cy, qy, dy, rfl, rfl, rfl, rfl, rfl, -⟩ := hx.form
      have HX := Lib.hid hx
      have zb := bsz (World.block_lt_of_cell? _ _ hx0)
      subst hpe
      clear hx hy hsame c0 c1 c2 c3
      go_wp2_with fail
      go_wp2
      obtain ⟨W5, hW5⟩ : ∃ q', q' = wr.alloc (.cells #[.int .i64 y.op, .string y.a.n, .slice py y.a.us.length cy, .string y.v, .slice qy y.ps.length dy] 29) := ⟨_, rfl⟩
      have hs5 : W5.heap.size = wr.heap.size + 1 := by rw [hW5]; simp
      have hb5 : Below wr.heap.size wr W5 := by rw [hW5]; exact (Below.refl _ _).alloc (Nat.le_refl _) _
      have B5 := Lib.hid (show W5.heap[wr.heap.size]? = some (.cells #[.int .i64 y.op, .string y.a.n, .slice py y.a.us.length cy, .string y.v, .slice qy y.ps.length dy] 29 (0, 0)) by rw [hW5]; exact heap_alloc_new wr _)
      rw [← hW5]
      clear hW5
      have HF5 := Lib.hid (HFO.out.kp (Kp.of_below hb5) (fun b e => .inl e))
      have HS5 := Lib.hid (HSO.out.stab _ _ _ W5.drew HSX.out ⟨hb5.os, hb5.tape, hb5.output, hb5.size, fun b hb _ => hb5.block b hb⟩)
      have HX5 := Lib.hid (FmAt.below hb5 HX.out)
      have HK5 := Lib.hid (show Kp X0 w W5.drew from ⟨hb5.os.trans (HKP.out.os.trans HW4.out.os), hb5.tape.trans (HKP.out.tape.trans HW4.out.tape), hb5.output.trans (HKP.out.output.trans HW4.out.output), by show _ ≤ W5.heap.size; omega, fun b hb hn => (hb5.block b (by omega)).trans (HKW.out b hb hn)⟩)
      have HB5 := Lib.hid hb5
      have HFX5 := Lib.hid (show ∀ b, X b → b < W5.heap.size from fun b e => by have := HFT.out b e; omega)
      have HKG := Lib.hid (show ∀ c, c < W5.heap.size → ¬ X c → ∀ x w1, StepC St N res i X W5.drew x w1 → w1.heap[c]? = W5.heap[c]? ∧ c < w1.heap.size from fun c hc hn x w1 ⟨_, _, _, _, _, _, _, hk⟩ => ⟨hk.block c hc hn, Nat.lt_of_lt_of_le hc hk.size⟩)
      have HVB := Lib.hid (show ∀ b, (Value.slice q i d).ownBlock = some b → w4.heap.size ≤ b ∧ b < wr.heap.size ∧ ¬ X b from fun b e => ⟨own_base HFO.out.row b e, own_lt' HFO.out.row e, HFO.out.vX b e⟩)
      have hc4 : W5.cell? ⟨bk, 4, none⟩ = some (.slice q i d) := HF5.out.cells.2.2.2.2.1
      have HC4 := Lib.hid hc4
      have hnX : ¬ X wr.heap.size := fun e => by have := HFT.out _ e; omega
      have hkX := HFO.out.kX
      clear hb5 hc4 c4 cf hx0 hx1 hx2 hx3 hx4
      refine wp_region_stages [some (.pointer (some ⟨bk, 4, none⟩)), some (.slice q i d), some (.func (.func kf) #[] caps), some (.agg #[.int .i64 y.op, .string y.a.n, .slice py y.a.us.length cy, .string y.v, .slice qy y.ps.length dy]), none, none, none, some (.pointer (some ⟨bk, 4, none⟩)), none] [4, 5, 6, 8] (AppG 29 5 bk 4 (StepC St N res i X W5.drew) (.slice q i d) i W5 4 5 6) (by kernel_rfl) (by kernel_rfl) (by first | kernel_rfl | rfl) (by rfl) rfl ?_
      refine chain_st rfl rfl (by decide) rfl (by intro j u w' hS; go_simp; first | done | exact ⟨hS, rfl⟩ | exact hS | rfl) ?_
      go_simp
      refine chain_stb (c := 6) 2 rfl rfl (by decide) rfl rfl rfl (by first | kernel_rfl | rfl) ?_ ?_
      · intro j u w' hj hS
        have hc : w'.cell? ⟨bk, 4, none⟩ = _ := (World.cell?_of_block (AppG.cell2 (HKG.out bk (by omega) hkX) hj hS)).trans HC4.out
        go_simp
        first | done | exact ⟨hS, rfl⟩ | exact hS | rfl
      go_simp
      refine chain_st rfl rfl (by decide) rfl (by intro j u w' hS; go_simp; first | done | exact ⟨hS, rfl⟩ | exact hS | rfl) ?_
      go_simp
      refine chain_st rfl rfl (by decide) rfl (by
        intro j u w' hS
        have hk := AppG.keep (c := wr.heap.size) (by omega) (HKG.out wr.heap.size (by omega) hnX) (fun e => by have := HVB.out _ e; omega) (by omega) hS
        obtain ⟨e0, e1, e2, e3, e4⟩ := five_at (hk.trans B5.out)
        have ze := bsz (World.block_lt_of_cell? _ _ e0)
        go_simp
        first | done | exact ⟨hS, rfl⟩ | exact hS | rfl) ?_
      go_simp
      refine chain_first rfl rfl rfl (by decide) rfl ?_ ?_
      · intro w' hS
        obtain rfl : w' = W5.drew := hS
        go_simp
        refine (HST.out i hlt X W5.drew _ _ _ _ _ HS5.out HK5.out (fun b e => (HXX.out b e).imp id (fun e => by omega)) (by rw [HY.out]; exact FmAt.below ((Below.refl _ _).drew) HX5.out)).mono ?_
        rintro e w'' ⟨x, X', he, h1, h2, h3, h4, h5⟩
        exact ⟨_, he, by show StepC _ _ _ _ _ _ (upd _ 4 (.agg x.cs.toArray) 4) w''; rw [upd_same]; exact ⟨x, X', rfl, h1, h2, h3, h4, h5⟩⟩
      intro x
      go_simp
      refine chain_next 0 rfl rfl rfl rfl (by decide) rfl (by first | kernel_rfl | rfl) ?_ ?_
      · intro w' hS
        have hS : StepC St N res i X W5.drew (upd _ 4 x 4) w' := hS
        rw [upd_same] at hS
        obtain ⟨y', X', rfl, h1, h2, h3⟩ := id hS
        go_simp
        exact ⟨w', y'.cs.toArray, hS, by rw [upd_same], rfl⟩
      intro x2
      go_simp
      refine chain_next 1 rfl rfl rfl rfl (by decide) rfl (by first | kernel_rfl | rfl) ?_ ?_
      · intro w' hS
        obtain ⟨w1', cs, hcp, hy, rfl⟩ := hS
        rw [upd_same] at hy
        subst hy
        obtain ⟨y', X', he, h1, h2, h3, h4, h5⟩ := id hcp
        simp only [Value.agg.injEq] at he
        subst he
        obtain ⟨vals, r1⟩ : ∃ vals, W5.ownsRow 0 29 5 (.slice q i d) i vals := ⟨_, by have := HF5.out.row; rw [HDI.out] at this; exact own_lower this (Nat.zero_le _)⟩
        refine each_app1 (.tmp 24) (.tmp 28) _ rfl 0 29 5 88 elemFmD (.slice q i d) i vals rfl w1' y'.cs.toArray rfl rfl (own_same r1 (fun b hb hl => h5.block b hl (HVB.out b hb).2.2)) rfl (by intro u hu; simp [FC.cs] at hu; rcases hu with rfl | rfl | rfl | rfl | rfl <;> rfl) (by omega) (by unfold maxLen; omega) (Nat.zero_le _) ?_
        intro v' w3 happ hg3 hnr hsz
        exact ⟨w1', _, hcp, by rw [upd_same]; exact happ, hg3, by rw [upd_same]; exact hnr, hsz⟩
      intro x3
      go_simp
      refine chain_st rfl rfl (by decide) rfl (by intro j u w' hS; go_simp; first | done | exact ⟨hS, rfl⟩ | exact hS | rfl) ?_
      go_simp
      refine chain_next 2 rfl rfl rfl rfl (by decide) rfl (by first | kernel_rfl | rfl) ?_ ?_
      · intro w' hS
        obtain ⟨w1', cs, hcp, happ, hg3, hnr, hsz⟩ := hS
        rw [upd_same] at happ hnr
        obtain ⟨y', X', he, h1, h2, h3, h4, h5⟩ := id hcp
        have hz5 : W5.heap.size ≤ w1'.heap.size := h5.size
        have r1 := HF5.out.row
        rw [HDI.out] at r1
        have h1' := happ _ _ (own_same r1 (fun b hb hl => h5.block b hl (HVB.out b hb).2.2)) (by omega)
        obtain ⟨q', c', rfl⟩ := own_form h1' (by omega)
        have hbt : w'.heap[bk]? = some (.cells #[.int .i64 op, .string a.n, .slice pb a.us.length cb, .string xv, .slice q i d] 29 (0, 0)) := (hg3.block _ (by omega) (fun e => HFO.out.nk e.symm)).trans ((h5.block _ (by show bk < W5.heap.size; omega) hkX).trans HF5.out.box)
        have hcell : w'.cell? ⟨bk, 4, none⟩ = some (.slice q i d) := by rw [cell_of_row w' _ 4 _ _ (0, 0) hbt]; rfl
        have hfro : w'.frozen? ⟨bk, 4, none⟩ = false := frozen_of_row w' _ 4 _ _ hbt
        clear hbt
        go_simp
        refine ⟨w1', w', cs, hcp, ?_, hg3, ?_, hsz, ?_⟩
        · rw [upd_other _ _ (by decide), upd_same]; exact happ
        · rw [upd_other _ _ (by decide), upd_same]; exact hnr
        · rw [upd_other _ _ (by decide), upd_same]
      intro x4
      refine flowU_nil ?_
      intro wz hz
      obtain ⟨w1', w3', cs, hcp, happ, hg3, hnr, hsz, rfl⟩ := hz
      simp only [upd_other _ _ (show (6 : Nat) ≠ 8 by decide), upd_same] at happ hnr
      rw [upd_other _ _ (by decide), upd_same]
      obtain ⟨y', X', he, h1, h2, h3, h4, h5⟩ := hcp
      simp only [Value.agg.injEq] at he
      subst he
      have hk5 : Kp X W5 w1' := ⟨h5.os, h5.tape, h5.output, h5.size, h5.block⟩
      have hz1 := hk5.size
      have hz3 := hg3.size
      have r1 := HF5.out.row
      rw [HDI.out] at r1
      have h1' := happ _ _ (own_same r1 (fun b hb hl => hk5.block b hl (HVB.out b hb).2.2)) (by omega)
      obtain ⟨q', c', rfl⟩ := own_form h1' (by omega)
      obtain ⟨hF6, hK6⟩ := HF5.out.app (v' := .slice (some ⟨q', 0, none⟩) (i + 1) c') hk5 (fun b e => h4 b e) HFX5.out h2 (by omega) (by rw [HDI.out]; exact happ) hg3 hnr (by rw [HDI.out]; omega)
      have HF6 := Lib.hid hF6
      have HS6 := Lib.hid (HSO.out.stab _ _ _ _ h3 hK6)
      have HX6 := Lib.hid (show ∀ b, X' b → X0 b ∨ w4.heap.size ≤ b from fun b e => (h4 b e).elim (HXX.out b) (fun e => .inr (by have : W5.heap.size ≤ b := e.1; omega)))
      have HK6 := Lib.hid (show Kp (fun b => X0 b ∨ b = bk) w4 (w3'.setCell ⟨bk, 4, none⟩ (.slice (some ⟨q', 0, none⟩) (i + 1) c')) from
        (((HKP.out.be HB5.out).trans hk5 (fun b e => (HXX.out b e).imp .inl id)).trans (Kp.of_gr hg3) (fun b e => .inr (HVB.out b e).1)).sc (.inl (.inr rfl)) _)
      have HD6 := Lib.hid (show (D ++ [y']).map (·.f) = (List.range (i + 1)).map res by rw [List.map_append, HDM.out, List.range_succ, List.map_append, List.map_singleton, List.map_singleton, h1])
      clear happ hg3 hnr hsz r1 h1' h1 h2 h3 h4 h5 hk5 hF6 hK6
      go_wp2
      exact ⟨⟨i + 1, X', some ⟨q', 0, none⟩, c', D ++ [y'], by omega, by go_num, by rw [List.length_append, HDI.out]; rfl, HD6.out, HF6.out, HS6.out, HX6.out, HK6.out⟩, by simp [intOf]; omega⟩
    · obtain rfl : i = ps.length := by omega
      have HR := Lib.hid ((HKP.out.block (w.heap.size + 1) (by omega) (fun e => e.elim (fun e => by have := HX0.out _ e; omega) (fun e => by omega))).trans ((HB4.out.block _ (by omega)).trans HR0.out))
      obtain ⟨r0, r1, r2, r3, r4⟩ := five_at HR.out
      have rf : ∀ j, wr.frozen? ⟨w.heap.size + 1, j, none⟩ = false := fun j => frozen_of_row wr _ j _ _ HR.out
      have zr := bsz (show w.heap.size + 1 < wr.heap.size by omega)
      go_wp2
      have hnz : ¬ X (w.heap.size + 1) := fun e => (HXX.out _ e).elim (fun e => by have := HX0.out _ e; omega) (fun e => by omega)
      refine bodyPost_ret (v := .agg #[.int .i64 op, .string a.n, .slice pb a.us.length cb, .string xv, .slice q ps.length d]) (by simp only [results, Tryz.results39]; go_simp) rfl ⟨⟨.mk op a xv ((List.range ps.length).map res), pb, cb, q, d⟩, X, ?_, rfl, ?_, ?_, ?_, ?_⟩
      · show _ = Ending.returned (.agg #[.int .i64 op, .string a.n, .slice pb a.us.length cb, .string xv, .slice q ((List.range ps.length).map res).length d])
        rw [List.length_map, List.length_range]
      · show FmAt _ _ _ _ [.int .i64 op, .string a.n, .slice pb a.us.length cb, .string xv, .slice q ((List.range ps.length).map res).length d]
        rw [List.length_map, List.length_range]
        have hl := HFO.out.at_
        rw [HDM.out] at hl
        refine ⟨_, _, _, rfl, HOP.out.1, HOP.out.2, ?_, ?_⟩
        · have hsm : SameOn (fun b => W.heap.size ≤ b ∧ b < w4.heap.size ∧ b ≠ bk) w4 wr := fun b hb hl => HKP.out.block b hl (fun e => e.elim (fun e => by have := HX0.out _ e; omega) hb.2.2)
          refine TmAt.mono (SameOn.sc (SameOn.sc (SameOn.sc (SameOn.sc (SameOn.sc hsm ?_ _) ?_ _) ?_ _) ?_ _) ?_ _) (fun b hb => ⟨by omega, by simp; omega, fun e => (HXX.out _ e).elim (fun e => by have := HX0.out _ e; omega) (fun e => by omega)⟩) _ _ _ _ hmN HTM.out
          all_goals (intro b hb e; simp at e; omega)
        · refine hl.mono ((((((SameOn.refl _ _).sc ?_ _).sc ?_ _).sc ?_ _).sc ?_ _).sc ?_ _) (fun b hb => ⟨by omega, by simp; omega, hb.2.2⟩) (fun y cs _ hy => FmAt.mono ((((((SameOn.refl _ _).sc ?_ _).sc ?_ _).sc ?_ _).sc ?_ _).sc ?_ _) (fun b hb => ⟨by omega, by simp; omega, hb.2.2⟩) _ _ _ _ (Nat.le_refl _) hy)
          all_goals (intro b hb e; simp at e; omega)
      · exact HSO.out.stab _ _ _ _ HSX.out ((((((Kp.refl _ _).sc (.inl hnz) _).sc (.inl hnz) _).sc (.inl hnz) _).sc (.inl hnz) _).sc (.inl hnz) _)
      · intro b e
        have := HFT.out b e
        exact (HXX.out b e).imp id (fun e => ⟨by omega, by simp; omega⟩)
      · have hk : Kp X0 w wr := ⟨HKP.out.os.trans HW4.out.os, HKP.out.tape.trans HW4.out.tape, HKP.out.output.trans HW4.out.output, by omega, fun b hb hn => HKW.out b hb hn⟩
        have hge : w.heap.size ≤ w.heap.size + 1 := by omega
        exact ((((hk.sc (.inr hge) _).sc (.inr hge) _).sc (.inr hge) _).sc (.inr hge) _).sc (.inr hge) _
structure DC where
  name : ByteArray
  vars : List ByteArray
  p : Option Addr
  c : Nat
  f : FC
def DC.d (x : DC) : Dfn := ⟨x.name, x.vars, x.f.f⟩
def DC.cs (x : DC) : List Value := [.string x.name, .slice x.p x.vars.length x.c, .int .i64 x.f.f.op, .string x.f.f.a.n, .slice x.f.p x.f.f.a.us.length x.f.c, .string x.f.f.v, .slice x.f.q x.f.f.ps.length x.f.d]
structure DAt (B : Nat → Prop) (m : Nat) (w : World) (x : DC) : Prop where
  nm : x.name.size ≤ maxLen
  vs : StrsAt B w (.slice x.p x.vars.length x.c) x.vars
  fm : FmAt B m w x.f.f x.f.cs
theorem DAt.mono {B B' : Nat → Prop} {m n : Nat} {w w' : World} {x : DC} (h : DAt B m w x) (hs : SameOn B w w') (hB : ∀ b, B b → B' b) (hn : m ≤ n) : DAt B' n w' x :=
  ⟨h.nm, h.vs.mono hs hB, FmAt.mono hs hB _ _ _ _ hn h.fm⟩
def flatD (D : List DC) : List Value := D.flatMap DC.cs
theorem flatD_len : ∀ D : List DC, (flatD D).length = D.length * 7
  | [] => rfl
  | x :: D => by
    have := flatD_len D
    rw [flatD] at this
    rw [flatD, List.flatMap_cons, List.length_append, this, List.length_cons]
    show 7 + D.length * 7 = _; omega
theorem flatD_app (A B : List DC) : flatD (A ++ B) = flatD A ++ flatD B := by simp [flatD]
theorem flatD_at {D : List DC} {k : Nat} {y : DC} (h : D[k]? = some y) {i : Nat} (hi : i < 7) : (flatD D)[k * 7 + i]? = y.cs[i]? := by
  obtain ⟨hk, hy⟩ := List.getElem?_eq_some_iff.1 h
  have e : D = D.take k ++ y :: D.drop (k + 1) := by rw [← hy, ← List.drop_eq_getElem_cons hk, List.take_append_drop]
  have hl : (flatD (D.take k)).length = k * 7 := by rw [flatD_len, List.length_take]; congr 1; omega
  rw [e, flatD_app, List.getElem?_append_right (by omega), hl, Nat.add_sub_cancel_left]
  rw [flatD, List.flatMap_cons, List.getElem?_append_left (by show i < 7; exact hi)]
theorem rowD_cell {w : World} {base n c : Nat} {e : TypeId} {p : Option Addr} {D : List DC} (h : w.ownsRow base e 7 (.slice p n c) n (flatD D)) (h0 : 0 < n) : ∃ g, p = some ⟨g, 0, none⟩ ∧ base ≤ g ∧ g < w.heap.size ∧ (∀ j, w.frozen? ⟨g, j, none⟩ = false) ∧
    ∀ (k : Nat) (y : DC), D[k]? = some y → ∀ i, i < 7 → w.cell? ⟨g, k * 7 + i, none⟩ = y.cs[i]? := by
  rcases h.2 with ⟨hv, h1⟩ | ⟨g, cap, cur, hv, h1, h2, h3, h4, h5, h6⟩
  · omega
  · simp only [Value.slice.injEq, true_and] at hv
    obtain ⟨rfl, rfl⟩ := hv
    refine ⟨g, rfl, h1, blk_lt h2, fun j => frozen_of_row w g j _ _ h2, fun k y hy i hi => ?_⟩
    rw [cell_of_row w g (k * 7 + i) cur _ (0, 0) h2]
    have hk := flatD_at hy hi
    rw [← h6, List.getElem?_take] at hk
    split at hk
    · simpa using hk
    · rw [List.getElem?_eq_getElem (by show i < 7; exact hi)] at hk; cases hk
end Go.Proofs.YtmbkjdkjemlfkaaGreatDoor
