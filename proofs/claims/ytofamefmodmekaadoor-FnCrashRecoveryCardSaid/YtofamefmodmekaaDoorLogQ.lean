/- Plain laws of logs: what an append, a recovery and a crash do to the records. No conditions; no program is walked. -/
import Derived.Test.YtofamefmodmekaaDoorLogV
import Derived.Test.YtofamefmodmekaaDoorLogA
namespace Go.Proofs.YtofamefmodmekaaDoor
open Go.RowKit
/-- A text that is read to its end is its records' text. -/
theorem whole_enc {t : List UInt8} (h : lenR 0 (allF t) = t.length) : t = encA 0 (allF t) := by
  have ⟨rest, (e : t = encA 0 (allF t) ++ rest), _, _⟩ := parse_split 60 0 t
  have h1 := congrArg List.length e
  rw [List.length_append, encA_len] at h1
  have : rest = [] := List.length_eq_zero_iff.1 (by omega)
  rw [this, List.append_nil] at e; exact e
theorem all_good (t : List UInt8) : ∀ p ∈ allF t, goodR p = true := (parse_split 60 0 t).choose_spec.2.1
theorem all_enc (ps : List Rec) (hg : ∀ p ∈ ps, goodR p = true) (h : ps.length ≤ 60) : allF (encA 0 ps) = ps := parse_enc_nil ps 60 0 hg h
structure Val (d p : List UInt8) (n : Int) : Prop where
  all : d ++ p = encA 0 (allF (d ++ p))
  dur : d = encA 0 (allF d)
  len : n = ((allF (d ++ p)).length : Int)
  pre : allF (d ++ p) = allF d ++ parseF (60 - (allF d).length) (0 + (allF d).length) p
theorem val_of {d p : List UInt8} {n : Int} (h : validS d p n = true) : Val d p n := by
  unfold validS at h
  simp only [Bool.and_eq_true, decide_eq_true_eq] at h
  obtain ⟨⟨⟨_, h1⟩, h2⟩, h3⟩ := h
  have hd := whole_enc h2
  refine ⟨whole_enc (by rw [h1, List.length_append]), hd, h3.symm, ?_⟩
  conv => lhs; rw [hd]
  exact parse_enc _ 60 0 p (all_good d) (all_60 d)
theorem val_mk {d p : List UInt8} {n : Int} (ps qs : List Rec) (hd : d = encA 0 ps) (hp : d ++ p = encA 0 (ps ++ qs)) (hg : ∀ r ∈ ps ++ qs, goodR r = true) (hl : (ps ++ qs).length ≤ 60) (hn : n = ((ps ++ qs).length : Int)) : validS d p n = true := by
  have h1 : allF (d ++ p) = ps ++ qs := by rw [hp]; exact all_enc _ hg hl
  have h2 : allF d = ps := by
    conv => lhs; rw [hd]
    exact all_enc _ (fun r hr => hg r (List.mem_append_left _ hr)) (by rw [List.length_append] at hl; omega)
  have h3 := lenR_le (ps ++ qs) 0 (by omega) hg
  have h4 : (d ++ p).length = lenR 0 (ps ++ qs) := by rw [hp, encA_len]
  have h5 : d.length = lenR 0 ps := (congrArg List.length hd).trans (encA_len _ _)
  rw [List.length_append] at h4
  unfold validS
  simp only [Bool.and_eq_true, decide_eq_true_eq, h1, h2]
  exact ⟨⟨⟨by omega, by omega⟩, h5.symm⟩, hn.symm⟩
/-- An append. -/
theorem append_all {d p : List UInt8} {n : Int} {c r : List UInt8} (h : validS d p n = true) (hg : goodB c r = true) (hn : n ≠ 60) :
    allF (d ++ (p ++ encF n c r)) = allF (d ++ p) ++ [(c, r)] ∧ validS d (p ++ encF n c r) (n + 1) = true := by
  have v := val_of h
  have h60 := all_60 (d ++ p)
  have hl : (allF (d ++ p)).length + 1 ≤ 60 := by have := v.len; omega
  have e : d ++ (p ++ encF n c r) = encA 0 (allF (d ++ p) ++ [(c, r)]) := by
    rw [← List.append_assoc, encA_append, ← v.all, v.len]
    simp [encA, encR]
  have hg' : ∀ q ∈ allF (d ++ p) ++ [(c, r)], goodR q = true := by
    intro q hq
    rcases List.mem_append.1 hq with hq | hq
    · exact all_good _ q hq
    · rw [List.mem_singleton.1 hq]; exact hg
  refine ⟨?_, ?_⟩
  · rw [e]; exact all_enc _ hg' (by simpa using hl)
  · have hp : allF (d ++ p) ++ [(c, r)] = allF d ++ (parseF (60 - (allF d).length) (0 + (allF d).length) p ++ [(c, r)]) := by rw [v.pre, List.append_assoc]
    refine val_mk (allF d) (parseF (60 - (allF d).length) (0 + (allF d).length) p ++ [(c, r)]) v.dur (by rw [e, hp]) (by rw [← hp]; exact hg') (by rw [← hp]; simpa using hl) ?_
    rw [← hp, v.len]; simp
/-- What is recovered is a log of its own. -/
theorem take_all_enc (t : List UInt8) : t.take (lenR 0 (allF t)) = encA 0 (allF t) := by
  have ⟨rest, (e : t = encA 0 (allF t) ++ rest), _, _⟩ := parse_split 60 0 t
  rw [← encA_len]
  conv => lhs; arg 2; rw [e]
  exact List.take_left
theorem recovered (t : List UInt8) : validS (t.take (lenR 0 (allF t))) [] ((allF t).length : Int) = true ∧ allF (t.take (lenR 0 (allF t)) ++ []) = allF t := by
  rw [take_all_enc]
  refine ⟨val_mk (allF t) [] rfl (by simp) (by simpa using all_good t) (by simpa using all_60 t) (by simp), ?_⟩
  rw [List.append_nil]; exact all_enc _ (all_good t) (all_60 t)
theorem itoa_zero (k : Nat) (h : Lib.itoa (k : Int) = Lib.itoa ((0 : Nat) : Int)) : k = 0 := by
  rw [itoa_small ((0 : Nat) : Int) (by omega) (by omega)] at h
  by_cases h1 : (k : Int) < 10
  · rw [itoa_small _ (by omega) h1] at h
    have h2 := congrArg UInt8.toNat (List.cons.inj h).1
    have h3 : ∀ j, j < 10 → (digB j).toNat = (digB 0).toNat → j = 0 := by decide
    exact h3 k (by omega) h2
  · have h2 := congrArg List.length h
    rw [itoa_step _ (by omega), List.length_append] at h2
    have h4 : 0 < (Lib.itoa ((k : Int) / 10)).length := by
      by_cases h5 : (k : Int) / 10 < 10
      · rw [itoa_small _ (by omega) h5]; simp
      · rw [itoa_step _ (by omega)]; simp
    simp only [List.length_singleton] at h2; omega
/-- The first record of an encoded one. -/
theorem enc_first {k : Nat} {c r : List UInt8} (hg : goodB c r = true) (hk : k ≠ 0) : allF (encF (k : Int) c r) = [] := by
  show parseF (59 + 1) 0 (encF (k : Int) c r) = []
  rw [parseF]
  cases hn : nextF 0 (encF (k : Int) c r) with
  | none => rfl
  | some q =>
    exfalso
    obtain ⟨h1, _, h3⟩ := nextF_some hn
    have e : encF (k : Int) c r = sealF (bodyF (k : Int) c r) ++ 10 :: [] := by simp [encF]
    have hc := cut1_yes (sealF (bodyF (k : Int) c r)) [] 10 (seal_no10 (k : Int) (by omega) hg)
    rw [e, hc] at h3
    have h4 : sealF (bodyF ((0 : Nat) : Int) q.1 q.2) = sealF (bodyF (k : Int) c r) := List.append_cancel_right h3
    have c1 := congrArg (fun l => (cut1 l 35).1) h4
    simp only [sealF] at c1
    rw [cut1_yes _ _ _ (body_no ((0 : Nat) : Int) (by omega) h1), cut1_yes _ _ _ (body_no (k : Int) (by omega) hg)] at c1
    have c2 := congrArg (fun l => (cut1 l 32).1) c1
    simp only [bodyF] at c2
    rw [cut1_yes _ _ _ (itoa_no _ (by omega) 32 (by decide)), cut1_yes _ _ _ (itoa_no _ (by omega) 32 (by decide))] at c2
    exact hk (itoa_zero k c2.symm)
theorem enc_zero {c r : List UInt8} (hg : goodB c r = true) : allF (encF 0 c r) = [(c, r)] := by
  have h := all_enc [(c, r)] (by intro p hp; rw [List.mem_singleton.1 hp]; exact hg) (by simp)
  rw [← h]
  congr 1
  simp [encA, encR]
/-! ### A crash -/
theorem enc_snoc10 (k : Nat) (p : Rec) : encR k p = sealF (bodyF (k : Int) p.1 p.2) ++ [10] := rfl
theorem hasB_take {l : List UInt8} {b : UInt8} (h : hasB l b = false) (j : Nat) : hasB (l.take j) b = false := by
  unfold hasB at *
  rw [List.any_eq_false] at *
  exact fun x hx => h x (List.mem_of_mem_take hx)
/-- A beginning of records' text: some records, and a piece without a newline. -/
theorem take_enc : ∀ (ps : List Rec) (k j : Nat), (∀ p ∈ ps, goodR p = true) → ∃ i tail, i ≤ ps.length ∧ (encA k ps).take j = encA k (ps.take i) ++ tail ∧ hasB tail 10 = false
  | [], k, j, _ => ⟨0, [], Nat.le_refl _, by simp [encA], rfl⟩
  | p :: ps, k, j, hg => by
    by_cases hj : j < (encR k p).length
    · refine ⟨0, (sealF (bodyF (k : Int) p.1 p.2)).take j, Nat.zero_le _, ?_, hasB_take (seal_no10 (k : Int) (by omega) (hg p (by simp))) j⟩
      have h1 : j ≤ (sealF (bodyF (k : Int) p.1 p.2)).length := by
        rw [enc_snoc10, List.length_append] at hj; simp at hj; omega
      rw [encA, List.take_append_of_le_length (by omega), enc_snoc10, List.take_append_of_le_length h1]
      simp [encA]
    · obtain ⟨i, tail, h1, h2, h3⟩ := take_enc ps (k + 1) (j - (encR k p).length) (fun q hq => hg q (by simp [hq]))
      refine ⟨i + 1, tail, by simpa using h1, ?_, h3⟩
      rw [encA, List.take_append, List.take_of_length_le (by omega), h2, List.take_succ_cons, encA, List.append_assoc]
theorem parse_tail (ps : List Rec) (tail : List UInt8) (hg : ∀ p ∈ ps, goodR p = true) (h : ps.length ≤ 60) (ht : hasB tail 10 = false) : allF (encA 0 ps ++ tail) = ps := by
  rw [show allF (encA 0 ps ++ tail) = parseF 60 0 (encA 0 ps ++ tail) from rfl, parse_enc ps 60 0 tail hg h]
  have : parseF (60 - ps.length) (0 + ps.length) tail = [] := by
    cases 60 - ps.length with
    | zero => rfl
    | succ f =>
      rw [parseF]
      have hn : nextF (0 + ps.length) tail = none := by
        unfold nextF
        rw [cut1_no _ _ ht]; simp
      rw [hn]
  rw [this, List.append_nil]
/-- A text's last byte turned. -/
def tornF (l : List UInt8) : List UInt8 := l.set (l.length - 1) (255 - l.getD (l.length - 1) 0)
theorem torn_snoc (l : List UInt8) (x : UInt8) : tornF (l ++ [x]) = l ++ [255 - x] := by
  simp [tornF]
theorem byte_small {p : Rec} {k : Nat} (hg : goodR p = true) : ∀ x ∈ encR k p, x.toNat ≤ 126 := by
  obtain ⟨_, _, h3, _, _, h6⟩ := good_parts hg
  have hi : ∀ n : Int, 0 ≤ n → ∀ x ∈ Lib.itoa n, x.toNat ≤ 126 := by
    intro n hn x hx
    have := itoa_digits n hn x hx
    omega
  have hpl : ∀ l : List UInt8, plainB l = true → ∀ x ∈ l, x.toNat ≤ 126 := by
    intro l hl x hx
    have := List.all_eq_true.1 hl x hx
    simp only [plainC, Bool.and_eq_true, decide_eq_true_eq] at this
    omega
  intro x hx
  have hs := sumF_bd (bodyF (k : Int) p.1 p.2)
  simp only [encR, encF, sealF, bodyF, List.mem_append, List.mem_cons, List.not_mem_nil, or_false] at hx
  rcases hx with ((hx | rfl | hx | rfl | hx) | rfl | hx) | rfl
  · exact hi _ (by omega) x hx
  · decide
  · exact hpl _ h3 x hx
  · decide
  · exact hpl _ h6 x hx
  · decide
  · exact hi _ hs.1 x hx
  · decide
theorem encA_small : ∀ (ps : List Rec) (k : Nat), (∀ p ∈ ps, goodR p = true) → ∀ x ∈ encA k ps, x.toNat ≤ 126
  | [], _, _ => by simp [encA]
  | p :: ps, k, hg => by
    intro x hx
    rw [encA, List.mem_append] at hx
    rcases hx with hx | hx
    · exact byte_small (hg p (by simp)) x hx
    · exact encA_small ps (k + 1) (fun q hq => hg q (by simp [hq])) x hx
theorem turned_no {x : UInt8} (h : x.toNat ≤ 126) : ((255 - x) == 10) = false := by
  rw [beq_eq_false_iff_ne]
  intro e
  have h1 : (255 - x).toNat = 10 := by rw [e]; rfl
  rw [UInt8.toNat_sub_of_le _ _ (by rw [UInt8.le_iff_toNat_le]; show x.toNat ≤ 255; omega)] at h1
  have : (255 : UInt8).toNat = 255 := rfl
  omega
/-- A torn beginning of records' text. -/
theorem torn_enc (ps : List Rec) (k j : Nat) (hg : ∀ p ∈ ps, goodR p = true) (h0 : 0 < j) (h1 : j ≤ (encA k ps).length) : ∃ i tail, i ≤ ps.length ∧ tornF ((encA k ps).take j) = encA k (ps.take i) ++ tail ∧ hasB tail 10 = false := by
  obtain ⟨i, tail, hi, he, ht⟩ := take_enc ps k j hg
  have hx : ∀ x ∈ encA k (ps.take i) ++ tail, x.toNat ≤ 126 := fun x hx => encA_small ps k hg x (List.mem_of_mem_take (by rw [he]; exact hx))
  rcases List.eq_nil_or_concat tail with rfl | ⟨tl, x, rfl⟩
  · rw [List.append_nil] at he
    rcases List.eq_nil_or_concat (ps.take i) with hn | ⟨qs, q, hq⟩
    · rw [hn] at he
      have := congrArg List.length he
      rw [List.length_take, encA, List.length_nil] at this; omega
    · have hgq : goodR q = true := hg q (List.mem_of_mem_take (by rw [hq]; simp))
      have hql : qs = ps.take qs.length := by
        have h2 : qs = (ps.take i).take qs.length := by rw [hq]; simp
        rw [List.take_take] at h2
        have h3 := congrArg List.length hq
        rw [List.length_take] at h3; simp at h3
        rw [show min qs.length i = qs.length by omega] at h2; exact h2
      refine ⟨qs.length, sealF (bodyF ((k + qs.length : Nat) : Int) q.1 q.2) ++ [245], ?_, ?_, ?_⟩
      · have h3 := congrArg List.length hq
        rw [List.length_take] at h3; simp at h3; omega
      · rw [he, hq, List.concat_eq_append, encA_append, ← hql, encA, encA, List.append_nil, enc_snoc10, ← List.append_assoc, torn_snoc, List.append_assoc]; rfl
      · rw [hasB_append, seal_no10 _ (by omega) hgq]; rfl
  · refine ⟨i, tl ++ [255 - x], hi, ?_, ?_⟩
    · rw [he, List.concat_eq_append, ← List.append_assoc, torn_snoc, List.append_assoc]
    · rw [List.concat_eq_append, hasB_append, Bool.or_eq_false_iff] at ht
      rw [hasB_append, ht.1, hasB_cons, turned_no (hx x (by simp))]; rfl
theorem lenR_app : ∀ (ps qs : List Rec) (k : Nat), lenR k (ps ++ qs) = lenR k ps + lenR (k + ps.length) qs
  | [], _, _ => by simp [lenR]
  | p :: ps, qs, k => by
    simp only [List.cons_append, lenR, lenR_app ps, List.length_cons]
    rw [show k + 1 + ps.length = k + (ps.length + 1) by omega]; omega
/-- What a crash leaves is read as the durable records and some of the pending ones. -/
theorem crash_all {d p : List UInt8} {n : Int} (h : validS d p n = true) (j : Nat) (hj : j ≤ p.length) (t : Bool) (x : List UInt8) (hx : x = if t && decide (0 < j) then tornF (p.take j) else p.take j) :
    ∃ i, i ≤ (allF (d ++ p)).length ∧ allF (d ++ x) = (allF (d ++ p)).take i ∧ d.length ≤ lenR 0 (allF (d ++ x)) := by
  have v := val_of h
  obtain ⟨qs, hqs⟩ : ∃ qs, qs = parseF (60 - (allF d).length) (0 + (allF d).length) p := ⟨_, rfl⟩
  have hall := v.pre
  rw [← hqs] at hall
  have hp : p = encA (0 + (allF d).length) qs := by
    have e := v.all
    rw [hall, encA_append, ← v.dur] at e
    exact List.append_cancel_left e
  have hg : ∀ q ∈ qs, goodR q = true := fun q hq => all_good (d ++ p) q (by rw [hall]; exact List.mem_append_right _ hq)
  have h60 := all_60 (d ++ p)
  have key : ∃ i tail, i ≤ qs.length ∧ x = encA (0 + (allF d).length) (qs.take i) ++ tail ∧ hasB tail 10 = false := by
    rw [hx]
    split
    · rename_i hc
      simp only [Bool.and_eq_true, decide_eq_true_eq] at hc
      have := torn_enc qs (0 + (allF d).length) j hg hc.2 (by rw [← hp]; exact hj)
      rw [← hp] at this; exact this
    · have := take_enc qs (0 + (allF d).length) j hg
      rw [← hp] at this; exact this
  obtain ⟨i, tail, hi, he, ht⟩ := key
  have hlen : (allF d).length + qs.length ≤ 60 := by rw [hall, List.length_append] at h60; exact h60
  have hr : allF (d ++ x) = allF d ++ qs.take i := by
    have e : d ++ x = encA 0 (allF d ++ qs.take i) ++ tail := by rw [encA_append, ← v.dur, he, List.append_assoc]
    rw [e]
    refine parse_tail _ tail ?_ ?_ ht
    · intro q hq
      rcases List.mem_append.1 hq with hq | hq
      · exact all_good d q hq
      · exact hg q (List.mem_of_mem_take hq)
    · rw [List.length_append, List.length_take]; omega
  refine ⟨(allF d).length + i, ?_, ?_, ?_⟩
  · rw [hall, List.length_append]; omega
  · rw [hr, hall, List.take_append, List.take_of_length_le (show (allF d).length ≤ (allF d).length + i by omega), Nat.add_sub_cancel_left]
  · rw [hr, lenR_app]
    have : d.length = lenR 0 (allF d) := (congrArg List.length v.dur).trans (encA_len _ _)
    omega
end Go.Proofs.YtofamefmodmekaaDoor
