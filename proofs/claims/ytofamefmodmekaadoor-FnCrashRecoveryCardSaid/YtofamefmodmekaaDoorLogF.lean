/- Plain laws of logs: how a text is read as records, and that both ways of reading agree. No conditions; no program is walked. -/
import Derived.Test.YtofamefmodmekaaDoorEnc
import Derived.Test.YtofamefmodmekaaDoorOwn
namespace Go.Proofs.YtofamefmodmekaaDoor
open Go.RowKit
/-- A text cut at a byte's first place. -/
def cut1 : List UInt8 → UInt8 → List UInt8 × List UInt8 × Bool
  | [], _ => ([], [], false)
  | x :: l, b => if x == b then ([], l, true) else (x :: (cut1 l b).1, (cut1 l b).2.1, (cut1 l b).2.2)
theorem cut_one (l : List UInt8) (b : UInt8) : Lib.cut l [b] = cut1 l b := by
  induction l with
  | nil => simp [Lib.cut, Lib.index, cut1]
  | cons x l ih =>
    have h1 := Lib.index_ge l [b]
    by_cases hx : (x == b) = true
    · have : x = b := by simpa using hx
      subst this
      simp [Lib.cut, Lib.index, cut1]
    · have hp : [b].isPrefixOf (x :: l) = false := by
        simp only [List.isPrefixOf, Bool.and_true, beq_eq_false_iff_ne]
        intro e; exact hx (by simp [e])
      have e : Lib.index (x :: l) [b] = if Lib.index l [b] = -1 then -1 else Lib.index l [b] + 1 := by rw [Lib.index, hp]; simp
      unfold Lib.cut at ih ⊢
      rw [cut1, ← ih, if_neg hx, e]
      by_cases h2 : Lib.index l [b] = -1
      · rw [h2]; rfl
      · rw [if_neg h2, if_pos (by omega), if_pos (by omega)]
        have e2 : (Lib.index l [b] + 1).toNat = (Lib.index l [b]).toNat + 1 := by omega
        rw [e2]
        simp [Nat.add_right_comm]
theorem cut1_yes (a t : List UInt8) (b : UInt8) (h : hasB a b = false) : cut1 (a ++ b :: t) b = (a, t, true) := by
  induction a with
  | nil => simp [cut1]
  | cons x a ih =>
    rw [hasB_cons, Bool.or_eq_false_iff] at h
    rw [List.cons_append, cut1, if_neg (by simp [h.1]), ih h.2]
theorem cut1_no (l : List UInt8) (b : UInt8) (h : hasB l b = false) : cut1 l b = (l, [], false) := by
  induction l with
  | nil => rfl
  | cons x a ih =>
    rw [hasB_cons, Bool.or_eq_false_iff] at h
    rw [cut1, if_neg (by simp [h.1]), ih h.2]
theorem cut1_found (l : List UInt8) (b : UInt8) : (cut1 l b).2.2 = true → l = (cut1 l b).1 ++ b :: (cut1 l b).2.1 := by
  induction l with
  | nil => simp [cut1]
  | cons x l ih =>
    rw [cut1]
    by_cases hx : (x == b) = true
    · rw [if_pos hx]; intro _; simpa using hx
    · rw [if_neg hx]; intro h; simp only [List.cons_append]; rw [← ih h]
theorem cut1_free (l : List UInt8) (b : UInt8) : hasB (cut1 l b).1 b = false := by
  induction l with
  | nil => rfl
  | cons x l ih =>
    rw [cut1]
    by_cases hx : (x == b) = true
    · rw [if_pos hx]; rfl
    · rw [if_neg hx, hasB_cons, ih]; simpa using hx
theorem cut1_lost (l : List UInt8) (b : UInt8) : (cut1 l b).2.2 = false → cut1 l b = (l, [], false) := by
  induction l with
  | nil => simp [cut1]
  | cons x l ih =>
    rw [cut1]
    by_cases hx : (x == b) = true
    · rw [if_pos hx]; intro h; cases h
    · rw [if_neg hx]; intro h; simp only at h; rw [ih h]
/-- The parts of a text, against its first cut. -/
theorem splitP_append (b : UInt8) (l : List UInt8) : ∀ st : List (List UInt8) × List UInt8, (l.foldl (splitSt b) st).1 ++ [(l.foldl (splitSt b) st).2] = st.1 ++ (match splitF l b with | [] => [] | p :: ps => (st.2 ++ p) :: ps) := by
  induction l with
  | nil => intro st; simp [splitF, splitP]
  | cons c l ih =>
    intro st
    have h3 : splitF (c :: l) b = (splitSt b ([], []) c).1 ++ (match splitF l b with | [] => [] | p :: ps => ((splitSt b ([], []) c).2 ++ p) :: ps) := by
      rw [splitF, splitP, List.foldl_cons]; exact ih _
    rw [List.foldl_cons, ih, h3]
    by_cases hc : (c == b) = true
    · simp [splitSt, hc]
    · simp only [Bool.not_eq_true] at hc
      simp only [splitSt, hc, Bool.false_eq_true, if_false, List.nil_append]
      cases splitF l b <;> simp
theorem splitF_cons (c : UInt8) (l : List UInt8) (b : UInt8) : splitF (c :: l) b = if c == b then [] :: splitF l b else match splitF l b with | [] => [] | p :: ps => (c :: p) :: ps := by
  rw [splitF, splitP, List.foldl_cons, splitP_append]
  by_cases hc : (c == b) = true
  · simp [splitSt, hc]
    cases splitF l b <;> simp
  · simp only [Bool.not_eq_true] at hc
    simp only [splitSt, hc, Bool.false_eq_true, if_false, List.nil_append]
    cases splitF l b <;> simp
theorem splitF_ne (l : List UInt8) (b : UInt8) : 0 < (splitF l b).length := by simp [splitF]
theorem splitF_head (l : List UInt8) (b : UInt8) : (splitF l b)[0]? = some (cut1 l b).1 ∧ (decide ((splitF l b).length < 2) = !(cut1 l b).2.2) := by
  induction l with
  | nil => simp [splitF, splitP, cut1]
  | cons c l ih =>
    have hp := splitF_ne l b
    rw [splitF_cons, cut1]
    by_cases hc : (c == b) = true
    · simp [hc]; omega
    · rw [if_neg hc, if_neg hc]
      cases hs : splitF l b with
      | nil => rw [hs] at hp; simp at hp
      | cons p ps =>
        rw [hs] at ih
        simp only [List.getElem?_cons_zero, Option.some.injEq, List.length_cons] at ih ⊢
        exact ⟨by rw [ih.1], ih.2⟩
/-! ### Records -/
theorem plain_no (l : List UInt8) (b : UInt8) (hb : b.toNat < 32 ∨ 126 < b.toNat) (h : plainB l = true) : hasB l b = false := by
  unfold hasB plainB at *
  rw [List.any_eq_false]
  rw [List.all_eq_true] at h
  intro x hx
  have := h x hx
  simp only [plainC, Bool.and_eq_true, decide_eq_true_eq] at this
  simp only [Bool.not_eq_true, beq_eq_false_iff_ne]
  rintro rfl
  omega
theorem encF_eq (k : Int) (c r : List UInt8) : encF k c r = (bodyF k c r ++ 35 :: Lib.itoa (sumF (bodyF k c r))) ++ [10] := rfl
theorem body_no10 (k : Int) (hk : 0 ≤ k) {c r : List UInt8} (h : goodB c r = true) : hasB (bodyF k c r) 10 = false := by
  obtain ⟨_, _, h3, _, _, h6⟩ := good_parts h
  rw [bodyF, hasB_append, hasB_cons, hasB_append, hasB_cons, itoa_no k hk 10 (by decide), plain_no c 10 (by decide) h3, plain_no r 10 (by decide) h6]; rfl
theorem seal_no10 (k : Int) (hk : 0 ≤ k) {c r : List UInt8} (h : goodB c r = true) : hasB (sealF (bodyF k c r)) 10 = false := by
  have hb := sumF_bd (bodyF k c r)
  rw [sealF, hasB_append, hasB_cons, body_no10 k hk h, itoa_no _ hb.1 10 (by decide)]; rfl
abbrev Rec := List UInt8 × List UInt8
def encR (k : Nat) (p : Rec) : List UInt8 := encF (k : Int) p.1 p.2
def goodR (p : Rec) : Bool := goodB p.1 p.2
/-- The record that the body of a line holds, as the program reads it. -/
def bodyR (line : List UInt8) : Rec := ((cut1 (cut1 (cut1 line 35).1 32).2.1 64).1, (cut1 (cut1 (cut1 line 35).1 32).2.1 64).2.1)
/-- The record at the beginning of a text, as the program reads it. -/
def nextF (k : Nat) (t : List UInt8) : Option Rec :=
  if (cut1 t 10).2.2 && goodR (bodyR (cut1 t 10).1) && (encR k (bodyR (cut1 t 10).1) == (cut1 t 10).1 ++ [10]) then some (bodyR (cut1 t 10).1) else none
theorem encR_pos (k : Nat) (p : Rec) : 0 < (encR k p).length := by simp [encR, encF]
theorem bodyR_enc (k : Nat) (p : Rec) (h : goodR p = true) : bodyR (sealF (bodyF (k : Int) p.1 p.2)) = p := by
  obtain ⟨_, _, _, h4, _, _⟩ := good_parts h
  unfold bodyR
  rw [sealF, cut1_yes _ _ _ (body_no (k : Int) (by omega) h)]
  simp only
  rw [show bodyF (k : Int) p.1 p.2 = Lib.itoa (k : Int) ++ 32 :: (p.1 ++ 64 :: p.2) from rfl, cut1_yes _ _ _ (itoa_no _ (by omega) 32 (by decide))]
  simp only
  rw [cut1_yes _ _ _ h4]
theorem nextF_enc (k : Nat) (p : Rec) (t : List UInt8) (h : goodR p = true) : nextF k (encR k p ++ t) = some p := by
  have e : encR k p ++ t = sealF (bodyF (k : Int) p.1 p.2) ++ 10 :: t := by simp [encR, encF]
  have hc := cut1_yes (sealF (bodyF (k : Int) p.1 p.2)) t 10 (seal_no10 (k : Int) (by omega) h)
  unfold nextF
  rw [e, hc]
  simp only [bodyR_enc k p h, h, Bool.true_and]
  rw [if_pos (by simp [encR, encF])]
theorem nextF_some {k : Nat} {t : List UInt8} {p : Rec} (h : nextF k t = some p) : goodR p = true ∧ t = encR k p ++ (cut1 t 10).2.1 ∧ encR k p = (cut1 t 10).1 ++ [10] := by
  unfold nextF at h
  split at h
  · rename_i hc
    simp only [Bool.and_eq_true, beq_iff_eq] at hc
    obtain ⟨⟨h1, h2⟩, h3⟩ := hc
    obtain rfl := Option.some.inj h
    refine ⟨h2, ?_, h3⟩
    rw [h3, List.append_assoc]
    exact cut1_found t 10 h1
  · cases h
/-- A text read as records: at most so many, the first with this sequence number. -/
def parseF : Nat → Nat → List UInt8 → List Rec
  | 0, _, _ => []
  | f + 1, k, t => match nextF k t with
    | none => []
    | some p => p :: parseF f (k + 1) (t.drop (encR k p).length)
def lenR : Nat → List Rec → Nat
  | _, [] => 0
  | k, p :: ps => (encR k p).length + lenR (k + 1) ps
def encA : Nat → List Rec → List UInt8
  | _, [] => []
  | k, p :: ps => encR k p ++ encA (k + 1) ps
def endsF : Nat → Nat → List Rec → List Nat
  | _, _, [] => []
  | k, a, p :: ps => (a + (encR k p).length) :: endsF (k + 1) (a + (encR k p).length) ps
theorem encA_len : ∀ (ps : List Rec) (k : Nat), (encA k ps).length = lenR k ps
  | [], _ => rfl
  | p :: ps, k => by simp [encA, lenR, encA_len ps]
theorem lenR_snoc : ∀ (ps : List Rec) (k : Nat) (p : Rec), lenR k (ps ++ [p]) = lenR k ps + (encR (k + ps.length) p).length
  | [], k, p => by simp [lenR]
  | q :: ps, k, p => by
    simp only [List.cons_append, lenR, lenR_snoc ps, List.length_cons]
    rw [show k + 1 + ps.length = k + (ps.length + 1) by omega]; omega
theorem endsF_snoc : ∀ (ps : List Rec) (k a : Nat) (p : Rec), endsF k a (ps ++ [p]) = endsF k a ps ++ [a + lenR k ps + (encR (k + ps.length) p).length]
  | [], k, a, p => by simp [endsF, lenR]
  | q :: ps, k, a, p => by
    simp only [List.cons_append, endsF, lenR, endsF_snoc ps, List.length_cons, List.cons.injEq, true_and]
    rw [show k + 1 + ps.length = k + (ps.length + 1) by omega, Nat.add_assoc a]
theorem endsF_len : ∀ (ps : List Rec) (k a : Nat), (endsF k a ps).length = ps.length
  | [], _, _ => rfl
  | p :: ps, k, a => by simp [endsF, endsF_len ps]
theorem endsF_last : ∀ (ps : List Rec) (k a : Nat), ps ≠ [] → (endsF k a ps).getLast? = some (a + lenR k ps)
  | [], _, _, h => absurd rfl h
  | [p], k, a, _ => by simp [endsF, lenR]
  | p :: q :: ps, k, a, _ => by
    have := endsF_last (q :: ps) (k + 1) (a + (encR k p).length) (by simp)
    rw [endsF, lenR, ← Nat.add_assoc, ← this]
    simp [endsF]
theorem parse_split : ∀ (f k : Nat) (t : List UInt8), ∃ rest, t = encA k (parseF f k t) ++ rest ∧ (∀ p ∈ parseF f k t, goodR p = true) ∧ (parseF f k t).length ≤ f
  | 0, k, t => ⟨t, rfl, by simp [parseF], Nat.le_refl _⟩
  | f + 1, k, t => by
    rw [parseF]
    split
    · exact ⟨t, rfl, by simp, Nat.zero_le _⟩
    · rename_i p hp
      obtain ⟨h1, h2, _⟩ := nextF_some hp
      have h4 : t = encR k p ++ t.drop (encR k p).length := by
        obtain ⟨u, hu⟩ : ∃ u, t = encR k p ++ u := ⟨_, h2⟩
        rw [hu, List.drop_left]
      obtain ⟨rest, e, hg, hl⟩ := parse_split f (k + 1) (t.drop (encR k p).length)
      refine ⟨rest, ?_, ?_, by simp only [List.length_cons]; omega⟩
      · rw [encA, List.append_assoc, ← e]; exact h4
      · intro q hq
        rcases List.mem_cons.1 hq with rfl | hq
        · exact h1
        · exact hg q hq
theorem parse_len_le (f k : Nat) (t : List UInt8) : lenR k (parseF f k t) ≤ t.length := by
  obtain ⟨rest, e, _, _⟩ := parse_split f k t
  have := congrArg List.length e
  rw [List.length_append, encA_len] at this; omega
theorem nextF_nil (k : Nat) : nextF k [] = none := by simp [nextF, cut1]
/-- Records laid one behind the other are read as these, and what stands behind them goes on. -/
theorem parse_enc : ∀ (ps : List Rec) (f k : Nat) (t : List UInt8), (∀ p ∈ ps, goodR p = true) → ps.length ≤ f → parseF f k (encA k ps ++ t) = ps ++ parseF (f - ps.length) (k + ps.length) t
  | [], f, k, t, _, _ => by simp [encA]
  | p :: ps, 0, k, t, _, h => by simp at h
  | p :: ps, f + 1, k, t, hg, h => by
    rw [encA, List.append_assoc, parseF, nextF_enc k p _ (hg p (by simp))]
    simp only [List.drop_left, List.cons_append, List.length_cons]
    rw [parse_enc ps f (k + 1) t (fun q hq => hg q (by simp [hq])) (by simpa using h)]
    rw [show f - ps.length = f + 1 - (ps.length + 1) by omega, show k + 1 + ps.length = k + (ps.length + 1) by omega]
theorem parse_nil (f k : Nat) : parseF f k [] = [] := by cases f <;> simp [parseF, nextF_nil]
theorem parse_enc_nil (ps : List Rec) (f k : Nat) (hg : ∀ p ∈ ps, goodR p = true) (h : ps.length ≤ f) : parseF f k (encA k ps) = ps := by
  have := parse_enc ps f k [] hg h
  rwa [List.append_nil, parse_nil, List.append_nil] at this
theorem encA_append : ∀ (ps qs : List Rec) (k : Nat), encA k (ps ++ qs) = encA k ps ++ encA (k + ps.length) qs
  | [], _, _ => by simp [encA]
  | p :: ps, qs, k => by
    simp only [List.cons_append, encA, encA_append ps, List.append_assoc, List.length_cons]
    rw [show k + 1 + ps.length = k + (ps.length + 1) by omega]
theorem endsF_mem : ∀ (ps : List Rec) (k a n : Nat), n ∈ endsF k a ps ↔ ∃ j, 0 < j ∧ j ≤ ps.length ∧ n = a + lenR k (ps.take j)
  | [], k, a, n => by
    simp only [endsF, List.not_mem_nil, List.length_nil, false_iff, not_exists, not_and]; intro j h1 h2; omega
  | p :: ps, k, a, n => by
    simp only [endsF, List.mem_cons, endsF_mem ps, List.length_cons]
    constructor
    · rintro (rfl | ⟨j, h1, h2, rfl⟩)
      · exact ⟨1, by omega, by omega, by simp [lenR]⟩
      · exact ⟨j + 1, by omega, by omega, by simp [lenR, Nat.add_assoc]⟩
    · rintro ⟨j, h1, h2, rfl⟩
      cases j with
      | zero => omega
      | succ j =>
        cases j with
        | zero => left; simp [lenR]
        | succ j => right; exact ⟨j + 1, by omega, by omega, by simp [lenR, Nat.add_assoc]⟩
theorem encR_len (k : Nat) (hk : k < 60) (p : Rec) (h : goodR p = true) : (encR k p).length ≤ 404 := by
  have := seal_len (k : Int) (by omega) (by omega) h
  simp only [encR, encF, List.length_append, List.length_cons, List.length_nil]; omega
theorem lenR_le : ∀ (ps : List Rec) (k : Nat), k + ps.length ≤ 60 → (∀ p ∈ ps, goodR p = true) → lenR k ps ≤ 404 * ps.length
  | [], _, _, _ => by simp [lenR]
  | p :: ps, k, h, hg => by
    have h1 := encR_len k (by simp only [List.length_cons] at h; omega) p (hg p (by simp))
    have h2 := lenR_le ps (k + 1) (by simp only [List.length_cons] at h; omega) (fun q hq => hg q (by simp [hq]))
    simp only [lenR, List.length_cons]; omega
/-! ### Valid logs, both ways -/
abbrev allF (t : List UInt8) : List Rec := parseF 60 0 t
def validI (d p : List UInt8) (n : Int) : Bool :=
  ((d ++ p).isEmpty || (endsF 0 0 (allF (d ++ p))).contains (d ++ p).length) && (d.isEmpty || (endsF 0 0 (allF (d ++ p))).contains d.length) && decide (n = ((allF (d ++ p)).length : Int))
def validS (d p : List UInt8) (n : Int) : Bool :=
  decide (d.length + p.length ≤ 30000) && decide (lenR 0 (allF (d ++ p)) = d.length + p.length) && decide (lenR 0 (allF d) = d.length) && decide (((allF (d ++ p)).length : Int) = n)
theorem whole_iff (t : List UInt8) : (t.isEmpty || (endsF 0 0 (allF t)).contains t.length) = true ↔ lenR 0 (allF t) = t.length := by
  have ⟨rest, (e : t = encA 0 (allF t) ++ rest), (hg : ∀ p ∈ allF t, goodR p = true), (hl : (allF t).length ≤ 60)⟩ := parse_split 60 0 t
  have hle : lenR 0 (allF t) ≤ t.length := parse_len_le 60 0 t
  rw [Bool.or_eq_true, List.isEmpty_iff, List.contains_iff_mem, endsF_mem]
  constructor
  · rintro (rfl | ⟨j, _, hj, h⟩)
    · rw [show allF [] = [] from parse_nil 60 0]; rfl
    · have h1 : (encA 0 ((allF t).take j)).length + (encA (0 + ((allF t).take j).length) ((allF t).drop j)).length = (encA 0 (allF t)).length := by
        rw [← List.length_append, ← encA_append, List.take_append_drop]
      rw [encA_len, encA_len, encA_len] at h1
      omega
  · intro h
    by_cases h0 : t = []
    · exact .inl h0
    · refine .inr ⟨(allF t).length, ?_, Nat.le_refl _, by rw [List.take_length, h]; omega⟩
      rcases Nat.eq_zero_or_pos (allF t).length with h1 | h1
      · rw [List.length_eq_zero_iff] at h1
        rw [h1] at h
        exact absurd (List.length_eq_zero_iff.1 h.symm) h0
      · exact h1
theorem durable_iff (d p : List UInt8) : (d.isEmpty || (endsF 0 0 (allF (d ++ p))).contains d.length) = true ↔ lenR 0 (allF d) = d.length := by
  have ⟨rest, (e : d ++ p = encA 0 (allF (d ++ p)) ++ rest), (hg : ∀ q ∈ allF (d ++ p), goodR q = true), (hl : (allF (d ++ p)).length ≤ 60)⟩ := parse_split 60 0 (d ++ p)
  have hle : lenR 0 (allF (d ++ p)) ≤ (d ++ p).length := parse_len_le 60 0 _
  rw [Bool.or_eq_true, List.isEmpty_iff, List.contains_iff_mem, endsF_mem]
  constructor
  · rintro (rfl | ⟨j, _, hj, h⟩)
    · rw [show allF [] = [] from parse_nil 60 0]; rfl
    · have h2 : d ++ p = encA 0 ((allF (d ++ p)).take j) ++ (encA (0 + ((allF (d ++ p)).take j).length) ((allF (d ++ p)).drop j) ++ rest) := by
        rw [← List.append_assoc, ← encA_append, List.take_append_drop]; exact e
      have hd : d = encA 0 ((allF (d ++ p)).take j) := by
        have := congrArg (List.take d.length) h2
        rw [List.take_left, List.take_left' (by rw [encA_len]; omega)] at this
        exact this
      have hp : allF d = (allF (d ++ p)).take j := by
        conv => lhs; rw [hd]
        exact parse_enc_nil _ 60 0 (fun q hq => hg q (List.mem_of_mem_take hq)) (Nat.le_trans (by rw [List.length_take]; omega) hl)
      rw [hp, h]; omega
  · intro h
    have ⟨rest', (e' : d = encA 0 (allF d) ++ rest'), (hg' : ∀ q ∈ allF d, goodR q = true), (hl' : (allF d).length ≤ 60)⟩ := parse_split 60 0 d
    have hr : rest' = [] := by
      have := congrArg List.length e'
      rw [List.length_append, encA_len] at this
      exact List.length_eq_zero_iff.1 (by omega)
    rw [hr, List.append_nil] at e'
    have hp : allF (d ++ p) = allF d ++ parseF (60 - (allF d).length) (0 + (allF d).length) p := by
      conv => lhs; rw [e']
      exact parse_enc _ 60 0 p hg' hl'
    by_cases h0 : d = []
    · exact .inl h0
    · refine .inr ⟨(allF d).length, ?_, by rw [hp, List.length_append]; omega, by rw [hp, List.take_left, h]; omega⟩
      rcases Nat.eq_zero_or_pos (allF d).length with h1 | h1
      · rw [List.length_eq_zero_iff] at h1
        rw [h1] at h
        exact absurd (List.length_eq_zero_iff.1 h.symm) h0
      · exact h1
theorem valid_same (d p : List UInt8) (n : Int) : validI d p n = validS d p n := by
  rw [Bool.eq_iff_iff]
  unfold validI validS
  rw [Bool.and_eq_true, Bool.and_eq_true, whole_iff, durable_iff]
  simp only [Bool.and_eq_true, decide_eq_true_eq, List.length_append]
  constructor
  · rintro ⟨⟨h1, h2⟩, h3⟩
    refine ⟨⟨⟨?_, h1⟩, h2⟩, h3.symm⟩
    have ⟨_, _, (hg : ∀ q ∈ allF (d ++ p), goodR q = true), (hl : (allF (d ++ p)).length ≤ 60)⟩ := parse_split 60 0 (d ++ p)
    have := lenR_le (allF (d ++ p)) 0 (by omega) hg
    omega
  · rintro ⟨⟨⟨_, h1⟩, h2⟩, h3⟩
    exact ⟨⟨h1, h2⟩, h3.symm⟩
/-- The record that a line holds, as the reference reads it. -/
def readS (k : Nat) (s : List UInt8) : Rec × Bool :=
  if (cut1 s 35).1.length < (Lib.itoa (k : Int) ++ [32]).length ∨ (cut1 s 35).1.take (Lib.itoa (k : Int) ++ [32]).length ≠ Lib.itoa (k : Int) ++ [32] then (([], []), false)
  else if (cut1 ((cut1 s 35).1.drop (Lib.itoa (k : Int) ++ [32]).length) 64).1.length = ((cut1 s 35).1.drop (Lib.itoa (k : Int) ++ [32]).length).length then (([], []), false)
  else (((cut1 ((cut1 s 35).1.drop (Lib.itoa (k : Int) ++ [32]).length) 64).1, ((cut1 s 35).1.drop (Lib.itoa (k : Int) ++ [32]).length).drop ((cut1 ((cut1 s 35).1.drop (Lib.itoa (k : Int) ++ [32]).length) 64).1.length + 1)),
    goodR ((cut1 ((cut1 s 35).1.drop (Lib.itoa (k : Int) ++ [32]).length) 64).1, ((cut1 s 35).1.drop (Lib.itoa (k : Int) ++ [32]).length).drop ((cut1 ((cut1 s 35).1.drop (Lib.itoa (k : Int) ++ [32]).length) 64).1.length + 1)) &&
    (encR k ((cut1 ((cut1 s 35).1.drop (Lib.itoa (k : Int) ++ [32]).length) 64).1, ((cut1 s 35).1.drop (Lib.itoa (k : Int) ++ [32]).length).drop ((cut1 ((cut1 s 35).1.drop (Lib.itoa (k : Int) ++ [32]).length) 64).1.length + 1)) == s ++ [10]))
theorem readS_sound {k : Nat} {s : List UInt8} (h : (readS k s).2 = true) : goodR (readS k s).1 = true ∧ encR k (readS k s).1 = s ++ [10] := by
  unfold readS at h ⊢
  split
  · rename_i h1; rw [if_pos h1] at h; cases h
  · rename_i h1; rw [if_neg h1] at h
    split
    · rename_i h2; rw [if_pos h2] at h; cases h
    · rename_i h2; rw [if_neg h2] at h
      simp only [Bool.and_eq_true, beq_iff_eq] at h
      exact h
theorem readS_complete {k : Nat} {p : Rec} (h : goodR p = true) : readS k (sealF (bodyF (k : Int) p.1 p.2)) = (p, true) := by
  obtain ⟨_, _, _, h4, _, _⟩ := good_parts h
  unfold readS
  rw [sealF, cut1_yes _ _ _ (body_no (k : Int) (by omega) h)]
  simp only
  have hb : bodyF (k : Int) p.1 p.2 = (Lib.itoa (k : Int) ++ [32]) ++ (p.1 ++ 64 :: p.2) := by simp [bodyF]
  have hd : (bodyF (k : Int) p.1 p.2).drop (Lib.itoa (k : Int) ++ [32]).length = p.1 ++ 64 :: p.2 := by rw [hb, List.drop_left]
  rw [if_neg (by rw [not_or, hb]; exact ⟨by simp only [List.length_append]; omega, by rw [List.take_left]; simp⟩), hd, cut1_yes _ _ _ h4]
  simp only
  rw [if_neg (by simp), List.drop_append, List.drop_eq_nil_of_le (by omega)]
  simp only [Nat.add_sub_cancel_left, List.drop_succ_cons, List.drop_zero, List.nil_append]
  rw [h, show encR k (p.1, p.2) = bodyF (k : Int) p.1 p.2 ++ 35 :: Lib.itoa (sumF (bodyF (k : Int) p.1 p.2)) ++ [10] from rfl]
  simp
/-- One step of the reference's reading is one step of the program's. -/
theorem next_readS (k : Nat) (t : List UInt8) : nextF k t = if (cut1 t 10).2.2 && (readS k (cut1 t 10).1).2 then some (readS k (cut1 t 10).1).1 else none := by
  split
  · rename_i h
    rw [Bool.and_eq_true] at h
    obtain ⟨h1, h2⟩ := readS_sound h.2
    have e := cut1_found t 10 h.1
    have : t = encR k (readS k (cut1 t 10).1).1 ++ (cut1 t 10).2.1 := by rw [h2, List.append_assoc]; exact e
    conv => lhs; rw [this]
    exact nextF_enc k _ _ h1
  · rename_i h
    cases hn : nextF k t with
    | none => rfl
    | some p =>
      obtain ⟨h1, h2, h3⟩ := nextF_some hn
      exfalso; apply h
      have hs : (cut1 t 10).1 = sealF (bodyF (k : Int) p.1 p.2) := by
        have : sealF (bodyF (k : Int) p.1 p.2) ++ [10] = (cut1 t 10).1 ++ [10] := h3
        exact (List.append_cancel_right this).symm
      rw [hs, readS_complete h1, Bool.and_true]
      cases hf : (cut1 t 10).2.2 with
      | true => rfl
      | false =>
        unfold nextF at hn
        rw [hf] at hn
        simp at hn
end Go.Proofs.YtofamefmodmekaaDoor
