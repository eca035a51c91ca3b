/- Names of variables and symbols, the reference's side. Conditions: sizes. -/
import Derived.Laws.OwnMore
import Derived.Laws.Bits64b
import Derived.Test.YtcegllnljaapiaaGreatArnu1
namespace Go.Proofs.YtcegllnljaapiaaGreat
instance lawBA : LawfulBEq ByteArray where
  eq_of_beq {a b} h := by
    have h : ByteArray.beq a b = true := h
    exact ByteArray.ext (by simpa [ByteArray.beq] using h)
  rfl {a} := by
    show ByteArray.beq a a = true
    simp [ByteArray.beq]
def inS (l : List ByteArray) (x : ByteArray) : Bool := decide (x ∈ l)
def Un.ready (out : List ByteArray) (u : Un) : Bool := !inS out u.name && u.incs.all (inS out)
/-- The names that can be loaded, in order: at most so many more. -/
def ordF : Nat → List Un → List ByteArray → List ByteArray
  | 0, _, out => out
  | f + 1, l, out => match l.find? (Un.ready out) with
    | none => out
    | some u => ordF f l (out ++ [u.name])
def ordL (l : List Un) : List ByteArray := ordF l.length l []
theorem pigeon : ∀ (a b : List ByteArray), a.Nodup → (∀ x ∈ a, x ∈ b) → a.length ≤ b.length
  | [], _, _, _ => Nat.zero_le _
  | x :: a, b, hn, h => by
    rw [List.nodup_cons] at hn
    have hx : x ∈ b := h x (List.mem_cons_self ..)
    have := pigeon a (b.erase x) hn.2 (fun y hy => (List.mem_erase_of_ne (fun e : y = x => hn.1 (e ▸ hy))).2 (h y (List.mem_cons_of_mem _ hy)))
    rw [List.length_erase_of_mem hx] at this
    have := List.length_pos_of_mem hx
    rw [List.length_cons]; omega
/-- What holds of an order so far: no name twice, each a unit's, all that it includes before it. -/
structure OrdInv (l : List Un) (out : List ByteArray) : Prop where
  nd : out.Nodup
  sub : ∀ x ∈ out, x ∈ l.map Un.name
  topo : ∀ (i : Nat) (x : ByteArray), out[i]? = some x → ∃ u ∈ l, u.name = x ∧ ∀ y ∈ u.incs, y ∈ out.take i
theorem OrdInv.nil (l : List Un) : OrdInv l [] := ⟨List.nodup_nil, by simp, by simp⟩
theorem OrdInv.len {l : List Un} {out : List ByteArray} (h : OrdInv l out) : out.length ≤ l.length := by
  have := pigeon _ _ h.nd h.sub; simpa using this
theorem ready_parts {out : List ByteArray} {u : Un} (h : u.ready out = true) : u.name ∉ out ∧ ∀ y ∈ u.incs, y ∈ out := by
  rw [Un.ready, Bool.and_eq_true, Bool.not_eq_true', List.all_eq_true] at h
  exact ⟨by simpa [inS] using h.1, fun y hy => by simpa [inS] using h.2 y hy⟩
theorem OrdInv.snoc {l : List Un} {out : List ByteArray} {u : Un} (h : OrdInv l out) (hu : u ∈ l) (hr : u.ready out = true) : OrdInv l (out ++ [u.name]) := by
  obtain ⟨h1, h2⟩ := ready_parts hr
  refine ⟨?_, ?_, ?_⟩
  · rw [List.nodup_append]; exact ⟨h.nd, by simp, by simp; intro a ha e; exact h1 (e ▸ ha)⟩
  · intro x hx
    rcases List.mem_append.1 hx with hx | hx
    · exact h.sub x hx
    · rw [List.mem_singleton] at hx; subst hx; exact List.mem_map_of_mem hu
  · intro i x hx
    rcases Nat.lt_or_ge i out.length with hi | hi
    · rw [List.getElem?_append_left hi] at hx
      obtain ⟨v, hv, e, hy⟩ := h.topo i x hx
      exact ⟨v, hv, e, fun y hyy => by rw [List.take_append_of_le_length (by omega)]; exact hy y hyy⟩
    · rw [List.getElem?_append_right hi] at hx
      have hi0 : i = out.length := by
        rcases Nat.lt_or_ge out.length i with h' | h'
        · rw [List.getElem?_eq_none (by simp; omega)] at hx; cases hx
        · omega
      subst hi0
      simp at hx
      exact ⟨u, hu, hx, fun y hy => by rw [List.take_append_of_le_length (by omega), List.take_length]; exact h2 y hy⟩
theorem find_mem {l : List Un} {p : Un → Bool} {u : Un} (h : l.find? p = some u) : u ∈ l ∧ p u = true := ⟨List.mem_of_find?_eq_some h, List.find?_some h⟩
theorem ordF_inv {l : List Un} : ∀ (f : Nat) (out : List ByteArray), OrdInv l out → OrdInv l (ordF f l out)
  | 0, _, h => h
  | f + 1, out, h => by
    rw [ordF]
    cases hf : l.find? (Un.ready out) with
    | none => exact h
    | some u => exact ordF_inv f _ (h.snoc (find_mem hf).1 (find_mem hf).2)
theorem ordL_inv (l : List Un) : OrdInv l (ordL l) := ordF_inv _ _ (OrdInv.nil l)
/-- Once no unit is ready the order is whole. -/
theorem ordF_none {l : List Un} {out : List ByteArray} (f : Nat) (h : l.find? (Un.ready out) = none) : ordF f l out = out := by
  cases f with
  | zero => rfl
  | succ f => rw [ordF, h]
theorem full_none {l : List Un} {out : List ByteArray} (h : OrdInv l out) (hl : out.length = l.length) : l.find? (Un.ready out) = none := by
  cases hf : l.find? (Un.ready out) with
  | none => rfl
  | some u =>
    have := (h.snoc (find_mem hf).1 (find_mem hf).2).len
    simp at this; omega
theorem ordF_step {l : List Un} {out : List ByteArray} {u : Un} (h : l.find? (Un.ready out) = some u) (hi : OrdInv l out) : ordF (l.length - out.length) l out = ordF (l.length - (out ++ [u.name]).length) l (out ++ [u.name]) := by
  have h1 := (hi.snoc (find_mem h).1 (find_mem h).2).len
  obtain ⟨f, hf⟩ : ∃ f, l.length - out.length = f + 1 := ⟨l.length - out.length - 1, by simp at h1; omega⟩
  rw [hf, ordF, h]
  simp only
  rw [show l.length - (out ++ [u.name]).length = f by simp; omega]
theorem ordF_full {l : List Un} {out : List ByteArray} (h : OrdInv l out) (hl : out.length = l.length) : ordF (l.length - out.length) l out = out := ordF_none _ (full_none h hl)
/-! ### What a unit uses -/
def findU (l : List Un) (x : ByteArray) : Option Un := l.find? (fun u => decide (u.name = x))
def incsOf (l : List Un) (x : ByteArray) : List ByteArray := match findU l x with | none => [] | some u => u.incs
/-- Names are unlike one another. -/
def Dist (l : List Un) : Prop := (l.map Un.name).Nodup
theorem findU_of : ∀ {l : List Un} {u : Un}, Dist l → u ∈ l → findU l u.name = some u
  | [], _, _, h => by simp at h
  | v :: l, u, hd, h => by
    rw [Dist, List.map_cons, List.nodup_cons] at hd
    rw [findU, List.find?_cons]
    by_cases e : v.name = u.name
    · rcases List.mem_cons.1 h with rfl | h
      · simp
      · exact absurd (e ▸ List.mem_map_of_mem h) hd.1
    · rw [decide_eq_false e]
      rcases List.mem_cons.1 h with rfl | h
      · exact absurd rfl e
      · exact findU_of hd.2 h
theorem incs_topo {l : List Un} {R : List ByteArray} (hd : Dist l) (h : OrdInv l R) {i : Nat} {x : ByteArray} (hx : R[i]? = some x) : ∀ y ∈ incsOf l x, y ∈ R.take i := by
  obtain ⟨u, hu, e, hy⟩ := h.topo i x hx
  subst e
  rw [incsOf, findU_of hd hu]
  exact hy
theorem idx_some {R : List ByteArray} {x : ByteArray} (h : x ∈ R) : R[R.idxOf x]? = some x := by
  rw [List.getElem?_eq_getElem (List.idxOf_lt_length_of_mem h)]; simp
theorem idx_take {R : List ByteArray} {x : ByteArray} {i : Nat} (h : x ∈ R.take i) : x ∈ R ∧ R.idxOf x < i := by
  refine ⟨List.mem_of_mem_take h, ?_⟩
  have h1 := List.idxOf_lt_length_of_mem h
  have h2 : R.idxOf x = (R.take i).idxOf x := by
    conv => lhs; rw [← List.take_append_drop i R]
    rw [List.idxOf_append, if_pos h]
  rw [h2]; rw [List.length_take] at h1; omega
theorem incs_rank {l : List Un} {R : List ByteArray} (hd : Dist l) (h : OrdInv l R) {x y : ByteArray} (hx : x ∈ R) (hy : y ∈ incsOf l x) : y ∈ R ∧ R.idxOf y < R.idxOf x :=
  idx_take (incs_topo hd h (idx_some hx) y hy)
/-! ### Axioms in sight -/
theorem full_all {l : List Un} (h : (ordL l).length = l.length) : ∀ u ∈ l, u.name ∈ ordL l := by
  intro u hu
  rcases Classical.em (u.name ∈ ordL l) with h1 | h1
  · exact h1
  · have hi := ordL_inv l
    have := pigeon (u.name :: ordL l) (l.map Un.name) (List.nodup_cons.2 ⟨h1, hi.nd⟩) (by
      intro x hx
      rcases List.mem_cons.1 hx with rfl | hx
      · exact List.mem_map_of_mem hu
      · exact hi.sub x hx)
    simp at this; omega
end Go.Proofs.YtcegllnljaapiaaGreat
namespace Go.Proofs.YtcegllnljaapiaaGreat
open Go.RowKit
def wordC (c : UInt8) : Bool := loC c || upC c || diC c || c == 95
/-- Where the parser stands, and whether it has failed. -/
structure PSt where
  pos : Nat
  bad : Bool
def pTake (L t : List UInt8) (p : PSt) : Bool := !p.bad && t.isPrefixOf (L.drop p.pos)
def pAdv (t : List UInt8) (p : PSt) : PSt := ⟨p.pos + t.length, p.bad⟩
def pMust (L t : List UInt8) (p : PSt) : PSt := if pTake L t p then pAdv t p else ⟨p.pos, true⟩
def pWordL (L : List UInt8) (p : PSt) : List UInt8 := (L.drop p.pos).takeWhile wordC
def pWord (L : List UInt8) (p : PSt) : List UInt8 × PSt :=
  if p.bad || (pWordL L p).isEmpty then ([], ⟨p.pos + (pWordL L p).length, true⟩) else (pWordL L p, ⟨p.pos + (pWordL L p).length, p.bad⟩)
mutual
def pTerm (L : List UInt8) : Nat → PSt → Tm × PSt
  | 0, p => (.mk ⟨#[]⟩ [], p)
  | f + 1, p =>
    if pTake L [40] (pWord L p).2 then
      (.mk ⟨(pWord L p).1.toArray⟩ ((pTerm L f (pAdv [40] (pWord L p).2)).1 :: (pArgs L [44] f (pTerm L f (pAdv [40] (pWord L p).2)).2).1), pMust L [41] (pArgs L [44] f (pTerm L f (pAdv [40] (pWord L p).2)).2).2)
    else (.mk ⟨(pWord L p).1.toArray⟩ [], (pWord L p).2)
def pArgs (L sep : List UInt8) : Nat → PSt → List Tm × PSt
  | 0, p => ([], p)
  | f + 1, p =>
    if pTake L sep p then ((pTerm L f (pAdv sep p)).1 :: (pArgs L sep f (pTerm L f (pAdv sep p)).2).1, (pArgs L sep f (pTerm L f (pAdv sep p)).2).2)
    else ([], p)
end
def eqTm (a b : Tm) : Tm := .mk ⟨#[61]⟩ [a, b]
def tm0 : Tm := .mk ⟨#[]⟩ []
def atomOfF (t : Tm) : Fm := .mk 3 t ⟨#[]⟩ []
def opF (op : Int) (ps : List Fm) : Fm := .mk op tm0 ⟨#[]⟩ ps
def quantF (op : Int) (v : List UInt8) (f : Fm) : Fm := .mk op tm0 ⟨v.toArray⟩ [f]
/-! ### What is written is read back -/
theorem isPrefixOf_app (t R : List UInt8) : t.isPrefixOf (t ++ R) = true := by
  induction t with
  | nil => simp
  | cons c t ih => simp [ih]
theorem pTake_yes {L t R : List UInt8} {k : Nat} (h : L.drop k = t ++ R) : pTake L t ⟨k, false⟩ = true := by simp [pTake, h, isPrefixOf_app]
theorem drop_adv {L t R : List UInt8} {k : Nat} (h : L.drop k = t ++ R) : L.drop (k + t.length) = R := by
  rw [← List.drop_drop, h, List.drop_left]
theorem pMust_yes {L t R : List UInt8} {k : Nat} (h : L.drop k = t ++ R) : pMust L t ⟨k, false⟩ = ⟨k + t.length, false⟩ := by rw [pMust, if_pos (pTake_yes h)]; rfl
/-- A text begins with no letter, digit or underscore, and with no bracket. -/
def stopC (R : List UInt8) : Prop := ∀ c, R.head? = some c → wordC c = false ∧ c ≠ 40
theorem takeWhile_app {p : UInt8 → Bool} {n R : List UInt8} (h : n.all p = true) (hR : ∀ c, R.head? = some c → p c = false) : (n ++ R).takeWhile p = n := by
  induction n with
  | nil =>
    cases R with
    | nil => rfl
    | cons c R => rw [List.nil_append, List.takeWhile_cons_of_neg]; simp [hR c rfl]
  | cons x n ih =>
    simp only [List.all_cons, Bool.and_eq_true] at h
    rw [List.cons_append, List.takeWhile_cons_of_pos h.1, ih h.2]
theorem pWord_ok {L n R : List UInt8} {k : Nat} (h : L.drop k = n ++ R) (hn : n.all wordC = true) (h0 : n ≠ []) (hR : ∀ c, R.head? = some c → wordC c = false) : pWord L ⟨k, false⟩ = (n, ⟨k + n.length, false⟩) := by
  have e : pWordL L ⟨k, false⟩ = n := by rw [pWordL]; show (L.drop k).takeWhile wordC = n; rw [h, takeWhile_app hn hR]
  rw [pWord, e, if_neg (by simpa using h0)]
theorem headTail_all {p q r : UInt8 → Bool} {l : List UInt8} (h : headTail p q l = true) (hp : ∀ c, p c = true → r c = true) (hq : ∀ c, q c = true → r c = true) : l.all r = true := by
  cases l with
  | nil => rfl
  | cons c l =>
    simp only [headTail, Bool.and_eq_true, List.all_cons, List.all_eq_true] at h ⊢
    exact ⟨hp c h.1, fun x hx => hq x (h.2 x hx)⟩
theorem varB_word {l : List UInt8} (h : varB l = true) : l.all wordC = true ∧ l ≠ [] := by
  simp only [varB, Bool.and_eq_true, decide_eq_true_eq] at h
  refine ⟨headTail_all h.2 (fun c hc => by simp [wordC, hc]) (fun c hc => ?_), fun e => by rw [e] at h; simp at h⟩
  simp only [smC, Bool.or_eq_true] at hc
  rcases hc with hc | hc <;> simp [wordC, hc]
theorem symB_word {l : List UInt8} (h : symB l = true) : l.all wordC = true ∧ l ≠ [] := by
  simp only [symB, Bool.and_eq_true, decide_eq_true_eq] at h
  refine ⟨headTail_all h.1.2 (fun c hc => by simp [wordC, hc]) (fun c hc => ?_), fun e => by rw [e] at h; simp at h⟩
  simp only [unC, smC, Bool.or_eq_true] at hc
  rcases hc with (hc | hc) | hc
  · simp [wordC, hc]
  · simp [wordC, hc]
  · simp only [wordC, hc, Bool.or_true]
theorem Tm.nodes_mk {n : ByteArray} {us : List Tm} (h : (Tm.mk n us).nodes = true) : (n.data.toList.all wordC = true ∧ n.data.toList ≠ []) ∧ Tm.nodess us = true := by
  rw [Tm.nodes] at h
  split at h
  · rename_i hv
    cases us with
    | nil => exact ⟨varB_word hv, rfl⟩
    | cons a us => simp at h
  · simp only [Bool.and_eq_true] at h
    exact ⟨symB_word h.1.1, h.2⟩
theorem word_not61 {l : List UInt8} (h : l.all wordC = true ∧ l ≠ []) : l ≠ [61] := by
  rintro rfl; exact absurd h.1 (by decide)
theorem Tm.fmt_mk {n : ByteArray} {us : List Tm} (h : n.data.toList ≠ [61]) : (Tm.mk n us).fmt = if us.isEmpty then n.data.toList else n.data.toList ++ [40] ++ joinB [44] (Tm.fmtL us) ++ [41] := by
  cases us <;> simp only [Tm.fmt, if_neg h] <;> rfl
/-- The texts of a list, each behind a separator. -/
def sepAll (sep : List UInt8) : List Tm → List UInt8
  | [] => []
  | t :: us => sep ++ t.fmt ++ sepAll sep us
theorem joinB_cons (sep : List UInt8) (a : Tm) (us : List Tm) : joinB sep (Tm.fmtL (a :: us)) = a.fmt ++ sepAll sep us := by
  induction us generalizing a with
  | nil => simp [Tm.fmtL, joinB, sepAll]
  | cons b us ih =>
    have := ih b
    rw [Tm.fmtL] at this
    rw [Tm.fmtL, Tm.fmtL, joinB, this, sepAll]
    simp [List.append_assoc]
theorem stop_sep {sep R : List UInt8} {us : List Tm} (hs : stopC sep) (h0 : sep ≠ []) (hR : stopC R) : stopC (sepAll sep us ++ R) := by
  cases us with
  | nil => exact hR
  | cons a us =>
    intro c hc
    apply hs
    cases sep with
    | nil => exact absurd rfl h0
    | cons x s => simpa [sepAll] using hc
mutual
theorem pTerm_ok {L : List UInt8} : ∀ (f : Nat) (t : Tm) (k : Nat) (R : List UInt8), t.nodes = true → L.drop k = t.fmt ++ R → stopC R → t.fmt.length < f → pTerm L f ⟨k, false⟩ = (t, ⟨k + t.fmt.length, false⟩)
  | 0, _, _, _, _, _, _, h => absurd h (by omega)
  | f + 1, .mk n us, k, R, hn, hL, hR, hf => by
    have h1 := Tm.nodes_mk hn
    have hm := Tm.fmt_mk (us := us) (word_not61 h1.1)
    cases us with
    | nil =>
      rw [if_pos (by rfl)] at hm
      rw [hm] at hL ⊢
      have hw := pWord_ok hL h1.1.1 h1.1.2 (fun c hc => (hR c hc).1)
      rw [pTerm, hw]
      have hno : pTake L [40] ⟨k + n.data.toList.length, false⟩ = false := by
        have := drop_adv hL
        simp only [pTake, this]
        cases R with
        | nil => rfl
        | cons c R => simp [List.isPrefixOf, (hR c rfl).2.symm]
      rw [hno]; rfl
    | cons a us =>
      rw [if_neg (by simp), joinB_cons] at hm
      have h2 : a.nodes = true ∧ Tm.nodess us = true := by simpa [Tm.nodess] using h1.2
      have hlen : (Tm.mk n (a :: us)).fmt.length = n.data.toList.length + 1 + a.fmt.length + (sepAll [44] us).length + 1 := by rw [hm]; simp; omega
      have e0 : L.drop k = n.data.toList ++ ([40] ++ (a.fmt ++ (sepAll [44] us ++ ([41] ++ R)))) := by rw [hL, hm]; simp [List.append_assoc]
      have hw := pWord_ok e0 h1.1.1 h1.1.2 (fun c hc => by simp at hc; subst hc; decide)
      have e1 := drop_adv e0
      have e2 := drop_adv e1
      have e3 := drop_adv e2
      have e4 := drop_adv e3
      have s41 : stopC ([41] ++ R) := by intro c hc; simp at hc; subst hc; decide
      have s44 : stopC [44] := by intro c hc; simp at hc; subst hc; decide
      have ha := pTerm_ok f a _ _ h2.1 e2 (stop_sep s44 (by simp) s41) (by omega)
      have hb := pArgs_ok f [44] us _ ([41] ++ R) h2.2 e3 s44 (by simp) s41 (by simp [List.isPrefixOf]) (by omega)
      rw [pTerm, hw, if_pos (pTake_yes e1)]
      simp only [pAdv] at ha hb ⊢
      rw [ha, hb, pMust_yes e4, hlen]
      simp only [List.length_cons, List.length_nil]
      refine Prod.ext rfl ?_
      show PSt.mk _ _ = PSt.mk _ _
      congr 1
      omega
theorem pArgs_ok {L : List UInt8} : ∀ (f : Nat) (sep : List UInt8) (us : List Tm) (k : Nat) (R : List UInt8), Tm.nodess us = true → L.drop k = sepAll sep us ++ R → stopC sep → sep ≠ [] → stopC R → sep.isPrefixOf R = false → (sepAll sep us).length < f →
    pArgs L sep f ⟨k, false⟩ = (us, ⟨k + (sepAll sep us).length, false⟩)
  | 0, _, _, _, _, _, _, _, _, _, _, h => absurd h (by omega)
  | f + 1, sep, [], k, R, hn, hL, hs, h0, hR, hp, hf => by
    rw [pArgs]
    have : pTake L sep ⟨k, false⟩ = false := by simp only [pTake, hL]; simpa [sepAll] using hp
    rw [this]; rfl
  | f + 1, sep, a :: us, k, R, hn, hL, hs, h0, hR, hp, hf => by
    have h2 : a.nodes = true ∧ Tm.nodess us = true := by simpa [Tm.nodess] using hn
    have e0 : L.drop k = sep ++ (a.fmt ++ (sepAll sep us ++ R)) := by rw [hL, sepAll]; simp [List.append_assoc]
    have e1 := drop_adv e0
    have e2 := drop_adv e1
    have hl : 0 < sep.length := List.length_pos_iff.2 h0
    rw [sepAll] at hf ⊢
    simp only [List.length_append] at hf ⊢
    have ha := pTerm_ok f a _ _ h2.1 e1 (stop_sep hs h0 hR) (by omega)
    have hb := pArgs_ok f sep us _ R h2.2 e2 hs h0 hR hp (by omega)
    rw [pArgs, if_pos (pTake_yes e0)]
    simp only [pAdv] at ha hb ⊢
    rw [ha, hb]
    refine Prod.ext rfl ?_
    show PSt.mk _ _ = PSt.mk _ _
    congr 1
    omega
end
end Go.Proofs.YtcegllnljaapiaaGreat
namespace Go.Proofs.YtcegllnljaapiaaGreat
open Go.RowKit
/-- The forms of a formula all of whose parts have a form. -/
inductive FormC : Fm → Prop
  | tru : FormC (opF 1 [])
  | fal : FormC (opF 2 [])
  | atm (a : Tm) : a.atom = true → FormC (atomOfF a)
  | neg (g : Fm) : g.form = true → FormC (opF 4 [g])
  | bin (op : Int) (g h : Fm) : (op = 5 ∨ op = 6 ∨ op = 7) → g.form = true → h.form = true → FormC (opF op [g, h])
  | qua (op : Int) (v : List UInt8) (g : Fm) : (op = 8 ∨ op = 9) → varB v = true → g.form = true → FormC (quantF op v g)
theorem ba_nil {v : ByteArray} (h : v.data.toList.isEmpty = true) : v = ⟨#[]⟩ := by
  apply ByteArray.ext; apply Array.ext'; simpa using h
theorem ba_eq (v : ByteArray) : (⟨v.data.toList.toArray⟩ : ByteArray) = v := by apply ByteArray.ext; simp
theorem tm_none {a : Tm} (h : a.none = true) : a = tm0 := by
  obtain ⟨n, us⟩ := a
  simp only [Tm.none, Bool.and_eq_true] at h
  have h1 : n = ⟨#[]⟩ := ba_nil h.1
  have h2 : us = [] := by simpa [Tm.us] using h.2
  rw [h1, h2]; rfl
theorem len_one {α : Type} {l : List α} (h : l.length = 1) : ∃ a, l = [a] := by
  match l, h with
  | [a], _ => exact ⟨a, rfl⟩
theorem len_two {α : Type} {l : List α} (h : l.length = 2) : ∃ a b, l = [a, b] := by
  match l, h with
  | [a, b], _ => exact ⟨a, b, rfl⟩
theorem form_cases {F : Fm} (h : F.form = true) : FormC F := by
  obtain ⟨op, a, v, ps⟩ := F
  rw [Fm.form, Bool.and_eq_true] at h
  obtain ⟨h1, h2⟩ := h
  simp only [Fm.form1, Fm.op, Fm.ps, Fm.v, Fm.a, Bool.and_eq_true, beq_iff_eq] at h1
  obtain ⟨⟨h3, h4⟩, h5⟩ := h1
  unfold arity at h3
  split at h3
  · rename_i ho
    have hp : ps = [] := List.length_eq_zero_iff.1 (Option.some.inj h3).symm
    subst hp
    have h4' : v.data.toList.isEmpty = true := by rcases ho with rfl | rfl | rfl <;> exact h4
    have hv := ba_nil h4'
    subst hv
    rcases ho with rfl | rfl | rfl
    · have h6 : a.none = true := h5
      rw [tm_none h6]; exact .tru
    · have h6 : a.none = true := h5
      rw [tm_none h6]; exact .fal
    · exact .atm a h5
  · split at h3
    · rename_i ho
      obtain ⟨g, rfl⟩ : ∃ g, ps = [g] := len_one (Option.some.inj h3).symm
      have hg : g.form = true := by simpa [Fm.forms] using h2
      have h5' : a.none = true := by rcases ho with rfl | rfl | rfl <;> exact h5
      rw [tm_none h5']
      rcases ho with rfl | ho
      · have h6 : v.data.toList.isEmpty = true := h4
        rw [ba_nil h6]; exact .neg g hg
      · have h4' : varB v.data.toList = true := by rcases ho with rfl | rfl <;> exact h4
        have := FormC.qua op v.data.toList g ho h4' hg
        rw [quantF, ba_eq] at this; exact this
    · split at h3
      · rename_i ho
        obtain ⟨g, g', rfl⟩ : ∃ g g', ps = [g, g'] := len_two (Option.some.inj h3).symm
        have hg : g.form = true ∧ g'.form = true := by simpa [Fm.forms] using h2
        have h5' : a.none = true := by rcases ho with rfl | rfl | rfl <;> exact h5
        have h4' : v.data.toList.isEmpty = true := by rcases ho with rfl | rfl | rfl <;> exact h4
        rw [tm_none h5', ba_nil h4']; exact .bin op g g' ho hg.1 hg.2
      · cases h3
theorem nodes_name {n : ByteArray} {us : List Tm} (h : (Tm.mk n us).nodes = true) : varB n.data.toList = true ∨ symB n.data.toList = true := by
  rw [Tm.nodes] at h
  split at h
  · exact .inl ‹_›
  · simp only [Bool.and_eq_true] at h; exact .inr h.1.1
/-- The forms of an atom. -/
inductive AtomC : Tm → Prop
  | eq (a b : Tm) : a.nodes = true → b.nodes = true → AtomC (eqTm a b)
  | pred (n : ByteArray) (us : List Tm) : symB n.data.toList = true → Tm.nodess us = true → (Tm.mk n us).nodes = true → AtomC (.mk n us)
theorem atom_cases {t : Tm} (h : t.atom = true) : AtomC t := by
  obtain ⟨n, us⟩ := t
  rw [Tm.atom] at h
  split at h
  · rename_i hq
    simp only [Bool.and_eq_true, decide_eq_true_eq] at h
    have hus : us.length = 2 := h.1.1
    obtain ⟨a, b, rfl⟩ := len_two hus
    have hn : n = ⟨#[61]⟩ := by
      apply ByteArray.ext; apply Array.ext'
      simpa [isEq, Tm.n] using hq
    subst hn
    have this : Tm.nodess [a, b] = true := h.2
    simp only [Tm.nodess, Bool.and_eq_true, Bool.and_true] at this
    exact .eq a b this.1 this.2
  · simp only [Bool.and_eq_true, Tm.good, Tm.n] at h
    have hs := h.1
    have hd := h.2.2
    refine .pred n us hs ?_ hd
    exact (Tm.nodes_mk hd).2
theorem fmt_split {t : Tm} (h : t.nodes = true) (R : List UInt8) : ∃ n X, (varB n = true ∨ symB n = true) ∧ t.fmt ++ R = n ++ X ∧ ((∃ Y, X = 40 :: Y) ∨ X = R) := by
  obtain ⟨n, us⟩ := t
  have h1 := Tm.nodes_mk h
  rw [Tm.fmt_mk (word_not61 h1.1)]
  split
  · exact ⟨_, R, nodes_name h, rfl, .inr rfl⟩
  · exact ⟨_, 40 :: (joinB [44] (Tm.fmtL us) ++ ([41] ++ R)), nodes_name h, by simp [List.append_assoc], .inl ⟨_, rfl⟩⟩
theorem pTake_no {L t T : List UInt8} {k : Nat} (h : L.drop k = T) (hp : t.isPrefixOf T = false) : pTake L t ⟨k, false⟩ = false := by simp [pTake, h, hp]
end Go.Proofs.YtcegllnljaapiaaGreat
namespace Go.Proofs.YtcegllnljaapiaaGreat
open Go.RowKit
def inB (n a b : Int) : Bool := decide (a ≤ n) && decide (n ≤ b)
theorem within_any (n a b : Int) (w : World) :
    Calls Tryz.prog 94 #[.int .i64 n, .int .i64 a, .int .i64 b] w fun e w' => e = .returned (.bool (inB n a b)) ∧ w = w' := by
  by_cases h1 : a ≤ n <;> by_cases h2 : n ≤ b
  all_goals
    go_enter Tryz.func94, Tryz.ntmps94
    go_wp2
    go_ret
    exact ⟨ret_bool (by simp [inB, h1, h2]), rfl⟩
theorem l1In_any (n a b : Int) (w : World) :
    Calls Tryz.prog 86 #[.int .i64 n, .int .i64 a, .int .i64 b] w fun e w' => e = .returned (.bool (inB n a b)) ∧ w = w' := by
  by_cases h1 : a ≤ n <;> by_cases h2 : n ≤ b
  all_goals
    go_enter Tryz.func86, Tryz.ntmps86
    go_wp2
    go_ret
    exact ⟨ret_bool (by simp [inB, h1, h2]), rfl⟩
end Go.Proofs.YtcegllnljaapiaaGreat
namespace Go.Proofs.YtcegllnljaapiaaGreat
open Go.RowKit
theorem isLower_any (c : UInt8) (w : World) : Calls Tryz.prog 92 #[.int .u8 (c.toNat : Int)] w fun e w' => e = .returned (.bool (loC c)) ∧ w = w' := by
  go_enter Tryz.func92, Tryz.ntmps92
  go_wp2
  all_goals go_ret
  all_goals go_light
  all_goals refine ⟨ret_bool ?_, rfl⟩
  all_goals rw [Bool.eq_iff_iff]
  all_goals simp only [loC, decide_eq_true_eq, Bool.and_eq_true, false_iff, Bool.false_eq_true, not_and]
  all_goals omega
theorem isUpper_any (c : UInt8) (w : World) : Calls Tryz.prog 117 #[.int .u8 (c.toNat : Int)] w fun e w' => e = .returned (.bool (upC c)) ∧ w = w' := by
  go_enter Tryz.func117, Tryz.ntmps117
  go_wp2
  all_goals go_ret
  all_goals go_light
  all_goals refine ⟨ret_bool ?_, rfl⟩
  all_goals rw [Bool.eq_iff_iff]
  all_goals simp only [upC, decide_eq_true_eq, Bool.and_eq_true, false_iff, Bool.false_eq_true, not_and]
  all_goals omega
theorem isDigit_any (c : UInt8) (w : World) : Calls Tryz.prog 93 #[.int .u8 (c.toNat : Int)] w fun e w' => e = .returned (.bool (diC c)) ∧ w = w' := by
  go_enter Tryz.func93, Tryz.ntmps93
  go_wp2
  all_goals go_ret
  all_goals go_light
  all_goals refine ⟨ret_bool ?_, rfl⟩
  all_goals rw [Bool.eq_iff_iff]
  all_goals simp only [diC, decide_eq_true_eq, Bool.and_eq_true, false_iff, Bool.false_eq_true, not_and]
  all_goals omega
theorem l2Small_any (c : UInt8) (w : World) : Calls Tryz.prog 87 #[.int .u8 (c.toNat : Int)] w fun e w' => e = .returned (.bool (smC c)) ∧ w = w' := by
  go_enter Tryz.func87, Tryz.ntmps87
  go_wp2
  all_goals go_ret
  all_goals go_light
  all_goals refine ⟨ret_bool ?_, rfl⟩
  all_goals rw [Bool.eq_iff_iff]
  all_goals simp only [loC, diC, smC, decide_eq_true_eq, Bool.and_eq_true, Bool.or_eq_true, true_iff, false_iff, Bool.false_eq_true, not_and, not_or]
  all_goals omega
theorem headTail_take (p q : UInt8 → Bool) (s : ByteArray) (k : Nat) (h : k < s.size) : headTail p q (s.data.toList.take (k + 1)) = (headTail p q (s.data.toList.take k) && (if k = 0 then p s[k] else q s[k])) := by
  rw [take_snoc s k h, headTail_snoc]
  by_cases hk : k = 0
  · subst hk; simp
  · rw [if_neg hk, if_neg]
    have hl : (s.data.toList.take k).length = k := by rw [List.length_take, ← size_list]; omega
    rw [List.isEmpty_iff]
    intro e; rw [e] at hl; simp at hl; omega
theorem headTail_no (p q : UInt8 → Bool) (s : ByteArray) (k : Nat) (h : k < s.size) (h2 : (if k = 0 then p s[k] else q s[k]) = false) : headTail p q s.data.toList = false := by
  have e : s.data.toList = s.data.toList.take (k + 1) ++ s.data.toList.drop (k + 1) := (List.take_append_drop _ _).symm
  have h3 := headTail_take p q s k h
  rw [h2, Bool.and_false] at h3
  rw [e]
  generalize s.data.toList.take (k + 1) = a at *
  cases a with
  | nil => simp [headTail] at h3
  | cons x a =>
    simp only [headTail, List.cons_append, List.all_append] at h3 ⊢
    rw [← Bool.and_assoc, h3, Bool.false_and]
set_option maxHeartbeats 800000 in
theorem isVariable_any (s : ByteArray) (w : World) (hs : s.size ≤ maxLen) :
    Calls Tryz.prog 107 #[.string s] w fun e w' => e = .returned (.bool (varB s.data.toList)) ∧ w = w' := by
  unfold maxLen at hs
  have HV := Lib.hid (show varB s.data.toList = (inB (s.size : Int) 1 4 && headTail upC smC s.data.toList) by
    unfold varB inB; rw [← size_list]
    congr 1
    rw [Bool.eq_iff_iff]; simp; omega)
  go_enter Tryz.func107, Tryz.ntmps107
  go_wp2
  go_loop [6] (fun i => ∃ k : Nat, k ≤ s.size ∧ i = .int .i64 k ∧ headTail upC smC (s.data.toList.take k) = true) (fun i => s.size - (intOf i).toNat)
  case atStart => exact ⟨0, Nat.zero_le _, rfl, rfl⟩
  case round =>
    obtain ⟨k, hk, rfl, hp⟩ := hrel
    have HP := Lib.hid hp; clear hp
    by_cases hlt : k < s.size
    · have HT := Lib.hid (headTail_take upC smC s k hlt)
      have HN := Lib.hid (headTail_no upC smC s k hlt)
      by_cases hk0 : k = 0
      · subst hk0
        cases hU : upC s[0]
        all_goals
          go_wp2_with (first | (go_at_call 117; refine (isUpper_any _ _).mono ?_; rintro e w' ⟨rfl, rfl⟩) | (go_at_call 92; refine (isLower_any _ _).mono ?_; rintro e w' ⟨rfl, rfl⟩) | (go_at_call 93; refine (isDigit_any _ _).mono ?_; rintro e w' ⟨rfl, rfl⟩))
        · go_ret
          exact ⟨ret_bool (by rw [HV.out, HN.out (by simpa using hU)]; simp), rfl⟩
        · refine ⟨⟨1, by omega, by go_num, ?_⟩, by simp [intOf]; omega⟩
          rw [HT.out, HP.out]; simpa using hU
      · have hk1 : 0 < (k : Int) := by omega
        have hk2 : ((k : Int) == 0) = false := by simp; omega
        cases hL : loC s[k] <;> cases hD : diC s[k]
        all_goals
          have HLD := Lib.hid (And.intro hL hD)
          go_wp2_with (first | (go_at_call 117; refine (isUpper_any _ _).mono ?_; rintro e w' ⟨rfl, rfl⟩) | (go_at_call 92; refine (isLower_any _ _).mono ?_; rintro e w' ⟨rfl, rfl⟩) | (go_at_call 93; refine (isDigit_any _ _).mono ?_; rintro e w' ⟨rfl, rfl⟩))
        · go_ret
          exact ⟨ret_bool (by rw [HV.out, HN.out (by rw [if_neg hk0, smC, HLD.out.1, HLD.out.2]; rfl)]; simp), rfl⟩
        all_goals
          refine ⟨⟨k + 1, by omega, by go_num, ?_⟩, by simp [intOf]; omega⟩
          rw [HT.out, HP.out, if_neg hk0, smC, HLD.out.1, HLD.out.2]; rfl
    · go_wp2_with (first | (go_at_call 94; refine (within_any _ _ _ _).mono ?_; rintro e w' ⟨rfl, rfl⟩))
      go_ret
      exact ⟨ret_bool (by have := HP.out; rw [take_all _ _ (by omega)] at this; rw [HV.out, this]; simp), rfl⟩
def keyS : List ByteArray := keyW.map fun l => ⟨l.toArray⟩
theorem key_contains (x : ByteArray) : Lib.containsS (keyS.take 8) x = keyW.contains x.data.toList := by
  rw [Bool.eq_iff_iff, Lib.containsS_iff, List.contains_iff_mem, show keyS.take 8 = keyS from rfl, keyS, List.mem_map]
  constructor
  · rintro ⟨l, h, rfl⟩; exact h
  · intro h; exact ⟨_, h, rfl⟩
theorem key_cells (w : World) (t : TypeId) (j : Nat) (hj : j < keyS.length) :
    (w.alloc (.cells #[.string ⟨#[116, 114, 117, 101]⟩, .string ⟨#[102, 97, 108, 115, 101]⟩, .string ⟨#[116, 114, 117, 116, 104]⟩, .string ⟨#[98, 111, 116, 104]⟩, .string ⟨#[101, 105, 116, 104, 101, 114]⟩, .string ⟨#[105, 102]⟩, .string ⟨#[97, 108, 108]⟩, .string ⟨#[115, 111, 109, 101]⟩] t)).cell? ⟨w.heap.size, 0 + j, none⟩ = some (.string (keyS.getD j ByteArray.empty)) := by
  have hj8 : j < 8 := hj
  rw [Nat.zero_add, World.cell?_alloc_new]
  match j, hj8 with
  | 0, _ => rfl
  | 1, _ => rfl
  | 2, _ => rfl
  | 3, _ => rfl
  | 4, _ => rfl
  | 5, _ => rfl
  | 6, _ => rfl
  | 7, _ => rfl
theorem reserved_any (w : World) : Calls Tryz.prog 96 #[] w fun e w' => e = .returned (.slice (some ⟨w.heap.size, 0, none⟩) 8 8) ∧ w.alloc (.cells #[.string ⟨#[116, 114, 117, 101]⟩, .string ⟨#[102, 97, 108, 115, 101]⟩, .string ⟨#[116, 114, 117, 116, 104]⟩, .string ⟨#[98, 111, 116, 104]⟩, .string ⟨#[101, 105, 116, 104, 101, 114]⟩, .string ⟨#[105, 102]⟩, .string ⟨#[97, 108, 108]⟩, .string ⟨#[115, 111, 109, 101]⟩] 9) = w' := by
  go_enter Tryz.func96, Tryz.ntmps96
  go_wp2
  go_ret
  exact ⟨rfl, rfl⟩
set_option maxHeartbeats 1600000 in
theorem isSymbol_any (s : ByteArray) (w : World) (hs : s.size ≤ maxLen) :
    Calls Tryz.prog 47 #[.string s] w fun e w' => e = .returned (.bool (symB s.data.toList)) ∧ Below w.heap.size w w' := by
  unfold maxLen at hs
  have HV := Lib.hid (show symB s.data.toList = (inB (s.size : Int) 1 6 && headTail loC unC s.data.toList && !keyW.contains s.data.toList) by
    unfold symB inB; rw [← size_list]
    congr 2
    rw [Bool.eq_iff_iff]; simp; omega)
  go_enter Tryz.func47, Tryz.ntmps47
  go_wp2
  go_loop [6] (fun i => ∃ k : Nat, k ≤ s.size ∧ i = .int .i64 k ∧ headTail loC unC (s.data.toList.take k) = true) (fun i => s.size - (intOf i).toNat)
  case atStart => exact ⟨0, Nat.zero_le _, rfl, rfl⟩
  case round =>
    obtain ⟨k, hk, rfl, hp⟩ := hrel
    have HP := Lib.hid hp; clear hp
    by_cases hlt : k < s.size
    · have HT := Lib.hid (headTail_take loC unC s k hlt)
      have HN := Lib.hid (headTail_no loC unC s k hlt)
      by_cases hk0 : k = 0
      · subst hk0
        cases hL : loC s[0]
        all_goals
          have HL := Lib.hid hL
          go_wp2_with (first | (go_at_call 92; refine (isLower_any _ _).mono ?_; rintro e w' ⟨rfl, rfl⟩) | (go_at_call 93; refine (isDigit_any _ _).mono ?_; rintro e w' ⟨rfl, rfl⟩))
        · go_ret
          exact ⟨ret_bool (by rw [HV.out, HN.out (by simpa using HL.out)]; simp), Below.refl _ _⟩
        · refine ⟨⟨1, by omega, by go_num, ?_⟩, by simp [intOf]; omega⟩
          rw [HT.out, HP.out]; simpa using HL.out
      · have hk1 : 0 < (k : Int) := by omega
        have hk2 : ((k : Int) == 0) = false := by simp; omega
        have HU := Lib.hid (show unC s[k] = ((loC s[k] || diC s[k]) || (s[k] == 95)) from rfl)
        by_cases h9 : s[k] = 95
        · have H9 := Lib.hid h9
          have h91 : ((s[k].toNat : Int) != 95) = false := by rw [h9]; rfl
          have h92 : ((s[k].toNat : Int) == 95) = true := by rw [h9]; rfl
          clear h9
          cases hL : loC s[k] <;> cases hD : diC s[k]
          all_goals
            have HLD := Lib.hid (And.intro hL hD)
            go_wp2_with (first | (go_at_call 92; refine (isLower_any _ _).mono ?_; rintro e w' ⟨rfl, rfl⟩) | (go_at_call 93; refine (isDigit_any _ _).mono ?_; rintro e w' ⟨rfl, rfl⟩))
            refine ⟨⟨k + 1, by omega, by go_num, ?_⟩, by simp [intOf]; omega⟩
            rw [HT.out, HP.out, if_neg hk0, HU.out, HLD.out.1, HLD.out.2, H9.out]; rfl
        · have H9 := Lib.hid (show (s[k] == 95) = false by simpa using h9)
          have h9n : ¬ (s[k].toNat : Int) = 95 := fun e => h9 (UInt8.toNat_inj.1 (show s[k].toNat = 95 by omega))
          have h91 : ((s[k].toNat : Int) != 95) = true := by simpa using h9n
          have h92 : ((s[k].toNat : Int) == 95) = false := by simpa using h9n
          clear h9 h9n
          cases hL : loC s[k] <;> cases hD : diC s[k]
          all_goals
            have HLD := Lib.hid (And.intro hL hD)
            go_wp2_with (first | (go_at_call 92; refine (isLower_any _ _).mono ?_; rintro e w' ⟨rfl, rfl⟩) | (go_at_call 93; refine (isDigit_any _ _).mono ?_; rintro e w' ⟨rfl, rfl⟩))
          · go_ret
            exact ⟨ret_bool (by rw [HV.out, HN.out (by rw [if_neg hk0, HU.out, HLD.out.1, HLD.out.2, H9.out]; rfl)]; simp), Below.refl _ _⟩
          all_goals
            refine ⟨⟨k + 1, by omega, by go_num, ?_⟩, by simp [intOf]; omega⟩
            rw [HT.out, HP.out, if_neg hk0, HU.out, HLD.out.1, HLD.out.2]; rfl
    · have HF := Lib.hid (show headTail loC unC s.data.toList = true by have := HP.out; rwa [take_all _ _ (by omega)] at this)
      cases hB : inB (s.size : Int) 1 6
      all_goals
        have HB := Lib.hid hB
        go_wp2_with (first | (go_at_call 94; refine (within_any _ _ _ _).mono ?_; rintro e w' ⟨rfl, rfl⟩) | (go_at_call 96; refine (reserved_any _).mono ?_; rintro e w' ⟨rfl, rfl⟩) | (go_at_call 95; refine (Tryz.slices_Contains_string w.heap.size 0 8 8 keyS s _ (by decide) (by decide) (key_cells w _)).mono ?_; rintro e w' ⟨rfl, rfl⟩))
        go_ret
      · exact ⟨ret_bool (by rw [HV.out, HB.out]; rfl), by (repeat (first | with_reducible exact Below.refl _ _ | with_reducible assumption | with_reducible refine Below.al ?_ _ | with_reducible refine Below.sc ?_ (by first | exact Nat.le_refl _ | (simp; done) | (simp; omega)) _ | assumption | exact Below.refl _ _ | refine Below.dr ?_ | refine Below.drN ?_ _ | refine Below.step ?_ (by assumption)))⟩
      · exact ⟨ret_bool (by rw [HV.out, HB.out, HF.out, key_contains]; rfl), by (repeat (first | with_reducible exact Below.refl _ _ | with_reducible assumption | with_reducible refine Below.al ?_ _ | with_reducible refine Below.sc ?_ (by first | exact Nat.le_refl _ | (simp; done) | (simp; omega)) _ | assumption | exact Below.refl _ _ | refine Below.dr ?_ | refine Below.drN ?_ _ | refine Below.step ?_ (by assumption)))⟩
end Go.Proofs.YtcegllnljaapiaaGreat
namespace Go.Proofs.YtcegllnljaapiaaGreat
open Go.RowKit
/-! Worlds that differ in one block alone. -/
section
variable {w w1 w2 : World} {g : Nat}
theorem gr_refl (w : World) (g : Nat) : w.grownBy w (some g) := ⟨rfl, rfl, rfl, Nat.le_refl _, fun _ _ _ => rfl⟩
theorem gr_trans (h : w.grownBy w1 (some g)) (h2 : w1.grownBy w2 (some g)) : w.grownBy w2 (some g) :=
  ⟨h2.os.trans h.os, h2.tape.trans h.tape, h2.output.trans h.output, Nat.le_trans h.size h2.size, fun k hk hne => (h2.block k (Nat.lt_of_lt_of_le hk h.size) hne).trans (h.block k hk hne)⟩
theorem gr_below (h : w.grownBy w1 (some g)) (hb : Below w1.heap.size w1 w2) : w.grownBy w2 (some g) :=
  gr_trans h ⟨hb.os, hb.tape, hb.output, hb.size, fun k hk _ => hb.block k hk⟩
theorem gr_al (h : w.grownBy w1 (some g)) (o : Obj) : w.grownBy (w1.alloc o) (some g) := gr_below h ((Below.refl _ _).alloc (Nat.le_refl _) o)
theorem gr_dr (h : w.grownBy w1 (some g)) : w.grownBy w1.drew (some g) := gr_below h ((Below.refl _ _).drew)
theorem gr_sc (h : w.grownBy w1 (some g)) {p : Addr} (hp : p.block = g ∨ w.heap.size ≤ p.block) (u : Value) : w.grownBy (w1.setCell p u) (some g) := by
  refine ⟨h.os, h.tape, h.output, by simpa using h.size, fun k hk hne => ?_⟩
  refine (heap_setCell_other w1 p k u (fun e => ?_)).trans (h.block k hk hne)
  rcases hp with hp | hp
  · exact hne (by rw [← hp, e])
  · omega
theorem gcell (h : w.grownBy w1 (some g)) : (∀ b o, b < w.heap.size → b ≠ g → w1.cell? ⟨b, o, none⟩ = w.cell? ⟨b, o, none⟩) ∧ (∀ b o, b < w.heap.size → b ≠ g → w1.frozen? ⟨b, o, none⟩ = w.frozen? ⟨b, o, none⟩) :=
  ⟨fun b o hb hne => World.cell?_of_block (h.block b hb (by simpa using hne)), fun b o hb hne => World.frozen?_of_block (h.block b hb (by simpa using hne))⟩
end
end Go.Proofs.YtcegllnljaapiaaGreat
namespace Go.Proofs.YtcegllnljaapiaaGreat
open Go.RowKit
/-- Block g is a reader of s (of type T), in state p. -/
def PAt (T : TypeId) (w : World) (g : Nat) (s : ByteArray) (p : PSt) : Prop := w.heap[g]? = some (.cells #[.string s, .int .i64 (p.pos : Nat), .bool p.bad] T (0, 0))
theorem PAt.cells {T : TypeId} {w : World} {g : Nat} {s : ByteArray} {p : PSt} (h : PAt T w g s p) : w.cell? ⟨g, 0, none⟩ = some (.string s) ∧ w.cell? ⟨g, 1, none⟩ = some (.int .i64 (p.pos : Nat)) ∧ w.cell? ⟨g, 2, none⟩ = some (.bool p.bad) ∧ (∀ j, w.frozen? ⟨g, j, none⟩ = false) := by
  refine ⟨?_, ?_, ?_, fun j => frozen_of_row w g j _ _ h⟩
  · rw [cell_of_row w g 0 _ _ (0, 0) h]; rfl
  · rw [cell_of_row w g 1 _ _ (0, 0) h]; rfl
  · rw [cell_of_row w g 2 _ _ (0, 0) h]; rfl
theorem PAt.lt {T : TypeId} {w : World} {g : Nat} {s : ByteArray} {p : PSt} (h : PAt T w g s p) : g < w.heap.size := by
  rcases Nat.lt_or_ge g w.heap.size with h' | h'
  · exact h'
  · unfold PAt at h; rw [Array.getElem?_eq_none h'] at h; cases h
theorem PAt.below {T : TypeId} {w w1 : World} {g : Nat} {s : ByteArray} {p : PSt} (h : PAt T w g s p) (hb : Below w.heap.size w w1) : PAt T w1 g s p := (hb.block g h.lt).trans h
theorem PAt.pos {T : TypeId} {w : World} {g : Nat} {s : ByteArray} {p : PSt} (h : PAt T w g s p) (k : Nat) : PAt T (w.setCell ⟨g, 1, none⟩ (.int .i64 (k : Nat))) g s ⟨k, p.bad⟩ := by
  have := heap_setCell_same w g 1 _ T (.int .i64 (k : Nat)) h
  simpa [PAt] using this
theorem PAt.fail {T : TypeId} {w : World} {g : Nat} {s : ByteArray} {p : PSt} (h : PAt T w g s p) : PAt T (w.setCell ⟨g, 2, none⟩ (.bool true)) g s ⟨p.pos, true⟩ := by
  have := heap_setCell_same w g 2 _ T (.bool true) h
  simpa [PAt] using this
/-- A step of a reader: a value of which P is known, the reader in state p', all other blocks as they were. -/
def PStep (T : TypeId) (g : Nat) (s : ByteArray) (p' : PSt) (P : Value → World → Prop) (w : World) (e : Ending) (w' : World) : Prop := ∃ v, e = .returned v ∧ P v w' ∧ PAt T w' g s p' ∧ w.grownBy w' (some g)
theorem hasPrefix_eq (l p : List UInt8) : Lib.hasPrefix l p = p.isPrefixOf l := by
  rfl
theorem pTake_list (s t : ByteArray) (p : PSt) (h : p.bad = false) : pTake s.data.toList t.data.toList p = t.data.toList.isPrefixOf (s.data.toList.drop p.pos) := by rw [pTake, h]; rfl
theorem hasPrefix_any (s p : ByteArray) (w : World) : Calls Tryz.prog 172 #[.string s, .string p] w fun e w' => e = .returned (.bool (Lib.hasPrefix s.data.toList p.data.toList)) ∧ Below w.heap.size w w' :=
  (Tryz.strings_HasPrefix s p w).mono fun _ _ ⟨he, hw⟩ => ⟨he, hw ▸ Below.refl _ _⟩
set_option maxRecDepth 100000 in
set_option maxHeartbeats 1600000 in
theorem has_any (g : Nat) (s t : ByteArray) (p : PSt) (w : World) (h : PAt 59 w g s p) (hp : p.pos ≤ s.size) (_hs : s.size ≤ maxLen) :
    Calls Tryz.prog 115 #[.pointer (some ⟨g, 0, none⟩), .string t] w fun e w' => e = .returned (.bool (pTake s.data.toList t.data.toList p)) ∧ Below w.heap.size w w' := by
  obtain ⟨c0, c1, c2, -⟩ := h.cells
  have hg := bsz h.lt
  unfold maxLen at _hs
  obtain ⟨k, bad⟩ := p
  simp only at hp c1 c2
  clear h
  cases bad
  · have HT := Lib.hid (pTake_list s t ⟨k, false⟩ rfl)
    go_enter Tryz.func115, Tryz.ntmps115
    go_wp2
    obtain ⟨C, HC0⟩ := class_of (InF w.heap.size _ [(⟨g, 0, none⟩, .string s), (⟨g, 1, none⟩, .int .i64 (k : Nat)), (⟨g, 2, none⟩, .bool false)] [] [])
    have HC := Lib.hid HC0
    clear HC0
    refine wp_region_flow (C := C) (by kernel_rfl) (by kernel_rfl) (fun L hL => (HC.out _ _).2 (InF.start (by first | (intro _ _hs; cases _hs; done) | (simp only [List.forall_mem_cons]; go_simp)) (by first | (intro _ _hs; cases _hs; done) | (simp only [List.forall_mem_cons]; go_simp)) (by first | (intro _ _hs; cases _hs; done) | (simp only [List.forall_mem_cons]; go_simp)) (by first | (intro _ _hs; cases _hs; done) | (simp only [List.forall_mem_cons]; go_simp)) L hL)) ?_
    repeat (first | (apply flow_free rfl; (intro L w' hun hrd hC; have hC := (HC.out _ _).1 hC; have hb' := hC.below; (try have hw' : Below w.heap.size w w' := by first | exact Below.trans (by (repeat (first | with_reducible exact Below.refl _ _ | with_reducible assumption | with_reducible refine Below.al ?_ _ | with_reducible refine Below.sc ?_ (by first | exact Nat.le_refl _ | (simp; done) | (simp; omega)) _ | assumption | exact Below.refl _ _ | refine Below.dr ?_ | refine Below.drN ?_ _ | refine Below.step ?_ (by assumption)))) hb' | ((repeat (first | with_reducible exact Below.refl _ _ | with_reducible assumption | with_reducible refine Below.al ?_ _ | with_reducible refine Below.sc ?_ (by first | exact Nat.le_refl _ | (simp; done) | (simp; omega)) _ | assumption | exact Below.refl _ _ | refine Below.dr ?_ | refine Below.drN ?_ _ | refine Below.step ?_ (by assumption))); done)); have hf' := hC.cell; (try simp only [List.forall_mem_cons] at hf'); go_simp; first | exact ⟨(HC.out _ _).2 (hC.skip _ (by rfl)), rfl⟩ | (rw [if_neg]; (exact ⟨(HC.out _ _).2 (hC.skip _ (by rfl)), rfl⟩); omega) | (go_at_call 172; refine (hasPrefix_any _ _ _).mono ?_; rintro e w1 ⟨rfl, hb1⟩; exact ⟨rfl, (HC.out _ _).2 ((hC.next (by first | (simp; done) | (simp; omega) | omega) hb1).skip _ (by rfl))⟩)); go_simp) | (apply flow_yes; (case hw => go_simp); (intro L w' hun hrd hC; have hC := (HC.out _ _).1 hC; have hb' := hC.below; (try have hw' : Below w.heap.size w w' := by first | exact Below.trans (by (repeat (first | with_reducible exact Below.refl _ _ | with_reducible assumption | with_reducible refine Below.al ?_ _ | with_reducible refine Below.sc ?_ (by first | exact Nat.le_refl _ | (simp; done) | (simp; omega)) _ | assumption | exact Below.refl _ _ | refine Below.dr ?_ | refine Below.drN ?_ _ | refine Below.step ?_ (by assumption)))) hb' | ((repeat (first | with_reducible exact Below.refl _ _ | with_reducible assumption | with_reducible refine Below.al ?_ _ | with_reducible refine Below.sc ?_ (by first | exact Nat.le_refl _ | (simp; done) | (simp; omega)) _ | assumption | exact Below.refl _ _ | refine Below.dr ?_ | refine Below.drN ?_ _ | refine Below.step ?_ (by assumption))); done)); have hf' := hC.cell; (try simp only [List.forall_mem_cons] at hf'); go_simp; first | exact ⟨(HC.out _ _).2 (hC.skip _ (by rfl)), rfl⟩ | (rw [if_neg]; (exact ⟨(HC.out _ _).2 (hC.skip _ (by rfl)), rfl⟩); omega) | (go_at_call 172; refine (hasPrefix_any _ _ _).mono ?_; rintro e w1 ⟨rfl, hb1⟩; exact ⟨rfl, (HC.out _ _).2 ((hC.next (by first | (simp; done) | (simp; omega) | omega) hb1).skip _ (by rfl))⟩)); go_simp) | (apply flow_no; (case hw => (go_simp; try (intro hh; cases hh))); (intro L w' _ _ hC; exact (HC.out _ _).2 (((HC.out _ _).1 hC).skip _ (by rfl))); go_simp))
    refine flow_nil ?_
    intro L wz hL hz
    have hz := (HC.out _ _).1 hz
    have hbz := hz.below
    have hcz := hz.cell
    try simp only [List.forall_mem_cons] at hcz
    have hdz := hz.done
    try simp only [List.forall_mem_cons] at hdz
    (try have hwz : Below w.heap.size w wz := by first | exact Below.trans (by (repeat (first | with_reducible exact Below.refl _ _ | with_reducible assumption | with_reducible refine Below.al ?_ _ | with_reducible refine Below.sc ?_ (by first | exact Nat.le_refl _ | (simp; done) | (simp; omega)) _ | assumption | exact Below.refl _ _ | refine Below.dr ?_ | refine Below.drN ?_ _ | refine Below.step ?_ (by assumption)))) hbz | ((repeat (first | with_reducible exact Below.refl _ _ | with_reducible assumption | with_reducible refine Below.al ?_ _ | with_reducible refine Below.sc ?_ (by first | exact Nat.le_refl _ | (simp; done) | (simp; omega)) _ | assumption | exact Below.refl _ _ | refine Below.dr ?_ | refine Below.drN ?_ _ | refine Below.step ?_ (by assumption))); done))
    go_wp2
    go_ret
    exact ⟨ret_bool (by rw [HT.out, List.take_of_length_le (by simp), hasPrefix_eq]), by (repeat (first | with_reducible exact Below.refl _ _ | with_reducible assumption | with_reducible refine Below.al ?_ _ | with_reducible refine Below.sc ?_ (by first | exact Nat.le_refl _ | (simp; done) | (simp; omega)) _ | assumption | exact Below.refl _ _ | refine Below.dr ?_ | refine Below.drN ?_ _ | refine Below.step ?_ (by assumption)))⟩
  · have HT := Lib.hid (show pTake s.data.toList t.data.toList ⟨k, true⟩ = false from rfl)
    go_enter Tryz.func115, Tryz.ntmps115
    go_wp2
    obtain ⟨C, HC0⟩ := class_of (InF w.heap.size _ [(⟨g, 0, none⟩, .string s), (⟨g, 1, none⟩, .int .i64 (k : Nat)), (⟨g, 2, none⟩, .bool true)] [] [])
    have HC := Lib.hid HC0
    clear HC0
    refine wp_region_flow (C := C) (by kernel_rfl) (by kernel_rfl) (fun L hL => (HC.out _ _).2 (InF.start (by first | (intro _ _hs; cases _hs; done) | (simp only [List.forall_mem_cons]; go_simp)) (by first | (intro _ _hs; cases _hs; done) | (simp only [List.forall_mem_cons]; go_simp)) (by first | (intro _ _hs; cases _hs; done) | (simp only [List.forall_mem_cons]; go_simp)) (by first | (intro _ _hs; cases _hs; done) | (simp only [List.forall_mem_cons]; go_simp)) L hL)) ?_
    repeat (first | (apply flow_free rfl; (intro L w' hun hrd hC; have hC := (HC.out _ _).1 hC; have hb' := hC.below; (try have hw' : Below w.heap.size w w' := by first | exact Below.trans (by (repeat (first | with_reducible exact Below.refl _ _ | with_reducible assumption | with_reducible refine Below.al ?_ _ | with_reducible refine Below.sc ?_ (by first | exact Nat.le_refl _ | (simp; done) | (simp; omega)) _ | assumption | exact Below.refl _ _ | refine Below.dr ?_ | refine Below.drN ?_ _ | refine Below.step ?_ (by assumption)))) hb' | ((repeat (first | with_reducible exact Below.refl _ _ | with_reducible assumption | with_reducible refine Below.al ?_ _ | with_reducible refine Below.sc ?_ (by first | exact Nat.le_refl _ | (simp; done) | (simp; omega)) _ | assumption | exact Below.refl _ _ | refine Below.dr ?_ | refine Below.drN ?_ _ | refine Below.step ?_ (by assumption))); done)); have hf' := hC.cell; (try simp only [List.forall_mem_cons] at hf'); go_simp; first | exact ⟨(HC.out _ _).2 (hC.skip _ (by rfl)), rfl⟩ | (rw [if_neg]; (exact ⟨(HC.out _ _).2 (hC.skip _ (by rfl)), rfl⟩); omega) | fail); go_simp) | (apply flow_yes; (case hw => go_simp); (intro L w' hun hrd hC; have hC := (HC.out _ _).1 hC; have hb' := hC.below; (try have hw' : Below w.heap.size w w' := by first | exact Below.trans (by (repeat (first | with_reducible exact Below.refl _ _ | with_reducible assumption | with_reducible refine Below.al ?_ _ | with_reducible refine Below.sc ?_ (by first | exact Nat.le_refl _ | (simp; done) | (simp; omega)) _ | assumption | exact Below.refl _ _ | refine Below.dr ?_ | refine Below.drN ?_ _ | refine Below.step ?_ (by assumption)))) hb' | ((repeat (first | with_reducible exact Below.refl _ _ | with_reducible assumption | with_reducible refine Below.al ?_ _ | with_reducible refine Below.sc ?_ (by first | exact Nat.le_refl _ | (simp; done) | (simp; omega)) _ | assumption | exact Below.refl _ _ | refine Below.dr ?_ | refine Below.drN ?_ _ | refine Below.step ?_ (by assumption))); done)); have hf' := hC.cell; (try simp only [List.forall_mem_cons] at hf'); go_simp; first | exact ⟨(HC.out _ _).2 (hC.skip _ (by rfl)), rfl⟩ | (rw [if_neg]; (exact ⟨(HC.out _ _).2 (hC.skip _ (by rfl)), rfl⟩); omega) | fail); go_simp) | (apply flow_no; (case hw => (go_simp; try (intro hh; cases hh))); (intro L w' _ _ hC; exact (HC.out _ _).2 (((HC.out _ _).1 hC).skip _ (by rfl))); go_simp))
    refine flow_nil ?_
    intro L wz hL hz
    have hz := (HC.out _ _).1 hz
    have hbz := hz.below
    have hcz := hz.cell
    try simp only [List.forall_mem_cons] at hcz
    have hdz := hz.done
    try simp only [List.forall_mem_cons] at hdz
    (try have hwz : Below w.heap.size w wz := by first | exact Below.trans (by (repeat (first | with_reducible exact Below.refl _ _ | with_reducible assumption | with_reducible refine Below.al ?_ _ | with_reducible refine Below.sc ?_ (by first | exact Nat.le_refl _ | (simp; done) | (simp; omega)) _ | assumption | exact Below.refl _ _ | refine Below.dr ?_ | refine Below.drN ?_ _ | refine Below.step ?_ (by assumption)))) hbz | ((repeat (first | with_reducible exact Below.refl _ _ | with_reducible assumption | with_reducible refine Below.al ?_ _ | with_reducible refine Below.sc ?_ (by first | exact Nat.le_refl _ | (simp; done) | (simp; omega)) _ | assumption | exact Below.refl _ _ | refine Below.dr ?_ | refine Below.drN ?_ _ | refine Below.step ?_ (by assumption))); done))
    go_wp2
    go_ret
    exact ⟨ret_bool (by rw [HT.out]), by (repeat (first | with_reducible exact Below.refl _ _ | with_reducible assumption | with_reducible refine Below.al ?_ _ | with_reducible refine Below.sc ?_ (by first | exact Nat.le_refl _ | (simp; done) | (simp; omega)) _ | assumption | exact Below.refl _ _ | refine Below.dr ?_ | refine Below.drN ?_ _ | refine Below.step ?_ (by assumption)))⟩
set_option maxRecDepth 100000 in
set_option maxHeartbeats 1600000 in
theorem take_any (g : Nat) (s t : ByteArray) (p : PSt) (w : World) (h : PAt 59 w g s p) (hp : p.pos ≤ s.size) (hs : s.size ≤ 1000000000000) (ht : t.size ≤ 1000000) :
    Calls Tryz.prog 62 #[.pointer (some ⟨g, 0, none⟩), .string t] w (PStep 59 g s (if pTake s.data.toList t.data.toList p then pAdv t.data.toList p else p) (fun v _ => v = .bool (pTake s.data.toList t.data.toList p)) w) := by
  have H := Lib.hid h
  have hg := bsz h.lt
  obtain ⟨k, bad⟩ := p
  simp only at hp
  obtain ⟨c0, c1, c2, cf⟩ := h.cells
  simp only at c1 c2
  clear h
  cases hT : pTake s.data.toList t.data.toList ⟨k, bad⟩
  · have HT := Lib.hid hT
    go_enter Tryz.func62, Tryz.ntmps62
    go_wp2_with fail
    refine (has_any g s t ⟨k, bad⟩ _ (H.out.below (by (repeat (first | with_reducible exact Below.refl _ _ | with_reducible assumption | with_reducible refine Below.al ?_ _ | with_reducible refine Below.sc ?_ (by first | exact Nat.le_refl _ | (simp; done) | (simp; omega)) _ | assumption | exact Below.refl _ _ | refine Below.dr ?_ | refine Below.drN ?_ _ | refine Below.step ?_ (by assumption))))) hp (by unfold maxLen; omega)).mono ?_
    rintro e w1 ⟨rfl, hb1⟩
    have ⟨cw1, fw1⟩ := bcell hb1
    have qw1 := hb1.size
    (try simp at qw1)
    (try have zw1w := bsz (show w.heap.size < w1.heap.size by omega))
    rw [HT.out]
    go_wp2
    go_ret
    exact ⟨_, rfl, rfl, H.out.below (by (repeat (first | with_reducible exact Below.refl _ _ | with_reducible assumption | with_reducible refine Below.al ?_ _ | with_reducible refine Below.sc ?_ (by first | exact Nat.le_refl _ | (simp; done) | (simp; omega)) _ | assumption | exact Below.refl _ _ | refine Below.dr ?_ | refine Below.drN ?_ _ | refine Below.step ?_ (by assumption)))), gr_below (gr_refl w g) (by (repeat (first | with_reducible exact Below.refl _ _ | with_reducible assumption | with_reducible refine Below.al ?_ _ | with_reducible refine Below.sc ?_ (by first | exact Nat.le_refl _ | (simp; done) | (simp; omega)) _ | assumption | exact Below.refl _ _ | refine Below.dr ?_ | refine Below.drN ?_ _ | refine Below.step ?_ (by assumption))))⟩
  · have HT := Lib.hid hT
    go_enter Tryz.func62, Tryz.ntmps62
    go_wp2_with fail
    refine (has_any g s t ⟨k, bad⟩ _ (H.out.below (by (repeat (first | with_reducible exact Below.refl _ _ | with_reducible assumption | with_reducible refine Below.al ?_ _ | with_reducible refine Below.sc ?_ (by first | exact Nat.le_refl _ | (simp; done) | (simp; omega)) _ | assumption | exact Below.refl _ _ | refine Below.dr ?_ | refine Below.drN ?_ _ | refine Below.step ?_ (by assumption))))) hp (by unfold maxLen; omega)).mono ?_
    rintro e w1 ⟨rfl, hb1⟩
    have ⟨cw1, fw1⟩ := bcell hb1
    have qw1 := hb1.size
    (try simp at qw1)
    (try have zw1w := bsz (show w.heap.size < w1.heap.size by omega))
    rw [HT.out]
    go_wp2
    go_ret
    exact ⟨_, rfl, rfl, (H.out.below hb1).pos (k + t.size), gr_sc (gr_below (gr_refl w g) hb1) (.inl rfl) _⟩
set_option maxRecDepth 100000 in
set_option maxHeartbeats 1600000 in
theorem must_any (g : Nat) (s t : ByteArray) (p : PSt) (w : World) (h : PAt 59 w g s p) (hp : p.pos ≤ s.size) (hs : s.size ≤ 1000000000000) (ht : t.size ≤ 1000000) :
    Calls Tryz.prog 66 #[.pointer (some ⟨g, 0, none⟩), .string t] w (PStep 59 g s (pMust s.data.toList t.data.toList p) (fun v _ => v = .tuple #[]) w) := by
  have H := Lib.hid h
  have hg := bsz h.lt
  cases hT : pTake s.data.toList t.data.toList p
  · have HT := Lib.hid hT
    have HM := Lib.hid (show pMust s.data.toList t.data.toList p = ⟨p.pos, true⟩ by rw [pMust, hT]; rfl)
    clear h
    go_enter Tryz.func66, Tryz.ntmps66
    go_wp2_with fail
    refine (take_any g s t p _ H.out hp hs ht).mono ?_
    rw [HT.out]
    rintro e w1 ⟨v, rfl, rfl, h1, hg1⟩
    have H1 := Lib.hid h1
    have ⟨c1, f1⟩ := gcell hg1
    have hz := hg1.size
    obtain ⟨d0, d1, d2, df⟩ := h1.cells
    clear h1
    go_wp2
    go_end0
    exact ⟨_, rfl, rfl, by rw [HM.out]; exact H1.out.fail, gr_sc hg1 (.inl rfl) _⟩
  · have HT := Lib.hid hT
    have HM := Lib.hid (show pMust s.data.toList t.data.toList p = pAdv t.data.toList p by rw [pMust, hT]; rfl)
    clear h
    go_enter Tryz.func66, Tryz.ntmps66
    go_wp2_with fail
    refine (take_any g s t p _ H.out hp hs ht).mono ?_
    rw [HT.out]
    rintro e w1 ⟨v, rfl, rfl, h1, hg1⟩
    have H1 := Lib.hid h1
    clear h1
    go_wp2
    go_end0
    exact ⟨_, rfl, rfl, by rw [HM.out]; exact H1.out, hg1⟩
set_option maxRecDepth 100000 in
set_option maxHeartbeats 1600000 in
theorem ended_any (g : Nat) (s : ByteArray) (p : PSt) (w : World) (h : PAt 59 w g s p) :
    Calls Tryz.prog 28 #[.pointer (some ⟨g, 0, none⟩)] w fun e w' => e = .returned (.bool (!p.bad && p.pos == s.size)) ∧ Below w.heap.size w w' := by
  obtain ⟨c0, c1, c2, -⟩ := h.cells
  have hg := bsz h.lt
  obtain ⟨k, bad⟩ := p
  simp only at c1 c2
  clear h
  cases bad
  · go_enter Tryz.func28, Tryz.ntmps28
    go_wp2
    obtain ⟨C, HC0⟩ := class_of (InF w.heap.size _ [(⟨g, 0, none⟩, .string s), (⟨g, 1, none⟩, .int .i64 (k : Nat)), (⟨g, 2, none⟩, .bool false)] [] [])
    have HC := Lib.hid HC0
    clear HC0
    refine wp_region_flow (C := C) (by kernel_rfl) (by kernel_rfl) (fun L hL => (HC.out _ _).2 (InF.start (by first | (intro _ hs; cases hs; done) | (simp only [List.forall_mem_cons]; go_simp)) (by first | (intro _ hs; cases hs; done) | (simp only [List.forall_mem_cons]; go_simp)) (by first | (intro _ hs; cases hs; done) | (simp only [List.forall_mem_cons]; go_simp)) (by first | (intro _ hs; cases hs; done) | (simp only [List.forall_mem_cons]; go_simp)) L hL)) ?_
    repeat (first | (apply flow_free rfl; (intro L w' hun hrd hC; have hC := (HC.out _ _).1 hC; have hb' := hC.below; (try have hw' : Below w.heap.size w w' := by first | exact Below.trans (by (repeat (first | with_reducible exact Below.refl _ _ | with_reducible assumption | with_reducible refine Below.al ?_ _ | with_reducible refine Below.sc ?_ (by first | exact Nat.le_refl _ | (simp; done) | (simp; omega)) _ | assumption | exact Below.refl _ _ | refine Below.dr ?_ | refine Below.drN ?_ _ | refine Below.step ?_ (by assumption)))) hb' | ((repeat (first | with_reducible exact Below.refl _ _ | with_reducible assumption | with_reducible refine Below.al ?_ _ | with_reducible refine Below.sc ?_ (by first | exact Nat.le_refl _ | (simp; done) | (simp; omega)) _ | assumption | exact Below.refl _ _ | refine Below.dr ?_ | refine Below.drN ?_ _ | refine Below.step ?_ (by assumption))); done)); have hf' := hC.cell; (try simp only [List.forall_mem_cons] at hf'); go_simp; first | exact ⟨(HC.out _ _).2 (hC.skip _ (by rfl)), rfl⟩ | (rw [if_neg]; (exact ⟨(HC.out _ _).2 (hC.skip _ (by rfl)), rfl⟩); omega) | fail); go_simp) | (apply flow_yes; (case hw => go_simp); (intro L w' hun hrd hC; have hC := (HC.out _ _).1 hC; have hb' := hC.below; (try have hw' : Below w.heap.size w w' := by first | exact Below.trans (by (repeat (first | with_reducible exact Below.refl _ _ | with_reducible assumption | with_reducible refine Below.al ?_ _ | with_reducible refine Below.sc ?_ (by first | exact Nat.le_refl _ | (simp; done) | (simp; omega)) _ | assumption | exact Below.refl _ _ | refine Below.dr ?_ | refine Below.drN ?_ _ | refine Below.step ?_ (by assumption)))) hb' | ((repeat (first | with_reducible exact Below.refl _ _ | with_reducible assumption | with_reducible refine Below.al ?_ _ | with_reducible refine Below.sc ?_ (by first | exact Nat.le_refl _ | (simp; done) | (simp; omega)) _ | assumption | exact Below.refl _ _ | refine Below.dr ?_ | refine Below.drN ?_ _ | refine Below.step ?_ (by assumption))); done)); have hf' := hC.cell; (try simp only [List.forall_mem_cons] at hf'); go_simp; first | exact ⟨(HC.out _ _).2 (hC.skip _ (by rfl)), rfl⟩ | (rw [if_neg]; (exact ⟨(HC.out _ _).2 (hC.skip _ (by rfl)), rfl⟩); omega) | fail); go_simp) | (apply flow_no; (case hw => (go_simp; try (intro hh; cases hh))); (intro L w' _ _ hC; exact (HC.out _ _).2 (((HC.out _ _).1 hC).skip _ (by rfl))); go_simp))
    refine flow_nil ?_
    intro L wz hL hz
    have hz := (HC.out _ _).1 hz
    have hbz := hz.below
    have hcz := hz.cell
    try simp only [List.forall_mem_cons] at hcz
    have hdz := hz.done
    try simp only [List.forall_mem_cons] at hdz
    (try have hwz : Below w.heap.size w wz := by first | exact Below.trans (by (repeat (first | with_reducible exact Below.refl _ _ | with_reducible assumption | with_reducible refine Below.al ?_ _ | with_reducible refine Below.sc ?_ (by first | exact Nat.le_refl _ | (simp; done) | (simp; omega)) _ | assumption | exact Below.refl _ _ | refine Below.dr ?_ | refine Below.drN ?_ _ | refine Below.step ?_ (by assumption)))) hbz | ((repeat (first | with_reducible exact Below.refl _ _ | with_reducible assumption | with_reducible refine Below.al ?_ _ | with_reducible refine Below.sc ?_ (by first | exact Nat.le_refl _ | (simp; done) | (simp; omega)) _ | assumption | exact Below.refl _ _ | refine Below.dr ?_ | refine Below.drN ?_ _ | refine Below.step ?_ (by assumption))); done))
    go_wp2
    go_ret
    exact ⟨ret_bool (by rw [Bool.eq_iff_iff]; simp; omega), by (repeat (first | with_reducible exact Below.refl _ _ | with_reducible assumption | with_reducible refine Below.al ?_ _ | with_reducible refine Below.sc ?_ (by first | exact Nat.le_refl _ | (simp; done) | (simp; omega)) _ | assumption | exact Below.refl _ _ | refine Below.dr ?_ | refine Below.drN ?_ _ | refine Below.step ?_ (by assumption)))⟩
  · go_enter Tryz.func28, Tryz.ntmps28
    go_wp2
    obtain ⟨C, HC0⟩ := class_of (InF w.heap.size _ [(⟨g, 0, none⟩, .string s), (⟨g, 1, none⟩, .int .i64 (k : Nat)), (⟨g, 2, none⟩, .bool true)] [] [])
    have HC := Lib.hid HC0
    clear HC0
    refine wp_region_flow (C := C) (by kernel_rfl) (by kernel_rfl) (fun L hL => (HC.out _ _).2 (InF.start (by first | (intro _ hs; cases hs; done) | (simp only [List.forall_mem_cons]; go_simp)) (by first | (intro _ hs; cases hs; done) | (simp only [List.forall_mem_cons]; go_simp)) (by first | (intro _ hs; cases hs; done) | (simp only [List.forall_mem_cons]; go_simp)) (by first | (intro _ hs; cases hs; done) | (simp only [List.forall_mem_cons]; go_simp)) L hL)) ?_
    repeat (first | (apply flow_free rfl; (intro L w' hun hrd hC; have hC := (HC.out _ _).1 hC; have hb' := hC.below; (try have hw' : Below w.heap.size w w' := by first | exact Below.trans (by (repeat (first | with_reducible exact Below.refl _ _ | with_reducible assumption | with_reducible refine Below.al ?_ _ | with_reducible refine Below.sc ?_ (by first | exact Nat.le_refl _ | (simp; done) | (simp; omega)) _ | assumption | exact Below.refl _ _ | refine Below.dr ?_ | refine Below.drN ?_ _ | refine Below.step ?_ (by assumption)))) hb' | ((repeat (first | with_reducible exact Below.refl _ _ | with_reducible assumption | with_reducible refine Below.al ?_ _ | with_reducible refine Below.sc ?_ (by first | exact Nat.le_refl _ | (simp; done) | (simp; omega)) _ | assumption | exact Below.refl _ _ | refine Below.dr ?_ | refine Below.drN ?_ _ | refine Below.step ?_ (by assumption))); done)); have hf' := hC.cell; (try simp only [List.forall_mem_cons] at hf'); go_simp; first | exact ⟨(HC.out _ _).2 (hC.skip _ (by rfl)), rfl⟩ | (rw [if_neg]; (exact ⟨(HC.out _ _).2 (hC.skip _ (by rfl)), rfl⟩); omega) | fail); go_simp) | (apply flow_yes; (case hw => go_simp); (intro L w' hun hrd hC; have hC := (HC.out _ _).1 hC; have hb' := hC.below; (try have hw' : Below w.heap.size w w' := by first | exact Below.trans (by (repeat (first | with_reducible exact Below.refl _ _ | with_reducible assumption | with_reducible refine Below.al ?_ _ | with_reducible refine Below.sc ?_ (by first | exact Nat.le_refl _ | (simp; done) | (simp; omega)) _ | assumption | exact Below.refl _ _ | refine Below.dr ?_ | refine Below.drN ?_ _ | refine Below.step ?_ (by assumption)))) hb' | ((repeat (first | with_reducible exact Below.refl _ _ | with_reducible assumption | with_reducible refine Below.al ?_ _ | with_reducible refine Below.sc ?_ (by first | exact Nat.le_refl _ | (simp; done) | (simp; omega)) _ | assumption | exact Below.refl _ _ | refine Below.dr ?_ | refine Below.drN ?_ _ | refine Below.step ?_ (by assumption))); done)); have hf' := hC.cell; (try simp only [List.forall_mem_cons] at hf'); go_simp; first | exact ⟨(HC.out _ _).2 (hC.skip _ (by rfl)), rfl⟩ | (rw [if_neg]; (exact ⟨(HC.out _ _).2 (hC.skip _ (by rfl)), rfl⟩); omega) | fail); go_simp) | (apply flow_no; (case hw => (go_simp; try (intro hh; cases hh))); (intro L w' _ _ hC; exact (HC.out _ _).2 (((HC.out _ _).1 hC).skip _ (by rfl))); go_simp))
    refine flow_nil ?_
    intro L wz hL hz
    have hz := (HC.out _ _).1 hz
    have hbz := hz.below
    have hcz := hz.cell
    try simp only [List.forall_mem_cons] at hcz
    have hdz := hz.done
    try simp only [List.forall_mem_cons] at hdz
    (try have hwz : Below w.heap.size w wz := by first | exact Below.trans (by (repeat (first | with_reducible exact Below.refl _ _ | with_reducible assumption | with_reducible refine Below.al ?_ _ | with_reducible refine Below.sc ?_ (by first | exact Nat.le_refl _ | (simp; done) | (simp; omega)) _ | assumption | exact Below.refl _ _ | refine Below.dr ?_ | refine Below.drN ?_ _ | refine Below.step ?_ (by assumption)))) hbz | ((repeat (first | with_reducible exact Below.refl _ _ | with_reducible assumption | with_reducible refine Below.al ?_ _ | with_reducible refine Below.sc ?_ (by first | exact Nat.le_refl _ | (simp; done) | (simp; omega)) _ | assumption | exact Below.refl _ _ | refine Below.dr ?_ | refine Below.drN ?_ _ | refine Below.step ?_ (by assumption))); done))
    go_wp2
    go_ret
    exact ⟨ret_bool (by simp), by (repeat (first | with_reducible exact Below.refl _ _ | with_reducible assumption | with_reducible refine Below.al ?_ _ | with_reducible refine Below.sc ?_ (by first | exact Nat.le_refl _ | (simp; done) | (simp; omega)) _ | assumption | exact Below.refl _ _ | refine Below.dr ?_ | refine Below.drN ?_ _ | refine Below.step ?_ (by assumption)))⟩
theorem wordL_at {s : ByteArray} {k j : Nat} {bad : Bool} (hall : ∀ i, k ≤ i → (h : i < j) → (h2 : i < s.size) → wordC s[i] = true) (h1 : k ≤ j) (h2 : j ≤ s.size) (hst : ∀ h : j < s.size, wordC s[j] = false) : pWordL s.data.toList ⟨k, bad⟩ = (s.data.toList.drop k).take (j - k) := by
  have e : s.data.toList.drop k = (s.data.toList.drop k).take (j - k) ++ s.data.toList.drop j := by
    have := (List.take_append_drop (j - k) (s.data.toList.drop k)).symm
    rw [List.drop_drop, show k + (j - k) = j by omega] at this; exact this
  show (s.data.toList.drop k).takeWhile wordC = _
  rw [e, takeWhile_app]
  · rw [List.take_append_of_le_length (by rw [List.length_take, List.length_drop, ← size_list]; omega), List.take_take, Nat.min_self]
  · rw [List.all_eq_true]
    intro c hc
    obtain ⟨i, hi, rfl⟩ := List.getElem_of_mem hc
    rw [List.length_take, List.length_drop, ← size_list] at hi
    rw [List.getElem_take, List.getElem_drop]
    exact hall (k + i) (by omega) (by omega) (by omega)
  · intro c hc
    rw [List.head?_drop] at hc
    obtain ⟨hlt, rfl⟩ := List.getElem?_eq_some_iff.1 hc
    exact hst (by simpa using hlt)
theorem pWord_empty {L : List UInt8} {k : Nat} {bad : Bool} (h : (pWordL L ⟨k, bad⟩).length = 0) : pWord L ⟨k, bad⟩ = ([], ⟨k + (pWordL L ⟨k, bad⟩).length, true⟩) := by
  rw [pWord, if_pos (by simp [List.length_eq_zero_iff.1 h])]
theorem pWord_bad {L : List UInt8} {k : Nat} : pWord L ⟨k, true⟩ = ([], ⟨k + (pWordL L ⟨k, true⟩).length, true⟩) := by rw [pWord, if_pos (by simp)]
theorem pWord_some {L : List UInt8} {k : Nat} (h : (pWordL L ⟨k, false⟩).length ≠ 0) : pWord L ⟨k, false⟩ = (pWordL L ⟨k, false⟩, ⟨k + (pWordL L ⟨k, false⟩).length, false⟩) := by
  rw [pWord, if_neg]
  cases hq : pWordL L ⟨k, false⟩ with
  | nil => rw [hq] at h; exact absurd rfl h
  | cons a l => simp
def posOf (w : World) (g : Nat) : Nat := (intOf ((w.cell? ⟨g, 1, none⟩).getD undef)).toNat
theorem PAt.posOf {T : TypeId} {w : World} {g : Nat} {s : ByteArray} {p : PSt} (h : PAt T w g s p) : posOf w g = p.pos := by rw [Go.Proofs.YtcegllnljaapiaaGreat.posOf, h.cells.2.1]; simp [intOf]
end Go.Proofs.YtcegllnljaapiaaGreat
namespace Go.Proofs.YtcegllnljaapiaaGreat
open Go.RowKit
def rWordL (L : List UInt8) (k : Nat) : List UInt8 := (L.drop k).takeWhile wordC
mutual
/-- A term from a place on, and the place behind it. -/
def rTerm (L : List UInt8) : Nat → Nat → Option (Tm × Nat)
  | 0, _ => none
  | f + 1, k =>
    if (rWordL L k).isEmpty then none
    else if L[k + (rWordL L k).length]? = some 40 then rArgs L (rWordL L k) f [] (k + (rWordL L k).length)
    else some (.mk ⟨(rWordL L k).toArray⟩ [], k + (rWordL L k).length)
/-- The arguments from a bracket or a comma on, behind those that are read. -/
def rArgs (L n : List UInt8) : Nat → List Tm → Nat → Option (Tm × Nat)
  | 0, _, _ => none
  | f + 1, us, e =>
    match rTerm L f (e + 1) with
    | none => none
    | some (a, j) => if L[j]? = some 44 then rArgs L n f (us ++ [a]) j else if L[j]? = some 41 then some (.mk ⟨n.toArray⟩ (us ++ [a]), j + 1) else none
end
/-! ### What is written is read back -/
theorem drop_get {L R : List UInt8} {k : Nat} (h : L.drop k = R) : L[k]? = R.head? := by rw [← h, List.head?_drop]
mutual
theorem rTerm_ok {L : List UInt8} : ∀ (f : Nat) (t : Tm) (k : Nat) (R : List UInt8), t.nodes = true → L.drop k = t.fmt ++ R → stopC R → t.fmt.length < f → rTerm L f k = some (t, k + t.fmt.length)
  | 0, _, _, _, _, _, _, h => absurd h (by omega)
  | f + 1, .mk n us, k, R, hn, hL, hR, hf => by
    have h1 := Tm.nodes_mk hn
    have hm := Tm.fmt_mk (us := us) (word_not61 h1.1)
    cases us with
    | nil =>
      rw [if_pos (by rfl)] at hm
      rw [hm] at hL ⊢
      have hw : rWordL L k = n.data.toList := by rw [rWordL, hL, takeWhile_app h1.1.1 (fun c hc => (hR c hc).1)]
      have e1 := drop_adv hL
      have hno : L[k + n.data.toList.length]? ≠ some 40 := by rw [drop_get e1]; intro h; exact (hR 40 h).2 rfl
      rw [rTerm, hw, if_neg (by simpa using h1.1.2), if_neg hno, ba_eq]
    | cons a us =>
      rw [if_neg (by simp), joinB_cons] at hm
      have h2 : a.nodes = true ∧ Tm.nodess us = true := by simpa [Tm.nodess] using h1.2
      have hlen : (Tm.mk n (a :: us)).fmt.length = n.data.toList.length + 1 + a.fmt.length + (sepAll [44] us).length + 1 := by rw [hm]; simp; omega
      have e0 : L.drop k = n.data.toList ++ ([40] ++ (a.fmt ++ (sepAll [44] us ++ ([41] ++ R)))) := by rw [hL, hm]; simp [List.append_assoc]
      have hw : rWordL L k = n.data.toList := by rw [rWordL, e0, takeWhile_app h1.1.1 (fun c hc => by simp at hc; subst hc; decide)]
      have e1 := drop_adv e0
      have hp : 0 < n.data.toList.length := List.length_pos_iff.2 h1.1.2
      rw [rTerm, hw, if_neg (by simpa using h1.1.2), if_pos (by rw [drop_get e1]; rfl)]
      rw [rArgs_ok f n.data.toList [] a us (k + n.data.toList.length) 40 R h2.1 h2.2 e1 (by omega), ba_eq, hlen]
      refine congrArg some (Prod.ext rfl ?_)
      show _ = _
      simp only; omega
theorem rArgs_ok {L : List UInt8} : ∀ (f : Nat) (n : List UInt8) (acc : List Tm) (a : Tm) (us : List Tm) (e : Nat) (c : UInt8) (R : List UInt8), a.nodes = true → Tm.nodess us = true → L.drop e = [c] ++ (a.fmt ++ (sepAll [44] us ++ ([41] ++ R))) → a.fmt.length + (sepAll [44] us).length + 1 < f →
    rArgs L n f acc e = some (.mk ⟨n.toArray⟩ (acc ++ a :: us), e + 1 + a.fmt.length + (sepAll [44] us).length + 1)
  | 0, _, _, _, _, _, _, _, _, _, _, h => absurd h (by omega)
  | f + 1, n, acc, a, us, e, c, R, ha, hu, hL, hf => by
    have s41 : stopC ([41] ++ R) := by intro c hc; simp at hc; subst hc; decide
    have s44 : stopC [44] := by intro c hc; simp at hc; subst hc; decide
    have e1 := drop_adv hL
    have e2 := drop_adv e1
    have h1 := rTerm_ok f a (e + 1) _ ha e1 (stop_sep s44 (by simp) s41) (by omega)
    rw [rArgs, h1]
    simp only
    have e2' : L.drop (e + 1 + a.fmt.length) = sepAll [44] us ++ ([41] ++ R) := e2
    cases us with
    | nil =>
      have hg : L[e + 1 + a.fmt.length]? = some 41 := by rw [drop_get e2']; rfl
      rw [hg, if_neg (by decide), if_pos rfl]
      simp [sepAll]
    | cons b us =>
      have h2 : b.nodes = true ∧ Tm.nodess us = true := by simpa [Tm.nodess] using hu
      have hg : L[e + 1 + a.fmt.length]? = some 44 := by rw [drop_get e2']; simp [sepAll]
      rw [hg, if_pos rfl]
      have hlen : (sepAll [44] (b :: us)).length = 1 + b.fmt.length + (sepAll [44] us).length := by rw [sepAll]; simp; omega
      rw [rArgs_ok f n (acc ++ [a]) b us (e + 1 + a.fmt.length) 44 R h2.1 h2.2 (by rw [e2', sepAll]; simp [List.append_assoc]) (by omega), hlen, List.append_assoc]
      refine congrArg some (Prod.ext rfl ?_)
      show _ = _
      simp only; omega
end
end Go.Proofs.YtcegllnljaapiaaGreat
namespace Go.Proofs.YtcegllnljaapiaaGreat
open Go.RowKit
theorem pTake_le {L t : List UInt8} {p : PSt} (h : pTake L t p = true) (hp : p.pos ≤ L.length) : p.pos + t.length ≤ L.length := by
  simp only [pTake, Bool.and_eq_true] at h
  have := (List.isPrefixOf_iff_prefix.1 h.2).length_le
  rw [List.length_drop] at this; omega
theorem pWordL_le (L : List UInt8) (p : PSt) (hp : p.pos ≤ L.length) : p.pos + (pWordL L p).length ≤ L.length := by
  have : (pWordL L p).length ≤ (L.drop p.pos).length := (List.takeWhile_sublist _).length_le
  rw [List.length_drop] at this; omega
theorem pWord_len (L : List UInt8) (p : PSt) : (pWord L p).1.length ≤ L.length := by
  have h : (pWordL L p).length ≤ (L.drop p.pos).length := (List.takeWhile_sublist _).length_le
  rw [List.length_drop] at h
  unfold pWord; split <;> simp <;> omega
theorem pWord_pos (L : List UInt8) (p : PSt) (hp : p.pos ≤ L.length) : p.pos ≤ (pWord L p).2.pos ∧ (pWord L p).2.pos ≤ L.length := by
  have := pWordL_le L p hp
  unfold pWord; split <;> (constructor <;> simp <;> omega)
theorem pMust_pos (L t : List UInt8) (p : PSt) (hp : p.pos ≤ L.length) : p.pos ≤ (pMust L t p).pos ∧ (pMust L t p).pos ≤ L.length := by
  unfold pMust
  split
  · rename_i h; have := pTake_le h hp; simp only [pAdv]; omega
  · exact ⟨Nat.le_refl _, hp⟩
mutual
theorem pTerm_pos (L : List UInt8) : ∀ (f : Nat) (p : PSt), p.pos ≤ L.length → p.pos ≤ (pTerm L f p).2.pos ∧ (pTerm L f p).2.pos ≤ L.length
  | 0, p, hp => by rw [pTerm]; exact ⟨Nat.le_refl _, hp⟩
  | f + 1, p, hp => by
    have h1 := pWord_pos L p hp
    rw [pTerm]
    split
    · rename_i ht
      have h2 := pTake_le ht h1.2
      have h3 := pTerm_pos L f (pAdv [40] (pWord L p).2) h2
      have h4 := pArgs_pos L [44] f _ h3.2
      have h5 := pMust_pos L [41] _ h4.2
      simp only [pAdv] at h3 h4 h5 ⊢
      omega
    · exact h1
theorem pArgs_pos (L sep : List UInt8) : ∀ (f : Nat) (p : PSt), p.pos ≤ L.length → p.pos ≤ (pArgs L sep f p).2.pos ∧ (pArgs L sep f p).2.pos ≤ L.length
  | 0, p, hp => by rw [pArgs]; exact ⟨Nat.le_refl _, hp⟩
  | f + 1, p, hp => by
    rw [pArgs]
    split
    · rename_i ht
      have h2 := pTake_le ht hp
      have h3 := pTerm_pos L f (pAdv sep p) h2
      have h4 := pArgs_pos L sep f _ h3.2
      simp only [pAdv] at h3 h4 ⊢
      omega
    · exact ⟨Nat.le_refl _, hp⟩
end
end Go.Proofs.YtcegllnljaapiaaGreat
namespace Go.Proofs.YtcegllnljaapiaaGreat
open Go.RowKit
mutual
def Fm.wt : Fm → Nat | .mk _ a v us => a.wt + v.size + us.length + Fm.wts us
def Fm.wts : List Fm → Nat | [] => 0 | a :: us => a.wt + Fm.wts us
end
end Go.Proofs.YtcegllnljaapiaaGreat
namespace Go.Proofs.YtcegllnljaapiaaGreat
open Go.RowKit
theorem upC_iff (c : UInt8) : upC c = true ↔ ¬ (c.toNat : Int) < 65 ∧ ¬ 90 < (c.toNat : Int) := by
  simp only [upC, Bool.and_eq_true, decide_eq_true_eq]; omega
theorem loC_iff (c : UInt8) : loC c = true ↔ ¬ (c.toNat : Int) < 97 ∧ ¬ 122 < (c.toNat : Int) := by
  simp only [loC, Bool.and_eq_true, decide_eq_true_eq]; omega
theorem varB_eq (s : ByteArray) : varB s.data.toList = (inB (s.size : Int) 1 4 && headTail upC smC s.data.toList) := by
  unfold varB inB; rw [← size_list]
  congr 1
  rw [Bool.eq_iff_iff]; simp; omega
theorem symB_eq (s : ByteArray) : symB s.data.toList = (inB (s.size : Int) 1 6 && headTail loC unC s.data.toList && !keyW.contains s.data.toList) := by
  unfold symB inB; rw [← size_list]
  congr 2
  rw [Bool.eq_iff_iff]; simp; omega
set_option maxHeartbeats 1600000 in
theorem l2Var_any (s : ByteArray) (w : World) (hs : s.size ≤ maxLen) :
    Calls Tryz.prog 174 #[.string s] w fun e w' => e = .returned (.bool (varB s.data.toList)) ∧ w = w' := by
  unfold maxLen at hs
  have HV := Lib.hid (varB_eq s)
  cases hB : inB (s.size : Int) 1 4
  · have HB := Lib.hid hB
    go_enter Tryz.func174, Tryz.ntmps174
    go_wp2_with (first | (go_at_call 86; refine (l1In_any _ _ _ _).mono ?_; rintro e w' ⟨rfl, rfl⟩))
    go_ret
    exact ⟨ret_bool (by rw [HV.out, HB.out]; rfl), rfl⟩
  · have HB := Lib.hid hB
    have hsz : 0 < s.size := by simp only [inB, Bool.and_eq_true, decide_eq_true_eq] at hB; omega
    have H0 := Lib.hid (headTail_take upC smC s 0 hsz)
    have HN0 := Lib.hid (headTail_no upC smC s 0 hsz)
    cases hU : upC s[0]
    · have HU := Lib.hid hU
      have hor : (s[0].toNat : Int) < 65 ∨ 90 < (s[0].toNat : Int) := by
        have := (not_congr (upC_iff s[0])).1 (by rw [hU]; simp)
        omega
      rcases hor with h1 | h1
      · go_enter Tryz.func174, Tryz.ntmps174
        go_wp2_with (first | (go_at_call 86; refine (l1In_any _ _ _ _).mono ?_; rintro e w' ⟨rfl, rfl⟩))
        go_ret
        exact ⟨ret_bool (by rw [HV.out, HN0.out (by simpa using HU.out)]; simp), rfl⟩
      · have h2 : ¬ (s[0].toNat : Int) < 65 := by omega
        go_enter Tryz.func174, Tryz.ntmps174
        go_wp2_with (first | (go_at_call 86; refine (l1In_any _ _ _ _).mono ?_; rintro e w' ⟨rfl, rfl⟩))
        go_ret
        exact ⟨ret_bool (by rw [HV.out, HN0.out (by simpa using HU.out)]; simp), rfl⟩
    · have HU := Lib.hid hU
      obtain ⟨h1, h2⟩ := (upC_iff s[0]).1 hU
      go_enter Tryz.func174, Tryz.ntmps174
      go_wp2_with (first | (go_at_call 86; refine (l1In_any _ _ _ _).mono ?_; rintro e w' ⟨rfl, rfl⟩))
      go_loop [3] (fun i => ∃ k : Nat, 1 ≤ k ∧ k ≤ s.size ∧ i = .int .i64 k ∧ headTail upC smC (s.data.toList.take k) = true) (fun i => s.size - (intOf i).toNat)
      case atStart => exact ⟨1, by omega, by omega, rfl, by rw [H0.out]; simp [HU.out, headTail]⟩
      case round =>
        obtain ⟨k, hk1, hk, rfl, hp⟩ := hrel
        have HP := Lib.hid hp; clear hp
        by_cases hlt : k < s.size
        · have HT := Lib.hid (headTail_take upC smC s k hlt)
          have HN := Lib.hid (headTail_no upC smC s k hlt)
          have hk0 : ¬ k = 0 := by omega
          cases hL : smC s[k]
          all_goals
            have HL := Lib.hid hL
            go_wp2_with (first | (go_at_call 87; refine (l2Small_any _ _).mono ?_; rintro e w' ⟨rfl, rfl⟩))
          · go_ret
            exact ⟨ret_bool (by rw [HV.out, HN.out (by rw [if_neg hk0, HL.out])]; simp), rfl⟩
          · refine ⟨⟨k + 1, by omega, by omega, by go_num, ?_⟩, by simp [intOf]; omega⟩
            rw [HT.out, HP.out, if_neg hk0, HL.out]; rfl
        · go_wp2
          go_ret
          exact ⟨ret_bool (by have := HP.out; rw [take_all _ _ (by omega)] at this; rw [HV.out, this, HB.out]; rfl), rfl⟩
/-- The switch over the keywords, as the walk spells its tests. -/
theorem key_no {s : ByteArray} (h : keyW.contains s.data.toList = false) : ∀ l ∈ keyW, (s.toList == l) = false := by
  intro l hl
  rw [beq_eq_false_iff_ne, ByteArray.toList_eq]
  rintro rfl
  rw [← Bool.not_eq_true, List.contains_iff_mem] at h
  exact h hl
theorem key_yes {s : ByteArray} (h : keyW.contains s.data.toList = true) : s.toList ∈ keyW := by
  rw [ByteArray.toList_eq]; exact List.contains_iff_mem.1 h
set_option maxHeartbeats 1600000 in
theorem l2Symbol_any (s : ByteArray) (w : World) (hs : s.size ≤ maxLen) :
    Calls Tryz.prog 42 #[.string s] w fun e w' => e = .returned (.bool (symB s.data.toList)) ∧ w = w' := by
  unfold maxLen at hs
  have HV := Lib.hid (symB_eq s)
  cases hB : inB (s.size : Int) 1 6
  · have HB := Lib.hid hB
    go_enter Tryz.func42, Tryz.ntmps42
    go_wp2_with (first | (go_at_call 86; refine (l1In_any _ _ _ _).mono ?_; rintro e w' ⟨rfl, rfl⟩))
    go_ret
    exact ⟨ret_bool (by rw [HV.out, HB.out]; rfl), rfl⟩
  · have HB := Lib.hid hB
    have hsz : 0 < s.size := by simp only [inB, Bool.and_eq_true, decide_eq_true_eq] at hB; omega
    have H0 := Lib.hid (headTail_take loC unC s 0 hsz)
    have HN0 := Lib.hid (headTail_no loC unC s 0 hsz)
    cases hU : loC s[0]
    · have HU := Lib.hid hU
      have hor : (s[0].toNat : Int) < 97 ∨ 122 < (s[0].toNat : Int) := by
        have := (not_congr (loC_iff s[0])).1 (by rw [hU]; simp)
        omega
      rcases hor with h1 | h1
      · go_enter Tryz.func42, Tryz.ntmps42
        go_wp2_with (first | (go_at_call 86; refine (l1In_any _ _ _ _).mono ?_; rintro e w' ⟨rfl, rfl⟩))
        go_ret
        exact ⟨ret_bool (by rw [HV.out, HN0.out (by simpa using HU.out)]; simp), rfl⟩
      · have h2 : ¬ (s[0].toNat : Int) < 97 := by omega
        go_enter Tryz.func42, Tryz.ntmps42
        go_wp2_with (first | (go_at_call 86; refine (l1In_any _ _ _ _).mono ?_; rintro e w' ⟨rfl, rfl⟩))
        go_ret
        exact ⟨ret_bool (by rw [HV.out, HN0.out (by simpa using HU.out)]; simp), rfl⟩
    · have HU := Lib.hid hU
      obtain ⟨h1, h2⟩ := (loC_iff s[0]).1 hU
      cases hK : keyW.contains s.data.toList
      · have HK := Lib.hid hK
        have k0 : (s.toList == [116, 114, 117, 101]) = false := key_no HK.out _ (by decide)
        have k1 : (s.toList == [102, 97, 108, 115, 101]) = false := key_no HK.out _ (by decide)
        have k2 : (s.toList == [116, 114, 117, 116, 104]) = false := key_no HK.out _ (by decide)
        have k3 : (s.toList == [98, 111, 116, 104]) = false := key_no HK.out _ (by decide)
        have k4 : (s.toList == [101, 105, 116, 104, 101, 114]) = false := key_no HK.out _ (by decide)
        have k5 : (s.toList == [105, 102]) = false := key_no HK.out _ (by decide)
        have k6 : (s.toList == [97, 108, 108]) = false := key_no HK.out _ (by decide)
        have k7 : (s.toList == [115, 111, 109, 101]) = false := key_no HK.out _ (by decide)
        go_enter Tryz.func42, Tryz.ntmps42
        go_wp2_with (first | (go_at_call 86; refine (l1In_any _ _ _ _).mono ?_; rintro e w' ⟨rfl, rfl⟩))
        go_loop [3] (fun i => ∃ k : Nat, 1 ≤ k ∧ k ≤ s.size ∧ i = .int .i64 k ∧ headTail loC unC (s.data.toList.take k) = true) (fun i => s.size - (intOf i).toNat)
        case atStart => exact ⟨1, by omega, by omega, rfl, by rw [H0.out]; simp [HU.out, headTail]⟩
        case round =>
          obtain ⟨k, hk1, hk, rfl, hp⟩ := hrel
          have HP := Lib.hid hp; clear hp
          by_cases hlt : k < s.size
          · have HT := Lib.hid (headTail_take loC unC s k hlt)
            have HN := Lib.hid (headTail_no loC unC s k hlt)
            have hk0 : ¬ k = 0 := by omega
            have HUN := Lib.hid (show unC s[k] = (smC s[k] || (s[k] == 95)) from rfl)
            cases hL : smC s[k]
            · have HL := Lib.hid hL
              by_cases h9 : s[k] = 95
              · have H9 := Lib.hid h9
                have h91 : ((s[k].toNat : Int) != 95) = false := by rw [h9]; rfl
                clear h9
                go_wp2_with (first | (go_at_call 87; refine (l2Small_any _ _).mono ?_; rintro e w' ⟨rfl, rfl⟩))
                refine ⟨⟨k + 1, by omega, by omega, by go_num, ?_⟩, by simp [intOf]; omega⟩
                rw [HT.out, HP.out, if_neg hk0, HUN.out, H9.out]; rfl
              · have H9 := Lib.hid (show (s[k] == 95) = false by simpa using h9)
                have h91 : ((s[k].toNat : Int) != 95) = true := by
                  have h9n : ¬ (s[k].toNat : Int) = 95 := fun e => h9 (UInt8.toNat_inj.1 (show s[k].toNat = 95 by omega))
                  simpa using h9n
                clear h9
                go_wp2_with (first | (go_at_call 87; refine (l2Small_any _ _).mono ?_; rintro e w' ⟨rfl, rfl⟩))
                go_ret
                exact ⟨ret_bool (by rw [HV.out, HN.out (by rw [if_neg hk0, HUN.out, HL.out, H9.out]; rfl)]; simp), rfl⟩
            · have HL := Lib.hid hL
              go_wp2_with (first | (go_at_call 87; refine (l2Small_any _ _).mono ?_; rintro e w' ⟨rfl, rfl⟩))
              refine ⟨⟨k + 1, by omega, by omega, by go_num, ?_⟩, by simp [intOf]; omega⟩
              rw [HT.out, HP.out, if_neg hk0, HUN.out, HL.out]; rfl
          · go_wp2
            go_ret
            exact ⟨ret_bool (by have := HP.out; rw [take_all _ _ (by omega)] at this; rw [HV.out, this, HB.out, HK.out]; rfl), rfl⟩
      · have HK := Lib.hid hK
        have hmem := key_yes hK
        simp only [keyW, List.mem_cons, List.not_mem_nil, or_false] at hmem
        rcases hmem with h | h | h | h | h | h | h | h
        all_goals
          go_enter Tryz.func42, Tryz.ntmps42
          go_wp2_with (first | (go_at_call 86; refine (l1In_any _ _ _ _).mono ?_; rintro e w' ⟨rfl, rfl⟩))
          go_ret
          exact ⟨ret_bool (by rw [HV.out, HK.out]; simp), rfl⟩
end Go.Proofs.YtcegllnljaapiaaGreat
