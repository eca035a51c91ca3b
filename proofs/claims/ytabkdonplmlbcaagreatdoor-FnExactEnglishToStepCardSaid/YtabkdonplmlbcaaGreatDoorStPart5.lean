import Derived.Laws.OwnMore
import Derived.Laws.Bits64b
import Derived.Test.YtabkdonplmlbcaaGreatDoorStPart4
namespace Go.Proofs.YtabkdonplmlbcaaGreatDoor
open Go.RowKit
inductive FormC : Fm → Prop
 | tru : FormC (opF 1 [])
 | fal : FormC (opF 2 [])
 | atm (a : Tm) : a.atom = true → FormC (atomOfF a)
 | neg (g : Fm) : g.form = true → FormC (opF 4 [g])
 | bin (op : Int) (g h : Fm) : (op = 5 ∨ op = 6 ∨ op = 7) → g.form = true → h.form = true → FormC (opF op [g, h])
 | qua (op : Int) (v : List UInt8) (g : Fm) : (op = 8 ∨ op = 9) → varB v = true → g.form = true → FormC (quantF op v g)
theorem ba_nil {v : ByteArray} (h : v.data.toList.isEmpty = true) : v = ⟨#[]⟩ := by
 apply ByteArray.ext; apply Array.ext'; simpa using h
theorem ba_eq (v : ByteArray) : (⟨v.data.toList.toArray⟩ : ByteArray) = v := by apply ByteArray.ext; simp
theorem tm_none {a : Tm} (h : a.none = true) : a = tm0 := by
 obtain ⟨n, us⟩ := a
 simp only [Tm.none, Bool.and_eq_true] at h
 have h1 : n = ⟨#[]⟩ := ba_nil h.1
 have h2 : us = [] := by simpa [Tm.us] using h.2
 rw [h1, h2]; rfl
theorem len_one {α : Type} {l : List α} (h : l.length = 1) : ∃ a, l = [a] := by
 match l, h with
 | [a], _ => exact ⟨a, rfl⟩
theorem len_two {α : Type} {l : List α} (h : l.length = 2) : ∃ a b, l = [a, b] := by
 match l, h with
 | [a, b], _ => exact ⟨a, b, rfl⟩
theorem form_cases {F : Fm} (h : F.form = true) : FormC F := by
 obtain ⟨op, a, v, ps⟩ := F
 rw [Fm.form, Bool.and_eq_true] at h
 obtain ⟨h1, h2⟩ := h
 simp only [Fm.form1, Fm.op, Fm.ps, Fm.v, Fm.a, Bool.and_eq_true, beq_iff_eq] at h1
 obtain ⟨⟨h3, h4⟩, h5⟩ := h1
 unfold arity at h3
 split at h3
 ·rename_i ho
  have hp : ps = [] := List.length_eq_zero_iff.1 (Option.some.inj h3).symm
  subst hp
  have h4' : v.data.toList.isEmpty = true := by rcases ho with rfl | rfl | rfl <;> exact h4
  have hv := ba_nil h4'
  subst hv
  rcases ho with rfl | rfl | rfl
  ·have h6 : a.none = true := h5
   rw [tm_none h6]; exact .tru
  ·have h6 : a.none = true := h5
   rw [tm_none h6]; exact .fal
  ·exact .atm a h5
 ·split at h3
  ·rename_i ho
   obtain ⟨g, rfl⟩ : ∃ g, ps = [g] := len_one (Option.some.inj h3).symm
   have hg : g.form = true := by simpa [Fm.forms] using h2
   have h5' : a.none = true := by rcases ho with rfl | rfl | rfl <;> exact h5
   rw [tm_none h5']
   rcases ho with rfl | ho
   ·have h6 : v.data.toList.isEmpty = true := h4
    rw [ba_nil h6]; exact .neg g hg
   ·have h4' : varB v.data.toList = true := by rcases ho with rfl | rfl <;> exact h4
    have := FormC.qua op v.data.toList g ho h4' hg
    rw [quantF, ba_eq] at this; exact this
  ·split at h3
   ·rename_i ho
    obtain ⟨g, g', rfl⟩ : ∃ g g', ps = [g, g'] := len_two (Option.some.inj h3).symm
    have hg : g.form = true ∧ g'.form = true := by simpa [Fm.forms] using h2
    have h5' : a.none = true := by rcases ho with rfl | rfl | rfl <;> exact h5
    have h4' : v.data.toList.isEmpty = true := by rcases ho with rfl | rfl | rfl <;> exact h4
    rw [tm_none h5', ba_nil h4']; exact .bin op g g' ho hg.1 hg.2
   ·cases h3
inductive GoodR : List UInt8 → Prop
 | nil : GoodR []
 | and (R : List UInt8) : GoodR (sAnd ++ R)
 | or (R : List UInt8) : GoodR (sOr ++ R)
 | thn (R : List UInt8) : GoodR (sThen ++ R)
 | dot (R : List UInt8) : GoodR (46 :: R)
theorem GoodR.stop {R : List UInt8} (h : GoodR R) : stopC R := by
 intro c hc
 cases h with
 | nil => simp at hc
 | and R => have : c = 32 := by simpa [sAnd] using hc.symm
            subst this; decide
 | or R => have : c = 32 := by simpa [sOr] using hc.symm
           subst this; decide
 | thn R => have : c = 32 := by simpa [sThen] using hc.symm
            subst this; decide
 | dot R => have : c = 46 := by simpa using hc.symm
            subst this; decide
theorem GoodR.no {R : List UInt8} (h : GoodR R) : sComma.isPrefixOf R = false ∧ ([32, 111, 102, 32] : List UInt8).isPrefixOf R = false := by
 cases h with
 | nil => exact ⟨rfl, rfl⟩
 | and R => exact ⟨rfl, rfl⟩
 | or R => exact ⟨rfl, rfl⟩
 | thn R => exact ⟨rfl, rfl⟩
 | dot R => exact ⟨rfl, rfl⟩
inductive BehindW : List UInt8 → Prop
 | open_ (X : List UInt8) : BehindW (40 :: X)
 | equals (X : List UInt8) : BehindW (sEquals ++ X)
 | holds (X : List UInt8) : BehindW (sHolds ++ X)
theorem BehindW.stop {X : List UInt8} (h : BehindW X) : ∀ c, X.head? = some c → wordC c = false := by
 intro c hc
 cases h with
 | open_ X => have : c = 40 := by simpa using hc.symm
              subst this; decide
 | equals X => have : c = 32 := by simpa [sEquals] using hc.symm
               subst this; decide
 | holds X => have : c = 32 := by simpa [sHolds] using hc.symm
              subst this; decide
theorem varB_head {l : List UInt8} (h : varB l = true) : ∃ c r, l = c :: r ∧ upC c = true := by
 simp only [varB, Bool.and_eq_true, decide_eq_true_eq] at h
 cases l with
 | nil => simp at h
 | cons c r => exact ⟨c, r, rfl, by have := h.2; simp only [headTail, Bool.and_eq_true] at this; exact this.1⟩
theorem kw_no {n X w rest : List UInt8} (hn : n.all wordC = true) (hX : BehindW X) (hw : w.all wordC = true) (hno : n ≠ w ∨ (32 :: rest).isPrefixOf X = false) : (w ++ 32 :: rest).isPrefixOf (n ++ X) = false := by
 rw [Bool.eq_false_iff]
 intro h
 rw [List.isPrefixOf_iff_prefix] at h
 obtain ⟨T, hT⟩ := h
 have e1 : (n ++ X).takeWhile wordC = n := takeWhile_app hn hX.stop
 have e2 : (w ++ (32 :: (rest ++ T))).takeWhile wordC = w := takeWhile_app hw (fun c hc => by simp at hc; subst hc; decide)
 have e3 : w ++ (32 :: (rest ++ T)) = n ++ X := by rw [← hT]; simp
 rw [e3, e1] at e2
 rcases hno with hno | hno
 ·exact hno e2
 ·subst e2
  have e4 := List.append_cancel_left e3
  rw [← e4] at hno
  have := isPrefixOf_app (32 :: rest) T
  rw [List.cons_append] at this
  rw [this] at hno
  cases hno
def noKw (T : List UInt8) : Prop := ∀ k ∈ [sTruth, sFalsity, sNot, sBoth, sEither, sIf, sEvery, sThere], k.isPrefixOf T = false
theorem kw_word {n : List UInt8} (h : varB n = true ∨ symB n = true) : n ∉ [[116, 114, 117, 116, 104], [98, 111, 116, 104], [101, 105, 116, 104, 101, 114], [105, 102], [102, 97, 108, 115, 105, 116, 121]] := by
 rcases h with h | h
 ·obtain ⟨c, r, rfl, hc⟩ := varB_head h
  simp only [List.mem_cons, List.cons.injEq, List.not_mem_nil, or_false]
  rintro (⟨rfl, -⟩ | ⟨rfl, -⟩ | ⟨rfl, -⟩ | ⟨rfl, -⟩ | ⟨rfl, -⟩) <;> simp [upC] at hc
 ·simp only [symB, Bool.and_eq_true, decide_eq_true_eq, Bool.not_eq_true'] at h
  obtain ⟨⟨⟨h1, h2⟩, h3⟩, h4⟩ := h
  simp only [List.mem_cons, List.not_mem_nil, or_false]
  rintro (rfl | rfl | rfl | rfl | rfl)
  ·exact absurd h4 (by decide)
  ·exact absurd h4 (by decide)
  ·exact absurd h4 (by decide)
  ·exact absurd h4 (by decide)
  ·simp at h2
theorem behind_no {X : List UInt8} (h : BehindW X) : ([32, 105, 115, 32] : List UInt8).isPrefixOf X = false ∧ ([32, 101, 118, 101, 114, 121, 32] : List UInt8).isPrefixOf X = false ∧ ([32, 105, 115, 32, 110, 111, 116, 32, 116, 104, 101, 32, 99, 97, 115, 101, 32, 116, 104, 97, 116, 32] : List UInt8).isPrefixOf X = false := by
 cases h with
 | open_ X => exact ⟨rfl, rfl, rfl⟩
 | equals X => exact ⟨rfl, rfl, rfl⟩
 | holds X => exact ⟨rfl, rfl, rfl⟩
theorem noKw_word {n X : List UInt8} (h : varB n = true ∨ symB n = true) (hX : BehindW X) : noKw (n ++ X) := by
 have hn : n.all wordC = true := by rcases h with h | h; exact (varB_word h).1; exact (symB_word h).1
 have hk := kw_word h
 simp only [List.mem_cons, List.not_mem_nil, or_false, not_or] at hk
 have hb := behind_no hX
 intro k hk'
 simp only [List.mem_cons, List.not_mem_nil, or_false] at hk'
 rcases hk' with rfl | rfl | rfl | rfl | rfl | rfl | rfl | rfl
 ·exact kw_no (w := [116, 114, 117, 116, 104]) hn hX (by decide) (.inl hk.1)
 ·exact kw_no (w := [102, 97, 108, 115, 105, 116, 121]) hn hX (by decide) (.inl hk.2.2.2.2)
 ·exact kw_no (w := [105, 116]) hn hX (by decide) (.inr hb.2.2)
 ·exact kw_no (w := [98, 111, 116, 104]) hn hX (by decide) (.inl hk.2.1)
 ·exact kw_no (w := [101, 105, 116, 104, 101, 114]) hn hX (by decide) (.inl hk.2.2.1)
 ·exact kw_no (w := [105, 102]) hn hX (by decide) (.inl hk.2.2.2.1)
 ·exact kw_no (w := [102, 111, 114]) hn hX (by decide) (.inr hb.2.1)
 ·exact kw_no (w := [116, 104, 101, 114, 101]) hn hX (by decide) (.inr hb.1)
theorem nodes_name {n : ByteArray} {us : List Tm} (h : (Tm.mk n us).nodes = true) : varB n.data.toList = true ∨ symB n.data.toList = true := by
 rw [Tm.nodes] at h
 split at h
 ·exact .inl ‹_›
 ·simp only [Bool.and_eq_true] at h; exact .inr h.1.1
inductive AtomC : Tm → Prop
 | eq (a b : Tm) : a.nodes = true → b.nodes = true → AtomC (eqTm a b)
 | pred (n : ByteArray) (us : List Tm) : symB n.data.toList = true → Tm.nodess us = true → (Tm.mk n us).nodes = true → AtomC (.mk n us)
theorem symB_notVar {l : List UInt8} (h : symB l = true) : varB l = false := by
 rw [Bool.eq_false_iff]
 intro hv
 obtain ⟨c, r, rfl, hc⟩ := varB_head hv
 simp only [symB, headTail, Bool.and_eq_true, decide_eq_true_eq, loC, upC] at h hc
 omega
theorem atom_cases {t : Tm} (h : t.atom = true) : AtomC t := by
 obtain ⟨n, us⟩ := t
 rw [Tm.atom] at h
 split at h
 ·rename_i hq
  simp only [Bool.and_eq_true, decide_eq_true_eq] at h
  have hus : us.length = 2 := h.1.1
  obtain ⟨a, b, rfl⟩ := len_two hus
  have hn : n = ⟨#[61]⟩ := by
   apply ByteArray.ext; apply Array.ext'
   simpa [isEq, Tm.n] using hq
  subst hn
  have this : Tm.nodess [a, b] = true := h.2
  simp only [Tm.nodess, Bool.and_eq_true, Bool.and_true] at this
  exact .eq a b this.1 this.2
 ·simp only [Bool.and_eq_true, Tm.good, Tm.n] at h
  have hs := h.1
  have hd := h.2.2
  refine .pred n us hs ?_ hd
  exact (Tm.nodes_mk hd).2
theorem eng_eq (a b : Tm) : (eqTm a b).eng = a.fmt ++ sEquals ++ b.fmt := by
 rw [eqTm, Tm.eng, if_pos (by rfl)]; rfl
theorem eng_pred {n : ByteArray} {us : List Tm} (h : symB n.data.toList = true) : (Tm.mk n us).eng = if us.isEmpty then n.data.toList ++ sHolds else n.data.toList ++ sHoldsOf ++ joinB sComma (Tm.fmtL us) := by
 rw [Tm.eng, if_neg (show ¬ (Tm.mk n us).n.data.toList = [61] from word_not61 (symB_word h))]; rfl
theorem fmt_split {t : Tm} (h : t.nodes = true) (R : List UInt8) : ∃ n X, (varB n = true ∨ symB n = true) ∧ t.fmt ++ R = n ++ X ∧ ((∃ Y, X = 40 :: Y) ∨ X = R) := by
 obtain ⟨n, us⟩ := t
 have h1 := Tm.nodes_mk h
 rw [Tm.fmt_mk (word_not61 h1.1)]
 split
 ·exact ⟨_, R, nodes_name h, rfl, .inr rfl⟩
 ·exact ⟨_, 40 :: (joinB [44] (Tm.fmtL us) ++ ([41] ++ R)), nodes_name h, by simp [List.append_assoc], .inl ⟨_, rfl⟩⟩
theorem atom_noKw {t : Tm} (h : t.atom = true) (R : List UInt8) : noKw (t.eng ++ R) := by
 cases atom_cases h with
 | eq a b ha hb =>
  rw [eng_eq, List.append_assoc, List.append_assoc]
  obtain ⟨n, X, hn, he, hX⟩ := fmt_split ha (sEquals ++ (b.fmt ++ R))
  rw [he]
  refine noKw_word hn ?_
  rcases hX with ⟨Y, rfl⟩ | rfl
  ·exact .open_ _
  ·exact .equals _
 | pred n us hs hu hd =>
  rw [eng_pred hs]
  split
  ·rw [List.append_assoc]; exact noKw_word (.inr hs) (.holds _)
  ·rw [List.append_assoc, List.append_assoc]; exact noKw_word (.inr hs) (.holds ([32, 111, 102, 32] ++ (joinB sComma (Tm.fmtL us) ++ R)))
theorem pTake_no {L t T : List UInt8} {k : Nat} (h : L.drop k = T) (hp : t.isPrefixOf T = false) : pTake L t ⟨k, false⟩ = false := by simp [pTake, h, hp]
theorem symB_nodes0 {n : ByteArray} (h : symB n.data.toList = true) : (Tm.mk n []).nodes = true := by
 rw [Tm.nodes, if_neg (by simp [symB_notVar h])]; simp [h, Tm.nodess]
theorem symB_fmt0 {n : ByteArray} (h : symB n.data.toList = true) : (Tm.mk n []).fmt = n.data.toList := by
 rw [Tm.fmt_mk (word_not61 (symB_word h)), if_pos (by rfl)]
theorem pAtom_ok {L : List UInt8} {f : Nat} {t : Tm} {k : Nat} {R : List UInt8} (ht : t.atom = true) (hL : L.drop k = t.eng ++ R) (hR : GoodR R) (hf : t.eng.length < f) : pAtom L f ⟨k, false⟩ = (atomOfF t, ⟨k + t.eng.length, false⟩) := by
 cases atom_cases ht with
 | eq a b ha hb =>
  rw [eng_eq] at hL hf ⊢
  have e0 : L.drop k = a.fmt ++ (sEquals ++ (b.fmt ++ R)) := by rw [hL]; simp [List.append_assoc]
  have e1 := drop_adv e0
  have e2 := drop_adv e1
  simp only [List.length_append] at hf
  have h1 := pTerm_ok f a _ _ ha e0 (by intro c hc; simp [sEquals] at hc; subst hc; decide) (by omega)
  have h2 := pTerm_ok f b _ _ hb e2 hR.stop (by omega)
  rw [pAtom, h1, if_pos (pTake_yes e1)]
  simp only [pAdv] at h2 ⊢
  rw [h2]
  refine Prod.ext rfl ?_
  show PSt.mk _ _ = PSt.mk _ _
  congr 1
  simp only [List.length_append]; omega
 | pred n us hs hu hd =>
  have h0 := symB_nodes0 hs
  have hm := symB_fmt0 hs
  rw [eng_pred hs] at hL hf ⊢
  cases us with
  | nil =>
   rw [if_pos (show ([] : List Tm).isEmpty = true from rfl)] at hL hf ⊢
   have e0 : L.drop k = (Tm.mk n []).fmt ++ (sHolds ++ R) := by rw [hL, hm]; simp [List.append_assoc]
   have e1 := drop_adv e0
   simp only [List.length_append] at hf
   have h1 := pTerm_ok f _ _ _ h0 e0 (by intro c hc; simp [sHolds] at hc; subst hc; decide) (by rw [hm]; omega)
   rw [pAtom, h1, if_neg (by rw [pTake_no e1 rfl]; simp), if_neg (by
    rw [pTake_no e1 ?_]; simp
    have := hR.no.2
    simpa [sHoldsOf, sHolds] using this), pMust_yes e1, hm]
   refine Prod.ext rfl ?_
   show PSt.mk _ _ = PSt.mk _ _
   congr 1
   simp only [List.length_append]; omega
  | cons a us =>
   rw [if_neg (by simp), joinB_cons] at hL hf ⊢
   have hau : a.nodes = true ∧ Tm.nodess us = true := by simpa [Tm.nodess] using hu
   have e0 : L.drop k = (Tm.mk n []).fmt ++ (sHoldsOf ++ (a.fmt ++ (sepAll sComma us ++ R))) := by rw [hL, hm]; simp [List.append_assoc]
   have e1 := drop_adv e0
   have e2 := drop_adv e1
   have e3 := drop_adv e2
   simp only [List.length_append] at hf
   have sc : stopC sComma := by intro c hc; simp [sComma] at hc; subst hc; decide
   have h1 := pTerm_ok f _ _ _ h0 e0 (by intro c hc; simp [sHoldsOf] at hc; subst hc; decide) (by rw [hm]; omega)
   have h2 := pTerm_ok f a _ _ hau.1 e2 (stop_sep sc (by decide) hR.stop) (by omega)
   have h3 := pArgs_ok f sComma us _ R hau.2 e3 sc (by decide) hR.stop hR.no.1 (by omega)
   rw [pAtom, h1, if_neg (by rw [pTake_no e1 rfl]; simp), if_pos (pTake_yes e1)]
   simp only [pAdv] at h2 h3 ⊢
   rw [h2, h3]
   refine Prod.ext rfl ?_
   show PSt.mk _ _ = PSt.mk _ _
   congr 1
   rw [hm]
   simp only [List.length_append]; omega
theorem pEng_atom {L : List UInt8} {f k : Nat} {T : List UInt8} (h : L.drop k = T) (hn : noKw T) : pEng L (f + 1) ⟨k, false⟩ = pAtom L f ⟨k, false⟩ := by
 have hh : ∀ kw ∈ [sTruth, sFalsity, sNot, sBoth, sEither, sIf, sEvery, sThere], pTake L kw ⟨k, false⟩ = false := fun kw hk => pTake_no h (hn kw hk)
 simp only [List.mem_cons, List.not_mem_nil, or_false, forall_eq_or_imp, forall_eq] at hh
 obtain ⟨h1, h2, h3, h4, h5, h6, h7, h8⟩ := hh
 rw [pEng]
 simp only [h1, h2, h3, h4, h5, h6, h7, h8]
 rfl
theorem noKw_head {L : List UInt8} {k : Nat} {c : UInt8} {T : List UInt8} (h : L.drop k = c :: T) {kw : List UInt8} {d : UInt8} {r : List UInt8} (he : kw = d :: r) (hd : d ≠ c) : pTake L kw ⟨k, false⟩ = false := by
 subst he; simp [pTake, h, List.isPrefixOf, hd]
theorem pEng_ok {L : List UInt8} : ∀ (f : Nat) (F : Fm) (k : Nat) (R : List UInt8), F.form = true → L.drop k = F.eng ++ R → GoodR R → F.eng.length + 1 < f → pEng L f ⟨k, false⟩ = (F, ⟨k + F.eng.length, false⟩)
 | 0, _, _, _, _, _, _, h => absurd h (by omega)
 | f + 1, F, k, R, hF, hL, hR, hf => by
  cases form_cases hF with
  | tru =>
   have e : (opF 1 []).eng = sTruth := by rw [opF, Fm.eng]; rfl
   rw [e] at hL ⊢
   rw [pEng]
   simp only [pTake_yes hL, if_true]
   rfl
  | fal =>
   have e : (opF 2 []).eng = sFalsity := by rw [opF, Fm.eng]; rfl
   rw [e] at hL ⊢
   rw [pEng]
   have h1 : pTake L sTruth ⟨k, false⟩ = false := noKw_head (c := 102) (T := sFalsity.tail ++ R) hL (d := 116) rfl (by decide)
   simp only [h1, pTake_yes hL, if_true]
   rfl
  | atm a ha =>
   have e : (atomOfF a).eng = a.eng := by rw [atomOfF, Fm.eng]; rfl
   rw [e] at hL hf ⊢
   rw [pEng_atom hL (atom_noKw ha R)]
   exact pAtom_ok ha hL hR (by omega)
  | neg g hg =>
   have e : (opF 4 [g]).eng = sNot ++ g.eng := by rw [opF, Fm.eng]; rfl
   rw [e] at hL hf ⊢
   have e0 : L.drop k = sNot ++ (g.eng ++ R) := by rw [hL, List.append_assoc]
   have e1 := drop_adv e0
   rw [List.length_append] at hf
   have hn : sNot.length = 24 := rfl
   have h1 := pEng_ok f g _ R hg e1 hR (by omega)
   have n1 : pTake L sTruth ⟨k, false⟩ = false := noKw_head (c := 105) e0 (d := 116) rfl (by decide)
   have n2 : pTake L sFalsity ⟨k, false⟩ = false := noKw_head (c := 105) e0 (d := 102) rfl (by decide)
   rw [pEng]
   simp only [n1, n2, pTake_yes e0, if_true, Bool.false_eq_true, if_false, pAdv]
   rw [h1]
   refine Prod.ext rfl ?_
   show PSt.mk _ _ = PSt.mk _ _
   congr 1
   rw [List.length_append]; omega
  | bin op g h ho hg hh =>
   obtain ⟨kw, md, e, hkm⟩ : ∃ kw md, (opF op [g, h]).eng = kw ++ g.eng ++ md ++ h.eng ∧ ((op = 5 ∧ kw = sBoth ∧ md = sAnd) ∨ (op = 6 ∧ kw = sEither ∧ md = sOr) ∨ (op = 7 ∧ kw = sIf ∧ md = sThen)) := by
    rcases ho with rfl | rfl | rfl
    ·exact ⟨sBoth, sAnd, by rw [opF, Fm.eng]; rfl, .inl ⟨rfl, rfl, rfl⟩⟩
    ·exact ⟨sEither, sOr, by rw [opF, Fm.eng]; rfl, .inr (.inl ⟨rfl, rfl, rfl⟩)⟩
    ·exact ⟨sIf, sThen, by rw [opF, Fm.eng]; rfl, .inr (.inr ⟨rfl, rfl, rfl⟩)⟩
   rw [e] at hL hf ⊢
   have e0 : L.drop k = kw ++ (g.eng ++ (md ++ (h.eng ++ R))) := by rw [hL]; simp [List.append_assoc]
   have e1 := drop_adv e0
   have e2 := drop_adv e1
   have e3 := drop_adv e2
   have hk : 0 < kw.length ∧ 0 < md.length := by rcases hkm with ⟨_, rfl, rfl⟩ | ⟨_, rfl, rfl⟩ | ⟨_, rfl, rfl⟩ <;> decide
   have hmd : GoodR (md ++ (h.eng ++ R)) := by
    rcases hkm with ⟨_, rfl, rfl⟩ | ⟨_, rfl, rfl⟩ | ⟨_, rfl, rfl⟩
    ·exact .and _
    ·exact .or _
    ·exact .thn _
   simp only [List.length_append] at hf
   have h1 := pEng_ok f g _ _ hg e1 hmd (by omega)
   have h2 := pEng_ok f h _ _ hh e3 hR (by omega)
   have h3 := pMust_yes e2
   have hend : ∀ p : PSt, p = ⟨k + kw.length + g.eng.length + md.length + h.eng.length, false⟩ → (opF op [g, h], p) = (opF op [g, h], ⟨k + (kw ++ g.eng ++ md ++ h.eng).length, false⟩) := by
    rintro p rfl
    refine Prod.ext rfl ?_
    show PSt.mk _ _ = PSt.mk _ _
    congr 1
    simp only [List.length_append]; omega
   rcases hkm with ⟨rfl, rfl, rfl⟩ | ⟨rfl, rfl, rfl⟩ | ⟨rfl, rfl, rfl⟩
   ·have n1 : pTake L sTruth ⟨k, false⟩ = false := noKw_head (c := 98) e0 (d := 116) rfl (by decide)
    have n2 : pTake L sFalsity ⟨k, false⟩ = false := noKw_head (c := 98) e0 (d := 102) rfl (by decide)
    have n3 : pTake L sNot ⟨k, false⟩ = false := noKw_head (c := 98) e0 (d := 105) rfl (by decide)
    rw [pEng]
    simp only [n1, n2, n3, pTake_yes e0, if_true, Bool.false_eq_true, if_false, pAdv]
    rw [h1, h3, h2]
    exact hend _ rfl
   ·have n1 : pTake L sTruth ⟨k, false⟩ = false := noKw_head (c := 101) e0 (d := 116) rfl (by decide)
    have n2 : pTake L sFalsity ⟨k, false⟩ = false := noKw_head (c := 101) e0 (d := 102) rfl (by decide)
    have n3 : pTake L sNot ⟨k, false⟩ = false := noKw_head (c := 101) e0 (d := 105) rfl (by decide)
    have n4 : pTake L sBoth ⟨k, false⟩ = false := noKw_head (c := 101) e0 (d := 98) rfl (by decide)
    rw [pEng]
    simp only [n1, n2, n3, n4, pTake_yes e0, if_true, Bool.false_eq_true, if_false, pAdv]
    rw [h1, h3, h2]
    exact hend _ rfl
   ·have n1 : pTake L sTruth ⟨k, false⟩ = false := noKw_head (c := 105) e0 (d := 116) rfl (by decide)
    have n2 : pTake L sFalsity ⟨k, false⟩ = false := noKw_head (c := 105) e0 (d := 102) rfl (by decide)
    have n3 : pTake L sNot ⟨k, false⟩ = false := pTake_no e0 rfl
    have n4 : pTake L sBoth ⟨k, false⟩ = false := noKw_head (c := 105) e0 (d := 98) rfl (by decide)
    have n5 : pTake L sEither ⟨k, false⟩ = false := noKw_head (c := 105) e0 (d := 101) rfl (by decide)
    rw [pEng]
    simp only [n1, n2, n3, n4, n5, pTake_yes e0, if_true, Bool.false_eq_true, if_false, pAdv]
    rw [h1, h3, h2]
    exact hend _ rfl
  | qua op v g ho hv hg =>
   obtain ⟨kw, md, e, hkm⟩ : ∃ kw md, (quantF op v g).eng = kw ++ v ++ md ++ g.eng ∧ ((op = 8 ∧ kw = sEvery ∧ md = sComma) ∨ (op = 9 ∧ kw = sThere ∧ md = sSuch)) := by
    rcases ho with rfl | rfl
    ·exact ⟨sEvery, sComma, by rw [quantF, Fm.eng]; rfl, .inl ⟨rfl, rfl, rfl⟩⟩
    ·exact ⟨sThere, sSuch, by rw [quantF, Fm.eng]; rfl, .inr ⟨rfl, rfl, rfl⟩⟩
   rw [e] at hL hf ⊢
   have e0 : L.drop k = kw ++ (v ++ (md ++ (g.eng ++ R))) := by rw [hL]; simp [List.append_assoc]
   have e1 := drop_adv e0
   have e2 := drop_adv e1
   have e3 := drop_adv e2
   have hk : 0 < kw.length ∧ 0 < md.length := by rcases hkm with ⟨_, rfl, rfl⟩ | ⟨_, rfl, rfl⟩ <;> decide
   simp only [List.length_append] at hf
   have hw := varB_word hv
   have h1 := pWord_ok e1 hw.1 hw.2 (by
    rcases hkm with ⟨_, rfl, rfl⟩ | ⟨_, rfl, rfl⟩
    ·intro c hc; have : c = 44 := by simpa [sComma] using hc.symm
     subst this; decide
    ·intro c hc; have : c = 32 := by simpa [sSuch] using hc.symm
     subst this; decide)
   have h2 := pEng_ok f g _ _ hg e3 hR (by omega)
   have h3 := pMust_yes e2
   have hend : ∀ p : PSt, p = ⟨k + kw.length + v.length + md.length + g.eng.length, false⟩ → (quantF op v g, p) = (quantF op v g, ⟨k + (kw ++ v ++ md ++ g.eng).length, false⟩) := by
    rintro p rfl
    refine Prod.ext rfl ?_
    show PSt.mk _ _ = PSt.mk _ _
    congr 1
    simp only [List.length_append]; omega
   rcases hkm with ⟨rfl, rfl, rfl⟩ | ⟨rfl, rfl, rfl⟩
   ·have n1 : pTake L sTruth ⟨k, false⟩ = false := noKw_head (c := 102) e0 (d := 116) rfl (by decide)
    have n2 : pTake L sFalsity ⟨k, false⟩ = false := pTake_no e0 rfl
    have n3 : pTake L sNot ⟨k, false⟩ = false := noKw_head (c := 102) e0 (d := 105) rfl (by decide)
    have n4 : pTake L sBoth ⟨k, false⟩ = false := noKw_head (c := 102) e0 (d := 98) rfl (by decide)
    have n5 : pTake L sEither ⟨k, false⟩ = false := noKw_head (c := 102) e0 (d := 101) rfl (by decide)
    have n6 : pTake L sIf ⟨k, false⟩ = false := noKw_head (c := 102) e0 (d := 105) rfl (by decide)
    rw [pEng]
    simp only [n1, n2, n3, n4, n5, n6, pTake_yes e0, if_true, Bool.false_eq_true, if_false, pAdv]
    rw [h1, h3, h2]
    exact hend _ rfl
   ·have n1 : pTake L sTruth ⟨k, false⟩ = false := pTake_no e0 rfl
    have n2 : pTake L sFalsity ⟨k, false⟩ = false := noKw_head (c := 116) e0 (d := 102) rfl (by decide)
    have n3 : pTake L sNot ⟨k, false⟩ = false := noKw_head (c := 116) e0 (d := 105) rfl (by decide)
    have n4 : pTake L sBoth ⟨k, false⟩ = false := noKw_head (c := 116) e0 (d := 98) rfl (by decide)
    have n5 : pTake L sEither ⟨k, false⟩ = false := noKw_head (c := 116) e0 (d := 101) rfl (by decide)
    have n6 : pTake L sIf ⟨k, false⟩ = false := noKw_head (c := 116) e0 (d := 105) rfl (by decide)
    have n7 : pTake L sEvery ⟨k, false⟩ = false := noKw_head (c := 116) e0 (d := 102) rfl (by decide)
    rw [pEng]
    simp only [n1, n2, n3, n4, n5, n6, n7, pTake_yes e0, if_true, Bool.false_eq_true, if_false, pAdv]
    rw [h1, h3, h2]
    exact hend _ rfl
def inB (n a b : Int) : Bool := decide (a ≤ n) && decide (n ≤ b)
theorem within_any (n a b : Int) (w : World) :
  Calls Tryz.prog 40 #[.int .i64 n, .int .i64 a, .int .i64 b] w fun e w' => e = .returned (.bool (inB n a b)) ∧ w = w' := by
 by_cases h1 : a ≤ n <;> by_cases h2 : n ≤ b
 all_goals
  go_enter Tryz.func40, Tryz.ntmps40
  go_wp2
  go_ret
  exact ⟨ret_bool (by simp [inB, h1, h2]), rfl⟩
theorem l1In_any (n a b : Int) (w : World) :
  Calls Tryz.prog 28 #[.int .i64 n, .int .i64 a, .int .i64 b] w fun e w' => e = .returned (.bool (inB n a b)) ∧ w = w' := by
 by_cases h1 : a ≤ n <;> by_cases h2 : n ≤ b
 all_goals
  go_enter Tryz.func28, Tryz.ntmps28
  go_wp2
  go_ret
  exact ⟨ret_bool (by simp [inB, h1, h2]), rfl⟩
def digB (d : Nat) : UInt8 := UInt8.ofNat (48 + d)
theorem itoa_small (n : Int) (h0 : 0 ≤ n) (h : n < 10) : Lib.itoa n = [digB n.toNat] := by
 rw [Lib.itoa, if_neg (by omega), Lib.decDigits, dif_pos (by omega)]; rfl
theorem itoa_step (n : Int) (h : 10 ≤ n) : Lib.itoa n = Lib.itoa (n / 10) ++ [digB (n % 10).toNat] := by
 rw [Lib.itoa, if_neg (by omega), Lib.decDigits, dif_neg (by omega), Lib.itoa, if_neg (by omega)]
 have h1 : n.toNat / 10 = (n / 10).toNat := by omega
 have h2 : n.toNat % 10 = (n % 10).toNat := by omega
 rw [h1, h2]; rfl
theorem itoa_neg (n : Int) (h : n < 0) : Lib.itoa n = 45 :: Lib.itoa (-n) := by
 rw [Lib.itoa, if_pos h, Lib.itoa, if_neg (by omega)]; congr 2; omega
theorem decDigits_len (f : Nat) : ∀ n : Nat, n < 10 ^ (f + 1) → (Lib.decDigits n).length ≤ f + 1 := by
 induction f with
 | zero => intro n h; rw [Lib.decDigits, dif_pos (by simpa using h)]; simp
 | succ f ih =>
  intro n h
  rw [Lib.decDigits]
  split
  ·simp
  ·rw [List.length_append]
   have := ih (n / 10) (Nat.div_lt_of_lt_mul (by rw [Nat.pow_succ] at h; rw [Nat.mul_comm]; exact h))
   simp only [List.length_cons, List.length_nil]; omega
theorem itoa_len (n : Int) (h0 : -9223372036854775808 ≤ n) (h1 : n ≤ 9223372036854775807) : (Lib.itoa n).length ≤ 20 := by
 unfold Lib.itoa
 split
 ·have := decDigits_len 18 n.natAbs (by omega)
  rw [List.length_cons]; omega
 ·have := decDigits_len 18 n.toNat (by omega)
  omega
theorem digit_slice (d : Nat) (h : d < 10) : (⟨#[48, 49, 50, 51, 52, 53, 54, 55, 56, 57]⟩ : ByteArray).extract d (d + 1) = ⟨#[digB d]⟩ := by
 have : ∀ e : Fin 10, (⟨#[48, 49, 50, 51, 52, 53, 54, 55, 56, 57]⟩ : ByteArray).extract e.val (e.val + 1) = ⟨#[digB e.val]⟩ := by decide +kernel
 exact this ⟨d, h⟩
set_option maxHeartbeats 400000 in
theorem l1Num_nat (f : Nat) : ∀ (n : Int) (w : World), 0 ≤ n → n < 10 ^ (f + 1) → n ≤ 9223372036854775807 →
  Calls Tryz.prog 60 #[.int .i64 n] w fun e w' => e = .returned (.string ⟨(Lib.itoa n).toArray⟩) ∧ Drew w w' := by
 induction f with
 | zero =>
  intro n w h0 hf _
  have hn : n < 10 := by simpa using hf
  have HD := Lib.hid (digit_slice n.toNat (by omega))
  have HI := Lib.hid (itoa_small n h0 hn)
  have HC : n.toNat + 1 = (n + 1).toNat := by omega
  clear hf
  go_enter Tryz.func60, Tryz.ntmps60
  go_wp2
  go_ret
  refine ⟨?_, Drew.refl _⟩
  show Ending.returned (Value.string (ByteArray.extract _ _ _)) = _
  rw [← HC, HD.out, HI.out]
 | succ f ih =>
  intro n w h0 hf h63
  by_cases hn : n < 10
  ·have HD := Lib.hid (digit_slice n.toNat (by omega))
   have HI := Lib.hid (itoa_small n h0 hn)
   have HC : n.toNat + 1 = (n + 1).toNat := by omega
   clear hf
   go_enter Tryz.func60, Tryz.ntmps60
   go_wp2
   go_ret
   refine ⟨?_, Drew.refl _⟩
   show Ending.returned (Value.string (ByteArray.extract _ _ _)) = _
   rw [← HC, HD.out, HI.out]
  ·have HI := Lib.hid (itoa_step n (by omega))
   have h10 : n / 10 < 10 ^ (f + 1) := Int.ediv_lt_of_lt_mul (by omega) (by rw [Int.pow_succ] at hf; exact hf)
   have IH := Lib.hid fun w => ih (n / 10) w (by omega) h10 (by omega)
   have HD : (⟨#[48, 49, 50, 51, 52, 53, 54, 55, 56, 57]⟩ : ByteArray).extract (n % 10).toNat (n % 10 + 1).toNat = ⟨#[digB (n % 10).toNat]⟩ := by
    rw [show (n % 10 + 1).toNat = (n % 10).toNat + 1 by omega]; exact digit_slice _ (by omega)
   have HL : ¬ 9223372036854775807 < (Lib.itoa (n / 10)).length + 1 := by have := itoa_len (n / 10) (by omega) (by omega); omega
   have hm0 : 0 ≤ n % 10 := by omega
   have hm1 : n % 10 < 10 := by omega
   have q1 : IntKind.i64.wrap (n.tdiv 10) = n / 10 := by rw [Int.tdiv_eq_ediv_of_nonneg h0]; exact IntWalk.i64_in _ (by omega)
   have q2 : n.tmod 10 = n % 10 := Int.tmod_eq_emod_of_nonneg h0
   have q3 : IntKind.i64.wrap (n % 10 + 1) = n % 10 + 1 := IntWalk.i64_in _ (by omega)
   have b0 : 0 ≤ n % 10 + 1 := by omega
   have b1 : n % 10 + 1 ≤ 10 := by omega
   have b2 : n % 10 ≤ n % 10 + 1 := by omega
   clear ih hf h10
   go_enter Tryz.func60, Tryz.ntmps60
   go_wp2_with fail
   go_quiet ((go_at_call 60; exact Drew.quiet (IH.out _)))
   go_wp2
   go_ret
   refine ⟨?_, _, rfl⟩
   show Ending.returned (Value.string (_ ++ _)) = _
   rw [HI.out, bytes_append]
theorem l1Num_any (n : Int) (w : World) (h0 : 0 ≤ n) (h1 : n ≤ 9223372036854775807) :
  Calls Tryz.prog 60 #[.int .i64 n] w fun e w' => e = .returned (.string ⟨(Lib.itoa n).toArray⟩) ∧ Drew w w' :=
 l1Num_nat 18 n w h0 (by omega) h1
theorem isLower_any (c : UInt8) (w : World) : Calls Tryz.prog 139 #[.int .u8 (c.toNat : Int)] w fun e w' => e = .returned (.bool (loC c)) ∧ w = w' := by
 go_enter Tryz.func139, Tryz.ntmps139
 go_wp2
 all_goals go_ret
 all_goals go_light
 all_goals refine ⟨ret_bool ?_, rfl⟩
 all_goals rw [Bool.eq_iff_iff]
 all_goals simp only [loC, decide_eq_true_eq, Bool.and_eq_true, false_iff, Bool.false_eq_true, not_and]
 all_goals omega
theorem isUpper_any (c : UInt8) (w : World) : Calls Tryz.prog 140 #[.int .u8 (c.toNat : Int)] w fun e w' => e = .returned (.bool (upC c)) ∧ w = w' := by
 go_enter Tryz.func140, Tryz.ntmps140
 go_wp2
 all_goals go_ret
 all_goals go_light
 all_goals refine ⟨ret_bool ?_, rfl⟩
 all_goals rw [Bool.eq_iff_iff]
 all_goals simp only [upC, decide_eq_true_eq, Bool.and_eq_true, false_iff, Bool.false_eq_true, not_and]
 all_goals omega
theorem isDigit_any (c : UInt8) (w : World) : Calls Tryz.prog 32 #[.int .u8 (c.toNat : Int)] w fun e w' => e = .returned (.bool (diC c)) ∧ w = w' := by
 go_enter Tryz.func32, Tryz.ntmps32
 go_wp2
 all_goals go_ret
 all_goals go_light
 all_goals refine ⟨ret_bool ?_, rfl⟩
 all_goals rw [Bool.eq_iff_iff]
 all_goals simp only [diC, decide_eq_true_eq, Bool.and_eq_true, false_iff, Bool.false_eq_true, not_and]
 all_goals omega
theorem l2Small_any (c : UInt8) (w : World) : Calls Tryz.prog 128 #[.int .u8 (c.toNat : Int)] w fun e w' => e = .returned (.bool (smC c)) ∧ w = w' := by
 go_enter Tryz.func128, Tryz.ntmps128
 go_wp2
 all_goals go_ret
 all_goals go_light
 all_goals refine ⟨ret_bool ?_, rfl⟩
 all_goals rw [Bool.eq_iff_iff]
 all_goals simp only [loC, diC, smC, decide_eq_true_eq, Bool.and_eq_true, Bool.or_eq_true, true_iff, false_iff, Bool.false_eq_true, not_and, not_or]
 all_goals omega
theorem headTail_take (p q : UInt8 → Bool) (s : ByteArray) (k : Nat) (h : k < s.size) : headTail p q (s.data.toList.take (k + 1)) = (headTail p q (s.data.toList.take k) && (if k = 0 then p s[k] else q s[k])) := by
 rw [take_snoc s k h, headTail_snoc]
 by_cases hk : k = 0
 ·subst hk; simp
 ·rw [if_neg hk, if_neg]
  have hl : (s.data.toList.take k).length = k := by rw [List.length_take, ← size_list]; omega
  rw [List.isEmpty_iff]
  intro e; rw [e] at hl; simp at hl; omega
theorem headTail_no (p q : UInt8 → Bool) (s : ByteArray) (k : Nat) (h : k < s.size) (h2 : (if k = 0 then p s[k] else q s[k]) = false) : headTail p q s.data.toList = false := by
 have e : s.data.toList = s.data.toList.take (k + 1) ++ s.data.toList.drop (k + 1) := (List.take_append_drop _ _).symm
 have h3 := headTail_take p q s k h
 rw [h2, Bool.and_false] at h3
 rw [e]
 generalize s.data.toList.take (k + 1) = a at *
 cases a with
 | nil => simp [headTail] at h3
 | cons x a =>
  simp only [headTail, List.cons_append, List.all_append] at h3 ⊢
  rw [← Bool.and_assoc, h3, Bool.false_and]
set_option maxHeartbeats 800000 in
theorem isVariable_any (s : ByteArray) (w : World) (hs : s.size ≤ maxLen) :
  Calls Tryz.prog 145 #[.string s] w fun e w' => e = .returned (.bool (varB s.data.toList)) ∧ w = w' := by
 unfold maxLen at hs
 have HV := Lib.hid (show varB s.data.toList = (inB (s.size : Int) 1 4 && headTail upC smC s.data.toList) by
  unfold varB inB; rw [← size_list]
  congr 1
  rw [Bool.eq_iff_iff]; simp; omega)
 go_enter Tryz.func145, Tryz.ntmps145
 go_wp2
 go_loop [6] (fun i => ∃ k : Nat, k ≤ s.size ∧ i = .int .i64 k ∧ headTail upC smC (s.data.toList.take k) = true) (fun i => s.size - (intOf i).toNat)
 case atStart => exact ⟨0, Nat.zero_le _, rfl, rfl⟩
 case round =>
  obtain ⟨k, hk, rfl, hp⟩ := hrel
  have HP := Lib.hid hp; clear hp
  by_cases hlt : k < s.size
  ·have HT := Lib.hid (headTail_take upC smC s k hlt)
   have HN := Lib.hid (headTail_no upC smC s k hlt)
   by_cases hk0 : k = 0
   ·subst hk0
    cases hU : upC s[0]
    all_goals
     go_wp2_with (first | (go_at_call 140; refine (isUpper_any _ _).mono ?_; rintro e w' ⟨rfl, rfl⟩) | (go_at_call 139; refine (isLower_any _ _).mono ?_; rintro e w' ⟨rfl, rfl⟩) | (go_at_call 32; refine (isDigit_any _ _).mono ?_; rintro e w' ⟨rfl, rfl⟩))
    ·go_ret
     exact ⟨ret_bool (by rw [HV.out, HN.out (by simpa using hU)]; simp), rfl⟩
    ·refine ⟨⟨1, by omega, by go_num, ?_⟩, by simp [intOf]; omega⟩
     rw [HT.out, HP.out]; simpa using hU
   ·have hk1 : 0 < (k : Int) := by omega
    have hk2 : ((k : Int) == 0) = false := by simp; omega
    cases hL : loC s[k] <;> cases hD : diC s[k]
    all_goals
     have HLD := Lib.hid (And.intro hL hD)
     go_wp2_with (first | (go_at_call 140; refine (isUpper_any _ _).mono ?_; rintro e w' ⟨rfl, rfl⟩) | (go_at_call 139; refine (isLower_any _ _).mono ?_; rintro e w' ⟨rfl, rfl⟩) | (go_at_call 32; refine (isDigit_any _ _).mono ?_; rintro e w' ⟨rfl, rfl⟩))
    ·go_ret
     exact ⟨ret_bool (by rw [HV.out, HN.out (by rw [if_neg hk0, smC, HLD.out.1, HLD.out.2]; rfl)]; simp), rfl⟩
    all_goals
     refine ⟨⟨k + 1, by omega, by go_num, ?_⟩, by simp [intOf]; omega⟩
     rw [HT.out, HP.out, if_neg hk0, smC, HLD.out.1, HLD.out.2]; rfl
  ·go_wp2_with (first | (go_at_call 40; refine (within_any _ _ _ _).mono ?_; rintro e w' ⟨rfl, rfl⟩))
   go_ret
   exact ⟨ret_bool (by have := HP.out; rw [take_all _ _ (by omega)] at this; rw [HV.out, this]; simp), rfl⟩
def keyS : List ByteArray := keyW.map fun l => ⟨l.toArray⟩
theorem key_contains (x : ByteArray) : Lib.containsS (keyS.take 8) x = keyW.contains x.data.toList := by
 rw [Bool.eq_iff_iff, Lib.containsS_iff, List.contains_iff_mem, show keyS.take 8 = keyS from rfl, keyS, List.mem_map]
 constructor
 ·rintro ⟨l, h, rfl⟩; exact h
 ·intro h; exact ⟨_, h, rfl⟩
theorem key_cells (w : World) (t : TypeId) (j : Nat) (hj : j < keyS.length) :
  (w.alloc (.cells #[.string ⟨#[116, 114, 117, 101]⟩, .string ⟨#[102, 97, 108, 115, 101]⟩, .string ⟨#[116, 114, 117, 116, 104]⟩, .string ⟨#[98, 111, 116, 104]⟩, .string ⟨#[101, 105, 116, 104, 101, 114]⟩, .string ⟨#[105, 102]⟩, .string ⟨#[97, 108, 108]⟩, .string ⟨#[115, 111, 109, 101]⟩] t)).cell? ⟨w.heap.size, 0 + j, none⟩ = some (.string (keyS.getD j ByteArray.empty)) := by
 have hj8 : j < 8 := hj
 rw [Nat.zero_add, World.cell?_alloc_new]
 match j, hj8 with
 | 0, _ => rfl
 | 1, _ => rfl
 | 2, _ => rfl
 | 3, _ => rfl
 | 4, _ => rfl
 | 5, _ => rfl
 | 6, _ => rfl
 | 7, _ => rfl
theorem reserved_any (w : World) : Calls Tryz.prog 184 #[] w fun e w' => e = .returned (.slice (some ⟨w.heap.size, 0, none⟩) 8 8) ∧ w.alloc (.cells #[.string ⟨#[116, 114, 117, 101]⟩, .string ⟨#[102, 97, 108, 115, 101]⟩, .string ⟨#[116, 114, 117, 116, 104]⟩, .string ⟨#[98, 111, 116, 104]⟩, .string ⟨#[101, 105, 116, 104, 101, 114]⟩, .string ⟨#[105, 102]⟩, .string ⟨#[97, 108, 108]⟩, .string ⟨#[115, 111, 109, 101]⟩] 9) = w' := by
 go_enter Tryz.func184, Tryz.ntmps184
 go_wp2
 go_ret
 exact ⟨rfl, rfl⟩
set_option maxHeartbeats 1600000 in
theorem isSymbol_any (s : ByteArray) (w : World) (hs : s.size ≤ maxLen) :
  Calls Tryz.prog 155 #[.string s] w fun e w' => e = .returned (.bool (symB s.data.toList)) ∧ Below w.heap.size w w' := by
 unfold maxLen at hs
 have HV := Lib.hid (show symB s.data.toList = (inB (s.size : Int) 1 6 && headTail loC unC s.data.toList && !keyW.contains s.data.toList) by
  unfold symB inB; rw [← size_list]
  congr 2
  rw [Bool.eq_iff_iff]; simp; omega)
 go_enter Tryz.func155, Tryz.ntmps155
 go_wp2
 go_loop [6] (fun i => ∃ k : Nat, k ≤ s.size ∧ i = .int .i64 k ∧ headTail loC unC (s.data.toList.take k) = true) (fun i => s.size - (intOf i).toNat)
 case atStart => exact ⟨0, Nat.zero_le _, rfl, rfl⟩
 case round =>
  obtain ⟨k, hk, rfl, hp⟩ := hrel
  have HP := Lib.hid hp; clear hp
  by_cases hlt : k < s.size
  ·have HT := Lib.hid (headTail_take loC unC s k hlt)
   have HN := Lib.hid (headTail_no loC unC s k hlt)
   by_cases hk0 : k = 0
   ·subst hk0
    cases hL : loC s[0]
    all_goals
     have HL := Lib.hid hL
     go_wp2_with (first | (go_at_call 139; refine (isLower_any _ _).mono ?_; rintro e w' ⟨rfl, rfl⟩) | (go_at_call 32; refine (isDigit_any _ _).mono ?_; rintro e w' ⟨rfl, rfl⟩))
    ·go_ret
     exact ⟨ret_bool (by rw [HV.out, HN.out (by simpa using HL.out)]; simp), Below.refl _ _⟩
    ·refine ⟨⟨1, by omega, by go_num, ?_⟩, by simp [intOf]; omega⟩
     rw [HT.out, HP.out]; simpa using HL.out
   ·have hk1 : 0 < (k : Int) := by omega
    have hk2 : ((k : Int) == 0) = false := by simp; omega
    have HU := Lib.hid (show unC s[k] = ((loC s[k] || diC s[k]) || (s[k] == 95)) from rfl)
    by_cases h9 : s[k] = 95
    ·have H9 := Lib.hid h9
     have h91 : ((s[k].toNat : Int) != 95) = false := by rw [h9]; rfl
     have h92 : ((s[k].toNat : Int) == 95) = true := by rw [h9]; rfl
     clear h9
     cases hL : loC s[k] <;> cases hD : diC s[k]
     all_goals
      have HLD := Lib.hid (And.intro hL hD)
      go_wp2_with (first | (go_at_call 139; refine (isLower_any _ _).mono ?_; rintro e w' ⟨rfl, rfl⟩) | (go_at_call 32; refine (isDigit_any _ _).mono ?_; rintro e w' ⟨rfl, rfl⟩))
      refine ⟨⟨k + 1, by omega, by go_num, ?_⟩, by simp [intOf]; omega⟩
      rw [HT.out, HP.out, if_neg hk0, HU.out, HLD.out.1, HLD.out.2, H9.out]; rfl
    ·have H9 := Lib.hid (show (s[k] == 95) = false by simpa using h9)
     have h9n : ¬ (s[k].toNat : Int) = 95 := fun e => h9 (UInt8.toNat_inj.1 (show s[k].toNat = 95 by omega))
     have h91 : ((s[k].toNat : Int) != 95) = true := by simpa using h9n
     have h92 : ((s[k].toNat : Int) == 95) = false := by simpa using h9n
     clear h9 h9n
     cases hL : loC s[k] <;> cases hD : diC s[k]
     all_goals
      have HLD := Lib.hid (And.intro hL hD)
      go_wp2_with (first | (go_at_call 139; refine (isLower_any _ _).mono ?_; rintro e w' ⟨rfl, rfl⟩) | (go_at_call 32; refine (isDigit_any _ _).mono ?_; rintro e w' ⟨rfl, rfl⟩))
     ·go_ret
      exact ⟨ret_bool (by rw [HV.out, HN.out (by rw [if_neg hk0, HU.out, HLD.out.1, HLD.out.2, H9.out]; rfl)]; simp), Below.refl _ _⟩
     all_goals
      refine ⟨⟨k + 1, by omega, by go_num, ?_⟩, by simp [intOf]; omega⟩
      rw [HT.out, HP.out, if_neg hk0, HU.out, HLD.out.1, HLD.out.2]; rfl
  ·have HF := Lib.hid (show headTail loC unC s.data.toList = true by have := HP.out; rwa [take_all _ _ (by omega)] at this)
   cases hB : inB (s.size : Int) 1 6
   all_goals
    have HB := Lib.hid hB
    go_wp2_with (first | (go_at_call 40; refine (within_any _ _ _ _).mono ?_; rintro e w' ⟨rfl, rfl⟩) | (go_at_call 184; refine (reserved_any _).mono ?_; rintro e w' ⟨rfl, rfl⟩) | (go_at_call 183; refine (Tryz.slices_Contains_string w.heap.size 0 8 8 keyS s _ (by decide) (by decide) (key_cells w _)).mono ?_; rintro e w' ⟨rfl, rfl⟩))
    go_ret
   ·exact ⟨ret_bool (by rw [HV.out, HB.out]; rfl), by exact bel⟩
   ·exact ⟨ret_bool (by rw [HV.out, HB.out, HF.out, key_contains]; rfl), by exact bel⟩
section
variable {w w1 w2 : World} {g : Nat}
theorem gr_refl (w : World) (g : Nat) : w.grownBy w (some g) := ⟨rfl, rfl, rfl, Nat.le_refl _, fun _ _ _ => rfl⟩
theorem gr_trans (h : w.grownBy w1 (some g)) (h2 : w1.grownBy w2 (some g)) : w.grownBy w2 (some g) :=
 ⟨h2.os.trans h.os, h2.tape.trans h.tape, h2.output.trans h.output, Nat.le_trans h.size h2.size, fun k hk hne => (h2.block k (Nat.lt_of_lt_of_le hk h.size) hne).trans (h.block k hk hne)⟩
theorem gr_below (h : w.grownBy w1 (some g)) (hb : Below w1.heap.size w1 w2) : w.grownBy w2 (some g) :=
 gr_trans h ⟨hb.os, hb.tape, hb.output, hb.size, fun k hk _ => hb.block k hk⟩
theorem gr_al (h : w.grownBy w1 (some g)) (o : Obj) : w.grownBy (w1.alloc o) (some g) := gr_below h ((Below.refl _ _).alloc (Nat.le_refl _) o)
theorem gr_sc (h : w.grownBy w1 (some g)) {p : Addr} (hp : p.block = g ∨ w.heap.size ≤ p.block) (u : Value) : w.grownBy (w1.setCell p u) (some g) := by
 refine ⟨h.os, h.tape, h.output, by simpa using h.size, fun k hk hne => ?_⟩
 refine (heap_setCell_other w1 p k u (fun e => ?_)).trans (h.block k hk hne)
 rcases hp with hp | hp
 ·exact hne (by rw [← hp, e])
 ·omega
theorem gcell (h : w.grownBy w1 (some g)) : (∀ b o, b < w.heap.size → b ≠ g → w1.cell? ⟨b, o, none⟩ = w.cell? ⟨b, o, none⟩) ∧ (∀ b o, b < w.heap.size → b ≠ g → w1.frozen? ⟨b, o, none⟩ = w.frozen? ⟨b, o, none⟩) :=
 ⟨fun b o hb hne => World.cell?_of_block (h.block b hb (by simpa using hne)), fun b o hb hne => World.frozen?_of_block (h.block b hb (by simpa using hne))⟩
end
end Go.Proofs.YtabkdonplmlbcaaGreatDoor
