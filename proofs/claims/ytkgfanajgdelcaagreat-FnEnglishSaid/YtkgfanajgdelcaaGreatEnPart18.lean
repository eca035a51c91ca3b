import Derived.Test.YtkgfanajgdelcaaGreatEnPart17
namespace Go.Proofs.YtkgfanajgdelcaaGreat
set_option maxRecDepth 100000
open Go.RowKit
def etfOk (s : ByteArray) : Bool := decide (s.size ≤ 12000) && pOk s.data.toList
def etfF (s : ByteArray) : Fm := if etfOk s then (pRead s.data.toList).1 else opF 0 []
def EtfV (n : Nat) (ok : Bool) (F : Fm) (w : World) (e : Ending) (w' : World) : Prop :=
  Below w.heap.size w w' ∧ ∃ v0 v1 v2 v3 v4, e = .returned (.tuple #[.agg #[v0, v1, v2, v3, v4], .bool ok]) ∧ FmOwn 26 29 n (NewB w w') w' F [v0, v1, v2, v3, v4]
theorem EtfPost.v {n m : Nat} {ok : Bool} {F : Fm} {w w' : World} {e : Ending} (h : EtfPost n ok F w e w') (hn : n ≤ m) (hm : 2 ≤ m) : EtfV m ok (if ok then F else opF 0 []) w e w' := by
  obtain ⟨hb, h⟩ := h
  refine ⟨hb, ?_⟩
  cases ok with
  | true =>
    obtain ⟨x, rfl, v0, v1, v2, v3, v4, rfl, hO⟩ := (show ∃ x, _ ∧ _ from h)
    exact ⟨_, _, _, _, _, rfl, FmOwn.mono _ _ _ _ hn (SameOn.refl _ _) (fun _ h => h) hO⟩
  | false =>
    have he : e = _ := h
    obtain ⟨m', rfl⟩ : ∃ q, m = q + 2 := ⟨m - 2, by omega⟩
    exact ⟨_, _, _, _, _, he, opF_own (by omega) (OwnRow.nil _ _ _ _ _)⟩
theorem EtfV.zero {m : Nat} {w w' : World} {e : Ending} (h : e = .returned (.tuple #[.agg #[.int .i64 0, .string ⟨#[]⟩, .slice none 0 0, .string ⟨#[]⟩, .slice none 0 0], .bool false]) ∧ Below w.heap.size w w') (hm : 2 ≤ m) : EtfV m false (opF 0 []) w e w' := by
  obtain ⟨m', rfl⟩ : ∃ q, m = q + 2 := ⟨m - 2, by omega⟩
  exact ⟨h.2, _, _, _, _, _, h.1, opF_own (by omega) (OwnRow.nil _ _ _ _ _)⟩
def litOf (f : Fm) : Lit3 × Bool := if f.op = 4 then (⟨false, (f.ps.headD (opF 0 [])).a⟩, (f.ps.headD (opF 0 [])).op == 3) else (⟨true, f.a⟩, f.op == 3)
def clsOf : Nat → Fm → Option (List Lit3)
  | 0, _ => none
  | n + 1, f =>
    if f.op = 6 then (if (litOf (f.ps.headD (opF 0 []))).2 then (clsOf n (f.ps.getD 1 (opF 0 []))).map ((litOf (f.ps.headD (opF 0 []))).1 :: ·) else none)
    else if (litOf f).2 then some [(litOf f).1] else none
theorem litOf_fm (l : Lit3) : litOf l.fm = (l, true) := by
  obtain ⟨pos, a⟩ := l
  cases pos
  · show litOf (opF 4 [atomOfF a]) = _
    simp [litOf, opF, atomOfF, Fm.op, Fm.a, Fm.ps]
  · show litOf (atomOfF a) = _
    simp [litOf, atomOfF, Fm.op, Fm.a]
theorem fm_op (l : Lit3) : l.fm.op ≠ 6 := by
  obtain ⟨pos, a⟩ := l
  cases pos
  · show (opF 4 [atomOfF a]).op ≠ 6; simp [opF, Fm.op]
  · show (atomOfF a).op ≠ 6; simp [atomOfF, Fm.op]
theorem clsOf_disj : ∀ (c : List Lit3) (n : Nat), 0 < c.length → c.length ≤ n → clsOf n (disj c) = some c
  | [], _, h, _ => absurd h (by simp)
  | [l], 0, _, h => by simp at h
  | [l], n + 1, _, _ => by rw [disj_one, clsOf, if_neg (fm_op l), litOf_fm]; rfl
  | l :: a :: c, 0, _, h => by simp at h
  | l :: a :: c, n + 1, _, h => by
    have ih := clsOf_disj (a :: c) n (by simp) (by simp at h ⊢; omega)
    rw [disj_cons, clsOf, if_pos (by rfl)]
    show (if (litOf l.fm).2 then (clsOf n (disj (a :: c))).map ((litOf l.fm).1 :: ·) else none) = _
    rw [litOf_fm, ih]; rfl
theorem disj_sz : ∀ (c : List Lit3), 0 < c.length → (disj c).sz ≤ 3 * c.length ∧ c.length ≤ (disj c).sz
  | [], h => absurd h (by simp)
  | [l], _ => by
    obtain ⟨pos, a⟩ := l
    cases pos
    · show (opF 4 [atomOfF a]).sz ≤ _ ∧ _ ≤ (opF 4 [atomOfF a]).sz; simp [opF, atomOfF, Fm.sz, Fm.szs]
    · show (atomOfF a).sz ≤ _ ∧ _ ≤ (atomOfF a).sz; simp [atomOfF, Fm.sz, Fm.szs]
  | l :: a :: c, _ => by
    have ih := disj_sz (a :: c) (by simp)
    have h1 : l.fm.sz ≤ 2 ∧ 1 ≤ l.fm.sz := by
      obtain ⟨pos, a⟩ := l
      cases pos
      · show (opF 4 [atomOfF a]).sz ≤ _ ∧ _ ≤ (opF 4 [atomOfF a]).sz; simp [opF, atomOfF, Fm.sz, Fm.szs]
      · show (atomOfF a).sz ≤ _ ∧ _ ≤ (atomOfF a).sz; simp [atomOfF, Fm.sz, Fm.szs]
    have e : (opF 6 [l.fm, disj (a :: c)]).sz = 1 + (l.fm.sz + ((disj (a :: c)).sz + 0)) := by rw [opF, Fm.sz, Fm.szs, Fm.szs, Fm.szs]
    rw [disj_cons, e]
    simp only [List.length_cons] at ih ⊢
    omega
theorem disj_good {c : List Lit3} (h0 : 0 < c.length) (hg : Cls.good c = true) : (disj c).good = true := by
  have h := good_atoms hg
  have h1 := disj_sz c h0
  rw [Fm.good, disj_form c h0 h.2, Bool.and_true, decide_eq_true_eq]; omega
/-! ### No clause but the empty one begins as the contradiction -/
theorem contr_word {n X : List UInt8} (h : varB n = true ∨ symB n = true) (hX : BehindW X) : sContr.isPrefixOf (n ++ X) = false := by
  have hn : n.all wordC = true := by rcases h with h | h; exact (varB_word h).1; exact (symB_word h).1
  exact kw_no (w := [97]) hn hX (by decide) (.inr (by cases hX <;> rfl))
theorem contr_atom {t : Tm} (h : t.atom = true) (R : List UInt8) : sContr.isPrefixOf (t.eng ++ R) = false := by
  cases atom_cases h with
  | eq a b ha hb =>
    rw [eng_eq, List.append_assoc, List.append_assoc]
    obtain ⟨n, X, hn, he, hX⟩ := fmt_split ha (sEquals ++ (b.fmt ++ R))
    rw [he]
    refine contr_word hn ?_
    rcases hX with ⟨Y, rfl⟩ | rfl
    · exact .open_ _
    · exact .equals _
  | pred n us hs hu hd =>
    rw [eng_pred hs]
    split
    · rw [List.append_assoc]; exact contr_word (.inr hs) (.holds _)
    · rw [List.append_assoc, List.append_assoc]; exact contr_word (.inr hs) (.holds ([32, 111, 102, 32] ++ (joinB sComma (Tm.fmtL us) ++ R)))
theorem fm_eng (l : Lit3) : l.fm.eng = if l.pos then l.a.eng else sNot ++ l.a.eng := by
  obtain ⟨pos, a⟩ := l
  cases pos
  · show (opF 4 [atomOfF a]).eng = _; rw [eng_neg, eng_atm]; rfl
  · show (atomOfF a).eng = _; rw [eng_atm]; rfl
theorem contr_fm {l : Lit3} (h : l.a.atom = true) (R : List UInt8) : sContr.isPrefixOf (l.fm.eng ++ R) = false := by
  rw [fm_eng]; split
  · exact contr_atom h R
  · rfl
theorem contr_disj : ∀ (c : List Lit3), 0 < c.length → (∀ l ∈ c, l.a.atom = true) → ∀ R, sContr.isPrefixOf ((disj c).eng ++ R) = false
  | [], h, _, _ => absurd h (by simp)
  | [l], _, h, R => by rw [disj_one]; exact contr_fm (h l (by simp)) R
  | l :: a :: c, _, _, R => by rw [disj_cons, eng_or]; rfl
theorem disj_contr {c : List Lit3} (h0 : 0 < c.length) (ha : ∀ l ∈ c, l.a.atom = true) : (disj c).eng ≠ sContr := fun e => by
  have h := contr_disj c h0 ha []
  rw [e] at h
  exact absurd h (by decide)
/-! ### The program's side -/
def iFm (s : ByteArray) : Option (List Lit3) := if etfOk s then clsOf ((etfF s).sz + 1) (etfF s) else none
def iOk (s : ByteArray) : Bool := (s.data.toList == sContr) || match iFm s with | some c => Cls.good c && (Cls.eng c == s.data.toList) | none => false
def iC (s : ByteArray) : List Lit3 := if s.data.toList = sContr then [] else if iOk s then (iFm s).getD [] else []
def EngOf (s : ByteArray) (c : List Lit3) : Prop := s.size ≤ 12000 ∧ Cls.good c = true ∧ Cls.eng c = s.data.toList
theorem iOk_yes {s : ByteArray} {c : List Lit3} (h : EngOf s c) : iOk s = true ∧ iC s = c := by
  obtain ⟨hs, hg, he⟩ := h
  by_cases h0 : c.length = 0
  · obtain rfl : c = [] := List.eq_nil_of_length_eq_zero h0
    have hc : s.data.toList = sContr := he.symm
    rw [iOk, iC, if_pos hc, hc]; exact ⟨rfl, rfl⟩
  · have h0' : 0 < c.length := by omega
    have hE : (disj c).eng = s.data.toList := by rw [← he, Cls.eng, if_neg h0]
    have hne : s.data.toList ≠ sContr := by rw [← hE]; exact disj_contr h0' (good_atoms hg).2
    have hb : (s.data.toList == sContr) = false := by simpa using hne
    have hok : etfOk s = true := by rw [etfOk, decide_eq_true hs, Bool.true_and]; exact pOk_iff.2 ⟨_, disj_good h0' hg, hE⟩
    have hF : etfF s = disj c := by rw [etfF, if_pos hok]; exact pOk_read (disj_good h0' hg) hE
    have hi : iFm s = some c := by rw [iFm, if_pos hok, hF]; exact clsOf_disj c _ h0' (by have := (disj_sz c h0').2; omega)
    have hk : iOk s = true := by rw [iOk, hb, hi]; simp [hg, he]
    exact ⟨hk, by rw [iC, if_neg hne, if_pos hk, hi]; rfl⟩
/-! ### The reference's side -/
def LitOwn (eT : TypeId) (n : Nat) (S : Nat → Prop) (w : World) (l : Lit3) (cs : List Value) : Prop := ∃ vn va, cs = [.bool l.pos, vn, va] ∧ TmOwn eT n S w l.a [vn, va]
theorem LitOwn.mono {eT : TypeId} {n m : Nat} {S S' : Nat → Prop} {w w' : World} {l : Lit3} {cs : List Value} (hm : n ≤ m) (hs : SameOn S w w') (hS : ∀ b, S b → S' b) (h : LitOwn eT n S w l cs) : LitOwn eT m S' w' l cs := by
  obtain ⟨vn, va, h1, h2⟩ := h
  exact ⟨vn, va, h1, TmOwn.mono n m l.a _ hm hs hS h2⟩
theorem LitOwn.at_ {eT : TypeId} {n : Nat} {S : Nat → Prop} {w : World} {l : Lit3} {cs : List Value} (h : LitOwn eT n S w l cs) : LitAt S n w l cs := by
  obtain ⟨vn, va, h1, h2⟩ := h
  exact ⟨vn, va, h1, TmOwn.at_ n l.a _ h2⟩
def ClsOwn (eT eL : TypeId) (n : Nat) (S : Nat → Prop) (w : World) (c : List Lit3) (v : Value) : Prop := OwnRow S w eL 3 (fun T l cs => LitOwn eT n T w l cs) v c
theorem ClsOwn.mono {eT eL : TypeId} {n m : Nat} {S S' : Nat → Prop} {w w' : World} {c : List Lit3} {v : Value} (hm : n ≤ m) (hs : SameOn S w w') (hS : ∀ b, S b → S' b) (h : ClsOwn eT eL n S w c v) : ClsOwn eT eL m S' w' c v :=
  OwnRow.mono h hs hS (fun _ _ _ _ hT hx => LitOwn.mono hm (fun b hb hlt => hs b (hT b hb) hlt) (fun _ h => h) hx)
theorem ClsOwn.at_ {eT eL : TypeId} {n : Nat} {S : Nat → Prop} {w : World} {c : List Lit3} {v : Value} (h : ClsOwn eT eL n S w c v) : ClsAt S n w c v :=
  OwnRow.listAt (by omega) h (fun T x cs _ hT hx => LitAt.mono (SameOn.refl _ _) hT (Nat.le_refl _) (LitOwn.at_ hx))
theorem ClsOwn.nil (eT eL : TypeId) (n : Nat) (S : Nat → Prop) (w : World) : ClsOwn eT eL n S w [] (.slice none 0 0) := OwnRow.nil _ _ _ _ _
/-! ### Marks -/
theorem form_neg {f : Fm} (h : f.form = true) (ho : f.op = 4) : ∃ g, f = opF 4 [g] ∧ g.form = true := by
  cases form_cases h with
  | neg g hg => exact ⟨g, rfl, hg⟩
  | tru => exact absurd ho (by simp [opF, Fm.op])
  | fal => exact absurd ho (by simp [opF, Fm.op])
  | atm a ha => exact absurd ho (by simp [atomOfF, Fm.op])
  | bin op g h hop hg hh => exact absurd ho (by show ¬ op = 4; omega)
  | qua op v g hop hv hg => exact absurd ho (by show ¬ op = 4; omega)
theorem form_or {f : Fm} (h : f.form = true) (ho : f.op = 6) : ∃ g g', f = opF 6 [g, g'] ∧ g.form = true ∧ g'.form = true := by
  cases form_cases h with
  | neg g hg => exact absurd ho (by show ¬ (4 : Int) = 6; omega)
  | tru => exact absurd ho (by simp [opF, Fm.op])
  | fal => exact absurd ho (by simp [opF, Fm.op])
  | atm a ha => exact absurd ho (by simp [atomOfF, Fm.op])
  | bin op g g' hop hg hh =>
    obtain rfl : op = 6 := ho
    exact ⟨g, g', rfl, hg, hh⟩
  | qua op v g hop hv hg => exact absurd ho (by show ¬ op = 6; omega)
theorem FmOwn.split {eT eF : TypeId} {n : Nat} {S : Nat → Prop} {w : World} {t : Fm} {v0 v1 v2 v3 v4 : Value} (h : FmOwn eT eF (n + 1) S w t [v0, v1, v2, v3, v4]) :
    ∃ Sa Sp : Nat → Prop, TmOwn eT n Sa w t.a [v1, v2] ∧ OwnRow Sp w eF 5 (fun T f c => FmOwn eT eF n T w f c) v4 t.ps ∧ (∀ b, Sa b → S b ∧ ¬ Sp b) ∧ ∀ b, Sp b → S b := by
  obtain ⟨op, a, x, ps⟩ := t
  obtain ⟨vn, va, vp, Sa, Sp, h1, h2, h3, h4, h5, h6, h7⟩ := h
  simp only [List.cons.injEq, and_true] at h1
  obtain ⟨-, rfl, rfl, -, rfl⟩ := h1
  exact ⟨Sa, Sp, h4, h5, h6, h7⟩
set_option maxHeartbeats 1600000 in
theorem literalOf_any {m : Nat} {S : Nat → Prop} (f : Fm) (v0 v1 v2 v3 v4 : Value) (w : World) (h : FmOwn 26 29 (m + 2) S w f [v0, v1, v2, v3, v4]) (hf : f.form = true) :
    Calls Tryz.prog 49 #[.agg #[v0, v1, v2, v3, v4]] w fun e w' => ∃ u0 u1 S', e = .returned (.tuple #[.agg #[.bool (litOf f).1.pos, u0, u1], .bool (litOf f).2]) ∧ TmOwn 26 (m + 1) S' w' (litOf f).1.a [u0, u1] ∧ (∀ b, S' b → S b) ∧ Below w.heap.size w w' := by
  by_cases h4 : f.op = 4
  · obtain ⟨g, rfl, hg⟩ := form_neg hf h4
    obtain ⟨p, c, q, d, rfl, rfl, rfl, rfl, rfl, -⟩ := h.form
    obtain ⟨Sa, Sp, -, hrow, -, hSp⟩ := h.split
    obtain ⟨b, cap, cs, Si, cur, hv, -, hh, hcl, -, hcs, hR, hSi, -⟩ := OwnRow.elem hrow (i := 0) (x := g) rfl
    simp only [Value.slice.injEq] at hv
    obtain ⟨rfl, -, rfl⟩ := hv
    have hlen : ∃ x0 x1 x2 x3 x4, cs = [x0, x1, x2, x3, x4] := by
      match cs, hcl with
      | [x0, x1, x2, x3, x4], _ => exact ⟨x0, x1, x2, x3, x4, rfl⟩
    obtain ⟨x0, x1, x2, x3, x4, rfl⟩ := hlen
    obtain ⟨pg, cg, qg, dg, rfl, rfl, rfl, rfl, rfl, -⟩ := FmOwn.form hR
    obtain ⟨Sb, Sq, hT, -, hSb, -⟩ := FmOwn.split hR
    have HT := Lib.hid hT
    have HL := Lib.hid (show litOf (opF 4 [g]) = (⟨false, g.a⟩, g.op == 3) by simp [litOf, opF, Fm.op, Fm.ps])
    have hsub : ∀ b', Sb b' → S b' := fun b' hb => hSp b' (hSi b' (hSb b' hb).1).1
    have cell : ∀ j, w.cell? ⟨b, j, none⟩ = cur[j]? := fun j => cell_of_row w b j cur _ (0, 0) hh
    have y0 : w.cell? ⟨b, 0, none⟩ = some (.int .i64 g.op) := (cell 0).trans (hcs 0 (by omega))
    have y1 : w.cell? ⟨b, 1, none⟩ = some (.string g.a.n) := (cell 1).trans (hcs 1 (by omega))
    have y2 : w.cell? ⟨b, 2, none⟩ = some (.slice pg g.a.us.length cg) := (cell 2).trans (hcs 2 (by omega))
    have y3 : w.cell? ⟨b, 3, none⟩ = some (.string g.v) := (cell 3).trans (hcs 3 (by omega))
    have y4 : w.cell? ⟨b, 4, none⟩ = some (.slice qg g.ps.length dg) := (cell 4).trans (hcs 4 (by omega))
    have zb := bsz (blk_lt hh)
    have hop : (opF 4 [g]).op = 4 := rfl
    clear h hrow hh hcs hR hT cell hf hg h4
    show Calls Tryz.prog 49 #[.agg #[.int .i64 4, .string ⟨#[]⟩, .slice p 0 c, .string ⟨#[]⟩, .slice (some ⟨b, 0, none⟩) 1 d]] w _
    go_enter Tryz.func49, Tryz.ntmps49
    go_wp2
    go_region
    go_wp2
    rw [HL.out]
    refine bodyPost_ret (v := .tuple #[.agg #[.bool false, .string g.a.n, .slice pg g.a.us.length cg], .bool (g.op == 3)]) (by simp only [results, Tryz.results49]; go_simp) rfl ⟨_, _, Sb, rfl, ?_, hsub, by exact bel⟩
    exact TmOwn.mono m (m + 1) g.a _ (by omega) (SameOn.below (by exact bel)) (fun _ h => h) HT.out
  · obtain ⟨p, c, q, d, rfl, rfl, rfl, rfl, rfl, -⟩ := h.form
    obtain ⟨Sa, Sp, hT, -, hSa, -⟩ := h.split
    have HT := Lib.hid hT
    have HL := Lib.hid (show litOf f = (⟨true, f.a⟩, f.op == 3) by rw [litOf, if_neg h4])
    have hop : (f.op == 4) = false := by simpa using h4
    clear h hT hf
    go_enter Tryz.func49, Tryz.ntmps49
    go_wp2
    go_region
    go_wp2
    rw [HL.out]
    refine bodyPost_ret (v := .tuple #[.agg #[.bool true, .string f.a.n, .slice p f.a.us.length c], .bool (f.op == 3)]) (by simp only [results, Tryz.results49]; go_simp) rfl ⟨_, _, Sa, rfl, ?_, fun b hb => (hSa b hb).1, by exact bel⟩
    exact TmOwn.below (by exact bel) HT.out
theorem own_unique {w : World} {base : Nat} {e : TypeId} {size : Nat} {v : Value} {n : Nat} {xs ys : List Value} (h : w.ownsRow base e size v n xs) (h' : w.ownsRow base e size v n ys) : xs = ys := by
  obtain ⟨l1, h1⟩ := h
  obtain ⟨l2, h2⟩ := h'
  rcases h1 with ⟨rfl, h0⟩ | ⟨g, cap, cur, rfl, hb, hh, h3, h4, h5, h6⟩
  · subst h0
    rw [Nat.zero_mul] at l1 l2
    rw [List.eq_nil_of_length_eq_zero l1, List.eq_nil_of_length_eq_zero l2]
  · rcases h2 with ⟨hv, _⟩ | ⟨g', cap', cur', hv, _, hh', _, _, _, h6'⟩
    · cases hv
    · simp only [Value.slice.injEq, Option.some.injEq, Addr.mk.injEq] at hv
      obtain ⟨⟨rfl, -⟩, -, rfl⟩ := hv
      rw [hh] at hh'
      simp only [Option.some.injEq, Obj.cells.injEq] at hh'
      rw [← h6, ← h6', hh'.1]
structure LSt (T : TypeId) (rb bt : Nat) (n : ByteArray) (w : World) (f : Nat) (v : Value) (us : List Tm) (W : World) : Prop where
  res : W.heap[rb]? = some (.cells #[.string ⟨#[]⟩, .slice none 0 0] T (0, 0))
  cell : W.heap[bt]? = some (.cells #[.string n, v] T (0, 0))
  row : OwnRow (fun b => bt < b ∧ b < W.heap.size) W T 2 (fun S x c => TmOwn T f S W x c) v us
  bel : Below w.heap.size w W
  lt : w.heap.size ≤ rb ∧ rb < bt ∧ bt < W.heap.size
theorem LSt.later {T : TypeId} {rb bt : Nat} {n : ByteArray} {w W W' : World} {f : Nat} {v : Value} {us : List Tm} (h : LSt T rb bt n w f v us W) (hb : Below W.heap.size W W') : LSt T rb bt n w f v us W' := by
  have hz := hb.size
  obtain ⟨l1, l2, l3⟩ := h.lt
  exact ⟨(hb.block _ (by omega)).trans h.res, (hb.block _ l3).trans h.cell, h.row.mono (SameOn.below hb) (fun b h => ⟨h.1, by omega⟩) (fun S x c _ _ hx => TmOwn.below hb hx), ⟨hb.os.trans h.bel.os, hb.tape.trans h.bel.tape, hb.output.trans h.bel.output, Nat.le_trans h.bel.size hb.size, fun b hlt => (hb.block b (Nat.lt_of_lt_of_le hlt h.bel.size)).trans (h.bel.block b hlt)⟩, l1, l2, by omega⟩
theorem LSt.app {T : TypeId} {rb bt : Nat} {n : ByteArray} {w W W2 w3 : World} {f : Nat} {v v' v0 v1 : Value} {us : List Tm} {a : Tm} (h : LSt T rb bt n w f v us W) (hb : Below W.heap.size W W2) (hO : TmOwn T f (fun b => W.heap.size ≤ b ∧ b < W2.heap.size) W2 a [v0, v1])
    {vals : List Value} (hv : W2.ownsRow 0 T 2 v us.length vals) (happ : w3.ownsRow 0 T 2 v' (us.length + 1) (vals ++ [v0, v1])) (hg : W2.grownBy w3 v.ownBlock) (hnr : NewRow v v' W2.heap.size) (hlen : us.length + 1 ≤ 1048576) :
    LSt T rb bt n w f v' (us ++ [a]) (w3.setCell ⟨bt, 1, none⟩ v') := by
  have H2 := h.later hb
  obtain ⟨l1, l2, l3⟩ := h.lt
  obtain ⟨-, -, l4⟩ := H2.lt
  have hz := hb.size
  have hz3 := hg.size
  obtain ⟨hm, vals0, Ss, r1, r2, r3, r4⟩ := h.row
  have hvb : ∀ b, v.ownBlock = some b → bt < b ∧ b < W.heap.size := fun b hb => r2 b hb
  have nob : ∀ b, b ≤ bt → v.ownBlock ≠ some b := fun b hb e => by have := hvb b e; omega
  have hnew : ∀ b, v'.ownBlock = some b → bt < b ∧ b < w3.heap.size := fun b hb => ⟨by
    rcases hnr with e | ⟨b', e, hge⟩
    · rw [e] at hb; exact (hvb b hb).1
    · rw [e] at hb; injection hb with hb; omega, own_lt' happ hb⟩
  have hrow := OwnRow.snoc (S' := fun b => bt < b ∧ b < w3.heap.size) (R' := fun S x c => TmOwn T f S w3 x c)
    (h.row.mono (S' := fun b => bt < b ∧ b < W.heap.size) (w' := W2) (R' := fun S x c => TmOwn T f S W2 x c) (SameOn.below hb) (fun _ h => h) (fun S x c _ _ hx => TmOwn.below hb hx)) hO rfl
    (fun vs hvs => by rw [own_unique hvs hv]; exact happ) hg hnr (by unfold maxLen; omega) (fun b hb hS => by omega) (fun b hb => by omega) (fun b hb => hb.2) (fun b hb => by omega) (fun b hb => by omega) hnew
    (fun S x c hS hx => TmOwn.mono f f x c (Nat.le_refl _) (fun b hb hlt => hg.block b hlt (fun e => (hS b hb).2 e.symm)) (fun _ h => h) hx)
  have hbt3 : w3.heap[bt]? = some (.cells #[.string n, v] T (0, 0)) := (hg.block bt l4 (fun e => nob bt (Nat.le_refl _) e.symm)).trans H2.cell
  refine ⟨?_, ?_, ?_, ?_, l1, l2, by simp; omega⟩
  · exact (heap_setCell_other w3 ⟨bt, 1, none⟩ rb v' (by simp; omega)).trans ((hg.block rb (by omega) (fun e => nob rb (by omega) e.symm)).trans H2.res)
  · have := heap_setCell_same w3 bt 1 _ T v' hbt3
    simpa using this
  · exact hrow.mono (fun b hb hlt => heap_setCell_other w3 ⟨bt, 1, none⟩ b v' (by simp; omega)) (fun b hb => by simpa using hb)
      (fun S x c _ hS hx => TmOwn.mono f f x c (Nat.le_refl _) (fun b hb hlt => heap_setCell_other w3 ⟨bt, 1, none⟩ b v' (by have := hS b hb; simp; omega)) (fun _ h => h) hx)
  · have hb2 := H2.bel
    exact ⟨hg.os.trans hb2.os, hg.tape.trans hb2.tape, hg.output.trans hb2.output, by have := hb2.size; simp; omega, fun b hlt => (heap_setCell_other w3 ⟨bt, 1, none⟩ b v' (by simp; omega)).trans ((hg.block b (by have := hb2.size; omega) (fun e => nob b (by omega) e.symm)).trans (hb2.block b hlt))⟩
def GotTm (T : TypeId) (f : Nat) (r : Option (Tm × Nat)) (w : World) (x : Value) (w' : World) : Prop :=
  Below w.heap.size w w' ∧ ∃ (s : ByteArray) (p : Option Addr) (k c : Nat) (z : Int), x = .tuple #[.agg #[.string s, .slice p k c], .int .i64 z] ∧ match r with
    | none => z = -1
    | some (t, j) => z = (j : Nat) ∧ TmOwn T f (fun b => w.heap.size ≤ b ∧ b < w'.heap.size) w' t [.string s, .slice p k c]
theorem LSt.done {T : TypeId} {rb bt : Nat} {n : ByteArray} {w W : World} {f : Nat} {p : Option Addr} {k c : Nat} {us : List Tm} (h : LSt T rb bt n w f (.slice p k c) us W) (hn : n.size ≤ maxLen) (a b : Value) (j : Nat) :
    GotTm T (f + 1) (some (.mk n us, j)) w (.tuple #[.agg #[.string n, .slice p k c], .int .i64 (j : Nat)]) ((W.setCell ⟨rb, 0, none⟩ a).setCell ⟨rb, 1, none⟩ b) := by
  obtain ⟨l1, l2, l3⟩ := h.lt
  have hk : ∀ c, c ≠ rb → ((W.setCell ⟨rb, 0, none⟩ a).setCell ⟨rb, 1, none⟩ b).heap[c]? = W.heap[c]? := fun c hc => (heap_setCell_other _ ⟨rb, 1, none⟩ c b (fun e => hc e)).trans (heap_setCell_other W ⟨rb, 0, none⟩ c a (fun e => hc e))
  have hb := h.bel
  refine ⟨⟨hb.os, hb.tape, hb.output, by simpa using hb.size, fun c hc => (hk c (by omega)).trans (hb.block c hc)⟩, _, _, _, _, _, rfl, rfl, _, rfl, hn, ?_⟩
  exact h.row.mono (fun c hc _ => hk c (by omega)) (fun c hc => by simp; omega)
      (fun S x c _ hS hx => TmOwn.mono f f x c (Nat.le_refl _) (fun d hd _ => hk d (by have := (hS d hd).1; omega)) (fun _ h => h) hx)
theorem LSt.init {T : TypeId} {n : ByteArray} {w wr : World} {f : Nat} (hbr : Below (w.alloc (.cells #[.string ⟨#[]⟩, .slice Option.none 0 0] T)).heap.size (w.alloc (.cells #[.string ⟨#[]⟩, .slice Option.none 0 0] T)) wr) :
    LSt T w.heap.size wr.heap.size n w f (.slice Option.none 0 0) [] (wr.alloc (.cells #[.string n, .slice Option.none 0 0] T)) := by
  have hz := hbr.size
  simp at hz
  refine ⟨(hao wr _ _ (by omega)).trans ((hbr.block _ (by simp)).trans (heap_alloc_new w _)), heap_alloc_new wr _, OwnRow.nil _ _ _ _ _, ⟨hbr.os, hbr.tape, hbr.output, by simp; omega, fun b hlt => (hao wr _ _ (by omega)).trans ((hbr.block b (by simp; omega)).trans (hao w _ _ hlt))⟩, Nat.le_refl _, by omega, by simp⟩
theorem LSt.three {T : TypeId} {rb bt : Nat} {n : ByteArray} {w W w3 : World} {f : Nat} {v v' : Value} {us : List Tm} {ys : List Value} (h : LSt T rb bt n w f v us W) (happ : w3.ownsRow 0 T 2 v' (us.length + 1) ys) (hg : W.grownBy w3 v.ownBlock) :
    (∃ q c, v' = .slice (some ⟨q, 0, Option.none⟩) (us.length + 1) c) ∧ w3.heap[bt]? = some (.cells #[.string n, v] T (0, 0)) ∧ w3.heap[rb]? = some (.cells #[.string ⟨#[]⟩, .slice Option.none 0 0] T (0, 0)) := by
  obtain ⟨l1, l2, l3⟩ := h.lt
  obtain ⟨hm, vals, Ss, r1, r2, r3, r4⟩ := h.row
  exact ⟨own_form happ (by omega), (hg.block bt l3 (fun e => by have := (r2 bt e.symm).1; omega)).trans h.cell, (hg.block rb (by omega) (fun e => by have := (r2 rb e.symm).1; omega)).trans h.res⟩
theorem AppSt.keep {T : TypeId} {g bt n i j k : Nat} {CP : Value → World → Prop} {v : Value} {W : World} (hG : ∀ x w', CP x w' → W.grownBy w' (some g)) {c : Nat} (hc : c < W.heap.size) (hne : c ≠ g) (hv : v.ownBlock ≠ some c) (hbt : c ≠ bt) {m : Nat} {u : Nat → Value} {w : World} (h : AppSt T g bt CP v n W i j k m u w) : w.heap[c]? = W.heap[c]? := by
  have h1 : ∀ x w1, CP x w1 → w1.heap[c]? = W.heap[c]? ∧ c < w1.heap.size := fun x w1 h => ⟨(hG _ _ h).block c hc (by simpa using hne), Nat.lt_of_lt_of_le hc (hG _ _ h).size⟩
  match m, h with
  | 0, h => obtain rfl : w = W.drew := h; rfl
  | 1, h => exact (h1 _ _ h).1
  | 2, h =>
    obtain ⟨w1, v0, v1, h2, _, rfl⟩ := h
    exact (hao w1 _ _ (h1 _ _ h2).2).trans (h1 _ _ h2).1
  | 3, h =>
    obtain ⟨w1, v0, v1, h2, -, hg, -⟩ := h
    exact (hg.block c (h1 _ _ h2).2 (fun e => hv e.symm)).trans (h1 _ _ h2).1
  | 4, h =>
    obtain ⟨w1, w3, v0, v1, h2, -, hg, -, -, rfl⟩ := h
    exact (heap_setCell_other w3 ⟨bt, 1, Option.none⟩ c _ (fun e => hbt e)).trans ((hg.block c (h1 _ _ h2).2 (fun e => hv e.symm)).trans (h1 _ _ h2).1)
theorem LSt.out {T : TypeId} {rb bt : Nat} {n : ByteArray} {w W : World} {f : Nat} {p : Option Addr} {k c : Nat} {us : List Tm} (h : LSt T rb bt n w f (.slice p k c) us W) (hn : n.size ≤ maxLen) (a b : Value) :
    Below w.heap.size w ((W.setCell ⟨rb, 0, Option.none⟩ a).setCell ⟨rb, 1, Option.none⟩ b) ∧ TmOwn T (f + 1) (fun q => w.heap.size ≤ q ∧ q < ((W.setCell ⟨rb, 0, Option.none⟩ a).setCell ⟨rb, 1, Option.none⟩ b).heap.size) ((W.setCell ⟨rb, 0, Option.none⟩ a).setCell ⟨rb, 1, Option.none⟩ b) (.mk n us) [.string n, .slice p k c] := by
  obtain ⟨hb, s, p', k', c', z, he, hz, hO⟩ := LSt.done h hn a b 0
  simp only [Value.tuple.injEq, Array.mk.injEq, List.cons.injEq, Value.agg.injEq, Value.string.injEq, Value.slice.injEq, and_true] at he
  obtain ⟨⟨rfl, rfl, rfl, rfl⟩, -⟩ := he
  exact ⟨hb, hO⟩
end Go.Proofs.YtkgfanajgdelcaaGreat
