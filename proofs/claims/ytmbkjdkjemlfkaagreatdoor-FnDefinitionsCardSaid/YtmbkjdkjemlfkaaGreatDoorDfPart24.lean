import Derived.Test.YtmbkjdkjemlfkaaGreatDoorDfPart23
namespace Go.Proofs.YtmbkjdkjemlfkaaGreatDoor
set_option maxRecDepth 100000
open Go.RowKit
mutual
def Fm.atoms : Fm → List Tm | .mk op a _ ps => if op = 3 then [a] else Fm.atomss ps
def Fm.atomss : List Fm → List Tm | [] => [] | f :: fs => f.atoms ++ Fm.atomss fs
end
theorem Fm.atomss_snoc (us : List Fm) (a : Fm) : Fm.atomss (us ++ [a]) = Fm.atomss us ++ a.atoms := by
  induction us with
  | nil => rw [List.nil_append, Fm.atomss, Fm.atomss, Fm.atomss, List.append_nil]; rfl
  | cons b us ih => rw [List.cons_append, Fm.atomss, Fm.atomss, ih, List.append_assoc]
mutual
theorem Fm.atoms_sz : ∀ f : Fm, f.atoms.length ≤ f.sz
  | .mk op a _ ps => by
    have := Fm.atomss_sz ps
    rw [Fm.atoms, Fm.sz]
    split
    · simp
    · omega
theorem Fm.atomss_sz : ∀ fs : List Fm, (Fm.atomss fs).length ≤ Fm.szs fs
  | [] => by simp [Fm.atomss]
  | f :: fs => by have := Fm.atoms_sz f; have := Fm.atomss_sz fs; rw [Fm.atomss, Fm.szs, List.length_append]; omega
end
theorem Fm.szs_take' (us : List Fm) (k : Nat) : Fm.szs (us.take k) + Fm.szs (us.drop k) = Fm.szs us := by
  induction us generalizing k with
  | nil => simp [Fm.szs]
  | cons a us ih =>
    cases k with
    | zero => simp [Fm.szs]
    | succ k => have := ih k; simp only [List.take_succ_cons, List.drop_succ_cons, Fm.szs]; omega
structure TC where
  t : Tm
  p : Option Addr
  c : Nat
def TC.cs (x : TC) : List Value := [.string x.t.n, .slice x.p x.t.us.length x.c]
def flatT (D : List TC) : List Value := D.flatMap TC.cs
theorem flatT_len : ∀ D : List TC, (flatT D).length = D.length * 2
  | [] => rfl
  | x :: D => by
    have := flatT_len D
    rw [flatT] at this
    rw [flatT, List.flatMap_cons, List.length_append, this, List.length_cons]
    show 2 + D.length * 2 = _; omega
theorem flatT_app (A B : List TC) : flatT (A ++ B) = flatT A ++ flatT B := by simp [flatT]
theorem flatT_cell (D : List TC) : ∀ u ∈ flatT D, u.oneCell' = true := by
  intro u hu
  rw [flatT, List.mem_flatMap] at hu
  obtain ⟨x, -, hx⟩ := hu
  simp only [TC.cs, List.mem_cons, List.not_mem_nil, or_false] at hx
  rcases hx with rfl | rfl <;> rfl
theorem flatT_at {D : List TC} {k : Nat} {y : TC} (h : D[k]? = some y) {i : Nat} (hi : i < 2) : (flatT D)[k * 2 + i]? = y.cs[i]? := by
  obtain ⟨hk, hy⟩ := List.getElem?_eq_some_iff.1 h
  have e : D = D.take k ++ y :: D.drop (k + 1) := by rw [← hy, ← List.drop_eq_getElem_cons hk, List.take_append_drop]
  have hl : (flatT (D.take k)).length = k * 2 := by rw [flatT_len, List.length_take]; congr 1; omega
  rw [e, flatT_app, List.getElem?_append_right (by omega), hl, Nat.add_sub_cancel_left]
  rw [flatT, List.flatMap_cons, List.getElem?_append_left (by show i < 2; exact hi)]
theorem rowT_cell {w : World} {base n c : Nat} {e : TypeId} {p : Option Addr} {D : List TC} (h : w.ownsRow base e 2 (.slice p n c) n (flatT D)) (h0 : 0 < n) : ∃ g, p = some ⟨g, 0, none⟩ ∧ base ≤ g ∧ g < w.heap.size ∧
    ∀ (k : Nat) (y : TC), D[k]? = some y → w.cell? ⟨g, k * 2, none⟩ = some (.string y.t.n) ∧ w.cell? ⟨g, k * 2 + 1, none⟩ = some (.slice y.p y.t.us.length y.c) := by
  rcases h.2 with ⟨hv, h1⟩ | ⟨g, cap, cur, hv, h1, h2, h3, h4, h5, h6⟩
  · omega
  · simp only [Value.slice.injEq, true_and] at hv
    obtain ⟨rfl, rfl⟩ := hv
    refine ⟨g, rfl, h1, blk_lt h2, fun k y hy => ?_⟩
    have key : ∀ i, i < 2 → w.cell? ⟨g, k * 2 + i, none⟩ = y.cs[i]? := fun i hi => by
      rw [cell_of_row w g (k * 2 + i) cur _ (0, 0) h2]
      have hk := flatT_at hy hi
      rw [← h6, List.getElem?_take] at hk
      split at hk
      · simpa using hk
      · rw [List.getElem?_eq_getElem (by show i < 2; exact hi)] at hk; cases hk
    exact ⟨key 0 (by omega), key 1 (by omega)⟩
theorem row_one2 (w : World) (base : Nat) (e : TypeId) (x0 x1 : Value) (hb : base ≤ w.heap.size) : (w.alloc (.cells #[x0, x1] e)).ownsRow base e 2 (.slice (some ⟨w.heap.size, 0, none⟩) 1 1) 1 [x0, x1] :=
  ⟨by simp, .inr ⟨w.heap.size, 1, #[x0, x1], rfl, hb, heap_alloc_new w _, Nat.le_refl _, by unfold maxLen; omega, by simp, by simp⟩⟩
theorem src_row {w : World} {base : Nat} {e : TypeId} {size n : Nat} {v : Value} {xs : List Value} (h : w.ownsRow base e size v n xs) : SrcIs w size v n xs := by
  rcases h.2 with ⟨rfl, h0⟩ | ⟨g, cap, cur, rfl, _⟩
  · obtain rfl := h0
    have hx : xs = [] := List.eq_nil_of_length_eq_zero (by rw [h.1]; simp)
    exact .inl ⟨rfl, rfl, hx⟩
  · have := src_head h (Nat.le_refl _) cap
    rwa [← h.1, List.take_length] at this
def AtP (e : TypeId) (base M : Nat) (ts : List Tm) (w : World) (en : Ending) (w' : World) : Prop := ∃ (v : Value) (D : List TC), en = .returned v ∧ w'.ownsRow w.heap.size e 2 v D.length (flatT D) ∧ D.map (·.t) = ts ∧ (∀ x ∈ D, TmAt (fun b => b < base) M w' x.t x.cs) ∧ Below w.heap.size w w'
theorem elemTmA : Elem Tryz.prog 24 26 2 40 := elem_of Tryz.underlying24 (z := .agg #[.string ⟨#[]⟩, .slice none 0 0]) (by kernel_rfl) rfl (by omega)
set_option maxHeartbeats 3200000 in
theorem atomsOf_any (base M : Nat) : ∀ (m : Nat) (t : Fm) (v0 v1 v2 v3 v4 : Value) (w : World), FmAt (fun b => b < base) m w t [v0, v1, v2, v3, v4] → m ≤ M → base ≤ w.heap.size → t.sz ≤ 1000000 →
      Calls Tryz.prog 37 #[.agg #[v0, v1, v2, v3, v4]] w (AtP 26 base M t.atoms w) := by
  intro m
  induction m with
  | zero => intro t v0 v1 v2 v3 v4 w h; exact h.elim
  | succ m ih =>
    rintro ⟨op, a, x, ps⟩ v0 v1 v2 v3 v4 w hfm hm hb hz
    have hl := fm_parts hfm
    have ha := hfm.atm
    obtain ⟨p, pc, q, d, rfl, rfl, rfl, rfl, rfl, -, -, -, -, hlen⟩ := hfm.form
    simp only [Fm.op, Fm.a, Fm.v, Fm.ps] at *
    unfold maxLen at hlen
    rw [Fm.sz] at hz
    have HA := Lib.hid ha
    have HL := Lib.hid hl
    have IH := Lib.hid ih
    clear hfm hl ha ih
    by_cases h3 : op = 3
    · subst h3
      go_enter Tryz.func37, Tryz.ntmps37
      go_wp2
      go_ret
      have hb2 : Below w.heap.size w ((w.alloc (.cells #[.int .i64 3, .string a.n, .slice p a.us.length pc, .string x, .slice q ps.length d] 29)).alloc (.cells #[.string a.n, .slice p a.us.length pc] 26)) := by exact bel
      refine ⟨_, [⟨a, p, pc⟩], rfl, ?_, by rw [Fm.atoms, if_pos rfl]; rfl, fun y hy => ?_, hb2⟩
      · have := row_one2 (w.alloc (.cells #[.int .i64 3, .string a.n, .slice p a.us.length pc, .string x, .slice q ps.length d] 29)) w.heap.size 26 (.string a.n) (.slice p a.us.length pc) (by simp)
        simpa [flatT, TC.cs] using this
      · simp only [List.mem_cons, List.not_mem_nil, or_false] at hy
        subst hy
        exact TmAt.mono (SameOn.below hb2) (fun _ h => h) _ _ _ _ (by omega) HA.out
    · have h3i : (op == 3) = false := by simpa using h3
      go_enter Tryz.func37, Tryz.ntmps37
      go_wp2
      obtain ⟨W, hW⟩ : ∃ W : World, W = (w.alloc (.cells #[.int .i64 op, .string a.n, .slice p a.us.length pc, .string x, .slice q ps.length d] 29)).alloc (.cells #[] 26) := ⟨_, rfl⟩
      have hsW : W.heap.size = w.heap.size + 2 := by rw [hW]; simp
      have hbW : Below w.heap.size w W := by rw [hW]; exact bel
      have HR0 := Lib.hid (show W.ownsRow (w.heap.size + 1) 26 2 (.slice (some ⟨w.heap.size + 1, 0, none⟩) 0 0) 0 [] by
        have := row_empty (w.alloc (.cells #[.int .i64 op, .string a.n, .slice p a.us.length pc, .string x, .slice q ps.length d] 29)) (w.heap.size + 1) 26 2 (by simp)
        rw [hW]; simpa using this)
      have HLW := Lib.hid (HL.out.mono (SameOn.below hbW) (fun _ h => h) (fun x cs _ hx => FmAt.below hbW hx))
      rw [← hW]
      clear hW
      go_loopw [3, 16] (fun y i wr => ∃ (k : Nat) (v' : Value) (D : List TC), k ≤ ps.length ∧ i = .int .i64 k ∧ y = v' ∧ wr.ownsRow (w.heap.size + 1) 26 2 v' D.length (flatT D) ∧ D.map (·.t) = Fm.atomss (ps.take k) ∧ (∀ x ∈ D, TmAt (fun b => b < base) M wr x.t x.cs) ∧ Below (w.heap.size + 1) W wr) (fun _ i _ => ps.length - (intOf i).toNat)
      case atStart => exact ⟨0, _, [], Nat.zero_le _, rfl, rfl, HR0.out, by rw [List.take_zero, Fm.atomss]; rfl, fun x hx => by simp at hx, Below.refl _ _⟩
      case round =>
        obtain ⟨k, v', D, hk, rfl, hxv, hr, hD, hT, hbr⟩ := hrel
        replace hxv := hxv.symm
        subst hxv
        have HR := Lib.hid hr
        have HD := Lib.hid hD
        have HT := Lib.hid hT
        have HB := Lib.hid hbr
        have hzr := hbr.size
        have hsame : SameOn (fun b => b < base) W wr := fun b hb' hl => hbr.block b (by omega)
        clear hr hD hT hbr
        by_cases hlt : k < ps.length
        · have hlti : (k : Int) < ps.length := by omega
          obtain ⟨b, o, hpe, hBb, x0, x1, x2, x3, x4, hx0, hx1, hx2, hx3, hx4, hx⟩ := (HLW.out.mono hsame (fun _ h => h) (fun x cs _ hx => FmAt.mono hsame (fun _ h => h) _ _ _ _ (Nat.le_refl _) hx)).at5 hlt
          obtain ⟨y, hy⟩ : ∃ y, ps[k] = y := ⟨_, rfl⟩
          have HTK := Lib.hid (show ps.take (k + 1) = ps.take k ++ [y] by rw [List.take_succ_eq_append_getElem hlt, hy])
          have hszk : Fm.szs (ps.take k) + y.sz ≤ Fm.szs ps := by
            have h1 := Fm.szs_take' ps (k + 1)
            rw [HTK.out] at h1
            have h2 : ∀ l : List Fm, Fm.szs (l ++ [y]) = Fm.szs l + y.sz := fun l => by
              induction l with
              | nil => simp [Fm.szs]
              | cons z l ih => rw [List.cons_append, Fm.szs, Fm.szs, ih]; omega
            rw [h2] at h1; omega
          have hDl : D.length ≤ Fm.szs (ps.take k) := by
            have h1 := congrArg List.length HD.out
            rw [List.length_map] at h1
            have h2 := Fm.atomss_sz (ps.take k)
            omega
          rw [hy] at hx
          obtain ⟨py, cy, qy, dy, rfl, rfl, rfl, rfl, rfl, -⟩ := hx.form
          have HX := Lib.hid hx
          have zb := bsz (World.block_lt_of_cell? _ _ hx0)
          subst hpe
          clear hx hy hsame
          go_wp2_with fail
          obtain ⟨Y, hY⟩ : ∃ q', q' = wr.alloc (.cells #[.int .i64 y.op, .string y.a.n, .slice py y.a.us.length cy, .string y.v, .slice qy y.ps.length dy] 29) := ⟨_, rfl⟩
          have hbY : Below wr.heap.size wr Y := by rw [hY]; exact (Below.refl _ _).alloc (Nat.le_refl _) _
          have hzY := hbY.size
          rw [← hY]
          clear hY
          refine (IH.out y _ _ _ _ _ Y (FmAt.below hbY HX.out) (by omega) (by omega) (by omega)).mono ?_
          rintro e w2 ⟨v2, D2, rfl, h2, h3, h4, h5⟩
          have hb2 := Below.step (show Below wr.heap.size wr Y from hbY) h5
          have HR2 := Lib.hid (own_below HR.out hb2)
          have HS2 := Lib.hid (src_row h2)
          have H3 := Lib.hid h3
          have H4 := Lib.hid h4
          have HB2 := Lib.hid hb2
          have hz2 := hb2.size
          have hD2 : D2.length ≤ y.sz := by
            have h1 := congrArg List.length h3
            rw [List.length_map] at h1
            have h2 := Fm.atoms_sz y
            omega
          clear h2 h3 h4 h5 hb2
          go_wp2_with (at_builtin; refine wpList_app rfl (.tmp 20) (.tmp 22) 24 rfl (w.heap.size + 1) 26 2 40 elemTmA v' D.length (flatT D) rfl v2 D2.length (flatT D2) rfl HS2.out HR2.out (flatT_cell _) (by omega) (by unfold maxLen; omega) (by omega) ?_; intro v3 w3 hr3 hg3 hn3)
          have hz3 := hg3.size
          have hvb : ∀ b, v'.ownBlock = some b → w.heap.size + 1 ≤ b := fun b hb => own_base HR2.out b hb
          have s3 : SameOn (fun b => b < base) w2 w3 := fun b hb' hl => hg3.block b hl (fun e => by have := hvb b e.symm; omega)
          have HB3 := Lib.hid (show Below (w.heap.size + 1) W w3 from by
            have h1 := HB.out
            have h2 := HB2.out
            exact ⟨hg3.os.trans (h2.os.trans h1.os), hg3.tape.trans (h2.tape.trans h1.tape), hg3.output.trans (h2.output.trans h1.output), by omega, fun b hb' => (hg3.block b (by omega) (fun e => by have := hvb b e.symm; omega)).trans ((h2.block b (by omega)).trans (h1.block b hb'))⟩)
          refine ⟨⟨k + 1, v3, D ++ D2, by omega, by go_num, by first | rfl | go_simp, by rw [List.length_append, flatT_app]; exact hr3, by rw [List.map_append, HD.out, H3.out, HTK.out, Fm.atomss_snoc], fun z hz => ?_, HB3.out⟩, by simp [intOf]; omega⟩
          rcases List.mem_append.1 hz with hz | hz
          · exact TmAt.mono s3 (fun _ h => h) _ _ _ _ (Nat.le_refl _) (TmAt.below HB2.out (HT.out z hz))
          · exact TmAt.mono s3 (fun _ h => h) _ _ _ _ (Nat.le_refl _) (H4.out z hz)
        · obtain rfl : k = ps.length := by omega
          go_wp2
          go_ret
          refine ⟨v', D, ?_, own_lower HR.out (by omega), by rw [HD.out, List.take_length, Fm.atoms, if_neg h3], HT.out, hbW.trans (HB.out.mono (by omega))⟩
          first | rfl | go_simp
set_option maxHeartbeats 3200000 in
theorem symbolsIn_any (base M : Nat) (t : Fm) (v0 v1 v2 v3 v4 : Value) (w : World) (h : FmAt (fun b => b < base) M w t [v0, v1, v2, v3, v4]) (hb : base ≤ w.heap.size) (hz : t.sz ≤ 1000000) (hsz : Tm.szs t.atoms ≤ 1000000) :
    Calls Tryz.prog 14 #[.slice none 0 0, .agg #[v0, v1, v2, v3, v4]] w fun e w' => ∃ v', e = .returned v' ∧ w'.ownsRow w.heap.size 9 1 v' (Tm.symIs t.atoms []).length (strW (Tm.symIs t.atoms [])) ∧ (∀ s ∈ Tm.symIs t.atoms [], s.size ≤ maxLen) ∧ Below w.heap.size w w' := by
  obtain ⟨p, pc, q, d, rfl, rfl, rfl, rfl, rfl, -⟩ := h.form
  obtain ⟨W, hW⟩ : ∃ W : World, W = w.alloc (.cells #[.int .i64 t.op, .string t.a.n, .slice p t.a.us.length pc, .string t.v, .slice q t.ps.length d] 29) := ⟨_, rfl⟩
  have hbW : Below w.heap.size w W := by rw [hW]; exact bel
  have hsW : W.heap.size = w.heap.size + 1 := by rw [hW]; simp
  have H := Lib.hid (FmAt.below hbW h)
  have HSZ := Lib.hid hsz
  clear h hsz
  go_enter Tryz.func14, Tryz.ntmps14
  go_wp2_with fail
  rw [← hW]
  clear hW
  refine (atomsOf_any base M M t _ _ _ _ _ W H.out (Nat.le_refl _) (by omega) hz).mono ?_
  rintro e w1 ⟨v, D, rfl, hr, hD, hT, hb1⟩
  obtain ⟨pv, cv, rfl⟩ := own_slice hr
  obtain ⟨ts, hts⟩ : ∃ ts, ts = t.atoms := ⟨_, rfl⟩
  rw [← hts] at hD HSZ
  have HTS := Lib.hid hts
  have hDl : ts.length = D.length := by rw [← hD, List.length_map]
  have HR := Lib.hid hr
  have HD := Lib.hid hD
  have HT := Lib.hid hT
  have hb01 := Below.step hbW hb1
  have hz1 := hb1.size
  have hdm : D.length ≤ 1000000 := by
    have h1 := Fm.atoms_sz t
    rw [← hts] at h1; omega
  clear hr hD hT hts
  go_wp2
  go_loopw [0, 10] (fun y i wr => ∃ (k : Nat) (v' : Value) (L' : List ByteArray), k ≤ ts.length ∧ i = .int .i64 k ∧ y = v' ∧ Tm.symIs ts [] = Tm.symIs (ts.drop k) L' ∧ L'.length + Tm.szs (ts.drop k) ≤ 1000000 ∧ (∀ s ∈ L', s.size ≤ maxLen) ∧ GrS 9 w1.heap.size w1 (.slice none 0 0) L' v' wr) (fun _ i _ => ts.length - (intOf i).toNat)
  case atStart => exact ⟨0, _, [], Nat.zero_le _, rfl, rfl, rfl, by rw [List.drop_zero]; have := HSZ.out; simpa using this, fun s hs => by simp at hs, GrS.refl ⟨by simp [strW], .inl ⟨rfl, rfl⟩⟩⟩
  case round =>
    obtain ⟨k, v', L', hk, rfl, hxv, heq, hlz, hls, hg⟩ := hrel
    replace hxv := hxv.symm
    subst hxv
    have HGS := Lib.hid hg
    have HEQ := Lib.hid heq
    have HL' := Lib.hid hls
    have hzr := hg.gr.size
    have HBR := Lib.hid (show Below w1.heap.size w1 wr from ⟨hg.gr.os, hg.gr.tape, hg.gr.output, hg.gr.size, fun b hb' => hg.gr.block b hb' (by simp [Value.ownBlock])⟩)
    clear hg heq hls
    by_cases hlt : k < D.length
    · have hlti : (k : Int) < D.length := by omega
      have hlt2 : k < ts.length := by omega
      obtain ⟨g, hpe, hg1, hg2, hcell⟩ := rowT_cell HR.out (by omega)
      obtain ⟨x0, x1⟩ := hcell k D[k] (List.getElem?_eq_getElem hlt)
      have hxt := HT.out D[k] (List.getElem_mem hlt)
      have hdk := Tm.symIs_drop (l := L') hlt2
      have hsk := Tm.szs_drop' hlt2
      have hek : ts[k] = D[k].t := by
        have := HD.out
        subst this
        simp
      rw [hek] at hdk hsk
      obtain ⟨y, hy⟩ : ∃ y, D[k] = y := ⟨_, rfl⟩
      rw [hy] at x0 x1 hxt hdk hsk
      have HDK := Lib.hid hdk
      have HX := Lib.hid (show TmAt (fun b => b < base) M wr y.t [.string y.t.n, .slice y.p y.t.us.length y.c] from TmAt.mono (fun b hb' hl => HBR.out.block b (by omega)) (fun _ h => h) _ _ _ _ (Nat.le_refl _) hxt)
      replace x0 := cellQ HBR.out x0
      replace x1 := cellQ HBR.out x1
      have zb := bsz (World.block_lt_of_cell? _ _ x0)
      have hyl := Tm.symI_len y.t L'
      subst hpe
      clear hcell hxt hdk hek hy
      go_wp2_with fail
      obtain ⟨Y, hY⟩ : ∃ q, q = wr.alloc (.cells #[.string y.t.n, .slice y.p y.t.us.length y.c] 26) := ⟨_, rfl⟩
      have hbY : Below wr.heap.size wr Y := by rw [hY]; exact (Below.refl _ _).alloc (Nat.le_refl _) _
      have hzY := hbY.size
      rw [← hY]
      clear hY
      refine (symbolsOf_any w1.heap.size M y.t _ _ _ L' Y (TmAt.mono (SameOn.below hbY) (fun b hb' => by have : b < base := hb'; omega) _ _ _ _ (Nat.le_refl _) HX.out) (by omega) (own_below HGS.out.row hbY) HL'.out (by omega)).mono ?_
      rintro e w2 ⟨v2, rfl, h2, h3⟩
      have HT2 := Lib.hid ((HGS.out.be hbY).trans h2)
      have H3 := Lib.hid h3
      clear h2 h3
      go_wp2
      exact ⟨⟨k + 1, _, y.t.symI L', by omega, by go_num, rfl, by rw [HEQ.out, HDK.out], by omega, H3.out, HT2.out⟩, by simp [intOf]; omega⟩
    · obtain rfl : k = ts.length := by omega
      have hlti : ¬ (ts.length : Int) < D.length := by omega
      rw [List.drop_length] at HEQ
      have HSY := Lib.hid (show Tm.symIs ts [] = L' by rw [HEQ.out, Tm.symIs])
      go_wp2
      go_ret
      refine ⟨v', ?_, by rw [← HTS.out, HSY.out]; exact own_lower HGS.out.row (by omega), by rw [← HTS.out, HSY.out]; exact HL'.out, Below.step hb01 HBR.out⟩
      first | rfl | go_simp
def addV (l : List ByteArray) (n : ByteArray) : List ByteArray := if inS l n then l else l ++ [n]
mutual
def Tm.colI : Tm → List ByteArray → List ByteArray | .mk n us, l => if us.isEmpty && varB n.data.toList then addV l n else Tm.colIs us l
def Tm.colIs : List Tm → List ByteArray → List ByteArray | [], l => l | a :: us, l => Tm.colIs us (a.colI l)
end
theorem addV_len (l : List ByteArray) (n : ByteArray) : (addV l n).length ≤ l.length + 1 := by
  rw [addV]; split
  · omega
  · simp
mutual
theorem Tm.colI_len : ∀ (t : Tm) (l : List ByteArray), (t.colI l).length ≤ l.length + t.sz
  | .mk n us, l => by
    have := Tm.colIs_len us l
    have := addV_len l n
    rw [Tm.colI, Tm.sz]
    split <;> omega
theorem Tm.colIs_len : ∀ (us : List Tm) (l : List ByteArray), (Tm.colIs us l).length ≤ l.length + Tm.szs us
  | [], l => by rw [Tm.colIs, Tm.szs]; omega
  | a :: us, l => by have := Tm.colIs_len us (a.colI l); have := Tm.colI_len a l; rw [Tm.colIs, Tm.szs]; omega
end
theorem Tm.colIs_drop {us : List Tm} {k : Nat} {l : List ByteArray} (h : k < us.length) : Tm.colIs (us.drop k) l = Tm.colIs (us.drop (k + 1)) (us[k].colI l) := by rw [List.drop_eq_getElem_cons h, Tm.colIs]
theorem ords_get : ∀ {us : List Tm} {k : Nat} (_ : Tm.ords us = true) (h : k < us.length), us[k].ord = true
  | [], _, _, h => by simp at h
  | a :: us, 0, hf, _ => by rw [Tm.ords, Bool.and_eq_true] at hf; exact hf.1
  | a :: us, k + 1, hf, h => by rw [Tm.ords, Bool.and_eq_true] at hf; exact ords_get (us := us) hf.2 (by simpa using h)
set_option maxHeartbeats 3200000 in
theorem collect_any (base : Nat) : ∀ (m : Nat) (t : Tm) (v0 v1 v : Value) (l : List ByteArray) (w : World), TmAt (fun b => b < base) m w t [v0, v1] → t.ord = true → base ≤ w.heap.size → w.ownsRow base 9 1 v l.length (strW l) → (∀ s ∈ l, s.size ≤ maxLen) → l.length + t.sz ≤ 1000000 →
      Calls Tryz.prog 70 #[v, .agg #[v0, v1]] w (SymQ 9 base v (t.colI l) w) := by
  intro m
  induction m with
  | zero => intro t v0 v1 v l w h; exact h.elim
  | succ m ih =>
    rintro ⟨n, us⟩ v0 v1 v l w hat hord hb hr hls hz
    have HAT := Lib.hid hat
    obtain ⟨va, he, hn, hl⟩ := hat
    simp only [List.cons.injEq, and_true] at he
    obtain ⟨rfl, rfl⟩ := he
    obtain ⟨p, c, rfl, hlen⟩ := hl.form
    unfold maxLen at hlen
    rw [Tm.sz] at hz
    have HN := Lib.hid hn
    have IH := Lib.hid ih
    have HLS := Lib.hid hls
    have HORD0 := Lib.hid hord
    have HORD := Lib.hid (show Tm.ords us = true by have h := hord; rw [Tm.ord, Bool.and_eq_true] at h; exact h.2)
    obtain ⟨W, hW⟩ : ∃ W : World, W = w.alloc (.cells #[.string n, .slice p us.length c] 26) := ⟨_, rfl⟩
    have hbW : Below w.heap.size w W := by rw [hW]; exact bel
    have hsW : W.heap.size = w.heap.size + 1 := by rw [hW]; simp
    have A0 : W.heap[w.heap.size]? = some (.cells #[.string n, .slice p us.length c] 26 (0, 0)) := by rw [hW]; exact heap_alloc_new w _
    have hvb : ∀ b, v.ownBlock = some b → base ≤ b ∧ b < w.heap.size := fun b hb => ⟨own_base hr b hb, own_lt' hr hb⟩
    have HVB := Lib.hid hvb
    have HR := Lib.hid (own_below hr hbW)
    have HL := Lib.hid (hl.mono (SameOn.below hbW) (fun _ h => h) (fun x cs _ hx => TmAt.below hbW hx))
    have HG0 := Lib.hid (show GrS 9 base w v l v W from ⟨own_below hr hbW, ⟨hbW.os, hbW.tape, hbW.output, hbW.size, fun b hb _ => hbW.block b hb⟩, .inl rfl⟩)
    have hlm : l.length ≤ maxLen := by unfold maxLen; omega
    have HSA := Lib.hid ((rowS_own (S := fun b => v.ownBlock = some b) HR.out hls hlm (fun _ h => h)).at_)
    have HATW := Lib.hid (TmAt.below hbW HAT.out)
    obtain ⟨a0, a1, af⟩ := cells2_cell A0
    have za := bsz (show w.heap.size < W.heap.size by omega)
    clear hn ih hl hr hvb hls hlm hord
    by_cases h0 : us.length = 0
    · have h0i : ((us.length : Int) == 0) = true := by rw [h0]; rfl
      have hus : us = [] := List.length_eq_zero_iff.1 h0
      cases hv : varB n.data.toList
      · have HS := Lib.hid (show (Tm.mk n us).colI l = Tm.colIs us l by rw [Tm.colI, hv, Bool.and_false, if_neg (by decide)])
        have HV := Lib.hid hv
        clear hv hus h0
        go_enter Tryz.func70, Tryz.ntmps70
        go_wp2_with fail
        rw [← hW]
        clear hW
        refine (isVar_any (m + 1) (.mk n us) _ _ W HATW.out HORD0.out).mono ?_
        rintro e w1 ⟨rfl, hb1⟩
        rw [show varB (Tm.mk n us).n.data.toList = false from HV.out]
        have hst : GrS 9 base W v l v w1 := (GrS.refl HR.out).be hb1
        have hA1 := (hb1.block w.heap.size (by omega)).trans A0
        clear a0 a1 af za
        obtain ⟨a0, a1, af⟩ := cells2_cell hA1
        have za := bsz (blk_lt hA1)
        go_wp2
        clear h0i
        have HST := Lib.hid (hst)
        have HLZ := Lib.hid (show ∀ s ∈ l, s.size ≤ maxLen from HLS.out)
        (try clear a0 a1 af za)
        go_loopw [0, 29] (fun y i wr => ∃ (k : Nat) (v' : Value) (L' : List ByteArray), k ≤ us.length ∧ i = .int .i64 k ∧ y = v' ∧ Tm.colIs us (l) = Tm.colIs (us.drop k) L' ∧ L'.length + Tm.szs (us.drop k) ≤ 1000000 ∧ (∀ s ∈ L', s.size ≤ maxLen) ∧ GrS 9 base W v L' v' wr) (fun _ i _ => us.length - (intOf i).toNat)
        case atStart => exact ⟨0, _, l, Nat.zero_le _, rfl, rfl, rfl, by rw [List.drop_zero]; omega, HLZ.out, HST.out⟩
        case round =>
          obtain ⟨k, v', L', hk, rfl, hxv, heq, hlz, hls, hg⟩ := hrel
          replace hxv := hxv.symm
          subst hxv
          have HGS := Lib.hid hg
          have HEQ := Lib.hid heq
          have HL' := Lib.hid hls
          have hzr := hg.gr.size
          clear hg heq hls
          by_cases hlt : k < us.length
          · have hlti : (k : Int) < us.length := by omega
            have hsame : SameOn (fun b => b < base) W wr := fun b hb hl => HGS.out.keep hl (fun e => by have := (HVB.out b e).1; omega)
            obtain ⟨b, o, hpe, hB, x0, x1, hx0, hx1, hx⟩ := (HL.out.mono hsame (fun _ h => h) (fun x cs _ hx => TmAt.mono hsame (fun _ h => h) _ _ _ _ (Nat.le_refl _) hx)).at2 hlt
            have hdk := Tm.colIs_drop (l := L') hlt
            have hsk := Tm.szs_drop' hlt
            have hord := ords_get HORD.out hlt
            obtain ⟨y, hy⟩ : ∃ y, us[k] = y := ⟨_, rfl⟩
            rw [hy] at hx hdk hsk hord
            have HDK := Lib.hid hdk
            obtain ⟨py, cy, rfl, rfl, -⟩ := hx.form
            have HX := Lib.hid hx
            have HORD2 := Lib.hid hord
            have zb := bsz (World.block_lt_of_cell? _ _ hx0)
            have hyl := Tm.colI_len y L'
            subst hpe
            clear hx hy hsame hdk hord
            go_wp2_with fail
            obtain ⟨Y, hY⟩ : ∃ q, q = wr.alloc (.cells #[.string y.n, .slice py y.us.length cy] 26) := ⟨_, rfl⟩
            have hbY : Below wr.heap.size wr Y := by rw [hY]; exact (Below.refl _ _).alloc (Nat.le_refl _) _
            have hzY := hbY.size
            rw [← hY]
            clear hY
            refine (IH.out y _ _ _ L' Y (TmAt.below hbY HX.out) HORD2.out (by omega) (own_below HGS.out.row hbY) HL'.out (by omega)).mono ?_
            rintro e w2 ⟨v2, rfl, h2, h3⟩
            have HT := Lib.hid ((HGS.out.be hbY).trans h2)
            have H3 := Lib.hid h3
            clear h2 h3
            go_wp2
            exact ⟨⟨k + 1, _, y.colI L', by omega, by go_num, rfl, by rw [HEQ.out, HDK.out], by omega, H3.out, HT.out⟩, by simp [intOf]; omega⟩
          · obtain rfl : k = us.length := by omega
            have HT := Lib.hid (HG0.out.trans HGS.out)
            rw [List.drop_length] at HEQ
            have HSY := Lib.hid (show (Tm.mk n us).colI l = L' by rw [HS.out, HEQ.out, Tm.colIs])
            go_wp2
            go_ret
            refine ⟨v', ?_, by rw [HSY.out]; exact HT.out, by rw [HSY.out]; exact HL'.out⟩
            first | rfl | go_simp
      · have HV := Lib.hid hv
        have HS := Lib.hid (show (Tm.mk n us).colI l = addV l n by rw [Tm.colI, hv, hus]; rfl)
        clear hus h0 hv
        cases hi : inS l n
        all_goals
          have HI := Lib.hid hi
          clear hi
          go_enter Tryz.func70, Tryz.ntmps70
          go_wp2_with fail
          rw [← hW]
          clear hW
          refine (isVar_any (m + 1) (.mk n us) _ _ W HATW.out HORD0.out).mono ?_
          rintro e w1 ⟨rfl, hb1⟩
          rw [show varB (Tm.mk n us).n.data.toList = true from HV.out]
          have hA1 := (hb1.block w.heap.size (by omega)).trans A0
          clear a0 a1 af za
          obtain ⟨a0, a1, af⟩ := cells2_cell hA1
          have za := bsz (blk_lt hA1)
          go_wp2_with fail
          refine (containsS_any l v n w1 (HSA.out.below hb1)).mono ?_
          rintro e w2 ⟨rfl, hb2⟩
          rw [HI.out]
          have hA2 := (hb2.block w.heap.size (blk_lt hA1)).trans hA1
          clear a0 a1 af za
          obtain ⟨a0, a1, af⟩ := cells2_cell hA2
          have za := bsz (blk_lt hA2)
          have hst0 : GrS 9 base W v l v w2 := ((GrS.refl HR.out).be hb1).be hb2
          have HST0 := Lib.hid hst0
          have hz2 := hst0.gr.size
          clear hst0
        · have HQ := Lib.hid (show addV l n = l ++ [n] by rw [addV, HI.out]; rfl)
          go_wp2_with (at_builtin; refine wpList_app1 rfl (.tmp 20) (.tmp 23) _ rfl base 9 1 16 elemStr _ _ (strW l) rfl w2 #[.string n] rfl _ rfl rfl HST0.out.row rfl (by simp [Value.oneCell']) (by omega) (by unfold maxLen; omega) (by omega) ?_; intro v3 w3 hown3 hg3 hnr3 hlt3)
          have HST := Lib.hid (HG0.out.trans (HST0.out.trans (show GrS 9 base w2 v (l ++ [n]) v3 w3 from ⟨by rw [strW_snoc, List.length_append]; exact hown3, hg3, hnr3⟩)))
          go_ret
          refine ⟨v3, ?_, by rw [HS.out, HQ.out]; exact HST.out, by rw [HS.out, HQ.out]; exact fun s hs => (List.mem_append.1 hs).elim (HLS.out s) (fun h => by simp at h; subst h; exact HN.out)⟩
          first | rfl | go_simp
        · have HQ := Lib.hid (show addV l n = l by rw [addV, HI.out]; rfl)
          have HST := Lib.hid (HG0.out.trans HST0.out)
          go_wp2
          go_ret
          refine ⟨v, ?_, by rw [HS.out, HQ.out]; exact HST.out, by rw [HS.out, HQ.out]; exact HLS.out⟩
          first | rfl | go_simp
    · have h0i : ((us.length : Int) == 0) = false := by rw [beq_eq_false_iff_ne]; omega
      have HS := Lib.hid (show (Tm.mk n us).colI l = Tm.colIs us l by
        rw [Tm.colI, if_neg]
        rw [Bool.and_eq_true]
        intro h
        exact h0 (by rw [List.isEmpty_iff.1 h.1]; rfl))
      have hst : GrS 9 base W v l v W := GrS.refl HR.out
      go_enter Tryz.func70, Tryz.ntmps70
      go_wp2_with fail
      rw [← hW]
      clear hW
      go_wp2
      clear h0i
      have HST := Lib.hid (hst)
      have HLZ := Lib.hid (show ∀ s ∈ l, s.size ≤ maxLen from HLS.out)
      (try clear a0 a1 af za)
      go_loopw [0, 29] (fun y i wr => ∃ (k : Nat) (v' : Value) (L' : List ByteArray), k ≤ us.length ∧ i = .int .i64 k ∧ y = v' ∧ Tm.colIs us (l) = Tm.colIs (us.drop k) L' ∧ L'.length + Tm.szs (us.drop k) ≤ 1000000 ∧ (∀ s ∈ L', s.size ≤ maxLen) ∧ GrS 9 base W v L' v' wr) (fun _ i _ => us.length - (intOf i).toNat)
      case atStart => exact ⟨0, _, l, Nat.zero_le _, rfl, rfl, rfl, by rw [List.drop_zero]; omega, HLZ.out, HST.out⟩
      case round =>
        obtain ⟨k, v', L', hk, rfl, hxv, heq, hlz, hls, hg⟩ := hrel
        replace hxv := hxv.symm
        subst hxv
        have HGS := Lib.hid hg
        have HEQ := Lib.hid heq
        have HL' := Lib.hid hls
        have hzr := hg.gr.size
        clear hg heq hls
        by_cases hlt : k < us.length
        · have hlti : (k : Int) < us.length := by omega
          have hsame : SameOn (fun b => b < base) W wr := fun b hb hl => HGS.out.keep hl (fun e => by have := (HVB.out b e).1; omega)
          obtain ⟨b, o, hpe, hB, x0, x1, hx0, hx1, hx⟩ := (HL.out.mono hsame (fun _ h => h) (fun x cs _ hx => TmAt.mono hsame (fun _ h => h) _ _ _ _ (Nat.le_refl _) hx)).at2 hlt
          have hdk := Tm.colIs_drop (l := L') hlt
          have hsk := Tm.szs_drop' hlt
          have hord := ords_get HORD.out hlt
          obtain ⟨y, hy⟩ : ∃ y, us[k] = y := ⟨_, rfl⟩
          rw [hy] at hx hdk hsk hord
          have HDK := Lib.hid hdk
          obtain ⟨py, cy, rfl, rfl, -⟩ := hx.form
          have HX := Lib.hid hx
          have HORD2 := Lib.hid hord
          have zb := bsz (World.block_lt_of_cell? _ _ hx0)
          have hyl := Tm.colI_len y L'
          subst hpe
          clear hx hy hsame hdk hord
          go_wp2_with fail
          obtain ⟨Y, hY⟩ : ∃ q, q = wr.alloc (.cells #[.string y.n, .slice py y.us.length cy] 26) := ⟨_, rfl⟩
          have hbY : Below wr.heap.size wr Y := by rw [hY]; exact (Below.refl _ _).alloc (Nat.le_refl _) _
          have hzY := hbY.size
          rw [← hY]
          clear hY
          refine (IH.out y _ _ _ L' Y (TmAt.below hbY HX.out) HORD2.out (by omega) (own_below HGS.out.row hbY) HL'.out (by omega)).mono ?_
          rintro e w2 ⟨v2, rfl, h2, h3⟩
          have HT := Lib.hid ((HGS.out.be hbY).trans h2)
          have H3 := Lib.hid h3
          clear h2 h3
          go_wp2
          exact ⟨⟨k + 1, _, y.colI L', by omega, by go_num, rfl, by rw [HEQ.out, HDK.out], by omega, H3.out, HT.out⟩, by simp [intOf]; omega⟩
        · obtain rfl : k = us.length := by omega
          have HT := Lib.hid (HG0.out.trans HGS.out)
          rw [List.drop_length] at HEQ
          have HSY := Lib.hid (show (Tm.mk n us).colI l = L' by rw [HS.out, HEQ.out, Tm.colIs])
          go_wp2
          go_ret
          refine ⟨v', ?_, by rw [HSY.out]; exact HT.out, by rw [HSY.out]; exact HL'.out⟩
          first | rfl | go_simp
theorem insG_stop {α : Type} {lt : α → α → Bool} (x : α) : ∀ (P : List α) (j : Nat), (∀ y ∈ P.take j, lt y x = true) → (P.length ≤ j ∨ ∃ h : j < P.length, lt P[j] x = false) → insG lt P x = P.take j ++ x :: P.drop j
  | [], j, _, _ => by simp [insG]
  | p :: P, 0, _, h2 => by
    rcases h2 with h2 | ⟨_, h2⟩
    · simp at h2
    · simp only [List.getElem_cons_zero] at h2
      simp [insG, h2]
  | p :: P, j + 1, h1, h2 => by
    have hp := h1 p (by simp)
    have ih := insG_stop x P j (fun y hy => h1 y (by rw [List.take_succ_cons]; exact List.mem_cons_of_mem _ hy)) (by
      rcases h2 with h2 | ⟨h3, h2⟩
      · exact .inl (by simpa using h2)
      · exact .inr ⟨by simpa using h3, by simpa using h2⟩)
    rw [insG] at ih
    rw [insG, List.takeWhile_cons, List.dropWhile_cons, hp]
    simp only [if_true, List.cons_append, List.take_succ_cons, List.drop_succ_cons]
    rw [ih]
theorem strW_take (l : List ByteArray) (k : Nat) : strW (l.take k) = (strW l).take k := by simp [strW, List.map_take]
theorem strW_drop (l : List ByteArray) (k : Nat) : strW (l.drop k) = (strW l).drop k := by simp [strW, List.map_drop]
theorem strW_cell (l : List ByteArray) : ∀ u ∈ strW l, u.oneCell' = true := by
  intro u hu
  rw [strW, List.mem_map] at hu
  obtain ⟨s, -, rfl⟩ := hu
  rfl
theorem strW_app (a b : List ByteArray) : strW (a ++ b) = strW a ++ strW b := by simp [strW]
theorem strW_cons (a : ByteArray) (b : List ByteArray) : strW (a :: b) = Value.string a :: strW b := rfl
theorem srcS_head {w : World} {base : Nat} {e : TypeId} {g c k : Nat} {l : List ByteArray} (h : w.ownsRow base e 1 (.slice (some ⟨g, 0, none⟩) l.length c) l.length (strW l)) (hk : k ≤ l.length) (c' : Nat) : SrcIs w 1 (.slice (some ⟨g, 0, none⟩) k c') k (strW (l.take k)) := by
  have := src_head h hk c'
  rw [Nat.mul_one] at this
  rw [strW_take]; exact this
theorem srcS_tail' {w w' : World} {base : Nat} {e : TypeId} {g c k m : Nat} {l : List ByteArray} (h : w.ownsRow base e 1 (.slice (some ⟨g, 0, none⟩) l.length c) l.length (strW l)) (hk : k ≤ l.length) (c' : Nat) (hm : m = l.length - k) (hb : Below w.heap.size w w') : SrcIs w' 1 (.slice (some ⟨g, k, none⟩) (l.length - k) c') m (strW (l.drop k)) := by
  have := (src_tail h hk c').below hb
  rw [Nat.mul_one] at this
  rw [strW_drop, hm]; exact this
theorem src_all {w : World} {base : Nat} {e : TypeId} {size g n c : Nat} {xs : List Value} (h : w.ownsRow base e size (.slice (some ⟨g, 0, none⟩) n c) n xs) : SrcIs w size (.slice (some ⟨g, 0, none⟩) n c) n xs := by
  have := src_head h (Nat.le_refl n) c
  rwa [← h.1, List.take_length] at this
def PutRel (l : List ByteArray) (x : ByteArray) (w : World) (i : Value) (wr : World) : Prop := ∃ k : Nat, k ≤ l.length ∧ i = .int .i64 k ∧ (∀ y ∈ l.take k, lessB y x = true) ∧ wr = w
end Go.Proofs.YtmbkjdkjemlfkaaGreatDoor
