import Derived.Test.YtmbkjdkjemlfkaaGreatDoorDfPart17
namespace Go.Proofs.YtmbkjdkjemlfkaaGreatDoor
set_option maxRecDepth 100000
open Go.RowKit
def hdOp : List Fm → Int | [] => 3 | p :: _ => p.op
theorem hdOp_get {ps : List Fm} (h : 0 < ps.length) : hdOp ps = ps[0].op := by cases ps with | nil => simp at h | cons p ps => rfl
mutual
def Fm.nnf : Fm → Bool | .mk op _ _ ps => !(op == 7 || op == 4 && hdOp ps != 3) && Fm.nnfs ps
def Fm.nnfs : List Fm → Bool | [] => true | f :: fs => f.nnf && Fm.nnfs fs
end
mutual
def Fm.has (o : Int) : Fm → Bool | .mk op _ _ ps => op == o || Fm.hass o ps
def Fm.hass (o : Int) : List Fm → Bool | [] => false | f :: fs => f.has o || Fm.hass o fs
end
theorem nnfs_drop {us : List Fm} {k : Nat} (h : k < us.length) : Fm.nnfs (us.drop k) = (us[k].nnf && Fm.nnfs (us.drop (k + 1))) := by rw [List.drop_eq_getElem_cons h, Fm.nnfs]
theorem hass_drop {o : Int} {us : List Fm} {k : Nat} (h : k < us.length) : Fm.hass o (us.drop k) = (us[k].has o || Fm.hass o (us.drop (k + 1))) := by rw [List.drop_eq_getElem_cons h, Fm.hass]
theorem forms_get : ∀ {us : List Fm} {k : Nat} (_ : Fm.forms us = true) (h : k < us.length), us[k].form = true
  | [], _, _, h => by simp at h
  | a :: us, 0, hf, _ => by rw [Fm.forms, Bool.and_eq_true] at hf; exact hf.1
  | a :: us, k + 1, hf, h => by rw [Fm.forms, Bool.and_eq_true] at hf; exact forms_get (us := us) hf.2 (by simpa using h)
theorem form_not {a : Tm} {x : ByteArray} {ps : List Fm} (h : (Fm.mk 4 a x ps).form = true) : 0 < ps.length := by
  cases ps with
  | nil => rw [Fm.form, Fm.form1] at h; simp [arity, Fm.op, Fm.ps] at h
  | cons p ps => simp
theorem fm_parts {B : Nat → Prop} {m : Nat} {w : World} {t : Fm} {v0 v1 v2 v3 v4 : Value} (h : FmAt B (m + 1) w t [v0, v1, v2, v3, v4]) : ListAt B w 5 (FmAt B m w) v4 t.ps := by
  obtain ⟨op, a, x, ps⟩ := t
  obtain ⟨vn, va, vp, hcs, -, -, -, hl⟩ := h
  simp only [List.cons.injEq, and_true] at hcs
  obtain ⟨-, -, -, -, rfl⟩ := hcs
  exact hl
set_option maxHeartbeats 3200000 in
theorem l9IsNnf_any {B : Nat → Prop} : ∀ (m : Nat) (t : Fm) (v0 v1 v2 v3 v4 : Value) (w : World), FmAt B m w t [v0, v1, v2, v3, v4] → t.form = true →
      Calls Tryz.prog 17 #[.agg #[v0, v1, v2, v3, v4]] w fun e w' => e = .returned (.bool t.nnf) ∧ Below w.heap.size w w' := by
  intro m
  induction m with
  | zero => intro t v0 v1 v2 v3 v4 w h; exact h.elim
  | succ m ih =>
    rintro ⟨op, a, x, ps⟩ v0 v1 v2 v3 v4 w hfm hf
    have hl := fm_parts hfm
    have hfs : Fm.forms ps = true := by rw [Fm.form, Bool.and_eq_true] at hf; exact hf.2
    obtain ⟨p, c, q, d, rfl, rfl, rfl, rfl, rfl, -, -, -, -, hlen⟩ := hfm.form
    simp only [Fm.op, Fm.a, Fm.v, Fm.ps] at *
    unfold maxLen at hlen
    have HL := Lib.hid hl
    have HFS := Lib.hid hfs
    have IH := Lib.hid ih
    clear hfm hl hfs ih
    by_cases h7 : op = 7
    · subst h7
      clear hf
      go_enter Tryz.func17, Tryz.ntmps17
      go_wp2
      go_ret
      exact ⟨ret_bool (by rw [Fm.nnf]; rfl), by exact bel⟩
    · have e7 : (op == 7) = false := by simpa using h7
      by_cases h4 : op = 4
      · subst h4
        have h0 := form_not hf
        obtain ⟨b, o, hq, hB, x0, x1, x2, x3, x4, hx0, -, -, -, -, hx⟩ := HL.out.at5 h0
        subst hq
        have hhd := hdOp_get h0
        obtain ⟨g, hg⟩ : ∃ g, ps[0] = g := ⟨_, rfl⟩
        rw [hg] at hx hhd
        obtain ⟨-, -, -, -, rfl, -⟩ := hx.form
        simp only [Nat.zero_mul, Nat.add_zero] at hx0
        have zb := bsz (World.block_lt_of_cell? _ _ hx0)
        have hi0 : (0 : Int) < ps.length := by omega
        clear hf hx hg
        by_cases h3 : g.op = 3
        · have HN := Lib.hid (show Fm.nnf (.mk 4 a x ps) = Fm.nnfs ps by rw [Fm.nnf, hhd, h3]; rfl)
          have e3 : (g.op != 3) = false := by simpa using h3
          clear hhd h3
          go_enter Tryz.func17, Tryz.ntmps17
          go_wp2
          clear hx0 zb e3
          obtain ⟨W, hW⟩ : ∃ W : World, W = w.alloc (.cells #[.int .i64 4, .string a.n, .slice p a.us.length c, .string x, .slice (some ⟨b, o, none⟩) ps.length d] 29) := ⟨_, rfl⟩
          have hsW : W.heap.size = w.heap.size + 1 := by rw [hW]; simp
          have hbW : Below w.heap.size w W := by rw [hW]; exact bel
          have A0 : W.heap[w.heap.size]? = some (.cells #[.int .i64 4, .string a.n, .slice p a.us.length c, .string x, .slice (some ⟨b, o, none⟩) ps.length d] 29 (0, 0)) := by rw [hW]; exact heap_alloc_new w _
          rw [← hW]
          clear hW
          have HLW := Lib.hid (HL.out.mono (SameOn.below hbW) (fun _ h => h) (fun x cs _ hx => FmAt.below hbW hx))
          go_loopw [3] (fun i wr => ∃ k : Nat, k ≤ ps.length ∧ i = .int .i64 k ∧ Fm.nnfs ps = Fm.nnfs (ps.drop k) ∧ Below W.heap.size W wr) (fun i _ => ps.length - (intOf i).toNat)
          case atStart => exact ⟨0, Nat.zero_le _, rfl, rfl, Below.refl _ _⟩
          case round =>
            obtain ⟨k, hk, rfl, he, hb⟩ := hrel
            have HE := Lib.hid he
            have hqr := hb.size
            have hwr : Below w.heap.size w wr := hbW.trans (hb.mono hbW.size)
            obtain ⟨a0, a1, a2, a3, a4⟩ := five_at ((hb.block _ (by omega)).trans A0)
            have za := bsz (show w.heap.size < wr.heap.size by omega)
            clear he
            by_cases hlt : k < ps.length
            · have hlti : (k : Int) < ps.length := by omega
              have HD := Lib.hid (nnfs_drop hlt)
              have hfk := forms_get HFS.out hlt
              obtain ⟨b', o', hqq, hB, x0, x1, x2, x3, x4, hx0, hx1, hx2, hx3, hx4, hx⟩ := (HLW.out.mono (SameOn.below hb) (fun _ h => h) (fun x cs _ hx => FmAt.below hb hx)).at5 hlt
              obtain ⟨y, hy⟩ : ∃ y, ps[k] = y := ⟨_, rfl⟩
              rw [hy] at hx HD hfk
              have HX := Lib.hid (And.intro hx hfk)
              have zb := bsz (World.block_lt_of_cell? _ _ hx0)
              first | subst hqq | (simp only [Option.some.injEq, Addr.mk.injEq, and_true] at hqq; obtain ⟨rfl, rfl⟩ := hqq)
              clear hx hy hfk
              cases hN : y.nnf
              all_goals
                have HNg := Lib.hid hN
                go_wp2_with fail
                refine (IH.out y _ _ _ _ _ _ HX.out.1 HX.out.2).mono ?_
                rintro e w1 ⟨rfl, hb1⟩
                rw [HNg.out]
                go_wp2
              · go_ret
                exact ⟨ret_bool (by rw [HN.out, HE.out, HD.out, HNg.out]; rfl), Below.step hwr hb1⟩
              · exact ⟨⟨k + 1, by omega, by go_num, by rw [HE.out, HD.out, HNg.out]; rfl, Below.step hb hb1⟩, by simp [intOf]; omega⟩
            · obtain rfl : k = ps.length := by omega
              have HE2 := Lib.hid (show Fm.nnfs ps = true by rw [HE.out, List.drop_length, Fm.nnfs])
              go_wp2
              go_ret
              exact ⟨ret_bool (by rw [HN.out, HE2.out]), hwr⟩
        · have HN := Lib.hid (show Fm.nnf (.mk 4 a x ps) = false by rw [Fm.nnf, hhd]; simp [h3])
          have e3 : (g.op != 3) = true := by simpa using h3
          clear hhd
          go_enter Tryz.func17, Tryz.ntmps17
          go_wp2
          go_ret
          exact ⟨ret_bool HN.out.symm, by exact bel⟩
      · have e4 : (op == 4) = false := by simpa using h4
        have HN := Lib.hid (show Fm.nnf (.mk op a x ps) = Fm.nnfs ps by rw [Fm.nnf, e7, e4]; simp)
        clear hf h4 h7
        go_enter Tryz.func17, Tryz.ntmps17
        go_wp2
        obtain ⟨W, hW⟩ : ∃ W : World, W = w.alloc (.cells #[.int .i64 op, .string a.n, .slice p a.us.length c, .string x, .slice q ps.length d] 29) := ⟨_, rfl⟩
        have hsW : W.heap.size = w.heap.size + 1 := by rw [hW]; simp
        have hbW : Below w.heap.size w W := by rw [hW]; exact bel
        have A0 : W.heap[w.heap.size]? = some (.cells #[.int .i64 op, .string a.n, .slice p a.us.length c, .string x, .slice q ps.length d] 29 (0, 0)) := by rw [hW]; exact heap_alloc_new w _
        rw [← hW]
        clear hW
        have HLW := Lib.hid (HL.out.mono (SameOn.below hbW) (fun _ h => h) (fun x cs _ hx => FmAt.below hbW hx))
        go_loopw [3] (fun i wr => ∃ k : Nat, k ≤ ps.length ∧ i = .int .i64 k ∧ Fm.nnfs ps = Fm.nnfs (ps.drop k) ∧ Below W.heap.size W wr) (fun i _ => ps.length - (intOf i).toNat)
        case atStart => exact ⟨0, Nat.zero_le _, rfl, rfl, Below.refl _ _⟩
        case round =>
          obtain ⟨k, hk, rfl, he, hb⟩ := hrel
          have HE := Lib.hid he
          have hqr := hb.size
          have hwr : Below w.heap.size w wr := hbW.trans (hb.mono hbW.size)
          obtain ⟨a0, a1, a2, a3, a4⟩ := five_at ((hb.block _ (by omega)).trans A0)
          have za := bsz (show w.heap.size < wr.heap.size by omega)
          clear he
          by_cases hlt : k < ps.length
          · have hlti : (k : Int) < ps.length := by omega
            have HD := Lib.hid (nnfs_drop hlt)
            have hfk := forms_get HFS.out hlt
            obtain ⟨b', o', hqq, hB, x0, x1, x2, x3, x4, hx0, hx1, hx2, hx3, hx4, hx⟩ := (HLW.out.mono (SameOn.below hb) (fun _ h => h) (fun x cs _ hx => FmAt.below hb hx)).at5 hlt
            obtain ⟨y, hy⟩ : ∃ y, ps[k] = y := ⟨_, rfl⟩
            rw [hy] at hx HD hfk
            have HX := Lib.hid (And.intro hx hfk)
            have zb := bsz (World.block_lt_of_cell? _ _ hx0)
            first | subst hqq | (simp only [Option.some.injEq, Addr.mk.injEq, and_true] at hqq; obtain ⟨rfl, rfl⟩ := hqq)
            clear hx hy hfk
            cases hN : y.nnf
            all_goals
              have HNg := Lib.hid hN
              go_wp2_with fail
              refine (IH.out y _ _ _ _ _ _ HX.out.1 HX.out.2).mono ?_
              rintro e w1 ⟨rfl, hb1⟩
              rw [HNg.out]
              go_wp2
            · go_ret
              exact ⟨ret_bool (by rw [HN.out, HE.out, HD.out, HNg.out]; rfl), Below.step hwr hb1⟩
            · exact ⟨⟨k + 1, by omega, by go_num, by rw [HE.out, HD.out, HNg.out]; rfl, Below.step hb hb1⟩, by simp [intOf]; omega⟩
          · obtain rfl : k = ps.length := by omega
            have HE2 := Lib.hid (show Fm.nnfs ps = true by rw [HE.out, List.drop_length, Fm.nnfs])
            go_wp2
            go_ret
            exact ⟨ret_bool (by rw [HN.out, HE2.out]), hwr⟩
set_option maxHeartbeats 3200000 in
theorem l9Has_any {B : Nat → Prop} (z : Int) (_hz : -9223372036854775808 ≤ z ∧ z ≤ 9223372036854775807) : ∀ (m : Nat) (t : Fm) (v0 v1 v2 v3 v4 : Value) (w : World), FmAt B m w t [v0, v1, v2, v3, v4] →
      Calls Tryz.prog 18 #[.agg #[v0, v1, v2, v3, v4], .int .i64 z] w fun e w' => e = .returned (.bool (t.has z)) ∧ Below w.heap.size w w' := by
  intro m
  induction m with
  | zero => intro t v0 v1 v2 v3 v4 w h; exact h.elim
  | succ m ih =>
    rintro ⟨op, a, x, ps⟩ v0 v1 v2 v3 v4 w hfm
    have hl := fm_parts hfm
    obtain ⟨p, c, q, d, rfl, rfl, rfl, rfl, rfl, -, -, -, -, hlen⟩ := hfm.form
    simp only [Fm.op, Fm.a, Fm.v, Fm.ps] at *
    unfold maxLen at hlen
    have HL := Lib.hid hl
    have IH := Lib.hid ih
    clear hfm hl ih
    cases h7 : (op == z)
    · have HN := Lib.hid (show Fm.has z (.mk op a x ps) = Fm.hass z ps by rw [Fm.has, h7, Bool.false_or])
      go_enter Tryz.func18, Tryz.ntmps18
      go_wp2
      clear h7
      obtain ⟨W, hW⟩ : ∃ W : World, W = w.alloc (.cells #[.int .i64 op, .string a.n, .slice p a.us.length c, .string x, .slice q ps.length d] 29) := ⟨_, rfl⟩
      have hsW : W.heap.size = w.heap.size + 1 := by rw [hW]; simp
      have hbW : Below w.heap.size w W := by rw [hW]; exact bel
      have A0 : W.heap[w.heap.size]? = some (.cells #[.int .i64 op, .string a.n, .slice p a.us.length c, .string x, .slice q ps.length d] 29 (0, 0)) := by rw [hW]; exact heap_alloc_new w _
      rw [← hW]
      clear hW
      have HLW := Lib.hid (HL.out.mono (SameOn.below hbW) (fun _ h => h) (fun x cs _ hx => FmAt.below hbW hx))
      go_loopw [5] (fun i wr => ∃ k : Nat, k ≤ ps.length ∧ i = .int .i64 k ∧ Fm.hass z ps = Fm.hass z (ps.drop k) ∧ Below W.heap.size W wr) (fun i _ => ps.length - (intOf i).toNat)
      case atStart => exact ⟨0, Nat.zero_le _, rfl, rfl, Below.refl _ _⟩
      case round =>
        obtain ⟨k, hk, rfl, he, hb⟩ := hrel
        have HE := Lib.hid he
        have hqr := hb.size
        have hwr : Below w.heap.size w wr := hbW.trans (hb.mono hbW.size)
        obtain ⟨a0, a1, a2, a3, a4⟩ := five_at ((hb.block _ (by omega)).trans A0)
        have za := bsz (show w.heap.size < wr.heap.size by omega)
        clear he
        by_cases hlt : k < ps.length
        · have hlti : (k : Int) < ps.length := by omega
          have HD := Lib.hid (hass_drop (o := z) hlt)
          obtain ⟨b, o, rfl, hB, x0, x1, x2, x3, x4, hx0, hx1, hx2, hx3, hx4, hx⟩ := (HLW.out.mono (SameOn.below hb) (fun _ h => h) (fun x cs _ hx => FmAt.below hb hx)).at5 hlt
          obtain ⟨g, hg⟩ : ∃ g, ps[k] = g := ⟨_, rfl⟩
          rw [hg] at hx HD
          have HX := Lib.hid hx
          have zb := bsz (World.block_lt_of_cell? _ _ hx0)
          clear hx hg
          cases hN : g.has z
          all_goals
            have HNg := Lib.hid hN
            go_wp2_with fail
            refine (IH.out g _ _ _ _ _ _ HX.out).mono ?_
            rintro e w1 ⟨rfl, hb1⟩
            rw [HNg.out]
            go_wp2
          · exact ⟨⟨k + 1, by omega, by go_num, by rw [HE.out, HD.out, HNg.out]; rfl, Below.step hb hb1⟩, by simp [intOf]; omega⟩
          · go_ret
            exact ⟨ret_bool (by rw [HN.out, HE.out, HD.out, HNg.out]; rfl), Below.step hwr hb1⟩
        · obtain rfl : k = ps.length := by omega
          have HE2 := Lib.hid (show Fm.hass z ps = false by rw [HE.out, List.drop_length, Fm.hass])
          go_wp2
          go_ret
          exact ⟨ret_bool (by rw [HN.out, HE2.out]), hwr⟩
    · have HN := Lib.hid (show Fm.has z (.mk op a x ps) = true by rw [Fm.has, h7, Bool.true_or])
      go_enter Tryz.func18, Tryz.ntmps18
      go_wp2
      go_ret
      exact ⟨ret_bool HN.out.symm, by exact bel⟩
theorem AppG.keep {eT : TypeId} {sz bt ci n i j k : Nat} {CP : Value → World → Prop} {v : Value} {W : World} {c : Nat} (_hc : c < W.heap.size) (hG : ∀ x w1, CP x w1 → w1.heap[c]? = W.heap[c]? ∧ c < w1.heap.size) (hv : v.ownBlock ≠ some c) (hbt : c ≠ bt) {m : Nat} {u : Nat → Value} {w : World} (h : AppG eT sz bt ci CP v n W i j k m u w) : w.heap[c]? = W.heap[c]? := by
  match m, h with
  | 0, h => obtain rfl : w = W.drew := h; rfl
  | 1, h => exact (hG _ _ h).1
  | 2, h =>
    obtain ⟨w1, cs, h2, _, rfl⟩ := h
    exact (hao w1 _ _ (hG _ _ h2).2).trans (hG _ _ h2).1
  | 3, h =>
    obtain ⟨w1, cs, h2, -, hg, -⟩ := h
    exact (hg.block c (hG _ _ h2).2 (fun e => hv e.symm)).trans (hG _ _ h2).1
  | 4, h =>
    obtain ⟨w1, w3, cs, h2, -, hg, -, -, rfl⟩ := h
    exact (heap_setCell_other w3 ⟨bt, ci, Option.none⟩ c _ (fun e => hbt e)).trans ((hg.block c (hG _ _ h2).2 (fun e => hv e.symm)).trans (hG _ _ h2).1)
def RfP (Bp : Nat → Prop) (n wt : Nat) (w : World) (e : Ending) (w' : World) : Prop :=
  ∃ x : FC, e = .returned (.agg x.cs.toArray) ∧ FmAt (fun b => Bp b ∨ (w.heap.size ≤ b ∧ b < w'.heap.size)) n w' x.f x.cs ∧ x.f.wt ≤ wt ∧ Below w.heap.size w w'
def RfC (Bp : Nat → Prop) (n wt : Nat) (W : World) (x : Value) (w : World) : Prop := ∃ y : FC, x = .agg y.cs.toArray ∧ FmAt (fun b => Bp b ∨ (W.heap.size ≤ b ∧ b < w.heap.size)) n w y.f y.cs ∧ y.f.wt ≤ wt ∧ Below W.heap.size W w
theorem Fm.wts_map (D : List FC) (x : FC) : Fm.wts ((D ++ [x]).map (·.f)) = Fm.wts (D.map (·.f)) + x.f.wt := by
  induction D with
  | nil => simp [Fm.wts]
  | cons y D ih => rw [List.cons_append, List.map_cons, List.map_cons, Fm.wts, Fm.wts, ih]; omega
theorem FOx.made {T : TypeId} {Bp : Nat → Prop} {m base rb k r : Nat} {X : Nat → Prop} {op : Int} {a : Tm} {va : Value} {x : ByteArray} {q : Option Addr} {d i : Nat} {D : List FC} {w : World} {u0 u1 u2 u3 u4 : Value} (h : FOx T m rb k X (.int .i64 op) (.string a.n) va (.string x) (.slice q i d) D w) (_hi : i = D.length)
    (hBb : ∀ b, Bp b → b < base) (ha : TmAt Bp m w a [.string a.n, va]) (hop : -9223372036854775808 ≤ op ∧ op ≤ 9223372036854775807) (hx : x.size ≤ maxLen) (hr : r < rb) (hrb : base ≤ r) (hX : ∀ b, X b → Bp b ∨ rb ≤ b) (w0 : Nat) (hw0 : w0 ≤ rb) :
    FmAt (fun b => Bp b ∨ (w0 ≤ b ∧ b < (((((w.setCell ⟨r, 0, none⟩ u0).setCell ⟨r, 1, none⟩ u1).setCell ⟨r, 2, none⟩ u2).setCell ⟨r, 3, none⟩ u3).setCell ⟨r, 4, none⟩ u4).heap.size)) (m + 1) (((((w.setCell ⟨r, 0, none⟩ u0).setCell ⟨r, 1, none⟩ u1).setCell ⟨r, 2, none⟩ u2).setCell ⟨r, 3, none⟩ u3).setCell ⟨r, 4, none⟩ u4) (.mk op a x (D.map (·.f))) [.int .i64 op, .string a.n, va, .string x, .slice q i d] := by
  have hs : ∀ b, b ≠ r → (((((w.setCell ⟨r, 0, none⟩ u0).setCell ⟨r, 1, none⟩ u1).setCell ⟨r, 2, none⟩ u2).setCell ⟨r, 3, none⟩ u3).setCell ⟨r, 4, none⟩ u4).heap[b]? = w.heap[b]? := fun b hb =>
    (heap_setCell_other _ ⟨r, 4, none⟩ b _ hb).trans ((heap_setCell_other _ ⟨r, 3, none⟩ b _ hb).trans ((heap_setCell_other _ ⟨r, 2, none⟩ b _ hb).trans ((heap_setCell_other _ ⟨r, 1, none⟩ b _ hb).trans (heap_setCell_other _ ⟨r, 0, none⟩ b _ hb))))
  refine ⟨_, _, _, rfl, hop, hx, ?_, ?_⟩
  · exact TmAt.mono (fun b hb _ => hs b (by have := hBb b hb; omega)) (fun b hb => .inl hb) _ _ _ _ (Nat.le_refl _) ha
  · have hl := h.ls.at_
    have hlen : (D.map (·.f)).length = D.length := List.length_map ..
    have key : ∀ b, (b < w.heap.size ∧ (X b ∨ rb ≤ b) ∧ b ≠ k) → b ≠ r := fun b ⟨_, h2, _⟩ e => by
      rcases h2 with h2 | h2
      · rcases hX b h2 with h3 | h3
        · have := hBb b h3; omega
        · omega
      · omega
    have hB : ∀ b, (b < w.heap.size ∧ (X b ∨ rb ≤ b) ∧ b ≠ k) → Bp b ∨ (w0 ≤ b ∧ b < (((((w.setCell ⟨r, 0, none⟩ u0).setCell ⟨r, 1, none⟩ u1).setCell ⟨r, 2, none⟩ u2).setCell ⟨r, 3, none⟩ u3).setCell ⟨r, 4, none⟩ u4).heap.size) := fun b ⟨h1, h2, _⟩ => by
      rcases h2 with h2 | h2
      · rcases hX b h2 with h3 | h3
        · exact .inl h3
        · exact .inr ⟨by omega, by simpa using h1⟩
      · exact .inr ⟨by omega, by simpa using h1⟩
    exact hl.mono (fun b hb _ => hs b (key b hb)) hB (fun y cs _ hy => FmAt.mono (fun b hb _ => hs b (key b hb)) hB _ _ _ _ (Nat.le_refl _) hy)
theorem elemFmD : Elem Tryz.prog 27 29 5 88 := elem_of Tryz.underlying27 (z := .agg #[.int .i64 0, .string ⟨#[]⟩, .slice none 0 0, .string ⟨#[]⟩, .slice none 0 0]) (by kernel_rfl) rfl (by omega)
set_option maxHeartbeats 12800000 in
theorem bare_any (cu : Value) (base : Nat) (Bp : Nat → Prop) (hBb : ∀ b, Bp b → b < base) : ∀ (m : Nat) (t : Fm) (v0 v1 v2 v3 v4 : Value) (w : World), FmAt Bp m w t [v0, v1, v2, v3, v4] → base ≤ w.heap.size → t.wt ≤ 1000000 →
    Calls Tryz.prog 30 #[cu, .agg #[v0, v1, v2, v3, v4]] w (RfP Bp m t.wt w) := by
  intro m
  induction m with
  | zero => intro t v0 v1 v2 v3 v4 w h; exact h.elim
  | succ m ih =>
    rintro ⟨op, a, xv, ps⟩ v0 v1 v2 v3 v4 w ⟨vn, va, vp, hcs, hop, hs, ht, hl⟩ hb hw
    simp only [List.cons.injEq, and_true] at hcs
    obtain ⟨rfl, rfl, rfl, rfl, rfl⟩ := hcs
    obtain ⟨p, pc, rfl, rfl, -⟩ := ht.form
    obtain ⟨pq, pd, rfl, hlen⟩ := hl.form
    unfold maxLen at hlen
    rw [Fm.wt] at hw
    have HT0 := Lib.hid ht
    have HL := Lib.hid hl
    have IH := Lib.hid ih
    have HOP := Lib.hid (And.intro hop hs)
    obtain ⟨W, hW⟩ : ∃ W : World, W = (w.alloc (.cells #[.int .i64 op, .string a.n, .slice p a.us.length pc, .string xv, .slice pq ps.length pd] 29)).alloc (.cells #[.int .i64 0, .string ⟨#[]⟩, .slice none 0 0, .string ⟨#[]⟩, .slice none 0 0] 29) := ⟨_, rfl⟩
    obtain ⟨hsW, hbW, A0, A1⟩ := two_new hW
    obtain ⟨a0, a1, a2, a3, a4⟩ := five_at A0
    have za := bsz (show w.heap.size < W.heap.size by omega)
    clear ht hl ih hop hs
    by_cases hQ : (op = 8 ∨ op = 9) ∧ ps.length = 1
    · obtain ⟨h89, h1⟩ := hQ
      have h1i : ((ps.length : Int) == 1) = true := by rw [h1]; rfl
      have h0i : (0 : Int) < ps.length := by omega
      have h0n : 0 < ps.length := by omega
      obtain ⟨b, o, hpe, hBq, x0, x1, x2, x3, x4, hx0, hx1, hx2, hx3, hx4, hx⟩ := HL.out.at5 (show 0 < ps.length by omega)
      subst hpe
      have hyw : (ps[0]'(by omega)).wt ≤ Fm.wts ps := Fm.wts_le ps (by omega)
      obtain ⟨y, hy⟩ : ∃ y, ps[0]'(by omega) = y := ⟨_, rfl⟩
      rw [hy] at hx hyw
      simp only [Nat.zero_mul, Nat.add_zero] at hx0 hx1 hx2 hx3 hx4
      have HX := Lib.hid (FmAt.below hbW hx)
      have zb := bsz (World.block_lt_of_cell? _ _ hx0)
      have HR := Lib.hid A1
      clear hx hy h1
      rcases h89 with rfl | rfl
      all_goals
        go_enter Tryz.func30, Tryz.ntmps30
        go_wp2_with fail
        rw [← hW]
        clear hW
        refine (IH.out y _ _ _ _ _ W HX.out (by omega) (by omega)).mono ?_
        rintro e w1 ⟨y', rfl, h1, h2, h3⟩
        have HR1 := (h3.block _ (by omega)).trans HR.out
        obtain ⟨r0, r1, r2, r3, r4⟩ := five_at HR1
        have rf : ∀ j, w1.frozen? ⟨w.heap.size + 1, j, none⟩ = false := fun j => frozen_of_row w1 _ j _ _ HR1
        have zr := bsz (blk_lt HR1)
        have H1 := Lib.hid h1
        have H2 := Lib.hid h2
        have hb1 := Below.step hbW h3
        have hz1 := h3.size
        clear h1 h2 HR1 a0 a1 a2 a3 a4 za hx0 hx1 hx2 hx3 hx4 zb
        rw [show y'.cs.toArray = #[.int .i64 y'.f.op, .string y'.f.a.n, .slice y'.p y'.f.a.us.length y'.c, .string y'.f.v, .slice y'.q y'.f.ps.length y'.d] from rfl]
        go_wp2
        refine bodyPost_ret (v := .agg #[.int .i64 y'.f.op, .string y'.f.a.n, .slice y'.p y'.f.a.us.length y'.c, .string y'.f.v, .slice y'.q y'.f.ps.length y'.d]) (by simp only [results, Tryz.results30]; go_simp) rfl ⟨y', rfl, FmAt.mono ((((((SameOn.refl _ _).sc ?_ _).sc ?_ _).sc ?_ _).sc ?_ _).sc ?_ _) ?_ _ _ _ _ (by omega) H1.out, ?_, ?_⟩
        · intro b' hb' e; simp at e; rcases hb' with hb' | hb'; (have := hBb _ hb'; omega); omega
        · intro b' hb' e; simp at e; rcases hb' with hb' | hb'; (have := hBb _ hb'; omega); omega
        · intro b' hb' e; simp at e; rcases hb' with hb' | hb'; (have := hBb _ hb'; omega); omega
        · intro b' hb' e; simp at e; rcases hb' with hb' | hb'; (have := hBb _ hb'; omega); omega
        · intro b' hb' e; simp at e; rcases hb' with hb' | hb'; (have := hBb _ hb'; omega); omega
        · intro b' hb'; simp; rcases hb' with hb' | hb'; (exact .inl hb'); (exact .inr (by omega))
        · rw [Fm.wt]; have := H2.out; omega
        · exact bel
    · rcases (show op = 8 ∨ op = 9 ∨ (op ≠ 8 ∧ op ≠ 9) by omega) with h8 | h9 | ⟨h8, h9⟩
      focus
        have h1i : ((ps.length : Int) == 1) = false := by rw [beq_eq_false_iff_ne]; omega
        have e8 : (op == 8) = true := by simpa using h8
        clear hQ h8
        go_enter Tryz.func30, Tryz.ntmps30
        go_wp2_with fail
        rw [← hW]
        clear hW
        go_wp2
        clear h1i e8
      rotate_left
      focus
        have h1i : ((ps.length : Int) == 1) = false := by rw [beq_eq_false_iff_ne]; omega
        have e8 : (op == 8) = false := by rw [beq_eq_false_iff_ne]; omega
        have e9 : (op == 9) = true := by simpa using h9
        clear hQ h9
        go_enter Tryz.func30, Tryz.ntmps30
        go_wp2_with fail
        rw [← hW]
        clear hW
        go_wp2
        clear h1i e8 e9
      rotate_left
      focus
        have e8 : (op == 8) = false := by simpa using h8
        have e9 : (op == 9) = false := by simpa using h9
        clear hQ h8 h9
        go_enter Tryz.func30, Tryz.ntmps30
        go_wp2_with fail
        rw [← hW]
        clear hW
        go_wp2
        clear e8 e9
      rotate_left
      all_goals
        obtain ⟨W3, hW3⟩ : ∃ q', q' = W.alloc (.cells #[.int .i64 op, .string a.n, .slice p a.us.length pc, .string xv, .slice none 0 0] 29) := ⟨_, rfl⟩
        have hs3 : W3.heap.size = w.heap.size + 3 := by rw [hW3]; simp; omega
        have hb3 : Below W.heap.size W W3 := by rw [hW3]; exact (Below.refl _ _).alloc (Nat.le_refl _) _
        have B0 := Lib.hid (show W3.heap[w.heap.size + 2]? = some (.cells #[.int .i64 op, .string a.n, .slice p a.us.length pc, .string xv, .slice none 0 0] 29 (0, 0)) by rw [hW3]; have := heap_alloc_new W (.cells #[.int .i64 op, .string a.n, .slice p a.us.length pc, .string xv, .slice none 0 0] 29); rw [hsW] at this; exact this)
        have HA3 := Lib.hid ((hb3.block _ (by omega)).trans A0)
        have HR3 := Lib.hid ((hb3.block _ (by omega)).trans A1)
        have HB3 := Lib.hid (Below.step hbW hb3)
        have HL3 := Lib.hid (HL.out.mono (SameOn.below HB3.out) (fun _ h => h) (fun x cs _ hx => FmAt.below HB3.out hx))
        rw [← hW3]
        clear hW3 a0 a1 a2 a3 a4 za
        go_loopw [6] (fun iv wr => ∃ (i : Nat) (q : Option Addr) (d : Nat) (D : List FC), i ≤ ps.length ∧ iv = .int .i64 i ∧ D.length = i ∧ Fm.wts (D.map (·.f)) ≤ Fm.wts (ps.take i) ∧ FOx 29 m (w.heap.size + 2) (w.heap.size + 2) (fun b => Bp b ∨ w.heap.size + 3 ≤ b) (.int .i64 op) (.string a.n) (.slice p a.us.length pc) (.string xv) (.slice q i d) D wr ∧ Below (w.heap.size + 2) W3 wr) (fun iv _ => ps.length - (intOf iv).toNat)
        case atStart => exact ⟨0, none, 0, [], Nat.zero_le _, rfl, rfl, by simp [Fm.wts], ⟨B0.out, FsC.none trivial, Nat.le_refl _⟩, Below.refl _ _⟩
        case round =>
          obtain ⟨i, q, d, D, hi, rfl, hDi, hDw, hfo, hbr⟩ := hrel
          have HFO := Lib.hid hfo
          have HDI := Lib.hid hDi
          have HBR := Lib.hid hbr
          have hzr := hbr.size
          obtain ⟨c0, c1, c2, c3, c4, cf, ck⟩ := hfo.cells
          have zk := bsz ck
          obtain ⟨a0, a1, a2, a3, a4⟩ := five_at ((hbr.block _ (by omega)).trans HA3.out)
          have za := bsz (show w.heap.size < wr.heap.size by omega)
          clear hfo hbr
          by_cases hlt : i < ps.length
          · have hlti : (i : Int) < ps.length := by omega
            have hsame : SameOn Bp W3 wr := fun b hb' hl => HBR.out.block b (by have := hBb b hb'; omega)
            obtain ⟨b, o, hpe, hBq, x0, x1, x2, x3, x4, hx0, hx1, hx2, hx3, hx4, hx⟩ := (HL3.out.mono hsame (fun _ h => h) (fun x cs _ hx => FmAt.mono hsame (fun _ h => h) _ _ _ _ (Nat.le_refl _) hx)).at5 hlt
            obtain ⟨y, hy⟩ : ∃ y, ps[i] = y := ⟨_, rfl⟩
            have HTK := Lib.hid (show ps.take (i + 1) = ps.take i ++ [y] by rw [List.take_succ_eq_append_getElem hlt, hy])
            rw [hy] at hx
            have hyw : y.wt ≤ Fm.wts ps := by rw [← hy]; exact Fm.wts_le ps hlt
            have HX := Lib.hid hx
            have HX0 := Lib.hid (And.intro hx0 (And.intro hx1 (And.intro hx2 (And.intro hx3 hx4))))
            have HC4 := Lib.hid c4
            have HA4 := Lib.hid a4
            have hbb := World.block_lt_of_cell? _ _ hx0
            have hbk : b < w.heap.size := by have := hBb b hBq; omega
            have zb := bsz hbb
            subst hpe
            clear hx hy hsame hx0 hx1 hx2 hx3 hx4 c0 c1 c2 c3
            go_wp2_with fail
            go_wp2
            have hvk : ∀ b', b' < w.heap.size + 2 → (Value.slice q i d).ownBlock ≠ some b' := fun b' hb' e => by have := own_base HFO.out.ls.row b' e; omega
            have HKEEP := Lib.hid (show ∀ (b' j : Nat) (u : Nat → Value) (w' : World), AppG 29 5 (w.heap.size + 2) 4 (RfC Bp m y.wt wr.drew) (.slice q i d) i wr 8 9 10 j u w' → b' < w.heap.size + 2 → w'.heap[b']? = wr.heap[b']? from
              fun b' j u w' h hl => AppG.keep (by omega) (fun x w1 ⟨_, _, _, _, h4⟩ => ⟨((Below.refl wr.heap.size wr).drew.trans h4).block b' (by omega), Nat.lt_of_lt_of_le (show b' < wr.heap.size by omega) ((Below.refl wr.heap.size wr).drew.trans h4).size⟩) (hvk b' hl) (by omega) h)
            refine wp_region_stages [some (.pointer (some ⟨w.heap.size + 2, 4, none⟩)), some (.slice q i d), some cu, some (.pointer (some ⟨w.heap.size, 4, none⟩)), some (.slice (some ⟨b, o, none⟩) ps.length pd), some (.int .i64 (i : Nat)), some (.pointer (some ⟨b, o + i * 5, none⟩)), some (.agg #[x0, x1, x2, x3, x4]), none, none, none, some (.pointer (some ⟨w.heap.size + 2, 4, none⟩)), none] [8, 9, 10, 12] (AppG 29 5 (w.heap.size + 2) 4 (RfC Bp m y.wt wr.drew) (.slice q i d) i wr 8 9 10) (by kernel_rfl) (by kernel_rfl) (by first | kernel_rfl | rfl) (by rfl) rfl ?_
            refine chain_st rfl rfl (by decide) rfl (by intro j u w' hS; go_simp; first | done | exact ⟨hS, rfl⟩ | exact hS | rfl) ?_
            go_simp
            refine chain_stb (c := 10) 2 rfl rfl (by decide) rfl rfl rfl (by first | kernel_rfl | rfl) ?_ ?_
            · intro j u w' hj hS
              have hc := AppG.cell (g := 0) (fun x w' ⟨_, _, _, _, h4⟩ => ⟨h4.os, h4.tape, h4.output, h4.size, fun b' hb' _ => h4.block b' hb'⟩) HC4.out (by omega) hj hS
              go_simp
              first | done | exact ⟨hS, rfl⟩ | exact hS | rfl
            go_simp
            refine chain_st rfl rfl (by decide) rfl (by intro j u w' hS; go_simp; first | done | exact ⟨hS, rfl⟩ | exact hS | rfl) ?_
            go_simp
            refine chain_st rfl rfl (by decide) rfl (by intro j u w' hS; go_simp; first | done | exact ⟨hS, rfl⟩ | exact hS | rfl) ?_
            go_simp
            refine chain_st rfl rfl (by decide) rfl (by
              intro j u w' hS
              have hc : w'.cell? ⟨w.heap.size, 4, none⟩ = _ := (World.cell?_of_block (HKEEP.out w.heap.size j u w' hS (by omega))).trans HA4.out
              go_simp
              first | done | exact ⟨hS, rfl⟩ | exact hS | rfl) ?_
            go_simp
            refine chain_st rfl rfl (by decide) rfl (by intro j u w' hS; go_simp; first | done | exact ⟨hS, rfl⟩ | exact hS | rfl) ?_
            go_simp
            refine chain_st rfl rfl (by decide) rfl (by intro j u w' hS; go_simp; first | done | exact ⟨hS, rfl⟩ | exact hS | rfl) ?_
            go_simp
            refine chain_st rfl rfl (by decide) rfl (by
              intro j u w' hS
              have e0 : w'.cell? ⟨b, o + i * 5, none⟩ = _ := (World.cell?_of_block (HKEEP.out b j u w' hS (by omega))).trans HX0.out.1
              have e1 : w'.cell? ⟨b, o + i * 5 + 1, none⟩ = _ := (World.cell?_of_block (HKEEP.out b j u w' hS (by omega))).trans HX0.out.2.1
              have e2 : w'.cell? ⟨b, o + i * 5 + 2, none⟩ = _ := (World.cell?_of_block (HKEEP.out b j u w' hS (by omega))).trans HX0.out.2.2.1
              have e3 : w'.cell? ⟨b, o + i * 5 + 3, none⟩ = _ := (World.cell?_of_block (HKEEP.out b j u w' hS (by omega))).trans HX0.out.2.2.2.1
              have e4 : w'.cell? ⟨b, o + i * 5 + 4, none⟩ = _ := (World.cell?_of_block (HKEEP.out b j u w' hS (by omega))).trans HX0.out.2.2.2.2
              go_simp
              first | done | exact ⟨hS, rfl⟩ | exact hS | rfl) ?_
            go_simp
            refine chain_first rfl rfl rfl (by decide) rfl ?_ ?_
            · intro w' hS
              obtain rfl : w' = wr.drew := hS
              go_simp
              refine (IH.out y _ _ _ _ _ wr.drew (FmAt.below ((Below.refl _ _).drew) HX.out) (by simp; omega) (by omega)).mono ?_
              rintro e w'' ⟨x, he, h1, h2, h3⟩
              exact ⟨_, he, by show RfC _ _ _ _ (upd _ 8 (.agg x.cs.toArray) 8) w''; rw [upd_same]; exact ⟨x, rfl, h1, h2, h3⟩⟩
            intro x
            go_simp
            refine chain_next 0 rfl rfl rfl rfl (by decide) rfl (by first | kernel_rfl | rfl) ?_ ?_
            · intro w' hS
              have hS : RfC Bp m y.wt wr.drew (upd _ 8 x 8) w' := hS
              rw [upd_same] at hS
              obtain ⟨y', rfl, h1, h2, h3⟩ := id hS
              go_simp
              exact ⟨w', y'.cs.toArray, hS, by rw [upd_same], rfl⟩
            intro x2
            go_simp
            refine chain_next 1 rfl rfl rfl rfl (by decide) rfl (by first | kernel_rfl | rfl) ?_ ?_
            · intro w' hS
              obtain ⟨w1', cs, hcp, hy, rfl⟩ := hS
              rw [upd_same] at hy
              subst hy
              obtain ⟨y', he, h1, h2, h3⟩ := id hcp
              simp only [Value.agg.injEq] at he
              subst he
              obtain ⟨vals, r1⟩ : ∃ vals, wr.ownsRow 0 29 5 (.slice q i d) i vals := ⟨_, by have := HFO.out.ls.row; rw [HDI.out] at this; exact own_lower this (Nat.zero_le _)⟩
              refine each_app1 (.tmp 42) (.tmp 50) _ rfl 0 29 5 88 elemFmD (.slice q i d) i vals rfl w1' y'.cs.toArray rfl rfl (own_below r1 ((Below.refl _ _).drew.trans h3)) rfl (by intro u hu; simp [FC.cs] at hu; rcases hu with rfl | rfl | rfl | rfl | rfl <;> rfl) (by omega) (by unfold maxLen; omega) (Nat.zero_le _) ?_
              intro v' w3 happ hg3 hnr hsz
              exact ⟨w1', _, hcp, by rw [upd_same]; exact happ, hg3, by rw [upd_same]; exact hnr, hsz⟩
            intro x3
            go_simp
            refine chain_st rfl rfl (by decide) rfl (by intro j u w' hS; go_simp; first | done | exact ⟨hS, rfl⟩ | exact hS | rfl) ?_
            go_simp
            refine chain_next 2 rfl rfl rfl rfl (by decide) rfl (by first | kernel_rfl | rfl) ?_ ?_
            · intro w' hS
              obtain ⟨w1', cs, hcp, happ, hg3, hnr, hsz⟩ := hS
              rw [upd_same] at happ hnr
              obtain ⟨y', he, h1, h2, h3⟩ := id hcp
              have hb1 : Below wr.heap.size wr w1' := (Below.refl _ _).drew.trans h3
              have r1 := HFO.out.ls.row
              rw [HDI.out] at r1
              have h1' := happ _ _ (own_below r1 hb1) (by have := hb1.size; omega)
              obtain ⟨q', c', rfl⟩ := own_form h1' (by omega)
              have hbt : w'.heap[(w.heap.size + 2)]? = some (.cells #[.int .i64 op, .string a.n, .slice p a.us.length pc, .string xv, .slice q i d] 29 (0, 0)) := (hg3.block _ (by have := hb1.size; have := blk_lt HFO.out.box; omega) (fun e => HFO.out.ls.nk e.symm)).trans ((hb1.block _ (blk_lt HFO.out.box)).trans HFO.out.box)
              have hcell : w'.cell? ⟨(w.heap.size + 2), 4, none⟩ = some (.slice q i d) := by rw [cell_of_row w' _ 4 _ _ (0, 0) hbt]; rfl
              have hfro : w'.frozen? ⟨(w.heap.size + 2), 4, none⟩ = false := frozen_of_row w' _ 4 _ _ hbt
              clear hbt
              go_simp
              refine ⟨w1', w', cs, hcp, ?_, hg3, ?_, hsz, ?_⟩
              · rw [upd_other _ _ (by decide), upd_same]; exact happ
              · rw [upd_other _ _ (by decide), upd_same]; exact hnr
              · rw [upd_other _ _ (by decide), upd_same]
            intro x4
            refine flowU_nil ?_
            intro wz hz
            obtain ⟨w1', w3', cs, hcp, happ, hg3, hnr, hsz, rfl⟩ := hz
            simp only [upd_other _ _ (show (10 : Nat) ≠ 12 by decide), upd_same] at happ hnr
            rw [upd_other _ _ (by decide), upd_same]
            obtain ⟨y', he, h1, h2, h3⟩ := hcp
            simp only [Value.agg.injEq] at he
            subst he
            have hb1 : Below wr.heap.size wr w1' := (Below.refl _ _).drew.trans h3
            have hz1 := hb1.size
            have r1 := HFO.out.ls.row
            rw [HDI.out] at r1
            have h1' := happ _ _ (own_below r1 hb1) (by omega)
            obtain ⟨q', c', rfl⟩ := own_form h1' (by omega)
            have hog : ∀ b', (Value.slice q i d).ownBlock = some b' → w.heap.size + 2 ≤ b' ∧ b' < wr.heap.size := fun b' e => ⟨own_base HFO.out.ls.row b' e, own_lt' HFO.out.ls.row e⟩
            have HF5 := Lib.hid (HFO.out.app (x := y') (v' := .slice (some ⟨q', 0, none⟩) (i + 1) c') (fun b' _ hl => hb1.block b' hl) hz1 (FmAt.mono (SameOn.refl _ _) (fun b' hb' => by
              rcases hb' with hb' | hb'
              · have hbq := hBb b' hb'
                exact ⟨.inl hb', by omega, by omega, fun e => by have := hog b' e; omega⟩
              · have hb'' : wr.heap.size ≤ b' := hb'.1
                exact ⟨.inr (by omega), hb'.2, by omega, fun e => by have := hog b' e; omega⟩) _ _ _ _ (Nat.le_refl _) h1) (by rw [HDI.out]; exact happ) hg3 hnr (by omega))
            have HB5 := Lib.hid (show Below (w.heap.size + 2) W3 (w3'.setCell ⟨w.heap.size + 2, 4, none⟩ (.slice (some ⟨q', 0, none⟩) (i + 1) c')) from by
              have hz3 := hg3.size
              have hbq := HBR.out
              refine ⟨hg3.os.trans (hb1.os.trans hbq.os), hg3.tape.trans (hb1.tape.trans hbq.tape), hg3.output.trans (hb1.output.trans hbq.output), by simp; omega, fun b' hb' => ?_⟩
              exact (heap_setCell_other _ ⟨w.heap.size + 2, 4, none⟩ b' _ (by show b' ≠ w.heap.size + 2; omega)).trans ((hg3.block b' (by omega) (fun e => by have := hog b' e.symm; omega)).trans ((hb1.block b' (by omega)).trans (hbq.block b' hb'))))
            clear happ hg3 hnr hsz r1 h1' h1 h3 hb1
            go_wp2
            refine ⟨⟨i + 1, some ⟨q', 0, none⟩, c', D ++ [y'], by omega, by go_num, by rw [List.length_append, HDI.out]; rfl, ?_, HF5.out, HB5.out⟩, by simp [intOf]; omega⟩
            rw [Fm.wts_map, HTK.out]
            have e : ∀ l : List Fm, Fm.wts (l ++ [y]) = Fm.wts l + y.wt := fun l => by
              induction l with
              | nil => simp [Fm.wts]
              | cons z l ih => rw [List.cons_append, Fm.wts, Fm.wts, ih]; omega
            rw [e]; omega
          · obtain rfl : i = ps.length := by omega
            obtain ⟨r0, r1, r2, r3, r4⟩ := five_at ((HBR.out.block _ (by omega)).trans HR3.out)
            have rf : ∀ j, wr.frozen? ⟨w.heap.size + 1, j, none⟩ = false := fun j => frozen_of_row wr _ j _ _ ((HBR.out.block _ (by omega)).trans HR3.out)
            have zr := bsz (show w.heap.size + 1 < wr.heap.size by omega)
            have HTA := Lib.hid (TmAt.mono (w' := wr) (B' := Bp) (fun b hb' hl => HBR.out.block b (by have := hBb b hb'; omega)) (fun _ h => h) _ _ _ _ (Nat.le_refl _) (TmAt.below HB3.out HT0.out))
            rw [List.take_length] at hDw
            go_wp2
            refine bodyPost_ret (v := .agg #[.int .i64 op, .string a.n, .slice p a.us.length pc, .string xv, .slice q ps.length d]) (by simp only [results, Tryz.results30]; go_simp) rfl ⟨⟨.mk op a xv (D.map (·.f)), p, pc, q, d⟩, ?_, ?_, ?_, ?_⟩
            · show _ = Ending.returned (.agg #[.int .i64 op, .string a.n, .slice p a.us.length pc, .string xv, .slice q (D.map (·.f)).length d])
              rw [List.length_map, HDI.out]
            · have := HFO.out.made (base := base) (r := w.heap.size + 1) HDI.out.symm hBb HTA.out HOP.out.1 HOP.out.2 (by omega) (by omega) (fun b hb => by rcases hb with hb | hb; exact .inl hb; exact .inr (by omega)) w.heap.size (by omega)
                (u0 := .int .i64 op) (u1 := .string a.n) (u2 := .slice p a.us.length pc) (u3 := .string xv) (u4 := .slice q ps.length d)
              show FmAt _ _ _ _ [.int .i64 op, .string a.n, .slice p a.us.length pc, .string xv, .slice q (D.map (·.f)).length d]
              rw [List.length_map, HDI.out]
              exact this
            · show (Fm.mk op a xv (D.map (·.f))).wt ≤ _
              rw [Fm.wt, List.length_map, HDI.out, Fm.wt]; omega
            · have hbz : Below w.heap.size w wr := by
                have h1 := HB3.out
                have h2 := HBR.out
                exact ⟨h2.os.trans h1.os, h2.tape.trans h1.tape, h2.output.trans h1.output, by omega, fun b' hb' => (h2.block b' (by omega)).trans (h1.block b' hb')⟩
              exact bel
end Go.Proofs.YtmbkjdkjemlfkaaGreatDoor
