import Derived.Test.YtmbkjdkjemlfkaaGreatDoorDfPart11
namespace Go.Proofs.YtmbkjdkjemlfkaaGreatDoor
set_option maxRecDepth 100000
open Go.RowKit
theorem Fm.szs_drop (us : List Fm) {k : Nat} (h : k < us.length) : Fm.szs (us.drop k) = us[k].sz + Fm.szs (us.drop (k + 1)) := by
  rw [List.drop_eq_getElem_cons h, Fm.szs]
theorem Fm.szIs_drop (us : List Fm) {k : Nat} (h : k < us.length) (n : Nat) : Fm.szIs n (us.drop k) = if 40 < n then n else Fm.szIs (n + us[k].szI) (us.drop (k + 1)) := by
  rw [List.drop_eq_getElem_cons h, Fm.szIs]
theorem Fm.manys_drop (us : List Fm) {k : Nat} (h : k < us.length) (n m : Nat) : Fm.manys n (us.drop k) m = if n ≤ m then Fm.manys (n + us[k].many (m - n)) (us.drop (k + 1)) m else n := by
  rw [List.drop_eq_getElem_cons h, Fm.manys]
theorem Fm.forms_drop (us : List Fm) {k : Nat} (h : k < us.length) : Fm.forms (us.drop k) = (us[k].form && Fm.forms (us.drop (k + 1))) := by
  rw [List.drop_eq_getElem_cons h, Fm.forms]
theorem FmAt.parts {B : Nat → Prop} {w : World} : ∀ {n : Nat} {t : Fm} {v0 v1 v2 v3 v4 : Value}, FmAt B n w t [v0, v1, v2, v3, v4] → ListAt B w 5 (FmAt B n w) v4 t.ps
  | 0, _, _, _, _, _, _, h => h.elim
  | n + 1, .mk op a x ps, v0, v1, v2, v3, v4, h => by
    obtain ⟨vn, va, vp, h1, h2, h3, h4, h5⟩ := h
    simp only [List.cons.injEq, and_true] at h1
    obtain ⟨rfl, rfl, rfl, rfl, rfl⟩ := h1
    exact h5.mono (SameOn.refl _ _) (fun _ h => h) (fun x cs _ hx => FmAt.mono (SameOn.refl _ _) (fun _ h => h) n (n + 1) x cs (by omega) hx)
theorem FmAt.atm {B : Nat → Prop} {w : World} : ∀ {n : Nat} {t : Fm} {v0 v1 v2 v3 v4 : Value}, FmAt B n w t [v0, v1, v2, v3, v4] → TmAt B n w t.a [v1, v2]
  | 0, _, _, _, _, _, _, h => h.elim
  | n + 1, .mk op a x ps, v0, v1, v2, v3, v4, h => by
    obtain ⟨vn, va, vp, h1, h2, h3, h4, h5⟩ := h
    simp only [List.cons.injEq, and_true] at h1
    obtain ⟨rfl, rfl, rfl, rfl, rfl⟩ := h1
    exact TmAt.mono (SameOn.refl _ _) (fun _ h => h) n (n + 1) a _ (by omega) h4
set_option maxHeartbeats 1600000 in
theorem sizeOf_any {B : Nat → Prop} : ∀ (m : Nat) (t : Fm) (v0 v1 v2 v3 v4 : Value) (w : World), FmAt B m w t [v0, v1, v2, v3, v4] → t.sz ≤ 100000000 →
      Calls Tryz.prog 31 #[.agg #[v0, v1, v2, v3, v4]] w fun e w' => e = .returned (.int .i64 (t.szI : Nat)) ∧ Below w.heap.size w w' := by
  intro m
  induction m with
  | zero => intro t v0 v1 v2 v3 v4 w h; exact h.elim
  | succ m ih =>
    rintro ⟨op, t0, s, us⟩ v0 v1 v2 v3 v4 w ⟨vn, va, vp, hcs, hop, hs, ht, hl⟩ hz
    simp only [List.cons.injEq, and_true] at hcs
    obtain ⟨rfl, rfl, rfl, rfl, rfl⟩ := hcs
    rw [Fm.sz] at hz
    obtain ⟨p, c, rfl, hlen⟩ := hl.form
    obtain ⟨p1, c1, rfl, rfl, -, -⟩ := ht.form
    unfold maxLen at hlen
    have IH := Lib.hid ih
    have HL := Lib.hid hl
    have HSZ := Lib.hid (show (Fm.mk op t0 s us).szI = Fm.szIs 1 us from rfl)
    clear ih hl
    go_enter Tryz.func31, Tryz.ntmps31
    go_wp2
    go_loopw [3, 9] (fun n i wr => ∃ k acc : Nat, k ≤ us.length ∧ i = .int .i64 k ∧ n = .int .i64 acc ∧ Fm.szIs acc (us.drop k) = Fm.szIs 1 us ∧ acc + Fm.szs (us.drop k) ≤ 1 + Fm.szs us ∧ Below w.heap.size w wr) (fun _ i _ => us.length - (intOf i).toNat)
    case atStart => exact ⟨0, 1, Nat.zero_le _, rfl, rfl, rfl, Nat.le_refl _, by exact bel⟩
    case round =>
      obtain ⟨k, acc, hk, rfl, rfl, he, hle, hb⟩ := hrel
      have HE := Lib.hid he
      clear he
      by_cases hlt : k < us.length
      · obtain ⟨b, o, rfl, hB, x0, x1, x2, x3, x4, hx0, hx1, hx2, hx3, hx4, hx⟩ := (HL.out.mono (SameOn.below hb) (fun _ h => h) (fun x cs _ hx => FmAt.below hb hx)).at5 hlt
        have hD := Fm.szIs_drop us hlt acc
        have hZ := Fm.szs_drop us hlt
        obtain ⟨a, ha⟩ : ∃ a, us[k] = a := ⟨_, rfl⟩
        rw [ha] at hx
        rw [ha] at hD
        rw [ha] at hZ
        have HX := Lib.hid hx
        have HD := Lib.hid hD
        have HZ := Lib.hid hZ
        clear hx ha hD hZ
        have zb := bsz (World.block_lt_of_cell? _ _ hx0)
        obtain ⟨pa, ca, qa, da, rfl, rfl, rfl, rfl, rfl, -⟩ := HX.out.form
        have hlaw := a.szI_law
        have hzz := HZ.out
        rw [hzz] at hle
        clear hzz
        by_cases h40 : 40 < (acc : Int)
        · go_wp2
          go_ret
          exact ⟨ret_int (by rw [HSZ.out, ← HE.out, HD.out, if_pos (by omega)]), by exact bel⟩
        · go_wp2_with fail
          refine (IH.out a _ _ _ _ _ _ (HX.out.below (by exact bel)) (by omega)).mono ?_
          rintro e w1 ⟨rfl, hb1⟩
          have ⟨cw1, fw1⟩ := bcell hb1
          have qw1 := hb1.size
          (try simp at qw1)
          (try have zw1w := bsz (show w.heap.size < w1.heap.size by omega))
          go_wp2
          refine ⟨⟨k + 1, acc + a.szI, by omega, by go_num, by go_num, ?_, by omega, by exact bel⟩, by simp [intOf]; omega⟩
          rw [← HE.out, HD.out, if_neg (by omega)]
      · obtain rfl : k = us.length := by omega
        have he := HE.out
        rw [List.drop_length, Fm.szIs] at he
        have HE2 := Lib.hid he
        clear he
        go_wp2
        go_ret
        exact ⟨ret_int (by rw [HSZ.out, ← HE2.out]), by exact bel⟩
theorem isQuantifier_any (op : Int) (w : World) : Calls Tryz.prog 60 #[.int .i64 op] w fun e w' => e = .returned (.bool (op == 8 || op == 9)) ∧ w = w' := by
  by_cases h : op = 8
  · obtain rfl := h
    go_enter Tryz.func60, Tryz.ntmps60
    go_wp2
    go_ret
    exact ⟨rfl, rfl⟩
  · have h1 : (op == 8) = false := by simpa using h
    go_enter Tryz.func60, Tryz.ntmps60
    go_wp2
    go_ret
    exact ⟨ret_bool (by simp [h]), rfl⟩
theorem isBinary_any (op : Int) (w : World) : Calls Tryz.prog 61 #[.int .i64 op] w fun e w' => e = .returned (.bool (op == 5 || op == 6 || op == 7)) ∧ w = w' := by
  by_cases h5 : op = 5
  · obtain rfl := h5
    go_enter Tryz.func61, Tryz.ntmps61
    go_wp2
    go_ret
    exact ⟨rfl, rfl⟩
  · have h1 : (op == 5) = false := by simpa using h5
    by_cases h6 : op = 6
    · obtain rfl := h6
      go_enter Tryz.func61, Tryz.ntmps61
      go_wp2
      go_ret
      exact ⟨rfl, rfl⟩
    · have h2 : (op == 6) = false := by simpa using h6
      go_enter Tryz.func61, Tryz.ntmps61
      go_wp2
      go_ret
      exact ⟨ret_bool (by simp [h5, h6]), rfl⟩
set_option maxHeartbeats 1600000 in
theorem l8Size_any {B : Nat → Prop} : ∀ (m : Nat) (t : Fm) (v0 v1 v2 v3 v4 : Value) (w : World), FmAt B m w t [v0, v1, v2, v3, v4] → t.sz ≤ 100000000 →
      Calls Tryz.prog 87 #[.agg #[v0, v1, v2, v3, v4]] w fun e w' => e = .returned (.int .i64 (t.sz : Nat)) ∧ Below w.heap.size w w' := by
  intro m
  induction m with
  | zero => intro t v0 v1 v2 v3 v4 w h; exact h.elim
  | succ m ih =>
    rintro ⟨op, t0, s, us⟩ v0 v1 v2 v3 v4 w ⟨vn, va, vp, hcs, hop, hs, ht, hl⟩ hz
    simp only [List.cons.injEq, and_true] at hcs
    obtain ⟨rfl, rfl, rfl, rfl, rfl⟩ := hcs
    rw [Fm.sz] at hz ⊢
    obtain ⟨p, c, rfl, hlen⟩ := hl.form
    obtain ⟨p1, c1, rfl, rfl, -, -⟩ := ht.form
    unfold maxLen at hlen
    have IH := Lib.hid ih
    have HL := Lib.hid hl
    clear ih hl ht
    go_enter Tryz.func87, Tryz.ntmps87
    go_wp2
    obtain ⟨W, hW⟩ : ∃ W : World, W = w.alloc (.cells #[.int .i64 op, .string t0.n, .slice p1 t0.us.length c1, .string s, .slice p us.length c] 29) := ⟨_, rfl⟩
    have hwb : W.cell? ⟨w.heap.size, 4, none⟩ = some (.slice p us.length c) := by rw [hW]; go_simp
    have hbW : Below w.heap.size w W := by rw [hW]; exact bel
    rw [← hW]
    clear hW
    go_loopw [3, 4] (fun n i wr => ∃ k acc : Nat, k ≤ us.length ∧ i = .int .i64 k ∧ n = .int .i64 acc ∧ acc + Fm.szs (us.drop k) = 1 + Fm.szs us ∧ Below W.heap.size W wr) (fun _ i _ => us.length - (intOf i).toNat)
    case atStart => exact ⟨0, 1, Nat.zero_le _, rfl, rfl, rfl, by exact bel⟩
    case round =>
      obtain ⟨k, acc, hk, rfl, rfl, hle, hbr⟩ := hrel
      have hb := Below.step hbW hbr
      have hwr := (hbr.cell (World.block_lt_of_cell? W _ hwb)).trans hwb
      have zwr := bsz (World.block_lt_of_cell? _ _ hwr)
      by_cases hlt : k < us.length
      · obtain ⟨b, o, rfl, hB, x0, x1, x2, x3, x4, hx0, hx1, hx2, hx3, hx4, hx⟩ := (HL.out.mono (SameOn.below hb) (fun _ h => h) (fun x cs _ hx => FmAt.below hb hx)).at5 hlt
        have hZ := Fm.szs_drop us hlt
        obtain ⟨a, ha⟩ : ∃ a, us[k] = a := ⟨_, rfl⟩
        rw [ha] at hx
        rw [ha] at hZ
        have HX := Lib.hid hx
        have HZ := Lib.hid hZ
        clear hx ha hZ
        have zb := bsz (World.block_lt_of_cell? _ _ hx0)
        obtain ⟨pa, ca, qa, da, rfl, rfl, rfl, rfl, rfl, -⟩ := HX.out.form
        have hzz := HZ.out
        rw [hzz] at hle
        have hki : (k : Int) < us.length := by omega
        clear hzz
        go_wp2_with fail
        refine (IH.out a _ _ _ _ _ _ HX.out (by omega)).mono ?_
        rintro e w1 ⟨rfl, hb1⟩
        have ⟨cw1, fw1⟩ := bcell hb1
        have qw1 := hb1.size
        (try simp at qw1)
        (try have zw1w := bsz (show w.heap.size < w1.heap.size by omega))
        (try have zw1wr := bsz (show wr.heap.size < w1.heap.size by omega))
        have hbw1 := Below.step hbr hb1
        go_wp2
        exact ⟨⟨k + 1, acc + a.sz, by omega, by go_num, by go_num, by omega, hbw1⟩, by simp [intOf]; omega⟩
      · obtain rfl : k = us.length := by omega
        have hki : ¬ (us.length : Int) < us.length := by omega
        rw [List.drop_length, Fm.szs] at hle
        go_wp2
        go_ret
        exact ⟨ret_int (by omega), by exact bel⟩
section
variable {n Wt : Nat} {w wr w2 : World} {g m m' k N : Nat} {v0 v1 v2 v3 v4 : Value}
theorem FBx.setA {n' W' N' : Nat} {u1 u2 : Value} (h : FBx n Wt w g m k N v0 v1 v2 v3 v4 wr) (hN : N' ≤ wr.heap.size) (hgf : GF n' W' (SB w k N') wr (.agg #[v0, u1, u2, v3, v4])) : FBx n' W' w g m k N' v0 u1 u2 v3 v4 ((wr.setCell ⟨k, 1, none⟩ u1).setCell ⟨k, 2, none⟩ u2) := by
  obtain ⟨l1, l2, l3⟩ := h.lt
  refine ⟨(h.cur.sc (p := ⟨_, _, none⟩) (by show g < k; omega) _).sc (p := ⟨_, _, none⟩) (by show g < k; omega) _, ?_, (heap_setCell_other _ ⟨k, 2, none⟩ _ _ (by show w.heap.size ≠ k; omega)).trans ((heap_setCell_other wr ⟨k, 1, none⟩ _ _ (by show w.heap.size ≠ k; omega)).trans h.res), hgf.mono (Nat.le_refl _) (Nat.le_refl _) (((SameOn.refl _ _).sc (fun b hb e => hb.2.2 e) _).sc (fun b hb e => hb.2.2 e) _) (fun _ h => h), gr_sc (gr_sc h.gr (p := ⟨_, _, none⟩) (.inr (by show w.heap.size ≤ k; omega)) _) (p := ⟨_, _, none⟩) (.inr (by show w.heap.size ≤ k; omega)) _, l1, l2, by simpa using hN⟩
  exact heap_setCell_same _ k 2 _ _ u2 (heap_setCell_same wr k 1 _ _ u1 h.box)
theorem FBx.wrap (h : FBx (n + 1) Wt w g m k N v0 v1 v2 v3 v4 wr) : FBx (n + 2) (Wt + 1) w g m k (wr.heap.size + 1) (.int .i64 4) (.string ⟨#[]⟩) (.slice none 0 0) (.string ⟨#[]⟩) (.slice (some ⟨wr.heap.size, 0, none⟩) 1 1) ((set5F wr k (.int .i64 4) (.string ⟨#[]⟩) (.slice none 0 0) (.string ⟨#[]⟩) (.slice (some ⟨wr.heap.size, 0, none⟩) 1 1)).alloc (.cells #[v0, v1, v2, v3, v4] 29)) := by
  obtain ⟨l1, l2, l3⟩ := h.lt
  have hk := blk_lt h.box
  have hr := blk_lt h.res
  have hz : (set5F wr k (.int .i64 4) (.string ⟨#[]⟩) (.slice none 0 0) (.string ⟨#[]⟩) (.slice (some ⟨wr.heap.size, 0, none⟩) 1 1)).heap.size = wr.heap.size := by simp
  have hbox : (set5F wr k (.int .i64 4) (.string ⟨#[]⟩) (.slice none 0 0) (.string ⟨#[]⟩) (.slice (some ⟨wr.heap.size, 0, none⟩) 1 1)).heap[k]? = some (.cells #[.int .i64 4, .string ⟨#[]⟩, .slice none 0 0, .string ⟨#[]⟩, .slice (some ⟨wr.heap.size, 0, none⟩) 1 1] 29 (0, 0)) :=
    heap_setCell_same _ k 4 _ _ _ (heap_setCell_same _ k 3 _ _ _ (heap_setCell_same _ k 2 _ _ _ (heap_setCell_same _ k 1 _ _ _ (heap_setCell_same wr k 0 _ _ _ h.box))))
  have hot : ∀ b, b ≠ k → (set5F wr k (.int .i64 4) (.string ⟨#[]⟩) (.slice none 0 0) (.string ⟨#[]⟩) (.slice (some ⟨wr.heap.size, 0, none⟩) 1 1)).heap[b]? = wr.heap[b]? := fun b hb =>
    (heap_setCell_other _ ⟨k, 4, none⟩ b _ hb).trans ((heap_setCell_other _ ⟨k, 3, none⟩ b _ hb).trans ((heap_setCell_other _ ⟨k, 2, none⟩ b _ hb).trans ((heap_setCell_other _ ⟨k, 1, none⟩ b _ hb).trans (heap_setCell_other wr ⟨k, 0, none⟩ b _ hb))))
  have hcur : Cur (set5F wr k (.int .i64 4) (.string ⟨#[]⟩) (.slice none 0 0) (.string ⟨#[]⟩) (.slice (some ⟨wr.heap.size, 0, none⟩) 1 1)) g m := ((((h.cur.sc (p := ⟨k, _, none⟩) (by show g < k; omega) _).sc (p := ⟨k, _, none⟩) (by show g < k; omega) _).sc (p := ⟨k, _, none⟩) (by show g < k; omega) _).sc (p := ⟨k, _, none⟩) (by show g < k; omega) _).sc (p := ⟨k, _, none⟩) (by show g < k; omega) _
  have hkw : w.heap.size ≤ k := by omega
  have hgr : w.grownBy (set5F wr k (.int .i64 4) (.string ⟨#[]⟩) (.slice none 0 0) (.string ⟨#[]⟩) (.slice (some ⟨wr.heap.size, 0, none⟩) 1 1)) (some g) := gr_sc (gr_sc (gr_sc (gr_sc (gr_sc h.gr (p := ⟨k, _, none⟩) (.inr hkw) _) (p := ⟨k, _, none⟩) (.inr hkw) _) (p := ⟨k, _, none⟩) (.inr hkw) _) (p := ⟨k, _, none⟩) (.inr hkw) _) (p := ⟨k, _, none⟩) (.inr hkw) _
  obtain ⟨W, hW⟩ : ∃ q, q = set5F wr k (.int .i64 4) (.string ⟨#[]⟩) (.slice none 0 0) (.string ⟨#[]⟩) (.slice (some ⟨wr.heap.size, 0, none⟩) 1 1) := ⟨_, rfl⟩
  rw [← hW] at hz hbox hot hcur hgr ⊢
  clear hW
  have hg1 : GF (n + 1) Wt (SB w k N) W (.agg #[v0, v1, v2, v3, v4]) := h.gf.mono (Nat.le_refl _) (Nat.le_refl _) (fun b hb hlt => hot b hb.2.2) (fun _ h => h)
  refine ⟨hcur.al _, (hao _ _ _ (by omega)).trans hbox, (hao _ _ _ (by omega)).trans ((hot _ (by omega)).trans h.res), ?_, gr_al hgr _, l1, l2, by simp; omega⟩
  have := GF.one (op := 4) (x := ⟨#[]⟩) (W' := Wt + 1) (S' := SB w k (wr.heap.size + 1)) hg1 hz (by omega) (by decide) (fun b hb => by have := hb.2.1; omega) (fun b hb => ⟨hb.1, by have := hb.2.1; omega, hb.2.2⟩) ⟨by omega, by omega, by omega⟩ (by omega) (by show 0 + 1 + Wt ≤ Wt + 1; omega)
  exact this
theorem fm_wrap {n k : Nat} {S S' : Nat → Prop} {w : World} {t : Fm} {v0 v1 v2 v3 v4 : Value} (h : FmOwn 26 29 (n + 1) S w t [v0, v1, v2, v3, v4]) (hk : w.heap.size = k) (hS : ∀ b, S b → b < k) (h1 : ∀ b, S b → S' b) (h2 : S' k) :
    FmOwn 26 29 (n + 2) S' (w.alloc (.cells #[v0, v1, v2, v3, v4] 29)) (.mk 4 (.mk ⟨#[]⟩ []) ⟨#[]⟩ [t]) [.int .i64 4, .string ⟨#[]⟩, .slice none 0 0, .string ⟨#[]⟩, .slice (some ⟨k, 0, none⟩) 1 1] :=
  ⟨_, _, _, fun _ => False, S', rfl, by omega, by decide, ⟨_, rfl, by decide, OwnRow.nil _ _ _ _ _⟩, OwnRow.one' hk _ rfl (FmOwn.mono _ _ t _ (Nat.le_refl _) (SameOn.below ((Below.refl _ _).alloc (Nat.le_refl _) _)) (fun _ h => h) h) hS h1 h2, fun b hb => hb.elim, fun b hb => hb⟩
theorem FBx.wrapT {t : Fm} (h : FBx (n + 1) Wt w g m k N v0 v1 v2 v3 v4 wr) (ht : FmOwn 26 29 (n + 1) (SB w k N) wr t [v0, v1, v2, v3, v4]) :
    FmOwn 26 29 (n + 2) (SB w k (wr.heap.size + 1)) ((set5F wr k (.int .i64 4) (.string ⟨#[]⟩) (.slice none 0 0) (.string ⟨#[]⟩) (.slice (some ⟨wr.heap.size, 0, none⟩) 1 1)).alloc (.cells #[v0, v1, v2, v3, v4] 29)) (.mk 4 (.mk ⟨#[]⟩ []) ⟨#[]⟩ [t]) [.int .i64 4, .string ⟨#[]⟩, .slice none 0 0, .string ⟨#[]⟩, .slice (some ⟨wr.heap.size, 0, none⟩) 1 1] := by
  obtain ⟨l1, l2, l3⟩ := h.lt
  have hk := blk_lt h.box
  refine fm_wrap (S := SB w k N) (FmOwn.mono _ _ t _ (Nat.le_refl _) ((((((SameOn.refl _ _).sc ?_ _).sc ?_ _).sc ?_ _).sc ?_ _).sc ?_ _) (fun _ h => h) ht) (by simp) (fun b hb => by have := hb.2.1; omega) (fun b hb => ⟨hb.1, by have := hb.2.1; omega, hb.2.2⟩) ⟨by omega, by omega, by omega⟩
  all_goals exact fun b hb e => hb.2.2 e
end
section
variable {n Wt : Nat} {w wr w2 : World} {g m m' k N : Nat} {v0 v1 v2 v3 v4 : Value}
theorem FBx.mono {n' W' : Nat} (h : FBx n Wt w g m k N v0 v1 v2 v3 v4 wr) (hn : n ≤ n') (hW : Wt ≤ W') : FBx n' W' w g m k N v0 v1 v2 v3 v4 wr :=
  ⟨h.cur, h.box, h.res, h.gf.mono hn hW (SameOn.refl _ _) (fun _ h => h), h.gr, h.lt⟩
theorem FBx.row {q : Option Addr} {l d : Nat} (h : FBx (n + 1) Wt w g m k N v0 v1 v2 v3 (.slice q l d) wr) : l ≤ Wt ∧ (∃ vals, wr.ownsRow 0 29 5 (.slice q l d) l vals) ∧ ∀ b, (Value.slice q l d).ownBlock = some b → w.heap.size < b ∧ b < wr.heap.size ∧ b ≠ k := by
  obtain ⟨op, a, va, x, ps, vp, Sa, Sp, rfl, rfl, rfl, rfl, e4, h4, h5, h6, h7, h8, h9, h10⟩ := h.gf.parts
  obtain ⟨l1, l2, l3⟩ := h.lt
  subst e4
  obtain ⟨p', c', e, -⟩ := h7.form
  simp only [Value.slice.injEq] at e
  obtain ⟨rfl, rfl, rfl⟩ := e
  obtain ⟨hm, vals, Ss, r1, r2, r3, r4⟩ := h7
  exact ⟨by omega, ⟨vals, r1⟩, fun b hb => by have := h9 b (r2 b hb); exact ⟨this.1, by have := this.2.1; omega, this.2.2⟩⟩
theorem FBx.app {W1 w3 : World} {q q' : Option Addr} {l d d' W2 : Nat} {c0 c1 c2 c3 c4 : Value} (h : FBx (n + 1) Wt w g m k N v0 v1 v2 v3 (.slice q l d) wr) (hG : wr.grownBy W1 (some g)) (hC : Cur W1 g m') (hgf : GF n W2 (NewB wr W1) W1 (.agg #[c0, c1, c2, c3, c4]))
    (happ : ∀ b xs, W1.ownsRow b 29 5 (.slice q l d) l xs → b ≤ W1.heap.size → w3.ownsRow b 29 5 (.slice q' (l + 1) d') (l + 1) (xs ++ [c0, c1, c2, c3, c4])) (hg3 : W1.grownBy w3 (Value.slice q l d).ownBlock) (hnr : NewRow (.slice q l d) (.slice q' (l + 1) d') W1.heap.size) (hWt : Wt ≤ 1000000) :
    FBx (n + 1) (Wt + W2 + 1) w g m' k w3.heap.size v0 v1 v2 v3 (.slice q' (l + 1) d') (w3.setCell ⟨k, 4, none⟩ (.slice q' (l + 1) d')) := by
  obtain ⟨-, -, hob⟩ := h.row
  obtain ⟨op, a, va, x, ps, vp, Sa, Sp, rfl, rfl, rfl, rfl, e4, h4, h5, h6, h7, h8, h9, h10⟩ := h.gf.parts
  obtain ⟨l1, l2, l3⟩ := h.lt
  have hk := blk_lt h.box
  have hr := blk_lt h.res
  subst e4
  obtain ⟨p', c', e, -⟩ := h7.form
  simp only [Value.slice.injEq] at e
  obtain ⟨rfl, rfl, rfl⟩ := e
  obtain ⟨f, vf, vq, ef, hf, hfw⟩ := hgf
  have hz1 := hG.size
  have hz3 := hg3.size
  have keep : ∀ b, b < wr.heap.size → b ≠ g → (Value.slice q ps.length d).ownBlock ≠ some b → w3.heap[b]? = wr.heap[b]? := fun b hb hne hv => (hg3.block b (by omega) (fun e => hv e.symm)).trans (hG.block b hb (by simpa using hne))
  have hSg : ∀ b, SB w k N b → b ≠ g := fun b hb => by have := hb.1; omega
  have hrow1 := h7.mono (S' := Sp) (w' := W1) (R' := fun T f c => FmOwn 26 29 n T W1 f c) (fun b hb hlt => hG.block b hlt (by simpa using hSg b (h9 b hb))) (fun _ h => h)
    (fun T y c _ hT hy => FmOwn.mono n n y c (Nat.le_refl _) (fun b hb hlt => hG.block b hlt (by simpa using hSg b (h9 b (hT b hb)))) (fun _ h => h) hy)
  have hcs : [c0, c1, c2, c3, c4] = [.int .i64 f.op, .string f.a.n, vf, .string f.v, vq] := by simpa using ef
  have hO : FmOwn 26 29 n (NewB wr W1) W1 f [c0, c1, c2, c3, c4] := by rw [hcs]; exact hf
  obtain ⟨_, vals, _, r1, r2, _⟩ := id h7
  have hown3 : ∀ b, (Value.slice q' (ps.length + 1) d').ownBlock = some b → b < w3.heap.size := fun b hb => own_lt' (happ 0 vals (own_same r1 fun b' hb' hlt => hG.block b' hlt (by simpa using hSg b' (h9 b' (r2 b' hb')))) (Nat.zero_le _)) hb
  have hrow3 := OwnRow.snoc (S' := fun b => SB w k w3.heap.size b ∧ ¬ Sa b) (R' := fun T f c => FmOwn 26 29 n T w3 f c) hrow1 hO rfl (fun vals' hv => happ 0 vals' hv (Nat.zero_le _)) hg3 hnr (by unfold maxLen; omega)
    (fun b hb hS => by have h1 := hb.1; have h2 := (h9 b hS).2.1; omega) (fun b hb => by have := (h9 b hb).2.1; omega) (fun b hb => hb.2)
    (fun b hb => ⟨⟨(h9 b hb).1, by have := (h9 b hb).2.1; omega, (h9 b hb).2.2⟩, fun hs => (h8 b hs).2 hb⟩) (fun b hb => ⟨⟨by have := hb.1; omega, by have := hb.2; omega, by have := hb.1; omega⟩, fun hs => by have h1 := hb.1; have h2 := (h8 b hs).1.2.1; omega⟩)
    (fun b hb => by
      rcases hnr with e | ⟨b', e, hge⟩
      · rw [e] at hb
        have hs := r2 b hb
        exact ⟨⟨(h9 b hs).1, by have := (h9 b hs).2.1; omega, (h9 b hs).2.2⟩, fun ha => (h8 b ha).2 hs⟩
      · have hl := hown3 b hb
        rw [e] at hb; injection hb with hb
        exact ⟨⟨by omega, hl, by omega⟩, fun ha => by have := (h8 b ha).1.2.1; omega⟩)
    (fun T y c hT hy => FmOwn.mono n n y c (Nat.le_refl _) (fun b hb hlt => hg3.block b hlt (fun e => (hT b hb).2 e.symm)) (fun _ h => h) hy)
  have hsub : ∀ b, b ≠ k → (w3.setCell ⟨k, 4, none⟩ (.slice q' (ps.length + 1) d')).heap[b]? = w3.heap[b]? := fun b hb => heap_setCell_other w3 ⟨k, 4, none⟩ b _ hb
  have hg3c : Cur w3 g m' := hC.own hg3 (fun b hb => by have := (hob b hb).1; omega)
  have hgr3 : w.grownBy w3 (some g) := by
    have h1 := gr_trans h.gr hG
    exact ⟨hg3.os.trans h1.os, hg3.tape.trans h1.tape, hg3.output.trans h1.output, Nat.le_trans h1.size hz3, fun b hb hne => (hg3.block b (Nat.lt_of_lt_of_le hb h1.size) (fun e => by have := (hob b e.symm).1; omega)).trans (h1.block b hb hne)⟩
  refine ⟨hg3c.sc (p := ⟨_, _, none⟩) (by show g < k; omega) _, ?_, (hsub _ (by omega)).trans ((keep _ hr (by omega) (fun e => by have := (hob _ e).1; omega)).trans h.res), ?_, gr_sc hgr3 (.inr (by show w.heap.size ≤ k; omega)) _, l1, l2, by simp⟩
  · have := heap_setCell_same w3 k 4 _ _ (.slice q' (ps.length + 1) d') ((keep k hk (by omega) (fun e => (hob k e).2.2 rfl)).trans h.box)
    exact this
  · refine GF.of_parts (Sa := Sa) (Sp := fun b => SB w k w3.heap.size b ∧ ¬ Sa b) (ps := ps ++ [f]) h4 h5 (TmOwn.mono n n a _ (Nat.le_refl _) (fun b hb hlt => (hsub b (h8 b hb).1.2.2).trans (keep b hlt (hSg b (h8 b hb).1) (fun e => (h8 b hb).2 (r2 b e)))) (fun _ h => h) h6) ?_ (fun b hb => ⟨⟨(h8 b hb).1.1, by have := (h8 b hb).1.2.1; omega, (h8 b hb).1.2.2⟩, fun h => h.2 hb⟩) (fun b hb => hb.1) ?_
    · have e : (ps ++ [f]).length = ps.length + 1 := by simp
      exact hrow3.mono (fun b hb hlt => hsub b hb.1.2.2) (fun _ h => h) (fun T y c _ hT hy => FmOwn.mono n n y c (Nat.le_refl _) (fun b hb hlt => hsub b (hT b hb).1.2.2) (fun _ h => h) hy)
    · have e : ∀ l : List Fm, Fm.wts (l ++ [f]) = Fm.wts l + f.wt := fun l => by
        induction l with
        | nil => simp [Fm.wts]
        | cons y l ih => rw [List.cons_append, Fm.wts, Fm.wts, ih]; omega
      rw [e, List.length_append]; simp only [List.length_cons, List.length_nil]; omega
theorem FmOwn.setOp {eT eF : TypeId} {n : Nat} {S : Nat → Prop} {w : World} {t : Fm} {v0 v1 v2 v3 v4 : Value} {y : Int} (h : FmOwn eT eF (n + 1) S w t [v0, v1, v2, v3, v4]) (hy : -9223372036854775808 ≤ y ∧ y ≤ 9223372036854775807) : FmOwn eT eF (n + 1) S w (.mk y t.a t.v t.ps) [.int .i64 y, v1, v2, v3, v4] := by
  obtain ⟨op, a, x, ps⟩ := t
  obtain ⟨vn, va, vp, Sa, Sp, h1, h2, h3, h4, h5, h6, h7⟩ := h
  simp only [List.cons.injEq, and_true] at h1
  obtain ⟨-, rfl, rfl, rfl, rfl⟩ := h1
  exact ⟨_, _, _, Sa, Sp, rfl, hy, h3, h4, h5, h6, h7⟩
theorem FBx.partOp {q : Option Addr} {l d : Nat} (h : FBx (n + 2) Wt w g m k N v0 v1 v2 v3 (.slice q l d) wr) (hl : 0 < l) : ∃ (b : Nat) (cur : Array Value) (z : Value), q = some ⟨b, 0, none⟩ ∧ wr.heap[b]? = some (.cells cur 29 (0, 0)) ∧ cur[0]? = some z ∧ w.heap.size < b ∧ b < wr.heap.size ∧ b ≠ k ∧
    ∀ (y : Int) (w3 : World) (m' : Nat), (-9223372036854775808 ≤ y ∧ y ≤ 9223372036854775807) → wr.grownBy w3 (some g) → Cur w3 g m' → FBx (n + 2) Wt w g m' k N v0 v1 v2 v3 (.slice q l d) (w3.setCell ⟨b, 0, none⟩ (.int .i64 y)) := by
  obtain ⟨op, a, va, x, ps, vp, Sa, Sp, rfl, rfl, rfl, rfl, e4, h4, h5, h6, h7, h8, h9, h10⟩ := h.gf.parts
  obtain ⟨l1, l2, l3⟩ := h.lt
  have hk := blk_lt h.box
  have hr := blk_lt h.res
  subst e4
  obtain ⟨p', c', e, -⟩ := h7.form
  simp only [Value.slice.injEq] at e
  obtain ⟨rfl, rfl, rfl⟩ := e
  obtain ⟨f, ps', rfl⟩ : ∃ f ps', ps = f :: ps' := by cases ps with | nil => exact absurd hl (by simp) | cons f ps' => exact ⟨f, ps', rfl⟩
  obtain ⟨b, cap, cs, Si, cur, hv, hSb, hh, hcl, hsz, hcs, hR, hSi, hclose⟩ := OwnRow.elem h7 (i := 0) (x := f) rfl
  simp only [Value.slice.injEq] at hv
  obtain ⟨rfl, -, rfl⟩ := hv
  have hb := h9 b hSb
  have hb2 := blk_lt hh
  match cs, hcl with
  | [z0, z1, z2, z3, z4], _ =>
  have hc0 : cur[0]? = some z0 := by have := hcs 0 (by omega); simpa using this
  refine ⟨b, cur, z0, rfl, hh, hc0, hb.1, hb2, hb.2.2, fun y w3 m' hy hg hc => ?_⟩
  have hz3 := hg.size
  have hgb : g < b := by have := hb.1; omega
  have hbo : ∀ b', b' ≠ b → (w3.setCell ⟨b, 0, none⟩ (.int .i64 y)).heap[b']? = w3.heap[b']? := fun b' hb' => heap_setCell_other w3 ⟨b, 0, none⟩ b' _ hb'
  have keep : ∀ b', b' ≠ b → b' ≠ g → b' < wr.heap.size → (w3.setCell ⟨b, 0, none⟩ (.int .i64 y)).heap[b']? = wr.heap[b']? := fun b' h1 h2 h3 => (hbo b' h1).trans (hg.block b' h3 (by simpa using h2))
  have hSg : ∀ b', SB w k N b' → b' ≠ g := fun b' h => by have := h.1; omega
  have hrow := hclose (w3.setCell ⟨b, 0, none⟩ (.int .i64 y)) (.mk y f.a f.v f.ps) [.int .i64 y, z1, z2, z3, z4] (cur.setIfInBounds 0 (.int .i64 y)) (fun T f c => FmOwn 26 29 (n + 1) T (w3.setCell ⟨b, 0, none⟩ (.int .i64 y)) f c) rfl
    (heap_setCell_same w3 b 0 _ _ _ ((hg.block b hb2 (by simp; omega)).trans hh))
    (by
      have h1 := (Patch.refl (o := 0 * 5) (cs := [z0, z1, z2, z3, z4]) (fun j hj => hcs j (by simpa using hj))).set (j := 0) (by simp) (by simp at hsz ⊢; omega) (.int .i64 y)
      simpa using h1)
    (FmOwn.mono _ _ _ _ (Nat.le_refl _) (fun b' hb' hlt => keep b' (hSi b' hb').2 (hSg b' (h9 b' (hSi b' hb').1)) hlt) (fun _ h => h) (FmOwn.setOp hR hy))
    (fun T y' c hT hy' => FmOwn.mono _ _ _ _ (Nat.le_refl _) (fun b' hb' hlt => keep b' (hT b' hb').2.1 (hSg b' (h9 b' (hT b' hb').1)) hlt) (fun _ h => h) hy')
  refine ⟨hc.sc (p := ⟨_, _, none⟩) hgb _, (keep k (Ne.symm hb.2.2) (by omega) hk).trans h.box, (keep _ (by have := hb.1; omega) (by omega) hr).trans h.res, ?_, gr_sc (gr_trans h.gr hg) (.inr (by have := hb.1; show w.heap.size ≤ b; omega)) _, l1, l2, by simp; omega⟩
  refine GF.of_parts (Sa := Sa) (Sp := Sp) (ps := (Fm.mk y f.a f.v f.ps) :: ps') h4 h5 (TmOwn.mono _ _ _ _ (Nat.le_refl _) (fun b' hb' hlt => keep b' (fun e => (h8 b' hb').2 (e ▸ hSb)) (hSg b' (h8 b' hb').1) hlt) (fun _ h => h) h6) ?_ h8 h9 ?_
  · simpa using hrow
  · have e : (Fm.mk y f.a f.v f.ps).wt = f.wt := by obtain ⟨op, a, x, ps⟩ := f; simp [Fm.wt, Fm.a, Fm.v, Fm.ps]
    simp only [Fm.wts, List.length_cons] at h10 ⊢
    omega
end
def FirstAt (b : Bool) (w : World) (e : Ending) (w' : World) : Prop := ∃ r : Int, e = .returned (.int .i64 r) ∧ decide (0 ≤ r) = b ∧ Below w.heap.size w w'
theorem any_drop {α : Type} (us : List α) (P : α → Bool) {k : Nat} (h : k < us.length) : (us.drop k).any P = (P us[k] || (us.drop (k + 1)).any P) := by
  rw [List.drop_eq_getElem_cons h, List.any_cons]
theorem empt_iff (s : ByteArray) : s.toList.isEmpty = s.data.toList.isEmpty := by rw [ByteArray.toList_eq]
theorem l8None_any {B : Nat → Prop} (m : Nat) (t : Tm) (v0 v1 : Value) (w : World) (h : TmAt B m w t [v0, v1]) : Calls Tryz.prog 102 #[.agg #[v0, v1]] w fun e w' => e = .returned (.bool t.none) ∧ Below w.heap.size w w' := by
  obtain ⟨p, c, rfl, rfl, -, -⟩ := h.form
  clear h
  have HN := Lib.hid (show t.none = (t.n.toList.isEmpty && ((t.us.length : Int) == 0)) by rw [empt_iff, Tm.none]; cases t.us <;> simp; omega)
  go_enter Tryz.func102, Tryz.ntmps102
  go_wp2
  all_goals
    go_ret
    exact ⟨ret_bool (by rw [HN.out]; simp_all), by exact bel⟩
theorem isZeroTerm_any {B : Nat → Prop} (m : Nat) (t : Tm) (v0 v1 : Value) (w : World) (h : TmAt B m w t [v0, v1]) : Calls Tryz.prog 63 #[.agg #[v0, v1]] w fun e w' => e = .returned (.bool t.none) ∧ Below w.heap.size w w' := by
  obtain ⟨p, c, rfl, rfl, -, -⟩ := h.form
  clear h
  have HN := Lib.hid (show t.none = (t.n.toList.isEmpty && ((t.us.length : Int) == 0)) by rw [empt_iff, Tm.none]; cases t.us <;> simp; omega)
  go_enter Tryz.func63, Tryz.ntmps63
  go_wp2
  all_goals
    go_ret
    exact ⟨ret_bool (by rw [HN.out]; simp_all), by exact bel⟩
theorem len0 {α : Type} {l : List α} : (0 = l.length) = (l = []) := propext ⟨fun h => List.eq_nil_of_length_eq_zero h.symm, fun h => by rw [h]; rfl⟩
theorem len1 {n : Nat} : (1 = n) = ((n : Int) = 1) := propext ⟨fun h => by omega, fun h => by omega⟩
theorem len2 {n : Nat} : (2 = n) = ((n : Int) = 2) := propext ⟨fun h => by omega, fun h => by omega⟩
theorem op_cases (op : Int) : op = 1 ∨ op = 2 ∨ op = 3 ∨ op = 4 ∨ op = 5 ∨ op = 6 ∨ op = 7 ∨ op = 8 ∨ op = 9 ∨ (¬op = 1 ∧ ¬op = 2 ∧ ¬op = 3 ∧ ¬op = 4 ∧ ¬op = 5 ∧ ¬op = 6 ∧ ¬op = 7 ∧ ¬op = 8 ∧ ¬op = 9) := by omega
set_option maxHeartbeats 1600000 in
theorem l8Form_any {B : Nat → Prop} (m : Nat) (t : Fm) (v0 v1 v2 v3 v4 : Value) (w : World) (h : FmAt B m w t [v0, v1, v2, v3, v4]) (hz : t.a.sz ≤ 100000000) :
    Calls Tryz.prog 72 #[.agg #[v0, v1, v2, v3, v4]] w fun e w' => e = .returned (.bool t.form1) ∧ Below w.heap.size w w' := by
  have HA := Lib.hid h.atm
  obtain ⟨p, c, q, d, rfl, rfl, rfl, rfl, rfl, hop, hn, -, hv, hps⟩ := h.form
  obtain ⟨op, a, x, ps⟩ := t
  simp only [Fm.op, Fm.a, Fm.v, Fm.ps] at *
  have HV := Lib.hid hv
  unfold maxLen at hps
  clear h hn hv
  rcases op_cases op with rfl | rfl | rfl | rfl | rfl | rfl | rfl | rfl | rfl | ⟨h1, h2, h3, h4, h5, h6, h7, h8, h9⟩
  all_goals
    go_enter Tryz.func72, Tryz.ntmps72
    go_wp2_with (first | (go_at_call 102; refine (l8None_any m a _ _ _ (HA.out.below (by (repeat (first | with_reducible (first | exact bR _ _ | assumption | refine bA ?_ _ | refine bS ?_ (by first | exact Nat.le_refl _ | (simp; done) | (simp; omega)) _) | assumption | exact bR _ _ | refine bD ?_ | refine bN ?_ _ | refine bT ?_ (by assumption)))))).mono ?_; rintro e w1 ⟨rfl, hb1⟩; have ⟨cw1, fw1⟩ := bcell hb1; have qw1 := hb1.size; (try simp at qw1); (try have zw1w := bsz (show w.heap.size < w1.heap.size by omega))) | (go_at_call 103; refine (l2Atom_any m a _ _ _ (HA.out.below (by (repeat (first | with_reducible (first | exact bR _ _ | assumption | refine bA ?_ _ | refine bS ?_ (by first | exact Nat.le_refl _ | (simp; done) | (simp; omega)) _) | assumption | exact bR _ _ | refine bD ?_ | refine bN ?_ _ | refine bT ?_ (by assumption))))) hz).mono ?_; rintro e w1 ⟨rfl, hb1⟩; have ⟨cw1, fw1⟩ := bcell hb1; have qw1 := hb1.size; (try simp at qw1); (try have zw1w := bsz (show w.heap.size < w1.heap.size by omega))) | (go_at_call 76; refine (l2Var_any _ _ HV.out).mono ?_; rintro e w' ⟨rfl, rfl⟩))
  all_goals
    go_ret
    exact ⟨ret_bool (by simp_all [Fm.form1, arity, isQ, Fm.op, Fm.a, Fm.v, Fm.ps, empt_iff, len0, len1, len2]), by exact bel⟩
def Fm.notForm (f : Fm) : Bool := !f.form
theorem forms_any : ∀ us : List Fm, us.any Fm.notForm = !Fm.forms us
  | [] => rfl
  | a :: us => by rw [List.any_cons, forms_any us, Fm.forms, Fm.notForm]; cases a.form <;> rfl
mutual
def Fm.asz : Fm → Nat | .mk _ a _ ps => max a.sz (Fm.aszs ps)
def Fm.aszs : List Fm → Nat | [] => 0 | a :: us => max a.asz (Fm.aszs us)
end
theorem Fm.asz_arg (us : List Fm) {k : Nat} (h : k < us.length) : us[k].asz ≤ Fm.aszs us := by
  induction us generalizing k with
  | nil => simp at h
  | cons a us ih =>
    cases k with
    | zero => simp only [List.getElem_cons_zero, Fm.aszs]; omega
    | succ k => have := ih (k := k) (by simpa using h); simp only [List.getElem_cons_succ, Fm.aszs]; omega
set_option maxHeartbeats 3200000 in
theorem hasForm_of {B : Nat → Prop} (m : Nat) (ih : ∀ (us : List Fm) (va : Value) (w : World), Fm.aszs us ≤ 100000000 → ListAt B w 5 (FmAt B m w) va us →
      Calls Tryz.prog 34 #[va, .func (.func 64) #[] #[]] w fun e w' => e = .returned (.bool (!Fm.forms us)) ∧ Below w.heap.size w w')
    (op : Int) (a : Tm) (x : ByteArray) (ps : List Fm) (v1 v2 v4 : Value) (w : World) (ha : TmAt B m w a [v1, v2]) (hl : ListAt B w 5 (FmAt B m w) v4 ps) (hv : x.size ≤ maxLen) (hz : a.sz ≤ 100000000) (hzs : Fm.aszs ps ≤ 100000000) :
    Calls Tryz.prog 32 #[.agg #[.int .i64 op, v1, v2, .string x, v4]] w fun e w' => e = .returned (.bool ((Fm.mk op a x ps).form1 && Fm.forms ps)) ∧ Below w.heap.size w w' := by
  have HA := Lib.hid ha
  have HL := Lib.hid hl
  have HV := Lib.hid hv
  have IH := Lib.hid ih
  obtain ⟨p, c, rfl, rfl, -, -⟩ := ha.form
  obtain ⟨q, d, rfl, hps⟩ := hl.form
  unfold maxLen at hps
  clear ha hl hv ih
  rcases op_cases op with rfl | rfl | rfl | rfl | rfl | rfl | rfl | rfl | rfl | ⟨h1, h2, h3, h4, h5, h6, h7, h8, h9⟩
  all_goals
    go_enter Tryz.func32, Tryz.ntmps32
    go_wp2_with (first | (go_at_call 63; refine (isZeroTerm_any m a _ _ _ (HA.out.below (by (repeat (first | with_reducible (first | exact bR _ _ | assumption | refine bA ?_ _ | refine bS ?_ (by first | exact Nat.le_refl _ | (simp; done) | (simp; omega)) _) | assumption | exact bR _ _ | refine bD ?_ | refine bN ?_ _ | refine bT ?_ (by assumption)))))).mono ?_; rintro e w1 ⟨rfl, hb1⟩; have ⟨cw1, fw1⟩ := bcell hb1; have qw1 := hb1.size; (try simp at qw1); (try have zw1w := bsz (show w.heap.size < w1.heap.size by omega))) | (go_at_call 62; refine (isValidAtom_any m a _ _ _ (HA.out.below (by (repeat (first | with_reducible (first | exact bR _ _ | assumption | refine bA ?_ _ | refine bS ?_ (by first | exact Nat.le_refl _ | (simp; done) | (simp; omega)) _) | assumption | exact bR _ _ | refine bD ?_ | refine bN ?_ _ | refine bT ?_ (by assumption))))) hz).mono ?_; rintro e w1 ⟨rfl, hb1⟩; have ⟨cw1, fw1⟩ := bcell hb1; have qw1 := hb1.size; (try simp at qw1); (try have zw1w := bsz (show w.heap.size < w1.heap.size by omega))) | (go_at_call 52; refine (isVariable_any _ _ HV.out).mono ?_; rintro e w' ⟨rfl, rfl⟩) | (go_at_call 60; refine (isQuantifier_any _ _).mono ?_; rintro e w' ⟨rfl, rfl⟩) | (go_at_call 61; refine (isBinary_any _ _).mono ?_; rintro e w' ⟨rfl, rfl⟩) | (go_at_call 34; refine (IH.out ps _ _ hzs (HL.out.mono (SameOn.below (by (repeat (first | with_reducible (first | exact bR _ _ | assumption | refine bA ?_ _ | refine bS ?_ (by first | exact Nat.le_refl _ | (simp; done) | (simp; omega)) _) | assumption | exact bR _ _ | refine bD ?_ | refine bN ?_ _ | refine bT ?_ (by assumption))))) (fun _ h => h) (fun x cs _ hx => FmAt.below (by (repeat (first | with_reducible (first | exact bR _ _ | assumption | refine bA ?_ _ | refine bS ?_ (by first | exact Nat.le_refl _ | (simp; done) | (simp; omega)) _) | assumption | exact bR _ _ | refine bD ?_ | refine bN ?_ _ | refine bT ?_ (by assumption)))) hx))).mono ?_; rintro e w2 ⟨rfl, hb2⟩; have ⟨cw2, fw2⟩ := bcell hb2; have qw2 := hb2.size; (try simp at qw2); (try have zw2w := bsz (show w.heap.size < w2.heap.size by omega)); (try have zw2w1 := bsz (show w1.heap.size < w2.heap.size by omega))) | (go_at_call 34; refine (IH.out [] _ _ (Nat.zero_le _) (ListAt.nil _ _ _ _ _ _)).mono ?_; rintro e w2 ⟨rfl, hb2⟩; have ⟨cw2, fw2⟩ := bcell hb2; have qw2 := hb2.size; (try simp at qw2); (try have zw2w := bsz (show w.heap.size < w2.heap.size by omega)); (try have zw2w1 := bsz (show w1.heap.size < w2.heap.size by omega))))
  all_goals
    go_ret
    exact ⟨ret_bool (by simp_all [Fm.form1, arity, isQ, Fm.forms, Fm.op, Fm.a, Fm.v, Fm.ps, empt_iff, len0, len1, len2]), by exact bel⟩
end Go.Proofs.YtmbkjdkjemlfkaaGreatDoor
