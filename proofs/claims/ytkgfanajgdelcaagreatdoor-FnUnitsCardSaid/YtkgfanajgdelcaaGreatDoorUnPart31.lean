import Derived.Test.YtkgfanajgdelcaaGreatDoorUnPart30
namespace Go.Proofs.YtkgfanajgdelcaaGreatDoor
set_option maxRecDepth 100000
open Go.RowKit
theorem run_app_nil {P : Program} (w : World) (base : Nat) (t ty e : TypeId) (size bytes : Nat) (hE : Elem P t e size bytes) (v : Value) (n : Nat) (xs : List Value) (hown : w.ownsRow base e size v n xs) (c : Nat) :
    (Builtin.append_ #[t, t] ty #[v, .slice none 0 c]).run P w = .ok v w := by
  obtain ⟨ht, i, z, hi, -⟩ := hE
  rcases hown.2 with ⟨rfl, rfl⟩ | ⟨g, cap, cur, rfl, _, _, hnc, _⟩
  · simp [Builtin.append_, run_underlying ht, sizeOf, typeInfo, hi, Builtin.lenOf, Builtin.firstCells]
  · simp [Builtin.append_, run_underlying ht, sizeOf, typeInfo, hi, Builtin.lenOf, Builtin.firstCells, hnc, storeCells]
theorem each_appS {P : Program} {w : World} {o : Oper} {a : Act} {E : Value → World → Prop} (s x : Operand) (t : TypeId) (ho : o.op = .call { callee := .builtin .append, args := #[s, x], argTypes := #[t, t] })
    (base : Nat) (e : TypeId) (bytes : Nat) (hE : Elem P t e 1 bytes)
    (v : Value) (n : Nat) (xs : List Value) (hs : a.eval s = v) (v2 : Value) {B : Nat → Prop} (us : List ByteArray) (hx : a.eval x = v2) (hsrc : StrsAt B w v2 us)
    (hown : w.ownsRow base e 1 v n xs) (hbytes : (n + us.length) * bytes ≤ 140737488355328) (h63 : n + us.length ≤ maxLen) (hbase : base ≤ w.heap.size)
    (h : ∀ v' w', w'.ownsRow base e 1 v' (n + us.length) (xs ++ strW us) → w.grownBy w' v.ownBlock → NewRow v v' w.heap.size → E v' w') : eachUpon P E ((execOp a.eval o).run P w) := by
  have h1 : ∀ u ∈ strW us, u.oneCell' = true := fun u hu => by
    rw [strW, List.mem_map] at hu
    obtain ⟨s, -, rfl⟩ := hu; rfl
  obtain ⟨p, c, rfl, -⟩ := hsrc.form
  cases p with
  | some b =>
    cases us with
    | nil =>
      obtain ⟨ht, i, z, hi, hz, hsz, hby, hzs, hpos⟩ := hE
      obtain ⟨v', w', hr, h2, h3, _, h5⟩ := run_append_own_at (P := P) w base t o.type e i z 1 bytes ht hi hz hsz hby hzs hpos v n xs hown b 0 c [] rfl (fun j u hu => by simp at hu) (by simp) (by simpa using h63) (by simpa using hbytes) hbase
      unfold execOp
      simp only [ho, resolve, invoke, builtin, Sem.run_bind, Sem.run_pure, Result.andThen_ok, List.map_toArray, List.map_cons, List.map_nil, hs, hx]
      simp only [List.length_nil]
      rw [hr]
      exact h _ _ h2 h3 (by
        rcases h5 with h5 | h5
        · exact .inl h5
        · exact .inr ⟨_, h5, Nat.le_refl _⟩)
    | cons a us =>
      obtain ⟨b', o', hq, -⟩ := hsrc.at_ (i := 0) (by simp)
      obtain rfl : b = ⟨b', o', none⟩ := Option.some.inj hq
      exact each_app s x t ho base e 1 bytes hE v n xs hs _ _ _ hx (src_strs hsrc (.inr ⟨_, _, _, rfl⟩)) hown h1 hbytes h63 hbase h
  | none =>
    have h0 : us.length = 0 := by
      rcases Nat.eq_zero_or_pos us.length with h0 | h0
      · exact h0
      · obtain ⟨b', o', h2, -⟩ := hsrc.at_ (i := 0) h0
        cases h2
    obtain rfl : us = [] := List.eq_nil_of_length_eq_zero h0
    have hrun := run_app_nil (P := P) w base t o.type e 1 bytes hE v n xs hown c
    unfold execOp
    simp only [ho, resolve, invoke, builtin, Sem.run_bind, Sem.run_pure, Result.andThen_ok, List.map_toArray, List.map_cons, List.map_nil, hs, hx]
    simp only [List.length_nil] at hrun ⊢
    rw [hrun]
    exact h _ _ (by simpa [strW] using hown) ⟨rfl, rfl, rfl, Nat.le_refl _, fun _ _ _ => rfl⟩ (.inl rfl)
structure CloE (e eU : TypeId) (W : World) (x : Un) (u : Nat → Value) (L : Array Bool) (w : World) : Prop where
  bel : Below W.heap.size W w
  o11 : L.getD 11 false = true → L.getD 5 false = true
  o17 : L.getD 17 false = true → L.getD 11 false = true
  o19 : L.getD 19 false = true → L.getD 17 false = true ∧ L.getD 18 false = true
  r5 : L.getD 5 false = true → L.getD 11 false = false → w.ownsRow W.heap.size e 1 (u 5) 0 []
  r11 : L.getD 11 false = true → w.ownsRow W.heap.size e 1 (u 11) x.axs.length (strW x.axs)
  b17 : L.getD 17 false = true → u 17 = .agg #[.string x.name, .slice none 0 0, u 11, .string x.goal]
  a18 : L.getD 18 false = true → ∃ k, u 18 = .pointer (some ⟨k, 0, none⟩) ∧ W.heap.size ≤ k ∧ (L.getD 19 false = false → w.heap[k]? = some (.cells unitN eU (0, 0))) ∧ (L.getD 19 false = true → w.heap[k]? = some (.cells #[.string x.name, .slice none 0 0, u 11, .string x.goal] eU (0, 0))) ∧ k < w.heap.size ∧ (L.getD 5 false = true → L.getD 11 false = false → (u 5).ownBlock ≠ some k) ∧ (L.getD 11 false = true → (u 11).ownBlock ≠ some k)
section
variable {e eU : TypeId} {W w w' : World} {x : Un} {u : Nat → Value} {L : Array Bool} {v' : Value}
theorem CloE.start (hL : ∀ i, L.getD i false = false) : CloE e eU W x (fun _ => undef) L W.drew := by
  refine ⟨(Below.refl _ _).drew, ?_, ?_, ?_, ?_, ?_, ?_, ?_⟩ <;> (intro h; exact absurd h (by rw [hL]; decide))
theorem CloE.other (h : CloE e eU W x u L w) (k : Nat) (hk : k ∉ [5, 11, 17, 18, 19]) : CloE e eU W x u (L.setIfInBounds k true) w := by
  simp only [List.mem_cons, List.not_mem_nil, or_false, not_or] at hk
  obtain ⟨k5, k11, k17, k18, k19⟩ := hk
  obtain ⟨h1, h2, h3, h4, h5, h6, h7, h8⟩ := h
  refine ⟨h1, ?_, ?_, ?_, ?_, ?_, ?_, ?_⟩ <;> simp only [getD_set_ne false k5, getD_set_ne false k11, getD_set_ne false k17, getD_set_ne false k18, getD_set_ne false k19] <;> assumption
theorem CloE.b5 (h : CloE e eU W x u L w) (hun : L.getD 5 true = false) : CloE e eU W x (upd u 5 (.slice (some ⟨w.heap.size, 0, none⟩) 0 0)) (L.setIfInBounds 5 true) (w.alloc (.cells #[] e)) := by
  have hb := (Below.refl w.heap.size w).alloc (Nat.le_refl _) (.cells #[] e)
  have hn := getD_tf hun
  obtain ⟨h1, h2, h3, h4, h5, h6, h7, h8⟩ := h
  have n11 : L.getD 11 false = false := by
    cases h' : L.getD 11 false with
    | false => rfl
    | true => have := h2 h'; rw [hn] at this; cases this
  refine ⟨h1.alloc h1.size _, ?_, ?_, ?_, ?_, ?_, ?_, ?_⟩ <;> simp only [getD_set_ne false (show (5 : Nat) ≠ 11 by decide), getD_set_ne false (show (5 : Nat) ≠ 17 by decide), getD_set_ne false (show (5 : Nat) ≠ 18 by decide), getD_set_ne false (show (5 : Nat) ≠ 19 by decide), getD_now hun, n11, upd_same, upd_other u _ (show (11 : Nat) ≠ 5 by decide), upd_other u _ (show (17 : Nat) ≠ 5 by decide), upd_other u _ (show (18 : Nat) ≠ 5 by decide)]
  · intro h; cases h
  · intro h; have := h3 h; rw [n11] at this; cases this
  · exact h4
  · intro _ _; exact row_empty w _ e 1 h1.size
  · intro h; cases h
  · exact h7
  · intro a
    obtain ⟨k, e1, e2, e3, e4, e5, e6, e7⟩ := h8 a
    exact ⟨k, e1, e2, fun c => (hb.block k e5).trans (e3 c), fun c => (hb.block k e5).trans (e4 c), by simp; omega, fun _ _ => by simp only [Value.ownBlock, ne_eq, Option.some.injEq]; omega, fun h => by cases h⟩
theorem CloE.a11 (h : CloE e eU W x u L w) (hun : L.getD 11 true = false) (k5 : L.getD 5 false = true) (hr : w'.ownsRow W.heap.size e 1 v' (0 + x.axs.length) ([] ++ strW x.axs)) (hg : w.grownBy w' (u 5).ownBlock) (hnr : NewRow (u 5) v' w.heap.size) : CloE e eU W x (upd u 11 v') (L.setIfInBounds 11 true) w' := by
  have hn := getD_tf hun
  obtain ⟨h1, h2, h3, h4, h5, h6, h7, h8⟩ := h
  have n17 : L.getD 17 false = false := by
    cases h' : L.getD 17 false with
    | false => rfl
    | true => have := h3 h'; rw [hn] at this; cases this
  have n19 : L.getD 19 false = false := by
    cases h' : L.getD 19 false with
    | false => rfl
    | true => have := (h4 h').1; rw [n17] at this; cases this
  have ho := h5 k5 hn
  rw [Nat.zero_add, List.nil_append] at hr
  refine ⟨h1.grown hg h1.size (fun k hk => own_base ho k hk), ?_, ?_, ?_, ?_, ?_, ?_, ?_⟩ <;> simp only [getD_set_ne false (show (11 : Nat) ≠ 5 by decide), getD_set_ne false (show (11 : Nat) ≠ 17 by decide), getD_set_ne false (show (11 : Nat) ≠ 18 by decide), getD_set_ne false (show (11 : Nat) ≠ 19 by decide), getD_now hun, n17, n19, k5, upd_same, upd_other u _ (show (5 : Nat) ≠ 11 by decide), upd_other u _ (show (17 : Nat) ≠ 11 by decide), upd_other u _ (show (18 : Nat) ≠ 11 by decide)]
  · intro _; trivial
  · intro h; cases h
  · intro h; cases h
  · intro _ h; cases h
  · intro _; exact hr
  · intro h; cases h
  · intro a
    obtain ⟨k, e1, e2, e3, e4, e5, e6, e7⟩ := h8 a
    have hz := hg.size
    exact ⟨k, e1, e2, fun _ => (hg.block k e5 (fun e => e6 k5 hn e.symm)).trans (e3 n19), fun c => (by cases c), by omega, fun _ h => (by cases h), fun _ => newRow_ne hnr e5 (e6 k5 hn)⟩
theorem CloE.m17 (h : CloE e eU W x u L w) (hun : L.getD 17 true = false) (k11 : L.getD 11 false = true) : CloE e eU W x (upd u 17 (.agg #[.string x.name, .slice none 0 0, u 11, .string x.goal])) (L.setIfInBounds 17 true) w := by
  obtain ⟨h1, h2, h3, h4, h5, h6, h7, h8⟩ := h
  refine ⟨h1, ?_, ?_, ?_, ?_, ?_, ?_, ?_⟩ <;> simp only [getD_set_ne false (show (17 : Nat) ≠ 5 by decide), getD_set_ne false (show (17 : Nat) ≠ 11 by decide), getD_set_ne false (show (17 : Nat) ≠ 18 by decide), getD_set_ne false (show (17 : Nat) ≠ 19 by decide), getD_now hun, upd_same, upd_other u _ (show (5 : Nat) ≠ 17 by decide), upd_other u _ (show (11 : Nat) ≠ 17 by decide), upd_other u _ (show (18 : Nat) ≠ 17 by decide)]
  · exact h2
  · intro _; exact k11
  · intro a; exact ⟨trivial, (h4 a).2⟩
  · exact h5
  · exact h6
  · intro _; trivial
  · exact h8
theorem CloE.a18' (h : CloE e eU W x u L w) (hun : L.getD 18 true = false) : CloE e eU W x (upd u 18 (.pointer (some ⟨w.heap.size, 0, none⟩))) (L.setIfInBounds 18 true) (w.alloc (.cells unitN eU)) := by
  have hb := (Below.refl w.heap.size w).alloc (Nat.le_refl _) (.cells unitN eU)
  have hn := getD_tf hun
  obtain ⟨h1, h2, h3, h4, h5, h6, h7, h8⟩ := h
  have n19 : L.getD 19 false = false := by
    cases h' : L.getD 19 false with
    | false => rfl
    | true => have := (h4 h').2; rw [hn] at this; cases this
  refine ⟨h1.alloc h1.size _, ?_, ?_, ?_, ?_, ?_, ?_, ?_⟩ <;> simp only [getD_set_ne false (show (18 : Nat) ≠ 5 by decide), getD_set_ne false (show (18 : Nat) ≠ 11 by decide), getD_set_ne false (show (18 : Nat) ≠ 17 by decide), getD_set_ne false (show (18 : Nat) ≠ 19 by decide), getD_now hun, upd_same, upd_other u _ (show (5 : Nat) ≠ 18 by decide), upd_other u _ (show (11 : Nat) ≠ 18 by decide), upd_other u _ (show (17 : Nat) ≠ 18 by decide)]
  · exact h2
  · exact h3
  · intro a; rw [n19] at a; cases a
  · intro a b; exact own_below (h5 a b) hb
  · intro a; exact own_below (h6 a) hb
  · exact h7
  · intro _
    exact ⟨_, rfl, h1.size, fun _ => heap_alloc_new w _, fun c => (by rw [n19] at c; cases c), by simp, fun a b e' => by have := own_lt' (h5 a b) e'; omega, fun a e' => by have := own_lt' (h6 a) e'; omega⟩
theorem CloE.s19 (h : CloE e eU W x u L w) (hun : L.getD 19 true = false) (k17 : L.getD 17 false = true) (k18 : L.getD 18 false = true) {k : Nat} (hk : u 18 = .pointer (some ⟨k, 0, none⟩)) : CloE e eU W x (upd u 19 v') (L.setIfInBounds 19 true) (set4W w k 0 (.string x.name) (.slice none 0 0) (u 11) (.string x.goal)) := by
  have hn := getD_tf hun
  obtain ⟨h1, h2, h3, h4, h5, h6, h7, h8⟩ := h
  obtain ⟨k', e1, e2, e3, e4, e5, e6, e7⟩ := h8 k18
  rw [hk] at e1
  injection e1 with e1
  injection e1 with e1
  injection e1 with e1
  subst e1
  have k11 := h3 k17
  have hsame : ∀ b, b ≠ k → (set4W w k 0 (.string x.name) (.slice none 0 0) (u 11) (.string x.goal)).heap[b]? = w.heap[b]? := fun b hb => set4_other w _ _ _ _ hb
  refine ⟨⟨h1.os, h1.tape, h1.output, by simpa using h1.size, fun b hb => (hsame b (by omega)).trans (h1.block b hb)⟩, ?_, ?_, ?_, ?_, ?_, ?_, ?_⟩ <;> simp only [getD_set_ne false (show (19 : Nat) ≠ 5 by decide), getD_set_ne false (show (19 : Nat) ≠ 11 by decide), getD_set_ne false (show (19 : Nat) ≠ 17 by decide), getD_set_ne false (show (19 : Nat) ≠ 18 by decide), getD_now hun, upd_other u _ (show (5 : Nat) ≠ 19 by decide), upd_other u _ (show (11 : Nat) ≠ 19 by decide), upd_other u _ (show (17 : Nat) ≠ 19 by decide), upd_other u _ (show (18 : Nat) ≠ 19 by decide)]
  · exact h2
  · exact h3
  · intro _; exact ⟨k17, k18⟩
  · intro a b; rw [k11] at b; cases b
  · intro a; exact own_same (h6 a) fun g hg _ => hsame g (fun e' => e7 k11 (by rw [hg, e']))
  · exact h7
  · intro _
    refine ⟨k, hk, e2, fun c => (by cases c), fun _ => ?_, by simpa using e5, e6, e7⟩
    have := heap_setCell_same _ k 3 _ _ (.string x.goal) (heap_setCell_same _ k 2 _ _ (u 11) (heap_setCell_same _ k 1 _ _ (.slice none 0 0) (heap_setCell_same w k 0 _ _ (.string x.name) (e3 hn))))
    simpa [unitN] using this
end
set_option maxHeartbeats 1600000 in
theorem spoilt_any (g m : Nat) (t q : ByteArray) (w : World) (h : Cur w g m) (hm : m + 6 ≤ 1000000000) (ht : t.size ≤ 1000000) (hq : 0 < q.size) (hq2 : q.size ≤ 1000) :
    Calls Tryz.prog 66 #[.pointer (some ⟨g, 0, none⟩), .string t, .string q] w (Step g m 6 (IsStr (t.size + 1)) w) := by
  have H := Lib.hid h
  clear h
  cases he : t.data.toList.isEmpty
  · have he1 := empt_f he
    have ht0 : 0 < t.size := by
      rw [size_list]; cases hl : t.data.toList with
      | nil => rw [hl] at he; cases he
      | cons x l => simp
    go_enter Tryz.func66, Tryz.ntmps66
    go_wp2_with fail
    refine (pick_any g m _ _ H.out (by omega) (by omega) (by omega)).mono ?_
    rintro e w1 ⟨_, rfl, ⟨r1, rfl, hr1, hs1⟩, hc1, hg1⟩
    obtain ⟨i, rfl⟩ := Int.eq_ofNat_of_zero_le hr1
    have hi : i < t.size := by omega
    have hi2 : i ≤ t.size := by omega
    have hi3 : i + 1 ≤ t.size := by omega
    have hwi : IntKind.i64.wrap ((i : Int) + 1) = (i : Int) + 1 := IntWalk.i64_in _ (by omega)
    have hwi2 : ((i : Int) + 1).toNat = i + 1 := by omega
    have hwi3 : 0 ≤ (i : Int) + 1 := by omega
    have hwi4 : (i : Int) + 1 ≤ (t.size : Int) := by omega
    have HSZ := Lib.hid (And.intro ht hi)
    have HC1 := Lib.hid hc1
    clear hc1
    go_wp2_with fail
    refine (pick_any g (m + 2) _ _ HC1.out (by omega) (by omega) (by omega)).mono ?_
    rintro e w2 ⟨_, rfl, ⟨r2, rfl, hr2, hs2⟩, hc2, hg2⟩
    obtain ⟨j, rfl⟩ := Int.eq_ofNat_of_zero_le hr2
    have hj : j < q.size := by omega
    have HC2 := Lib.hid hc2
    clear hc2
    obtain ⟨x, hx⟩ : ∃ x, (q.extract j q.size).extract 0 1 = x := ⟨_, rfl⟩
    have hx1 : x.size ≤ 1 := by rw [← hx]; simp; omega
    go_wp2_with fail
    refine (pick_any g (m + 4) _ _ HC2.out (by omega) (by omega) (by omega)).mono ?_
    rintro e w3 ⟨_, rfl, ⟨r3, rfl, hr3, hs3⟩, hc3, hg3⟩
    have HC3 := Lib.hid hc3
    have HG := Lib.hid (gr_trans (gr_trans hg1 hg2) hg3)
    clear hc3 hg1 hg2 hg3
    clear hx
    rcases (by omega : r3 = 0 ∨ r3 = 1 ∨ r3 = 2) with rfl | rfl | rfl
    · go_wp2
      obtain ⟨C, HC0⟩ := class_of (InF w3.heap.size _ [] [] [])
      have HC := Lib.hid HC0
      clear HC0
      refine wp_region_flow (C := C) (by kernel_rfl) (by kernel_rfl) (fun L hL => (HC.out _ _).2 (InF.start (by first | (intro _ hs; cases hs; done) | (simp only [List.forall_mem_cons]; go_simp)) (by first | (intro _ hs; cases hs; done) | (simp only [List.forall_mem_cons]; go_simp)) (by first | (intro _ hs; cases hs; done) | (simp only [List.forall_mem_cons]; go_simp)) (by first | (intro _ hs; cases hs; done) | (simp only [List.forall_mem_cons]; go_simp)) L hL)) ?_
      repeat (first | ((first | apply flow_free rfl | (apply flow_yes; (case hw => go_simp))); (intro L w' hun hrd hC; have hC := (HC.out _ _).1 hC; have hb' := hC.below; have hf' := hC.cell; (try simp only [List.forall_mem_cons] at hf'); go_simp; first | exact ⟨(HC.out _ _).2 (hC.skip _ (by rfl)), rfl⟩ | (rw [if_neg]; (exact ⟨(HC.out _ _).2 (hC.skip _ (by rfl)), rfl⟩); omega) | fail); go_simp) | (apply flow_no; (case hw => (go_simp; try (intro hh; cases hh))); (intro L w' _ _ hC; exact (HC.out _ _).2 (((HC.out _ _).1 hC).skip _ (by rfl))); go_simp))
      refine flow_nil ?_
      intro L wz hL hz
      have hz := (HC.out _ _).1 hz
      have hbz := hz.below
      have hcz := hz.cell
      try simp only [List.forall_mem_cons] at hcz
      have hdz := hz.done
      try simp only [List.forall_mem_cons] at hdz
      (try have hwz : Below w.heap.size w wz := by first | exact Below.trans (by (repeat (first | with_reducible (first | exact bR _ _ | assumption | refine bA ?_ _ | refine bS ?_ (by first | exact Nat.le_refl _ | (simp; done) | (simp; omega)) _) | assumption | exact bR _ _ | refine bD ?_ | refine bN ?_ _ | refine bT ?_ (by assumption)))) hbz | ((repeat (first | with_reducible (first | exact bR _ _ | assumption | refine bA ?_ _ | refine bS ?_ (by first | exact Nat.le_refl _ | (simp; done) | (simp; omega)) _) | assumption | exact bR _ _ | refine bD ?_ | refine bN ?_ _ | refine bT ?_ (by assumption))); done))
      go_wp2
      go_ret
      refine ⟨_, rfl, ⟨_, rfl, ?_⟩, HC3.out.below hbz, gr_below HG.out hbz⟩
      have h1 := HSZ.out
      simp only [size_list, bytes_append', extract_list, List.length_append, List.length_drop, List.length_take] at h1 hx1 ⊢
      omega
    · go_wp2
      obtain ⟨C, HC0⟩ := class_of (InF w3.heap.size _ [] [] [])
      have HC := Lib.hid HC0
      clear HC0
      refine wp_region_flow (C := C) (by kernel_rfl) (by kernel_rfl) (fun L hL => (HC.out _ _).2 (InF.start (by first | (intro _ hs; cases hs; done) | (simp only [List.forall_mem_cons]; go_simp)) (by first | (intro _ hs; cases hs; done) | (simp only [List.forall_mem_cons]; go_simp)) (by first | (intro _ hs; cases hs; done) | (simp only [List.forall_mem_cons]; go_simp)) (by first | (intro _ hs; cases hs; done) | (simp only [List.forall_mem_cons]; go_simp)) L hL)) ?_
      repeat (first | ((first | apply flow_free rfl | (apply flow_yes; (case hw => go_simp))); (intro L w' hun hrd hC; have hC := (HC.out _ _).1 hC; have hb' := hC.below; have hf' := hC.cell; (try simp only [List.forall_mem_cons] at hf'); go_simp; first | exact ⟨(HC.out _ _).2 (hC.skip _ (by rfl)), rfl⟩ | (rw [if_neg]; (exact ⟨(HC.out _ _).2 (hC.skip _ (by rfl)), rfl⟩); omega) | fail); go_simp) | (apply flow_no; (case hw => (go_simp; try (intro hh; cases hh))); (intro L w' _ _ hC; exact (HC.out _ _).2 (((HC.out _ _).1 hC).skip _ (by rfl))); go_simp))
      refine flow_nil ?_
      intro L wz hL hz
      have hz := (HC.out _ _).1 hz
      have hbz := hz.below
      have hcz := hz.cell
      try simp only [List.forall_mem_cons] at hcz
      have hdz := hz.done
      try simp only [List.forall_mem_cons] at hdz
      (try have hwz : Below w.heap.size w wz := by first | exact Below.trans (by (repeat (first | with_reducible (first | exact bR _ _ | assumption | refine bA ?_ _ | refine bS ?_ (by first | exact Nat.le_refl _ | (simp; done) | (simp; omega)) _) | assumption | exact bR _ _ | refine bD ?_ | refine bN ?_ _ | refine bT ?_ (by assumption)))) hbz | ((repeat (first | with_reducible (first | exact bR _ _ | assumption | refine bA ?_ _ | refine bS ?_ (by first | exact Nat.le_refl _ | (simp; done) | (simp; omega)) _) | assumption | exact bR _ _ | refine bD ?_ | refine bN ?_ _ | refine bT ?_ (by assumption))); done))
      go_wp2
      go_ret
      refine ⟨_, rfl, ⟨_, rfl, ?_⟩, HC3.out.below hbz, gr_below HG.out hbz⟩
      have h1 := HSZ.out
      simp only [size_list, bytes_append', extract_list, List.length_append, List.length_drop, List.length_take] at h1 hx1 ⊢
      omega
    · go_wp2
      obtain ⟨C, HC0⟩ := class_of (InF w3.heap.size _ [] [] [])
      have HC := Lib.hid HC0
      clear HC0
      refine wp_region_flow (C := C) (by kernel_rfl) (by kernel_rfl) (fun L hL => (HC.out _ _).2 (InF.start (by first | (intro _ hs; cases hs; done) | (simp only [List.forall_mem_cons]; go_simp)) (by first | (intro _ hs; cases hs; done) | (simp only [List.forall_mem_cons]; go_simp)) (by first | (intro _ hs; cases hs; done) | (simp only [List.forall_mem_cons]; go_simp)) (by first | (intro _ hs; cases hs; done) | (simp only [List.forall_mem_cons]; go_simp)) L hL)) ?_
      repeat (first | ((first | apply flow_free rfl | (apply flow_yes; (case hw => go_simp))); (intro L w' hun hrd hC; have hC := (HC.out _ _).1 hC; have hb' := hC.below; have hf' := hC.cell; (try simp only [List.forall_mem_cons] at hf'); go_simp; first | exact ⟨(HC.out _ _).2 (hC.skip _ (by rfl)), rfl⟩ | (rw [if_neg]; (exact ⟨(HC.out _ _).2 (hC.skip _ (by rfl)), rfl⟩); omega) | fail); go_simp) | (apply flow_no; (case hw => (go_simp; try (intro hh; cases hh))); (intro L w' _ _ hC; exact (HC.out _ _).2 (((HC.out _ _).1 hC).skip _ (by rfl))); go_simp))
      refine flow_nil ?_
      intro L wz hL hz
      have hz := (HC.out _ _).1 hz
      have hbz := hz.below
      have hcz := hz.cell
      try simp only [List.forall_mem_cons] at hcz
      have hdz := hz.done
      try simp only [List.forall_mem_cons] at hdz
      (try have hwz : Below w.heap.size w wz := by first | exact Below.trans (by (repeat (first | with_reducible (first | exact bR _ _ | assumption | refine bA ?_ _ | refine bS ?_ (by first | exact Nat.le_refl _ | (simp; done) | (simp; omega)) _) | assumption | exact bR _ _ | refine bD ?_ | refine bN ?_ _ | refine bT ?_ (by assumption)))) hbz | ((repeat (first | with_reducible (first | exact bR _ _ | assumption | refine bA ?_ _ | refine bS ?_ (by first | exact Nat.le_refl _ | (simp; done) | (simp; omega)) _) | assumption | exact bR _ _ | refine bD ?_ | refine bN ?_ _ | refine bT ?_ (by assumption))); done))
      go_wp2
      go_ret
      refine ⟨_, rfl, ⟨_, rfl, ?_⟩, HC3.out.below hbz, gr_below HG.out hbz⟩
      have h1 := HSZ.out
      simp only [size_list, bytes_append', extract_list, List.length_append, List.length_drop, List.length_take] at h1 hx1 ⊢
      omega
  · have he1 := empt_t he
    go_enter Tryz.func66, Tryz.ntmps66
    go_wp2
    go_ret
    refine ⟨_, rfl, ⟨_, rfl, ?_⟩, H.out.more (by omega) (by omega), gr_refl _ _⟩
    simp only [size_list, extract_list, List.length_drop, List.length_take]
    omega
theorem of_lit (g m k n b : Nat) (W : World) (cs : Array Value) (t : TypeId) (hn : n = cs.size) (hb : b = W.heap.size) (h : Cur W g m) (hm : m + 2 ≤ 1000000000) (h0 : 0 < cs.size) (h1 : cs.size ≤ 1000000000) (hs : ∀ v ∈ cs, IsStr k v) :
    Calls Tryz.prog 70 #[.pointer (some ⟨g, 0, none⟩), .slice (some ⟨b, 0, none⟩) n n] (W.alloc (.cells cs t)) (Step g m 2 (IsStr k) (W.alloc (.cells cs t))) := by
  subst hn hb
  have hlt := h.lt
  exact of_any g m W.heap.size cs.size k cs t (0, 0) _ (h.below ((Below.refl _ _).alloc (Nat.le_refl _) _)) hm (heap_alloc_new W _) (by omega) h0 h1 hs
theorem Cur.al {w : World} {g m : Nat} (h : Cur w g m) (o : Obj) : Cur (w.alloc o) g m := h.below ((Below.refl _ _).alloc (Nat.le_refl _) o)
theorem Cur.sc {w : World} {g m : Nat} (h : Cur w g m) {p : Addr} (hp : g < p.block) (u : Value) : Cur (w.setCell p u) g m := by
  obtain ⟨v, a, s, h1, h2, h3, h4, h5, code, h6, h7⟩ := h
  exact ⟨v, a, s, (heap_setCell_other w p g u (fun e => by omega)).trans h1, h2, h3, h4, h5, code, h6, h7.mono (SameOn.store w (fun b hb e => by omega) u) (fun _ h => h) (fun _ _ _ h => h)⟩
def StepO (g m k : Nat) (p : World → Value → Prop) (w : World) (e : Ending) (w' : World) : Prop :=
  ∃ v, e = .returned v ∧ p w' v ∧ Cur w' g (m + k) ∧ w.grownBy w' (some g)
theorem sameOn_grown {S : Nat → Prop} {w w' : World} {g : Nat} (hg : w.grownBy w' (some g)) (hS : ∀ b, S b → b ≠ g) : SameOn S w w' := fun b hb hlt => hg.block b hlt (by simpa using hS b hb)
theorem Cur.own {w w' : World} {g m : Nat} {v : Value} (h : Cur w g m) (hg : w.grownBy w' v.ownBlock) (hv : ∀ b, v.ownBlock = some b → g < b) : Cur w' g m := by
  have hlt := h.lt
  obtain ⟨u, a, s, h1, h2, h3, h4, h5, code, h6, h7⟩ := h
  exact ⟨u, a, s, (hg.block g hlt (fun e => by have := hv g e.symm; omega)).trans h1, h2, h3, h4, h5, code, h6, h7.mono (fun b hb hlt => hg.block b hlt (fun e => by have := hv b e.symm; omega)) (fun _ h => h) (fun _ _ _ h => h)⟩
section
variable {α : Type} {R : (Nat → Prop) → World → α → List Value → Prop} {eT : TypeId} {sz : Nat} {mk : Value → Obj} {X : Nat → Prop} {w W W' W2 w3 : World} {g m m' bt ci : Nat} {v v' : Value} {xs : List α} {a : α}
end
end Go.Proofs.YtkgfanajgdelcaaGreatDoor
