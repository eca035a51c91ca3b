import Derived.Test.YtkgfanajgdelcaaGreatDoorUnPart21
namespace Go.Proofs.YtkgfanajgdelcaaGreatDoor
set_option maxRecDepth 100000
open Go.RowKit
def firstI {α : Type} (P : α → Bool) : Nat → List α → Option Nat
  | _, [] => none
  | k, a :: l => if P a then some k else firstI P (k + 1) l
theorem firstI_drop {α : Type} (P : α → Bool) {us : List α} {k : Nat} (h : k < us.length) : firstI P k (us.drop k) = if P us[k] then some k else firstI P (k + 1) (us.drop (k + 1)) := by
  rw [List.drop_eq_getElem_cons h, firstI]
theorem firstI_some {α : Type} (P : α → Bool) : ∀ (us : List α) (k i : Nat), firstI P k us = some i → k ≤ i ∧ ∃ h : i - k < us.length, us.find? P = some us[i - k]
  | [], _, _, h => by cases h
  | a :: us, k, i, h => by
    rw [firstI] at h
    cases hp : P a
    · rw [hp, if_neg (by simp)] at h
      obtain ⟨h1, h2, h3⟩ := firstI_some P us (k + 1) i h
      have e : i - k = (i - (k + 1)) + 1 := by omega
      refine ⟨by omega, by rw [List.length_cons]; omega, ?_⟩
      simp only [e, List.getElem_cons_succ]
      rw [List.find?_cons, hp, h3]
    · rw [hp, if_pos rfl] at h
      injection h with h
      subst h
      refine ⟨Nat.le_refl _, by simp, ?_⟩
      rw [List.find?_cons, hp]; simp
theorem firstI_none {α : Type} (P : α → Bool) : ∀ (us : List α) (k : Nat), firstI P k us = none → us.find? P = none
  | [], _, _ => rfl
  | a :: us, k, h => by
    rw [firstI] at h
    cases hp : P a
    · rw [hp, if_neg (by simp)] at h
      rw [List.find?_cons, hp]; exact firstI_none P us (k + 1) h
    · rw [hp, if_pos rfl] at h; cases h
theorem firstI_any {α : Type} (P : α → Bool) : ∀ (us : List α) (k : Nat), (firstI P k us).isSome = us.any P
  | [], _ => rfl
  | a :: us, k => by
    rw [firstI, List.any_cons]
    cases hp : P a
    · rw [if_neg (by simp), firstI_any P us (k + 1), Bool.false_or]
    · rw [if_pos rfl]; rfl
def atI : Option Nat → Int | none => -1 | some i => i
def FirstI (o : Option Nat) (w : World) (e : Ending) (w' : World) : Prop := ∃ r : Int, e = .returned (.int .i64 r) ∧ r = atI o ∧ Below w.heap.size w w'
theorem atI_neg (o : Option Nat) : decide (0 ≤ atI o) = o.isSome := by cases o <;> simp [atI]
theorem idxFrom_in (x : ByteArray) : ∀ (zs : List ByteArray) (i : Nat), decide (0 ≤ Lib.idxFromS zs x i) = inS zs x
  | [], i => by simp [Lib.idxFromS, inS]
  | a :: zs, i => by
    rw [Lib.idxFromS, inS]
    by_cases h : a = x
    · rw [if_pos h]; simp [h]
    · rw [if_neg h, idxFrom_in x zs (i + 1), inS]
      simp [Ne.symm h]
theorem idxOfS_in (x : ByteArray) (zs : List ByteArray) : decide (0 ≤ Lib.idxOfS zs x) = inS zs x := idxFrom_in x zs 0
theorem containsS_any {B : Nat → Prop} (us : List ByteArray) (v : Value) (x : ByteArray) (w : World) (h : StrsAt B w v us) :
    Calls Tryz.prog 39 #[v, .string x] w fun e w' => e = .returned (.bool (inS us x)) ∧ Below w.heap.size w w' := by
  obtain ⟨p, c, rfl, hlen⟩ := h.form
  unfold maxLen at hlen
  cases us with
  | nil => exact (Tryz.slices_Contains_string_empty p c x w).mono fun e w' ⟨h1, h2⟩ => ⟨h1.trans rfl, h2 ▸ Below.refl _ _⟩
  | cons a us =>
    obtain ⟨b, o, rfl, -⟩ := h.at_ (i := 0) (by simp)
    refine (Tryz.slices_Contains_string b o (a :: us).length c (a :: us) x w (Nat.le_refl _) (by omega) (fun j hj => ?_)).mono fun e w' ⟨h1, h2⟩ => ⟨h1.trans ?_, h2 ▸ Below.refl _ _⟩
    · obtain ⟨b', o', hp, -, hc, -⟩ := h.at_ hj
      simp only [Option.some.injEq, Addr.mk.injEq, and_true] at hp
      obtain ⟨rfl, rfl⟩ := hp
      rw [hc, List.getD_eq_getElem?_getD, List.getElem?_eq_getElem hj]; rfl
    · rw [List.take_length, Lib.containsS, idxOfS_in]
theorem notIn_any {B : Nat → Prop} (out : List ByteArray) (vo : Value) (g : Nat) (x : ByteArray) (w : World) (hg : w.cell? ⟨g, 0, none⟩ = some vo) (h : StrsAt B w vo out) :
    Calls Tryz.prog 84 #[.string x, .pointer (some ⟨g, 0, none⟩)] w fun e w' => e = .returned (.bool (!inS out x)) ∧ Below w.heap.size w w' := by
  have H := Lib.hid h
  obtain ⟨p, c, rfl, hlen⟩ := h.form
  clear h
  go_enter Tryz.func84, Tryz.ntmps84
  go_wp2_with fail
  refine (containsS_any out _ x _ (H.out.below (by exact bel))).mono ?_
  rintro e w1 ⟨rfl, hb1⟩
  have ⟨cw1, fw1⟩ := bcell hb1
  have qw1 := hb1.size
  (try simp at qw1)
  (try have zw1w := bsz (show w.heap.size < w1.heap.size by omega))
  go_wp2
  go_ret
  exact ⟨rfl, by exact bel⟩
set_option maxHeartbeats 1600000 in
theorem idxNotIn {B : Nat → Prop} (P : ByteArray → Bool) (us : List ByteArray) (g : Addr) (va : Value) (w : World) (HC : ∀ (a : ByteArray) (w' : World), a ∈ us → a.size ≤ maxLen → Below w.heap.size w w' → Calls Tryz.prog 84 #[.string a, .pointer (some g)] w' fun e w'' => e = .returned (.bool (P a)) ∧ Below w'.heap.size w' w'')
    (h : StrsAt B w va us) : Calls Tryz.prog 138 #[va, .func (.func 84) #[] #[.pointer (some g)]] w (FirstI (firstI P 0 us) w) := by
  obtain ⟨p, c, rfl, hlen⟩ := h.form
  unfold maxLen at hlen
  have H := Lib.hid h
  have HN1 := Lib.hid HC
  clear h HC
  go_enter Tryz.func138, Tryz.ntmps138
  go_wp2
  go_loopw [8] (fun i wr => ∃ k : Nat, k ≤ us.length ∧ i = .int .i64 k ∧ firstI P 0 us = firstI P k (us.drop k) ∧ Below w.heap.size w wr) (fun i _ => us.length - (intOf i).toNat)
  case atStart => exact ⟨0, Nat.zero_le _, rfl, rfl, by exact bel⟩
  case round =>
    obtain ⟨k, hk, rfl, he, hb⟩ := hrel
    have HE := Lib.hid he
    clear he
    by_cases hlt : k < us.length
    · obtain ⟨b, o, rfl, hB, hx0, hxs⟩ := (H.out.below hb).at_ hlt
      have HD := Lib.hid (firstI_drop P hlt)
      have hm := List.getElem_mem hlt
      obtain ⟨a, ha⟩ : ∃ a, us[k] = a := ⟨_, rfl⟩
      rw [ha] at hx0 hxs HD hm
      clear ha
      have zb := bsz (World.block_lt_of_cell? _ _ hx0)
      cases hN : P a
      all_goals
        have HN := Lib.hid hN
        go_wp2_with fail
        refine (HN1.out a _ hm hxs (by exact bel)).mono ?_
        rintro e w1 ⟨rfl, hb1⟩
        have ⟨cw1, fw1⟩ := bcell hb1
        have qw1 := hb1.size
        (try simp at qw1)
        (try have zw1w := bsz (show w.heap.size < w1.heap.size by omega))
        rw [HN.out]
        go_wp2
      · refine ⟨⟨k + 1, by omega, by go_num, ?_, by exact bel⟩, by simp [intOf]; omega⟩
        rw [HE.out, HD.out, HN.out]; rfl
      · go_ret
        exact ⟨_, rfl, by rw [HE.out, HD.out, HN.out]; rfl, by exact bel⟩
    · obtain rfl : k = us.length := by omega
      have he := HE.out
      rw [List.drop_length] at he
      have HE2 := Lib.hid he
      clear he
      go_wp2
      go_ret
      exact ⟨-1, rfl, by rw [HE2.out]; rfl, by exact bel⟩
set_option maxHeartbeats 1600000 in
theorem anyNotIn_any {B B' : Nat → Prop} (us out : List ByteArray) (va vo : Value) (g : Nat) (w : World) (hg : w.cell? ⟨g, 0, none⟩ = some vo) (ho : StrsAt B' w vo out) (h : StrsAt B w va us) :
    Calls Tryz.prog 83 #[va, .func (.func 84) #[] #[.pointer (some ⟨g, 0, none⟩)]] w fun e w' => e = .returned (.bool (us.any fun x => !inS out x)) ∧ Below w.heap.size w w' := by
  have hgz := World.block_lt_of_cell? _ _ hg
  have HX := Lib.hid (fun (w' : World) (hb : Below w.heap.size w w') => idxNotIn (fun x => !inS out x) us ⟨g, 0, none⟩ va w' (fun a w2 _ _ hb2 => notIn_any out vo g a w2 (((Below.step hb hb2).cell hgz).trans hg) (ho.below (Below.step hb hb2))) (h.below hb))
  clear h ho
  go_enter Tryz.func83, Tryz.ntmps83
  go_wp2_with fail
  refine (HX.out _ (by exact bel)).mono ?_
  rintro e w1 ⟨r, rfl, hr, hb1⟩
  have HR := Lib.hid (show decide (0 ≤ r) = (us.any fun x => !inS out x) by rw [hr, atI_neg, firstI_any])
  clear hr
  go_wp2
  go_ret
  exact ⟨ret_bool HR.out, by exact bel⟩
theorem not_any_all (us : List ByteArray) (P : ByteArray → Bool) : (!us.any fun x => !P x) = us.all P := by
  induction us with
  | nil => rfl
  | cons a us ih => rw [List.any_cons, List.all_cons, ← ih]; cases P a <;> simp
set_option maxHeartbeats 1600000 in
theorem readyU_any {B B' : Nat → Prop} (u : Un) (out : List ByteArray) (vo v0 v1 v2 v3 : Value) (g : Nat) (w : World) (hg : w.cell? ⟨g, 0, none⟩ = some vo) (ho : StrsAt B' w vo out) (h : UnAt B w u [v0, v1, v2, v3]) :
    Calls Tryz.prog 82 #[.agg #[v0, v1, v2, v3], .pointer (some ⟨g, 0, none⟩)] w fun e w' => e = .returned (.bool (u.ready out)) ∧ Below w.heap.size w w' := by
  obtain ⟨p, c, q, d, rfl, rfl, rfl, rfl, -, -, -, -, hi, -⟩ := h.form
  have hgz := bsz (World.block_lt_of_cell? _ _ hg)
  obtain ⟨po, co, rfl, -⟩ := ho.form
  have HI := Lib.hid hi
  have HO := Lib.hid ho
  have HRD := Lib.hid (show u.ready out = (!inS out u.name && !(u.incs.any fun x => !inS out x)) by rw [not_any_all]; rfl)
  clear h hi ho
  go_enter Tryz.func82, Tryz.ntmps82
  go_wp2_with fail
  refine (containsS_any out _ u.name _ (HO.out.below (by exact bel))).mono ?_
  rintro e w1 ⟨rfl, hb1⟩
  have ⟨cw1, fw1⟩ := bcell hb1
  have qw1 := hb1.size
  (try simp at qw1)
  (try have zw1w := bsz (show w.heap.size < w1.heap.size by omega))
  cases h1 : inS out u.name
  · have H1 := Lib.hid h1
    go_wp2_with fail
    refine (anyNotIn_any u.incs out _ _ g _ (by go_simp) (HO.out.below (by exact bel)) (HI.out.below (by exact bel))).mono ?_
    rintro e w2 ⟨rfl, hb2⟩
    have ⟨cw2, fw2⟩ := bcell hb2
    have qw2 := hb2.size
    (try simp at qw2)
    (try have zw2w := bsz (show w.heap.size < w2.heap.size by omega))
    (try have zw2w1 := bsz (show w1.heap.size < w2.heap.size by omega))
    go_wp2
    go_ret
    exact ⟨ret_bool (by rw [HRD.out, H1.out]; rfl), by exact bel⟩
  · have H1 := Lib.hid h1
    go_wp2
    go_ret
    exact ⟨ret_bool (by rw [HRD.out, H1.out]; rfl), by exact bel⟩
set_option maxHeartbeats 1600000 in
theorem idxReady {B : Nat → Prop} (P : Un → Bool) (us : List Un) (g : Addr) (va : Value) (w : World) (HC : ∀ (a : Un) (v0 v1 v2 v3 : Value) (w' : World), a ∈ us → UnAt B w' a [v0, v1, v2, v3] → Below w.heap.size w w' → Calls Tryz.prog 82 #[.agg #[v0, v1, v2, v3], .pointer (some g)] w' fun e w'' => e = .returned (.bool (P a)) ∧ Below w'.heap.size w' w'')
    (h : UnsAt B w va us) : Calls Tryz.prog 81 #[va, .func (.func 82) #[] #[.pointer (some g)]] w (FirstI (firstI P 0 us) w) := by
  obtain ⟨p, c, rfl, hlen⟩ := h.form
  unfold maxLen at hlen
  have H := Lib.hid h
  have HN1 := Lib.hid HC
  clear h HC
  go_enter Tryz.func81, Tryz.ntmps81
  go_wp2
  go_loopw [8] (fun i wr => ∃ k : Nat, k ≤ us.length ∧ i = .int .i64 k ∧ firstI P 0 us = firstI P k (us.drop k) ∧ Below w.heap.size w wr) (fun i _ => us.length - (intOf i).toNat)
  case atStart => exact ⟨0, Nat.zero_le _, rfl, rfl, by exact bel⟩
  case round =>
    obtain ⟨k, hk, rfl, he, hb⟩ := hrel
    have HE := Lib.hid he
    clear he
    by_cases hlt : k < us.length
    · obtain ⟨b, o, rfl, hB, p1, c1, p2, c2, hx0, hx1, hx2, hx3, hx⟩ := (H.out.below hb).at_ hlt
      have HD := Lib.hid (firstI_drop P hlt)
      have hm := List.getElem_mem hlt
      obtain ⟨a, ha⟩ : ∃ a, us[k] = a := ⟨_, rfl⟩
      rw [ha] at hx hx0 hx1 hx2 hx3 HD hm
      have HX := Lib.hid hx
      clear ha hx
      have zb := bsz (World.block_lt_of_cell? _ _ hx0)
      cases hN : P a
      all_goals
        have HN := Lib.hid hN
        go_wp2_with fail
        refine (HN1.out a _ _ _ _ _ hm HX.out (by exact bel)).mono ?_
        rintro e w1 ⟨rfl, hb1⟩
        have ⟨cw1, fw1⟩ := bcell hb1
        have qw1 := hb1.size
        (try simp at qw1)
        (try have zw1w := bsz (show w.heap.size < w1.heap.size by omega))
        rw [HN.out]
        go_wp2
      · refine ⟨⟨k + 1, by omega, by go_num, ?_, by exact bel⟩, by simp [intOf]; omega⟩
        rw [HE.out, HD.out, HN.out]; rfl
      · go_ret
        exact ⟨_, rfl, by rw [HE.out, HD.out, HN.out]; rfl, by exact bel⟩
    · obtain rfl : k = us.length := by omega
      have he := HE.out
      rw [List.drop_length] at he
      have HE2 := Lib.hid he
      clear he
      go_wp2
      go_ret
      exact ⟨-1, rfl, by rw [HE2.out]; rfl, by exact bel⟩
structure OrdSt (l out : List ByteArray) (v : Value) (w wr : World) : Prop where
  box : wr.heap[w.heap.size + 1]? = some (.cells #[v] 26 (0, 0))
  row : wr.ownsRow w.heap.size 9 1 v out.length (strW out)
  apart : v.ownBlock ≠ some (w.heap.size + 1)
  sizes : ∀ s ∈ out, s.size ≤ maxLen
  bel : Below w.heap.size w wr
def OrdIRel (l : List Un) (w : World) (wr : World) : Prop :=
  ∃ (out : List ByteArray) (v : Value), OrdInv l out ∧ ordF (l.length - out.length) l out = ordL l ∧ OrdSt [] out v w wr
def OrdPost (l : List Un) (w : World) (e : Ending) (w' : World) : Prop :=
  Below w.heap.size w w' ∧ if (ordL l).length = l.length then ∃ v, e = .returned (.tuple #[v, .bool true]) ∧ StrOwn 9 (NewB w w') w' (ordL l) v else e = .returned (.tuple #[.slice none 0 0, .bool false])
set_option maxHeartbeats 3200000 in
theorem order_any {B : Nat → Prop} (l : List Un) (va : Value) (w : World) (h : UnsAt B w va l) (hl : l.length ≤ 1048576) : Calls Tryz.prog 31 #[va] w (OrdPost l w) := by
  obtain ⟨p, c, rfl, hlen⟩ := h.form
  unfold maxLen at hlen
  have H := Lib.hid h
  clear h
  go_enter Tryz.func31, Tryz.ntmps31
  go_wp2
  go_loopw [] (OrdIRel l w) (fun wr => l.length - lenB wr (w.heap.size + 1))
  case atStart =>
    refine ⟨[], .slice (some ⟨w.heap.size, 0, none⟩) 0 0, OrdInv.nil l, rfl, new_at (by simp), own_below (row_empty w w.heap.size _ 1 (Nat.le_refl _)) (by exact bel), by simp [Value.ownBlock], by simp, by exact bel⟩
  case round =>
    obtain ⟨out, v, hinv, hord, hst⟩ := hrel
    have HO := Lib.hid (rowS_own (S := fun _ => True) hst.row hst.sizes (by have := hinv.len; unfold maxLen; omega) (fun _ _ => trivial))
    obtain ⟨po, co, rfl, -⟩ := OwnRow.form HO.out
    have hlen2 := hinv.len
    have c0 : wr.cell? ⟨w.heap.size + 1, 0, none⟩ = some (.slice po out.length co) := (cell_of_row _ _ 0 _ _ (0, 0) hst.box).trans rfl
    have cf : ∀ i, wr.frozen? ⟨w.heap.size + 1, i, none⟩ = false := fun i => frozen_of_row _ _ i _ _ hst.box
    have zb := bsz (blk_lt hst.box)
    have hb := hst.bel
    have hqb := hb.size
    have hla := Lib.hid (lenB_of c0)
    have HINV := Lib.hid hinv
    have HORD := Lib.hid hord
    have HST := Lib.hid hst
    clear hinv hord hst
    by_cases hlt : out.length < l.length
    · have HX := Lib.hid (idxReady (fun u => u.ready out) l ⟨w.heap.size + 1, 0, none⟩ (.slice p l.length c) wr (fun a v0 v1 v2 v3 w' _ ha hb' => readyU_any a out _ v0 v1 v2 v3 (w.heap.size + 1) w' ((hb'.cell zb.1).trans c0) (HO.out.at_.below hb') ha) (H.out.below hb))
      go_wp2_with fail
      refine (HX.out).mono ?_
      rintro e w1 ⟨r, rfl, hr, hb1⟩
      have ⟨cb1, fb1⟩ := bcell hb1
      have hq1 := hb1.size
      have hbw : Below w.heap.size w w1 := Below.step hb hb1
      cases hf : firstI (fun u => u.ready out) 0 l with
      | none =>
        rw [hf] at hr
        obtain rfl : r = -1 := hr
        have HN := Lib.hid (show ordL l = out from HORD.out.symm.trans (ordF_none _ (firstI_none _ _ _ hf)))
        clear hf
        go_wp2
        refine bodyPost_ret (v := .tuple #[.slice none 0 0, .bool false]) (by simp only [results, Tryz.results31]; go_simp) rfl ⟨hbw, ?_⟩
        rw [HN.out, if_neg (by omega)]
      | some i =>
        rw [hf] at hr
        obtain rfl : r = (i : Int) := hr
        obtain ⟨-, hi, hfd⟩ := firstI_some _ _ _ _ hf
        simp only [Nat.sub_zero] at hi hfd
        obtain ⟨b, o, rfl, hB, p1, c1, p2, c2, hx0, hx1, hx2, hx3, hx⟩ := (H.out.below hbw).at_ hi
        have hnsz : l[i].name.size ≤ maxLen := by obtain ⟨_, _, _, h2, _⟩ := hx; exact h2
        have HFD := Lib.hid hfd
        obtain ⟨u, hu⟩ : ∃ u, l[i] = u := ⟨_, rfl⟩
        rw [hu] at hx0 hx1 hx2 hx3 HFD hnsz
        have zbb := bsz (World.block_lt_of_cell? _ _ hx0)
        have hi0 : ¬ (i : Int) < 0 := by omega
        have HS1 := Lib.hid (own_below HST.out.row hb1)
        have hnsl : l[i].name.size ≤ maxLen := by rw [hu]; exact hnsz
        clear hx hf hfd hu
        go_wp2
        have hvne := HST.out.apart
        have hbold : b < w.heap.size := by
          obtain ⟨b', o', hp, -, -, -, -, -, hc, -⟩ := H.out.at_ hi
          simp only [Option.some.injEq, Addr.mk.injEq, and_true] at hp
          obtain ⟨rfl, rfl⟩ := hp
          exact World.block_lt_of_cell? _ _ hc
        have hbne : (Value.slice po out.length co).ownBlock ≠ some b := fun e => by have := own_base HST.out.row _ e; omega
        have HB1 := Lib.hid ((hb1.block _ zb.1).trans HST.out.box)
        have HCL := Lib.hid (fun (j : Nat) (u' : Nat → Value) (w' : World) (hj : j ≤ 2) (hS : BoxA 9 1 ⟨w.heap.size + 1, 0, none⟩ (.slice po out.length co) out.length #[.string u.name] w1.drew 6 7 j u' w') => And.intro (hS.cell hj hvne (show w1.cell? ⟨w.heap.size + 1, 0, none⟩ = some (.slice po out.length co) from (cb1 _ _ zb.1).trans c0)) (And.intro (hS.cell hj hbne hx0) (hS.frozen hj (o := 0) hvne HB1.out)))
        refine wp_region_stages [some (.slice po out.length co), some (.slice (some ⟨b, o, none⟩) l.length c), some (.int .i64 (i : Nat)), some (.pointer (some ⟨b, o + i * 4, none⟩)), some (.pointer (some ⟨b, o + i * 4, none⟩)), some (.string u.name), none, none, none] [6, 7, 8] (BoxA 9 1 ⟨w.heap.size + 1, 0, none⟩ (.slice po out.length co) (out.length) (#[.string u.name]) (w1.drew) 6 7) (by kernel_rfl) (by kernel_rfl) (by first | kernel_rfl | rfl) (by rfl) rfl ?_
        refine chain_stb (c := 8) 2 rfl rfl (by decide) rfl rfl rfl (by first | kernel_rfl | rfl) ?_ ?_
        · intro j u w' hj hS
          have hc := HCL.out j u w' hj hS
          go_simp
          first | done | exact ⟨hS, rfl⟩ | exact hS | rfl
        go_simp
        refine chain_stb (c := 8) 2 rfl rfl (by decide) rfl rfl rfl (by first | kernel_rfl | rfl) ?_ ?_
        · intro j u w' hj hS
          have hc := HCL.out j u w' hj hS
          go_simp
          first | done | exact ⟨hS, rfl⟩ | exact hS | rfl
        go_simp
        refine chain_stb (c := 8) 2 rfl rfl (by decide) rfl rfl rfl (by first | kernel_rfl | rfl) ?_ ?_
        · intro j u w' hj hS
          have hc := HCL.out j u w' hj hS
          go_simp
          first | done | exact ⟨hS, rfl⟩ | exact hS | rfl
        go_simp
        refine chain_stb (c := 8) 2 rfl rfl (by decide) rfl rfl rfl (by first | kernel_rfl | rfl) ?_ ?_
        · intro j u w' hj hS
          have hc := HCL.out j u w' hj hS
          go_simp
          first | done | exact ⟨hS, rfl⟩ | exact hS | rfl
        go_simp
        refine chain_stb (c := 8) 2 rfl rfl (by decide) rfl rfl rfl (by first | kernel_rfl | rfl) ?_ ?_
        · intro j u w' hj hS
          have hc := HCL.out j u w' hj hS
          go_simp
          first | done | exact ⟨hS, rfl⟩ | exact hS | rfl
        go_simp
        refine chain_stb (c := 8) 2 rfl rfl (by decide) rfl rfl rfl (by first | kernel_rfl | rfl) ?_ ?_
        · intro j u w' hj hS
          have hc := HCL.out j u w' hj hS
          go_simp
          first | done | exact ⟨hS, rfl⟩ | exact hS | rfl
        go_simp
        refine chain_first rfl rfl rfl (by decide) rfl ?_ ?_
        · intro w' hS
          obtain rfl : w' = w1.drew := hS
          go_simp
          exact ⟨rfl, upd_same _ _ _⟩
        intro xb
        go_simp
        refine chain_next 0 rfl rfl rfl rfl (by decide) rfl (by first | kernel_rfl | rfl) ?_ ?_
        · intro w' hS
          obtain ⟨rfl, hy⟩ := hS
          rw [upd_same] at hy
          subst hy
          refine each_app1 (.tmp 17) (.tmp 23) _ rfl (w.heap.size) 9 1 16 elemStr (.slice po out.length co) (out.length) (strW out) rfl (w1.drew) (#[.string u.name]) rfl rfl (HS1.out) rfl (by intro u hu; simp at hu; first | (subst hu; rfl) | (rcases hu with rfl | rfl <;> rfl) | (rcases hu with rfl | rfl | rfl <;> rfl) | (rcases hu with rfl | rfl | rfl | rfl <;> rfl) | (rcases hu with rfl | rfl | rfl | rfl | rfl <;> rfl)) (by omega) (by unfold maxLen; omega) (by first | omega | (simp; omega)) ?_
          intro v' w3 happ hg3 hnr hsz
          exact ⟨by rw [upd_same]; exact happ, hg3, by rw [upd_same]; exact hnr, hsz⟩
        intro xa
        go_simp
        refine chain_next 1 rfl rfl rfl rfl (by decide) rfl (by first | kernel_rfl | rfl) ?_ ?_
        · intro w' hS
          have hc := HCL.out 2 _ _ (Nat.le_refl _) hS
          obtain ⟨happ, hg3, hnr, hsz⟩ := hS
          rw [upd_same] at happ hnr
          obtain ⟨q', c', rfl⟩ := own_form (happ (w.heap.size) (strW out) (HS1.out) (by first | omega | (simp; omega))) (Nat.succ_pos _)
          go_simp
          exact ⟨w', ⟨by rw [upd_other _ _ (by decide), upd_same]; exact happ, hg3, by rw [upd_other _ _ (by decide), upd_same]; exact hnr, hsz⟩, by rw [upd_other _ _ (by decide), upd_same]⟩
        intro xs'
        refine flowU_nil ?_
        intro wz hz
        obtain ⟨w2, hAp, rfl⟩ := hz
        rw [upd_other _ _ (by decide), upd_same] at hAp ⊢
        have HAP := Lib.hid hAp
        clear hAp
        go_simp
        have hrow2 := HAP.out.1 w.heap.size (strW out) HS1.out (by simp; omega)
        have hap := HAP.out.fresh (b := w.heap.size + 1) (by simp; omega) hvne
        have hbox2 := HAP.out.keep (b := w.heap.size + 1) (by simp; omega) hvne
        have hsz2 := HAP.out.2.2.2
        have hb12 : Below w.heap.size w w2 := (show Below w.heap.size w w1.drew from hbw.drew).grown HAP.out.2.1 (by simp; omega) (own_base HS1.out)
        simp at hsz2
        go_wp2
        obtain ⟨q2, k2, rfl⟩ := own_form hrow2 (Nat.succ_pos _)
        have hbox3 : (w2.setCell ⟨w.heap.size + 1, 0, none⟩ (.slice (some ⟨q2, 0, none⟩) (out.length + 1) k2)).heap[w.heap.size + 1]? = some (.cells #[.slice (some ⟨q2, 0, none⟩) (out.length + 1) k2] 26 (0, 0)) := by
          have := heap_setCell_same w2 (w.heap.size + 1) 0 _ 26 (.slice (some ⟨q2, 0, none⟩) (out.length + 1) k2) (hbox2.trans HB1.out)
          simpa using this
        refine ⟨⟨out ++ [u.name], _, HINV.out.snoc (find_mem HFD.out).1 (find_mem HFD.out).2, ?_, ⟨hbox3, ?_, hap, ?_, hb12.setCell (by simp) _⟩⟩, ?_⟩
        · rw [← ordF_step HFD.out HINV.out]; exact HORD.out
        · rw [List.length_append, strW_snoc]
          exact own_same hrow2 (fun g hg _ => heap_setCell_other w2 ⟨w.heap.size + 1, 0, none⟩ g _ (fun e => hap (by rw [hg]; exact congrArg some e)))
        · intro s hs
          rcases List.mem_append.1 hs with hs | hs
          · exact HST.out.sizes s hs
          · rw [List.mem_singleton] at hs; subst hs; exact hnsz
        · rw [hla.out, lenB_of ((cell_of_row _ _ 0 _ _ (0, 0) hbox3).trans rfl)]; omega
    · have hle : out.length = l.length := by omega
      have HN := Lib.hid (show ordL l = out from HORD.out.symm.trans (ordF_full HINV.out hle))
      go_wp2
      refine bodyPost_ret (v := .tuple #[.slice po out.length co, .bool true]) (by simp only [results, Tryz.results31]; go_simp) rfl ⟨hb, ?_⟩
      rw [HN.out, if_pos hle]
      exact ⟨_, rfl, rowS_own HST.out.row HST.out.sizes (by unfold maxLen; omega) (fun g hg => ⟨own_base HST.out.row g hg, own_lt' HST.out.row hg⟩)⟩
theorem inS_drop {us : List ByteArray} {k : Nat} (x : ByteArray) (h : k < us.length) : inS (us.drop k) x = (us[k].toList == x.toList || inS (us.drop (k + 1)) x) := by
  rw [inS, inS, List.drop_eq_getElem_cons h, decide_eq_decide.2 List.mem_cons, Bool.decide_or]
  congr 1
  rw [Bool.eq_iff_iff, decide_eq_true_iff, Lib.bytes_beq_iff]
  exact eq_comm
set_option maxHeartbeats 1600000 in
theorem l2In_any {B : Nat → Prop} (us : List ByteArray) (v : Value) (x : ByteArray) (w : World) (h : StrsAt B w v us) :
    Calls Tryz.prog 85 #[v, .string x] w fun e w' => e = .returned (.bool (inS us x)) ∧ Below w.heap.size w w' := by
  obtain ⟨p, c, rfl, hlen⟩ := h.form
  unfold maxLen at hlen
  have H := Lib.hid h
  clear h
  go_enter Tryz.func85, Tryz.ntmps85
  go_wp2
  go_loopw [5] (fun i wr => ∃ k : Nat, k ≤ us.length ∧ i = .int .i64 k ∧ inS us x = inS (us.drop k) x ∧ Below w.heap.size w wr) (fun i _ => us.length - (intOf i).toNat)
  case atStart => exact ⟨0, Nat.zero_le _, rfl, rfl, by exact bel⟩
  case round =>
    obtain ⟨k, hk, rfl, he, hb⟩ := hrel
    have HE := Lib.hid he
    clear he
    by_cases hlt : k < us.length
    · obtain ⟨b, o, rfl, hB, hx0, hxs⟩ := (H.out.below hb).at_ hlt
      have HD := Lib.hid (inS_drop x hlt)
      obtain ⟨a, ha⟩ : ∃ a, us[k] = a := ⟨_, rfl⟩
      rw [ha] at hx0 HD
      clear ha
      have zb := bsz (World.block_lt_of_cell? _ _ hx0)
      cases hN : (a.toList == x.toList)
      all_goals
        have HN := Lib.hid hN
        go_wp2
      · refine ⟨⟨k + 1, by omega, by go_num, ?_, by exact bel⟩, by simp [intOf]; omega⟩
        rw [HE.out, HD.out, HN.out]; rfl
      · go_ret
        exact ⟨ret_bool (by rw [HE.out, HD.out, HN.out]; rfl), by exact bel⟩
    · obtain rfl : k = us.length := by omega
      have he := HE.out
      rw [List.drop_length] at he
      have HE2 := Lib.hid he
      clear he
      go_wp2
      go_ret
      exact ⟨ret_bool (by rw [HE2.out]; rfl), by exact bel⟩
def lenV : Value → Nat | .slice _ n _ => n | _ => 0
structure OrdS (out : List ByteArray) (v : Value) (w wr : World) : Prop where
  row : wr.ownsRow w.heap.size 9 1 v out.length (strW out)
  sizes : ∀ s ∈ out, s.size ≤ maxLen
  bel : Below w.heap.size w wr
theorem OrdS.below {out : List ByteArray} {v : Value} {w wr w' : World} (h : OrdS out v w wr) (hb : Below wr.heap.size wr w') : OrdS out v w w' := ⟨own_below h.row hb, h.sizes, h.bel.trans (hb.mono h.bel.size)⟩
def SeekRel (l : List Un) (P : Un → Bool) (W : World) (nx i : Value) (wr : World) : Prop :=
  Below W.heap.size W wr ∧ ((∃ k : Nat, k ≤ l.length ∧ i = .int .i64 k ∧ nx = .string ⟨#[]⟩ ∧ firstI P 0 l = firstI P k (l.drop k)) ∨ (∃ (k j : Nat) (h : j < l.length), k ≤ l.length ∧ i = .int .i64 k ∧ nx = .string l[j].name ∧ firstI P 0 l = some j))
set_option maxHeartbeats 6400000 in
theorem l27Order_any {B : Nat → Prop} (l : List Un) (va : Value) (w : World) (h : UnsAt B w va l) (hl : l.length ≤ 1048576) (hne : ∀ u ∈ l, (u.name.toList == []) = false) :
    Calls Tryz.prog 33 #[va] w fun e w' => ∃ v, e = .returned v ∧ w'.ownsRow w.heap.size 9 1 v (ordL l).length (strW (ordL l)) ∧ (∀ s ∈ ordL l, s.size ≤ maxLen) ∧ Below w.heap.size w w' := by
  obtain ⟨p, c, rfl, hlen⟩ := h.form
  unfold maxLen at hlen
  have H := Lib.hid h
  have HNE := Lib.hid hne
  clear h hne
  go_enter Tryz.func33, Tryz.ntmps33
  go_wp2
  go_loopw [3] (fun o wr => ∃ out : List ByteArray, OrdInv l out ∧ ordF (l.length - out.length) l out = ordL l ∧ OrdS out o w wr) (fun o _ => l.length - lenV o)
  case atStart =>
    refine ⟨[], OrdInv.nil l, rfl, row_empty w w.heap.size _ 1 (Nat.le_refl _), by simp, by exact bel⟩
  case round =>
    obtain ⟨out, hinv, hord, hst⟩ := hrel
    obtain ⟨wA, hwA⟩ : ∃ x, x = wr := ⟨_, rfl⟩
    subst hwA
    have HO := Lib.hid (rowS_own (S := fun _ => True) hst.row hst.sizes (by have := hinv.len; unfold maxLen; omega) (fun _ _ => trivial))
    obtain ⟨po, co, rfl, -⟩ := OwnRow.form HO.out
    have hlen2 := hinv.len
    have hb := hst.bel
    have HINV := Lib.hid hinv
    have HORD := Lib.hid hord
    have HST := Lib.hid hst
    clear hinv hord hst
    go_wp2
    go_loopw [4, 5] (SeekRel l (Un.ready out) wA) (fun _ i _ => l.length - (intOf i).toNat)
    case atStart => exact ⟨by exact bel, .inl ⟨0, Nat.zero_le _, rfl, rfl, rfl⟩⟩
    case round =>
      obtain ⟨wB, hwB⟩ : ∃ x, x = wr := ⟨_, rfl⟩
      subst hwB
      obtain ⟨hbi, hrel⟩ := hrel
      have hbw := Below.step hb hbi
      have HS1 := Lib.hid (HST.out.below hbi)
      rcases hrel with ⟨k, hk, rfl, rfl, he⟩ | ⟨k, j, hj, hk, rfl, rfl, hfound⟩
      · have HE := Lib.hid he
        clear he
        by_cases hlt : k < l.length
        · obtain ⟨b, o, rfl, hB, p1, c1, p2, c2, hx0, hx1, hx2, hx3, hx⟩ := (H.out.below hbw).at_ hlt
          have HD := Lib.hid (firstI_drop (Un.ready out) hlt)
          obtain ⟨u, hu⟩ : ∃ u, l[k] = u := ⟨_, rfl⟩
          have HK := Lib.hid hu
          rw [hu] at hx hx0 hx1 hx2 hx3 HD
          have HI := Lib.hid hx.form
          clear hu
          have zb := bsz (World.block_lt_of_cell? _ _ hx0)
          go_wp2_with fail
          refine (l2In_any out _ u.name _ (HO.out.at_.below hbi)).mono ?_
          rintro e w1 ⟨rfl, hb1⟩
          have ⟨cb1, fb1⟩ := bcell hb1
          have hq1 := hb1.size
          obtain ⟨_, _, _, _, q0, q1, q2, q3, -, -, hil, -, hia, -⟩ := HI.out
          simp only [Value.slice.injEq, true_and] at q1
          obtain ⟨rfl, rfl⟩ := q1
          clear q0 q2 q3
          have HIA := Lib.hid hia
          unfold maxLen at hil
          clear hia HI
          go_wp2
          go_loopw [6, 7] (fun r i wr' => ∃ j : Nat, j ≤ u.incs.length ∧ i = .int .i64 j ∧ r = .bool (!inS out u.name && (u.incs.take j).all (inS out)) ∧ Below w1.heap.size w1 wr') (fun _ i _ => u.incs.length - (intOf i).toNat)
          case atStart => exact ⟨0, Nat.zero_le _, rfl, by simp, by exact bel⟩
          case round =>
            obtain ⟨j, hj, rfl, rfl, hbj⟩ := hrel
            have hbj1 : Below wB.heap.size wB wr := Below.step hb1 hbj
            have hcell0 := (hbj1.cell zb.1).trans hx0
            have hcell1 := (hbj1.cell (show b < wB.heap.size from zb.1)).trans hx1
            have zbj := bsz (World.block_lt_of_cell? _ _ hcell0)
            have HRY := Lib.hid (show u.ready out = (!inS out u.name && u.incs.all (inS out)) from rfl)
            by_cases hjl : j < u.incs.length
            · obtain ⟨b', o', rfl, hB', hy0, hys⟩ := (HIA.out.below hbj1).at_ hjl
              have HTK := Lib.hid (List.take_succ_eq_append_getElem hjl)
              obtain ⟨a, ha⟩ : ∃ a, u.incs[j] = a := ⟨_, rfl⟩
              rw [ha] at hy0 HTK
              clear ha
              have zb' := bsz (World.block_lt_of_cell? _ _ hy0)
              cases hr : (!inS out u.name && (u.incs.take j).all (inS out))
              · have HR := Lib.hid hr
                go_wp2
                refine ⟨⟨j + 1, by omega, by go_num, ?_, hbj⟩, by simp [intOf]; omega⟩
                rw [HTK.out, List.all_append, ← Bool.and_assoc, HR.out, Bool.false_and]
              · have HR := Lib.hid hr
                go_wp2_with fail
                refine (l2In_any out _ a _ (HO.out.at_.below (Below.step hbi hbj1))).mono ?_
                rintro e w2 ⟨rfl, hb2⟩
                go_wp2
                refine ⟨⟨j + 1, by omega, by go_num, ?_, Below.step hbj hb2⟩, by simp [intOf]; omega⟩
                rw [HTK.out, List.all_append, ← Bool.and_assoc, HR.out, Bool.true_and, List.all_cons, List.all_nil, Bool.and_true]
            · obtain rfl : j = u.incs.length := by omega
              rw [List.take_length, ← HRY.out]
              have hbk := Below.step hbi hbj1
              cases hr : u.ready out
              · have HR := Lib.hid hr
                go_wp2
                refine ⟨⟨hbk, .inl ⟨k + 1, by omega, by go_num, rfl, ?_⟩⟩, by simp [intOf]; omega⟩
                rw [HE.out, HD.out, HR.out]; rfl
              · have HR := Lib.hid hr
                go_wp2
                refine ⟨⟨hbk, .inr ⟨k + 1, k, hlt, by omega, by go_num, by rw [HK.out], ?_⟩⟩, by simp [intOf]; omega⟩
                rw [HE.out, HD.out, HR.out]; rfl
        · obtain rfl : k = l.length := by omega
          rw [List.drop_length] at HE
          have HN := Lib.hid (show ordL l = out from HORD.out.symm.trans (ordF_none _ (firstI_none _ _ _ HE.out)))
          go_wp2
          go_ret
          exact ⟨_, rfl, by rw [HN.out]; exact HS1.out.row, by rw [HN.out]; exact HS1.out.sizes, HS1.out.bel⟩
      · obtain ⟨-, hj2, hfd⟩ := firstI_some _ _ _ _ hfound
        simp only [Nat.sub_zero] at hj2 hfd
        have hnn := HNE.out l[j] (List.getElem_mem hj)
        obtain ⟨b, o, rfl, hB, p1, c1, p2, c2, hx0, hx1, hx2, hx3, hx⟩ := (H.out.below hbw).at_ hj
        have hnsz : l[j].name.size ≤ maxLen := by obtain ⟨_, _, _, h2, _⟩ := hx; exact h2
        have HFD := Lib.hid hfd
        obtain ⟨u, hu⟩ : ∃ u, l[j] = u := ⟨_, rfl⟩
        rw [hu] at hnn hnsz HFD
        have hlo : out.length < l.length := by
          have := (HINV.out.snoc (find_mem HFD.out).1 (find_mem HFD.out).2).len
          simp at this; omega
        clear hx hfound hfd
        rw [hu]
        have hrest : True := trivial
        by_cases hkl : (k : Int) < l.length
        all_goals
          go_wp2_with (at_builtin; refine wpList_app1 rfl (.tmp 59) (.tmp 61) _ rfl w.heap.size 9 1 16 elemStr _ _ _ rfl wB #[.string u.name] rfl _ (by simp) rfl HS1.out.row rfl (by simp [Value.oneCell']) (by omega) (by unfold maxLen; omega) (hbw.size) ?_; intro v1 w2 hown1 hg1 hnr1 hlt1)
          obtain ⟨q2, k2, rfl⟩ := own_form hown1 (Nat.succ_pos _)
          refine ⟨⟨out ++ [u.name], HINV.out.snoc (find_mem HFD.out).1 (find_mem HFD.out).2, ?_, ⟨by rw [List.length_append, strW_snoc]; exact hown1, ?_, hbw.grown hg1 hbw.size (own_base HS1.out.row)⟩⟩, by simp [lenV]; omega⟩
          · rw [← ordF_step HFD.out HINV.out]; exact HORD.out
          · intro s hs
            rcases List.mem_append.1 hs with hs | hs
            · exact HST.out.sizes s hs
            · rw [List.mem_singleton] at hs; subst hs; exact hnsz
end Go.Proofs.YtkgfanajgdelcaaGreatDoor
