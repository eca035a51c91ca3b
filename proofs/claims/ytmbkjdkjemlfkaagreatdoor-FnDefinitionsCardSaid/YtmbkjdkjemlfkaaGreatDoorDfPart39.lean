import Derived.RangeFuncNested
import Derived.RangeFuncBound
import Derived.RangeFuncCalls
import Derived.RangeFuncLeaves
import Derived.Shelf.Abstract
import Derived.OwnWalkIn
import Derived.RangeFuncOwn
import Derived.Shelf.RegionOpen
import Derived.TacticsInMore
import Derived.LoopNIn
import Derived.LoopIn
import Derived.Test.YtmbkjdkjemlfkaaGreatDoorDfPart38
namespace Go.Proofs.YtmbkjdkjemlfkaaGreatDoor
set_option maxRecDepth 100000
open Go.RowKit
def DCAt (B : Nat → Prop) (m : Nat) (w : World) (x : DC) (cs : List Value) : Prop := cs = x.cs ∧ DAt B m w x
theorem DCAt.below {B : Nat → Prop} {m : Nat} {w w' : World} {x : DC} {cs : List Value} (hb : Below w.heap.size w w') (h : DCAt B m w x cs) : DCAt B m w' x cs := ⟨h.1, h.2.mono (SameOn.below hb) (fun _ h => h) (Nat.le_refl _)⟩
theorem ListAt.at7 {α : Type} {B : Nat → Prop} {w : World} {R : α → List Value → Prop} {p : Option Addr} {n c : Nat} {xs : List α} (h : ListAt B w 7 R (.slice p n c) xs) {i : Nat} (hi : i < xs.length) :
    ∃ b o, p = some ⟨b, o, none⟩ ∧ B b ∧ ∃ x0 x1 x2 x3 x4 x5 x6, w.cell? ⟨b, o + i * 7, none⟩ = some x0 ∧ w.cell? ⟨b, o + i * 7 + 1, none⟩ = some x1 ∧ w.cell? ⟨b, o + i * 7 + 2, none⟩ = some x2 ∧ w.cell? ⟨b, o + i * 7 + 3, none⟩ = some x3 ∧ w.cell? ⟨b, o + i * 7 + 4, none⟩ = some x4 ∧ w.cell? ⟨b, o + i * 7 + 5, none⟩ = some x5 ∧ w.cell? ⟨b, o + i * 7 + 6, none⟩ = some x6 ∧ R xs[i] [x0, x1, x2, x3, x4, x5, x6] := by
  obtain ⟨p', c', h1, h2, h3⟩ := h
  injection h1 with e1 e2 e3
  subst e1
  obtain ⟨b, o, h4, h0, cs, h5, h6, h7⟩ := h3 i xs[i] (List.getElem?_eq_getElem hi)
  match cs, h5 with
  | [x0, x1, x2, x3, x4, x5, x6], _ => exact ⟨b, o, h4, h0, x0, x1, x2, x3, x4, x5, x6, h6 0 (by omega), h6 1 (by omega), h6 2 (by omega), h6 3 (by omega), h6 4 (by omega), h6 5 (by omega), h6 6 (by omega), h7⟩
theorem rowD_list {B : Nat → Prop} {M base : Nat} {w : World} {e : TypeId} {v : Value} {D : List DC} (h : w.ownsRow base e 7 v D.length (flatD D)) (hD : ∀ x ∈ D, DAt B M w x) (hl : D.length ≤ maxLen) (hB : ∀ b, v.ownBlock = some b → B b) : ListAt B w 7 (DCAt B M w) v D := by
  obtain ⟨p, c, rfl⟩ := own_slice h
  refine ⟨p, c, rfl, hl, fun i x hx => ?_⟩
  have hi := (List.getElem?_eq_some_iff.1 hx).1
  obtain ⟨g, rfl, h1, h2, h3, h4⟩ := rowD_cell h (by omega)
  exact ⟨g, 0, rfl, hB g rfl, x.cs, rfl, fun j hj => by rw [Nat.zero_add]; exact h4 i x hx j hj, rfl, hD x (List.mem_of_getElem? hx)⟩
/-! ### The weights of valid formulas -/
theorem nm_size (n : ByteArray) : n.size = n.data.toList.length := by rw [Array.length_toList]; rfl
theorem varB_len {l : List UInt8} (h : varB l = true) : l.length ≤ 6 := by
  simp only [varB, Bool.and_eq_true, decide_eq_true_eq] at h
  omega
mutual
theorem Tm.nodes_wt : ∀ t : Tm, t.nodes = true → t.wt + 1 ≤ 7 * t.sz
  | .mk n us, h => by
    rw [Tm.nodes] at h
    rw [Tm.wt, Tm.sz, nm_size]
    split at h
    · next hv =>
      have hu : us = [] := by simpa using h
      subst hu
      have := varB_len hv
      rw [Tm.wts, Tm.szs, List.length_nil]; omega
    · rw [Bool.and_eq_true, Bool.and_eq_true] at h
      have h1 := symB_len h.1.1
      have h2 := Tm.nodess_wt us h.2
      omega
theorem Tm.nodess_wt : ∀ us : List Tm, Tm.nodess us = true → us.length + Tm.wts us ≤ 7 * Tm.szs us
  | [], _ => by rw [Tm.wts, Tm.szs]; simp
  | a :: us, h => by
    rw [Tm.nodess, Bool.and_eq_true] at h
    have h1 := Tm.nodes_wt a h.1
    have h2 := Tm.nodess_wt us h.2
    rw [Tm.wts, Tm.szs, List.length_cons]; omega
end
theorem atom_wt {a : Tm} (h : a.atom = true) : a.wt + 1 ≤ 210 := by
  have hz := atom_sz h
  rw [Tm.atom] at h
  obtain ⟨n, us⟩ := a
  split at h
  · next he =>
    rw [Bool.and_eq_true] at h
    have h2 := Tm.nodess_wt us h.2
    have he : n.data.toList = [61] := by have he : isEq n = true := he; rw [isEq] at he; simpa using he
    have : n.size = 1 := by rw [nm_size, he]; rfl
    rw [Tm.sz] at hz
    rw [Tm.wt]; omega
  · rw [Bool.and_eq_true, Tm.good, Bool.and_eq_true] at h
    have := Tm.nodes_wt _ h.2.2
    omega
mutual
theorem Fm.form_wt : ∀ f : Fm, f.form = true → f.wt + 1 ≤ 220 * f.sz
  | .mk op a v ps, h => by
    obtain ⟨g1, g2⟩ := form_node h
    have hv : v.size ≤ 6 := by
      rw [Fm.form, Bool.and_eq_true] at h
      have h1 := h.1
      simp only [Fm.form1, Fm.op, Fm.ps, Fm.v, Fm.a, Bool.and_eq_true, beq_iff_eq] at h1
      have h2 := h1.1.2
      rw [nm_size]
      replace h2 : (if Proofs.YtmbkjdkjemlfkaaGreatDoor.isQ op = true then varB v.data.toList else v.data.toList.isEmpty) = true := h2
      by_cases hq : Proofs.YtmbkjdkjemlfkaaGreatDoor.isQ op = true
      · rw [if_pos hq] at h2
        exact varB_len h2
      · rw [if_neg hq] at h2
        have : v.data.toList = [] := by simpa using h2
        rw [this]; simp
    rw [Fm.form, Bool.and_eq_true] at h
    have ih := Fm.forms_wt ps h.2
    rw [Fm.wt, Fm.sz]
    by_cases e : op = 3
    · have := atom_wt (g1 e).2
      omega
    · obtain ⟨h3, h4⟩ := g2 e
      obtain ⟨n, us⟩ := a
      obtain rfl : us = [] := h4
      have : n.size = 0 := by
        have h3 : n.data.toList.isEmpty = true := h3
        have : n.data.toList = [] := by simpa using h3
        rw [nm_size, this]; rfl
      rw [Tm.wt, Tm.wts, this]
      simp only [List.length_nil]; omega
theorem Fm.forms_wt : ∀ fs : List Fm, Fm.forms fs = true → fs.length + Fm.wts fs ≤ 220 * Fm.szs fs
  | [], _ => by rw [Fm.wts, Fm.szs]; simp
  | f :: fs, h => by
    rw [Fm.forms, Bool.and_eq_true] at h
    have h1 := Fm.form_wt f h.1
    have h2 := Fm.forms_wt fs h.2
    rw [Fm.wts, Fm.szs, List.length_cons]; omega
end
theorem good_wt {f : Fm} (h : f.good = true) : f.wt ≤ 8800 := by
  rw [Fm.good, Bool.and_eq_true, decide_eq_true_eq] at h
  have := Fm.form_wt f h.2
  omega
/-! ### What is unfolded is not much greater -/
theorem le_mulr {a b K : Nat} (h : a ≤ K) (hb : 1 ≤ b) : a ≤ K * b := Nat.le_trans h (Nat.le_mul_of_pos_right K hb)
mutual
theorem repT_sz {s : ByteArray → Option Tm} {K : Nat} (hK : 1 ≤ K) (hs : ∀ n t, s n = some t → t.sz ≤ K) : ∀ t : Tm, (repT s t).sz ≤ K * t.sz
  | .mk n us => by
    have ih := repTs_sz hK hs us
    rw [repT]
    split
    · next t ht =>
      split
      · exact le_mulr (hs n t ht) (by rw [Tm.sz]; omega)
      · rw [Tm.sz, Tm.sz, Nat.mul_add]; omega
    · rw [Tm.sz, Tm.sz, Nat.mul_add]; omega
theorem repTs_sz {s : ByteArray → Option Tm} {K : Nat} (hK : 1 ≤ K) (hs : ∀ n t, s n = some t → t.sz ≤ K) : ∀ us : List Tm, Tm.szs (repTs s us) ≤ K * Tm.szs us
  | [] => by rw [repTs, Tm.szs]; omega
  | a :: us => by
    have h1 := repT_sz hK hs a
    have h2 := repTs_sz hK hs us
    rw [repTs, Tm.szs, Tm.szs, Nat.mul_add]; omega
end
mutual
theorem insF_sz {s : ByteArray → Option Tm} {K : Nat} (hK : 1 ≤ K) (hs : ∀ n t, s n = some t → t.sz ≤ K) : ∀ f : Fm, (insF s f).sz ≤ f.sz ∧ (insF s f).asz ≤ K * f.asz
  | .mk op a x ps => by
    have h1 := repT_sz hK hs a
    obtain ⟨h2, h3⟩ := insFs_sz hK hs ps
    have h4 : K * a.sz ≤ K * max a.sz (Fm.aszs ps) := Nat.mul_le_mul_left K (Nat.le_max_left ..)
    have h5 : K * Fm.aszs ps ≤ K * max a.sz (Fm.aszs ps) := Nat.mul_le_mul_left K (Nat.le_max_right ..)
    have h6 : a.sz ≤ K * a.sz := Nat.le_mul_of_pos_left _ hK
    rw [insF]
    split
    · rw [atomOfF, Fm.sz, Fm.szs, Fm.asz, Fm.aszs, Fm.sz, Fm.asz]; omega
    · rw [Fm.sz, Fm.asz, Fm.sz, Fm.asz]; omega
theorem insFs_sz {s : ByteArray → Option Tm} {K : Nat} (hK : 1 ≤ K) (hs : ∀ n t, s n = some t → t.sz ≤ K) : ∀ fs : List Fm, Fm.szs (insFs s fs) ≤ Fm.szs fs ∧ Fm.aszs (insFs s fs) ≤ K * Fm.aszs fs
  | [] => by rw [insFs, Fm.szs, Fm.aszs]; omega
  | f :: fs => by
    obtain ⟨h1, h2⟩ := insF_sz hK hs f
    obtain ⟨h3, h4⟩ := insFs_sz hK hs fs
    have h5 : K * f.asz ≤ K * max f.asz (Fm.aszs fs) := Nat.mul_le_mul_left K (Nat.le_max_left ..)
    have h6 : K * Fm.aszs fs ≤ K * max f.asz (Fm.aszs fs) := Nat.mul_le_mul_left K (Nat.le_max_right ..)
    rw [insFs, Fm.szs, Fm.aszs, Fm.szs, Fm.aszs]; omega
end
theorem lookV_sz {vs : List ByteArray} {us : List Tm} {n : ByteArray} {t : Tm} (h : lookV vs us n = some t) : t.sz ≤ Tm.szs us := by
  rw [lookV, Option.map_eq_some_iff] at h
  obtain ⟨p, hp, rfl⟩ := h
  have hm := (find_rev_mem hp).1
  have hm2 : p.2 ∈ us := (List.of_mem_zip (show (p.1, p.2) ∈ vs.zip us from hm)).2
  have key : ∀ (us : List Tm) (t : Tm), t ∈ us → t.sz ≤ Tm.szs us := fun us => by
    induction us with
    | nil => intro t h; cases h
    | cons a us ih =>
      intro t h
      rw [Tm.szs]
      rcases List.mem_cons.1 h with rfl | h
      · omega
      · have := ih t h; omega
  exact key us _ hm2
mutual
theorem unfD_sz (d : Dfn) {A Z E : Nat} (hZ : d.f.sz ≤ Z) (hZ1 : 1 ≤ Z) (hE : d.f.asz ≤ E) : ∀ f : Fm, f.asz ≤ A → (unfD d f).1.sz ≤ Z * f.sz ∧ (unfD d f).1.asz ≤ (A + 1) * (E + 1)
  | .mk op a x ps, h => by
    rw [Fm.asz] at h
    obtain ⟨h2, h3⟩ := unfDs_sz d hZ hZ1 hE ps (A := A) (by omega)
    have hA : A + 1 ≤ (A + 1) * (E + 1) := Nat.le_mul_of_pos_right _ (by omega)
    have hp : 1 ≤ (Fm.mk op a x ps).sz := by rw [Fm.sz]; omega
    rw [unfD]
    split
    · split
      · obtain ⟨n, us⟩ := a
        have hsz : Tm.szs us ≤ A + 1 := by have : (Tm.mk n us).sz = 1 + Tm.szs us := by rw [Tm.sz]
                                           omega
        obtain ⟨h4, h5⟩ := insF_sz (s := lookV d.vars (Tm.mk n us).us) (K := A + 1) (by omega) (fun m t ht => Nat.le_trans (lookV_sz ht) hsz) d.f
        have h6 : (A + 1) * d.f.asz ≤ (A + 1) * (E + 1) := Nat.mul_le_mul_left _ (by omega)
        exact ⟨le_mulr (Nat.le_trans h4 hZ) hp, Nat.le_trans h5 h6⟩
      · refine ⟨le_mulr (by rw [fmZero, Fm.sz, Fm.szs]; omega) hp, ?_⟩
        show fmZero.asz ≤ _
        rw [fmZero, Fm.asz, Fm.aszs, Tm.sz, Tm.szs]; omega
    · have hz : (Fm.mk op a x (unfDs d ps).1).sz = 1 + Fm.szs (unfDs d ps).1 := by rw [Fm.sz]
      have hz2 : (Fm.mk op a x ps).sz = 1 + Fm.szs ps := by rw [Fm.sz]
      have hz3 : (Fm.mk op a x (unfDs d ps).1).asz = max a.sz (Fm.aszs (unfDs d ps).1) := by rw [Fm.asz]
      show (Fm.mk op a x (unfDs d ps).1).sz ≤ _ ∧ (Fm.mk op a x (unfDs d ps).1).asz ≤ _
      rw [hz, hz2, hz3, Nat.mul_add]; omega
theorem unfDs_sz (d : Dfn) {A Z E : Nat} (hZ : d.f.sz ≤ Z) (hZ1 : 1 ≤ Z) (hE : d.f.asz ≤ E) : ∀ fs : List Fm, Fm.aszs fs ≤ A → Fm.szs (unfDs d fs).1 ≤ Z * Fm.szs fs ∧ Fm.aszs (unfDs d fs).1 ≤ (A + 1) * (E + 1)
  | [], _ => by rw [unfDs]; show Fm.szs [] ≤ _ ∧ Fm.aszs [] ≤ _; rw [Fm.szs, Fm.aszs]; omega
  | f :: fs, h => by
    rw [Fm.aszs] at h
    obtain ⟨h1, h2⟩ := unfD_sz d hZ hZ1 hE f (A := A) (by omega)
    obtain ⟨h3, h4⟩ := unfDs_sz d hZ hZ1 hE fs (A := A) (by omega)
    rw [unfDs]
    show Fm.szs ((unfD d f).1 :: (unfDs d fs).1) ≤ _ ∧ Fm.aszs ((unfD d f).1 :: (unfDs d fs).1) ≤ _
    rw [Fm.szs, Fm.aszs, Fm.szs, Nat.mul_add]; omega
end
theorem unfD_small {d : Dfn} {f : Fm} (hd : d.f.good = true) (hf : f.good = true) : (unfD d f).1.sz ≤ 100000000 ∧ (unfD d f).1.asz ≤ 100000000 := by
  have h1 := good_wt hd
  have h2 := good_wt hf
  have h3 := Fm.asz_wt d.f
  have h4 := Fm.asz_wt f
  rw [Fm.good, Bool.and_eq_true, decide_eq_true_eq] at hd hf
  obtain ⟨h5, h6⟩ := unfD_sz d (A := 8801) (Z := 40) (E := 8801) hd.1 (by omega) (by omega) f (by omega)
  omega
/-! ### What comes of the range, the last first -/
abbrev BackX7 (B : Nat → Prop) (m : Nat) (w : World) := { x : DC × Int // DAt B m w x.1 ∧ x.1.f.f.good = true }
theorem backs7 {B : Nat → Prop} {m : Nat} {w : World} {p : Option Addr} {c : Nat} {D : List DC} (h : ListAt B w 7 (DCAt B m w) (.slice p D.length c) D) (hg : ∀ x ∈ D, x.f.f.good = true) : ∀ n, n ≤ D.length →
    ∃ zs : List (BackX7 B m w), zs.length = n ∧ zs.map (·.1.1) = D.take n ∧ (∀ k (h : k < zs.length), zs[k].1.2 = k) ∧ ∀ k (h : k < zs.length), ∃ b o, p = some ⟨b, o, none⟩ ∧ b < w.heap.size ∧ w.cell? ⟨b, o + k * 7, none⟩ = some (.string zs[k].1.1.name) ∧ w.cell? ⟨b, o + k * 7 + 1, none⟩ = some (.slice zs[k].1.1.p zs[k].1.1.vars.length zs[k].1.1.c) ∧ w.cell? ⟨b, o + k * 7 + 2, none⟩ = some (.int .i64 zs[k].1.1.f.f.op) ∧ w.cell? ⟨b, o + k * 7 + 3, none⟩ = some (.string zs[k].1.1.f.f.a.n) ∧ w.cell? ⟨b, o + k * 7 + 4, none⟩ = some (.slice zs[k].1.1.f.p zs[k].1.1.f.f.a.us.length zs[k].1.1.f.c) ∧ w.cell? ⟨b, o + k * 7 + 5, none⟩ = some (.string zs[k].1.1.f.f.v) ∧ w.cell? ⟨b, o + k * 7 + 6, none⟩ = some (.slice zs[k].1.1.f.q zs[k].1.1.f.f.ps.length zs[k].1.1.f.d)
  | 0, _ => ⟨[], rfl, by simp, by simp, by simp⟩
  | n + 1, hn => by
    obtain ⟨zs, h1, h2, h3, h4⟩ := backs7 h hg n (by omega)
    obtain ⟨b, o, hp, -, x0, x1, x2, x3, x4, x5, x6, hx0, hx1, hx2, hx3, hx4, hx5, hx6, hcs, hx⟩ := h.at7 (show n < D.length by omega)
    rw [DC.cs] at hcs
    simp only [List.cons.injEq, and_true] at hcs
    obtain ⟨rfl, rfl, rfl, rfl, rfl, rfl, rfl⟩ := hcs
    obtain ⟨e, he⟩ : ∃ e : BackX7 B m w, e.1 = (D[n], (n : Int)) := ⟨⟨(D[n], (n : Int)), hx, hg _ (List.getElem_mem _)⟩, rfl⟩
    refine ⟨zs ++ [e], by rw [List.length_append, h1]; rfl, by rw [List.map_append, h2, List.map_cons, he, List.map_nil, List.take_append_getElem], fun k hk => ?_, fun k hk => ?_⟩
    · by_cases hkn : k < zs.length
      · rw [List.getElem_append_left hkn]; exact h3 k hkn
      · rw [List.length_append] at hk
        simp only [List.length_cons, List.length_nil] at hk
        obtain rfl : k = n := by omega
        rw [List.getElem_append_right (by omega)]
        simp [h1, he]
    · by_cases hkn : k < zs.length
      · rw [List.getElem_append_left hkn]; exact h4 k hkn
      · rw [List.length_append] at hk
        simp only [List.length_cons, List.length_nil] at hk
        obtain rfl : k = n := by omega
        rw [List.getElem_append_right (by omega)]
        exact ⟨b, o, hp, World.block_lt_of_cell? _ _ hx0, by simpa [h1, he] using hx0, by simpa [h1, he] using hx1, by simpa [h1, he] using hx2, by simpa [h1, he] using hx3, by simpa [h1, he] using hx4, by simpa [h1, he] using hx5, by simpa [h1, he] using hx6⟩
/-! ### No definition is unfit -/
def nvD (_ : DC) : Bool := false
theorem nvD_any (D : List DC) : D.any nvD = false := by rw [List.any_eq_false]; intro x _; simp [nvD]
set_option maxHeartbeats 3200000 in
theorem indexDf {B : Nat → Prop} (m : Nat) (us : List DC) (HC : ∀ (t : DC) (v0 v1 v2 v3 v4 v5 v6 : Value) (w : World), t ∈ us → DCAt B m w t [v0, v1, v2, v3, v4, v5, v6] → Calls Tryz.prog 22 #[.agg #[v0, v1, v2, v3, v4, v5, v6]] w fun e w' => e = .returned (.bool (nvD t)) ∧ Below w.heap.size w w')
    (va : Value) (w : World) (h : ListAt B w 7 (DCAt B m w) va us) :
    Calls Tryz.prog 51 #[va, .func (.func 22) #[] #[]] w (FirstAt (us.any nvD) w) := by
  obtain ⟨p, c, rfl, hlen⟩ := h.form
  unfold maxLen at hlen
  have H := Lib.hid h
  have HN1 := Lib.hid HC
  clear h HC
  go_enter Tryz.func51, Tryz.ntmps51
  go_wp2
  go_loopw [8] (fun i wr => ∃ k : Nat, k ≤ us.length ∧ i = .int .i64 k ∧ us.any nvD = (us.drop k).any nvD ∧ Below w.heap.size w wr) (fun i _ => us.length - (intOf i).toNat)
  case atStart => exact ⟨0, Nat.zero_le _, rfl, rfl, by exact bel⟩
  case round =>
    obtain ⟨k, hk, rfl, he, hb⟩ := hrel
    have HE := Lib.hid he
    clear he
    by_cases hlt : k < us.length
    · obtain ⟨b, o, rfl, hB, x0, x1, x2, x3, x4, x5, x6, hx0, hx1, hx2, hx3, hx4, hx5, hx6, hx⟩ := (H.out.mono (SameOn.below hb) (fun _ h => h) (fun x cs _ hx => DCAt.below hb hx)).at7 hlt
      have hD := any_drop us nvD hlt
      have hM := List.getElem_mem hlt
      obtain ⟨a, ha⟩ : ∃ a, us[k] = a := ⟨_, rfl⟩
      rw [ha] at hx
      rw [ha] at hD
      rw [ha] at hM
      have HX := Lib.hid hx
      have HD := Lib.hid hD
      have HM := Lib.hid hM
      clear hx ha hD hM
      have zb := bsz (World.block_lt_of_cell? _ _ hx0)
      cases hN : nvD a
      all_goals
        have HN := Lib.hid hN
        go_wp2_with fail
        refine (HN1.out a x0 x1 x2 x3 x4 x5 x6 _ HM.out HX.out).mono ?_
        rintro e w1 ⟨rfl, hb1⟩
        have ⟨cw1, fw1⟩ := bcell hb1
        have qw1 := hb1.size
        (try simp at qw1)
        (try have zw1w := bsz (show w.heap.size < w1.heap.size by omega))
        rw [HN.out]
        go_wp2
      · refine ⟨⟨k + 1, by omega, by go_num, ?_, by exact bel⟩, by simp [intOf]; omega⟩
        rw [HE.out, HD.out, HN.out]; rfl
      · go_ret
        exact ⟨k, rfl, by rw [HE.out, HD.out, HN.out]; simp, by exact bel⟩
    · obtain rfl : k = us.length := by omega
      have he := HE.out
      rw [List.drop_length, List.any_nil] at he
      have HE2 := Lib.hid he
      clear he
      go_wp2
      go_ret
      exact ⟨-1, rfl, by rw [HE2.out]; rfl, by exact bel⟩
theorem containsDf {B : Nat → Prop} (m : Nat) (us : List DC) (HC : ∀ (t : DC) (v0 v1 v2 v3 v4 v5 v6 : Value) (w : World), t ∈ us → DCAt B m w t [v0, v1, v2, v3, v4, v5, v6] → Calls Tryz.prog 22 #[.agg #[v0, v1, v2, v3, v4, v5, v6]] w fun e w' => e = .returned (.bool (nvD t)) ∧ Below w.heap.size w w')
    (va : Value) (w : World) (h : ListAt B w 7 (DCAt B m w) va us) :
    Calls Tryz.prog 21 #[va, .func (.func 22) #[] #[]] w fun e w' => e = .returned (.bool (us.any nvD)) ∧ Below w.heap.size w w' := by
  have H := Lib.hid h
  have IH := Lib.hid (indexDf m us HC)
  clear h HC
  go_enter Tryz.func21, Tryz.ntmps21
  go_wp2_with fail
  refine (IH.out va _ H.out).mono ?_
  rintro e w1 ⟨r, rfl, hr, hb1⟩
  have HR := Lib.hid hr
  clear hr
  go_wp2
  go_ret
  exact ⟨ret_bool HR.out, hb1⟩
set_option maxHeartbeats 3200000 in
theorem unfold0_any {B : Nat → Prop} (m : Nat) (x : DC) (v0 v1 v2 v3 v4 v5 v6 : Value) (w : World) (h : DCAt B m w x [v0, v1, v2, v3, v4, v5, v6]) (hd : DfOk x.d) (hl : x.vars.length ≤ 100000) :
    Calls Tryz.prog 22 #[.agg #[v0, v1, v2, v3, v4, v5, v6]] w fun e w' => e = .returned (.bool (nvD x)) ∧ Below w.heap.size w w' := by
  obtain ⟨hcs, h⟩ := h
  rw [DC.cs] at hcs
  simp only [List.cons.injEq, and_true] at hcs
  obtain ⟨rfl, rfl, rfl, rfl, rfl, rfl, rfl⟩ := hcs
  have hwt := good_wt hd.good
  have hs1 := Fm.sz_wt x.f.f
  have hs2 := Fm.asz_wt x.f.f
  have hwt : x.f.f.wt ≤ 8800 := hwt
  have H := Lib.hid h
  have HD := Lib.hid hd
  obtain ⟨W, hW⟩ : ∃ W : World, W = w.alloc (.cells #[.string x.name, .slice x.p x.vars.length x.c, .int .i64 x.f.f.op, .string x.f.f.a.n, .slice x.f.p x.f.f.a.us.length x.f.c, .string x.f.f.v, .slice x.f.q x.f.f.ps.length x.f.d] 60) := ⟨_, rfl⟩
  have hbW : Below w.heap.size w W := by rw [hW]; exact bel
  have hsW : W.heap.size = w.heap.size + 1 := by rw [hW]; simp
  have A0 : W.heap[w.heap.size]? = some (.cells #[.string x.name, .slice x.p x.vars.length x.c, .int .i64 x.f.f.op, .string x.f.f.a.n, .slice x.f.p x.f.f.a.us.length x.f.c, .string x.f.f.v, .slice x.f.q x.f.f.ps.length x.f.d] 60 (0, 0)) := by rw [hW]; exact heap_alloc_new w _
  obtain ⟨d0, d1, d2, d3, d4, d5, d6⟩ := seven_at A0
  have zd := bsz (show w.heap.size < W.heap.size by omega)
  have HBW := Lib.hid hbW
  clear h hd A0 hbW
  go_enter Tryz.func22, Tryz.ntmps22
  go_wp2_with fail
  rw [← hW]
  clear hW
  refine (isDef_true m x W (H.out.mono (SameOn.below HBW.out) (fun _ h => h) (Nat.le_refl _)) HD.out (by omega) (by omega) hl).mono ?_
  rintro e w1 ⟨rfl, hb1⟩
  have HBE := Lib.hid (Below.step HBW.out hb1)
  clear hb1
  go_wp2
  go_ret
  exact ⟨rfl, HBE.out⟩
open Go.RowKit Go.Shelf
/-! ### A box of several cells -/
def BoxN (W : World) (b : Nat) (t : TypeId) (cs : Array Value) : Prop := W.heap[b]? = some (.cells cs t (0, 0))
theorem BoxN.lt {W : World} {b : Nat} {t : TypeId} {cs : Array Value} (h : BoxN W b t cs) : b < W.heap.size := (Array.getElem?_eq_some_iff.1 h).1
theorem BoxN.cell {W : World} {b : Nat} {t : TypeId} {cs : Array Value} (h : BoxN W b t cs) (i : Nat) : W.cell? ⟨b, i, none⟩ = cs[i]? := by simp [World.cell?, show W.heap[b]? = _ from h]
theorem BoxN.frozen {W : World} {b : Nat} {t : TypeId} {cs : Array Value} (h : BoxN W b t cs) (i : Nat) : W.frozen? ⟨b, i, none⟩ = false := by simp [World.frozen?, show W.heap[b]? = _ from h]
theorem BoxN.kept {W W' : World} {row : Option Nat} {b : Nat} {t : TypeId} {cs : Array Value} (h : BoxN W b t cs) (hg : W.grownBy W' row) (hne : some b ≠ row) : BoxN W' b t cs := (hg.block b h.lt hne).trans h
theorem BoxN.below {W W' : World} {n b : Nat} {t : TypeId} {cs : Array Value} (h : BoxN W b t cs) (hb : Below n W W') (hl : b < n) : BoxN W' b t cs := (hb.block b hl).trans h
theorem BoxN.set {W : World} {b : Nat} {t : TypeId} {cs : Array Value} (h : BoxN W b t cs) (i : Nat) (v : Value) : BoxN (W.setCell ⟨b, i, none⟩ v) b t (cs.setIfInBounds i v) := by
  obtain ⟨hlt, hk⟩ := Array.getElem?_eq_some_iff.1 h
  show (W.heap.modify b _)[b]? = _
  rw [Array.getElem?_eq_getElem (by rw [Array.size_modify]; exact hlt), Array.getElem_modify_self, hk]
  rfl
theorem BoxN.other {W : World} {b b' i : Nat} {t : TypeId} {cs : Array Value} (h : BoxN W b t cs) (hne : b ≠ b') (u : Value) : BoxN (W.setCell ⟨b', i, none⟩ u) b t cs := (heap_setCell_other W ⟨b', i, none⟩ b u hne).trans h
theorem BoxN.al {W : World} {b : Nat} {t : TypeId} {cs : Array Value} (h : BoxN W b t cs) (o : Obj) : BoxN (W.alloc o) b t cs := h.kept (World.grownBy_alloc W o none) (by simp)
theorem boxN_own {β : Type} (b : Nat) (t : TypeId) (f : β → Array Value) : Own (fun s W => BoxN W b t (f s)) := fun s X Y row hs hg hrow =>
  hs.kept hg (fun e' => by obtain ⟨o, ho, hc⟩ := hrow b e'.symm; rw [show X.heap[b]? = _ from hs] at ho; cases ho; cases hc)
theorem keepsFrom_below {B : Nat} {X Y : World} (h : Below X.heap.size X Y) : KeepsFrom B X Y := ⟨h.size, fun k _ _ hk _ => (h.block k (Array.getElem?_eq_some_iff.1 hk).1).trans hk⟩
abbrev set5W (W : World) (b : Nat) (u0 u1 u2 u3 u4 : Value) : World := ((((W.setCell ⟨b, 0, none⟩ u0).setCell ⟨b, 1, none⟩ u1).setCell ⟨b, 2, none⟩ u2).setCell ⟨b, 3, none⟩ u3).setCell ⟨b, 4, none⟩ u4
theorem BoxN.set5 {W : World} {b : Nat} {t : TypeId} {c0 c1 c2 c3 c4 : Value} (h : BoxN W b t #[c0, c1, c2, c3, c4]) (u0 u1 u2 u3 u4 : Value) : BoxN (set5W W b u0 u1 u2 u3 u4) b t #[u0, u1, u2, u3, u4] :=
  ((((h.set 0 u0).set 1 u1).set 2 u2).set 3 u3).set 4 u4
theorem set5_other (W : World) {b k : Nat} (u0 u1 u2 u3 u4 : Value) (hk : k ≠ b) : (set5W W b u0 u1 u2 u3 u4).heap[k]? = W.heap[k]? :=
  (heap_setCell_other _ ⟨b, 4, none⟩ k _ hk).trans ((heap_setCell_other _ ⟨b, 3, none⟩ k _ hk).trans ((heap_setCell_other _ ⟨b, 2, none⟩ k _ hk).trans ((heap_setCell_other _ ⟨b, 1, none⟩ k _ hk).trans (heap_setCell_other _ ⟨b, 0, none⟩ k _ hk))))
theorem set5_keeps (W : World) (b : Nat) (u0 u1 u2 u3 u4 : Value) : KeepsOthers W (set5W W b u0 u1 u2 u3 u4) :=
  ((((KeepsOthers.setCell _ _ _).trans (KeepsOthers.setCell _ _ _)).trans (KeepsOthers.setCell _ _ _)).trans (KeepsOthers.setCell _ _ _)).trans (KeepsOthers.setCell _ _ _)
theorem set5_below {n : Nat} (W : World) {b : Nat} (u0 u1 u2 u3 u4 : Value) (hn : n ≤ b) : Below n W (set5W W b u0 u1 u2 u3 u4) :=
  (((((Below.refl n W).setCell (p := ⟨b, 0, none⟩) hn _).setCell (p := ⟨b, 1, none⟩) hn _).setCell (p := ⟨b, 2, none⟩) hn _).setCell (p := ⟨b, 3, none⟩) hn _).setCell (p := ⟨b, 4, none⟩) hn _
theorem ListAt.cells {α : Type} {B : Nat → Prop} {w : World} {size : Nat} {R R' : α → List Value → Prop} {v : Value} {xs : List α} (hs : 0 < size) (h : ListAt B w size R v xs) (hR : ∀ x cs, x ∈ xs → R x cs → R' x cs) : ListAt (fun b => B b ∧ ∃ o, w.heap[b]? = some o ∧ o.isCells = true) w size R' v xs := by
  obtain ⟨p, c, h1, h2, h3⟩ := h
  refine ⟨p, c, h1, h2, fun i x hx => ?_⟩
  obtain ⟨b, o, hp, hB, cs, hl, hc, hr⟩ := h3 i x hx
  refine ⟨b, o, hp, ⟨hB, ?_⟩, cs, hl, hc, hR x cs (List.mem_of_getElem? hx) hr⟩
  have h0 := hc 0 hs
  rw [List.getElem?_eq_getElem (by omega)] at h0
  unfold World.cell? at h0
  split at h0
  · exact ⟨_, by assumption, rfl⟩
  all_goals simp at h0
theorem TmAt.cells {B : Nat → Prop} {w : World} : ∀ (n : Nat) (t : Tm) (cs : List Value), TmAt B n w t cs → TmAt (fun b => B b ∧ ∃ o, w.heap[b]? = some o ∧ o.isCells = true) n w t cs
  | 0, _, _, h => h.elim
  | n + 1, .mk s us, cs, h => by
    obtain ⟨va, h1, h2, h3⟩ := h
    exact ⟨va, h1, h2, h3.cells (by omega) (fun x cs _ hx => TmAt.cells n x cs hx)⟩
theorem FmAt.cells {B : Nat → Prop} {w : World} : ∀ (n : Nat) (t : Fm) (cs : List Value), FmAt B n w t cs → FmAt (fun b => B b ∧ ∃ o, w.heap[b]? = some o ∧ o.isCells = true) n w t cs
  | 0, _, _, h => h.elim
  | n + 1, .mk op a x ps, cs, h => by
    obtain ⟨vn, va, vp, h1, h2, h3, h4, h5⟩ := h
    exact ⟨vn, va, vp, h1, h2, h3, TmAt.cells n _ _ h4, h5.cells (by omega) (fun x cs _ hx => FmAt.cells n x cs hx)⟩
open Go.RowKit Go.Shelf
attribute [local go_sem] Oper.semAt_some
def KbD (n₀ Bs : Nat) (W W' : World) : Prop := Below n₀ W W' ∧ (Bs < W.heap.size → W'.heap[Bs]? = W.heap[Bs]?)
theorem KbD.refl (n₀ Bs : Nat) (W : World) : KbD n₀ Bs W W := ⟨Below.refl _ _, fun _ => rfl⟩
theorem KbD.trans {n₀ Bs : Nat} {X Y Z : World} (h : KbD n₀ Bs X Y) (k : KbD n₀ Bs Y Z) : KbD n₀ Bs X Z := ⟨h.1.trans k.1, fun hl => (k.2 (Nat.lt_of_lt_of_le hl h.1.size)).trans (h.2 hl)⟩
set_option maxHeartbeats 2000000 in
theorem backD1_in {α : Type} (ix : α → Int) (c0 c1 c2 c3 c4 c5 c6 : α → Value) (F : Fence) (n : Nat) (hF : F.fn 54) (hro : F.round = none) (hn : 1 ≤ n) (l Bs n₀ : Nat) (p : Option Addr) (cap : Nat) (zs : List α) (hlen : zs.length ≤ 1048576) (hix : ∀ k (h : k < zs.length), ix zs[k] = k) (J Jx : List α → World → Prop)
    (hY : ∀ pre x W, J pre W → pre.length < zs.length → YieldAt F (n - 1) Tryz.prog l #[.int .i64 (ix x), .agg #[c0 x, c1 x, c2 x, c3 x, c4 x, c5 x, c6 x]] W fun e W' =>
      (e = .returned (.bool true) ∧ J (pre ++ [x]) W' ∧ KbD n₀ Bs W W') ∨ (e = .returned (.bool false) ∧ Jx (pre ++ [x]) W'))
    (W : World) (hBs : W.cell? ⟨Bs, 0, none⟩ = some (.slice p zs.length cap))
    (hc : ∀ k (h : k < zs.length), ∃ b o, p = some ⟨b, o, none⟩ ∧ b < n₀ ∧ W.cell? ⟨b, o + k * 7, none⟩ = some (c0 zs[k]) ∧ W.cell? ⟨b, o + k * 7 + 1, none⟩ = some (c1 zs[k]) ∧ W.cell? ⟨b, o + k * 7 + 2, none⟩ = some (c2 zs[k]) ∧ W.cell? ⟨b, o + k * 7 + 3, none⟩ = some (c3 zs[k]) ∧ W.cell? ⟨b, o + k * 7 + 4, none⟩ = some (c4 zs[k]) ∧ W.cell? ⟨b, o + k * 7 + 5, none⟩ = some (c5 zs[k]) ∧ W.cell? ⟨b, o + k * 7 + 6, none⟩ = some (c6 zs[k])) (h0 : J [] W) :
    CallsIn F n Tryz.prog 54 #[.func (.yield l) #[] #[], .pointer (some ⟨Bs, 0, none⟩)] W fun e W' => (∃ v, e = .returned v) ∧
      ((∃ ys, ys = zs.reverse ∧ J ys W') ∨ (∃ pre, (∃ k, zs.drop k = pre.reverse) ∧ Jx pre W')) := by
  have HC := Lib.hid hc
  have HIX := Lib.hid hix
  have hBl := World.block_lt_of_cell? _ _ hBs
  clear hc hix
  refine callsIn_of_wp Tryz.func54 rfl hF ?_ hro
  simp only [Tryz.ntmps54, List.size_toArray, List.length_cons, List.length_nil, Nat.reduceAdd, Nat.reduceSub, Array.replicate_succ, Array.replicate_zero, List.push_toArray, List.append_toArray, List.nil_append, List.cons_append]
  have hwr : IntKind.i64.wrap ((zs.length : Int) - 1) = (zs.length : Int) - 1 := IntWalk.i64_in _ (by omega)
  gi_wp2
  gi_loopw [3] (fun i wr => ∃ k : Nat, k ≤ zs.length ∧ i = .int .i64 ((k : Int) - 1) ∧ J (zs.drop k).reverse wr ∧ KbD n₀ Bs W wr)
    (fun i _ => (intOf i + 1).toNat)
  case atStart => exact ⟨zs.length, Nat.le_refl _, rfl, by simpa using h0, KbD.refl _ _ _⟩
  case round =>
    obtain ⟨k, hk, rfl, hJs, hnx⟩ := hrel
    have hBr : wr.cell? ⟨Bs, 0, none⟩ = some (.slice p zs.length cap) := (World.cell?_of_block (hnx.2 hBl)).trans hBs
    cases k with
    | zero =>
      gi_wp2
      go_end0
      exact ⟨⟨_, rfl⟩, .inl ⟨_, rfl, by simpa using hJs⟩⟩
    | succ k =>
      obtain ⟨b, o, rfl, hb, hx0, hx1, hx2, hx3, hx4, hx5, hx6⟩ := HC.out k (by omega)
      have hy0 := (hnx.1.cell (p := ⟨b, o + k * 7, none⟩) hb).trans hx0
      have hy1 := (hnx.1.cell (p := ⟨b, o + k * 7 + 1, none⟩) hb).trans hx1
      have hy2 := (hnx.1.cell (p := ⟨b, o + k * 7 + 2, none⟩) hb).trans hx2
      have hy3 := (hnx.1.cell (p := ⟨b, o + k * 7 + 3, none⟩) hb).trans hx3
      have hy4 := (hnx.1.cell (p := ⟨b, o + k * 7 + 4, none⟩) hb).trans hx4
      have hy5 := (hnx.1.cell (p := ⟨b, o + k * 7 + 5, none⟩) hb).trans hx5
      have hy6 := (hnx.1.cell (p := ⟨b, o + k * 7 + 6, none⟩) hb).trans hx6
      have hdr : (zs.drop (k + 1)).reverse ++ [zs[k]] = (zs.drop k).reverse := by rw [List.drop_eq_getElem_cons (by omega : k < zs.length), List.reverse_cons]
      obtain ⟨fn, tmps, assign, body, hy, hR⟩ := hY _ zs[k] wr hJs (by simp; omega)
      rw [HIX.out k (by omega)] at hy
      have hki : ((k + 1 : Nat) : Int) - 1 = k := by omega
      rw [hki]
      have hkl : (k : Int) < zs.length := by omega
      have hk0 : (0 : Int) ≤ k := by omega
      have hwk : IntKind.i64.wrap ((k : Int) - 1) = (k : Int) - 1 := IntWalk.i64_in _ (by omega)
      gi_wp2
      refine hR.mono ?_
      rintro e W3 (⟨rfl, hJ3, hk3⟩ | ⟨rfl, hJx3⟩)
      · gi_wp2
        go_roundw
        case rel => exact ⟨k, by omega, rfl, by rw [← hdr]; exact hJ3, hnx.trans hk3⟩
        case measure => simp [intOf]
      · gi_wp2
        refine bodyPost_ret (results_none rfl _ _ _) rfl ?_
        exact ⟨⟨_, rfl⟩, .inr ⟨_, ⟨k, by rw [hdr, List.reverse_reverse]⟩, hJx3⟩⟩
set_option maxHeartbeats 1000000 in
theorem backD_in (F : Fence) (n : Nat) (hF : F.fn 25) (hro : F.round = none) (a : Option Addr) (len cap : Nat) (w : World) :
    CallsIn F n Tryz.prog 25 #[.slice a len cap] w fun e w' => e = .returned (.func (.func 54) #[] #[.pointer (some ⟨w.heap.size, 0, none⟩)]) ∧ w' = w.alloc (.cells #[.slice a len cap] 31) := by
  refine callsIn_of_wp Tryz.func25 rfl hF ?_ hro
  simp only [Tryz.ntmps25, List.size_toArray, List.length_cons, List.length_nil, Nat.reduceAdd, Nat.reduceSub, Array.replicate_succ, Array.replicate_zero, List.push_toArray, List.append_toArray, List.nil_append, List.cons_append]
  gi_wp2
  go_ret
  exact ⟨rfl, rfl⟩
theorem backD_stops {α : Type} (ix : α → Int) (c0 c1 c2 c3 c4 c5 c6 : α → Value) (F : Fence) (n : Nat) (hF : F.fn 54) (hro : F.round = none) (hn : 1 ≤ n) (Bs n₀ : Nat) (p : Option Addr) (cap : Nat) (zs : List α) (hlen : zs.length ≤ 1048576) (hix : ∀ k (h : k < zs.length), ix zs[k] = k) (w : World) (hn₀ : n₀ ≤ w.heap.size) (hBs : w.cell? ⟨Bs, 0, none⟩ = some (.slice p zs.length cap))
    (hc : ∀ k (h : k < zs.length), ∃ b o, p = some ⟨b, o, none⟩ ∧ b < n₀ ∧ w.cell? ⟨b, o + k * 7, none⟩ = some (c0 zs[k]) ∧ w.cell? ⟨b, o + k * 7 + 1, none⟩ = some (c1 zs[k]) ∧ w.cell? ⟨b, o + k * 7 + 2, none⟩ = some (c2 zs[k]) ∧ w.cell? ⟨b, o + k * 7 + 3, none⟩ = some (c3 zs[k]) ∧ w.cell? ⟨b, o + k * 7 + 4, none⟩ = some (c4 zs[k]) ∧ w.cell? ⟨b, o + k * 7 + 5, none⟩ = some (c5 zs[k]) ∧ w.cell? ⟨b, o + k * 7 + 6, none⟩ = some (c6 zs[k])) :
    SeqStopsK F n Tryz.prog 54 #[.pointer (some ⟨Bs, 0, none⟩)] (fun x : α => #[Value.int .i64 (ix x), .agg #[c0 x, c1 x, c2 x, c3 x, c4 x, c5 x, c6 x]]) (KbD n₀ Bs) (fun ys => ys = zs.reverse) (fun ys => ∃ k, zs.drop k = ys.reverse) zs.length w := fun l J Jx W hW _ _ hY h0 =>
  backD1_in ix c0 c1 c2 c3 c4 c5 c6 F n hF hro hn l Bs n₀ p cap zs hlen hix J Jx hY W ((hW.cell (p := ⟨Bs, 0, none⟩) (World.block_lt_of_cell? _ _ hBs)).trans hBs) (fun k h => by
    obtain ⟨b, o, e, hb, h0, h1, h2, h3, h4, h5, h6⟩ := hc k h
    exact ⟨b, o, e, hb, (hW.cell (p := ⟨b, _, none⟩) (Nat.lt_of_lt_of_le hb hn₀)).trans h0, (hW.cell (p := ⟨b, _, none⟩) (Nat.lt_of_lt_of_le hb hn₀)).trans h1, (hW.cell (p := ⟨b, _, none⟩) (Nat.lt_of_lt_of_le hb hn₀)).trans h2, (hW.cell (p := ⟨b, _, none⟩) (Nat.lt_of_lt_of_le hb hn₀)).trans h3, (hW.cell (p := ⟨b, _, none⟩) (Nat.lt_of_lt_of_le hb hn₀)).trans h4, (hW.cell (p := ⟨b, _, none⟩) (Nat.lt_of_lt_of_le hb hn₀)).trans h5, (hW.cell (p := ⟨b, _, none⟩) (Nat.lt_of_lt_of_le hb hn₀)).trans h6⟩) h0
end Go.Proofs.YtmbkjdkjemlfkaaGreatDoor
