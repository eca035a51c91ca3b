/- A text parted at a byte: plain laws. No conditions; no program is walked. -/
import Derived.Laws.Cover1
import Derived.Test.YtimpkjiglioflaaGreatDoorPuPart1
import Derived.Test.YtimpkjiglioflaaGreatDoorPuPart2
import Derived.Test.YtimpkjiglioflaaGreatDoorPuPart9
namespace Go.Proofs.YtimpkjiglioflaaGreatDoor
open Go.RowKit
def StrAt (s : ByteArray) (cs : List Value) : Prop := cs = [.string s] ∧ s.size ≤ maxLen
def StrsAt (B : Nat → Prop) (w : World) (v : Value) (xs : List ByteArray) : Prop := ListAt B w 1 StrAt v xs
def wtS : List ByteArray → Nat | [] => 0 | a :: us => a.size + wtS us
theorem wtS_drop (us : List ByteArray) {k : Nat} (h : k < us.length) : wtS (us.drop k) = us[k].size + wtS (us.drop (k + 1)) := by rw [List.drop_eq_getElem_cons h, wtS]
theorem wtS_le : ∀ (us : List ByteArray), ∀ s ∈ us, s.size ≤ wtS us
  | [], _, h => by simp at h
  | a :: us, s, h => by
    rw [wtS]
    rcases List.mem_cons.1 h with rfl | h
    · omega
    · have := wtS_le us s h; omega
theorem StrsAt.mono {B B' : Nat → Prop} {w w' : World} {v : Value} {xs : List ByteArray} (hs : SameOn B w w') (hB : ∀ b, B b → B' b) (h : StrsAt B w v xs) : StrsAt B' w' v xs := ListAt.mono h hs hB (fun _ _ _ h => h)
theorem StrsAt.below {B : Nat → Prop} {w w' : World} {v : Value} {xs : List ByteArray} (hb : Below w.heap.size w w') (h : StrsAt B w v xs) : StrsAt B w' v xs := h.mono (SameOn.below hb) (fun _ h => h)
theorem StrsAt.form {B : Nat → Prop} {w : World} {v : Value} {xs : List ByteArray} (h : StrsAt B w v xs) : ∃ p c, v = .slice p xs.length c ∧ xs.length ≤ maxLen := ListAt.form h
theorem StrsAt.at_ {B : Nat → Prop} {w : World} {p : Option Addr} {n c : Nat} {xs : List ByteArray} (h : StrsAt B w (.slice p n c) xs) {i : Nat} (hi : i < xs.length) : ∃ b o, p = some ⟨b, o, none⟩ ∧ B b ∧ w.cell? ⟨b, o + i, none⟩ = some (.string xs[i]) ∧ xs[i].size ≤ maxLen := by
  obtain ⟨b, o, h1, h2, x, h3, h4, h5⟩ := ListAt.at1 h hi
  simp only [List.cons.injEq, and_true] at h4
  subst h4
  exact ⟨b, o, h1, h2, h3, h5⟩
structure Un where
  name : ByteArray
  incs : List ByteArray
  axs : List ByteArray
  goal : ByteArray
def Un.wt (u : Un) : Nat := u.name.size + (u.incs.length + wtS u.incs) + (u.axs.length + wtS u.axs) + u.goal.size
def UnAt (B : Nat → Prop) (w : World) (u : Un) (cs : List Value) : Prop := ∃ va vb, cs = [.string u.name, va, vb, .string u.goal] ∧ u.name.size ≤ maxLen ∧ u.goal.size ≤ maxLen ∧ StrsAt B w va u.incs ∧ StrsAt B w vb u.axs
theorem UnAt.mono {B B' : Nat → Prop} {w w' : World} {u : Un} {cs : List Value} (hs : SameOn B w w') (hB : ∀ b, B b → B' b) (h : UnAt B w u cs) : UnAt B' w' u cs := by
  obtain ⟨va, vb, h1, h2, h3, h4, h5⟩ := h
  exact ⟨va, vb, h1, h2, h3, h4.mono hs hB, h5.mono hs hB⟩
theorem UnAt.below {B : Nat → Prop} {w w' : World} {u : Un} {cs : List Value} (hb : Below w.heap.size w w') (h : UnAt B w u cs) : UnAt B w' u cs := h.mono (SameOn.below hb) (fun _ h => h)
theorem UnAt.form {B : Nat → Prop} {w : World} {u : Un} {v0 v1 v2 v3 : Value} (h : UnAt B w u [v0, v1, v2, v3]) : ∃ p c q d, v0 = .string u.name ∧ v1 = .slice p u.incs.length c ∧ v2 = .slice q u.axs.length d ∧ v3 = .string u.goal ∧ u.name.size ≤ maxLen ∧ u.goal.size ≤ maxLen ∧ u.incs.length ≤ maxLen ∧ u.axs.length ≤ maxLen ∧ StrsAt B w (.slice p u.incs.length c) u.incs ∧ StrsAt B w (.slice q u.axs.length d) u.axs := by
  obtain ⟨va, vb, h1, h2, h3, h4, h5⟩ := h
  obtain ⟨p, c, rfl, l1⟩ := h4.form
  obtain ⟨q, d, rfl, l2⟩ := h5.form
  simp only [List.cons.injEq, and_true] at h1
  obtain ⟨rfl, rfl, rfl, rfl⟩ := h1
  exact ⟨p, c, q, d, rfl, rfl, rfl, rfl, h2, h3, l1, l2, h4, h5⟩
set_option maxRecDepth 100000 in
set_option maxHeartbeats 1600000 in
theorem szStringS_any {B : Nat → Prop} (us : List ByteArray) (va : Value) (left : Int) (w : World) (h : StrsAt B w va us) (h0 : 0 ≤ left) (h1 : left ≤ 1048576) :
    Calls Tryz.prog 85 #[va, .int .i64 left] w fun e w' => e = .returned (.int .i64 (szR left (us.length + wtS us))) ∧ Below w.heap.size w w' := by
  obtain ⟨p, c, rfl, hlen⟩ := h.form
  unfold maxLen at hlen
  have H := Lib.hid h
  clear h
  by_cases hl : (us.length : Int) ≤ left
  · go_enter Tryz.func85, Tryz.ntmps85
    go_wp2
    go_loopw [1, 5] (fun l i wr => ∃ k done : Nat, k ≤ us.length ∧ i = .int .i64 k ∧ done + wtS (us.drop k) = wtS us ∧ l = .int .i64 (left - us.length - done) ∧ (done : Int) ≤ left - us.length ∧ Below w.heap.size w wr) (fun _ i _ => us.length - (intOf i).toNat)
    case atStart => exact ⟨0, 0, Nat.zero_le _, rfl, by simp, by simp, by omega, by (repeat (first | with_reducible exact Below.refl _ _ | with_reducible assumption | with_reducible refine Below.al ?_ _ | with_reducible refine Below.sc ?_ (by first | exact Nat.le_refl _ | (simp; done) | (simp; omega)) _ | assumption | exact Below.refl _ _ | refine Below.dr ?_ | refine Below.drN ?_ _ | refine Below.step ?_ (by assumption)))⟩
    case round =>
      obtain ⟨k, done, hk, rfl, hd, rfl, hdl, hb⟩ := hrel
      have HD := Lib.hid hd
      clear hd
      by_cases hlt : k < us.length
      · obtain ⟨b, o, rfl, hB, hx0, hxs⟩ := (H.out.below hb).at_ hlt
        unfold maxLen at hxs
        have HW := Lib.hid (wtS_drop us hlt)
        obtain ⟨a, ha⟩ : ∃ a, us[k] = a := ⟨_, rfl⟩
        rw [ha] at hx0 hxs HW
        clear ha
        by_cases hw : (a.size : Int) ≤ left - us.length - done
        · go_wp2
          have h1 := HD.out
          have h2 := HW.out
          refine ⟨⟨k + 1, done + a.size, by omega, by go_num, by omega, ?_, by omega, by (repeat (first | with_reducible exact Below.refl _ _ | with_reducible assumption | with_reducible refine Below.al ?_ _ | with_reducible refine Below.sc ?_ (by first | exact Nat.le_refl _ | (simp; done) | (simp; omega)) _ | assumption | exact Below.refl _ _ | refine Below.dr ?_ | refine Below.drN ?_ _ | refine Below.step ?_ (by assumption)))⟩, by simp [intOf]; omega⟩
          exact congrArg (Value.int .i64) (by omega)
        · go_wp2
          go_ret
          have h1 := HD.out
          have h2 := HW.out
          exact ⟨ret_int (by rw [szR, if_neg (by omega)]), by (repeat (first | with_reducible exact Below.refl _ _ | with_reducible assumption | with_reducible refine Below.al ?_ _ | with_reducible refine Below.sc ?_ (by first | exact Nat.le_refl _ | (simp; done) | (simp; omega)) _ | assumption | exact Below.refl _ _ | refine Below.dr ?_ | refine Below.drN ?_ _ | refine Below.step ?_ (by assumption)))⟩
      · obtain rfl : k = us.length := by omega
        have hd := HD.out
        rw [List.drop_length, wtS] at hd
        have HD2 := Lib.hid hd
        clear hd
        go_wp2
        go_ret
        have h1 := HD2.out
        exact ⟨ret_int (by rw [szR, if_pos (by omega)]; omega), by (repeat (first | with_reducible exact Below.refl _ _ | with_reducible assumption | with_reducible refine Below.al ?_ _ | with_reducible refine Below.sc ?_ (by first | exact Nat.le_refl _ | (simp; done) | (simp; omega)) _ | assumption | exact Below.refl _ _ | refine Below.dr ?_ | refine Below.drN ?_ _ | refine Below.step ?_ (by assumption)))⟩
  · go_enter Tryz.func85, Tryz.ntmps85
    go_wp2
    go_ret
    exact ⟨ret_int (by rw [szR, if_neg (by omega)]), by (repeat (first | with_reducible exact Below.refl _ _ | with_reducible assumption | with_reducible refine Below.al ?_ _ | with_reducible refine Below.sc ?_ (by first | exact Nat.le_refl _ | (simp; done) | (simp; omega)) _ | assumption | exact Below.refl _ _ | refine Below.dr ?_ | refine Below.drN ?_ _ | refine Below.step ?_ (by assumption)))⟩
set_option maxRecDepth 100000 in
set_option maxHeartbeats 1600000 in
theorem eqStringS_same {B B' : Nat → Prop} (us : List ByteArray) (va ua : Value) (w : World) (h : StrsAt B w va us) (h' : StrsAt B' w ua us) :
    Calls Tryz.prog 21 #[va, ua] w fun e w' => e = .returned (.bool true) ∧ Below w.heap.size w w' := by
  obtain ⟨p, c, rfl, hlen⟩ := h.form
  obtain ⟨p', c', rfl, -⟩ := h'.form
  unfold maxLen at hlen
  have H := Lib.hid h
  have H' := Lib.hid h'
  clear h h'
  go_enter Tryz.func21, Tryz.ntmps21
  go_wp2
  go_loopw [5] (fun i wr => ∃ k : Nat, k ≤ us.length ∧ i = .int .i64 k ∧ Below w.heap.size w wr) (fun i _ => us.length - (intOf i).toNat)
  case atStart => exact ⟨0, Nat.zero_le _, rfl, by (repeat (first | with_reducible exact Below.refl _ _ | with_reducible assumption | with_reducible refine Below.al ?_ _ | with_reducible refine Below.sc ?_ (by first | exact Nat.le_refl _ | (simp; done) | (simp; omega)) _ | assumption | exact Below.refl _ _ | refine Below.dr ?_ | refine Below.drN ?_ _ | refine Below.step ?_ (by assumption)))⟩
  case round =>
    obtain ⟨k, hk, rfl, hb⟩ := hrel
    by_cases hlt : k < us.length
    · obtain ⟨b, o, rfl, hB, hx0, hxs⟩ := (H.out.below hb).at_ hlt
      obtain ⟨b', o', rfl, hB', hy0, hys⟩ := (H'.out.below hb).at_ hlt
      obtain ⟨a, ha⟩ : ∃ a, us[k] = a := ⟨_, rfl⟩
      rw [ha] at hx0 hy0
      clear ha hxs hys
      have zb := bsz (World.block_lt_of_cell? _ _ hx0)
      have zb' := bsz (World.block_lt_of_cell? _ _ hy0)
      go_wp2
      obtain ⟨C, HC0⟩ := class_of (InF wr.heap.size _ [(⟨b, o + k, none⟩, .string a), (⟨b', o' + k, none⟩, .string a)] [] [])
      have HC := Lib.hid HC0
      clear HC0
      refine wp_region_flow (C := C) (by kernel_rfl) (by kernel_rfl) (fun L hL => (HC.out _ _).2 (InF.start (by first | (intro _ hs; cases hs; done) | (simp only [List.forall_mem_cons]; go_simp)) (by first | (intro _ hs; cases hs; done) | (simp only [List.forall_mem_cons]; go_simp)) (by first | (intro _ hs; cases hs; done) | (simp only [List.forall_mem_cons]; go_simp)) (by first | (intro _ hs; cases hs; done) | (simp only [List.forall_mem_cons]; go_simp)) L hL)) ?_
      repeat (first | (apply flow_free rfl; (intro L w' hun hrd hC; have hC := (HC.out _ _).1 hC; have hb' := hC.below; (try have hw' : Below w.heap.size w w' := by first | exact Below.trans (by (repeat (first | with_reducible exact Below.refl _ _ | with_reducible assumption | with_reducible refine Below.al ?_ _ | with_reducible refine Below.sc ?_ (by first | exact Nat.le_refl _ | (simp; done) | (simp; omega)) _ | assumption | exact Below.refl _ _ | refine Below.dr ?_ | refine Below.drN ?_ _ | refine Below.step ?_ (by assumption)))) hb' | ((repeat (first | with_reducible exact Below.refl _ _ | with_reducible assumption | with_reducible refine Below.al ?_ _ | with_reducible refine Below.sc ?_ (by first | exact Nat.le_refl _ | (simp; done) | (simp; omega)) _ | assumption | exact Below.refl _ _ | refine Below.dr ?_ | refine Below.drN ?_ _ | refine Below.step ?_ (by assumption))); done)); have hf' := hC.cell; (try simp only [List.forall_mem_cons] at hf'); go_simp; first | exact ⟨(HC.out _ _).2 (hC.skip _ (by rfl)), rfl⟩ | (rw [if_neg]; (exact ⟨(HC.out _ _).2 (hC.skip _ (by rfl)), rfl⟩); omega) | fail); go_simp) | (apply flow_yes; (case hw => go_simp); (intro L w' hun hrd hC; have hC := (HC.out _ _).1 hC; have hb' := hC.below; (try have hw' : Below w.heap.size w w' := by first | exact Below.trans (by (repeat (first | with_reducible exact Below.refl _ _ | with_reducible assumption | with_reducible refine Below.al ?_ _ | with_reducible refine Below.sc ?_ (by first | exact Nat.le_refl _ | (simp; done) | (simp; omega)) _ | assumption | exact Below.refl _ _ | refine Below.dr ?_ | refine Below.drN ?_ _ | refine Below.step ?_ (by assumption)))) hb' | ((repeat (first | with_reducible exact Below.refl _ _ | with_reducible assumption | with_reducible refine Below.al ?_ _ | with_reducible refine Below.sc ?_ (by first | exact Nat.le_refl _ | (simp; done) | (simp; omega)) _ | assumption | exact Below.refl _ _ | refine Below.dr ?_ | refine Below.drN ?_ _ | refine Below.step ?_ (by assumption))); done)); have hf' := hC.cell; (try simp only [List.forall_mem_cons] at hf'); go_simp; first | exact ⟨(HC.out _ _).2 (hC.skip _ (by rfl)), rfl⟩ | (rw [if_neg]; (exact ⟨(HC.out _ _).2 (hC.skip _ (by rfl)), rfl⟩); omega) | fail); go_simp) | (apply flow_no; (case hw => (go_simp; try (intro hh; cases hh))); (intro L w' _ _ hC; exact (HC.out _ _).2 (((HC.out _ _).1 hC).skip _ (by rfl))); go_simp))
      refine flow_nil ?_
      intro L wz hL hz
      have hz := (HC.out _ _).1 hz
      have hbz := hz.below
      have hcz := hz.cell
      try simp only [List.forall_mem_cons] at hcz
      have hdz := hz.done
      try simp only [List.forall_mem_cons] at hdz
      (try have hwz : Below w.heap.size w wz := by first | exact Below.trans (by (repeat (first | with_reducible exact Below.refl _ _ | with_reducible assumption | with_reducible refine Below.al ?_ _ | with_reducible refine Below.sc ?_ (by first | exact Nat.le_refl _ | (simp; done) | (simp; omega)) _ | assumption | exact Below.refl _ _ | refine Below.dr ?_ | refine Below.drN ?_ _ | refine Below.step ?_ (by assumption)))) hbz | ((repeat (first | with_reducible exact Below.refl _ _ | with_reducible assumption | with_reducible refine Below.al ?_ _ | with_reducible refine Below.sc ?_ (by first | exact Nat.le_refl _ | (simp; done) | (simp; omega)) _ | assumption | exact Below.refl _ _ | refine Below.dr ?_ | refine Below.drN ?_ _ | refine Below.step ?_ (by assumption))); done))
      go_wp2
      exact ⟨⟨k + 1, by omega, by go_num, Below.step hb hbz⟩, by simp [intOf]; omega⟩
    · go_wp2
      go_ret
      exact ⟨rfl, by (repeat (first | with_reducible exact Below.refl _ _ | with_reducible assumption | with_reducible refine Below.al ?_ _ | with_reducible refine Below.sc ?_ (by first | exact Nat.le_refl _ | (simp; done) | (simp; omega)) _ | assumption | exact Below.refl _ _ | refine Below.dr ?_ | refine Below.drN ?_ _ | refine Below.step ?_ (by assumption)))⟩
end Go.Proofs.YtimpkjiglioflaaGreatDoor
namespace Go.Proofs.YtimpkjiglioflaaGreatDoor
open Go.RowKit
def unitTxt (s : ByteArray) : Bool := pfOk s && decide (s.size ≤ 100)
def lessB (a b : ByteArray) : Bool := Op.bytesLess a.data.toList b.data.toList
def ascS : Option ByteArray → ByteArray → Bool | none, _ => true | some q, a => lessB q a
def namesF : Option ByteArray → List ByteArray → Bool
  | _, [] => true
  | p, a :: us => symB a.data.toList && ascS p a && namesF (some a) us
def prevS (c : List ByteArray) : Nat → Option ByteArray | 0 => none | k + 1 => c[k]?
theorem namesF_drop {c : List ByteArray} {k : Nat} (h : k < c.length) : namesF (prevS c k) (c.drop k) = (symB c[k].data.toList && ascS (prevS c k) c[k] && namesF (prevS c (k + 1)) (c.drop (k + 1))) := by
  rw [List.drop_eq_getElem_cons h, namesF, show prevS c (k + 1) = some c[k] from List.getElem?_eq_getElem h]
theorem prevS_pos {c : List ByteArray} {k : Nat} (h : k < c.length) (hk : 0 < k) : prevS c k = some (c[k - 1]'(by omega)) := by
  cases k with
  | zero => omega
  | succ k => exact List.getElem?_eq_getElem (by omega)
def Un.good (u : Un) : Bool := symB u.name.data.toList && decide (u.incs.length ≤ 12) && namesF none u.incs && decide (u.axs.length ≤ 6) && u.axs.all unitTxt && (u.goal.data.toList == [] || unitTxt u.goal)
theorem less_total : ∀ x y : List UInt8, Op.bytesLess x y = !(Op.bytesLess y x || y == x)
  | [], [] => rfl
  | [], b :: y => by simp [Op.bytesLess]
  | a :: x, [] => by simp [Op.bytesLess]
  | a :: x, b :: y => by
    have ih := less_total x y
    simp only [Op.bytesLess]
    by_cases h1 : a < b
    · have h2 : ¬ b < a := fun h => by have := UInt8.lt_trans h1 h; exact absurd this (UInt8.lt_irrefl _)
      have h3 : ¬ b = a := fun h => by subst h; exact UInt8.lt_irrefl _ h1
      simp [h1, h2, h3]
    · by_cases h2 : b < a
      · have h3 : ¬ a = b := fun h => by subst h; exact UInt8.lt_irrefl _ h2
        simp [h1, h2, h3]
      · have h3 : a = b := UInt8.le_antisymm (UInt8.not_lt.1 h2) (UInt8.not_lt.1 h1)
        subst h3
        simp [UInt8.lt_irrefl, ih]
theorem EtfPost.form {n : Nat} {ok : Bool} {F : Fm} {w w' : World} {e : Ending} (h : EtfPost n ok F w e w') : ∃ op m p k c v q k2 d, e = .returned (.tuple #[.agg #[.int .i64 op, .string m, .slice p k c, .string v, .slice q k2 d], .bool ok]) ∧ Below w.heap.size w w' := by
  obtain ⟨hb, h⟩ := h
  cases ok with
  | true =>
    obtain ⟨x, rfl, v0, v1, v2, v3, v4, rfl, hO⟩ := (show ∃ x, _ ∧ _ from h)
    obtain ⟨p, c, q, d, rfl, rfl, rfl, rfl, rfl, -⟩ := hO.form
    exact ⟨_, _, _, _, _, _, _, _, _, rfl, hb⟩
  | false =>
    have he : e = _ := h
    exact ⟨_, _, _, _, _, _, _, _, _, he, hb⟩
set_option maxRecDepth 100000 in
set_option maxHeartbeats 1600000 in
theorem isUnitText_any (s : ByteArray) (w : World) (hs : s.size ≤ 1000000000000) : Calls Tryz.prog 84 #[.string s] w fun e w' => e = .returned (.bool (unitTxt s)) ∧ Below w.heap.size w w' := by
  have HU := Lib.hid (show unitTxt s = (pfOk s && decide (s.size ≤ 100)) from rfl)
  go_enter Tryz.func84, Tryz.ntmps84
  go_wp2_with fail
  refine (implPF_any s hs _).mono ?_
  rintro e w1 hp
  obtain ⟨op, m, p, k, c, v, q, k2, d, rfl, hb1⟩ := hp.form
  clear hp
  cases hk : pfOk s <;> by_cases h1 : s.size ≤ 100
  all_goals
    have h2 := HU.out
    rw [hk] at h2
    have HU2 := Lib.hid h2
    clear h2
    have h1i : ((s.size : Int) ≤ 100) = (s.size ≤ 100) := by apply propext; omega
    go_wp2
    go_ret
    exact ⟨ret_bool (by rw [HU2.out]; simp [h1]), by (repeat (first | with_reducible exact Below.refl _ _ | with_reducible assumption | with_reducible refine Below.al ?_ _ | with_reducible refine Below.sc ?_ (by first | exact Nat.le_refl _ | (simp; done) | (simp; omega)) _ | assumption | exact Below.refl _ _ | refine Below.dr ?_ | refine Below.drN ?_ _ | refine Below.step ?_ (by assumption)))⟩
set_option maxRecDepth 100000 in
set_option maxHeartbeats 1600000 in
theorem areNames_any {B : Nat → Prop} (us : List ByteArray) (v : Value) (w : World) (h : StrsAt B w v us) : Calls Tryz.prog 81 #[v] w fun e w' => e = .returned (.bool (namesF none us)) ∧ Below w.heap.size w w' := by
  obtain ⟨p, c, rfl, hlen⟩ := h.form
  unfold maxLen at hlen
  have H := Lib.hid h
  clear h
  go_enter Tryz.func81, Tryz.ntmps81
  go_wp2
  go_loopw [7] (fun i wr => ∃ k : Nat, k ≤ us.length ∧ i = .int .i64 k ∧ namesF none us = namesF (prevS us k) (us.drop k) ∧ Below w.heap.size w wr) (fun i _ => us.length - (intOf i).toNat)
  case atStart => exact ⟨0, Nat.zero_le _, rfl, rfl, by (repeat (first | with_reducible exact Below.refl _ _ | with_reducible assumption | with_reducible refine Below.al ?_ _ | with_reducible refine Below.sc ?_ (by first | exact Nat.le_refl _ | (simp; done) | (simp; omega)) _ | assumption | exact Below.refl _ _ | refine Below.dr ?_ | refine Below.drN ?_ _ | refine Below.step ?_ (by assumption)))⟩
  case round =>
    obtain ⟨k, hk, rfl, he, hb⟩ := hrel
    have HE := Lib.hid he
    clear he
    by_cases hlt : k < us.length
    · obtain ⟨b, o, rfl, hB, hx0, hxs⟩ := (H.out.below hb).at_ hlt
      have HD := Lib.hid (namesF_drop hlt)
      by_cases hk0 : k = 0
      · have HP := Lib.hid (show prevS us k = none by rw [hk0]; rfl)
        obtain ⟨a, ha⟩ : ∃ a, us[k] = a := ⟨_, rfl⟩
        rw [ha] at hx0 hxs HD
        clear ha
        have hk1 : ¬ ((k : Int) > 0) := by omega
        have hk2 : ¬ ((0 : Int) < (k : Int)) := by omega
        have zb := bsz (World.block_lt_of_cell? _ _ hx0)
        clear hk0
        cases hy : symB a.data.toList
        all_goals
          have HY := Lib.hid hy
          clear hy
          go_wp2_with fail
          refine (isSymbol_any a _ hxs).mono ?_
          rintro e w1 ⟨rfl, hb1⟩
          have ⟨cw1, fw1⟩ := bcell hb1
          have qw1 := hb1.size
          (try simp at qw1)
          (try have zw1w := bsz (show w.heap.size < w1.heap.size by omega))
          rw [HY.out]
          go_wp2
        · go_ret
          exact ⟨ret_bool (by rw [HE.out, HD.out, HY.out]; rfl), by (repeat (first | with_reducible exact Below.refl _ _ | with_reducible assumption | with_reducible refine Below.al ?_ _ | with_reducible refine Below.sc ?_ (by first | exact Nat.le_refl _ | (simp; done) | (simp; omega)) _ | assumption | exact Below.refl _ _ | refine Below.dr ?_ | refine Below.drN ?_ _ | refine Below.step ?_ (by assumption)))⟩
        · refine ⟨⟨k + 1, by omega, by go_num, ?_, by (repeat (first | with_reducible exact Below.refl _ _ | with_reducible assumption | with_reducible refine Below.al ?_ _ | with_reducible refine Below.sc ?_ (by first | exact Nat.le_refl _ | (simp; done) | (simp; omega)) _ | assumption | exact Below.refl _ _ | refine Below.dr ?_ | refine Below.drN ?_ _ | refine Below.step ?_ (by assumption)))⟩, by simp [intOf]; omega⟩
          rw [HE.out, HD.out, HY.out, HP.out]; rfl
      · have hk1 : k - 1 < us.length := by omega
        obtain ⟨b', o', hq, hB', hy0, hys⟩ := (H.out.below hb).at_ hk1
        simp only [Option.some.injEq, Addr.mk.injEq, and_true] at hq
        obtain ⟨rfl, rfl⟩ := hq
        have HP := Lib.hid (prevS_pos hlt (by omega))
        obtain ⟨a, ha⟩ : ∃ a, us[k] = a := ⟨_, rfl⟩
        obtain ⟨q, hqe⟩ : ∃ q, us[k - 1] = q := ⟨_, rfl⟩
        rw [ha] at hx0 hxs HD
        rw [hqe] at hy0 HP
        clear ha hqe hys
        have hki : IntKind.i64.wrap ((k : Int) - 1) = ((k - 1 : Nat) : Int) := by rw [IntWalk.i64_in _ (by omega)]; omega
        have hkp : (0 : Int) < (k : Int) := by omega
        have zb := bsz (World.block_lt_of_cell? _ _ hx0)
        have HT := Lib.hid (less_total q.data.toList a.data.toList)
        cases hy : symB a.data.toList <;> cases hA : Op.bytesLess a.toList q.toList <;> cases hB : (a.toList == q.toList)
        all_goals
          have HY := Lib.hid hy
          have HLS := Lib.hid (show lessB q a = _ from HT.out.trans (by rw [← ByteArray.toList_eq, ← ByteArray.toList_eq, hA, hB]))
          clear hy
          go_wp2_with fail
          refine (isSymbol_any a _ hxs).mono ?_
          rintro e w1 ⟨rfl, hb1⟩
          have ⟨cw1, fw1⟩ := bcell hb1
          have qw1 := hb1.size
          (try simp at qw1)
          (try have zw1w := bsz (show w.heap.size < w1.heap.size by omega))
          rw [HY.out]
          go_wp2
        all_goals first
          | (refine ⟨⟨k + 1, by omega, by go_num, ?_, by (repeat (first | with_reducible exact Below.refl _ _ | with_reducible assumption | with_reducible refine Below.al ?_ _ | with_reducible refine Below.sc ?_ (by first | exact Nat.le_refl _ | (simp; done) | (simp; omega)) _ | assumption | exact Below.refl _ _ | refine Below.dr ?_ | refine Below.drN ?_ _ | refine Below.step ?_ (by assumption)))⟩, by simp [intOf]; omega⟩; rw [HE.out, HD.out, HY.out, HP.out, ascS, HLS.out]; rfl)
          | (go_ret; exact ⟨ret_bool (by rw [HE.out, HD.out, HY.out, HP.out, ascS, HLS.out]; rfl), by (repeat (first | with_reducible exact Below.refl _ _ | with_reducible assumption | with_reducible refine Below.al ?_ _ | with_reducible refine Below.sc ?_ (by first | exact Nat.le_refl _ | (simp; done) | (simp; omega)) _ | assumption | exact Below.refl _ _ | refine Below.dr ?_ | refine Below.drN ?_ _ | refine Below.step ?_ (by assumption)))⟩)
    · obtain rfl : k = us.length := by omega
      have he := HE.out
      rw [List.drop_length] at he
      have HE2 := Lib.hid he
      clear he
      go_wp2
      go_ret
      exact ⟨ret_bool (by rw [HE2.out]; rfl), by (repeat (first | with_reducible exact Below.refl _ _ | with_reducible assumption | with_reducible refine Below.al ?_ _ | with_reducible refine Below.sc ?_ (by first | exact Nat.le_refl _ | (simp; done) | (simp; omega)) _ | assumption | exact Below.refl _ _ | refine Below.dr ?_ | refine Below.drN ?_ _ | refine Below.step ?_ (by assumption)))⟩
end Go.Proofs.YtimpkjiglioflaaGreatDoor
namespace Go.Proofs.YtimpkjiglioflaaGreatDoor
open Go.RowKit
theorem Un.goal_le (u : Un) : u.goal.size ≤ u.wt := by unfold Un.wt; omega
theorem Un.axs_le (u : Un) : ∀ s ∈ u.axs, s.size ≤ u.wt := fun s hs => by have := wtS_le u.axs s hs; unfold Un.wt; omega
theorem all_not_any (us : List ByteArray) : us.all unitTxt = !(us.any fun s => !unitTxt s) := by
  induction us with
  | nil => rfl
  | cons a us ih => rw [List.all_cons, List.any_cons, ih]; cases unitTxt a <;> rfl
set_option maxRecDepth 100000 in
set_option maxHeartbeats 1600000 in
theorem notUnitText_any (s : ByteArray) (w : World) (hs : s.size ≤ 1000000000000) : Calls Tryz.prog 83 #[.string s] w fun e w' => e = .returned (.bool (!unitTxt s)) ∧ Below w.heap.size w w' := by
  go_enter Tryz.func83, Tryz.ntmps83
  go_wp2_with fail
  refine (isUnitText_any s _ hs).mono ?_
  rintro e w1 ⟨rfl, hb1⟩
  have ⟨cw1, fw1⟩ := bcell hb1
  have qw1 := hb1.size
  (try simp at qw1)
  (try have zw1w := bsz (show w.heap.size < w1.heap.size by omega))
  go_wp2
  go_ret
  exact ⟨rfl, by (repeat (first | with_reducible exact Below.refl _ _ | with_reducible assumption | with_reducible refine Below.al ?_ _ | with_reducible refine Below.sc ?_ (by first | exact Nat.le_refl _ | (simp; done) | (simp; omega)) _ | assumption | exact Below.refl _ _ | refine Below.dr ?_ | refine Below.drN ?_ _ | refine Below.step ?_ (by assumption)))⟩
set_option maxRecDepth 100000 in
set_option maxHeartbeats 1600000 in
theorem indexTxt {B : Nat → Prop} (us : List ByteArray) (hz : ∀ s ∈ us, s.size ≤ 1000000000000) (va : Value) (w : World) (h : StrsAt B w va us) :
    Calls Tryz.prog 118 #[va, .func (.func 83) #[] #[]] w (FirstAt (us.any fun s => !unitTxt s) w) := by
  obtain ⟨p, c, rfl, hlen⟩ := h.form
  unfold maxLen at hlen
  have H := Lib.hid h
  have HZ := Lib.hid hz
  clear h hz
  go_enter Tryz.func118, Tryz.ntmps118
  go_wp2
  go_loopw [8] (fun i wr => ∃ k : Nat, k ≤ us.length ∧ i = .int .i64 k ∧ (us.any fun s => !unitTxt s) = ((us.drop k).any fun s => !unitTxt s) ∧ Below w.heap.size w wr) (fun i _ => us.length - (intOf i).toNat)
  case atStart => exact ⟨0, Nat.zero_le _, rfl, rfl, by (repeat (first | with_reducible exact Below.refl _ _ | with_reducible assumption | with_reducible refine Below.al ?_ _ | with_reducible refine Below.sc ?_ (by first | exact Nat.le_refl _ | (simp; done) | (simp; omega)) _ | assumption | exact Below.refl _ _ | refine Below.dr ?_ | refine Below.drN ?_ _ | refine Below.step ?_ (by assumption)))⟩
  case round =>
    obtain ⟨k, hk, rfl, he, hb⟩ := hrel
    have HE := Lib.hid he
    clear he
    by_cases hlt : k < us.length
    · obtain ⟨b, o, rfl, hB, hx0, hxs⟩ := (H.out.below hb).at_ hlt
      have HD := Lib.hid (any_drop us (fun s => !unitTxt s) hlt)
      have hza := HZ.out _ (List.getElem_mem hlt)
      obtain ⟨a, ha⟩ : ∃ a, us[k] = a := ⟨_, rfl⟩
      rw [ha] at hx0 hxs HD hza
      clear ha
      have zb := bsz (World.block_lt_of_cell? _ _ hx0)
      cases hN : unitTxt a
      all_goals
        have HN := Lib.hid hN
        go_wp2_with fail
        refine (notUnitText_any a _ hza).mono ?_
        rintro e w1 ⟨rfl, hb1⟩
        have ⟨cw1, fw1⟩ := bcell hb1
        have qw1 := hb1.size
        (try simp at qw1)
        (try have zw1w := bsz (show w.heap.size < w1.heap.size by omega))
        rw [HN.out]
        go_wp2
      · go_ret
        exact ⟨k, rfl, by rw [HE.out, HD.out, HN.out]; simp, by (repeat (first | with_reducible exact Below.refl _ _ | with_reducible assumption | with_reducible refine Below.al ?_ _ | with_reducible refine Below.sc ?_ (by first | exact Nat.le_refl _ | (simp; done) | (simp; omega)) _ | assumption | exact Below.refl _ _ | refine Below.dr ?_ | refine Below.drN ?_ _ | refine Below.step ?_ (by assumption)))⟩
      · refine ⟨⟨k + 1, by omega, by go_num, ?_, by (repeat (first | with_reducible exact Below.refl _ _ | with_reducible assumption | with_reducible refine Below.al ?_ _ | with_reducible refine Below.sc ?_ (by first | exact Nat.le_refl _ | (simp; done) | (simp; omega)) _ | assumption | exact Below.refl _ _ | refine Below.dr ?_ | refine Below.drN ?_ _ | refine Below.step ?_ (by assumption)))⟩, by simp [intOf]; omega⟩
        rw [HE.out, HD.out, HN.out]; rfl
    · obtain rfl : k = us.length := by omega
      have he := HE.out
      rw [List.drop_length, List.any_nil] at he
      have HE2 := Lib.hid he
      clear he
      go_wp2
      go_ret
      exact ⟨-1, rfl, by rw [HE2.out]; rfl, by (repeat (first | with_reducible exact Below.refl _ _ | with_reducible assumption | with_reducible refine Below.al ?_ _ | with_reducible refine Below.sc ?_ (by first | exact Nat.le_refl _ | (simp; done) | (simp; omega)) _ | assumption | exact Below.refl _ _ | refine Below.dr ?_ | refine Below.drN ?_ _ | refine Below.step ?_ (by assumption)))⟩
theorem containsTxt {B : Nat → Prop} (us : List ByteArray) (hz : ∀ s ∈ us, s.size ≤ 1000000000000) (va : Value) (w : World) (h : StrsAt B w va us) :
    Calls Tryz.prog 82 #[va, .func (.func 83) #[] #[]] w fun e w' => e = .returned (.bool (us.any fun s => !unitTxt s)) ∧ Below w.heap.size w w' := by
  have H := Lib.hid h
  have IH := Lib.hid (indexTxt (B := B) us hz)
  clear h
  go_enter Tryz.func82, Tryz.ntmps82
  go_wp2_with fail
  refine (IH.out va _ H.out).mono ?_
  rintro e w1 ⟨r, rfl, hr, hb1⟩
  have HR := Lib.hid hr
  clear hr
  go_wp2
  go_ret
  exact ⟨ret_bool HR.out, hb1⟩
set_option maxRecDepth 100000 in
set_option maxHeartbeats 3200000 in
theorem implUnit_any {B : Nat → Prop} (u : Un) (v0 v1 v2 v3 : Value) (w : World) (h : UnAt B w u [v0, v1, v2, v3]) (hw : u.wt ≤ 1000000000000) :
    Calls Tryz.prog 48 #[.agg #[v0, v1, v2, v3]] w fun e w' => e = .returned (.bool u.good) ∧ Below w.heap.size w w' := by
  obtain ⟨p, c, q, d, rfl, rfl, rfl, rfl, hn, hg, l1, l2, hi, ha⟩ := h.form
  unfold maxLen at l1 l2
  have HI := Lib.hid hi
  have HA := Lib.hid ha
  have HG := Lib.hid (show u.good = (symB u.name.data.toList && decide (u.incs.length ≤ 12) && namesF none u.incs && decide (u.axs.length ≤ 6) && u.axs.all unitTxt && (u.goal.data.toList == [] || unitTxt u.goal)) from rfl)
  have HZ := Lib.hid (fun s hs => Nat.le_trans (u.axs_le s hs) hw)
  have hgz := Nat.le_trans u.goal_le hw
  clear h hi ha
  go_enter Tryz.func48, Tryz.ntmps48
  go_wp2_with fail
  refine (isSymbol_any u.name _ hn).mono ?_
  rintro e w1 ⟨rfl, hb1⟩
  have ⟨cw1, fw1⟩ := bcell hb1
  have qw1 := hb1.size
  (try simp at qw1)
  (try have zw1w := bsz (show w.heap.size < w1.heap.size by omega))
  cases h1 : symB u.name.data.toList
  · have H1 := Lib.hid h1
    go_wp2
    go_ret
    exact ⟨ret_bool (by rw [HG.out, H1.out]; rfl), by (repeat (first | with_reducible exact Below.refl _ _ | with_reducible assumption | with_reducible refine Below.al ?_ _ | with_reducible refine Below.sc ?_ (by first | exact Nat.le_refl _ | (simp; done) | (simp; omega)) _ | assumption | exact Below.refl _ _ | refine Below.dr ?_ | refine Below.drN ?_ _ | refine Below.step ?_ (by assumption)))⟩
  have H1 := Lib.hid h1
  clear h1
  by_cases h2 : u.incs.length ≤ 12
  case neg =>
    have h2i : ¬ ((u.incs.length : Int) ≤ 12) := by omega
    have H2 := Lib.hid h2
    go_wp2
    go_ret
    exact ⟨ret_bool (by rw [HG.out, H1.out, decide_eq_false H2.out]; rfl), by (repeat (first | with_reducible exact Below.refl _ _ | with_reducible assumption | with_reducible refine Below.al ?_ _ | with_reducible refine Below.sc ?_ (by first | exact Nat.le_refl _ | (simp; done) | (simp; omega)) _ | assumption | exact Below.refl _ _ | refine Below.dr ?_ | refine Below.drN ?_ _ | refine Below.step ?_ (by assumption)))⟩
  have h2i : ((u.incs.length : Int) ≤ 12) := by omega
  have H2 := Lib.hid h2
  clear h2
  go_wp2_with fail
  refine (areNames_any u.incs _ _ (HI.out.below (by (repeat (first | with_reducible exact Below.refl _ _ | with_reducible assumption | with_reducible refine Below.al ?_ _ | with_reducible refine Below.sc ?_ (by first | exact Nat.le_refl _ | (simp; done) | (simp; omega)) _ | assumption | exact Below.refl _ _ | refine Below.dr ?_ | refine Below.drN ?_ _ | refine Below.step ?_ (by assumption)))))).mono ?_
  rintro e w2 ⟨rfl, hb2⟩
  have ⟨cw2, fw2⟩ := bcell hb2
  have qw2 := hb2.size
  (try simp at qw2)
  (try have zw2w := bsz (show w.heap.size < w2.heap.size by omega))
  (try have zw2w1 := bsz (show w1.heap.size < w2.heap.size by omega))
  cases h3 : namesF none u.incs
  · have H3 := Lib.hid h3
    go_wp2
    go_ret
    exact ⟨ret_bool (by rw [HG.out, H1.out, decide_eq_true H2.out, H3.out]; rfl), by (repeat (first | with_reducible exact Below.refl _ _ | with_reducible assumption | with_reducible refine Below.al ?_ _ | with_reducible refine Below.sc ?_ (by first | exact Nat.le_refl _ | (simp; done) | (simp; omega)) _ | assumption | exact Below.refl _ _ | refine Below.dr ?_ | refine Below.drN ?_ _ | refine Below.step ?_ (by assumption)))⟩
  have H3 := Lib.hid h3
  clear h3
  by_cases h4 : u.axs.length ≤ 6
  case neg =>
    have h4i : ¬ ((u.axs.length : Int) ≤ 6) := by omega
    have H4 := Lib.hid h4
    go_wp2
    go_ret
    exact ⟨ret_bool (by rw [HG.out, H1.out, decide_eq_true H2.out, H3.out, decide_eq_false H4.out]; rfl), by (repeat (first | with_reducible exact Below.refl _ _ | with_reducible assumption | with_reducible refine Below.al ?_ _ | with_reducible refine Below.sc ?_ (by first | exact Nat.le_refl _ | (simp; done) | (simp; omega)) _ | assumption | exact Below.refl _ _ | refine Below.dr ?_ | refine Below.drN ?_ _ | refine Below.step ?_ (by assumption)))⟩
  have h4i : ((u.axs.length : Int) ≤ 6) := by omega
  have H4 := Lib.hid h4
  clear h4
  go_wp2_with fail
  refine (containsTxt u.axs HZ.out _ _ (HA.out.below (by (repeat (first | with_reducible exact Below.refl _ _ | with_reducible assumption | with_reducible refine Below.al ?_ _ | with_reducible refine Below.sc ?_ (by first | exact Nat.le_refl _ | (simp; done) | (simp; omega)) _ | assumption | exact Below.refl _ _ | refine Below.dr ?_ | refine Below.drN ?_ _ | refine Below.step ?_ (by assumption)))))).mono ?_
  rintro e w3 ⟨rfl, hb3⟩
  have ⟨cw3, fw3⟩ := bcell hb3
  have qw3 := hb3.size
  (try simp at qw3)
  (try have zw3w := bsz (show w.heap.size < w3.heap.size by omega))
  (try have zw3w1 := bsz (show w1.heap.size < w3.heap.size by omega))
  (try have zw3w2 := bsz (show w2.heap.size < w3.heap.size by omega))
  have HNA := Lib.hid (all_not_any u.axs)
  cases h5 : (u.axs.any fun s => !unitTxt s)
  case true =>
    have H5 := Lib.hid h5
    go_wp2
    go_ret
    exact ⟨ret_bool (by rw [HG.out, H1.out, decide_eq_true H2.out, H3.out, decide_eq_true H4.out, HNA.out, H5.out]; rfl), by (repeat (first | with_reducible exact Below.refl _ _ | with_reducible assumption | with_reducible refine Below.al ?_ _ | with_reducible refine Below.sc ?_ (by first | exact Nat.le_refl _ | (simp; done) | (simp; omega)) _ | assumption | exact Below.refl _ _ | refine Below.dr ?_ | refine Below.drN ?_ _ | refine Below.step ?_ (by assumption)))⟩
  have H5 := Lib.hid h5
  clear h5
  cases h6 : (u.goal.toList == [])
  case true =>
    have H6 := Lib.hid h6
    go_wp2
    go_ret
    exact ⟨ret_bool (by rw [HG.out, H1.out, decide_eq_true H2.out, H3.out, decide_eq_true H4.out, HNA.out, H5.out, ← ByteArray.toList_eq, H6.out]; rfl), by (repeat (first | with_reducible exact Below.refl _ _ | with_reducible assumption | with_reducible refine Below.al ?_ _ | with_reducible refine Below.sc ?_ (by first | exact Nat.le_refl _ | (simp; done) | (simp; omega)) _ | assumption | exact Below.refl _ _ | refine Below.dr ?_ | refine Below.drN ?_ _ | refine Below.step ?_ (by assumption)))⟩
  have H6 := Lib.hid h6
  go_wp2_with fail
  refine (isUnitText_any u.goal _ hgz).mono ?_
  rintro e w4 ⟨rfl, hb4⟩
  have ⟨cw4, fw4⟩ := bcell hb4
  have qw4 := hb4.size
  (try simp at qw4)
  (try have zw4w := bsz (show w.heap.size < w4.heap.size by omega))
  (try have zw4w1 := bsz (show w1.heap.size < w4.heap.size by omega))
  (try have zw4w2 := bsz (show w2.heap.size < w4.heap.size by omega))
  (try have zw4w3 := bsz (show w3.heap.size < w4.heap.size by omega))
  go_wp2
  go_ret
  exact ⟨ret_bool (by rw [HG.out, H1.out, decide_eq_true H2.out, H3.out, decide_eq_true H4.out, HNA.out, H5.out, ← ByteArray.toList_eq, H6.out]; rfl), by (repeat (first | with_reducible exact Below.refl _ _ | with_reducible assumption | with_reducible refine Below.al ?_ _ | with_reducible refine Below.sc ?_ (by first | exact Nat.le_refl _ | (simp; done) | (simp; omega)) _ | assumption | exact Below.refl _ _ | refine Below.dr ?_ | refine Below.drN ?_ _ | refine Below.step ?_ (by assumption)))⟩
end Go.Proofs.YtimpkjiglioflaaGreatDoor
namespace Go.Proofs.YtimpkjiglioflaaGreatDoor
open Go.RowKit
set_option maxRecDepth 100000 in
set_option maxHeartbeats 1600000 in
theorem l27Text_any (s : ByteArray) (w : World) (hs : s.size ≤ 1000000000000) : Calls Tryz.prog 78 #[.string s] w fun e w' => e = .returned (.bool (unitTxt s)) ∧ Below w.heap.size w w' := by
  have HU := Lib.hid (show unitTxt s = (pfOk s && decide (s.size ≤ 100)) from rfl)
  go_enter Tryz.func78, Tryz.ntmps78
  go_wp2_with fail
  refine (specPF_any s hs _).mono ?_
  rintro e w1 hp
  obtain ⟨op, m, p, k, c, v, q, k2, d, rfl, hb1⟩ := hp.form
  clear hp
  cases hk : pfOk s <;> by_cases h1 : s.size ≤ 100
  all_goals
    have h2 := HU.out
    rw [hk] at h2
    have HU2 := Lib.hid h2
    clear h2
    have h1i : ((s.size : Int) ≤ 100) = (s.size ≤ 100) := by apply propext; omega
    go_wp2
    go_ret
    exact ⟨ret_bool (by rw [HU2.out]; simp [h1]), by (repeat (first | with_reducible exact Below.refl _ _ | with_reducible assumption | with_reducible refine Below.al ?_ _ | with_reducible refine Below.sc ?_ (by first | exact Nat.le_refl _ | (simp; done) | (simp; omega)) _ | assumption | exact Below.refl _ _ | refine Below.dr ?_ | refine Below.drN ?_ _ | refine Below.step ?_ (by assumption)))⟩
/-- The boxed unit, and nothing older touched. -/
structure UBox (u : Un) (p q : Option Addr) (c d : Nat) (w wr : World) : Prop where
  bel : Below w.heap.size w wr
  cell : wr.heap[w.heap.size]? = some (.cells #[.string u.name, .slice p u.incs.length c, .slice q u.axs.length d, .string u.goal] 24 (0, 0))
theorem UBox.later {u : Un} {p q : Option Addr} {c d : Nat} {w wr w' : World} (h : UBox u p q c d w wr) (hb : Below wr.heap.size wr w') : UBox u p q c d w w' := ⟨h.bel.trans (hb.mono h.bel.size), (hb.block _ (heap_lt h.cell)).trans h.cell⟩
theorem UBox.cells {u : Un} {p q : Option Addr} {c d : Nat} {w wr : World} (h : UBox u p q c d w wr) : wr.cell? ⟨w.heap.size, 0, none⟩ = some (.string u.name) ∧ wr.cell? ⟨w.heap.size, 1, none⟩ = some (.slice p u.incs.length c) ∧ wr.cell? ⟨w.heap.size, 2, none⟩ = some (.slice q u.axs.length d) ∧ wr.cell? ⟨w.heap.size, 3, none⟩ = some (.string u.goal) := by
  refine ⟨?_, ?_, ?_, ?_⟩
  · rw [cell_of_row _ _ 0 _ _ (0, 0) h.cell]; rfl
  · rw [cell_of_row _ _ 1 _ _ (0, 0) h.cell]; rfl
  · rw [cell_of_row _ _ 2 _ _ (0, 0) h.cell]; rfl
  · rw [cell_of_row _ _ 3 _ _ (0, 0) h.cell]; rfl
set_option maxRecDepth 100000 in
set_option maxHeartbeats 6400000 in
theorem l27Unit_any {B : Nat → Prop} (u : Un) (v0 v1 v2 v3 : Value) (w : World) (h : UnAt B w u [v0, v1, v2, v3]) (hw : u.wt ≤ 1000000000000) :
    Calls Tryz.prog 44 #[.agg #[v0, v1, v2, v3]] w fun e w' => e = .returned (.bool u.good) ∧ Below w.heap.size w w' := by
  obtain ⟨p, c, q, d, rfl, rfl, rfl, rfl, hn, hg, l1, l2, hi, ha⟩ := h.form
  unfold maxLen at l1 l2
  have HI := Lib.hid hi
  have HA := Lib.hid ha
  have HG := Lib.hid (show u.good = (symB u.name.data.toList && decide (u.incs.length ≤ 12) && namesF none u.incs && decide (u.axs.length ≤ 6) && u.axs.all unitTxt && (u.goal.data.toList == [] || unitTxt u.goal)) from rfl)
  have HZ := Lib.hid (fun s hs => Nat.le_trans (u.axs_le s hs) hw)
  have hgz := Nat.le_trans u.goal_le hw
  have HU0 := Lib.hid (show UBox u p q c d w (w.alloc (.cells #[.string u.name, .slice p u.incs.length c, .slice q u.axs.length d, .string u.goal] 24)) from ⟨(Below.refl _ _).alloc (Nat.le_refl _) _, heap_alloc_new w _⟩)
  clear h hi ha
  go_enter Tryz.func44, Tryz.ntmps44
  go_wp2_with fail
  refine (l2Symbol_any u.name _ hn).mono ?_
  rintro e w1 ⟨rfl, rfl⟩
  cases h1 : symB u.name.data.toList
  case false =>
    have HNO := Lib.hid (show u.good = false by rw [HG.out, h1]; rfl)
    go_wp2
    go_ret
    exact ⟨ret_bool HNO.out.symm, by (repeat (first | with_reducible exact Below.refl _ _ | with_reducible assumption | with_reducible refine Below.al ?_ _ | with_reducible refine Below.sc ?_ (by first | exact Nat.le_refl _ | (simp; done) | (simp; omega)) _ | assumption | exact Below.refl _ _ | refine Below.dr ?_ | refine Below.drN ?_ _ | refine Below.step ?_ (by assumption)))⟩
  by_cases h2 : u.incs.length ≤ 12
  case neg =>
    have HNO := Lib.hid (show u.good = false by rw [HG.out, h1, decide_eq_false h2]; rfl)
    have h2j : ((12 : Int) < (u.incs.length : Int)) := by omega
    clear h2
    go_wp2
    go_ret
    exact ⟨ret_bool HNO.out.symm, by (repeat (first | with_reducible exact Below.refl _ _ | with_reducible assumption | with_reducible refine Below.al ?_ _ | with_reducible refine Below.sc ?_ (by first | exact Nat.le_refl _ | (simp; done) | (simp; omega)) _ | assumption | exact Below.refl _ _ | refine Below.dr ?_ | refine Below.drN ?_ _ | refine Below.step ?_ (by assumption)))⟩
  have h2j : ¬ ((12 : Int) < (u.incs.length : Int)) := by omega
  by_cases h4 : u.axs.length ≤ 6
  case neg =>
    have HNO := Lib.hid (show u.good = false by rw [HG.out, h1, decide_eq_false h4]; simp)
    have h4j : ((6 : Int) < (u.axs.length : Int)) := by omega
    clear h4 h2
    go_wp2
    go_ret
    exact ⟨ret_bool HNO.out.symm, by (repeat (first | with_reducible exact Below.refl _ _ | with_reducible assumption | with_reducible refine Below.al ?_ _ | with_reducible refine Below.sc ?_ (by first | exact Nat.le_refl _ | (simp; done) | (simp; omega)) _ | assumption | exact Below.refl _ _ | refine Below.dr ?_ | refine Below.drN ?_ _ | refine Below.step ?_ (by assumption)))⟩
  have h4j : ¬ ((6 : Int) < (u.axs.length : Int)) := by omega
  have HG2 := Lib.hid (show u.good = (namesF none u.incs && u.axs.all unitTxt && (u.goal.data.toList == [] || unitTxt u.goal)) by rw [HG.out, h1, decide_eq_true h2, decide_eq_true h4]; simp)
  clear h2 h4 HG
  go_wp2
  go_loopw [3] (fun i wr => ∃ k : Nat, k ≤ u.incs.length ∧ i = .int .i64 k ∧ namesF none u.incs = namesF (prevS u.incs k) (u.incs.drop k) ∧ UBox u p q c d w wr) (fun i _ => u.incs.length - (intOf i).toNat)
  case atStart => exact ⟨0, Nat.zero_le _, rfl, rfl, HU0.out⟩
  case round =>
    obtain ⟨k, hk, rfl, he, hub⟩ := hrel
    have HE := Lib.hid he
    have HUB := Lib.hid hub
    have hb := hub.bel
    have hqz := hb.size
    obtain ⟨x0, x1, x2, x3⟩ := hub.cells
    have zub := bsz (heap_lt hub.cell)
    clear he hub HU0
    by_cases hlt : k < u.incs.length
    · obtain ⟨b, o, rfl, hB, hx0, hxs⟩ := (HI.out.below hb).at_ hlt
      have HD := Lib.hid (namesF_drop hlt)
      have hki : (k : Int) < u.incs.length := by omega
      have zb := bsz (World.block_lt_of_cell? _ _ hx0)
      by_cases hk0 : k = 0
      · subst hk0
        rw [Nat.add_zero] at hx0
        have HP := Lib.hid (show prevS u.incs 0 = none from rfl)
        obtain ⟨a, hae⟩ : ∃ a, u.incs[0] = a := ⟨_, rfl⟩
        rw [hae] at hx0 hxs HD
        clear hae
        cases hy : symB a.data.toList
        all_goals
          have HSY := Lib.hid (show ∀ w, Calls Tryz.prog 76 #[.string a] w fun e w' => e = .returned (.bool _) ∧ Below w.heap.size w w' from fun w => hy ▸ same_below (l2Symbol_any a w hxs))
          have HY := Lib.hid hy
          clear hy
          go_wp2
          obtain ⟨C, HC0⟩ := class_of (InF wr.heap.size _ [(⟨w.heap.size, 1, none⟩, .slice (some ⟨b, o, none⟩) u.incs.length c), (⟨b, o, none⟩, .string a)] [] [])
          have HC := Lib.hid HC0
          clear HC0
          refine wp_region_flow (C := C) (by kernel_rfl) (by kernel_rfl) (fun L hL => (HC.out _ _).2 (InF.start (by first | (intro _ hs; cases hs; done) | (simp only [List.forall_mem_cons]; go_simp)) (by first | (intro _ hs; cases hs; done) | (simp only [List.forall_mem_cons]; go_simp)) (by first | (intro _ hs; cases hs; done) | (simp only [List.forall_mem_cons]; go_simp)) (by first | (intro _ hs; cases hs; done) | (simp only [List.forall_mem_cons]; go_simp)) L hL)) ?_
          repeat (first | (apply flow_free rfl; (intro L w' hun hrd hC; have hC := (HC.out _ _).1 hC; have hb' := hC.below; (try have hw' : Below w.heap.size w w' := by first | exact Below.trans (by (repeat (first | with_reducible exact Below.refl _ _ | with_reducible assumption | with_reducible refine Below.al ?_ _ | with_reducible refine Below.sc ?_ (by first | exact Nat.le_refl _ | (simp; done) | (simp; omega)) _ | assumption | exact Below.refl _ _ | refine Below.dr ?_ | refine Below.drN ?_ _ | refine Below.step ?_ (by assumption)))) hb' | ((repeat (first | with_reducible exact Below.refl _ _ | with_reducible assumption | with_reducible refine Below.al ?_ _ | with_reducible refine Below.sc ?_ (by first | exact Nat.le_refl _ | (simp; done) | (simp; omega)) _ | assumption | exact Below.refl _ _ | refine Below.dr ?_ | refine Below.drN ?_ _ | refine Below.step ?_ (by assumption))); done)); have hf' := hC.cell; (try simp only [List.forall_mem_cons] at hf'); go_simp; first | exact ⟨(HC.out _ _).2 (hC.skip _ (by rfl)), rfl⟩ | (rw [if_neg]; (exact ⟨(HC.out _ _).2 (hC.skip _ (by rfl)), rfl⟩); omega) | (go_at_call 76; refine (HSY.out _).mono ?_; rintro e w1 ⟨rfl, hb1⟩; exact ⟨rfl, (HC.out _ _).2 ((hC.next (by first | (simp; done) | (simp; omega) | omega) hb1).skip _ (by rfl))⟩)); go_simp) | (apply flow_yes; (case hw => go_simp); (intro L w' hun hrd hC; have hC := (HC.out _ _).1 hC; have hb' := hC.below; (try have hw' : Below w.heap.size w w' := by first | exact Below.trans (by (repeat (first | with_reducible exact Below.refl _ _ | with_reducible assumption | with_reducible refine Below.al ?_ _ | with_reducible refine Below.sc ?_ (by first | exact Nat.le_refl _ | (simp; done) | (simp; omega)) _ | assumption | exact Below.refl _ _ | refine Below.dr ?_ | refine Below.drN ?_ _ | refine Below.step ?_ (by assumption)))) hb' | ((repeat (first | with_reducible exact Below.refl _ _ | with_reducible assumption | with_reducible refine Below.al ?_ _ | with_reducible refine Below.sc ?_ (by first | exact Nat.le_refl _ | (simp; done) | (simp; omega)) _ | assumption | exact Below.refl _ _ | refine Below.dr ?_ | refine Below.drN ?_ _ | refine Below.step ?_ (by assumption))); done)); have hf' := hC.cell; (try simp only [List.forall_mem_cons] at hf'); go_simp; first | exact ⟨(HC.out _ _).2 (hC.skip _ (by rfl)), rfl⟩ | (rw [if_neg]; (exact ⟨(HC.out _ _).2 (hC.skip _ (by rfl)), rfl⟩); omega) | (go_at_call 76; refine (HSY.out _).mono ?_; rintro e w1 ⟨rfl, hb1⟩; exact ⟨rfl, (HC.out _ _).2 ((hC.next (by first | (simp; done) | (simp; omega) | omega) hb1).skip _ (by rfl))⟩)); go_simp) | (apply flow_no; (case hw => (go_simp; try (intro hh; cases hh))); (intro L w' _ _ hC; exact (HC.out _ _).2 (((HC.out _ _).1 hC).skip _ (by rfl))); go_simp))
          refine flow_nil ?_
          intro L wz hL hz
          have hz := (HC.out _ _).1 hz
          have hbz := hz.below
          have hcz := hz.cell
          try simp only [List.forall_mem_cons] at hcz
          have hdz := hz.done
          try simp only [List.forall_mem_cons] at hdz
          (try have hwz : Below w.heap.size w wz := by first | exact Below.trans (by (repeat (first | with_reducible exact Below.refl _ _ | with_reducible assumption | with_reducible refine Below.al ?_ _ | with_reducible refine Below.sc ?_ (by first | exact Nat.le_refl _ | (simp; done) | (simp; omega)) _ | assumption | exact Below.refl _ _ | refine Below.dr ?_ | refine Below.drN ?_ _ | refine Below.step ?_ (by assumption)))) hbz | ((repeat (first | with_reducible exact Below.refl _ _ | with_reducible assumption | with_reducible refine Below.al ?_ _ | with_reducible refine Below.sc ?_ (by first | exact Nat.le_refl _ | (simp; done) | (simp; omega)) _ | assumption | exact Below.refl _ _ | refine Below.dr ?_ | refine Below.drN ?_ _ | refine Below.step ?_ (by assumption))); done))
          go_wp2
        · go_ret
          exact ⟨ret_bool (by rw [HG2.out, HE.out, HD.out, HY.out]; rfl), by (repeat (first | with_reducible exact Below.refl _ _ | with_reducible assumption | with_reducible refine Below.al ?_ _ | with_reducible refine Below.sc ?_ (by first | exact Nat.le_refl _ | (simp; done) | (simp; omega)) _ | assumption | exact Below.refl _ _ | refine Below.dr ?_ | refine Below.drN ?_ _ | refine Below.step ?_ (by assumption)))⟩
        · refine ⟨⟨1, by omega, by go_num, ?_, HUB.out.later hbz⟩, by simp [intOf]; omega⟩
          rw [HE.out, HD.out, HY.out, HP.out]; rfl
      · have hk1 : k - 1 < u.incs.length := by omega
        obtain ⟨b', o', hq, hB', hy0, hys⟩ := (HI.out.below hb).at_ hk1
        simp only [Option.some.injEq, Addr.mk.injEq, and_true] at hq
        obtain ⟨rfl, rfl⟩ := hq
        have HP := Lib.hid (prevS_pos hlt (by omega))
        obtain ⟨a, hae⟩ : ∃ a, u.incs[k] = a := ⟨_, rfl⟩
        obtain ⟨r, hre⟩ : ∃ r, u.incs[k - 1] = r := ⟨_, rfl⟩
        rw [hae] at hx0 hxs HD
        rw [hre] at hy0 HP
        clear hae hre hys
        have hkm : IntKind.i64.wrap ((k : Int) - 1) = ((k - 1 : Nat) : Int) := by rw [IntWalk.i64_in _ (by omega)]; omega
        have hkp : (0 : Int) < (k : Int) := by omega
        have hkj : ((k - 1 : Nat) : Int) < u.incs.length := by omega
        have hkn : 0 < k := by omega
        have HL0 := Lib.hid (show lessB r a = Op.bytesLess r.toList a.toList by rw [lessB, ← ByteArray.toList_eq, ← ByteArray.toList_eq])
        cases hy : symB a.data.toList <;> cases hA : Op.bytesLess r.toList a.toList
        all_goals
          have HSY := Lib.hid (show ∀ w, Calls Tryz.prog 76 #[.string a] w fun e w' => e = .returned (.bool _) ∧ Below w.heap.size w w' from fun w => hy ▸ same_below (l2Symbol_any a w hxs))
          have HY := Lib.hid hy
          have HLS := Lib.hid (HL0.out.trans hA)
          clear hy
          go_wp2
          obtain ⟨C, HC0⟩ := class_of (InF wr.heap.size _ [(⟨w.heap.size, 1, none⟩, .slice (some ⟨b, o, none⟩) u.incs.length c), (⟨b, o + k, none⟩, .string a), (⟨b, o + (k - 1), none⟩, .string r)] [] [])
          have HC := Lib.hid HC0
          clear HC0
          refine wp_region_flow (C := C) (by kernel_rfl) (by kernel_rfl) (fun L hL => (HC.out _ _).2 (InF.start (by first | (intro _ hs; cases hs; done) | (simp only [List.forall_mem_cons]; go_simp)) (by first | (intro _ hs; cases hs; done) | (simp only [List.forall_mem_cons]; go_simp)) (by first | (intro _ hs; cases hs; done) | (simp only [List.forall_mem_cons]; go_simp)) (by first | (intro _ hs; cases hs; done) | (simp only [List.forall_mem_cons]; go_simp)) L hL)) ?_
          repeat (first | (apply flow_free rfl; (intro L w' hun hrd hC; have hC := (HC.out _ _).1 hC; have hb' := hC.below; (try have hw' : Below w.heap.size w w' := by first | exact Below.trans (by (repeat (first | with_reducible exact Below.refl _ _ | with_reducible assumption | with_reducible refine Below.al ?_ _ | with_reducible refine Below.sc ?_ (by first | exact Nat.le_refl _ | (simp; done) | (simp; omega)) _ | assumption | exact Below.refl _ _ | refine Below.dr ?_ | refine Below.drN ?_ _ | refine Below.step ?_ (by assumption)))) hb' | ((repeat (first | with_reducible exact Below.refl _ _ | with_reducible assumption | with_reducible refine Below.al ?_ _ | with_reducible refine Below.sc ?_ (by first | exact Nat.le_refl _ | (simp; done) | (simp; omega)) _ | assumption | exact Below.refl _ _ | refine Below.dr ?_ | refine Below.drN ?_ _ | refine Below.step ?_ (by assumption))); done)); have hf' := hC.cell; (try simp only [List.forall_mem_cons] at hf'); go_simp; first | exact ⟨(HC.out _ _).2 (hC.skip _ (by rfl)), rfl⟩ | (rw [if_neg]; (exact ⟨(HC.out _ _).2 (hC.skip _ (by rfl)), rfl⟩); omega) | (go_at_call 76; refine (HSY.out _).mono ?_; rintro e w1 ⟨rfl, hb1⟩; exact ⟨rfl, (HC.out _ _).2 ((hC.next (by first | (simp; done) | (simp; omega) | omega) hb1).skip _ (by rfl))⟩)); go_simp) | (apply flow_yes; (case hw => go_simp); (intro L w' hun hrd hC; have hC := (HC.out _ _).1 hC; have hb' := hC.below; (try have hw' : Below w.heap.size w w' := by first | exact Below.trans (by (repeat (first | with_reducible exact Below.refl _ _ | with_reducible assumption | with_reducible refine Below.al ?_ _ | with_reducible refine Below.sc ?_ (by first | exact Nat.le_refl _ | (simp; done) | (simp; omega)) _ | assumption | exact Below.refl _ _ | refine Below.dr ?_ | refine Below.drN ?_ _ | refine Below.step ?_ (by assumption)))) hb' | ((repeat (first | with_reducible exact Below.refl _ _ | with_reducible assumption | with_reducible refine Below.al ?_ _ | with_reducible refine Below.sc ?_ (by first | exact Nat.le_refl _ | (simp; done) | (simp; omega)) _ | assumption | exact Below.refl _ _ | refine Below.dr ?_ | refine Below.drN ?_ _ | refine Below.step ?_ (by assumption))); done)); have hf' := hC.cell; (try simp only [List.forall_mem_cons] at hf'); go_simp; first | exact ⟨(HC.out _ _).2 (hC.skip _ (by rfl)), rfl⟩ | (rw [if_neg]; (exact ⟨(HC.out _ _).2 (hC.skip _ (by rfl)), rfl⟩); omega) | (go_at_call 76; refine (HSY.out _).mono ?_; rintro e w1 ⟨rfl, hb1⟩; exact ⟨rfl, (HC.out _ _).2 ((hC.next (by first | (simp; done) | (simp; omega) | omega) hb1).skip _ (by rfl))⟩)); go_simp) | (apply flow_no; (case hw => (go_simp; try (intro hh; cases hh))); (intro L w' _ _ hC; exact (HC.out _ _).2 (((HC.out _ _).1 hC).skip _ (by rfl))); go_simp))
          refine flow_nil ?_
          intro L wz hL hz
          have hz := (HC.out _ _).1 hz
          have hbz := hz.below
          have hcz := hz.cell
          try simp only [List.forall_mem_cons] at hcz
          have hdz := hz.done
          try simp only [List.forall_mem_cons] at hdz
          (try have hwz : Below w.heap.size w wz := by first | exact Below.trans (by (repeat (first | with_reducible exact Below.refl _ _ | with_reducible assumption | with_reducible refine Below.al ?_ _ | with_reducible refine Below.sc ?_ (by first | exact Nat.le_refl _ | (simp; done) | (simp; omega)) _ | assumption | exact Below.refl _ _ | refine Below.dr ?_ | refine Below.drN ?_ _ | refine Below.step ?_ (by assumption)))) hbz | ((repeat (first | with_reducible exact Below.refl _ _ | with_reducible assumption | with_reducible refine Below.al ?_ _ | with_reducible refine Below.sc ?_ (by first | exact Nat.le_refl _ | (simp; done) | (simp; omega)) _ | assumption | exact Below.refl _ _ | refine Below.dr ?_ | refine Below.drN ?_ _ | refine Below.step ?_ (by assumption))); done))
          go_wp2
        all_goals first
          | (refine ⟨⟨k + 1, by omega, by go_num, ?_, HUB.out.later hbz⟩, by simp [intOf]; omega⟩; rw [HE.out, HD.out, HY.out, HP.out, ascS, HLS.out]; rfl)
          | (go_ret; exact ⟨ret_bool (by rw [HG2.out, HE.out, HD.out, HY.out, HP.out, ascS, HLS.out]; rfl), by (repeat (first | with_reducible exact Below.refl _ _ | with_reducible assumption | with_reducible refine Below.al ?_ _ | with_reducible refine Below.sc ?_ (by first | exact Nat.le_refl _ | (simp; done) | (simp; omega)) _ | assumption | exact Below.refl _ _ | refine Below.dr ?_ | refine Below.drN ?_ _ | refine Below.step ?_ (by assumption)))⟩)
    · obtain rfl : k = u.incs.length := by omega
      have he := HE.out
      rw [List.drop_length, namesF] at he
      have HG3 := Lib.hid (show u.good = (u.axs.all unitTxt && (u.goal.data.toList == [] || unitTxt u.goal)) by rw [HG2.out, he, Bool.true_and])
      clear he HE
      go_wp2
      go_loopw [4] (fun i wr => ∃ k : Nat, k ≤ u.axs.length ∧ i = .int .i64 k ∧ u.axs.all unitTxt = (u.axs.drop k).all unitTxt ∧ UBox u p q c d w wr) (fun i _ => u.axs.length - (intOf i).toNat)
      case atStart => exact ⟨0, Nat.zero_le _, rfl, rfl, HUB.out⟩
      case round =>
        clear HUB x0 x1 x2 x3 zub hb
        obtain ⟨k, hk, rfl, he, hub⟩ := hrel
        have HE := Lib.hid he
        have HUB := Lib.hid hub
        have hb := hub.bel
        have hqz := hb.size
        obtain ⟨x0, x1, x2, x3⟩ := hub.cells
        have zub := bsz (heap_lt hub.cell)
        clear he hub
        by_cases hlt : k < u.axs.length
        · obtain ⟨b, o, rfl, hB, hx0, hxs⟩ := (HA.out.below hb).at_ hlt
          have HD := Lib.hid (all_drop u.axs unitTxt hlt)
          have hza := HZ.out _ (List.getElem_mem hlt)
          obtain ⟨a, hae⟩ : ∃ a, u.axs[k] = a := ⟨_, rfl⟩
          rw [hae] at hx0 hxs HD hza
          clear hae
          have zb := bsz (World.block_lt_of_cell? _ _ hx0)
          cases hN : unitTxt a
          all_goals
            have HN := Lib.hid hN
            clear hN
            go_wp2_with fail
            refine (l27Text_any a _ hza).mono ?_
            rintro e w1 ⟨rfl, hb1⟩
            have ⟨cw1, fw1⟩ := bcell hb1
            have qw1 := hb1.size
            (try simp at qw1)
            (try have zw1w := bsz (show w.heap.size < w1.heap.size by omega))
            rw [HN.out]
            go_wp2
          · go_ret
            exact ⟨ret_bool (by rw [HG3.out, HE.out, HD.out, HN.out]; rfl), by (repeat (first | with_reducible exact Below.refl _ _ | with_reducible assumption | with_reducible refine Below.al ?_ _ | with_reducible refine Below.sc ?_ (by first | exact Nat.le_refl _ | (simp; done) | (simp; omega)) _ | assumption | exact Below.refl _ _ | refine Below.dr ?_ | refine Below.drN ?_ _ | refine Below.step ?_ (by assumption)))⟩
          · refine ⟨⟨k + 1, by omega, by go_num, ?_, HUB.out.later hb1⟩, by simp [intOf]; omega⟩
            rw [HE.out, HD.out, HN.out]; rfl
        · obtain rfl : k = u.axs.length := by omega
          have he := HE.out
          rw [List.drop_length, List.all_nil] at he
          have HG4 := Lib.hid (show u.good = (u.goal.data.toList == [] || unitTxt u.goal) by rw [HG3.out, he, Bool.true_and])
          clear he HE
          cases h6 : (u.goal.toList == [])
          case true =>
            have H6 := Lib.hid h6
            go_wp2
            go_ret
            exact ⟨ret_bool (by rw [HG4.out, ← ByteArray.toList_eq, H6.out]; rfl), by (repeat (first | with_reducible exact Below.refl _ _ | with_reducible assumption | with_reducible refine Below.al ?_ _ | with_reducible refine Below.sc ?_ (by first | exact Nat.le_refl _ | (simp; done) | (simp; omega)) _ | assumption | exact Below.refl _ _ | refine Below.dr ?_ | refine Below.drN ?_ _ | refine Below.step ?_ (by assumption)))⟩
          have H6 := Lib.hid h6
          go_wp2_with fail
          refine (l27Text_any u.goal _ hgz).mono ?_
          rintro e w1 ⟨rfl, hb1⟩
          have ⟨cw1, fw1⟩ := bcell hb1
          have qw1 := hb1.size
          (try simp at qw1)
          (try have zw1w := bsz (show w.heap.size < w1.heap.size by omega))
          go_wp2
          go_ret
          exact ⟨ret_bool (by rw [HG4.out, ← ByteArray.toList_eq, H6.out]; rfl), by (repeat (first | with_reducible exact Below.refl _ _ | with_reducible assumption | with_reducible refine Below.al ?_ _ | with_reducible refine Below.sc ?_ (by first | exact Nat.le_refl _ | (simp; done) | (simp; omega)) _ | assumption | exact Below.refl _ _ | refine Below.dr ?_ | refine Below.drN ?_ _ | refine Below.step ?_ (by assumption)))⟩
end Go.Proofs.YtimpkjiglioflaaGreatDoor
namespace Go.Proofs.YtimpkjiglioflaaGreatDoor
open Go.RowKit
def kwUnit : List UInt8 := [117, 110, 105, 116, 32]
def kwInc : List UInt8 := [105, 110, 99, 108, 117, 100, 101, 32]
def kwAx : List UInt8 := [97, 120, 105, 111, 109, 32]
def kwGoal : List UInt8 := [103, 111, 97, 108, 32]
def lineU (k : List UInt8) (s : ByteArray) : List UInt8 := k ++ s.data.toList ++ [10]
def linesU (k : List UInt8) (us : List ByteArray) : List UInt8 := us.flatMap (lineU k)
def Un.txt (u : Un) : List UInt8 := lineU kwUnit u.name ++ linesU kwInc u.incs ++ linesU kwAx u.axs ++ (if u.goal.toList == [] then [] else lineU kwGoal u.goal)
theorem linesU_len (k : List UInt8) : ∀ us : List ByteArray, (linesU k us).length = (k.length + 1) * us.length + wtS us
  | [] => by simp [linesU, wtS]
  | a :: us => by
    have := linesU_len k us
    rw [linesU] at this
    rw [linesU, List.flatMap_cons, List.length_append, this, lineU, wtS, List.length_append, List.length_append, ← size_list]
    simp only [List.length_cons, List.length_nil, Nat.mul_succ]; omega
theorem linesU_take (k : List UInt8) {us : List ByteArray} {i : Nat} (h : i < us.length) : linesU k (us.take (i + 1)) = linesU k (us.take i) ++ lineU k us[i] := by
  rw [List.take_succ_eq_append_getElem h, linesU, linesU, List.flatMap_append]; simp
theorem wtS_take : ∀ (us : List ByteArray) (i : Nat), wtS (us.take i) ≤ wtS us
  | [], i => by simp [wtS]
  | a :: us, 0 => by simp [wtS]
  | a :: us, i + 1 => by have := wtS_take us i; rw [List.take_succ_cons, wtS, wtS]; omega
theorem linesU_bd {k : List UInt8} {us : List ByteArray} {i N : Nat} (hk : k.length = N) (h : i < us.length) : (linesU k (us.take i)).length + us[i].size ≤ (N + 1) * us.length + wtS us := by
  have h1 := linesU_len k (us.take (i + 1))
  rw [linesU_take k h, List.length_append, lineU, List.length_append, List.length_append, ← size_list, hk] at h1
  have h2 := wtS_take us (i + 1)
  have h3 : (us.take (i + 1)).length ≤ us.length := by rw [List.length_take]; omega
  have h4 : (N + 1) * (us.take (i + 1)).length ≤ (N + 1) * us.length := Nat.mul_le_mul_left _ h3
  omega
theorem Un.wt_eq (u : Un) : u.wt = u.name.size + (u.incs.length + wtS u.incs) + (u.axs.length + wtS u.axs) + u.goal.size := rfl
set_option maxRecDepth 100000 in
set_option maxHeartbeats 3200000 in
theorem formatUnit_any {B : Nat → Prop} (u : Un) (v0 v1 v2 v3 : Value) (w : World) (h : UnAt B w u [v0, v1, v2, v3]) (hw : u.wt ≤ 1000000000000) :
    Calls Tryz.prog 49 #[.agg #[v0, v1, v2, v3]] w fun e w' => e = .returned (.string ⟨u.txt.toArray⟩) ∧ Below w.heap.size w w' := by
  obtain ⟨p, c, q, d, rfl, rfl, rfl, rfl, hn, hg, l1, l2, hi, ha⟩ := h.form
  unfold maxLen at l1 l2
  have HI := Lib.hid hi
  have HA := Lib.hid ha
  have HU0 := Lib.hid (show UBox u p q c d w (w.alloc (.cells #[.string u.name, .slice p u.incs.length c, .slice q u.axs.length d, .string u.goal] 24)) from ⟨(Below.refl _ _).alloc (Nat.le_refl _) _, heap_alloc_new w _⟩)
  have HW := Lib.hid u.wt_eq
  have hns : u.name.size ≤ 1000000000000 := by have := u.wt_eq; omega
  have hgs : u.goal.size ≤ 1000000000000 := by have := u.wt_eq; omega
  clear h hi ha
  go_enter Tryz.func49, Tryz.ntmps49
  go_wp2
  go_loopw [3, 15] (fun o i wr => ∃ k : Nat, k ≤ u.incs.length ∧ i = .int .i64 k ∧ o = .string ⟨(lineU kwUnit u.name ++ linesU kwInc (u.incs.take k)).toArray⟩ ∧ UBox u p q c d w wr) (fun _ i _ => u.incs.length - (intOf i).toNat)
  case atStart => exact ⟨0, Nat.zero_le _, rfl, congrArg Value.string (by apply ByteArray.ext; simp [lineU, kwUnit, linesU]), HU0.out⟩
  case round =>
    obtain ⟨k, hk, rfl, rfl, hub⟩ := hrel
    have HUB := Lib.hid hub
    have hb := hub.bel
    have hqz := hb.size
    obtain ⟨x0, x1, x2, x3⟩ := hub.cells
    have zub := bsz (heap_lt hub.cell)
    clear hub HU0
    by_cases hlt : k < u.incs.length
    · obtain ⟨b, o, rfl, hB, hx0, hxs⟩ := (HI.out.below hb).at_ hlt
      have HT := Lib.hid (linesU_take kwInc hlt)
      have hbd := linesU_bd (k := kwInc) (N := 8) rfl hlt
      obtain ⟨a, hae⟩ : ∃ a, u.incs[k] = a := ⟨_, rfl⟩
      rw [hae] at hx0 hxs HT hbd
      clear hae
      have zb := bsz (World.block_lt_of_cell? _ _ hx0)
      have hss : (lineU kwUnit u.name).length = 6 + u.name.size := by rw [lineU, List.length_append, List.length_append, ← size_list, kwUnit]; simp only [List.length_cons, List.length_nil]; omega
      have hll : (lineU kwUnit u.name ++ linesU kwInc (u.incs.take k)).length + a.size ≤ 20000000000000 := by
        rw [List.length_append, hss]
        have := HW.out
        omega
      generalize linesU kwInc (u.incs.take k) = L at *
      have hgd : ¬ 9223372036854775807 < 6 + u.name.size + L.length + (8 + a.size + 1) := by rw [List.length_append, hss] at hll; omega
      go_wp2
      refine ⟨⟨k + 1, by omega, by go_num, ?_, HUB.out⟩, by simp [intOf]; omega⟩
      rw [HT.out]
      exact congrArg Value.string (by apply ByteArray.ext; simp [lineU, kwInc])
    · obtain rfl : k = u.incs.length := by omega
      have hA : (lineU kwUnit u.name ++ linesU kwInc (u.incs.take u.incs.length)).length ≤ 10 * u.wt + 10 := by
        rw [List.take_length, List.length_append, linesU_len, lineU, List.length_append, List.length_append, ← size_list, kwUnit, kwInc]
        simp only [List.length_cons, List.length_nil]
        have := HW.out
        omega
      have HTX := Lib.hid (show u.txt = lineU kwUnit u.name ++ linesU kwInc (u.incs.take u.incs.length) ++ linesU kwAx u.axs ++ (if u.goal.toList == [] then [] else lineU kwGoal u.goal) by rw [List.take_length]; rfl)
      generalize lineU kwUnit u.name ++ linesU kwInc (u.incs.take u.incs.length) = A at *
      go_wp2
      go_loopw [3, 28] (fun o i wr => ∃ k : Nat, k ≤ u.axs.length ∧ i = .int .i64 k ∧ o = .string ⟨(A ++ linesU kwAx (u.axs.take k)).toArray⟩ ∧ UBox u p q c d w wr) (fun _ i _ => u.axs.length - (intOf i).toNat)
      case atStart => exact ⟨0, Nat.zero_le _, rfl, congrArg Value.string (by apply ByteArray.ext; simp [linesU]), HUB.out⟩
      case round =>
        clear HUB x0 x1 x2 x3 zub hb
        obtain ⟨k, hk, rfl, rfl, hub⟩ := hrel
        have HUB := Lib.hid hub
        have hb := hub.bel
        have hqz := hb.size
        obtain ⟨x0, x1, x2, x3⟩ := hub.cells
        have zub := bsz (heap_lt hub.cell)
        clear hub
        by_cases hlt : k < u.axs.length
        · obtain ⟨b, o, rfl, hB, hx0, hxs⟩ := (HA.out.below hb).at_ hlt
          have HT := Lib.hid (linesU_take kwAx hlt)
          have hbd := linesU_bd (k := kwAx) (N := 6) rfl hlt
          obtain ⟨a, hae⟩ : ∃ a, u.axs[k] = a := ⟨_, rfl⟩
          rw [hae] at hx0 hxs HT hbd
          clear hae
          have zb := bsz (World.block_lt_of_cell? _ _ hx0)
          generalize linesU kwAx (u.axs.take k) = L at *
          have hgd : ¬ 9223372036854775807 < A.length + L.length + (6 + a.size + 1) := by have := HW.out; omega
          go_wp2
          refine ⟨⟨k + 1, by omega, by go_num, ?_, HUB.out⟩, by simp [intOf]; omega⟩
          rw [HT.out]
          exact congrArg Value.string (by apply ByteArray.ext; simp [lineU, kwAx])
        · obtain rfl : k = u.axs.length := by omega
          have hL : (linesU kwAx (u.axs.take u.axs.length)).length ≤ 10 * u.wt := by
            rw [List.take_length, linesU_len, kwAx]
            simp only [List.length_cons, List.length_nil]
            have := HW.out
            omega
          have HTX2 := Lib.hid (show u.txt = A ++ linesU kwAx (u.axs.take u.axs.length) ++ (if u.goal.toList == [] then [] else lineU kwGoal u.goal) by rw [List.take_length]; exact HTX.out)
          generalize linesU kwAx (u.axs.take u.axs.length) = L at *
          have hgd : ¬ 9223372036854775807 < A.length + L.length + (5 + u.goal.size + 1) := by have := HW.out; omega
          cases h6 : (u.goal.toList == [])
          all_goals
            have H6 := Lib.hid h6
            go_wp2
            go_ret
          · exact ⟨by rw [HTX2.out, H6.out, if_neg (by simp)]; exact congrArg (fun x => Ending.returned (Value.string x)) (by apply ByteArray.ext; simp [lineU, kwGoal]), by (repeat (first | with_reducible exact Below.refl _ _ | with_reducible assumption | with_reducible refine Below.al ?_ _ | with_reducible refine Below.sc ?_ (by first | exact Nat.le_refl _ | (simp; done) | (simp; omega)) _ | assumption | exact Below.refl _ _ | refine Below.dr ?_ | refine Below.drN ?_ _ | refine Below.step ?_ (by assumption)))⟩
          · exact ⟨by rw [HTX2.out, H6.out, if_pos rfl, List.append_nil]; rfl, by (repeat (first | with_reducible exact Below.refl _ _ | with_reducible assumption | with_reducible refine Below.al ?_ _ | with_reducible refine Below.sc ?_ (by first | exact Nat.le_refl _ | (simp; done) | (simp; omega)) _ | assumption | exact Below.refl _ _ | refine Below.dr ?_ | refine Below.drN ?_ _ | refine Below.step ?_ (by assumption)))⟩
set_option maxRecDepth 100000 in
set_option maxHeartbeats 3200000 in
theorem l27Lines_any {B : Nat → Prop} (u : Un) (v0 v1 v2 v3 : Value) (w : World) (h : UnAt B w u [v0, v1, v2, v3]) (hw : u.wt ≤ 1000000000000) :
    Calls Tryz.prog 45 #[.agg #[v0, v1, v2, v3]] w fun e w' => e = .returned (.string ⟨u.txt.toArray⟩) ∧ Below w.heap.size w w' := by
  obtain ⟨p, c, q, d, rfl, rfl, rfl, rfl, hn, hg, l1, l2, hi, ha⟩ := h.form
  unfold maxLen at l1 l2
  have HI := Lib.hid hi
  have HA := Lib.hid ha
  have HU0 := Lib.hid (show UBox u p q c d w (w.alloc (.cells #[.string u.name, .slice p u.incs.length c, .slice q u.axs.length d, .string u.goal] 24)) from ⟨(Below.refl _ _).alloc (Nat.le_refl _) _, heap_alloc_new w _⟩)
  have HW := Lib.hid u.wt_eq
  have hns : u.name.size ≤ 1000000000000 := by have := u.wt_eq; omega
  have hgs : u.goal.size ≤ 1000000000000 := by have := u.wt_eq; omega
  clear h hi ha
  go_enter Tryz.func45, Tryz.ntmps45
  go_wp2
  go_loopw [3, 4] (fun o i wr => ∃ k : Nat, k ≤ u.incs.length ∧ i = .int .i64 k ∧ o = .string ⟨(lineU kwUnit u.name ++ linesU kwInc (u.incs.take k)).toArray⟩ ∧ UBox u p q c d w wr) (fun _ i _ => u.incs.length - (intOf i).toNat)
  case atStart => exact ⟨0, Nat.zero_le _, rfl, congrArg Value.string (by apply ByteArray.ext; simp [lineU, kwUnit, linesU]), HU0.out⟩
  case round =>
    obtain ⟨k, hk, rfl, rfl, hub⟩ := hrel
    have HUB := Lib.hid hub
    have hb := hub.bel
    have hqz := hb.size
    obtain ⟨x0, x1, x2, x3⟩ := hub.cells
    have zub := bsz (heap_lt hub.cell)
    clear hub HU0
    by_cases hlt : k < u.incs.length
    · obtain ⟨b, o, rfl, hB, hx0, hxs⟩ := (HI.out.below hb).at_ hlt
      have HT := Lib.hid (linesU_take kwInc hlt)
      have hbd := linesU_bd (k := kwInc) (N := 8) rfl hlt
      obtain ⟨a, hae⟩ : ∃ a, u.incs[k] = a := ⟨_, rfl⟩
      rw [hae] at hx0 hxs HT hbd
      clear hae
      have zb := bsz (World.block_lt_of_cell? _ _ hx0)
      have hss : (lineU kwUnit u.name).length = 6 + u.name.size := by rw [lineU, List.length_append, List.length_append, ← size_list, kwUnit]; simp only [List.length_cons, List.length_nil]; omega
      generalize linesU kwInc (u.incs.take k) = L at *
      generalize lineU kwUnit u.name = A at *
      have hgd : ¬ 9223372036854775807 < A.length + L.length + 8 := by have := HW.out; omega
      have hge : ¬ 9223372036854775807 < A.length + L.length + 8 + a.size := by have := HW.out; omega
      have hgf : ¬ 9223372036854775807 < A.length + L.length + 8 + a.size + 1 := by have := HW.out; omega
      go_wp2
      refine ⟨⟨k + 1, by omega, by go_num, ?_, HUB.out⟩, by simp [intOf]; omega⟩
      rw [HT.out]
      exact congrArg Value.string (by apply ByteArray.ext; simp [lineU, kwInc])
    · obtain rfl : k = u.incs.length := by omega
      have hA : (lineU kwUnit u.name ++ linesU kwInc (u.incs.take u.incs.length)).length ≤ 10 * u.wt + 10 := by
        rw [List.take_length, List.length_append, linesU_len, lineU, List.length_append, List.length_append, ← size_list, kwUnit, kwInc]
        simp only [List.length_cons, List.length_nil]
        have := HW.out
        omega
      have HTX := Lib.hid (show u.txt = lineU kwUnit u.name ++ linesU kwInc (u.incs.take u.incs.length) ++ linesU kwAx u.axs ++ (if u.goal.toList == [] then [] else lineU kwGoal u.goal) by rw [List.take_length]; rfl)
      generalize lineU kwUnit u.name ++ linesU kwInc (u.incs.take u.incs.length) = A at *
      go_wp2
      go_loopw [3, 5] (fun o i wr => ∃ k : Nat, k ≤ u.axs.length ∧ i = .int .i64 k ∧ o = .string ⟨(A ++ linesU kwAx (u.axs.take k)).toArray⟩ ∧ UBox u p q c d w wr) (fun _ i _ => u.axs.length - (intOf i).toNat)
      case atStart => exact ⟨0, Nat.zero_le _, rfl, congrArg Value.string (by apply ByteArray.ext; simp [linesU]), HUB.out⟩
      case round =>
        clear HUB x0 x1 x2 x3 zub hb
        obtain ⟨k, hk, rfl, rfl, hub⟩ := hrel
        have HUB := Lib.hid hub
        have hb := hub.bel
        have hqz := hb.size
        obtain ⟨x0, x1, x2, x3⟩ := hub.cells
        have zub := bsz (heap_lt hub.cell)
        clear hub
        by_cases hlt : k < u.axs.length
        · obtain ⟨b, o, rfl, hB, hx0, hxs⟩ := (HA.out.below hb).at_ hlt
          have HT := Lib.hid (linesU_take kwAx hlt)
          have hbd := linesU_bd (k := kwAx) (N := 6) rfl hlt
          obtain ⟨a, hae⟩ : ∃ a, u.axs[k] = a := ⟨_, rfl⟩
          rw [hae] at hx0 hxs HT hbd
          clear hae
          have zb := bsz (World.block_lt_of_cell? _ _ hx0)
          generalize linesU kwAx (u.axs.take k) = L at *
          have hgd : ¬ 9223372036854775807 < A.length + L.length + 6 := by have := HW.out; omega
          have hge : ¬ 9223372036854775807 < A.length + L.length + 6 + a.size := by have := HW.out; omega
          have hgf : ¬ 9223372036854775807 < A.length + L.length + 6 + a.size + 1 := by have := HW.out; omega
          go_wp2
          refine ⟨⟨k + 1, by omega, by go_num, ?_, HUB.out⟩, by simp [intOf]; omega⟩
          rw [HT.out]
          exact congrArg Value.string (by apply ByteArray.ext; simp [lineU, kwAx])
        · obtain rfl : k = u.axs.length := by omega
          have hL : (linesU kwAx (u.axs.take u.axs.length)).length ≤ 10 * u.wt := by
            rw [List.take_length, linesU_len, kwAx]
            simp only [List.length_cons, List.length_nil]
            have := HW.out
            omega
          have HTX2 := Lib.hid (show u.txt = A ++ linesU kwAx (u.axs.take u.axs.length) ++ (if u.goal.toList == [] then [] else lineU kwGoal u.goal) by rw [List.take_length]; exact HTX.out)
          generalize linesU kwAx (u.axs.take u.axs.length) = L at *
          have hgd : ¬ 9223372036854775807 < A.length + L.length + 5 := by have := HW.out; omega
          have hge : ¬ 9223372036854775807 < A.length + L.length + 5 + u.goal.size := by have := HW.out; omega
          have hgf : ¬ 9223372036854775807 < A.length + L.length + 5 + u.goal.size + 1 := by have := HW.out; omega
          cases h6 : (u.goal.toList == [])
          all_goals
            have H6 := Lib.hid h6
            go_wp2
            go_ret
          · exact ⟨by rw [HTX2.out, H6.out, if_neg (by simp)]; exact congrArg (fun x => Ending.returned (Value.string x)) (by apply ByteArray.ext; simp [lineU, kwGoal]), by (repeat (first | with_reducible exact Below.refl _ _ | with_reducible assumption | with_reducible refine Below.al ?_ _ | with_reducible refine Below.sc ?_ (by first | exact Nat.le_refl _ | (simp; done) | (simp; omega)) _ | assumption | exact Below.refl _ _ | refine Below.dr ?_ | refine Below.drN ?_ _ | refine Below.step ?_ (by assumption)))⟩
          · exact ⟨by rw [HTX2.out, H6.out, if_pos rfl, List.append_nil]; rfl, by (repeat (first | with_reducible exact Below.refl _ _ | with_reducible assumption | with_reducible refine Below.al ?_ _ | with_reducible refine Below.sc ?_ (by first | exact Nat.le_refl _ | (simp; done) | (simp; omega)) _ | assumption | exact Below.refl _ _ | refine Below.dr ?_ | refine Below.drN ?_ _ | refine Below.step ?_ (by assumption)))⟩
end Go.Proofs.YtimpkjiglioflaaGreatDoor
namespace Go.Proofs.YtimpkjiglioflaaGreatDoor
open Go.RowKit
theorem hasB_cons (a : UInt8) (b : List UInt8) (x : UInt8) : hasB (a :: b) x = ((a == x) || hasB b x) := by simp [hasB]
end Go.Proofs.YtimpkjiglioflaaGreatDoor
namespace Go.Proofs.YtimpkjiglioflaaGreatDoor
open Go.RowKit
/-- A text cut at a byte's first place. -/
def cut1 : List UInt8 → UInt8 → List UInt8 × List UInt8 × Bool
  | [], _ => ([], [], false)
  | x :: l, b => if x == b then ([], l, true) else (x :: (cut1 l b).1, (cut1 l b).2.1, (cut1 l b).2.2)
theorem cut_one (l : List UInt8) (b : UInt8) : Lib.cut l [b] = cut1 l b := by
  induction l with
  | nil => simp [Lib.cut, Lib.index, cut1]
  | cons x l ih =>
    have h1 := Lib.index_ge l [b]
    by_cases hx : (x == b) = true
    · have : x = b := by simpa using hx
      subst this
      simp [Lib.cut, Lib.index, cut1]
    · have hp : [b].isPrefixOf (x :: l) = false := by
        simp only [List.isPrefixOf, Bool.and_true, beq_eq_false_iff_ne]
        intro e; exact hx (by simp [e])
      have e : Lib.index (x :: l) [b] = if Lib.index l [b] = -1 then -1 else Lib.index l [b] + 1 := by rw [Lib.index, hp]; simp
      unfold Lib.cut at ih ⊢
      rw [cut1, ← ih, if_neg hx, e]
      by_cases h2 : Lib.index l [b] = -1
      · rw [h2]; rfl
      · rw [if_neg h2, if_pos (by omega), if_pos (by omega)]
        have e2 : (Lib.index l [b] + 1).toNat = (Lib.index l [b]).toNat + 1 := by omega
        rw [e2]
        simp []
theorem cut1_yes (a t : List UInt8) (b : UInt8) (h : hasB a b = false) : cut1 (a ++ b :: t) b = (a, t, true) := by
  induction a with
  | nil => simp [cut1]
  | cons x a ih =>
    rw [hasB_cons, Bool.or_eq_false_iff] at h
    rw [List.cons_append, cut1, if_neg (by simp [h.1]), ih h.2]
theorem cut1_found (l : List UInt8) (b : UInt8) : (cut1 l b).2.2 = true → l = (cut1 l b).1 ++ b :: (cut1 l b).2.1 := by
  induction l with
  | nil => simp [cut1]
  | cons x l ih =>
    rw [cut1]
    by_cases hx : (x == b) = true
    · rw [if_pos hx]; intro _; simpa using hx
    · rw [if_neg hx]; intro h; simp only [List.cons_append]; rw [← ih h]
theorem cut1_lost (l : List UInt8) (b : UInt8) : (cut1 l b).2.2 = false → cut1 l b = (l, [], false) := by
  induction l with
  | nil => simp [cut1]
  | cons x l ih =>
    rw [cut1]
    by_cases hx : (x == b) = true
    · rw [if_pos hx]; intro h; cases h
    · rw [if_neg hx]; intro h; simp only at h; rw [ih h]
/-- The parts of a text, against its first cut. -/
theorem splitP_append (b : UInt8) (l : List UInt8) : ∀ st : List (List UInt8) × List UInt8, (l.foldl (splitSt b) st).1 ++ [(l.foldl (splitSt b) st).2] = st.1 ++ (match splitF l b with | [] => [] | p :: ps => (st.2 ++ p) :: ps) := by
  induction l with
  | nil => intro st; simp [splitF, splitP]
  | cons c l ih =>
    intro st
    have h3 : splitF (c :: l) b = (splitSt b ([], []) c).1 ++ (match splitF l b with | [] => [] | p :: ps => ((splitSt b ([], []) c).2 ++ p) :: ps) := by
      rw [splitF, splitP, List.foldl_cons]; exact ih _
    rw [List.foldl_cons, ih, h3]
    by_cases hc : (c == b) = true
    · simp [splitSt, hc]
    · simp only [Bool.not_eq_true] at hc
      simp only [splitSt, hc, Bool.false_eq_true, if_false, List.nil_append]
      cases splitF l b <;> simp
theorem splitF_cons (c : UInt8) (l : List UInt8) (b : UInt8) : splitF (c :: l) b = if c == b then [] :: splitF l b else match splitF l b with | [] => [] | p :: ps => (c :: p) :: ps := by
  rw [splitF, splitP, List.foldl_cons, splitP_append]
  by_cases hc : (c == b) = true
  · simp [splitSt, hc]
    cases splitF l b <;> simp
  · simp only [Bool.not_eq_true] at hc
    simp only [splitSt, hc, Bool.false_eq_true, if_false, List.nil_append]
    cases splitF l b <;> simp
theorem splitF_ne (l : List UInt8) (b : UInt8) : 0 < (splitF l b).length := by simp [splitF]
/-! ### Records -/
/-! ### Valid logs, both ways -/
end Go.Proofs.YtimpkjiglioflaaGreatDoor
namespace Go.Proofs.YtimpkjiglioflaaGreatDoor
open Go.RowKit
def baL (l : List UInt8) : ByteArray := ⟨l.toArray⟩
theorem baL_of (x : ByteArray) : baL x.data.toList = x := by rw [baL]
theorem baL_size (l : List UInt8) : (baL l).size = l.length := by rw [size_list]; rfl
theorem baL_list (l : List UInt8) : (baL l).data.toList = l := rfl
theorem split_cut (b : UInt8) : ∀ l : List UInt8, splitF l b = (cut1 l b).1 :: (if (cut1 l b).2.2 then splitF (cut1 l b).2.1 b else [])
  | [] => rfl
  | x :: l => by
    rw [splitF_cons, cut1]
    by_cases h : (x == b) = true
    · rw [if_pos h, if_pos h]; rfl
    · rw [if_neg h, if_neg h, split_cut b l]
theorem index_cut (b : UInt8) : ∀ l : List UInt8, Lib.indexByte l b = if (cut1 l b).2.2 then ((cut1 l b).1.length : Int) else -1
  | [] => rfl
  | x :: l => by
    rw [Lib.indexByte, cut1, index_cut b l]
    by_cases h : (x == b) = true
    · rw [if_pos h, if_pos h]; rfl
    · rw [if_neg h, if_neg h]
      cases hc : (cut1 l b).2.2
      · simp
      · have : ¬ (((cut1 l b).1.length : Int) == -1) = true := by simp <;> omega
        simp only [if_true, if_neg this]
        simp
theorem count_split (b : UInt8) : ∀ l : List UInt8, (splitF l b).length = Lib.countByte l b + 1
  | [] => rfl
  | x :: l => by
    have ih := count_split b l
    rw [splitF_cons, Lib.countByte, List.count_cons]
    rw [Lib.countByte] at ih
    by_cases h : (x == b) = true
    · rw [if_pos h, if_pos h, List.length_cons, ih]
    · rw [if_neg h, if_neg h]
      cases hs : splitF l b with
      | nil => have := splitF_ne l b; rw [hs] at this; simp at this
      | cons p ps => rw [hs] at ih; simpa using ih
theorem split_two {l : List UInt8} {b : UInt8} (h : 2 ≤ (splitF l b).length) : (cut1 l b).2.2 = true ∧ l = (cut1 l b).1 ++ b :: (cut1 l b).2.1 ∧ splitF l b = (cut1 l b).1 :: splitF (cut1 l b).2.1 b := by
  have hc := split_cut b l
  cases hf : (cut1 l b).2.2 with
  | false => rw [hc, hf] at h; simp at h
  | true => rw [hf, if_pos rfl] at hc; exact ⟨rfl, cut1_found l b hf, hc⟩
theorem split_one {l : List UInt8} {b : UInt8} (h : (splitF l b).length = 1) : splitF l b = [l] := by
  have hc := split_cut b l
  cases hf : (cut1 l b).2.2 with
  | false => rw [hf, if_neg (by simp), cut1_lost l b hf] at hc; exact hc
  | true =>
    rw [hf, if_pos rfl] at hc
    rw [hc] at h
    have := splitF_ne (cut1 l b).2.1 b
    simp at h
    rw [h] at this; simp at this
theorem split_drop {L rem : List UInt8} {b : UInt8} {k : Nat} (h : (splitF L b).drop k = splitF rem b) (hk : k + 1 < (splitF L b).length) :
    (cut1 rem b).2.2 = true ∧ rem = (cut1 rem b).1 ++ b :: (cut1 rem b).2.1 ∧ (splitF L b)[k]? = some (cut1 rem b).1 ∧ (splitF L b).drop (k + 1) = splitF (cut1 rem b).2.1 b := by
  have hl : 2 ≤ (splitF rem b).length := by rw [← h, List.length_drop]; omega
  obtain ⟨h1, h2, h3⟩ := split_two hl
  refine ⟨h1, h2, ?_, ?_⟩
  · have : ((splitF L b).drop k)[0]? = some (cut1 rem b).1 := by rw [h, h3]; rfl
    rwa [List.getElem?_drop, Nat.add_zero] at this
  · rw [← List.drop_drop, h, h3]; rfl
theorem split_last {L rem : List UInt8} {b : UInt8} {k : Nat} (h : (splitF L b).drop k = splitF rem b) (hk : k + 1 = (splitF L b).length) : (splitF L b)[k]? = some rem := by
  have hl : (splitF rem b).length = 1 := by rw [← h, List.length_drop]; omega
  have : ((splitF L b).drop k)[0]? = some rem := by rw [h, split_one hl]; rfl
  rwa [List.getElem?_drop, Nat.add_zero] at this
end Go.Proofs.YtimpkjiglioflaaGreatDoor
