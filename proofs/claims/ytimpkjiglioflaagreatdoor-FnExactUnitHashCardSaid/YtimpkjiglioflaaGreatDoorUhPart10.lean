/- Units that own their memory: the laws' copy, their marks, the marks held. Conditions: sizes. -/
import Derived.Laws.Cover1
import Derived.Laws.IdiomStrings
import Derived.Test.YtimpkjiglioflaaGreatDoorUhPart1
import Derived.Test.YtimpkjiglioflaaGreatDoorUhPart5
import Derived.Test.YtimpkjiglioflaaGreatDoorUhPart9
namespace Go.Proofs.YtimpkjiglioflaaGreatDoor
open Go.RowKit
def unitTxt (s : ByteArray) : Bool := pfOk s && decide (s.size ≤ 100)
def lessB (a b : ByteArray) : Bool := Op.bytesLess a.data.toList b.data.toList
def ascS : Option ByteArray → ByteArray → Bool | none, _ => true | some q, a => lessB q a
def namesF : Option ByteArray → List ByteArray → Bool
  | _, [] => true
  | p, a :: us => symB a.data.toList && ascS p a && namesF (some a) us
def prevS (c : List ByteArray) : Nat → Option ByteArray | 0 => none | k + 1 => c[k]?
theorem namesF_drop {c : List ByteArray} {k : Nat} (h : k < c.length) : namesF (prevS c k) (c.drop k) = (symB c[k].data.toList && ascS (prevS c k) c[k] && namesF (prevS c (k + 1)) (c.drop (k + 1))) := by
  rw [List.drop_eq_getElem_cons h, namesF, show prevS c (k + 1) = some c[k] from List.getElem?_eq_getElem h]
theorem prevS_pos {c : List ByteArray} {k : Nat} (h : k < c.length) (hk : 0 < k) : prevS c k = some (c[k - 1]'(by omega)) := by
  cases k with
  | zero => omega
  | succ k => exact List.getElem?_eq_getElem (by omega)
def Un.good (u : Un) : Bool := symB u.name.data.toList && decide (u.incs.length ≤ 12) && namesF none u.incs && decide (u.axs.length ≤ 6) && u.axs.all unitTxt && (u.goal.data.toList == [] || unitTxt u.goal)
theorem less_total : ∀ x y : List UInt8, Op.bytesLess x y = !(Op.bytesLess y x || y == x)
  | [], [] => rfl
  | [], b :: y => by simp [Op.bytesLess]
  | a :: x, [] => by simp [Op.bytesLess]
  | a :: x, b :: y => by
    have ih := less_total x y
    simp only [Op.bytesLess]
    by_cases h1 : a < b
    · have h2 : ¬ b < a := fun h => by have := UInt8.lt_trans h1 h; exact absurd this (UInt8.lt_irrefl _)
      have h3 : ¬ b = a := fun h => by subst h; exact UInt8.lt_irrefl _ h1
      simp [h1, h2, h3]
    · by_cases h2 : b < a
      · have h3 : ¬ a = b := fun h => by subst h; exact UInt8.lt_irrefl _ h2
        simp [h1, h2, h3]
      · have h3 : a = b := UInt8.le_antisymm (UInt8.not_lt.1 h2) (UInt8.not_lt.1 h1)
        subst h3
        simp [UInt8.lt_irrefl, ih]
theorem EtfPost.form {n : Nat} {ok : Bool} {F : Fm} {w w' : World} {e : Ending} (h : EtfPost n ok F w e w') : ∃ op m p k c v q k2 d, e = .returned (.tuple #[.agg #[.int .i64 op, .string m, .slice p k c, .string v, .slice q k2 d], .bool ok]) ∧ Below w.heap.size w w' := by
  obtain ⟨hb, h⟩ := h
  cases ok with
  | true =>
    obtain ⟨x, rfl, v0, v1, v2, v3, v4, rfl, hO⟩ := (show ∃ x, _ ∧ _ from h)
    obtain ⟨p, c, q, d, rfl, rfl, rfl, rfl, rfl, -⟩ := hO.form
    exact ⟨_, _, _, _, _, _, _, _, _, rfl, hb⟩
  | false =>
    have he : e = _ := h
    exact ⟨_, _, _, _, _, _, _, _, _, he, hb⟩
set_option maxRecDepth 100000 in
set_option maxHeartbeats 1600000 in
theorem isUnitText_any (s : ByteArray) (w : World) (hs : s.size ≤ 1000000000000) : Calls Tryz.prog 84 #[.string s] w fun e w' => e = .returned (.bool (unitTxt s)) ∧ Below w.heap.size w w' := by
  have HU := Lib.hid (show unitTxt s = (pfOk s && decide (s.size ≤ 100)) from rfl)
  go_enter Tryz.func84, Tryz.ntmps84
  go_wp2_with fail
  refine (implPF_any s hs _).mono ?_
  rintro e w1 hp
  obtain ⟨op, m, p, k, c, v, q, k2, d, rfl, hb1⟩ := hp.form
  clear hp
  cases hk : pfOk s <;> by_cases h1 : s.size ≤ 100
  all_goals
    have h2 := HU.out
    rw [hk] at h2
    have HU2 := Lib.hid h2
    clear h2
    have h1i : ((s.size : Int) ≤ 100) = (s.size ≤ 100) := by apply propext; omega
    go_wp2
    go_ret
    exact ⟨ret_bool (by rw [HU2.out]; simp [h1]), by (repeat (first | with_reducible exact Below.refl _ _ | with_reducible assumption | with_reducible refine Below.al ?_ _ | with_reducible refine Below.sc ?_ (by first | exact Nat.le_refl _ | (simp; done) | (simp; omega)) _ | assumption | exact Below.refl _ _ | refine Below.dr ?_ | refine Below.drN ?_ _ | refine Below.step ?_ (by assumption)))⟩
set_option maxRecDepth 100000 in
set_option maxHeartbeats 1600000 in
theorem areNames_any {B : Nat → Prop} (us : List ByteArray) (v : Value) (w : World) (h : StrsAt B w v us) : Calls Tryz.prog 81 #[v] w fun e w' => e = .returned (.bool (namesF none us)) ∧ Below w.heap.size w w' := by
  obtain ⟨p, c, rfl, hlen⟩ := h.form
  unfold maxLen at hlen
  have H := Lib.hid h
  clear h
  go_enter Tryz.func81, Tryz.ntmps81
  go_wp2
  go_loopw [7] (fun i wr => ∃ k : Nat, k ≤ us.length ∧ i = .int .i64 k ∧ namesF none us = namesF (prevS us k) (us.drop k) ∧ Below w.heap.size w wr) (fun i _ => us.length - (intOf i).toNat)
  case atStart => exact ⟨0, Nat.zero_le _, rfl, rfl, by (repeat (first | with_reducible exact Below.refl _ _ | with_reducible assumption | with_reducible refine Below.al ?_ _ | with_reducible refine Below.sc ?_ (by first | exact Nat.le_refl _ | (simp; done) | (simp; omega)) _ | assumption | exact Below.refl _ _ | refine Below.dr ?_ | refine Below.drN ?_ _ | refine Below.step ?_ (by assumption)))⟩
  case round =>
    obtain ⟨k, hk, rfl, he, hb⟩ := hrel
    have HE := Lib.hid he
    clear he
    by_cases hlt : k < us.length
    · obtain ⟨b, o, rfl, hB, hx0, hxs⟩ := (H.out.below hb).at_ hlt
      have HD := Lib.hid (namesF_drop hlt)
      by_cases hk0 : k = 0
      · have HP := Lib.hid (show prevS us k = none by rw [hk0]; rfl)
        obtain ⟨a, ha⟩ : ∃ a, us[k] = a := ⟨_, rfl⟩
        rw [ha] at hx0 hxs HD
        clear ha
        have hk1 : ¬ ((k : Int) > 0) := by omega
        have hk2 : ¬ ((0 : Int) < (k : Int)) := by omega
        have zb := bsz (World.block_lt_of_cell? _ _ hx0)
        clear hk0
        cases hy : symB a.data.toList
        all_goals
          have HY := Lib.hid hy
          clear hy
          go_wp2_with fail
          refine (isSymbol_any a _ hxs).mono ?_
          rintro e w1 ⟨rfl, hb1⟩
          have ⟨cw1, fw1⟩ := bcell hb1
          have qw1 := hb1.size
          (try simp at qw1)
          (try have zw1w := bsz (show w.heap.size < w1.heap.size by omega))
          rw [HY.out]
          go_wp2
        · go_ret
          exact ⟨ret_bool (by rw [HE.out, HD.out, HY.out]; rfl), by (repeat (first | with_reducible exact Below.refl _ _ | with_reducible assumption | with_reducible refine Below.al ?_ _ | with_reducible refine Below.sc ?_ (by first | exact Nat.le_refl _ | (simp; done) | (simp; omega)) _ | assumption | exact Below.refl _ _ | refine Below.dr ?_ | refine Below.drN ?_ _ | refine Below.step ?_ (by assumption)))⟩
        · refine ⟨⟨k + 1, by omega, by go_num, ?_, by (repeat (first | with_reducible exact Below.refl _ _ | with_reducible assumption | with_reducible refine Below.al ?_ _ | with_reducible refine Below.sc ?_ (by first | exact Nat.le_refl _ | (simp; done) | (simp; omega)) _ | assumption | exact Below.refl _ _ | refine Below.dr ?_ | refine Below.drN ?_ _ | refine Below.step ?_ (by assumption)))⟩, by simp [intOf]; omega⟩
          rw [HE.out, HD.out, HY.out, HP.out]; rfl
      · have hk1 : k - 1 < us.length := by omega
        obtain ⟨b', o', hq, hB', hy0, hys⟩ := (H.out.below hb).at_ hk1
        simp only [Option.some.injEq, Addr.mk.injEq, and_true] at hq
        obtain ⟨rfl, rfl⟩ := hq
        have HP := Lib.hid (prevS_pos hlt (by omega))
        obtain ⟨a, ha⟩ : ∃ a, us[k] = a := ⟨_, rfl⟩
        obtain ⟨q, hqe⟩ : ∃ q, us[k - 1] = q := ⟨_, rfl⟩
        rw [ha] at hx0 hxs HD
        rw [hqe] at hy0 HP
        clear ha hqe hys
        have hki : IntKind.i64.wrap ((k : Int) - 1) = ((k - 1 : Nat) : Int) := by rw [IntWalk.i64_in _ (by omega)]; omega
        have hkp : (0 : Int) < (k : Int) := by omega
        have zb := bsz (World.block_lt_of_cell? _ _ hx0)
        have HT := Lib.hid (less_total q.data.toList a.data.toList)
        cases hy : symB a.data.toList <;> cases hA : Op.bytesLess a.toList q.toList <;> cases hB : (a.toList == q.toList)
        all_goals
          have HY := Lib.hid hy
          have HLS := Lib.hid (show lessB q a = _ from HT.out.trans (by rw [← ByteArray.toList_eq, ← ByteArray.toList_eq, hA, hB]))
          clear hy
          go_wp2_with fail
          refine (isSymbol_any a _ hxs).mono ?_
          rintro e w1 ⟨rfl, hb1⟩
          have ⟨cw1, fw1⟩ := bcell hb1
          have qw1 := hb1.size
          (try simp at qw1)
          (try have zw1w := bsz (show w.heap.size < w1.heap.size by omega))
          rw [HY.out]
          go_wp2
        all_goals first
          | (refine ⟨⟨k + 1, by omega, by go_num, ?_, by (repeat (first | with_reducible exact Below.refl _ _ | with_reducible assumption | with_reducible refine Below.al ?_ _ | with_reducible refine Below.sc ?_ (by first | exact Nat.le_refl _ | (simp; done) | (simp; omega)) _ | assumption | exact Below.refl _ _ | refine Below.dr ?_ | refine Below.drN ?_ _ | refine Below.step ?_ (by assumption)))⟩, by simp [intOf]; omega⟩; rw [HE.out, HD.out, HY.out, HP.out, ascS, HLS.out]; rfl)
          | (go_ret; exact ⟨ret_bool (by rw [HE.out, HD.out, HY.out, HP.out, ascS, HLS.out]; rfl), by (repeat (first | with_reducible exact Below.refl _ _ | with_reducible assumption | with_reducible refine Below.al ?_ _ | with_reducible refine Below.sc ?_ (by first | exact Nat.le_refl _ | (simp; done) | (simp; omega)) _ | assumption | exact Below.refl _ _ | refine Below.dr ?_ | refine Below.drN ?_ _ | refine Below.step ?_ (by assumption)))⟩)
    · obtain rfl : k = us.length := by omega
      have he := HE.out
      rw [List.drop_length] at he
      have HE2 := Lib.hid he
      clear he
      go_wp2
      go_ret
      exact ⟨ret_bool (by rw [HE2.out]; rfl), by (repeat (first | with_reducible exact Below.refl _ _ | with_reducible assumption | with_reducible refine Below.al ?_ _ | with_reducible refine Below.sc ?_ (by first | exact Nat.le_refl _ | (simp; done) | (simp; omega)) _ | assumption | exact Below.refl _ _ | refine Below.dr ?_ | refine Below.drN ?_ _ | refine Below.step ?_ (by assumption)))⟩
end Go.Proofs.YtimpkjiglioflaaGreatDoor
namespace Go.Proofs.YtimpkjiglioflaaGreatDoor
open Go.RowKit
theorem Un.goal_le (u : Un) : u.goal.size ≤ u.wt := by unfold Un.wt; omega
theorem Un.axs_le (u : Un) : ∀ s ∈ u.axs, s.size ≤ u.wt := fun s hs => by have := wtS_le u.axs s hs; unfold Un.wt; omega
theorem all_not_any (us : List ByteArray) : us.all unitTxt = !(us.any fun s => !unitTxt s) := by
  induction us with
  | nil => rfl
  | cons a us ih => rw [List.all_cons, List.any_cons, ih]; cases unitTxt a <;> rfl
set_option maxRecDepth 100000 in
set_option maxHeartbeats 1600000 in
theorem notUnitText_any (s : ByteArray) (w : World) (hs : s.size ≤ 1000000000000) : Calls Tryz.prog 83 #[.string s] w fun e w' => e = .returned (.bool (!unitTxt s)) ∧ Below w.heap.size w w' := by
  go_enter Tryz.func83, Tryz.ntmps83
  go_wp2_with fail
  refine (isUnitText_any s _ hs).mono ?_
  rintro e w1 ⟨rfl, hb1⟩
  have ⟨cw1, fw1⟩ := bcell hb1
  have qw1 := hb1.size
  (try simp at qw1)
  (try have zw1w := bsz (show w.heap.size < w1.heap.size by omega))
  go_wp2
  go_ret
  exact ⟨rfl, by (repeat (first | with_reducible exact Below.refl _ _ | with_reducible assumption | with_reducible refine Below.al ?_ _ | with_reducible refine Below.sc ?_ (by first | exact Nat.le_refl _ | (simp; done) | (simp; omega)) _ | assumption | exact Below.refl _ _ | refine Below.dr ?_ | refine Below.drN ?_ _ | refine Below.step ?_ (by assumption)))⟩
set_option maxRecDepth 100000 in
set_option maxHeartbeats 1600000 in
theorem indexTxt {B : Nat → Prop} (us : List ByteArray) (hz : ∀ s ∈ us, s.size ≤ 1000000000000) (va : Value) (w : World) (h : StrsAt B w va us) :
    Calls Tryz.prog 118 #[va, .func (.func 83) #[] #[]] w (FirstAt (us.any fun s => !unitTxt s) w) := by
  obtain ⟨p, c, rfl, hlen⟩ := h.form
  unfold maxLen at hlen
  have H := Lib.hid h
  have HZ := Lib.hid hz
  clear h hz
  go_enter Tryz.func118, Tryz.ntmps118
  go_wp2
  go_loopw [8] (fun i wr => ∃ k : Nat, k ≤ us.length ∧ i = .int .i64 k ∧ (us.any fun s => !unitTxt s) = ((us.drop k).any fun s => !unitTxt s) ∧ Below w.heap.size w wr) (fun i _ => us.length - (intOf i).toNat)
  case atStart => exact ⟨0, Nat.zero_le _, rfl, rfl, by (repeat (first | with_reducible exact Below.refl _ _ | with_reducible assumption | with_reducible refine Below.al ?_ _ | with_reducible refine Below.sc ?_ (by first | exact Nat.le_refl _ | (simp; done) | (simp; omega)) _ | assumption | exact Below.refl _ _ | refine Below.dr ?_ | refine Below.drN ?_ _ | refine Below.step ?_ (by assumption)))⟩
  case round =>
    obtain ⟨k, hk, rfl, he, hb⟩ := hrel
    have HE := Lib.hid he
    clear he
    by_cases hlt : k < us.length
    · obtain ⟨b, o, rfl, hB, hx0, hxs⟩ := (H.out.below hb).at_ hlt
      have HD := Lib.hid (any_drop us (fun s => !unitTxt s) hlt)
      have hza := HZ.out _ (List.getElem_mem hlt)
      obtain ⟨a, ha⟩ : ∃ a, us[k] = a := ⟨_, rfl⟩
      rw [ha] at hx0 hxs HD hza
      clear ha
      have zb := bsz (World.block_lt_of_cell? _ _ hx0)
      cases hN : unitTxt a
      all_goals
        have HN := Lib.hid hN
        go_wp2_with fail
        refine (notUnitText_any a _ hza).mono ?_
        rintro e w1 ⟨rfl, hb1⟩
        have ⟨cw1, fw1⟩ := bcell hb1
        have qw1 := hb1.size
        (try simp at qw1)
        (try have zw1w := bsz (show w.heap.size < w1.heap.size by omega))
        rw [HN.out]
        go_wp2
      · go_ret
        exact ⟨k, rfl, by rw [HE.out, HD.out, HN.out]; simp, by (repeat (first | with_reducible exact Below.refl _ _ | with_reducible assumption | with_reducible refine Below.al ?_ _ | with_reducible refine Below.sc ?_ (by first | exact Nat.le_refl _ | (simp; done) | (simp; omega)) _ | assumption | exact Below.refl _ _ | refine Below.dr ?_ | refine Below.drN ?_ _ | refine Below.step ?_ (by assumption)))⟩
      · refine ⟨⟨k + 1, by omega, by go_num, ?_, by (repeat (first | with_reducible exact Below.refl _ _ | with_reducible assumption | with_reducible refine Below.al ?_ _ | with_reducible refine Below.sc ?_ (by first | exact Nat.le_refl _ | (simp; done) | (simp; omega)) _ | assumption | exact Below.refl _ _ | refine Below.dr ?_ | refine Below.drN ?_ _ | refine Below.step ?_ (by assumption)))⟩, by simp [intOf]; omega⟩
        rw [HE.out, HD.out, HN.out]; rfl
    · obtain rfl : k = us.length := by omega
      have he := HE.out
      rw [List.drop_length, List.any_nil] at he
      have HE2 := Lib.hid he
      clear he
      go_wp2
      go_ret
      exact ⟨-1, rfl, by rw [HE2.out]; rfl, by (repeat (first | with_reducible exact Below.refl _ _ | with_reducible assumption | with_reducible refine Below.al ?_ _ | with_reducible refine Below.sc ?_ (by first | exact Nat.le_refl _ | (simp; done) | (simp; omega)) _ | assumption | exact Below.refl _ _ | refine Below.dr ?_ | refine Below.drN ?_ _ | refine Below.step ?_ (by assumption)))⟩
theorem containsTxt {B : Nat → Prop} (us : List ByteArray) (hz : ∀ s ∈ us, s.size ≤ 1000000000000) (va : Value) (w : World) (h : StrsAt B w va us) :
    Calls Tryz.prog 82 #[va, .func (.func 83) #[] #[]] w fun e w' => e = .returned (.bool (us.any fun s => !unitTxt s)) ∧ Below w.heap.size w w' := by
  have H := Lib.hid h
  have IH := Lib.hid (indexTxt (B := B) us hz)
  clear h
  go_enter Tryz.func82, Tryz.ntmps82
  go_wp2_with fail
  refine (IH.out va _ H.out).mono ?_
  rintro e w1 ⟨r, rfl, hr, hb1⟩
  have HR := Lib.hid hr
  clear hr
  go_wp2
  go_ret
  exact ⟨ret_bool HR.out, hb1⟩
set_option maxRecDepth 100000 in
set_option maxHeartbeats 3200000 in
theorem implUnit_any {B : Nat → Prop} (u : Un) (v0 v1 v2 v3 : Value) (w : World) (h : UnAt B w u [v0, v1, v2, v3]) (hw : u.wt ≤ 1000000000000) :
    Calls Tryz.prog 48 #[.agg #[v0, v1, v2, v3]] w fun e w' => e = .returned (.bool u.good) ∧ Below w.heap.size w w' := by
  obtain ⟨p, c, q, d, rfl, rfl, rfl, rfl, hn, hg, l1, l2, hi, ha⟩ := h.form
  unfold maxLen at l1 l2
  have HI := Lib.hid hi
  have HA := Lib.hid ha
  have HG := Lib.hid (show u.good = (symB u.name.data.toList && decide (u.incs.length ≤ 12) && namesF none u.incs && decide (u.axs.length ≤ 6) && u.axs.all unitTxt && (u.goal.data.toList == [] || unitTxt u.goal)) from rfl)
  have HZ := Lib.hid (fun s hs => Nat.le_trans (u.axs_le s hs) hw)
  have hgz := Nat.le_trans u.goal_le hw
  clear h hi ha
  go_enter Tryz.func48, Tryz.ntmps48
  go_wp2_with fail
  refine (isSymbol_any u.name _ hn).mono ?_
  rintro e w1 ⟨rfl, hb1⟩
  have ⟨cw1, fw1⟩ := bcell hb1
  have qw1 := hb1.size
  (try simp at qw1)
  (try have zw1w := bsz (show w.heap.size < w1.heap.size by omega))
  cases h1 : symB u.name.data.toList
  · have H1 := Lib.hid h1
    go_wp2
    go_ret
    exact ⟨ret_bool (by rw [HG.out, H1.out]; rfl), by (repeat (first | with_reducible exact Below.refl _ _ | with_reducible assumption | with_reducible refine Below.al ?_ _ | with_reducible refine Below.sc ?_ (by first | exact Nat.le_refl _ | (simp; done) | (simp; omega)) _ | assumption | exact Below.refl _ _ | refine Below.dr ?_ | refine Below.drN ?_ _ | refine Below.step ?_ (by assumption)))⟩
  have H1 := Lib.hid h1
  clear h1
  by_cases h2 : u.incs.length ≤ 12
  case neg =>
    have h2i : ¬ ((u.incs.length : Int) ≤ 12) := by omega
    have H2 := Lib.hid h2
    go_wp2
    go_ret
    exact ⟨ret_bool (by rw [HG.out, H1.out, decide_eq_false H2.out]; rfl), by (repeat (first | with_reducible exact Below.refl _ _ | with_reducible assumption | with_reducible refine Below.al ?_ _ | with_reducible refine Below.sc ?_ (by first | exact Nat.le_refl _ | (simp; done) | (simp; omega)) _ | assumption | exact Below.refl _ _ | refine Below.dr ?_ | refine Below.drN ?_ _ | refine Below.step ?_ (by assumption)))⟩
  have h2i : ((u.incs.length : Int) ≤ 12) := by omega
  have H2 := Lib.hid h2
  clear h2
  go_wp2_with fail
  refine (areNames_any u.incs _ _ (HI.out.below (by (repeat (first | with_reducible exact Below.refl _ _ | with_reducible assumption | with_reducible refine Below.al ?_ _ | with_reducible refine Below.sc ?_ (by first | exact Nat.le_refl _ | (simp; done) | (simp; omega)) _ | assumption | exact Below.refl _ _ | refine Below.dr ?_ | refine Below.drN ?_ _ | refine Below.step ?_ (by assumption)))))).mono ?_
  rintro e w2 ⟨rfl, hb2⟩
  have ⟨cw2, fw2⟩ := bcell hb2
  have qw2 := hb2.size
  (try simp at qw2)
  (try have zw2w := bsz (show w.heap.size < w2.heap.size by omega))
  (try have zw2w1 := bsz (show w1.heap.size < w2.heap.size by omega))
  cases h3 : namesF none u.incs
  · have H3 := Lib.hid h3
    go_wp2
    go_ret
    exact ⟨ret_bool (by rw [HG.out, H1.out, decide_eq_true H2.out, H3.out]; rfl), by (repeat (first | with_reducible exact Below.refl _ _ | with_reducible assumption | with_reducible refine Below.al ?_ _ | with_reducible refine Below.sc ?_ (by first | exact Nat.le_refl _ | (simp; done) | (simp; omega)) _ | assumption | exact Below.refl _ _ | refine Below.dr ?_ | refine Below.drN ?_ _ | refine Below.step ?_ (by assumption)))⟩
  have H3 := Lib.hid h3
  clear h3
  by_cases h4 : u.axs.length ≤ 6
  case neg =>
    have h4i : ¬ ((u.axs.length : Int) ≤ 6) := by omega
    have H4 := Lib.hid h4
    go_wp2
    go_ret
    exact ⟨ret_bool (by rw [HG.out, H1.out, decide_eq_true H2.out, H3.out, decide_eq_false H4.out]; rfl), by (repeat (first | with_reducible exact Below.refl _ _ | with_reducible assumption | with_reducible refine Below.al ?_ _ | with_reducible refine Below.sc ?_ (by first | exact Nat.le_refl _ | (simp; done) | (simp; omega)) _ | assumption | exact Below.refl _ _ | refine Below.dr ?_ | refine Below.drN ?_ _ | refine Below.step ?_ (by assumption)))⟩
  have h4i : ((u.axs.length : Int) ≤ 6) := by omega
  have H4 := Lib.hid h4
  clear h4
  go_wp2_with fail
  refine (containsTxt u.axs HZ.out _ _ (HA.out.below (by (repeat (first | with_reducible exact Below.refl _ _ | with_reducible assumption | with_reducible refine Below.al ?_ _ | with_reducible refine Below.sc ?_ (by first | exact Nat.le_refl _ | (simp; done) | (simp; omega)) _ | assumption | exact Below.refl _ _ | refine Below.dr ?_ | refine Below.drN ?_ _ | refine Below.step ?_ (by assumption)))))).mono ?_
  rintro e w3 ⟨rfl, hb3⟩
  have ⟨cw3, fw3⟩ := bcell hb3
  have qw3 := hb3.size
  (try simp at qw3)
  (try have zw3w := bsz (show w.heap.size < w3.heap.size by omega))
  (try have zw3w1 := bsz (show w1.heap.size < w3.heap.size by omega))
  (try have zw3w2 := bsz (show w2.heap.size < w3.heap.size by omega))
  have HNA := Lib.hid (all_not_any u.axs)
  cases h5 : (u.axs.any fun s => !unitTxt s)
  case true =>
    have H5 := Lib.hid h5
    go_wp2
    go_ret
    exact ⟨ret_bool (by rw [HG.out, H1.out, decide_eq_true H2.out, H3.out, decide_eq_true H4.out, HNA.out, H5.out]; rfl), by (repeat (first | with_reducible exact Below.refl _ _ | with_reducible assumption | with_reducible refine Below.al ?_ _ | with_reducible refine Below.sc ?_ (by first | exact Nat.le_refl _ | (simp; done) | (simp; omega)) _ | assumption | exact Below.refl _ _ | refine Below.dr ?_ | refine Below.drN ?_ _ | refine Below.step ?_ (by assumption)))⟩
  have H5 := Lib.hid h5
  clear h5
  cases h6 : (u.goal.toList == [])
  case true =>
    have H6 := Lib.hid h6
    go_wp2
    go_ret
    exact ⟨ret_bool (by rw [HG.out, H1.out, decide_eq_true H2.out, H3.out, decide_eq_true H4.out, HNA.out, H5.out, ← ByteArray.toList_eq, H6.out]; rfl), by (repeat (first | with_reducible exact Below.refl _ _ | with_reducible assumption | with_reducible refine Below.al ?_ _ | with_reducible refine Below.sc ?_ (by first | exact Nat.le_refl _ | (simp; done) | (simp; omega)) _ | assumption | exact Below.refl _ _ | refine Below.dr ?_ | refine Below.drN ?_ _ | refine Below.step ?_ (by assumption)))⟩
  have H6 := Lib.hid h6
  go_wp2_with fail
  refine (isUnitText_any u.goal _ hgz).mono ?_
  rintro e w4 ⟨rfl, hb4⟩
  have ⟨cw4, fw4⟩ := bcell hb4
  have qw4 := hb4.size
  (try simp at qw4)
  (try have zw4w := bsz (show w.heap.size < w4.heap.size by omega))
  (try have zw4w1 := bsz (show w1.heap.size < w4.heap.size by omega))
  (try have zw4w2 := bsz (show w2.heap.size < w4.heap.size by omega))
  (try have zw4w3 := bsz (show w3.heap.size < w4.heap.size by omega))
  go_wp2
  go_ret
  exact ⟨ret_bool (by rw [HG.out, H1.out, decide_eq_true H2.out, H3.out, decide_eq_true H4.out, HNA.out, H5.out, ← ByteArray.toList_eq, H6.out]; rfl), by (repeat (first | with_reducible exact Below.refl _ _ | with_reducible assumption | with_reducible refine Below.al ?_ _ | with_reducible refine Below.sc ?_ (by first | exact Nat.le_refl _ | (simp; done) | (simp; omega)) _ | assumption | exact Below.refl _ _ | refine Below.dr ?_ | refine Below.drN ?_ _ | refine Below.step ?_ (by assumption)))⟩
end Go.Proofs.YtimpkjiglioflaaGreatDoor
namespace Go.Proofs.YtimpkjiglioflaaGreatDoor
open Go.RowKit
set_option maxRecDepth 100000 in
set_option maxHeartbeats 1600000 in
theorem l27Text_any (s : ByteArray) (w : World) (hs : s.size ≤ 1000000000000) : Calls Tryz.prog 78 #[.string s] w fun e w' => e = .returned (.bool (unitTxt s)) ∧ Below w.heap.size w w' := by
  have HU := Lib.hid (show unitTxt s = (pfOk s && decide (s.size ≤ 100)) from rfl)
  go_enter Tryz.func78, Tryz.ntmps78
  go_wp2_with fail
  refine (specPF_any s hs _).mono ?_
  rintro e w1 hp
  obtain ⟨op, m, p, k, c, v, q, k2, d, rfl, hb1⟩ := hp.form
  clear hp
  cases hk : pfOk s <;> by_cases h1 : s.size ≤ 100
  all_goals
    have h2 := HU.out
    rw [hk] at h2
    have HU2 := Lib.hid h2
    clear h2
    have h1i : ((s.size : Int) ≤ 100) = (s.size ≤ 100) := by apply propext; omega
    go_wp2
    go_ret
    exact ⟨ret_bool (by rw [HU2.out]; simp [h1]), by (repeat (first | with_reducible exact Below.refl _ _ | with_reducible assumption | with_reducible refine Below.al ?_ _ | with_reducible refine Below.sc ?_ (by first | exact Nat.le_refl _ | (simp; done) | (simp; omega)) _ | assumption | exact Below.refl _ _ | refine Below.dr ?_ | refine Below.drN ?_ _ | refine Below.step ?_ (by assumption)))⟩
/-- The boxed unit, and nothing older touched. -/
structure UBox (u : Un) (p q : Option Addr) (c d : Nat) (w wr : World) : Prop where
  bel : Below w.heap.size w wr
  cell : wr.heap[w.heap.size]? = some (.cells #[.string u.name, .slice p u.incs.length c, .slice q u.axs.length d, .string u.goal] 24 (0, 0))
theorem UBox.later {u : Un} {p q : Option Addr} {c d : Nat} {w wr w' : World} (h : UBox u p q c d w wr) (hb : Below wr.heap.size wr w') : UBox u p q c d w w' := ⟨h.bel.trans (hb.mono h.bel.size), (hb.block _ (heap_lt h.cell)).trans h.cell⟩
theorem UBox.cells {u : Un} {p q : Option Addr} {c d : Nat} {w wr : World} (h : UBox u p q c d w wr) : wr.cell? ⟨w.heap.size, 0, none⟩ = some (.string u.name) ∧ wr.cell? ⟨w.heap.size, 1, none⟩ = some (.slice p u.incs.length c) ∧ wr.cell? ⟨w.heap.size, 2, none⟩ = some (.slice q u.axs.length d) ∧ wr.cell? ⟨w.heap.size, 3, none⟩ = some (.string u.goal) := by
  refine ⟨?_, ?_, ?_, ?_⟩
  · rw [cell_of_row _ _ 0 _ _ (0, 0) h.cell]; rfl
  · rw [cell_of_row _ _ 1 _ _ (0, 0) h.cell]; rfl
  · rw [cell_of_row _ _ 2 _ _ (0, 0) h.cell]; rfl
  · rw [cell_of_row _ _ 3 _ _ (0, 0) h.cell]; rfl
set_option maxRecDepth 100000 in
set_option maxHeartbeats 6400000 in
theorem l27Unit_any {B : Nat → Prop} (u : Un) (v0 v1 v2 v3 : Value) (w : World) (h : UnAt B w u [v0, v1, v2, v3]) (hw : u.wt ≤ 1000000000000) :
    Calls Tryz.prog 44 #[.agg #[v0, v1, v2, v3]] w fun e w' => e = .returned (.bool u.good) ∧ Below w.heap.size w w' := by
  obtain ⟨p, c, q, d, rfl, rfl, rfl, rfl, hn, hg, l1, l2, hi, ha⟩ := h.form
  unfold maxLen at l1 l2
  have HI := Lib.hid hi
  have HA := Lib.hid ha
  have HG := Lib.hid (show u.good = (symB u.name.data.toList && decide (u.incs.length ≤ 12) && namesF none u.incs && decide (u.axs.length ≤ 6) && u.axs.all unitTxt && (u.goal.data.toList == [] || unitTxt u.goal)) from rfl)
  have HZ := Lib.hid (fun s hs => Nat.le_trans (u.axs_le s hs) hw)
  have hgz := Nat.le_trans u.goal_le hw
  have HU0 := Lib.hid (show UBox u p q c d w (w.alloc (.cells #[.string u.name, .slice p u.incs.length c, .slice q u.axs.length d, .string u.goal] 24)) from ⟨(Below.refl _ _).alloc (Nat.le_refl _) _, heap_alloc_new w _⟩)
  clear h hi ha
  go_enter Tryz.func44, Tryz.ntmps44
  go_wp2_with fail
  refine (l2Symbol_any u.name _ hn).mono ?_
  rintro e w1 ⟨rfl, rfl⟩
  cases h1 : symB u.name.data.toList
  case false =>
    have HNO := Lib.hid (show u.good = false by rw [HG.out, h1]; rfl)
    go_wp2
    go_ret
    exact ⟨ret_bool HNO.out.symm, by (repeat (first | with_reducible exact Below.refl _ _ | with_reducible assumption | with_reducible refine Below.al ?_ _ | with_reducible refine Below.sc ?_ (by first | exact Nat.le_refl _ | (simp; done) | (simp; omega)) _ | assumption | exact Below.refl _ _ | refine Below.dr ?_ | refine Below.drN ?_ _ | refine Below.step ?_ (by assumption)))⟩
  by_cases h2 : u.incs.length ≤ 12
  case neg =>
    have HNO := Lib.hid (show u.good = false by rw [HG.out, h1, decide_eq_false h2]; rfl)
    have h2j : ((12 : Int) < (u.incs.length : Int)) := by omega
    clear h2
    go_wp2
    go_ret
    exact ⟨ret_bool HNO.out.symm, by (repeat (first | with_reducible exact Below.refl _ _ | with_reducible assumption | with_reducible refine Below.al ?_ _ | with_reducible refine Below.sc ?_ (by first | exact Nat.le_refl _ | (simp; done) | (simp; omega)) _ | assumption | exact Below.refl _ _ | refine Below.dr ?_ | refine Below.drN ?_ _ | refine Below.step ?_ (by assumption)))⟩
  have h2j : ¬ ((12 : Int) < (u.incs.length : Int)) := by omega
  by_cases h4 : u.axs.length ≤ 6
  case neg =>
    have HNO := Lib.hid (show u.good = false by rw [HG.out, h1, decide_eq_false h4]; simp)
    have h4j : ((6 : Int) < (u.axs.length : Int)) := by omega
    clear h4 h2
    go_wp2
    go_ret
    exact ⟨ret_bool HNO.out.symm, by (repeat (first | with_reducible exact Below.refl _ _ | with_reducible assumption | with_reducible refine Below.al ?_ _ | with_reducible refine Below.sc ?_ (by first | exact Nat.le_refl _ | (simp; done) | (simp; omega)) _ | assumption | exact Below.refl _ _ | refine Below.dr ?_ | refine Below.drN ?_ _ | refine Below.step ?_ (by assumption)))⟩
  have h4j : ¬ ((6 : Int) < (u.axs.length : Int)) := by omega
  have HG2 := Lib.hid (show u.good = (namesF none u.incs && u.axs.all unitTxt && (u.goal.data.toList == [] || unitTxt u.goal)) by rw [HG.out, h1, decide_eq_true h2, decide_eq_true h4]; simp)
  clear h2 h4 HG
  go_wp2
  go_loopw [3] (fun i wr => ∃ k : Nat, k ≤ u.incs.length ∧ i = .int .i64 k ∧ namesF none u.incs = namesF (prevS u.incs k) (u.incs.drop k) ∧ UBox u p q c d w wr) (fun i _ => u.incs.length - (intOf i).toNat)
  case atStart => exact ⟨0, Nat.zero_le _, rfl, rfl, HU0.out⟩
  case round =>
    obtain ⟨k, hk, rfl, he, hub⟩ := hrel
    have HE := Lib.hid he
    have HUB := Lib.hid hub
    have hb := hub.bel
    have hqz := hb.size
    obtain ⟨x0, x1, x2, x3⟩ := hub.cells
    have zub := bsz (heap_lt hub.cell)
    clear he hub HU0
    by_cases hlt : k < u.incs.length
    · obtain ⟨b, o, rfl, hB, hx0, hxs⟩ := (HI.out.below hb).at_ hlt
      have HD := Lib.hid (namesF_drop hlt)
      have hki : (k : Int) < u.incs.length := by omega
      have zb := bsz (World.block_lt_of_cell? _ _ hx0)
      by_cases hk0 : k = 0
      · subst hk0
        rw [Nat.add_zero] at hx0
        have HP := Lib.hid (show prevS u.incs 0 = none from rfl)
        obtain ⟨a, hae⟩ : ∃ a, u.incs[0] = a := ⟨_, rfl⟩
        rw [hae] at hx0 hxs HD
        clear hae
        cases hy : symB a.data.toList
        all_goals
          have HSY := Lib.hid (show ∀ w, Calls Tryz.prog 76 #[.string a] w fun e w' => e = .returned (.bool _) ∧ Below w.heap.size w w' from fun w => hy ▸ same_below (l2Symbol_any a w hxs))
          have HY := Lib.hid hy
          clear hy
          go_wp2
          obtain ⟨C, HC0⟩ := class_of (InF wr.heap.size _ [(⟨w.heap.size, 1, none⟩, .slice (some ⟨b, o, none⟩) u.incs.length c), (⟨b, o, none⟩, .string a)] [] [])
          have HC := Lib.hid HC0
          clear HC0
          refine wp_region_flow (C := C) (by kernel_rfl) (by kernel_rfl) (fun L hL => (HC.out _ _).2 (InF.start (by first | (intro _ hs; cases hs; done) | (simp only [List.forall_mem_cons]; go_simp)) (by first | (intro _ hs; cases hs; done) | (simp only [List.forall_mem_cons]; go_simp)) (by first | (intro _ hs; cases hs; done) | (simp only [List.forall_mem_cons]; go_simp)) (by first | (intro _ hs; cases hs; done) | (simp only [List.forall_mem_cons]; go_simp)) L hL)) ?_
          repeat (first | (apply flow_free rfl; (intro L w' hun hrd hC; have hC := (HC.out _ _).1 hC; have hb' := hC.below; (try have hw' : Below w.heap.size w w' := by first | exact Below.trans (by (repeat (first | with_reducible exact Below.refl _ _ | with_reducible assumption | with_reducible refine Below.al ?_ _ | with_reducible refine Below.sc ?_ (by first | exact Nat.le_refl _ | (simp; done) | (simp; omega)) _ | assumption | exact Below.refl _ _ | refine Below.dr ?_ | refine Below.drN ?_ _ | refine Below.step ?_ (by assumption)))) hb' | ((repeat (first | with_reducible exact Below.refl _ _ | with_reducible assumption | with_reducible refine Below.al ?_ _ | with_reducible refine Below.sc ?_ (by first | exact Nat.le_refl _ | (simp; done) | (simp; omega)) _ | assumption | exact Below.refl _ _ | refine Below.dr ?_ | refine Below.drN ?_ _ | refine Below.step ?_ (by assumption))); done)); have hf' := hC.cell; (try simp only [List.forall_mem_cons] at hf'); go_simp; first | exact ⟨(HC.out _ _).2 (hC.skip _ (by rfl)), rfl⟩ | (rw [if_neg]; (exact ⟨(HC.out _ _).2 (hC.skip _ (by rfl)), rfl⟩); omega) | (go_at_call 76; refine (HSY.out _).mono ?_; rintro e w1 ⟨rfl, hb1⟩; exact ⟨rfl, (HC.out _ _).2 ((hC.next (by first | (simp; done) | (simp; omega) | omega) hb1).skip _ (by rfl))⟩)); go_simp) | (apply flow_yes; (case hw => go_simp); (intro L w' hun hrd hC; have hC := (HC.out _ _).1 hC; have hb' := hC.below; (try have hw' : Below w.heap.size w w' := by first | exact Below.trans (by (repeat (first | with_reducible exact Below.refl _ _ | with_reducible assumption | with_reducible refine Below.al ?_ _ | with_reducible refine Below.sc ?_ (by first | exact Nat.le_refl _ | (simp; done) | (simp; omega)) _ | assumption | exact Below.refl _ _ | refine Below.dr ?_ | refine Below.drN ?_ _ | refine Below.step ?_ (by assumption)))) hb' | ((repeat (first | with_reducible exact Below.refl _ _ | with_reducible assumption | with_reducible refine Below.al ?_ _ | with_reducible refine Below.sc ?_ (by first | exact Nat.le_refl _ | (simp; done) | (simp; omega)) _ | assumption | exact Below.refl _ _ | refine Below.dr ?_ | refine Below.drN ?_ _ | refine Below.step ?_ (by assumption))); done)); have hf' := hC.cell; (try simp only [List.forall_mem_cons] at hf'); go_simp; first | exact ⟨(HC.out _ _).2 (hC.skip _ (by rfl)), rfl⟩ | (rw [if_neg]; (exact ⟨(HC.out _ _).2 (hC.skip _ (by rfl)), rfl⟩); omega) | (go_at_call 76; refine (HSY.out _).mono ?_; rintro e w1 ⟨rfl, hb1⟩; exact ⟨rfl, (HC.out _ _).2 ((hC.next (by first | (simp; done) | (simp; omega) | omega) hb1).skip _ (by rfl))⟩)); go_simp) | (apply flow_no; (case hw => (go_simp; try (intro hh; cases hh))); (intro L w' _ _ hC; exact (HC.out _ _).2 (((HC.out _ _).1 hC).skip _ (by rfl))); go_simp))
          refine flow_nil ?_
          intro L wz hL hz
          have hz := (HC.out _ _).1 hz
          have hbz := hz.below
          have hcz := hz.cell
          try simp only [List.forall_mem_cons] at hcz
          have hdz := hz.done
          try simp only [List.forall_mem_cons] at hdz
          (try have hwz : Below w.heap.size w wz := by first | exact Below.trans (by (repeat (first | with_reducible exact Below.refl _ _ | with_reducible assumption | with_reducible refine Below.al ?_ _ | with_reducible refine Below.sc ?_ (by first | exact Nat.le_refl _ | (simp; done) | (simp; omega)) _ | assumption | exact Below.refl _ _ | refine Below.dr ?_ | refine Below.drN ?_ _ | refine Below.step ?_ (by assumption)))) hbz | ((repeat (first | with_reducible exact Below.refl _ _ | with_reducible assumption | with_reducible refine Below.al ?_ _ | with_reducible refine Below.sc ?_ (by first | exact Nat.le_refl _ | (simp; done) | (simp; omega)) _ | assumption | exact Below.refl _ _ | refine Below.dr ?_ | refine Below.drN ?_ _ | refine Below.step ?_ (by assumption))); done))
          go_wp2
        · go_ret
          exact ⟨ret_bool (by rw [HG2.out, HE.out, HD.out, HY.out]; rfl), by (repeat (first | with_reducible exact Below.refl _ _ | with_reducible assumption | with_reducible refine Below.al ?_ _ | with_reducible refine Below.sc ?_ (by first | exact Nat.le_refl _ | (simp; done) | (simp; omega)) _ | assumption | exact Below.refl _ _ | refine Below.dr ?_ | refine Below.drN ?_ _ | refine Below.step ?_ (by assumption)))⟩
        · refine ⟨⟨1, by omega, by go_num, ?_, HUB.out.later hbz⟩, by simp [intOf]; omega⟩
          rw [HE.out, HD.out, HY.out, HP.out]; rfl
      · have hk1 : k - 1 < u.incs.length := by omega
        obtain ⟨b', o', hq, hB', hy0, hys⟩ := (HI.out.below hb).at_ hk1
        simp only [Option.some.injEq, Addr.mk.injEq, and_true] at hq
        obtain ⟨rfl, rfl⟩ := hq
        have HP := Lib.hid (prevS_pos hlt (by omega))
        obtain ⟨a, hae⟩ : ∃ a, u.incs[k] = a := ⟨_, rfl⟩
        obtain ⟨r, hre⟩ : ∃ r, u.incs[k - 1] = r := ⟨_, rfl⟩
        rw [hae] at hx0 hxs HD
        rw [hre] at hy0 HP
        clear hae hre hys
        have hkm : IntKind.i64.wrap ((k : Int) - 1) = ((k - 1 : Nat) : Int) := by rw [IntWalk.i64_in _ (by omega)]; omega
        have hkp : (0 : Int) < (k : Int) := by omega
        have hkj : ((k - 1 : Nat) : Int) < u.incs.length := by omega
        have hkn : 0 < k := by omega
        have HL0 := Lib.hid (show lessB r a = Op.bytesLess r.toList a.toList by rw [lessB, ← ByteArray.toList_eq, ← ByteArray.toList_eq])
        cases hy : symB a.data.toList <;> cases hA : Op.bytesLess r.toList a.toList
        all_goals
          have HSY := Lib.hid (show ∀ w, Calls Tryz.prog 76 #[.string a] w fun e w' => e = .returned (.bool _) ∧ Below w.heap.size w w' from fun w => hy ▸ same_below (l2Symbol_any a w hxs))
          have HY := Lib.hid hy
          have HLS := Lib.hid (HL0.out.trans hA)
          clear hy
          go_wp2
          obtain ⟨C, HC0⟩ := class_of (InF wr.heap.size _ [(⟨w.heap.size, 1, none⟩, .slice (some ⟨b, o, none⟩) u.incs.length c), (⟨b, o + k, none⟩, .string a), (⟨b, o + (k - 1), none⟩, .string r)] [] [])
          have HC := Lib.hid HC0
          clear HC0
          refine wp_region_flow (C := C) (by kernel_rfl) (by kernel_rfl) (fun L hL => (HC.out _ _).2 (InF.start (by first | (intro _ hs; cases hs; done) | (simp only [List.forall_mem_cons]; go_simp)) (by first | (intro _ hs; cases hs; done) | (simp only [List.forall_mem_cons]; go_simp)) (by first | (intro _ hs; cases hs; done) | (simp only [List.forall_mem_cons]; go_simp)) (by first | (intro _ hs; cases hs; done) | (simp only [List.forall_mem_cons]; go_simp)) L hL)) ?_
          repeat (first | (apply flow_free rfl; (intro L w' hun hrd hC; have hC := (HC.out _ _).1 hC; have hb' := hC.below; (try have hw' : Below w.heap.size w w' := by first | exact Below.trans (by (repeat (first | with_reducible exact Below.refl _ _ | with_reducible assumption | with_reducible refine Below.al ?_ _ | with_reducible refine Below.sc ?_ (by first | exact Nat.le_refl _ | (simp; done) | (simp; omega)) _ | assumption | exact Below.refl _ _ | refine Below.dr ?_ | refine Below.drN ?_ _ | refine Below.step ?_ (by assumption)))) hb' | ((repeat (first | with_reducible exact Below.refl _ _ | with_reducible assumption | with_reducible refine Below.al ?_ _ | with_reducible refine Below.sc ?_ (by first | exact Nat.le_refl _ | (simp; done) | (simp; omega)) _ | assumption | exact Below.refl _ _ | refine Below.dr ?_ | refine Below.drN ?_ _ | refine Below.step ?_ (by assumption))); done)); have hf' := hC.cell; (try simp only [List.forall_mem_cons] at hf'); go_simp; first | exact ⟨(HC.out _ _).2 (hC.skip _ (by rfl)), rfl⟩ | (rw [if_neg]; (exact ⟨(HC.out _ _).2 (hC.skip _ (by rfl)), rfl⟩); omega) | (go_at_call 76; refine (HSY.out _).mono ?_; rintro e w1 ⟨rfl, hb1⟩; exact ⟨rfl, (HC.out _ _).2 ((hC.next (by first | (simp; done) | (simp; omega) | omega) hb1).skip _ (by rfl))⟩)); go_simp) | (apply flow_yes; (case hw => go_simp); (intro L w' hun hrd hC; have hC := (HC.out _ _).1 hC; have hb' := hC.below; (try have hw' : Below w.heap.size w w' := by first | exact Below.trans (by (repeat (first | with_reducible exact Below.refl _ _ | with_reducible assumption | with_reducible refine Below.al ?_ _ | with_reducible refine Below.sc ?_ (by first | exact Nat.le_refl _ | (simp; done) | (simp; omega)) _ | assumption | exact Below.refl _ _ | refine Below.dr ?_ | refine Below.drN ?_ _ | refine Below.step ?_ (by assumption)))) hb' | ((repeat (first | with_reducible exact Below.refl _ _ | with_reducible assumption | with_reducible refine Below.al ?_ _ | with_reducible refine Below.sc ?_ (by first | exact Nat.le_refl _ | (simp; done) | (simp; omega)) _ | assumption | exact Below.refl _ _ | refine Below.dr ?_ | refine Below.drN ?_ _ | refine Below.step ?_ (by assumption))); done)); have hf' := hC.cell; (try simp only [List.forall_mem_cons] at hf'); go_simp; first | exact ⟨(HC.out _ _).2 (hC.skip _ (by rfl)), rfl⟩ | (rw [if_neg]; (exact ⟨(HC.out _ _).2 (hC.skip _ (by rfl)), rfl⟩); omega) | (go_at_call 76; refine (HSY.out _).mono ?_; rintro e w1 ⟨rfl, hb1⟩; exact ⟨rfl, (HC.out _ _).2 ((hC.next (by first | (simp; done) | (simp; omega) | omega) hb1).skip _ (by rfl))⟩)); go_simp) | (apply flow_no; (case hw => (go_simp; try (intro hh; cases hh))); (intro L w' _ _ hC; exact (HC.out _ _).2 (((HC.out _ _).1 hC).skip _ (by rfl))); go_simp))
          refine flow_nil ?_
          intro L wz hL hz
          have hz := (HC.out _ _).1 hz
          have hbz := hz.below
          have hcz := hz.cell
          try simp only [List.forall_mem_cons] at hcz
          have hdz := hz.done
          try simp only [List.forall_mem_cons] at hdz
          (try have hwz : Below w.heap.size w wz := by first | exact Below.trans (by (repeat (first | with_reducible exact Below.refl _ _ | with_reducible assumption | with_reducible refine Below.al ?_ _ | with_reducible refine Below.sc ?_ (by first | exact Nat.le_refl _ | (simp; done) | (simp; omega)) _ | assumption | exact Below.refl _ _ | refine Below.dr ?_ | refine Below.drN ?_ _ | refine Below.step ?_ (by assumption)))) hbz | ((repeat (first | with_reducible exact Below.refl _ _ | with_reducible assumption | with_reducible refine Below.al ?_ _ | with_reducible refine Below.sc ?_ (by first | exact Nat.le_refl _ | (simp; done) | (simp; omega)) _ | assumption | exact Below.refl _ _ | refine Below.dr ?_ | refine Below.drN ?_ _ | refine Below.step ?_ (by assumption))); done))
          go_wp2
        all_goals first
          | (refine ⟨⟨k + 1, by omega, by go_num, ?_, HUB.out.later hbz⟩, by simp [intOf]; omega⟩; rw [HE.out, HD.out, HY.out, HP.out, ascS, HLS.out]; rfl)
          | (go_ret; exact ⟨ret_bool (by rw [HG2.out, HE.out, HD.out, HY.out, HP.out, ascS, HLS.out]; rfl), by (repeat (first | with_reducible exact Below.refl _ _ | with_reducible assumption | with_reducible refine Below.al ?_ _ | with_reducible refine Below.sc ?_ (by first | exact Nat.le_refl _ | (simp; done) | (simp; omega)) _ | assumption | exact Below.refl _ _ | refine Below.dr ?_ | refine Below.drN ?_ _ | refine Below.step ?_ (by assumption)))⟩)
    · obtain rfl : k = u.incs.length := by omega
      have he := HE.out
      rw [List.drop_length, namesF] at he
      have HG3 := Lib.hid (show u.good = (u.axs.all unitTxt && (u.goal.data.toList == [] || unitTxt u.goal)) by rw [HG2.out, he, Bool.true_and])
      clear he HE
      go_wp2
      go_loopw [4] (fun i wr => ∃ k : Nat, k ≤ u.axs.length ∧ i = .int .i64 k ∧ u.axs.all unitTxt = (u.axs.drop k).all unitTxt ∧ UBox u p q c d w wr) (fun i _ => u.axs.length - (intOf i).toNat)
      case atStart => exact ⟨0, Nat.zero_le _, rfl, rfl, HUB.out⟩
      case round =>
        clear HUB x0 x1 x2 x3 zub hb
        obtain ⟨k, hk, rfl, he, hub⟩ := hrel
        have HE := Lib.hid he
        have HUB := Lib.hid hub
        have hb := hub.bel
        have hqz := hb.size
        obtain ⟨x0, x1, x2, x3⟩ := hub.cells
        have zub := bsz (heap_lt hub.cell)
        clear he hub
        by_cases hlt : k < u.axs.length
        · obtain ⟨b, o, rfl, hB, hx0, hxs⟩ := (HA.out.below hb).at_ hlt
          have HD := Lib.hid (all_drop u.axs unitTxt hlt)
          have hza := HZ.out _ (List.getElem_mem hlt)
          obtain ⟨a, hae⟩ : ∃ a, u.axs[k] = a := ⟨_, rfl⟩
          rw [hae] at hx0 hxs HD hza
          clear hae
          have zb := bsz (World.block_lt_of_cell? _ _ hx0)
          cases hN : unitTxt a
          all_goals
            have HN := Lib.hid hN
            clear hN
            go_wp2_with fail
            refine (l27Text_any a _ hza).mono ?_
            rintro e w1 ⟨rfl, hb1⟩
            have ⟨cw1, fw1⟩ := bcell hb1
            have qw1 := hb1.size
            (try simp at qw1)
            (try have zw1w := bsz (show w.heap.size < w1.heap.size by omega))
            rw [HN.out]
            go_wp2
          · go_ret
            exact ⟨ret_bool (by rw [HG3.out, HE.out, HD.out, HN.out]; rfl), by (repeat (first | with_reducible exact Below.refl _ _ | with_reducible assumption | with_reducible refine Below.al ?_ _ | with_reducible refine Below.sc ?_ (by first | exact Nat.le_refl _ | (simp; done) | (simp; omega)) _ | assumption | exact Below.refl _ _ | refine Below.dr ?_ | refine Below.drN ?_ _ | refine Below.step ?_ (by assumption)))⟩
          · refine ⟨⟨k + 1, by omega, by go_num, ?_, HUB.out.later hb1⟩, by simp [intOf]; omega⟩
            rw [HE.out, HD.out, HN.out]; rfl
        · obtain rfl : k = u.axs.length := by omega
          have he := HE.out
          rw [List.drop_length, List.all_nil] at he
          have HG4 := Lib.hid (show u.good = (u.goal.data.toList == [] || unitTxt u.goal) by rw [HG3.out, he, Bool.true_and])
          clear he HE
          cases h6 : (u.goal.toList == [])
          case true =>
            have H6 := Lib.hid h6
            go_wp2
            go_ret
            exact ⟨ret_bool (by rw [HG4.out, ← ByteArray.toList_eq, H6.out]; rfl), by (repeat (first | with_reducible exact Below.refl _ _ | with_reducible assumption | with_reducible refine Below.al ?_ _ | with_reducible refine Below.sc ?_ (by first | exact Nat.le_refl _ | (simp; done) | (simp; omega)) _ | assumption | exact Below.refl _ _ | refine Below.dr ?_ | refine Below.drN ?_ _ | refine Below.step ?_ (by assumption)))⟩
          have H6 := Lib.hid h6
          go_wp2_with fail
          refine (l27Text_any u.goal _ hgz).mono ?_
          rintro e w1 ⟨rfl, hb1⟩
          have ⟨cw1, fw1⟩ := bcell hb1
          have qw1 := hb1.size
          (try simp at qw1)
          (try have zw1w := bsz (show w.heap.size < w1.heap.size by omega))
          go_wp2
          go_ret
          exact ⟨ret_bool (by rw [HG4.out, ← ByteArray.toList_eq, H6.out]; rfl), by (repeat (first | with_reducible exact Below.refl _ _ | with_reducible assumption | with_reducible refine Below.al ?_ _ | with_reducible refine Below.sc ?_ (by first | exact Nat.le_refl _ | (simp; done) | (simp; omega)) _ | assumption | exact Below.refl _ _ | refine Below.dr ?_ | refine Below.drN ?_ _ | refine Below.step ?_ (by assumption)))⟩
end Go.Proofs.YtimpkjiglioflaaGreatDoor
namespace Go.Proofs.YtimpkjiglioflaaGreatDoor
open Go.RowKit
/-- All blocks outside S are as they were. -/
structure Kept (S : Nat → Prop) (w w' : World) : Prop where
  os : w'.os = w.os
  tape : w'.tape = w.tape
  output : w'.output = w.output
  size : w.heap.size ≤ w'.heap.size
  block : ∀ b, b < w.heap.size → ¬ S b → w'.heap[b]? = w.heap[b]?
theorem blk_lt {w : World} {b : Nat} {o : Obj} (h : w.heap[b]? = some o) : b < w.heap.size := by
  rcases Nat.lt_or_ge b w.heap.size with h' | h'
  · exact h'
  · rw [Array.getElem?_eq_none h'] at h; cases h
/-- Block g's cells from a place on are cs, all others as in cur. -/
def Patch (cur cur' : Array Value) (o : Nat) (cs : List Value) : Prop := cur'.size = cur.size ∧ (∀ j, j < cs.length → cur'[o + j]? = cs[j]?) ∧ ∀ k, (k < o ∨ o + cs.length ≤ k) → cur'[k]? = cur[k]?
theorem Patch.refl {cur : Array Value} {o : Nat} {cs : List Value} (h : ∀ j, j < cs.length → cur[o + j]? = cs[j]?) : Patch cur cur o cs := ⟨rfl, h, fun _ _ => rfl⟩
theorem Patch.set {cur cur' : Array Value} {o : Nat} {cs : List Value} (h : Patch cur cur' o cs) {j : Nat} (hj : j < cs.length) (hb : o + cs.length ≤ cur.size) (v : Value) : Patch cur (cur'.setIfInBounds (o + j) v) o (cs.set j v) := by
  obtain ⟨h1, h2, h3⟩ := h
  refine ⟨by simpa using h1, fun i hi => ?_, fun k hk => ?_⟩
  · rw [List.length_set] at hi
    by_cases e : j = i
    · subst e
      rw [Array.getElem?_setIfInBounds_self_of_lt (by omega), List.getElem?_set_self hj]
    · rw [Array.getElem?_setIfInBounds_ne (by omega), List.getElem?_set_ne e, h2 i hi]
  · rw [List.length_set] at hk
    rw [Array.getElem?_setIfInBounds_ne (by omega), h3 k hk]
end Go.Proofs.YtimpkjiglioflaaGreatDoor
namespace Go.Proofs.YtimpkjiglioflaaGreatDoor
open Go.RowKit
/-- Of the row in block g (n elements, each of so many cells) the first k read as the list's; each one's memory is its own. -/
structure FillRow {α : Type} (S : Nat → Prop) (w : World) (e : TypeId) (size : Nat) (R : (Nat → Prop) → World → α → List Value → Prop) (g n k : Nat) (us : List α) : Prop where
  own : S g
  row : ∃ cur : Array Value, w.heap[g]? = some (.cells cur e (0, 0)) ∧ cur.size = n * size ∧ ∃ Ss : Nat → Nat → Prop,
    (∀ j x, j < k → us[j]? = some x → ∃ cs : List Value, cs.length = size ∧ (∀ i, i < size → cur[j * size + i]? = cs[i]?) ∧ R (Ss j) w x cs ∧ ∀ b, Ss j b → S b ∧ b ≠ g ∧ b < w.heap.size) ∧
    ∀ i j b, i < k → j < k → i ≠ j → Ss i b → ¬ Ss j b
theorem FillRow.start {α : Type} {S : Nat → Prop} {w : World} {e : TypeId} {size base g n : Nat} {R : (Nat → Prop) → World → α → List Value → Prop} {xs : List Value} {us : List α} (hS : S g) (h : w.ownsRow base e size (.slice (some ⟨g, 0, none⟩) n n) n xs) : FillRow S w e size R g n 0 us := by
  refine ⟨hS, ?_⟩
  rcases h.2 with ⟨h0, _⟩ | ⟨g', cap, cur, hv, _, hh, _, _, hc, _⟩
  · cases h0
  · simp only [Value.slice.injEq, Option.some.injEq, Addr.mk.injEq, and_true, true_and] at hv
    obtain ⟨rfl, rfl⟩ := hv
    exact ⟨cur, hh, hc, fun _ _ => False, fun j x hj => absurd hj (Nat.not_lt_zero _), fun i j b hi => absurd hi (Nat.not_lt_zero _)⟩
theorem FillRow.later {α : Type} {S : Nat → Prop} {w w1 : World} {e : TypeId} {size g n k : Nat} {R : (Nat → Prop) → World → α → List Value → Prop} {us : List α} (h : FillRow S w e size R g n k us) (hb : Below w.heap.size w w1)
    (hm : ∀ T x cs, (∀ b, T b → b < w.heap.size) → R T w x cs → R T w1 x cs) : FillRow S w1 e size R g n k us := by
  obtain ⟨hS, cur, hh, hc, Ss, h1, h2⟩ := h
  refine ⟨hS, cur, (hb.block g (blk_lt hh)).trans hh, hc, Ss, fun j x hj hx => ?_, h2⟩
  obtain ⟨cs, a1, a2, a3, a4⟩ := h1 j x hj hx
  exact ⟨cs, a1, a2, hm _ _ _ (fun b hb => (a4 b hb).2.2) a3, fun b hb' => ⟨(a4 b hb').1, (a4 b hb').2.1, Nat.lt_of_lt_of_le (a4 b hb').2.2 hb.size⟩⟩
theorem FillRow.wider {α : Type} {S S' : Nat → Prop} {w : World} {e : TypeId} {size g n k : Nat} {R : (Nat → Prop) → World → α → List Value → Prop} {us : List α} (h : FillRow S w e size R g n k us) (hS : ∀ b, S b → S' b) : FillRow S' w e size R g n k us := by
  obtain ⟨h0, cur, hh, hc, Ss, h1, h2⟩ := h
  refine ⟨hS _ h0, cur, hh, hc, Ss, fun j x hj hx => ?_, h2⟩
  obtain ⟨cs, a1, a2, a3, a4⟩ := h1 j x hj hx
  exact ⟨cs, a1, a2, a3, fun b hb => ⟨hS _ (a4 b hb).1, (a4 b hb).2⟩⟩
theorem FillRow.lt {α : Type} {S : Nat → Prop} {w : World} {e : TypeId} {size g n k : Nat} {R : (Nat → Prop) → World → α → List Value → Prop} {us : List α} (h : FillRow S w e size R g n k us) : g < w.heap.size := by
  obtain ⟨_, _, hh, _⟩ := h; exact blk_lt hh
theorem FillRow.cell {α : Type} {S : Nat → Prop} {w : World} {e : TypeId} {size g n k : Nat} {R : (Nat → Prop) → World → α → List Value → Prop} {us : List α} (h : FillRow S w e size R g n k us) (j : Nat) (hj : j < n * size) : (∃ q, w.cell? ⟨g, j, none⟩ = some q) ∧ w.frozen? ⟨g, j, none⟩ = false := by
  obtain ⟨_, cur, hh, hc, _⟩ := h
  exact ⟨⟨cur[j], (cell_of_row w g j cur _ (0, 0) hh).trans (Array.getElem?_eq_getElem (by omega))⟩, frozen_of_row w g j _ _ hh⟩
theorem FillRow.put {α : Type} {S T : Nat → Prop} {w w1 w2 : World} {e : TypeId} {size g n k : Nat} {R : (Nat → Prop) → World → α → List Value → Prop} {us : List α} {x : α} {cs : List Value} (h : FillRow S w e size R g n k us) (hk : k < n) (hx : us[k]? = some x)
    (hb : Below w.heap.size w w1) (hl : cs.length = size) (hR : R T w2 x cs) (hT : ∀ b, T b → S b ∧ b ≠ g ∧ w.heap.size ≤ b ∧ b < w2.heap.size)
    (hp : ∀ cur : Array Value, w1.heap[g]? = some (.cells cur e (0, 0)) → k * size + size ≤ cur.size → ∃ cur', w2.heap[g]? = some (.cells cur' e (0, 0)) ∧ Patch cur cur' (k * size) cs)
    (hsz : w1.heap.size ≤ w2.heap.size) (hm : ∀ T x cs, (∀ b, T b → b < w.heap.size ∧ b ≠ g) → R T w x cs → R T w2 x cs) : FillRow S w2 e size R g n (k + 1) us := by
  obtain ⟨hS, cur, hh, hc, Ss, h1, h2⟩ := h
  have hg := blk_lt hh
  have h5 : (k + 1) * size ≤ n * size := Nat.mul_le_mul_right _ hk
  rw [Nat.succ_mul] at h5
  obtain ⟨cur', hh', hpt⟩ := hp cur ((hb.block g hg).trans hh) (by omega)
  have hws := hb.size
  refine ⟨hS, cur', hh', hpt.1.trans hc, fun j => if j = k then T else Ss j, fun j y hj hy => ?_, fun i j b hi hj hij hbi => ?_⟩
  · by_cases e : j = k
    · subst e
      rw [hx] at hy
      obtain rfl := Option.some.inj hy
      simp only [if_pos]
      exact ⟨cs, hl, fun i hi => hpt.2.1 i (by omega), hR, fun b hb' => ⟨(hT b hb').1, (hT b hb').2.1, (hT b hb').2.2.2⟩⟩
    · obtain ⟨ds, a1, a2, a3, a4⟩ := h1 j y (by omega) hy
      simp only [if_neg e]
      refine ⟨ds, a1, fun i hi => ?_, hm _ _ _ (fun b hb' => ⟨(a4 b hb').2.2, (a4 b hb').2.1⟩) a3, fun b hb' => ⟨(a4 b hb').1, (a4 b hb').2.1, by have := (a4 b hb').2.2; omega⟩⟩
      have h6 : (j + 1) * size ≤ k * size := Nat.mul_le_mul_right _ (by omega)
      rw [Nat.succ_mul] at h6
      rw [hpt.2.2 _ (.inl (by omega))]; exact a2 i hi
  · by_cases e : i = k
    · have ej : ¬ j = k := by omega
      simp only [if_pos e] at hbi
      simp only [if_neg ej]
      intro hbj
      rcases Nat.lt_or_ge j us.length with hlt | hge
      · obtain ⟨ds, _, _, _, a4⟩ := h1 j us[j] (by omega) (List.getElem?_eq_getElem hlt)
        have := (a4 b hbj).2.2
        have := (hT b hbi).2.2.1
        omega
      · have := (List.getElem?_eq_some_iff.1 hx).1; omega
    · simp only [if_neg e] at hbi
      by_cases ej : j = k
      · simp only [if_pos ej]
        intro hbj
        rcases Nat.lt_or_ge i us.length with hlt | hge
        · obtain ⟨ds, _, _, _, a4⟩ := h1 i us[i] (by omega) (List.getElem?_eq_getElem hlt)
          have := (a4 b hbi).2.2
          have := (hT b hbj).2.2.1
          omega
        · have := (List.getElem?_eq_some_iff.1 hx).1; omega
      · simp only [if_neg ej]
        exact h2 i j b (by omega) (by omega) hij hbi
theorem FillRow.done {α : Type} {S : Nat → Prop} {w : World} {e : TypeId} {size g : Nat} {R : (Nat → Prop) → World → α → List Value → Prop} {us : List α} (h : FillRow S w e size R g us.length us.length us) (hm : us.length ≤ maxLen) : OwnRow S w e size (fun T x cs => R T w x cs) (.slice (some ⟨g, 0, none⟩) us.length us.length) us := by
  obtain ⟨hS, cur, hh, hc, Ss, h1, h2⟩ := h
  refine ⟨hm, cur.toList, Ss, ⟨by simpa using hc, .inr ⟨g, us.length, cur, rfl, Nat.zero_le _, hh, Nat.le_refl _, hm, hc, by rw [List.take_of_length_le (by simp [hc])]⟩⟩, fun g' hg' => ?_, fun i x hx => ?_, h2⟩
  · have : g = g' := by simpa [Value.ownBlock] using hg'
    exact this ▸ hS
  · have hi := (List.getElem?_eq_some_iff.1 hx).1
    obtain ⟨cs, a1, a2, a3, a4⟩ := h1 i x hi hx
    have h6 : (i + 1) * size ≤ us.length * size := Nat.mul_le_mul_right _ hi
    rw [Nat.succ_mul] at h6
    have : (cur.toList.drop (i * size)).take size = cs := by
      apply List.ext_getElem?
      intro j
      rw [List.getElem?_take]
      split
      · rename_i hj
        rw [List.getElem?_drop, Array.getElem?_toList]; exact a2 j hj
      · rw [List.getElem?_eq_none (by omega)]
    rw [this]
    exact ⟨a3, fun b hb => ⟨(a4 b hb).1, fun e => (a4 b hb).2.1 (by simpa [Value.ownBlock] using e.symm)⟩⟩
end Go.Proofs.YtimpkjiglioflaaGreatDoor
namespace Go.Proofs.YtimpkjiglioflaaGreatDoor
open Go.RowKit
def StrOwn (e : TypeId) (S : Nat → Prop) (w : World) (us : List ByteArray) (v : Value) : Prop := OwnRow S w e 1 (fun _ s cs => StrAt s cs) v us
theorem StrOwn.mono {e : TypeId} {S S' : Nat → Prop} {w w' : World} {us : List ByteArray} {v : Value} (hs : SameOn S w w') (hS : ∀ b, S b → S' b) (h : StrOwn e S w us v) : StrOwn e S' w' us v := OwnRow.mono h hs hS (fun _ _ _ _ _ hx => hx)
theorem StrOwn.at_ {e : TypeId} {S : Nat → Prop} {w : World} {us : List ByteArray} {v : Value} (h : StrOwn e S w us v) : StrsAt S w v us := OwnRow.listAt (by omega) h (fun _ _ _ _ _ hx => hx)
def strW (l : List ByteArray) : List Value := l.map Value.string
theorem strW_snoc (l : List ByteArray) (s : ByteArray) : strW (l ++ [s]) = strW l ++ [Value.string s] := by simp [strW]
/-- A row of texts that lies by itself. -/
theorem rowS_own {S : Nat → Prop} {w : World} {base : Nat} {e : TypeId} {v : Value} {us : List ByteArray} (h : w.ownsRow base e 1 v us.length (strW us)) (hz : ∀ s ∈ us, s.size ≤ maxLen) (hm : us.length ≤ maxLen) (hS : ∀ g, v.ownBlock = some g → S g) : StrOwn e S w us v := by
  refine ⟨hm, strW us, fun _ _ => False, own_lower h (Nat.zero_le _), hS, fun i x hx => ⟨⟨?_, hz x (List.mem_of_getElem? hx)⟩, fun b hb => hb.elim⟩, fun i j b hi hj hij hb => hb.elim⟩
  have hi := (List.getElem?_eq_some_iff.1 hx).1
  have hx' := (List.getElem?_eq_some_iff.1 hx).2
  rw [Nat.mul_one, List.drop_eq_getElem_cons (by simpa [strW] using hi), List.take_succ_cons, List.take_zero]
  simp [strW, hx']
/-- The length of the slice that a box holds. -/
def lenB (w : World) (g : Nat) : Nat := match w.cell? ⟨g, 0, none⟩ with | some (.slice _ n _) => n | _ => 0
theorem lenB_of {w : World} {g n c : Nat} {p : Option Addr} (h : w.cell? ⟨g, 0, none⟩ = some (.slice p n c)) : lenB w g = n := by rw [lenB, h]
theorem new_at {w : World} {o : Obj} {k : Nat} (h : w.heap.size = k) : (w.alloc o).heap[k]? = some o := h ▸ heap_alloc_new w o
def ToSRel (us : List ByteArray) (w : World) (i : Value) (wr : World) : Prop :=
  ∃ k : Nat, k ≤ us.length ∧ i = .int .i64 k ∧ FillRow (NewB w wr) wr 9 1 (fun _ _ s cs => StrAt s cs) w.heap.size us.length k us ∧ Below w.heap.size w wr
set_option maxRecDepth 100000 in
set_option maxHeartbeats 3200000 in
theorem toStringS_own {B : Nat → Prop} (us : List ByteArray) (va : Value) (w : World) (h : StrsAt B w va us) (hw : us.length + wtS us ≤ 1048576) :
    Calls Tryz.prog 88 #[va] w fun e w' => ∃ g, e = .returned (.slice (some ⟨g, 0, none⟩) us.length us.length) ∧ StrOwn 9 (NewB w w') w' us (.slice (some ⟨g, 0, none⟩) us.length us.length) ∧ Below w.heap.size w w' := by
  obtain ⟨p, c, rfl, -⟩ := h.form
  have H := Lib.hid h
  have HW := Lib.hid hw
  have hlen : us.length ≤ 1048576 := by omega
  obtain ⟨-, i, z, hi, hz, hsz, hby, hzs, -⟩ := elemStrL
  clear h hw
  go_enter Tryz.func88, Tryz.ntmps88
  go_wp2_with (at_make; refine wpList_make_full _ rfl _ _ _ rfl w.heap.size 9 i z 1 Tryz.underlying22 hi hz hsz _ _ _ _ us.length rfl rfl rfl rfl (by rw [hby]; omega) (by unfold maxLen; omega) (Nat.le_refl _) ?_; intro w1 ho1 hg1)
  have hb1 : Below w.heap.size w w1 := ⟨hg1.os, hg1.tape, hg1.output, hg1.size, fun k hk => hg1.block k hk (by simp)⟩
  have HF1 := Lib.hid (show FillRow (NewB w w1) w1 9 1 (fun _ _ s cs => StrAt s cs) w.heap.size us.length 0 us from FillRow.start ⟨Nat.le_refl _, own_lt ho1⟩ ho1)
  clear ho1 hg1
  go_loopw [4] (ToSRel us w) (fun i _ => us.length - (intOf i).toNat)
  case atStart => exact ⟨0, Nat.zero_le _, rfl, HF1.out, hb1⟩
  case round =>
    obtain ⟨k, hk, rfl, hf, hb⟩ := hrel
    have HF := Lib.hid hf
    have hgw := hf.lt
    clear hf HF1 hb1
    by_cases hlt : k < us.length
    · obtain ⟨b, o, rfl, hB, hx0, hxs⟩ := (H.out.below hb).at_ hlt
      have hcz := HF.out.cell k (by omega)
      obtain ⟨⟨q0, hq0⟩, hf0⟩ := hcz
      obtain ⟨a, ha⟩ : ∃ a, us[k] = a := ⟨_, rfl⟩
      have HK : Hid (us[k]? = some a) := Lib.hid (by rw [List.getElem?_eq_getElem hlt, ha])
      rw [ha] at hx0 hxs
      clear ha
      have hgb := bsz hgw
      go_wp2
      refine ⟨⟨k + 1, by omega, by go_num, ?_, hb.setCell (Nat.le_refl _) _⟩, by simp [intOf]; omega⟩
      refine FillRow.put (T := fun _ => False) (HF.out.wider (fun b hb => ⟨hb.1, by simpa using hb.2⟩)) hlt HK.out (Below.refl _ _) rfl ⟨rfl, hxs⟩ (fun _ h => h.elim) (fun cur hc hz => ⟨_, heap_setCell_same wr _ k cur _ (.string a) hc, ?_⟩) (by simp) (fun _ _ _ _ hx => hx)
      have := Patch.set (cur := cur) (cur' := cur) (o := k * 1) (cs := [q0]) ⟨rfl, fun j hj => ?_, fun _ _ => rfl⟩ (j := 0) (by simp) hz (.string a)
      · simpa using this
      · obtain rfl : j = 0 := by simpa using hj
        have h1 := (cell_of_row wr _ k cur _ (0, 0) hc).symm.trans hq0
        simpa using h1
    · obtain rfl : k = us.length := by omega
      go_wp2
      go_ret
      exact ⟨_, rfl, HF.out.done (by unfold maxLen; omega), hb⟩
end Go.Proofs.YtimpkjiglioflaaGreatDoor
namespace Go.Proofs.YtimpkjiglioflaaGreatDoor
open Go.RowKit
def wtU : List Un → Nat | [] => 0 | a :: us => a.wt + wtU us
theorem wtU_drop (us : List Un) {k : Nat} (h : k < us.length) : wtU (us.drop k) = us[k].wt + wtU (us.drop (k + 1)) := by rw [List.drop_eq_getElem_cons h, wtU]
theorem wtU_le : ∀ (us : List Un), ∀ u ∈ us, u.wt ≤ wtU us
  | [], _, h => by simp at h
  | a :: us, s, h => by
    rw [wtU]
    rcases List.mem_cons.1 h with rfl | h
    · omega
    · have := wtU_le us s h; omega
def UnsAt (B : Nat → Prop) (w : World) (v : Value) (us : List Un) : Prop := ListAt B w 4 (UnAt B w) v us
theorem UnsAt.mono {B B' : Nat → Prop} {w w' : World} {v : Value} {us : List Un} (hs : SameOn B w w') (hB : ∀ b, B b → B' b) (h : UnsAt B w v us) : UnsAt B' w' v us := ListAt.mono h hs hB (fun _ _ _ h => h.mono hs hB)
theorem UnsAt.below {B : Nat → Prop} {w w' : World} {v : Value} {us : List Un} (hb : Below w.heap.size w w') (h : UnsAt B w v us) : UnsAt B w' v us := h.mono (SameOn.below hb) (fun _ h => h)
theorem UnsAt.form {B : Nat → Prop} {w : World} {v : Value} {us : List Un} (h : UnsAt B w v us) : ∃ p c, v = .slice p us.length c ∧ us.length ≤ maxLen := ListAt.form h
theorem UnsAt.at_ {B : Nat → Prop} {w : World} {p : Option Addr} {n c : Nat} {us : List Un} (h : UnsAt B w (.slice p n c) us) {i : Nat} (hi : i < us.length) : ∃ b o, p = some ⟨b, o, none⟩ ∧ B b ∧ ∃ p1 c1 p2 c2, w.cell? ⟨b, o + i * 4, none⟩ = some (.string us[i].name) ∧ w.cell? ⟨b, o + i * 4 + 1, none⟩ = some (.slice p1 us[i].incs.length c1) ∧ w.cell? ⟨b, o + i * 4 + 2, none⟩ = some (.slice p2 us[i].axs.length c2) ∧ w.cell? ⟨b, o + i * 4 + 3, none⟩ = some (.string us[i].goal) ∧ UnAt B w us[i] [.string us[i].name, .slice p1 us[i].incs.length c1, .slice p2 us[i].axs.length c2, .string us[i].goal] := by
  obtain ⟨b, o, h1, h2, x0, x1, x2, x3, c0, c1, c2, c3, hR⟩ := ListAt.at4 h hi
  obtain ⟨p1, k1, p2, k2, rfl, rfl, rfl, rfl, -⟩ := hR.form
  exact ⟨b, o, h1, h2, p1, k1, p2, k2, c0, c1, c2, c3, hR⟩
set_option maxRecDepth 100000 in
set_option maxHeartbeats 1600000 in
theorem szUnit_any {B : Nat → Prop} (u : Un) (v0 v1 v2 v3 : Value) (left : Int) (w : World) (h : UnAt B w u [v0, v1, v2, v3]) (h0 : 0 ≤ left) (h1 : left ≤ 1048576) :
    Calls Tryz.prog 50 #[.agg #[v0, v1, v2, v3], .int .i64 left] w fun e w' => e = .returned (.int .i64 (szR left u.wt)) ∧ Below w.heap.size w w' := by
  obtain ⟨p, c, q, d, rfl, rfl, rfl, rfl, hn, hg, l1, l2, hi, ha⟩ := h.form
  unfold maxLen at hn hg l1 l2
  have HI := Lib.hid hi
  have HA := Lib.hid ha
  have HW := Lib.hid (show u.wt = u.name.size + (u.incs.length + wtS u.incs) + (u.axs.length + wtS u.axs) + u.goal.size from rfl)
  clear h hi ha
  go_enter Tryz.func50, Tryz.ntmps50
  by_cases g1 : (u.name.size : Int) ≤ left
  case neg =>
    go_wp2
    go_ret
    exact ⟨ret_int (by have := HW.out; rw [szR, if_neg (by omega)]), by (repeat (first | with_reducible exact Below.refl _ _ | with_reducible assumption | with_reducible refine Below.al ?_ _ | with_reducible refine Below.sc ?_ (by first | exact Nat.le_refl _ | (simp; done) | (simp; omega)) _ | assumption | exact Below.refl _ _ | refine Below.dr ?_ | refine Below.drN ?_ _ | refine Below.step ?_ (by assumption)))⟩
  by_cases g2 : ((u.incs.length + wtS u.incs : Nat) : Int) ≤ left - u.name.size
  case neg =>
    have HS := Lib.hid (show szR (left - u.name.size) (u.incs.length + wtS u.incs) = -1 from if_neg g2)
    go_wp2_with fail
    refine (szStringS_any u.incs _ _ _ (HI.out.below (by (repeat (first | with_reducible exact Below.refl _ _ | with_reducible assumption | with_reducible refine Below.al ?_ _ | with_reducible refine Below.sc ?_ (by first | exact Nat.le_refl _ | (simp; done) | (simp; omega)) _ | assumption | exact Below.refl _ _ | refine Below.dr ?_ | refine Below.drN ?_ _ | refine Below.step ?_ (by assumption))))) (by omega) (by omega)).mono ?_
    rintro e w1 ⟨rfl, hb1⟩
    have ⟨cw1, fw1⟩ := bcell hb1
    have qw1 := hb1.size
    (try simp at qw1)
    (try have zw1w := bsz (show w.heap.size < w1.heap.size by omega))
    rw [HS.out]
    go_wp2
    go_ret
    exact ⟨ret_int (by have := HW.out; rw [szR, if_neg (by omega)]), by (repeat (first | with_reducible exact Below.refl _ _ | with_reducible assumption | with_reducible refine Below.al ?_ _ | with_reducible refine Below.sc ?_ (by first | exact Nat.le_refl _ | (simp; done) | (simp; omega)) _ | assumption | exact Below.refl _ _ | refine Below.dr ?_ | refine Below.drN ?_ _ | refine Below.step ?_ (by assumption)))⟩
  have HS := Lib.hid (show szR (left - u.name.size) (u.incs.length + wtS u.incs) = left - u.name.size - ((u.incs.length : Int) + (wtS u.incs : Nat)) by rw [szR, if_pos g2]; omega)
  go_wp2_with fail
  refine (szStringS_any u.incs _ _ _ (HI.out.below (by (repeat (first | with_reducible exact Below.refl _ _ | with_reducible assumption | with_reducible refine Below.al ?_ _ | with_reducible refine Below.sc ?_ (by first | exact Nat.le_refl _ | (simp; done) | (simp; omega)) _ | assumption | exact Below.refl _ _ | refine Below.dr ?_ | refine Below.drN ?_ _ | refine Below.step ?_ (by assumption))))) (by omega) (by omega)).mono ?_
  rintro e w1 ⟨rfl, hb1⟩
  have ⟨cw1, fw1⟩ := bcell hb1
  have qw1 := hb1.size
  (try simp at qw1)
  (try have zw1w := bsz (show w.heap.size < w1.heap.size by omega))
  rw [HS.out]
  by_cases g3 : ((u.axs.length + wtS u.axs : Nat) : Int) ≤ left - u.name.size - (u.incs.length + wtS u.incs : Nat)
  case neg =>
    have HS2 := Lib.hid (show szR (left - u.name.size - ((u.incs.length : Int) + (wtS u.incs : Nat))) (u.axs.length + wtS u.axs) = -1 by rw [szR, if_neg (by omega)])
    go_wp2_with fail
    refine (szStringS_any u.axs _ _ _ (HA.out.below (by (repeat (first | with_reducible exact Below.refl _ _ | with_reducible assumption | with_reducible refine Below.al ?_ _ | with_reducible refine Below.sc ?_ (by first | exact Nat.le_refl _ | (simp; done) | (simp; omega)) _ | assumption | exact Below.refl _ _ | refine Below.dr ?_ | refine Below.drN ?_ _ | refine Below.step ?_ (by assumption))))) (by omega) (by omega)).mono ?_
    rintro e w2 ⟨rfl, hb2⟩
    have ⟨cw2, fw2⟩ := bcell hb2
    have qw2 := hb2.size
    (try simp at qw2)
    (try have zw2w := bsz (show w.heap.size < w2.heap.size by omega))
    (try have zw2w1 := bsz (show w1.heap.size < w2.heap.size by omega))
    rw [HS2.out]
    go_wp2
    go_ret
    exact ⟨ret_int (by have := HW.out; rw [szR, if_neg (by omega)]), by (repeat (first | with_reducible exact Below.refl _ _ | with_reducible assumption | with_reducible refine Below.al ?_ _ | with_reducible refine Below.sc ?_ (by first | exact Nat.le_refl _ | (simp; done) | (simp; omega)) _ | assumption | exact Below.refl _ _ | refine Below.dr ?_ | refine Below.drN ?_ _ | refine Below.step ?_ (by assumption)))⟩
  have HS2 := Lib.hid (show szR (left - u.name.size - ((u.incs.length : Int) + (wtS u.incs : Nat))) (u.axs.length + wtS u.axs) = left - u.name.size - ((u.incs.length : Int) + (wtS u.incs : Nat)) - ((u.axs.length : Int) + (wtS u.axs : Nat)) by rw [szR, if_pos (by omega)]; omega)
  go_wp2_with fail
  refine (szStringS_any u.axs _ _ _ (HA.out.below (by (repeat (first | with_reducible exact Below.refl _ _ | with_reducible assumption | with_reducible refine Below.al ?_ _ | with_reducible refine Below.sc ?_ (by first | exact Nat.le_refl _ | (simp; done) | (simp; omega)) _ | assumption | exact Below.refl _ _ | refine Below.dr ?_ | refine Below.drN ?_ _ | refine Below.step ?_ (by assumption))))) (by omega) (by omega)).mono ?_
  rintro e w2 ⟨rfl, hb2⟩
  have ⟨cw2, fw2⟩ := bcell hb2
  have qw2 := hb2.size
  (try simp at qw2)
  (try have zw2w := bsz (show w.heap.size < w2.heap.size by omega))
  (try have zw2w1 := bsz (show w1.heap.size < w2.heap.size by omega))
  rw [HS2.out]
  by_cases g4 : (u.goal.size : Int) ≤ left - u.name.size - (u.incs.length + wtS u.incs : Nat) - (u.axs.length + wtS u.axs : Nat)
  case neg =>
    go_wp2
    go_ret
    exact ⟨ret_int (by have := HW.out; rw [szR, if_neg (by omega)]), by (repeat (first | with_reducible exact Below.refl _ _ | with_reducible assumption | with_reducible refine Below.al ?_ _ | with_reducible refine Below.sc ?_ (by first | exact Nat.le_refl _ | (simp; done) | (simp; omega)) _ | assumption | exact Below.refl _ _ | refine Below.dr ?_ | refine Below.drN ?_ _ | refine Below.step ?_ (by assumption)))⟩
  go_wp2
  go_ret
  exact ⟨ret_int (by have := HW.out; rw [szR, if_pos (by omega)]; omega), by (repeat (first | with_reducible exact Below.refl _ _ | with_reducible assumption | with_reducible refine Below.al ?_ _ | with_reducible refine Below.sc ?_ (by first | exact Nat.le_refl _ | (simp; done) | (simp; omega)) _ | assumption | exact Below.refl _ _ | refine Below.dr ?_ | refine Below.drN ?_ _ | refine Below.step ?_ (by assumption)))⟩
set_option maxRecDepth 100000 in
set_option maxHeartbeats 1600000 in
theorem szUnitS_any {B : Nat → Prop} (us : List Un) (va : Value) (left : Int) (w : World) (h : UnsAt B w va us) (h0 : 0 ≤ left) (h1 : left ≤ 1048576) :
    Calls Tryz.prog 13 #[va, .int .i64 left] w fun e w' => e = .returned (.int .i64 (szR left (us.length + wtU us))) ∧ Below w.heap.size w w' := by
  obtain ⟨p, c, rfl, hlen⟩ := h.form
  unfold maxLen at hlen
  have H := Lib.hid h
  clear h
  by_cases hl : (us.length : Int) ≤ left
  · go_enter Tryz.func13, Tryz.ntmps13
    go_wp2
    go_loopw [1, 5] (fun l i wr => ∃ k done : Nat, k ≤ us.length ∧ i = .int .i64 k ∧ done + wtU (us.drop k) = wtU us ∧ l = .int .i64 (left - us.length - done) ∧ (done : Int) ≤ left - us.length ∧ Below w.heap.size w wr) (fun _ i _ => us.length - (intOf i).toNat)
    case atStart => exact ⟨0, 0, Nat.zero_le _, rfl, by simp, by simp, by omega, by (repeat (first | with_reducible exact Below.refl _ _ | with_reducible assumption | with_reducible refine Below.al ?_ _ | with_reducible refine Below.sc ?_ (by first | exact Nat.le_refl _ | (simp; done) | (simp; omega)) _ | assumption | exact Below.refl _ _ | refine Below.dr ?_ | refine Below.drN ?_ _ | refine Below.step ?_ (by assumption)))⟩
    case round =>
      obtain ⟨k, done, hk, rfl, hd, rfl, hdl, hb⟩ := hrel
      have HD := Lib.hid hd
      clear hd
      by_cases hlt : k < us.length
      · obtain ⟨b, o, rfl, hB, p1, c1, p2, c2, hx0, hx1, hx2, hx3, hx⟩ := (H.out.below hb).at_ hlt
        have HW := Lib.hid (wtU_drop us hlt)
        obtain ⟨a, ha⟩ : ∃ a, us[k] = a := ⟨_, rfl⟩
        rw [ha] at hx hx0 hx1 hx2 hx3 HW
        have HX := Lib.hid hx
        clear hx ha
        by_cases hw : (a.wt : Int) ≤ left - us.length - done
        · have hs : szR (left - us.length - done) a.wt = left - us.length - done - a.wt := if_pos hw
          have HS := Lib.hid hs
          clear hs
          go_wp2_with fail
          refine (szUnit_any a _ _ _ _ _ _ HX.out (by omega) (by omega)).mono ?_
          rintro e w1 ⟨rfl, hb1⟩
          have ⟨cw1, fw1⟩ := bcell hb1
          have qw1 := hb1.size
          (try simp at qw1)
          (try have zw1w := bsz (show w.heap.size < w1.heap.size by omega))
          rw [HS.out]
          go_wp2
          have h1 := HD.out
          have h2 := HW.out
          refine ⟨⟨k + 1, done + a.wt, by omega, by go_num, by omega, ?_, by omega, by (repeat (first | with_reducible exact Below.refl _ _ | with_reducible assumption | with_reducible refine Below.al ?_ _ | with_reducible refine Below.sc ?_ (by first | exact Nat.le_refl _ | (simp; done) | (simp; omega)) _ | assumption | exact Below.refl _ _ | refine Below.dr ?_ | refine Below.drN ?_ _ | refine Below.step ?_ (by assumption)))⟩, by simp [intOf]; omega⟩
          exact congrArg (Value.int .i64) (by omega)
        · have HS := Lib.hid (show szR (left - us.length - done) a.wt = -1 from if_neg hw)
          go_wp2_with fail
          refine (szUnit_any a _ _ _ _ _ _ HX.out (by omega) (by omega)).mono ?_
          rintro e w1 ⟨rfl, hb1⟩
          have ⟨cw1, fw1⟩ := bcell hb1
          have qw1 := hb1.size
          (try simp at qw1)
          (try have zw1w := bsz (show w.heap.size < w1.heap.size by omega))
          rw [HS.out]
          go_wp2
          go_ret
          have h1 := HD.out
          have h2 := HW.out
          exact ⟨ret_int (by rw [szR, if_neg (by omega)]), by (repeat (first | with_reducible exact Below.refl _ _ | with_reducible assumption | with_reducible refine Below.al ?_ _ | with_reducible refine Below.sc ?_ (by first | exact Nat.le_refl _ | (simp; done) | (simp; omega)) _ | assumption | exact Below.refl _ _ | refine Below.dr ?_ | refine Below.drN ?_ _ | refine Below.step ?_ (by assumption)))⟩
      · obtain rfl : k = us.length := by omega
        have hd := HD.out
        rw [List.drop_length, wtU] at hd
        have HD2 := Lib.hid hd
        clear hd
        go_wp2
        go_ret
        have h1 := HD2.out
        exact ⟨ret_int (by rw [szR, if_pos (by omega)]; omega), by (repeat (first | with_reducible exact Below.refl _ _ | with_reducible assumption | with_reducible refine Below.al ?_ _ | with_reducible refine Below.sc ?_ (by first | exact Nat.le_refl _ | (simp; done) | (simp; omega)) _ | assumption | exact Below.refl _ _ | refine Below.dr ?_ | refine Below.drN ?_ _ | refine Below.step ?_ (by assumption)))⟩
  · go_enter Tryz.func13, Tryz.ntmps13
    go_wp2
    go_ret
    exact ⟨ret_int (by rw [szR, if_neg (by omega)]), by (repeat (first | with_reducible exact Below.refl _ _ | with_reducible assumption | with_reducible refine Below.al ?_ _ | with_reducible refine Below.sc ?_ (by first | exact Nat.le_refl _ | (simp; done) | (simp; omega)) _ | assumption | exact Below.refl _ _ | refine Below.dr ?_ | refine Below.drN ?_ _ | refine Below.step ?_ (by assumption)))⟩
set_option maxRecDepth 100000 in
set_option maxHeartbeats 1600000 in
theorem eqUnit_same {B B' : Nat → Prop} (u : Un) (v0 v1 v2 v3 u0 u1 u2 u3 : Value) (w : World) (h : UnAt B w u [v0, v1, v2, v3]) (h' : UnAt B' w u [u0, u1, u2, u3]) :
    Calls Tryz.prog 10 #[.agg #[v0, v1, v2, v3], .agg #[u0, u1, u2, u3]] w fun e w' => e = .returned (.bool true) ∧ Below w.heap.size w w' := by
  obtain ⟨p, c, q, d, rfl, rfl, rfl, rfl, hn, hg, l1, l2, hi, ha⟩ := h.form
  obtain ⟨p', c', q', d', rfl, rfl, rfl, rfl, -, -, -, -, hi', ha'⟩ := h'.form
  have HI := Lib.hid hi
  have HA := Lib.hid ha
  have HI' := Lib.hid hi'
  have HA' := Lib.hid ha'
  clear h hi ha h' hi' ha'
  go_enter Tryz.func10, Tryz.ntmps10
  skip
  go_wp2_with fail
  refine (eqStringS_same u.incs _ _ _ (HI.out.below (by (repeat (first | with_reducible exact Below.refl _ _ | with_reducible assumption | with_reducible refine Below.al ?_ _ | with_reducible refine Below.sc ?_ (by first | exact Nat.le_refl _ | (simp; done) | (simp; omega)) _ | assumption | exact Below.refl _ _ | refine Below.dr ?_ | refine Below.drN ?_ _ | refine Below.step ?_ (by assumption))))) (HI'.out.below (by (repeat (first | with_reducible exact Below.refl _ _ | with_reducible assumption | with_reducible refine Below.al ?_ _ | with_reducible refine Below.sc ?_ (by first | exact Nat.le_refl _ | (simp; done) | (simp; omega)) _ | assumption | exact Below.refl _ _ | refine Below.dr ?_ | refine Below.drN ?_ _ | refine Below.step ?_ (by assumption)))))).mono ?_
  rintro e w1 ⟨rfl, hb1⟩
  have ⟨cw1, fw1⟩ := bcell hb1
  have qw1 := hb1.size
  (try simp at qw1)
  (try have zw1w := bsz (show w.heap.size < w1.heap.size by omega))
  (try have zw1_0 := bsz (show w.heap.size + 1 < w1.heap.size by omega))
  go_wp2_with fail
  refine (eqStringS_same u.axs _ _ _ (HA.out.below (by (repeat (first | with_reducible exact Below.refl _ _ | with_reducible assumption | with_reducible refine Below.al ?_ _ | with_reducible refine Below.sc ?_ (by first | exact Nat.le_refl _ | (simp; done) | (simp; omega)) _ | assumption | exact Below.refl _ _ | refine Below.dr ?_ | refine Below.drN ?_ _ | refine Below.step ?_ (by assumption))))) (HA'.out.below (by (repeat (first | with_reducible exact Below.refl _ _ | with_reducible assumption | with_reducible refine Below.al ?_ _ | with_reducible refine Below.sc ?_ (by first | exact Nat.le_refl _ | (simp; done) | (simp; omega)) _ | assumption | exact Below.refl _ _ | refine Below.dr ?_ | refine Below.drN ?_ _ | refine Below.step ?_ (by assumption)))))).mono ?_
  rintro e w2 ⟨rfl, hb2⟩
  have ⟨cw2, fw2⟩ := bcell hb2
  have qw2 := hb2.size
  (try simp at qw2)
  (try have zw2w := bsz (show w.heap.size < w2.heap.size by omega))
  (try have zw2w1 := bsz (show w1.heap.size < w2.heap.size by omega))
  (try have zw2_0 := bsz (show w.heap.size + 1 < w2.heap.size by omega))
  go_wp2
  go_ret
  exact ⟨rfl, by (repeat (first | with_reducible exact Below.refl _ _ | with_reducible assumption | with_reducible refine Below.al ?_ _ | with_reducible refine Below.sc ?_ (by first | exact Nat.le_refl _ | (simp; done) | (simp; omega)) _ | assumption | exact Below.refl _ _ | refine Below.dr ?_ | refine Below.drN ?_ _ | refine Below.step ?_ (by assumption)))⟩
set_option maxRecDepth 100000 in
set_option maxHeartbeats 1600000 in
theorem eqUnitS_same {B B' : Nat → Prop} (us : List Un) (va ua : Value) (w : World) (h : UnsAt B w va us) (h' : UnsAt B' w ua us) :
    Calls Tryz.prog 17 #[va, ua] w fun e w' => e = .returned (.bool true) ∧ Below w.heap.size w w' := by
  obtain ⟨p, c, rfl, hlen⟩ := h.form
  obtain ⟨p', c', rfl, -⟩ := h'.form
  unfold maxLen at hlen
  have H := Lib.hid h
  have H' := Lib.hid h'
  clear h h'
  go_enter Tryz.func17, Tryz.ntmps17
  go_wp2
  go_loopw [5] (fun i wr => ∃ k : Nat, k ≤ us.length ∧ i = .int .i64 k ∧ Below w.heap.size w wr) (fun i _ => us.length - (intOf i).toNat)
  case atStart => exact ⟨0, Nat.zero_le _, rfl, by (repeat (first | with_reducible exact Below.refl _ _ | with_reducible assumption | with_reducible refine Below.al ?_ _ | with_reducible refine Below.sc ?_ (by first | exact Nat.le_refl _ | (simp; done) | (simp; omega)) _ | assumption | exact Below.refl _ _ | refine Below.dr ?_ | refine Below.drN ?_ _ | refine Below.step ?_ (by assumption)))⟩
  case round =>
    obtain ⟨k, hk, rfl, hb⟩ := hrel
    by_cases hlt : k < us.length
    · obtain ⟨b, o, rfl, hB, p1, c1, p2, c2, hx0, hx1, hx2, hx3, hx⟩ := (H.out.below hb).at_ hlt
      obtain ⟨b', o', rfl, hB', p1', c1', p2', c2', hy0, hy1, hy2, hy3, hy⟩ := (H'.out.below hb).at_ hlt
      obtain ⟨a, ha⟩ : ∃ a, us[k] = a := ⟨_, rfl⟩
      rw [ha] at hx hx0 hx1 hx2 hx3 hy hy0 hy1 hy2 hy3
      have HX := Lib.hid hx
      have HY := Lib.hid hy
      clear hx hy ha
      go_wp2
      obtain ⟨C, HC0⟩ := class_of (InF wr.heap.size _ [(⟨b, o + k * 4, none⟩, .string a.name), (⟨b, o + k * 4 + 1, none⟩, .slice p1 a.incs.length c1), (⟨b, o + k * 4 + 2, none⟩, .slice p2 a.axs.length c2), (⟨b, o + k * 4 + 3, none⟩, .string a.goal), (⟨b', o' + k * 4, none⟩, .string a.name), (⟨b', o' + k * 4 + 1, none⟩, .slice p1' a.incs.length c1'), (⟨b', o' + k * 4 + 2, none⟩, .slice p2' a.axs.length c2'), (⟨b', o' + k * 4 + 3, none⟩, .string a.goal)] [] [])
      have HC := Lib.hid HC0
      clear HC0
      refine wp_region_flow (C := C) (by kernel_rfl) (by kernel_rfl) (fun L hL => (HC.out _ _).2 (InF.start (by first | (intro _ hs; cases hs; done) | (simp only [List.forall_mem_cons]; go_simp)) (by first | (intro _ hs; cases hs; done) | (simp only [List.forall_mem_cons]; go_simp)) (by first | (intro _ hs; cases hs; done) | (simp only [List.forall_mem_cons]; go_simp)) (by first | (intro _ hs; cases hs; done) | (simp only [List.forall_mem_cons]; go_simp)) L hL)) ?_
      repeat (first | (apply flow_free rfl; (intro L w' hun hrd hC; have hC := (HC.out _ _).1 hC; have hb' := hC.below; (try have hw' : Below w.heap.size w w' := by first | exact Below.trans (by (repeat (first | with_reducible exact Below.refl _ _ | with_reducible assumption | with_reducible refine Below.al ?_ _ | with_reducible refine Below.sc ?_ (by first | exact Nat.le_refl _ | (simp; done) | (simp; omega)) _ | assumption | exact Below.refl _ _ | refine Below.dr ?_ | refine Below.drN ?_ _ | refine Below.step ?_ (by assumption)))) hb' | ((repeat (first | with_reducible exact Below.refl _ _ | with_reducible assumption | with_reducible refine Below.al ?_ _ | with_reducible refine Below.sc ?_ (by first | exact Nat.le_refl _ | (simp; done) | (simp; omega)) _ | assumption | exact Below.refl _ _ | refine Below.dr ?_ | refine Below.drN ?_ _ | refine Below.step ?_ (by assumption))); done)); have hf' := hC.cell; (try simp only [List.forall_mem_cons] at hf'); go_simp; first | exact ⟨(HC.out _ _).2 (hC.skip _ (by rfl)), rfl⟩ | (rw [if_neg]; (exact ⟨(HC.out _ _).2 (hC.skip _ (by rfl)), rfl⟩); omega) | (go_at_call 10; refine (eqUnit_same a _ _ _ _ _ _ _ _ _ (UnAt.below hb' HX.out) (UnAt.below hb' HY.out)).mono ?_; rintro e w1 ⟨rfl, hb1⟩; exact ⟨rfl, (HC.out _ _).2 ((hC.next (by first | (simp; done) | (simp; omega) | omega) hb1).skip _ (by rfl))⟩)); go_simp) | (apply flow_yes; (case hw => go_simp); (intro L w' hun hrd hC; have hC := (HC.out _ _).1 hC; have hb' := hC.below; (try have hw' : Below w.heap.size w w' := by first | exact Below.trans (by (repeat (first | with_reducible exact Below.refl _ _ | with_reducible assumption | with_reducible refine Below.al ?_ _ | with_reducible refine Below.sc ?_ (by first | exact Nat.le_refl _ | (simp; done) | (simp; omega)) _ | assumption | exact Below.refl _ _ | refine Below.dr ?_ | refine Below.drN ?_ _ | refine Below.step ?_ (by assumption)))) hb' | ((repeat (first | with_reducible exact Below.refl _ _ | with_reducible assumption | with_reducible refine Below.al ?_ _ | with_reducible refine Below.sc ?_ (by first | exact Nat.le_refl _ | (simp; done) | (simp; omega)) _ | assumption | exact Below.refl _ _ | refine Below.dr ?_ | refine Below.drN ?_ _ | refine Below.step ?_ (by assumption))); done)); have hf' := hC.cell; (try simp only [List.forall_mem_cons] at hf'); go_simp; first | exact ⟨(HC.out _ _).2 (hC.skip _ (by rfl)), rfl⟩ | (rw [if_neg]; (exact ⟨(HC.out _ _).2 (hC.skip _ (by rfl)), rfl⟩); omega) | (go_at_call 10; refine (eqUnit_same a _ _ _ _ _ _ _ _ _ (UnAt.below hb' HX.out) (UnAt.below hb' HY.out)).mono ?_; rintro e w1 ⟨rfl, hb1⟩; exact ⟨rfl, (HC.out _ _).2 ((hC.next (by first | (simp; done) | (simp; omega) | omega) hb1).skip _ (by rfl))⟩)); go_simp) | (apply flow_no; (case hw => (go_simp; try (intro hh; cases hh))); (intro L w' _ _ hC; exact (HC.out _ _).2 (((HC.out _ _).1 hC).skip _ (by rfl))); go_simp))
      refine flow_nil ?_
      intro L wz hL hz
      have hz := (HC.out _ _).1 hz
      have hbz := hz.below
      have hcz := hz.cell
      try simp only [List.forall_mem_cons] at hcz
      have hdz := hz.done
      try simp only [List.forall_mem_cons] at hdz
      (try have hwz : Below w.heap.size w wz := by first | exact Below.trans (by (repeat (first | with_reducible exact Below.refl _ _ | with_reducible assumption | with_reducible refine Below.al ?_ _ | with_reducible refine Below.sc ?_ (by first | exact Nat.le_refl _ | (simp; done) | (simp; omega)) _ | assumption | exact Below.refl _ _ | refine Below.dr ?_ | refine Below.drN ?_ _ | refine Below.step ?_ (by assumption)))) hbz | ((repeat (first | with_reducible exact Below.refl _ _ | with_reducible assumption | with_reducible refine Below.al ?_ _ | with_reducible refine Below.sc ?_ (by first | exact Nat.le_refl _ | (simp; done) | (simp; omega)) _ | assumption | exact Below.refl _ _ | refine Below.dr ?_ | refine Below.drN ?_ _ | refine Below.step ?_ (by assumption))); done))
      go_wp2
      refine ⟨⟨k + 1, by omega, by go_num, Below.step hb hbz⟩, by simp [intOf]; omega⟩
    · go_wp2
      go_ret
      exact ⟨rfl, hb⟩
end Go.Proofs.YtimpkjiglioflaaGreatDoor
namespace Go.Proofs.YtimpkjiglioflaaGreatDoor
open Go.RowKit
def UnOwn (e : TypeId) (S : Nat → Prop) (w : World) (u : Un) (cs : List Value) : Prop := ∃ va vb S1 S2, cs = [.string u.name, va, vb, .string u.goal] ∧ u.name.size ≤ maxLen ∧ u.goal.size ≤ maxLen ∧ StrOwn e S1 w u.incs va ∧ StrOwn e S2 w u.axs vb ∧ (∀ b, S1 b → S b) ∧ (∀ b, S2 b → S b) ∧ ∀ b, S1 b → ¬ S2 b
theorem UnOwn.mono {e : TypeId} {S S' : Nat → Prop} {w w' : World} {u : Un} {cs : List Value} (hs : SameOn S w w') (hS : ∀ b, S b → S' b) (h : UnOwn e S w u cs) : UnOwn e S' w' u cs := by
  obtain ⟨va, vb, S1, S2, h1, h2, h3, h4, h5, h6, h7, h8⟩ := h
  exact ⟨va, vb, S1, S2, h1, h2, h3, h4.mono (fun b hb hlt => hs b (h6 b hb) hlt) (fun _ h => h), h5.mono (fun b hb hlt => hs b (h7 b hb) hlt) (fun _ h => h), fun b hb => hS b (h6 b hb), fun b hb => hS b (h7 b hb), h8⟩
theorem UnOwn.at_ {e : TypeId} {S : Nat → Prop} {w : World} {u : Un} {cs : List Value} (h : UnOwn e S w u cs) : UnAt S w u cs := by
  obtain ⟨va, vb, S1, S2, h1, h2, h3, h4, h5, h6, h7, h8⟩ := h
  exact ⟨va, vb, h1, h2, h3, h4.at_.mono (SameOn.refl _ _) h6, h5.at_.mono (SameOn.refl _ _) h7⟩
def UnsOwn (e eU : TypeId) (S : Nat → Prop) (w : World) (us : List Un) (v : Value) : Prop := OwnRow S w eU 4 (fun T u cs => UnOwn e T w u cs) v us
theorem UnsOwn.at_ {e eU : TypeId} {S : Nat → Prop} {w : World} {us : List Un} {v : Value} (h : UnsOwn e eU S w us v) : UnsAt S w v us := OwnRow.listAt (by omega) h (fun T x cs _ hT hx => hx.at_.mono (SameOn.refl _ _) hT)
/-! ### Marks -/
set_option maxRecDepth 100000 in
set_option maxHeartbeats 3200000 in
theorem toUnit_own {B : Nat → Prop} (u : Un) (v0 v1 v2 v3 : Value) (w : World) (h : UnAt B w u [v0, v1, v2, v3]) (hw : u.wt ≤ 1048576) :
    Calls Tryz.prog 54 #[.agg #[v0, v1, v2, v3]] w fun e w' => ∃ p c q d, e = .returned (.agg #[.string u.name, .slice p u.incs.length c, .slice q u.axs.length d, .string u.goal]) ∧ UnOwn 9 (NewB w w') w' u [.string u.name, .slice p u.incs.length c, .slice q u.axs.length d, .string u.goal] ∧ Below w.heap.size w w' := by
  obtain ⟨p, c, q, d, rfl, rfl, rfl, rfl, hn, hg, l1, l2, hi, ha⟩ := h.form
  have HI := Lib.hid hi
  have HA := Lib.hid ha
  have HW := Lib.hid (show u.wt = u.name.size + (u.incs.length + wtS u.incs) + (u.axs.length + wtS u.axs) + u.goal.size from rfl)
  have HNG := Lib.hid (And.intro hn hg)
  clear h hi ha hn hg
  go_enter Tryz.func54, Tryz.ntmps54
  skip
  go_wp2_with fail
  refine (toStringS_own u.incs _ _ (HI.out.below (by (repeat (first | with_reducible exact Below.refl _ _ | with_reducible assumption | with_reducible refine Below.al ?_ _ | with_reducible refine Below.sc ?_ (by first | exact Nat.le_refl _ | (simp; done) | (simp; omega)) _ | assumption | exact Below.refl _ _ | refine Below.dr ?_ | refine Below.drN ?_ _ | refine Below.step ?_ (by assumption))))) (by have := HW.out; omega)).mono ?_
  rintro e w1 ⟨g1, rfl, ho1, hb1⟩
  have ⟨cw1, fw1⟩ := bcell hb1
  have qw1 := hb1.size
  (try simp at qw1)
  (try have zw1w := bsz (show w.heap.size < w1.heap.size by omega))
  (try have zw1_0 := bsz (show w.heap.size + 1 < w1.heap.size by omega))
  (try have zw1_1 := bsz (show w.heap.size + 1 + 1 < w1.heap.size by omega))
  have HO1 := Lib.hid ho1
  clear ho1
  go_wp2_with fail
  refine (toStringS_own u.axs _ _ (HA.out.below (by (repeat (first | with_reducible exact Below.refl _ _ | with_reducible assumption | with_reducible refine Below.al ?_ _ | with_reducible refine Below.sc ?_ (by first | exact Nat.le_refl _ | (simp; done) | (simp; omega)) _ | assumption | exact Below.refl _ _ | refine Below.dr ?_ | refine Below.drN ?_ _ | refine Below.step ?_ (by assumption))))) (by have := HW.out; omega)).mono ?_
  rintro e w2 ⟨g2, rfl, ho2, hb2⟩
  have ⟨cw2, fw2⟩ := bcell hb2
  have qw2 := hb2.size
  (try simp at qw2)
  (try have zw2w := bsz (show w.heap.size < w2.heap.size by omega))
  (try have zw2w1 := bsz (show w1.heap.size < w2.heap.size by omega))
  (try have zw2_0 := bsz (show w.heap.size + 1 < w2.heap.size by omega))
  (try have zw2_1 := bsz (show w.heap.size + 1 + 1 < w2.heap.size by omega))
  have HO2 := Lib.hid ho2
  clear ho2
  go_wp2
  refine bodyPost_ret (v := .agg #[.string u.name, .slice (some ⟨g1, 0, none⟩) u.incs.length u.incs.length, .slice (some ⟨g2, 0, none⟩) u.axs.length u.axs.length, .string u.goal]) (by simp only [results, Tryz.results54]; go_simp) rfl ?_
  refine ⟨_, _, _, _, rfl, ⟨_, _, _, _, rfl, HNG.out.1, HNG.out.2, HO1.out.mono (show SameOn (fun b => (_ : Nat) ≤ b ∧ b < _) _ _ by ((repeat' (first | with_reducible exact SameOn.refl _ _ | with_reducible refine SameOn.sc ?_ ?_ _ | with_reducible refine SameOn.al ?_ ?_ _ | with_reducible refine SameOn.be ?_ ?_ (by with_reducible assumption))) <;> (first | (intro b hb; simp at hb ⊢; omega) | exact Nat.le_refl _ | (simp; done) | (simp; omega) | omega))) (fun _ h => h), HO2.out.mono (show SameOn (fun b => (_ : Nat) ≤ b ∧ b < _) _ _ by ((repeat' (first | with_reducible exact SameOn.refl _ _ | with_reducible refine SameOn.sc ?_ ?_ _ | with_reducible refine SameOn.al ?_ ?_ _ | with_reducible refine SameOn.be ?_ ?_ (by with_reducible assumption))) <;> (first | (intro b hb; simp at hb ⊢; omega) | exact Nat.le_refl _ | (simp; done) | (simp; omega) | omega))) (fun _ h => h), fun b hb => ?_, fun b hb => ?_, fun b hb hb' => ?_⟩, by (repeat (first | with_reducible exact Below.refl _ _ | with_reducible assumption | with_reducible refine Below.al ?_ _ | with_reducible refine Below.sc ?_ (by first | exact Nat.le_refl _ | (simp; done) | (simp; omega)) _ | assumption | exact Below.refl _ _ | refine Below.dr ?_ | refine Below.drN ?_ _ | refine Below.step ?_ (by assumption)))⟩
  · have h1 := hb.1; have h2 := hb.2; simp at h1; exact ⟨by omega, by simp; omega⟩
  · have h1 := hb.1; have h2 := hb.2; simp at h1; exact ⟨by omega, by simp; omega⟩
  · have h1 := hb.2; have h2 := hb'.1; simp at h2; omega
theorem elemUnit : Elem Tryz.prog 34 24 4 80 := elem_of Tryz.underlying34 (z := .agg #[.string ⟨#[]⟩, .slice none 0 0, .slice none 0 0, .string ⟨#[]⟩]) (by kernel_rfl) rfl (by omega)
def ToURel (us : List Un) (w : World) (i : Value) (wr : World) : Prop :=
  ∃ k : Nat, k ≤ us.length ∧ i = .int .i64 k ∧ FillRow (NewB w wr) wr 24 4 (fun T w u cs => UnOwn 9 T w u cs) w.heap.size us.length k us ∧ Below w.heap.size w wr
theorem patch4 {cur : Array Value} {o : Nat} (h : o + 4 ≤ cur.size) (a b c d : Value) : Patch cur ((((cur.setIfInBounds (o + 0) a).setIfInBounds (o + 1) b).setIfInBounds (o + 2) c).setIfInBounds (o + 3) d) o [a, b, c, d] := by
  have e : ∀ j, j < 4 → cur[o + j]? = [cur[o]!, cur[o + 1]!, cur[o + 2]!, cur[o + 3]!][j]? := fun j hj => by
    match j, hj with
    | 0, _ => simp [show o < cur.size by omega]
    | 1, _ => simp [show o + 1 < cur.size by omega]
    | 2, _ => simp [show o + 2 < cur.size by omega]
    | 3, _ => simp [show o + 3 < cur.size by omega]
  exact Patch.set (j := 3) (Patch.set (j := 2) (Patch.set (j := 1) (Patch.set (j := 0) (Patch.refl (cs := [cur[o]!, cur[o + 1]!, cur[o + 2]!, cur[o + 3]!]) e) (by simp) h a) (by simp) h b) (by simp) h c) (by simp) h d
set_option maxRecDepth 100000 in
set_option maxHeartbeats 3200000 in
theorem toUnitS_own {B : Nat → Prop} (us : List Un) (va : Value) (w : World) (h : UnsAt B w va us) (hw : us.length + wtU us ≤ 1048576) :
    Calls Tryz.prog 15 #[va] w fun e w' => ∃ g, e = .returned (.slice (some ⟨g, 0, none⟩) us.length us.length) ∧ UnsOwn 9 24 (NewB w w') w' us (.slice (some ⟨g, 0, none⟩) us.length us.length) ∧ Below w.heap.size w w' := by
  obtain ⟨p, c, rfl, -⟩ := h.form
  have H := Lib.hid h
  have HW := Lib.hid hw
  have hlen : us.length ≤ 1048576 := by omega
  obtain ⟨-, i, z, hi, hz, hsz, hby, hzs, -⟩ := elemUnit
  clear h hw
  go_enter Tryz.func15, Tryz.ntmps15
  go_wp2_with (at_make; refine wpList_make_full _ rfl _ _ _ rfl w.heap.size 24 i z 4 Tryz.underlying34 hi hz hsz _ _ _ _ us.length rfl rfl rfl rfl (by rw [hby]; omega) (by unfold maxLen; omega) (Nat.le_refl _) ?_; intro w1 ho1 hg1)
  have hb1 : Below w.heap.size w w1 := ⟨hg1.os, hg1.tape, hg1.output, hg1.size, fun k hk => hg1.block k hk (by simp)⟩
  have HF1 := Lib.hid (show FillRow (NewB w w1) w1 24 4 (fun T w u cs => UnOwn 9 T w u cs) w.heap.size us.length 0 us from FillRow.start ⟨Nat.le_refl _, own_lt ho1⟩ ho1)
  clear ho1 hg1
  go_loopw [4] (ToURel us w) (fun i _ => us.length - (intOf i).toNat)
  case atStart => exact ⟨0, Nat.zero_le _, rfl, HF1.out, hb1⟩
  case round =>
    obtain ⟨k, hk, rfl, hf, hb⟩ := hrel
    have HF := Lib.hid hf
    have hgw := hf.lt
    clear hf HF1 hb1
    by_cases hlt : k < us.length
    · obtain ⟨b, o, rfl, hB, p1, c1, p2, c2, hx0, hx1, hx2, hx3, hx⟩ := (H.out.below hb).at_ hlt
      have hwt := wtU_le us _ (List.getElem_mem hlt)
      obtain ⟨a, ha⟩ : ∃ a, us[k] = a := ⟨_, rfl⟩
      have HK : Hid (us[k]? = some a) := Lib.hid (by rw [List.getElem?_eq_getElem hlt, ha])
      rw [ha] at hx hx0 hx1 hx2 hx3 hwt
      have HX := Lib.hid hx
      clear ha hx
      have zb := bsz (World.block_lt_of_cell? _ _ hx0)
      go_wp2_with fail
      refine (toUnit_own a _ _ _ _ _ HX.out (by have := HW.out; omega)).mono ?_
      rintro e w2 ⟨p3, c3, p4, c4, rfl, hu, hb2⟩
      have ⟨cw2, fw2⟩ := bcell hb2
      have qw2 := hb2.size
      (try simp at qw2)
      (try have zw2w := bsz (show w.heap.size < w2.heap.size by omega))
      have HU := Lib.hid hu
      have hbF := hb2
      have HF2 := Lib.hid (HF.out.later hb2 (fun T x cs hT hx => hx.mono (fun b hb hlt => hb2.block b hlt) (fun _ h => h)))
      clear hu
      have hgb := bsz (show w.heap.size < w2.heap.size by omega)
      obtain ⟨⟨q0, hq0⟩, hf0⟩ := HF2.out.cell (k * 4) (by omega)
      obtain ⟨⟨q1, hq1⟩, hf1⟩ := HF2.out.cell (k * 4 + 1) (by omega)
      obtain ⟨⟨q2, hq2⟩, hf2⟩ := HF2.out.cell (k * 4 + 2) (by omega)
      obtain ⟨⟨q3, hq3⟩, hf3⟩ := HF2.out.cell (k * 4 + 3) (by omega)
      clear cw2 fw2
      go_wp2
      generalize Value.string a.name = u0 at *
      generalize Value.slice p3 a.incs.length c3 = u1 at *
      generalize Value.slice p4 a.axs.length c4 = u2 at *
      generalize Value.string a.goal = u3 at *
      have hbs : Below w.heap.size w ((((w2.setCell ⟨w.heap.size, k * 4, none⟩ u0).setCell ⟨w.heap.size, k * 4 + 1, none⟩ u1).setCell ⟨w.heap.size, k * 4 + 2, none⟩ u2).setCell ⟨w.heap.size, k * 4 + 3, none⟩ u3) := (((((show Below w.heap.size w w2 by (repeat (first | with_reducible exact Below.refl _ _ | with_reducible assumption | with_reducible refine Below.al ?_ _ | with_reducible refine Below.sc ?_ (by first | exact Nat.le_refl _ | (simp; done) | (simp; omega)) _ | assumption | exact Below.refl _ _ | refine Below.dr ?_ | refine Below.drN ?_ _ | refine Below.step ?_ (by assumption)))).setCell (Nat.le_refl _) _).setCell (Nat.le_refl _) _).setCell (Nat.le_refl _) _).setCell (Nat.le_refl _) _)
      have hS : SameOn (fun b => b ≠ w.heap.size) w2 ((((w2.setCell ⟨w.heap.size, k * 4, none⟩ u0).setCell ⟨w.heap.size, k * 4 + 1, none⟩ u1).setCell ⟨w.heap.size, k * 4 + 2, none⟩ u2).setCell ⟨w.heap.size, k * 4 + 3, none⟩ u3) := ((((SameOn.refl _ _).sc (fun b hb e => hb e) _).sc (fun b hb e => hb e) _).sc (fun b hb e => hb e) _).sc (fun b hb e => hb e) _
      refine ⟨⟨k + 1, by omega, by go_num, ?_, hbs⟩, by simp [intOf]; omega⟩
      refine FillRow.put (T := NewB wr w2) (w := wr) (w1 := w2) (HF.out.wider (fun b hb => ⟨hb.1, by have := hb.2; simp; omega⟩)) hlt HK.out hbF rfl (HU.out.mono (fun b hb hlt => hS b (by have := hb.1; omega) hlt) (fun _ h => h)) (fun b hb => ⟨⟨by have := hb.1; omega, by simpa using hb.2⟩, by have := hb.1; omega, hb.1, by simpa using hb.2⟩) (fun cur hc hz => ⟨_, ?_, patch4 hz u0 u1 u2 u3⟩) (by simp) (fun T x cs hT hx => hx.mono (fun b hb' hlt' => (hS b (hT b hb').2 (by omega)).trans (hbF.block b hlt')) (fun _ h => h))
      exact heap_setCell_same _ _ (k * 4 + 3) _ _ u3 (heap_setCell_same _ _ (k * 4 + 2) _ _ u2 (heap_setCell_same _ _ (k * 4 + 1) _ _ u1 (heap_setCell_same w2 _ (k * 4) cur _ u0 hc)))
    · obtain rfl : k = us.length := by omega
      go_wp2
      go_ret
      exact ⟨_, rfl, HF.out.done (by unfold maxLen; omega), hb⟩
end Go.Proofs.YtimpkjiglioflaaGreatDoor
