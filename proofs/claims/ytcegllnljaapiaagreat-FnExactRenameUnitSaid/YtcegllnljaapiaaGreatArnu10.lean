/- Lists of texts that own their memory: the laws' copy, their marks, the marks held. Conditions: sizes. -/
import Derived.Laws.Cover1
import Derived.Laws.IdiomStrings
import Derived.Test.YtcegllnljaapiaaGreatArnu1
import Derived.Test.YtcegllnljaapiaaGreatArnu5
import Derived.Test.YtcegllnljaapiaaGreatArnu9
namespace Go.Proofs.YtcegllnljaapiaaGreat
open Go.RowKit
def unitTxt (s : ByteArray) : Bool := pfOk s && decide (s.size ≤ 100)
def lessB (a b : ByteArray) : Bool := Op.bytesLess a.data.toList b.data.toList
def ascS : Option ByteArray → ByteArray → Bool | none, _ => true | some q, a => lessB q a
def namesF : Option ByteArray → List ByteArray → Bool
  | _, [] => true
  | p, a :: us => symB a.data.toList && ascS p a && namesF (some a) us
def prevS (c : List ByteArray) : Nat → Option ByteArray | 0 => none | k + 1 => c[k]?
theorem namesF_drop {c : List ByteArray} {k : Nat} (h : k < c.length) : namesF (prevS c k) (c.drop k) = (symB c[k].data.toList && ascS (prevS c k) c[k] && namesF (prevS c (k + 1)) (c.drop (k + 1))) := by
  rw [List.drop_eq_getElem_cons h, namesF, show prevS c (k + 1) = some c[k] from List.getElem?_eq_getElem h]
theorem prevS_pos {c : List ByteArray} {k : Nat} (h : k < c.length) (hk : 0 < k) : prevS c k = some (c[k - 1]'(by omega)) := by
  cases k with
  | zero => omega
  | succ k => exact List.getElem?_eq_getElem (by omega)
def Un.good (u : Un) : Bool := symB u.name.data.toList && decide (u.incs.length ≤ 12) && namesF none u.incs && decide (u.axs.length ≤ 6) && u.axs.all unitTxt && (u.goal.data.toList == [] || unitTxt u.goal)
theorem less_total : ∀ x y : List UInt8, Op.bytesLess x y = !(Op.bytesLess y x || y == x)
  | [], [] => rfl
  | [], b :: y => by simp [Op.bytesLess]
  | a :: x, [] => by simp [Op.bytesLess]
  | a :: x, b :: y => by
    have ih := less_total x y
    simp only [Op.bytesLess]
    by_cases h1 : a < b
    · have h2 : ¬ b < a := fun h => by have := UInt8.lt_trans h1 h; exact absurd this (UInt8.lt_irrefl _)
      have h3 : ¬ b = a := fun h => by subst h; exact UInt8.lt_irrefl _ h1
      simp [h1, h2, h3]
    · by_cases h2 : b < a
      · have h3 : ¬ a = b := fun h => by subst h; exact UInt8.lt_irrefl _ h2
        simp [h1, h2, h3]
      · have h3 : a = b := UInt8.le_antisymm (UInt8.not_lt.1 h2) (UInt8.not_lt.1 h1)
        subst h3
        simp [UInt8.lt_irrefl, ih]
theorem EtfPost.form {n : Nat} {ok : Bool} {F : Fm} {w w' : World} {e : Ending} (h : EtfPost n ok F w e w') : ∃ op m p k c v q k2 d, e = .returned (.tuple #[.agg #[.int .i64 op, .string m, .slice p k c, .string v, .slice q k2 d], .bool ok]) ∧ Below w.heap.size w w' := by
  obtain ⟨hb, h⟩ := h
  cases ok with
  | true =>
    obtain ⟨x, rfl, v0, v1, v2, v3, v4, rfl, hO⟩ := (show ∃ x, _ ∧ _ from h)
    obtain ⟨p, c, q, d, rfl, rfl, rfl, rfl, rfl, -⟩ := hO.form
    exact ⟨_, _, _, _, _, _, _, _, _, rfl, hb⟩
  | false =>
    have he : e = _ := h
    exact ⟨_, _, _, _, _, _, _, _, _, he, hb⟩
set_option maxRecDepth 100000 in
set_option maxHeartbeats 1600000 in
theorem isUnitText_any (s : ByteArray) (w : World) (hs : s.size ≤ 1000000000000) : Calls Tryz.prog 191 #[.string s] w fun e w' => e = .returned (.bool (unitTxt s)) ∧ Below w.heap.size w w' := by
  have HU := Lib.hid (show unitTxt s = (pfOk s && decide (s.size ≤ 100)) from rfl)
  go_enter Tryz.func191, Tryz.ntmps191
  go_wp2_with fail
  refine (implPF_any s hs _).mono ?_
  rintro e w1 hp
  obtain ⟨op, m, p, k, c, v, q, k2, d, rfl, hb1⟩ := hp.form
  clear hp
  cases hk : pfOk s <;> by_cases h1 : s.size ≤ 100
  all_goals
    have h2 := HU.out
    rw [hk] at h2
    have HU2 := Lib.hid h2
    clear h2
    have h1i : ((s.size : Int) ≤ 100) = (s.size ≤ 100) := by apply propext; omega
    go_wp2
    go_ret
    exact ⟨ret_bool (by rw [HU2.out]; simp [h1]), by (repeat (first | with_reducible exact Below.refl _ _ | with_reducible assumption | with_reducible refine Below.al ?_ _ | with_reducible refine Below.sc ?_ (by first | exact Nat.le_refl _ | (simp; done) | (simp; omega)) _ | assumption | exact Below.refl _ _ | refine Below.dr ?_ | refine Below.drN ?_ _ | refine Below.step ?_ (by assumption)))⟩
set_option maxRecDepth 100000 in
set_option maxHeartbeats 1600000 in
theorem areNames_any {B : Nat → Prop} (us : List ByteArray) (v : Value) (w : World) (h : StrsAt B w v us) : Calls Tryz.prog 188 #[v] w fun e w' => e = .returned (.bool (namesF none us)) ∧ Below w.heap.size w w' := by
  obtain ⟨p, c, rfl, hlen⟩ := h.form
  unfold maxLen at hlen
  have H := Lib.hid h
  clear h
  go_enter Tryz.func188, Tryz.ntmps188
  go_wp2
  go_loopw [7] (fun i wr => ∃ k : Nat, k ≤ us.length ∧ i = .int .i64 k ∧ namesF none us = namesF (prevS us k) (us.drop k) ∧ Below w.heap.size w wr) (fun i _ => us.length - (intOf i).toNat)
  case atStart => exact ⟨0, Nat.zero_le _, rfl, rfl, by (repeat (first | with_reducible exact Below.refl _ _ | with_reducible assumption | with_reducible refine Below.al ?_ _ | with_reducible refine Below.sc ?_ (by first | exact Nat.le_refl _ | (simp; done) | (simp; omega)) _ | assumption | exact Below.refl _ _ | refine Below.dr ?_ | refine Below.drN ?_ _ | refine Below.step ?_ (by assumption)))⟩
  case round =>
    obtain ⟨k, hk, rfl, he, hb⟩ := hrel
    have HE := Lib.hid he
    clear he
    by_cases hlt : k < us.length
    · obtain ⟨b, o, rfl, hB, hx0, hxs⟩ := (H.out.below hb).at_ hlt
      have HD := Lib.hid (namesF_drop hlt)
      by_cases hk0 : k = 0
      · have HP := Lib.hid (show prevS us k = none by rw [hk0]; rfl)
        obtain ⟨a, ha⟩ : ∃ a, us[k] = a := ⟨_, rfl⟩
        rw [ha] at hx0 hxs HD
        clear ha
        have hk1 : ¬ ((k : Int) > 0) := by omega
        have hk2 : ¬ ((0 : Int) < (k : Int)) := by omega
        have zb := bsz (World.block_lt_of_cell? _ _ hx0)
        clear hk0
        cases hy : symB a.data.toList
        all_goals
          have HY := Lib.hid hy
          clear hy
          go_wp2_with fail
          refine (isSymbol_any a _ hxs).mono ?_
          rintro e w1 ⟨rfl, hb1⟩
          have ⟨cw1, fw1⟩ := bcell hb1
          have qw1 := hb1.size
          (try simp at qw1)
          (try have zw1w := bsz (show w.heap.size < w1.heap.size by omega))
          rw [HY.out]
          go_wp2
        · go_ret
          exact ⟨ret_bool (by rw [HE.out, HD.out, HY.out]; rfl), by (repeat (first | with_reducible exact Below.refl _ _ | with_reducible assumption | with_reducible refine Below.al ?_ _ | with_reducible refine Below.sc ?_ (by first | exact Nat.le_refl _ | (simp; done) | (simp; omega)) _ | assumption | exact Below.refl _ _ | refine Below.dr ?_ | refine Below.drN ?_ _ | refine Below.step ?_ (by assumption)))⟩
        · refine ⟨⟨k + 1, by omega, by go_num, ?_, by (repeat (first | with_reducible exact Below.refl _ _ | with_reducible assumption | with_reducible refine Below.al ?_ _ | with_reducible refine Below.sc ?_ (by first | exact Nat.le_refl _ | (simp; done) | (simp; omega)) _ | assumption | exact Below.refl _ _ | refine Below.dr ?_ | refine Below.drN ?_ _ | refine Below.step ?_ (by assumption)))⟩, by simp [intOf]; omega⟩
          rw [HE.out, HD.out, HY.out, HP.out]; rfl
      · have hk1 : k - 1 < us.length := by omega
        obtain ⟨b', o', hq, hB', hy0, hys⟩ := (H.out.below hb).at_ hk1
        simp only [Option.some.injEq, Addr.mk.injEq, and_true] at hq
        obtain ⟨rfl, rfl⟩ := hq
        have HP := Lib.hid (prevS_pos hlt (by omega))
        obtain ⟨a, ha⟩ : ∃ a, us[k] = a := ⟨_, rfl⟩
        obtain ⟨q, hqe⟩ : ∃ q, us[k - 1] = q := ⟨_, rfl⟩
        rw [ha] at hx0 hxs HD
        rw [hqe] at hy0 HP
        clear ha hqe hys
        have hki : IntKind.i64.wrap ((k : Int) - 1) = ((k - 1 : Nat) : Int) := by rw [IntWalk.i64_in _ (by omega)]; omega
        have hkp : (0 : Int) < (k : Int) := by omega
        have zb := bsz (World.block_lt_of_cell? _ _ hx0)
        have HT := Lib.hid (less_total q.data.toList a.data.toList)
        cases hy : symB a.data.toList <;> cases hA : Op.bytesLess a.toList q.toList <;> cases hB : (a.toList == q.toList)
        all_goals
          have HY := Lib.hid hy
          have HLS := Lib.hid (show lessB q a = _ from HT.out.trans (by rw [← ByteArray.toList_eq, ← ByteArray.toList_eq, hA, hB]))
          clear hy
          go_wp2_with fail
          refine (isSymbol_any a _ hxs).mono ?_
          rintro e w1 ⟨rfl, hb1⟩
          have ⟨cw1, fw1⟩ := bcell hb1
          have qw1 := hb1.size
          (try simp at qw1)
          (try have zw1w := bsz (show w.heap.size < w1.heap.size by omega))
          rw [HY.out]
          go_wp2
        all_goals first
          | (refine ⟨⟨k + 1, by omega, by go_num, ?_, by (repeat (first | with_reducible exact Below.refl _ _ | with_reducible assumption | with_reducible refine Below.al ?_ _ | with_reducible refine Below.sc ?_ (by first | exact Nat.le_refl _ | (simp; done) | (simp; omega)) _ | assumption | exact Below.refl _ _ | refine Below.dr ?_ | refine Below.drN ?_ _ | refine Below.step ?_ (by assumption)))⟩, by simp [intOf]; omega⟩; rw [HE.out, HD.out, HY.out, HP.out, ascS, HLS.out]; rfl)
          | (go_ret; exact ⟨ret_bool (by rw [HE.out, HD.out, HY.out, HP.out, ascS, HLS.out]; rfl), by (repeat (first | with_reducible exact Below.refl _ _ | with_reducible assumption | with_reducible refine Below.al ?_ _ | with_reducible refine Below.sc ?_ (by first | exact Nat.le_refl _ | (simp; done) | (simp; omega)) _ | assumption | exact Below.refl _ _ | refine Below.dr ?_ | refine Below.drN ?_ _ | refine Below.step ?_ (by assumption)))⟩)
    · obtain rfl : k = us.length := by omega
      have he := HE.out
      rw [List.drop_length] at he
      have HE2 := Lib.hid he
      clear he
      go_wp2
      go_ret
      exact ⟨ret_bool (by rw [HE2.out]; rfl), by (repeat (first | with_reducible exact Below.refl _ _ | with_reducible assumption | with_reducible refine Below.al ?_ _ | with_reducible refine Below.sc ?_ (by first | exact Nat.le_refl _ | (simp; done) | (simp; omega)) _ | assumption | exact Below.refl _ _ | refine Below.dr ?_ | refine Below.drN ?_ _ | refine Below.step ?_ (by assumption)))⟩
end Go.Proofs.YtcegllnljaapiaaGreat
namespace Go.Proofs.YtcegllnljaapiaaGreat
open Go.RowKit
theorem Un.goal_le (u : Un) : u.goal.size ≤ u.wt := by unfold Un.wt; omega
theorem Un.axs_le (u : Un) : ∀ s ∈ u.axs, s.size ≤ u.wt := fun s hs => by have := wtS_le u.axs s hs; unfold Un.wt; omega
theorem all_not_any (us : List ByteArray) : us.all unitTxt = !(us.any fun s => !unitTxt s) := by
  induction us with
  | nil => rfl
  | cons a us ih => rw [List.all_cons, List.any_cons, ih]; cases unitTxt a <;> rfl
set_option maxRecDepth 100000 in
set_option maxHeartbeats 1600000 in
theorem notUnitText_any (s : ByteArray) (w : World) (hs : s.size ≤ 1000000000000) : Calls Tryz.prog 190 #[.string s] w fun e w' => e = .returned (.bool (!unitTxt s)) ∧ Below w.heap.size w w' := by
  go_enter Tryz.func190, Tryz.ntmps190
  go_wp2_with fail
  refine (isUnitText_any s _ hs).mono ?_
  rintro e w1 ⟨rfl, hb1⟩
  have ⟨cw1, fw1⟩ := bcell hb1
  have qw1 := hb1.size
  (try simp at qw1)
  (try have zw1w := bsz (show w.heap.size < w1.heap.size by omega))
  go_wp2
  go_ret
  exact ⟨rfl, by (repeat (first | with_reducible exact Below.refl _ _ | with_reducible assumption | with_reducible refine Below.al ?_ _ | with_reducible refine Below.sc ?_ (by first | exact Nat.le_refl _ | (simp; done) | (simp; omega)) _ | assumption | exact Below.refl _ _ | refine Below.dr ?_ | refine Below.drN ?_ _ | refine Below.step ?_ (by assumption)))⟩
set_option maxRecDepth 100000 in
set_option maxHeartbeats 1600000 in
theorem indexTxt {B : Nat → Prop} (us : List ByteArray) (hz : ∀ s ∈ us, s.size ≤ 1000000000000) (va : Value) (w : World) (h : StrsAt B w va us) :
    Calls Tryz.prog 214 #[va, .func (.func 190) #[] #[]] w (FirstAt (us.any fun s => !unitTxt s) w) := by
  obtain ⟨p, c, rfl, hlen⟩ := h.form
  unfold maxLen at hlen
  have H := Lib.hid h
  have HZ := Lib.hid hz
  clear h hz
  go_enter Tryz.func214, Tryz.ntmps214
  go_wp2
  go_loopw [8] (fun i wr => ∃ k : Nat, k ≤ us.length ∧ i = .int .i64 k ∧ (us.any fun s => !unitTxt s) = ((us.drop k).any fun s => !unitTxt s) ∧ Below w.heap.size w wr) (fun i _ => us.length - (intOf i).toNat)
  case atStart => exact ⟨0, Nat.zero_le _, rfl, rfl, by (repeat (first | with_reducible exact Below.refl _ _ | with_reducible assumption | with_reducible refine Below.al ?_ _ | with_reducible refine Below.sc ?_ (by first | exact Nat.le_refl _ | (simp; done) | (simp; omega)) _ | assumption | exact Below.refl _ _ | refine Below.dr ?_ | refine Below.drN ?_ _ | refine Below.step ?_ (by assumption)))⟩
  case round =>
    obtain ⟨k, hk, rfl, he, hb⟩ := hrel
    have HE := Lib.hid he
    clear he
    by_cases hlt : k < us.length
    · obtain ⟨b, o, rfl, hB, hx0, hxs⟩ := (H.out.below hb).at_ hlt
      have HD := Lib.hid (any_drop us (fun s => !unitTxt s) hlt)
      have hza := HZ.out _ (List.getElem_mem hlt)
      obtain ⟨a, ha⟩ : ∃ a, us[k] = a := ⟨_, rfl⟩
      rw [ha] at hx0 hxs HD hza
      clear ha
      have zb := bsz (World.block_lt_of_cell? _ _ hx0)
      cases hN : unitTxt a
      all_goals
        have HN := Lib.hid hN
        go_wp2_with fail
        refine (notUnitText_any a _ hza).mono ?_
        rintro e w1 ⟨rfl, hb1⟩
        have ⟨cw1, fw1⟩ := bcell hb1
        have qw1 := hb1.size
        (try simp at qw1)
        (try have zw1w := bsz (show w.heap.size < w1.heap.size by omega))
        rw [HN.out]
        go_wp2
      · go_ret
        exact ⟨k, rfl, by rw [HE.out, HD.out, HN.out]; simp, by (repeat (first | with_reducible exact Below.refl _ _ | with_reducible assumption | with_reducible refine Below.al ?_ _ | with_reducible refine Below.sc ?_ (by first | exact Nat.le_refl _ | (simp; done) | (simp; omega)) _ | assumption | exact Below.refl _ _ | refine Below.dr ?_ | refine Below.drN ?_ _ | refine Below.step ?_ (by assumption)))⟩
      · refine ⟨⟨k + 1, by omega, by go_num, ?_, by (repeat (first | with_reducible exact Below.refl _ _ | with_reducible assumption | with_reducible refine Below.al ?_ _ | with_reducible refine Below.sc ?_ (by first | exact Nat.le_refl _ | (simp; done) | (simp; omega)) _ | assumption | exact Below.refl _ _ | refine Below.dr ?_ | refine Below.drN ?_ _ | refine Below.step ?_ (by assumption)))⟩, by simp [intOf]; omega⟩
        rw [HE.out, HD.out, HN.out]; rfl
    · obtain rfl : k = us.length := by omega
      have he := HE.out
      rw [List.drop_length, List.any_nil] at he
      have HE2 := Lib.hid he
      clear he
      go_wp2
      go_ret
      exact ⟨-1, rfl, by rw [HE2.out]; rfl, by (repeat (first | with_reducible exact Below.refl _ _ | with_reducible assumption | with_reducible refine Below.al ?_ _ | with_reducible refine Below.sc ?_ (by first | exact Nat.le_refl _ | (simp; done) | (simp; omega)) _ | assumption | exact Below.refl _ _ | refine Below.dr ?_ | refine Below.drN ?_ _ | refine Below.step ?_ (by assumption)))⟩
theorem containsTxt {B : Nat → Prop} (us : List ByteArray) (hz : ∀ s ∈ us, s.size ≤ 1000000000000) (va : Value) (w : World) (h : StrsAt B w va us) :
    Calls Tryz.prog 189 #[va, .func (.func 190) #[] #[]] w fun e w' => e = .returned (.bool (us.any fun s => !unitTxt s)) ∧ Below w.heap.size w w' := by
  have H := Lib.hid h
  have IH := Lib.hid (indexTxt (B := B) us hz)
  clear h
  go_enter Tryz.func189, Tryz.ntmps189
  go_wp2_with fail
  refine (IH.out va _ H.out).mono ?_
  rintro e w1 ⟨r, rfl, hr, hb1⟩
  have HR := Lib.hid hr
  clear hr
  go_wp2
  go_ret
  exact ⟨ret_bool HR.out, hb1⟩
set_option maxRecDepth 100000 in
set_option maxHeartbeats 3200000 in
theorem implUnit_any {B : Nat → Prop} (u : Un) (v0 v1 v2 v3 : Value) (w : World) (h : UnAt B w u [v0, v1, v2, v3]) (hw : u.wt ≤ 1000000000000) :
    Calls Tryz.prog 140 #[.agg #[v0, v1, v2, v3]] w fun e w' => e = .returned (.bool u.good) ∧ Below w.heap.size w w' := by
  obtain ⟨p, c, q, d, rfl, rfl, rfl, rfl, hn, hg, l1, l2, hi, ha⟩ := h.form
  unfold maxLen at l1 l2
  have HI := Lib.hid hi
  have HA := Lib.hid ha
  have HG := Lib.hid (show u.good = (symB u.name.data.toList && decide (u.incs.length ≤ 12) && namesF none u.incs && decide (u.axs.length ≤ 6) && u.axs.all unitTxt && (u.goal.data.toList == [] || unitTxt u.goal)) from rfl)
  have HZ := Lib.hid (fun s hs => Nat.le_trans (u.axs_le s hs) hw)
  have hgz := Nat.le_trans u.goal_le hw
  clear h hi ha
  go_enter Tryz.func140, Tryz.ntmps140
  go_wp2_with fail
  refine (isSymbol_any u.name _ hn).mono ?_
  rintro e w1 ⟨rfl, hb1⟩
  have ⟨cw1, fw1⟩ := bcell hb1
  have qw1 := hb1.size
  (try simp at qw1)
  (try have zw1w := bsz (show w.heap.size < w1.heap.size by omega))
  cases h1 : symB u.name.data.toList
  · have H1 := Lib.hid h1
    go_wp2
    go_ret
    exact ⟨ret_bool (by rw [HG.out, H1.out]; rfl), by (repeat (first | with_reducible exact Below.refl _ _ | with_reducible assumption | with_reducible refine Below.al ?_ _ | with_reducible refine Below.sc ?_ (by first | exact Nat.le_refl _ | (simp; done) | (simp; omega)) _ | assumption | exact Below.refl _ _ | refine Below.dr ?_ | refine Below.drN ?_ _ | refine Below.step ?_ (by assumption)))⟩
  have H1 := Lib.hid h1
  clear h1
  by_cases h2 : u.incs.length ≤ 12
  case neg =>
    have h2i : ¬ ((u.incs.length : Int) ≤ 12) := by omega
    have H2 := Lib.hid h2
    go_wp2
    go_ret
    exact ⟨ret_bool (by rw [HG.out, H1.out, decide_eq_false H2.out]; rfl), by (repeat (first | with_reducible exact Below.refl _ _ | with_reducible assumption | with_reducible refine Below.al ?_ _ | with_reducible refine Below.sc ?_ (by first | exact Nat.le_refl _ | (simp; done) | (simp; omega)) _ | assumption | exact Below.refl _ _ | refine Below.dr ?_ | refine Below.drN ?_ _ | refine Below.step ?_ (by assumption)))⟩
  have h2i : ((u.incs.length : Int) ≤ 12) := by omega
  have H2 := Lib.hid h2
  clear h2
  go_wp2_with fail
  refine (areNames_any u.incs _ _ (HI.out.below (by (repeat (first | with_reducible exact Below.refl _ _ | with_reducible assumption | with_reducible refine Below.al ?_ _ | with_reducible refine Below.sc ?_ (by first | exact Nat.le_refl _ | (simp; done) | (simp; omega)) _ | assumption | exact Below.refl _ _ | refine Below.dr ?_ | refine Below.drN ?_ _ | refine Below.step ?_ (by assumption)))))).mono ?_
  rintro e w2 ⟨rfl, hb2⟩
  have ⟨cw2, fw2⟩ := bcell hb2
  have qw2 := hb2.size
  (try simp at qw2)
  (try have zw2w := bsz (show w.heap.size < w2.heap.size by omega))
  (try have zw2w1 := bsz (show w1.heap.size < w2.heap.size by omega))
  cases h3 : namesF none u.incs
  · have H3 := Lib.hid h3
    go_wp2
    go_ret
    exact ⟨ret_bool (by rw [HG.out, H1.out, decide_eq_true H2.out, H3.out]; rfl), by (repeat (first | with_reducible exact Below.refl _ _ | with_reducible assumption | with_reducible refine Below.al ?_ _ | with_reducible refine Below.sc ?_ (by first | exact Nat.le_refl _ | (simp; done) | (simp; omega)) _ | assumption | exact Below.refl _ _ | refine Below.dr ?_ | refine Below.drN ?_ _ | refine Below.step ?_ (by assumption)))⟩
  have H3 := Lib.hid h3
  clear h3
  by_cases h4 : u.axs.length ≤ 6
  case neg =>
    have h4i : ¬ ((u.axs.length : Int) ≤ 6) := by omega
    have H4 := Lib.hid h4
    go_wp2
    go_ret
    exact ⟨ret_bool (by rw [HG.out, H1.out, decide_eq_true H2.out, H3.out, decide_eq_false H4.out]; rfl), by (repeat (first | with_reducible exact Below.refl _ _ | with_reducible assumption | with_reducible refine Below.al ?_ _ | with_reducible refine Below.sc ?_ (by first | exact Nat.le_refl _ | (simp; done) | (simp; omega)) _ | assumption | exact Below.refl _ _ | refine Below.dr ?_ | refine Below.drN ?_ _ | refine Below.step ?_ (by assumption)))⟩
  have h4i : ((u.axs.length : Int) ≤ 6) := by omega
  have H4 := Lib.hid h4
  clear h4
  go_wp2_with fail
  refine (containsTxt u.axs HZ.out _ _ (HA.out.below (by (repeat (first | with_reducible exact Below.refl _ _ | with_reducible assumption | with_reducible refine Below.al ?_ _ | with_reducible refine Below.sc ?_ (by first | exact Nat.le_refl _ | (simp; done) | (simp; omega)) _ | assumption | exact Below.refl _ _ | refine Below.dr ?_ | refine Below.drN ?_ _ | refine Below.step ?_ (by assumption)))))).mono ?_
  rintro e w3 ⟨rfl, hb3⟩
  have ⟨cw3, fw3⟩ := bcell hb3
  have qw3 := hb3.size
  (try simp at qw3)
  (try have zw3w := bsz (show w.heap.size < w3.heap.size by omega))
  (try have zw3w1 := bsz (show w1.heap.size < w3.heap.size by omega))
  (try have zw3w2 := bsz (show w2.heap.size < w3.heap.size by omega))
  have HNA := Lib.hid (all_not_any u.axs)
  cases h5 : (u.axs.any fun s => !unitTxt s)
  case true =>
    have H5 := Lib.hid h5
    go_wp2
    go_ret
    exact ⟨ret_bool (by rw [HG.out, H1.out, decide_eq_true H2.out, H3.out, decide_eq_true H4.out, HNA.out, H5.out]; rfl), by (repeat (first | with_reducible exact Below.refl _ _ | with_reducible assumption | with_reducible refine Below.al ?_ _ | with_reducible refine Below.sc ?_ (by first | exact Nat.le_refl _ | (simp; done) | (simp; omega)) _ | assumption | exact Below.refl _ _ | refine Below.dr ?_ | refine Below.drN ?_ _ | refine Below.step ?_ (by assumption)))⟩
  have H5 := Lib.hid h5
  clear h5
  cases h6 : (u.goal.toList == [])
  case true =>
    have H6 := Lib.hid h6
    go_wp2
    go_ret
    exact ⟨ret_bool (by rw [HG.out, H1.out, decide_eq_true H2.out, H3.out, decide_eq_true H4.out, HNA.out, H5.out, ← ByteArray.toList_eq, H6.out]; rfl), by (repeat (first | with_reducible exact Below.refl _ _ | with_reducible assumption | with_reducible refine Below.al ?_ _ | with_reducible refine Below.sc ?_ (by first | exact Nat.le_refl _ | (simp; done) | (simp; omega)) _ | assumption | exact Below.refl _ _ | refine Below.dr ?_ | refine Below.drN ?_ _ | refine Below.step ?_ (by assumption)))⟩
  have H6 := Lib.hid h6
  go_wp2_with fail
  refine (isUnitText_any u.goal _ hgz).mono ?_
  rintro e w4 ⟨rfl, hb4⟩
  have ⟨cw4, fw4⟩ := bcell hb4
  have qw4 := hb4.size
  (try simp at qw4)
  (try have zw4w := bsz (show w.heap.size < w4.heap.size by omega))
  (try have zw4w1 := bsz (show w1.heap.size < w4.heap.size by omega))
  (try have zw4w2 := bsz (show w2.heap.size < w4.heap.size by omega))
  (try have zw4w3 := bsz (show w3.heap.size < w4.heap.size by omega))
  go_wp2
  go_ret
  exact ⟨ret_bool (by rw [HG.out, H1.out, decide_eq_true H2.out, H3.out, decide_eq_true H4.out, HNA.out, H5.out, ← ByteArray.toList_eq, H6.out]; rfl), by (repeat (first | with_reducible exact Below.refl _ _ | with_reducible assumption | with_reducible refine Below.al ?_ _ | with_reducible refine Below.sc ?_ (by first | exact Nat.le_refl _ | (simp; done) | (simp; omega)) _ | assumption | exact Below.refl _ _ | refine Below.dr ?_ | refine Below.drN ?_ _ | refine Below.step ?_ (by assumption)))⟩
end Go.Proofs.YtcegllnljaapiaaGreat
namespace Go.Proofs.YtcegllnljaapiaaGreat
open Go.RowKit
set_option maxRecDepth 100000 in
set_option maxHeartbeats 1600000 in
theorem l27Text_any (s : ByteArray) (w : World) (hs : s.size ≤ 1000000000000) : Calls Tryz.prog 138 #[.string s] w fun e w' => e = .returned (.bool (unitTxt s)) ∧ Below w.heap.size w w' := by
  have HU := Lib.hid (show unitTxt s = (pfOk s && decide (s.size ≤ 100)) from rfl)
  go_enter Tryz.func138, Tryz.ntmps138
  go_wp2_with fail
  refine (specPF_any s hs _).mono ?_
  rintro e w1 hp
  obtain ⟨op, m, p, k, c, v, q, k2, d, rfl, hb1⟩ := hp.form
  clear hp
  cases hk : pfOk s <;> by_cases h1 : s.size ≤ 100
  all_goals
    have h2 := HU.out
    rw [hk] at h2
    have HU2 := Lib.hid h2
    clear h2
    have h1i : ((s.size : Int) ≤ 100) = (s.size ≤ 100) := by apply propext; omega
    go_wp2
    go_ret
    exact ⟨ret_bool (by rw [HU2.out]; simp [h1]), by (repeat (first | with_reducible exact Below.refl _ _ | with_reducible assumption | with_reducible refine Below.al ?_ _ | with_reducible refine Below.sc ?_ (by first | exact Nat.le_refl _ | (simp; done) | (simp; omega)) _ | assumption | exact Below.refl _ _ | refine Below.dr ?_ | refine Below.drN ?_ _ | refine Below.step ?_ (by assumption)))⟩
/-- The boxed unit, and nothing older touched. -/
structure UBox (u : Un) (p q : Option Addr) (c d : Nat) (w wr : World) : Prop where
  bel : Below w.heap.size w wr
  cell : wr.heap[w.heap.size]? = some (.cells #[.string u.name, .slice p u.incs.length c, .slice q u.axs.length d, .string u.goal] 79 (0, 0))
theorem UBox.later {u : Un} {p q : Option Addr} {c d : Nat} {w wr w' : World} (h : UBox u p q c d w wr) (hb : Below wr.heap.size wr w') : UBox u p q c d w w' := ⟨h.bel.trans (hb.mono h.bel.size), (hb.block _ (heap_lt h.cell)).trans h.cell⟩
theorem UBox.cells {u : Un} {p q : Option Addr} {c d : Nat} {w wr : World} (h : UBox u p q c d w wr) : wr.cell? ⟨w.heap.size, 0, none⟩ = some (.string u.name) ∧ wr.cell? ⟨w.heap.size, 1, none⟩ = some (.slice p u.incs.length c) ∧ wr.cell? ⟨w.heap.size, 2, none⟩ = some (.slice q u.axs.length d) ∧ wr.cell? ⟨w.heap.size, 3, none⟩ = some (.string u.goal) := by
  refine ⟨?_, ?_, ?_, ?_⟩
  · rw [cell_of_row _ _ 0 _ _ (0, 0) h.cell]; rfl
  · rw [cell_of_row _ _ 1 _ _ (0, 0) h.cell]; rfl
  · rw [cell_of_row _ _ 2 _ _ (0, 0) h.cell]; rfl
  · rw [cell_of_row _ _ 3 _ _ (0, 0) h.cell]; rfl
set_option maxRecDepth 100000 in
set_option maxHeartbeats 6400000 in
theorem l27Unit_any {B : Nat → Prop} (u : Un) (v0 v1 v2 v3 : Value) (w : World) (h : UnAt B w u [v0, v1, v2, v3]) (hw : u.wt ≤ 1000000000000) :
    Calls Tryz.prog 84 #[.agg #[v0, v1, v2, v3]] w fun e w' => e = .returned (.bool u.good) ∧ Below w.heap.size w w' := by
  obtain ⟨p, c, q, d, rfl, rfl, rfl, rfl, hn, hg, l1, l2, hi, ha⟩ := h.form
  unfold maxLen at l1 l2
  have HI := Lib.hid hi
  have HA := Lib.hid ha
  have HG := Lib.hid (show u.good = (symB u.name.data.toList && decide (u.incs.length ≤ 12) && namesF none u.incs && decide (u.axs.length ≤ 6) && u.axs.all unitTxt && (u.goal.data.toList == [] || unitTxt u.goal)) from rfl)
  have HZ := Lib.hid (fun s hs => Nat.le_trans (u.axs_le s hs) hw)
  have hgz := Nat.le_trans u.goal_le hw
  have HU0 := Lib.hid (show UBox u p q c d w (w.alloc (.cells #[.string u.name, .slice p u.incs.length c, .slice q u.axs.length d, .string u.goal] 79)) from ⟨(Below.refl _ _).alloc (Nat.le_refl _) _, heap_alloc_new w _⟩)
  clear h hi ha
  go_enter Tryz.func84, Tryz.ntmps84
  go_wp2_with fail
  refine (l2Symbol_any u.name _ hn).mono ?_
  rintro e w1 ⟨rfl, rfl⟩
  cases h1 : symB u.name.data.toList
  case false =>
    have HNO := Lib.hid (show u.good = false by rw [HG.out, h1]; rfl)
    go_wp2
    go_ret
    exact ⟨ret_bool HNO.out.symm, by (repeat (first | with_reducible exact Below.refl _ _ | with_reducible assumption | with_reducible refine Below.al ?_ _ | with_reducible refine Below.sc ?_ (by first | exact Nat.le_refl _ | (simp; done) | (simp; omega)) _ | assumption | exact Below.refl _ _ | refine Below.dr ?_ | refine Below.drN ?_ _ | refine Below.step ?_ (by assumption)))⟩
  by_cases h2 : u.incs.length ≤ 12
  case neg =>
    have HNO := Lib.hid (show u.good = false by rw [HG.out, h1, decide_eq_false h2]; rfl)
    have h2j : ((12 : Int) < (u.incs.length : Int)) := by omega
    clear h2
    go_wp2
    go_ret
    exact ⟨ret_bool HNO.out.symm, by (repeat (first | with_reducible exact Below.refl _ _ | with_reducible assumption | with_reducible refine Below.al ?_ _ | with_reducible refine Below.sc ?_ (by first | exact Nat.le_refl _ | (simp; done) | (simp; omega)) _ | assumption | exact Below.refl _ _ | refine Below.dr ?_ | refine Below.drN ?_ _ | refine Below.step ?_ (by assumption)))⟩
  have h2j : ¬ ((12 : Int) < (u.incs.length : Int)) := by omega
  by_cases h4 : u.axs.length ≤ 6
  case neg =>
    have HNO := Lib.hid (show u.good = false by rw [HG.out, h1, decide_eq_false h4]; simp)
    have h4j : ((6 : Int) < (u.axs.length : Int)) := by omega
    clear h4 h2
    go_wp2
    go_ret
    exact ⟨ret_bool HNO.out.symm, by (repeat (first | with_reducible exact Below.refl _ _ | with_reducible assumption | with_reducible refine Below.al ?_ _ | with_reducible refine Below.sc ?_ (by first | exact Nat.le_refl _ | (simp; done) | (simp; omega)) _ | assumption | exact Below.refl _ _ | refine Below.dr ?_ | refine Below.drN ?_ _ | refine Below.step ?_ (by assumption)))⟩
  have h4j : ¬ ((6 : Int) < (u.axs.length : Int)) := by omega
  have HG2 := Lib.hid (show u.good = (namesF none u.incs && u.axs.all unitTxt && (u.goal.data.toList == [] || unitTxt u.goal)) by rw [HG.out, h1, decide_eq_true h2, decide_eq_true h4]; simp)
  clear h2 h4 HG
  go_wp2
  go_loopw [3] (fun i wr => ∃ k : Nat, k ≤ u.incs.length ∧ i = .int .i64 k ∧ namesF none u.incs = namesF (prevS u.incs k) (u.incs.drop k) ∧ UBox u p q c d w wr) (fun i _ => u.incs.length - (intOf i).toNat)
  case atStart => exact ⟨0, Nat.zero_le _, rfl, rfl, HU0.out⟩
  case round =>
    obtain ⟨k, hk, rfl, he, hub⟩ := hrel
    have HE := Lib.hid he
    have HUB := Lib.hid hub
    have hb := hub.bel
    have hqz := hb.size
    obtain ⟨x0, x1, x2, x3⟩ := hub.cells
    have zub := bsz (heap_lt hub.cell)
    clear he hub HU0
    by_cases hlt : k < u.incs.length
    · obtain ⟨b, o, rfl, hB, hx0, hxs⟩ := (HI.out.below hb).at_ hlt
      have HD := Lib.hid (namesF_drop hlt)
      have hki : (k : Int) < u.incs.length := by omega
      have zb := bsz (World.block_lt_of_cell? _ _ hx0)
      by_cases hk0 : k = 0
      · subst hk0
        rw [Nat.add_zero] at hx0
        have HP := Lib.hid (show prevS u.incs 0 = none from rfl)
        obtain ⟨a, hae⟩ : ∃ a, u.incs[0] = a := ⟨_, rfl⟩
        rw [hae] at hx0 hxs HD
        clear hae
        cases hy : symB a.data.toList
        all_goals
          have HSY := Lib.hid (show ∀ w, Calls Tryz.prog 42 #[.string a] w fun e w' => e = .returned (.bool _) ∧ Below w.heap.size w w' from fun w => hy ▸ same_below (l2Symbol_any a w hxs))
          have HY := Lib.hid hy
          clear hy
          go_wp2
          obtain ⟨C, HC0⟩ := class_of (InF wr.heap.size _ [(⟨w.heap.size, 1, none⟩, .slice (some ⟨b, o, none⟩) u.incs.length c), (⟨b, o, none⟩, .string a)] [] [])
          have HC := Lib.hid HC0
          clear HC0
          refine wp_region_flow (C := C) (by kernel_rfl) (by kernel_rfl) (fun L hL => (HC.out _ _).2 (InF.start (by first | (intro _ hs; cases hs; done) | (simp only [List.forall_mem_cons]; go_simp)) (by first | (intro _ hs; cases hs; done) | (simp only [List.forall_mem_cons]; go_simp)) (by first | (intro _ hs; cases hs; done) | (simp only [List.forall_mem_cons]; go_simp)) (by first | (intro _ hs; cases hs; done) | (simp only [List.forall_mem_cons]; go_simp)) L hL)) ?_
          repeat (first | (apply flow_free rfl; (intro L w' hun hrd hC; have hC := (HC.out _ _).1 hC; have hb' := hC.below; (try have hw' : Below w.heap.size w w' := by first | exact Below.trans (by (repeat (first | with_reducible exact Below.refl _ _ | with_reducible assumption | with_reducible refine Below.al ?_ _ | with_reducible refine Below.sc ?_ (by first | exact Nat.le_refl _ | (simp; done) | (simp; omega)) _ | assumption | exact Below.refl _ _ | refine Below.dr ?_ | refine Below.drN ?_ _ | refine Below.step ?_ (by assumption)))) hb' | ((repeat (first | with_reducible exact Below.refl _ _ | with_reducible assumption | with_reducible refine Below.al ?_ _ | with_reducible refine Below.sc ?_ (by first | exact Nat.le_refl _ | (simp; done) | (simp; omega)) _ | assumption | exact Below.refl _ _ | refine Below.dr ?_ | refine Below.drN ?_ _ | refine Below.step ?_ (by assumption))); done)); have hf' := hC.cell; (try simp only [List.forall_mem_cons] at hf'); go_simp; first | exact ⟨(HC.out _ _).2 (hC.skip _ (by rfl)), rfl⟩ | (rw [if_neg]; (exact ⟨(HC.out _ _).2 (hC.skip _ (by rfl)), rfl⟩); omega) | (go_at_call 42; refine (HSY.out _).mono ?_; rintro e w1 ⟨rfl, hb1⟩; exact ⟨rfl, (HC.out _ _).2 ((hC.next (by first | (simp; done) | (simp; omega) | omega) hb1).skip _ (by rfl))⟩)); go_simp) | (apply flow_yes; (case hw => go_simp); (intro L w' hun hrd hC; have hC := (HC.out _ _).1 hC; have hb' := hC.below; (try have hw' : Below w.heap.size w w' := by first | exact Below.trans (by (repeat (first | with_reducible exact Below.refl _ _ | with_reducible assumption | with_reducible refine Below.al ?_ _ | with_reducible refine Below.sc ?_ (by first | exact Nat.le_refl _ | (simp; done) | (simp; omega)) _ | assumption | exact Below.refl _ _ | refine Below.dr ?_ | refine Below.drN ?_ _ | refine Below.step ?_ (by assumption)))) hb' | ((repeat (first | with_reducible exact Below.refl _ _ | with_reducible assumption | with_reducible refine Below.al ?_ _ | with_reducible refine Below.sc ?_ (by first | exact Nat.le_refl _ | (simp; done) | (simp; omega)) _ | assumption | exact Below.refl _ _ | refine Below.dr ?_ | refine Below.drN ?_ _ | refine Below.step ?_ (by assumption))); done)); have hf' := hC.cell; (try simp only [List.forall_mem_cons] at hf'); go_simp; first | exact ⟨(HC.out _ _).2 (hC.skip _ (by rfl)), rfl⟩ | (rw [if_neg]; (exact ⟨(HC.out _ _).2 (hC.skip _ (by rfl)), rfl⟩); omega) | (go_at_call 42; refine (HSY.out _).mono ?_; rintro e w1 ⟨rfl, hb1⟩; exact ⟨rfl, (HC.out _ _).2 ((hC.next (by first | (simp; done) | (simp; omega) | omega) hb1).skip _ (by rfl))⟩)); go_simp) | (apply flow_no; (case hw => (go_simp; try (intro hh; cases hh))); (intro L w' _ _ hC; exact (HC.out _ _).2 (((HC.out _ _).1 hC).skip _ (by rfl))); go_simp))
          refine flow_nil ?_
          intro L wz hL hz
          have hz := (HC.out _ _).1 hz
          have hbz := hz.below
          have hcz := hz.cell
          try simp only [List.forall_mem_cons] at hcz
          have hdz := hz.done
          try simp only [List.forall_mem_cons] at hdz
          (try have hwz : Below w.heap.size w wz := by first | exact Below.trans (by (repeat (first | with_reducible exact Below.refl _ _ | with_reducible assumption | with_reducible refine Below.al ?_ _ | with_reducible refine Below.sc ?_ (by first | exact Nat.le_refl _ | (simp; done) | (simp; omega)) _ | assumption | exact Below.refl _ _ | refine Below.dr ?_ | refine Below.drN ?_ _ | refine Below.step ?_ (by assumption)))) hbz | ((repeat (first | with_reducible exact Below.refl _ _ | with_reducible assumption | with_reducible refine Below.al ?_ _ | with_reducible refine Below.sc ?_ (by first | exact Nat.le_refl _ | (simp; done) | (simp; omega)) _ | assumption | exact Below.refl _ _ | refine Below.dr ?_ | refine Below.drN ?_ _ | refine Below.step ?_ (by assumption))); done))
          go_wp2
        · go_ret
          exact ⟨ret_bool (by rw [HG2.out, HE.out, HD.out, HY.out]; rfl), by (repeat (first | with_reducible exact Below.refl _ _ | with_reducible assumption | with_reducible refine Below.al ?_ _ | with_reducible refine Below.sc ?_ (by first | exact Nat.le_refl _ | (simp; done) | (simp; omega)) _ | assumption | exact Below.refl _ _ | refine Below.dr ?_ | refine Below.drN ?_ _ | refine Below.step ?_ (by assumption)))⟩
        · refine ⟨⟨1, by omega, by go_num, ?_, HUB.out.later hbz⟩, by simp [intOf]; omega⟩
          rw [HE.out, HD.out, HY.out, HP.out]; rfl
      · have hk1 : k - 1 < u.incs.length := by omega
        obtain ⟨b', o', hq, hB', hy0, hys⟩ := (HI.out.below hb).at_ hk1
        simp only [Option.some.injEq, Addr.mk.injEq, and_true] at hq
        obtain ⟨rfl, rfl⟩ := hq
        have HP := Lib.hid (prevS_pos hlt (by omega))
        obtain ⟨a, hae⟩ : ∃ a, u.incs[k] = a := ⟨_, rfl⟩
        obtain ⟨r, hre⟩ : ∃ r, u.incs[k - 1] = r := ⟨_, rfl⟩
        rw [hae] at hx0 hxs HD
        rw [hre] at hy0 HP
        clear hae hre hys
        have hkm : IntKind.i64.wrap ((k : Int) - 1) = ((k - 1 : Nat) : Int) := by rw [IntWalk.i64_in _ (by omega)]; omega
        have hkp : (0 : Int) < (k : Int) := by omega
        have hkj : ((k - 1 : Nat) : Int) < u.incs.length := by omega
        have hkn : 0 < k := by omega
        have HL0 := Lib.hid (show lessB r a = Op.bytesLess r.toList a.toList by rw [lessB, ← ByteArray.toList_eq, ← ByteArray.toList_eq])
        cases hy : symB a.data.toList <;> cases hA : Op.bytesLess r.toList a.toList
        all_goals
          have HSY := Lib.hid (show ∀ w, Calls Tryz.prog 42 #[.string a] w fun e w' => e = .returned (.bool _) ∧ Below w.heap.size w w' from fun w => hy ▸ same_below (l2Symbol_any a w hxs))
          have HY := Lib.hid hy
          have HLS := Lib.hid (HL0.out.trans hA)
          clear hy
          go_wp2
          obtain ⟨C, HC0⟩ := class_of (InF wr.heap.size _ [(⟨w.heap.size, 1, none⟩, .slice (some ⟨b, o, none⟩) u.incs.length c), (⟨b, o + k, none⟩, .string a), (⟨b, o + (k - 1), none⟩, .string r)] [] [])
          have HC := Lib.hid HC0
          clear HC0
          refine wp_region_flow (C := C) (by kernel_rfl) (by kernel_rfl) (fun L hL => (HC.out _ _).2 (InF.start (by first | (intro _ hs; cases hs; done) | (simp only [List.forall_mem_cons]; go_simp)) (by first | (intro _ hs; cases hs; done) | (simp only [List.forall_mem_cons]; go_simp)) (by first | (intro _ hs; cases hs; done) | (simp only [List.forall_mem_cons]; go_simp)) (by first | (intro _ hs; cases hs; done) | (simp only [List.forall_mem_cons]; go_simp)) L hL)) ?_
          repeat (first | (apply flow_free rfl; (intro L w' hun hrd hC; have hC := (HC.out _ _).1 hC; have hb' := hC.below; (try have hw' : Below w.heap.size w w' := by first | exact Below.trans (by (repeat (first | with_reducible exact Below.refl _ _ | with_reducible assumption | with_reducible refine Below.al ?_ _ | with_reducible refine Below.sc ?_ (by first | exact Nat.le_refl _ | (simp; done) | (simp; omega)) _ | assumption | exact Below.refl _ _ | refine Below.dr ?_ | refine Below.drN ?_ _ | refine Below.step ?_ (by assumption)))) hb' | ((repeat (first | with_reducible exact Below.refl _ _ | with_reducible assumption | with_reducible refine Below.al ?_ _ | with_reducible refine Below.sc ?_ (by first | exact Nat.le_refl _ | (simp; done) | (simp; omega)) _ | assumption | exact Below.refl _ _ | refine Below.dr ?_ | refine Below.drN ?_ _ | refine Below.step ?_ (by assumption))); done)); have hf' := hC.cell; (try simp only [List.forall_mem_cons] at hf'); go_simp; first | exact ⟨(HC.out _ _).2 (hC.skip _ (by rfl)), rfl⟩ | (rw [if_neg]; (exact ⟨(HC.out _ _).2 (hC.skip _ (by rfl)), rfl⟩); omega) | (go_at_call 42; refine (HSY.out _).mono ?_; rintro e w1 ⟨rfl, hb1⟩; exact ⟨rfl, (HC.out _ _).2 ((hC.next (by first | (simp; done) | (simp; omega) | omega) hb1).skip _ (by rfl))⟩)); go_simp) | (apply flow_yes; (case hw => go_simp); (intro L w' hun hrd hC; have hC := (HC.out _ _).1 hC; have hb' := hC.below; (try have hw' : Below w.heap.size w w' := by first | exact Below.trans (by (repeat (first | with_reducible exact Below.refl _ _ | with_reducible assumption | with_reducible refine Below.al ?_ _ | with_reducible refine Below.sc ?_ (by first | exact Nat.le_refl _ | (simp; done) | (simp; omega)) _ | assumption | exact Below.refl _ _ | refine Below.dr ?_ | refine Below.drN ?_ _ | refine Below.step ?_ (by assumption)))) hb' | ((repeat (first | with_reducible exact Below.refl _ _ | with_reducible assumption | with_reducible refine Below.al ?_ _ | with_reducible refine Below.sc ?_ (by first | exact Nat.le_refl _ | (simp; done) | (simp; omega)) _ | assumption | exact Below.refl _ _ | refine Below.dr ?_ | refine Below.drN ?_ _ | refine Below.step ?_ (by assumption))); done)); have hf' := hC.cell; (try simp only [List.forall_mem_cons] at hf'); go_simp; first | exact ⟨(HC.out _ _).2 (hC.skip _ (by rfl)), rfl⟩ | (rw [if_neg]; (exact ⟨(HC.out _ _).2 (hC.skip _ (by rfl)), rfl⟩); omega) | (go_at_call 42; refine (HSY.out _).mono ?_; rintro e w1 ⟨rfl, hb1⟩; exact ⟨rfl, (HC.out _ _).2 ((hC.next (by first | (simp; done) | (simp; omega) | omega) hb1).skip _ (by rfl))⟩)); go_simp) | (apply flow_no; (case hw => (go_simp; try (intro hh; cases hh))); (intro L w' _ _ hC; exact (HC.out _ _).2 (((HC.out _ _).1 hC).skip _ (by rfl))); go_simp))
          refine flow_nil ?_
          intro L wz hL hz
          have hz := (HC.out _ _).1 hz
          have hbz := hz.below
          have hcz := hz.cell
          try simp only [List.forall_mem_cons] at hcz
          have hdz := hz.done
          try simp only [List.forall_mem_cons] at hdz
          (try have hwz : Below w.heap.size w wz := by first | exact Below.trans (by (repeat (first | with_reducible exact Below.refl _ _ | with_reducible assumption | with_reducible refine Below.al ?_ _ | with_reducible refine Below.sc ?_ (by first | exact Nat.le_refl _ | (simp; done) | (simp; omega)) _ | assumption | exact Below.refl _ _ | refine Below.dr ?_ | refine Below.drN ?_ _ | refine Below.step ?_ (by assumption)))) hbz | ((repeat (first | with_reducible exact Below.refl _ _ | with_reducible assumption | with_reducible refine Below.al ?_ _ | with_reducible refine Below.sc ?_ (by first | exact Nat.le_refl _ | (simp; done) | (simp; omega)) _ | assumption | exact Below.refl _ _ | refine Below.dr ?_ | refine Below.drN ?_ _ | refine Below.step ?_ (by assumption))); done))
          go_wp2
        all_goals first
          | (refine ⟨⟨k + 1, by omega, by go_num, ?_, HUB.out.later hbz⟩, by simp [intOf]; omega⟩; rw [HE.out, HD.out, HY.out, HP.out, ascS, HLS.out]; rfl)
          | (go_ret; exact ⟨ret_bool (by rw [HG2.out, HE.out, HD.out, HY.out, HP.out, ascS, HLS.out]; rfl), by (repeat (first | with_reducible exact Below.refl _ _ | with_reducible assumption | with_reducible refine Below.al ?_ _ | with_reducible refine Below.sc ?_ (by first | exact Nat.le_refl _ | (simp; done) | (simp; omega)) _ | assumption | exact Below.refl _ _ | refine Below.dr ?_ | refine Below.drN ?_ _ | refine Below.step ?_ (by assumption)))⟩)
    · obtain rfl : k = u.incs.length := by omega
      have he := HE.out
      rw [List.drop_length, namesF] at he
      have HG3 := Lib.hid (show u.good = (u.axs.all unitTxt && (u.goal.data.toList == [] || unitTxt u.goal)) by rw [HG2.out, he, Bool.true_and])
      clear he HE
      go_wp2
      go_loopw [4] (fun i wr => ∃ k : Nat, k ≤ u.axs.length ∧ i = .int .i64 k ∧ u.axs.all unitTxt = (u.axs.drop k).all unitTxt ∧ UBox u p q c d w wr) (fun i _ => u.axs.length - (intOf i).toNat)
      case atStart => exact ⟨0, Nat.zero_le _, rfl, rfl, HUB.out⟩
      case round =>
        clear HUB x0 x1 x2 x3 zub hb
        obtain ⟨k, hk, rfl, he, hub⟩ := hrel
        have HE := Lib.hid he
        have HUB := Lib.hid hub
        have hb := hub.bel
        have hqz := hb.size
        obtain ⟨x0, x1, x2, x3⟩ := hub.cells
        have zub := bsz (heap_lt hub.cell)
        clear he hub
        by_cases hlt : k < u.axs.length
        · obtain ⟨b, o, rfl, hB, hx0, hxs⟩ := (HA.out.below hb).at_ hlt
          have HD := Lib.hid (all_drop u.axs unitTxt hlt)
          have hza := HZ.out _ (List.getElem_mem hlt)
          obtain ⟨a, hae⟩ : ∃ a, u.axs[k] = a := ⟨_, rfl⟩
          rw [hae] at hx0 hxs HD hza
          clear hae
          have zb := bsz (World.block_lt_of_cell? _ _ hx0)
          cases hN : unitTxt a
          all_goals
            have HN := Lib.hid hN
            clear hN
            go_wp2_with fail
            refine (l27Text_any a _ hza).mono ?_
            rintro e w1 ⟨rfl, hb1⟩
            have ⟨cw1, fw1⟩ := bcell hb1
            have qw1 := hb1.size
            (try simp at qw1)
            (try have zw1w := bsz (show w.heap.size < w1.heap.size by omega))
            rw [HN.out]
            go_wp2
          · go_ret
            exact ⟨ret_bool (by rw [HG3.out, HE.out, HD.out, HN.out]; rfl), by (repeat (first | with_reducible exact Below.refl _ _ | with_reducible assumption | with_reducible refine Below.al ?_ _ | with_reducible refine Below.sc ?_ (by first | exact Nat.le_refl _ | (simp; done) | (simp; omega)) _ | assumption | exact Below.refl _ _ | refine Below.dr ?_ | refine Below.drN ?_ _ | refine Below.step ?_ (by assumption)))⟩
          · refine ⟨⟨k + 1, by omega, by go_num, ?_, HUB.out.later hb1⟩, by simp [intOf]; omega⟩
            rw [HE.out, HD.out, HN.out]; rfl
        · obtain rfl : k = u.axs.length := by omega
          have he := HE.out
          rw [List.drop_length, List.all_nil] at he
          have HG4 := Lib.hid (show u.good = (u.goal.data.toList == [] || unitTxt u.goal) by rw [HG3.out, he, Bool.true_and])
          clear he HE
          cases h6 : (u.goal.toList == [])
          case true =>
            have H6 := Lib.hid h6
            go_wp2
            go_ret
            exact ⟨ret_bool (by rw [HG4.out, ← ByteArray.toList_eq, H6.out]; rfl), by (repeat (first | with_reducible exact Below.refl _ _ | with_reducible assumption | with_reducible refine Below.al ?_ _ | with_reducible refine Below.sc ?_ (by first | exact Nat.le_refl _ | (simp; done) | (simp; omega)) _ | assumption | exact Below.refl _ _ | refine Below.dr ?_ | refine Below.drN ?_ _ | refine Below.step ?_ (by assumption)))⟩
          have H6 := Lib.hid h6
          go_wp2_with fail
          refine (l27Text_any u.goal _ hgz).mono ?_
          rintro e w1 ⟨rfl, hb1⟩
          have ⟨cw1, fw1⟩ := bcell hb1
          have qw1 := hb1.size
          (try simp at qw1)
          (try have zw1w := bsz (show w.heap.size < w1.heap.size by omega))
          go_wp2
          go_ret
          exact ⟨ret_bool (by rw [HG4.out, ← ByteArray.toList_eq, H6.out]; rfl), by (repeat (first | with_reducible exact Below.refl _ _ | with_reducible assumption | with_reducible refine Below.al ?_ _ | with_reducible refine Below.sc ?_ (by first | exact Nat.le_refl _ | (simp; done) | (simp; omega)) _ | assumption | exact Below.refl _ _ | refine Below.dr ?_ | refine Below.drN ?_ _ | refine Below.step ?_ (by assumption)))⟩
end Go.Proofs.YtcegllnljaapiaaGreat
namespace Go.Proofs.YtcegllnljaapiaaGreat
open Go.RowKit
/-- A number's digits, as 'markText' writes them. -/
def markL (n : Nat) : List UInt8 := if _ : n = 0 then [] else markL (n / 10) ++ [UInt8.ofNat (48 + n % 10)]
termination_by n
theorem markL_zero : markL 0 = [] := by rw [markL]; rfl
theorem markL_pos {n : Nat} (h : n ≠ 0) : markL n = markL (n / 10) ++ [UInt8.ofNat (48 + n % 10)] := by rw [markL, dif_neg h]
theorem markL_len (n : Nat) : (markL n).length ≤ n := by
  induction n using Nat.strongRecOn with
  | _ n ih =>
    by_cases h : n = 0
    · subst h; rw [markL_zero]; exact Nat.le_refl _
    · rw [markL_pos h, List.length_append]
      have := ih (n / 10) (by omega)
      simp; omega
def markB (n : Nat) : ByteArray := ⟨(109 :: markL n).toArray⟩
theorem digit_conv (w : World) (v : Int) (x : UInt8) (hv : v = x.toNat) :
    (convert 22 9 (.slice (some ⟨w.heap.size, 0, none⟩) 1 1)).run Tryz.prog (w.alloc (.cells #[.int .u8 v] 5)) = .ok (.string ⟨#[x]⟩) (w.alloc (.cells #[.int .u8 v] 5)) := by
  subst hv
  have h := run_convert_bytes_back (P := Tryz.prog) (w.alloc (.cells #[.int .u8 x.toNat] 5)) 22 9 5 ⟨w.heap.size, 0, none⟩ 1 [x] Tryz.underlying22 Tryz.underlying5 Tryz.underlying9 ?_
  · exact h
  · intro j hj
    have hj0 : j = 0 := by simpa using hj
    subst hj0
    have e : (⟨w.heap.size, 0, none⟩ : Addr).add 0 = ⟨w.heap.size, 0, none⟩ := by unfold Addr.add; simp
    rw [e, World.cell?_alloc_new]; rfl
theorem digit_val (k : Nat) : 48 + (k : Int) % 10 = ((UInt8.ofNat (48 + k % 10)).toNat : Int) := by
  rw [UInt8.toNat_ofNat']; omega
def MarkRel (n : Nat) (w : World) (d i : Value) (wr : World) : Prop :=
  ∃ (k : Nat) (l : List UInt8), k ≤ n ∧ i = .int .i64 k ∧ d = .string ⟨l.toArray⟩ ∧ markL k ++ l = markL n ∧ Below w.heap.size w wr
set_option maxRecDepth 100000 in
set_option maxHeartbeats 800000 in
theorem markText_any (n : Nat) (w : World) (h0 : 0 < n) (h1 : n ≤ 100000000) :
    Calls Tryz.prog 54 #[.int .i64 n] w fun e w' => e = .returned (.string (markB n)) ∧ Below w.heap.size w w' := by
  have hn : ¬ (n : Int) ≤ 0 := by omega
  go_enter Tryz.func54, Tryz.ntmps54
  go_wp2
  go_loopw [3, 0] (MarkRel n w) (fun _ i _ => (intOf i).toNat)
  case atStart => exact ⟨n, [], Nat.le_refl _, rfl, rfl, by simp, Below.refl _ _⟩
  case round =>
    obtain ⟨k, l, hk, rfl, rfl, hl, hb⟩ := hrel
    have HL := Lib.hid hl
    clear hl
    by_cases hk0 : 0 < (k : Int)
    · have kd := fun (w : World) => digit_conv w (48 + (k : Int) % 10) _ (digit_val k)
      have hll : ¬ 9223372036854775807 < 1 + l.length := by
        have h2 := congrArg List.length HL.out
        have h3 := markL_len n
        simp only [List.length_append] at h2; omega
      go_wp2
      refine ⟨⟨k / 10, (48 + UInt8.ofNat (k % 10)) :: l, by omega, by simp, ?_, ?_, ?_⟩, by simp [intOf]; omega⟩
      · exact congrArg Value.string (by apply ByteArray.ext; simp)
      · rw [← HL.out, markL_pos (n := k) (by omega), List.append_assoc]
        exact congrArg _ (congrArg (· :: l) (by rw [UInt8.ofNat_add]; rfl))
      · exact hb.alloc hb.size _
    · have hk1 : k = 0 := by omega
      subst hk1
      have hll : ¬ 9223372036854775807 < 1 + l.length := by
        have h2 := congrArg List.length HL.out
        have h3 := markL_len n
        simp only [List.length_append] at h2; omega
      go_wp2
      go_ret
      refine ⟨congrArg Ending.returned (congrArg Value.string ?_), hb⟩
      have h2 := HL.out
      rw [markL_zero, List.nil_append] at h2
      rw [markB, ← h2]; apply ByteArray.ext; simp
end Go.Proofs.YtcegllnljaapiaaGreat
namespace Go.Proofs.YtcegllnljaapiaaGreat
open Go.RowKit
/-- All blocks outside S are as they were. -/
structure Kept (S : Nat → Prop) (w w' : World) : Prop where
  os : w'.os = w.os
  tape : w'.tape = w.tape
  output : w'.output = w.output
  size : w.heap.size ≤ w'.heap.size
  block : ∀ b, b < w.heap.size → ¬ S b → w'.heap[b]? = w.heap[b]?
theorem Kept.refl (S : Nat → Prop) (w : World) : Kept S w w := ⟨rfl, rfl, rfl, Nat.le_refl _, fun _ _ _ => rfl⟩
theorem Kept.trans {S : Nat → Prop} {w w1 w2 : World} (h : Kept S w w1) (h2 : Kept S w1 w2) : Kept S w w2 :=
  ⟨h2.os.trans h.os, h2.tape.trans h.tape, h2.output.trans h.output, Nat.le_trans h.size h2.size, fun b hb hs => (h2.block b (Nat.lt_of_lt_of_le hb h.size) hs).trans (h.block b hb hs)⟩
theorem Kept.below {S : Nat → Prop} {w w1 w2 : World} (h : Kept S w w1) (h2 : Below w1.heap.size w1 w2) : Kept S w w2 :=
  ⟨h2.os.trans h.os, h2.tape.trans h.tape, h2.output.trans h.output, Nat.le_trans h.size h2.size, fun b hb hs => (h2.block b (Nat.lt_of_lt_of_le hb h.size)).trans (h.block b hb hs)⟩
theorem Kept.set {S : Nat → Prop} {w w1 : World} (h : Kept S w w1) {g : Nat} (hg : S g) (j : Nat) (v : Value) : Kept S w (w1.setCell ⟨g, j, none⟩ v) :=
  ⟨h.os, h.tape, h.output, by simpa using h.size, fun b hb hs => (heap_setCell_other w1 ⟨g, j, none⟩ b v (fun e => hs (by have e' : b = g := e; rw [e']; exact hg))).trans (h.block b hb hs)⟩
theorem Kept.mono {S S' : Nat → Prop} {w w1 : World} (h : Kept S w w1) (hS : ∀ b, S b → S' b) : Kept S' w w1 := ⟨h.os, h.tape, h.output, h.size, fun b hb hs => h.block b hb (fun e => hs (hS b e))⟩
theorem blk_lt {w : World} {b : Nat} {o : Obj} (h : w.heap[b]? = some o) : b < w.heap.size := by
  rcases Nat.lt_or_ge b w.heap.size with h' | h'
  · exact h'
  · rw [Array.getElem?_eq_none h'] at h; cases h
theorem markB_size (q : Nat) (h : q ≤ 100000000) : (markB q).size ≤ maxLen := by
  have := markL_len q
  simp only [markB, ByteArray.size, List.size_toArray, List.length_cons]
  unfold maxLen; omega
/-- Block g's cells from a place on are cs, all others as in cur. -/
def Patch (cur cur' : Array Value) (o : Nat) (cs : List Value) : Prop := cur'.size = cur.size ∧ (∀ j, j < cs.length → cur'[o + j]? = cs[j]?) ∧ ∀ k, (k < o ∨ o + cs.length ≤ k) → cur'[k]? = cur[k]?
theorem Patch.refl {cur : Array Value} {o : Nat} {cs : List Value} (h : ∀ j, j < cs.length → cur[o + j]? = cs[j]?) : Patch cur cur o cs := ⟨rfl, h, fun _ _ => rfl⟩
theorem Patch.set {cur cur' : Array Value} {o : Nat} {cs : List Value} (h : Patch cur cur' o cs) {j : Nat} (hj : j < cs.length) (hb : o + cs.length ≤ cur.size) (v : Value) : Patch cur (cur'.setIfInBounds (o + j) v) o (cs.set j v) := by
  obtain ⟨h1, h2, h3⟩ := h
  refine ⟨by simpa using h1, fun i hi => ?_, fun k hk => ?_⟩
  · rw [List.length_set] at hi
    by_cases e : j = i
    · subst e
      rw [Array.getElem?_setIfInBounds_self_of_lt (by omega), List.getElem?_set_self hj]
    · rw [Array.getElem?_setIfInBounds_ne (by omega), List.getElem?_set_ne e, h2 i hi]
  · rw [List.length_set] at hk
    rw [Array.getElem?_setIfInBounds_ne (by omega), h3 k hk]
theorem OwnRow.elem {α : Type} {S : Nat → Prop} {w : World} {e : TypeId} {size : Nat} {R : (Nat → Prop) → α → List Value → Prop} {v : Value} {xs : List α} {i : Nat} {x : α} (h : OwnRow S w e size R v xs) (hi : xs[i]? = some x) :
    ∃ (g cap : Nat) (cs : List Value) (Si : Nat → Prop) (cur : Array Value), v = .slice (some ⟨g, 0, none⟩) xs.length cap ∧ S g ∧ w.heap[g]? = some (.cells cur e (0, 0)) ∧ cs.length = size ∧ i * size + size ≤ cur.size ∧ (∀ j, j < size → cur[i * size + j]? = cs[j]?) ∧ R Si x cs ∧ (∀ b, Si b → S b ∧ b ≠ g) ∧
      ∀ (w' : World) (x' : α) (cs' : List Value) (cur' : Array Value) (R' : (Nat → Prop) → α → List Value → Prop), cs'.length = size → w'.heap[g]? = some (.cells cur' e (0, 0)) → Patch cur cur' (i * size) cs' → R' Si x' cs' → (∀ T y c, (∀ b, T b → S b ∧ b ≠ g ∧ ¬ Si b) → R T y c → R' T y c) → OwnRow S w' e size R' v (xs.set i x') := by
  obtain ⟨hm, vals, Ss, h1, h2, h3, h4⟩ := h
  have hlt : i < xs.length := (List.getElem?_eq_some_iff.1 hi).1
  rcases h1.2 with ⟨rfl, h0⟩ | ⟨g, cap, cur, rfl, _, hh, hc1, hc2, hc3, hc4⟩
  · omega
  have h5 : (i + 1) * size ≤ xs.length * size := Nat.mul_le_mul_right _ hlt
  rw [Nat.succ_mul] at h5
  have h6 : xs.length * size ≤ cap * size := Nat.mul_le_mul_right _ hc1
  have hvl : vals.length = xs.length * size := h1.1
  have hcv : ∀ k, k < xs.length * size → cur[k]? = vals[k]? := fun k hk => by
    rw [← hc4, List.getElem?_take, if_pos hk]; simp
  refine ⟨g, cap, (vals.drop (i * size)).take size, Ss i, cur, rfl, h2 g rfl, hh, by rw [List.length_take, List.length_drop]; omega, by omega, fun j hj => ?_, (h3 i x hi).1, fun b hb => ⟨((h3 i x hi).2 b hb).1, fun e => ((h3 i x hi).2 b hb).2 (by rw [e]; rfl)⟩, ?_⟩
  · rw [hcv _ (by omega), List.getElem?_take, if_pos hj, List.getElem?_drop]
  · intro w' x' cs' cur' R' hl hh' hp hx' hR
    have hcur' : ∀ k, k < xs.length * size → (cur'.toList.take (xs.length * size))[k]? = cur'[k]? := fun k hk => by rw [List.getElem?_take, if_pos hk]; simp
    have e1 : cur'.toList.length = cap * size := (Array.length_toList (xs := cur')).trans (hp.1.trans hc3)
    have hlen' : (cur'.toList.take (xs.length * size)).length = (xs.set i x').length * size := by rw [List.length_take, e1, List.length_set]; omega
    refine ⟨by simpa using hm, cur'.toList.take (xs.length * size), Ss, ⟨hlen', .inr ⟨g, cap, cur', by rw [List.length_set], Nat.zero_le _, hh', by rw [List.length_set]; exact hc1, hc2, by rw [hp.1]; exact hc3, by rw [List.length_set]⟩⟩, h2, fun j y hy => ?_, fun j j' b hj hj' hne => h4 j j' b (by simpa using hj) (by simpa using hj') hne⟩
    have hj : j < xs.length := by have := (List.getElem?_eq_some_iff.1 hy).1; simpa using this
    have h7 : (j + 1) * size ≤ xs.length * size := Nat.mul_le_mul_right _ hj
    rw [Nat.succ_mul] at h7
    by_cases ej : i = j
    · subst ej
      rw [List.getElem?_set_self hlt] at hy
      obtain rfl : x' = y := Option.some.inj hy
      refine ⟨?_, (h3 i x hi).2⟩
      have : ((cur'.toList.take (xs.length * size)).drop (i * size)).take size = cs' := by
        apply List.ext_getElem?
        intro k
        rw [List.getElem?_take]
        split
        · rename_i hk
          rw [List.getElem?_drop, hcur' _ (by omega), hp.2.1 k (by omega)]
        · rw [List.getElem?_eq_none (by omega)]
      rw [this]; exact hx'
    · rw [List.getElem?_set_ne ej] at hy
      obtain ⟨k1, k2⟩ := h3 j y hy
      refine ⟨?_, k2⟩
      have : ((cur'.toList.take (xs.length * size)).drop (j * size)).take size = (vals.drop (j * size)).take size := by
        apply List.ext_getElem?
        intro k
        rw [List.getElem?_take, List.getElem?_take]
        split
        · rename_i hk
          have hside : j * size + k < i * size ∨ i * size + size ≤ j * size + k := by
            rcases Nat.lt_or_ge j i with hlt2 | hge
            · have h8 : (j + 1) * size ≤ i * size := Nat.mul_le_mul_right _ hlt2
              rw [Nat.succ_mul] at h8; omega
            · have h8 : (i + 1) * size ≤ j * size := Nat.mul_le_mul_right _ (by omega)
              rw [Nat.succ_mul] at h8; omega
          rw [List.getElem?_drop, List.getElem?_drop, hcur' _ (by omega), hp.2.2 _ (by omega), hcv _ (by omega)]
        · rfl
      rw [this]
      exact hR _ _ _ (fun b hb => ⟨(k2 b hb).1, fun e => (k2 b hb).2 (by rw [e]; rfl), fun e => h4 i j b hlt hj ej e hb⟩) k1
end Go.Proofs.YtcegllnljaapiaaGreat
namespace Go.Proofs.YtcegllnljaapiaaGreat
open Go.RowKit
/-- Of the row in block g (n elements, each of so many cells) the first k read as the list's; each one's memory is its own. -/
structure FillRow {α : Type} (S : Nat → Prop) (w : World) (e : TypeId) (size : Nat) (R : (Nat → Prop) → World → α → List Value → Prop) (g n k : Nat) (us : List α) : Prop where
  own : S g
  row : ∃ cur : Array Value, w.heap[g]? = some (.cells cur e (0, 0)) ∧ cur.size = n * size ∧ ∃ Ss : Nat → Nat → Prop,
    (∀ j x, j < k → us[j]? = some x → ∃ cs : List Value, cs.length = size ∧ (∀ i, i < size → cur[j * size + i]? = cs[i]?) ∧ R (Ss j) w x cs ∧ ∀ b, Ss j b → S b ∧ b ≠ g ∧ b < w.heap.size) ∧
    ∀ i j b, i < k → j < k → i ≠ j → Ss i b → ¬ Ss j b
theorem FillRow.start {α : Type} {S : Nat → Prop} {w : World} {e : TypeId} {size base g n : Nat} {R : (Nat → Prop) → World → α → List Value → Prop} {xs : List Value} {us : List α} (hS : S g) (h : w.ownsRow base e size (.slice (some ⟨g, 0, none⟩) n n) n xs) : FillRow S w e size R g n 0 us := by
  refine ⟨hS, ?_⟩
  rcases h.2 with ⟨h0, _⟩ | ⟨g', cap, cur, hv, _, hh, _, _, hc, _⟩
  · cases h0
  · simp only [Value.slice.injEq, Option.some.injEq, Addr.mk.injEq, and_true, true_and] at hv
    obtain ⟨rfl, rfl⟩ := hv
    exact ⟨cur, hh, hc, fun _ _ => False, fun j x hj => absurd hj (Nat.not_lt_zero _), fun i j b hi => absurd hi (Nat.not_lt_zero _)⟩
theorem FillRow.later {α : Type} {S : Nat → Prop} {w w1 : World} {e : TypeId} {size g n k : Nat} {R : (Nat → Prop) → World → α → List Value → Prop} {us : List α} (h : FillRow S w e size R g n k us) (hb : Below w.heap.size w w1)
    (hm : ∀ T x cs, (∀ b, T b → b < w.heap.size) → R T w x cs → R T w1 x cs) : FillRow S w1 e size R g n k us := by
  obtain ⟨hS, cur, hh, hc, Ss, h1, h2⟩ := h
  refine ⟨hS, cur, (hb.block g (blk_lt hh)).trans hh, hc, Ss, fun j x hj hx => ?_, h2⟩
  obtain ⟨cs, a1, a2, a3, a4⟩ := h1 j x hj hx
  exact ⟨cs, a1, a2, hm _ _ _ (fun b hb => (a4 b hb).2.2) a3, fun b hb' => ⟨(a4 b hb').1, (a4 b hb').2.1, Nat.lt_of_lt_of_le (a4 b hb').2.2 hb.size⟩⟩
theorem FillRow.wider {α : Type} {S S' : Nat → Prop} {w : World} {e : TypeId} {size g n k : Nat} {R : (Nat → Prop) → World → α → List Value → Prop} {us : List α} (h : FillRow S w e size R g n k us) (hS : ∀ b, S b → S' b) : FillRow S' w e size R g n k us := by
  obtain ⟨h0, cur, hh, hc, Ss, h1, h2⟩ := h
  refine ⟨hS _ h0, cur, hh, hc, Ss, fun j x hj hx => ?_, h2⟩
  obtain ⟨cs, a1, a2, a3, a4⟩ := h1 j x hj hx
  exact ⟨cs, a1, a2, a3, fun b hb => ⟨hS _ (a4 b hb).1, (a4 b hb).2⟩⟩
theorem FillRow.lt {α : Type} {S : Nat → Prop} {w : World} {e : TypeId} {size g n k : Nat} {R : (Nat → Prop) → World → α → List Value → Prop} {us : List α} (h : FillRow S w e size R g n k us) : g < w.heap.size := by
  obtain ⟨_, _, hh, _⟩ := h; exact blk_lt hh
theorem FillRow.cell {α : Type} {S : Nat → Prop} {w : World} {e : TypeId} {size g n k : Nat} {R : (Nat → Prop) → World → α → List Value → Prop} {us : List α} (h : FillRow S w e size R g n k us) (j : Nat) (hj : j < n * size) : (∃ q, w.cell? ⟨g, j, none⟩ = some q) ∧ w.frozen? ⟨g, j, none⟩ = false := by
  obtain ⟨_, cur, hh, hc, _⟩ := h
  exact ⟨⟨cur[j], (cell_of_row w g j cur _ (0, 0) hh).trans (Array.getElem?_eq_getElem (by omega))⟩, frozen_of_row w g j _ _ hh⟩
theorem FillRow.put {α : Type} {S T : Nat → Prop} {w w1 w2 : World} {e : TypeId} {size g n k : Nat} {R : (Nat → Prop) → World → α → List Value → Prop} {us : List α} {x : α} {cs : List Value} (h : FillRow S w e size R g n k us) (hk : k < n) (hx : us[k]? = some x)
    (hb : Below w.heap.size w w1) (hl : cs.length = size) (hR : R T w2 x cs) (hT : ∀ b, T b → S b ∧ b ≠ g ∧ w.heap.size ≤ b ∧ b < w2.heap.size)
    (hp : ∀ cur : Array Value, w1.heap[g]? = some (.cells cur e (0, 0)) → k * size + size ≤ cur.size → ∃ cur', w2.heap[g]? = some (.cells cur' e (0, 0)) ∧ Patch cur cur' (k * size) cs)
    (hsz : w1.heap.size ≤ w2.heap.size) (hm : ∀ T x cs, (∀ b, T b → b < w.heap.size ∧ b ≠ g) → R T w x cs → R T w2 x cs) : FillRow S w2 e size R g n (k + 1) us := by
  obtain ⟨hS, cur, hh, hc, Ss, h1, h2⟩ := h
  have hg := blk_lt hh
  have h5 : (k + 1) * size ≤ n * size := Nat.mul_le_mul_right _ hk
  rw [Nat.succ_mul] at h5
  obtain ⟨cur', hh', hpt⟩ := hp cur ((hb.block g hg).trans hh) (by omega)
  have hws := hb.size
  refine ⟨hS, cur', hh', hpt.1.trans hc, fun j => if j = k then T else Ss j, fun j y hj hy => ?_, fun i j b hi hj hij hbi => ?_⟩
  · by_cases e : j = k
    · subst e
      rw [hx] at hy
      obtain rfl := Option.some.inj hy
      simp only [if_pos]
      exact ⟨cs, hl, fun i hi => hpt.2.1 i (by omega), hR, fun b hb' => ⟨(hT b hb').1, (hT b hb').2.1, (hT b hb').2.2.2⟩⟩
    · obtain ⟨ds, a1, a2, a3, a4⟩ := h1 j y (by omega) hy
      simp only [if_neg e]
      refine ⟨ds, a1, fun i hi => ?_, hm _ _ _ (fun b hb' => ⟨(a4 b hb').2.2, (a4 b hb').2.1⟩) a3, fun b hb' => ⟨(a4 b hb').1, (a4 b hb').2.1, by have := (a4 b hb').2.2; omega⟩⟩
      have h6 : (j + 1) * size ≤ k * size := Nat.mul_le_mul_right _ (by omega)
      rw [Nat.succ_mul] at h6
      rw [hpt.2.2 _ (.inl (by omega))]; exact a2 i hi
  · by_cases e : i = k
    · have ej : ¬ j = k := by omega
      simp only [if_pos e] at hbi
      simp only [if_neg ej]
      intro hbj
      rcases Nat.lt_or_ge j us.length with hlt | hge
      · obtain ⟨ds, _, _, _, a4⟩ := h1 j us[j] (by omega) (List.getElem?_eq_getElem hlt)
        have := (a4 b hbj).2.2
        have := (hT b hbi).2.2.1
        omega
      · have := (List.getElem?_eq_some_iff.1 hx).1; omega
    · simp only [if_neg e] at hbi
      by_cases ej : j = k
      · simp only [if_pos ej]
        intro hbj
        rcases Nat.lt_or_ge i us.length with hlt | hge
        · obtain ⟨ds, _, _, _, a4⟩ := h1 i us[i] (by omega) (List.getElem?_eq_getElem hlt)
          have := (a4 b hbi).2.2
          have := (hT b hbj).2.2.1
          omega
        · have := (List.getElem?_eq_some_iff.1 hx).1; omega
      · simp only [if_neg ej]
        exact h2 i j b (by omega) (by omega) hij hbi
theorem FillRow.done {α : Type} {S : Nat → Prop} {w : World} {e : TypeId} {size g : Nat} {R : (Nat → Prop) → World → α → List Value → Prop} {us : List α} (h : FillRow S w e size R g us.length us.length us) (hm : us.length ≤ maxLen) : OwnRow S w e size (fun T x cs => R T w x cs) (.slice (some ⟨g, 0, none⟩) us.length us.length) us := by
  obtain ⟨hS, cur, hh, hc, Ss, h1, h2⟩ := h
  refine ⟨hm, cur.toList, Ss, ⟨by simpa using hc, .inr ⟨g, us.length, cur, rfl, Nat.zero_le _, hh, Nat.le_refl _, hm, hc, by rw [List.take_of_length_le (by simp [hc])]⟩⟩, fun g' hg' => ?_, fun i x hx => ?_, h2⟩
  · have : g = g' := by simpa [Value.ownBlock] using hg'
    exact this ▸ hS
  · have hi := (List.getElem?_eq_some_iff.1 hx).1
    obtain ⟨cs, a1, a2, a3, a4⟩ := h1 i x hi hx
    have h6 : (i + 1) * size ≤ us.length * size := Nat.mul_le_mul_right _ hi
    rw [Nat.succ_mul] at h6
    have : (cur.toList.drop (i * size)).take size = cs := by
      apply List.ext_getElem?
      intro j
      rw [List.getElem?_take]
      split
      · rename_i hj
        rw [List.getElem?_drop, Array.getElem?_toList]; exact a2 j hj
      · rw [List.getElem?_eq_none (by omega)]
    rw [this]
    exact ⟨a3, fun b hb => ⟨(a4 b hb).1, fun e => (a4 b hb).2.1 (by simpa [Value.ownBlock] using e.symm)⟩⟩
end Go.Proofs.YtcegllnljaapiaaGreat
namespace Go.Proofs.YtcegllnljaapiaaGreat
open Go.RowKit
def StrOwn (e : TypeId) (S : Nat → Prop) (w : World) (us : List ByteArray) (v : Value) : Prop := OwnRow S w e 1 (fun _ s cs => StrAt s cs) v us
theorem StrOwn.mono {e : TypeId} {S S' : Nat → Prop} {w w' : World} {us : List ByteArray} {v : Value} (hs : SameOn S w w') (hS : ∀ b, S b → S' b) (h : StrOwn e S w us v) : StrOwn e S' w' us v := OwnRow.mono h hs hS (fun _ _ _ _ _ hx => hx)
theorem StrOwn.at_ {e : TypeId} {S : Nat → Prop} {w : World} {us : List ByteArray} {v : Value} (h : StrOwn e S w us v) : StrsAt S w v us := OwnRow.listAt (by omega) h (fun _ _ _ _ _ hx => hx)
theorem StrOwn.later {e : TypeId} {S : Nat → Prop} {w w' : World} {us : List ByteArray} {v : Value} (hb : Below w.heap.size w w') (h : StrOwn e S w us v) : StrOwn e S w' us v := h.mono (SameOn.below hb) (fun _ h => h)
def strW (l : List ByteArray) : List Value := l.map Value.string
theorem strW_snoc (l : List ByteArray) (s : ByteArray) : strW (l ++ [s]) = strW l ++ [Value.string s] := by simp [strW]
/-- A row of texts that lies by itself. -/
theorem rowS_own {S : Nat → Prop} {w : World} {base : Nat} {e : TypeId} {v : Value} {us : List ByteArray} (h : w.ownsRow base e 1 v us.length (strW us)) (hz : ∀ s ∈ us, s.size ≤ maxLen) (hm : us.length ≤ maxLen) (hS : ∀ g, v.ownBlock = some g → S g) : StrOwn e S w us v := by
  refine ⟨hm, strW us, fun _ _ => False, own_lower h (Nat.zero_le _), hS, fun i x hx => ⟨⟨?_, hz x (List.mem_of_getElem? hx)⟩, fun b hb => hb.elim⟩, fun i j b hi hj hij hb => hb.elim⟩
  have hi := (List.getElem?_eq_some_iff.1 hx).1
  have hx' := (List.getElem?_eq_some_iff.1 hx).2
  rw [Nat.mul_one, List.drop_eq_getElem_cons (by simpa [strW] using hi), List.take_succ_cons, List.take_zero]
  simp [strW, hx']
/-- The length of the slice that a box holds. -/
def lenB (w : World) (g : Nat) : Nat := match w.cell? ⟨g, 0, none⟩ with | some (.slice _ n _) => n | _ => 0
theorem lenB_of {w : World} {g n c : Nat} {p : Option Addr} (h : w.cell? ⟨g, 0, none⟩ = some (.slice p n c)) : lenB w g = n := by rw [lenB, h]
theorem new_at {w : World} {o : Obj} {k : Nat} (h : w.heap.size = k) : (w.alloc o).heap[k]? = some o := h ▸ heap_alloc_new w o
/-- The marks from k on. -/
def marksL (k n : Nat) : List ByteArray := (List.range n).map fun i => markB (k + i)
theorem marksL_len (k n : Nat) : (marksL k n).length = n := by simp [marksL]
theorem marksL_snoc (k n : Nat) : marksL k (n + 1) = marksL k n ++ [markB (k + n)] := by simp [marksL, List.range_succ]
theorem marksL_at {k n j : Nat} (h : j < n) : (marksL k n)[j]? = some (markB (k + j)) := by simp [marksL, h]
def MarkSRel (S : Nat → Prop) (us : List ByteArray) (v : Value) (k : Nat) (w : World) (kv i : Value) (wr : World) : Prop :=
  ∃ j : Nat, i = .int .i64 (j : Nat) ∧ kv = .int .i64 ((k + j : Nat) : Int) ∧ j ≤ us.length ∧ StrOwn 9 S wr (marksL k j ++ us.drop j) v ∧ Kept S w wr
set_option maxRecDepth 100000 in
set_option maxHeartbeats 1600000 in
theorem markStringS_any (S : Nat → Prop) (us : List ByteArray) (v : Value) (k : Nat) (w : World) (h : StrOwn 9 S w us v) (hk : 0 < k) (hb : k + us.length ≤ 100000000) :
  Calls Tryz.prog 55 #[v, .int .i64 (k : Nat)] w fun e w' => e = .returned (.int .i64 ((k + us.length : Nat) : Int)) ∧ StrOwn 9 S w' (marksL k us.length) v ∧ Kept S w w' := by
  obtain ⟨p, c, rfl, hlen⟩ := OwnRow.form h
  unfold maxLen at hlen
  have H := Lib.hid h
  clear h
  go_enter Tryz.func55, Tryz.ntmps55
  go_wp2
  go_loopw [1, 5] (MarkSRel S us (.slice p us.length c) k w) (fun _ i _ => us.length - (intOf i).toNat)
  case atStart => exact ⟨0, rfl, rfl, Nat.zero_le _, H.out, Kept.refl _ _⟩
  case round =>
    obtain ⟨j, rfl, rfl, hju, hrow, hkp⟩ := hrel
    have HKP := Lib.hid hkp
    clear hkp
    by_cases hlt : j < us.length
    · have hx : (marksL k j ++ us.drop j)[j]? = some us[j] := by rw [List.getElem?_append_right (by rw [marksL_len]; omega), marksL_len, Nat.sub_self, List.getElem?_drop, Nat.add_zero, List.getElem?_eq_getElem hlt]
      obtain ⟨g, cap, cs, Si, cur, hv, hSg, hh, hcl, hsz, hcs, hR, hSi, hclose⟩ := OwnRow.elem hrow hx
      have HCL := Lib.hid hclose
      clear hrow hclose hx
      have hset : ∀ y, (marksL k j ++ us.drop j).set j y = (marksL k j ++ [y]) ++ us.drop (j + 1) := fun y => by
        rw [List.set_append_right _ _ (by rw [marksL_len]; omega), marksL_len, Nat.sub_self, List.append_assoc, List.singleton_append]
        have e := List.drop_eq_getElem_cons hlt
        rw [e]; rfl
      have HSET := Lib.hid hset
      clear hset
      generalize us[j] = a at *
      obtain ⟨rfl, -⟩ := hR
      simp only [Value.slice.injEq] at hv
      obtain ⟨rfl, -, rfl⟩ := hv
      have HHH := Lib.hid hh
      have c0 : wr.cell? ⟨g, j, none⟩ = some (.string a) := by have := (cell_of_row wr g (j * 1 + 0) cur _ (0, 0) hh).trans (hcs 0 (by omega)); simpa using this
      have cf : ∀ i, wr.frozen? ⟨g, i, none⟩ = false := fun i => frozen_of_row wr g i _ _ hh
      have hgl := bsz (blk_lt hh)
      clear hh
      go_wp2_with fail
      refine (markText_any (k + j) _ (by omega) (by omega)).mono ?_
      rintro e w1 ⟨rfl, hb1⟩
      have ⟨cb, fb⟩ := bcell hb1
      have hq1 := hb1.size
      have hg1 := bsz (show g < w1.heap.size by omega)
      go_wp2
      refine ⟨⟨j + 1, by go_num, by go_num, by omega, ?_, ?_⟩, by simp [intOf]; omega⟩
      · rw [marksL_snoc, ← HSET.out]
        have hpt : Patch cur (cur.setIfInBounds (j * 1 + 0) (.string (markB (k + j)))) (j * 1) [.string (markB (k + j))] := Patch.set (cs := [.string a]) (Patch.refl hcs) (j := 0) (by simp) hsz _
        refine HCL.out _ (markB (k + j)) [.string (markB (k + j))] (cur.setIfInBounds (j * 1 + 0) (.string (markB (k + j)))) _ rfl ?_ hpt ⟨rfl, markB_size (k + j) (by omega)⟩ (fun T y c hT hy => hy)
        have := heap_setCell_same w1 g j cur _ (.string (markB (k + j))) ((hb1.block g (by omega)).trans HHH.out)
        rw [Nat.mul_one, Nat.add_zero]; exact this
      · exact HKP.out.trans (((Kept.refl S wr).below hb1).set hSg _ _)
    · obtain rfl : j = us.length := by omega
      rw [List.drop_length, List.append_nil] at hrow
      have HRW := Lib.hid hrow
      clear hrow
      go_wp2
      go_ret
      exact ⟨rfl, HRW.out, HKP.out⟩
set_option maxRecDepth 100000 in
set_option maxHeartbeats 1600000 in
theorem heldStringS_any {B : Nat → Prop} (n : Nat) (v : Value) (k : Nat) (w : World) (h : StrsAt B w v (marksL k n)) (hk : 0 < k) (hb0 : k + n ≤ 100000000) :
  Calls Tryz.prog 56 #[v, .int .i64 (k : Nat)] w fun e w' => e = .returned (.int .i64 ((k + n : Nat) : Int)) ∧ Below w.heap.size w w' := by
  obtain ⟨p, c, rfl, hlen⟩ := h.form
  unfold maxLen at hlen
  rw [marksL_len] at h hlen ⊢
  have HL := Lib.hid h
  clear h
  go_enter Tryz.func56, Tryz.ntmps56
  go_wp2
  go_loopw [1, 5] (fun kv i wr => ∃ j : Nat, i = .int .i64 (j : Nat) ∧ kv = .int .i64 ((k + j : Nat) : Int) ∧ j ≤ n ∧ Below w.heap.size w wr) (fun _ i _ => n - (intOf i).toNat)
  case atStart => exact ⟨0, rfl, rfl, Nat.zero_le _, by (repeat (first | with_reducible exact Below.refl _ _ | with_reducible assumption | with_reducible refine Below.al ?_ _ | with_reducible refine Below.sc ?_ (by first | exact Nat.le_refl _ | (simp; done) | (simp; omega)) _ | assumption | exact Below.refl _ _ | refine Below.dr ?_ | refine Below.drN ?_ _ | refine Below.step ?_ (by assumption)))⟩
  case round =>
    obtain ⟨j, rfl, rfl, hju, hb⟩ := hrel
    by_cases hlt : j < n
    · have hl := HL.out.below hb
      obtain ⟨b, o, rfl, hB, hx0, -⟩ := StrsAt.at_ hl (i := j) (by rw [marksL_len]; exact hlt)
      have hxe : (marksL k n)[j]'(by rw [marksL_len]; exact hlt) = markB (k + j) := by have := marksL_at (k := k) hlt; rw [List.getElem?_eq_getElem (by rw [marksL_len]; exact hlt)] at this; exact Option.some.inj this
      rw [hxe] at hx0
      clear hxe hl
      have zb := bsz (World.block_lt_of_cell? _ _ hx0)
      go_wp2
      obtain ⟨C, HC0⟩ := class_of (InF wr.heap.size _ [(⟨b, o + j, none⟩, .string (markB (k + j)))] [] [])
      have HC := Lib.hid HC0
      clear HC0
      refine wp_region_flow (C := C) (by kernel_rfl) (by kernel_rfl) (fun L hL => (HC.out _ _).2 (InF.start (by first | (intro _ hs; cases hs; done) | (simp only [List.forall_mem_cons]; go_simp)) (by first | (intro _ hs; cases hs; done) | (simp only [List.forall_mem_cons]; go_simp)) (by first | (intro _ hs; cases hs; done) | (simp only [List.forall_mem_cons]; go_simp)) (by first | (intro _ hs; cases hs; done) | (simp only [List.forall_mem_cons]; go_simp)) L hL)) ?_
      repeat (first | (apply flow_free rfl; (intro L w' hun hrd hC; have hC := (HC.out _ _).1 hC; have hb' := hC.below; (try have hw' : Below w.heap.size w w' := by first | exact Below.trans (by (repeat (first | with_reducible exact Below.refl _ _ | with_reducible assumption | with_reducible refine Below.al ?_ _ | with_reducible refine Below.sc ?_ (by first | exact Nat.le_refl _ | (simp; done) | (simp; omega)) _ | assumption | exact Below.refl _ _ | refine Below.dr ?_ | refine Below.drN ?_ _ | refine Below.step ?_ (by assumption)))) hb' | ((repeat (first | with_reducible exact Below.refl _ _ | with_reducible assumption | with_reducible refine Below.al ?_ _ | with_reducible refine Below.sc ?_ (by first | exact Nat.le_refl _ | (simp; done) | (simp; omega)) _ | assumption | exact Below.refl _ _ | refine Below.dr ?_ | refine Below.drN ?_ _ | refine Below.step ?_ (by assumption))); done)); have hf' := hC.cell; (try simp only [List.forall_mem_cons] at hf'); go_simp; first | exact ⟨(HC.out _ _).2 (hC.skip _ (by rfl)), rfl⟩ | (rw [if_neg]; (exact ⟨(HC.out _ _).2 (hC.skip _ (by rfl)), rfl⟩); omega) | (go_at_call 54; refine (markText_any (k + j) _ (by omega) (by omega)).mono ?_; rintro e w1 ⟨rfl, hb1⟩; exact ⟨rfl, (HC.out _ _).2 ((hC.next (by first | (simp; done) | (simp; omega) | omega) hb1).skip _ (by rfl))⟩)); go_simp) | (apply flow_yes; (case hw => go_simp); (intro L w' hun hrd hC; have hC := (HC.out _ _).1 hC; have hb' := hC.below; (try have hw' : Below w.heap.size w w' := by first | exact Below.trans (by (repeat (first | with_reducible exact Below.refl _ _ | with_reducible assumption | with_reducible refine Below.al ?_ _ | with_reducible refine Below.sc ?_ (by first | exact Nat.le_refl _ | (simp; done) | (simp; omega)) _ | assumption | exact Below.refl _ _ | refine Below.dr ?_ | refine Below.drN ?_ _ | refine Below.step ?_ (by assumption)))) hb' | ((repeat (first | with_reducible exact Below.refl _ _ | with_reducible assumption | with_reducible refine Below.al ?_ _ | with_reducible refine Below.sc ?_ (by first | exact Nat.le_refl _ | (simp; done) | (simp; omega)) _ | assumption | exact Below.refl _ _ | refine Below.dr ?_ | refine Below.drN ?_ _ | refine Below.step ?_ (by assumption))); done)); have hf' := hC.cell; (try simp only [List.forall_mem_cons] at hf'); go_simp; first | exact ⟨(HC.out _ _).2 (hC.skip _ (by rfl)), rfl⟩ | (rw [if_neg]; (exact ⟨(HC.out _ _).2 (hC.skip _ (by rfl)), rfl⟩); omega) | (go_at_call 54; refine (markText_any (k + j) _ (by omega) (by omega)).mono ?_; rintro e w1 ⟨rfl, hb1⟩; exact ⟨rfl, (HC.out _ _).2 ((hC.next (by first | (simp; done) | (simp; omega) | omega) hb1).skip _ (by rfl))⟩)); go_simp) | (apply flow_no; (case hw => (go_simp; try (intro hh; cases hh))); (intro L w' _ _ hC; exact (HC.out _ _).2 (((HC.out _ _).1 hC).skip _ (by rfl))); go_simp))
      refine flow_nil ?_
      intro L wz hL hz
      have hz := (HC.out _ _).1 hz
      have hbz := hz.below
      have hcz := hz.cell
      try simp only [List.forall_mem_cons] at hcz
      have hdz := hz.done
      try simp only [List.forall_mem_cons] at hdz
      (try have hwz : Below w.heap.size w wz := by first | exact Below.trans (by (repeat (first | with_reducible exact Below.refl _ _ | with_reducible assumption | with_reducible refine Below.al ?_ _ | with_reducible refine Below.sc ?_ (by first | exact Nat.le_refl _ | (simp; done) | (simp; omega)) _ | assumption | exact Below.refl _ _ | refine Below.dr ?_ | refine Below.drN ?_ _ | refine Below.step ?_ (by assumption)))) hbz | ((repeat (first | with_reducible exact Below.refl _ _ | with_reducible assumption | with_reducible refine Below.al ?_ _ | with_reducible refine Below.sc ?_ (by first | exact Nat.le_refl _ | (simp; done) | (simp; omega)) _ | assumption | exact Below.refl _ _ | refine Below.dr ?_ | refine Below.drN ?_ _ | refine Below.step ?_ (by assumption))); done))
      go_wp2
      exact ⟨⟨j + 1, by go_num, by go_num, by omega, by (repeat (first | with_reducible exact Below.refl _ _ | with_reducible assumption | with_reducible refine Below.al ?_ _ | with_reducible refine Below.sc ?_ (by first | exact Nat.le_refl _ | (simp; done) | (simp; omega)) _ | assumption | exact Below.refl _ _ | refine Below.dr ?_ | refine Below.drN ?_ _ | refine Below.step ?_ (by assumption)))⟩, by simp [intOf]; omega⟩
    · obtain rfl : j = n := by omega
      go_wp2
      go_ret
      exact ⟨rfl, by (repeat (first | with_reducible exact Below.refl _ _ | with_reducible assumption | with_reducible refine Below.al ?_ _ | with_reducible refine Below.sc ?_ (by first | exact Nat.le_refl _ | (simp; done) | (simp; omega)) _ | assumption | exact Below.refl _ _ | refine Below.dr ?_ | refine Below.drN ?_ _ | refine Below.step ?_ (by assumption)))⟩
def ToSRel (us : List ByteArray) (w : World) (i : Value) (wr : World) : Prop :=
  ∃ k : Nat, k ≤ us.length ∧ i = .int .i64 k ∧ FillRow (NewB w wr) wr 9 1 (fun _ _ s cs => StrAt s cs) w.heap.size us.length k us ∧ Below w.heap.size w wr
set_option maxRecDepth 100000 in
set_option maxHeartbeats 3200000 in
theorem toStringS_own {B : Nat → Prop} (us : List ByteArray) (va : Value) (w : World) (h : StrsAt B w va us) (hw : us.length + wtS us ≤ 1048576) :
    Calls Tryz.prog 88 #[va] w fun e w' => ∃ g, e = .returned (.slice (some ⟨g, 0, none⟩) us.length us.length) ∧ StrOwn 9 (NewB w w') w' us (.slice (some ⟨g, 0, none⟩) us.length us.length) ∧ Below w.heap.size w w' := by
  obtain ⟨p, c, rfl, -⟩ := h.form
  have H := Lib.hid h
  have HW := Lib.hid hw
  have hlen : us.length ≤ 1048576 := by omega
  obtain ⟨-, i, z, hi, hz, hsz, hby, hzs, -⟩ := elemStrL
  clear h hw
  go_enter Tryz.func88, Tryz.ntmps88
  go_wp2_with (at_make; refine wpList_make_full _ rfl _ _ _ rfl w.heap.size 9 i z 1 Tryz.underlying73 hi hz hsz _ _ _ _ us.length rfl rfl rfl rfl (by rw [hby]; omega) (by unfold maxLen; omega) (Nat.le_refl _) ?_; intro w1 ho1 hg1)
  have hb1 : Below w.heap.size w w1 := ⟨hg1.os, hg1.tape, hg1.output, hg1.size, fun k hk => hg1.block k hk (by simp)⟩
  have HF1 := Lib.hid (show FillRow (NewB w w1) w1 9 1 (fun _ _ s cs => StrAt s cs) w.heap.size us.length 0 us from FillRow.start ⟨Nat.le_refl _, own_lt ho1⟩ ho1)
  clear ho1 hg1
  go_loopw [4] (ToSRel us w) (fun i _ => us.length - (intOf i).toNat)
  case atStart => exact ⟨0, Nat.zero_le _, rfl, HF1.out, hb1⟩
  case round =>
    obtain ⟨k, hk, rfl, hf, hb⟩ := hrel
    have HF := Lib.hid hf
    have hgw := hf.lt
    clear hf HF1 hb1
    by_cases hlt : k < us.length
    · obtain ⟨b, o, rfl, hB, hx0, hxs⟩ := (H.out.below hb).at_ hlt
      have hcz := HF.out.cell k (by omega)
      obtain ⟨⟨q0, hq0⟩, hf0⟩ := hcz
      obtain ⟨a, ha⟩ : ∃ a, us[k] = a := ⟨_, rfl⟩
      have HK : Hid (us[k]? = some a) := Lib.hid (by rw [List.getElem?_eq_getElem hlt, ha])
      rw [ha] at hx0 hxs
      clear ha
      have hgb := bsz hgw
      go_wp2
      refine ⟨⟨k + 1, by omega, by go_num, ?_, hb.setCell (Nat.le_refl _) _⟩, by simp [intOf]; omega⟩
      refine FillRow.put (T := fun _ => False) (HF.out.wider (fun b hb => ⟨hb.1, by simpa using hb.2⟩)) hlt HK.out (Below.refl _ _) rfl ⟨rfl, hxs⟩ (fun _ h => h.elim) (fun cur hc hz => ⟨_, heap_setCell_same wr _ k cur _ (.string a) hc, ?_⟩) (by simp) (fun _ _ _ _ hx => hx)
      have := Patch.set (cur := cur) (cur' := cur) (o := k * 1) (cs := [q0]) ⟨rfl, fun j hj => ?_, fun _ _ => rfl⟩ (j := 0) (by simp) hz (.string a)
      · simpa using this
      · obtain rfl : j = 0 := by simpa using hj
        have h1 := (cell_of_row wr _ k cur _ (0, 0) hc).symm.trans hq0
        simpa using h1
    · obtain rfl : k = us.length := by omega
      go_wp2
      go_ret
      exact ⟨_, rfl, HF.out.done (by unfold maxLen; omega), hb⟩
end Go.Proofs.YtcegllnljaapiaaGreat
