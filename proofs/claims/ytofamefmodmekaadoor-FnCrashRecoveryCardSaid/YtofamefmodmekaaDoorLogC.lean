/- CrashLog, both sides. Conditions: sizes; the package tables lie as they were laid. -/
import Derived.Test.YtofamefmodmekaaDoorLogE
import Derived.Laws.IdiomStrings
import Derived.StillTailTactics
namespace Go.Proofs.YtofamefmodmekaaDoor
open Go.RowKit
theorem convTo (w : World) (s : ByteArray) : (convert 9 53 (.string s)).run Tryd.prog w = .ok (.slice (some ⟨w.heap.size, 0, none⟩) s.size (grownCap w s.size 0 5))
      (w.drew.alloc (.cells (bytesRow s (grownCap w s.size 0 5)) 5 ((bytesRow s (grownCap w s.size 0 5)).size, (bytesRow s (grownCap w s.size 0 5)).size + 1))) :=
  run_bytes_of_string w _ _ _ s Tryd.underlying9 Tryd.underlying53 Tryd.underlying5
theorem row_cell (w : World) (s : ByteArray) (c : Nat) (e : TypeId) (fr : Nat × Nat) (j : Nat) (hj : j < s.data.toList.length) : (w.alloc (.cells (bytesRow s c) e fr)).cell? ⟨w.heap.size, j, none⟩ = some (.int .u8 (s.data.toList[j].toNat : Int)) := by
  rw [World.cell?_alloc_mark, bytesRow_at s c j (by simpa using hj)]
  simp
theorem convBack (w : World) (s : ByteArray) (c k : Nat) (fr : Nat × Nat) (hk : k = s.size) :
    (convert 53 9 (.slice (some ⟨w.heap.size, 0, none⟩) k c)).run Tryd.prog (w.alloc (.cells (bytesRow s c) 5 fr)).drew = .ok (.string s) (w.alloc (.cells (bytesRow s c) 5 fr)).drew := by
  have h := run_convert_bytes_back (P := Tryd.prog) (w.alloc (.cells (bytesRow s c) 5 fr)).drew 53 9 5 ⟨w.heap.size, 0, none⟩ c s.data.toList Tryd.underlying53 Tryd.underlying5 Tryd.underlying9 ?_
  · rw [← size_list, ← hk] at h
    exact h
  · intro j hj
    have e : (⟨w.heap.size, 0, none⟩ : Addr).add j = ⟨w.heap.size, j, none⟩ := by unfold Addr.add; split <;> simp_all
    rw [e]
    exact row_cell w s c 5 fr j hj
theorem convBackT (w : World) (s : ByteArray) (c k i : Nat) (fr : Nat × Nat) (hk : k = s.size) (hi : i < s.size) (x : UInt8) (v : Int) (hv : v = x.toNat) :
    (convert 53 9 (.slice (some ⟨w.heap.size, 0, none⟩) k c)).run Tryd.prog ((w.alloc (.cells (bytesRow s c) 5 fr)).setCell ⟨w.heap.size, i, none⟩ (.int .u8 v)).drew =
      .ok (.string ⟨(s.data.toList.set i x).toArray⟩) ((w.alloc (.cells (bytesRow s c) 5 fr)).setCell ⟨w.heap.size, i, none⟩ (.int .u8 v)).drew := by
  subst hv
  have h := run_convert_bytes_back (P := Tryd.prog) ((w.alloc (.cells (bytesRow s c) 5 fr)).setCell ⟨w.heap.size, i, none⟩ (.int .u8 x.toNat)).drew 53 9 5 ⟨w.heap.size, 0, none⟩ c (s.data.toList.set i x) Tryd.underlying53 Tryd.underlying5 Tryd.underlying9 ?_
  · rw [List.length_set, ← size_list, ← hk] at h
    exact h
  · intro j hj
    have hj' : j < s.data.toList.length := by simpa using hj
    have e : (⟨w.heap.size, 0, none⟩ : Addr).add j = ⟨w.heap.size, j, none⟩ := by unfold Addr.add; split <;> simp_all
    rw [e]
    show ((w.alloc (.cells (bytesRow s c) 5 fr)).setCell ⟨w.heap.size, i, none⟩ (.int .u8 x.toNat)).cell? ⟨w.heap.size, j, none⟩ = _
    by_cases hij : i = j
    · subst hij
      rw [World.cell?_setCell_same' _ _ _ (by rw [row_cell w s c 5 fr i hj']; rfl), List.getElem_set_self]
    · rw [World.cell?_setCell_other _ _ _ _ (fun e => hij (by injection e)), row_cell w s c 5 fr j hj', List.getElem_set_ne hij]
theorem row_free (w : World) (s : ByteArray) (c : Nat) (e : TypeId) (j : Nat) (hj : j < s.size) : (w.alloc (.cells (bytesRow s c) e ((bytesRow s c).size, (bytesRow s c).size + 1))).frozen? ⟨w.heap.size, j, none⟩ = false := by
  rw [World.frozen?_alloc_mark]
  have : s.size ≤ (bytesRow s c).size := by
    unfold bytesRow
    simp only [Array.size_append, Array.size_map]
    exact Nat.le_add_right _ _
  simp; omega
theorem turned (x : UInt8) : ((255 - (x.toNat : Int)) % 256) = ((255 - x).toNat : Int) := by
  have := x.toNat_lt
  have h : (255 - x).toNat = 255 - x.toNat := by rw [UInt8.toNat_sub_of_le _ _ (by rw [UInt8.le_iff_toNat_le]; show x.toNat ≤ 255; omega)]; rfl
  rw [h]; omega
set_option maxRecDepth 100000 in
set_option maxHeartbeats 1600000 in
theorem specCrash_keep (d p : ByteArray) (n : Int) (k : Nat) (w : World) (hd : d.size ≤ maxLen) (hp : p.size ≤ maxLen) (hs : d.size + p.size ≤ 1000000000)
    (hv : validS d.data.toList p.data.toList n = true) (hk : k ≤ p.size) (t : Bool) (ht : (t && decide (0 < k)) = false) :
    Calls Tryd.prog 24 #[.agg #[.string d, .string p, .int .i64 n], .int .i64 (k : Int), .bool t] w fun e w' =>
      e = .returned (.tuple #[.string (d ++ p.extract 0 k), .bool true]) ∧ Below w.heap.size w w' := by
  have HZ := Lib.hid (And.intro hd (And.intro hp hs))
  have hin : inB (k : Int) 0 (p.size : Int) = true := by simp [inB]; omega
  have kc := convTo
  have kb := fun (w : World) (c : Nat) (fr : Nat × Nat) => convBack w (p.extract 0 k) c k fr (by rw [ByteArray.size_extract]; omega)
  clear hd hp
  have hcat : ¬ 9223372036854775807 < d.size + k := by omega
  cases t
  · go_enter Tryd.func24, Tryd.ntmps24
    go_wp2_with (first | (go_at_call 49; refine (l28Log_any _ _ _ _ HZ.out.1 HZ.out.2.1 HZ.out.2.2).mono ?_; rintro e w1 ⟨rfl, hb1⟩; have ⟨cw1, fw1⟩ := bcell hb1; have qw1 := hb1.size; (try simp at qw1); (try have zw1w := bsz (show w.heap.size < w1.heap.size by omega))) | (go_at_call 42; refine (l1In_any _ _ _ _).mono ?_; rintro e w' ⟨rfl, rfl⟩))
    go_ret2
    exact ⟨rfl, by (repeat (first | exact Below.refl _ _ | assumption | refine Below.al ?_ _ | refine Below.sc ?_ (by first | exact Nat.le_refl _ | (simp; done) | (simp; omega)) _ | refine Below.dr ?_ | refine Below.drN ?_ _ | refine Below.step ?_ (by assumption)))⟩
  · have hk0 : ¬ 0 < k := by simpa using ht
    have hk1 : ¬ 0 < (k : Int) := by omega
    clear ht
    go_enter Tryd.func24, Tryd.ntmps24
    go_wp2_with (first | (go_at_call 49; refine (l28Log_any _ _ _ _ HZ.out.1 HZ.out.2.1 HZ.out.2.2).mono ?_; rintro e w1 ⟨rfl, hb1⟩; have ⟨cw1, fw1⟩ := bcell hb1; have qw1 := hb1.size; (try simp at qw1); (try have zw1w := bsz (show w.heap.size < w1.heap.size by omega))) | (go_at_call 42; refine (l1In_any _ _ _ _).mono ?_; rintro e w' ⟨rfl, rfl⟩))
    go_ret2
    exact ⟨rfl, by (repeat (first | exact Below.refl _ _ | assumption | refine Below.al ?_ _ | refine Below.sc ?_ (by first | exact Nat.le_refl _ | (simp; done) | (simp; omega)) _ | refine Below.dr ?_ | refine Below.drN ?_ _ | refine Below.step ?_ (by assumption)))⟩
set_option maxRecDepth 100000 in
set_option maxHeartbeats 1600000 in
theorem specCrash_turn (d p : ByteArray) (n : Int) (m : Nat) (w : World) (hd : d.size ≤ maxLen) (hp : p.size ≤ maxLen) (hs : d.size + p.size ≤ 1000000000)
    (hv : validS d.data.toList p.data.toList n = true) (hk : m + 1 ≤ p.size) :
    Calls Tryd.prog 24 #[.agg #[.string d, .string p, .int .i64 n], .int .i64 ((m + 1 : Nat) : Int), .bool true] w fun e w' =>
      e = .returned (.tuple #[.string (d ++ ⟨((p.extract 0 (m + 1)).data.toList.set m (255 - (p.extract 0 (m + 1)).data.toList.getD m 0)).toArray⟩), .bool true]) ∧ Below w.heap.size w w' := by
  have HZ := Lib.hid (And.intro hd (And.intro hp hs))
  obtain ⟨k, hkm⟩ : ∃ k, k = m + 1 := ⟨_, rfl⟩
  rw [← hkm] at hk ⊢
  have hin : inB (k : Int) 0 (p.size : Int) = true := by simp [inB]; omega
  have kc := convTo
  have hes : (p.extract 0 k).size = k := by rw [ByteArray.size_extract]; omega
  obtain ⟨x, hx⟩ : ∃ x, x = (p.extract 0 k).data.toList.getD m 0 := ⟨_, rfl⟩
  rw [← hx]
  have kx : ∀ (w : World) (c : Nat) (fr : Nat × Nat), (w.alloc (.cells (bytesRow (p.extract 0 k) c) 5 fr)).cell? ⟨w.heap.size, m, none⟩ = some (.int .u8 x.toNat) := by
    intro w c fr
    rw [row_cell w _ c _ fr m (by rw [← size_list, hes]; omega), hx, List.getD_eq_getElem?_getD, List.getElem?_eq_getElem (by rw [← size_list, hes]; omega)]; rfl
  have kb := fun (w : World) (c : Nat) (fr : Nat × Nat) => convBackT w (p.extract 0 k) c k m fr hes.symm (by omega) (255 - x) ((255 - (x.toNat : Int)) % 256) (turned x)
  have kz := fun (w : World) (c : Nat) => row_free w (p.extract 0 k) c 5 m (by omega)
  have hcat : ¬ 9223372036854775807 < d.size + k := by omega
  have hk1 : 0 < k := by omega
  have hkk : (k : Int) - 1 = m := by omega
  have hmk : m < k := by omega
  have HKM := Lib.hid hkm
  have HKL := Lib.hid (show (p.extract 0 k).data.toList = p.data.toList.take k by rw [extract_list]; rfl)
  clear hd hp hx hkm
  go_enter Tryd.func24, Tryd.ntmps24
  go_wp2_with (first | (go_at_call 49; refine (l28Log_any _ _ _ _ HZ.out.1 HZ.out.2.1 HZ.out.2.2).mono ?_; rintro e w1 ⟨rfl, hb1⟩; have ⟨cw1, fw1⟩ := bcell hb1; have qw1 := hb1.size; (try simp at qw1); (try have zw1w := bsz (show w.heap.size < w1.heap.size by omega))) | (go_at_call 42; refine (l1In_any _ _ _ _).mono ?_; rintro e w' ⟨rfl, rfl⟩))
  go_ret2
  refine ⟨?_, by (repeat (first | exact Below.refl _ _ | assumption | refine Below.al ?_ _ | refine Below.sc ?_ (by first | exact Nat.le_refl _ | (simp; done) | (simp; omega)) _ | refine Below.dr ?_ | refine Below.drN ?_ _ | refine Below.step ?_ (by assumption)))⟩
  show Ending.returned (.tuple #[.string (d ++ ⟨((p.data.toList.take k).set m (255 - x)).toArray⟩), .bool true]) = _
  rw [HKL.out]
set_option maxRecDepth 100000 in
set_option maxHeartbeats 1600000 in
theorem specCrash_no (d p : ByteArray) (n k : Int) (t : Bool) (w : World) (hd : d.size ≤ maxLen) (hp : p.size ≤ maxLen) (hs : d.size + p.size ≤ 1000000000)
    (hv : (validS d.data.toList p.data.toList n && inB k 0 p.size) = false) :
    Calls Tryd.prog 24 #[.agg #[.string d, .string p, .int .i64 n], .int .i64 k, .bool t] w fun e w' =>
      e = .returned (.tuple #[.string ⟨#[]⟩, .bool false]) ∧ Below w.heap.size w w' := by
  have HZ := Lib.hid (And.intro hd (And.intro hp hs))
  cases h1 : validS d.data.toList p.data.toList n
  · clear hv
    go_enter Tryd.func24, Tryd.ntmps24
    go_wp2_with (first | (go_at_call 49; refine (l28Log_any _ _ _ _ HZ.out.1 HZ.out.2.1 HZ.out.2.2).mono ?_; rintro e w1 ⟨rfl, hb1⟩; have ⟨cw1, fw1⟩ := bcell hb1; have qw1 := hb1.size; (try simp at qw1); (try have zw1w := bsz (show w.heap.size < w1.heap.size by omega))) | (go_at_call 42; refine (l1In_any _ _ _ _).mono ?_; rintro e w' ⟨rfl, rfl⟩))
    go_ret2
    exact ⟨rfl, by (repeat (first | exact Below.refl _ _ | assumption | refine Below.al ?_ _ | refine Below.sc ?_ (by first | exact Nat.le_refl _ | (simp; done) | (simp; omega)) _ | refine Below.dr ?_ | refine Below.drN ?_ _ | refine Below.step ?_ (by assumption)))⟩
  · have h2 : inB k 0 p.size = false := by rw [h1] at hv; simpa using hv
    clear hv
    go_enter Tryd.func24, Tryd.ntmps24
    go_wp2_with (first | (go_at_call 49; refine (l28Log_any _ _ _ _ HZ.out.1 HZ.out.2.1 HZ.out.2.2).mono ?_; rintro e w1 ⟨rfl, hb1⟩; have ⟨cw1, fw1⟩ := bcell hb1; have qw1 := hb1.size; (try simp at qw1); (try have zw1w := bsz (show w.heap.size < w1.heap.size by omega))) | (go_at_call 42; refine (l1In_any _ _ _ _).mono ?_; rintro e w' ⟨rfl, rfl⟩))
    go_ret2
    exact ⟨rfl, by (repeat (first | exact Below.refl _ _ | assumption | refine Below.al ?_ _ | refine Below.sc ?_ (by first | exact Nat.le_refl _ | (simp; done) | (simp; omega)) _ | refine Below.dr ?_ | refine Below.drN ?_ _ | refine Below.step ?_ (by assumption)))⟩
theorem turn_same (d e : ByteArray) (m : Nat) (hm : m < e.size) : (⟨((d ++ e).data.toList.set (d.size + m) (255 - (d ++ e).data.toList.getD (d.size + m) 0)).toArray⟩ : ByteArray) = d ++ ⟨(e.data.toList.set m (255 - e.data.toList.getD m 0)).toArray⟩ := by
  have h1 : (d ++ e).data.toList = d.data.toList ++ e.data.toList := by simp
  apply ByteArray.ext
  apply Array.ext'
  rw [h1]
  simp only [ByteArray.data_append, Array.toList_append]
  have h2 : d.size = d.data.toList.length := size_list d
  rw [h2, List.set_append_right _ _ (by omega), List.getD_eq_getElem?_getD, List.getElem?_append_right (by omega), Nat.add_sub_cancel_left, ← List.getD_eq_getElem?_getD]
set_option maxRecDepth 100000 in
set_option maxHeartbeats 1600000 in
theorem implCrash_keep (d p : ByteArray) (n : Int) (k : Nat) (w : World) (hE : Env w) (hs : d.size + p.size ≤ 1000000000)
    (hv : validS d.data.toList p.data.toList n = true) (hk : k ≤ p.size) (t : Bool) (ht : (t && decide (0 < k)) = false) :
    Calls Tryd.prog 25 #[.agg #[.string d, .string p, .int .i64 n], .int .i64 (k : Int), .bool t] w fun e w' =>
      e = .returned (.tuple #[.string (d ++ p.extract 0 k), .bool true]) ∧ Below w.heap.size w w' := by
  have HE := Lib.hid hE
  have HZ := Lib.hid hs
  have hin : inB (k : Int) 0 (p.size : Int) = true := by simp [inB]; omega
  have kc := convTo
  have hes : (d ++ p.extract 0 k).size = d.size + k := by rw [ByteArray.size_append, ByteArray.size_extract]; omega
  have kb := fun (w : World) (c : Nat) (fr : Nat × Nat) => convBack w (d ++ p.extract 0 k) c (d.size + k) fr hes.symm
  have hcat : ¬ 9223372036854775807 < d.size + k := by omega
  clear hE
  cases t
  · go_enter Tryd.func25, Tryd.ntmps25
    go_wp2_with (first | (go_at_call 23; refine (implIsValidLog_any _ _ _ _ (HE.out.below (by (repeat (first | exact Below.refl _ _ | assumption | refine Below.al ?_ _ | refine Below.sc ?_ (by first | exact Nat.le_refl _ | (simp; done) | (simp; omega)) _ | refine Below.dr ?_ | refine Below.drN ?_ _ | refine Below.step ?_ (by assumption))))) HZ.out).mono ?_; rintro e w1 ⟨rfl, hb1⟩; have ⟨cw1, fw1⟩ := bcell hb1; have qw1 := hb1.size; (try simp at qw1); (try have zw1w := bsz (show w.heap.size < w1.heap.size by omega))) | (go_at_call 45; refine (within_any _ _ _ _).mono ?_; rintro e w' ⟨rfl, rfl⟩))
    go_still_tail 7, (by kernel_rfl)
    change wpList _ _ _ _ _ w1.drew
    have hbd : Below w.heap.size w w1.drew := by (repeat (first | exact Below.refl _ _ | assumption | refine Below.al ?_ _ | refine Below.sc ?_ (by first | exact Nat.le_refl _ | (simp; done) | (simp; omega)) _ | refine Below.dr ?_ | refine Below.drN ?_ _ | refine Below.step ?_ (by assumption)))
    generalize w1.drew = w2 at *
    go_wp2
    go_ret2
    exact ⟨rfl, by (repeat (first | exact Below.refl _ _ | assumption | refine Below.al ?_ _ | refine Below.sc ?_ (by first | exact Nat.le_refl _ | (simp; done) | (simp; omega)) _ | refine Below.dr ?_ | refine Below.drN ?_ _ | refine Below.step ?_ (by assumption)))⟩
  · have hk0 : ¬ 0 < k := by simpa using ht
    have hk1 : ¬ 0 < (k : Int) := by omega
    clear ht
    go_enter Tryd.func25, Tryd.ntmps25
    go_wp2_with (first | (go_at_call 23; refine (implIsValidLog_any _ _ _ _ (HE.out.below (by (repeat (first | exact Below.refl _ _ | assumption | refine Below.al ?_ _ | refine Below.sc ?_ (by first | exact Nat.le_refl _ | (simp; done) | (simp; omega)) _ | refine Below.dr ?_ | refine Below.drN ?_ _ | refine Below.step ?_ (by assumption))))) HZ.out).mono ?_; rintro e w1 ⟨rfl, hb1⟩; have ⟨cw1, fw1⟩ := bcell hb1; have qw1 := hb1.size; (try simp at qw1); (try have zw1w := bsz (show w.heap.size < w1.heap.size by omega))) | (go_at_call 45; refine (within_any _ _ _ _).mono ?_; rintro e w' ⟨rfl, rfl⟩))
    go_still_tail 7, (by kernel_rfl)
    change wpList _ _ _ _ _ w1.drew
    have hbd : Below w.heap.size w w1.drew := by (repeat (first | exact Below.refl _ _ | assumption | refine Below.al ?_ _ | refine Below.sc ?_ (by first | exact Nat.le_refl _ | (simp; done) | (simp; omega)) _ | refine Below.dr ?_ | refine Below.drN ?_ _ | refine Below.step ?_ (by assumption)))
    generalize w1.drew = w2 at *
    go_wp2
    go_ret2
    exact ⟨rfl, by (repeat (first | exact Below.refl _ _ | assumption | refine Below.al ?_ _ | refine Below.sc ?_ (by first | exact Nat.le_refl _ | (simp; done) | (simp; omega)) _ | refine Below.dr ?_ | refine Below.drN ?_ _ | refine Below.step ?_ (by assumption)))⟩
set_option maxRecDepth 100000 in
set_option maxHeartbeats 1600000 in
theorem implCrash_turn (d p : ByteArray) (n : Int) (m : Nat) (w : World) (hE : Env w) (hs : d.size + p.size ≤ 1000000000)
    (hv : validS d.data.toList p.data.toList n = true) (hk : m + 1 ≤ p.size) :
    Calls Tryd.prog 25 #[.agg #[.string d, .string p, .int .i64 n], .int .i64 ((m + 1 : Nat) : Int), .bool true] w fun e w' =>
      e = .returned (.tuple #[.string (d ++ ⟨((p.extract 0 (m + 1)).data.toList.set m (255 - (p.extract 0 (m + 1)).data.toList.getD m 0)).toArray⟩), .bool true]) ∧ Below w.heap.size w w' := by
  have HE := Lib.hid hE
  have HZ := Lib.hid hs
  have hes0 : (p.extract 0 (m + 1)).size = m + 1 := by rw [ByteArray.size_extract]; omega
  rw [← turn_same d (p.extract 0 (m + 1)) m (by omega)]
  generalize hkm : m + 1 = k at *
  generalize hi : d.size + m = i at *
  have hin : inB (k : Int) 0 (p.size : Int) = true := by simp [inB]; omega
  have kc := convTo
  have hes : (d ++ p.extract 0 k).size = d.size + k := by rw [ByteArray.size_append, hes0]
  obtain ⟨x, hx⟩ : ∃ x, x = (d ++ p.extract 0 k).data.toList.getD i 0 := ⟨_, rfl⟩
  rw [← hx]
  have kx : ∀ (w : World) (c : Nat) (fr : Nat × Nat), (w.alloc (.cells (bytesRow (d ++ p.extract 0 k) c) 5 fr)).cell? ⟨w.heap.size, i, none⟩ = some (.int .u8 x.toNat) := by
    intro w c fr
    rw [row_cell w _ c _ fr i (by rw [← size_list, hes]; omega), hx, List.getD_eq_getElem?_getD, List.getElem?_eq_getElem (by rw [← size_list, hes]; omega)]; rfl
  have kb := fun (w : World) (c : Nat) (fr : Nat × Nat) => convBackT w (d ++ p.extract 0 k) c (d.size + k) i fr hes.symm (by omega) (255 - x) ((255 - (x.toNat : Int)) % 256) (turned x)
  have kz := fun (w : World) (c : Nat) => row_free w (d ++ p.extract 0 k) c 5 i (by omega)
  have hcat : ¬ 9223372036854775807 < d.size + k := by omega
  have hk1 : 0 < k := by omega
  have hkk : (d.size : Int) + (k : Int) - 1 = i := by omega
  have hmk : i < d.size + k := by omega
  have HKL := Lib.hid (show (d ++ p.extract 0 k).data.toList = d.data.toList ++ p.data.toList.take k by simp [extract_list])
  clear hx hkm hi hE hes0
  go_enter Tryd.func25, Tryd.ntmps25
  go_wp2_with (first | (go_at_call 23; refine (implIsValidLog_any _ _ _ _ (HE.out.below (by (repeat (first | exact Below.refl _ _ | assumption | refine Below.al ?_ _ | refine Below.sc ?_ (by first | exact Nat.le_refl _ | (simp; done) | (simp; omega)) _ | refine Below.dr ?_ | refine Below.drN ?_ _ | refine Below.step ?_ (by assumption))))) HZ.out).mono ?_; rintro e w1 ⟨rfl, hb1⟩; have ⟨cw1, fw1⟩ := bcell hb1; have qw1 := hb1.size; (try simp at qw1); (try have zw1w := bsz (show w.heap.size < w1.heap.size by omega))) | (go_at_call 45; refine (within_any _ _ _ _).mono ?_; rintro e w' ⟨rfl, rfl⟩))
  go_still_tail 7, (by kernel_rfl)
  change wpList _ _ _ _ _ w1.drew
  have hbd : Below w.heap.size w w1.drew := by (repeat (first | exact Below.refl _ _ | assumption | refine Below.al ?_ _ | refine Below.sc ?_ (by first | exact Nat.le_refl _ | (simp; done) | (simp; omega)) _ | refine Below.dr ?_ | refine Below.drN ?_ _ | refine Below.step ?_ (by assumption)))
  generalize w1.drew = w2 at *
  go_wp2
  go_ret2
  have hbs := hbd.size
  refine ⟨?_, by first | ((repeat (first | exact Below.refl _ _ | assumption | refine Below.al ?_ _ | refine Below.sc ?_ (by first | exact Nat.le_refl _ | (simp; done) | (simp; omega)) _ | refine Below.dr ?_ | refine Below.drN ?_ _ | refine Below.step ?_ (by assumption))); done) | exact (hbd.alloc hbs _).setCell hbs _⟩
  show Ending.returned (.tuple #[.string ⟨((d.data.toList ++ p.data.toList.take k).set i (255 - x)).toArray⟩, .bool true]) = _
  rw [HKL.out]
set_option maxRecDepth 100000 in
set_option maxHeartbeats 1600000 in
theorem implCrash_no (d p : ByteArray) (n k : Int) (t : Bool) (w : World) (hE : Env w) (hp : p.size ≤ maxLen) (hs : d.size + p.size ≤ 1000000000)
    (hv : (validS d.data.toList p.data.toList n && inB k 0 p.size) = false) :
    Calls Tryd.prog 25 #[.agg #[.string d, .string p, .int .i64 n], .int .i64 k, .bool t] w fun e w' =>
      e = .returned (.tuple #[.string ⟨#[]⟩, .bool false]) ∧ Below w.heap.size w w' := by
  have HE := Lib.hid hE
  have HZ := Lib.hid hs
  cases h1 : validS d.data.toList p.data.toList n
  · clear hv
    go_enter Tryd.func25, Tryd.ntmps25
    go_wp2_with (first | (go_at_call 23; refine (implIsValidLog_any _ _ _ _ (HE.out.below (by (repeat (first | exact Below.refl _ _ | assumption | refine Below.al ?_ _ | refine Below.sc ?_ (by first | exact Nat.le_refl _ | (simp; done) | (simp; omega)) _ | refine Below.dr ?_ | refine Below.drN ?_ _ | refine Below.step ?_ (by assumption))))) HZ.out).mono ?_; rintro e w1 ⟨rfl, hb1⟩; have ⟨cw1, fw1⟩ := bcell hb1; have qw1 := hb1.size; (try simp at qw1); (try have zw1w := bsz (show w.heap.size < w1.heap.size by omega))) | (go_at_call 45; refine (within_any _ _ _ _).mono ?_; rintro e w' ⟨rfl, rfl⟩))
    go_ret2
    exact ⟨rfl, by (repeat (first | exact Below.refl _ _ | assumption | refine Below.al ?_ _ | refine Below.sc ?_ (by first | exact Nat.le_refl _ | (simp; done) | (simp; omega)) _ | refine Below.dr ?_ | refine Below.drN ?_ _ | refine Below.step ?_ (by assumption)))⟩
  · have h2 : inB k 0 p.size = false := by rw [h1] at hv; simpa using hv
    clear hv
    go_enter Tryd.func25, Tryd.ntmps25
    go_wp2_with (first | (go_at_call 23; refine (implIsValidLog_any _ _ _ _ (HE.out.below (by (repeat (first | exact Below.refl _ _ | assumption | refine Below.al ?_ _ | refine Below.sc ?_ (by first | exact Nat.le_refl _ | (simp; done) | (simp; omega)) _ | refine Below.dr ?_ | refine Below.drN ?_ _ | refine Below.step ?_ (by assumption))))) HZ.out).mono ?_; rintro e w1 ⟨rfl, hb1⟩; have ⟨cw1, fw1⟩ := bcell hb1; have qw1 := hb1.size; (try simp at qw1); (try have zw1w := bsz (show w.heap.size < w1.heap.size by omega))) | (go_at_call 45; refine (within_any _ _ _ _).mono ?_; rintro e w' ⟨rfl, rfl⟩))
    go_ret2
    exact ⟨rfl, by (repeat (first | exact Below.refl _ _ | assumption | refine Below.al ?_ _ | refine Below.sc ?_ (by first | exact Nat.le_refl _ | (simp; done) | (simp; omega)) _ | refine Below.dr ?_ | refine Below.drN ?_ _ | refine Below.step ?_ (by assumption)))⟩
end Go.Proofs.YtofamefmodmekaaDoor
