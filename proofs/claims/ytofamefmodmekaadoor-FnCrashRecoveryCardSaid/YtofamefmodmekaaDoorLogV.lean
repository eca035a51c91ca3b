/- Recovery and validity of logs, both sides. Conditions: sizes; the package tables lie as they were laid. -/
import Derived.Test.YtofamefmodmekaaDoorLogO
namespace Go.Proofs.YtofamefmodmekaaDoor
open Go.RowKit
theorem ends_cell {ps : List Rec} {w : World} {base g c : Nat} (h : w.ownsRow base 3 1 (.slice (some ⟨g, 0, none⟩) ps.length c) ps.length (natV (endsF 0 0 ps))) (hp : 0 < ps.length) :
    w.cell? ⟨g, ps.length - 1, none⟩ = some (.int .i64 (lenR 0 ps : Nat)) := by
  have hne : ps ≠ [] := by rintro rfl; simp at hp
  have h1 := endsF_last ps 0 0 hne
  rw [h.cellAt (ps.length - 1) (by omega), natV, List.getElem?_map]
  rw [List.getLast?_eq_getElem?, endsF_len, Nat.zero_add] at h1
  rw [h1]; rfl
theorem ends_at {ps : List Rec} {w : World} {base g c : Nat} (h : w.ownsRow base 3 1 (.slice (some ⟨g, 0, none⟩) ps.length c) ps.length (natV (endsF 0 0 ps))) {j : Nat} (hj : j < ps.length) :
    w.cell? ⟨g, j, none⟩ = some (.int .i64 ((endsF 0 0 ps).getD j 0 : Nat)) := by
  rw [h.cellAt j (by omega), natV, List.getElem?_map, List.getD_eq_getElem?_getD, List.getElem?_eq_getElem (by rw [endsF_len]; exact hj)]; rfl
theorem lenR_all (s : ByteArray) : lenR 0 (allF s.data.toList) ≤ s.size := parse_len_le 60 0 _
theorem all_60 (t : List UInt8) : (allF t).length ≤ 60 := (parse_split 60 0 t).choose_spec.2.2
set_option maxHeartbeats 1600000 in
theorem specRecover_big (s : ByteArray) (w : World) (hs : s.size ≤ maxLen) (hb : 30000 < s.size) :
    Calls Tryd.prog 17 #[.string s] w fun e w' => e = .returned (.tuple #[.agg #[.string ⟨#[]⟩, .string ⟨#[]⟩, .int .i64 0], .int .i64 0, .bool false]) ∧ Below w.heap.size w w' := by
  unfold maxLen at hs
  have hb1 : 30000 < (s.size : Int) := by omega
  go_enter Tryd.func17, Tryd.ntmps17
  go_wp2
  refine bodyPost_ret (v := .tuple #[.agg #[.string ⟨#[]⟩, .string ⟨#[]⟩, .int .i64 0], .int .i64 0, .bool false]) (by simp only [results, Tryd.results17]; go_simp) rfl ⟨rfl, by (repeat (first | exact Below.refl _ _ | assumption | refine Below.al ?_ _ | refine Below.sc ?_ (by first | exact Nat.le_refl _ | (simp; done) | (simp; omega)) _ | refine Below.dr ?_ | refine Below.drN ?_ _ | refine Below.step ?_ (by assumption)))⟩
set_option maxHeartbeats 1600000 in
theorem specRecover_any (s : ByteArray) (w : World) (hb : s.size ≤ 30000) :
    Calls Tryd.prog 17 #[.string s] w fun e w' => e = .returned (.tuple #[.agg #[.string (s.extract 0 (lenR 0 (allF s.data.toList))), .string ⟨#[]⟩, .int .i64 ((allF s.data.toList).length : Nat)], .int .i64 (lenR 0 (allF s.data.toList) : Nat), .bool true]) ∧ Below w.heap.size w w' := by
  have hb1 : ¬ 30000 < (s.size : Int) := by omega
  have hl := lenR_all s
  have hl1 : (lenR 0 (allF s.data.toList) : Int) ≤ (s.size : Int) := by omega
  go_enter Tryd.func17, Tryd.ntmps17
  go_wp2_with (go_at_call 47; refine (l28Open_any _ _ (by omega)).mono ?_; rintro e w1 ⟨g, c, rfl, ho1, hb2⟩; have ⟨cw1, fw1⟩ := bcell hb2; have qw1 := hb2.size; (try simp at qw1); have zw1w := bsz (show w.heap.size < w1.heap.size by omega); clear ho1)
  refine bodyPost_ret (v := .tuple #[.agg #[.string (s.extract 0 (lenR 0 (allF s.data.toList))), .string ⟨#[]⟩, .int .i64 ((allF s.data.toList).length : Nat)], .int .i64 (lenR 0 (allF s.data.toList) : Nat), .bool true]) (by simp only [results, Tryd.results17]; go_simp) rfl ⟨rfl, by (repeat (first | exact Below.refl _ _ | assumption | refine Below.al ?_ _ | refine Below.sc ?_ (by first | exact Nat.le_refl _ | (simp; done) | (simp; omega)) _ | refine Below.dr ?_ | refine Below.drN ?_ _ | refine Below.step ?_ (by assumption)))⟩
set_option maxHeartbeats 1600000 in
theorem implRecover_big (s : ByteArray) (w : World) (hs : s.size ≤ maxLen) (hb : 30000 < s.size) :
    Calls Tryd.prog 18 #[.string s] w fun e w' => e = .returned (.tuple #[.agg #[.string ⟨#[]⟩, .string ⟨#[]⟩, .int .i64 0], .int .i64 0, .bool false]) ∧ Below w.heap.size w w' := by
  unfold maxLen at hs
  have hb1 : 30000 < (s.size : Int) := by omega
  go_enter Tryd.func18, Tryd.ntmps18
  go_wp2
  refine bodyPost_ret (v := .tuple #[.agg #[.string ⟨#[]⟩, .string ⟨#[]⟩, .int .i64 0], .int .i64 0, .bool false]) (by simp only [results, Tryd.results18]; go_simp) rfl ⟨rfl, by (repeat (first | exact Below.refl _ _ | assumption | refine Below.al ?_ _ | refine Below.sc ?_ (by first | exact Nat.le_refl _ | (simp; done) | (simp; omega)) _ | refine Below.dr ?_ | refine Below.drN ?_ _ | refine Below.step ?_ (by assumption)))⟩
set_option maxHeartbeats 1600000 in
theorem implRecover_any (s : ByteArray) (w : World) (hE : Env w) (hb : s.size ≤ 30000) :
    Calls Tryd.prog 18 #[.string s] w fun e w' => e = .returned (.tuple #[.agg #[.string (s.extract 0 (lenR 0 (allF s.data.toList))), .string ⟨#[]⟩, .int .i64 ((allF s.data.toList).length : Nat)], .int .i64 (lenR 0 (allF s.data.toList) : Nat), .bool true]) ∧ Below w.heap.size w w' := by
  have hb1 : ¬ 30000 < (s.size : Int) := by omega
  have HE := Lib.hid hE
  have hl := lenR_all s
  have h60 := all_60 s.data.toList
  have hl1 : (lenR 0 (allF s.data.toList) : Int) ≤ (s.size : Int) := by omega
  clear hE
  by_cases hn : 0 < (allF s.data.toList).length
  · have hn1 : 0 < ((allF s.data.toList).length : Int) := by omega
    go_enter Tryd.func18, Tryd.ntmps18
    go_wp2_with (go_at_call 48; refine (readRecords_any _ _ (HE.out.below (by (repeat (first | exact Below.refl _ _ | assumption | refine Below.al ?_ _ | refine Below.sc ?_ (by first | exact Nat.le_refl _ | (simp; done) | (simp; omega)) _ | refine Below.dr ?_ | refine Below.drN ?_ _ | refine Below.step ?_ (by assumption))))) (by omega)).mono ?_; rintro e w1 ⟨g, c, g', c', rfl, ho1, ho2, hb2⟩; have ⟨cw1, fw1⟩ := bcell hb2; have qw1 := hb2.size; (try simp at qw1); have zw1w := bsz (show w.heap.size < w1.heap.size by omega); have hce := ends_cell ho2 hn; clear ho1 ho2)
    refine bodyPost_ret (v := .tuple #[.agg #[.string (s.extract 0 (lenR 0 (allF s.data.toList))), .string ⟨#[]⟩, .int .i64 ((allF s.data.toList).length : Nat)], .int .i64 (lenR 0 (allF s.data.toList) : Nat), .bool true]) (by simp only [results, Tryd.results18]; go_simp) rfl ⟨rfl, by (repeat (first | exact Below.refl _ _ | assumption | refine Below.al ?_ _ | refine Below.sc ?_ (by first | exact Nat.le_refl _ | (simp; done) | (simp; omega)) _ | refine Below.dr ?_ | refine Below.drN ?_ _ | refine Below.step ?_ (by assumption)))⟩
  · have hn0 : allF s.data.toList = [] := List.eq_nil_of_length_eq_zero (by omega)
    have HN := Lib.hid hn0
    have hn1 : ¬ 0 < ((allF s.data.toList).length : Int) := by omega
    clear hn0
    go_enter Tryd.func18, Tryd.ntmps18
    go_wp2_with (go_at_call 48; refine (readRecords_any _ _ (HE.out.below (by (repeat (first | exact Below.refl _ _ | assumption | refine Below.al ?_ _ | refine Below.sc ?_ (by first | exact Nat.le_refl _ | (simp; done) | (simp; omega)) _ | refine Below.dr ?_ | refine Below.drN ?_ _ | refine Below.step ?_ (by assumption))))) (by omega)).mono ?_; rintro e w1 ⟨g, c, g', c', rfl, ho1, ho2, hb2⟩; have ⟨cw1, fw1⟩ := bcell hb2; have qw1 := hb2.size; (try simp at qw1); have zw1w := bsz (show w.heap.size < w1.heap.size by omega); clear ho1 ho2)
    refine bodyPost_ret (v := .tuple #[.agg #[.string (s.extract 0 0), .string ⟨#[]⟩, .int .i64 ((allF s.data.toList).length : Nat)], .int .i64 0, .bool true]) (by simp only [results, Tryd.results18]; go_simp) rfl ⟨?_, by (repeat (first | exact Below.refl _ _ | assumption | refine Below.al ?_ _ | refine Below.sc ?_ (by first | exact Nat.le_refl _ | (simp; done) | (simp; omega)) _ | refine Below.dr ?_ | refine Below.drN ?_ _ | refine Below.step ?_ (by assumption)))⟩
    rw [HN.out]; rfl
end Go.Proofs.YtofamefmodmekaaDoor
