/- The marks that the laws write into a result, to see whether it is held. Conditions: sizes. -/
import Derived.Test.YtofamefmodmekaaDoorOwn
import Derived.Laws.IdiomStrings
namespace Go.Proofs.YtofamefmodmekaaDoor
open Go.RowKit
/-- A number's digits, as 'markText' writes them. -/
def markL (n : Nat) : List UInt8 := if h : n = 0 then [] else markL (n / 10) ++ [UInt8.ofNat (48 + n % 10)]
termination_by n
theorem markL_zero : markL 0 = [] := by rw [markL]; rfl
theorem markL_pos {n : Nat} (h : n ≠ 0) : markL n = markL (n / 10) ++ [UInt8.ofNat (48 + n % 10)] := by rw [markL, dif_neg h]
theorem markL_len (n : Nat) : (markL n).length ≤ n := by
  induction n using Nat.strongRecOn with
  | _ n ih =>
    by_cases h : n = 0
    · subst h; rw [markL_zero]; exact Nat.le_refl _
    · rw [markL_pos h, List.length_append]
      have := ih (n / 10) (by omega)
      simp; omega
def markB (n : Nat) : ByteArray := ⟨(109 :: markL n).toArray⟩
theorem digit_conv (w : World) (v : Int) (x : UInt8) (hv : v = x.toNat) :
    (convert 53 9 (.slice (some ⟨w.heap.size, 0, none⟩) 1 1)).run Tryd.prog (w.alloc (.cells #[.int .u8 v] 5)) = .ok (.string ⟨#[x]⟩) (w.alloc (.cells #[.int .u8 v] 5)) := by
  subst hv
  have h := run_convert_bytes_back (P := Tryd.prog) (w.alloc (.cells #[.int .u8 x.toNat] 5)) 53 9 5 ⟨w.heap.size, 0, none⟩ 1 [x] Tryd.underlying53 Tryd.underlying5 Tryd.underlying9 ?_
  · exact h
  · intro j hj
    have hj0 : j = 0 := by simpa using hj
    subst hj0
    have e : (⟨w.heap.size, 0, none⟩ : Addr).add 0 = ⟨w.heap.size, 0, none⟩ := by unfold Addr.add; simp
    rw [e, World.cell?_alloc_new]; rfl
theorem digit_val (k : Nat) : 48 + (k : Int) % 10 = ((UInt8.ofNat (48 + k % 10)).toNat : Int) := by
  rw [UInt8.toNat_ofNat']; omega
def MarkRel (n : Nat) (w : World) (d i : Value) (wr : World) : Prop :=
  ∃ (k : Nat) (l : List UInt8), k ≤ n ∧ i = .int .i64 k ∧ d = .string ⟨l.toArray⟩ ∧ markL k ++ l = markL n ∧ Below w.heap.size w wr
set_option maxRecDepth 100000 in
set_option maxHeartbeats 800000 in
theorem markText_any (n : Nat) (w : World) (h0 : 0 < n) (h1 : n ≤ 1000000) :
    Calls Tryd.prog 52 #[.int .i64 n] w fun e w' => e = .returned (.string (markB n)) ∧ Below w.heap.size w w' := by
  have hn : ¬ (n : Int) ≤ 0 := by omega
  go_enter Tryd.func52, Tryd.ntmps52
  go_wp2
  go_loopw [3, 0] (MarkRel n w) (fun _ i _ => (intOf i).toNat)
  case atStart => exact ⟨n, [], Nat.le_refl _, rfl, rfl, by simp, Below.refl _ _⟩
  case round =>
    obtain ⟨k, l, hk, rfl, rfl, hl, hb⟩ := hrel
    have HL := Lib.hid hl
    clear hl
    by_cases hk0 : 0 < (k : Int)
    · have kd := fun (w : World) => digit_conv w (48 + (k : Int) % 10) _ (digit_val k)
      have hll : ¬ 9223372036854775807 < 1 + l.length := by
        have h2 := congrArg List.length HL.out
        have h3 := markL_len n
        simp only [List.length_append] at h2; omega
      go_wp2
      refine ⟨⟨k / 10, (48 + UInt8.ofNat (k % 10)) :: l, by omega, by simp, ?_, ?_, ?_⟩, by simp [intOf]; omega⟩
      · exact congrArg Value.string (by apply ByteArray.ext; simp)
      · rw [← HL.out, markL_pos (n := k) (by omega), List.append_assoc]
        exact congrArg _ (congrArg (· :: l) (by rw [UInt8.ofNat_add]; rfl))
      · exact hb.alloc hb.size _
    · have hk1 : k = 0 := by omega
      subst hk1
      have hll : ¬ 9223372036854775807 < 1 + l.length := by
        have h2 := congrArg List.length HL.out
        have h3 := markL_len n
        simp only [List.length_append] at h2; omega
      go_wp2
      go_ret
      refine ⟨congrArg Ending.returned (congrArg Value.string ?_), hb⟩
      have h2 := HL.out
      rw [markL_zero, List.nil_append] at h2
      rw [markB, ← h2]; apply ByteArray.ext; simp
theorem markText_int (z : Int) (n : Nat) (w : World) (hz : z = n) (h0 : 0 < n) (h1 : n ≤ 1000000) :
    Calls Tryd.prog 52 #[.int .i64 z] w fun e w' => e = .returned (.string (markB n)) ∧ Below w.heap.size w w' := by
  subst hz; exact markText_any n w h0 h1
end Go.Proofs.YtofamefmodmekaaDoor
