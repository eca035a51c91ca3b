/- An argument that is a slice of bytes: the bytes that came in. No conditions. -/
import Derived.Test.YtofamefmodmekaaDoorCur5
import Derived.ChangeSlices
import Derived.OpenShut
import Derived.JoinedCond
namespace Go.Proofs.YtofamefmodmekaaDoor
open Go.RowKit Go.ChangeShapes Go.WideShapes
theorem addr_add0 (b o : Nat) (i : Nat) : (⟨b, o, none⟩ : Addr).add i = ⟨b, o + i, none⟩ := by unfold Addr.add; split <;> simp_all
theorem cell_spot {w : World} {a : Addr} {v : Value} (h : w.cell? a = some v) : a.spot = none := by
  unfold World.cell? at h
  split at h
  · split at h
    · cases h
    · rename_i hs; simpa using hs
  · cases h
theorem bytes_of {H : Type} {enc : TypeId × Value → H} {W : World} {base : Nat} {sp : Nat → Bool} {held : Bool} {a : Option Addr} {len cap : Nat} {d : DataW H} {p : List MemPlace}
    (hsp : ∀ b, sp b = true) (h : DataW.Trod enc Tryd.prog W base sp held 53 (.slice a len cap) d p) : len ≤ 1000000 → CodeIn W (.slice a len cap) := by
  intro hl
  obtain ⟨fuel, hf⟩ := h
  rcases open_ints Tryd.underlying53 Tryd.underlying5 (by kernel_rfl) hf with ⟨hcs, _⟩ | ⟨a', len', cap', zs, hcs, _, hlc, hcm, hz, _, hcell, hwf⟩
  · simp [Value.cells] at hcs
    obtain ⟨rfl, rfl, rfl⟩ := hcs
    exact ⟨[], by simp, ListAt.nil _ _ _ _ _ _⟩
  · simp [Value.cells] at hcs
    obtain ⟨rfl, rfl, rfl⟩ := hcs
    rw [hsp, if_pos rfl] at hz
    have hlen : ((zs.take len).map fun z => UInt8.ofNat z.toNat).length = len := by simp; omega
    refine ⟨(zs.take len).map fun z => UInt8.ofNat z.toNat, by rw [hlen]; exact hl, some a', cap, by rw [hlen], by rw [hlen]; exact Nat.le_trans hlc hcm, fun i x hx => ?_⟩
    have hi : i < len := by
      have := (List.getElem?_eq_some_iff.1 hx).1
      omega
    have hc := hcell i (by omega)
    have h0 := hcell 0 (by omega)
    obtain ⟨b, o, s⟩ := a'
    have hs : s = none := by
      have := cell_spot h0
      simpa [Addr.add] using this
    subst hs
    rw [addr_add0] at hc
    refine ⟨b, o, rfl, World.block_lt_of_cell? W _ hc, [.int .u8 (zs.getD i 0)], rfl, fun j hj => ?_, ?_⟩
    · obtain rfl : j = 0 := by omega
      rw [Nat.mul_one, Nat.add_zero]; exact hc
    · have hz2 : zs.getD i 0 ∈ zs := by
        rw [List.getD_eq_getElem?_getD, List.getElem?_eq_getElem (by omega)]; exact List.getElem_mem _
      have hw := hwf _ hz2
      have hb : 0 ≤ zs.getD i 0 ∧ zs.getD i 0 ≤ 255 := by
        simpa [Lit.wf, IntKind.min, IntKind.max, IntKind.signed, IntKind.bits] using hw
      have hx2 : x = UInt8.ofNat (zs.getD i 0).toNat := by
        rw [List.getElem?_map, List.getElem?_take, if_pos hi, List.getElem?_eq_getElem (by omega)] at hx
        rw [List.getD_eq_getElem?_getD, List.getElem?_eq_getElem (by omega)]
        simpa using hx.symm
      show [Value.int .u8 (zs.getD i 0)] = [.int .u8 (x.toNat : Int)]
      have e : (x.toNat : Int) = zs.getD i 0 := by
        rw [hx2, UInt8.toNat_ofNat']; omega
      rw [e]
end Go.Proofs.YtofamefmodmekaaDoor
