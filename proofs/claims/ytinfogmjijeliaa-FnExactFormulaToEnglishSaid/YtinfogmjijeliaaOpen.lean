/- Arguments that are lists and trees: what came in, as data. No conditions. -/
import Derived.Test.YtinfogmjijeliaaTree
import Derived.ChangeSlices
import Derived.OpenShut
import Derived.JoinedCond
namespace Go.Proofs.Ytinfogmjijeliaa
open Go.RowKit Go.ChangeShapes Go.WideShapes
theorem addr_addN (b o : Nat) (i : Nat) : (⟨b, o, none⟩ : Addr).add i = ⟨b, o + i, none⟩ := by unfold Addr.add; split <;> simp_all
theorem spot_none {w : World} {a : Addr} {v : Value} (h : w.cell? a = some v) : a.spot = none := by
  unfold World.cell? at h
  split at h
  · split at h
    · cases h
    · rename_i hs; simpa using hs
  · cases h
abbrev Old (w : World) : Nat → Prop := fun b => b < w.heap.size
section
variable {H : Type} {enc : TypeId × Value → H} {P : Program} {w : World} {base : Nat} {sp : Nat → Bool} {held : Bool}
theorem listAt_open {α : Type} {R : α → List Value → Prop} {ts e : TypeId} {n fuel : Nat} {cs : List Value} {x : DataW H × List MemPlace} (ht : P.underlying ts = some (.slice e)) (hC : P.cellsOf e = n) (hn : 0 < n)
    (h : DataW.trod enc P w base sp held fuel ts cs = some x) (he : ∀ k cs y, k + 1 = fuel → DataW.trod enc P w base sp held k e cs = some y → ∃ t, R t cs) : ∃ v xs, cs = [v] ∧ ListAt (Old w) w n R v xs := by
  rcases DataW.trod_slice ht h with ⟨rfl, _⟩ | ⟨a, len, cap, elems, rest, m, rfl, rfl, rfl, hb, hl, hm, hlen, hel, _, _⟩
  · exact ⟨_, [], rfl, ListAt.nil _ _ _ _ _ _⟩
  · rw [hC] at hel
    have key : ∀ i : Fin len, ∃ (t : α) (c' : List Value), w.cells? base (a.add (i.val * n)) n = some c' ∧ R t c' := by
      intro i
      have h1 := hel i.val i.isLt
      rw [List.getElem?_eq_getElem (by rw [hlen]; exact i.isLt)] at h1
      obtain ⟨c', h2, h3⟩ := Option.bind_eq_some_iff.1 h1
      obtain ⟨t, h4⟩ := he m c' _ rfl h3
      exact ⟨t, c', h2, h4⟩
    refine ⟨_, List.ofFn (fun i => Classical.choose (key i)), rfl, some a, cap, by rw [List.length_ofFn], by rw [List.length_ofFn]; exact Nat.le_trans hl hm, fun i t hi => ?_⟩
    have hlt : i < len := by have := (List.getElem?_eq_some_iff.1 hi).1; simpa using this
    rw [List.getElem?_eq_getElem (by simpa using hlt), List.getElem_ofFn] at hi
    have ht' := Option.some.inj hi
    obtain ⟨c', h2, h4⟩ := Classical.choose_spec (key ⟨i, hlt⟩)
    rw [ht'] at h4
    obtain ⟨_, hcl, hcell⟩ := World.cells?_some h2
    obtain ⟨b, o, s⟩ := a
    have h0 := hcell 0 hn
    rw [List.getElem?_eq_getElem (by omega)] at h0
    have hs : s = none := by
      obtain ⟨c0, k2, _⟩ := Classical.choose_spec (key ⟨0, by omega⟩)
      obtain ⟨_, kl, kc⟩ := World.cells?_some k2
      have k0 := kc 0 hn
      rw [List.getElem?_eq_getElem (by omega)] at k0
      have := spot_none k0
      simpa [Addr.add] using this
    subst hs
    simp only [addr_addN] at hcell h0
    refine ⟨b, o, rfl, World.block_lt_of_cell? w _ h0, c', hcl, fun j hj => ?_, h4⟩
    have := hcell j hj
    exact this
end
section
variable {H : Type} {enc : TypeId × Value → H} {w : World} {base : Nat} {sp : Nat → Bool} {held : Bool}
set_option maxRecDepth 100000 in
theorem cellsStr : Try.prog.cellsOf 9 = 1 := by kernel_rfl
theorem strOne {fuel : Nat} {c : Value} {x : DataW H × List MemPlace} (h : DataW.trod enc Try.prog w base sp held fuel 9 [c] = some x) : ∃ s : ByteArray, c = .string s ∧ s.size ≤ maxLen := by
  obtain ⟨s, e, rfl, hs⟩ := DataW.trod_string Try.underlying9 h
  simp at e
  subst e
  exact ⟨s, rfl, hs⟩
theorem intOne {fuel : Nat} {c : Value} {x : DataW H × List MemPlace} (h : DataW.trod enc Try.prog w base sp held fuel 3 [c] = some x) : ∃ n : Int, c = .int .i64 n ∧ (-9223372036854775808 ≤ n ∧ n ≤ 9223372036854775807) := by
  obtain ⟨k, e, rfl, wk⟩ := DataW.trod_int Try.underlying3 h
  simp at e
  subst e
  exact ⟨k, rfl, by simpa [Lit.wf, IntKind.min, IntKind.max, IntKind.signed, IntKind.bits] using wk⟩
set_option maxRecDepth 100000 in
theorem cellsTm : Try.prog.cellsOf 24 = 2 := by kernel_rfl
set_option maxRecDepth 100000 in
theorem cellsTms : Try.prog.cellsOf 22 = 1 := by kernel_rfl
set_option maxRecDepth 100000 in
theorem tm_open : ∀ (fuel : Nat) (cs : List Value) (x : DataW H × List MemPlace), DataW.trod enc Try.prog w base sp held fuel 24 cs = some x → ∃ t, TmAt (Old w) fuel w t cs := by
  intro fuel
  induction fuel using Nat.strongRecOn with
  | _ fuel ih =>
    intro cs x h
    obtain ⟨ys, n, rfl, _, hl, hyl, hf⟩ := DataW.trod_struct Try.underlying24 h
    rw [cellsTm] at hl
    match cs, hl with
    | [c0, c1], _ =>
      have h0 := hf 0 _ rfl
      have h1 := hf 1 _ rfl
      rw [List.getElem?_eq_getElem (by rw [hyl]; decide)] at h0 h1
      obtain ⟨z0, h0'⟩ : ∃ z, DataW.trod enc Try.prog w base sp held n 9 [c0] = some z := ⟨ys[0]'(by rw [hyl]; decide), by rw [← h0]; simp [cellsStr]⟩
      obtain ⟨z1, h1'⟩ : ∃ z, DataW.trod enc Try.prog w base sp held n 22 [c1] = some z := ⟨ys[1]'(by rw [hyl]; decide), by rw [← h1]; simp [cellsTms]⟩
      obtain ⟨s, hs, hsz⟩ := strOne h0'
      obtain ⟨v, us, hv, hL⟩ := listAt_open (R := TmAt (Old w) n w) Try.underlying22 cellsTm (by decide) h1' (fun k cs y hk hy => by
        obtain ⟨t, ht⟩ := ih k (by omega) cs y hy
        exact ⟨t, TmAt.mono (SameOn.refl _ _) (fun _ h => h) k n t cs (by omega) ht⟩)
      subst hs
      cases hv
      exact ⟨.mk s us, _, rfl, hsz, hL⟩
set_option maxRecDepth 100000 in
theorem cellsInt : Try.prog.cellsOf 3 = 1 := by kernel_rfl
set_option maxRecDepth 100000 in
theorem cellsFm : Try.prog.cellsOf 27 = 5 := by kernel_rfl
set_option maxRecDepth 100000 in
theorem cellsFms : Try.prog.cellsOf 25 = 1 := by kernel_rfl
set_option maxRecDepth 100000 in
theorem fm_open : ∀ (fuel : Nat) (cs : List Value) (x : DataW H × List MemPlace), DataW.trod enc Try.prog w base sp held fuel 27 cs = some x → ∃ t, FmAt (Old w) fuel w t cs := by
  intro fuel
  induction fuel using Nat.strongRecOn with
  | _ fuel ih =>
    intro cs x h
    obtain ⟨ys, n, rfl, _, hl, hyl, hf⟩ := DataW.trod_struct Try.underlying27 h
    rw [cellsFm] at hl
    match cs, hl with
    | [c0, c1, c2, c3, c4], _ =>
      have h0 := hf 0 _ rfl
      have h1 := hf 1 _ rfl
      have h2 := hf 2 _ rfl
      have h3 := hf 3 _ rfl
      rw [List.getElem?_eq_getElem (by rw [hyl]; decide)] at h0 h1 h2 h3
      obtain ⟨z0, h0'⟩ : ∃ z, DataW.trod enc Try.prog w base sp held n 3 [c0] = some z := ⟨ys[0]'(by rw [hyl]; decide), by rw [← h0]; simp [cellsInt]⟩
      obtain ⟨z1, h1'⟩ : ∃ z, DataW.trod enc Try.prog w base sp held n 24 [c1, c2] = some z := ⟨ys[1]'(by rw [hyl]; decide), by rw [← h1]; simp [cellsTm]⟩
      obtain ⟨z2, h2'⟩ : ∃ z, DataW.trod enc Try.prog w base sp held n 9 [c3] = some z := ⟨ys[2]'(by rw [hyl]; decide), by rw [← h2]; simp [cellsStr]⟩
      obtain ⟨z3, h3'⟩ : ∃ z, DataW.trod enc Try.prog w base sp held n 25 [c4] = some z := ⟨ys[3]'(by rw [hyl]; decide), by rw [← h3]; simp [cellsFms]⟩
      obtain ⟨op, hop, hwf⟩ := intOne h0'
      obtain ⟨a, ha⟩ := tm_open n _ _ h1'
      obtain ⟨s, hs, hsz⟩ := strOne h2'
      obtain ⟨v, us, hv, hL⟩ := listAt_open (R := FmAt (Old w) n w) Try.underlying25 cellsFm (by decide) h3' (fun k cs y hk hy => by
        obtain ⟨t, ht⟩ := ih k (by omega) cs y hy
        exact ⟨t, FmAt.mono (SameOn.refl _ _) (fun _ h => h) k n t cs (by omega) ht⟩)
      subst hop
      subst hs
      cases hv
      exact ⟨.mk op a s us, _, _, _, rfl, hwf, hsz, ha, hL⟩
set_option maxRecDepth 100000 in
theorem fm_arg {v : Value} {d : DataW H} {p : List MemPlace} {r : Reach} {b0 : Nat} (hv : Value.okWide Try.prog w r b0 27 v) (h : DataW.Trod enc Try.prog w base sp held 27 v d p) :
    ∃ m t v0 v1 v2 v3 v4, v = .agg #[v0, v1, v2, v3, v4] ∧ FmAt (Old w) m w t [v0, v1, v2, v3, v4] := by
  obtain ⟨cs, rfl, hsz⟩ := okWide_struct Try.underlying27 hv
  obtain ⟨fuel, hf⟩ := h
  obtain ⟨t, ht⟩ := fm_open fuel _ _ hf
  rw [cellsFm] at hsz
  obtain ⟨l⟩ := cs
  match l, hsz with
  | [c0, c1, c2, c3, c4], _ => exact ⟨fuel, t, c0, c1, c2, c3, c4, rfl, ht⟩
end
end Go.Proofs.Ytinfogmjijeliaa
