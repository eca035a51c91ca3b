/- 'FnExactClauseToEnglish': the law is true for all arguments.
Arguments that are lists and trees: what came in, as data. No conditions. -/
import Derived.ChangeSlices
import Derived.OpenShut
import Derived.JoinedCond
import Derived.Test.YtdklemmincejpaaCtePart8
namespace Go.Proofs.Ytdklemmincejpaa
open Go.RowKit Go.ChangeShapes Go.WideShapes
theorem addr_addN (b o : Nat) (i : Nat) : (⟨b, o, none⟩ : Addr).add i = ⟨b, o + i, none⟩ := by unfold Addr.add; split <;> simp_all
theorem spot_none {w : World} {a : Addr} {v : Value} (h : w.cell? a = some v) : a.spot = none := by
  unfold World.cell? at h
  split at h
  · split at h
    · cases h
    · rename_i hs; simpa using hs
  · cases h
abbrev Old (w : World) : Nat → Prop := fun b => b < w.heap.size
section
variable {H : Type} {enc : TypeId × Value → H} {P : Program} {w : World} {base : Nat} {sp : Nat → Bool} {held : Bool}
theorem listAt_open {α : Type} {R : α → List Value → Prop} {ts e : TypeId} {n fuel : Nat} {cs : List Value} {x : DataW H × List MemPlace} (ht : P.underlying ts = some (.slice e)) (hC : P.cellsOf e = n) (hn : 0 < n)
    (h : DataW.trod enc P w base sp held fuel ts cs = some x) (he : ∀ k cs y, k + 1 = fuel → DataW.trod enc P w base sp held k e cs = some y → ∃ t, R t cs) : ∃ v xs, cs = [v] ∧ ListAt (Old w) w n R v xs := by
  rcases DataW.trod_slice ht h with ⟨rfl, _⟩ | ⟨a, len, cap, elems, rest, m, rfl, rfl, rfl, hb, hl, hm, hlen, hel, _, _⟩
  · exact ⟨_, [], rfl, ListAt.nil _ _ _ _ _ _⟩
  · rw [hC] at hel
    have key : ∀ i : Fin len, ∃ (t : α) (c' : List Value), w.cells? base (a.add (i.val * n)) n = some c' ∧ R t c' := by
      intro i
      have h1 := hel i.val i.isLt
      rw [List.getElem?_eq_getElem (by rw [hlen]; exact i.isLt)] at h1
      obtain ⟨c', h2, h3⟩ := Option.bind_eq_some_iff.1 h1
      obtain ⟨t, h4⟩ := he m c' _ rfl h3
      exact ⟨t, c', h2, h4⟩
    refine ⟨_, List.ofFn (fun i => Classical.choose (key i)), rfl, some a, cap, by rw [List.length_ofFn], by rw [List.length_ofFn]; exact Nat.le_trans hl hm, fun i t hi => ?_⟩
    have hlt : i < len := by have := (List.getElem?_eq_some_iff.1 hi).1; simpa using this
    rw [List.getElem?_eq_getElem (by simpa using hlt), List.getElem_ofFn] at hi
    have ht' := Option.some.inj hi
    obtain ⟨c', h2, h4⟩ := Classical.choose_spec (key ⟨i, hlt⟩)
    rw [ht'] at h4
    obtain ⟨_, hcl, hcell⟩ := World.cells?_some h2
    obtain ⟨b, o, s⟩ := a
    have h0 := hcell 0 hn
    rw [List.getElem?_eq_getElem (by omega)] at h0
    have hs : s = none := by
      obtain ⟨c0, k2, _⟩ := Classical.choose_spec (key ⟨0, by omega⟩)
      obtain ⟨_, kl, kc⟩ := World.cells?_some k2
      have k0 := kc 0 hn
      rw [List.getElem?_eq_getElem (by omega)] at k0
      have := spot_none k0
      simpa [Addr.add] using this
    subst hs
    simp only [addr_addN] at hcell h0
    refine ⟨b, o, rfl, World.block_lt_of_cell? w _ h0, c', hcl, fun j hj => ?_, h4⟩
    have := hcell j hj
    exact this
end
section
variable {H : Type} {enc : TypeId × Value → H} {w : World} {base : Nat} {sp : Nat → Bool} {held : Bool}
set_option maxRecDepth 100000 in
theorem cellsStr : Try.prog.cellsOf 9 = 1 := by kernel_rfl
theorem strOne {fuel : Nat} {c : Value} {x : DataW H × List MemPlace} (h : DataW.trod enc Try.prog w base sp held fuel 9 [c] = some x) : ∃ s : ByteArray, c = .string s ∧ s.size ≤ maxLen := by
  obtain ⟨s, e, rfl, hs⟩ := DataW.trod_string Try.underlying9 h
  simp at e
  subst e
  exact ⟨s, rfl, hs⟩
theorem intOne {fuel : Nat} {c : Value} {x : DataW H × List MemPlace} (h : DataW.trod enc Try.prog w base sp held fuel 3 [c] = some x) : ∃ n : Int, c = .int .i64 n ∧ (-9223372036854775808 ≤ n ∧ n ≤ 9223372036854775807) := by
  obtain ⟨k, e, rfl, wk⟩ := DataW.trod_int Try.underlying3 h
  simp at e
  subst e
  exact ⟨k, rfl, by simpa [Lit.wf, IntKind.min, IntKind.max, IntKind.signed, IntKind.bits] using wk⟩
set_option maxRecDepth 100000 in
theorem cellsTm : Try.prog.cellsOf 42 = 2 := by kernel_rfl
set_option maxRecDepth 100000 in
theorem cellsTms : Try.prog.cellsOf 40 = 1 := by kernel_rfl
set_option maxRecDepth 100000 in
theorem tm_open : ∀ (fuel : Nat) (cs : List Value) (x : DataW H × List MemPlace), DataW.trod enc Try.prog w base sp held fuel 42 cs = some x → ∃ t, TmAt (Old w) fuel w t cs := by
  intro fuel
  induction fuel using Nat.strongRecOn with
  | _ fuel ih =>
    intro cs x h
    obtain ⟨ys, n, rfl, _, hl, hyl, hf⟩ := DataW.trod_struct Try.underlying42 h
    rw [cellsTm] at hl
    match cs, hl with
    | [c0, c1], _ =>
      have h0 := hf 0 _ rfl
      have h1 := hf 1 _ rfl
      rw [List.getElem?_eq_getElem (by rw [hyl]; decide)] at h0 h1
      obtain ⟨z0, h0'⟩ : ∃ z, DataW.trod enc Try.prog w base sp held n 9 [c0] = some z := ⟨ys[0]'(by rw [hyl]; decide), by rw [← h0]; simp [cellsStr]⟩
      obtain ⟨z1, h1'⟩ : ∃ z, DataW.trod enc Try.prog w base sp held n 40 [c1] = some z := ⟨ys[1]'(by rw [hyl]; decide), by rw [← h1]; simp [cellsTms]⟩
      obtain ⟨s, hs, hsz⟩ := strOne h0'
      obtain ⟨v, us, hv, hL⟩ := listAt_open (R := TmAt (Old w) n w) Try.underlying40 cellsTm (by decide) h1' (fun k cs y hk hy => by
        obtain ⟨t, ht⟩ := ih k (by omega) cs y hy
        exact ⟨t, TmAt.mono (SameOn.refl _ _) (fun _ h => h) k n t cs (by omega) ht⟩)
      subst hs
      cases hv
      exact ⟨.mk s us, _, rfl, hsz, hL⟩
theorem boolOne {fuel : Nat} {c : Value} {x : DataW H × List MemPlace} (h : DataW.trod enc Try.prog w base sp held fuel 4 [c] = some x) : ∃ b : Bool, c = .bool b := by
  obtain ⟨b, e, rfl⟩ := DataW.trod_bool Try.underlying4 h
  simp at e
  subst e
  exact ⟨b, rfl⟩
set_option maxRecDepth 100000 in
theorem cellsBool : Try.prog.cellsOf 4 = 1 := by kernel_rfl
set_option maxRecDepth 100000 in
theorem cellsLit : Try.prog.cellsOf 44 = 3 := by kernel_rfl
set_option maxRecDepth 100000 in
theorem cellsLits : Try.prog.cellsOf 22 = 1 := by kernel_rfl
set_option maxRecDepth 100000 in
theorem cellsCls : Try.prog.cellsOf 24 = 1 := by kernel_rfl
set_option maxRecDepth 100000 in
theorem lit_open (fuel : Nat) (cs : List Value) (x : DataW H × List MemPlace) (h : DataW.trod enc Try.prog w base sp held fuel 44 cs = some x) : ∃ l, LitAt (Old w) fuel w l cs := by
  obtain ⟨ys, n, rfl, _, hl, hyl, hf⟩ := DataW.trod_struct Try.underlying44 h
  rw [cellsLit] at hl
  match cs, hl with
  | [c0, c1, c2], _ =>
    have h0 := hf 0 _ rfl
    have h1 := hf 1 _ rfl
    rw [List.getElem?_eq_getElem (by rw [hyl]; decide)] at h0 h1
    obtain ⟨z0, h0'⟩ : ∃ z, DataW.trod enc Try.prog w base sp held n 4 [c0] = some z := ⟨ys[0]'(by rw [hyl]; decide), by rw [← h0]; simp [cellsBool]⟩
    obtain ⟨z1, h1'⟩ : ∃ z, DataW.trod enc Try.prog w base sp held n 42 [c1, c2] = some z := ⟨ys[1]'(by rw [hyl]; decide), by rw [← h1]; simp [cellsTm]⟩
    obtain ⟨b, rfl⟩ := boolOne h0'
    obtain ⟨a, ha⟩ := tm_open n _ _ h1'
    exact ⟨⟨b, a⟩, _, _, rfl, TmAt.mono (SameOn.refl _ _) (fun _ h => h) _ _ _ _ (by omega) ha⟩
set_option maxRecDepth 100000 in
theorem cls_open (fuel : Nat) (cs : List Value) (x : DataW H × List MemPlace) (h : DataW.trod enc Try.prog w base sp held fuel 24 cs = some x) : ∃ c v, cs = [v] ∧ ClsAt (Old w) fuel w c v := by
  obtain ⟨ys, n, rfl, _, hl, hyl, hf⟩ := DataW.trod_struct Try.underlying24 h
  rw [cellsCls] at hl
  match cs, hl with
  | [c0], _ =>
    have h0 := hf 0 _ rfl
    rw [List.getElem?_eq_getElem (by rw [hyl]; decide)] at h0
    obtain ⟨z0, h0'⟩ : ∃ z, DataW.trod enc Try.prog w base sp held n 22 [c0] = some z := ⟨ys[0]'(by rw [hyl]; decide), by rw [← h0]; simp [cellsLits]⟩
    obtain ⟨v, us, hv, hL⟩ := listAt_open (R := LitAt (Old w) (n + 1) w) Try.underlying22 cellsLit (by decide) h0' (fun k cs y hk hy => by
      obtain ⟨t, ht⟩ := lit_open k cs y hy
      exact ⟨t, LitAt.mono (SameOn.refl _ _) (fun _ h => h) (by omega) ht⟩)
    cases hv
    exact ⟨us, _, rfl, hL⟩
set_option maxRecDepth 100000 in
theorem cls_arg {v : Value} {d : DataW H} {p : List MemPlace} {r : Reach} {b0 : Nat} (hv : Value.okWide Try.prog w r b0 24 v) (h : DataW.Trod enc Try.prog w base sp held 24 v d p) :
    ∃ m c v0, v = .agg #[v0] ∧ ClsAt (Old w) m w c v0 := by
  obtain ⟨cs, rfl, hsz⟩ := okWide_struct Try.underlying24 hv
  obtain ⟨fuel, hf⟩ := h
  obtain ⟨c, v, hcs, ht⟩ := cls_open fuel _ _ hf
  obtain ⟨l⟩ := cs
  obtain rfl : l = [v] := hcs
  exact ⟨fuel, c, v, rfl, ht⟩
end
end Go.Proofs.Ytdklemmincejpaa
namespace Go.Proofs.Ytdklemmincejpaa.fnExactClauseToEnglishLaw
open Go.ChangeShapes Go.WideShapes Go.ChangeAt Go.RowKit Go.Joins Go.ChangeMaps
set_option maxRecDepth 100000 in
theorem contract (H : Type) (enc : TypeId × Value → H) (W : World) (base : Nat) (args : Array Value) (ds gs : List (DataW H)) (before : List MemPlace)
    (hval : ∀ (j : Nat) t v, Try.f3.params[j]? = some t → args[j]? = some v → Value.okWide Try.prog W .any base t v)
    (hW : DataW.Whole enc Try.prog Try.f3.params.toList Rows.fnExactClauseToEnglishSpec.vars false W args.toList ds gs before) :
    Calls Try.prog 3 args W fun e W' => ∃ v, e = .returned v ∧ Rows.fnExactClauseToEnglishSpec.post enc Try.prog Try.f3 false true false false W args v W' := by
  have hW' := hW
  obtain ⟨p, q, hA0, hV, rfl, hfz, hnd⟩ := hW
  have hA : DataW.TrodAll enc Try.prog W 0 (fun _ => true) true Try.f3.params.toList args.toList ds p := hA0
  rw [Try.params3] at hA hval
  obtain ⟨v0, vs0, d0, ds0, p0, q0, hargs, rfl, rfl, h0, r0⟩ := trodAll_cons hA
  obtain ⟨rfl, rfl, rfl⟩ := trodAll_nil r0
  obtain rfl : args = #[v0] := Array.ext' hargs
  obtain ⟨m0, c0, x0, rfl, ht0⟩ := cls_arg (hval 0 24 v0 rfl rfl) h0
  clear hA0
  refine (exactCTE m0 c0 x0 W ht0).mono fun e W' ⟨he, hb⟩ => ?_
  subst he
  exact ⟨_, rfl, close_true hW' rfl (by kernel_rfl) (by kernel_rfl) rfl hb⟩
set_option maxRecDepth 100000 in
theorem lifted (os : Os) (started : os.Started) (H : Type) (enc : TypeId × Value → H) :
    ReturnsInHanded {} Try.checked os 3 .any (Rows.fnExactClauseToEnglishSpec.pre6 enc Try.prog Try.f3 Rows.fnExactClauseToEnglishRow.domain false) (Rows.fnExactClauseToEnglishSpec.post enc Try.prog Try.f3 false true false false) := by
  refine returnsInHanded_of_change (C := Try.checked) own started (by kernel_rfl) Try.func3
    (ChangeSpec.witness6 (enc := enc) (C := Try.checked) false ⟨#[], #[.agg #[.slice none 0 0]], []⟩ 8 (by kernel_rfl) (by kernel_rfl) (by kernel_rfl) (by kernel_rfl)) ?_
  intro W base args ds gs before hval hW _ _
  exact contract H enc W base args ds gs before hval hW
theorem said : Rows.FnExactClauseToEnglishSaid :=
  OpenClaim.holds_of_wide 3 Try.f3 rfl rfl rfl rfl rfl rfl rfl ⟨rfl, rfl, rfl, rfl, rfl⟩ rfl rfl rfl rfl rfl (by kernel_rfl) Try.func3 (by kernel_rfl)
    (of_decide_eq_true (by kernel_rfl)) (by unfold Func.isWrapper; first | (rw [if_pos (by decide +kernel)]; kernel_rfl) | (rw [if_neg (by decide +kernel)]; exact ⟨rfl, rfl⟩))
    (fun os started H enc _ => lifted os started H enc)
end Go.Proofs.Ytdklemmincejpaa.fnExactClauseToEnglishLaw
