/- 'FnExactStepToEnglish': the law is true for all arguments, over the tables as the program's text lays them. -/
import Derived.OpenShut
import Derived.JoinedCond
import Derived.Deep.DeepHandedRow
import Derived.Lib.SmallJoins
import Derived.Stop.LaidErr
import Derived.Test.YtcegllnljaapiaaGreatDoorCards
import Derived.Test.YtcegllnljaapiaaGreatDoorTie
import Derived.ChangeSlices
import Derived.Test.YtcegllnljaapiaaGreatDoorAste1
import Derived.Test.YtcegllnljaapiaaGreatDoorAste6
import Derived.Test.YtcegllnljaapiaaGreatDoorAste8
import Derived.Test.YtcegllnljaapiaaGreatDoorAste10
namespace Go.Proofs.YtcegllnljaapiaaGreatDoor
open Go.ChangeShapes Go.WideShapes Go.ChangeAt Go.RowKit Go.Joins
theorem own : ownKnob Tryz.prog.godebug = none := by kernel_rfl
theorem laidOut : laidOutB Tryz.prog = true := by kernel_rfl
theorem trodAll_stays {H : Type} {enc : TypeId × Value → H} {P : Program} (hl : laidOutB P = true) {W W' : World} {sp : Nat → Bool} : ∀ (ts : List TypeId) (vs : List Value) (ds : List (DataW H)) (ps : List MemPlace),
    (∀ t ∈ ts, P.readableRec t = true ∧ t < P.types.size) → DataW.TrodAll enc P W 0 (fun _ => true) true ts vs ds ps → (∀ x ∈ ps, W.sameAt W' x) → (∀ x ∈ ps, sp x.block = true) → DataW.TrodAll enc P W' 0 sp true ts vs ds ps
  | [], vs, ds, ps, _, h, _, _ => by
    cases vs <;> cases ds <;> simp_all [DataW.TrodAll]
  | t :: ts, [], ds, ps, _, h, _, _ => by simp [DataW.TrodAll] at h
  | t :: ts, v :: vs, [], ps, _, h, _, _ => by simp [DataW.TrodAll] at h
  | t :: ts, v :: vs, d :: ds, ps, ht, h, hs, hp => by
    obtain ⟨p, q, h1, h2, rfl⟩ := h
    exact ⟨p, q, WideElems.Trod_stays hl (ht t (by simp)).1 (ht t (by simp)).2 h1 (fun x hx => hs x (by simp [hx])) (fun x hx => hp x (by simp [hx])),
      trodAll_stays hl ts vs ds q (fun t h => ht t (by simp [h])) h2 (fun x hx => hs x (by simp [hx])) (fun x hx => hp x (by simp [hx])), rfl⟩
/-- The row's last step, the same for every law: it answers true, nothing that was there has turned. -/
theorem close_true {H : Type} {enc : TypeId × Value → H} {f : Func} {s : ChangeSpec} {W W' : World} {args : Array Value} {ds gs : List (DataW H)} {before : List MemPlace}
    (hW : DataW.Whole enc Tryz.prog f.params.toList s.vars false W args.toList ds gs before) (hv : s.vars = []) (hr : f.resultTypes = #[4])
    (hp : f.params.toList.all (fun t => Tryz.prog.readableRec t && decide (t < Tryz.prog.types.size)) = true) (hfn : s.fn H ds = { results := [.lit (.bool true)], args := ds }) (hb : Below W.heap.size W W') :
    s.post enc Tryz.prog f false true false false W args (.bool true) W' := by
  have hW2 := hW
  have hlt : ∀ p ∈ before, p.block < W.heap.size := fun p hp => hW.lt p hp
  obtain ⟨p, q, hA, hV, rfl, _, _⟩ := hW2
  rw [hv] at hV
  obtain ⟨rfl, rfl⟩ := trodVars_none hV
  rw [List.append_nil] at hlt
  refine ⟨ds, [], p ++ [], [], p, [], hW, ?_, ?_, ?_, hb.frame _, fun h => by cases h⟩
  · rw [List.append_nil, hfn, hr]; exact trodAll_mk1 (shut_bool Tryz.underlying4 true)
  · rw [List.append_nil, hfn]
    refine trodAll_stays laidOut _ _ _ _ (fun t ht => ?_) hA (fun x hx => hb.same (hlt x hx)) (fun x hx => by simpa using hlt x hx)
    have := List.all_eq_true.1 hp t ht
    simpa using this
  · rw [List.append_nil, hfn, hv]; rfl
def tab32 : List Int := [0, 1, 28, 2, 29, 14, 24, 3, 30, 22, 20, 15, 25, 17, 4, 8, 31, 27, 13, 23, 21, 19, 16, 7, 26, 12, 18, 6, 11, 5, 10, 9]
def tab64 : List Int := [0, 1, 56, 2, 57, 49, 28, 3, 61, 58, 42, 50, 38, 29, 17, 4, 62, 47, 59, 36, 45, 43, 51, 22, 53, 39, 33, 30, 24, 18, 12, 5, 63, 55, 48, 27, 60, 41, 37, 16, 46, 35, 44, 21, 52, 32, 23, 11, 54, 26, 40, 15, 34, 20, 31, 10, 25, 14, 19, 9, 13, 8, 7, 6]
theorem gPowType : (Tryz.prog.globals[1]?).map (·.type) = some 299 := by kernel_rfl
theorem cellsPow : Tryz.prog.cellsOf 299 = 20 := by kernel_rfl
theorem cellsU64 : Tryz.prog.cellsOf 101 = 1 := by kernel_rfl
/-- What the rows' list gives. -/
theorem env_of {W : World} (h : laidMet Tryz.prog [("math/bits.deBruijn32tab", Rows.laid_math_bits_deBruijn32tab), ("math/bits.deBruijn64tab", Rows.laid_math_bits_deBruijn64tab), ("internal/strconv.uint64pow10", Rows.laid_internal_strconv_uint64pow10)] W) (hS : W.ShapedOpen Tryz.prog) : Env W := by
  have h3 : Lib.TabIs Tryz.prog W "internal/strconv.uint64pow10" .u64 Lib.pow10Tab :=
    Lib.tabIs_of_head (rest := []) gPow10 gPowType Tryz.underlying299 Tryz.underlying101 cellsU64 cellsPow (laidMet.tail (laidMet.tail h))
  obtain ⟨m, hm⟩ : ∃ m, W.cell? ⟨0, 0, none⟩ = some (.int .i64 m) := Go.Proofs.cell_of_shapedOpen_int (zero := #[.int .i64 0]) (t := 3) hS (of_decide_eq_true (by kernel_rfl)) (by kernel_rfl) rfl (by kernel_rfl) (by kernel_rfl) Tryz.underlying3
  have hz := World.block_lt_of_cell? W _ hm
  have hm' : W.cell? ⟨0, 0, none⟩ = some (.int .i64 m) := hm
  refine ⟨⟨m, hm'⟩, h3, hz, ?_⟩
  rcases Nat.lt_or_ge 1 W.heap.size with hlt | hge
  · exact hlt
  · have h3' := h3
    unfold Lib.TabIs World.var? at h3'
    rw [gPow10] at h3'
    simp only [Option.bind_some] at h3'
    rw [Array.getElem?_eq_none hge] at h3'
    cases h3'
def layTab (k : IntKind) (zs : List Int) : Obj → Obj
  | .cells _ t frozen => .cells (zs.map fun z => Value.int k z).toArray t frozen
  | o => o
/-- A world for the witness: the settled one, the tables holding what their initialisers lay. -/
noncomputable def laidWorld (os : Os) : World :=
  { World.holding Tryz.prog os ⟨#[], #[], []⟩ with heap := (((World.holding Tryz.prog os ⟨#[], #[], []⟩).heap.modify 1 (layTab .u64 Lib.pow10Tab)).modify 4 (layTab .u8 tab32)).modify 5 (layTab .u8 tab64) }
end Go.Proofs.YtcegllnljaapiaaGreatDoor
namespace Go.Proofs.YtcegllnljaapiaaGreatDoor
open Go.RowKit Go.ChangeShapes Go.WideShapes
theorem addr_addN (b o : Nat) (i : Nat) : (⟨b, o, none⟩ : Addr).add i = ⟨b, o + i, none⟩ := by unfold Addr.add; split <;> simp_all
theorem spot_none {w : World} {a : Addr} {v : Value} (h : w.cell? a = some v) : a.spot = none := by
  unfold World.cell? at h
  split at h
  · split at h
    · cases h
    · rename_i hs; simpa using hs
  · cases h
abbrev Old (w : World) : Nat → Prop := fun b => b < w.heap.size
section
variable {H : Type} {enc : TypeId × Value → H} {P : Program} {w : World} {base : Nat} {sp : Nat → Bool} {held : Bool}
theorem listAt_open {α : Type} {R : α → List Value → Prop} {ts e : TypeId} {n fuel : Nat} {cs : List Value} {x : DataW H × List MemPlace} (ht : P.underlying ts = some (.slice e)) (hC : P.cellsOf e = n) (hn : 0 < n)
    (h : DataW.trod enc P w base sp held fuel ts cs = some x) (he : ∀ k cs y, k + 1 = fuel → DataW.trod enc P w base sp held k e cs = some y → ∃ t, R t cs) : ∃ v xs, cs = [v] ∧ ListAt (Old w) w n R v xs := by
  rcases DataW.trod_slice ht h with ⟨rfl, _⟩ | ⟨a, len, cap, elems, rest, m, rfl, rfl, rfl, hb, hl, hm, hlen, hel, _, _⟩
  · exact ⟨_, [], rfl, ListAt.nil _ _ _ _ _ _⟩
  · rw [hC] at hel
    have key : ∀ i : Fin len, ∃ (t : α) (c' : List Value), w.cells? base (a.add (i.val * n)) n = some c' ∧ R t c' := by
      intro i
      have h1 := hel i.val i.isLt
      rw [List.getElem?_eq_getElem (by rw [hlen]; exact i.isLt)] at h1
      obtain ⟨c', h2, h3⟩ := Option.bind_eq_some_iff.1 h1
      obtain ⟨t, h4⟩ := he m c' _ rfl h3
      exact ⟨t, c', h2, h4⟩
    refine ⟨_, List.ofFn (fun i => Classical.choose (key i)), rfl, some a, cap, by rw [List.length_ofFn], by rw [List.length_ofFn]; exact Nat.le_trans hl hm, fun i t hi => ?_⟩
    have hlt : i < len := by have := (List.getElem?_eq_some_iff.1 hi).1; simpa using this
    rw [List.getElem?_eq_getElem (by simpa using hlt), List.getElem_ofFn] at hi
    have ht' := Option.some.inj hi
    obtain ⟨c', h2, h4⟩ := Classical.choose_spec (key ⟨i, hlt⟩)
    rw [ht'] at h4
    obtain ⟨_, hcl, hcell⟩ := World.cells?_some h2
    obtain ⟨b, o, s⟩ := a
    have h0 := hcell 0 hn
    rw [List.getElem?_eq_getElem (by omega)] at h0
    have hs : s = none := by
      obtain ⟨c0, k2, _⟩ := Classical.choose_spec (key ⟨0, by omega⟩)
      obtain ⟨_, kl, kc⟩ := World.cells?_some k2
      have k0 := kc 0 hn
      rw [List.getElem?_eq_getElem (by omega)] at k0
      have := spot_none k0
      simpa [Addr.add] using this
    subst hs
    simp only [addr_addN] at hcell h0
    refine ⟨b, o, rfl, World.block_lt_of_cell? w _ h0, c', hcl, fun j hj => ?_, h4⟩
    have := hcell j hj
    exact this
end
section
variable {H : Type} {enc : TypeId × Value → H} {w : World} {base : Nat} {sp : Nat → Bool} {held : Bool}
set_option maxRecDepth 100000 in
theorem cellsStr : Tryz.prog.cellsOf 9 = 1 := by kernel_rfl
theorem strOne {fuel : Nat} {c : Value} {x : DataW H × List MemPlace} (h : DataW.trod enc Tryz.prog w base sp held fuel 9 [c] = some x) : ∃ s : ByteArray, c = .string s ∧ s.size ≤ maxLen := by
  obtain ⟨s, e, rfl, hs⟩ := DataW.trod_string Tryz.underlying9 h
  simp at e
  subst e
  exact ⟨s, rfl, hs⟩
theorem intOne {fuel : Nat} {c : Value} {x : DataW H × List MemPlace} (h : DataW.trod enc Tryz.prog w base sp held fuel 3 [c] = some x) : ∃ n : Int, c = .int .i64 n ∧ (-9223372036854775808 ≤ n ∧ n ≤ 9223372036854775807) := by
  obtain ⟨k, e, rfl, wk⟩ := DataW.trod_int Tryz.underlying3 h
  simp at e
  subst e
  exact ⟨k, rfl, by simpa [Lit.wf, IntKind.min, IntKind.max, IntKind.signed, IntKind.bits] using wk⟩
set_option maxRecDepth 100000 in
theorem cellsTm : Tryz.prog.cellsOf 210 = 2 := by kernel_rfl
set_option maxRecDepth 100000 in
theorem cellsTms : Tryz.prog.cellsOf 208 = 1 := by kernel_rfl
set_option maxRecDepth 100000 in
theorem tm_open : ∀ (fuel : Nat) (cs : List Value) (x : DataW H × List MemPlace), DataW.trod enc Tryz.prog w base sp held fuel 210 cs = some x → ∃ t, TmAt (Old w) fuel w t cs := by
  intro fuel
  induction fuel using Nat.strongRecOn with
  | _ fuel ih =>
    intro cs x h
    obtain ⟨ys, n, rfl, _, hl, hyl, hf⟩ := DataW.trod_struct Tryz.underlying210 h
    rw [cellsTm] at hl
    match cs, hl with
    | [c0, c1], _ =>
      have h0 := hf 0 _ rfl
      have h1 := hf 1 _ rfl
      rw [List.getElem?_eq_getElem (by rw [hyl]; decide)] at h0 h1
      obtain ⟨z0, h0'⟩ : ∃ z, DataW.trod enc Tryz.prog w base sp held n 9 [c0] = some z := ⟨ys[0]'(by rw [hyl]; decide), by rw [← h0]; simp [cellsStr]⟩
      obtain ⟨z1, h1'⟩ : ∃ z, DataW.trod enc Tryz.prog w base sp held n 208 [c1] = some z := ⟨ys[1]'(by rw [hyl]; decide), by rw [← h1]; simp [cellsTms]⟩
      obtain ⟨s, hs, hsz⟩ := strOne h0'
      obtain ⟨v, us, hv, hL⟩ := listAt_open (R := TmAt (Old w) n w) Tryz.underlying208 cellsTm (by decide) h1' (fun k cs y hk hy => by
        obtain ⟨t, ht⟩ := ih k (by omega) cs y hy
        exact ⟨t, TmAt.mono (SameOn.refl _ _) (fun _ h => h) k n t cs (by omega) ht⟩)
      subst hs
      cases hv
      exact ⟨.mk s us, _, rfl, hsz, hL⟩
theorem boolOne {fuel : Nat} {c : Value} {x : DataW H × List MemPlace} (h : DataW.trod enc Tryz.prog w base sp held fuel 4 [c] = some x) : ∃ b : Bool, c = .bool b := by
  obtain ⟨b, e, rfl⟩ := DataW.trod_bool Tryz.underlying4 h
  simp at e
  subst e
  exact ⟨b, rfl⟩
set_option maxRecDepth 100000 in
theorem cellsBool : Tryz.prog.cellsOf 4 = 1 := by kernel_rfl
set_option maxRecDepth 100000 in
theorem cellsLit : Tryz.prog.cellsOf 212 = 3 := by kernel_rfl
set_option maxRecDepth 100000 in
theorem cellsLits : Tryz.prog.cellsOf 39 = 1 := by kernel_rfl
set_option maxRecDepth 100000 in
theorem cellsCls : Tryz.prog.cellsOf 41 = 1 := by kernel_rfl
set_option maxRecDepth 100000 in
theorem lit_open (fuel : Nat) (cs : List Value) (x : DataW H × List MemPlace) (h : DataW.trod enc Tryz.prog w base sp held fuel 212 cs = some x) : ∃ l, LitAt (Old w) fuel w l cs := by
  obtain ⟨ys, n, rfl, _, hl, hyl, hf⟩ := DataW.trod_struct Tryz.underlying212 h
  rw [cellsLit] at hl
  match cs, hl with
  | [c0, c1, c2], _ =>
    have h0 := hf 0 _ rfl
    have h1 := hf 1 _ rfl
    rw [List.getElem?_eq_getElem (by rw [hyl]; decide)] at h0 h1
    obtain ⟨z0, h0'⟩ : ∃ z, DataW.trod enc Tryz.prog w base sp held n 4 [c0] = some z := ⟨ys[0]'(by rw [hyl]; decide), by rw [← h0]; simp [cellsBool]⟩
    obtain ⟨z1, h1'⟩ : ∃ z, DataW.trod enc Tryz.prog w base sp held n 210 [c1, c2] = some z := ⟨ys[1]'(by rw [hyl]; decide), by rw [← h1]; simp [cellsTm]⟩
    obtain ⟨b, rfl⟩ := boolOne h0'
    obtain ⟨a, ha⟩ := tm_open n _ _ h1'
    exact ⟨⟨b, a⟩, _, _, rfl, TmAt.mono (SameOn.refl _ _) (fun _ h => h) _ _ _ _ (by omega) ha⟩
set_option maxRecDepth 100000 in
theorem cls_open (fuel : Nat) (cs : List Value) (x : DataW H × List MemPlace) (h : DataW.trod enc Tryz.prog w base sp held fuel 41 cs = some x) : ∃ c v, cs = [v] ∧ ClsAt (Old w) fuel w c v := by
  obtain ⟨ys, n, rfl, _, hl, hyl, hf⟩ := DataW.trod_struct Tryz.underlying41 h
  rw [cellsCls] at hl
  match cs, hl with
  | [c0], _ =>
    have h0 := hf 0 _ rfl
    rw [List.getElem?_eq_getElem (by rw [hyl]; decide)] at h0
    obtain ⟨z0, h0'⟩ : ∃ z, DataW.trod enc Tryz.prog w base sp held n 39 [c0] = some z := ⟨ys[0]'(by rw [hyl]; decide), by rw [← h0]; simp [cellsLits]⟩
    obtain ⟨v, us, hv, hL⟩ := listAt_open (R := LitAt (Old w) (n + 1) w) Tryz.underlying39 cellsLit (by decide) h0' (fun k cs y hk hy => by
      obtain ⟨t, ht⟩ := lit_open k cs y hy
      exact ⟨t, LitAt.mono (SameOn.refl _ _) (fun _ h => h) (by omega) ht⟩)
    cases hv
    exact ⟨us, _, rfl, hL⟩
end
end Go.Proofs.YtcegllnljaapiaaGreatDoor
namespace Go.Proofs.YtcegllnljaapiaaGreatDoor
open Go.RowKit Go.ChangeShapes Go.WideShapes
section
variable {H : Type} {enc : TypeId × Value → H} {w : World} {base : Nat} {sp : Nat → Bool} {held : Bool}
set_option maxRecDepth 100000 in
theorem cellsIntU : Tryz.prog.cellsOf 3 = 1 := by kernel_rfl
end
end Go.Proofs.YtcegllnljaapiaaGreatDoor
namespace Go.Proofs.YtcegllnljaapiaaGreatDoor
open Go.RowKit Go.ChangeShapes Go.WideShapes
section
variable {H : Type} {enc : TypeId × Value → H} {w : World} {base : Nat} {sp : Nat → Bool} {held : Bool}
set_option maxRecDepth 100000 in
theorem cellsIntsP : Tryz.prog.cellsOf 30 = 1 := by kernel_rfl
set_option maxRecDepth 100000 in
theorem cellsClauseP : Tryz.prog.cellsOf 41 = 1 := by kernel_rfl
set_option maxRecDepth 100000 in
theorem cellsStep : Tryz.prog.cellsOf 43 = 4 := by kernel_rfl
set_option maxRecDepth 100000 in
theorem ints_open {fuel : Nat} {c : Value} {x : DataW H × List MemPlace} (h : DataW.trod enc Tryz.prog w base sp held fuel 30 [c] = some x) : ∃ us, IntsAt (Old w) w c us := by
  obtain ⟨v, us, hv, hL⟩ := listAt_open (R := IntAt) Tryz.underlying30 cellsIntU (by decide) h (fun k cs y hk hy => by
    obtain ⟨n, e, rfl, wk⟩ := DataW.trod_int Tryz.underlying3 hy
    exact ⟨n, e, by simpa [i64B, Lit.wf, IntKind.min, IntKind.max, IntKind.signed, IntKind.bits] using wk⟩)
  cases hv
  exact ⟨us, hL⟩
set_option maxRecDepth 100000 in
theorem step_open (fuel : Nat) (cs : List Value) (x : DataW H × List MemPlace) (h : DataW.trod enc Tryz.prog w base sp held fuel 43 cs = some x) : ∃ m s, StpAt (Old w) m w s cs := by
  obtain ⟨ys, n, rfl, _, hl, hyl, hf⟩ := DataW.trod_struct Tryz.underlying43 h
  rw [cellsStep] at hl
  match cs, hl with
  | [c0, c1, c2, c3], _ =>
    have h0 := hf 0 _ rfl
    have h1 := hf 1 _ rfl
    have h2 := hf 2 _ rfl
    have h3 := hf 3 _ rfl
    rw [List.getElem?_eq_getElem (by rw [hyl]; decide)] at h0 h1 h2 h3
    obtain ⟨z0, h0'⟩ : ∃ z, DataW.trod enc Tryz.prog w base sp held n 3 [c0] = some z := ⟨ys[0]'(by rw [hyl]; decide), by rw [← h0]; simp [cellsIntU]⟩
    obtain ⟨z1, h1'⟩ : ∃ z, DataW.trod enc Tryz.prog w base sp held n 30 [c1] = some z := ⟨ys[1]'(by rw [hyl]; decide), by rw [← h1]; simp [cellsIntsP]⟩
    obtain ⟨z2, h2'⟩ : ∃ z, DataW.trod enc Tryz.prog w base sp held n 30 [c2] = some z := ⟨ys[2]'(by rw [hyl]; decide), by rw [← h2]; simp [cellsIntsP]⟩
    obtain ⟨z3, h3'⟩ : ∃ z, DataW.trod enc Tryz.prog w base sp held n 41 [c3] = some z := ⟨ys[3]'(by rw [hyl]; decide), by rw [← h3]; simp [cellsClauseP]⟩
    obtain ⟨k, rfl, hk⟩ := intOne h0'
    obtain ⟨ps, hps⟩ := ints_open h1'
    obtain ⟨wh, hwh⟩ := ints_open h2'
    obtain ⟨c, v, hcv, hc⟩ := cls_open n _ _ h3'
    cases hcv
    exact ⟨n, ⟨k, ps, wh, c⟩, _, _, _, rfl, hk, hps, hwh, hc⟩
set_option maxRecDepth 100000 in
theorem step_arg {v : Value} {d : DataW H} {p : List MemPlace} {r : Reach} {b0 : Nat} (hv : Value.okWide Tryz.prog w r b0 43 v) (h : DataW.Trod enc Tryz.prog w base sp held 43 v d p) :
    ∃ m s v0 v1 v2 v3, v = .agg #[v0, v1, v2, v3] ∧ StpAt (Old w) m w s [v0, v1, v2, v3] := by
  obtain ⟨cs, rfl, hsz⟩ := okWide_struct Tryz.underlying43 hv
  obtain ⟨fuel, hf⟩ := h
  obtain ⟨m, s, hu⟩ := step_open fuel _ _ hf
  rw [cellsStep] at hsz
  obtain ⟨l⟩ := cs
  match l, hsz with
  | [c0, c1, c2, c3], _ => exact ⟨m, s, c0, c1, c2, c3, rfl, hu⟩
end
end Go.Proofs.YtcegllnljaapiaaGreatDoor
namespace Go.Proofs.YtcegllnljaapiaaGreatDoor.fnExactStepToEnglishLaw
open Go.ChangeShapes Go.WideShapes Go.ChangeAt Go.RowKit Go.Joins Go.ChangeMaps
set_option maxRecDepth 100000 in
theorem env {W : World} (hL : laidMetH Tryz.prog Rows.fnExactStepToEnglishRow.laid W) (hS : W.ShapedOpen Tryz.prog) : Env W := env_of hL hS
set_option maxRecDepth 100000 in
theorem contract (H : Type) (enc : TypeId × Value → H) (W : World) (base : Nat) (args : Array Value) (ds gs : List (DataW H)) (before : List MemPlace)
    (hval : ∀ (j : Nat) t v, Tryz.f4.params[j]? = some t → args[j]? = some v → Value.okWide Tryz.prog W .any base t v)
    (hW : DataW.Whole enc Tryz.prog Tryz.f4.params.toList Rows.fnExactStepToEnglishSpec.vars false W args.toList ds gs before) (hE : Env W) :
    Calls Tryz.prog 4 args W fun e W' => ∃ v, e = .returned v ∧ Rows.fnExactStepToEnglishSpec.post enc Tryz.prog Tryz.f4 false true false false W args v W' := by
  have hW' := hW
  obtain ⟨p, q, hA0, hV, rfl, hfz, hnd⟩ := hW
  have hA : DataW.TrodAll enc Tryz.prog W 0 (fun _ => true) true Tryz.f4.params.toList args.toList ds p := hA0
  rw [Tryz.params4] at hA hval
  obtain ⟨v0, vs0, d0, ds0, p0, q0, hargs, rfl, rfl, h0, r0⟩ := trodAll_cons hA
  obtain ⟨v1, vs1, d1, ds1, p1, q1, rfl, rfl, rfl, h1, r1⟩ := trodAll_cons r0
  obtain ⟨rfl, rfl, rfl⟩ := trodAll_nil r1
  obtain rfl : args = #[v0, v1] := Array.ext' hargs
  obtain ⟨m0, s0, x0a, x0b, x0c, x0d, rfl, ht0⟩ := step_arg (hval 0 43 v0 rfl rfl) h0
  obtain ⟨k1, rfl, rfl, rfl, wk1⟩ := open_int Tryz.underlying3 (hval 1 3 v1 rfl rfl) h1
  have bk1 := i64_of_wf wk1
  clear hA0
  refine (exactSTE m0 s0 x0a x0b x0c x0d k1 W hE ht0 bk1.1 bk1.2).mono fun e W' ⟨he, hb⟩ => ?_
  subst he
  exact ⟨_, rfl, close_true hW' rfl (by kernel_rfl) (by kernel_rfl) rfl hb⟩
theorem laid_met (os : Os) : laidMet Tryz.prog Rows.fnExactStepToEnglishRow.laid ((laidWorld os).forCall (fun _ _ => 0) ⟨#[], #[.agg #[.int .i64 0, .slice none 0 0, .slice none 0 0, .slice none 0 0], .int .i64 0], []⟩).memory :=
  laidMet_of_run' 8 (by kernel_rfl) (by kernel_rfl)
theorem reads (os : Os) {H : Type} (enc : TypeId × Value → H) : ∃ places, DataW.whole enc Tryz.prog ((laidWorld os).forCall (fun _ _ => 0) ⟨#[], #[.agg #[.int .i64 0, .slice none 0 0, .slice none 0 0, .slice none 0 0], .int .i64 0], []⟩).memory Tryz.f4.params.toList Rows.fnExactStepToEnglishSpec.vars false (#[.agg #[.int .i64 0, .slice none 0 0, .slice none 0 0, .slice none 0 0], .int .i64 0] : Array Value).toList 8 = some ([.agg [.lit (.int .i64 0), .nil, .nil, .agg [.nil]], .lit (.int .i64 0)], [], places) :=
  ⟨[], by kernel_rfl⟩
set_option maxRecDepth 100000 in
theorem lifted (os : Os) (started : os.Started) (H : Type) (enc : TypeId × Value → H) (F : Stop.Interp) :
    ReturnsInHanded {} Tryz.checked os 4 .any ((OpenSpec.ofChange Rows.fnExactStepToEnglishSpec).preRow enc Tryz.prog Tryz.f4 Rows.fnExactStepToEnglishRow.domain false Rows.fnExactStepToEnglishRow.laid) (((OpenSpec.ofChange Rows.fnExactStepToEnglishSpec).at F).post enc Tryz.prog Tryz.f4 false true false false) := by
  obtain ⟨places, hx⟩ := reads os enc
  refine returnsInHanded_of_row (C := Tryz.checked) (s := OpenSpec.ofChange Rows.fnExactStepToEnglishSpec) own started (by kernel_rfl) Tryz.func4
    (witness_row_at (enc := enc) (C := Tryz.checked) false (laidWorld os) #[.agg #[.int .i64 0, .slice none 0 0, .slice none 0 0, .slice none 0 0], .int .i64 0] rfl (by kernel_rfl) (by kernel_rfl) (by kernel_rfl)
      (OpenSpec.preRow_of_cond 8 hx (by kernel_rfl) (fun k hk => by cases hk) (by kernel_rfl) (laid_met os))) ?_
  intro W base args ds gs before hval hW _ _ _ hL hS _
  exact contract H enc W base args ds gs before hval hW (env hL hS)
theorem said : Rows.FnExactStepToEnglishSaid :=
  OpenClaim.holds_of_cond 4 Tryz.f4 rfl rfl rfl rfl rfl rfl rfl ⟨rfl, rfl, rfl, rfl, rfl⟩ rfl rfl rfl rfl rfl (by kernel_rfl) Tryz.func4 (by kernel_rfl)
    (of_decide_eq_true (by kernel_rfl)) (by unfold Func.isWrapper; first | (rw [if_pos (by decide +kernel)]; kernel_rfl) | (rw [if_neg (by decide +kernel)]; exact ⟨rfl, rfl⟩))
    (fun os started H enc _ F => by rw [OpenClaim.pre_eq_preRow]; exact lifted os started H enc F)
theorem plain (f : FuncId) (fn : Func) (hf : Tryz.pinned.checked.prog.funcNamed "loop.example/g00892/laws.FnExactStepToEnglish" = some f) (hfn : Tryz.pinned.checked.prog.funcs[f]? = some fn) :
    false = Tryz.pinned.checked.prog.looks [] ∧ ∀ (j : Nat) t, fn.params[j]? = some t → Tryz.pinned.checked.prog.wantsStandIn t = false := by
  obtain rfl : f = 4 := Option.some.inj ((show Tryz.prog.funcNamed "loop.example/g00892/laws.FnExactStepToEnglish" = some 4 by kernel_rfl).symm.trans hf) |>.symm
  obtain rfl : fn = Tryz.f4 := (Option.some.inj (Tryz.func4.symm.trans hfn)).symm
  refine ⟨by kernel_rfl, fun j t ht => ?_⟩
  have hall : Tryz.f4.params.toList.all (fun t => Tryz.prog.wantsStandIn t == false) = true := by kernel_rfl
  exact beq_iff_eq.1 (List.all_eq_true.1 hall t (by simpa using Array.mem_of_getElem? ht))
theorem card : Rows.FnExactStepToEnglishCardSaid :=
  Claim7.holds_tied_plain_at .later [] _ _ _ _ said (fun _ h => by cases h) (by kernel_rfl) (fun _ h => by cases h) fnExactStepToEnglish_row_tie rfl ⟨rfl, rfl⟩ (by kernel_rfl) rfl plain (by kernel_rfl)
end Go.Proofs.YtcegllnljaapiaaGreatDoor.fnExactStepToEnglishLaw
