/- 'FnExactEnglishToStep': the law is true for all arguments, over the tables as the program's text lays them. -/
import Derived.Test.YtabkdonplmlbcaaGreatDoorStPart42
namespace Go.Proofs.YtabkdonplmlbcaaGreatDoor.fnExactEnglishToStepLaw
open Go.ChangeShapes Go.WideShapes Go.ChangeAt Go.RowKit Go.Joins Go.ChangeMaps
theorem iface_of_head {P : Program} {W : World} {name nm : String} {x : DataW Unit} {rest : List (String × DataW Unit)} {g : Nat} {t : TypeId} {ms : Array (String × TypeId)} (hg : P.globalNamed name = some g) (hty : (P.globals[g]?).map (·.type) = some t) (hi : P.underlying t = some (.interface ms)) (h : laidMet P ((name, .iface nm x) :: rest) W) : ∃ u v, W.cell? ⟨g, 0, none⟩ = some (.iface u v) := by
 obtain ⟨ps, ⟨g', t', cs, fuel, p, q, hg', ht', hvar, hd, _, _⟩, _⟩ := h
 obtain rfl := Option.some.inj (hg.symm.trans hg')
 obtain rfl := Option.some.inj (hty.symm.trans ht')
 obtain ⟨l⟩ := cs
 obtain ⟨f1, u, v, rfl, -, -⟩ := iface_of_trod hi hd
 exact ⟨u, v, by simpa using World.var?_cell hg hvar 0⟩
theorem gRng : Tryz.prog.globalNamed "strconv.ErrRange" = some 1 := by kernel_rfl
theorem gSyn : Tryz.prog.globalNamed "strconv.ErrSyntax" = some 0 := by kernel_rfl
theorem gRngT : (Tryz.prog.globals[1]?).map (·.type) = some 87 := by kernel_rfl
theorem gSynT : (Tryz.prog.globals[0]?).map (·.type) = some 87 := by kernel_rfl
set_option maxRecDepth 100000 in
theorem env {W : World} (h : laidMet Tryz.prog Rows.fnExactEnglishToStepRow.laid W) (hS : W.ShapedOpen Tryz.prog) : Env W ∧ EnvE W := by
 have h3 : Lib.TabIs Tryz.prog W "internal/strconv.uint64pow10" .u64 Lib.pow10Tab :=
  Lib.tabIs_of_head gPow10 gPowType Tryz.underlying179 Tryz.underlying152 cellsU64 cellsPow (laidMet.tail (laidMet.tail h))
 obtain ⟨m, hm⟩ : ∃ m, W.cell? ⟨3, 0, none⟩ = some (.int .i64 m) := Go.Proofs.cell_of_shapedOpen_int (zero := #[.int .i64 0]) (t := 3) hS (of_decide_eq_true (by kernel_rfl)) (by kernel_rfl) rfl (by kernel_rfl) (by kernel_rfl) Tryz.underlying3
 have hz := World.block_lt_of_cell? W _ hm
 refine ⟨⟨⟨m, hm⟩, h3, hz, ?_⟩, ⟨?_, ?_⟩⟩
 ·rcases Nat.lt_or_ge 2 W.heap.size with hlt | hge
  ·exact hlt
  ·have h3' := h3
   unfold Lib.TabIs World.var? at h3'
   rw [gPow10] at h3'
   simp only [Option.bind_some] at h3'
   rw [Array.getElem?_eq_none hge] at h3'
   cases h3'
 ·exact iface_of_head gSyn gSynT Tryz.underlying87 (laidMet.tail (laidMet.tail (laidMet.tail (laidMet.tail (laidMet.tail h)))))
 ·exact iface_of_head gRng gRngT Tryz.underlying87 (laidMet.tail (laidMet.tail (laidMet.tail (laidMet.tail h))))
def tabFirst : List Int := List.replicate 128 240 ++ List.replicate 66 241 ++ List.replicate 30 2 ++ [19] ++ List.replicate 12 3 ++ [35, 3, 3, 52, 4, 4, 4, 68] ++ List.replicate 11 241
def tabAcc : List Int := [128, 191, 160, 191, 128, 159, 144, 191, 128, 143] ++ List.replicate 22 0
noncomputable def low : Nat := (World.holding Tryz.prog default ⟨#[], #[], []⟩).heap.size
def layErr (b : Nat) : Obj → Obj
 | .cells _ t frozen => .cells #[.iface 175 (.pointer (some ⟨b, 0, none⟩))] t frozen
 | o => o
noncomputable def laidWorldE (os : Os) : World :=
 { World.holding Tryz.prog os ⟨#[.cells #[.string (⟨#[118, 97, 108, 117, 101, 32, 111, 117, 116, 32, 111, 102, 32, 114, 97, 110, 103, 101]⟩ : ByteArray)] 177, .cells #[.string (⟨#[105, 110, 118, 97, 108, 105, 100, 32, 115, 121, 110, 116, 97, 120]⟩ : ByteArray)] 177], #[], []⟩ with heap := (((((((World.holding Tryz.prog os ⟨#[.cells #[.string (⟨#[118, 97, 108, 117, 101, 32, 111, 117, 116, 32, 111, 102, 32, 114, 97, 110, 103, 101]⟩ : ByteArray)] 177, .cells #[.string (⟨#[105, 110, 118, 97, 108, 105, 100, 32, 115, 121, 110, 116, 97, 120]⟩ : ByteArray)] 177], #[], []⟩).heap.modify 2 (layTab .u64 Lib.pow10Tab)).modify 4 (layTab .u8 tab32)).modify 5 (layTab .u8 tab64)).modify 6 (layTab .u8 tabFirst)).modify 7 (layTab .u8 tabAcc)).modify 1 (layErr low)).modify 0 (layErr (low + 1)) }
set_option maxRecDepth 100000 in
theorem contract (H : Type) (enc : TypeId × Value → H) (W : World) (base : Nat) (args : Array Value) (ds gs : List (DataW H)) (before : List MemPlace)
  (hval : ∀ (j : Nat) t v, Tryz.f3.params[j]? = some t → args[j]? = some v → Value.okWide Tryz.prog W .any base t v)
  (hW : DataW.Whole enc Tryz.prog Tryz.f3.params.toList Rows.fnExactEnglishToStepSpec.vars false W args.toList ds gs before) (hE : Env W ∧ EnvE W) :
  Calls Tryz.prog 3 args W fun e W' => ∃ v, e = .returned v ∧ Rows.fnExactEnglishToStepSpec.post enc Tryz.prog Tryz.f3 false true false false W args v W' := by
 have hW' := hW
 obtain ⟨p, q, hA0, hV, rfl, hfz, hnd⟩ := hW
 have hA : DataW.TrodAll enc Tryz.prog W 0 (fun _ => true) true Tryz.f3.params.toList args.toList ds p := hA0
 rw [Tryz.params3] at hA hval
 obtain ⟨v0, vs0, d0, ds0, p0, q0, hargs, rfl, rfl, h0, r0⟩ := trodAll_cons hA
 obtain ⟨rfl, rfl, rfl⟩ := trodAll_nil r0
 obtain rfl : args = #[v0] := Array.ext' hargs
 obtain ⟨s0, rfl, rfl, rfl, hs0⟩ := open_string Tryz.underlying9 (hval 0 9 v0 rfl rfl) h0
 clear hA0
 refine (exactETS s0 W hs0 hE.1 hE.2).mono fun e W' ⟨he, hb⟩ => ?_
 subst he
 exact ⟨_, rfl, close_true hW' rfl (by kernel_rfl) (by kernel_rfl) rfl hb⟩
theorem laid_met (os : Os) : laidMet Tryz.prog Rows.fnExactEnglishToStepRow.laid ((laidWorldE os).forCall (fun _ _ => 0) ⟨#[], #[.string ⟨#[]⟩], []⟩).memory :=
 laidMet_of_run' 8 (by kernel_rfl) (by kernel_rfl)
theorem reads (os : Os) {H : Type} (enc : TypeId × Value → H) : ∃ places, DataW.whole enc Tryz.prog ((laidWorldE os).forCall (fun _ _ => 0) ⟨#[], #[.string ⟨#[]⟩], []⟩).memory Tryz.f3.params.toList Rows.fnExactEnglishToStepSpec.vars false (#[.string ⟨#[]⟩] : Array Value).toList 8 = some ([.lit (.string [])], [], places) :=
 ⟨[], by kernel_rfl⟩
set_option maxRecDepth 100000 in
theorem lifted (os : Os) (started : os.Started) (H : Type) (enc : TypeId × Value → H) (F : Stop.Interp) :
  ReturnsInHanded {} Tryz.checked os 3 .any ((OpenSpec.ofChange Rows.fnExactEnglishToStepSpec).preRow enc Tryz.prog Tryz.f3 Rows.fnExactEnglishToStepRow.domain false Rows.fnExactEnglishToStepRow.laid) (((OpenSpec.ofChange Rows.fnExactEnglishToStepSpec).at F).post enc Tryz.prog Tryz.f3 false true false false) := by
 obtain ⟨places, hx⟩ := reads os enc
 refine returnsInHanded_of_row (C := Tryz.checked) (s := OpenSpec.ofChange Rows.fnExactEnglishToStepSpec) own started (by kernel_rfl) Tryz.func3
  (witness_row_at (enc := enc) (C := Tryz.checked) false (laidWorldE os) #[.string ⟨#[]⟩] rfl (by kernel_rfl) (by kernel_rfl) (by kernel_rfl)
   (OpenSpec.preRow_of_cond 8 hx (by kernel_rfl) (fun k hk => by cases hk) (by kernel_rfl) (laid_met os))) ?_
 intro W base args ds gs before hval hW _ _ _ hL hS _
 exact contract H enc W base args ds gs before hval hW (env hL hS)
theorem said : Rows.FnExactEnglishToStepSaid :=
 OpenClaim.holds_of_cond 3 Tryz.f3 rfl rfl rfl rfl rfl rfl rfl ⟨rfl, rfl, rfl, rfl, rfl⟩ rfl rfl rfl rfl rfl (by kernel_rfl) Tryz.func3 (by kernel_rfl)
  (of_decide_eq_true (by kernel_rfl)) (by unfold Func.isWrapper; first | (rw [if_pos (by decide +kernel)]; kernel_rfl) | (rw [if_neg (by decide +kernel)]; exact ⟨rfl, rfl⟩))
  (fun os started H enc _ F => by rw [OpenClaim.pre_eq_preRow]; exact lifted os started H enc F)
theorem plain (f : FuncId) (fn : Func) (hf : Tryz.pinned.checked.prog.funcNamed "loop.example/g00892/laws.FnExactEnglishToStep" = some f) (hfn : Tryz.pinned.checked.prog.funcs[f]? = some fn) :
  true = Tryz.pinned.checked.prog.looks [] ∧ ∀ (j : Nat) t, fn.params[j]? = some t → Tryz.pinned.checked.prog.wantsStandIn t = false := by
 obtain rfl : f = 3 := Option.some.inj ((show Tryz.prog.funcNamed "loop.example/g00892/laws.FnExactEnglishToStep" = some 3 by kernel_rfl).symm.trans hf) |>.symm
 obtain rfl : fn = Tryz.f3 := (Option.some.inj (Tryz.func3.symm.trans hfn)).symm
 refine ⟨by kernel_rfl, fun j t ht => ?_⟩
 have hall : Tryz.f3.params.toList.all (fun t => Tryz.prog.wantsStandIn t == false) = true := by kernel_rfl
 exact beq_iff_eq.1 (List.all_eq_true.1 hall t (by simpa using Array.mem_of_getElem? ht))
theorem card : Rows.FnExactEnglishToStepCardSaid :=
 Claim7.holds_tied_plain_at .later [] _ _ _ _ said (fun _ h => by cases h) (by kernel_rfl) (fun _ h => by cases h) fnExactEnglishToStep_row_tie rfl ⟨rfl, rfl⟩ (by kernel_rfl) rfl plain (by kernel_rfl)
end Go.Proofs.YtabkdonplmlbcaaGreatDoor.fnExactEnglishToStepLaw
