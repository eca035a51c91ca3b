/- 'FnExactStaleUnits': the law is true for all arguments, over the tables as the program's text lays them. -/
import Derived.OpenShut
import Derived.JoinedCond
import Derived.Deep.DeepHandedRow
import Derived.Lib.SmallJoins
import Derived.Stop.LaidErr
import Derived.Test.YtimpkjiglioflaaGreatDoorCards
import Derived.Test.YtimpkjiglioflaaGreatDoorTie
import Derived.ChangeSlices
import Derived.Test.YtimpkjiglioflaaGreatDoorSuPart1
import Derived.Test.YtimpkjiglioflaaGreatDoorSuPart10
import Derived.Test.YtimpkjiglioflaaGreatDoorSuPart11
import Derived.Test.YtimpkjiglioflaaGreatDoorSuPart12
namespace Go.Proofs.YtimpkjiglioflaaGreatDoor
open Go.RowKit
def i64B (n : Int) : Prop := -9223372036854775808 ≤ n ∧ n ≤ 9223372036854775807
def IntAt (n : Int) (cs : List Value) : Prop := cs = [.int .i64 n] ∧ i64B n
def IntsAt (B : Nat → Prop) (w : World) (v : Value) (xs : List Int) : Prop := ListAt B w 1 IntAt v xs
theorem IntsAt.mono {B B' : Nat → Prop} {w w' : World} {v : Value} {xs : List Int} (hs : SameOn B w w') (hB : ∀ b, B b → B' b) (h : IntsAt B w v xs) : IntsAt B' w' v xs := ListAt.mono h hs hB (fun _ _ _ h => h)
theorem IntsAt.below {B : Nat → Prop} {w w' : World} {v : Value} {xs : List Int} (hb : Below w.heap.size w w') (h : IntsAt B w v xs) : IntsAt B w' v xs := h.mono (SameOn.below hb) (fun _ h => h)
theorem IntsAt.form {B : Nat → Prop} {w : World} {v : Value} {xs : List Int} (h : IntsAt B w v xs) : ∃ p c, v = .slice p xs.length c ∧ xs.length ≤ maxLen := ListAt.form h
theorem IntsAt.at_ {B : Nat → Prop} {w : World} {p : Option Addr} {n c : Nat} {xs : List Int} (h : IntsAt B w (.slice p n c) xs) {i : Nat} (hi : i < xs.length) : ∃ b o, p = some ⟨b, o, none⟩ ∧ B b ∧ w.cell? ⟨b, o + i, none⟩ = some (.int .i64 xs[i]) ∧ i64B xs[i] := by
  obtain ⟨b, o, h1, h2, x, h3, h4, h5⟩ := ListAt.at1 h hi
  simp only [List.cons.injEq, and_true] at h4
  subst h4
  exact ⟨b, o, h1, h2, h3, h5⟩
def IntOwn (e : TypeId) (S : Nat → Prop) (w : World) (us : List Int) (v : Value) : Prop := OwnRow S w e 1 (fun _ s cs => IntAt s cs) v us
theorem IntOwn.mono {e : TypeId} {S S' : Nat → Prop} {w w' : World} {us : List Int} {v : Value} (hs : SameOn S w w') (hS : ∀ b, S b → S' b) (h : IntOwn e S w us v) : IntOwn e S' w' us v := OwnRow.mono h hs hS (fun _ _ _ _ _ hx => hx)
theorem IntOwn.at_ {e : TypeId} {S : Nat → Prop} {w : World} {us : List Int} {v : Value} (h : IntOwn e S w us v) : IntsAt S w v us := OwnRow.listAt (by omega) h (fun _ _ _ _ _ hx => hx)
theorem IntOwn.later {e : TypeId} {S : Nat → Prop} {w w' : World} {us : List Int} {v : Value} (hb : Below w.heap.size w w') (h : IntOwn e S w us v) : IntOwn e S w' us v := h.mono (SameOn.below hb) (fun _ h => h)
theorem IntOwn.kept {e : TypeId} {S K : Nat → Prop} {w w' : World} {us : List Int} {v : Value} (h : IntOwn e S w us v) (hk : Kept K w w') (hd : ∀ b, S b → ¬ K b) : IntOwn e S w' us v := h.mono (fun b hb hlt => hk.block b hlt (hd b hb)) (fun _ h => h)
/-- The marks from k on. -/
def marksI (k n : Nat) : List Int := (List.range n).map fun i => ((k + i : Nat) : Int)
theorem marksI_len (k n : Nat) : (marksI k n).length = n := by simp [marksI]
theorem marksI_snoc (k n : Nat) : marksI k (n + 1) = marksI k n ++ [((k + n : Nat) : Int)] := by simp [marksI, List.range_succ]
set_option maxRecDepth 100000 in
set_option maxHeartbeats 1600000 in
theorem eqIntS_same {B B' : Nat → Prop} (us : List Int) (va ua : Value) (w : World) (h : IntsAt B w va us) (h' : IntsAt B' w ua us) :
    Calls Tryz.prog 22 #[va, ua] w fun e w' => e = .returned (.bool true) ∧ Below w.heap.size w w' := by
  obtain ⟨p, c, rfl, hlen⟩ := h.form
  obtain ⟨p', c', rfl, -⟩ := h'.form
  unfold maxLen at hlen
  have H := Lib.hid h
  have H' := Lib.hid h'
  clear h h'
  go_enter Tryz.func22, Tryz.ntmps22
  go_wp2
  go_loopw [5] (fun i wr => ∃ k : Nat, k ≤ us.length ∧ i = .int .i64 k ∧ Below w.heap.size w wr) (fun i _ => us.length - (intOf i).toNat)
  case atStart => exact ⟨0, Nat.zero_le _, rfl, by (repeat (first | with_reducible exact Below.refl _ _ | with_reducible assumption | with_reducible refine Below.al ?_ _ | with_reducible refine Below.sc ?_ (by first | exact Nat.le_refl _ | (simp; done) | (simp; omega)) _ | assumption | exact Below.refl _ _ | refine Below.dr ?_ | refine Below.drN ?_ _ | refine Below.step ?_ (by assumption)))⟩
  case round =>
    obtain ⟨k, hk, rfl, hb⟩ := hrel
    by_cases hlt : k < us.length
    · obtain ⟨b, o, rfl, hB, hx0, hxs⟩ := (H.out.below hb).at_ hlt
      obtain ⟨b', o', rfl, hB', hy0, hys⟩ := (H'.out.below hb).at_ hlt
      obtain ⟨a, ha⟩ : ∃ a, us[k] = a := ⟨_, rfl⟩
      rw [ha] at hx0 hy0
      clear ha hxs hys
      have zb := bsz (World.block_lt_of_cell? _ _ hx0)
      have zb' := bsz (World.block_lt_of_cell? _ _ hy0)
      go_wp2
      obtain ⟨C, HC0⟩ := class_of (InF wr.heap.size _ [(⟨b, o + k, none⟩, .int .i64 a), (⟨b', o' + k, none⟩, .int .i64 a)] [] [])
      have HC := Lib.hid HC0
      clear HC0
      refine wp_region_flow (C := C) (by kernel_rfl) (by kernel_rfl) (fun L hL => (HC.out _ _).2 (InF.start (by first | (intro _ hs; cases hs; done) | (simp only [List.forall_mem_cons]; go_simp)) (by first | (intro _ hs; cases hs; done) | (simp only [List.forall_mem_cons]; go_simp)) (by first | (intro _ hs; cases hs; done) | (simp only [List.forall_mem_cons]; go_simp)) (by first | (intro _ hs; cases hs; done) | (simp only [List.forall_mem_cons]; go_simp)) L hL)) ?_
      repeat (first | (apply flow_free rfl; (intro L w' hun hrd hC; have hC := (HC.out _ _).1 hC; have hb' := hC.below; (try have hw' : Below w.heap.size w w' := by first | exact Below.trans (by (repeat (first | with_reducible exact Below.refl _ _ | with_reducible assumption | with_reducible refine Below.al ?_ _ | with_reducible refine Below.sc ?_ (by first | exact Nat.le_refl _ | (simp; done) | (simp; omega)) _ | assumption | exact Below.refl _ _ | refine Below.dr ?_ | refine Below.drN ?_ _ | refine Below.step ?_ (by assumption)))) hb' | ((repeat (first | with_reducible exact Below.refl _ _ | with_reducible assumption | with_reducible refine Below.al ?_ _ | with_reducible refine Below.sc ?_ (by first | exact Nat.le_refl _ | (simp; done) | (simp; omega)) _ | assumption | exact Below.refl _ _ | refine Below.dr ?_ | refine Below.drN ?_ _ | refine Below.step ?_ (by assumption))); done)); have hf' := hC.cell; (try simp only [List.forall_mem_cons] at hf'); go_simp; first | exact ⟨(HC.out _ _).2 (hC.skip _ (by rfl)), rfl⟩ | (rw [if_neg]; (exact ⟨(HC.out _ _).2 (hC.skip _ (by rfl)), rfl⟩); omega) | fail); go_simp) | (apply flow_yes; (case hw => go_simp); (intro L w' hun hrd hC; have hC := (HC.out _ _).1 hC; have hb' := hC.below; (try have hw' : Below w.heap.size w w' := by first | exact Below.trans (by (repeat (first | with_reducible exact Below.refl _ _ | with_reducible assumption | with_reducible refine Below.al ?_ _ | with_reducible refine Below.sc ?_ (by first | exact Nat.le_refl _ | (simp; done) | (simp; omega)) _ | assumption | exact Below.refl _ _ | refine Below.dr ?_ | refine Below.drN ?_ _ | refine Below.step ?_ (by assumption)))) hb' | ((repeat (first | with_reducible exact Below.refl _ _ | with_reducible assumption | with_reducible refine Below.al ?_ _ | with_reducible refine Below.sc ?_ (by first | exact Nat.le_refl _ | (simp; done) | (simp; omega)) _ | assumption | exact Below.refl _ _ | refine Below.dr ?_ | refine Below.drN ?_ _ | refine Below.step ?_ (by assumption))); done)); have hf' := hC.cell; (try simp only [List.forall_mem_cons] at hf'); go_simp; first | exact ⟨(HC.out _ _).2 (hC.skip _ (by rfl)), rfl⟩ | (rw [if_neg]; (exact ⟨(HC.out _ _).2 (hC.skip _ (by rfl)), rfl⟩); omega) | fail); go_simp) | (apply flow_no; (case hw => (go_simp; try (intro hh; cases hh))); (intro L w' _ _ hC; exact (HC.out _ _).2 (((HC.out _ _).1 hC).skip _ (by rfl))); go_simp))
      refine flow_nil ?_
      intro L wz hL hz
      have hz := (HC.out _ _).1 hz
      have hbz := hz.below
      have hcz := hz.cell
      try simp only [List.forall_mem_cons] at hcz
      have hdz := hz.done
      try simp only [List.forall_mem_cons] at hdz
      (try have hwz : Below w.heap.size w wz := by first | exact Below.trans (by (repeat (first | with_reducible exact Below.refl _ _ | with_reducible assumption | with_reducible refine Below.al ?_ _ | with_reducible refine Below.sc ?_ (by first | exact Nat.le_refl _ | (simp; done) | (simp; omega)) _ | assumption | exact Below.refl _ _ | refine Below.dr ?_ | refine Below.drN ?_ _ | refine Below.step ?_ (by assumption)))) hbz | ((repeat (first | with_reducible exact Below.refl _ _ | with_reducible assumption | with_reducible refine Below.al ?_ _ | with_reducible refine Below.sc ?_ (by first | exact Nat.le_refl _ | (simp; done) | (simp; omega)) _ | assumption | exact Below.refl _ _ | refine Below.dr ?_ | refine Below.drN ?_ _ | refine Below.step ?_ (by assumption))); done))
      go_wp2
      exact ⟨⟨k + 1, by omega, by go_num, Below.step hb hbz⟩, by simp [intOf]; omega⟩
    · go_wp2
      go_ret
      exact ⟨rfl, by (repeat (first | with_reducible exact Below.refl _ _ | with_reducible assumption | with_reducible refine Below.al ?_ _ | with_reducible refine Below.sc ?_ (by first | exact Nat.le_refl _ | (simp; done) | (simp; omega)) _ | assumption | exact Below.refl _ _ | refine Below.dr ?_ | refine Below.drN ?_ _ | refine Below.step ?_ (by assumption)))⟩
def MarkIRel (S : Nat → Prop) (us : List Int) (v : Value) (k : Nat) (w : World) (kv i : Value) (wr : World) : Prop :=
  ∃ j : Nat, i = .int .i64 (j : Nat) ∧ kv = .int .i64 ((k + j : Nat) : Int) ∧ j ≤ us.length ∧ IntOwn 3 S wr (marksI k j ++ us.drop j) v ∧ Kept S w wr
set_option maxRecDepth 100000 in
set_option maxHeartbeats 1600000 in
theorem markIntS_any (S : Nat → Prop) (us : List Int) (v : Value) (k : Nat) (w : World) (h : IntOwn 3 S w us v) (hb : k + us.length ≤ 100000000) :
  Calls Tryz.prog 24 #[v, .int .i64 (k : Nat)] w fun e w' => e = .returned (.int .i64 ((k + us.length : Nat) : Int)) ∧ IntOwn 3 S w' (marksI k us.length) v ∧ Kept S w w' := by
  obtain ⟨p, c, rfl, hlen⟩ := OwnRow.form h
  unfold maxLen at hlen
  have H := Lib.hid h
  clear h
  go_enter Tryz.func24, Tryz.ntmps24
  go_wp2
  go_loopw [1, 5] (MarkIRel S us (.slice p us.length c) k w) (fun _ i _ => us.length - (intOf i).toNat)
  case atStart => exact ⟨0, rfl, rfl, Nat.zero_le _, H.out, Kept.refl _ _⟩
  case round =>
    obtain ⟨j, rfl, rfl, hju, hrow, hkp⟩ := hrel
    have HKP := Lib.hid hkp
    clear hkp
    by_cases hlt : j < us.length
    · have hx : (marksI k j ++ us.drop j)[j]? = some us[j] := by rw [List.getElem?_append_right (by rw [marksI_len]; omega), marksI_len, Nat.sub_self, List.getElem?_drop, Nat.add_zero, List.getElem?_eq_getElem hlt]
      obtain ⟨g, cap, cs, Si, cur, hv, hSg, hh, hcl, hsz, hcs, hR, hSi, hclose⟩ := OwnRow.elem hrow hx
      have HCL := Lib.hid hclose
      clear hrow hclose hx
      have hset : ∀ y, (marksI k j ++ us.drop j).set j y = (marksI k j ++ [y]) ++ us.drop (j + 1) := fun y => by
        rw [List.set_append_right _ _ (by rw [marksI_len]; omega), marksI_len, Nat.sub_self, List.append_assoc, List.singleton_append]
        have e := List.drop_eq_getElem_cons hlt
        rw [e]; rfl
      have HSET := Lib.hid hset
      clear hset
      generalize us[j] = a at *
      obtain ⟨rfl, -⟩ := hR
      simp only [Value.slice.injEq] at hv
      obtain ⟨rfl, -, rfl⟩ := hv
      have HHH := Lib.hid hh
      have c0 : wr.cell? ⟨g, j, none⟩ = some (.int .i64 a) := by have := (cell_of_row wr g (j * 1 + 0) cur _ (0, 0) hh).trans (hcs 0 (by omega)); simpa using this
      have cf : ∀ i, wr.frozen? ⟨g, i, none⟩ = false := fun i => frozen_of_row wr g i _ _ hh
      have hgl := bsz (blk_lt hh)
      clear hh
      go_wp2
      refine ⟨⟨j + 1, by go_num, by go_num, by omega, ?_, ?_⟩, by simp [intOf]; omega⟩
      · rw [marksI_snoc, ← HSET.out]
        have hpt : Patch cur (cur.setIfInBounds (j * 1 + 0) (.int .i64 ((k + j : Nat) : Int))) (j * 1) [.int .i64 ((k + j : Nat) : Int)] := Patch.set (cs := [.int .i64 a]) (Patch.refl hcs) (j := 0) (by simp) hsz _
        refine HCL.out _ ((k + j : Nat) : Int) [.int .i64 ((k + j : Nat) : Int)] (cur.setIfInBounds (j * 1 + 0) (.int .i64 ((k + j : Nat) : Int))) _ rfl ?_ hpt ⟨rfl, by unfold i64B; omega⟩ (fun T y c hT hy => hy)
        have := heap_setCell_same wr g j cur _ (.int .i64 ((k + j : Nat) : Int)) HHH.out
        rw [Nat.mul_one, Nat.add_zero]
        simpa using this
      · exact HKP.out.trans ((Kept.refl S wr).set hSg _ _)
    · obtain rfl : j = us.length := by omega
      rw [List.drop_length, List.append_nil] at hrow
      have HRW := Lib.hid hrow
      clear hrow
      go_wp2
      go_ret
      exact ⟨rfl, HRW.out, HKP.out⟩
theorem elemIntL : Elem Tryz.prog 38 3 1 8 := elem_of Tryz.underlying38 (z := .int .i64 0) (by kernel_rfl) rfl (by omega)
def ToIRel (us : List Int) (w : World) (i : Value) (wr : World) : Prop :=
  ∃ k : Nat, k ≤ us.length ∧ i = .int .i64 k ∧ FillRow (NewB w wr) wr 3 1 (fun _ _ s cs => IntAt s cs) w.heap.size us.length k us ∧ Below w.heap.size w wr
set_option maxRecDepth 100000 in
set_option maxHeartbeats 3200000 in
theorem toIntS_own {B : Nat → Prop} (us : List Int) (va : Value) (w : World) (h : IntsAt B w va us) (hlen : us.length ≤ 1048576) :
    Calls Tryz.prog 19 #[va] w fun e w' => ∃ g, e = .returned (.slice (some ⟨g, 0, none⟩) us.length us.length) ∧ IntOwn 3 (NewB w w') w' us (.slice (some ⟨g, 0, none⟩) us.length us.length) ∧ Below w.heap.size w w' := by
  obtain ⟨p, c, rfl, -⟩ := h.form
  have H := Lib.hid h
  obtain ⟨-, i, z, hi, hz, hsz, hby, hzs, -⟩ := elemIntL
  clear h
  go_enter Tryz.func19, Tryz.ntmps19
  go_wp2_with (at_make; refine wpList_make_full _ rfl _ _ _ rfl w.heap.size 3 i z 1 Tryz.underlying38 hi hz hsz _ _ _ _ us.length rfl rfl rfl rfl (by rw [hby]; omega) (by unfold maxLen; omega) (Nat.le_refl _) ?_; intro w1 ho1 hg1)
  have hb1 : Below w.heap.size w w1 := ⟨hg1.os, hg1.tape, hg1.output, hg1.size, fun k hk => hg1.block k hk (by simp)⟩
  have HF1 := Lib.hid (show FillRow (NewB w w1) w1 3 1 (fun _ _ s cs => IntAt s cs) w.heap.size us.length 0 us from FillRow.start ⟨Nat.le_refl _, own_lt ho1⟩ ho1)
  clear ho1 hg1
  go_loopw [4] (ToIRel us w) (fun i _ => us.length - (intOf i).toNat)
  case atStart => exact ⟨0, Nat.zero_le _, rfl, HF1.out, hb1⟩
  case round =>
    obtain ⟨k, hk, rfl, hf, hb⟩ := hrel
    have HF := Lib.hid hf
    have hgw := hf.lt
    clear hf HF1 hb1
    by_cases hlt : k < us.length
    · obtain ⟨b, o, rfl, hB, hx0, hxs⟩ := (H.out.below hb).at_ hlt
      have hcz := HF.out.cell k (by omega)
      obtain ⟨⟨q0, hq0⟩, hf0⟩ := hcz
      obtain ⟨a, ha⟩ : ∃ a, us[k] = a := ⟨_, rfl⟩
      have HK : Hid (us[k]? = some a) := Lib.hid (by rw [List.getElem?_eq_getElem hlt, ha])
      rw [ha] at hx0 hxs
      have HXS := Lib.hid hxs
      clear ha hxs
      have hgb := bsz hgw
      go_wp2
      refine ⟨⟨k + 1, by omega, by go_num, ?_, hb.setCell (Nat.le_refl _) _⟩, by simp [intOf]; omega⟩
      refine FillRow.put (T := fun _ => False) (S := NewB w _) (HF.out.wider (fun b hb => ⟨hb.1, by simpa using hb.2⟩)) hlt HK.out (Below.refl _ _) rfl ⟨rfl, HXS.out⟩ (fun _ h => h.elim) (fun cur hc hz => ⟨_, heap_setCell_same wr _ k cur _ (.int .i64 a) hc, ?_⟩) (by simp) (fun _ _ _ _ hx => hx)
      have := Patch.set (cur := cur) (cur' := cur) (o := k * 1) (cs := [q0]) ⟨rfl, fun j hj => ?_, fun _ _ => rfl⟩ (j := 0) (by simp) hz (.int .i64 a)
      · simpa using this
      · obtain rfl : j = 0 := by simpa using hj
        have h1 := (cell_of_row wr _ k cur _ (0, 0) hc).symm.trans hq0
        simpa using h1
    · obtain rfl : k = us.length := by omega
      go_wp2
      go_ret
      exact ⟨_, rfl, HF.out.done (by unfold maxLen; omega), hb⟩
end Go.Proofs.YtimpkjiglioflaaGreatDoor
namespace Go.Proofs.YtimpkjiglioflaaGreatDoor
open Go.RowKit
def staleG (l : List Un) : List Un → List Int → List ByteArray
  | u :: us, h :: hs => if hashU l u.name == h then staleG l us hs else u.name :: staleG l us hs
  | _, _ => []
theorem staleG_snoc (l : List Un) : ∀ (us : List Un) (hs : List Int) (u : Un) (h : Int), us.length = hs.length → staleG l (us ++ [u]) (hs ++ [h]) = staleG l us hs ++ (if hashU l u.name == h then [] else [u.name])
  | [], [], u, h, _ => by simp only [List.nil_append, staleG]
  | a :: us, b :: hs, u, h, e => by
    rw [List.cons_append, List.cons_append, staleG, staleG, staleG_snoc l us hs u h (by simpa using e)]
    split <;> simp
  | [], _ :: _, _, _, e => by simp at e
  | _ :: _, [], _, _, e => by simp at e
theorem staleG_take {l : List Un} {hs : List Int} {k : Nat} (hk : k < l.length) (hh : k < hs.length) : staleG l (l.take (k + 1)) (hs.take (k + 1)) = staleG l (l.take k) (hs.take k) ++ (if hashU l l[k].name == hs[k] then [] else [l[k].name]) := by
  rw [List.take_succ_eq_append_getElem hk, List.take_succ_eq_append_getElem hh, staleG_snoc _ _ _ _ _ (by rw [List.length_take, List.length_take]; omega)]
theorem staleG_len (l : List Un) : ∀ (us : List Un) (hs : List Int), (staleG l us hs).length ≤ us.length
  | [], _ => by simp [staleG]
  | _ :: _, [] => by simp [staleG]
  | a :: us, b :: hs => by
    have := staleG_len l us hs
    rw [staleG]; split <;> simp <;> omega
def staleOk (l : List Un) (hs : List Int) : Bool := libGood l && decide (hs.length = l.length)
def staleF (l : List Un) (hs : List Int) : List ByteArray := if staleOk l hs then staleG l l hs else []
theorem staleF_len (l : List Un) (hs : List Int) : (staleF l hs).length ≤ l.length := by
  rw [staleF]; split
  · exact staleG_len _ _ _
  · simp
set_option maxRecDepth 100000 in
set_option maxHeartbeats 3200000 in
theorem implSU_any {B : Nat → Prop} (l : List Un) (hs : List Int) (n : Nat) (va vh : Value) (w : World) (h : UnsAt (fun b => b < n) w va l) (hh : IntsAt B w vh hs) (hn : n ≤ w.heap.size) (hE : Env w) (hw : l.length + wtU l ≤ 1048576) :
    Calls Tryz.prog 20 #[va, vh] w fun e w' => ∃ v, e = .returned (.tuple #[v, .bool (staleOk l hs)]) ∧ StrOwn 9 (NewB w w') w' (staleF l hs) v ∧ Below w.heap.size w w' := by
  obtain ⟨p, c, rfl, hlen⟩ := h.form
  obtain ⟨q, d, rfl, hlen2⟩ := hh.form
  unfold maxLen at hlen hlen2
  have H := Lib.hid h
  have HH := Lib.hid hh
  have HE := Lib.hid hE
  have HS := Lib.hid (show staleOk l hs = (libGood l && decide (hs.length = l.length)) from rfl)
  clear h hh hE
  cases hg : libGood l
  · have HG := Lib.hid hg
    have HN := Lib.hid (show staleOk l hs = false by rw [HS.out, hg]; rfl)
    go_enter Tryz.func20, Tryz.ntmps20
    go_wp2_with fail
    refine (implLib_any l _ _ (H.out.below (by (repeat (first | with_reducible exact Below.refl _ _ | with_reducible assumption | with_reducible refine Below.al ?_ _ | with_reducible refine Below.sc ?_ (by first | exact Nat.le_refl _ | (simp; done) | (simp; omega)) _ | assumption | exact Below.refl _ _ | refine Below.dr ?_ | refine Below.drN ?_ _ | refine Below.step ?_ (by assumption))))) hw).mono ?_
    rintro e w1 ⟨rfl, hb1⟩
    have ⟨cw1, fw1⟩ := bcell hb1
    have qw1 := hb1.size
    (try simp at qw1)
    (try have zw1w := bsz (show w.heap.size < w1.heap.size by omega))
    rw [HG.out]
    go_wp2
    go_ret2
    exact ⟨_, by rw [HN.out]; rfl, by rw [staleF, HN.out, if_neg (by simp)]; exact OwnRow.nil _ _ _ _ _, by (repeat (first | with_reducible exact Below.refl _ _ | with_reducible assumption | with_reducible refine Below.al ?_ _ | with_reducible refine Below.sc ?_ (by first | exact Nat.le_refl _ | (simp; done) | (simp; omega)) _ | assumption | exact Below.refl _ _ | refine Below.dr ?_ | refine Below.drN ?_ _ | refine Below.step ?_ (by assumption)))⟩
  have HG := Lib.hid hg
  by_cases hle : hs.length = l.length
  case neg =>
    have HN := Lib.hid (show staleOk l hs = false by rw [HS.out, hg, decide_eq_false hle]; rfl)
    have hii : ((hs.length : Int) == (l.length : Int)) = false := by rw [beq_eq_false_iff_ne]; omega
    have hij : ((hs.length : Int) != (l.length : Int)) = true := by rw [bne, hii]; rfl
    go_enter Tryz.func20, Tryz.ntmps20
    go_wp2_with fail
    refine (implLib_any l _ _ (H.out.below (by (repeat (first | with_reducible exact Below.refl _ _ | with_reducible assumption | with_reducible refine Below.al ?_ _ | with_reducible refine Below.sc ?_ (by first | exact Nat.le_refl _ | (simp; done) | (simp; omega)) _ | assumption | exact Below.refl _ _ | refine Below.dr ?_ | refine Below.drN ?_ _ | refine Below.step ?_ (by assumption))))) hw).mono ?_
    rintro e w1 ⟨rfl, hb1⟩
    have ⟨cw1, fw1⟩ := bcell hb1
    have qw1 := hb1.size
    (try simp at qw1)
    (try have zw1w := bsz (show w.heap.size < w1.heap.size by omega))
    rw [HG.out]
    go_wp2
    go_ret2
    exact ⟨_, by rw [HN.out]; rfl, by rw [staleF, HN.out, if_neg (by simp)]; exact OwnRow.nil _ _ _ _ _, by (repeat (first | with_reducible exact Below.refl _ _ | with_reducible assumption | with_reducible refine Below.al ?_ _ | with_reducible refine Below.sc ?_ (by first | exact Nat.le_refl _ | (simp; done) | (simp; omega)) _ | assumption | exact Below.refl _ _ | refine Below.dr ?_ | refine Below.drN ?_ _ | refine Below.step ?_ (by assumption)))⟩
  have HY := Lib.hid (show staleOk l hs = true by rw [HS.out, hg, decide_eq_true hle]; rfl)
  obtain ⟨h1, h2, h3⟩ := libGood_parts hg
  have HAL := Lib.hid (fun u (hu : u ∈ l) => full_all h2 u hu)
  have HIX := Lib.hid (fun x (hx : x ∈ ordL l) => idx_lt h2 hx)
  have HHO := Lib.hid (fun (x : ByteArray) (w' : World) (hx : x ∈ ordL l) (hb : Below w.heap.size w w') => hashOf_any l n h1 hw l.length x (.slice p l.length c) w' hx (idx_lt h2 hx) (H.out.below hb) (by have := hb.size; omega) (HE.out.below hb))
  clear h3
  go_enter Tryz.func20, Tryz.ntmps20
  go_wp2_with fail
  refine (implLib_any l _ _ (H.out.below (by (repeat (first | with_reducible exact Below.refl _ _ | with_reducible assumption | with_reducible refine Below.al ?_ _ | with_reducible refine Below.sc ?_ (by first | exact Nat.le_refl _ | (simp; done) | (simp; omega)) _ | assumption | exact Below.refl _ _ | refine Below.dr ?_ | refine Below.drN ?_ _ | refine Below.step ?_ (by assumption))))) hw).mono ?_
  rintro e w1 ⟨rfl, hb1⟩
  have ⟨cw1, fw1⟩ := bcell hb1
  have qw1 := hb1.size
  (try simp at qw1)
  (try have zw1w := bsz (show w.heap.size < w1.heap.size by omega))
  rw [HG.out, hle]
  go_wp2
  go_loopw [6, 22] (fun o i wr => ∃ k : Nat, k ≤ l.length ∧ i = .int .i64 k ∧ OrdS (staleG l (l.take k) (hs.take k)) o w wr) (fun _ i _ => l.length - (intOf i).toNat)
  case atStart => exact ⟨0, Nat.zero_le _, rfl, own_lower (row_empty w1 w1.heap.size _ 1 (Nat.le_refl _)) (by omega), by simp [staleG], by (repeat (first | with_reducible exact Below.refl _ _ | with_reducible assumption | with_reducible refine Below.al ?_ _ | with_reducible refine Below.sc ?_ (by first | exact Nat.le_refl _ | (simp; done) | (simp; omega)) _ | assumption | exact Below.refl _ _ | refine Below.dr ?_ | refine Below.drN ?_ _ | refine Below.step ?_ (by assumption)))⟩
  case round =>
    obtain ⟨k, hk, rfl, hst⟩ := hrel
    have hb := hst.bel
    have HST := Lib.hid hst
    have hgl := staleG_len l (l.take k) (hs.take k)
    rw [List.length_take] at hgl
    clear hst
    by_cases hlt : k < l.length
    · have hlh : k < hs.length := by omega
      obtain ⟨b, o, rfl, hB, p1, c1, p2, c2, hx0, hx1, hx2, hx3, hx⟩ := (H.out.below hb).at_ hlt
      obtain ⟨b', o', rfl, hB', hy0, -⟩ := (HH.out.below hb).at_ hlh
      have hnsz : l[k].name.size ≤ maxLen := by obtain ⟨_, _, _, h2, _⟩ := hx; exact h2
      have HTK := Lib.hid (staleG_take hlt hlh)
      have hal := HAL.out _ (List.getElem_mem hlt)
      obtain ⟨a, ha⟩ : ∃ a, l[k] = a := ⟨_, rfl⟩
      obtain ⟨z, hz⟩ : ∃ z, hs[k] = z := ⟨_, rfl⟩
      rw [ha] at hx0 hx1 hx2 hx3 hnsz HTK hal
      rw [hz] at hy0 HTK
      clear ha hz hx
      have zb := bsz (World.block_lt_of_cell? _ _ hx0)
      have zb' := bsz (World.block_lt_of_cell? _ _ hy0)
      have hki : (k : Int) < l.length := by omega
      generalize staleG l (l.take k) (hs.take k) = out at *
      go_wp2
      obtain ⟨W, hW⟩ : ∃ W : World, W = wr.alloc (.cells #[.string a.name, .slice p1 a.incs.length c1, .slice p2 a.axs.length c2, .string a.goal] 24) := ⟨_, rfl⟩
      have hbW : Below wr.heap.size wr W := by rw [hW]; exact (Below.refl _ _).alloc (Nat.le_refl _) _
      have hbw := Below.step hb hbW
      have hc0 : W.cell? ⟨wr.heap.size, 0, none⟩ = some (.string a.name) := by rw [hW]; go_simp
      have hyw := (hbW.cell zb'.1).trans hy0
      have HSW := Lib.hid (HST.out.below hbW)
      rw [← hW]
      clear hW HST hx0 hx1 hx2 hx3
      cases hN : (hashU l a.name == z)
      all_goals
        have HN := Lib.hid hN
        have hbn : (hashU l a.name != z) = !(hashU l a.name == z) := rfl
        rw [hN] at hbn
        have hbn2 : (hashF l.length l a.name != z) = _ := hbn
        have hN2 : (hashF l.length l a.name == z) = _ := hN
        clear hbn hN
        obtain ⟨C, HC0⟩ := class_of (InF W.heap.size _ [(⟨wr.heap.size, 0, none⟩, .string a.name), (⟨b', o' + k, none⟩, .int .i64 z)] [] [])
        have HC := Lib.hid HC0
        clear HC0
        refine wp_region_flow (C := C) (by kernel_rfl) (by kernel_rfl) (fun L hL => (HC.out _ _).2 (InF.start (by first | (intro _ hs; cases hs; done) | (simp only [List.forall_mem_cons]; go_simp)) (by first | (intro _ hs; cases hs; done) | (simp only [List.forall_mem_cons]; go_simp)) (by first | (intro _ hs; cases hs; done) | (simp only [List.forall_mem_cons]; go_simp)) (by first | (intro _ hs; cases hs; done) | (simp only [List.forall_mem_cons]; go_simp)) L hL)) ?_
        repeat (first | (apply flow_free rfl; (intro L w' hun hrd hC; have hC := (HC.out _ _).1 hC; have hb' := hC.below; (try have hw' : Below w.heap.size w w' := by first | exact Below.trans (by (repeat (first | with_reducible exact Below.refl _ _ | with_reducible assumption | with_reducible refine Below.al ?_ _ | with_reducible refine Below.sc ?_ (by first | exact Nat.le_refl _ | (simp; done) | (simp; omega)) _ | assumption | exact Below.refl _ _ | refine Below.dr ?_ | refine Below.drN ?_ _ | refine Below.step ?_ (by assumption)))) hb' | ((repeat (first | with_reducible exact Below.refl _ _ | with_reducible assumption | with_reducible refine Below.al ?_ _ | with_reducible refine Below.sc ?_ (by first | exact Nat.le_refl _ | (simp; done) | (simp; omega)) _ | assumption | exact Below.refl _ _ | refine Below.dr ?_ | refine Below.drN ?_ _ | refine Below.step ?_ (by assumption))); done)); have hf' := hC.cell; (try simp only [List.forall_mem_cons] at hf'); go_simp; first | exact ⟨(HC.out _ _).2 (hC.skip _ (by rfl)), rfl⟩ | (rw [if_neg]; (exact ⟨(HC.out _ _).2 (hC.skip _ (by rfl)), rfl⟩); omega) | (go_at_call 56; refine (HHO.out a.name _ hal hw').mono ?_; rintro e w1 ⟨rfl, hb1⟩; exact ⟨rfl, (HC.out _ _).2 ((hC.next (by first | (simp; done) | (simp; omega) | omega) hb1).skip _ (by rfl))⟩)); go_simp) | (apply flow_yes; (case hw => go_simp); (intro L w' hun hrd hC; have hC := (HC.out _ _).1 hC; have hb' := hC.below; (try have hw' : Below w.heap.size w w' := by first | exact Below.trans (by (repeat (first | with_reducible exact Below.refl _ _ | with_reducible assumption | with_reducible refine Below.al ?_ _ | with_reducible refine Below.sc ?_ (by first | exact Nat.le_refl _ | (simp; done) | (simp; omega)) _ | assumption | exact Below.refl _ _ | refine Below.dr ?_ | refine Below.drN ?_ _ | refine Below.step ?_ (by assumption)))) hb' | ((repeat (first | with_reducible exact Below.refl _ _ | with_reducible assumption | with_reducible refine Below.al ?_ _ | with_reducible refine Below.sc ?_ (by first | exact Nat.le_refl _ | (simp; done) | (simp; omega)) _ | assumption | exact Below.refl _ _ | refine Below.dr ?_ | refine Below.drN ?_ _ | refine Below.step ?_ (by assumption))); done)); have hf' := hC.cell; (try simp only [List.forall_mem_cons] at hf'); go_simp; first | exact ⟨(HC.out _ _).2 (hC.skip _ (by rfl)), rfl⟩ | (rw [if_neg]; (exact ⟨(HC.out _ _).2 (hC.skip _ (by rfl)), rfl⟩); omega) | (go_at_call 56; refine (HHO.out a.name _ hal hw').mono ?_; rintro e w1 ⟨rfl, hb1⟩; exact ⟨rfl, (HC.out _ _).2 ((hC.next (by first | (simp; done) | (simp; omega) | omega) hb1).skip _ (by rfl))⟩)); go_simp) | (apply flow_no; (case hw => (go_simp; try (intro hh; cases hh))); (intro L w' _ _ hC; exact (HC.out _ _).2 (((HC.out _ _).1 hC).skip _ (by rfl))); go_simp))
        refine flow_nil ?_
        intro L wz hL hz
        have hz := (HC.out _ _).1 hz
        have hbz := hz.below
        have hcz := hz.cell
        try simp only [List.forall_mem_cons] at hcz
        have hdz := hz.done
        try simp only [List.forall_mem_cons] at hdz
        (try have hwz : Below w.heap.size w wz := by first | exact Below.trans (by (repeat (first | with_reducible exact Below.refl _ _ | with_reducible assumption | with_reducible refine Below.al ?_ _ | with_reducible refine Below.sc ?_ (by first | exact Nat.le_refl _ | (simp; done) | (simp; omega)) _ | assumption | exact Below.refl _ _ | refine Below.dr ?_ | refine Below.drN ?_ _ | refine Below.step ?_ (by assumption)))) hbz | ((repeat (first | with_reducible exact Below.refl _ _ | with_reducible assumption | with_reducible refine Below.al ?_ _ | with_reducible refine Below.sc ?_ (by first | exact Nat.le_refl _ | (simp; done) | (simp; omega)) _ | assumption | exact Below.refl _ _ | refine Below.dr ?_ | refine Below.drN ?_ _ | refine Below.step ?_ (by assumption))); done))
        have HS1 := Lib.hid (HSW.out.below hbz)
      · go_wp2_with (at_builtin; refine wpList_app1 rfl (.tmp 36) (.tmp 39) _ rfl w.heap.size 9 1 16 elemStr _ _ _ rfl wz #[.string a.name] rfl _ (by simp) rfl HS1.out.row rfl (by simp [Value.oneCell']) (by omega) (by unfold maxLen; omega) (hwz.size) ?_; intro v1 w2 hown1 hg1 hnr1 hlt1)
        obtain ⟨q2, k2, rfl⟩ := own_form hown1 (Nat.succ_pos _)
        go_wp2
        refine ⟨⟨k + 1, by omega, by go_num, ?_⟩, by simp [intOf]; omega⟩
        rw [HTK.out, HN.out, if_neg (by simp)]
        refine ⟨by rw [List.length_append, strW_snoc]; exact hown1, ?_, hwz.grown hg1 hwz.size (own_base HS1.out.row)⟩
        intro s hs
        rcases List.mem_append.1 hs with hs | hs
        · exact HS1.out.sizes s hs
        · rw [List.mem_singleton] at hs; subst hs; exact hnsz
      · go_wp2
        refine ⟨⟨k + 1, by omega, by go_num, ?_⟩, by simp [intOf]; omega⟩
        rw [HTK.out, HN.out, if_pos rfl, List.append_nil]
        exact HS1.out
    · obtain rfl : k = l.length := by omega
      have hte : hs.take l.length = hs := List.take_of_length_le (by omega)
      rw [List.take_length, hte] at HST hgl
      have HR := Lib.hid (rowS_own (S := NewB w wr) HST.out.row HST.out.sizes (by unfold maxLen; omega) (fun g hg => ⟨own_base HST.out.row g hg, own_lt' HST.out.row hg⟩))
      obtain ⟨pv, cv, rfl, -⟩ := OwnRow.form HR.out
      go_wp2
      go_ret2
      exact ⟨.slice pv (staleG l l hs).length cv, by rw [HY.out]; rfl, by rw [staleF, HY.out, if_pos rfl]; exact HR.out, hb⟩
end Go.Proofs.YtimpkjiglioflaaGreatDoor
namespace Go.Proofs.YtimpkjiglioflaaGreatDoor
open Go.RowKit
set_option maxRecDepth 100000 in
set_option maxHeartbeats 3200000 in
theorem specSU_any {B : Nat → Prop} (l : List Un) (hs : List Int) (n : Nat) (va vh : Value) (w : World) (h : UnsAt (fun b => b < n) w va l) (hh : IntsAt B w vh hs) (hn : n ≤ w.heap.size) (hw : l.length + wtU l ≤ 1048576) :
    Calls Tryz.prog 18 #[va, vh] w fun e w' => ∃ v, e = .returned (.tuple #[v, .bool (staleOk l hs)]) ∧ StrsAt (NewB w w') w' v (staleF l hs) ∧ Below w.heap.size w w' := by
  obtain ⟨p, c, rfl, hlen⟩ := h.form
  obtain ⟨q, d, rfl, hlen2⟩ := hh.form
  unfold maxLen at hlen hlen2
  have H := Lib.hid h
  have HH := Lib.hid hh
  have HS := Lib.hid (show staleOk l hs = (libGood l && decide (hs.length = l.length)) from rfl)
  clear h hh
  cases hg : libGood l
  · have HG := Lib.hid hg
    have HN := Lib.hid (show staleOk l hs = false by rw [HS.out, hg]; rfl)
    go_enter Tryz.func18, Tryz.ntmps18
    go_wp2_with fail
    refine (specLib_any l _ _ (H.out.below (by (repeat (first | with_reducible exact Below.refl _ _ | with_reducible assumption | with_reducible refine Below.al ?_ _ | with_reducible refine Below.sc ?_ (by first | exact Nat.le_refl _ | (simp; done) | (simp; omega)) _ | assumption | exact Below.refl _ _ | refine Below.dr ?_ | refine Below.drN ?_ _ | refine Below.step ?_ (by assumption))))) hw).mono ?_
    rintro e w1 ⟨rfl, hb1⟩
    have ⟨cw1, fw1⟩ := bcell hb1
    have qw1 := hb1.size
    (try simp at qw1)
    (try have zw1w := bsz (show w.heap.size < w1.heap.size by omega))
    rw [HG.out]
    go_wp2
    go_ret2
    exact ⟨_, by rw [HN.out]; rfl, by rw [staleF, HN.out, if_neg (by simp)]; exact StrsAt.nil _ _ _ _, by (repeat (first | with_reducible exact Below.refl _ _ | with_reducible assumption | with_reducible refine Below.al ?_ _ | with_reducible refine Below.sc ?_ (by first | exact Nat.le_refl _ | (simp; done) | (simp; omega)) _ | assumption | exact Below.refl _ _ | refine Below.dr ?_ | refine Below.drN ?_ _ | refine Below.step ?_ (by assumption)))⟩
  have HG := Lib.hid hg
  by_cases hle : hs.length = l.length
  case neg =>
    have HN := Lib.hid (show staleOk l hs = false by rw [HS.out, hg, decide_eq_false hle]; rfl)
    have hii : ((hs.length : Int) == (l.length : Int)) = false := by rw [beq_eq_false_iff_ne]; omega
    have hij : ((hs.length : Int) != (l.length : Int)) = true := by rw [bne, hii]; rfl
    go_enter Tryz.func18, Tryz.ntmps18
    go_wp2_with fail
    refine (specLib_any l _ _ (H.out.below (by (repeat (first | with_reducible exact Below.refl _ _ | with_reducible assumption | with_reducible refine Below.al ?_ _ | with_reducible refine Below.sc ?_ (by first | exact Nat.le_refl _ | (simp; done) | (simp; omega)) _ | assumption | exact Below.refl _ _ | refine Below.dr ?_ | refine Below.drN ?_ _ | refine Below.step ?_ (by assumption))))) hw).mono ?_
    rintro e w1 ⟨rfl, hb1⟩
    have ⟨cw1, fw1⟩ := bcell hb1
    have qw1 := hb1.size
    (try simp at qw1)
    (try have zw1w := bsz (show w.heap.size < w1.heap.size by omega))
    rw [HG.out]
    go_wp2
    go_ret2
    exact ⟨_, by rw [HN.out]; rfl, by rw [staleF, HN.out, if_neg (by simp)]; exact StrsAt.nil _ _ _ _, by (repeat (first | with_reducible exact Below.refl _ _ | with_reducible assumption | with_reducible refine Below.al ?_ _ | with_reducible refine Below.sc ?_ (by first | exact Nat.le_refl _ | (simp; done) | (simp; omega)) _ | assumption | exact Below.refl _ _ | refine Below.dr ?_ | refine Below.drN ?_ _ | refine Below.step ?_ (by assumption)))⟩
  have HY := Lib.hid (show staleOk l hs = true by rw [HS.out, hg, decide_eq_true hle]; rfl)
  obtain ⟨h1, h2, h3⟩ := libGood_parts hg
  have HAL := Lib.hid (fun u (hu : u ∈ l) => full_all h2 u hu)
  have HHO := Lib.hid (fun (x : ByteArray) (w' : World) (hx : x ∈ ordL l) (hb : Below w.heap.size w w') => l27Hash_any l n h1 hw l.length x (.slice p l.length c) w' hx (idx_lt h2 hx) (H.out.below hb) (by have := hb.size; omega))
  clear h3
  go_enter Tryz.func18, Tryz.ntmps18
  go_wp2_with fail
  refine (specLib_any l _ _ (H.out.below (by (repeat (first | with_reducible exact Below.refl _ _ | with_reducible assumption | with_reducible refine Below.al ?_ _ | with_reducible refine Below.sc ?_ (by first | exact Nat.le_refl _ | (simp; done) | (simp; omega)) _ | assumption | exact Below.refl _ _ | refine Below.dr ?_ | refine Below.drN ?_ _ | refine Below.step ?_ (by assumption))))) hw).mono ?_
  rintro e w1 ⟨rfl, hb1⟩
  have ⟨cw1, fw1⟩ := bcell hb1
  have qw1 := hb1.size
  (try simp at qw1)
  (try have zw1w := bsz (show w.heap.size < w1.heap.size by omega))
  rw [HG.out, hle]
  go_wp2
  go_loopw [6, 7] (fun o i wr => ∃ k : Nat, k ≤ l.length ∧ i = .int .i64 k ∧ OrdS (staleG l (l.take k) (hs.take k)) o w wr) (fun _ i _ => l.length - (intOf i).toNat)
  case atStart => exact ⟨0, Nat.zero_le _, rfl, own_below (row_empty w w.heap.size _ 1 (Nat.le_refl _)) hb1, by simp [staleG], by (repeat (first | with_reducible exact Below.refl _ _ | with_reducible assumption | with_reducible refine Below.al ?_ _ | with_reducible refine Below.sc ?_ (by first | exact Nat.le_refl _ | (simp; done) | (simp; omega)) _ | assumption | exact Below.refl _ _ | refine Below.dr ?_ | refine Below.drN ?_ _ | refine Below.step ?_ (by assumption)))⟩
  case round =>
    obtain ⟨k, hk, rfl, hst⟩ := hrel
    have hb := hst.bel
    have HST := Lib.hid hst
    have hgl := staleG_len l (l.take k) (hs.take k)
    rw [List.length_take] at hgl
    clear hst
    by_cases hlt : k < l.length
    · have hlh : k < hs.length := by omega
      obtain ⟨b, o, rfl, hB, p1, c1, p2, c2, hx0, hx1, hx2, hx3, hx⟩ := (H.out.below hb).at_ hlt
      obtain ⟨b', o', rfl, hB', hy0, -⟩ := (HH.out.below hb).at_ hlh
      have hnsz : l[k].name.size ≤ maxLen := by obtain ⟨_, _, _, h2, _⟩ := hx; exact h2
      have HTK := Lib.hid (staleG_take hlt hlh)
      have hal := HAL.out _ (List.getElem_mem hlt)
      obtain ⟨a, ha⟩ : ∃ a, l[k] = a := ⟨_, rfl⟩
      obtain ⟨z, hz⟩ : ∃ z, hs[k] = z := ⟨_, rfl⟩
      rw [ha] at hx0 hx1 hx2 hx3 hnsz HTK hal
      rw [hz] at hy0 HTK
      clear ha hz hx hx1 hx2 hx3
      have zb := bsz (World.block_lt_of_cell? _ _ hx0)
      have zb' := bsz (World.block_lt_of_cell? _ _ hy0)
      have hki : (k : Int) < l.length := by omega
      generalize staleG l (l.take k) (hs.take k) = out at *
      go_wp2
      cases hN : (hashU l a.name == z)
      all_goals
        have HN := Lib.hid hN
        have hbn : (hashU l a.name != z) = !(hashU l a.name == z) := rfl
        rw [hN] at hbn
        have hbn2 : (hashF l.length l a.name != z) = _ := hbn
        have hN2 : (hashF l.length l a.name == z) = _ := hN
        clear hbn hN
        obtain ⟨C, HC0⟩ := class_of (InF wr.heap.size _ [(⟨b, o + k * 4, none⟩, .string a.name), (⟨b', o' + k, none⟩, .int .i64 z)] [] [])
        have HC := Lib.hid HC0
        clear HC0
        refine wp_region_flow (C := C) (by kernel_rfl) (by kernel_rfl) (fun L hL => (HC.out _ _).2 (InF.start (by first | (intro _ hs; cases hs; done) | (simp only [List.forall_mem_cons]; go_simp)) (by first | (intro _ hs; cases hs; done) | (simp only [List.forall_mem_cons]; go_simp)) (by first | (intro _ hs; cases hs; done) | (simp only [List.forall_mem_cons]; go_simp)) (by first | (intro _ hs; cases hs; done) | (simp only [List.forall_mem_cons]; go_simp)) L hL)) ?_
        repeat (first | (apply flow_free rfl; (intro L w' hun hrd hC; have hC := (HC.out _ _).1 hC; have hb' := hC.below; (try have hw' : Below w.heap.size w w' := by first | exact Below.trans (by (repeat (first | with_reducible exact Below.refl _ _ | with_reducible assumption | with_reducible refine Below.al ?_ _ | with_reducible refine Below.sc ?_ (by first | exact Nat.le_refl _ | (simp; done) | (simp; omega)) _ | assumption | exact Below.refl _ _ | refine Below.dr ?_ | refine Below.drN ?_ _ | refine Below.step ?_ (by assumption)))) hb' | ((repeat (first | with_reducible exact Below.refl _ _ | with_reducible assumption | with_reducible refine Below.al ?_ _ | with_reducible refine Below.sc ?_ (by first | exact Nat.le_refl _ | (simp; done) | (simp; omega)) _ | assumption | exact Below.refl _ _ | refine Below.dr ?_ | refine Below.drN ?_ _ | refine Below.step ?_ (by assumption))); done)); have hf' := hC.cell; (try simp only [List.forall_mem_cons] at hf'); go_simp; first | exact ⟨(HC.out _ _).2 (hC.skip _ (by rfl)), rfl⟩ | (rw [if_neg]; (exact ⟨(HC.out _ _).2 (hC.skip _ (by rfl)), rfl⟩); omega) | (go_at_call 53; refine (HHO.out a.name _ hal hw').mono ?_; rintro e w1 ⟨rfl, hb1⟩; exact ⟨rfl, (HC.out _ _).2 ((hC.next (by first | (simp; done) | (simp; omega) | omega) hb1).skip _ (by rfl))⟩)); go_simp) | (apply flow_yes; (case hw => go_simp); (intro L w' hun hrd hC; have hC := (HC.out _ _).1 hC; have hb' := hC.below; (try have hw' : Below w.heap.size w w' := by first | exact Below.trans (by (repeat (first | with_reducible exact Below.refl _ _ | with_reducible assumption | with_reducible refine Below.al ?_ _ | with_reducible refine Below.sc ?_ (by first | exact Nat.le_refl _ | (simp; done) | (simp; omega)) _ | assumption | exact Below.refl _ _ | refine Below.dr ?_ | refine Below.drN ?_ _ | refine Below.step ?_ (by assumption)))) hb' | ((repeat (first | with_reducible exact Below.refl _ _ | with_reducible assumption | with_reducible refine Below.al ?_ _ | with_reducible refine Below.sc ?_ (by first | exact Nat.le_refl _ | (simp; done) | (simp; omega)) _ | assumption | exact Below.refl _ _ | refine Below.dr ?_ | refine Below.drN ?_ _ | refine Below.step ?_ (by assumption))); done)); have hf' := hC.cell; (try simp only [List.forall_mem_cons] at hf'); go_simp; first | exact ⟨(HC.out _ _).2 (hC.skip _ (by rfl)), rfl⟩ | (rw [if_neg]; (exact ⟨(HC.out _ _).2 (hC.skip _ (by rfl)), rfl⟩); omega) | (go_at_call 53; refine (HHO.out a.name _ hal hw').mono ?_; rintro e w1 ⟨rfl, hb1⟩; exact ⟨rfl, (HC.out _ _).2 ((hC.next (by first | (simp; done) | (simp; omega) | omega) hb1).skip _ (by rfl))⟩)); go_simp) | (apply flow_no; (case hw => (go_simp; try (intro hh; cases hh))); (intro L w' _ _ hC; exact (HC.out _ _).2 (((HC.out _ _).1 hC).skip _ (by rfl))); go_simp))
        refine flow_nil ?_
        intro L wz hL hz
        have hz := (HC.out _ _).1 hz
        have hbz := hz.below
        have hcz := hz.cell
        try simp only [List.forall_mem_cons] at hcz
        have hdz := hz.done
        try simp only [List.forall_mem_cons] at hdz
        (try have hwz : Below w.heap.size w wz := by first | exact Below.trans (by (repeat (first | with_reducible exact Below.refl _ _ | with_reducible assumption | with_reducible refine Below.al ?_ _ | with_reducible refine Below.sc ?_ (by first | exact Nat.le_refl _ | (simp; done) | (simp; omega)) _ | assumption | exact Below.refl _ _ | refine Below.dr ?_ | refine Below.drN ?_ _ | refine Below.step ?_ (by assumption)))) hbz | ((repeat (first | with_reducible exact Below.refl _ _ | with_reducible assumption | with_reducible refine Below.al ?_ _ | with_reducible refine Below.sc ?_ (by first | exact Nat.le_refl _ | (simp; done) | (simp; omega)) _ | assumption | exact Below.refl _ _ | refine Below.dr ?_ | refine Below.drN ?_ _ | refine Below.step ?_ (by assumption))); done))
        have HS1 := Lib.hid (HST.out.below hbz)
        have hx0z := (hbz.cell zb.1).trans hx0
        have zbz := bsz (World.block_lt_of_cell? _ _ hx0z)
      · go_wp2_with (at_builtin; refine wpList_app1 rfl (.tmp 38) (.tmp 44) _ rfl w.heap.size 9 1 16 elemStr _ _ _ rfl wz #[.string a.name] rfl _ (by simp) rfl HS1.out.row rfl (by simp [Value.oneCell']) (by omega) (by unfold maxLen; omega) (hwz.size) ?_; intro v1 w2 hown1 hg1 hnr1 hlt1)
        obtain ⟨q2, k2, rfl⟩ := own_form hown1 (Nat.succ_pos _)
        go_wp2
        refine ⟨⟨k + 1, by omega, by go_num, ?_⟩, by simp [intOf]; omega⟩
        rw [HTK.out, HN.out, if_neg (by simp)]
        refine ⟨by rw [List.length_append, strW_snoc]; exact hown1, ?_, hwz.grown hg1 hwz.size (own_base HS1.out.row)⟩
        intro s hs
        rcases List.mem_append.1 hs with hs | hs
        · exact HS1.out.sizes s hs
        · rw [List.mem_singleton] at hs; subst hs; exact hnsz
      · go_wp2
        refine ⟨⟨k + 1, by omega, by go_num, ?_⟩, by simp [intOf]; omega⟩
        rw [HTK.out, HN.out, if_pos rfl, List.append_nil]
        exact HS1.out
    · obtain rfl : k = l.length := by omega
      have hte : hs.take l.length = hs := List.take_of_length_le (by omega)
      rw [List.take_length, hte] at HST hgl
      have HR := Lib.hid (rowS_own (S := NewB w wr) HST.out.row HST.out.sizes (by unfold maxLen; omega) (fun g hg => ⟨own_base HST.out.row g hg, own_lt' HST.out.row hg⟩))
      obtain ⟨pv, cv, rfl, -⟩ := OwnRow.form HR.out
      go_wp2
      go_ret2
      exact ⟨.slice pv (staleG l l hs).length cv, by rw [HY.out]; rfl, by rw [staleF, HY.out, if_pos rfl]; exact HR.out.at_, hb⟩
set_option maxRecDepth 100000 in
set_option maxHeartbeats 3200000 in
theorem exactSU (l : List Un) (v : Value) (is : List Int) (u : Value) (w : World) (hE : Env w) (h : UnsAt (fun b => b < w.heap.size) w v l) (hi : IntsAt (fun b => b < w.heap.size) w u is) :
    Calls Tryz.prog 5 #[v, u] w fun e w' => e = .returned (.bool true) ∧ Below w.heap.size w w' := by
  obtain ⟨p, c, rfl, hlen⟩ := h.form
  obtain ⟨q, d, rfl, hlen2⟩ := hi.form
  unfold maxLen at hlen hlen2
  have H := Lib.hid h
  have HI := Lib.hid hi
  have HE := Lib.hid hE
  clear h hi hE
  by_cases hi20 : (1048576 : Int) < is.length
  · go_enter Tryz.func5, Tryz.ntmps5
    go_wp2
    go_ret
    exact ⟨rfl, by (repeat (first | with_reducible exact Below.refl _ _ | with_reducible assumption | with_reducible refine Below.al ?_ _ | with_reducible refine Below.sc ?_ (by first | exact Nat.le_refl _ | (simp; done) | (simp; omega)) _ | assumption | exact Below.refl _ _ | refine Below.dr ?_ | refine Below.drN ?_ _ | refine Below.step ?_ (by assumption)))⟩
  by_cases hw : l.length + wtU l ≤ 1048576
  · have HR := Lib.hid (show szR 1048576 (l.length + wtU l) = 1048576 - ((l.length : Int) + (wtU l : Nat)) by rw [szR, if_pos (by omega)]; omega)
    have hw0 : ¬ (1048576 - ((l.length : Int) + (wtU l : Nat)) < 0) := by omega
    have hpp : (staleOk l is != staleOk l is) = false := by simp
    have hct := ctU_wt l
    have hll := staleF_len l is
    have his : is.length ≤ 1048576 := by omega
    go_enter Tryz.func5, Tryz.ntmps5
    go_wp2_with fail
    refine (szUnitS_any l _ _ _ (H.out.below (by (repeat (first | with_reducible exact Below.refl _ _ | with_reducible assumption | with_reducible refine Below.al ?_ _ | with_reducible refine Below.sc ?_ (by first | exact Nat.le_refl _ | (simp; done) | (simp; omega)) _ | assumption | exact Below.refl _ _ | refine Below.dr ?_ | refine Below.drN ?_ _ | refine Below.step ?_ (by assumption))))) (by omega) (by omega)).mono ?_
    rintro e w1 ⟨rfl, hb1⟩
    have ⟨cw1, fw1⟩ := bcell hb1
    have qw1 := hb1.size
    (try simp at qw1)
    (try have zw1w := bsz (show w.heap.size < w1.heap.size by omega))
    rw [HR.out]
    go_wp2_with fail
    refine (toUnitS_own l _ _ (H.out.below (by (repeat (first | with_reducible exact Below.refl _ _ | with_reducible assumption | with_reducible refine Below.al ?_ _ | with_reducible refine Below.sc ?_ (by first | exact Nat.le_refl _ | (simp; done) | (simp; omega)) _ | assumption | exact Below.refl _ _ | refine Below.dr ?_ | refine Below.drN ?_ _ | refine Below.step ?_ (by assumption))))) hw).mono ?_
    rintro e w2 ⟨g1, rfl, hu1, hb2⟩
    have ⟨cw2, fw2⟩ := bcell hb2
    have qw2 := hb2.size
    (try simp at qw2)
    (try have zw2w := bsz (show w.heap.size < w2.heap.size by omega))
    (try have zw2w1 := bsz (show w1.heap.size < w2.heap.size by omega))
    have HU1 := Lib.hid (hu1.at_.mono (B' := fun b => b < w2.heap.size) (SameOn.refl _ _) (fun b hb => hb.2))
    clear hu1
    go_wp2_with fail
    refine (toIntS_own is _ _ (HI.out.below (by (repeat (first | with_reducible exact Below.refl _ _ | with_reducible assumption | with_reducible refine Below.al ?_ _ | with_reducible refine Below.sc ?_ (by first | exact Nat.le_refl _ | (simp; done) | (simp; omega)) _ | assumption | exact Below.refl _ _ | refine Below.dr ?_ | refine Below.drN ?_ _ | refine Below.step ?_ (by assumption))))) his).mono ?_
    rintro e w3 ⟨i1, rfl, hi1, hb3⟩
    have ⟨cw3, fw3⟩ := bcell hb3
    have qw3 := hb3.size
    (try simp at qw3)
    (try have zw3w := bsz (show w.heap.size < w3.heap.size by omega))
    (try have zw3w1 := bsz (show w1.heap.size < w3.heap.size by omega))
    (try have zw3w2 := bsz (show w2.heap.size < w3.heap.size by omega))
    have HI1 := Lib.hid hi1.at_
    clear hi1
    go_wp2_with fail
    refine (specSU_any l is w2.heap.size _ _ _ (HU1.out.below (by (repeat (first | with_reducible exact Below.refl _ _ | with_reducible assumption | with_reducible refine Below.al ?_ _ | with_reducible refine Below.sc ?_ (by first | exact Nat.le_refl _ | (simp; done) | (simp; omega)) _ | assumption | exact Below.refl _ _ | refine Below.dr ?_ | refine Below.drN ?_ _ | refine Below.step ?_ (by assumption))))) HI1.out (by omega) hw).mono ?_
    rintro e w4 ⟨va, rfl, hva, hb4⟩
    have ⟨cw4, fw4⟩ := bcell hb4
    have qw4 := hb4.size
    (try simp at qw4)
    (try have zw4w := bsz (show w.heap.size < w4.heap.size by omega))
    (try have zw4w1 := bsz (show w1.heap.size < w4.heap.size by omega))
    (try have zw4w2 := bsz (show w2.heap.size < w4.heap.size by omega))
    (try have zw4w3 := bsz (show w3.heap.size < w4.heap.size by omega))
    have HA3 := Lib.hid hva
    obtain ⟨pa, ka, rfl, -⟩ := hva.form
    clear hva
    go_wp2_with fail
    refine (toUnitS_own l _ _ (H.out.below (by (repeat (first | with_reducible exact Below.refl _ _ | with_reducible assumption | with_reducible refine Below.al ?_ _ | with_reducible refine Below.sc ?_ (by first | exact Nat.le_refl _ | (simp; done) | (simp; omega)) _ | assumption | exact Below.refl _ _ | refine Below.dr ?_ | refine Below.drN ?_ _ | refine Below.step ?_ (by assumption))))) hw).mono ?_
    rintro e w5 ⟨g2, rfl, hu2, hb5⟩
    have ⟨cw5, fw5⟩ := bcell hb5
    have qw5 := hb5.size
    (try simp at qw5)
    (try have zw5w := bsz (show w.heap.size < w5.heap.size by omega))
    (try have zw5w1 := bsz (show w1.heap.size < w5.heap.size by omega))
    (try have zw5w2 := bsz (show w2.heap.size < w5.heap.size by omega))
    (try have zw5w3 := bsz (show w3.heap.size < w5.heap.size by omega))
    (try have zw5w4 := bsz (show w4.heap.size < w5.heap.size by omega))
    have HU2 := Lib.hid hu2
    clear hu2
    go_wp2_with fail
    refine (toIntS_own is _ _ (HI.out.below (by (repeat (first | with_reducible exact Below.refl _ _ | with_reducible assumption | with_reducible refine Below.al ?_ _ | with_reducible refine Below.sc ?_ (by first | exact Nat.le_refl _ | (simp; done) | (simp; omega)) _ | assumption | exact Below.refl _ _ | refine Below.dr ?_ | refine Below.drN ?_ _ | refine Below.step ?_ (by assumption))))) his).mono ?_
    rintro e w6 ⟨i2, rfl, hi2, hb6⟩
    have ⟨cw6, fw6⟩ := bcell hb6
    have qw6 := hb6.size
    (try simp at qw6)
    (try have zw6w := bsz (show w.heap.size < w6.heap.size by omega))
    (try have zw6w1 := bsz (show w1.heap.size < w6.heap.size by omega))
    (try have zw6w2 := bsz (show w2.heap.size < w6.heap.size by omega))
    (try have zw6w3 := bsz (show w3.heap.size < w6.heap.size by omega))
    (try have zw6w4 := bsz (show w4.heap.size < w6.heap.size by omega))
    (try have zw6w5 := bsz (show w5.heap.size < w6.heap.size by omega))
    have HI2 := Lib.hid hi2
    clear hi2
    go_wp2_with fail
    refine (implSU_any l is w5.heap.size _ _ _ ((HU2.out.at_.mono (B' := fun b => b < w5.heap.size) (SameOn.refl _ _) (fun b hb => hb.2)).below (by (repeat (first | with_reducible exact Below.refl _ _ | with_reducible assumption | with_reducible refine Below.al ?_ _ | with_reducible refine Below.sc ?_ (by first | exact Nat.le_refl _ | (simp; done) | (simp; omega)) _ | assumption | exact Below.refl _ _ | refine Below.dr ?_ | refine Below.drN ?_ _ | refine Below.step ?_ (by assumption))))) HI2.out.at_ (by omega) (HE.out.below (by (repeat (first | with_reducible exact Below.refl _ _ | with_reducible assumption | with_reducible refine Below.al ?_ _ | with_reducible refine Below.sc ?_ (by first | exact Nat.le_refl _ | (simp; done) | (simp; omega)) _ | assumption | exact Below.refl _ _ | refine Below.dr ?_ | refine Below.drN ?_ _ | refine Below.step ?_ (by assumption))))) hw).mono ?_
    rintro e w7 ⟨vg, rfl, hg7, hb7⟩
    have ⟨cw7, fw7⟩ := bcell hb7
    have qw7 := hb7.size
    (try simp at qw7)
    (try have zw7w := bsz (show w.heap.size < w7.heap.size by omega))
    (try have zw7w1 := bsz (show w1.heap.size < w7.heap.size by omega))
    (try have zw7w2 := bsz (show w2.heap.size < w7.heap.size by omega))
    (try have zw7w3 := bsz (show w3.heap.size < w7.heap.size by omega))
    (try have zw7w4 := bsz (show w4.heap.size < w7.heap.size by omega))
    (try have zw7w5 := bsz (show w5.heap.size < w7.heap.size by omega))
    (try have zw7w6 := bsz (show w6.heap.size < w7.heap.size by omega))
    have HG7 := Lib.hid hg7
    obtain ⟨pg, kg, rfl, -⟩ := OwnRow.form hg7
    clear hg7
    go_wp2_with fail
    refine (eqStringS_same (staleF l is) _ _ _ HG7.out.at_ (HA3.out.below (by (repeat (first | with_reducible exact Below.refl _ _ | with_reducible assumption | with_reducible refine Below.al ?_ _ | with_reducible refine Below.sc ?_ (by first | exact Nat.le_refl _ | (simp; done) | (simp; omega)) _ | assumption | exact Below.refl _ _ | refine Below.dr ?_ | refine Below.drN ?_ _ | refine Below.step ?_ (by assumption)))))).mono ?_
    rintro e w8 ⟨rfl, hb8⟩
    have ⟨cw8, fw8⟩ := bcell hb8
    have qw8 := hb8.size
    (try simp at qw8)
    (try have zw8w := bsz (show w.heap.size < w8.heap.size by omega))
    (try have zw8w1 := bsz (show w1.heap.size < w8.heap.size by omega))
    (try have zw8w2 := bsz (show w2.heap.size < w8.heap.size by omega))
    (try have zw8w3 := bsz (show w3.heap.size < w8.heap.size by omega))
    (try have zw8w4 := bsz (show w4.heap.size < w8.heap.size by omega))
    (try have zw8w5 := bsz (show w5.heap.size < w8.heap.size by omega))
    (try have zw8w6 := bsz (show w6.heap.size < w8.heap.size by omega))
    (try have zw8w7 := bsz (show w7.heap.size < w8.heap.size by omega))
    go_wp2_with fail
    refine (toUnitS_own l _ _ (H.out.below (by (repeat (first | with_reducible exact Below.refl _ _ | with_reducible assumption | with_reducible refine Below.al ?_ _ | with_reducible refine Below.sc ?_ (by first | exact Nat.le_refl _ | (simp; done) | (simp; omega)) _ | assumption | exact Below.refl _ _ | refine Below.dr ?_ | refine Below.drN ?_ _ | refine Below.step ?_ (by assumption))))) hw).mono ?_
    rintro e w9 ⟨g3, rfl, hu3, hb9⟩
    have ⟨cw9, fw9⟩ := bcell hb9
    have qw9 := hb9.size
    (try simp at qw9)
    (try have zw9w := bsz (show w.heap.size < w9.heap.size by omega))
    (try have zw9w1 := bsz (show w1.heap.size < w9.heap.size by omega))
    (try have zw9w2 := bsz (show w2.heap.size < w9.heap.size by omega))
    (try have zw9w3 := bsz (show w3.heap.size < w9.heap.size by omega))
    (try have zw9w4 := bsz (show w4.heap.size < w9.heap.size by omega))
    (try have zw9w5 := bsz (show w5.heap.size < w9.heap.size by omega))
    (try have zw9w6 := bsz (show w6.heap.size < w9.heap.size by omega))
    (try have zw9w7 := bsz (show w7.heap.size < w9.heap.size by omega))
    (try have zw9w8 := bsz (show w8.heap.size < w9.heap.size by omega))
    have HU3 := Lib.hid hu3.at_
    clear hu3
    go_wp2_with fail
    refine (eqUnitS_same l _ _ _ (HU2.out.at_.below (by (repeat (first | with_reducible exact Below.refl _ _ | with_reducible assumption | with_reducible refine Below.al ?_ _ | with_reducible refine Below.sc ?_ (by first | exact Nat.le_refl _ | (simp; done) | (simp; omega)) _ | assumption | exact Below.refl _ _ | refine Below.dr ?_ | refine Below.drN ?_ _ | refine Below.step ?_ (by assumption))))) (HU3.out.below (by (repeat (first | with_reducible exact Below.refl _ _ | with_reducible assumption | with_reducible refine Below.al ?_ _ | with_reducible refine Below.sc ?_ (by first | exact Nat.le_refl _ | (simp; done) | (simp; omega)) _ | assumption | exact Below.refl _ _ | refine Below.dr ?_ | refine Below.drN ?_ _ | refine Below.step ?_ (by assumption)))))).mono ?_
    rintro e w10 ⟨rfl, hb10⟩
    have ⟨cw10, fw10⟩ := bcell hb10
    have qw10 := hb10.size
    (try simp at qw10)
    (try have zw10w := bsz (show w.heap.size < w10.heap.size by omega))
    (try have zw10w1 := bsz (show w1.heap.size < w10.heap.size by omega))
    (try have zw10w2 := bsz (show w2.heap.size < w10.heap.size by omega))
    (try have zw10w3 := bsz (show w3.heap.size < w10.heap.size by omega))
    (try have zw10w4 := bsz (show w4.heap.size < w10.heap.size by omega))
    (try have zw10w5 := bsz (show w5.heap.size < w10.heap.size by omega))
    (try have zw10w6 := bsz (show w6.heap.size < w10.heap.size by omega))
    (try have zw10w7 := bsz (show w7.heap.size < w10.heap.size by omega))
    (try have zw10w8 := bsz (show w8.heap.size < w10.heap.size by omega))
    (try have zw10w9 := bsz (show w9.heap.size < w10.heap.size by omega))
    go_wp2_with fail
    refine (toIntS_own is _ _ (HI.out.below (by (repeat (first | with_reducible exact Below.refl _ _ | with_reducible assumption | with_reducible refine Below.al ?_ _ | with_reducible refine Below.sc ?_ (by first | exact Nat.le_refl _ | (simp; done) | (simp; omega)) _ | assumption | exact Below.refl _ _ | refine Below.dr ?_ | refine Below.drN ?_ _ | refine Below.step ?_ (by assumption))))) his).mono ?_
    rintro e w11 ⟨i3, rfl, hi3, hb11⟩
    have ⟨cw11, fw11⟩ := bcell hb11
    have qw11 := hb11.size
    (try simp at qw11)
    (try have zw11w := bsz (show w.heap.size < w11.heap.size by omega))
    (try have zw11w1 := bsz (show w1.heap.size < w11.heap.size by omega))
    (try have zw11w2 := bsz (show w2.heap.size < w11.heap.size by omega))
    (try have zw11w3 := bsz (show w3.heap.size < w11.heap.size by omega))
    (try have zw11w4 := bsz (show w4.heap.size < w11.heap.size by omega))
    (try have zw11w5 := bsz (show w5.heap.size < w11.heap.size by omega))
    (try have zw11w6 := bsz (show w6.heap.size < w11.heap.size by omega))
    (try have zw11w7 := bsz (show w7.heap.size < w11.heap.size by omega))
    (try have zw11w8 := bsz (show w8.heap.size < w11.heap.size by omega))
    (try have zw11w9 := bsz (show w9.heap.size < w11.heap.size by omega))
    (try have zw11w10 := bsz (show w10.heap.size < w11.heap.size by omega))
    have HI3 := Lib.hid hi3.at_
    clear hi3
    go_wp2_with fail
    refine (eqIntS_same is _ _ _ (HI2.out.at_.below (by (repeat (first | with_reducible exact Below.refl _ _ | with_reducible assumption | with_reducible refine Below.al ?_ _ | with_reducible refine Below.sc ?_ (by first | exact Nat.le_refl _ | (simp; done) | (simp; omega)) _ | assumption | exact Below.refl _ _ | refine Below.dr ?_ | refine Below.drN ?_ _ | refine Below.step ?_ (by assumption))))) (HI3.out.below (by (repeat (first | with_reducible exact Below.refl _ _ | with_reducible assumption | with_reducible refine Below.al ?_ _ | with_reducible refine Below.sc ?_ (by first | exact Nat.le_refl _ | (simp; done) | (simp; omega)) _ | assumption | exact Below.refl _ _ | refine Below.dr ?_ | refine Below.drN ?_ _ | refine Below.step ?_ (by assumption)))))).mono ?_
    rintro e w12 ⟨rfl, hb12⟩
    have ⟨cw12, fw12⟩ := bcell hb12
    have qw12 := hb12.size
    (try simp at qw12)
    (try have zw12w := bsz (show w.heap.size < w12.heap.size by omega))
    (try have zw12w1 := bsz (show w1.heap.size < w12.heap.size by omega))
    (try have zw12w2 := bsz (show w2.heap.size < w12.heap.size by omega))
    (try have zw12w3 := bsz (show w3.heap.size < w12.heap.size by omega))
    (try have zw12w4 := bsz (show w4.heap.size < w12.heap.size by omega))
    (try have zw12w5 := bsz (show w5.heap.size < w12.heap.size by omega))
    (try have zw12w6 := bsz (show w6.heap.size < w12.heap.size by omega))
    (try have zw12w7 := bsz (show w7.heap.size < w12.heap.size by omega))
    (try have zw12w8 := bsz (show w8.heap.size < w12.heap.size by omega))
    (try have zw12w9 := bsz (show w9.heap.size < w12.heap.size by omega))
    (try have zw12w10 := bsz (show w10.heap.size < w12.heap.size by omega))
    (try have zw12w11 := bsz (show w11.heap.size < w12.heap.size by omega))
    go_wp2_with fail
    refine (markUnitS_any _ l _ 1 _ (HU2.out.later (by (repeat (first | with_reducible exact Below.refl _ _ | with_reducible assumption | with_reducible refine Below.al ?_ _ | with_reducible refine Below.sc ?_ (by first | exact Nat.le_refl _ | (simp; done) | (simp; omega)) _ | assumption | exact Below.refl _ _ | refine Below.dr ?_ | refine Below.drN ?_ _ | refine Below.step ?_ (by assumption))))) (by decide) (by omega)).mono ?_
    rintro e wa ⟨rfl, -, hka⟩
    have hba : Below w.heap.size w wa := Kept.belowB (show Below w.heap.size w w12 by (repeat (first | with_reducible exact Below.refl _ _ | with_reducible assumption | with_reducible refine Below.al ?_ _ | with_reducible refine Below.sc ?_ (by first | exact Nat.le_refl _ | (simp; done) | (simp; omega)) _ | assumption | exact Below.refl _ _ | refine Below.dr ?_ | refine Below.drN ?_ _ | refine Below.step ?_ (by assumption)))) hka (fun b hb => by have := hb.1; omega)
    have HGa := Lib.hid ((HG7.out.later (show Below w7.heap.size w7 w12 by (repeat (first | with_reducible exact Below.refl _ _ | with_reducible assumption | with_reducible refine Below.al ?_ _ | with_reducible refine Below.sc ?_ (by first | exact Nat.le_refl _ | (simp; done) | (simp; omega)) _ | assumption | exact Below.refl _ _ | refine Below.dr ?_ | refine Below.drN ?_ _ | refine Below.step ?_ (by assumption))))).kept hka (fun b hb hb' => newB_apart hb' hb (by omega)))
    have HAa := Lib.hid ((HA3.out.below (show Below w4.heap.size w4 w12 by (repeat (first | with_reducible exact Below.refl _ _ | with_reducible assumption | with_reducible refine Below.al ?_ _ | with_reducible refine Below.sc ?_ (by first | exact Nat.le_refl _ | (simp; done) | (simp; omega)) _ | assumption | exact Below.refl _ _ | refine Below.dr ?_ | refine Below.drN ?_ _ | refine Below.step ?_ (by assumption))))).kept hka (fun b hb hb' => newB_apart hb hb' (Nat.le_refl _)))
    have HIa := Lib.hid ((HI2.out.later (show Below w6.heap.size w6 w12 by (repeat (first | with_reducible exact Below.refl _ _ | with_reducible assumption | with_reducible refine Below.al ?_ _ | with_reducible refine Below.sc ?_ (by first | exact Nat.le_refl _ | (simp; done) | (simp; omega)) _ | assumption | exact Below.refl _ _ | refine Below.dr ?_ | refine Below.drN ?_ _ | refine Below.step ?_ (by assumption))))).kept hka (fun b hb hb' => newB_apart hb' hb (Nat.le_refl _)))
    have hqa := hka.size
    clear hka
    go_wp2_with fail
    rw [show ((1 : Int) + (ctU l : Nat)) = ((1 + ctU l : Nat) : Int) by omega]
    refine (markIntS_any _ is _ (1 + ctU l) _ HIa.out (by omega)).mono ?_
    rintro e w9 ⟨rfl, -, hk9⟩
    have hb09 : Below w.heap.size w w9 := Kept.belowB hba hk9 (fun b hb => by have := hb.1; omega)
    have HG9 := Lib.hid (HGa.out.kept hk9 (fun b hb hb' => newB_apart hb' hb (Nat.le_refl _)))
    have HA9 := Lib.hid (HAa.out.kept hk9 (fun b hb hb' => newB_apart hb hb' (by omega)))
    have hq9 := hk9.size
    have hkk : ¬ ((1 : Int) + (ctU l : Nat) + (is.length : Nat) < 0) := by omega
    have z359 : w4.heap.size ≤ w6.heap.size ∧ w7.heap.size ≤ w9.heap.size := by omega
    clear hk9
    go_wp2_with fail
    refine (eqStringS_same (staleF l is) _ _ _ HG9.out.at_ HA9.out).mono ?_
    rintro e w10 ⟨rfl, hb10⟩
    have hq10 := hb10.size
    go_wp2_with fail
    refine (markStringS_any _ (staleF l is) _ 1 _ (HG9.out.later hb10) (by decide) (by omega)).mono ?_
    rintro e w11 ⟨rfl, hm11, hk11⟩
    have HM11 := Lib.hid hm11
    have hb011 : Below w.heap.size w w11 := Kept.belowB (Below.step hb09 hb10) hk11 (fun b hb => by have := hb.1; omega)
    have HA11 := Lib.hid ((HA9.out.below hb10).kept hk11 (fun b hb hb' => newB_apart hb hb' z359.1))
    have hq11 := hk11.size
    clear hm11 hk11
    have hkm : ¬ ((1 : Int) + ((staleF l is).length : Nat) < 0) := by omega
    go_wp2_with fail
    refine (heldStringS_any (staleF l is).length _ 1 _ HM11.out.at_ (by decide) (by omega)).mono ?_
    rintro e w12' ⟨rfl, hb12'⟩
    have hb012 := Below.step hb011 hb12'
    go_wp2_with fail
    refine (toUnitS_own l _ _ (H.out.below hb012) hw).mono ?_
    rintro e w13 ⟨g4, rfl, hu4, hb13⟩
    have HU4 := Lib.hid (hu4.at_.mono (B' := fun b => b < w13.heap.size) (SameOn.refl _ _) (fun b hb => hb.2))
    have hb013 := Below.step hb012 hb13
    clear hu4
    go_wp2_with fail
    refine (toIntS_own is _ _ (HI.out.below hb013) his).mono ?_
    rintro e w13' ⟨i4, rfl, hi4, hb13'⟩
    have HI4 := Lib.hid hi4.at_
    have hb013' := Below.step hb013 hb13'
    clear hi4
    go_wp2_with fail
    refine (implSU_any l is w13.heap.size _ _ _ (HU4.out.below hb13') HI4.out hb13'.size (HE.out.below hb013') hw).mono ?_
    rintro e w14 ⟨vh, rfl, hh14, hb14⟩
    have HH14 := Lib.hid hh14.at_
    obtain ⟨ph, kh, rfl, -⟩ := OwnRow.form hh14
    have hb014 := Below.step hb013' hb14
    have hb1114 := Below.step (Below.step (Below.step hb12' hb13) hb13') hb14
    clear hh14
    go_wp2_with fail
    refine (eqStringS_same (staleF l is) _ _ _ HH14.out (HA11.out.below hb1114)).mono ?_
    rintro e w15 ⟨rfl, hb15⟩
    have hb015 := Below.step hb014 hb15
    go_wp2_with fail
    refine (heldStringS_any (staleF l is).length _ 1 _ (HM11.out.at_.below (Below.step hb1114 hb15)) (by decide) (by omega)).mono ?_
    rintro e w16 ⟨rfl, hb16⟩
    go_wp2
    go_ret
    exact ⟨rfl, Below.step hb015 hb16⟩
  · have HR := Lib.hid (show szR 1048576 (l.length + wtU l) = -1 from if_neg (by omega))
    go_enter Tryz.func5, Tryz.ntmps5
    go_wp2_with fail
    refine (szUnitS_any l _ _ _ (H.out.below (by (repeat (first | with_reducible exact Below.refl _ _ | with_reducible assumption | with_reducible refine Below.al ?_ _ | with_reducible refine Below.sc ?_ (by first | exact Nat.le_refl _ | (simp; done) | (simp; omega)) _ | assumption | exact Below.refl _ _ | refine Below.dr ?_ | refine Below.drN ?_ _ | refine Below.step ?_ (by assumption))))) (by omega) (by omega)).mono ?_
    rintro e w1 ⟨rfl, hb1⟩
    have ⟨cw1, fw1⟩ := bcell hb1
    have qw1 := hb1.size
    (try simp at qw1)
    (try have zw1w := bsz (show w.heap.size < w1.heap.size by omega))
    rw [HR.out]
    go_wp2
    go_ret
    exact ⟨rfl, by (repeat (first | with_reducible exact Below.refl _ _ | with_reducible assumption | with_reducible refine Below.al ?_ _ | with_reducible refine Below.sc ?_ (by first | exact Nat.le_refl _ | (simp; done) | (simp; omega)) _ | assumption | exact Below.refl _ _ | refine Below.dr ?_ | refine Below.drN ?_ _ | refine Below.step ?_ (by assumption)))⟩
end Go.Proofs.YtimpkjiglioflaaGreatDoor
namespace Go.Proofs.YtimpkjiglioflaaGreatDoor
open Go.ChangeShapes Go.WideShapes Go.ChangeAt Go.RowKit Go.Joins
theorem own : ownKnob Tryz.prog.godebug = none := by kernel_rfl
theorem laidOut : laidOutB Tryz.prog = true := by kernel_rfl
theorem trodAll_stays {H : Type} {enc : TypeId × Value → H} {P : Program} (hl : laidOutB P = true) {W W' : World} {sp : Nat → Bool} : ∀ (ts : List TypeId) (vs : List Value) (ds : List (DataW H)) (ps : List MemPlace),
    (∀ t ∈ ts, P.readableRec t = true ∧ t < P.types.size) → DataW.TrodAll enc P W 0 (fun _ => true) true ts vs ds ps → (∀ x ∈ ps, W.sameAt W' x) → (∀ x ∈ ps, sp x.block = true) → DataW.TrodAll enc P W' 0 sp true ts vs ds ps
  | [], vs, ds, ps, _, h, _, _ => by
    cases vs <;> cases ds <;> simp_all [DataW.TrodAll]
  | t :: ts, [], ds, ps, _, h, _, _ => by simp [DataW.TrodAll] at h
  | t :: ts, v :: vs, [], ps, _, h, _, _ => by simp [DataW.TrodAll] at h
  | t :: ts, v :: vs, d :: ds, ps, ht, h, hs, hp => by
    obtain ⟨p, q, h1, h2, rfl⟩ := h
    exact ⟨p, q, WideElems.Trod_stays hl (ht t (by simp)).1 (ht t (by simp)).2 h1 (fun x hx => hs x (by simp [hx])) (fun x hx => hp x (by simp [hx])),
      trodAll_stays hl ts vs ds q (fun t h => ht t (by simp [h])) h2 (fun x hx => hs x (by simp [hx])) (fun x hx => hp x (by simp [hx])), rfl⟩
/-- The row's last step, the same for every law: it answers true, nothing that was there has turned. -/
theorem close_true {H : Type} {enc : TypeId × Value → H} {f : Func} {s : ChangeSpec} {W W' : World} {args : Array Value} {ds gs : List (DataW H)} {before : List MemPlace}
    (hW : DataW.Whole enc Tryz.prog f.params.toList s.vars false W args.toList ds gs before) (hv : s.vars = []) (hr : f.resultTypes = #[4])
    (hp : f.params.toList.all (fun t => Tryz.prog.readableRec t && decide (t < Tryz.prog.types.size)) = true) (hfn : s.fn H ds = { results := [.lit (.bool true)], args := ds }) (hb : Below W.heap.size W W') :
    s.post enc Tryz.prog f false true false false W args (.bool true) W' := by
  have hW2 := hW
  have hlt : ∀ p ∈ before, p.block < W.heap.size := fun p hp => hW.lt p hp
  obtain ⟨p, q, hA, hV, rfl, _, _⟩ := hW2
  rw [hv] at hV
  obtain ⟨rfl, rfl⟩ := trodVars_none hV
  rw [List.append_nil] at hlt
  refine ⟨ds, [], p ++ [], [], p, [], hW, ?_, ?_, ?_, hb.frame _, fun h => by cases h⟩
  · rw [List.append_nil, hfn, hr]; exact trodAll_mk1 (shut_bool Tryz.underlying4 true)
  · rw [List.append_nil, hfn]
    refine trodAll_stays laidOut _ _ _ _ (fun t ht => ?_) hA (fun x hx => hb.same (hlt x hx)) (fun x hx => by simpa using hlt x hx)
    have := List.all_eq_true.1 hp t ht
    simpa using this
  · rw [List.append_nil, hfn, hv]; rfl
def tab32 : List Int := [0, 1, 28, 2, 29, 14, 24, 3, 30, 22, 20, 15, 25, 17, 4, 8, 31, 27, 13, 23, 21, 19, 16, 7, 26, 12, 18, 6, 11, 5, 10, 9]
def tab64 : List Int := [0, 1, 56, 2, 57, 49, 28, 3, 61, 58, 42, 50, 38, 29, 17, 4, 62, 47, 59, 36, 45, 43, 51, 22, 53, 39, 33, 30, 24, 18, 12, 5, 63, 55, 48, 27, 60, 41, 37, 16, 46, 35, 44, 21, 52, 32, 23, 11, 54, 26, 40, 15, 34, 20, 31, 10, 25, 14, 19, 9, 13, 8, 7, 6]
theorem gPowType : (Tryz.prog.globals[3]?).map (·.type) = some 207 := by kernel_rfl
theorem cellsPow : Tryz.prog.cellsOf 207 = 20 := by kernel_rfl
theorem cellsU64 : Tryz.prog.cellsOf 81 = 1 := by kernel_rfl
/-- What the rows' list gives. -/
theorem env_of {W : World} (h : laidMet Tryz.prog [("math/bits.deBruijn32tab", Rows.laid_math_bits_deBruijn32tab), ("math/bits.deBruijn64tab", Rows.laid_math_bits_deBruijn64tab), ("internal/strconv.uint64pow10", Rows.laid_internal_strconv_uint64pow10)] W) (hS : W.ShapedOpen Tryz.prog) : Env W := by
  have h3 : Lib.TabIs Tryz.prog W "internal/strconv.uint64pow10" .u64 Lib.pow10Tab :=
    Lib.tabIs_of_head (rest := []) gPow10 gPowType Tryz.underlying207 Tryz.underlying81 cellsU64 cellsPow (laidMet.tail (laidMet.tail h))
  obtain ⟨m, hm⟩ : ∃ m, W.cell? ⟨0, 0, none⟩ = some (.int .i64 m) := Go.Proofs.cell_of_shapedOpen_int (zero := #[.int .i64 0]) (t := 3) hS (of_decide_eq_true (by kernel_rfl)) (by kernel_rfl) rfl (by kernel_rfl) (by kernel_rfl) Tryz.underlying3
  have hz := World.block_lt_of_cell? W _ hm
  have hm' : W.cell? ⟨0, 0, none⟩ = some (.int .i64 m) := hm
  refine ⟨⟨m, hm'⟩, h3, hz, ?_⟩
  rcases Nat.lt_or_ge 3 W.heap.size with hlt | hge
  · exact hlt
  · have h3' := h3
    unfold Lib.TabIs World.var? at h3'
    rw [gPow10] at h3'
    simp only [Option.bind_some] at h3'
    rw [Array.getElem?_eq_none hge] at h3'
    cases h3'
def layTab (k : IntKind) (zs : List Int) : Obj → Obj
  | .cells _ t frozen => .cells (zs.map fun z => Value.int k z).toArray t frozen
  | o => o
/-- A world for the witness: the settled one, the tables holding what their initialisers lay. -/
noncomputable def laidWorld (os : Os) : World :=
  { World.holding Tryz.prog os ⟨#[], #[], []⟩ with heap := (((World.holding Tryz.prog os ⟨#[], #[], []⟩).heap.modify 3 (layTab .u64 Lib.pow10Tab)).modify 4 (layTab .u8 tab32)).modify 5 (layTab .u8 tab64) }
end Go.Proofs.YtimpkjiglioflaaGreatDoor
namespace Go.Proofs.YtimpkjiglioflaaGreatDoor
open Go.RowKit Go.ChangeShapes Go.WideShapes
theorem addr_addN (b o : Nat) (i : Nat) : (⟨b, o, none⟩ : Addr).add i = ⟨b, o + i, none⟩ := by unfold Addr.add; split <;> simp_all
theorem spot_none {w : World} {a : Addr} {v : Value} (h : w.cell? a = some v) : a.spot = none := by
  unfold World.cell? at h
  split at h
  · split at h
    · cases h
    · rename_i hs; simpa using hs
  · cases h
abbrev Old (w : World) : Nat → Prop := fun b => b < w.heap.size
section
variable {H : Type} {enc : TypeId × Value → H} {P : Program} {w : World} {base : Nat} {sp : Nat → Bool} {held : Bool}
theorem listAt_open {α : Type} {R : α → List Value → Prop} {ts e : TypeId} {n fuel : Nat} {cs : List Value} {x : DataW H × List MemPlace} (ht : P.underlying ts = some (.slice e)) (hC : P.cellsOf e = n) (hn : 0 < n)
    (h : DataW.trod enc P w base sp held fuel ts cs = some x) (he : ∀ k cs y, k + 1 = fuel → DataW.trod enc P w base sp held k e cs = some y → ∃ t, R t cs) : ∃ v xs, cs = [v] ∧ ListAt (Old w) w n R v xs := by
  rcases DataW.trod_slice ht h with ⟨rfl, _⟩ | ⟨a, len, cap, elems, rest, m, rfl, rfl, rfl, hb, hl, hm, hlen, hel, _, _⟩
  · exact ⟨_, [], rfl, ListAt.nil _ _ _ _ _ _⟩
  · rw [hC] at hel
    have key : ∀ i : Fin len, ∃ (t : α) (c' : List Value), w.cells? base (a.add (i.val * n)) n = some c' ∧ R t c' := by
      intro i
      have h1 := hel i.val i.isLt
      rw [List.getElem?_eq_getElem (by rw [hlen]; exact i.isLt)] at h1
      obtain ⟨c', h2, h3⟩ := Option.bind_eq_some_iff.1 h1
      obtain ⟨t, h4⟩ := he m c' _ rfl h3
      exact ⟨t, c', h2, h4⟩
    refine ⟨_, List.ofFn (fun i => Classical.choose (key i)), rfl, some a, cap, by rw [List.length_ofFn], by rw [List.length_ofFn]; exact Nat.le_trans hl hm, fun i t hi => ?_⟩
    have hlt : i < len := by have := (List.getElem?_eq_some_iff.1 hi).1; simpa using this
    rw [List.getElem?_eq_getElem (by simpa using hlt), List.getElem_ofFn] at hi
    have ht' := Option.some.inj hi
    obtain ⟨c', h2, h4⟩ := Classical.choose_spec (key ⟨i, hlt⟩)
    rw [ht'] at h4
    obtain ⟨_, hcl, hcell⟩ := World.cells?_some h2
    obtain ⟨b, o, s⟩ := a
    have h0 := hcell 0 hn
    rw [List.getElem?_eq_getElem (by omega)] at h0
    have hs : s = none := by
      obtain ⟨c0, k2, _⟩ := Classical.choose_spec (key ⟨0, by omega⟩)
      obtain ⟨_, kl, kc⟩ := World.cells?_some k2
      have k0 := kc 0 hn
      rw [List.getElem?_eq_getElem (by omega)] at k0
      have := spot_none k0
      simpa [Addr.add] using this
    subst hs
    simp only [addr_addN] at hcell h0
    refine ⟨b, o, rfl, World.block_lt_of_cell? w _ h0, c', hcl, fun j hj => ?_, h4⟩
    have := hcell j hj
    exact this
end
section
variable {H : Type} {enc : TypeId × Value → H} {w : World} {base : Nat} {sp : Nat → Bool} {held : Bool}
set_option maxRecDepth 100000 in
theorem cellsStr : Tryz.prog.cellsOf 9 = 1 := by kernel_rfl
theorem strOne {fuel : Nat} {c : Value} {x : DataW H × List MemPlace} (h : DataW.trod enc Tryz.prog w base sp held fuel 9 [c] = some x) : ∃ s : ByteArray, c = .string s ∧ s.size ≤ maxLen := by
  obtain ⟨s, e, rfl, hs⟩ := DataW.trod_string Tryz.underlying9 h
  simp at e
  subst e
  exact ⟨s, rfl, hs⟩
end
end Go.Proofs.YtimpkjiglioflaaGreatDoor
namespace Go.Proofs.YtimpkjiglioflaaGreatDoor
open Go.RowKit Go.ChangeShapes Go.WideShapes
section
variable {H : Type} {enc : TypeId × Value → H} {w : World} {base : Nat} {sp : Nat → Bool} {held : Bool}
set_option maxRecDepth 100000 in
theorem cellsStrs : Tryz.prog.cellsOf 22 = 1 := by kernel_rfl
set_option maxRecDepth 100000 in
theorem cellsUnit : Tryz.prog.cellsOf 71 = 4 := by kernel_rfl
set_option maxRecDepth 100000 in
theorem strs_open {fuel : Nat} {c : Value} {x : DataW H × List MemPlace} (h : DataW.trod enc Tryz.prog w base sp held fuel 22 [c] = some x) : ∃ us, StrsAt (Old w) w c us := by
  obtain ⟨v, us, hv, hL⟩ := listAt_open (R := StrAt) Tryz.underlying22 cellsStr (by decide) h (fun k cs y hk hy => by
    obtain ⟨s, e, rfl, hs⟩ := DataW.trod_string Tryz.underlying9 hy
    exact ⟨s, e, hs⟩)
  cases hv
  exact ⟨us, hL⟩
set_option maxRecDepth 100000 in
theorem unit_open (fuel : Nat) (cs : List Value) (x : DataW H × List MemPlace) (h : DataW.trod enc Tryz.prog w base sp held fuel 71 cs = some x) : ∃ u, UnAt (Old w) w u cs := by
  obtain ⟨ys, n, rfl, _, hl, hyl, hf⟩ := DataW.trod_struct Tryz.underlying71 h
  rw [cellsUnit] at hl
  match cs, hl with
  | [c0, c1, c2, c3], _ =>
    have h0 := hf 0 _ rfl
    have h1 := hf 1 _ rfl
    have h2 := hf 2 _ rfl
    have h3 := hf 3 _ rfl
    rw [List.getElem?_eq_getElem (by rw [hyl]; decide)] at h0 h1 h2 h3
    obtain ⟨z0, h0'⟩ : ∃ z, DataW.trod enc Tryz.prog w base sp held n 9 [c0] = some z := ⟨ys[0]'(by rw [hyl]; decide), by rw [← h0]; simp [cellsStr]⟩
    obtain ⟨z1, h1'⟩ : ∃ z, DataW.trod enc Tryz.prog w base sp held n 22 [c1] = some z := ⟨ys[1]'(by rw [hyl]; decide), by rw [← h1]; simp [cellsStrs]⟩
    obtain ⟨z2, h2'⟩ : ∃ z, DataW.trod enc Tryz.prog w base sp held n 22 [c2] = some z := ⟨ys[2]'(by rw [hyl]; decide), by rw [← h2]; simp [cellsStrs]⟩
    obtain ⟨z3, h3'⟩ : ∃ z, DataW.trod enc Tryz.prog w base sp held n 9 [c3] = some z := ⟨ys[3]'(by rw [hyl]; decide), by rw [← h3]; simp [cellsStr]⟩
    obtain ⟨s, rfl, hs⟩ := strOne h0'
    obtain ⟨us, hus⟩ := strs_open h1'
    obtain ⟨axl, has⟩ := strs_open h2'
    obtain ⟨g, rfl, hg⟩ := strOne h3'
    exact ⟨⟨s, us, axl, g⟩, _, _, rfl, hs, hg, hus, has⟩
set_option maxRecDepth 100000 in
theorem units_arg {v : Value} {d : DataW H} {p : List MemPlace} {r : Reach} {b0 : Nat} (hv : Value.okWide Tryz.prog w r b0 30 v) (h : DataW.Trod enc Tryz.prog w base sp held 30 v d p) :
    ∃ us, UnsAt (Old w) w v us := by
  obtain ⟨a, len, cap, rfl⟩ := okWide_slice Tryz.underlying30 hv
  obtain ⟨fuel, hf⟩ := h
  obtain ⟨v, us, hv, hL⟩ := listAt_open (R := UnAt (Old w) w) Tryz.underlying30 cellsUnit (by decide) hf (fun k cs y hk hy => unit_open k cs y hy)
  cases hv
  exact ⟨us, hL⟩
end
end Go.Proofs.YtimpkjiglioflaaGreatDoor
namespace Go.Proofs.YtimpkjiglioflaaGreatDoor
open Go.RowKit Go.ChangeShapes Go.WideShapes
section
variable {H : Type} {enc : TypeId × Value → H} {w : World} {base : Nat} {sp : Nat → Bool} {held : Bool}
set_option maxRecDepth 100000 in
theorem cellsIntU : Tryz.prog.cellsOf 3 = 1 := by kernel_rfl
set_option maxRecDepth 100000 in
theorem ints_arg {v : Value} {d : DataW H} {p : List MemPlace} {r : Go.Reach} {b0 : Nat} (hv : Value.okWide Tryz.prog w r b0 38 v) (h : DataW.Trod enc Tryz.prog w base sp held 38 v d p) :
    ∃ us, IntsAt (Old w) w v us := by
  obtain ⟨a, len, cap, rfl⟩ := okWide_slice Tryz.underlying38 hv
  obtain ⟨fuel, hf⟩ := h
  obtain ⟨v, us, hv, hL⟩ := listAt_open (R := IntAt) Tryz.underlying38 cellsIntU (by decide) hf (fun k cs y hk hy => by
    obtain ⟨n, e, rfl, wk⟩ := DataW.trod_int Tryz.underlying3 hy
    exact ⟨n, e, by simpa [i64B, Lit.wf, IntKind.min, IntKind.max, IntKind.signed, IntKind.bits] using wk⟩)
  cases hv
  exact ⟨us, hL⟩
end
end Go.Proofs.YtimpkjiglioflaaGreatDoor
namespace Go.Proofs.YtimpkjiglioflaaGreatDoor.fnExactStaleUnitsLaw
open Go.ChangeShapes Go.WideShapes Go.ChangeAt Go.RowKit Go.Joins Go.ChangeMaps
set_option maxRecDepth 100000 in
theorem env {W : World} (hL : laidMetH Tryz.prog Rows.fnExactStaleUnitsRow.laid W) (hS : W.ShapedOpen Tryz.prog) : Env W := env_of hL hS
set_option maxRecDepth 100000 in
theorem contract (H : Type) (enc : TypeId × Value → H) (W : World) (base : Nat) (args : Array Value) (ds gs : List (DataW H)) (before : List MemPlace)
    (hval : ∀ (j : Nat) t v, Tryz.f5.params[j]? = some t → args[j]? = some v → Value.okWide Tryz.prog W .any base t v)
    (hW : DataW.Whole enc Tryz.prog Tryz.f5.params.toList Rows.fnExactStaleUnitsSpec.vars false W args.toList ds gs before) (hE : Env W) :
    Calls Tryz.prog 5 args W fun e W' => ∃ v, e = .returned v ∧ Rows.fnExactStaleUnitsSpec.post enc Tryz.prog Tryz.f5 false true false false W args v W' := by
  have hW' := hW
  obtain ⟨p, q, hA0, hV, rfl, hfz, hnd⟩ := hW
  have hA : DataW.TrodAll enc Tryz.prog W 0 (fun _ => true) true Tryz.f5.params.toList args.toList ds p := hA0
  rw [Tryz.params5] at hA hval
  obtain ⟨v0, vs0, d0, ds0, p0, q0, hargs, rfl, rfl, h0, r0⟩ := trodAll_cons hA
  obtain ⟨v1, vs1, d1, ds1, p1, q1, rfl, rfl, rfl, h1, r1⟩ := trodAll_cons r0
  obtain ⟨rfl, rfl, rfl⟩ := trodAll_nil r1
  obtain rfl : args = #[v0, v1] := Array.ext' hargs
  obtain ⟨us0, ht0⟩ := units_arg (hval 0 30 v0 rfl rfl) h0
  obtain ⟨is1, ht1⟩ := ints_arg (hval 1 38 v1 rfl rfl) h1
  clear hA0
  refine (exactSU us0 v0 is1 v1 W hE ht0 ht1).mono fun e W' ⟨he, hb⟩ => ?_
  subst he
  exact ⟨_, rfl, close_true hW' rfl (by kernel_rfl) (by kernel_rfl) rfl hb⟩
theorem laid_met (os : Os) : laidMet Tryz.prog Rows.fnExactStaleUnitsRow.laid ((laidWorld os).forCall (fun _ _ => 0) ⟨#[], #[.slice none 0 0, .slice none 0 0], []⟩).memory :=
  laidMet_of_run' 8 (by kernel_rfl) (by kernel_rfl)
theorem reads (os : Os) {H : Type} (enc : TypeId × Value → H) : ∃ places, DataW.whole enc Tryz.prog ((laidWorld os).forCall (fun _ _ => 0) ⟨#[], #[.slice none 0 0, .slice none 0 0], []⟩).memory Tryz.f5.params.toList Rows.fnExactStaleUnitsSpec.vars false (#[.slice none 0 0, .slice none 0 0] : Array Value).toList 8 = some ([.nil, .nil], [], places) :=
  ⟨[], by kernel_rfl⟩
set_option maxRecDepth 100000 in
theorem lifted (os : Os) (started : os.Started) (H : Type) (enc : TypeId × Value → H) (F : Stop.Interp) :
    ReturnsInHanded {} Tryz.checked os 5 .any ((OpenSpec.ofChange Rows.fnExactStaleUnitsSpec).preRow enc Tryz.prog Tryz.f5 Rows.fnExactStaleUnitsRow.domain false Rows.fnExactStaleUnitsRow.laid) (((OpenSpec.ofChange Rows.fnExactStaleUnitsSpec).at F).post enc Tryz.prog Tryz.f5 false true false false) := by
  obtain ⟨places, hx⟩ := reads os enc
  refine returnsInHanded_of_row (C := Tryz.checked) (s := OpenSpec.ofChange Rows.fnExactStaleUnitsSpec) own started (by kernel_rfl) Tryz.func5
    (witness_row_at (enc := enc) (C := Tryz.checked) false (laidWorld os) #[.slice none 0 0, .slice none 0 0] rfl (by kernel_rfl) (by kernel_rfl) (by kernel_rfl)
      (OpenSpec.preRow_of_cond 8 hx (by kernel_rfl) (fun k hk => by cases hk) (by kernel_rfl) (laid_met os))) ?_
  intro W base args ds gs before hval hW _ _ _ hL hS _
  exact contract H enc W base args ds gs before hval hW (env hL hS)
theorem said : Rows.FnExactStaleUnitsSaid :=
  OpenClaim.holds_of_cond 5 Tryz.f5 rfl rfl rfl rfl rfl rfl rfl ⟨rfl, rfl, rfl, rfl, rfl⟩ rfl rfl rfl rfl rfl (by kernel_rfl) Tryz.func5 (by kernel_rfl)
    (of_decide_eq_true (by kernel_rfl)) (by unfold Func.isWrapper; first | (rw [if_pos (by decide +kernel)]; kernel_rfl) | (rw [if_neg (by decide +kernel)]; exact ⟨rfl, rfl⟩))
    (fun os started H enc _ F => by rw [OpenClaim.pre_eq_preRow]; exact lifted os started H enc F)
theorem plain (f : FuncId) (fn : Func) (hf : Tryz.pinned.checked.prog.funcNamed "loop.example/g00892/laws.FnExactStaleUnits" = some f) (hfn : Tryz.pinned.checked.prog.funcs[f]? = some fn) :
    false = Tryz.pinned.checked.prog.looks [] ∧ ∀ (j : Nat) t, fn.params[j]? = some t → Tryz.pinned.checked.prog.wantsStandIn t = false := by
  obtain rfl : f = 5 := Option.some.inj ((show Tryz.prog.funcNamed "loop.example/g00892/laws.FnExactStaleUnits" = some 5 by kernel_rfl).symm.trans hf) |>.symm
  obtain rfl : fn = Tryz.f5 := (Option.some.inj (Tryz.func5.symm.trans hfn)).symm
  refine ⟨by kernel_rfl, fun j t ht => ?_⟩
  have hall : Tryz.f5.params.toList.all (fun t => Tryz.prog.wantsStandIn t == false) = true := by kernel_rfl
  exact beq_iff_eq.1 (List.all_eq_true.1 hall t (by simpa using Array.mem_of_getElem? ht))
theorem card : Rows.FnExactStaleUnitsCardSaid :=
  Claim7.holds_tied_plain_at .later [] _ _ _ _ said (fun _ h => by cases h) (by kernel_rfl) (fun _ h => by cases h) fnExactStaleUnits_row_tie rfl ⟨rfl, rfl⟩ (by kernel_rfl) rfl plain (by kernel_rfl)
end Go.Proofs.YtimpkjiglioflaaGreatDoor.fnExactStaleUnitsLaw
