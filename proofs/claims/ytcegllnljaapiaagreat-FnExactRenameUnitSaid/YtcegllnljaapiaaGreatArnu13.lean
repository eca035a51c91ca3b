/- slices.SortFunc of a short row of units by name. Conditions: at most twelve, no name twice. -/
import Derived.Laws.OwnMore
import Derived.Test.YtcegllnljaapiaaGreatArnu1
import Derived.Test.YtcegllnljaapiaaGreatArnu2
import Derived.Test.YtcegllnljaapiaaGreatArnu4
import Derived.Test.YtcegllnljaapiaaGreatArnu11
import Derived.Test.YtcegllnljaapiaaGreatArnu12
namespace Go.Proofs.YtcegllnljaapiaaGreat
open Go.RowKit
theorem StrOwn.kept {e : TypeId} {S K : Nat → Prop} {w w' : World} {us : List ByteArray} {v : Value} (h : StrOwn e S w us v) (hk : Kept K w w') (hd : ∀ b, S b → ¬ K b) : StrOwn e S w' us v := h.mono (fun b hb hlt => hk.block b hlt (hd b hb)) (fun _ h => h)
def MarkURel (S : Nat → Prop) (us : List Un) (v : Value) (k : Nat) (w : World) (kv i : Value) (wr : World) : Prop :=
  ∃ j : Nat, i = .int .i64 (j : Nat) ∧ kv = .int .i64 ((k + ctU (us.take j) : Nat) : Int) ∧ j ≤ us.length ∧ UnsOwn 9 79 S wr (mksU k (us.take j) ++ us.drop j) v ∧ Kept S w wr
set_option maxRecDepth 100000 in
set_option maxHeartbeats 3200000 in
theorem markUnitS_any (S : Nat → Prop) (us : List Un) (v : Value) (k : Nat) (w : World) (h : UnsOwn 9 79 S w us v) (hk : 0 < k) (hb : k + ctU us ≤ 100000000) :
  Calls Tryz.prog 22 #[v, .int .i64 (k : Nat)] w fun e w' => e = .returned (.int .i64 ((k + ctU us : Nat) : Int)) ∧ UnsOwn 9 79 S w' (mksU k us) v ∧ Kept S w w' := by
  obtain ⟨p, c, rfl, hlen⟩ := OwnRow.form h
  unfold maxLen at hlen
  have H := Lib.hid h
  clear h
  go_enter Tryz.func22, Tryz.ntmps22
  go_wp2
  go_loopw [1, 5] (MarkURel S us (.slice p us.length c) k w) (fun _ i _ => us.length - (intOf i).toNat)
  case atStart => exact ⟨0, rfl, rfl, Nat.zero_le _, H.out, Kept.refl _ _⟩
  case round =>
    obtain ⟨j, rfl, rfl, hju, hrow, hkp⟩ := hrel
    have HKP := Lib.hid hkp
    clear hkp
    have hlj : (mksU k (us.take j)).length = j := by rw [mksU_len, List.length_take]; omega
    by_cases hlt : j < us.length
    · have hx : (mksU k (us.take j) ++ us.drop j)[j]? = some us[j] := by rw [List.getElem?_append_right (by omega), hlj, Nat.sub_self, List.getElem?_drop, Nat.add_zero, List.getElem?_eq_getElem hlt]
      obtain ⟨g, cap, cs, Si, cur, hv, hSg, hh, hcl, hsz, hcs, hR, hSi, hclose⟩ := OwnRow.elem hrow hx
      have HCL := Lib.hid hclose
      clear hrow hclose hx
      have hset : ∀ y, (mksU k (us.take j) ++ us.drop j).set j y = (mksU k (us.take j) ++ [y]) ++ us.drop (j + 1) := fun y => by
        rw [List.set_append_right _ _ (by omega), hlj, Nat.sub_self, List.append_assoc, List.singleton_append]
        have e := List.drop_eq_getElem_cons hlt
        rw [e]; rfl
      have HSET := Lib.hid hset
      have hct := ctU_take hlt
      have hcl2 := ctU_le us (j + 1)
      have HTK := Lib.hid (List.take_succ_eq_append_getElem hlt)
      clear hset
      generalize us[j] = a at *
      obtain ⟨va, vb, S1, S2, rfl, hn, hgs, ho1, ho2, hs1, hs2, hdis⟩ := hR
      obtain ⟨p1, c1, rfl, hl1⟩ := OwnRow.form ho1
      obtain ⟨p2, c2, rfl, hl2⟩ := OwnRow.form ho2
      simp only [Value.slice.injEq] at hv
      obtain ⟨rfl, -, rfl⟩ := hv
      have HO1 := Lib.hid ho1
      have HO2 := Lib.hid ho2
      have HHH := Lib.hid hh
      have HD := Lib.hid (And.intro hs1 (And.intro hs2 hdis))
      have hca : a.ct = 2 + a.incs.length + a.axs.length := rfl
      have c0 : wr.cell? ⟨g, j * 4, none⟩ = some (.string a.name) := (cell_of_row wr g _ cur _ (0, 0) hh).trans (hcs 0 (by omega))
      have c1' : wr.cell? ⟨g, j * 4 + 1, none⟩ = some (.slice p1 a.incs.length c1) := (cell_of_row wr g _ cur _ (0, 0) hh).trans (hcs 1 (by omega))
      have c2' : wr.cell? ⟨g, j * 4 + 2, none⟩ = some (.slice p2 a.axs.length c2) := (cell_of_row wr g _ cur _ (0, 0) hh).trans (hcs 2 (by omega))
      have c3 : wr.cell? ⟨g, j * 4 + 3, none⟩ = some (.string a.goal) := (cell_of_row wr g _ cur _ (0, 0) hh).trans (hcs 3 (by omega))
      have cf : ∀ i, wr.frozen? ⟨g, i, none⟩ = false := fun i => frozen_of_row wr g i _ _ hh
      have hgl := bsz (blk_lt hh)
      have hng1 : ¬ S1 g := fun e => (hSi g (hs1 g e)).2 rfl
      have hng2 : ¬ S2 g := fun e => (hSi g (hs2 g e)).2 rfl
      clear hh ho1 ho2 hs1 hs2 hdis
      obtain ⟨q, hq⟩ : ∃ q, k + ctU (us.take j) = q := ⟨_, rfl⟩
      have hct2 : k + ctU (us.take (j + 1)) = q + a.ct := by omega
      rw [hq]
      have HQ := Lib.hid hq
      clear hq
      go_wp2_with fail
      refine (markText_any q _ (by omega) (by omega)).mono ?_
      rintro e w1 ⟨rfl, hb1⟩
      have ⟨cb, fb⟩ := bcell hb1
      have hq1 := hb1.size
      have hg1 := bsz (show g < w1.heap.size by omega)
      go_wp2_with fail
      rw [show ((q : Int) + 1) = ((q + 1 : Nat) : Int) by omega]
      obtain ⟨W2, hW2⟩ : ∃ W2, W2 = w1.setCell ⟨g, j * 4, none⟩ (.string (markB q)) := ⟨_, rfl⟩
      rw [← hW2]
      have hg2 : W2.heap[g]? = some (.cells (cur.setIfInBounds (j * 4 + 0) (.string (markB q))) 79 (0, 0)) := by
        rw [hW2]; exact heap_setCell_same w1 g (j * 4 + 0) cur _ _ ((hb1.block g hgl.1).trans HHH.out)
      have hS2 : SameOn (fun b => b ≠ g) wr W2 := fun b hb hlt => by rw [hW2]; exact (heap_setCell_other w1 ⟨g, j * 4, none⟩ b _ (fun e => hb e)).trans (hb1.block b hlt)
      have hz2 : W2.heap.size = w1.heap.size := by rw [hW2]; simp
      have hK2 : Kept S wr W2 := by rw [hW2]; exact ((Kept.refl S wr).below hb1).set hSg _ _
      clear hW2
      refine (markStringS_any S1 a.incs _ (q + 1) W2 (HO1.out.mono (fun b hb hlt => hS2 b (fun e => hng1 (e ▸ hb)) hlt) (fun _ h => h)) (by omega) (by omega)).mono ?_
      rintro e w3 ⟨rfl, ho3, hk3⟩
      have HO3 := Lib.hid ho3
      have hq3 := hk3.size
      have hg3 : w3.heap[g]? = _ := (hk3.block g (by omega) hng1).trans hg2
      have d2 : w3.cell? ⟨g, j * 4 + 2, none⟩ = some (.slice p2 a.axs.length c2) := by
        rw [cell_of_row w3 g _ _ _ (0, 0) hg3, Array.getElem?_setIfInBounds_ne (by omega)]; exact hcs 2 (by omega)
      have hgl3 := bsz (show g < w3.heap.size by omega)
      clear ho3
      go_wp2_with fail
      rw [show ((q : Int) + 1 + (a.incs.length : Int)) = ((q + 1 + a.incs.length : Nat) : Int) by omega]
      refine (markStringS_any S2 a.axs _ (q + 1 + a.incs.length) w3 ((HO2.out.mono (fun b hb hlt => hS2 b (fun e => hng2 (e ▸ hb)) hlt) (fun _ h => h)).kept hk3 (fun b h2 h1 => HD.out.2.2 b h1 h2)) (by omega) (by omega)).mono ?_
      rintro e w4 ⟨rfl, ho4, hk4⟩
      have HO4 := Lib.hid ho4
      have hq4 := hk4.size
      have hg4 : w4.heap[g]? = _ := (hk4.block g (by omega) hng2).trans hg3
      have hgl4 := bsz (show g < w4.heap.size by omega)
      clear ho4
      go_wp2_with fail
      rw [show ((q : Int) + 1 + (a.incs.length : Int) + (a.axs.length : Int)) = ((q + 1 + a.incs.length + a.axs.length : Nat) : Int) by omega]
      refine (markText_any (q + 1 + a.incs.length + a.axs.length) _ (by omega) (by omega)).mono ?_
      rintro e w5 ⟨rfl, hb5⟩
      have hq5 := hb5.size
      have hgl5 := bsz (show g < w5.heap.size by omega)
      have hg5 : w5.heap[g]? = _ := (hb5.block g (by omega)).trans hg4
      have d5 : w5.cell? ⟨g, j * 4 + 3, none⟩ = some (.string a.goal) := by
        rw [cell_of_row w5 g _ _ _ (0, 0) hg5, Array.getElem?_setIfInBounds_ne (by omega)]; exact hcs 3 (by omega)
      have f5 : w5.frozen? ⟨g, j * 4 + 3, none⟩ = false := frozen_of_row w5 g _ _ _ hg5
      go_wp2
      have hg6 := heap_setCell_same w5 g (j * 4 + 3) _ 79 (.string (markB (q + 1 + a.incs.length + a.axs.length))) hg5
      have hpt : Patch cur ((cur.setIfInBounds (j * 4 + 0) (.string (markB q))).setIfInBounds (j * 4 + 3) (.string (markB (q + 1 + a.incs.length + a.axs.length)))) (j * 4) [.string (markB q), .slice p1 a.incs.length c1, .slice p2 a.axs.length c2, .string (markB (q + 1 + a.incs.length + a.axs.length))] :=
        Patch.set (cs := [.string (markB q), .slice p1 a.incs.length c1, .slice p2 a.axs.length c2, .string a.goal]) (Patch.set (cs := [.string a.name, .slice p1 a.incs.length c1, .slice p2 a.axs.length c2, .string a.goal]) (Patch.refl hcs) (j := 0) (by simp) hsz _) (j := 3) (by simp) hsz _
      refine ⟨⟨j + 1, by go_num, ?_, by omega, ?_, ?_⟩, by simp [intOf]; omega⟩
      · exact congrArg (Value.int .i64) (by have := HQ.out; omega)
      · rw [HTK.out, mksU_snoc, HQ.out, ← HSET.out]
        refine HCL.out _ (a.mkd q) _ _ (fun T u cs => UnOwn 9 T _ u cs) rfl hg6 hpt ⟨_, _, S1, S2, rfl, markB_size q (by omega), markB_size _ (by omega), ?_, ?_, HD.out.1, HD.out.2.1, HD.out.2.2⟩ (fun T y cs hT hy => hy.mono (fun b hb hlt => ?_) (fun _ h => h))
        · exact ((HO3.out.kept hk4 (fun b h1 h2 => HD.out.2.2 b h1 h2)).later hb5).mono (fun b hb _ => heap_setCell_other w5 ⟨g, j * 4 + 3, none⟩ b _ (fun e => hng1 (by rw [← show b = g from e]; exact hb))) (fun _ h => h)
        · exact (HO4.out.later hb5).mono (fun b hb _ => heap_setCell_other w5 ⟨g, j * 4 + 3, none⟩ b _ (fun e => hng2 (by rw [← show b = g from e]; exact hb))) (fun _ h => h)
        · obtain ⟨hb1', hb2', hb3'⟩ := hT b hb
          exact (heap_setCell_other w5 ⟨g, j * 4 + 3, none⟩ b _ (fun e => hb2' e)).trans ((hb5.block b (by omega)).trans ((hk4.block b (by omega) (fun e => hb3' (HD.out.2.1 b e))).trans ((hk3.block b (by omega) (fun e => hb3' (HD.out.1 b e))).trans (hS2 b hb2' hlt))))
      · exact HKP.out.trans (((hK2.trans (hk3.mono (fun b hb => (hSi b (HD.out.1 b hb)).1))).trans (hk4.mono (fun b hb => (hSi b (HD.out.2.1 b hb)).1))).below hb5 |>.set hSg _ _)
    · obtain rfl : j = us.length := by omega
      rw [List.drop_length, List.append_nil, List.take_length] at hrow
      have HRW := Lib.hid hrow
      rw [List.take_length]
      clear hrow
      go_wp2
      go_ret
      exact ⟨rfl, HRW.out, HKP.out⟩
end Go.Proofs.YtcegllnljaapiaaGreat
namespace Go.Proofs.YtcegllnljaapiaaGreat
open Go.RowKit
theorem ctU_wt : ∀ us : List Un, ctU us ≤ 2 * us.length + wtU us
  | [] => by simp [ctU]
  | u :: us => by
    have := ctU_wt us
    rw [ctU, wtU, List.length_cons]
    have h1 : u.ct = 2 + u.incs.length + u.axs.length := rfl
    have h2 : u.wt = u.name.size + (u.incs.length + wtS u.incs) + (u.axs.length + wtS u.axs) + u.goal.size := rfl
    omega
end Go.Proofs.YtcegllnljaapiaaGreat
namespace Go.Proofs.YtcegllnljaapiaaGreat
open Go.RowKit
theorem Kept.belowB {K : Nat → Prop} {a w w' : World} (hb : Below a.heap.size a w) (hk : Kept K w w') (hK : ∀ b, K b → a.heap.size ≤ b) : Below a.heap.size a w' :=
  ⟨hk.os.trans hb.os, hk.tape.trans hb.tape, hk.output.trans hb.output, Nat.le_trans hb.size hk.size, fun b hlt => (hk.block b (Nat.lt_of_lt_of_le hlt hb.size) (fun e => by have := hK b e; omega)).trans (hb.block b hlt)⟩
theorem UnsAt.kept {B K : Nat → Prop} {w w' : World} {v : Value} {us : List Un} (h : UnsAt B w v us) (hk : Kept K w w') (hd : ∀ b, B b → ¬ K b) : UnsAt B w' v us := h.mono (fun b hb hlt => hk.block b hlt (hd b hb)) (fun _ h => h)
theorem newB_apart {a b c d : World} {k : Nat} (h : NewB a b k) (h2 : NewB c d k) (hz : b.heap.size ≤ c.heap.size) : False := by
  have := h.2; have := h2.1; omega
end Go.Proofs.YtcegllnljaapiaaGreat
namespace Go.Proofs.YtcegllnljaapiaaGreat
open Go.RowKit
def unitOf (l : List Un) (x : ByteArray) : Bool := libGood l && (placeU l x).isSome
theorem libGood_parts {l : List Un} (h : libGood l = true) : Dist l ∧ (ordL l).length = l.length ∧ ∀ u ∈ l, u.good = true := by
  rw [libGood, Bool.and_eq_true, Bool.and_eq_true] at h
  exact ⟨unitsF_dist l none h.1.1, of_decide_eq_true h.2, unitsF_good l none h.1.1⟩
set_option maxRecDepth 100000 in
set_option maxHeartbeats 800000 in
theorem isUnitOf_any {B : Nat → Prop} (l : List Un) (va : Value) (x : ByteArray) (w : World) (h : UnsAt B w va l) (hw : l.length + wtU l ≤ 1048576) :
    Calls Tryz.prog 45 #[va, .string x] w fun e w' => e = .returned (.bool (unitOf l x)) ∧ Below w.heap.size w w' := by
  obtain ⟨p, c, rfl, hlen⟩ := h.form
  have H := Lib.hid h
  have HU := Lib.hid (show unitOf l x = (libGood l && (placeU l x).isSome) from rfl)
  clear h
  go_enter Tryz.func45, Tryz.ntmps45
  go_wp2_with fail
  refine (implLib_any l _ _ (H.out.below (by (repeat (first | with_reducible exact Below.refl _ _ | with_reducible assumption | with_reducible refine Below.al ?_ _ | with_reducible refine Below.sc ?_ (by first | exact Nat.le_refl _ | (simp; done) | (simp; omega)) _ | assumption | exact Below.refl _ _ | refine Below.dr ?_ | refine Below.drN ?_ _ | refine Below.step ?_ (by assumption))))) hw).mono ?_
  rintro e w1 ⟨rfl, hb1⟩
  have ⟨cw1, fw1⟩ := bcell hb1
  have qw1 := hb1.size
  (try simp at qw1)
  (try have zw1w := bsz (show w.heap.size < w1.heap.size by omega))
  cases hg : libGood l
  · have HG := Lib.hid hg
    go_wp2
    go_ret
    exact ⟨ret_bool (by rw [HU.out, HG.out]; rfl), by (repeat (first | with_reducible exact Below.refl _ _ | with_reducible assumption | with_reducible refine Below.al ?_ _ | with_reducible refine Below.sc ?_ (by first | exact Nat.le_refl _ | (simp; done) | (simp; omega)) _ | assumption | exact Below.refl _ _ | refine Below.dr ?_ | refine Below.drN ?_ _ | refine Below.step ?_ (by assumption)))⟩
  · have HG := Lib.hid hg
    go_wp2_with fail
    refine (unitAt_any l _ x _ (H.out.below (by (repeat (first | with_reducible exact Below.refl _ _ | with_reducible assumption | with_reducible refine Below.al ?_ _ | with_reducible refine Below.sc ?_ (by first | exact Nat.le_refl _ | (simp; done) | (simp; omega)) _ | assumption | exact Below.refl _ _ | refine Below.dr ?_ | refine Below.drN ?_ _ | refine Below.step ?_ (by assumption)))))).mono ?_
    rintro e w2 ⟨r, rfl, hr, hb2⟩
    have HR := Lib.hid (show decide (0 ≤ r) = unitOf l x by rw [hr, atI_neg, HU.out, HG.out, Bool.true_and])
    clear hr
    go_wp2
    go_ret
    exact ⟨ret_bool HR.out, by (repeat (first | with_reducible exact Below.refl _ _ | with_reducible assumption | with_reducible refine Below.al ?_ _ | with_reducible refine Below.sc ?_ (by first | exact Nat.le_refl _ | (simp; done) | (simp; omega)) _ | assumption | exact Below.refl _ _ | refine Below.dr ?_ | refine Below.drN ?_ _ | refine Below.step ?_ (by assumption)))⟩
end Go.Proofs.YtcegllnljaapiaaGreat
namespace Go.Proofs.YtcegllnljaapiaaGreat
def renS (old name x : ByteArray) : ByteArray := if x = old then name else x
def renI (old name : ByteArray) (l : List ByteArray) : List ByteArray := l.map (renS old name)
def renUn (old name : ByteArray) (u : Un) : Un := ⟨renS old name u.name, canG lessB (renI old name u.incs), u.axs, u.goal⟩
def renL (old name : ByteArray) (l : List Un) : List Un := canG lessU (l.map (renUn old name))
def renOk (l : List Un) (old name : ByteArray) : Bool := unitOf l old && (placeU l name).isNone && symB name.data.toList
def renV (l : List Un) (old name : ByteArray) : List Un := if renOk l old name then renL old name l else []
theorem renS_inj {old name x y : ByteArray} (hx : x ≠ name) (hy : y ≠ name) (h : renS old name x = renS old name y) : x = y := by
  unfold renS at h
  split at h <;> split at h
  · rename_i h1 h2; rw [h1, h2]
  · exact absurd h.symm hy
  · exact absurd h hx
  · exact h
theorem nodup_map_on {α β : Type} {f : α → β} {l : List α} (hd : l.Nodup) (hf : ∀ x ∈ l, ∀ y ∈ l, f x = f y → x = y) : (l.map f).Nodup := by
  rw [List.Nodup, List.pairwise_map]
  exact List.Pairwise.imp_of_mem (fun ha hb hne h => hne (hf _ ha _ hb h)) hd
theorem namesF_asc : ∀ (l : List ByteArray) (p : ByteArray), namesF (some p) l = true → ∀ x ∈ l, lessB p x = true
  | [], _, _, _, hx => by simp at hx
  | a :: l, p, h, x, hx => by
    rw [namesF, Bool.and_eq_true, Bool.and_eq_true] at h
    rcases List.mem_cons.1 hx with rfl | hx
    · exact h.1.2
    · exact less_trans _ _ _ h.1.2 (namesF_asc l a h.2 x hx)
theorem namesF_asc' : ∀ (l : List ByteArray) (p : Option ByteArray), namesF p l = true → Asc lessB l
  | [], _, _ => List.Pairwise.nil
  | a :: l, p, h => by
    rw [namesF, Bool.and_eq_true, Bool.and_eq_true] at h
    rw [Asc, List.pairwise_cons]
    exact ⟨namesF_asc l a h.2, namesF_asc' l _ h.2⟩
theorem asc_nodup {l : List ByteArray} (h : Asc lessB l) : l.Nodup := by
  refine List.Pairwise.imp ?_ h
  intro a b hab e
  rw [e, strictS.irr] at hab; cases hab
theorem good_incs {u : Un} (h : u.good = true) : u.incs.length ≤ 12 ∧ namesF none u.incs = true := by
  unfold Un.good at h
  simp only [Bool.and_eq_true, decide_eq_true_eq] at h
  exact ⟨h.1.1.1.1.2, h.1.1.1.2⟩
theorem place_not {l : List Un} {x : ByteArray} (h : (placeU l x).isNone = true) : ∀ u ∈ l, u.name ≠ x := by
  have h0 : placeU l x = none := by simpa using h
  have h1 := place_none.1 h0
  rw [findU, List.find?_eq_none] at h1
  intro u hu e
  exact absurd (decide_eq_true e) (h1 u hu)
/-- What a unit includes is a unit. -/
theorem incs_names {l : List Un} (hd : Dist l) (hf : (ordL l).length = l.length) {u : Un} (hu : u ∈ l) {x : ByteArray} (hx : x ∈ u.incs) : ∃ v ∈ l, v.name = x := by
  have h1 := full_all hf u hu
  have h2 := incs_rank hd (ordL_inv l) h1 (y := x) (by rw [incsOf, findU_of hd hu]; exact hx)
  obtain ⟨v, hv, e⟩ := List.mem_map.1 ((ordL_inv l).sub x h2.1)
  exact ⟨v, hv, e⟩
theorem libGood_len {l : List Un} (h : libGood l = true) : l.length ≤ 12 := by
  rw [libGood, Bool.and_eq_true, Bool.and_eq_true] at h
  exact of_decide_eq_true h.1.2
section
variable {l : List Un} {old name : ByteArray}
theorem ren_incs (hg : libGood l = true) (hn : ∀ u ∈ l, u.name ≠ name) {u : Un} (hu : u ∈ l) : (renI old name u.incs).Nodup ∧ (renI old name u.incs).length ≤ 12 ∧ u.incs.Nodup ∧ ∀ x ∈ u.incs, x ≠ name := by
  obtain ⟨hd, hf, hgd⟩ := libGood_parts hg
  obtain ⟨h1, h2⟩ := good_incs (hgd u hu)
  have h3 : ∀ x ∈ u.incs, x ≠ name := fun x hx => by
    obtain ⟨v, hv, rfl⟩ := incs_names hd hf hu hx
    exact hn v hv
  have h4 := asc_nodup (namesF_asc' _ _ h2)
  exact ⟨nodup_map_on h4 fun x hx y hy h => renS_inj (h3 x hx) (h3 y hy) h, by rw [renI, List.length_map]; exact h1, h4, h3⟩
theorem ren_names (hg : libGood l = true) (hn : ∀ u ∈ l, u.name ≠ name) : ((l.map (renUn old name)).map Un.name).Nodup := by
  obtain ⟨hd, -, -⟩ := libGood_parts hg
  have : (l.map (renUn old name)).map Un.name = (l.map Un.name).map (renS old name) := by rw [List.map_map, List.map_map]; rfl
  rw [this]
  refine nodup_map_on hd fun x hx y hy h => ?_
  obtain ⟨u, hu, rfl⟩ := List.mem_map.1 hx
  obtain ⟨v, hv, rfl⟩ := List.mem_map.1 hy
  exact renS_inj (hn u hu) (hn v hv) h
theorem renL_len (l : List Un) : (renL old name l).length = l.length := by rw [renL, canG_len, List.length_map]
end
/-- Sorting goes with a map that keeps the order. -/
theorem insG_map {α β : Type} {lt : α → α → Bool} {lt' : β → β → Bool} {f : α → β} (h : ∀ x y, lt' (f x) (f y) = lt x y) (l : List α) (x : α) : (insG lt l x).map f = insG lt' (l.map f) (f x) := by
  have hp : ((fun y => lt' y (f x)) ∘ f) = fun y => lt y x := by funext y; exact h y x
  rw [insG, insG, List.map_append, List.map_cons, List.takeWhile_map, List.dropWhile_map, hp]
theorem foldG_map {α β : Type} {lt : α → α → Bool} {lt' : β → β → Bool} {f : α → β} (h : ∀ x y, lt' (f x) (f y) = lt x y) : ∀ (l out : List α), (l.foldl (insG lt) out).map f = (l.map f).foldl (insG lt') (out.map f)
  | [], out => rfl
  | x :: l, out => by rw [List.foldl_cons, foldG_map h l, insG_map h, List.map_cons, List.foldl_cons]
theorem canG_map {α β : Type} {lt : α → α → Bool} {lt' : β → β → Bool} {f : α → β} (h : ∀ x y, lt' (f x) (f y) = lt x y) (l : List α) : (canG lt l).map f = canG lt' (l.map f) := foldG_map h l []
/-! ### Sizes -/
theorem wtS_canG (l : List ByteArray) : wtS (canG lessB l) = wtS l := by
  have app : ∀ a b : List ByteArray, wtS (a ++ b) = wtS a + wtS b := fun a b => by
    induction a with
    | nil => simp [wtS]
    | cons x a ih => rw [List.cons_append, wtS, wtS, ih]; omega
  have ins : ∀ (out : List ByteArray) (x : ByteArray), wtS (insG lessB out x) = wtS out + x.size := fun out x => by
    have := congrArg wtS (List.takeWhile_append_dropWhile (p := fun y => lessB y x) (l := out))
    rw [app] at this
    rw [insG, app, wtS]; omega
  have fold : ∀ (l out : List ByteArray), wtS (l.foldl (insG lessB) out) = wtS out + wtS l := fun l => by
    induction l with
    | nil => intro out; simp [wtS]
    | cons x l ih => intro out; rw [List.foldl_cons, ih, ins, wtS]; omega
  rw [canG, fold]; simp [wtS]
theorem renS_size (old name x : ByteArray) : (renS old name x).size ≤ x.size + name.size := by unfold renS; split <;> omega
theorem wtS_renI (old name : ByteArray) : ∀ l : List ByteArray, wtS (renI old name l) ≤ wtS l + name.size * l.length
  | [] => by simp [renI, wtS]
  | a :: l => by
    have h1 := wtS_renI old name l
    have h2 := renS_size old name a
    rw [renI] at h1
    rw [renI, List.map_cons, wtS, wtS, List.length_cons, Nat.mul_succ]; omega
end Go.Proofs.YtcegllnljaapiaaGreat
namespace Go.Proofs.YtcegllnljaapiaaGreat
open Go.RowKit
theorem own_lenU {w : World} {base : Nat} {e : TypeId} {size : Nat} {v : Value} {n : Nat} {xs : List Value} (h : w.ownsRow base e size v n xs) : n ≤ maxLen := by
  rcases h.2 with ⟨_, rfl⟩ | ⟨g, cap, cur, _, _, _, h1, h2, _⟩
  · exact Nat.zero_le _
  · exact Nat.le_trans h1 h2
section
variable {e eU : TypeId} {W0 wr w2 : World} {k : Nat} {u : Un} {va vb v' : Value} {r : ByteArray}
theorem newRow_ne {H b : Nat} {v v' : Value} (hn : NewRow v v' H) (hb : b < H) (hv : v.ownBlock ≠ some b) : v'.ownBlock ≠ some b := fun hg => by
  rcases hn with h | ⟨g, h, hge⟩
  · exact hv (h ▸ hg)
  · rw [h] at hg; injection hg with hg; omega
end
end Go.Proofs.YtcegllnljaapiaaGreat
namespace Go.Proofs.YtcegllnljaapiaaGreat
open Go.RowKit
/-! ### An append of what a slice reads -/
/-- A slice whose cells read as given. -/
def SrcIs (w : World) (size : Nat) (v : Value) (m : Nat) (news : List Value) : Prop :=
  (v = .slice none 0 0 ∧ m = 0 ∧ news = []) ∨ ∃ (b o c : Nat), v = .slice (some ⟨b, o, none⟩) m c ∧ news.length = m * size ∧ ∀ (j : Nat) (u : Value), news[j]? = some u → w.cell? ⟨b, o + j, none⟩ = some u
theorem run_app {P : Program} (w : World) (t ty e : TypeId) (size bytes : Nat) (hE : Elem P t e size bytes) (base : Nat) (v : Value) (n : Nat) (xs : List Value) (hown : w.ownsRow base e size v n xs) (v2 : Value) (m : Nat) (news : List Value) (hsrc : SrcIs w size v2 m news) (h1 : ∀ u ∈ news, u.oneCell' = true)
    (h63 : n + m ≤ maxLen) (hbytes : (n + m) * bytes ≤ 140737488355328) (hbase : base ≤ w.heap.size) :
    ∃ v' w', (Builtin.append_ #[t, t] ty #[v, v2]).run P w = .ok v' w' ∧ w'.ownsRow base e size v' (n + m) (xs ++ news) ∧ w.grownBy w' v.ownBlock ∧ NewRow v v' w.heap.size := by
  obtain ⟨ht, i, z, hi, hz, hsz, hby, hzs, hpos⟩ := hE
  rcases hsrc with ⟨rfl, rfl, rfl⟩ | ⟨b, o, c, rfl, hl, hc⟩
  · refine ⟨v, w, run_append_owned_none (P := P) w base t ty e i size ht hi v n xs hown, by simpa using hown, ⟨rfl, rfl, rfl, Nat.le_refl _, fun _ _ _ => rfl⟩, .inl rfl⟩
  · obtain ⟨v', w', hr, h2, h3, _, h5⟩ := run_append_own_at (P := P) w base t ty e i z size bytes ht hi hz hsz hby hzs hpos v n xs hown ⟨b, o, none⟩ m c news hl (fun j u hu => by
      have : ((⟨b, o, none⟩ : Addr).add j) = ⟨b, o + j, none⟩ := by unfold Addr.add; split <;> simp_all
      rw [this]; exact hc j u hu) h1 h63 hbytes hbase
    refine ⟨v', w', hr, h2, h3, ?_⟩
    rcases h5 with h5 | h5
    · exact .inl h5
    · exact .inr ⟨_, h5, Nat.le_refl _⟩
/-- .. as an operation of a chain. -/
theorem each_app {P : Program} {w : World} {o : Oper} {a : Act} {E : Value → World → Prop} (s x : Operand) (t : TypeId) (ho : o.op = .call { callee := .builtin .append, args := #[s, x], argTypes := #[t, t] })
    (base : Nat) (e : TypeId) (size bytes : Nat) (hE : Elem P t e size bytes)
    (v : Value) (n : Nat) (xs : List Value) (hs : a.eval s = v) (v2 : Value) (m : Nat) (news : List Value) (hx : a.eval x = v2) (hsrc : SrcIs w size v2 m news)
    (hown : w.ownsRow base e size v n xs) (h1 : ∀ u ∈ news, u.oneCell' = true) (hbytes : (n + m) * bytes ≤ 140737488355328) (h63 : n + m ≤ maxLen) (hbase : base ≤ w.heap.size)
    (h : ∀ v' w', w'.ownsRow base e size v' (n + m) (xs ++ news) → w.grownBy w' v.ownBlock → NewRow v v' w.heap.size → E v' w') : eachUpon P E ((execOp a.eval o).run P w) := by
  obtain ⟨v', w', hrun, h2, h3, h4⟩ := run_app (P := P) w t o.type e size bytes hE base v n xs hown v2 m news hsrc h1 h63 hbytes hbase
  unfold execOp
  simp only [ho, resolve, invoke, builtin, Sem.run_bind, Sem.run_pure, Result.andThen_ok, List.map_toArray, List.map_cons, List.map_nil, hs, hx, hrun]
  exact h v' w' h2 h3 h4
/-- What an owned row reads, up to k and from k on. -/
theorem src_head {w : World} {base : Nat} {e : TypeId} {size n c k : Nat} {g : Nat} {xs : List Value} (h : w.ownsRow base e size (.slice (some ⟨g, 0, none⟩) n c) n xs) (hk : k ≤ n) (c' : Nat) : SrcIs w size (.slice (some ⟨g, 0, none⟩) k c') k (xs.take (k * size)) := by
  have hks : k * size ≤ n * size := Nat.mul_le_mul_right _ hk
  refine .inr ⟨g, 0, c', rfl, by rw [List.length_take, h.1]; omega, fun j u hu => ?_⟩
  rw [List.getElem?_take] at hu
  split at hu
  · rw [Nat.zero_add, h.cellAt j (by omega)]; exact hu
  · cases hu
theorem src_tail {w : World} {base : Nat} {e : TypeId} {size n c k : Nat} {g : Nat} {xs : List Value} (h : w.ownsRow base e size (.slice (some ⟨g, 0, none⟩) n c) n xs) (hk : k ≤ n) (c' : Nat) : SrcIs w size (.slice (some ⟨g, k * size, none⟩) (n - k) c') (n - k) (xs.drop (k * size)) := by
  have hks : k * size ≤ n * size := Nat.mul_le_mul_right _ hk
  refine .inr ⟨g, k * size, c', rfl, by rw [List.length_drop, h.1, Nat.sub_mul], fun j u hu => ?_⟩
  rw [List.getElem?_drop] at hu
  have hlt : k * size + j < xs.length := (List.getElem?_eq_some_iff.1 hu).1
  rw [h.cellAt _ (by rw [← h.1]; exact hlt)]; exact hu
/-- What texts in memory read. -/
theorem src_strs {B : Nat → Prop} {w : World} {v : Value} {us : List ByteArray} (h : StrsAt B w v us) (hv : v = .slice none 0 0 ∨ ∃ b o c, v = .slice (some ⟨b, o, none⟩) us.length c) : SrcIs w 1 v us.length (strW us) := by
  rcases hv with rfl | ⟨b, o, c, rfl⟩
  · obtain ⟨p, d, he, hl, -⟩ := h
    simp only [Value.slice.injEq] at he
    obtain ⟨-, he, -⟩ := he
    obtain rfl : us = [] := List.eq_nil_of_length_eq_zero he.symm
    exact .inl ⟨rfl, rfl, rfl⟩
  · refine .inr ⟨b, o, c, rfl, by simp [strW], fun j u hu => ?_⟩
    rw [strW, List.getElem?_map] at hu
    cases hj : us[j]? with
    | none => rw [hj] at hu; cases hu
    | some s =>
      rw [hj] at hu
      obtain rfl : Value.string s = u := Option.some.inj hu
      obtain ⟨hlt, rfl⟩ := List.getElem?_eq_some_iff.1 hj
      obtain ⟨b', o', e1, -, hc, -⟩ := h.at_ hlt
      injection e1 with e1
      injection e1 with e2 e3
      subst e2 e3
      exact hc
theorem src_block {w : World} {size q : Nat} {cs : Array Value} {e : TypeId} (h : w.heap[q]? = some (.cells cs e (0, 0))) (hs : cs.size = size) : SrcIs w size (.slice (some ⟨q, 0, none⟩) 1 1) 1 cs.toList := by
  refine .inr ⟨q, 0, 1, rfl, by rw [Array.length_toList]; omega, fun j u hu => ?_⟩
  rw [Nat.zero_add, cell_of_row w q j cs e (0, 0) h]
  simpa using hu
theorem srcNil {w : World} {size g o c m : Nat} (hm : m = 0) : SrcIs w size (.slice (some ⟨g, o, none⟩) 0 c) m [] := by
  subst hm
  exact .inr ⟨g, o, c, rfl, by simp, fun j u h => by simp at h⟩
theorem SrcIs.below {w w' : World} {size m : Nat} {v : Value} {news : List Value} (h : SrcIs w size v m news) (hb : Below w.heap.size w w') : SrcIs w' size v m news := by
  rcases h with h | ⟨b, o, c, h1, h2, h3⟩
  · exact .inl h
  · exact .inr ⟨b, o, c, h1, h2, fun j u hu => (hb.cell (World.block_lt_of_cell? w _ (h3 j u hu))).trans (h3 j u hu)⟩
/-! ### Units with rows of their own -/
theorem canG_perm {α : Type} {lt : α → α → Bool} (l : List α) : (canG lt l).Perm l := by
  have ins : ∀ (out : List α) (x : α), (insG lt out x).Perm (x :: out) := fun out x => by
    have := List.takeWhile_append_dropWhile (p := fun y => lt y x) (l := out)
    rw [insG]
    refine List.perm_middle.trans ?_
    rw [this]
  have fold : ∀ (l out : List α), (l.foldl (insG lt) out).Perm (out ++ l) := fun l => by
    induction l with
    | nil => intro out; simp
    | cons x l ih =>
      intro out
      rw [List.foldl_cons]
      refine (ih _).trans (((ins out x).append_right l).trans ?_)
      exact (List.perm_middle (a := x) (l₁ := out) (l₂ := l)).symm
  have := fold l []
  rw [List.nil_append] at this
  exact this
def UC.S (x : UC) (b : Nat) : Prop := (Value.slice x.p x.u.incs.length x.c).ownBlock = some b ∨ (Value.slice x.q x.u.axs.length x.d).ownBlock = some b
/-- The rows of one unit. -/
structure UC.Own (e : TypeId) (base : Nat) (w : World) (x : UC) : Prop where
  ra : w.ownsRow base e 1 (.slice x.p x.u.incs.length x.c) x.u.incs.length (strW x.u.incs)
  rb : w.ownsRow base e 1 (.slice x.q x.u.axs.length x.d) x.u.axs.length (strW x.u.axs)
  ap : ∀ g, (Value.slice x.p x.u.incs.length x.c).ownBlock = some g → (Value.slice x.q x.u.axs.length x.d).ownBlock ≠ some g
theorem UC.Own.blk {e : TypeId} {base : Nat} {w : World} {x : UC} (h : x.Own e base w) {b : Nat} (hb : x.S b) : base ≤ b ∧ b < w.heap.size := by
  rcases hb with hb | hb
  · exact ⟨own_base h.ra b hb, own_lt' h.ra hb⟩
  · exact ⟨own_base h.rb b hb, own_lt' h.rb hb⟩
theorem UC.Own.same {e : TypeId} {base : Nat} {w w' : World} {x : UC} (h : x.Own e base w) (hs : ∀ b, x.S b → b < w.heap.size → w'.heap[b]? = w.heap[b]?) : x.Own e base w' :=
  ⟨own_same h.ra fun g hg hl => hs g (.inl hg) hl, own_same h.rb fun g hg hl => hs g (.inr hg) hl, h.ap⟩
theorem UC.Own.un {e : TypeId} {base : Nat} {w : World} {x : UC} (h : x.Own e base w) (hn : x.u.name.size ≤ maxLen) (hg : x.u.goal.size ≤ maxLen) (hi : ∀ s ∈ x.u.incs, s.size ≤ maxLen) (ha : ∀ s ∈ x.u.axs, s.size ≤ maxLen) : UnOwn e x.S w x.u x.cs :=
  ⟨_, _, fun b => (Value.slice x.p x.u.incs.length x.c).ownBlock = some b, fun b => (Value.slice x.q x.u.axs.length x.d).ownBlock = some b, rfl, hn, hg, rowS_own h.ra hi (own_lenU h.ra) (fun _ h => h), rowS_own h.rb ha (own_lenU h.rb) (fun _ h => h), fun _ h => .inl h, fun _ h => .inr h, h.ap⟩
/-- Units in a row ov: their own rows lie apart from each other and from the row. -/
structure Uns (e : TypeId) (base : Nat) (w : World) (ov : Value) (D : List UC) : Prop where
  each : ∀ x ∈ D, x.Own e base w
  far : ∀ x ∈ D, ∀ b, x.S b → ov.ownBlock ≠ some b
  pair : D.Pairwise fun x y => ∀ b, x.S b → ¬ y.S b
section
variable {e eU : TypeId} {base : Nat} {w w' : World} {ov ov' : Value} {D D' : List UC}
theorem Uns.nil (e : TypeId) (base : Nat) (w : World) (ov : Value) : Uns e base w ov [] := ⟨fun _ h => (by cases h), fun _ h => (by cases h), List.Pairwise.nil⟩
theorem Uns.perm (h : Uns e base w ov D) (hp : D'.Perm D) : Uns e base w ov D' :=
  ⟨fun x hx => h.each x (hp.mem_iff.1 hx), fun x hx => h.far x (hp.mem_iff.1 hx), (List.Perm.pairwise_iff (fun hab b h1 h2 => hab b h2 h1) hp).2 h.pair⟩
theorem Uns.grown (h : Uns e base w ov D) (hg : w.grownBy w' ov.ownBlock) (hn : NewRow ov ov' w.heap.size) : Uns e base w' ov' D :=
  ⟨fun x hx => (h.each x hx).same fun b hb hl => hg.block b hl (fun e => h.far x hx b hb e.symm), fun x hx b hb => newRow_ne hn ((h.each x hx).blk hb).2 (h.far x hx b hb), h.pair⟩
theorem Uns.below (h : Uns e base w ov D) (hb : Below w.heap.size w w') : Uns e base w' ov D :=
  ⟨fun x hx => (h.each x hx).same fun b _ hl => hb.block b hl, h.far, h.pair⟩
theorem Uns.snoc (h : Uns e base w ov D) {x : UC} (hx : x.Own e base w) (hf : ∀ b, x.S b → ov.ownBlock ≠ some b) (hd : ∀ y ∈ D, ∀ b, y.S b → ¬ x.S b) : Uns e base w ov (D ++ [x]) := by
  refine ⟨fun y hy => ?_, fun y hy => ?_, ?_⟩
  · rcases List.mem_append.1 hy with hy | hy
    · exact h.each y hy
    · obtain rfl : y = x := by simpa using hy
      exact hx
  · rcases List.mem_append.1 hy with hy | hy
    · exact h.far y hy
    · obtain rfl : y = x := by simpa using hy
      exact hf
  · rw [List.pairwise_append]
    exact ⟨h.pair, by simp, fun a ha b hb => by obtain rfl : b = x := by simpa using hb
                                                exact hd a ha⟩
theorem flatU_cut (D : List UC) {i : Nat} {x : UC} (h : D[i]? = some x) : ((flatU D).drop (i * 4)).take 4 = x.cs := by
  obtain ⟨hi, rfl⟩ := List.getElem?_eq_some_iff.1 h
  have hl : (flatU (D.take i)).length = i * 4 := by rw [flatU_len, List.length_take]; congr 1; omega
  have e : D = D.take i ++ D[i] :: D.drop (i + 1) := by rw [← List.drop_eq_getElem_cons hi, List.take_append_drop]
  have e3 : flatU D = flatU (D.take i) ++ (D[i].cs ++ flatU (D.drop (i + 1))) := by
    conv => lhs; rw [e]
    rw [flatU_app]; rfl
  rw [e3, List.drop_append_of_le_length (by omega), ← hl, List.drop_length, List.nil_append]
  rw [List.take_append_of_le_length (by show 4 ≤ 4; omega)]
  rfl
/-- The row as units that own their memory. -/
theorem Uns.own {S : Nat → Prop} {us : List Un} (h : Uns e base w ov D) (hr : w.ownsRow base eU 4 ov us.length (flatU D)) (hu : D.map UC.u = us) (hm : us.length ≤ maxLen) (hz : ∀ u ∈ us, u.wt ≤ maxLen) (hS : ∀ b, base ≤ b → b < w.heap.size → S b) : UnsOwn e eU S w us ov := by
  subst hu
  have hlt : ∀ {i : Nat} {x : UC}, D[i]? = some x → x ∈ D := fun h => List.mem_of_getElem? h
  refine ⟨hm, flatU D, fun i b => ∃ x, D[i]? = some x ∧ x.S b, own_lower hr (Nat.zero_le _), fun g hg => hS g (own_base hr g hg) (own_lt' hr hg), fun i u hi => ?_, fun i j b hi hj hij => ?_⟩
  · rw [List.getElem?_map] at hi
    cases hx : D[i]? with
    | none => rw [hx] at hi; cases hi
    | some x =>
      rw [hx] at hi
      obtain rfl : x.u = u := Option.some.inj hi
      have hw := hz x.u (List.mem_map.2 ⟨x, hlt hx, rfl⟩)
      have hw2 : x.u.wt = x.u.name.size + (x.u.incs.length + wtS x.u.incs) + (x.u.axs.length + wtS x.u.axs) + x.u.goal.size := rfl
      refine ⟨?_, fun b ⟨y, hy, hb⟩ => ?_⟩
      · rw [flatU_cut D hx]
        refine ((h.each x (hlt hx)).un (by omega) (by omega) (fun s hs => ?_) (fun s hs => ?_)).mono (SameOn.refl _ _) (fun b hb => ⟨x, hx, hb⟩)
        · have := wtS_le _ s hs; omega
        · have := wtS_le _ s hs; omega
      · obtain rfl : x = y := Option.some.inj (hx.symm.trans hy)
        have := (h.each x (hlt hx)).blk hb
        exact ⟨hS b this.1 this.2, h.far x (hlt hx) b hb⟩
  · rintro ⟨x, hx, hb⟩ ⟨y, hy, hb2⟩
    rw [List.length_map] at hi hj
    obtain ⟨_, rfl⟩ := List.getElem?_eq_some_iff.1 hx
    obtain ⟨_, rfl⟩ := List.getElem?_eq_some_iff.1 hy
    rcases Nat.lt_or_gt_of_ne hij with hlt' | hlt'
    · exact List.pairwise_iff_getElem.1 h.pair i j hi hj hlt' b hb hb2
    · exact List.pairwise_iff_getElem.1 h.pair j i hj hi hlt' b hb2 hb
end
end Go.Proofs.YtcegllnljaapiaaGreat
namespace Go.Proofs.YtcegllnljaapiaaGreat
open Go.RowKit
theorem after_eq {o : Oper} {u u' : Nat → Value} {p : Nat} (hu : ∀ e ∈ o.after, Region.binds .any e = true → u' e.on = u e.on) (h : (o.after.any fun e => Region.binds .any e && e.on == p) = true) : u' p = u p := by
  obtain ⟨e, he1, he2⟩ := Array.any_eq_true'.1 h
  simp only [Bool.and_eq_true, beq_iff_eq] at he2
  rw [← he2.2]; exact hu e he1 he2.1
theorem after_behind {o : Oper} {L : Array Bool} {p : Nat} (hb : Behind .any o L) (h : (o.after.any fun e => Region.binds .any e && e.on == p) = true) : L.getD p false = true := by
  obtain ⟨e, he1, he2⟩ := Array.any_eq_true'.1 h
  simp only [Bool.and_eq_true, beq_iff_eq] at he2
  rw [← he2.2]; exact hb e he1 he2.1
theorem getD_now {L : Array Bool} {k : Nat} (h : L.getD k true = false) : (L.setIfInBounds k true).getD k false = true := by
  have hlt : k < L.size := by
    rcases Nat.lt_or_ge k L.size with h' | h'
    · exact h'
    · simp [Array.getElem?_eq_none h'] at h
  simp [hlt]
/-- Operations 0 (the empty row), 4 (what stands ahead), 6 (the element's own slice), 7 (the element), 11 (what stands behind), 12 (the answer). -/
structure InsD (e : TypeId) (sz : Nat) (W : World) (i n : Nat) (A B : List Value) (cs : Array Value) (u : Nat → Value) (L : Array Bool) (w : World) : Prop where
  bel : Below W.heap.size W w
  o4 : L.getD 4 false = true → L.getD 0 false = true
  o7 : L.getD 7 false = true → L.getD 4 false = true ∧ L.getD 6 false = true
  o11 : L.getD 11 false = true → L.getD 7 false = true
  o12 : L.getD 12 false = true → L.getD 11 false = true
  r0 : L.getD 0 false = true → L.getD 4 false = false → w.ownsRow W.heap.size e sz (u 0) 0 []
  r4 : L.getD 4 false = true → L.getD 7 false = false → w.ownsRow W.heap.size e sz (u 4) i A
  r6 : L.getD 6 false = true → L.getD 7 false = false → ∃ g, u 6 = .slice (some ⟨g, 0, none⟩) 1 1 ∧ w.heap[g]? = some (.cells cs e (0, 0)) ∧ (L.getD 0 false = true → L.getD 4 false = false → (u 0).ownBlock ≠ some g) ∧ (L.getD 4 false = true → (u 4).ownBlock ≠ some g)
  r7 : L.getD 7 false = true → L.getD 11 false = false → w.ownsRow W.heap.size e sz (u 7) (i + 1) (A ++ cs.toList)
  r11 : L.getD 11 false = true → w.ownsRow W.heap.size e sz (u 11) n (A ++ cs.toList ++ B)
  r12 : L.getD 12 false = true → u 12 = u 11
section
variable {e : TypeId} {sz : Nat} {W w w' : World} {i n : Nat} {A B : List Value} {cs : Array Value} {u : Nat → Value} {L : Array Bool} {v' : Value}
theorem InsD.start (hL : ∀ i, L.getD i false = false) : InsD e sz W i n A B cs (fun _ => undef) L W.drew := by
  refine ⟨(Below.refl _ _).drew, ?_, ?_, ?_, ?_, ?_, ?_, ?_, ?_, ?_, ?_⟩ <;> (intro h; exact absurd h (by rw [hL]; decide))
theorem InsD.other (h : InsD e sz W i n A B cs u L w) (k : Nat) (hk : k ∉ [0, 4, 6, 7, 11, 12]) : InsD e sz W i n A B cs u (L.setIfInBounds k true) w := by
  simp only [List.mem_cons, List.not_mem_nil, or_false, not_or] at hk
  obtain ⟨k0, k4, k6, k7, k11, k12⟩ := hk
  obtain ⟨h1, h2, h3, h4, h5, h6, h7, h8, h9, h10, h11⟩ := h
  refine ⟨h1, ?_, ?_, ?_, ?_, ?_, ?_, ?_, ?_, ?_, ?_⟩ <;> simp only [getD_set_ne false k0, getD_set_ne false k4, getD_set_ne false k6, getD_set_ne false k7, getD_set_ne false k11, getD_set_ne false k12] <;> assumption
theorem InsD.b0 (h : InsD e sz W i n A B cs u L w) (hun : L.getD 0 true = false) : InsD e sz W i n A B cs (upd u 0 (.slice (some ⟨w.heap.size, 0, none⟩) 0 0)) (L.setIfInBounds 0 true) (w.alloc (.cells #[] e)) := by
  have hb := (Below.refl w.heap.size w).alloc (Nat.le_refl _) (.cells #[] e)
  have hn := getD_tf hun
  obtain ⟨h1, h2, h3, h4, h5, h6, h7, h8, h9, h10, h11⟩ := h
  refine ⟨h1.alloc h1.size _, ?_, ?_, ?_, ?_, ?_, ?_, ?_, ?_, ?_, ?_⟩ <;> simp only [getD_set_ne false (show (0 : Nat) ≠ 4 by decide), getD_set_ne false (show (0 : Nat) ≠ 6 by decide), getD_set_ne false (show (0 : Nat) ≠ 7 by decide), getD_set_ne false (show (0 : Nat) ≠ 11 by decide), getD_set_ne false (show (0 : Nat) ≠ 12 by decide), getD_now hun, upd_same, upd_other u _ (show (4 : Nat) ≠ 0 by decide), upd_other u _ (show (6 : Nat) ≠ 0 by decide), upd_other u _ (show (7 : Nat) ≠ 0 by decide), upd_other u _ (show (11 : Nat) ≠ 0 by decide), upd_other u _ (show (12 : Nat) ≠ 0 by decide)]
  · intro _; trivial
  · exact h3
  · exact h4
  · exact h5
  · intro _ _; exact row_empty w _ e sz h1.size
  · intro a b; exact own_below (h7 a b) hb
  · intro a b
    obtain ⟨g, e1, e2, e3, e4⟩ := h8 a b
    have hg := blk_lt e2
    exact ⟨g, e1, (hb.block g hg).trans e2, fun _ _ => by simp only [Value.ownBlock, ne_eq, Option.some.injEq]; omega, e4⟩
  · intro a b; exact own_below (h9 a b) hb
  · intro a; exact own_below (h10 a) hb
  · exact h11
theorem InsD.a4 (h : InsD e sz W i n A B cs u L w) (hun : L.getD 4 true = false) (h0 : L.getD 0 false = true) (hr : w'.ownsRow W.heap.size e sz v' (0 + i) ([] ++ A)) (hg : w.grownBy w' (u 0).ownBlock) (hnr : NewRow (u 0) v' w.heap.size) : InsD e sz W i n A B cs (upd u 4 v') (L.setIfInBounds 4 true) w' := by
  have hn := getD_tf hun
  obtain ⟨h1, h2, h3, h4, h5, h6, h7, h8, h9, h10, h11⟩ := h
  have n7 : L.getD 7 false = false := by
    cases h' : L.getD 7 false with
    | false => rfl
    | true => have := (h3 h').1; rw [hn] at this; cases this
  have n11 : L.getD 11 false = false := by
    cases h' : L.getD 11 false with
    | false => rfl
    | true => have := h4 h'; rw [n7] at this; cases this
  have n12 : L.getD 12 false = false := by
    cases h' : L.getD 12 false with
    | false => rfl
    | true => have := h5 h'; rw [n11] at this; cases this
  have ho := h6 h0 hn
  rw [Nat.zero_add, List.nil_append] at hr
  refine ⟨h1.grown hg h1.size (fun k hk => own_base ho k hk), ?_, ?_, ?_, ?_, ?_, ?_, ?_, ?_, ?_, ?_⟩ <;> simp only [getD_set_ne false (show (4 : Nat) ≠ 0 by decide), getD_set_ne false (show (4 : Nat) ≠ 6 by decide), getD_set_ne false (show (4 : Nat) ≠ 7 by decide), getD_set_ne false (show (4 : Nat) ≠ 11 by decide), getD_set_ne false (show (4 : Nat) ≠ 12 by decide), getD_now hun, n7, n11, n12, upd_same, upd_other u _ (show (0 : Nat) ≠ 4 by decide), upd_other u _ (show (6 : Nat) ≠ 4 by decide), upd_other u _ (show (7 : Nat) ≠ 4 by decide), upd_other u _ (show (11 : Nat) ≠ 4 by decide), upd_other u _ (show (12 : Nat) ≠ 4 by decide)]
  · intro _; exact h0
  · intro h; cases h
  · intro h; cases h
  · intro h; cases h
  · intro _ h; cases h
  · intro _ _; exact hr
  · intro a _
    obtain ⟨g, e1, e2, e3, e4⟩ := h8 a n7
    have hgl := blk_lt e2
    refine ⟨g, e1, (hg.block g hgl (fun e => e3 h0 hn e.symm)).trans e2, fun _ h => (by cases h), fun _ => newRow_ne hnr hgl (e3 h0 hn)⟩
  · intro h; cases h
  · intro h; cases h
  · intro h; cases h
theorem InsD.b6 (h : InsD e sz W i n A B cs u L w) (hun : L.getD 6 true = false) : InsD e sz W i n A B cs (upd u 6 (.slice (some ⟨w.heap.size, 0, none⟩) 1 1)) (L.setIfInBounds 6 true) (w.alloc (.cells cs e)) := by
  have hb := (Below.refl w.heap.size w).alloc (Nat.le_refl _) (.cells cs e)
  have hn := getD_tf hun
  obtain ⟨h1, h2, h3, h4, h5, h6, h7, h8, h9, h10, h11⟩ := h
  have n7 : L.getD 7 false = false := by
    cases h' : L.getD 7 false with
    | false => rfl
    | true => have := (h3 h').2; rw [hn] at this; cases this
  refine ⟨h1.alloc h1.size _, ?_, ?_, ?_, ?_, ?_, ?_, ?_, ?_, ?_, ?_⟩ <;> simp only [getD_set_ne false (show (6 : Nat) ≠ 4 by decide), getD_set_ne false (show (6 : Nat) ≠ 0 by decide), getD_set_ne false (show (6 : Nat) ≠ 7 by decide), getD_set_ne false (show (6 : Nat) ≠ 11 by decide), getD_set_ne false (show (6 : Nat) ≠ 12 by decide), getD_now hun, upd_same, upd_other u _ (show (4 : Nat) ≠ 6 by decide), upd_other u _ (show (0 : Nat) ≠ 6 by decide), upd_other u _ (show (7 : Nat) ≠ 6 by decide), upd_other u _ (show (11 : Nat) ≠ 6 by decide), upd_other u _ (show (12 : Nat) ≠ 6 by decide)]
  · exact h2
  · intro h; rw [n7] at h; cases h
  · exact h4
  · exact h5
  · intro a b; exact own_below (h6 a b) hb
  · intro a b; exact own_below (h7 a b) hb
  · intro _ _
    exact ⟨_, rfl, heap_alloc_new w _, fun a b => (fun e => by have := own_lt' (h6 a b) e; omega), fun a => (fun e => by have := own_lt' (h7 a n7) e; omega)⟩
  · intro a b; exact own_below (h9 a b) hb
  · intro a; exact own_below (h10 a) hb
  · exact h11
theorem InsD.a7 (h : InsD e sz W i n A B cs u L w) (hun : L.getD 7 true = false) (k4 : L.getD 4 false = true) (k6 : L.getD 6 false = true) (hr : w'.ownsRow W.heap.size e sz v' (i + 1) (A ++ cs.toList)) (hg : w.grownBy w' (u 4).ownBlock) : InsD e sz W i n A B cs (upd u 7 v') (L.setIfInBounds 7 true) w' := by
  have hn := getD_tf hun
  obtain ⟨h1, h2, h3, h4, h5, h6, h7, h8, h9, h10, h11⟩ := h
  have n11 : L.getD 11 false = false := by
    cases h' : L.getD 11 false with
    | false => rfl
    | true => have := h4 h'; rw [hn] at this; cases this
  have n12 : L.getD 12 false = false := by
    cases h' : L.getD 12 false with
    | false => rfl
    | true => have := h5 h'; rw [n11] at this; cases this
  have ho := h7 k4 hn
  refine ⟨h1.grown hg h1.size (fun k hk => own_base ho k hk), ?_, ?_, ?_, ?_, ?_, ?_, ?_, ?_, ?_, ?_⟩ <;> simp only [getD_set_ne false (show (7 : Nat) ≠ 0 by decide), getD_set_ne false (show (7 : Nat) ≠ 6 by decide), getD_set_ne false (show (7 : Nat) ≠ 4 by decide), getD_set_ne false (show (7 : Nat) ≠ 11 by decide), getD_set_ne false (show (7 : Nat) ≠ 12 by decide), getD_now hun, n11, n12, k4, k6, upd_same, upd_other u _ (show (0 : Nat) ≠ 7 by decide), upd_other u _ (show (6 : Nat) ≠ 7 by decide), upd_other u _ (show (4 : Nat) ≠ 7 by decide), upd_other u _ (show (11 : Nat) ≠ 7 by decide), upd_other u _ (show (12 : Nat) ≠ 7 by decide)]
  · intro _; exact h2 k4
  · intro _; exact ⟨trivial, trivial⟩
  · intro h; cases h
  · intro h; cases h
  · intro _ h; cases h
  · intro _ h; cases h
  · intro _ h; cases h
  · intro _ _; exact hr
  · intro h; cases h
  · intro h; cases h
theorem InsD.a11 (h : InsD e sz W i n A B cs u L w) (hun : L.getD 11 true = false) (k7 : L.getD 7 false = true) (hr : w'.ownsRow W.heap.size e sz v' n (A ++ cs.toList ++ B)) (hg : w.grownBy w' (u 7).ownBlock) : InsD e sz W i n A B cs (upd u 11 v') (L.setIfInBounds 11 true) w' := by
  have hn := getD_tf hun
  obtain ⟨h1, h2, h3, h4, h5, h6, h7, h8, h9, h10, h11⟩ := h
  have n12 : L.getD 12 false = false := by
    cases h' : L.getD 12 false with
    | false => rfl
    | true => have := h5 h'; rw [hn] at this; cases this
  have ho := h9 k7 hn
  obtain ⟨k4, k6⟩ := h3 k7
  refine ⟨h1.grown hg h1.size (fun k hk => own_base ho k hk), ?_, ?_, ?_, ?_, ?_, ?_, ?_, ?_, ?_, ?_⟩ <;> simp only [getD_set_ne false (show (11 : Nat) ≠ 0 by decide), getD_set_ne false (show (11 : Nat) ≠ 6 by decide), getD_set_ne false (show (11 : Nat) ≠ 4 by decide), getD_set_ne false (show (11 : Nat) ≠ 7 by decide), getD_set_ne false (show (11 : Nat) ≠ 12 by decide), getD_now hun, n12, k4, k6, k7, upd_same, upd_other u _ (show (0 : Nat) ≠ 11 by decide), upd_other u _ (show (6 : Nat) ≠ 11 by decide), upd_other u _ (show (4 : Nat) ≠ 11 by decide), upd_other u _ (show (7 : Nat) ≠ 11 by decide), upd_other u _ (show (12 : Nat) ≠ 11 by decide)]
  · intro _; exact h2 k4
  · intro _; exact ⟨trivial, trivial⟩
  · intro _; trivial
  · intro h; cases h
  · intro _ h; cases h
  · intro _ h; cases h
  · intro _ h; cases h
  · intro _ h; cases h
  · intro _; exact hr
  · intro h; cases h
theorem InsD.m12 (h : InsD e sz W i n A B cs u L w) (hun : L.getD 12 true = false) (k11 : L.getD 11 false = true) : InsD e sz W i n A B cs (upd u 12 (u 11)) (L.setIfInBounds 12 true) w := by
  obtain ⟨h1, h2, h3, h4, h5, h6, h7, h8, h9, h10, h11⟩ := h
  refine ⟨h1, ?_, ?_, ?_, ?_, ?_, ?_, ?_, ?_, ?_, ?_⟩ <;> simp only [getD_set_ne false (show (12 : Nat) ≠ 0 by decide), getD_set_ne false (show (12 : Nat) ≠ 6 by decide), getD_set_ne false (show (12 : Nat) ≠ 4 by decide), getD_set_ne false (show (12 : Nat) ≠ 7 by decide), getD_set_ne false (show (12 : Nat) ≠ 11 by decide), getD_now hun, upd_same, upd_other u _ (show (0 : Nat) ≠ 12 by decide), upd_other u _ (show (6 : Nat) ≠ 12 by decide), upd_other u _ (show (4 : Nat) ≠ 12 by decide), upd_other u _ (show (7 : Nat) ≠ 12 by decide), upd_other u _ (show (11 : Nat) ≠ 12 by decide)] <;> first | assumption | (intro _; first | exact k11 | trivial)
end
end Go.Proofs.YtcegllnljaapiaaGreat
namespace Go.Proofs.YtcegllnljaapiaaGreat
open Go.RowKit
/-- A fresh unit's block. -/
def unitN : Array Value := #[.string ⟨#[]⟩, .slice none 0 0, .slice none 0 0, .string ⟨#[]⟩]
/-- Operations 4 and 7 (the two rows' copies), 10 (the unit's value), 11 (its block), 12 (the store). -/
structure CloD (e eU : TypeId) (W : World) (x : Un) (u : Nat → Value) (L : Array Bool) (w : World) : Prop where
  bel : Below W.heap.size W w
  o10 : L.getD 10 false = true → L.getD 4 false = true ∧ L.getD 7 false = true
  o12 : L.getD 12 false = true → L.getD 10 false = true ∧ L.getD 11 false = true
  r4 : L.getD 4 false = true → w.ownsRow W.heap.size e 1 (u 4) x.incs.length (strW x.incs)
  r7 : L.getD 7 false = true → w.ownsRow W.heap.size e 1 (u 7) x.axs.length (strW x.axs)
  ap : L.getD 4 false = true → L.getD 7 false = true → ∀ g, (u 4).ownBlock = some g → (u 7).ownBlock ≠ some g
  b10 : L.getD 10 false = true → u 10 = .agg #[.string x.name, u 4, u 7, .string x.goal]
  a11 : L.getD 11 false = true → ∃ k, u 11 = .pointer (some ⟨k, 0, none⟩) ∧ W.heap.size ≤ k ∧ (L.getD 12 false = false → w.heap[k]? = some (.cells unitN eU (0, 0))) ∧ (L.getD 12 false = true → w.heap[k]? = some (.cells #[.string x.name, u 4, u 7, .string x.goal] eU (0, 0))) ∧ k < w.heap.size ∧ (L.getD 4 false = true → (u 4).ownBlock ≠ some k) ∧ (L.getD 7 false = true → (u 7).ownBlock ≠ some k)
section
variable {e eU : TypeId} {W w w' : World} {x : Un} {u : Nat → Value} {L : Array Bool} {v' : Value}
theorem CloD.start (hL : ∀ i, L.getD i false = false) : CloD e eU W x (fun _ => undef) L W.drew := by
  refine ⟨(Below.refl _ _).drew, ?_, ?_, ?_, ?_, ?_, ?_, ?_⟩ <;> (intro h; exact absurd h (by rw [hL]; decide))
theorem CloD.other (h : CloD e eU W x u L w) (k : Nat) (hk : k ∉ [4, 7, 10, 11, 12]) : CloD e eU W x u (L.setIfInBounds k true) w := by
  simp only [List.mem_cons, List.not_mem_nil, or_false, not_or] at hk
  obtain ⟨k4, k7, k10, k11, k12⟩ := hk
  obtain ⟨h1, h2, h3, h4, h5, h6, h7, h8⟩ := h
  refine ⟨h1, ?_, ?_, ?_, ?_, ?_, ?_, ?_⟩ <;> simp only [getD_set_ne false k4, getD_set_ne false k7, getD_set_ne false k10, getD_set_ne false k11, getD_set_ne false k12] <;> assumption
theorem CloD.c4 (h : CloD e eU W x u L w) (hun : L.getD 4 true = false) (hr : w'.ownsRow w.heap.size e 1 v' x.incs.length (strW x.incs)) (hb : Below w.heap.size w w') : CloD e eU W x (upd u 4 v') (L.setIfInBounds 4 true) w' := by
  have hn := getD_tf hun
  obtain ⟨h1, h2, h3, h4, h5, h6, h7, h8⟩ := h
  have n10 : L.getD 10 false = false := by
    cases h' : L.getD 10 false with
    | false => rfl
    | true => have := (h2 h').1; rw [hn] at this; cases this
  have n12 : L.getD 12 false = false := by
    cases h' : L.getD 12 false with
    | false => rfl
    | true => have := (h3 h').1; rw [n10] at this; cases this
  have hz := h1.size
  refine ⟨h1.trans (hb.mono hz), ?_, ?_, ?_, ?_, ?_, ?_, ?_⟩ <;> simp only [getD_set_ne false (show (4 : Nat) ≠ 7 by decide), getD_set_ne false (show (4 : Nat) ≠ 10 by decide), getD_set_ne false (show (4 : Nat) ≠ 11 by decide), getD_set_ne false (show (4 : Nat) ≠ 12 by decide), getD_now hun, upd_same, upd_other u _ (show (7 : Nat) ≠ 4 by decide), upd_other u _ (show (10 : Nat) ≠ 4 by decide), upd_other u _ (show (11 : Nat) ≠ 4 by decide)]
  · intro a; rw [n10] at a; cases a
  · exact h3
  · intro _; exact own_lower hr hz
  · intro a; exact own_below (h5 a) hb
  · intro _ a g hg e'
    have k1 := own_base hr g hg
    have k2 := own_lt' (h5 a) e'
    omega
  · intro a; rw [n10] at a; cases a
  · intro a
    obtain ⟨k, e1, e2, e3, e4, e5, e6, e7⟩ := h8 a
    have hz2 := hb.size
    exact ⟨k, e1, e2, fun c => (hb.block k e5).trans (e3 c), fun c => (by rw [n12] at c; cases c), by omega, fun _ e' => by have := own_base hr k e'; omega, e7⟩
theorem CloD.c7 (h : CloD e eU W x u L w) (hun : L.getD 7 true = false) (hr : w'.ownsRow w.heap.size e 1 v' x.axs.length (strW x.axs)) (hb : Below w.heap.size w w') : CloD e eU W x (upd u 7 v') (L.setIfInBounds 7 true) w' := by
  have hn := getD_tf hun
  obtain ⟨h1, h2, h3, h4, h5, h6, h7, h8⟩ := h
  have n10 : L.getD 10 false = false := by
    cases h' : L.getD 10 false with
    | false => rfl
    | true => have := (h2 h').2; rw [hn] at this; cases this
  have n12 : L.getD 12 false = false := by
    cases h' : L.getD 12 false with
    | false => rfl
    | true => have := (h3 h').1; rw [n10] at this; cases this
  have hz := h1.size
  refine ⟨h1.trans (hb.mono hz), ?_, ?_, ?_, ?_, ?_, ?_, ?_⟩ <;> simp only [getD_set_ne false (show (7 : Nat) ≠ 4 by decide), getD_set_ne false (show (7 : Nat) ≠ 10 by decide), getD_set_ne false (show (7 : Nat) ≠ 11 by decide), getD_set_ne false (show (7 : Nat) ≠ 12 by decide), getD_now hun, upd_same, upd_other u _ (show (4 : Nat) ≠ 7 by decide), upd_other u _ (show (10 : Nat) ≠ 7 by decide), upd_other u _ (show (11 : Nat) ≠ 7 by decide)]
  · intro a; rw [n10] at a; cases a
  · exact h3
  · intro a; exact own_below (h4 a) hb
  · intro _; exact own_lower hr hz
  · intro a _ g hg e'
    have k1 := own_base hr g e'
    have k2 := own_lt' (h4 a) hg
    omega
  · intro a; rw [n10] at a; cases a
  · intro a
    obtain ⟨k, e1, e2, e3, e4, e5, e6, e7⟩ := h8 a
    have hz2 := hb.size
    exact ⟨k, e1, e2, fun c => (hb.block k e5).trans (e3 c), fun c => (by rw [n12] at c; cases c), by omega, e6, fun _ e' => by have := own_base hr k e'; omega⟩
theorem CloD.m10 (h : CloD e eU W x u L w) (hun : L.getD 10 true = false) (k4 : L.getD 4 false = true) (k7 : L.getD 7 false = true) : CloD e eU W x (upd u 10 (.agg #[.string x.name, u 4, u 7, .string x.goal])) (L.setIfInBounds 10 true) w := by
  obtain ⟨h1, h2, h3, h4, h5, h6, h7, h8⟩ := h
  have hn := getD_tf hun
  refine ⟨h1, ?_, ?_, ?_, ?_, ?_, ?_, ?_⟩ <;> simp only [getD_set_ne false (show (10 : Nat) ≠ 4 by decide), getD_set_ne false (show (10 : Nat) ≠ 7 by decide), getD_set_ne false (show (10 : Nat) ≠ 11 by decide), getD_set_ne false (show (10 : Nat) ≠ 12 by decide), getD_now hun, upd_same, upd_other u _ (show (4 : Nat) ≠ 10 by decide), upd_other u _ (show (7 : Nat) ≠ 10 by decide), upd_other u _ (show (11 : Nat) ≠ 10 by decide)]
  · intro _; exact ⟨k4, k7⟩
  · intro a; exact ⟨trivial, (h3 a).2⟩
  · exact h4
  · exact h5
  · exact h6
  · intro _; trivial
  · exact h8
theorem CloD.a11' (h : CloD e eU W x u L w) (hun : L.getD 11 true = false) : CloD e eU W x (upd u 11 (.pointer (some ⟨w.heap.size, 0, none⟩))) (L.setIfInBounds 11 true) (w.alloc (.cells unitN eU)) := by
  have hb := (Below.refl w.heap.size w).alloc (Nat.le_refl _) (.cells unitN eU)
  have hn := getD_tf hun
  obtain ⟨h1, h2, h3, h4, h5, h6, h7, h8⟩ := h
  have n12 : L.getD 12 false = false := by
    cases h' : L.getD 12 false with
    | false => rfl
    | true => have := (h3 h').2; rw [hn] at this; cases this
  refine ⟨h1.alloc h1.size _, ?_, ?_, ?_, ?_, ?_, ?_, ?_⟩ <;> simp only [getD_set_ne false (show (11 : Nat) ≠ 4 by decide), getD_set_ne false (show (11 : Nat) ≠ 7 by decide), getD_set_ne false (show (11 : Nat) ≠ 10 by decide), getD_set_ne false (show (11 : Nat) ≠ 12 by decide), getD_now hun, upd_same, upd_other u _ (show (4 : Nat) ≠ 11 by decide), upd_other u _ (show (7 : Nat) ≠ 11 by decide), upd_other u _ (show (10 : Nat) ≠ 11 by decide)]
  · exact h2
  · intro a; rw [n12] at a; cases a
  · intro a; exact own_below (h4 a) hb
  · intro a; exact own_below (h5 a) hb
  · exact h6
  · exact h7
  · intro _
    exact ⟨_, rfl, h1.size, fun _ => heap_alloc_new w _, fun c => (by rw [n12] at c; cases c), by simp, fun a e' => by have := own_lt' (h4 a) e'; omega, fun a e' => by have := own_lt' (h5 a) e'; omega⟩
theorem CloD.s12 (h : CloD e eU W x u L w) (hun : L.getD 12 true = false) (k10 : L.getD 10 false = true) (k11 : L.getD 11 false = true) {k : Nat} (hk : u 11 = .pointer (some ⟨k, 0, none⟩)) : CloD e eU W x (upd u 12 v') (L.setIfInBounds 12 true) (set4W w k 0 (.string x.name) (u 4) (u 7) (.string x.goal)) := by
  have hn := getD_tf hun
  obtain ⟨h1, h2, h3, h4, h5, h6, h7, h8⟩ := h
  obtain ⟨k', e1, e2, e3, e4, e5, e6, e7⟩ := h8 k11
  rw [hk] at e1
  injection e1 with e1
  injection e1 with e1
  injection e1 with e1
  subst e1
  obtain ⟨k4, k7⟩ := h2 k10
  have hsame : ∀ b, b ≠ k → (set4W w k 0 (.string x.name) (u 4) (u 7) (.string x.goal)).heap[b]? = w.heap[b]? := fun b hb => set4_other w _ _ _ _ hb
  refine ⟨⟨h1.os, h1.tape, h1.output, by simpa using h1.size, fun b hb => (hsame b (by omega)).trans (h1.block b hb)⟩, ?_, ?_, ?_, ?_, ?_, ?_, ?_⟩ <;> simp only [getD_set_ne false (show (12 : Nat) ≠ 4 by decide), getD_set_ne false (show (12 : Nat) ≠ 7 by decide), getD_set_ne false (show (12 : Nat) ≠ 10 by decide), getD_set_ne false (show (12 : Nat) ≠ 11 by decide), getD_now hun, upd_other u _ (show (4 : Nat) ≠ 12 by decide), upd_other u _ (show (7 : Nat) ≠ 12 by decide), upd_other u _ (show (10 : Nat) ≠ 12 by decide), upd_other u _ (show (11 : Nat) ≠ 12 by decide)]
  · exact h2
  · intro _; exact ⟨k10, k11⟩
  · intro a; exact own_same (h4 a) fun g hg _ => hsame g (fun e' => e6 k4 (by rw [hg, e']))
  · intro a; exact own_same (h5 a) fun g hg _ => hsame g (fun e' => e7 k7 (by rw [hg, e']))
  · exact h6
  · exact h7
  · intro _
    refine ⟨k, hk, e2, fun c => (by cases c), fun _ => ?_, by simpa using e5, e6, e7⟩
    have := heap_setCell_same _ k 3 _ _ (.string x.goal) (heap_setCell_same _ k 2 _ _ (u 7) (heap_setCell_same _ k 1 _ _ (u 4) (heap_setCell_same w k 0 _ _ (.string x.name) (e3 hn))))
    simpa [unitN] using this
end
end Go.Proofs.YtcegllnljaapiaaGreat
namespace Go.Proofs.YtcegllnljaapiaaGreat
open Go.RowKit
set_option maxRecDepth 100000 in
theorem isNaNR_any (s : ByteArray) (w : World) : Calls Tryz.prog 100 #[.string s] w fun e w' => e = .returned (.bool false) ∧ w = w' := by
  go_enter Tryz.func100, Tryz.ntmps100
  go_wp2
  refine bodyPost_ret (v := .bool false) (by simp only [results, Tryz.results100]; go_simp) rfl ⟨rfl, rfl⟩
set_option maxRecDepth 100000 in
theorem compareR_any (x y : ByteArray) (w : World) : Calls Tryz.prog 52 #[.string x, .string y] w fun e w' => e = .returned (.int .i64 (cmpI x y)) ∧ w = w' := by
  have h1 : Op.bytesLess x.toList y.toList = lessB x y := by rw [lessB, ByteArray.toList_eq, ByteArray.toList_eq]
  have h2 : Op.bytesLess y.toList x.toList = lessB y x := by rw [lessB, ByteArray.toList_eq, ByteArray.toList_eq]
  cases ha : lessB x y
  · have h3 : (x.toList == y.toList) = !lessB y x := by
      have := less_total y.toList x.toList
      rw [h1, h2, ha, Bool.false_or] at this
      rw [this, Bool.not_not]
    cases hb : lessB y x
    · rw [ha] at h1
      rw [hb] at h2 h3
      have HA := Lib.hid ha
      have HB := Lib.hid hb
      clear ha hb
      go_enter Tryz.func52, Tryz.ntmps52
      go_wp2_with (first | (go_at_call 100; refine (isNaNR_any _ _).mono ?_; rintro e w' ⟨rfl, rfl⟩))
      go_ret
      exact ⟨by rw [cmpI, HA.out, HB.out]; rfl, rfl⟩
    · rw [ha] at h1
      rw [hb] at h2 h3
      have HA := Lib.hid ha
      have HB := Lib.hid hb
      clear ha hb
      go_enter Tryz.func52, Tryz.ntmps52
      go_wp2_with (first | (go_at_call 100; refine (isNaNR_any _ _).mono ?_; rintro e w' ⟨rfl, rfl⟩))
      go_ret
      exact ⟨by rw [cmpI, HA.out, HB.out]; rfl, rfl⟩
  · rw [ha] at h1
    have HA := Lib.hid ha
    clear ha
    go_enter Tryz.func52, Tryz.ntmps52
    go_wp2_with (first | (go_at_call 100; refine (isNaNR_any _ _).mono ?_; rintro e w' ⟨rfl, rfl⟩))
    go_ret
    exact ⟨by rw [cmpI, HA.out]; rfl, rfl⟩
set_option maxRecDepth 100000 in
theorem byName_any (x y : ByteArray) (v1 v2 v3 u1 u2 u3 : Value) (w : World) : Calls Tryz.prog 51 #[.agg #[.string x, v1, v2, v3], .agg #[.string y, u1, u2, u3]] w fun e w' => e = .returned (.int .i64 (cmpI x y)) ∧ Below w.heap.size w w' := by
  go_enter Tryz.func51, Tryz.ntmps51
  go_wp2_with fail
  refine (compareR_any x y _).mono ?_
  rintro e w1 ⟨rfl, rfl⟩
  go_wp2
  go_ret
  exact ⟨rfl, by (repeat (first | with_reducible exact Below.refl _ _ | with_reducible assumption | with_reducible refine Below.al ?_ _ | with_reducible refine Below.sc ?_ (by first | exact Nat.le_refl _ | (simp; done) | (simp; omega)) _ | assumption | exact Below.refl _ _ | refine Below.dr ?_ | refine Below.drN ?_ _ | refine Below.step ?_ (by assumption)))⟩
end Go.Proofs.YtcegllnljaapiaaGreat
namespace Go.Proofs.YtcegllnljaapiaaGreat
open Go.RowKit
set_option maxRecDepth 100000 in
set_option maxHeartbeats 6400000 in
theorem insSortU_any (base : Nat) (l : List UC) (p : Option Addr) (c : Nat) (w : World) (h : w.ownsRow base 79 4 (.slice p l.length c) l.length (flatU l)) (hn : l.length ≤ 1000000) (hnd : (l.map (fun x => x.u.name)).Nodup) :
    Calls Tryz.prog 154 #[.slice p l.length c, .int .i64 0, .int .i64 l.length, .func (.func 51) #[] #[]] w fun e w' => e = .returned (.tuple #[]) ∧ w'.ownsRow base 79 4 (.slice p l.length c) l.length (flatU (canG lessC l)) ∧ w.grownBy w' (Value.slice p l.length c).ownBlock := by
  have H := Lib.hid h
  have HND := Lib.hid hnd
  clear h hnd
  go_enter Tryz.func154, Tryz.ntmps154
  go_wp2
  go_loopw [8] (fun i wr => ∃ k : Nat, 1 ≤ k ∧ k ≤ l.length + 1 ∧ i = .int .i64 k ∧ wr.ownsRow base 79 4 (.slice p l.length c) l.length (flatU (canG lessC (l.take k) ++ l.drop k)) ∧ w.grownBy wr (Value.slice p l.length c).ownBlock) (fun i _ => l.length - (intOf i).toNat)
  case atStart =>
    refine ⟨1, Nat.le_refl _, by omega, rfl, ?_, ⟨rfl, rfl, rfl, Nat.le_refl _, fun _ _ _ => rfl⟩⟩
    have : canG lessC (l.take 1) ++ l.drop 1 = l := by cases l with | nil => rfl | cons a l => rfl
    rw [this]; exact H.out
  case round =>
    obtain ⟨k, hk1, hk2, rfl, hrow, hgr⟩ := hrel
    have HG := Lib.hid hgr
    by_cases hlt : k < l.length
    · have HROW := Lib.hid hrow
      obtain ⟨g, rfl, hbg, hgl, -, -⟩ := rowU_cell hrow (by omega)
      have HCT := Lib.hid (canG_take (lt := lessC) hlt)
      have HDR := Lib.hid (List.drop_eq_getElem_cons hlt)
      have hPl : (canG lessC (l.take k)).length = k := by rw [canG_len, List.length_take]; omega
      have HASC := Lib.hid (canG_asc strictC (tri_names ((List.map_take ▸ HND.out.sublist (List.take_sublist k (l.map (fun x => x.u.name))) : ((l.take k).map (fun x => x.u.name)).Nodup))))
      have HTRI := Lib.hid (show ∀ y ∈ canG lessC (l.take k), lessC y l[k] = true ∨ lessC l[k] y = true from fun y hy => by
        have hy := mem_canG.1 hy
        refine triS (fun e => ?_)
        obtain ⟨i, hi, hie⟩ := List.getElem_of_mem hy
        rw [List.length_take] at hi
        rw [List.getElem_take] at hie
        have h1 : (l.map (fun x => x.u.name))[i]'(by rw [List.length_map]; omega) = (l.map (fun x => x.u.name))[k]'(by rw [List.length_map]; omega) := by rw [List.getElem_map, List.getElem_map, hie]; exact e
        have := (List.getElem_inj HND.out).1 h1
        omega)
      obtain ⟨x, hx⟩ : ∃ x, l[k] = x := ⟨_, rfl⟩
      rw [hx] at HCT HDR HTRI
      clear hx hrow hgr
      generalize hP : canG lessC (l.take k) = P at *
      obtain ⟨wA, hwA⟩ : ∃ q, q = wr := ⟨_, rfl⟩
      subst hwA
      have hki : (k : Int) < l.length := by omega
      clear hP
      go_wp2
      go_loopw [9] (fun jv wr' => ∃ j : Nat, j ≤ k ∧ jv = .int .i64 j ∧ wr'.ownsRow base 79 4 (.slice (some ⟨g, 0, none⟩) l.length c) l.length (flatU (P.take j ++ x :: P.drop j ++ l.drop (k + 1))) ∧ (∀ y ∈ P.drop j, lessC x y = true) ∧ wA.grownBy wr' (some g)) (fun jv _ => (intOf jv).toNat)
      case atStart =>
        refine ⟨k, Nat.le_refl _, rfl, ?_, ?_, ⟨rfl, rfl, rfl, Nat.le_refl _, fun _ _ _ => rfl⟩⟩
        · rw [← hPl, List.take_length, List.drop_length, hPl]
          have := HROW.out
          rw [HDR.out] at this
          simpa using this
        · rw [← hPl, List.drop_length]; intro y hy; cases hy
      case round =>
        obtain ⟨j, hj, rfl, hrow, hall, hgi⟩ := hrel
        have HROW2 := Lib.hid hrow
        have HALL := Lib.hid hall
        have HGI := Lib.hid hgi
        obtain ⟨g', hge, -, hgl2, hfz, hcl⟩ := rowU_cell hrow (by omega)
        simp only [Option.some.injEq, Addr.mk.injEq, and_true] at hge
        subst hge
        have zg := bsz hgl2
        have hPt : (P.take j).length = j := by rw [List.length_take]; omega
        obtain ⟨c10, c11, c12, c13⟩ := hcl j x (by rw [List.append_assoc, List.getElem?_append_right (by omega), hPt, Nat.sub_self]; rfl)
        clear hrow hall hgi
        by_cases hj0 : 0 < j
        · have hjp : j - 1 < P.length := by omega
          obtain ⟨y, hy⟩ : ∃ y, P[j - 1] = y := ⟨_, rfl⟩
          obtain ⟨c20, c21, c22, c23⟩ := hcl (j - 1) y (by
            rw [List.append_assoc, List.getElem?_append_left (by omega), List.getElem?_take, if_pos (by omega), List.getElem?_eq_getElem hjp, hy])
          have HY := Lib.hid hy
          have hwj : IntKind.i64.wrap ((j : Int) - 1) = ((j - 1 : Nat) : Int) := by rw [IntWalk.i64_in _ (by omega)]; omega
          have hji : (0 : Int) < j := by omega
          have hjl : (j : Int) < l.length := by omega
          have hjl2 : ((j - 1 : Nat) : Int) < l.length := by omega
          clear hcl hy
          cases hL : lessC x y
          all_goals
            have HLX := Lib.hid hL
            have hCI := (cmpI_neg x.u.name y.u.name).trans hL
            simp only [decide_eq_true_eq, decide_eq_false_iff_not] at hCI
          · go_wp2
            obtain ⟨C, HC0⟩ := class_of (InF wr.heap.size _ [(⟨g, j * 4, none⟩, .string x.u.name), (⟨g, j * 4 + 1, none⟩, .slice x.p x.u.incs.length x.c), (⟨g, j * 4 + 2, none⟩, .slice x.q x.u.axs.length x.d), (⟨g, j * 4 + 3, none⟩, .string x.u.goal), (⟨g, (j - 1) * 4, none⟩, .string y.u.name), (⟨g, (j - 1) * 4 + 1, none⟩, .slice y.p y.u.incs.length y.c), (⟨g, (j - 1) * 4 + 2, none⟩, .slice y.q y.u.axs.length y.d), (⟨g, (j - 1) * 4 + 3, none⟩, .string y.u.goal)] [] [])
            have HC := Lib.hid HC0
            clear HC0
            refine wp_region_flow (C := C) (by kernel_rfl) (by kernel_rfl) (fun L hL => (HC.out _ _).2 (InF.start (by first | (intro _ hs; cases hs; done) | (simp only [List.forall_mem_cons]; go_simp)) (by first | (intro _ hs; cases hs; done) | (simp only [List.forall_mem_cons]; go_simp)) (by first | (intro _ hs; cases hs; done) | (simp only [List.forall_mem_cons]; go_simp)) (by first | (intro _ hs; cases hs; done) | (simp only [List.forall_mem_cons]; go_simp)) L hL)) ?_
            repeat (first | (apply flow_free rfl; (intro L w' hun hrd hC; have hC := (HC.out _ _).1 hC; have hb' := hC.below; (try have hw' : Below w.heap.size w w' := by first | exact Below.trans (by (repeat (first | with_reducible exact Below.refl _ _ | with_reducible assumption | with_reducible refine Below.al ?_ _ | with_reducible refine Below.sc ?_ (by first | exact Nat.le_refl _ | (simp; done) | (simp; omega)) _ | assumption | exact Below.refl _ _ | refine Below.dr ?_ | refine Below.drN ?_ _ | refine Below.step ?_ (by assumption)))) hb' | ((repeat (first | with_reducible exact Below.refl _ _ | with_reducible assumption | with_reducible refine Below.al ?_ _ | with_reducible refine Below.sc ?_ (by first | exact Nat.le_refl _ | (simp; done) | (simp; omega)) _ | assumption | exact Below.refl _ _ | refine Below.dr ?_ | refine Below.drN ?_ _ | refine Below.step ?_ (by assumption))); done)); have hf' := hC.cell; (try simp only [List.forall_mem_cons] at hf'); go_simp; first | exact ⟨(HC.out _ _).2 (hC.skip _ (by rfl)), rfl⟩ | (rw [if_neg]; (exact ⟨(HC.out _ _).2 (hC.skip _ (by rfl)), rfl⟩); omega) | (go_at_call 51; refine (byName_any x.u.name y.u.name _ _ _ _ _ _ _).mono ?_; rintro e w1 ⟨rfl, hb1⟩; exact ⟨rfl, (HC.out _ _).2 ((hC.next (by first | (simp; done) | (simp; omega) | omega) hb1).skip _ (by rfl))⟩)); go_simp) | (apply flow_yes; (case hw => go_simp); (intro L w' hun hrd hC; have hC := (HC.out _ _).1 hC; have hb' := hC.below; (try have hw' : Below w.heap.size w w' := by first | exact Below.trans (by (repeat (first | with_reducible exact Below.refl _ _ | with_reducible assumption | with_reducible refine Below.al ?_ _ | with_reducible refine Below.sc ?_ (by first | exact Nat.le_refl _ | (simp; done) | (simp; omega)) _ | assumption | exact Below.refl _ _ | refine Below.dr ?_ | refine Below.drN ?_ _ | refine Below.step ?_ (by assumption)))) hb' | ((repeat (first | with_reducible exact Below.refl _ _ | with_reducible assumption | with_reducible refine Below.al ?_ _ | with_reducible refine Below.sc ?_ (by first | exact Nat.le_refl _ | (simp; done) | (simp; omega)) _ | assumption | exact Below.refl _ _ | refine Below.dr ?_ | refine Below.drN ?_ _ | refine Below.step ?_ (by assumption))); done)); have hf' := hC.cell; (try simp only [List.forall_mem_cons] at hf'); go_simp; first | exact ⟨(HC.out _ _).2 (hC.skip _ (by rfl)), rfl⟩ | (rw [if_neg]; (exact ⟨(HC.out _ _).2 (hC.skip _ (by rfl)), rfl⟩); omega) | (go_at_call 51; refine (byName_any x.u.name y.u.name _ _ _ _ _ _ _).mono ?_; rintro e w1 ⟨rfl, hb1⟩; exact ⟨rfl, (HC.out _ _).2 ((hC.next (by first | (simp; done) | (simp; omega) | omega) hb1).skip _ (by rfl))⟩)); go_simp) | (apply flow_no; (case hw => (go_simp; try (intro hh; cases hh))); (intro L w' _ _ hC; exact (HC.out _ _).2 (((HC.out _ _).1 hC).skip _ (by rfl))); go_simp))
            refine flow_nil ?_
            intro L wz hL hz
            have hz := (HC.out _ _).1 hz
            have hbz := hz.below
            have hcz := hz.cell
            try simp only [List.forall_mem_cons] at hcz
            have hdz := hz.done
            try simp only [List.forall_mem_cons] at hdz
            (try have hwz : Below w.heap.size w wz := by first | exact Below.trans (by (repeat (first | with_reducible exact Below.refl _ _ | with_reducible assumption | with_reducible refine Below.al ?_ _ | with_reducible refine Below.sc ?_ (by first | exact Nat.le_refl _ | (simp; done) | (simp; omega)) _ | assumption | exact Below.refl _ _ | refine Below.dr ?_ | refine Below.drN ?_ _ | refine Below.step ?_ (by assumption)))) hbz | ((repeat (first | with_reducible exact Below.refl _ _ | with_reducible assumption | with_reducible refine Below.al ?_ _ | with_reducible refine Below.sc ?_ (by first | exact Nat.le_refl _ | (simp; done) | (simp; omega)) _ | assumption | exact Below.refl _ _ | refine Below.dr ?_ | refine Below.drN ?_ _ | refine Below.step ?_ (by assumption))); done))
            go_wp2
            refine ⟨⟨k + 1, by omega, by omega, by go_num, ?_, ?_⟩, by simp [intOf]; omega⟩
            · rw [HCT.out, sort_stop (j := j) strictC HASC.out (by omega) HALL.out HTRI.out (.inr ⟨hjp, by rw [HY.out]; exact HLX.out⟩)]
              exact own_below HROW2.out hbz
            · exact (HG.out.trans HGI.out).trans ⟨hbz.os, hbz.tape, hbz.output, hbz.size, fun b hb _ => hbz.block b hb⟩
          · go_wp2
            obtain ⟨C, HC0⟩ := class_of (InF wr.heap.size _ [(⟨g, j * 4, none⟩, .string x.u.name), (⟨g, j * 4 + 1, none⟩, .slice x.p x.u.incs.length x.c), (⟨g, j * 4 + 2, none⟩, .slice x.q x.u.axs.length x.d), (⟨g, j * 4 + 3, none⟩, .string x.u.goal), (⟨g, (j - 1) * 4, none⟩, .string y.u.name), (⟨g, (j - 1) * 4 + 1, none⟩, .slice y.p y.u.incs.length y.c), (⟨g, (j - 1) * 4 + 2, none⟩, .slice y.q y.u.axs.length y.d), (⟨g, (j - 1) * 4 + 3, none⟩, .string y.u.goal)] [] [])
            have HC := Lib.hid HC0
            clear HC0
            refine wp_region_flow (C := C) (by kernel_rfl) (by kernel_rfl) (fun L hL => (HC.out _ _).2 (InF.start (by first | (intro _ hs; cases hs; done) | (simp only [List.forall_mem_cons]; go_simp)) (by first | (intro _ hs; cases hs; done) | (simp only [List.forall_mem_cons]; go_simp)) (by first | (intro _ hs; cases hs; done) | (simp only [List.forall_mem_cons]; go_simp)) (by first | (intro _ hs; cases hs; done) | (simp only [List.forall_mem_cons]; go_simp)) L hL)) ?_
            repeat (first | (apply flow_free rfl; (intro L w' hun hrd hC; have hC := (HC.out _ _).1 hC; have hb' := hC.below; (try have hw' : Below w.heap.size w w' := by first | exact Below.trans (by (repeat (first | with_reducible exact Below.refl _ _ | with_reducible assumption | with_reducible refine Below.al ?_ _ | with_reducible refine Below.sc ?_ (by first | exact Nat.le_refl _ | (simp; done) | (simp; omega)) _ | assumption | exact Below.refl _ _ | refine Below.dr ?_ | refine Below.drN ?_ _ | refine Below.step ?_ (by assumption)))) hb' | ((repeat (first | with_reducible exact Below.refl _ _ | with_reducible assumption | with_reducible refine Below.al ?_ _ | with_reducible refine Below.sc ?_ (by first | exact Nat.le_refl _ | (simp; done) | (simp; omega)) _ | assumption | exact Below.refl _ _ | refine Below.dr ?_ | refine Below.drN ?_ _ | refine Below.step ?_ (by assumption))); done)); have hf' := hC.cell; (try simp only [List.forall_mem_cons] at hf'); go_simp; first | exact ⟨(HC.out _ _).2 (hC.skip _ (by rfl)), rfl⟩ | (rw [if_neg]; (exact ⟨(HC.out _ _).2 (hC.skip _ (by rfl)), rfl⟩); omega) | (go_at_call 51; refine (byName_any x.u.name y.u.name _ _ _ _ _ _ _).mono ?_; rintro e w1 ⟨rfl, hb1⟩; exact ⟨rfl, (HC.out _ _).2 ((hC.next (by first | (simp; done) | (simp; omega) | omega) hb1).skip _ (by rfl))⟩)); go_simp) | (apply flow_yes; (case hw => go_simp); (intro L w' hun hrd hC; have hC := (HC.out _ _).1 hC; have hb' := hC.below; (try have hw' : Below w.heap.size w w' := by first | exact Below.trans (by (repeat (first | with_reducible exact Below.refl _ _ | with_reducible assumption | with_reducible refine Below.al ?_ _ | with_reducible refine Below.sc ?_ (by first | exact Nat.le_refl _ | (simp; done) | (simp; omega)) _ | assumption | exact Below.refl _ _ | refine Below.dr ?_ | refine Below.drN ?_ _ | refine Below.step ?_ (by assumption)))) hb' | ((repeat (first | with_reducible exact Below.refl _ _ | with_reducible assumption | with_reducible refine Below.al ?_ _ | with_reducible refine Below.sc ?_ (by first | exact Nat.le_refl _ | (simp; done) | (simp; omega)) _ | assumption | exact Below.refl _ _ | refine Below.dr ?_ | refine Below.drN ?_ _ | refine Below.step ?_ (by assumption))); done)); have hf' := hC.cell; (try simp only [List.forall_mem_cons] at hf'); go_simp; first | exact ⟨(HC.out _ _).2 (hC.skip _ (by rfl)), rfl⟩ | (rw [if_neg]; (exact ⟨(HC.out _ _).2 (hC.skip _ (by rfl)), rfl⟩); omega) | (go_at_call 51; refine (byName_any x.u.name y.u.name _ _ _ _ _ _ _).mono ?_; rintro e w1 ⟨rfl, hb1⟩; exact ⟨rfl, (HC.out _ _).2 ((hC.next (by first | (simp; done) | (simp; omega) | omega) hb1).skip _ (by rfl))⟩)); go_simp) | (apply flow_no; (case hw => (go_simp; try (intro hh; cases hh))); (intro L w' _ _ hC; exact (HC.out _ _).2 (((HC.out _ _).1 hC).skip _ (by rfl))); go_simp))
            refine flow_nil ?_
            intro L wz hL hz
            have hz := (HC.out _ _).1 hz
            have hbz := hz.below
            have hcz := hz.cell
            try simp only [List.forall_mem_cons] at hcz
            have hdz := hz.done
            try simp only [List.forall_mem_cons] at hdz
            (try have hwz : Below w.heap.size w wz := by first | exact Below.trans (by (repeat (first | with_reducible exact Below.refl _ _ | with_reducible assumption | with_reducible refine Below.al ?_ _ | with_reducible refine Below.sc ?_ (by first | exact Nat.le_refl _ | (simp; done) | (simp; omega)) _ | assumption | exact Below.refl _ _ | refine Below.dr ?_ | refine Below.drN ?_ _ | refine Below.step ?_ (by assumption)))) hbz | ((repeat (first | with_reducible exact Below.refl _ _ | with_reducible assumption | with_reducible refine Below.al ?_ _ | with_reducible refine Below.sc ?_ (by first | exact Nat.le_refl _ | (simp; done) | (simp; omega)) _ | assumption | exact Below.refl _ _ | refine Below.dr ?_ | refine Below.drN ?_ _ | refine Below.step ?_ (by assumption))); done))
            have d10 := (hbz.cell hgl2).trans c10
            have d11 := (hbz.cell hgl2).trans c11
            have d12 := (hbz.cell hgl2).trans c12
            have d13 := (hbz.cell hgl2).trans c13
            have d20 := (hbz.cell hgl2).trans c20
            have d21 := (hbz.cell hgl2).trans c21
            have d22 := (hbz.cell hgl2).trans c22
            have d23 := (hbz.cell hgl2).trans c23
            have df : ∀ i, wz.frozen? ⟨g, i, none⟩ = false := fun i => (hbz.frozen (p := ⟨g, i, none⟩) hgl2).trans (hfz i)
            have zgz := bsz (World.block_lt_of_cell? _ _ d10)
            go_wp2
            go_region_with fail
            all_goals go_wp2
            all_goals
              have hpy : P[j - 1]? = some y := by rw [List.getElem?_eq_getElem hjp, HY.out]
              refine ⟨⟨j - 1, by omega, rfl, ?_, ?_, ?_⟩, by simp [intOf]; omega⟩
              · have hr := rowU_set (k := j - 1) x (by simp; omega) (rowU_set (k := j) y (by simp; omega) (own_below HROW2.out hbz))
                rw [set_swapU hj0 (by omega) hpy] at hr
                have hr2 := own_drew hr
                clear hr
                dsimp only [set4W] at hr2
                with_reducible exact hr2
              · intro q hq
                rw [List.drop_eq_getElem_cons hjp, HY.out] at hq
                rcases List.mem_cons.1 hq with rfl | hq
                · exact HLX.out
                · rw [show j - 1 + 1 = j by omega] at hq; exact HALL.out q hq
              · have hgz : wA.grownBy wz (some g) := HGI.out.trans ⟨hbz.os, hbz.tape, hbz.output, hbz.size, fun b hb _ => hbz.block b hb⟩
                have hz4 := gr_sc (gr_sc (gr_sc (gr_sc (gr_sc (gr_sc (gr_sc (gr_sc hgz (.inl rfl) (.string y.u.name) (p := ⟨g, j * 4, none⟩)) (.inl rfl) (.slice y.p y.u.incs.length y.c) (p := ⟨g, j * 4 + 1, none⟩)) (.inl rfl) (.slice y.q y.u.axs.length y.d) (p := ⟨g, j * 4 + 2, none⟩)) (.inl rfl) (.string y.u.goal) (p := ⟨g, j * 4 + 3, none⟩)) (.inl rfl) (.string x.u.name) (p := ⟨g, (j - 1) * 4, none⟩)) (.inl rfl) (.slice x.p x.u.incs.length x.c) (p := ⟨g, (j - 1) * 4 + 1, none⟩)) (.inl rfl) (.slice x.q x.u.axs.length x.d) (p := ⟨g, (j - 1) * 4 + 2, none⟩)) (.inl rfl) (.string x.u.goal) (p := ⟨g, (j - 1) * 4 + 3, none⟩)
                with_reducible exact gr_dr hz4
        · obtain rfl : j = 0 := by omega
          go_wp2
          obtain ⟨C, HC0⟩ := class_of (InF wr.heap.size _ [] [] [])
          have HC := Lib.hid HC0
          clear HC0
          refine wp_region_flow (C := C) (by kernel_rfl) (by kernel_rfl) (fun L hL => (HC.out _ _).2 (InF.start (by first | (intro _ hs; cases hs; done) | (simp only [List.forall_mem_cons]; go_simp)) (by first | (intro _ hs; cases hs; done) | (simp only [List.forall_mem_cons]; go_simp)) (by first | (intro _ hs; cases hs; done) | (simp only [List.forall_mem_cons]; go_simp)) (by first | (intro _ hs; cases hs; done) | (simp only [List.forall_mem_cons]; go_simp)) L hL)) ?_
          repeat (first | (apply flow_free rfl; (intro L w' hun hrd hC; have hC := (HC.out _ _).1 hC; have hb' := hC.below; (try have hw' : Below w.heap.size w w' := by first | exact Below.trans (by (repeat (first | with_reducible exact Below.refl _ _ | with_reducible assumption | with_reducible refine Below.al ?_ _ | with_reducible refine Below.sc ?_ (by first | exact Nat.le_refl _ | (simp; done) | (simp; omega)) _ | assumption | exact Below.refl _ _ | refine Below.dr ?_ | refine Below.drN ?_ _ | refine Below.step ?_ (by assumption)))) hb' | ((repeat (first | with_reducible exact Below.refl _ _ | with_reducible assumption | with_reducible refine Below.al ?_ _ | with_reducible refine Below.sc ?_ (by first | exact Nat.le_refl _ | (simp; done) | (simp; omega)) _ | assumption | exact Below.refl _ _ | refine Below.dr ?_ | refine Below.drN ?_ _ | refine Below.step ?_ (by assumption))); done)); have hf' := hC.cell; (try simp only [List.forall_mem_cons] at hf'); go_simp; first | exact ⟨(HC.out _ _).2 (hC.skip _ (by rfl)), rfl⟩ | (rw [if_neg]; (exact ⟨(HC.out _ _).2 (hC.skip _ (by rfl)), rfl⟩); omega) | fail); go_simp) | (apply flow_yes; (case hw => go_simp); (intro L w' hun hrd hC; have hC := (HC.out _ _).1 hC; have hb' := hC.below; (try have hw' : Below w.heap.size w w' := by first | exact Below.trans (by (repeat (first | with_reducible exact Below.refl _ _ | with_reducible assumption | with_reducible refine Below.al ?_ _ | with_reducible refine Below.sc ?_ (by first | exact Nat.le_refl _ | (simp; done) | (simp; omega)) _ | assumption | exact Below.refl _ _ | refine Below.dr ?_ | refine Below.drN ?_ _ | refine Below.step ?_ (by assumption)))) hb' | ((repeat (first | with_reducible exact Below.refl _ _ | with_reducible assumption | with_reducible refine Below.al ?_ _ | with_reducible refine Below.sc ?_ (by first | exact Nat.le_refl _ | (simp; done) | (simp; omega)) _ | assumption | exact Below.refl _ _ | refine Below.dr ?_ | refine Below.drN ?_ _ | refine Below.step ?_ (by assumption))); done)); have hf' := hC.cell; (try simp only [List.forall_mem_cons] at hf'); go_simp; first | exact ⟨(HC.out _ _).2 (hC.skip _ (by rfl)), rfl⟩ | (rw [if_neg]; (exact ⟨(HC.out _ _).2 (hC.skip _ (by rfl)), rfl⟩); omega) | fail); go_simp) | (apply flow_no; (case hw => (go_simp; try (intro hh; cases hh))); (intro L w' _ _ hC; exact (HC.out _ _).2 (((HC.out _ _).1 hC).skip _ (by rfl))); go_simp))
          refine flow_nil ?_
          intro L wz hL hz
          have hz := (HC.out _ _).1 hz
          have hbz := hz.below
          have hcz := hz.cell
          try simp only [List.forall_mem_cons] at hcz
          have hdz := hz.done
          try simp only [List.forall_mem_cons] at hdz
          (try have hwz : Below w.heap.size w wz := by first | exact Below.trans (by (repeat (first | with_reducible exact Below.refl _ _ | with_reducible assumption | with_reducible refine Below.al ?_ _ | with_reducible refine Below.sc ?_ (by first | exact Nat.le_refl _ | (simp; done) | (simp; omega)) _ | assumption | exact Below.refl _ _ | refine Below.dr ?_ | refine Below.drN ?_ _ | refine Below.step ?_ (by assumption)))) hbz | ((repeat (first | with_reducible exact Below.refl _ _ | with_reducible assumption | with_reducible refine Below.al ?_ _ | with_reducible refine Below.sc ?_ (by first | exact Nat.le_refl _ | (simp; done) | (simp; omega)) _ | assumption | exact Below.refl _ _ | refine Below.dr ?_ | refine Below.drN ?_ _ | refine Below.step ?_ (by assumption))); done))
          go_wp2
          refine ⟨⟨k + 1, by omega, by omega, by go_num, ?_, ?_⟩, by simp [intOf]; omega⟩
          · rw [HCT.out, sort_stop (j := 0) strictC HASC.out (by omega) HALL.out HTRI.out (.inl rfl)]
            exact own_below HROW2.out hbz
          · exact (HG.out.trans HGI.out).trans ⟨hbz.os, hbz.tape, hbz.output, hbz.size, fun b hb _ => hbz.block b hb⟩
    · have hck : canG lessC (l.take k) ++ l.drop k = canG lessC l := by rw [List.take_of_length_le (by omega), List.drop_eq_nil_of_le (by omega), List.append_nil]
      rw [hck] at hrow
      have HROW := Lib.hid hrow
      clear hrow hck hgr
      have hkl : ¬ (k : Int) < l.length := by omega
      go_wp2
      go_end0
      exact ⟨rfl, HROW.out, HG.out⟩
set_option maxRecDepth 100000 in
set_option maxHeartbeats 3200000 in
theorem pdqU_any (base : Nat) (l : List UC) (p : Option Addr) (c : Nat) (lim : Int) (w : World) (h : w.ownsRow base 79 4 (.slice p l.length c) l.length (flatU l)) (hn : l.length ≤ 12) (hnd : (l.map (fun x => x.u.name)).Nodup) :
    Calls Tryz.prog 99 #[.slice p l.length c, .int .i64 0, .int .i64 l.length, .int .i64 lim, .func (.func 51) #[] #[]] w fun e w' => e = .returned (.tuple #[]) ∧ w'.ownsRow base 79 4 (.slice p l.length c) l.length (flatU (canG lessC l)) ∧ w.grownBy w' (Value.slice p l.length c).ownBlock := by
  have H := Lib.hid (insSortU_any base l p c w h (by omega) hnd)
  have hi : (l.length : Int) ≤ 12 := by omega
  clear h hnd
  go_enter Tryz.func99, Tryz.ntmps99
  go_wp2
  go_loopw [1, 2] (fun a b wr => a = .int .i64 0 ∧ b = .int .i64 l.length ∧ wr = w) (fun _ _ _ => 0)
  case atStart => exact ⟨rfl, rfl, rfl⟩
  case round =>
    obtain ⟨rfl, rfl, rfl⟩ := hrel
    go_wp2_with fail
    refine H.out.mono ?_
    rintro e w1 ⟨rfl, h1, h2⟩
    have H1 := Lib.hid (And.intro h1 h2)
    clear h1 h2
    go_wp2
    refine bodyPost_ret (results_none rfl _ _ _) rfl ?_
    exact ⟨rfl, H1.out.1, H1.out.2⟩
set_option maxRecDepth 100000 in
set_option maxHeartbeats 1600000 in
theorem sortU_any (base : Nat) (l : List UC) (p : Option Addr) (c : Nat) (w : World) (h : w.ownsRow base 79 4 (.slice p l.length c) l.length (flatU l)) (hn : l.length ≤ 12) (hnd : (l.map (fun x => x.u.name)).Nodup) :
    Calls Tryz.prog 50 #[.slice p l.length c, .func (.func 51) #[] #[]] w fun e w' => e = .returned (.tuple #[]) ∧ w'.ownsRow base 79 4 (.slice p l.length c) l.length (flatU (canG lessC l)) ∧ w.grownBy w' (Value.slice p l.length c).ownBlock := by
  have H := Lib.hid (fun lim => pdqU_any base l p c lim w h hn hnd)
  have hw : IntKind.u64.wrap (l.length : Int) = l.length := by simp [IntKind.wrap, IntKind.bits, IntKind.signed]; omega
  clear h hnd
  go_enter Tryz.func50, Tryz.ntmps50
  go_wp2_with fail
  refine (bitsLen_any l.length w (by omega)).mono ?_
  rintro e w1 ⟨r, rfl, rfl⟩
  clear hw
  go_wp2_with fail
  refine (H.out r).mono ?_
  rintro e w2 ⟨rfl, h1, h2⟩
  have H1 := Lib.hid (And.intro h1 h2)
  clear h1 h2
  go_wp2
  go_end0
  exact ⟨rfl, H1.out.1, H1.out.2⟩
end Go.Proofs.YtcegllnljaapiaaGreat
