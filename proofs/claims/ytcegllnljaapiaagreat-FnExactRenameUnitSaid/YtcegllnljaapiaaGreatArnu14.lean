/- l2Put: a text put into its place. Conditions: it isn't there yet; sizes. -/
import Derived.Test.YtcegllnljaapiaaGreatArnu13
namespace Go.Proofs.YtcegllnljaapiaaGreat
open Go.RowKit
theorem cloneS_any {B : Nat → Prop} (us : List ByteArray) (v : Value) (w : World) (h : StrsAt B w v us) (hl : us.length ≤ 2000000) : Calls Tryz.prog 48 #[v] w fun e w' => ∃ v', e = .returned v' ∧ w'.ownsRow w.heap.size 9 1 v' us.length (strW us) ∧ Below w.heap.size w w' := by
  obtain ⟨p, c, rfl, -⟩ := h.form
  cases us with
  | nil =>
    cases p with
    | none => exact (Tryz.slices_Clone_string_nil _ _ _).mono fun e w' ⟨he, hw⟩ => ⟨_, he, ⟨rfl, .inl ⟨rfl, rfl⟩⟩, hw ▸ Below.refl _ _⟩
    | some a => exact (Tryz.slices_Clone_string_zero a c w).mono fun e w' ⟨v', he, ho, _, hb⟩ => ⟨v', he, ho, hb⟩
  | cons a us =>
    obtain ⟨b, o, rfl, -⟩ := h.at_ (i := 0) (by simp)
    refine (Tryz.slices_Clone_string b o (a :: us).length c (a :: us) w (Nat.le_refl _) (by omega) (fun j hj => ?_)).mono fun e w' ⟨v', he, ho, _, hb⟩ => ⟨v', he, ?_, hb⟩
    · obtain ⟨b', o', hp, -, hc, -⟩ := h.at_ hj
      simp only [Option.some.injEq, Addr.mk.injEq, and_true] at hp
      obtain ⟨rfl, rfl⟩ := hp
      rw [hc, List.getD_eq_getElem?_getD, List.getElem?_eq_getElem hj]; rfl
    · rw [List.take_length] at ho; exact ho
theorem own_slice {w : World} {base n size : Nat} {e : TypeId} {v : Value} {xs : List Value} (h : w.ownsRow base e size v n xs) : ∃ p c, v = .slice p n c := by
  rcases h.2 with ⟨rfl, h0⟩ | ⟨g, cap, cur, rfl, _⟩
  · exact ⟨none, 0, by rw [h0]⟩
  · exact ⟨_, _, rfl⟩
theorem row4_cells {w : World} {k : Nat} {x0 x1 x2 x3 : Value} {t : TypeId} (h : w.heap[k]? = some (.cells #[x0, x1, x2, x3] t (0, 0))) :
    w.cell? ⟨k, 0, none⟩ = some x0 ∧ w.cell? ⟨k, 1, none⟩ = some x1 ∧ w.cell? ⟨k, 2, none⟩ = some x2 ∧ w.cell? ⟨k, 3, none⟩ = some x3 ∧ ∀ j, w.frozen? ⟨k, j, none⟩ = false := by
  refine ⟨?_, ?_, ?_, ?_, fun j => frozen_of_row w k j _ _ h⟩
  · rw [cell_of_row w k 0 _ _ (0, 0) h]; rfl
  · rw [cell_of_row w k 1 _ _ (0, 0) h]; rfl
  · rw [cell_of_row w k 2 _ _ (0, 0) h]; rfl
  · rw [cell_of_row w k 3 _ _ (0, 0) h]; rfl
theorem Kept.grownB {S : Nat → Prop} {w w1 w2 : World} (h : Kept S w w1) {v : Value} (hg : w1.grownBy w2 v.ownBlock) (hv : ∀ b, v.ownBlock = some b → S b) : Kept S w w2 :=
  ⟨hg.os.trans h.os, hg.tape.trans h.tape, hg.output.trans h.output, Nat.le_trans h.size hg.size, fun b hb hs => (hg.block b (Nat.lt_of_lt_of_le hb h.size) (fun e => hs (hv b e.symm))).trans (h.block b hb hs)⟩
theorem renI_snoc (old name : ByteArray) {l : List ByteArray} {j : Nat} (h : j < l.length) : renI old name (l.take (j + 1)) = renI old name (l.take j) ++ [renS old name l[j]] := by
  rw [List.take_succ_eq_append_getElem h, renI, renI, List.map_append]; rfl
theorem renI_len (old name : ByteArray) (l : List ByteArray) : (renI old name l).length = l.length := by rw [renI, List.length_map]
theorem cellQ {w w' : World} {a : Addr} {v : Value} (hb : Below w.heap.size w w') (h : w.cell? a = some v) : w'.cell? a = some v := (hb.cell (World.block_lt_of_cell? w _ h)).trans h
def RuIRel (l : List Un) (old name : ByteArray) (w : World) (out i : Value) (wr : World) : Prop :=
  ∃ (k : Nat) (D : List UC), k ≤ l.length ∧ i = .int .i64 k ∧ D.map UC.u = (l.take k).map (renUn old name) ∧ wr.ownsRow w.heap.size 79 4 out k (flatU D) ∧ Uns 9 w.heap.size wr out D ∧ Below w.heap.size w wr
/-- The middle of a round: block bk is the unit in the making; its includes' row is half renamed. -/
structure RuMid (a : Un) (old name : ByteArray) (base : Nat) (w3 : World) (bk : Nat) (nm : ByteArray) (p4 p7 : Option Addr) (c4 c7 j : Nat) (wr : World) : Prop where
  box : wr.heap[bk]? = some (.cells #[.string nm, .slice p4 a.incs.length c4, .slice p7 a.axs.length c7, .string a.goal] 79 (0, 0))
  row : wr.ownsRow base 9 1 (.slice p4 a.incs.length c4) a.incs.length (strW (renI old name (a.incs.take j) ++ a.incs.drop j))
  kept : Kept (fun b => b = bk ∨ (Value.slice p4 a.incs.length c4).ownBlock = some b) w3 wr
set_option maxRecDepth 100000 in
set_option maxHeartbeats 12800000 in
theorem implRU_any {B : Nat → Prop} (l : List Un) (va : Value) (old name : ByteArray) (w : World) (h : UnsAt B w va l) (hw : l.length + wtU l ≤ 1048576) (hname : name.size ≤ 1048576) :
    Calls Tryz.prog 20 #[va, .string old, .string name] w fun e w' => ∃ v, e = .returned (.tuple #[v, .bool (renOk l old name)]) ∧ UnsOwn 9 79 (NewB w w') w' (renV l old name) v ∧ Below w.heap.size w w' := by
  obtain ⟨p, c, rfl, hlen⟩ := h.form
  unfold maxLen at hlen
  have H := Lib.hid h
  have HO := Lib.hid (show renOk l old name = (unitOf l old && (placeU l name).isNone && symB name.data.toList) from rfl)
  have HV := Lib.hid (show renV l old name = if renOk l old name then renL old name l else [] from rfl)
  clear h
  go_enter Tryz.func20, Tryz.ntmps20
  go_wp2_with fail
  refine (isUnitOf_any l _ old _ (H.out.below (by (repeat (first | with_reducible exact Below.refl _ _ | with_reducible assumption | with_reducible refine Below.al ?_ _ | with_reducible refine Below.sc ?_ (by first | exact Nat.le_refl _ | (simp; done) | (simp; omega)) _ | assumption | exact Below.refl _ _ | refine Below.dr ?_ | refine Below.drN ?_ _ | refine Below.step ?_ (by assumption))))) hw).mono ?_
  rintro e w1 ⟨rfl, hb1⟩
  have ⟨cw1, fw1⟩ := bcell hb1
  have qw1 := hb1.size
  (try simp at qw1)
  (try have zw1w := bsz (show w.heap.size < w1.heap.size by omega))
  cases hu : unitOf l old
  · have HF := Lib.hid (show renOk l old name = false by rw [HO.out, hu]; rfl)
    clear hu
    go_wp2
    go_ret2
    exact ⟨.slice none 0 0, by rw [HF.out]; rfl, by rw [HV.out, HF.out, if_neg (by simp)]; exact OwnRow.nil _ _ _ _ _, by (repeat (first | with_reducible exact Below.refl _ _ | with_reducible assumption | with_reducible refine Below.al ?_ _ | with_reducible refine Below.sc ?_ (by first | exact Nat.le_refl _ | (simp; done) | (simp; omega)) _ | assumption | exact Below.refl _ _ | refine Below.dr ?_ | refine Below.drN ?_ _ | refine Below.step ?_ (by assumption)))⟩
  have HU := Lib.hid hu
  clear hu
  go_wp2_with fail
  refine (unitAt_any l _ name _ (H.out.below (by (repeat (first | with_reducible exact Below.refl _ _ | with_reducible assumption | with_reducible refine Below.al ?_ _ | with_reducible refine Below.sc ?_ (by first | exact Nat.le_refl _ | (simp; done) | (simp; omega)) _ | assumption | exact Below.refl _ _ | refine Below.dr ?_ | refine Below.drN ?_ _ | refine Below.step ?_ (by assumption)))))).mono ?_
  rintro e w2 ⟨r, rfl, hr, hb2⟩
  have hq2 := hb2.size
  cases hpl : placeU l name with
  | some i =>
    rw [hpl] at hr
    obtain rfl : r = (i : Int) := hr
    have HF := Lib.hid (show renOk l old name = false by rw [HO.out, hpl]; simp)
    have hi0 : (0 : Int) ≤ i := by omega
    clear hpl
    go_wp2
    go_ret2
    exact ⟨.slice none 0 0, by rw [HF.out]; rfl, by rw [HV.out, HF.out, if_neg (by simp)]; exact OwnRow.nil _ _ _ _ _, by (repeat (first | with_reducible exact Below.refl _ _ | with_reducible assumption | with_reducible refine Below.al ?_ _ | with_reducible refine Below.sc ?_ (by first | exact Nat.le_refl _ | (simp; done) | (simp; omega)) _ | assumption | exact Below.refl _ _ | refine Below.dr ?_ | refine Below.drN ?_ _ | refine Below.step ?_ (by assumption)))⟩
  | none =>
  rw [hpl] at hr
  obtain rfl : r = -1 := hr
  go_wp2_with fail
  refine (isSymbol_any name _ (by unfold maxLen; omega)).mono ?_
  rintro e w3 ⟨rfl, hb3⟩
  have hq3 := hb3.size
  cases hs : symB name.data.toList
  · have HF := Lib.hid (show renOk l old name = false by rw [HO.out, hs]; simp)
    clear hs hpl
    go_wp2
    go_ret2
    exact ⟨.slice none 0 0, by rw [HF.out]; rfl, by rw [HV.out, HF.out, if_neg (by simp)]; exact OwnRow.nil _ _ _ _ _, by (repeat (first | with_reducible exact Below.refl _ _ | with_reducible assumption | with_reducible refine Below.al ?_ _ | with_reducible refine Below.sc ?_ (by first | exact Nat.le_refl _ | (simp; done) | (simp; omega)) _ | assumption | exact Below.refl _ _ | refine Below.dr ?_ | refine Below.drN ?_ _ | refine Below.step ?_ (by assumption)))⟩
  have HT := Lib.hid (show renOk l old name = true by rw [HO.out, HU.out, hpl, hs]; rfl)
  have HGD := Lib.hid (show libGood l = true by have h := HU.out; rw [unitOf, Bool.and_eq_true] at h; exact h.1)
  have HPN := Lib.hid (place_not (l := l) (x := name) (by rw [hpl]; rfl))
  have hl12 := libGood_len HGD.out
  have hb03 : Below w.heap.size w w3 := by (repeat (first | with_reducible exact Below.refl _ _ | with_reducible assumption | with_reducible refine Below.al ?_ _ | with_reducible refine Below.sc ?_ (by first | exact Nat.le_refl _ | (simp; done) | (simp; omega)) _ | assumption | exact Below.refl _ _ | refine Below.dr ?_ | refine Below.drN ?_ _ | refine Below.step ?_ (by assumption)))
  clear hs hpl
  go_wp2
  go_loopw [8, 32] (RuIRel l old name w) (fun _ i _ => l.length - (intOf i).toNat)
  case atStart =>
    refine ⟨0, [], Nat.zero_le _, rfl, rfl, row_empty w3 w.heap.size _ _ hb03.size, Uns.nil _ _ _ _, Below.al hb03 _⟩
  case round =>
    obtain ⟨k, D, hk, rfl, hD, hrow, huns, hb⟩ := hrel
    have HD := Lib.hid hD
    have HROW := Lib.hid hrow
    have HUNS := Lib.hid huns
    have hDk : D.length = k := by have := congrArg List.length hD; rw [List.length_map, List.length_map, List.length_take] at this; omega
    obtain ⟨po, co, rfl⟩ := own_slice hrow
    have hqr := hb.size
    clear hD hrow huns
    by_cases hlt : k < l.length
    · obtain ⟨b, o, rfl, hB, p1, c1, p2, c2, hx0, hx1, hx2, hx3, hx⟩ := (H.out.below hb).at_ hlt
      have HTK := Lib.hid (List.take_succ_eq_append_getElem hlt)
      have HRI := Lib.hid (ren_incs (old := old) HGD.out HPN.out (List.getElem_mem hlt))
      have hwu := wtU_le l _ (List.getElem_mem hlt)
      obtain ⟨a, ha⟩ : ∃ a, l[k] = a := ⟨_, rfl⟩
      rw [ha] at hx hx0 hx1 hx2 hx3 HTK HRI hwu
      obtain ⟨_, _, _, _, -, q1, q2, -, -, -, l1, l2, hi, hax⟩ := hx.form
      simp only [Value.slice.injEq, true_and] at q1 q2
      obtain ⟨rfl, rfl⟩ := q1
      obtain ⟨rfl, rfl⟩ := q2
      have HI := Lib.hid hi
      have HA := Lib.hid hax
      have hwa : a.wt = a.name.size + (a.incs.length + wtS a.incs) + (a.axs.length + wtS a.axs) + a.goal.size := rfl
      have hli : a.incs.length ≤ 2000000 ∧ a.axs.length ≤ 2000000 := by
        have := HRI.out.2.1; rw [renI_len] at this
        exact ⟨by omega, by omega⟩
      have zb := bsz (World.block_lt_of_cell? _ _ hx0)
      have hki : (k : Int) < l.length := by omega
      clear ha hx hi hax l1 l2 hwa
      go_wp2
      obtain ⟨W, hW⟩ : ∃ W : World, W = wr.alloc (.cells #[.string a.name, .slice p1 a.incs.length c1, .slice p2 a.axs.length c2, .string a.goal] 79) := ⟨_, rfl⟩
      have hbW : Below wr.heap.size wr W := by rw [hW]; exact (Below.refl _ _).alloc (Nat.le_refl _) _
      have k0 : W.cell? ⟨wr.heap.size, 0, none⟩ = some (.string a.name) := by rw [hW]; go_simp
      have k1 : W.cell? ⟨wr.heap.size, 1, none⟩ = some (.slice p1 a.incs.length c1) := by rw [hW]; go_simp
      have k2 : W.cell? ⟨wr.heap.size, 2, none⟩ = some (.slice p2 a.axs.length c2) := by rw [hW]; go_simp
      have k3 : W.cell? ⟨wr.heap.size, 3, none⟩ = some (.string a.goal) := by rw [hW]; go_simp
      have zW := bsz (World.block_lt_of_cell? _ _ k0)
      have hbwW : Below w.heap.size w W := Below.step hb hbW
      rw [← hW]
      clear hW
      refine wp_region_any3 [some (.pointer (some ⟨wr.heap.size, 0, none⟩)), some (.string a.name), some (.pointer (some ⟨wr.heap.size, 1, none⟩)), some (.slice p1 a.incs.length c1), none, some (.pointer (some ⟨wr.heap.size, 2, none⟩)), some (.slice p2 a.axs.length c2), none, some (.pointer (some ⟨wr.heap.size, 3, none⟩)), some (.string a.goal), none, none, none] (CloD 9 79 W a) (by kernel_rfl) (by kernel_rfl) (fun L hL => CloD.start hL) ?_
      refine flowV_st rfl rfl (by intro u' L w' hun hbe hD; go_simp; first | exact ⟨hD.other 0 (by decide), rfl⟩ | exact hD.other 0 (by decide)) ?_
      go_simp
      refine flowV_st rfl rfl (by intro u' L w' hun hbe hD; have hw' := hD.bel; have e0 := cellQ hw' k0; have ze := bsz (World.block_lt_of_cell? _ _ e0); go_simp; first | exact ⟨hD.other 1 (by decide), rfl⟩ | exact hD.other 1 (by decide)) ?_
      go_simp
      refine flowV_st rfl rfl (by intro u' L w' hun hbe hD; go_simp; first | exact ⟨hD.other 2 (by decide), rfl⟩ | exact hD.other 2 (by decide)) ?_
      go_simp
      refine flowV_st rfl rfl (by intro u' L w' hun hbe hD; have hw' := hD.bel; have e0 := cellQ hw' k1; have ze := bsz (World.block_lt_of_cell? _ _ e0); go_simp; first | exact ⟨hD.other 3 (by decide), rfl⟩ | exact hD.other 3 (by decide)) ?_
      go_simp
      refine flowV_ch rfl rfl (by
        intro u' hu' L w' hun hbe hD
        go_simp
        exact (cloneS_any a.incs _ w' ((HI.out.below hbW).below hD.bel) hli.1).mono fun e w'' ⟨v', he, hr, hb'⟩ => ⟨v', he, hD.c4 hun hr hb'⟩) ?_
      intro x4
      go_simp
      refine flowV_st rfl rfl (by intro u' L w' hun hbe hD; go_simp; first | exact ⟨hD.other 5 (by decide), rfl⟩ | exact hD.other 5 (by decide)) ?_
      go_simp
      refine flowV_st rfl rfl (by intro u' L w' hun hbe hD; have hw' := hD.bel; have e0 := cellQ hw' k2; have ze := bsz (World.block_lt_of_cell? _ _ e0); go_simp; first | exact ⟨hD.other 6 (by decide), rfl⟩ | exact hD.other 6 (by decide)) ?_
      go_simp
      refine flowV_ch rfl rfl (by
        intro u' hu' L w' hun hbe hD
        go_simp
        exact (cloneS_any a.axs _ w' ((HA.out.below hbW).below hD.bel) hli.2).mono fun e w'' ⟨v', he, hr, hb'⟩ => ⟨v', he, hD.c7 hun hr hb'⟩) ?_
      intro x7
      go_simp
      refine flowV_st rfl rfl (by intro u' L w' hun hbe hD; go_simp; first | exact ⟨hD.other 8 (by decide), rfl⟩ | exact hD.other 8 (by decide)) ?_
      go_simp
      refine flowV_st rfl rfl (by intro u' L w' hun hbe hD; have hw' := hD.bel; have e0 := cellQ hw' k3; have ze := bsz (World.block_lt_of_cell? _ _ e0); go_simp; first | exact ⟨hD.other 9 (by decide), rfl⟩ | exact hD.other 9 (by decide)) ?_
      go_simp
      refine flowV_ch rfl rfl (by
        intro u' hu' L w' hun hbe hD
        have h4 := after_behind hbe (p := 4) (by kernel_rfl)
        have h7 := after_behind hbe (p := 7) (by kernel_rfl)
        have hu4 : u' 4 = x4 := (after_eq hu' (by kernel_rfl)).trans (by simp [upd])
        have hu7 : u' 7 = x7 := (after_eq hu' (by kernel_rfl)).trans (by simp [upd])
        have hm := hD.m10 hun h4 h7
        obtain ⟨p4, c4, e4⟩ := own_slice (hD.r4 h4)
        obtain ⟨p7, c7, e7⟩ := own_slice (hD.r7 h7)
        rw [e4, e7] at hm
        obtain rfl : x4 = .slice p4 a.incs.length c4 := hu4.symm.trans e4
        obtain rfl : x7 = .slice p7 a.axs.length c7 := hu7.symm.trans e7
        (first | (go_simp; done) | (go_simp; exact hm))) ?_
      intro x10
      go_simp
      refine flowV_ch rfl rfl (by intro u' hu' L w' hun hbe hD; go_simp; exact hD.a11' hun) ?_
      intro x11
      go_simp
      refine flowV_ch rfl rfl (by
        intro u' hu' L w' hun hbe hD
        have h10 := after_behind hbe (p := 10) (by kernel_rfl)
        have h11 := after_behind hbe (p := 11) (by kernel_rfl)
        have hu10 : u' 10 = x10 := (after_eq hu' (by kernel_rfl)).trans (by simp [upd])
        have hu11 : u' 11 = x11 := (after_eq hu' (by kernel_rfl)).trans (by simp [upd])
        obtain ⟨k', e1, e2, e3, e4, e5, e6, e7⟩ := hD.a11 h11
        obtain ⟨h4, h7⟩ := hD.o10 h10
        obtain ⟨p4, c4, f4⟩ := own_slice (hD.r4 h4)
        obtain ⟨p7, c7, f7⟩ := own_slice (hD.r7 h7)
        have hs := hD.s12 (v' := undef) hun h10 h11 e1
        have hv := hD.b10 h10
        rw [f4, f7] at hv hs
        obtain rfl : x10 = _ := hu10.symm.trans hv
        obtain rfl : x11 = _ := hu11.symm.trans e1
        obtain ⟨d0, d1, d2, d3, df⟩ := row4_cells (e3 (getD_tf hun))
        have ze := bsz e5
        clear e1 e2 e3 e4 e5 e6 e7 hv hu10 hu11 hu' f4 f7
        (first | (go_simp; done) | (go_simp; exact hs))) ?_
      intro x12
      refine flowV_nil ?_
      intro L w4 hL hD
      have h4 : L.getD 4 false = true := by simpa using hL 4 (by simp)
      have h7 : L.getD 7 false = true := by simpa using hL 7 (by simp)
      have h11 : L.getD 11 false = true := by simpa using hL 11 (by simp)
      have h12 : L.getD 12 false = true := by simpa using hL 12 (by simp)
      obtain ⟨bk, e1, e2, -, e4, e5, e6, e7⟩ := hD.a11 h11
      have hx11 : x11 = .pointer (some ⟨bk, 0, none⟩) := by simpa [upd] using e1
      have r4 : w4.ownsRow W.heap.size 9 1 x4 a.incs.length (strW a.incs) := by simpa [upd] using hD.r4 h4
      have r7 : w4.ownsRow W.heap.size 9 1 x7 a.axs.length (strW a.axs) := by simpa [upd] using hD.r7 h7
      have hbox : w4.heap[bk]? = some (.cells #[.string a.name, x4, x7, .string a.goal] 79 (0, 0)) := by simpa [upd] using e4 h12
      have hap : ∀ g, x4.ownBlock = some g → x7.ownBlock ≠ some g := by simpa [upd] using hD.ap h4 h7
      have n4 : x4.ownBlock ≠ some bk := by simpa [upd] using e6 h4
      have n7 : x7.ownBlock ≠ some bk := by simpa [upd] using e7 h7
      have hb4 : Below W.heap.size W w4 := hD.bel
      obtain ⟨p4, c4, rfl⟩ := own_slice r4
      obtain ⟨p7, c7, rfl⟩ := own_slice r7
      subst hx11
      obtain ⟨d0, d1, d2, d3, df⟩ := row4_cells hbox
      have zk := bsz e5
      have HAP := Lib.hid (And.intro hap (And.intro n4 n7))
      have HR7 := Lib.hid r7
      have HBS := Lib.hid (And.intro e2 (And.intro hbW hb4))
      have hzA := hbW.size
      have hz4 := hb4.size
      obtain ⟨wA, hwA⟩ : ∃ q, q = wr := ⟨_, rfl⟩
      subst hwA
      have HB := Lib.hid hb
      clear hD hL h4 h7 h11 h12 e1 e2 e4 e5 e6 e7 hap n4 n7 k0 k1 k2 k3 hx0 hx1 hx2 hx3 zb hb4 hb hbW r7
      cases hN : (a.name.toList == old.toList)
      · have hne : a.name ≠ old := fun e => by rw [e, beq_self_eq_true] at hN; cases hN
        have HM := Lib.hid (show RuMid a old name W.heap.size w4 bk (renS old name a.name) p4 p7 c4 c7 0 w4 from ⟨by rw [renS, if_neg hne]; exact hbox, by simpa [renI] using r4, Kept.refl _ _⟩)
        clear hne hbox r4
        go_wp2
        go_loopw [56] (fun i wr' => ∃ j : Nat, j ≤ a.incs.length ∧ i = .int .i64 j ∧ RuMid a old name W.heap.size w4 bk (renS old name a.name) p4 p7 c4 c7 j wr') (fun i _ => a.incs.length - (intOf i).toNat)
        case atStart => exact ⟨0, Nat.zero_le _, rfl, HM.out⟩
        case round =>
          obtain ⟨j, hj, rfl, hm⟩ := hrel
          have HM2 := Lib.hid hm
          obtain ⟨f0, f1, f2, f3, ff⟩ := row4_cells hm.box
          have zq := bsz (blk_lt hm.box)
          clear HM
          by_cases hjl : j < a.incs.length
          · obtain ⟨g, hpg, -, hgl, hgf, hgc⟩ := rowS_cell hm.row (by omega)
            have hgc0 : wr.cell? ⟨g, j, none⟩ = some (.string a.incs[j]) := hgc j _ (by rw [List.getElem?_append_right (by rw [renI_len, List.length_take]; omega), renI_len, List.length_take, show j - min j a.incs.length = 0 by omega, List.getElem?_drop, Nat.add_zero, List.getElem?_eq_getElem hjl])
            have HSN := Lib.hid (renI_snoc old name hjl)
            have HDR := Lib.hid (List.drop_eq_getElem_cons hjl)
            have hgk : g ≠ bk := fun e => HAP.out.2.1 (by rw [hpg, e]; rfl)
            subst hpg
            obtain ⟨y, hy⟩ : ∃ y, a.incs[j] = y := ⟨_, rfl⟩
            rw [hy] at hgc0 HSN HDR
            have zg := bsz hgl
            have hji : (j : Int) < a.incs.length := by omega
            clear hm hgc hy
            cases hE : (y.toList == old.toList)
            · have hne : y ≠ old := fun e => by rw [e, beq_self_eq_true] at hE; cases hE
              have HNE := Lib.hid hne
              clear hne
              go_wp2
              refine ⟨⟨j + 1, by omega, by go_num, ⟨HM2.out.box, ?_, HM2.out.kept⟩⟩, by simp [intOf]; omega⟩
              have hr := HM2.out.row
              rw [HDR.out] at hr
              rw [HSN.out, renS, if_neg HNE.out]
              simpa using hr
            · have hye : y = old := (Lib.bytes_beq_iff y old).1 hE
              have HYE := Lib.hid hye
              clear hye
              go_wp2
              refine ⟨⟨j + 1, by omega, by go_num, ⟨(heap_setCell_other wr ⟨g, j, none⟩ bk _ (fun e => hgk e.symm)).trans HM2.out.box, ?_, HM2.out.kept.set (.inr rfl) _ _⟩⟩, by simp [intOf]; omega⟩
              have hr := rowS_set (k := j) name HM2.out.row
              rw [HDR.out, List.set_append_right _ _ (by rw [renI_len, List.length_take]; omega), renI_len, List.length_take, show j - min j a.incs.length = 0 by omega] at hr
              rw [HSN.out, renS, if_pos HYE.out]
              simpa using hr
          · obtain rfl : j = a.incs.length := by omega
            have hrw := hm.row
            rw [List.take_length, List.drop_length, List.append_nil] at hrw
            have hs := sortS_any W.heap.size (renI old name a.incs) p4 c4 wr (by rw [renI_len]; exact hrw) HRI.out.2.1 HRI.out.1
            rw [renI_len] at hs
            have HS := Lib.hid hs
            have hji : ¬ (a.incs.length : Int) < a.incs.length := by omega
            have hq4 := hm.kept.size
            clear hm hrw hs
            go_wp2_with fail
            refine HS.out.mono ?_
            rintro e w5 ⟨rfl, hr5, hg5⟩
            have hq5 := hg5.size
            have hK5 : Kept (fun b => b = bk ∨ (Value.slice p4 a.incs.length c4).ownBlock = some b) w4 w5 := HM2.out.kept.grownB hg5 (fun b hb => .inr hb)
            have hbx5 := (hg5.block bk (blk_lt HM2.out.box) (fun e => HAP.out.2.1 e.symm)).trans HM2.out.box
            have hbA4 : Below wA.heap.size wA w4 := Below.step HBS.out.2.1 HBS.out.2.2
            have hbA5 : Below wA.heap.size wA w5 := Kept.belowB hbA4 hK5 (fun b hb => by
              rcases hb with rfl | hb
              · have := HBS.out.1; omega
              · have := own_base hr5 b hb; omega)
            have hr75 : w5.ownsRow W.heap.size 9 1 (.slice p7 a.axs.length c7) a.axs.length (strW a.axs) := own_same HR7.out fun g hg hl => hK5.block g hl (fun e => by
              rcases e with rfl | e
              · exact HAP.out.2.2 hg
              · exact HAP.out.1 g e hg)
            have HOUT5 := Lib.hid (own_below HROW.out hbA5)
            have HX := Lib.hid (show UC.Own 9 w.heap.size w5 ⟨renUn old name a, p4, c4, p7, c7⟩ from ⟨by show w5.ownsRow _ _ 1 (.slice p4 (canG lessB (renI old name a.incs)).length c4) (canG lessB (renI old name a.incs)).length _; rw [canG_len, renI_len]; exact own_lower hr5 (by omega), own_lower hr75 (by omega), by show ∀ g, (Value.slice p4 (canG lessB (renI old name a.incs)).length c4).ownBlock = some g → (Value.slice p7 a.axs.length c7).ownBlock ≠ some g; rw [canG_len, renI_len]; exact HAP.out.1⟩)
            have HXB := Lib.hid (show ∀ b, UC.S ⟨renUn old name a, p4, c4, p7, c7⟩ b → wA.heap.size ≤ b from fun b hb => by
              rcases hb with hb | hb
              · have h' : (Value.slice p4 (canG lessB (renI old name a.incs)).length c4).ownBlock = some b := hb
                rw [canG_len, renI_len] at h'
                have := own_base hr5 b h'; omega
              · have := own_base hr75 b hb; omega)
            obtain ⟨g0, g1, g2, g3, gf⟩ := row4_cells hbx5
            have zq5 := bsz (blk_lt hbx5)
            have HB5 := Lib.hid (And.intro hbA5 (Below.step HB.out hbA5))
            have hbase5 : w.heap.size ≤ w5.heap.size := by omega
            clear hr5 hg5 hK5 hbx5 hbA4 hbA5 hr75 f0 f1 f2 f3 ff
            go_wp2_with (at_builtin; refine wpList_app1 rfl (.tmp 73) (.tmp 75) _ rfl w.heap.size 79 4 80 elemUnit _ _ _ rfl w5 #[.string (renS old name a.name), .slice p4 a.incs.length c4, .slice p7 a.axs.length c7, .string a.goal] rfl _ (by simp) rfl HOUT5.out rfl (by simp [Value.oneCell']) (by omega) (by unfold maxLen; omega) hbase5 ?_; intro v6 w6 ho6 hg6 hn6 hl6)
            refine ⟨⟨k + 1, D ++ [⟨renUn old name a, p4, c4, p7, c7⟩], by omega, by go_num, ?_, ?_, ?_, ?_⟩, by simp [intOf]; omega⟩
            · rw [List.map_append, HD.out, HTK.out, List.map_append]; rfl
            · rw [flatU_app]
              have hcs : flatU [(⟨renUn old name a, p4, c4, p7, c7⟩ : UC)] = [.string (renS old name a.name), .slice p4 a.incs.length c4, .slice p7 a.axs.length c7, .string a.goal] := by
                show [Value.string (renS old name a.name), .slice p4 (canG lessB (renI old name a.incs)).length c4, .slice p7 a.axs.length c7, .string a.goal] ++ [] = _
                rw [canG_len, renI_len]; rfl
              rw [hcs]; exact ho6
            · exact ((HUNS.out.below HB5.out.1).snoc HX.out (fun b hb e => by have h1 := HXB.out b hb; have h2 := own_lt' HROW.out e; omega) (fun z hz b h1 h2 => by have h3 := HXB.out b h2; have h4 := ((HUNS.out.each z hz).blk h1).2; omega)).grown hg6 hn6
            · exact HB5.out.2.grown hg6 HB5.out.2.size (fun q hq => own_base HROW.out q hq)
      · have he : a.name = old := (Lib.bytes_beq_iff a.name old).1 hN
        have HM := Lib.hid (show RuMid a old name W.heap.size w4 bk (renS old name a.name) p4 p7 c4 c7 0 (w4.setCell ⟨bk, 0, none⟩ (.string name)) from ⟨by rw [renS, if_pos he]; have := heap_setCell_same w4 bk 0 _ _ (.string name) hbox; simpa using this, own_same (by simpa [renI] using r4) fun g hg _ => heap_setCell_other w4 ⟨bk, 0, none⟩ g _ (fun e => HAP.out.2.1 (by rw [hg]; exact congrArg some e)), (Kept.refl _ _).set (.inl rfl) _ _⟩)
        clear he hbox r4
        go_wp2
        go_loopw [56] (fun i wr' => ∃ j : Nat, j ≤ a.incs.length ∧ i = .int .i64 j ∧ RuMid a old name W.heap.size w4 bk (renS old name a.name) p4 p7 c4 c7 j wr') (fun i _ => a.incs.length - (intOf i).toNat)
        case atStart => exact ⟨0, Nat.zero_le _, rfl, HM.out⟩
        case round =>
          obtain ⟨j, hj, rfl, hm⟩ := hrel
          have HM2 := Lib.hid hm
          obtain ⟨f0, f1, f2, f3, ff⟩ := row4_cells hm.box
          have zq := bsz (blk_lt hm.box)
          clear HM
          by_cases hjl : j < a.incs.length
          · obtain ⟨g, hpg, -, hgl, hgf, hgc⟩ := rowS_cell hm.row (by omega)
            have hgc0 : wr.cell? ⟨g, j, none⟩ = some (.string a.incs[j]) := hgc j _ (by rw [List.getElem?_append_right (by rw [renI_len, List.length_take]; omega), renI_len, List.length_take, show j - min j a.incs.length = 0 by omega, List.getElem?_drop, Nat.add_zero, List.getElem?_eq_getElem hjl])
            have HSN := Lib.hid (renI_snoc old name hjl)
            have HDR := Lib.hid (List.drop_eq_getElem_cons hjl)
            have hgk : g ≠ bk := fun e => HAP.out.2.1 (by rw [hpg, e]; rfl)
            subst hpg
            obtain ⟨y, hy⟩ : ∃ y, a.incs[j] = y := ⟨_, rfl⟩
            rw [hy] at hgc0 HSN HDR
            have zg := bsz hgl
            have hji : (j : Int) < a.incs.length := by omega
            clear hm hgc hy
            cases hE : (y.toList == old.toList)
            · have hne : y ≠ old := fun e => by rw [e, beq_self_eq_true] at hE; cases hE
              have HNE := Lib.hid hne
              clear hne
              go_wp2
              refine ⟨⟨j + 1, by omega, by go_num, ⟨HM2.out.box, ?_, HM2.out.kept⟩⟩, by simp [intOf]; omega⟩
              have hr := HM2.out.row
              rw [HDR.out] at hr
              rw [HSN.out, renS, if_neg HNE.out]
              simpa using hr
            · have hye : y = old := (Lib.bytes_beq_iff y old).1 hE
              have HYE := Lib.hid hye
              clear hye
              go_wp2
              refine ⟨⟨j + 1, by omega, by go_num, ⟨(heap_setCell_other wr ⟨g, j, none⟩ bk _ (fun e => hgk e.symm)).trans HM2.out.box, ?_, HM2.out.kept.set (.inr rfl) _ _⟩⟩, by simp [intOf]; omega⟩
              have hr := rowS_set (k := j) name HM2.out.row
              rw [HDR.out, List.set_append_right _ _ (by rw [renI_len, List.length_take]; omega), renI_len, List.length_take, show j - min j a.incs.length = 0 by omega] at hr
              rw [HSN.out, renS, if_pos HYE.out]
              simpa using hr
          · obtain rfl : j = a.incs.length := by omega
            have hrw := hm.row
            rw [List.take_length, List.drop_length, List.append_nil] at hrw
            have hs := sortS_any W.heap.size (renI old name a.incs) p4 c4 wr (by rw [renI_len]; exact hrw) HRI.out.2.1 HRI.out.1
            rw [renI_len] at hs
            have HS := Lib.hid hs
            have hji : ¬ (a.incs.length : Int) < a.incs.length := by omega
            have hq4 := hm.kept.size
            clear hm hrw hs
            go_wp2_with fail
            refine HS.out.mono ?_
            rintro e w5 ⟨rfl, hr5, hg5⟩
            have hq5 := hg5.size
            have hK5 : Kept (fun b => b = bk ∨ (Value.slice p4 a.incs.length c4).ownBlock = some b) w4 w5 := HM2.out.kept.grownB hg5 (fun b hb => .inr hb)
            have hbx5 := (hg5.block bk (blk_lt HM2.out.box) (fun e => HAP.out.2.1 e.symm)).trans HM2.out.box
            have hbA4 : Below wA.heap.size wA w4 := Below.step HBS.out.2.1 HBS.out.2.2
            have hbA5 : Below wA.heap.size wA w5 := Kept.belowB hbA4 hK5 (fun b hb => by
              rcases hb with rfl | hb
              · have := HBS.out.1; omega
              · have := own_base hr5 b hb; omega)
            have hr75 : w5.ownsRow W.heap.size 9 1 (.slice p7 a.axs.length c7) a.axs.length (strW a.axs) := own_same HR7.out fun g hg hl => hK5.block g hl (fun e => by
              rcases e with rfl | e
              · exact HAP.out.2.2 hg
              · exact HAP.out.1 g e hg)
            have HOUT5 := Lib.hid (own_below HROW.out hbA5)
            have HX := Lib.hid (show UC.Own 9 w.heap.size w5 ⟨renUn old name a, p4, c4, p7, c7⟩ from ⟨by show w5.ownsRow _ _ 1 (.slice p4 (canG lessB (renI old name a.incs)).length c4) (canG lessB (renI old name a.incs)).length _; rw [canG_len, renI_len]; exact own_lower hr5 (by omega), own_lower hr75 (by omega), by show ∀ g, (Value.slice p4 (canG lessB (renI old name a.incs)).length c4).ownBlock = some g → (Value.slice p7 a.axs.length c7).ownBlock ≠ some g; rw [canG_len, renI_len]; exact HAP.out.1⟩)
            have HXB := Lib.hid (show ∀ b, UC.S ⟨renUn old name a, p4, c4, p7, c7⟩ b → wA.heap.size ≤ b from fun b hb => by
              rcases hb with hb | hb
              · have h' : (Value.slice p4 (canG lessB (renI old name a.incs)).length c4).ownBlock = some b := hb
                rw [canG_len, renI_len] at h'
                have := own_base hr5 b h'; omega
              · have := own_base hr75 b hb; omega)
            obtain ⟨g0, g1, g2, g3, gf⟩ := row4_cells hbx5
            have zq5 := bsz (blk_lt hbx5)
            have HB5 := Lib.hid (And.intro hbA5 (Below.step HB.out hbA5))
            have hbase5 : w.heap.size ≤ w5.heap.size := by omega
            clear hr5 hg5 hK5 hbx5 hbA4 hbA5 hr75 f0 f1 f2 f3 ff
            go_wp2_with (at_builtin; refine wpList_app1 rfl (.tmp 73) (.tmp 75) _ rfl w.heap.size 79 4 80 elemUnit _ _ _ rfl w5 #[.string (renS old name a.name), .slice p4 a.incs.length c4, .slice p7 a.axs.length c7, .string a.goal] rfl _ (by simp) rfl HOUT5.out rfl (by simp [Value.oneCell']) (by omega) (by unfold maxLen; omega) hbase5 ?_; intro v6 w6 ho6 hg6 hn6 hl6)
            refine ⟨⟨k + 1, D ++ [⟨renUn old name a, p4, c4, p7, c7⟩], by omega, by go_num, ?_, ?_, ?_, ?_⟩, by simp [intOf]; omega⟩
            · rw [List.map_append, HD.out, HTK.out, List.map_append]; rfl
            · rw [flatU_app]
              have hcs : flatU [(⟨renUn old name a, p4, c4, p7, c7⟩ : UC)] = [.string (renS old name a.name), .slice p4 a.incs.length c4, .slice p7 a.axs.length c7, .string a.goal] := by
                show [Value.string (renS old name a.name), .slice p4 (canG lessB (renI old name a.incs)).length c4, .slice p7 a.axs.length c7, .string a.goal] ++ [] = _
                rw [canG_len, renI_len]; rfl
              rw [hcs]; exact ho6
            · exact ((HUNS.out.below HB5.out.1).snoc HX.out (fun b hb e => by have h1 := HXB.out b hb; have h2 := own_lt' HROW.out e; omega) (fun z hz b h1 h2 => by have h3 := HXB.out b h2; have h4 := ((HUNS.out.each z hz).blk h1).2; omega)).grown hg6 hn6
            · exact HB5.out.2.grown hg6 HB5.out.2.size (fun q hq => own_base HROW.out q hq)
    · obtain rfl : k = l.length := by omega
      have hdm := HD.out
      rw [List.take_length] at hdm
      have hs := sortU_any w.heap.size D po co wr (by rw [hDk]; exact HROW.out) (by omega) (by have := ren_names (old := old) HGD.out HPN.out; rw [← hdm, List.map_map] at this; exact this)
      rw [hDk] at hs
      have HS := Lib.hid hs
      have HDM := Lib.hid hdm
      have hki : ¬ (l.length : Int) < l.length := by omega
      clear hs hdm
      go_wp2_with fail
      refine HS.out.mono ?_
      rintro e w5 ⟨rfl, hr5, hg5⟩
      have HR5 := Lib.hid hr5
      have HG5 := Lib.hid hg5
      clear hr5 hg5
      go_wp2
      go_ret2
      have hbe : Below w.heap.size w w5 := hb.grown HG5.out hb.size (fun q hq => own_base HROW.out q hq)
      refine ⟨.slice po l.length co, by rw [HT.out]; rfl, ?_, hbe⟩
      have hmap : (canG lessC D).map UC.u = renV l old name := by rw [HV.out, HT.out, if_pos rfl, renL, ← HDM.out]; exact canG_map (lt := lessC) (lt' := lessU) (f := UC.u) (fun _ _ => rfl) D
      have hlen : (renV l old name).length = l.length := by rw [HV.out, HT.out, if_pos rfl, renL_len]
      have hU := ((HUNS.out.grown HG5.out (.inl rfl)).perm (canG_perm D)).own (eU := 79) (S := NewB w w5) (us := renV l old name) (by rw [hlen]; exact HR5.out) hmap (by rw [hlen]; unfold maxLen; omega) (fun u hu => ?_) (fun b h1 h2 => ⟨h1, h2⟩)
      · rw [show (Value.slice po l.length co) = .slice po (renV l old name).length co by rw [hlen]] at *
        exact hU
      · rw [HV.out, HT.out, if_pos rfl, renL] at hu
        obtain ⟨u0, hu0, rfl⟩ := List.mem_map.1 (mem_canG.1 hu)
        have h1 := wtU_le l u0 hu0
        have h2 : u0.wt = u0.name.size + (u0.incs.length + wtS u0.incs) + (u0.axs.length + wtS u0.axs) + u0.goal.size := rfl
        have h3 : (renUn old name u0).wt = (renS old name u0.name).size + ((canG lessB (renI old name u0.incs)).length + wtS (canG lessB (renI old name u0.incs))) + (u0.axs.length + wtS u0.axs) + u0.goal.size := rfl
        have h4 := renS_size old name u0.name
        have h5 := wtS_renI old name u0.incs
        have h6 := (ren_incs (old := old) HGD.out HPN.out hu0).2.1
        rw [renI_len] at h6
        have h7 : name.size * u0.incs.length ≤ name.size * 12 := Nat.mul_le_mul_left _ h6
        rw [wtS_canG, canG_len, renI_len] at h3
        unfold maxLen
        omega
end Go.Proofs.YtcegllnljaapiaaGreat
namespace Go.Proofs.YtcegllnljaapiaaGreat
open Go.RowKit
theorem run_app_nil {P : Program} (w : World) (base : Nat) (t ty e : TypeId) (size bytes : Nat) (hE : Elem P t e size bytes) (v : Value) (n : Nat) (xs : List Value) (hown : w.ownsRow base e size v n xs) (c : Nat) :
    (Builtin.append_ #[t, t] ty #[v, .slice none 0 c]).run P w = .ok v w := by
  obtain ⟨ht, i, z, hi, -⟩ := hE
  rcases hown.2 with ⟨rfl, rfl⟩ | ⟨g, cap, cur, rfl, _, _, hnc, _⟩
  · simp [Builtin.append_, run_underlying ht, sizeOf, typeInfo, hi, Builtin.lenOf, Builtin.firstCells]
  · simp [Builtin.append_, run_underlying ht, sizeOf, typeInfo, hi, Builtin.lenOf, Builtin.firstCells, hnc, storeCells]
theorem each_appS {P : Program} {w : World} {o : Oper} {a : Act} {E : Value → World → Prop} (s x : Operand) (t : TypeId) (ho : o.op = .call { callee := .builtin .append, args := #[s, x], argTypes := #[t, t] })
    (base : Nat) (e : TypeId) (bytes : Nat) (hE : Elem P t e 1 bytes)
    (v : Value) (n : Nat) (xs : List Value) (hs : a.eval s = v) (v2 : Value) {B : Nat → Prop} (us : List ByteArray) (hx : a.eval x = v2) (hsrc : StrsAt B w v2 us)
    (hown : w.ownsRow base e 1 v n xs) (hbytes : (n + us.length) * bytes ≤ 140737488355328) (h63 : n + us.length ≤ maxLen) (hbase : base ≤ w.heap.size)
    (h : ∀ v' w', w'.ownsRow base e 1 v' (n + us.length) (xs ++ strW us) → w.grownBy w' v.ownBlock → NewRow v v' w.heap.size → E v' w') : eachUpon P E ((execOp a.eval o).run P w) := by
  have h1 : ∀ u ∈ strW us, u.oneCell' = true := fun u hu => by
    rw [strW, List.mem_map] at hu
    obtain ⟨s, -, rfl⟩ := hu; rfl
  obtain ⟨p, c, rfl, -⟩ := hsrc.form
  cases p with
  | some b =>
    cases us with
    | nil =>
      obtain ⟨ht, i, z, hi, hz, hsz, hby, hzs, hpos⟩ := hE
      obtain ⟨v', w', hr, h2, h3, _, h5⟩ := run_append_own_at (P := P) w base t o.type e i z 1 bytes ht hi hz hsz hby hzs hpos v n xs hown b 0 c [] rfl (fun j u hu => by simp at hu) (by simp) (by simpa using h63) (by simpa using hbytes) hbase
      unfold execOp
      simp only [ho, resolve, invoke, builtin, Sem.run_bind, Sem.run_pure, Result.andThen_ok, List.map_toArray, List.map_cons, List.map_nil, hs, hx]
      simp only [List.length_nil]
      rw [hr]
      exact h _ _ h2 h3 (by
        rcases h5 with h5 | h5
        · exact .inl h5
        · exact .inr ⟨_, h5, Nat.le_refl _⟩)
    | cons a us =>
      obtain ⟨b', o', hq, -⟩ := hsrc.at_ (i := 0) (by simp)
      obtain rfl : b = ⟨b', o', none⟩ := Option.some.inj hq
      exact each_app s x t ho base e 1 bytes hE v n xs hs _ _ _ hx (src_strs hsrc (.inr ⟨_, _, _, rfl⟩)) hown h1 hbytes h63 hbase h
  | none =>
    have h0 : us.length = 0 := by
      rcases Nat.eq_zero_or_pos us.length with h0 | h0
      · exact h0
      · obtain ⟨b', o', h2, -⟩ := hsrc.at_ (i := 0) h0
        cases h2
    obtain rfl : us = [] := List.eq_nil_of_length_eq_zero h0
    have hrun := run_app_nil (P := P) w base t o.type e 1 bytes hE v n xs hown c
    unfold execOp
    simp only [ho, resolve, invoke, builtin, Sem.run_bind, Sem.run_pure, Result.andThen_ok, List.map_toArray, List.map_cons, List.map_nil, hs, hx]
    simp only [List.length_nil] at hrun ⊢
    rw [hrun]
    exact h _ _ (by simpa [strW] using hown) ⟨rfl, rfl, rfl, Nat.le_refl _, fun _ _ _ => rfl⟩ (.inl rfl)
/-- Operations 5 (the empty row), 11 (the axioms' copy), 17 (the unit's value), 18 (its block), 19 (the store). -/
structure CloE (e eU : TypeId) (W : World) (x : Un) (u : Nat → Value) (L : Array Bool) (w : World) : Prop where
  bel : Below W.heap.size W w
  o11 : L.getD 11 false = true → L.getD 5 false = true
  o17 : L.getD 17 false = true → L.getD 11 false = true
  o19 : L.getD 19 false = true → L.getD 17 false = true ∧ L.getD 18 false = true
  r5 : L.getD 5 false = true → L.getD 11 false = false → w.ownsRow W.heap.size e 1 (u 5) 0 []
  r11 : L.getD 11 false = true → w.ownsRow W.heap.size e 1 (u 11) x.axs.length (strW x.axs)
  b17 : L.getD 17 false = true → u 17 = .agg #[.string x.name, .slice none 0 0, u 11, .string x.goal]
  a18 : L.getD 18 false = true → ∃ k, u 18 = .pointer (some ⟨k, 0, none⟩) ∧ W.heap.size ≤ k ∧ (L.getD 19 false = false → w.heap[k]? = some (.cells unitN eU (0, 0))) ∧ (L.getD 19 false = true → w.heap[k]? = some (.cells #[.string x.name, .slice none 0 0, u 11, .string x.goal] eU (0, 0))) ∧ k < w.heap.size ∧ (L.getD 5 false = true → L.getD 11 false = false → (u 5).ownBlock ≠ some k) ∧ (L.getD 11 false = true → (u 11).ownBlock ≠ some k)
section
variable {e eU : TypeId} {W w w' : World} {x : Un} {u : Nat → Value} {L : Array Bool} {v' : Value}
theorem CloE.start (hL : ∀ i, L.getD i false = false) : CloE e eU W x (fun _ => undef) L W.drew := by
  refine ⟨(Below.refl _ _).drew, ?_, ?_, ?_, ?_, ?_, ?_, ?_⟩ <;> (intro h; exact absurd h (by rw [hL]; decide))
theorem CloE.other (h : CloE e eU W x u L w) (k : Nat) (hk : k ∉ [5, 11, 17, 18, 19]) : CloE e eU W x u (L.setIfInBounds k true) w := by
  simp only [List.mem_cons, List.not_mem_nil, or_false, not_or] at hk
  obtain ⟨k5, k11, k17, k18, k19⟩ := hk
  obtain ⟨h1, h2, h3, h4, h5, h6, h7, h8⟩ := h
  refine ⟨h1, ?_, ?_, ?_, ?_, ?_, ?_, ?_⟩ <;> simp only [getD_set_ne false k5, getD_set_ne false k11, getD_set_ne false k17, getD_set_ne false k18, getD_set_ne false k19] <;> assumption
theorem CloE.b5 (h : CloE e eU W x u L w) (hun : L.getD 5 true = false) : CloE e eU W x (upd u 5 (.slice (some ⟨w.heap.size, 0, none⟩) 0 0)) (L.setIfInBounds 5 true) (w.alloc (.cells #[] e)) := by
  have hb := (Below.refl w.heap.size w).alloc (Nat.le_refl _) (.cells #[] e)
  have hn := getD_tf hun
  obtain ⟨h1, h2, h3, h4, h5, h6, h7, h8⟩ := h
  have n11 : L.getD 11 false = false := by
    cases h' : L.getD 11 false with
    | false => rfl
    | true => have := h2 h'; rw [hn] at this; cases this
  refine ⟨h1.alloc h1.size _, ?_, ?_, ?_, ?_, ?_, ?_, ?_⟩ <;> simp only [getD_set_ne false (show (5 : Nat) ≠ 11 by decide), getD_set_ne false (show (5 : Nat) ≠ 17 by decide), getD_set_ne false (show (5 : Nat) ≠ 18 by decide), getD_set_ne false (show (5 : Nat) ≠ 19 by decide), getD_now hun, n11, upd_same, upd_other u _ (show (11 : Nat) ≠ 5 by decide), upd_other u _ (show (17 : Nat) ≠ 5 by decide), upd_other u _ (show (18 : Nat) ≠ 5 by decide)]
  · intro h; cases h
  · intro h; have := h3 h; rw [n11] at this; cases this
  · exact h4
  · intro _ _; exact row_empty w _ e 1 h1.size
  · intro h; cases h
  · exact h7
  · intro a
    obtain ⟨k, e1, e2, e3, e4, e5, e6, e7⟩ := h8 a
    exact ⟨k, e1, e2, fun c => (hb.block k e5).trans (e3 c), fun c => (hb.block k e5).trans (e4 c), by simp; omega, fun _ _ => by simp only [Value.ownBlock, ne_eq, Option.some.injEq]; omega, fun h => by cases h⟩
theorem CloE.a11 (h : CloE e eU W x u L w) (hun : L.getD 11 true = false) (k5 : L.getD 5 false = true) (hr : w'.ownsRow W.heap.size e 1 v' (0 + x.axs.length) ([] ++ strW x.axs)) (hg : w.grownBy w' (u 5).ownBlock) (hnr : NewRow (u 5) v' w.heap.size) : CloE e eU W x (upd u 11 v') (L.setIfInBounds 11 true) w' := by
  have hn := getD_tf hun
  obtain ⟨h1, h2, h3, h4, h5, h6, h7, h8⟩ := h
  have n17 : L.getD 17 false = false := by
    cases h' : L.getD 17 false with
    | false => rfl
    | true => have := h3 h'; rw [hn] at this; cases this
  have n19 : L.getD 19 false = false := by
    cases h' : L.getD 19 false with
    | false => rfl
    | true => have := (h4 h').1; rw [n17] at this; cases this
  have ho := h5 k5 hn
  rw [Nat.zero_add, List.nil_append] at hr
  refine ⟨h1.grown hg h1.size (fun k hk => own_base ho k hk), ?_, ?_, ?_, ?_, ?_, ?_, ?_⟩ <;> simp only [getD_set_ne false (show (11 : Nat) ≠ 5 by decide), getD_set_ne false (show (11 : Nat) ≠ 17 by decide), getD_set_ne false (show (11 : Nat) ≠ 18 by decide), getD_set_ne false (show (11 : Nat) ≠ 19 by decide), getD_now hun, n17, n19, k5, upd_same, upd_other u _ (show (5 : Nat) ≠ 11 by decide), upd_other u _ (show (17 : Nat) ≠ 11 by decide), upd_other u _ (show (18 : Nat) ≠ 11 by decide)]
  · intro _; trivial
  · intro h; cases h
  · intro h; cases h
  · intro _ h; cases h
  · intro _; exact hr
  · intro h; cases h
  · intro a
    obtain ⟨k, e1, e2, e3, e4, e5, e6, e7⟩ := h8 a
    have hz := hg.size
    exact ⟨k, e1, e2, fun _ => (hg.block k e5 (fun e => e6 k5 hn e.symm)).trans (e3 n19), fun c => (by cases c), by omega, fun _ h => (by cases h), fun _ => newRow_ne hnr e5 (e6 k5 hn)⟩
theorem CloE.m17 (h : CloE e eU W x u L w) (hun : L.getD 17 true = false) (k11 : L.getD 11 false = true) : CloE e eU W x (upd u 17 (.agg #[.string x.name, .slice none 0 0, u 11, .string x.goal])) (L.setIfInBounds 17 true) w := by
  obtain ⟨h1, h2, h3, h4, h5, h6, h7, h8⟩ := h
  refine ⟨h1, ?_, ?_, ?_, ?_, ?_, ?_, ?_⟩ <;> simp only [getD_set_ne false (show (17 : Nat) ≠ 5 by decide), getD_set_ne false (show (17 : Nat) ≠ 11 by decide), getD_set_ne false (show (17 : Nat) ≠ 18 by decide), getD_set_ne false (show (17 : Nat) ≠ 19 by decide), getD_now hun, upd_same, upd_other u _ (show (5 : Nat) ≠ 17 by decide), upd_other u _ (show (11 : Nat) ≠ 17 by decide), upd_other u _ (show (18 : Nat) ≠ 17 by decide)]
  · exact h2
  · intro _; exact k11
  · intro a; exact ⟨trivial, (h4 a).2⟩
  · exact h5
  · exact h6
  · intro _; trivial
  · exact h8
theorem CloE.a18' (h : CloE e eU W x u L w) (hun : L.getD 18 true = false) : CloE e eU W x (upd u 18 (.pointer (some ⟨w.heap.size, 0, none⟩))) (L.setIfInBounds 18 true) (w.alloc (.cells unitN eU)) := by
  have hb := (Below.refl w.heap.size w).alloc (Nat.le_refl _) (.cells unitN eU)
  have hn := getD_tf hun
  obtain ⟨h1, h2, h3, h4, h5, h6, h7, h8⟩ := h
  have n19 : L.getD 19 false = false := by
    cases h' : L.getD 19 false with
    | false => rfl
    | true => have := (h4 h').2; rw [hn] at this; cases this
  refine ⟨h1.alloc h1.size _, ?_, ?_, ?_, ?_, ?_, ?_, ?_⟩ <;> simp only [getD_set_ne false (show (18 : Nat) ≠ 5 by decide), getD_set_ne false (show (18 : Nat) ≠ 11 by decide), getD_set_ne false (show (18 : Nat) ≠ 17 by decide), getD_set_ne false (show (18 : Nat) ≠ 19 by decide), getD_now hun, upd_same, upd_other u _ (show (5 : Nat) ≠ 18 by decide), upd_other u _ (show (11 : Nat) ≠ 18 by decide), upd_other u _ (show (17 : Nat) ≠ 18 by decide)]
  · exact h2
  · exact h3
  · intro a; rw [n19] at a; cases a
  · intro a b; exact own_below (h5 a b) hb
  · intro a; exact own_below (h6 a) hb
  · exact h7
  · intro _
    exact ⟨_, rfl, h1.size, fun _ => heap_alloc_new w _, fun c => (by rw [n19] at c; cases c), by simp, fun a b e' => by have := own_lt' (h5 a b) e'; omega, fun a e' => by have := own_lt' (h6 a) e'; omega⟩
theorem CloE.s19 (h : CloE e eU W x u L w) (hun : L.getD 19 true = false) (k17 : L.getD 17 false = true) (k18 : L.getD 18 false = true) {k : Nat} (hk : u 18 = .pointer (some ⟨k, 0, none⟩)) : CloE e eU W x (upd u 19 v') (L.setIfInBounds 19 true) (set4W w k 0 (.string x.name) (.slice none 0 0) (u 11) (.string x.goal)) := by
  have hn := getD_tf hun
  obtain ⟨h1, h2, h3, h4, h5, h6, h7, h8⟩ := h
  obtain ⟨k', e1, e2, e3, e4, e5, e6, e7⟩ := h8 k18
  rw [hk] at e1
  injection e1 with e1
  injection e1 with e1
  injection e1 with e1
  subst e1
  have k11 := h3 k17
  have hsame : ∀ b, b ≠ k → (set4W w k 0 (.string x.name) (.slice none 0 0) (u 11) (.string x.goal)).heap[b]? = w.heap[b]? := fun b hb => set4_other w _ _ _ _ hb
  refine ⟨⟨h1.os, h1.tape, h1.output, by simpa using h1.size, fun b hb => (hsame b (by omega)).trans (h1.block b hb)⟩, ?_, ?_, ?_, ?_, ?_, ?_, ?_⟩ <;> simp only [getD_set_ne false (show (19 : Nat) ≠ 5 by decide), getD_set_ne false (show (19 : Nat) ≠ 11 by decide), getD_set_ne false (show (19 : Nat) ≠ 17 by decide), getD_set_ne false (show (19 : Nat) ≠ 18 by decide), getD_now hun, upd_other u _ (show (5 : Nat) ≠ 19 by decide), upd_other u _ (show (11 : Nat) ≠ 19 by decide), upd_other u _ (show (17 : Nat) ≠ 19 by decide), upd_other u _ (show (18 : Nat) ≠ 19 by decide)]
  · exact h2
  · exact h3
  · intro _; exact ⟨k17, k18⟩
  · intro a b; rw [k11] at b; cases b
  · intro a; exact own_same (h6 a) fun g hg _ => hsame g (fun e' => e7 k11 (by rw [hg, e']))
  · exact h7
  · intro _
    refine ⟨k, hk, e2, fun c => (by cases c), fun _ => ?_, by simpa using e5, e6, e7⟩
    have := heap_setCell_same _ k 3 _ _ (.string x.goal) (heap_setCell_same _ k 2 _ _ (u 11) (heap_setCell_same _ k 1 _ _ (.slice none 0 0) (heap_setCell_same w k 0 _ _ (.string x.name) (e3 hn))))
    simpa [unitN] using this
end
end Go.Proofs.YtcegllnljaapiaaGreat
namespace Go.Proofs.YtcegllnljaapiaaGreat
open Go.RowKit
theorem insG_stop {α : Type} {lt : α → α → Bool} (x : α) : ∀ (P : List α) (j : Nat), (∀ y ∈ P.take j, lt y x = true) → (P.length ≤ j ∨ ∃ h : j < P.length, lt P[j] x = false) → insG lt P x = P.take j ++ x :: P.drop j
  | [], j, _, _ => by simp [insG]
  | p :: P, 0, _, h2 => by
    rcases h2 with h2 | ⟨_, h2⟩
    · simp at h2
    · simp only [List.getElem_cons_zero] at h2
      simp [insG, h2]
  | p :: P, j + 1, h1, h2 => by
    have hp := h1 p (by simp)
    have ih := insG_stop x P j (fun y hy => h1 y (by rw [List.take_succ_cons]; exact List.mem_cons_of_mem _ hy)) (by
      rcases h2 with h2 | ⟨h3, h2⟩
      · exact .inl (by simpa using h2)
      · exact .inr ⟨by simpa using h3, by simpa using h2⟩)
    rw [insG] at ih
    rw [insG, List.takeWhile_cons, List.dropWhile_cons, hp]
    simp only [if_true, List.cons_append, List.take_succ_cons, List.drop_succ_cons]
    rw [ih]
theorem strW_take (l : List ByteArray) (k : Nat) : strW (l.take k) = (strW l).take k := by simp [strW, List.map_take]
theorem strW_drop (l : List ByteArray) (k : Nat) : strW (l.drop k) = (strW l).drop k := by simp [strW, List.map_drop]
theorem strW_cell (l : List ByteArray) : ∀ u ∈ strW l, u.oneCell' = true := by
  intro u hu
  rw [strW, List.mem_map] at hu
  obtain ⟨s, -, rfl⟩ := hu
  rfl
theorem strW_app (a b : List ByteArray) : strW (a ++ b) = strW a ++ strW b := by simp [strW]
theorem strW_cons (a : ByteArray) (b : List ByteArray) : strW (a :: b) = Value.string a :: strW b := rfl
theorem srcS_head {w : World} {base : Nat} {e : TypeId} {g c k : Nat} {l : List ByteArray} (h : w.ownsRow base e 1 (.slice (some ⟨g, 0, none⟩) l.length c) l.length (strW l)) (hk : k ≤ l.length) (c' : Nat) : SrcIs w 1 (.slice (some ⟨g, 0, none⟩) k c') k (strW (l.take k)) := by
  have := src_head h hk c'
  rw [Nat.mul_one] at this
  rw [strW_take]; exact this
theorem srcS_tail' {w w' : World} {base : Nat} {e : TypeId} {g c k m : Nat} {l : List ByteArray} (h : w.ownsRow base e 1 (.slice (some ⟨g, 0, none⟩) l.length c) l.length (strW l)) (hk : k ≤ l.length) (c' : Nat) (hm : m = l.length - k) (hb : Below w.heap.size w w') : SrcIs w' 1 (.slice (some ⟨g, k, none⟩) (l.length - k) c') m (strW (l.drop k)) := by
  have := (src_tail h hk c').below hb
  rw [Nat.mul_one] at this
  rw [strW_drop, hm]; exact this
theorem src_all {w : World} {base : Nat} {e : TypeId} {size g n c : Nat} {xs : List Value} (h : w.ownsRow base e size (.slice (some ⟨g, 0, none⟩) n c) n xs) : SrcIs w size (.slice (some ⟨g, 0, none⟩) n c) n xs := by
  have := src_head h (Nat.le_refl n) c
  rwa [← h.1, List.take_length] at this
def PutRel (l : List ByteArray) (x : ByteArray) (w : World) (i : Value) (wr : World) : Prop := ∃ k : Nat, k ≤ l.length ∧ i = .int .i64 k ∧ (∀ y ∈ l.take k, lessB y x = true) ∧ wr = w
set_option maxRecDepth 100000 in
set_option maxHeartbeats 6400000 in
theorem l2Put_any (l : List ByteArray) (v : Value) (x : ByteArray) (w : World) (h : w.ownsRow 0 9 1 v l.length (strW l)) (hx : x ∉ l) (hl : l.length ≤ 1000000) :
    Calls Tryz.prog 43 #[v, .string x] w fun e w' => ∃ v', e = .returned v' ∧ w'.ownsRow w.heap.size 9 1 v' (l.length + 1) (strW (insG lessB l x)) ∧ Below w.heap.size w w' := by
  have H := Lib.hid h
  have HX := Lib.hid hx
  rcases h.2 with ⟨rfl, h0⟩ | ⟨g, c, cur, rfl, -, -, hnc, -⟩
  · obtain rfl : l = [] := List.eq_nil_of_length_eq_zero h0
    clear h hx
    go_enter Tryz.func43, Tryz.ntmps43
    go_wp2
    go_loopw [5] (fun i wr => i = .int .i64 ((0 : Nat) : Int) ∧ wr = w) (fun _ _ => 0)
    case atStart => exact ⟨rfl, rfl⟩
    case round =>
      obtain ⟨rfl, rfl⟩ := hrel
      go_wp2
      refine wp_region_any3 [none, some (.slice none 0 0), some (.int .i64 (0 : Nat)), some (.slice none 0 0), none, some (.string x), none, none, some (.slice none 0 0), some (.int .i64 (0 : Nat)), some (.slice none 0 0), none, none] (InsD 9 1 wr 0 (0 + 1) ([]) ([]) (#[.string x])) (by kernel_rfl) (by kernel_rfl) (fun L hL => InsD.start hL) ?_
      refine flowV_ch rfl rfl (by intro u' hu' L w' hun hbe hD; go_simp; exact hD.b0 hun) ?_
      intro x0
      go_simp
      refine flowV_st rfl rfl (by intro u' L w' hun hbe hD; go_simp; first | exact ⟨hD.other 1 (by decide), rfl⟩ | exact hD.other 1 (by decide)) ?_
      go_simp
      refine flowV_st rfl rfl (by intro u' L w' hun hbe hD; go_simp; first | exact ⟨hD.other 2 (by decide), rfl⟩ | exact hD.other 2 (by decide)) ?_
      go_simp
      refine flowV_st rfl rfl (by intro u' L w' hun hbe hD; go_simp; first | exact ⟨hD.other 3 (by decide), rfl⟩ | exact hD.other 3 (by decide)) ?_
      go_simp
      refine flowV_ch rfl rfl ?_ ?_
      · intro u' hu' L w' hun hbe hD
        have hu0 : u' 0 = x0 := (after_eq hu' (by kernel_rfl)).trans (by simp [upd])
        have h0 := after_behind hbe (p := 0) (by kernel_rfl)
        have hw := hD.bel
        refine each_app (.tmp 33) (.tmp 36) 73 rfl wr.heap.size 9 1 16 elemStr (u' 0) 0 [] (by rw [hu0]; rfl) _ 0 ([]) rfl ((.inl ⟨rfl, rfl, rfl⟩)) (hD.r0 h0 (getD_tf hun)) (by simp) (by omega) (by unfold maxLen; omega) hw.size ?_
        intro v' w2 hr hg hn
        exact hD.a4 hun h0 hr hg hn
      intro x4
      go_simp
      refine flowV_st rfl rfl (by intro u' L w' hun hbe hD; have hw := hD.bel; go_simp; first | exact ⟨hD.other 5 (by decide), rfl⟩ | exact hD.other 5 (by decide)) ?_
      go_simp
      refine flowV_ch rfl rfl (by intro u' hu' L w' hun hbe hD; go_simp; exact hD.b6 hun) ?_
      intro x6
      go_simp
      refine flowV_ch rfl rfl ?_ ?_
      · intro u' hu' L w' hun hbe hD
        have hu4 : u' 4 = x4 := (after_eq hu' (by kernel_rfl)).trans (by simp [upd])
        have hu6 : u' 6 = x6 := (after_eq hu' (by kernel_rfl)).trans (by simp [upd])
        have h4 := after_behind hbe (p := 4) (by kernel_rfl)
        have h6 := after_behind hbe (p := 6) (by kernel_rfl)
        have hw := hD.bel
        obtain ⟨q, hq, hqc, -, -⟩ := hD.r6 h6 (getD_tf hun)
        refine each_app (.tmp 37) (.tmp 39) 73 rfl wr.heap.size 9 1 16 elemStr (u' 4) 0 ([]) (by rw [hu4]; rfl) (.slice (some ⟨q, 0, none⟩) 1 1) 1 (#[.string x]).toList (by rw [← hq, hu6]; rfl) (src_block hqc (by simp)) (hD.r4 h4 (getD_tf hun)) (by simp [Value.oneCell']) (by omega) (by unfold maxLen; omega) hw.size ?_
        intro v' w2 hr hg hn
        exact hD.a7 hun h4 h6 hr hg
      intro x7
      go_simp
      refine flowV_st rfl rfl (by intro u' L w' hun hbe hD; go_simp; first | exact ⟨hD.other 8 (by decide), rfl⟩ | exact hD.other 8 (by decide)) ?_
      go_simp
      refine flowV_st rfl rfl (by intro u' L w' hun hbe hD; go_simp; first | exact ⟨hD.other 9 (by decide), rfl⟩ | exact hD.other 9 (by decide)) ?_
      go_simp
      refine flowV_st rfl rfl (by intro u' L w' hun hbe hD; go_simp; first | exact ⟨hD.other 10 (by decide), rfl⟩ | exact hD.other 10 (by decide)) ?_
      go_simp
      refine flowV_ch rfl rfl ?_ ?_
      · intro u' hu' L w' hun hbe hD
        have hu7 : u' 7 = x7 := (after_eq hu' (by kernel_rfl)).trans (by simp [upd])
        have h7 := after_behind hbe (p := 7) (by kernel_rfl)
        have hw := hD.bel
        refine each_app (.tmp 40) (.tmp 43) 73 rfl wr.heap.size 9 1 16 elemStr (u' 7) (0 + 1) (([]) ++ (#[.string x]).toList) (by rw [hu7]; rfl) _ ((0 + 1) - (0 + 1)) ([]) rfl ((.inl ⟨rfl, by simp, rfl⟩)) (hD.r7 h7 (getD_tf hun)) (by simp) (by omega) (by unfold maxLen; omega) hw.size ?_
        intro v' w2 hr hg hn
        rw [show 0 + 1 + ((0 + 1) - (0 + 1)) = (0 + 1) by omega] at hr
        exact hD.a11 hun h7 hr hg
      intro x11
      go_simp
      refine flowV_ch rfl rfl ?_ ?_
      · intro u' hu' L w' hun hbe hD
        have hu11 : u' 11 = x11 := (after_eq hu' (by kernel_rfl)).trans (by simp [upd])
        have h11 := after_behind hbe (p := 11) (by kernel_rfl)
        go_simp
        rw [← hu11]
        exact hD.m12 hun h11
      intro x12
      go_simp
      refine flowV_nil ?_
      intro L w3 hL hD
      have hx12 : x12 = x11 := by have := hD.r12 (by simpa using hL 12 (by simp)); simpa [upd] using this
      have hrow : w3.ownsRow wr.heap.size 9 1 x11 (0 + 1) (([]) ++ (#[.string x]).toList ++ ([])) := by have := hD.r11 (by simpa using hL 11 (by simp)); simpa [upd] using this
      have hbel3 := hD.bel
      subst hx12
      go_wp2
      refine bodyPost_ret (v := x12) (by simp only [results, Tryz.results43]; go_simp) rfl ⟨_, rfl, ?_, hbel3⟩
      simpa [insG, strW] using hrow
  · have hg := bsz (own_lt h)
    have hci : l.length ≤ c := hnc
    clear h hx
    go_enter Tryz.func43, Tryz.ntmps43
    go_wp2
    go_loopw [5] (PutRel l x w) (fun i _ => l.length - (intOf i).toNat)
    case atStart => exact ⟨0, Nat.zero_le _, rfl, by simp, rfl⟩
    case round =>
      obtain ⟨k, hk, rfl, hle, rfl⟩ := hrel
      have HLE := Lib.hid hle
      clear hle
      by_cases hlt : k < l.length
      · have c0 : wr.cell? ⟨g, k, none⟩ = some (.string l[k]) := by rw [H.out.cellAt k (by omega), strW, List.getElem?_map, List.getElem?_eq_getElem hlt]; rfl
        have hne : l[k] ≠ x := fun e => HX.out (e ▸ List.getElem_mem hlt)
        have HK := Lib.hid (List.take_succ_eq_append_getElem hlt)
        obtain ⟨y, hy⟩ : ∃ y, l[k] = y := ⟨_, rfl⟩
        rw [hy] at c0 hne HK
        have HY := Lib.hid hy
        have hki : (k : Int) < l.length := by omega
        have hkc : (k : Int) ≤ c := by omega
        have hkc2 : k ≤ c := by omega
        have hlc : (l.length : Int) ≤ c := by omega
        have hkl : (k : Int) ≤ l.length := by omega
        have hck : c ≠ k := by omega
        have hne2 : (y.toList == x.toList) = false := by
          rw [Bool.eq_false_iff]; intro e; exact hne ((Lib.bytes_beq_iff y x).1 e)
        clear hy hne
        have hll : Op.bytesLess y.toList x.toList = lessB y x := by rw [lessB, ByteArray.toList_eq, ByteArray.toList_eq]
        cases hL : lessB y x
        · rw [hL] at hll
          have HL := Lib.hid hL
          clear hL
          go_wp2
          refine wp_region_any3 [none, some (.slice (some ⟨g, 0, none⟩) l.length c), some (.int .i64 (k : Nat)), some (.slice (some ⟨g, 0, none⟩) k c), none, some (.string x), none, none, some (.slice (some ⟨g, 0, none⟩) l.length c), some (.int .i64 (k : Nat)), some (.slice (some ⟨g, k, none⟩) (l.length - k) (c - k)), none, none] (InsD 9 1 wr k (l.length + 1) (strW (l.take k)) (strW (l.drop k)) (#[.string x])) (by kernel_rfl) (by kernel_rfl) (fun L hL => InsD.start hL) ?_
          refine flowV_ch rfl rfl (by intro u' hu' L w' hun hbe hD; go_simp; exact hD.b0 hun) ?_
          intro x0
          go_simp
          refine flowV_st rfl rfl (by intro u' L w' hun hbe hD; go_simp; first | exact ⟨hD.other 1 (by decide), rfl⟩ | exact hD.other 1 (by decide)) ?_
          go_simp
          refine flowV_st rfl rfl (by intro u' L w' hun hbe hD; go_simp; first | exact ⟨hD.other 2 (by decide), rfl⟩ | exact hD.other 2 (by decide)) ?_
          go_simp
          refine flowV_st rfl rfl (by intro u' L w' hun hbe hD; go_simp; first | exact ⟨hD.other 3 (by decide), rfl⟩ | exact hD.other 3 (by decide)) ?_
          go_simp
          refine flowV_ch rfl rfl ?_ ?_
          · intro u' hu' L w' hun hbe hD
            have hu0 : u' 0 = x0 := (after_eq hu' (by kernel_rfl)).trans (by simp [upd])
            have h0 := after_behind hbe (p := 0) (by kernel_rfl)
            have hw := hD.bel
            refine each_app (.tmp 33) (.tmp 36) 73 rfl wr.heap.size 9 1 16 elemStr (u' 0) 0 [] (by rw [hu0]; rfl) _ k (strW (l.take k)) rfl ((srcS_head H.out (Nat.le_of_lt hlt) c).below hw) (hD.r0 h0 (getD_tf hun)) (by first | exact strW_cell _ | simp) (by omega) (by unfold maxLen; omega) hw.size ?_
            intro v' w2 hr hg hn
            exact hD.a4 hun h0 hr hg hn
          intro x4
          go_simp
          refine flowV_st rfl rfl (by intro u' L w' hun hbe hD; have hw := hD.bel; go_simp; first | exact ⟨hD.other 5 (by decide), rfl⟩ | exact hD.other 5 (by decide)) ?_
          go_simp
          refine flowV_ch rfl rfl (by intro u' hu' L w' hun hbe hD; go_simp; exact hD.b6 hun) ?_
          intro x6
          go_simp
          refine flowV_ch rfl rfl ?_ ?_
          · intro u' hu' L w' hun hbe hD
            have hu4 : u' 4 = x4 := (after_eq hu' (by kernel_rfl)).trans (by simp [upd])
            have hu6 : u' 6 = x6 := (after_eq hu' (by kernel_rfl)).trans (by simp [upd])
            have h4 := after_behind hbe (p := 4) (by kernel_rfl)
            have h6 := after_behind hbe (p := 6) (by kernel_rfl)
            have hw := hD.bel
            obtain ⟨q, hq, hqc, -, -⟩ := hD.r6 h6 (getD_tf hun)
            refine each_app (.tmp 37) (.tmp 39) 73 rfl wr.heap.size 9 1 16 elemStr (u' 4) k (strW (l.take k)) (by rw [hu4]; rfl) (.slice (some ⟨q, 0, none⟩) 1 1) 1 (#[.string x]).toList (by rw [← hq, hu6]; rfl) (src_block hqc (by simp)) (hD.r4 h4 (getD_tf hun)) (by simp [Value.oneCell']) (by omega) (by unfold maxLen; omega) hw.size ?_
            intro v' w2 hr hg hn
            exact hD.a7 hun h4 h6 hr hg
          intro x7
          go_simp
          refine flowV_st rfl rfl (by intro u' L w' hun hbe hD; go_simp; first | exact ⟨hD.other 8 (by decide), rfl⟩ | exact hD.other 8 (by decide)) ?_
          go_simp
          refine flowV_st rfl rfl (by intro u' L w' hun hbe hD; go_simp; first | exact ⟨hD.other 9 (by decide), rfl⟩ | exact hD.other 9 (by decide)) ?_
          go_simp
          refine flowV_st rfl rfl (by intro u' L w' hun hbe hD; go_simp; first | exact ⟨hD.other 10 (by decide), rfl⟩ | exact hD.other 10 (by decide)) ?_
          go_simp
          refine flowV_ch rfl rfl ?_ ?_
          · intro u' hu' L w' hun hbe hD
            have hu7 : u' 7 = x7 := (after_eq hu' (by kernel_rfl)).trans (by simp [upd])
            have h7 := after_behind hbe (p := 7) (by kernel_rfl)
            have hw := hD.bel
            refine each_app (.tmp 40) (.tmp 43) 73 rfl wr.heap.size 9 1 16 elemStr (u' 7) (k + 1) ((strW (l.take k)) ++ (#[.string x]).toList) (by rw [hu7]; rfl) _ ((l.length + 1) - (k + 1)) (strW (l.drop k)) rfl (srcS_tail' H.out (Nat.le_of_lt hlt) (c - k) (by omega) hw) (hD.r7 h7 (getD_tf hun)) (by first | exact strW_cell _ | simp) (by omega) (by unfold maxLen; omega) hw.size ?_
            intro v' w2 hr hg hn
            rw [show k + 1 + ((l.length + 1) - (k + 1)) = (l.length + 1) by omega] at hr
            exact hD.a11 hun h7 hr hg
          intro x11
          go_simp
          refine flowV_ch rfl rfl ?_ ?_
          · intro u' hu' L w' hun hbe hD
            have hu11 : u' 11 = x11 := (after_eq hu' (by kernel_rfl)).trans (by simp [upd])
            have h11 := after_behind hbe (p := 11) (by kernel_rfl)
            go_simp
            rw [← hu11]
            exact hD.m12 hun h11
          intro x12
          go_simp
          refine flowV_nil ?_
          intro L w3 hL hD
          have hx12 : x12 = x11 := by have := hD.r12 (by simpa using hL 12 (by simp)); simpa [upd] using this
          have hrow : w3.ownsRow wr.heap.size 9 1 x11 (l.length + 1) ((strW (l.take k)) ++ (#[.string x]).toList ++ (strW (l.drop k))) := by have := hD.r11 (by simpa using hL 11 (by simp)); simpa [upd] using this
          have hbel3 := hD.bel
          subst hx12
          go_wp2
          refine bodyPost_ret (v := x12) (by simp only [results, Tryz.results43]; go_simp) rfl ⟨_, rfl, ?_, hbel3⟩
          rw [insG_stop x l k HLE.out (.inr ⟨hlt, by rw [HY.out]; exact HL.out⟩), strW_app, strW_cons]
          simpa using hrow
        · rw [hL] at hll
          have HL := Lib.hid hL
          clear hL
          go_wp2
          refine ⟨⟨k + 1, by omega, by go_num, fun z hz => ?_, rfl⟩, by simp [intOf]; omega⟩
          rw [HK.out] at hz
          rcases List.mem_append.1 hz with hz | hz
          · exact HLE.out z hz
          · obtain rfl : z = y := by simpa using hz
            exact HL.out
      · obtain rfl : k = l.length := by omega
        have hkl : (l.length : Int) ≤ c := by omega
        have hkn : ¬ (l.length : Int) < l.length := by omega
        by_cases hcl : c = l.length
        · subst hcl
          go_wp2
          refine wp_region_any3 [none, some (.slice (some ⟨g, 0, none⟩) l.length l.length), some (.int .i64 (l.length : Nat)), some (.slice (some ⟨g, 0, none⟩) l.length l.length), none, some (.string x), none, none, some (.slice (some ⟨g, 0, none⟩) l.length l.length), some (.int .i64 (l.length : Nat)), some (.slice (some ⟨g, 0, none⟩) 0 0), none, none] (InsD 9 1 wr l.length (l.length + 1) (strW l) ([]) (#[.string x])) (by kernel_rfl) (by kernel_rfl) (fun L hL => InsD.start hL) ?_
          refine flowV_ch rfl rfl (by intro u' hu' L w' hun hbe hD; go_simp; exact hD.b0 hun) ?_
          intro x0
          go_simp
          refine flowV_st rfl rfl (by intro u' L w' hun hbe hD; go_simp; first | exact ⟨hD.other 1 (by decide), rfl⟩ | exact hD.other 1 (by decide)) ?_
          go_simp
          refine flowV_st rfl rfl (by intro u' L w' hun hbe hD; go_simp; first | exact ⟨hD.other 2 (by decide), rfl⟩ | exact hD.other 2 (by decide)) ?_
          go_simp
          refine flowV_st rfl rfl (by intro u' L w' hun hbe hD; go_simp; first | exact ⟨hD.other 3 (by decide), rfl⟩ | exact hD.other 3 (by decide)) ?_
          go_simp
          refine flowV_ch rfl rfl ?_ ?_
          · intro u' hu' L w' hun hbe hD
            have hu0 : u' 0 = x0 := (after_eq hu' (by kernel_rfl)).trans (by simp [upd])
            have h0 := after_behind hbe (p := 0) (by kernel_rfl)
            have hw := hD.bel
            refine each_app (.tmp 33) (.tmp 36) 73 rfl wr.heap.size 9 1 16 elemStr (u' 0) 0 [] (by rw [hu0]; rfl) _ l.length (strW l) rfl ((src_all H.out).below hw) (hD.r0 h0 (getD_tf hun)) (by first | exact strW_cell _ | simp) (by omega) (by unfold maxLen; omega) hw.size ?_
            intro v' w2 hr hg hn
            exact hD.a4 hun h0 hr hg hn
          intro x4
          go_simp
          refine flowV_st rfl rfl (by intro u' L w' hun hbe hD; have hw := hD.bel; go_simp; first | exact ⟨hD.other 5 (by decide), rfl⟩ | exact hD.other 5 (by decide)) ?_
          go_simp
          refine flowV_ch rfl rfl (by intro u' hu' L w' hun hbe hD; go_simp; exact hD.b6 hun) ?_
          intro x6
          go_simp
          refine flowV_ch rfl rfl ?_ ?_
          · intro u' hu' L w' hun hbe hD
            have hu4 : u' 4 = x4 := (after_eq hu' (by kernel_rfl)).trans (by simp [upd])
            have hu6 : u' 6 = x6 := (after_eq hu' (by kernel_rfl)).trans (by simp [upd])
            have h4 := after_behind hbe (p := 4) (by kernel_rfl)
            have h6 := after_behind hbe (p := 6) (by kernel_rfl)
            have hw := hD.bel
            obtain ⟨q, hq, hqc, -, -⟩ := hD.r6 h6 (getD_tf hun)
            refine each_app (.tmp 37) (.tmp 39) 73 rfl wr.heap.size 9 1 16 elemStr (u' 4) l.length (strW l) (by rw [hu4]; rfl) (.slice (some ⟨q, 0, none⟩) 1 1) 1 (#[.string x]).toList (by rw [← hq, hu6]; rfl) (src_block hqc (by simp)) (hD.r4 h4 (getD_tf hun)) (by simp [Value.oneCell']) (by omega) (by unfold maxLen; omega) hw.size ?_
            intro v' w2 hr hg hn
            exact hD.a7 hun h4 h6 hr hg
          intro x7
          go_simp
          refine flowV_st rfl rfl (by intro u' L w' hun hbe hD; go_simp; first | exact ⟨hD.other 8 (by decide), rfl⟩ | exact hD.other 8 (by decide)) ?_
          go_simp
          refine flowV_st rfl rfl (by intro u' L w' hun hbe hD; go_simp; first | exact ⟨hD.other 9 (by decide), rfl⟩ | exact hD.other 9 (by decide)) ?_
          go_simp
          refine flowV_st rfl rfl (by intro u' L w' hun hbe hD; go_simp; first | exact ⟨hD.other 10 (by decide), rfl⟩ | exact hD.other 10 (by decide)) ?_
          go_simp
          refine flowV_ch rfl rfl ?_ ?_
          · intro u' hu' L w' hun hbe hD
            have hu7 : u' 7 = x7 := (after_eq hu' (by kernel_rfl)).trans (by simp [upd])
            have h7 := after_behind hbe (p := 7) (by kernel_rfl)
            have hw := hD.bel
            refine each_app (.tmp 40) (.tmp 43) 73 rfl wr.heap.size 9 1 16 elemStr (u' 7) (l.length + 1) ((strW l) ++ (#[.string x]).toList) (by rw [hu7]; rfl) _ ((l.length + 1) - (l.length + 1)) ([]) rfl (srcNil (by omega)) (hD.r7 h7 (getD_tf hun)) (by first | exact strW_cell _ | simp) (by omega) (by unfold maxLen; omega) hw.size ?_
            intro v' w2 hr hg hn
            rw [show l.length + 1 + ((l.length + 1) - (l.length + 1)) = (l.length + 1) by omega] at hr
            exact hD.a11 hun h7 hr hg
          intro x11
          go_simp
          refine flowV_ch rfl rfl ?_ ?_
          · intro u' hu' L w' hun hbe hD
            have hu11 : u' 11 = x11 := (after_eq hu' (by kernel_rfl)).trans (by simp [upd])
            have h11 := after_behind hbe (p := 11) (by kernel_rfl)
            go_simp
            rw [← hu11]
            exact hD.m12 hun h11
          intro x12
          go_simp
          refine flowV_nil ?_
          intro L w3 hL hD
          have hx12 : x12 = x11 := by have := hD.r12 (by simpa using hL 12 (by simp)); simpa [upd] using this
          have hrow : w3.ownsRow wr.heap.size 9 1 x11 (l.length + 1) ((strW l) ++ (#[.string x]).toList ++ ([])) := by have := hD.r11 (by simpa using hL 11 (by simp)); simpa [upd] using this
          have hbel3 := hD.bel
          subst hx12
          go_wp2
          refine bodyPost_ret (v := x12) (by simp only [results, Tryz.results43]; go_simp) rfl ⟨_, rfl, ?_, hbel3⟩
          rw [insG_stop x l l.length HLE.out (.inl (Nat.le_refl _)), List.take_length, List.drop_length, strW_app, strW_cons]
          simpa [strW] using hrow
        · have hcl2 : ¬ l.length = c := fun e => hcl e.symm
          go_wp2
          refine wp_region_any3 [none, some (.slice (some ⟨g, 0, none⟩) l.length c), some (.int .i64 (l.length : Nat)), some (.slice (some ⟨g, 0, none⟩) l.length c), none, some (.string x), none, none, some (.slice (some ⟨g, 0, none⟩) l.length c), some (.int .i64 (l.length : Nat)), some (.slice (some ⟨g, l.length, none⟩) 0 (c - l.length)), none, none] (InsD 9 1 wr l.length (l.length + 1) (strW l) ([]) (#[.string x])) (by kernel_rfl) (by kernel_rfl) (fun L hL => InsD.start hL) ?_
          refine flowV_ch rfl rfl (by intro u' hu' L w' hun hbe hD; go_simp; exact hD.b0 hun) ?_
          intro x0
          go_simp
          refine flowV_st rfl rfl (by intro u' L w' hun hbe hD; go_simp; first | exact ⟨hD.other 1 (by decide), rfl⟩ | exact hD.other 1 (by decide)) ?_
          go_simp
          refine flowV_st rfl rfl (by intro u' L w' hun hbe hD; go_simp; first | exact ⟨hD.other 2 (by decide), rfl⟩ | exact hD.other 2 (by decide)) ?_
          go_simp
          refine flowV_st rfl rfl (by intro u' L w' hun hbe hD; go_simp; first | exact ⟨hD.other 3 (by decide), rfl⟩ | exact hD.other 3 (by decide)) ?_
          go_simp
          refine flowV_ch rfl rfl ?_ ?_
          · intro u' hu' L w' hun hbe hD
            have hu0 : u' 0 = x0 := (after_eq hu' (by kernel_rfl)).trans (by simp [upd])
            have h0 := after_behind hbe (p := 0) (by kernel_rfl)
            have hw := hD.bel
            refine each_app (.tmp 33) (.tmp 36) 73 rfl wr.heap.size 9 1 16 elemStr (u' 0) 0 [] (by rw [hu0]; rfl) _ l.length (strW l) rfl ((src_all H.out).below hw) (hD.r0 h0 (getD_tf hun)) (by first | exact strW_cell _ | simp) (by omega) (by unfold maxLen; omega) hw.size ?_
            intro v' w2 hr hg hn
            exact hD.a4 hun h0 hr hg hn
          intro x4
          go_simp
          refine flowV_st rfl rfl (by intro u' L w' hun hbe hD; have hw := hD.bel; go_simp; first | exact ⟨hD.other 5 (by decide), rfl⟩ | exact hD.other 5 (by decide)) ?_
          go_simp
          refine flowV_ch rfl rfl (by intro u' hu' L w' hun hbe hD; go_simp; exact hD.b6 hun) ?_
          intro x6
          go_simp
          refine flowV_ch rfl rfl ?_ ?_
          · intro u' hu' L w' hun hbe hD
            have hu4 : u' 4 = x4 := (after_eq hu' (by kernel_rfl)).trans (by simp [upd])
            have hu6 : u' 6 = x6 := (after_eq hu' (by kernel_rfl)).trans (by simp [upd])
            have h4 := after_behind hbe (p := 4) (by kernel_rfl)
            have h6 := after_behind hbe (p := 6) (by kernel_rfl)
            have hw := hD.bel
            obtain ⟨q, hq, hqc, -, -⟩ := hD.r6 h6 (getD_tf hun)
            refine each_app (.tmp 37) (.tmp 39) 73 rfl wr.heap.size 9 1 16 elemStr (u' 4) l.length (strW l) (by rw [hu4]; rfl) (.slice (some ⟨q, 0, none⟩) 1 1) 1 (#[.string x]).toList (by rw [← hq, hu6]; rfl) (src_block hqc (by simp)) (hD.r4 h4 (getD_tf hun)) (by simp [Value.oneCell']) (by omega) (by unfold maxLen; omega) hw.size ?_
            intro v' w2 hr hg hn
            exact hD.a7 hun h4 h6 hr hg
          intro x7
          go_simp
          refine flowV_st rfl rfl (by intro u' L w' hun hbe hD; go_simp; first | exact ⟨hD.other 8 (by decide), rfl⟩ | exact hD.other 8 (by decide)) ?_
          go_simp
          refine flowV_st rfl rfl (by intro u' L w' hun hbe hD; go_simp; first | exact ⟨hD.other 9 (by decide), rfl⟩ | exact hD.other 9 (by decide)) ?_
          go_simp
          refine flowV_st rfl rfl (by intro u' L w' hun hbe hD; go_simp; first | exact ⟨hD.other 10 (by decide), rfl⟩ | exact hD.other 10 (by decide)) ?_
          go_simp
          refine flowV_ch rfl rfl ?_ ?_
          · intro u' hu' L w' hun hbe hD
            have hu7 : u' 7 = x7 := (after_eq hu' (by kernel_rfl)).trans (by simp [upd])
            have h7 := after_behind hbe (p := 7) (by kernel_rfl)
            have hw := hD.bel
            refine each_app (.tmp 40) (.tmp 43) 73 rfl wr.heap.size 9 1 16 elemStr (u' 7) (l.length + 1) ((strW l) ++ (#[.string x]).toList) (by rw [hu7]; rfl) _ ((l.length + 1) - (l.length + 1)) ([]) rfl (srcNil (by omega)) (hD.r7 h7 (getD_tf hun)) (by first | exact strW_cell _ | simp) (by omega) (by unfold maxLen; omega) hw.size ?_
            intro v' w2 hr hg hn
            rw [show l.length + 1 + ((l.length + 1) - (l.length + 1)) = (l.length + 1) by omega] at hr
            exact hD.a11 hun h7 hr hg
          intro x11
          go_simp
          refine flowV_ch rfl rfl ?_ ?_
          · intro u' hu' L w' hun hbe hD
            have hu11 : u' 11 = x11 := (after_eq hu' (by kernel_rfl)).trans (by simp [upd])
            have h11 := after_behind hbe (p := 11) (by kernel_rfl)
            go_simp
            rw [← hu11]
            exact hD.m12 hun h11
          intro x12
          go_simp
          refine flowV_nil ?_
          intro L w3 hL hD
          have hx12 : x12 = x11 := by have := hD.r12 (by simpa using hL 12 (by simp)); simpa [upd] using this
          have hrow : w3.ownsRow wr.heap.size 9 1 x11 (l.length + 1) ((strW l) ++ (#[.string x]).toList ++ ([])) := by have := hD.r11 (by simpa using hL 11 (by simp)); simpa [upd] using this
          have hbel3 := hD.bel
          subst hx12
          go_wp2
          refine bodyPost_ret (v := x12) (by simp only [results, Tryz.results43]; go_simp) rfl ⟨_, rfl, ?_, hbel3⟩
          rw [insG_stop x l l.length HLE.out (.inl (Nat.le_refl _)), List.take_length, List.drop_length, strW_app, strW_cons]
          simpa [strW] using hrow
end Go.Proofs.YtcegllnljaapiaaGreat
