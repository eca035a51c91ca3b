/- RenameUnit: the program's. Conditions: sizes. -/
import Derived.Test.YtkgfanajgdelcaaGreatDoorUnPart2
import Derived.Test.YtkgfanajgdelcaaGreatDoorUnPart4
import Derived.Test.YtkgfanajgdelcaaGreatDoorUnPart8
import Derived.Test.YtkgfanajgdelcaaGreatDoorUnPart9
import Derived.Test.YtkgfanajgdelcaaGreatDoorUnPart10
import Derived.Test.YtkgfanajgdelcaaGreatDoorUnPart11
namespace Go.Proofs.YtkgfanajgdelcaaGreatDoor
/-- A whole order makes the greedy one whole. -/
theorem ordL_full {l : List Un} {R : List ByteArray} (h : OrdInv l R) (hl : R.length = l.length) : (ordL l).length = l.length := by
  have key : ∀ (f : Nat) (out : List ByteArray), OrdInv l out → l.length ≤ out.length + f → (ordF f l out).length = l.length := by
    intro f
    induction f with
    | zero => intro out ho hz; have := ho.len; rw [ordF]; omega
    | succ f ih =>
      intro out ho hz
      rw [ordF]
      cases hf : l.find? (Un.ready out) with
      | some u => exact ih _ (ho.snoc (find_mem hf).1 (find_mem hf).2) (by simp; omega)
      | none =>
        have hall : ∀ (i : Nat) (x : ByteArray), R[i]? = some x → x ∈ out := by
          intro i
          induction i using Nat.strongRecOn with
          | _ i ih2 =>
            intro x hx
            obtain ⟨u, hu, rfl, hy⟩ := h.topo i x hx
            rcases Classical.em (u.name ∈ out) with h1 | h1
            · exact h1
            · exfalso
              have hr : u.ready out = true := by
                rw [Un.ready, Bool.and_eq_true, Bool.not_eq_true', List.all_eq_true]
                refine ⟨by simpa [inS] using h1, fun y hyy => ?_⟩
                obtain ⟨j, hj, e⟩ := List.getElem_of_mem (hy y hyy)
                rw [List.length_take] at hj
                rw [List.getElem_take] at e
                have := ih2 j (by omega) y (by rw [List.getElem?_eq_getElem (by omega), e])
                simpa [inS] using this
              rw [List.find?_eq_none] at hf
              exact hf u hu hr
        have h2 := pigeon R out h.nd (fun x hx => by obtain ⟨i, hi, rfl⟩ := List.getElem_of_mem hx; exact hall i _ (List.getElem?_eq_getElem hi))
        have := ho.len
        simp only; omega
  exact key l.length [] (OrdInv.nil l) (by simp)
theorem namesF_of : ∀ (l : List ByteArray) (p : Option ByteArray), Asc lessB l → (∀ x ∈ l, symB x.data.toList = true) → (∀ x ∈ l, ascS p x = true) → namesF p l = true
  | [], p, _, _, _ => by cases p <;> rfl
  | a :: l, p, h, hs, hp => by
    rw [Asc, List.pairwise_cons] at h
    rw [namesF, Bool.and_eq_true, Bool.and_eq_true]
    exact ⟨⟨hs a (List.mem_cons_self ..), hp a (List.mem_cons_self ..)⟩, namesF_of l (some a) h.2 (fun x hx => hs x (List.mem_cons_of_mem _ hx)) (fun x hx => h.1 x hx)⟩
theorem unitsF_of : ∀ (l : List Un) (p : Option ByteArray), Asc lessU l → (∀ u ∈ l, u.good = true) → (∀ u ∈ l, ascS p u.name = true) → unitsF p l = true
  | [], p, _, _, _ => by cases p <;> rfl
  | a :: l, p, h, hs, hp => by
    rw [Asc, List.pairwise_cons] at h
    rw [unitsF, Bool.and_eq_true, Bool.and_eq_true]
    exact ⟨⟨hs a (List.mem_cons_self ..), hp a (List.mem_cons_self ..)⟩, unitsF_of l (some a.name) h.2 (fun x hx => hs x (List.mem_cons_of_mem _ hx)) (fun x hx => h.1 x hx)⟩
theorem unitsF_asc' : ∀ (l : List Un) (p : Option ByteArray), unitsF p l = true → Asc lessU l
  | [], _, _ => List.Pairwise.nil
  | a :: l, p, h => by
    rw [unitsF, Bool.and_eq_true, Bool.and_eq_true] at h
    rw [Asc, List.pairwise_cons]
    exact ⟨unitsF_asc l a.name h.2, unitsF_asc' l _ h.2⟩
theorem renS_back {old name x : ByteArray} (h : x ≠ name) : renS name old (renS old name x) = x := by
  unfold renS
  by_cases hx : x = old
  · rw [if_pos hx, if_pos rfl, hx]
  · rw [if_neg hx, if_neg h]
theorem renI_back {old name : ByteArray} {l : List ByteArray} (h : ∀ x ∈ l, x ≠ name) : renI name old (renI old name l) = l := by
  rw [renI, renI, List.map_map]
  conv => rhs; rw [← List.map_id l]
  exact List.map_congr_left fun x hx => renS_back (h x hx)
theorem sym_of_good {u : Un} (h : u.good = true) : symB u.name.data.toList = true := by
  unfold Un.good at h
  simp only [Bool.and_eq_true] at h
  exact h.1.1.1.1.1
section
variable {l : List Un} {old name : ByteArray}
theorem renUn_good (hg : libGood l = true) (hn : ∀ u ∈ l, u.name ≠ name) (hs : symB name.data.toList = true) {u : Un} (hu : u ∈ l) : (renUn old name u).good = true := by
  obtain ⟨h1, h2, -, -⟩ := ren_incs (old := old) hg hn hu
  obtain ⟨-, -, hgd⟩ := libGood_parts hg
  have hgu := hgd u hu
  have hsy : ∀ x : ByteArray, symB x.data.toList = true → symB (renS old name x).data.toList = true := fun x hx => by
    unfold renS; split
    · exact hs
    · exact hx
  have hin := good_incs hgu
  have hnm := sym_of_good hgu
  unfold Un.good at hgu ⊢
  simp only [Bool.and_eq_true, decide_eq_true_eq] at hgu ⊢
  refine ⟨⟨⟨⟨⟨hsy _ hnm, ?_⟩, ?_⟩, hgu.1.1.2⟩, hgu.1.2⟩, hgu.2⟩
  · show (canG lessB (renI old name u.incs)).length ≤ 12
    rw [canG_len]; exact h2
  · refine namesF_of _ _ (canG_asc strictS (nodup_tri h1)) (fun x hx => ?_) (fun _ _ => rfl)
    obtain ⟨y, hy, rfl⟩ := List.mem_map.1 (mem_canG.1 hx)
    exact hsy y (namesF_sym _ _ hin.2 y hy)
theorem renL_asc (hg : libGood l = true) (hn : ∀ u ∈ l, u.name ≠ name) : Asc lessU (renL old name l) := by
  refine canG_asc strictU ?_
  have := ren_names (old := old) hg hn
  exact (List.pairwise_map.1 this).imp fun h => triS h
theorem mem_renL {v : Un} : v ∈ renL old name l ↔ ∃ u ∈ l, renUn old name u = v := by rw [renL, mem_canG, List.mem_map]
/-- The renamed list is a library. -/
theorem renL_good (hg : libGood l = true) (hn : ∀ u ∈ l, u.name ≠ name) (hs : symB name.data.toList = true) : libGood (renL old name l) = true := by
  obtain ⟨hd, hf, hgd⟩ := libGood_parts hg
  have hi := ordL_inv l
  have hnm : ∀ x ∈ ordL l, x ≠ name := fun x hx => by
    obtain ⟨u, hu, rfl⟩ := List.mem_map.1 (hi.sub x hx)
    exact hn u hu
  rw [libGood, Bool.and_eq_true, Bool.and_eq_true]
  refine ⟨⟨unitsF_of _ _ (renL_asc hg hn) (fun v hv => ?_) (fun _ _ => rfl), ?_⟩, ?_⟩
  · obtain ⟨u, hu, rfl⟩ := mem_renL.1 hv
    exact renUn_good hg hn hs hu
  · rw [renL_len]; exact decide_eq_true (libGood_len hg)
  · refine decide_eq_true (ordL_full (R := (ordL l).map (renS old name)) ⟨nodup_map_on hi.nd fun x hx y hy h => renS_inj (hnm x hx) (hnm y hy) h, fun x hx => ?_, fun i x hx => ?_⟩ (by rw [List.length_map, renL_len, hf]))
    · obtain ⟨y, hy, rfl⟩ := List.mem_map.1 hx
      obtain ⟨u, hu, rfl⟩ := List.mem_map.1 (hi.sub y hy)
      exact List.mem_map.2 ⟨renUn old name u, mem_renL.2 ⟨u, hu, rfl⟩, rfl⟩
    · rw [List.getElem?_map] at hx
      cases hy : (ordL l)[i]? with
      | none => rw [hy] at hx; cases hx
      | some y =>
        rw [hy] at hx
        obtain rfl : renS old name y = x := Option.some.inj hx
        obtain ⟨u, hu, rfl, hin⟩ := hi.topo i y hy
        refine ⟨renUn old name u, mem_renL.2 ⟨u, hu, rfl⟩, rfl, fun z hz => ?_⟩
        obtain ⟨t, ht, rfl⟩ := List.mem_map.1 (mem_canG.1 hz)
        rw [← List.map_take]
        exact List.mem_map_of_mem (hin t ht)
theorem renUn_back (hg : libGood l = true) (hn : ∀ u ∈ l, u.name ≠ name) {u : Un} (hu : u ∈ l) : renUn name old (renUn old name u) = u := by
  obtain ⟨h1, -, h3, h4⟩ := ren_incs (old := old) hg hn hu
  obtain ⟨-, -, hgd⟩ := libGood_parts hg
  have hin := good_incs (hgd u hu)
  have hp : (renI name old (canG lessB (renI old name u.incs))).Perm u.incs := by
    have := (canG_perm (lt := lessB) (renI old name u.incs)).map (renS name old)
    have e := renI_back (old := old) h4
    rw [renI] at e
    rw [e] at this
    exact this
  have hi : canG lessB (renI name old (canG lessB (renI old name u.incs))) = u.incs := by
    refine asc_eq strictS _ _ (canG_asc strictS (nodup_tri (hp.nodup_iff.2 h3))) (namesF_asc' _ _ hin.2) fun z => ?_
    rw [mem_canG]; exact hp.mem_iff
  obtain ⟨n, i, a, g⟩ := u
  simp only [renUn] at hi ⊢
  rw [hi, renS_back (hn _ hu)]
/-- Renaming back gives the first library. -/
theorem renL_back (hg : libGood l = true) (hn : ∀ u ∈ l, u.name ≠ name) : renL name old (renL old name l) = l := by
  have hm : (l.map (renUn old name)).map (renUn name old) = l := by
    rw [List.map_map]
    conv => rhs; rw [← List.map_id l]
    exact List.map_congr_left fun u hu => renUn_back hg hn hu
  have hp : ((renL old name l).map (renUn name old)).Perm l := by
    have := (canG_perm (lt := lessU) (l.map (renUn old name))).map (renUn name old)
    rw [hm] at this; exact this
  have hu : Asc lessU l := by
    rw [libGood, Bool.and_eq_true, Bool.and_eq_true] at hg
    exact unitsF_asc' _ _ hg.1.1
  have ht : ((renL old name l).map (renUn name old)).Pairwise (fun a b => lessU a b = true ∨ lessU b a = true) :=
    (List.Perm.pairwise_iff (fun h => h.symm) hp).2 (hu.imp fun h => .inl h)
  exact asc_eq strictU _ _ (canG_asc strictU ht) hu fun z => mem_canG.trans hp.mem_iff
theorem renOk_parts (h : renOk l old name = true) : libGood l = true ∧ (∃ u ∈ l, u.name = old) ∧ (∀ u ∈ l, u.name ≠ name) ∧ symB name.data.toList = true := by
  rw [renOk, Bool.and_eq_true, Bool.and_eq_true, unitOf, Bool.and_eq_true] at h
  exact ⟨h.1.1.1, place_mem h.1.1.2, place_not h.1.2, h.2⟩
theorem renOk_back (h : renOk l old name = true) : libGood (renL old name l) = true ∧ renOk (renL old name l) name old = true ∧ renV (renL old name l) name old = l := by
  obtain ⟨hg, ⟨u, hu, rfl⟩, hn, hs⟩ := renOk_parts h
  have hg' := renL_good (old := u.name) hg hn hs
  obtain ⟨hd', -, -⟩ := libGood_parts hg'
  have hok : renOk (renL u.name name l) name u.name = true := by
    have h1 : (renUn u.name name u) ∈ renL u.name name l := mem_renL.2 ⟨u, hu, rfl⟩
    have e1 : (renUn u.name name u).name = name := if_pos rfl
    have h2 := findU_of hd' h1
    rw [e1] at h2
    obtain ⟨i, -, hpl, -⟩ := place_some h2
    have h3 : placeU (renL u.name name l) u.name = none := by
      rw [place_none, findU, List.find?_eq_none]
      intro v hv
      obtain ⟨t, ht, rfl⟩ := mem_renL.1 hv
      rw [decide_eq_true_iff]
      show ¬ renS u.name name t.name = u.name
      unfold renS
      split
      · rename_i e; intro e2; exact hn t ht (e.trans e2.symm)
      · rename_i e; exact e
    have h4 := sym_of_good ((libGood_parts hg).2.2 u hu)
    rw [renOk, unitOf, hg', hpl, h3, h4]; rfl
  exact ⟨hg', hok, by rw [renV, if_pos hok, renL_back hg hn]⟩
end
/-! ### A unit's text -/
theorem txt_back {u : Un} (h : u.good = true) : puOk u.txt = true ∧ puV u.txt = u := by
  have e : parI u.txt = u := stI_reads.back h
  have h1 : puOk u.txt = true := by rw [puOk, e, h]; simp
  exact ⟨h1, by rw [puV, if_pos h1, e]⟩
theorem puOk_txt {L : List UInt8} (h : puOk L = true) : (puV L).good = true ∧ (puV L).txt = L := by
  rw [puV, if_pos h]; exact puOk_parts h
end Go.Proofs.YtkgfanajgdelcaaGreatDoor
namespace Go.Proofs.YtkgfanajgdelcaaGreatDoor
open Go.RowKit
theorem elemUnit : Elem Tryz.prog 24 34 4 80 := elem_of Tryz.underlying24 (z := .agg #[.string ⟨#[]⟩, .slice none 0 0, .slice none 0 0, .string ⟨#[]⟩]) (by kernel_rfl) rfl (by omega)
end Go.Proofs.YtkgfanajgdelcaaGreatDoor
namespace Go.Proofs.YtkgfanajgdelcaaGreatDoor
open Go.RowKit
set_option maxRecDepth 100000 in
theorem isNaNR_any (s : ByteArray) (w : World) : Calls Tryz.prog 135 #[.string s] w fun e w' => e = .returned (.bool false) ∧ w = w' := by
  go_enter Tryz.func135, Tryz.ntmps135
  go_wp2
  refine bodyPost_ret (v := .bool false) (by simp only [results, Tryz.results135]; go_simp) rfl ⟨rfl, rfl⟩
set_option maxRecDepth 100000 in
theorem compareR_any (x y : ByteArray) (w : World) : Calls Tryz.prog 76 #[.string x, .string y] w fun e w' => e = .returned (.int .i64 (cmpI x y)) ∧ w = w' := by
  have h1 : Op.bytesLess x.toList y.toList = lessB x y := by rw [lessB, ByteArray.toList_eq, ByteArray.toList_eq]
  have h2 : Op.bytesLess y.toList x.toList = lessB y x := by rw [lessB, ByteArray.toList_eq, ByteArray.toList_eq]
  cases ha : lessB x y
  · have h3 : (x.toList == y.toList) = !lessB y x := by
      have := less_total y.toList x.toList
      rw [h1, h2, ha, Bool.false_or] at this
      rw [this, Bool.not_not]
    cases hb : lessB y x
    · rw [ha] at h1
      rw [hb] at h2 h3
      have HA := Lib.hid ha
      have HB := Lib.hid hb
      clear ha hb
      go_enter Tryz.func76, Tryz.ntmps76
      go_wp2_with (first | (go_at_call 135; refine (isNaNR_any _ _).mono ?_; rintro e w' ⟨rfl, rfl⟩))
      go_ret
      exact ⟨by rw [cmpI, HA.out, HB.out]; rfl, rfl⟩
    · rw [ha] at h1
      rw [hb] at h2 h3
      have HA := Lib.hid ha
      have HB := Lib.hid hb
      clear ha hb
      go_enter Tryz.func76, Tryz.ntmps76
      go_wp2_with (first | (go_at_call 135; refine (isNaNR_any _ _).mono ?_; rintro e w' ⟨rfl, rfl⟩))
      go_ret
      exact ⟨by rw [cmpI, HA.out, HB.out]; rfl, rfl⟩
  · rw [ha] at h1
    have HA := Lib.hid ha
    clear ha
    go_enter Tryz.func76, Tryz.ntmps76
    go_wp2_with (first | (go_at_call 135; refine (isNaNR_any _ _).mono ?_; rintro e w' ⟨rfl, rfl⟩))
    go_ret
    exact ⟨by rw [cmpI, HA.out]; rfl, rfl⟩
set_option maxRecDepth 100000 in
theorem byName_any (x y : ByteArray) (v1 v2 v3 u1 u2 u3 : Value) (w : World) : Calls Tryz.prog 75 #[.agg #[.string x, v1, v2, v3], .agg #[.string y, u1, u2, u3]] w fun e w' => e = .returned (.int .i64 (cmpI x y)) ∧ Below w.heap.size w w' := by
  go_enter Tryz.func75, Tryz.ntmps75
  go_wp2_with fail
  refine (compareR_any x y _).mono ?_
  rintro e w1 ⟨rfl, rfl⟩
  go_wp2
  go_ret
  exact ⟨rfl, by exact bel⟩
end Go.Proofs.YtkgfanajgdelcaaGreatDoor
namespace Go.Proofs.YtkgfanajgdelcaaGreatDoor
open Go.RowKit
set_option maxRecDepth 100000 in
set_option maxHeartbeats 6400000 in
theorem insSortU_any (base : Nat) (l : List UC) (p : Option Addr) (c : Nat) (w : World) (h : w.ownsRow base 34 4 (.slice p l.length c) l.length (flatU l)) (hn : l.length ≤ 1000000) (hnd : (l.map (fun x => x.u.name)).Nodup) :
    Calls Tryz.prog 178 #[.slice p l.length c, .int .i64 0, .int .i64 l.length, .func (.func 75) #[] #[]] w fun e w' => e = .returned (.tuple #[]) ∧ w'.ownsRow base 34 4 (.slice p l.length c) l.length (flatU (canG lessC l)) ∧ w.grownBy w' (Value.slice p l.length c).ownBlock := by
  have H := Lib.hid h
  have HND := Lib.hid hnd
  clear h hnd
  go_enter Tryz.func178, Tryz.ntmps178
  go_wp2
  go_loopw [8] (fun i wr => ∃ k : Nat, 1 ≤ k ∧ k ≤ l.length + 1 ∧ i = .int .i64 k ∧ wr.ownsRow base 34 4 (.slice p l.length c) l.length (flatU (canG lessC (l.take k) ++ l.drop k)) ∧ w.grownBy wr (Value.slice p l.length c).ownBlock) (fun i _ => l.length - (intOf i).toNat)
  case atStart =>
    refine ⟨1, Nat.le_refl _, by omega, rfl, ?_, ⟨rfl, rfl, rfl, Nat.le_refl _, fun _ _ _ => rfl⟩⟩
    have : canG lessC (l.take 1) ++ l.drop 1 = l := by cases l with | nil => rfl | cons a l => rfl
    rw [this]; exact H.out
  case round =>
    obtain ⟨k, hk1, hk2, rfl, hrow, hgr⟩ := hrel
    have HG := Lib.hid hgr
    by_cases hlt : k < l.length
    · have HROW := Lib.hid hrow
      obtain ⟨g, rfl, hbg, hgl, -, -⟩ := rowU_cell hrow (by omega)
      have HCT := Lib.hid (canG_take (lt := lessC) hlt)
      have HDR := Lib.hid (List.drop_eq_getElem_cons hlt)
      have hPl : (canG lessC (l.take k)).length = k := by rw [canG_len, List.length_take]; omega
      have HASC := Lib.hid (canG_asc strictC (tri_names ((List.map_take ▸ HND.out.sublist (List.take_sublist k (l.map (fun x => x.u.name))) : ((l.take k).map (fun x => x.u.name)).Nodup))))
      have HTRI := Lib.hid (show ∀ y ∈ canG lessC (l.take k), lessC y l[k] = true ∨ lessC l[k] y = true from fun y hy => by
        have hy := mem_canG.1 hy
        refine triS (fun e => ?_)
        obtain ⟨i, hi, hie⟩ := List.getElem_of_mem hy
        rw [List.length_take] at hi
        rw [List.getElem_take] at hie
        have h1 : (l.map (fun x => x.u.name))[i]'(by rw [List.length_map]; omega) = (l.map (fun x => x.u.name))[k]'(by rw [List.length_map]; omega) := by rw [List.getElem_map, List.getElem_map, hie]; exact e
        have := (List.getElem_inj HND.out).1 h1
        omega)
      obtain ⟨x, hx⟩ : ∃ x, l[k] = x := ⟨_, rfl⟩
      rw [hx] at HCT HDR HTRI
      clear hx hrow hgr
      generalize hP : canG lessC (l.take k) = P at *
      obtain ⟨wA, hwA⟩ : ∃ q, q = wr := ⟨_, rfl⟩
      subst hwA
      have hki : (k : Int) < l.length := by omega
      clear hP
      go_wp2
      go_loopw [9] (fun jv wr' => ∃ j : Nat, j ≤ k ∧ jv = .int .i64 j ∧ wr'.ownsRow base 34 4 (.slice (some ⟨g, 0, none⟩) l.length c) l.length (flatU (P.take j ++ x :: P.drop j ++ l.drop (k + 1))) ∧ (∀ y ∈ P.drop j, lessC x y = true) ∧ wA.grownBy wr' (some g)) (fun jv _ => (intOf jv).toNat)
      case atStart =>
        refine ⟨k, Nat.le_refl _, rfl, ?_, ?_, ⟨rfl, rfl, rfl, Nat.le_refl _, fun _ _ _ => rfl⟩⟩
        · rw [← hPl, List.take_length, List.drop_length, hPl]
          have := HROW.out
          rw [HDR.out] at this
          simpa using this
        · rw [← hPl, List.drop_length]; intro y hy; cases hy
      case round =>
        obtain ⟨j, hj, rfl, hrow, hall, hgi⟩ := hrel
        have HROW2 := Lib.hid hrow
        have HALL := Lib.hid hall
        have HGI := Lib.hid hgi
        obtain ⟨g', hge, -, hgl2, hfz, hcl⟩ := rowU_cell hrow (by omega)
        simp only [Option.some.injEq, Addr.mk.injEq, and_true] at hge
        subst hge
        have zg := bsz hgl2
        have hPt : (P.take j).length = j := by rw [List.length_take]; omega
        obtain ⟨c10, c11, c12, c13⟩ := hcl j x (by rw [List.append_assoc, List.getElem?_append_right (by omega), hPt, Nat.sub_self]; rfl)
        clear hrow hall hgi
        by_cases hj0 : 0 < j
        · have hjp : j - 1 < P.length := by omega
          obtain ⟨y, hy⟩ : ∃ y, P[j - 1] = y := ⟨_, rfl⟩
          obtain ⟨c20, c21, c22, c23⟩ := hcl (j - 1) y (by
            rw [List.append_assoc, List.getElem?_append_left (by omega), List.getElem?_take, if_pos (by omega), List.getElem?_eq_getElem hjp, hy])
          have HY := Lib.hid hy
          have hwj : IntKind.i64.wrap ((j : Int) - 1) = ((j - 1 : Nat) : Int) := by rw [IntWalk.i64_in _ (by omega)]; omega
          have hji : (0 : Int) < j := by omega
          have hjl : (j : Int) < l.length := by omega
          have hjl2 : ((j - 1 : Nat) : Int) < l.length := by omega
          clear hcl hy
          cases hL : lessC x y
          all_goals
            have HLX := Lib.hid hL
            have hCI := (cmpI_neg x.u.name y.u.name).trans hL
            simp only [decide_eq_true_eq, decide_eq_false_iff_not] at hCI
          · go_wp2
            obtain ⟨C, HC0⟩ := class_of (InF wr.heap.size _ [(⟨g, j * 4, none⟩, .string x.u.name), (⟨g, j * 4 + 1, none⟩, .slice x.p x.u.incs.length x.c), (⟨g, j * 4 + 2, none⟩, .slice x.q x.u.axs.length x.d), (⟨g, j * 4 + 3, none⟩, .string x.u.goal), (⟨g, (j - 1) * 4, none⟩, .string y.u.name), (⟨g, (j - 1) * 4 + 1, none⟩, .slice y.p y.u.incs.length y.c), (⟨g, (j - 1) * 4 + 2, none⟩, .slice y.q y.u.axs.length y.d), (⟨g, (j - 1) * 4 + 3, none⟩, .string y.u.goal)] [] [])
            have HC := Lib.hid HC0
            clear HC0
            refine wp_region_flow (C := C) (by kernel_rfl) (by kernel_rfl) (fun L hL => (HC.out _ _).2 (InF.start (by first | (intro _ hs; cases hs; done) | (simp only [List.forall_mem_cons]; go_simp)) (by first | (intro _ hs; cases hs; done) | (simp only [List.forall_mem_cons]; go_simp)) (by first | (intro _ hs; cases hs; done) | (simp only [List.forall_mem_cons]; go_simp)) (by first | (intro _ hs; cases hs; done) | (simp only [List.forall_mem_cons]; go_simp)) L hL)) ?_
            repeat (first | ((first | apply flow_free rfl | (apply flow_yes; (case hw => go_simp))); (intro L w' hun hrd hC; have hC := (HC.out _ _).1 hC; have hb' := hC.below; (try have hw' : Below w.heap.size w w' := by first | exact Below.trans (by exact bel) hb' | (exact bel; done)); have hf' := hC.cell; (try simp only [List.forall_mem_cons] at hf'); go_simp; first | exact ⟨(HC.out _ _).2 (hC.skip _ (by rfl)), rfl⟩ | (rw [if_neg]; (exact ⟨(HC.out _ _).2 (hC.skip _ (by rfl)), rfl⟩); omega) | (go_at_call 75; refine (byName_any x.u.name y.u.name _ _ _ _ _ _ _).mono ?_; rintro e w1 ⟨rfl, hb1⟩; exact ⟨rfl, (HC.out _ _).2 ((hC.next (by first | (simp; done) | (simp; omega) | omega) hb1).skip _ (by rfl))⟩)); go_simp) | (apply flow_no; (case hw => (go_simp; try (intro hh; cases hh))); (intro L w' _ _ hC; exact (HC.out _ _).2 (((HC.out _ _).1 hC).skip _ (by rfl))); go_simp))
            refine flow_nil ?_
            intro L wz hL hz
            have hz := (HC.out _ _).1 hz
            have hbz := hz.below
            have hcz := hz.cell
            try simp only [List.forall_mem_cons] at hcz
            have hdz := hz.done
            try simp only [List.forall_mem_cons] at hdz
            (try have hwz : Below w.heap.size w wz := by first | exact Below.trans (by exact bel) hbz | (exact bel; done))
            go_wp2
            refine ⟨⟨k + 1, by omega, by omega, by go_num, ?_, ?_⟩, by simp [intOf]; omega⟩
            · rw [HCT.out, sort_stop (j := j) strictC HASC.out (by omega) HALL.out HTRI.out (.inr ⟨hjp, by rw [HY.out]; exact HLX.out⟩)]
              exact own_below HROW2.out hbz
            · exact (HG.out.trans HGI.out).trans ⟨hbz.os, hbz.tape, hbz.output, hbz.size, fun b hb _ => hbz.block b hb⟩
          · go_wp2
            obtain ⟨C, HC0⟩ := class_of (InF wr.heap.size _ [(⟨g, j * 4, none⟩, .string x.u.name), (⟨g, j * 4 + 1, none⟩, .slice x.p x.u.incs.length x.c), (⟨g, j * 4 + 2, none⟩, .slice x.q x.u.axs.length x.d), (⟨g, j * 4 + 3, none⟩, .string x.u.goal), (⟨g, (j - 1) * 4, none⟩, .string y.u.name), (⟨g, (j - 1) * 4 + 1, none⟩, .slice y.p y.u.incs.length y.c), (⟨g, (j - 1) * 4 + 2, none⟩, .slice y.q y.u.axs.length y.d), (⟨g, (j - 1) * 4 + 3, none⟩, .string y.u.goal)] [] [])
            have HC := Lib.hid HC0
            clear HC0
            refine wp_region_flow (C := C) (by kernel_rfl) (by kernel_rfl) (fun L hL => (HC.out _ _).2 (InF.start (by first | (intro _ hs; cases hs; done) | (simp only [List.forall_mem_cons]; go_simp)) (by first | (intro _ hs; cases hs; done) | (simp only [List.forall_mem_cons]; go_simp)) (by first | (intro _ hs; cases hs; done) | (simp only [List.forall_mem_cons]; go_simp)) (by first | (intro _ hs; cases hs; done) | (simp only [List.forall_mem_cons]; go_simp)) L hL)) ?_
            repeat (first | ((first | apply flow_free rfl | (apply flow_yes; (case hw => go_simp))); (intro L w' hun hrd hC; have hC := (HC.out _ _).1 hC; have hb' := hC.below; (try have hw' : Below w.heap.size w w' := by first | exact Below.trans (by exact bel) hb' | (exact bel; done)); have hf' := hC.cell; (try simp only [List.forall_mem_cons] at hf'); go_simp; first | exact ⟨(HC.out _ _).2 (hC.skip _ (by rfl)), rfl⟩ | (rw [if_neg]; (exact ⟨(HC.out _ _).2 (hC.skip _ (by rfl)), rfl⟩); omega) | (go_at_call 75; refine (byName_any x.u.name y.u.name _ _ _ _ _ _ _).mono ?_; rintro e w1 ⟨rfl, hb1⟩; exact ⟨rfl, (HC.out _ _).2 ((hC.next (by first | (simp; done) | (simp; omega) | omega) hb1).skip _ (by rfl))⟩)); go_simp) | (apply flow_no; (case hw => (go_simp; try (intro hh; cases hh))); (intro L w' _ _ hC; exact (HC.out _ _).2 (((HC.out _ _).1 hC).skip _ (by rfl))); go_simp))
            refine flow_nil ?_
            intro L wz hL hz
            have hz := (HC.out _ _).1 hz
            have hbz := hz.below
            have hcz := hz.cell
            try simp only [List.forall_mem_cons] at hcz
            have hdz := hz.done
            try simp only [List.forall_mem_cons] at hdz
            (try have hwz : Below w.heap.size w wz := by first | exact Below.trans (by exact bel) hbz | (exact bel; done))
            have d10 := (hbz.cell hgl2).trans c10
            have d11 := (hbz.cell hgl2).trans c11
            have d12 := (hbz.cell hgl2).trans c12
            have d13 := (hbz.cell hgl2).trans c13
            have d20 := (hbz.cell hgl2).trans c20
            have d21 := (hbz.cell hgl2).trans c21
            have d22 := (hbz.cell hgl2).trans c22
            have d23 := (hbz.cell hgl2).trans c23
            have df : ∀ i, wz.frozen? ⟨g, i, none⟩ = false := fun i => (hbz.frozen (p := ⟨g, i, none⟩) hgl2).trans (hfz i)
            have zgz := bsz (World.block_lt_of_cell? _ _ d10)
            go_wp2
            go_region_with fail
            all_goals go_wp2
            all_goals
              have hpy : P[j - 1]? = some y := by rw [List.getElem?_eq_getElem hjp, HY.out]
              refine ⟨⟨j - 1, by omega, rfl, ?_, ?_, ?_⟩, by simp [intOf]; omega⟩
              · have hr := rowU_set (k := j - 1) x (by simp; omega) (rowU_set (k := j) y (by simp; omega) (own_below HROW2.out hbz))
                rw [set_swapU hj0 (by omega) hpy] at hr
                have hr2 := own_drew hr
                clear hr
                dsimp only [set4W] at hr2
                with_reducible exact hr2
              · intro q hq
                rw [List.drop_eq_getElem_cons hjp, HY.out] at hq
                rcases List.mem_cons.1 hq with rfl | hq
                · exact HLX.out
                · rw [show j - 1 + 1 = j by omega] at hq; exact HALL.out q hq
              · have hgz : wA.grownBy wz (some g) := HGI.out.trans ⟨hbz.os, hbz.tape, hbz.output, hbz.size, fun b hb _ => hbz.block b hb⟩
                have hz4 := gr_sc (gr_sc (gr_sc (gr_sc (gr_sc (gr_sc (gr_sc (gr_sc hgz (.inl rfl) (.string y.u.name) (p := ⟨g, j * 4, none⟩)) (.inl rfl) (.slice y.p y.u.incs.length y.c) (p := ⟨g, j * 4 + 1, none⟩)) (.inl rfl) (.slice y.q y.u.axs.length y.d) (p := ⟨g, j * 4 + 2, none⟩)) (.inl rfl) (.string y.u.goal) (p := ⟨g, j * 4 + 3, none⟩)) (.inl rfl) (.string x.u.name) (p := ⟨g, (j - 1) * 4, none⟩)) (.inl rfl) (.slice x.p x.u.incs.length x.c) (p := ⟨g, (j - 1) * 4 + 1, none⟩)) (.inl rfl) (.slice x.q x.u.axs.length x.d) (p := ⟨g, (j - 1) * 4 + 2, none⟩)) (.inl rfl) (.string x.u.goal) (p := ⟨g, (j - 1) * 4 + 3, none⟩)
                with_reducible exact gr_dr hz4
        · obtain rfl : j = 0 := by omega
          go_wp2
          obtain ⟨C, HC0⟩ := class_of (InF wr.heap.size _ [] [] [])
          have HC := Lib.hid HC0
          clear HC0
          refine wp_region_flow (C := C) (by kernel_rfl) (by kernel_rfl) (fun L hL => (HC.out _ _).2 (InF.start (by first | (intro _ hs; cases hs; done) | (simp only [List.forall_mem_cons]; go_simp)) (by first | (intro _ hs; cases hs; done) | (simp only [List.forall_mem_cons]; go_simp)) (by first | (intro _ hs; cases hs; done) | (simp only [List.forall_mem_cons]; go_simp)) (by first | (intro _ hs; cases hs; done) | (simp only [List.forall_mem_cons]; go_simp)) L hL)) ?_
          repeat (first | ((first | apply flow_free rfl | (apply flow_yes; (case hw => go_simp))); (intro L w' hun hrd hC; have hC := (HC.out _ _).1 hC; have hb' := hC.below; (try have hw' : Below w.heap.size w w' := by first | exact Below.trans (by exact bel) hb' | (exact bel; done)); have hf' := hC.cell; (try simp only [List.forall_mem_cons] at hf'); go_simp; first | exact ⟨(HC.out _ _).2 (hC.skip _ (by rfl)), rfl⟩ | (rw [if_neg]; (exact ⟨(HC.out _ _).2 (hC.skip _ (by rfl)), rfl⟩); omega) | fail); go_simp) | (apply flow_no; (case hw => (go_simp; try (intro hh; cases hh))); (intro L w' _ _ hC; exact (HC.out _ _).2 (((HC.out _ _).1 hC).skip _ (by rfl))); go_simp))
          refine flow_nil ?_
          intro L wz hL hz
          have hz := (HC.out _ _).1 hz
          have hbz := hz.below
          have hcz := hz.cell
          try simp only [List.forall_mem_cons] at hcz
          have hdz := hz.done
          try simp only [List.forall_mem_cons] at hdz
          (try have hwz : Below w.heap.size w wz := by first | exact Below.trans (by exact bel) hbz | (exact bel; done))
          go_wp2
          refine ⟨⟨k + 1, by omega, by omega, by go_num, ?_, ?_⟩, by simp [intOf]; omega⟩
          · rw [HCT.out, sort_stop (j := 0) strictC HASC.out (by omega) HALL.out HTRI.out (.inl rfl)]
            exact own_below HROW2.out hbz
          · exact (HG.out.trans HGI.out).trans ⟨hbz.os, hbz.tape, hbz.output, hbz.size, fun b hb _ => hbz.block b hb⟩
    · have hck : canG lessC (l.take k) ++ l.drop k = canG lessC l := by rw [List.take_of_length_le (by omega), List.drop_eq_nil_of_le (by omega), List.append_nil]
      rw [hck] at hrow
      have HROW := Lib.hid hrow
      clear hrow hck hgr
      have hkl : ¬ (k : Int) < l.length := by omega
      go_wp2
      go_end0
      exact ⟨rfl, HROW.out, HG.out⟩
set_option maxRecDepth 100000 in
set_option maxHeartbeats 3200000 in
theorem pdqU_any (base : Nat) (l : List UC) (p : Option Addr) (c : Nat) (lim : Int) (w : World) (h : w.ownsRow base 34 4 (.slice p l.length c) l.length (flatU l)) (hn : l.length ≤ 12) (hnd : (l.map (fun x => x.u.name)).Nodup) :
    Calls Tryz.prog 134 #[.slice p l.length c, .int .i64 0, .int .i64 l.length, .int .i64 lim, .func (.func 75) #[] #[]] w fun e w' => e = .returned (.tuple #[]) ∧ w'.ownsRow base 34 4 (.slice p l.length c) l.length (flatU (canG lessC l)) ∧ w.grownBy w' (Value.slice p l.length c).ownBlock := by
  have H := Lib.hid (insSortU_any base l p c w h (by omega) hnd)
  have hi : (l.length : Int) ≤ 12 := by omega
  clear h hnd
  go_enter Tryz.func134, Tryz.ntmps134
  go_wp2
  go_loopw [1, 2] (fun a b wr => a = .int .i64 0 ∧ b = .int .i64 l.length ∧ wr = w) (fun _ _ _ => 0)
  case atStart => exact ⟨rfl, rfl, rfl⟩
  case round =>
    obtain ⟨rfl, rfl, rfl⟩ := hrel
    go_wp2_with fail
    refine H.out.mono ?_
    rintro e w1 ⟨rfl, h1, h2⟩
    have H1 := Lib.hid (And.intro h1 h2)
    clear h1 h2
    go_wp2
    refine bodyPost_ret (results_none rfl _ _ _) rfl ?_
    exact ⟨rfl, H1.out.1, H1.out.2⟩
set_option maxRecDepth 100000 in
set_option maxHeartbeats 1600000 in
theorem sortU_any (base : Nat) (l : List UC) (p : Option Addr) (c : Nat) (w : World) (h : w.ownsRow base 34 4 (.slice p l.length c) l.length (flatU l)) (hn : l.length ≤ 12) (hnd : (l.map (fun x => x.u.name)).Nodup) :
    Calls Tryz.prog 74 #[.slice p l.length c, .func (.func 75) #[] #[]] w fun e w' => e = .returned (.tuple #[]) ∧ w'.ownsRow base 34 4 (.slice p l.length c) l.length (flatU (canG lessC l)) ∧ w.grownBy w' (Value.slice p l.length c).ownBlock := by
  have H := Lib.hid (fun lim => pdqU_any base l p c lim w h hn hnd)
  have hw : IntKind.u64.wrap (l.length : Int) = l.length := by simp [IntKind.wrap, IntKind.bits, IntKind.signed]; omega
  clear h hnd
  go_enter Tryz.func74, Tryz.ntmps74
  go_wp2_with fail
  refine (bitsLen_any l.length w (by omega)).mono ?_
  rintro e w1 ⟨r, rfl, rfl⟩
  clear hw
  go_wp2_with fail
  refine (H.out r).mono ?_
  rintro e w2 ⟨rfl, h1, h2⟩
  have H1 := Lib.hid (And.intro h1 h2)
  clear h1 h2
  go_wp2
  go_end0
  exact ⟨rfl, H1.out.1, H1.out.2⟩
end Go.Proofs.YtkgfanajgdelcaaGreatDoor
namespace Go.Proofs.YtkgfanajgdelcaaGreatDoor
open Go.RowKit
theorem cloneS_any {B : Nat → Prop} (us : List ByteArray) (v : Value) (w : World) (h : StrsAt B w v us) (hl : us.length ≤ 2000000) : Calls Tryz.prog 72 #[v] w fun e w' => ∃ v', e = .returned v' ∧ w'.ownsRow w.heap.size 9 1 v' us.length (strW us) ∧ Below w.heap.size w w' := by
  obtain ⟨p, c, rfl, -⟩ := h.form
  cases us with
  | nil =>
    cases p with
    | none => exact (Tryz.slices_Clone_string_nil _ _ _).mono fun e w' ⟨he, hw⟩ => ⟨_, he, ⟨rfl, .inl ⟨rfl, rfl⟩⟩, hw ▸ Below.refl _ _⟩
    | some a => exact (Tryz.slices_Clone_string_zero a c w).mono fun e w' ⟨v', he, ho, _, hb⟩ => ⟨v', he, ho, hb⟩
  | cons a us =>
    obtain ⟨b, o, rfl, -⟩ := h.at_ (i := 0) (by simp)
    refine (Tryz.slices_Clone_string b o (a :: us).length c (a :: us) w (Nat.le_refl _) (by omega) (fun j hj => ?_)).mono fun e w' ⟨v', he, ho, _, hb⟩ => ⟨v', he, ?_, hb⟩
    · obtain ⟨b', o', hp, -, hc, -⟩ := h.at_ hj
      simp only [Option.some.injEq, Addr.mk.injEq, and_true] at hp
      obtain ⟨rfl, rfl⟩ := hp
      rw [hc, List.getD_eq_getElem?_getD, List.getElem?_eq_getElem hj]; rfl
    · rw [List.take_length] at ho; exact ho
theorem renI_snoc (old name : ByteArray) {l : List ByteArray} {j : Nat} (h : j < l.length) : renI old name (l.take (j + 1)) = renI old name (l.take j) ++ [renS old name l[j]] := by
  rw [List.take_succ_eq_append_getElem h, renI, renI, List.map_append]; rfl
theorem renI_len (old name : ByteArray) (l : List ByteArray) : (renI old name l).length = l.length := by rw [renI, List.length_map]
def RuIRel (l : List Un) (old name : ByteArray) (w : World) (out i : Value) (wr : World) : Prop :=
  ∃ (k : Nat) (D : List UC), k ≤ l.length ∧ i = .int .i64 k ∧ D.map UC.u = (l.take k).map (renUn old name) ∧ wr.ownsRow w.heap.size 34 4 out k (flatU D) ∧ Uns 9 w.heap.size wr out D ∧ Below w.heap.size w wr
/-- The middle of a round: block bk is the unit in the making; its includes' row is half renamed. -/
structure RuMid (a : Un) (old name : ByteArray) (base : Nat) (w3 : World) (bk : Nat) (nm : ByteArray) (p4 p7 : Option Addr) (c4 c7 j : Nat) (wr : World) : Prop where
  box : wr.heap[bk]? = some (.cells #[.string nm, .slice p4 a.incs.length c4, .slice p7 a.axs.length c7, .string a.goal] 34 (0, 0))
  row : wr.ownsRow base 9 1 (.slice p4 a.incs.length c4) a.incs.length (strW (renI old name (a.incs.take j) ++ a.incs.drop j))
  kept : Kept (fun b => b = bk ∨ (Value.slice p4 a.incs.length c4).ownBlock = some b) w3 wr
set_option maxRecDepth 100000 in
set_option maxHeartbeats 12800000 in
theorem implRU_any {B : Nat → Prop} (l : List Un) (va : Value) (old name : ByteArray) (w : World) (h : UnsAt B w va l) (hw : l.length + wtU l ≤ 1048576) (hname : name.size ≤ 1048576) :
    Calls Tryz.prog 28 #[va, .string old, .string name] w fun e w' => ∃ v, e = .returned (.tuple #[v, .bool (renOk l old name)]) ∧ UnsOwn 9 34 (NewB w w') w' (renV l old name) v ∧ Below w.heap.size w w' := by
  obtain ⟨p, c, rfl, hlen⟩ := h.form
  unfold maxLen at hlen
  have H := Lib.hid h
  have HO := Lib.hid (show renOk l old name = (unitOf l old && (placeU l name).isNone && symB name.data.toList) from rfl)
  have HV := Lib.hid (show renV l old name = if renOk l old name then renL old name l else [] from rfl)
  clear h
  go_enter Tryz.func28, Tryz.ntmps28
  go_wp2_with fail
  refine (isUnitOf_any l _ old _ (H.out.below (by exact bel)) hw).mono ?_
  rintro e w1 ⟨rfl, hb1⟩
  have ⟨cw1, fw1⟩ := bcell hb1
  have qw1 := hb1.size
  (try simp at qw1)
  (try have zw1w := bsz (show w.heap.size < w1.heap.size by omega))
  cases hu : unitOf l old
  · have HF := Lib.hid (show renOk l old name = false by rw [HO.out, hu]; rfl)
    clear hu
    go_wp2
    go_ret2
    exact ⟨.slice none 0 0, by rw [HF.out]; rfl, by rw [HV.out, HF.out, if_neg (by simp)]; exact OwnRow.nil _ _ _ _ _, by exact bel⟩
  have HU := Lib.hid hu
  clear hu
  go_wp2_with fail
  refine (unitAt_any l _ name _ (H.out.below (by exact bel))).mono ?_
  rintro e w2 ⟨r, rfl, hr, hb2⟩
  have hq2 := hb2.size
  cases hpl : placeU l name with
  | some i =>
    rw [hpl] at hr
    obtain rfl : r = (i : Int) := hr
    have HF := Lib.hid (show renOk l old name = false by rw [HO.out, hpl]; simp)
    have hi0 : (0 : Int) ≤ i := by omega
    clear hpl
    go_wp2
    go_ret2
    exact ⟨.slice none 0 0, by rw [HF.out]; rfl, by rw [HV.out, HF.out, if_neg (by simp)]; exact OwnRow.nil _ _ _ _ _, by exact bel⟩
  | none =>
  rw [hpl] at hr
  obtain rfl : r = -1 := hr
  go_wp2_with fail
  refine (isSymbol_any name _ (by unfold maxLen; omega)).mono ?_
  rintro e w3 ⟨rfl, hb3⟩
  have hq3 := hb3.size
  cases hs : symB name.data.toList
  · have HF := Lib.hid (show renOk l old name = false by rw [HO.out, hs]; simp)
    clear hs hpl
    go_wp2
    go_ret2
    exact ⟨.slice none 0 0, by rw [HF.out]; rfl, by rw [HV.out, HF.out, if_neg (by simp)]; exact OwnRow.nil _ _ _ _ _, by exact bel⟩
  have HT := Lib.hid (show renOk l old name = true by rw [HO.out, HU.out, hpl, hs]; rfl)
  have HGD := Lib.hid (show libGood l = true by have h := HU.out; rw [unitOf, Bool.and_eq_true] at h; exact h.1)
  have HPN := Lib.hid (place_not (l := l) (x := name) (by rw [hpl]; rfl))
  have hl12 := libGood_len HGD.out
  have hb03 : Below w.heap.size w w3 := by exact bel
  clear hs hpl
  go_wp2
  go_loopw [8, 32] (RuIRel l old name w) (fun _ i _ => l.length - (intOf i).toNat)
  case atStart =>
    refine ⟨0, [], Nat.zero_le _, rfl, rfl, row_empty w3 w.heap.size _ _ hb03.size, Uns.nil _ _ _ _, Below.al hb03 _⟩
  case round =>
    obtain ⟨k, D, hk, rfl, hD, hrow, huns, hb⟩ := hrel
    have HD := Lib.hid hD
    have HROW := Lib.hid hrow
    have HUNS := Lib.hid huns
    have hDk : D.length = k := by have := congrArg List.length hD; rw [List.length_map, List.length_map, List.length_take] at this; omega
    obtain ⟨po, co, rfl⟩ := own_slice hrow
    have hqr := hb.size
    clear hD hrow huns
    by_cases hlt : k < l.length
    · obtain ⟨b, o, rfl, hB, p1, c1, p2, c2, hx0, hx1, hx2, hx3, hx⟩ := (H.out.below hb).at_ hlt
      have HTK := Lib.hid (List.take_succ_eq_append_getElem hlt)
      have HRI := Lib.hid (ren_incs (old := old) HGD.out HPN.out (List.getElem_mem hlt))
      have hwu := wtU_le l _ (List.getElem_mem hlt)
      obtain ⟨a, ha⟩ : ∃ a, l[k] = a := ⟨_, rfl⟩
      rw [ha] at hx hx0 hx1 hx2 hx3 HTK HRI hwu
      obtain ⟨_, _, _, _, -, q1, q2, -, -, -, l1, l2, hi, hax⟩ := hx.form
      simp only [Value.slice.injEq, true_and] at q1 q2
      obtain ⟨rfl, rfl⟩ := q1
      obtain ⟨rfl, rfl⟩ := q2
      have HI := Lib.hid hi
      have HA := Lib.hid hax
      have hwa : a.wt = a.name.size + (a.incs.length + wtS a.incs) + (a.axs.length + wtS a.axs) + a.goal.size := rfl
      have hli : a.incs.length ≤ 2000000 ∧ a.axs.length ≤ 2000000 := by
        have := HRI.out.2.1; rw [renI_len] at this
        exact ⟨by omega, by omega⟩
      have zb := bsz (World.block_lt_of_cell? _ _ hx0)
      have hki : (k : Int) < l.length := by omega
      clear ha hx hi hax l1 l2 hwa
      go_wp2
      obtain ⟨W, hW⟩ : ∃ W : World, W = wr.alloc (.cells #[.string a.name, .slice p1 a.incs.length c1, .slice p2 a.axs.length c2, .string a.goal] 34) := ⟨_, rfl⟩
      have hbW : Below wr.heap.size wr W := by rw [hW]; exact (Below.refl _ _).alloc (Nat.le_refl _) _
      have k0 : W.cell? ⟨wr.heap.size, 0, none⟩ = some (.string a.name) := by rw [hW]; go_simp
      have k1 : W.cell? ⟨wr.heap.size, 1, none⟩ = some (.slice p1 a.incs.length c1) := by rw [hW]; go_simp
      have k2 : W.cell? ⟨wr.heap.size, 2, none⟩ = some (.slice p2 a.axs.length c2) := by rw [hW]; go_simp
      have k3 : W.cell? ⟨wr.heap.size, 3, none⟩ = some (.string a.goal) := by rw [hW]; go_simp
      have zW := bsz (World.block_lt_of_cell? _ _ k0)
      have hbwW : Below w.heap.size w W := Below.step hb hbW
      rw [← hW]
      clear hW
      refine wp_region_any3 [some (.pointer (some ⟨wr.heap.size, 0, none⟩)), some (.string a.name), some (.pointer (some ⟨wr.heap.size, 1, none⟩)), some (.slice p1 a.incs.length c1), none, some (.pointer (some ⟨wr.heap.size, 2, none⟩)), some (.slice p2 a.axs.length c2), none, some (.pointer (some ⟨wr.heap.size, 3, none⟩)), some (.string a.goal), none, none, none] (CloD 9 34 W a) (by kernel_rfl) (by kernel_rfl) (fun L hL => CloD.start hL) ?_
      refine flowV_st rfl rfl (by intro u' L w' hun hbe hD; go_simp; first | exact ⟨hD.other 0 (by decide), rfl⟩ | exact hD.other 0 (by decide)) ?_
      go_simp
      refine flowV_st rfl rfl (by intro u' L w' hun hbe hD; have hw' := hD.bel; have e0 := cellQ hw' k0; have ze := bsz (World.block_lt_of_cell? _ _ e0); go_simp; first | exact ⟨hD.other 1 (by decide), rfl⟩ | exact hD.other 1 (by decide)) ?_
      go_simp
      refine flowV_st rfl rfl (by intro u' L w' hun hbe hD; go_simp; first | exact ⟨hD.other 2 (by decide), rfl⟩ | exact hD.other 2 (by decide)) ?_
      go_simp
      refine flowV_st rfl rfl (by intro u' L w' hun hbe hD; have hw' := hD.bel; have e0 := cellQ hw' k1; have ze := bsz (World.block_lt_of_cell? _ _ e0); go_simp; first | exact ⟨hD.other 3 (by decide), rfl⟩ | exact hD.other 3 (by decide)) ?_
      go_simp
      refine flowV_ch rfl rfl (by
        intro u' hu' L w' hun hbe hD
        go_simp
        exact (cloneS_any a.incs _ w' ((HI.out.below hbW).below hD.bel) hli.1).mono fun e w'' ⟨v', he, hr, hb'⟩ => ⟨v', he, hD.c4 hun hr hb'⟩) ?_
      intro x4
      go_simp
      refine flowV_st rfl rfl (by intro u' L w' hun hbe hD; go_simp; first | exact ⟨hD.other 5 (by decide), rfl⟩ | exact hD.other 5 (by decide)) ?_
      go_simp
      refine flowV_st rfl rfl (by intro u' L w' hun hbe hD; have hw' := hD.bel; have e0 := cellQ hw' k2; have ze := bsz (World.block_lt_of_cell? _ _ e0); go_simp; first | exact ⟨hD.other 6 (by decide), rfl⟩ | exact hD.other 6 (by decide)) ?_
      go_simp
      refine flowV_ch rfl rfl (by
        intro u' hu' L w' hun hbe hD
        go_simp
        exact (cloneS_any a.axs _ w' ((HA.out.below hbW).below hD.bel) hli.2).mono fun e w'' ⟨v', he, hr, hb'⟩ => ⟨v', he, hD.c7 hun hr hb'⟩) ?_
      intro x7
      go_simp
      refine flowV_st rfl rfl (by intro u' L w' hun hbe hD; go_simp; first | exact ⟨hD.other 8 (by decide), rfl⟩ | exact hD.other 8 (by decide)) ?_
      go_simp
      refine flowV_st rfl rfl (by intro u' L w' hun hbe hD; have hw' := hD.bel; have e0 := cellQ hw' k3; have ze := bsz (World.block_lt_of_cell? _ _ e0); go_simp; first | exact ⟨hD.other 9 (by decide), rfl⟩ | exact hD.other 9 (by decide)) ?_
      go_simp
      refine flowV_ch rfl rfl (by
        intro u' hu' L w' hun hbe hD
        have h4 := after_behind hbe (p := 4) (by kernel_rfl)
        have h7 := after_behind hbe (p := 7) (by kernel_rfl)
        have hu4 : u' 4 = x4 := (after_eq hu' (by kernel_rfl)).trans (by simp [upd])
        have hu7 : u' 7 = x7 := (after_eq hu' (by kernel_rfl)).trans (by simp [upd])
        have hm := hD.m10 hun h4 h7
        obtain ⟨p4, c4, e4⟩ := own_slice (hD.r4 h4)
        obtain ⟨p7, c7, e7⟩ := own_slice (hD.r7 h7)
        rw [e4, e7] at hm
        obtain rfl : x4 = .slice p4 a.incs.length c4 := hu4.symm.trans e4
        obtain rfl : x7 = .slice p7 a.axs.length c7 := hu7.symm.trans e7
        (first | (go_simp; done) | (go_simp; exact hm))) ?_
      intro x10
      go_simp
      refine flowV_ch rfl rfl (by intro u' hu' L w' hun hbe hD; go_simp; exact hD.a11' hun) ?_
      intro x11
      go_simp
      refine flowV_ch rfl rfl (by
        intro u' hu' L w' hun hbe hD
        have h10 := after_behind hbe (p := 10) (by kernel_rfl)
        have h11 := after_behind hbe (p := 11) (by kernel_rfl)
        have hu10 : u' 10 = x10 := (after_eq hu' (by kernel_rfl)).trans (by simp [upd])
        have hu11 : u' 11 = x11 := (after_eq hu' (by kernel_rfl)).trans (by simp [upd])
        obtain ⟨k', e1, e2, e3, e4, e5, e6, e7⟩ := hD.a11 h11
        obtain ⟨h4, h7⟩ := hD.o10 h10
        obtain ⟨p4, c4, f4⟩ := own_slice (hD.r4 h4)
        obtain ⟨p7, c7, f7⟩ := own_slice (hD.r7 h7)
        have hs := hD.s12 (v' := undef) hun h10 h11 e1
        have hv := hD.b10 h10
        rw [f4, f7] at hv hs
        obtain rfl : x10 = _ := hu10.symm.trans hv
        obtain rfl : x11 = _ := hu11.symm.trans e1
        obtain ⟨d0, d1, d2, d3, df⟩ := row4_cells (e3 (getD_tf hun))
        have ze := bsz e5
        clear e1 e2 e3 e4 e5 e6 e7 hv hu10 hu11 hu' f4 f7
        (first | (go_simp; done) | (go_simp; exact hs))) ?_
      intro x12
      refine flowV_nil ?_
      intro L w4 hL hD
      have h4 : L.getD 4 false = true := by simpa using hL 4 (by simp)
      have h7 : L.getD 7 false = true := by simpa using hL 7 (by simp)
      have h11 : L.getD 11 false = true := by simpa using hL 11 (by simp)
      have h12 : L.getD 12 false = true := by simpa using hL 12 (by simp)
      obtain ⟨bk, e1, e2, -, e4, e5, e6, e7⟩ := hD.a11 h11
      have hx11 : x11 = .pointer (some ⟨bk, 0, none⟩) := by simpa [upd] using e1
      have r4 : w4.ownsRow W.heap.size 9 1 x4 a.incs.length (strW a.incs) := by simpa [upd] using hD.r4 h4
      have r7 : w4.ownsRow W.heap.size 9 1 x7 a.axs.length (strW a.axs) := by simpa [upd] using hD.r7 h7
      have hbox : w4.heap[bk]? = some (.cells #[.string a.name, x4, x7, .string a.goal] 34 (0, 0)) := by simpa [upd] using e4 h12
      have hap : ∀ g, x4.ownBlock = some g → x7.ownBlock ≠ some g := by simpa [upd] using hD.ap h4 h7
      have n4 : x4.ownBlock ≠ some bk := by simpa [upd] using e6 h4
      have n7 : x7.ownBlock ≠ some bk := by simpa [upd] using e7 h7
      have hb4 : Below W.heap.size W w4 := hD.bel
      obtain ⟨p4, c4, rfl⟩ := own_slice r4
      obtain ⟨p7, c7, rfl⟩ := own_slice r7
      subst hx11
      obtain ⟨d0, d1, d2, d3, df⟩ := row4_cells hbox
      have zk := bsz e5
      have HAP := Lib.hid (And.intro hap (And.intro n4 n7))
      have HR7 := Lib.hid r7
      have HBS := Lib.hid (And.intro e2 (And.intro hbW hb4))
      have hzA := hbW.size
      have hz4 := hb4.size
      obtain ⟨wA, hwA⟩ : ∃ q, q = wr := ⟨_, rfl⟩
      subst hwA
      have HB := Lib.hid hb
      clear hD hL h4 h7 h11 h12 e1 e2 e4 e5 e6 e7 hap n4 n7 k0 k1 k2 k3 hx0 hx1 hx2 hx3 zb hb4 hb hbW r7
      cases hN : (a.name.toList == old.toList)
      · have hne : a.name ≠ old := fun e => by rw [e, beq_self_eq_true] at hN; cases hN
        have HM := Lib.hid (show RuMid a old name W.heap.size w4 bk (renS old name a.name) p4 p7 c4 c7 0 w4 from ⟨by rw [renS, if_neg hne]; exact hbox, by simpa [renI] using r4, Kept.refl _ _⟩)
        clear hne hbox r4
        go_wp2
        go_loopw [56] (fun i wr' => ∃ j : Nat, j ≤ a.incs.length ∧ i = .int .i64 j ∧ RuMid a old name W.heap.size w4 bk (renS old name a.name) p4 p7 c4 c7 j wr') (fun i _ => a.incs.length - (intOf i).toNat)
        case atStart => exact ⟨0, Nat.zero_le _, rfl, HM.out⟩
        case round =>
          obtain ⟨j, hj, rfl, hm⟩ := hrel
          have HM2 := Lib.hid hm
          obtain ⟨f0, f1, f2, f3, ff⟩ := row4_cells hm.box
          have zq := bsz (blk_lt hm.box)
          clear HM
          by_cases hjl : j < a.incs.length
          · obtain ⟨g, hpg, -, hgl, hgf, hgc⟩ := rowS_cell hm.row (by omega)
            have hgc0 : wr.cell? ⟨g, j, none⟩ = some (.string a.incs[j]) := hgc j _ (by rw [List.getElem?_append_right (by rw [renI_len, List.length_take]; omega), renI_len, List.length_take, show j - min j a.incs.length = 0 by omega, List.getElem?_drop, Nat.add_zero, List.getElem?_eq_getElem hjl])
            have HSN := Lib.hid (renI_snoc old name hjl)
            have HDR := Lib.hid (List.drop_eq_getElem_cons hjl)
            have hgk : g ≠ bk := fun e => HAP.out.2.1 (by rw [hpg, e]; rfl)
            subst hpg
            obtain ⟨y, hy⟩ : ∃ y, a.incs[j] = y := ⟨_, rfl⟩
            rw [hy] at hgc0 HSN HDR
            have zg := bsz hgl
            have hji : (j : Int) < a.incs.length := by omega
            clear hm hgc hy
            cases hE : (y.toList == old.toList)
            · have hne : y ≠ old := fun e => by rw [e, beq_self_eq_true] at hE; cases hE
              have HNE := Lib.hid hne
              clear hne
              go_wp2
              refine ⟨⟨j + 1, by omega, by go_num, ⟨HM2.out.box, ?_, HM2.out.kept⟩⟩, by simp [intOf]; omega⟩
              have hr := HM2.out.row
              rw [HDR.out] at hr
              rw [HSN.out, renS, if_neg HNE.out]
              simpa using hr
            · have hye : y = old := (Lib.bytes_beq_iff y old).1 hE
              have HYE := Lib.hid hye
              clear hye
              go_wp2
              refine ⟨⟨j + 1, by omega, by go_num, ⟨(heap_setCell_other wr ⟨g, j, none⟩ bk _ (fun e => hgk e.symm)).trans HM2.out.box, ?_, HM2.out.kept.set (.inr rfl) _ _⟩⟩, by simp [intOf]; omega⟩
              have hr := rowS_set (k := j) name HM2.out.row
              rw [HDR.out, List.set_append_right _ _ (by rw [renI_len, List.length_take]; omega), renI_len, List.length_take, show j - min j a.incs.length = 0 by omega] at hr
              rw [HSN.out, renS, if_pos HYE.out]
              simpa using hr
          · obtain rfl : j = a.incs.length := by omega
            have hrw := hm.row
            rw [List.take_length, List.drop_length, List.append_nil] at hrw
            have hs := sortS_any W.heap.size (renI old name a.incs) p4 c4 wr (by rw [renI_len]; exact hrw) HRI.out.2.1 HRI.out.1
            rw [renI_len] at hs
            have HS := Lib.hid hs
            have hji : ¬ (a.incs.length : Int) < a.incs.length := by omega
            have hq4 := hm.kept.size
            clear hm hrw hs
            go_wp2_with fail
            refine HS.out.mono ?_
            rintro e w5 ⟨rfl, hr5, hg5⟩
            have hq5 := hg5.size
            have hK5 : Kept (fun b => b = bk ∨ (Value.slice p4 a.incs.length c4).ownBlock = some b) w4 w5 := HM2.out.kept.grownB hg5 (fun b hb => .inr hb)
            have hbx5 := (hg5.block bk (blk_lt HM2.out.box) (fun e => HAP.out.2.1 e.symm)).trans HM2.out.box
            have hbA4 : Below wA.heap.size wA w4 := Below.step HBS.out.2.1 HBS.out.2.2
            have hbA5 : Below wA.heap.size wA w5 := Kept.belowB hbA4 hK5 (fun b hb => by
              rcases hb with rfl | hb
              · have := HBS.out.1; omega
              · have := own_base hr5 b hb; omega)
            have hr75 : w5.ownsRow W.heap.size 9 1 (.slice p7 a.axs.length c7) a.axs.length (strW a.axs) := own_same HR7.out fun g hg hl => hK5.block g hl (fun e => by
              rcases e with rfl | e
              · exact HAP.out.2.2 hg
              · exact HAP.out.1 g e hg)
            have HOUT5 := Lib.hid (own_below HROW.out hbA5)
            have HX := Lib.hid (show UC.Own 9 w.heap.size w5 ⟨renUn old name a, p4, c4, p7, c7⟩ from ⟨by show w5.ownsRow _ _ 1 (.slice p4 (canG lessB (renI old name a.incs)).length c4) (canG lessB (renI old name a.incs)).length _; rw [canG_len, renI_len]; exact own_lower hr5 (by omega), own_lower hr75 (by omega), by show ∀ g, (Value.slice p4 (canG lessB (renI old name a.incs)).length c4).ownBlock = some g → (Value.slice p7 a.axs.length c7).ownBlock ≠ some g; rw [canG_len, renI_len]; exact HAP.out.1⟩)
            have HXB := Lib.hid (show ∀ b, UC.S ⟨renUn old name a, p4, c4, p7, c7⟩ b → wA.heap.size ≤ b from fun b hb => by
              rcases hb with hb | hb
              · have h' : (Value.slice p4 (canG lessB (renI old name a.incs)).length c4).ownBlock = some b := hb
                rw [canG_len, renI_len] at h'
                have := own_base hr5 b h'; omega
              · have := own_base hr75 b hb; omega)
            obtain ⟨g0, g1, g2, g3, gf⟩ := row4_cells hbx5
            have zq5 := bsz (blk_lt hbx5)
            have HB5 := Lib.hid (And.intro hbA5 (Below.step HB.out hbA5))
            have hbase5 : w.heap.size ≤ w5.heap.size := by omega
            clear hr5 hg5 hK5 hbx5 hbA4 hbA5 hr75 f0 f1 f2 f3 ff
            go_wp2_with (at_builtin; refine wpList_app1 rfl (.tmp 73) (.tmp 75) _ rfl w.heap.size 34 4 80 elemUnit _ _ _ rfl w5 #[.string (renS old name a.name), .slice p4 a.incs.length c4, .slice p7 a.axs.length c7, .string a.goal] rfl _ (by simp) rfl HOUT5.out rfl (by simp [Value.oneCell']) (by omega) (by unfold maxLen; omega) hbase5 ?_; intro v6 w6 ho6 hg6 hn6 hl6)
            refine ⟨⟨k + 1, D ++ [⟨renUn old name a, p4, c4, p7, c7⟩], by omega, by go_num, ?_, ?_, ?_, ?_⟩, by simp [intOf]; omega⟩
            · rw [List.map_append, HD.out, HTK.out, List.map_append]; rfl
            · rw [flatU_app]
              have hcs : flatU [(⟨renUn old name a, p4, c4, p7, c7⟩ : UC)] = [.string (renS old name a.name), .slice p4 a.incs.length c4, .slice p7 a.axs.length c7, .string a.goal] := by
                show [Value.string (renS old name a.name), .slice p4 (canG lessB (renI old name a.incs)).length c4, .slice p7 a.axs.length c7, .string a.goal] ++ [] = _
                rw [canG_len, renI_len]; rfl
              rw [hcs]; exact ho6
            · exact ((HUNS.out.below HB5.out.1).snoc HX.out (fun b hb e => by have h1 := HXB.out b hb; have h2 := own_lt' HROW.out e; omega) (fun z hz b h1 h2 => by have h3 := HXB.out b h2; have h4 := ((HUNS.out.each z hz).blk h1).2; omega)).grown hg6 hn6
            · exact HB5.out.2.grown hg6 HB5.out.2.size (fun q hq => own_base HROW.out q hq)
      · have he : a.name = old := (Lib.bytes_beq_iff a.name old).1 hN
        have HM := Lib.hid (show RuMid a old name W.heap.size w4 bk (renS old name a.name) p4 p7 c4 c7 0 (w4.setCell ⟨bk, 0, none⟩ (.string name)) from ⟨by rw [renS, if_pos he]; have := heap_setCell_same w4 bk 0 _ _ (.string name) hbox; simpa using this, own_same (by simpa [renI] using r4) fun g hg _ => heap_setCell_other w4 ⟨bk, 0, none⟩ g _ (fun e => HAP.out.2.1 (by rw [hg]; exact congrArg some e)), (Kept.refl _ _).set (.inl rfl) _ _⟩)
        clear he hbox r4
        go_wp2
        go_loopw [56] (fun i wr' => ∃ j : Nat, j ≤ a.incs.length ∧ i = .int .i64 j ∧ RuMid a old name W.heap.size w4 bk (renS old name a.name) p4 p7 c4 c7 j wr') (fun i _ => a.incs.length - (intOf i).toNat)
        case atStart => exact ⟨0, Nat.zero_le _, rfl, HM.out⟩
        case round =>
          obtain ⟨j, hj, rfl, hm⟩ := hrel
          have HM2 := Lib.hid hm
          obtain ⟨f0, f1, f2, f3, ff⟩ := row4_cells hm.box
          have zq := bsz (blk_lt hm.box)
          clear HM
          by_cases hjl : j < a.incs.length
          · obtain ⟨g, hpg, -, hgl, hgf, hgc⟩ := rowS_cell hm.row (by omega)
            have hgc0 : wr.cell? ⟨g, j, none⟩ = some (.string a.incs[j]) := hgc j _ (by rw [List.getElem?_append_right (by rw [renI_len, List.length_take]; omega), renI_len, List.length_take, show j - min j a.incs.length = 0 by omega, List.getElem?_drop, Nat.add_zero, List.getElem?_eq_getElem hjl])
            have HSN := Lib.hid (renI_snoc old name hjl)
            have HDR := Lib.hid (List.drop_eq_getElem_cons hjl)
            have hgk : g ≠ bk := fun e => HAP.out.2.1 (by rw [hpg, e]; rfl)
            subst hpg
            obtain ⟨y, hy⟩ : ∃ y, a.incs[j] = y := ⟨_, rfl⟩
            rw [hy] at hgc0 HSN HDR
            have zg := bsz hgl
            have hji : (j : Int) < a.incs.length := by omega
            clear hm hgc hy
            cases hE : (y.toList == old.toList)
            · have hne : y ≠ old := fun e => by rw [e, beq_self_eq_true] at hE; cases hE
              have HNE := Lib.hid hne
              clear hne
              go_wp2
              refine ⟨⟨j + 1, by omega, by go_num, ⟨HM2.out.box, ?_, HM2.out.kept⟩⟩, by simp [intOf]; omega⟩
              have hr := HM2.out.row
              rw [HDR.out] at hr
              rw [HSN.out, renS, if_neg HNE.out]
              simpa using hr
            · have hye : y = old := (Lib.bytes_beq_iff y old).1 hE
              have HYE := Lib.hid hye
              clear hye
              go_wp2
              refine ⟨⟨j + 1, by omega, by go_num, ⟨(heap_setCell_other wr ⟨g, j, none⟩ bk _ (fun e => hgk e.symm)).trans HM2.out.box, ?_, HM2.out.kept.set (.inr rfl) _ _⟩⟩, by simp [intOf]; omega⟩
              have hr := rowS_set (k := j) name HM2.out.row
              rw [HDR.out, List.set_append_right _ _ (by rw [renI_len, List.length_take]; omega), renI_len, List.length_take, show j - min j a.incs.length = 0 by omega] at hr
              rw [HSN.out, renS, if_pos HYE.out]
              simpa using hr
          · obtain rfl : j = a.incs.length := by omega
            have hrw := hm.row
            rw [List.take_length, List.drop_length, List.append_nil] at hrw
            have hs := sortS_any W.heap.size (renI old name a.incs) p4 c4 wr (by rw [renI_len]; exact hrw) HRI.out.2.1 HRI.out.1
            rw [renI_len] at hs
            have HS := Lib.hid hs
            have hji : ¬ (a.incs.length : Int) < a.incs.length := by omega
            have hq4 := hm.kept.size
            clear hm hrw hs
            go_wp2_with fail
            refine HS.out.mono ?_
            rintro e w5 ⟨rfl, hr5, hg5⟩
            have hq5 := hg5.size
            have hK5 : Kept (fun b => b = bk ∨ (Value.slice p4 a.incs.length c4).ownBlock = some b) w4 w5 := HM2.out.kept.grownB hg5 (fun b hb => .inr hb)
            have hbx5 := (hg5.block bk (blk_lt HM2.out.box) (fun e => HAP.out.2.1 e.symm)).trans HM2.out.box
            have hbA4 : Below wA.heap.size wA w4 := Below.step HBS.out.2.1 HBS.out.2.2
            have hbA5 : Below wA.heap.size wA w5 := Kept.belowB hbA4 hK5 (fun b hb => by
              rcases hb with rfl | hb
              · have := HBS.out.1; omega
              · have := own_base hr5 b hb; omega)
            have hr75 : w5.ownsRow W.heap.size 9 1 (.slice p7 a.axs.length c7) a.axs.length (strW a.axs) := own_same HR7.out fun g hg hl => hK5.block g hl (fun e => by
              rcases e with rfl | e
              · exact HAP.out.2.2 hg
              · exact HAP.out.1 g e hg)
            have HOUT5 := Lib.hid (own_below HROW.out hbA5)
            have HX := Lib.hid (show UC.Own 9 w.heap.size w5 ⟨renUn old name a, p4, c4, p7, c7⟩ from ⟨by show w5.ownsRow _ _ 1 (.slice p4 (canG lessB (renI old name a.incs)).length c4) (canG lessB (renI old name a.incs)).length _; rw [canG_len, renI_len]; exact own_lower hr5 (by omega), own_lower hr75 (by omega), by show ∀ g, (Value.slice p4 (canG lessB (renI old name a.incs)).length c4).ownBlock = some g → (Value.slice p7 a.axs.length c7).ownBlock ≠ some g; rw [canG_len, renI_len]; exact HAP.out.1⟩)
            have HXB := Lib.hid (show ∀ b, UC.S ⟨renUn old name a, p4, c4, p7, c7⟩ b → wA.heap.size ≤ b from fun b hb => by
              rcases hb with hb | hb
              · have h' : (Value.slice p4 (canG lessB (renI old name a.incs)).length c4).ownBlock = some b := hb
                rw [canG_len, renI_len] at h'
                have := own_base hr5 b h'; omega
              · have := own_base hr75 b hb; omega)
            obtain ⟨g0, g1, g2, g3, gf⟩ := row4_cells hbx5
            have zq5 := bsz (blk_lt hbx5)
            have HB5 := Lib.hid (And.intro hbA5 (Below.step HB.out hbA5))
            have hbase5 : w.heap.size ≤ w5.heap.size := by omega
            clear hr5 hg5 hK5 hbx5 hbA4 hbA5 hr75 f0 f1 f2 f3 ff
            go_wp2_with (at_builtin; refine wpList_app1 rfl (.tmp 73) (.tmp 75) _ rfl w.heap.size 34 4 80 elemUnit _ _ _ rfl w5 #[.string (renS old name a.name), .slice p4 a.incs.length c4, .slice p7 a.axs.length c7, .string a.goal] rfl _ (by simp) rfl HOUT5.out rfl (by simp [Value.oneCell']) (by omega) (by unfold maxLen; omega) hbase5 ?_; intro v6 w6 ho6 hg6 hn6 hl6)
            refine ⟨⟨k + 1, D ++ [⟨renUn old name a, p4, c4, p7, c7⟩], by omega, by go_num, ?_, ?_, ?_, ?_⟩, by simp [intOf]; omega⟩
            · rw [List.map_append, HD.out, HTK.out, List.map_append]; rfl
            · rw [flatU_app]
              have hcs : flatU [(⟨renUn old name a, p4, c4, p7, c7⟩ : UC)] = [.string (renS old name a.name), .slice p4 a.incs.length c4, .slice p7 a.axs.length c7, .string a.goal] := by
                show [Value.string (renS old name a.name), .slice p4 (canG lessB (renI old name a.incs)).length c4, .slice p7 a.axs.length c7, .string a.goal] ++ [] = _
                rw [canG_len, renI_len]; rfl
              rw [hcs]; exact ho6
            · exact ((HUNS.out.below HB5.out.1).snoc HX.out (fun b hb e => by have h1 := HXB.out b hb; have h2 := own_lt' HROW.out e; omega) (fun z hz b h1 h2 => by have h3 := HXB.out b h2; have h4 := ((HUNS.out.each z hz).blk h1).2; omega)).grown hg6 hn6
            · exact HB5.out.2.grown hg6 HB5.out.2.size (fun q hq => own_base HROW.out q hq)
    · obtain rfl : k = l.length := by omega
      have hdm := HD.out
      rw [List.take_length] at hdm
      have hs := sortU_any w.heap.size D po co wr (by rw [hDk]; exact HROW.out) (by omega) (by have := ren_names (old := old) HGD.out HPN.out; rw [← hdm, List.map_map] at this; exact this)
      rw [hDk] at hs
      have HS := Lib.hid hs
      have HDM := Lib.hid hdm
      have hki : ¬ (l.length : Int) < l.length := by omega
      clear hs hdm
      go_wp2_with fail
      refine HS.out.mono ?_
      rintro e w5 ⟨rfl, hr5, hg5⟩
      have HR5 := Lib.hid hr5
      have HG5 := Lib.hid hg5
      clear hr5 hg5
      go_wp2
      go_ret2
      have hbe : Below w.heap.size w w5 := hb.grown HG5.out hb.size (fun q hq => own_base HROW.out q hq)
      refine ⟨.slice po l.length co, by rw [HT.out]; rfl, ?_, hbe⟩
      have hmap : (canG lessC D).map UC.u = renV l old name := by rw [HV.out, HT.out, if_pos rfl, renL, ← HDM.out]; exact canG_map (lt := lessC) (lt' := lessU) (f := UC.u) (fun _ _ => rfl) D
      have hlen : (renV l old name).length = l.length := by rw [HV.out, HT.out, if_pos rfl, renL_len]
      have hU := ((HUNS.out.grown HG5.out (.inl rfl)).perm (canG_perm D)).own (eU := 34) (S := NewB w w5) (us := renV l old name) (by rw [hlen]; exact HR5.out) hmap (by rw [hlen]; unfold maxLen; omega) (fun u hu => ?_) (fun b h1 h2 => ⟨h1, h2⟩)
      · rw [show (Value.slice po l.length co) = .slice po (renV l old name).length co by rw [hlen]] at *
        exact hU
      · rw [HV.out, HT.out, if_pos rfl, renL] at hu
        obtain ⟨u0, hu0, rfl⟩ := List.mem_map.1 (mem_canG.1 hu)
        have h1 := wtU_le l u0 hu0
        have h2 : u0.wt = u0.name.size + (u0.incs.length + wtS u0.incs) + (u0.axs.length + wtS u0.axs) + u0.goal.size := rfl
        have h3 : (renUn old name u0).wt = (renS old name u0.name).size + ((canG lessB (renI old name u0.incs)).length + wtS (canG lessB (renI old name u0.incs))) + (u0.axs.length + wtS u0.axs) + u0.goal.size := rfl
        have h4 := renS_size old name u0.name
        have h5 := wtS_renI old name u0.incs
        have h6 := (ren_incs (old := old) HGD.out HPN.out hu0).2.1
        rw [renI_len] at h6
        have h7 : name.size * u0.incs.length ≤ name.size * 12 := Nat.mul_le_mul_left _ h6
        rw [wtS_canG, canG_len, renI_len] at h3
        unfold maxLen
        omega
end Go.Proofs.YtkgfanajgdelcaaGreatDoor
