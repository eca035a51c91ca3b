import Derived.Test.YtkgfanajgdelcaaGreatDoorUnPart26
import Derived.Test.YtkgfanajgdelcaaGreatDoorUnPart29
namespace Go.Proofs.YtkgfanajgdelcaaGreatDoor
set_option maxRecDepth 100000
theorem ordL_full {l : List Un} {R : List ByteArray} (h : OrdInv l R) (hl : R.length = l.length) : (ordL l).length = l.length := by
  have key : ∀ (f : Nat) (out : List ByteArray), OrdInv l out → l.length ≤ out.length + f → (ordF f l out).length = l.length := by
    intro f
    induction f with
    | zero => intro out ho hz; have := ho.len; rw [ordF]; omega
    | succ f ih =>
      intro out ho hz
      rw [ordF]
      cases hf : l.find? (Un.ready out) with
      | some u => exact ih _ (ho.snoc (find_mem hf).1 (find_mem hf).2) (by simp; omega)
      | none =>
        have hall : ∀ (i : Nat) (x : ByteArray), R[i]? = some x → x ∈ out := by
          intro i
          induction i using Nat.strongRecOn with
          | _ i ih2 =>
            intro x hx
            obtain ⟨u, hu, rfl, hy⟩ := h.topo i x hx
            rcases Classical.em (u.name ∈ out) with h1 | h1
            · exact h1
            · exfalso
              have hr : u.ready out = true := by
                rw [Un.ready, Bool.and_eq_true, Bool.not_eq_true', List.all_eq_true]
                refine ⟨by simpa [inS] using h1, fun y hyy => ?_⟩
                obtain ⟨j, hj, e⟩ := List.getElem_of_mem (hy y hyy)
                rw [List.length_take] at hj
                rw [List.getElem_take] at e
                have := ih2 j (by omega) y (by rw [List.getElem?_eq_getElem (by omega), e])
                simpa [inS] using this
              rw [List.find?_eq_none] at hf
              exact hf u hu hr
        have h2 := pigeon R out h.nd (fun x hx => by obtain ⟨i, hi, rfl⟩ := List.getElem_of_mem hx; exact hall i _ (List.getElem?_eq_getElem hi))
        have := ho.len
        simp only; omega
  exact key l.length [] (OrdInv.nil l) (by simp)
theorem namesF_of : ∀ (l : List ByteArray) (p : Option ByteArray), Asc lessB l → (∀ x ∈ l, symB x.data.toList = true) → (∀ x ∈ l, ascS p x = true) → namesF p l = true
  | [], p, _, _, _ => by cases p <;> rfl
  | a :: l, p, h, hs, hp => by
    rw [Asc, List.pairwise_cons] at h
    rw [namesF, Bool.and_eq_true, Bool.and_eq_true]
    exact ⟨⟨hs a (List.mem_cons_self ..), hp a (List.mem_cons_self ..)⟩, namesF_of l (some a) h.2 (fun x hx => hs x (List.mem_cons_of_mem _ hx)) (fun x hx => h.1 x hx)⟩
theorem unitsF_of : ∀ (l : List Un) (p : Option ByteArray), Asc lessU l → (∀ u ∈ l, u.good = true) → (∀ u ∈ l, ascS p u.name = true) → unitsF p l = true
  | [], p, _, _, _ => by cases p <;> rfl
  | a :: l, p, h, hs, hp => by
    rw [Asc, List.pairwise_cons] at h
    rw [unitsF, Bool.and_eq_true, Bool.and_eq_true]
    exact ⟨⟨hs a (List.mem_cons_self ..), hp a (List.mem_cons_self ..)⟩, unitsF_of l (some a.name) h.2 (fun x hx => hs x (List.mem_cons_of_mem _ hx)) (fun x hx => h.1 x hx)⟩
theorem unitsF_asc' : ∀ (l : List Un) (p : Option ByteArray), unitsF p l = true → Asc lessU l
  | [], _, _ => List.Pairwise.nil
  | a :: l, p, h => by
    rw [unitsF, Bool.and_eq_true, Bool.and_eq_true] at h
    rw [Asc, List.pairwise_cons]
    exact ⟨unitsF_asc l a.name h.2, unitsF_asc' l _ h.2⟩
theorem renS_back {old name x : ByteArray} (h : x ≠ name) : renS name old (renS old name x) = x := by
  unfold renS
  by_cases hx : x = old
  · rw [if_pos hx, if_pos rfl, hx]
  · rw [if_neg hx, if_neg h]
theorem renI_back {old name : ByteArray} {l : List ByteArray} (h : ∀ x ∈ l, x ≠ name) : renI name old (renI old name l) = l := by
  rw [renI, renI, List.map_map]
  conv => rhs; rw [← List.map_id l]
  exact List.map_congr_left fun x hx => renS_back (h x hx)
theorem sym_of_good {u : Un} (h : u.good = true) : symB u.name.data.toList = true := by
  unfold Un.good at h
  simp only [Bool.and_eq_true] at h
  exact h.1.1.1.1.1
section
variable {l : List Un} {old name : ByteArray}
theorem renUn_good (hg : libGood l = true) (hn : ∀ u ∈ l, u.name ≠ name) (hs : symB name.data.toList = true) {u : Un} (hu : u ∈ l) : (renUn old name u).good = true := by
  obtain ⟨h1, h2, -, -⟩ := ren_incs (old := old) hg hn hu
  obtain ⟨-, -, hgd⟩ := libGood_parts hg
  have hgu := hgd u hu
  have hsy : ∀ x : ByteArray, symB x.data.toList = true → symB (renS old name x).data.toList = true := fun x hx => by
    unfold renS; split
    · exact hs
    · exact hx
  have hin := good_incs hgu
  have hnm := sym_of_good hgu
  unfold Un.good at hgu ⊢
  simp only [Bool.and_eq_true, decide_eq_true_eq] at hgu ⊢
  refine ⟨⟨⟨⟨⟨hsy _ hnm, ?_⟩, ?_⟩, hgu.1.1.2⟩, hgu.1.2⟩, hgu.2⟩
  · show (canG lessB (renI old name u.incs)).length ≤ 12
    rw [canG_len]; exact h2
  · refine namesF_of _ _ (canG_asc strictS (nodup_tri h1)) (fun x hx => ?_) (fun _ _ => rfl)
    obtain ⟨y, hy, rfl⟩ := List.mem_map.1 (mem_canG.1 hx)
    exact hsy y (namesF_sym _ _ hin.2 y hy)
theorem renL_asc (hg : libGood l = true) (hn : ∀ u ∈ l, u.name ≠ name) : Asc lessU (renL old name l) := by
  refine canG_asc strictU ?_
  have := ren_names (old := old) hg hn
  exact (List.pairwise_map.1 this).imp fun h => triS h
theorem mem_renL {v : Un} : v ∈ renL old name l ↔ ∃ u ∈ l, renUn old name u = v := by rw [renL, mem_canG, List.mem_map]
theorem renL_good (hg : libGood l = true) (hn : ∀ u ∈ l, u.name ≠ name) (hs : symB name.data.toList = true) : libGood (renL old name l) = true := by
  obtain ⟨hd, hf, hgd⟩ := libGood_parts hg
  have hi := ordL_inv l
  have hnm : ∀ x ∈ ordL l, x ≠ name := fun x hx => by
    obtain ⟨u, hu, rfl⟩ := List.mem_map.1 (hi.sub x hx)
    exact hn u hu
  rw [libGood, Bool.and_eq_true, Bool.and_eq_true]
  refine ⟨⟨unitsF_of _ _ (renL_asc hg hn) (fun v hv => ?_) (fun _ _ => rfl), ?_⟩, ?_⟩
  · obtain ⟨u, hu, rfl⟩ := mem_renL.1 hv
    exact renUn_good hg hn hs hu
  · rw [renL_len]; exact decide_eq_true (libGood_len hg)
  · refine decide_eq_true (ordL_full (R := (ordL l).map (renS old name)) ⟨nodup_map_on hi.nd fun x hx y hy h => renS_inj (hnm x hx) (hnm y hy) h, fun x hx => ?_, fun i x hx => ?_⟩ (by rw [List.length_map, renL_len, hf]))
    · obtain ⟨y, hy, rfl⟩ := List.mem_map.1 hx
      obtain ⟨u, hu, rfl⟩ := List.mem_map.1 (hi.sub y hy)
      exact List.mem_map.2 ⟨renUn old name u, mem_renL.2 ⟨u, hu, rfl⟩, rfl⟩
    · rw [List.getElem?_map] at hx
      cases hy : (ordL l)[i]? with
      | none => rw [hy] at hx; cases hx
      | some y =>
        rw [hy] at hx
        obtain rfl : renS old name y = x := Option.some.inj hx
        obtain ⟨u, hu, rfl, hin⟩ := hi.topo i y hy
        refine ⟨renUn old name u, mem_renL.2 ⟨u, hu, rfl⟩, rfl, fun z hz => ?_⟩
        obtain ⟨t, ht, rfl⟩ := List.mem_map.1 (mem_canG.1 hz)
        rw [← List.map_take]
        exact List.mem_map_of_mem (hin t ht)
theorem renUn_back (hg : libGood l = true) (hn : ∀ u ∈ l, u.name ≠ name) {u : Un} (hu : u ∈ l) : renUn name old (renUn old name u) = u := by
  obtain ⟨h1, -, h3, h4⟩ := ren_incs (old := old) hg hn hu
  obtain ⟨-, -, hgd⟩ := libGood_parts hg
  have hin := good_incs (hgd u hu)
  have hp : (renI name old (canG lessB (renI old name u.incs))).Perm u.incs := by
    have := (canG_perm (lt := lessB) (renI old name u.incs)).map (renS name old)
    have e := renI_back (old := old) h4
    rw [renI] at e
    rw [e] at this
    exact this
  have hi : canG lessB (renI name old (canG lessB (renI old name u.incs))) = u.incs := by
    refine asc_eq strictS _ _ (canG_asc strictS (nodup_tri (hp.nodup_iff.2 h3))) (namesF_asc' _ _ hin.2) fun z => ?_
    rw [mem_canG]; exact hp.mem_iff
  obtain ⟨n, i, a, g⟩ := u
  simp only [renUn] at hi ⊢
  rw [hi, renS_back (hn _ hu)]
theorem renL_back (hg : libGood l = true) (hn : ∀ u ∈ l, u.name ≠ name) : renL name old (renL old name l) = l := by
  have hm : (l.map (renUn old name)).map (renUn name old) = l := by
    rw [List.map_map]
    conv => rhs; rw [← List.map_id l]
    exact List.map_congr_left fun u hu => renUn_back hg hn hu
  have hp : ((renL old name l).map (renUn name old)).Perm l := by
    have := (canG_perm (lt := lessU) (l.map (renUn old name))).map (renUn name old)
    rw [hm] at this; exact this
  have hu : Asc lessU l := by
    rw [libGood, Bool.and_eq_true, Bool.and_eq_true] at hg
    exact unitsF_asc' _ _ hg.1.1
  have ht : ((renL old name l).map (renUn name old)).Pairwise (fun a b => lessU a b = true ∨ lessU b a = true) :=
    (List.Perm.pairwise_iff (fun h => h.symm) hp).2 (hu.imp fun h => .inl h)
  exact asc_eq strictU _ _ (canG_asc strictU ht) hu fun z => mem_canG.trans hp.mem_iff
theorem renOk_parts (h : renOk l old name = true) : libGood l = true ∧ (∃ u ∈ l, u.name = old) ∧ (∀ u ∈ l, u.name ≠ name) ∧ symB name.data.toList = true := by
  rw [renOk, Bool.and_eq_true, Bool.and_eq_true, unitOf, Bool.and_eq_true] at h
  exact ⟨h.1.1.1, place_mem h.1.1.2, place_not h.1.2, h.2⟩
theorem renOk_back (h : renOk l old name = true) : libGood (renL old name l) = true ∧ renOk (renL old name l) name old = true ∧ renV (renL old name l) name old = l := by
  obtain ⟨hg, ⟨u, hu, rfl⟩, hn, hs⟩ := renOk_parts h
  have hg' := renL_good (old := u.name) hg hn hs
  obtain ⟨hd', -, -⟩ := libGood_parts hg'
  have hok : renOk (renL u.name name l) name u.name = true := by
    have h1 : (renUn u.name name u) ∈ renL u.name name l := mem_renL.2 ⟨u, hu, rfl⟩
    have e1 : (renUn u.name name u).name = name := if_pos rfl
    have h2 := findU_of hd' h1
    rw [e1] at h2
    obtain ⟨i, -, hpl, -⟩ := place_some h2
    have h3 : placeU (renL u.name name l) u.name = none := by
      rw [place_none, findU, List.find?_eq_none]
      intro v hv
      obtain ⟨t, ht, rfl⟩ := mem_renL.1 hv
      rw [decide_eq_true_iff]
      show ¬ renS u.name name t.name = u.name
      unfold renS
      split
      · rename_i e; intro e2; exact hn t ht (e.trans e2.symm)
      · rename_i e; exact e
    have h4 := sym_of_good ((libGood_parts hg).2.2 u hu)
    rw [renOk, unitOf, hg', hpl, h3, h4]; rfl
  exact ⟨hg', hok, by rw [renV, if_pos hok, renL_back hg hn]⟩
end
/-! ### A unit's text -/
theorem txt_back {u : Un} (h : u.good = true) : puOk u.txt = true ∧ puV u.txt = u := by
  have e : parI u.txt = u := stI_reads.back h
  have h1 : puOk u.txt = true := by rw [puOk, e, h]; simp
  exact ⟨h1, by rw [puV, if_pos h1, e]⟩
theorem puOk_txt {L : List UInt8} (h : puOk L = true) : (puV L).good = true ∧ (puV L).txt = L := by
  rw [puV, if_pos h]; exact puOk_parts h
open Go.RowKit
theorem elemUnit : Elem Tryz.prog 24 34 4 80 := elem_of Tryz.underlying24 (z := .agg #[.string ⟨#[]⟩, .slice none 0 0, .slice none 0 0, .string ⟨#[]⟩]) (by kernel_rfl) rfl (by omega)
theorem isNaNR_any (s : ByteArray) (w : World) : Calls Tryz.prog 135 #[.string s] w fun e w' => e = .returned (.bool false) ∧ w = w' := by
  go_enter Tryz.func135, Tryz.ntmps135
  go_wp2
  refine bodyPost_ret (v := .bool false) (by simp only [results, Tryz.results135]; go_simp) rfl ⟨rfl, rfl⟩
theorem compareR_any (x y : ByteArray) (w : World) : Calls Tryz.prog 76 #[.string x, .string y] w fun e w' => e = .returned (.int .i64 (cmpI x y)) ∧ w = w' := by
  have h1 : Op.bytesLess x.toList y.toList = lessB x y := by rw [lessB, ByteArray.toList_eq, ByteArray.toList_eq]
  have h2 : Op.bytesLess y.toList x.toList = lessB y x := by rw [lessB, ByteArray.toList_eq, ByteArray.toList_eq]
  cases ha : lessB x y
  · have h3 : (x.toList == y.toList) = !lessB y x := by
      have := less_total y.toList x.toList
      rw [h1, h2, ha, Bool.false_or] at this
      rw [this, Bool.not_not]
    cases hb : lessB y x
    · rw [ha] at h1
      rw [hb] at h2 h3
      have HA := Lib.hid ha
      have HB := Lib.hid hb
      clear ha hb
      go_enter Tryz.func76, Tryz.ntmps76
      go_wp2_with (first | (go_at_call 135; refine (isNaNR_any _ _).mono ?_; rintro e w' ⟨rfl, rfl⟩))
      go_ret
      exact ⟨by rw [cmpI, HA.out, HB.out]; rfl, rfl⟩
    · rw [ha] at h1
      rw [hb] at h2 h3
      have HA := Lib.hid ha
      have HB := Lib.hid hb
      clear ha hb
      go_enter Tryz.func76, Tryz.ntmps76
      go_wp2_with (first | (go_at_call 135; refine (isNaNR_any _ _).mono ?_; rintro e w' ⟨rfl, rfl⟩))
      go_ret
      exact ⟨by rw [cmpI, HA.out, HB.out]; rfl, rfl⟩
  · rw [ha] at h1
    have HA := Lib.hid ha
    clear ha
    go_enter Tryz.func76, Tryz.ntmps76
    go_wp2_with (first | (go_at_call 135; refine (isNaNR_any _ _).mono ?_; rintro e w' ⟨rfl, rfl⟩))
    go_ret
    exact ⟨by rw [cmpI, HA.out]; rfl, rfl⟩
theorem byName_any (x y : ByteArray) (v1 v2 v3 u1 u2 u3 : Value) (w : World) : Calls Tryz.prog 75 #[.agg #[.string x, v1, v2, v3], .agg #[.string y, u1, u2, u3]] w fun e w' => e = .returned (.int .i64 (cmpI x y)) ∧ Below w.heap.size w w' := by
  go_enter Tryz.func75, Tryz.ntmps75
  go_wp2_with fail
  refine (compareR_any x y _).mono ?_
  rintro e w1 ⟨rfl, rfl⟩
  go_wp2
  go_ret
  exact ⟨rfl, by exact bel⟩
set_option maxHeartbeats 6400000 in
theorem insSortU_any (base : Nat) (l : List UC) (p : Option Addr) (c : Nat) (w : World) (h : w.ownsRow base 34 4 (.slice p l.length c) l.length (flatU l)) (hn : l.length ≤ 1000000) (hnd : (l.map (fun x => x.u.name)).Nodup) :
    Calls Tryz.prog 178 #[.slice p l.length c, .int .i64 0, .int .i64 l.length, .func (.func 75) #[] #[]] w fun e w' => e = .returned (.tuple #[]) ∧ w'.ownsRow base 34 4 (.slice p l.length c) l.length (flatU (canG lessC l)) ∧ w.grownBy w' (Value.slice p l.length c).ownBlock := by
  have H := Lib.hid h
  have HND := Lib.hid hnd
  clear h hnd
  go_enter Tryz.func178, Tryz.ntmps178
  go_wp2
  go_loopw [8] (fun i wr => ∃ k : Nat, 1 ≤ k ∧ k ≤ l.length + 1 ∧ i = .int .i64 k ∧ wr.ownsRow base 34 4 (.slice p l.length c) l.length (flatU (canG lessC (l.take k) ++ l.drop k)) ∧ w.grownBy wr (Value.slice p l.length c).ownBlock) (fun i _ => l.length - (intOf i).toNat)
  case atStart =>
    refine ⟨1, Nat.le_refl _, by omega, rfl, ?_, ⟨rfl, rfl, rfl, Nat.le_refl _, fun _ _ _ => rfl⟩⟩
    have : canG lessC (l.take 1) ++ l.drop 1 = l := by cases l with | nil => rfl | cons a l => rfl
    rw [this]; exact H.out
  case round =>
    obtain ⟨k, hk1, hk2, rfl, hrow, hgr⟩ := hrel
    have HG := Lib.hid hgr
    by_cases hlt : k < l.length
    · have HROW := Lib.hid hrow
      obtain ⟨g, rfl, hbg, hgl, -, -⟩ := rowU_cell hrow (by omega)
      have HCT := Lib.hid (canG_take (lt := lessC) hlt)
      have HDR := Lib.hid (List.drop_eq_getElem_cons hlt)
      have hPl : (canG lessC (l.take k)).length = k := by rw [canG_len, List.length_take]; omega
      have HASC := Lib.hid (canG_asc strictC (tri_names ((List.map_take ▸ HND.out.sublist (List.take_sublist k (l.map (fun x => x.u.name))) : ((l.take k).map (fun x => x.u.name)).Nodup))))
      have HTRI := Lib.hid (show ∀ y ∈ canG lessC (l.take k), lessC y l[k] = true ∨ lessC l[k] y = true from fun y hy => by
        have hy := mem_canG.1 hy
        refine triS (fun e => ?_)
        obtain ⟨i, hi, hie⟩ := List.getElem_of_mem hy
        rw [List.length_take] at hi
        rw [List.getElem_take] at hie
        have h1 : (l.map (fun x => x.u.name))[i]'(by rw [List.length_map]; omega) = (l.map (fun x => x.u.name))[k]'(by rw [List.length_map]; omega) := by rw [List.getElem_map, List.getElem_map, hie]; exact e
        have := (List.getElem_inj HND.out).1 h1
        omega)
      obtain ⟨x, hx⟩ : ∃ x, l[k] = x := ⟨_, rfl⟩
      rw [hx] at HCT HDR HTRI
      clear hx hrow hgr
      generalize hP : canG lessC (l.take k) = P at *
      obtain ⟨wA, hwA⟩ : ∃ q, q = wr := ⟨_, rfl⟩
      subst hwA
      have hki : (k : Int) < l.length := by omega
      clear hP
      go_wp2
      go_loopw [9] (fun jv wr' => ∃ j : Nat, j ≤ k ∧ jv = .int .i64 j ∧ wr'.ownsRow base 34 4 (.slice (some ⟨g, 0, none⟩) l.length c) l.length (flatU (P.take j ++ x :: P.drop j ++ l.drop (k + 1))) ∧ (∀ y ∈ P.drop j, lessC x y = true) ∧ wA.grownBy wr' (some g)) (fun jv _ => (intOf jv).toNat)
      case atStart =>
        refine ⟨k, Nat.le_refl _, rfl, ?_, ?_, ⟨rfl, rfl, rfl, Nat.le_refl _, fun _ _ _ => rfl⟩⟩
        · rw [← hPl, List.take_length, List.drop_length, hPl]
          have := HROW.out
          rw [HDR.out] at this
          simpa using this
        · rw [← hPl, List.drop_length]; intro y hy; cases hy
      case round =>
        obtain ⟨j, hj, rfl, hrow, hall, hgi⟩ := hrel
        have HROW2 := Lib.hid hrow
        have HALL := Lib.hid hall
        have HGI := Lib.hid hgi
        obtain ⟨g', hge, -, hgl2, hfz, hcl⟩ := rowU_cell hrow (by omega)
        simp only [Option.some.injEq, Addr.mk.injEq, and_true] at hge
        subst hge
        have zg := bsz hgl2
        have hPt : (P.take j).length = j := by rw [List.length_take]; omega
        obtain ⟨c10, c11, c12, c13⟩ := hcl j x (by rw [List.append_assoc, List.getElem?_append_right (by omega), hPt, Nat.sub_self]; rfl)
        clear hrow hall hgi
        by_cases hj0 : 0 < j
        · have hjp : j - 1 < P.length := by omega
          obtain ⟨y, hy⟩ : ∃ y, P[j - 1] = y := ⟨_, rfl⟩
          obtain ⟨c20, c21, c22, c23⟩ := hcl (j - 1) y (by
            rw [List.append_assoc, List.getElem?_append_left (by omega), List.getElem?_take, if_pos (by omega), List.getElem?_eq_getElem hjp, hy])
          have HY := Lib.hid hy
          have hwj : IntKind.i64.wrap ((j : Int) - 1) = ((j - 1 : Nat) : Int) := by rw [IntWalk.i64_in _ (by omega)]; omega
          have hji : (0 : Int) < j := by omega
          have hjl : (j : Int) < l.length := by omega
          have hjl2 : ((j - 1 : Nat) : Int) < l.length := by omega
          clear hcl hy
          cases hL : lessC x y
          all_goals
            have HLX := Lib.hid hL
            have hCI := (cmpI_neg x.u.name y.u.name).trans hL
            simp only [decide_eq_true_eq, decide_eq_false_iff_not] at hCI
          · go_wp2
            obtain ⟨C, HC0⟩ := class_of (InF wr.heap.size _ [(⟨g, j * 4, none⟩, .string x.u.name), (⟨g, j * 4 + 1, none⟩, .slice x.p x.u.incs.length x.c), (⟨g, j * 4 + 2, none⟩, .slice x.q x.u.axs.length x.d), (⟨g, j * 4 + 3, none⟩, .string x.u.goal), (⟨g, (j - 1) * 4, none⟩, .string y.u.name), (⟨g, (j - 1) * 4 + 1, none⟩, .slice y.p y.u.incs.length y.c), (⟨g, (j - 1) * 4 + 2, none⟩, .slice y.q y.u.axs.length y.d), (⟨g, (j - 1) * 4 + 3, none⟩, .string y.u.goal)] [] [])
            have HC := Lib.hid HC0
            clear HC0
            refine wp_region_flow (C := C) (by kernel_rfl) (by kernel_rfl) (fun L hL => (HC.out _ _).2 (InF.start (by first | (intro _ hs; cases hs; done) | (simp only [List.forall_mem_cons]; go_simp)) (by first | (intro _ hs; cases hs; done) | (simp only [List.forall_mem_cons]; go_simp)) (by first | (intro _ hs; cases hs; done) | (simp only [List.forall_mem_cons]; go_simp)) (by first | (intro _ hs; cases hs; done) | (simp only [List.forall_mem_cons]; go_simp)) L hL)) ?_
            repeat (first | ((first | apply flow_free rfl | (apply flow_yes; (case hw => go_simp))); (intro L w' hun hrd hC; have hC := (HC.out _ _).1 hC; have hb' := hC.below; (try have hw' : Below w.heap.size w w' := by first | exact Below.trans (by (repeat (first | with_reducible (first | exact bR _ _ | assumption | refine bA ?_ _ | refine bS ?_ (by first | exact Nat.le_refl _ | (simp; done) | (simp; omega)) _) | assumption | exact bR _ _ | refine bD ?_ | refine bN ?_ _ | refine bT ?_ (by assumption)))) hb' | ((repeat (first | with_reducible (first | exact bR _ _ | assumption | refine bA ?_ _ | refine bS ?_ (by first | exact Nat.le_refl _ | (simp; done) | (simp; omega)) _) | assumption | exact bR _ _ | refine bD ?_ | refine bN ?_ _ | refine bT ?_ (by assumption))); done)); have hf' := hC.cell; (try simp only [List.forall_mem_cons] at hf'); go_simp; first | exact ⟨(HC.out _ _).2 (hC.skip _ (by rfl)), rfl⟩ | (rw [if_neg]; (exact ⟨(HC.out _ _).2 (hC.skip _ (by rfl)), rfl⟩); omega) | (go_at_call 75; refine (byName_any x.u.name y.u.name _ _ _ _ _ _ _).mono ?_; rintro e w1 ⟨rfl, hb1⟩; exact ⟨rfl, (HC.out _ _).2 ((hC.next (by first | (simp; done) | (simp; omega) | omega) hb1).skip _ (by rfl))⟩)); go_simp) | (apply flow_no; (case hw => (go_simp; try (intro hh; cases hh))); (intro L w' _ _ hC; exact (HC.out _ _).2 (((HC.out _ _).1 hC).skip _ (by rfl))); go_simp))
            refine flow_nil ?_
            intro L wz hL hz
            have hz := (HC.out _ _).1 hz
            have hbz := hz.below
            have hcz := hz.cell
            try simp only [List.forall_mem_cons] at hcz
            have hdz := hz.done
            try simp only [List.forall_mem_cons] at hdz
            (try have hwz : Below w.heap.size w wz := by first | exact Below.trans (by (repeat (first | with_reducible (first | exact bR _ _ | assumption | refine bA ?_ _ | refine bS ?_ (by first | exact Nat.le_refl _ | (simp; done) | (simp; omega)) _) | assumption | exact bR _ _ | refine bD ?_ | refine bN ?_ _ | refine bT ?_ (by assumption)))) hbz | ((repeat (first | with_reducible (first | exact bR _ _ | assumption | refine bA ?_ _ | refine bS ?_ (by first | exact Nat.le_refl _ | (simp; done) | (simp; omega)) _) | assumption | exact bR _ _ | refine bD ?_ | refine bN ?_ _ | refine bT ?_ (by assumption))); done))
            go_wp2
            refine ⟨⟨k + 1, by omega, by omega, by go_num, ?_, ?_⟩, by simp [intOf]; omega⟩
            · rw [HCT.out, sort_stop (j := j) strictC HASC.out (by omega) HALL.out HTRI.out (.inr ⟨hjp, by rw [HY.out]; exact HLX.out⟩)]
              exact own_below HROW2.out hbz
            · exact (HG.out.trans HGI.out).trans ⟨hbz.os, hbz.tape, hbz.output, hbz.size, fun b hb _ => hbz.block b hb⟩
          · go_wp2
            obtain ⟨C, HC0⟩ := class_of (InF wr.heap.size _ [(⟨g, j * 4, none⟩, .string x.u.name), (⟨g, j * 4 + 1, none⟩, .slice x.p x.u.incs.length x.c), (⟨g, j * 4 + 2, none⟩, .slice x.q x.u.axs.length x.d), (⟨g, j * 4 + 3, none⟩, .string x.u.goal), (⟨g, (j - 1) * 4, none⟩, .string y.u.name), (⟨g, (j - 1) * 4 + 1, none⟩, .slice y.p y.u.incs.length y.c), (⟨g, (j - 1) * 4 + 2, none⟩, .slice y.q y.u.axs.length y.d), (⟨g, (j - 1) * 4 + 3, none⟩, .string y.u.goal)] [] [])
            have HC := Lib.hid HC0
            clear HC0
            refine wp_region_flow (C := C) (by kernel_rfl) (by kernel_rfl) (fun L hL => (HC.out _ _).2 (InF.start (by first | (intro _ hs; cases hs; done) | (simp only [List.forall_mem_cons]; go_simp)) (by first | (intro _ hs; cases hs; done) | (simp only [List.forall_mem_cons]; go_simp)) (by first | (intro _ hs; cases hs; done) | (simp only [List.forall_mem_cons]; go_simp)) (by first | (intro _ hs; cases hs; done) | (simp only [List.forall_mem_cons]; go_simp)) L hL)) ?_
            repeat (first | ((first | apply flow_free rfl | (apply flow_yes; (case hw => go_simp))); (intro L w' hun hrd hC; have hC := (HC.out _ _).1 hC; have hb' := hC.below; (try have hw' : Below w.heap.size w w' := by first | exact Below.trans (by (repeat (first | with_reducible (first | exact bR _ _ | assumption | refine bA ?_ _ | refine bS ?_ (by first | exact Nat.le_refl _ | (simp; done) | (simp; omega)) _) | assumption | exact bR _ _ | refine bD ?_ | refine bN ?_ _ | refine bT ?_ (by assumption)))) hb' | ((repeat (first | with_reducible (first | exact bR _ _ | assumption | refine bA ?_ _ | refine bS ?_ (by first | exact Nat.le_refl _ | (simp; done) | (simp; omega)) _) | assumption | exact bR _ _ | refine bD ?_ | refine bN ?_ _ | refine bT ?_ (by assumption))); done)); have hf' := hC.cell; (try simp only [List.forall_mem_cons] at hf'); go_simp; first | exact ⟨(HC.out _ _).2 (hC.skip _ (by rfl)), rfl⟩ | (rw [if_neg]; (exact ⟨(HC.out _ _).2 (hC.skip _ (by rfl)), rfl⟩); omega) | (go_at_call 75; refine (byName_any x.u.name y.u.name _ _ _ _ _ _ _).mono ?_; rintro e w1 ⟨rfl, hb1⟩; exact ⟨rfl, (HC.out _ _).2 ((hC.next (by first | (simp; done) | (simp; omega) | omega) hb1).skip _ (by rfl))⟩)); go_simp) | (apply flow_no; (case hw => (go_simp; try (intro hh; cases hh))); (intro L w' _ _ hC; exact (HC.out _ _).2 (((HC.out _ _).1 hC).skip _ (by rfl))); go_simp))
            refine flow_nil ?_
            intro L wz hL hz
            have hz := (HC.out _ _).1 hz
            have hbz := hz.below
            have hcz := hz.cell
            try simp only [List.forall_mem_cons] at hcz
            have hdz := hz.done
            try simp only [List.forall_mem_cons] at hdz
            (try have hwz : Below w.heap.size w wz := by first | exact Below.trans (by (repeat (first | with_reducible (first | exact bR _ _ | assumption | refine bA ?_ _ | refine bS ?_ (by first | exact Nat.le_refl _ | (simp; done) | (simp; omega)) _) | assumption | exact bR _ _ | refine bD ?_ | refine bN ?_ _ | refine bT ?_ (by assumption)))) hbz | ((repeat (first | with_reducible (first | exact bR _ _ | assumption | refine bA ?_ _ | refine bS ?_ (by first | exact Nat.le_refl _ | (simp; done) | (simp; omega)) _) | assumption | exact bR _ _ | refine bD ?_ | refine bN ?_ _ | refine bT ?_ (by assumption))); done))
            have d10 := (hbz.cell hgl2).trans c10
            have d11 := (hbz.cell hgl2).trans c11
            have d12 := (hbz.cell hgl2).trans c12
            have d13 := (hbz.cell hgl2).trans c13
            have d20 := (hbz.cell hgl2).trans c20
            have d21 := (hbz.cell hgl2).trans c21
            have d22 := (hbz.cell hgl2).trans c22
            have d23 := (hbz.cell hgl2).trans c23
            have df : ∀ i, wz.frozen? ⟨g, i, none⟩ = false := fun i => (hbz.frozen (p := ⟨g, i, none⟩) hgl2).trans (hfz i)
            have zgz := bsz (World.block_lt_of_cell? _ _ d10)
            go_wp2
            go_region_with fail
            all_goals go_wp2
            all_goals
              have hpy : P[j - 1]? = some y := by rw [List.getElem?_eq_getElem hjp, HY.out]
              refine ⟨⟨j - 1, by omega, rfl, ?_, ?_, ?_⟩, by simp [intOf]; omega⟩
              · have hr := rowU_set (k := j - 1) x (by simp; omega) (rowU_set (k := j) y (by simp; omega) (own_below HROW2.out hbz))
                rw [set_swapU hj0 (by omega) hpy] at hr
                have hr2 := own_drew hr
                clear hr
                dsimp only [set4W] at hr2
                with_reducible exact hr2
              · intro q hq
                rw [List.drop_eq_getElem_cons hjp, HY.out] at hq
                rcases List.mem_cons.1 hq with rfl | hq
                · exact HLX.out
                · rw [show j - 1 + 1 = j by omega] at hq; exact HALL.out q hq
              · have hgz : wA.grownBy wz (some g) := HGI.out.trans ⟨hbz.os, hbz.tape, hbz.output, hbz.size, fun b hb _ => hbz.block b hb⟩
                have hz4 := gr_sc (gr_sc (gr_sc (gr_sc (gr_sc (gr_sc (gr_sc (gr_sc hgz (.inl rfl) (.string y.u.name) (p := ⟨g, j * 4, none⟩)) (.inl rfl) (.slice y.p y.u.incs.length y.c) (p := ⟨g, j * 4 + 1, none⟩)) (.inl rfl) (.slice y.q y.u.axs.length y.d) (p := ⟨g, j * 4 + 2, none⟩)) (.inl rfl) (.string y.u.goal) (p := ⟨g, j * 4 + 3, none⟩)) (.inl rfl) (.string x.u.name) (p := ⟨g, (j - 1) * 4, none⟩)) (.inl rfl) (.slice x.p x.u.incs.length x.c) (p := ⟨g, (j - 1) * 4 + 1, none⟩)) (.inl rfl) (.slice x.q x.u.axs.length x.d) (p := ⟨g, (j - 1) * 4 + 2, none⟩)) (.inl rfl) (.string x.u.goal) (p := ⟨g, (j - 1) * 4 + 3, none⟩)
                with_reducible exact gr_dr hz4
        · obtain rfl : j = 0 := by omega
          go_wp2
          obtain ⟨C, HC0⟩ := class_of (InF wr.heap.size _ [] [] [])
          have HC := Lib.hid HC0
          clear HC0
          refine wp_region_flow (C := C) (by kernel_rfl) (by kernel_rfl) (fun L hL => (HC.out _ _).2 (InF.start (by first | (intro _ hs; cases hs; done) | (simp only [List.forall_mem_cons]; go_simp)) (by first | (intro _ hs; cases hs; done) | (simp only [List.forall_mem_cons]; go_simp)) (by first | (intro _ hs; cases hs; done) | (simp only [List.forall_mem_cons]; go_simp)) (by first | (intro _ hs; cases hs; done) | (simp only [List.forall_mem_cons]; go_simp)) L hL)) ?_
          repeat (first | ((first | apply flow_free rfl | (apply flow_yes; (case hw => go_simp))); (intro L w' hun hrd hC; have hC := (HC.out _ _).1 hC; have hb' := hC.below; have hf' := hC.cell; (try simp only [List.forall_mem_cons] at hf'); go_simp; first | exact ⟨(HC.out _ _).2 (hC.skip _ (by rfl)), rfl⟩ | (rw [if_neg]; (exact ⟨(HC.out _ _).2 (hC.skip _ (by rfl)), rfl⟩); omega) | fail); go_simp) | (apply flow_no; (case hw => (go_simp; try (intro hh; cases hh))); (intro L w' _ _ hC; exact (HC.out _ _).2 (((HC.out _ _).1 hC).skip _ (by rfl))); go_simp))
          refine flow_nil ?_
          intro L wz hL hz
          have hz := (HC.out _ _).1 hz
          have hbz := hz.below
          have hcz := hz.cell
          try simp only [List.forall_mem_cons] at hcz
          have hdz := hz.done
          try simp only [List.forall_mem_cons] at hdz
          (try have hwz : Below w.heap.size w wz := by first | exact Below.trans (by (repeat (first | with_reducible (first | exact bR _ _ | assumption | refine bA ?_ _ | refine bS ?_ (by first | exact Nat.le_refl _ | (simp; done) | (simp; omega)) _) | assumption | exact bR _ _ | refine bD ?_ | refine bN ?_ _ | refine bT ?_ (by assumption)))) hbz | ((repeat (first | with_reducible (first | exact bR _ _ | assumption | refine bA ?_ _ | refine bS ?_ (by first | exact Nat.le_refl _ | (simp; done) | (simp; omega)) _) | assumption | exact bR _ _ | refine bD ?_ | refine bN ?_ _ | refine bT ?_ (by assumption))); done))
          go_wp2
          refine ⟨⟨k + 1, by omega, by omega, by go_num, ?_, ?_⟩, by simp [intOf]; omega⟩
          · rw [HCT.out, sort_stop (j := 0) strictC HASC.out (by omega) HALL.out HTRI.out (.inl rfl)]
            exact own_below HROW2.out hbz
          · exact (HG.out.trans HGI.out).trans ⟨hbz.os, hbz.tape, hbz.output, hbz.size, fun b hb _ => hbz.block b hb⟩
    · have hck : canG lessC (l.take k) ++ l.drop k = canG lessC l := by rw [List.take_of_length_le (by omega), List.drop_eq_nil_of_le (by omega), List.append_nil]
      rw [hck] at hrow
      have HROW := Lib.hid hrow
      clear hrow hck hgr
      have hkl : ¬ (k : Int) < l.length := by omega
      go_wp2
      go_end0
      exact ⟨rfl, HROW.out, HG.out⟩
set_option maxHeartbeats 3200000 in
theorem pdqU_any (base : Nat) (l : List UC) (p : Option Addr) (c : Nat) (lim : Int) (w : World) (h : w.ownsRow base 34 4 (.slice p l.length c) l.length (flatU l)) (hn : l.length ≤ 12) (hnd : (l.map (fun x => x.u.name)).Nodup) :
    Calls Tryz.prog 134 #[.slice p l.length c, .int .i64 0, .int .i64 l.length, .int .i64 lim, .func (.func 75) #[] #[]] w fun e w' => e = .returned (.tuple #[]) ∧ w'.ownsRow base 34 4 (.slice p l.length c) l.length (flatU (canG lessC l)) ∧ w.grownBy w' (Value.slice p l.length c).ownBlock := by
  have H := Lib.hid (insSortU_any base l p c w h (by omega) hnd)
  have hi : (l.length : Int) ≤ 12 := by omega
  clear h hnd
  go_enter Tryz.func134, Tryz.ntmps134
  go_wp2
  go_loopw [1, 2] (fun a b wr => a = .int .i64 0 ∧ b = .int .i64 l.length ∧ wr = w) (fun _ _ _ => 0)
  case atStart => exact ⟨rfl, rfl, rfl⟩
  case round =>
    obtain ⟨rfl, rfl, rfl⟩ := hrel
    go_wp2_with fail
    refine H.out.mono ?_
    rintro e w1 ⟨rfl, h1, h2⟩
    have H1 := Lib.hid (And.intro h1 h2)
    clear h1 h2
    go_wp2
    refine bodyPost_ret (results_none rfl _ _ _) rfl ?_
    exact ⟨rfl, H1.out.1, H1.out.2⟩
set_option maxHeartbeats 1600000 in
theorem sortU_any (base : Nat) (l : List UC) (p : Option Addr) (c : Nat) (w : World) (h : w.ownsRow base 34 4 (.slice p l.length c) l.length (flatU l)) (hn : l.length ≤ 12) (hnd : (l.map (fun x => x.u.name)).Nodup) :
    Calls Tryz.prog 74 #[.slice p l.length c, .func (.func 75) #[] #[]] w fun e w' => e = .returned (.tuple #[]) ∧ w'.ownsRow base 34 4 (.slice p l.length c) l.length (flatU (canG lessC l)) ∧ w.grownBy w' (Value.slice p l.length c).ownBlock := by
  have H := Lib.hid (fun lim => pdqU_any base l p c lim w h hn hnd)
  have hw : IntKind.u64.wrap (l.length : Int) = l.length := by simp [IntKind.wrap, IntKind.bits, IntKind.signed]; omega
  clear h hnd
  go_enter Tryz.func74, Tryz.ntmps74
  go_wp2_with fail
  refine (bitsLen_any l.length w (by omega)).mono ?_
  rintro e w1 ⟨r, rfl, rfl⟩
  clear hw
  go_wp2_with fail
  refine (H.out r).mono ?_
  rintro e w2 ⟨rfl, h1, h2⟩
  have H1 := Lib.hid (And.intro h1 h2)
  clear h1 h2
  go_wp2
  go_end0
  exact ⟨rfl, H1.out.1, H1.out.2⟩
end Go.Proofs.YtkgfanajgdelcaaGreatDoor
