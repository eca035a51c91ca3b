/- LoadOrder: the law. Conditions: sizes. -/
import Derived.Shelf.Strings.BuilderF
import Derived.Test.YtkgfanajgdelcaaGreatDoorLbPart1
import Derived.Test.YtkgfanajgdelcaaGreatDoorLbPart10
namespace Go.Proofs.YtkgfanajgdelcaaGreatDoor
open Go.RowKit
theorem inS_drop {us : List ByteArray} {k : Nat} (x : ByteArray) (h : k < us.length) : inS (us.drop k) x = (us[k].toList == x.toList || inS (us.drop (k + 1)) x) := by
  rw [inS, inS, List.drop_eq_getElem_cons h, decide_eq_decide.2 List.mem_cons, Bool.decide_or]
  congr 1
  rw [Bool.eq_iff_iff, decide_eq_true_iff, Lib.bytes_beq_iff]
  exact eq_comm
set_option maxRecDepth 100000 in
set_option maxHeartbeats 1600000 in
theorem l2In_any {B : Nat → Prop} (us : List ByteArray) (v : Value) (x : ByteArray) (w : World) (h : StrsAt B w v us) :
    Calls Tryz.prog 85 #[v, .string x] w fun e w' => e = .returned (.bool (inS us x)) ∧ Below w.heap.size w w' := by
  obtain ⟨p, c, rfl, hlen⟩ := h.form
  unfold maxLen at hlen
  have H := Lib.hid h
  clear h
  go_enter Tryz.func85, Tryz.ntmps85
  go_wp2
  go_loopw [5] (fun i wr => ∃ k : Nat, k ≤ us.length ∧ i = .int .i64 k ∧ inS us x = inS (us.drop k) x ∧ Below w.heap.size w wr) (fun i _ => us.length - (intOf i).toNat)
  case atStart => exact ⟨0, Nat.zero_le _, rfl, rfl, by (repeat (first | with_reducible exact Below.refl _ _ | with_reducible assumption | with_reducible refine Below.al ?_ _ | with_reducible refine Below.sc ?_ (by first | exact Nat.le_refl _ | (simp; done) | (simp; omega)) _ | assumption | exact Below.refl _ _ | refine Below.dr ?_ | refine Below.drN ?_ _ | refine Below.step ?_ (by assumption)))⟩
  case round =>
    obtain ⟨k, hk, rfl, he, hb⟩ := hrel
    have HE := Lib.hid he
    clear he
    by_cases hlt : k < us.length
    · obtain ⟨b, o, rfl, hB, hx0, hxs⟩ := (H.out.below hb).at_ hlt
      have HD := Lib.hid (inS_drop x hlt)
      obtain ⟨a, ha⟩ : ∃ a, us[k] = a := ⟨_, rfl⟩
      rw [ha] at hx0 HD
      clear ha
      have zb := bsz (World.block_lt_of_cell? _ _ hx0)
      cases hN : (a.toList == x.toList)
      all_goals
        have HN := Lib.hid hN
        go_wp2
      · refine ⟨⟨k + 1, by omega, by go_num, ?_, by (repeat (first | with_reducible exact Below.refl _ _ | with_reducible assumption | with_reducible refine Below.al ?_ _ | with_reducible refine Below.sc ?_ (by first | exact Nat.le_refl _ | (simp; done) | (simp; omega)) _ | assumption | exact Below.refl _ _ | refine Below.dr ?_ | refine Below.drN ?_ _ | refine Below.step ?_ (by assumption)))⟩, by simp [intOf]; omega⟩
        rw [HE.out, HD.out, HN.out]; rfl
      · go_ret
        exact ⟨ret_bool (by rw [HE.out, HD.out, HN.out]; rfl), by (repeat (first | with_reducible exact Below.refl _ _ | with_reducible assumption | with_reducible refine Below.al ?_ _ | with_reducible refine Below.sc ?_ (by first | exact Nat.le_refl _ | (simp; done) | (simp; omega)) _ | assumption | exact Below.refl _ _ | refine Below.dr ?_ | refine Below.drN ?_ _ | refine Below.step ?_ (by assumption)))⟩
    · obtain rfl : k = us.length := by omega
      have he := HE.out
      rw [List.drop_length] at he
      have HE2 := Lib.hid he
      clear he
      go_wp2
      go_ret
      exact ⟨ret_bool (by rw [HE2.out]; rfl), by (repeat (first | with_reducible exact Below.refl _ _ | with_reducible assumption | with_reducible refine Below.al ?_ _ | with_reducible refine Below.sc ?_ (by first | exact Nat.le_refl _ | (simp; done) | (simp; omega)) _ | assumption | exact Below.refl _ _ | refine Below.dr ?_ | refine Below.drN ?_ _ | refine Below.step ?_ (by assumption)))⟩
def lenV : Value → Nat | .slice _ n _ => n | _ => 0
structure OrdS (out : List ByteArray) (v : Value) (w wr : World) : Prop where
  row : wr.ownsRow w.heap.size 9 1 v out.length (strW out)
  sizes : ∀ s ∈ out, s.size ≤ maxLen
  bel : Below w.heap.size w wr
theorem OrdS.below {out : List ByteArray} {v : Value} {w wr w' : World} (h : OrdS out v w wr) (hb : Below wr.heap.size wr w') : OrdS out v w w' := ⟨own_below h.row hb, h.sizes, h.bel.trans (hb.mono h.bel.size)⟩
/-- Looking for the first unit that is ready. -/
def SeekRel (l : List Un) (P : Un → Bool) (W : World) (nx i : Value) (wr : World) : Prop :=
  Below W.heap.size W wr ∧ ((∃ k : Nat, k ≤ l.length ∧ i = .int .i64 k ∧ nx = .string ⟨#[]⟩ ∧ firstI P 0 l = firstI P k (l.drop k)) ∨ (∃ (k j : Nat) (h : j < l.length), k ≤ l.length ∧ i = .int .i64 k ∧ nx = .string l[j].name ∧ firstI P 0 l = some j))
set_option maxRecDepth 100000 in
set_option maxHeartbeats 6400000 in
theorem l27Order_any {B : Nat → Prop} (l : List Un) (va : Value) (w : World) (h : UnsAt B w va l) (hl : l.length ≤ 1048576) (hne : ∀ u ∈ l, (u.name.toList == []) = false) :
    Calls Tryz.prog 33 #[va] w fun e w' => ∃ v, e = .returned v ∧ w'.ownsRow w.heap.size 9 1 v (ordL l).length (strW (ordL l)) ∧ (∀ s ∈ ordL l, s.size ≤ maxLen) ∧ Below w.heap.size w w' := by
  obtain ⟨p, c, rfl, hlen⟩ := h.form
  unfold maxLen at hlen
  have H := Lib.hid h
  have HNE := Lib.hid hne
  clear h hne
  go_enter Tryz.func33, Tryz.ntmps33
  go_wp2
  go_loopw [3] (fun o wr => ∃ out : List ByteArray, OrdInv l out ∧ ordF (l.length - out.length) l out = ordL l ∧ OrdS out o w wr) (fun o _ => l.length - lenV o)
  case atStart =>
    refine ⟨[], OrdInv.nil l, rfl, row_empty w w.heap.size _ 1 (Nat.le_refl _), by simp, by (repeat (first | with_reducible exact Below.refl _ _ | with_reducible assumption | with_reducible refine Below.al ?_ _ | with_reducible refine Below.sc ?_ (by first | exact Nat.le_refl _ | (simp; done) | (simp; omega)) _ | assumption | exact Below.refl _ _ | refine Below.dr ?_ | refine Below.drN ?_ _ | refine Below.step ?_ (by assumption)))⟩
  case round =>
    obtain ⟨out, hinv, hord, hst⟩ := hrel
    obtain ⟨wA, hwA⟩ : ∃ x, x = wr := ⟨_, rfl⟩
    subst hwA
    have HO := Lib.hid (rowS_own (S := fun _ => True) hst.row hst.sizes (by have := hinv.len; unfold maxLen; omega) (fun _ _ => trivial))
    obtain ⟨po, co, rfl, -⟩ := OwnRow.form HO.out
    have hlen2 := hinv.len
    have hb := hst.bel
    have HINV := Lib.hid hinv
    have HORD := Lib.hid hord
    have HST := Lib.hid hst
    clear hinv hord hst
    go_wp2
    go_loopw [4, 5] (SeekRel l (Un.ready out) wA) (fun _ i _ => l.length - (intOf i).toNat)
    case atStart => exact ⟨by (repeat (first | with_reducible exact Below.refl _ _ | with_reducible assumption | with_reducible refine Below.al ?_ _ | with_reducible refine Below.sc ?_ (by first | exact Nat.le_refl _ | (simp; done) | (simp; omega)) _ | assumption | exact Below.refl _ _ | refine Below.dr ?_ | refine Below.drN ?_ _ | refine Below.step ?_ (by assumption))), .inl ⟨0, Nat.zero_le _, rfl, rfl, rfl⟩⟩
    case round =>
      obtain ⟨wB, hwB⟩ : ∃ x, x = wr := ⟨_, rfl⟩
      subst hwB
      obtain ⟨hbi, hrel⟩ := hrel
      have hbw := Below.step hb hbi
      have HS1 := Lib.hid (HST.out.below hbi)
      rcases hrel with ⟨k, hk, rfl, rfl, he⟩ | ⟨k, j, hj, hk, rfl, rfl, hfound⟩
      · have HE := Lib.hid he
        clear he
        by_cases hlt : k < l.length
        · obtain ⟨b, o, rfl, hB, p1, c1, p2, c2, hx0, hx1, hx2, hx3, hx⟩ := (H.out.below hbw).at_ hlt
          have HD := Lib.hid (firstI_drop (Un.ready out) hlt)
          obtain ⟨u, hu⟩ : ∃ u, l[k] = u := ⟨_, rfl⟩
          have HK := Lib.hid hu
          rw [hu] at hx hx0 hx1 hx2 hx3 HD
          have HI := Lib.hid hx.form
          clear hu
          have zb := bsz (World.block_lt_of_cell? _ _ hx0)
          go_wp2_with fail
          refine (l2In_any out _ u.name _ (HO.out.at_.below hbi)).mono ?_
          rintro e w1 ⟨rfl, hb1⟩
          have ⟨cb1, fb1⟩ := bcell hb1
          have hq1 := hb1.size
          obtain ⟨_, _, _, _, q0, q1, q2, q3, -, -, hil, -, hia, -⟩ := HI.out
          simp only [Value.slice.injEq, true_and] at q1
          obtain ⟨rfl, rfl⟩ := q1
          clear q0 q2 q3
          have HIA := Lib.hid hia
          unfold maxLen at hil
          clear hia HI
          go_wp2
          go_loopw [6, 7] (fun r i wr' => ∃ j : Nat, j ≤ u.incs.length ∧ i = .int .i64 j ∧ r = .bool (!inS out u.name && (u.incs.take j).all (inS out)) ∧ Below w1.heap.size w1 wr') (fun _ i _ => u.incs.length - (intOf i).toNat)
          case atStart => exact ⟨0, Nat.zero_le _, rfl, by simp, by (repeat (first | with_reducible exact Below.refl _ _ | with_reducible assumption | with_reducible refine Below.al ?_ _ | with_reducible refine Below.sc ?_ (by first | exact Nat.le_refl _ | (simp; done) | (simp; omega)) _ | assumption | exact Below.refl _ _ | refine Below.dr ?_ | refine Below.drN ?_ _ | refine Below.step ?_ (by assumption)))⟩
          case round =>
            obtain ⟨j, hj, rfl, rfl, hbj⟩ := hrel
            have hbj1 : Below wB.heap.size wB wr := Below.step hb1 hbj
            have hcell0 := (hbj1.cell zb.1).trans hx0
            have hcell1 := (hbj1.cell (show b < wB.heap.size from zb.1)).trans hx1
            have zbj := bsz (World.block_lt_of_cell? _ _ hcell0)
            have HRY := Lib.hid (show u.ready out = (!inS out u.name && u.incs.all (inS out)) from rfl)
            by_cases hjl : j < u.incs.length
            · obtain ⟨b', o', rfl, hB', hy0, hys⟩ := (HIA.out.below hbj1).at_ hjl
              have HTK := Lib.hid (List.take_succ_eq_append_getElem hjl)
              obtain ⟨a, ha⟩ : ∃ a, u.incs[j] = a := ⟨_, rfl⟩
              rw [ha] at hy0 HTK
              clear ha
              have zb' := bsz (World.block_lt_of_cell? _ _ hy0)
              cases hr : (!inS out u.name && (u.incs.take j).all (inS out))
              · have HR := Lib.hid hr
                go_wp2
                refine ⟨⟨j + 1, by omega, by go_num, ?_, hbj⟩, by simp [intOf]; omega⟩
                rw [HTK.out, List.all_append, ← Bool.and_assoc, HR.out, Bool.false_and]
              · have HR := Lib.hid hr
                go_wp2_with fail
                refine (l2In_any out _ a _ (HO.out.at_.below (Below.step hbi hbj1))).mono ?_
                rintro e w2 ⟨rfl, hb2⟩
                go_wp2
                refine ⟨⟨j + 1, by omega, by go_num, ?_, Below.step hbj hb2⟩, by simp [intOf]; omega⟩
                rw [HTK.out, List.all_append, ← Bool.and_assoc, HR.out, Bool.true_and, List.all_cons, List.all_nil, Bool.and_true]
            · obtain rfl : j = u.incs.length := by omega
              rw [List.take_length, ← HRY.out]
              have hbk := Below.step hbi hbj1
              cases hr : u.ready out
              · have HR := Lib.hid hr
                go_wp2
                refine ⟨⟨hbk, .inl ⟨k + 1, by omega, by go_num, rfl, ?_⟩⟩, by simp [intOf]; omega⟩
                rw [HE.out, HD.out, HR.out]; rfl
              · have HR := Lib.hid hr
                go_wp2
                refine ⟨⟨hbk, .inr ⟨k + 1, k, hlt, by omega, by go_num, by rw [HK.out], ?_⟩⟩, by simp [intOf]; omega⟩
                rw [HE.out, HD.out, HR.out]; rfl
        · obtain rfl : k = l.length := by omega
          rw [List.drop_length] at HE
          have HN := Lib.hid (show ordL l = out from HORD.out.symm.trans (ordF_none _ (firstI_none _ _ _ HE.out)))
          go_wp2
          go_ret
          exact ⟨_, rfl, by rw [HN.out]; exact HS1.out.row, by rw [HN.out]; exact HS1.out.sizes, HS1.out.bel⟩
      · obtain ⟨-, hj2, hfd⟩ := firstI_some _ _ _ _ hfound
        simp only [Nat.sub_zero] at hj2 hfd
        have hnn := HNE.out l[j] (List.getElem_mem hj)
        obtain ⟨b, o, rfl, hB, p1, c1, p2, c2, hx0, hx1, hx2, hx3, hx⟩ := (H.out.below hbw).at_ hj
        have hnsz : l[j].name.size ≤ maxLen := by obtain ⟨_, _, _, h2, _⟩ := hx; exact h2
        have HFD := Lib.hid hfd
        obtain ⟨u, hu⟩ : ∃ u, l[j] = u := ⟨_, rfl⟩
        rw [hu] at hnn hnsz HFD
        have hlo : out.length < l.length := by
          have := (HINV.out.snoc (find_mem HFD.out).1 (find_mem HFD.out).2).len
          simp at this; omega
        clear hx hfound hfd
        rw [hu]
        have hrest : True := trivial
        by_cases hkl : (k : Int) < l.length
        all_goals
          go_wp2_with (at_builtin; refine wpList_app1 rfl (.tmp 59) (.tmp 61) _ rfl w.heap.size 9 1 16 elemStr _ _ _ rfl wB #[.string u.name] rfl _ (by simp) rfl HS1.out.row rfl (by simp [Value.oneCell']) (by omega) (by unfold maxLen; omega) (hbw.size) ?_; intro v1 w2 hown1 hg1 hnr1 hlt1)
          obtain ⟨q2, k2, rfl⟩ := own_form hown1 (Nat.succ_pos _)
          refine ⟨⟨out ++ [u.name], HINV.out.snoc (find_mem HFD.out).1 (find_mem HFD.out).2, ?_, ⟨by rw [List.length_append, strW_snoc]; exact hown1, ?_, hbw.grown hg1 hbw.size (own_base HS1.out.row)⟩⟩, by simp [lenV]; omega⟩
          · rw [← ordF_step HFD.out HINV.out]; exact HORD.out
          · intro s hs
            rcases List.mem_append.1 hs with hs | hs
            · exact HST.out.sizes s hs
            · rw [List.mem_singleton] at hs; subst hs; exact hnsz
end Go.Proofs.YtkgfanajgdelcaaGreatDoor
namespace Go.Proofs.YtkgfanajgdelcaaGreatDoor
open Go.RowKit
def unitsF : Option ByteArray → List Un → Bool
  | _, [] => true
  | p, u :: us => u.good && ascS p u.name && unitsF (some u.name) us
def prevU (l : List Un) : Nat → Option ByteArray | 0 => none | k + 1 => (l[k]?).map Un.name
theorem unitsF_drop {l : List Un} {k : Nat} (h : k < l.length) : unitsF (prevU l k) (l.drop k) = (l[k].good && ascS (prevU l k) l[k].name && unitsF (prevU l (k + 1)) (l.drop (k + 1))) := by
  rw [List.drop_eq_getElem_cons h, unitsF, show prevU l (k + 1) = some l[k].name by rw [prevU, List.getElem?_eq_getElem h]; rfl]
theorem prevU_pos {l : List Un} {k : Nat} (h : k < l.length) (hk : 0 < k) : prevU l k = some (l[k - 1]'(by omega)).name := by
  cases k with
  | zero => omega
  | succ k => rw [prevU, List.getElem?_eq_getElem (by omega)]; rfl
theorem less_trans : ∀ x y z : List UInt8, Op.bytesLess x y = true → Op.bytesLess y z = true → Op.bytesLess x z = true
  | [], [], _, h, _ => by simp [Op.bytesLess] at h
  | [], b :: y, [], _, h2 => by simp [Op.bytesLess] at h2
  | [], b :: y, c :: z, _, _ => by simp [Op.bytesLess]
  | a :: x, [], _, h, _ => by simp [Op.bytesLess] at h
  | a :: x, b :: y, [], _, h2 => by simp [Op.bytesLess] at h2
  | a :: x, b :: y, c :: z, h, h2 => by
    have ih := less_trans x y z
    simp only [Op.bytesLess, Bool.or_eq_true, Bool.and_eq_true, decide_eq_true_eq, beq_iff_eq] at h h2 ⊢
    rcases h with h | ⟨rfl, h⟩ <;> rcases h2 with h2 | ⟨rfl, h2⟩
    · exact .inl (UInt8.lt_trans h h2)
    · exact .inl h
    · exact .inl h2
    · exact .inr ⟨rfl, ih h h2⟩
theorem less_irrefl : ∀ x : List UInt8, Op.bytesLess x x = false
  | [] => rfl
  | a :: x => by simp [Op.bytesLess, UInt8.lt_irrefl, less_irrefl x]
theorem unitsF_asc : ∀ (l : List Un) (p : ByteArray), unitsF (some p) l = true → ∀ u ∈ l, lessB p u.name = true
  | [], _, _, u, hu => by simp at hu
  | v :: l, p, h, u, hu => by
    rw [unitsF, Bool.and_eq_true, Bool.and_eq_true] at h
    rcases List.mem_cons.1 hu with rfl | hu
    · exact h.1.2
    · exact less_trans _ _ _ h.1.2 (unitsF_asc l v.name h.2 u hu)
theorem unitsF_dist : ∀ (l : List Un) (p : Option ByteArray), unitsF p l = true → Dist l
  | [], _, _ => List.nodup_nil
  | v :: l, p, h => by
    rw [unitsF, Bool.and_eq_true, Bool.and_eq_true] at h
    rw [Dist, List.map_cons, List.nodup_cons]
    refine ⟨fun hm => ?_, unitsF_dist l _ h.2⟩
    obtain ⟨u, hu, e⟩ := List.mem_map.1 hm
    have := unitsF_asc l v.name h.2 u hu
    rw [e, lessB, less_irrefl] at this; cases this
theorem unitsF_good : ∀ (l : List Un) (p : Option ByteArray), unitsF p l = true → ∀ u ∈ l, u.good = true
  | [], _, _, u, hu => by simp at hu
  | v :: l, p, h, u, hu => by
    rw [unitsF, Bool.and_eq_true, Bool.and_eq_true] at h
    rcases List.mem_cons.1 hu with rfl | hu
    · exact h.1.1
    · exact unitsF_good l _ h.2 u hu
def libGood (l : List Un) : Bool := unitsF none l && decide (l.length ≤ 12) && decide ((ordL l).length = l.length)
set_option maxRecDepth 100000 in
set_option maxHeartbeats 6400000 in
theorem implLib_any {B : Nat → Prop} (l : List Un) (va : Value) (w : World) (h : UnsAt B w va l) (hw : l.length + wtU l ≤ 1048576) :
    Calls Tryz.prog 10 #[va] w fun e w' => e = .returned (.bool (libGood l)) ∧ Below w.heap.size w w' := by
  obtain ⟨p, c, rfl, hlen⟩ := h.form
  unfold maxLen at hlen
  have H := Lib.hid h
  have HG := Lib.hid (show libGood l = (unitsF none l && decide (l.length ≤ 12) && decide ((ordL l).length = l.length)) from rfl)
  have HZ := Lib.hid (fun u hu => Nat.le_trans (wtU_le l u hu) (show wtU l ≤ 1000000000000 by omega))
  clear h
  go_enter Tryz.func10, Tryz.ntmps10
  go_wp2
  go_loopw [9] (fun i wr => ∃ k : Nat, k ≤ l.length ∧ i = .int .i64 k ∧ unitsF none l = unitsF (prevU l k) (l.drop k) ∧ Below w.heap.size w wr) (fun i _ => l.length - (intOf i).toNat)
  case atStart => exact ⟨0, Nat.zero_le _, rfl, rfl, by (repeat (first | with_reducible exact Below.refl _ _ | with_reducible assumption | with_reducible refine Below.al ?_ _ | with_reducible refine Below.sc ?_ (by first | exact Nat.le_refl _ | (simp; done) | (simp; omega)) _ | assumption | exact Below.refl _ _ | refine Below.dr ?_ | refine Below.drN ?_ _ | refine Below.step ?_ (by assumption)))⟩
  case round =>
    obtain ⟨k, hk, rfl, he, hb⟩ := hrel
    have HE := Lib.hid he
    clear he
    by_cases hlt : k < l.length
    · obtain ⟨b, o, rfl, hB, p1, c1, p2, c2, hx0, hx1, hx2, hx3, hx⟩ := (H.out.below hb).at_ hlt
      have HD := Lib.hid (unitsF_drop hlt)
      have hza := HZ.out _ (List.getElem_mem hlt)
      have zb := bsz (World.block_lt_of_cell? _ _ hx0)
      by_cases hk0 : k = 0
      · subst hk0
        have HP := Lib.hid (show prevU l 0 = none from rfl)
        obtain ⟨a, ha⟩ : ∃ a, l[0] = a := ⟨_, rfl⟩
        rw [ha] at hx hx0 hx1 hx2 hx3 HD hza
        have HX := Lib.hid hx
        clear ha hx
        rw [Nat.zero_mul, Nat.add_zero] at hx0 hx1 hx2 hx3
        cases hg : a.good
        all_goals
          have HAG := Lib.hid (show ∀ (w : World), UnAt B w a [.string a.name, .slice p1 a.incs.length c1, .slice p2 a.axs.length c2, .string a.goal] → Calls Tryz.prog 34 #[.agg #[.string a.name, .slice p1 a.incs.length c1, .slice p2 a.axs.length c2, .string a.goal]] w fun e w' => e = .returned (.bool _) ∧ Below w.heap.size w w' from fun w hx => hg ▸ implUnit_any a _ _ _ _ w hx hza)
          have HGG := Lib.hid hg
          clear hg
          go_wp2
          obtain ⟨W, hW⟩ : ∃ W : World, W = wr.alloc (.cells #[.string a.name, .slice p1 a.incs.length c1, .slice p2 a.axs.length c2, .string a.goal] 34) := ⟨_, rfl⟩
          have hbW : Below wr.heap.size wr W := by rw [hW]; exact (Below.refl _ _).alloc (Nat.le_refl _) _
          have hbw := Below.step hb hbW
          have hc0 : W.cell? ⟨wr.heap.size, 0, none⟩ = some (.string a.name) := by rw [hW]; go_simp
          have hc1 : W.cell? ⟨wr.heap.size, 1, none⟩ = some (.slice p1 a.incs.length c1) := by rw [hW]; go_simp
          have hc2 : W.cell? ⟨wr.heap.size, 2, none⟩ = some (.slice p2 a.axs.length c2) := by rw [hW]; go_simp
          have hc3 : W.cell? ⟨wr.heap.size, 3, none⟩ = some (.string a.goal) := by rw [hW]; go_simp
          have hy0 := (hbW.cell zb.1).trans hx0
          rw [← hW]
          clear hW
          obtain ⟨C, HC0⟩ := class_of (InF W.heap.size _ [(⟨wr.heap.size, 0, none⟩, .string a.name), (⟨wr.heap.size, 1, none⟩, .slice p1 a.incs.length c1), (⟨wr.heap.size, 2, none⟩, .slice p2 a.axs.length c2), (⟨wr.heap.size, 3, none⟩, .string a.goal), (⟨b, o, none⟩, .string a.name)] [] [])
          have HC := Lib.hid HC0
          clear HC0
          refine wp_region_flow (C := C) (by kernel_rfl) (by kernel_rfl) (fun L hL => (HC.out _ _).2 (InF.start (by first | (intro _ hs; cases hs; done) | (simp only [List.forall_mem_cons]; go_simp)) (by first | (intro _ hs; cases hs; done) | (simp only [List.forall_mem_cons]; go_simp)) (by first | (intro _ hs; cases hs; done) | (simp only [List.forall_mem_cons]; go_simp)) (by first | (intro _ hs; cases hs; done) | (simp only [List.forall_mem_cons]; go_simp)) L hL)) ?_
          repeat (first | (apply flow_free rfl; (intro L w' hun hrd hC; have hC := (HC.out _ _).1 hC; have hb' := hC.below; (try have hw' : Below w.heap.size w w' := by first | exact Below.trans (by (repeat (first | with_reducible exact Below.refl _ _ | with_reducible assumption | with_reducible refine Below.al ?_ _ | with_reducible refine Below.sc ?_ (by first | exact Nat.le_refl _ | (simp; done) | (simp; omega)) _ | assumption | exact Below.refl _ _ | refine Below.dr ?_ | refine Below.drN ?_ _ | refine Below.step ?_ (by assumption)))) hb' | ((repeat (first | with_reducible exact Below.refl _ _ | with_reducible assumption | with_reducible refine Below.al ?_ _ | with_reducible refine Below.sc ?_ (by first | exact Nat.le_refl _ | (simp; done) | (simp; omega)) _ | assumption | exact Below.refl _ _ | refine Below.dr ?_ | refine Below.drN ?_ _ | refine Below.step ?_ (by assumption))); done)); have hf' := hC.cell; (try simp only [List.forall_mem_cons] at hf'); go_simp; first | exact ⟨(HC.out _ _).2 (hC.skip _ (by rfl)), rfl⟩ | (rw [if_neg]; (exact ⟨(HC.out _ _).2 (hC.skip _ (by rfl)), rfl⟩); omega) | (go_at_call 34; refine (HAG.out _ (HX.out.below (Below.step hbW hb'))).mono ?_; rintro e w1 ⟨rfl, hb1⟩; exact ⟨rfl, (HC.out _ _).2 ((hC.next (by first | (simp; done) | (simp; omega) | omega) hb1).skip _ (by rfl))⟩)); go_simp) | (apply flow_yes; (case hw => go_simp); (intro L w' hun hrd hC; have hC := (HC.out _ _).1 hC; have hb' := hC.below; (try have hw' : Below w.heap.size w w' := by first | exact Below.trans (by (repeat (first | with_reducible exact Below.refl _ _ | with_reducible assumption | with_reducible refine Below.al ?_ _ | with_reducible refine Below.sc ?_ (by first | exact Nat.le_refl _ | (simp; done) | (simp; omega)) _ | assumption | exact Below.refl _ _ | refine Below.dr ?_ | refine Below.drN ?_ _ | refine Below.step ?_ (by assumption)))) hb' | ((repeat (first | with_reducible exact Below.refl _ _ | with_reducible assumption | with_reducible refine Below.al ?_ _ | with_reducible refine Below.sc ?_ (by first | exact Nat.le_refl _ | (simp; done) | (simp; omega)) _ | assumption | exact Below.refl _ _ | refine Below.dr ?_ | refine Below.drN ?_ _ | refine Below.step ?_ (by assumption))); done)); have hf' := hC.cell; (try simp only [List.forall_mem_cons] at hf'); go_simp; first | exact ⟨(HC.out _ _).2 (hC.skip _ (by rfl)), rfl⟩ | (rw [if_neg]; (exact ⟨(HC.out _ _).2 (hC.skip _ (by rfl)), rfl⟩); omega) | (go_at_call 34; refine (HAG.out _ (HX.out.below (Below.step hbW hb'))).mono ?_; rintro e w1 ⟨rfl, hb1⟩; exact ⟨rfl, (HC.out _ _).2 ((hC.next (by first | (simp; done) | (simp; omega) | omega) hb1).skip _ (by rfl))⟩)); go_simp) | (apply flow_no; (case hw => (go_simp; try (intro hh; cases hh))); (intro L w' _ _ hC; exact (HC.out _ _).2 (((HC.out _ _).1 hC).skip _ (by rfl))); go_simp))
          refine flow_nil ?_
          intro L wz hL hz
          have hz := (HC.out _ _).1 hz
          have hbz := hz.below
          have hcz := hz.cell
          try simp only [List.forall_mem_cons] at hcz
          have hdz := hz.done
          try simp only [List.forall_mem_cons] at hdz
          (try have hwz : Below w.heap.size w wz := by first | exact Below.trans (by (repeat (first | with_reducible exact Below.refl _ _ | with_reducible assumption | with_reducible refine Below.al ?_ _ | with_reducible refine Below.sc ?_ (by first | exact Nat.le_refl _ | (simp; done) | (simp; omega)) _ | assumption | exact Below.refl _ _ | refine Below.dr ?_ | refine Below.drN ?_ _ | refine Below.step ?_ (by assumption)))) hbz | ((repeat (first | with_reducible exact Below.refl _ _ | with_reducible assumption | with_reducible refine Below.al ?_ _ | with_reducible refine Below.sc ?_ (by first | exact Nat.le_refl _ | (simp; done) | (simp; omega)) _ | assumption | exact Below.refl _ _ | refine Below.dr ?_ | refine Below.drN ?_ _ | refine Below.step ?_ (by assumption))); done))
          go_wp2
        · go_ret
          exact ⟨ret_bool (by rw [HG.out, HE.out, HD.out, HGG.out]; rfl), by (repeat (first | with_reducible exact Below.refl _ _ | with_reducible assumption | with_reducible refine Below.al ?_ _ | with_reducible refine Below.sc ?_ (by first | exact Nat.le_refl _ | (simp; done) | (simp; omega)) _ | assumption | exact Below.refl _ _ | refine Below.dr ?_ | refine Below.drN ?_ _ | refine Below.step ?_ (by assumption)))⟩
        · refine ⟨⟨1, by omega, by go_num, ?_, Below.step hbw hbz⟩, by simp [intOf]; omega⟩
          rw [HE.out, HD.out, HGG.out, HP.out]; rfl
      · have hk1 : k - 1 < l.length := by omega
        obtain ⟨b', o', hq, hB', r1, d1, r2, d2, hz0, -, -, -, -⟩ := (H.out.below hb).at_ hk1
        simp only [Option.some.injEq, Addr.mk.injEq, and_true] at hq
        obtain ⟨rfl, rfl⟩ := hq
        have HP := Lib.hid (prevU_pos hlt (by omega))
        obtain ⟨a, ha⟩ : ∃ a, l[k] = a := ⟨_, rfl⟩
        obtain ⟨q, hqe⟩ : ∃ q, l[k - 1] = q := ⟨_, rfl⟩
        rw [ha] at hx hx0 hx1 hx2 hx3 HD hza
        rw [hqe] at hz0 HP
        have HX := Lib.hid hx
        clear ha hqe hx
        have hki : IntKind.i64.wrap ((k : Int) - 1) = ((k - 1 : Nat) : Int) := by rw [IntWalk.i64_in _ (by omega)]; omega
        have hkp : (0 : Int) < (k : Int) := by omega
        have hkn : 0 < k := by omega
        have hkj : ((k - 1 : Nat) : Int) < l.length := by omega
        have HL0 := Lib.hid (show lessB q.name a.name = !(Op.bytesLess a.name.toList q.name.toList || a.name.toList == q.name.toList) by rw [lessB, less_total, ByteArray.toList_eq, ByteArray.toList_eq])
        cases hg : a.good <;> cases hA : Op.bytesLess a.name.toList q.name.toList <;> cases hQ : (a.name.toList == q.name.toList)
        all_goals
          have HAG := Lib.hid (show ∀ (w : World), UnAt B w a [.string a.name, .slice p1 a.incs.length c1, .slice p2 a.axs.length c2, .string a.goal] → Calls Tryz.prog 34 #[.agg #[.string a.name, .slice p1 a.incs.length c1, .slice p2 a.axs.length c2, .string a.goal]] w fun e w' => e = .returned (.bool _) ∧ Below w.heap.size w w' from fun w hx => hg ▸ implUnit_any a _ _ _ _ w hx hza)
          have HGG := Lib.hid hg
          have HLS := Lib.hid (HL0.out.trans (by rw [hA, hQ]))
          clear hg
          go_wp2
          obtain ⟨W, hW⟩ : ∃ W : World, W = wr.alloc (.cells #[.string a.name, .slice p1 a.incs.length c1, .slice p2 a.axs.length c2, .string a.goal] 34) := ⟨_, rfl⟩
          have hbW : Below wr.heap.size wr W := by rw [hW]; exact (Below.refl _ _).alloc (Nat.le_refl _) _
          have hbw := Below.step hb hbW
          have hc0 : W.cell? ⟨wr.heap.size, 0, none⟩ = some (.string a.name) := by rw [hW]; go_simp
          have hc1 : W.cell? ⟨wr.heap.size, 1, none⟩ = some (.slice p1 a.incs.length c1) := by rw [hW]; go_simp
          have hc2 : W.cell? ⟨wr.heap.size, 2, none⟩ = some (.slice p2 a.axs.length c2) := by rw [hW]; go_simp
          have hc3 : W.cell? ⟨wr.heap.size, 3, none⟩ = some (.string a.goal) := by rw [hW]; go_simp
          have hy0 := (hbW.cell zb.1).trans hx0
          have hz1 := (hbW.cell zb.1).trans hz0
          rw [← hW]
          clear hW
          obtain ⟨C, HC0⟩ := class_of (InF W.heap.size _ [(⟨wr.heap.size, 0, none⟩, .string a.name), (⟨wr.heap.size, 1, none⟩, .slice p1 a.incs.length c1), (⟨wr.heap.size, 2, none⟩, .slice p2 a.axs.length c2), (⟨wr.heap.size, 3, none⟩, .string a.goal), (⟨b, o + k * 4, none⟩, .string a.name), (⟨b, o + (k - 1) * 4, none⟩, .string q.name)] [] [])
          have HC := Lib.hid HC0
          clear HC0
          refine wp_region_flow (C := C) (by kernel_rfl) (by kernel_rfl) (fun L hL => (HC.out _ _).2 (InF.start (by first | (intro _ hs; cases hs; done) | (simp only [List.forall_mem_cons]; go_simp)) (by first | (intro _ hs; cases hs; done) | (simp only [List.forall_mem_cons]; go_simp)) (by first | (intro _ hs; cases hs; done) | (simp only [List.forall_mem_cons]; go_simp)) (by first | (intro _ hs; cases hs; done) | (simp only [List.forall_mem_cons]; go_simp)) L hL)) ?_
          repeat (first | (apply flow_free rfl; (intro L w' hun hrd hC; have hC := (HC.out _ _).1 hC; have hb' := hC.below; (try have hw' : Below w.heap.size w w' := by first | exact Below.trans (by (repeat (first | with_reducible exact Below.refl _ _ | with_reducible assumption | with_reducible refine Below.al ?_ _ | with_reducible refine Below.sc ?_ (by first | exact Nat.le_refl _ | (simp; done) | (simp; omega)) _ | assumption | exact Below.refl _ _ | refine Below.dr ?_ | refine Below.drN ?_ _ | refine Below.step ?_ (by assumption)))) hb' | ((repeat (first | with_reducible exact Below.refl _ _ | with_reducible assumption | with_reducible refine Below.al ?_ _ | with_reducible refine Below.sc ?_ (by first | exact Nat.le_refl _ | (simp; done) | (simp; omega)) _ | assumption | exact Below.refl _ _ | refine Below.dr ?_ | refine Below.drN ?_ _ | refine Below.step ?_ (by assumption))); done)); have hf' := hC.cell; (try simp only [List.forall_mem_cons] at hf'); go_simp; first | exact ⟨(HC.out _ _).2 (hC.skip _ (by rfl)), rfl⟩ | (rw [if_neg]; (exact ⟨(HC.out _ _).2 (hC.skip _ (by rfl)), rfl⟩); omega) | (go_at_call 34; refine (HAG.out _ (HX.out.below (Below.step hbW hb'))).mono ?_; rintro e w1 ⟨rfl, hb1⟩; exact ⟨rfl, (HC.out _ _).2 ((hC.next (by first | (simp; done) | (simp; omega) | omega) hb1).skip _ (by rfl))⟩)); go_simp) | (apply flow_yes; (case hw => go_simp); (intro L w' hun hrd hC; have hC := (HC.out _ _).1 hC; have hb' := hC.below; (try have hw' : Below w.heap.size w w' := by first | exact Below.trans (by (repeat (first | with_reducible exact Below.refl _ _ | with_reducible assumption | with_reducible refine Below.al ?_ _ | with_reducible refine Below.sc ?_ (by first | exact Nat.le_refl _ | (simp; done) | (simp; omega)) _ | assumption | exact Below.refl _ _ | refine Below.dr ?_ | refine Below.drN ?_ _ | refine Below.step ?_ (by assumption)))) hb' | ((repeat (first | with_reducible exact Below.refl _ _ | with_reducible assumption | with_reducible refine Below.al ?_ _ | with_reducible refine Below.sc ?_ (by first | exact Nat.le_refl _ | (simp; done) | (simp; omega)) _ | assumption | exact Below.refl _ _ | refine Below.dr ?_ | refine Below.drN ?_ _ | refine Below.step ?_ (by assumption))); done)); have hf' := hC.cell; (try simp only [List.forall_mem_cons] at hf'); go_simp; first | exact ⟨(HC.out _ _).2 (hC.skip _ (by rfl)), rfl⟩ | (rw [if_neg]; (exact ⟨(HC.out _ _).2 (hC.skip _ (by rfl)), rfl⟩); omega) | (go_at_call 34; refine (HAG.out _ (HX.out.below (Below.step hbW hb'))).mono ?_; rintro e w1 ⟨rfl, hb1⟩; exact ⟨rfl, (HC.out _ _).2 ((hC.next (by first | (simp; done) | (simp; omega) | omega) hb1).skip _ (by rfl))⟩)); go_simp) | (apply flow_no; (case hw => (go_simp; try (intro hh; cases hh))); (intro L w' _ _ hC; exact (HC.out _ _).2 (((HC.out _ _).1 hC).skip _ (by rfl))); go_simp))
          refine flow_nil ?_
          intro L wz hL hz
          have hz := (HC.out _ _).1 hz
          have hbz := hz.below
          have hcz := hz.cell
          try simp only [List.forall_mem_cons] at hcz
          have hdz := hz.done
          try simp only [List.forall_mem_cons] at hdz
          (try have hwz : Below w.heap.size w wz := by first | exact Below.trans (by (repeat (first | with_reducible exact Below.refl _ _ | with_reducible assumption | with_reducible refine Below.al ?_ _ | with_reducible refine Below.sc ?_ (by first | exact Nat.le_refl _ | (simp; done) | (simp; omega)) _ | assumption | exact Below.refl _ _ | refine Below.dr ?_ | refine Below.drN ?_ _ | refine Below.step ?_ (by assumption)))) hbz | ((repeat (first | with_reducible exact Below.refl _ _ | with_reducible assumption | with_reducible refine Below.al ?_ _ | with_reducible refine Below.sc ?_ (by first | exact Nat.le_refl _ | (simp; done) | (simp; omega)) _ | assumption | exact Below.refl _ _ | refine Below.dr ?_ | refine Below.drN ?_ _ | refine Below.step ?_ (by assumption))); done))
          go_wp2
        all_goals first
          | (refine ⟨⟨k + 1, by omega, by go_num, ?_, Below.step hbw hbz⟩, by simp [intOf]; omega⟩; rw [HE.out, HD.out, HGG.out, HP.out, ascS, HLS.out]; rfl)
          | (go_ret; exact ⟨ret_bool (by rw [HG.out, HE.out, HD.out, HGG.out, HP.out, ascS, HLS.out]; rfl), by (repeat (first | with_reducible exact Below.refl _ _ | with_reducible assumption | with_reducible refine Below.al ?_ _ | with_reducible refine Below.sc ?_ (by first | exact Nat.le_refl _ | (simp; done) | (simp; omega)) _ | assumption | exact Below.refl _ _ | refine Below.dr ?_ | refine Below.drN ?_ _ | refine Below.step ?_ (by assumption)))⟩)
    · obtain rfl : k = l.length := by omega
      rw [List.drop_length] at HE
      have HU := Lib.hid (show unitsF none l = true from HE.out)
      have HOA := Lib.hid (fun w' => order_any (B := B) l (.slice p l.length c) w' )
      go_wp2_with fail
      refine (HOA.out _ (H.out.below (by (repeat (first | with_reducible exact Below.refl _ _ | with_reducible assumption | with_reducible refine Below.al ?_ _ | with_reducible refine Below.sc ?_ (by first | exact Nat.le_refl _ | (simp; done) | (simp; omega)) _ | assumption | exact Below.refl _ _ | refine Below.dr ?_ | refine Below.drN ?_ _ | refine Below.step ?_ (by assumption))))) (by omega)).mono ?_
      rintro e w1 ⟨hb1, hp⟩
      by_cases hle : (ordL l).length = l.length
      · rw [if_pos hle] at hp
        obtain ⟨v, rfl, hv⟩ := hp
        obtain ⟨pv, cv, rfl, -⟩ := OwnRow.form hv
        clear hv
        have HG2 := Lib.hid (show libGood l = decide (l.length ≤ 12) by rw [HG.out, HU.out, decide_eq_true hle]; simp)
        have h12 : ((l.length : Int) ≤ 12) = (l.length ≤ 12) := by apply propext; omega
        go_wp2
        go_ret
        exact ⟨ret_bool (by rw [HG2.out]), by (repeat (first | with_reducible exact Below.refl _ _ | with_reducible assumption | with_reducible refine Below.al ?_ _ | with_reducible refine Below.sc ?_ (by first | exact Nat.le_refl _ | (simp; done) | (simp; omega)) _ | assumption | exact Below.refl _ _ | refine Below.dr ?_ | refine Below.drN ?_ _ | refine Below.step ?_ (by assumption)))⟩
      · rw [if_neg hle] at hp
        subst hp
        have HG2 := Lib.hid (show libGood l = false by rw [HG.out, HU.out, decide_eq_false hle]; simp)
        go_wp2
        go_ret
        exact ⟨ret_bool (by rw [HG2.out]), by (repeat (first | with_reducible exact Below.refl _ _ | with_reducible assumption | with_reducible refine Below.al ?_ _ | with_reducible refine Below.sc ?_ (by first | exact Nat.le_refl _ | (simp; done) | (simp; omega)) _ | assumption | exact Below.refl _ _ | refine Below.dr ?_ | refine Below.drN ?_ _ | refine Below.step ?_ (by assumption)))⟩
end Go.Proofs.YtkgfanajgdelcaaGreatDoor
namespace Go.Proofs.YtkgfanajgdelcaaGreatDoor
open Go.RowKit
theorem good_name {u : Un} (h : u.good = true) : (u.name.toList == []) = false := by
  unfold Un.good at h
  simp only [Bool.and_eq_true] at h
  have h1 := h.1.1.1.1.1
  rw [ByteArray.toList_eq]
  cases he : u.name.data.toList with
  | nil => rw [he] at h1; simp [symB] at h1
  | cons a l => rfl
theorem libGood_eq (l : List Un) : libGood l = (decide (l.length ≤ 12) && (unitsF none l && decide ((ordL l).length = l.length))) := by
  rw [libGood]; cases unitsF none l <;> cases decide (l.length ≤ 12) <;> cases decide ((ordL l).length = l.length) <;> rfl
set_option maxRecDepth 100000 in
set_option maxHeartbeats 6400000 in
theorem specLib_any {B : Nat → Prop} (l : List Un) (va : Value) (w : World) (h : UnsAt B w va l) (hw : l.length + wtU l ≤ 1048576) :
    Calls Tryz.prog 32 #[va] w fun e w' => e = .returned (.bool (libGood l)) ∧ Below w.heap.size w w' := by
  obtain ⟨p, c, rfl, hlen⟩ := h.form
  unfold maxLen at hlen
  have H := Lib.hid h
  have HG := Lib.hid (libGood_eq l)
  have HZ := Lib.hid (fun u hu => Nat.le_trans (wtU_le l u hu) (show wtU l ≤ 1000000000000 by omega))
  clear h
  by_cases h12 : l.length ≤ 12
  case neg =>
    go_enter Tryz.func32, Tryz.ntmps32
    have hj : (12 : Int) < l.length := by omega
    go_wp2
    go_ret
    exact ⟨ret_bool (by rw [HG.out, decide_eq_false h12]; rfl), by (repeat (first | with_reducible exact Below.refl _ _ | with_reducible assumption | with_reducible refine Below.al ?_ _ | with_reducible refine Below.sc ?_ (by first | exact Nat.le_refl _ | (simp; done) | (simp; omega)) _ | assumption | exact Below.refl _ _ | refine Below.dr ?_ | refine Below.drN ?_ _ | refine Below.step ?_ (by assumption)))⟩
  have hj : ¬ (12 : Int) < l.length := by omega
  have HG2 := Lib.hid (show libGood l = (unitsF none l && decide ((ordL l).length = l.length)) by rw [HG.out, decide_eq_true h12, Bool.true_and])
  go_enter Tryz.func32, Tryz.ntmps32
  go_wp2
  go_loopw [3] (fun i wr => ∃ k : Nat, k ≤ l.length ∧ i = .int .i64 k ∧ unitsF none l = unitsF (prevU l k) (l.drop k) ∧ Below w.heap.size w wr) (fun i _ => l.length - (intOf i).toNat)
  case atStart => exact ⟨0, Nat.zero_le _, rfl, rfl, by (repeat (first | with_reducible exact Below.refl _ _ | with_reducible assumption | with_reducible refine Below.al ?_ _ | with_reducible refine Below.sc ?_ (by first | exact Nat.le_refl _ | (simp; done) | (simp; omega)) _ | assumption | exact Below.refl _ _ | refine Below.dr ?_ | refine Below.drN ?_ _ | refine Below.step ?_ (by assumption)))⟩
  case round =>
    obtain ⟨k, hk, rfl, he, hb⟩ := hrel
    have HE := Lib.hid he
    clear he
    by_cases hlt : k < l.length
    · obtain ⟨b, o, rfl, hB, p1, c1, p2, c2, hx0, hx1, hx2, hx3, hx⟩ := (H.out.below hb).at_ hlt
      have HD := Lib.hid (unitsF_drop hlt)
      have hza := HZ.out _ (List.getElem_mem hlt)
      have zb := bsz (World.block_lt_of_cell? _ _ hx0)
      by_cases hk0 : k = 0
      · subst hk0
        have HP := Lib.hid (show prevU l 0 = none from rfl)
        obtain ⟨a, ha⟩ : ∃ a, l[0] = a := ⟨_, rfl⟩
        rw [ha] at hx hx0 hx1 hx2 hx3 HD hza
        have HX := Lib.hid hx
        clear ha hx
        rw [Nat.zero_mul, Nat.add_zero] at hx0 hx1 hx2 hx3
        cases hg : a.good
        all_goals
          have HAG := Lib.hid (show ∀ (w : World), UnAt B w a [.string a.name, .slice p1 a.incs.length c1, .slice p2 a.axs.length c2, .string a.goal] → Calls Tryz.prog 62 #[.agg #[.string a.name, .slice p1 a.incs.length c1, .slice p2 a.axs.length c2, .string a.goal]] w fun e w' => e = .returned (.bool _) ∧ Below w.heap.size w w' from fun w hx => hg ▸ l27Unit_any a _ _ _ _ w hx hza)
          have HGG := Lib.hid hg
          clear hg
          go_wp2
          obtain ⟨C, HC0⟩ := class_of (InF wr.heap.size _ [(⟨b, o, none⟩, .string a.name), (⟨b, o + 1, none⟩, .slice p1 a.incs.length c1), (⟨b, o + 2, none⟩, .slice p2 a.axs.length c2), (⟨b, o + 3, none⟩, .string a.goal)] [] [])
          have HC := Lib.hid HC0
          clear HC0
          refine wp_region_flow (C := C) (by kernel_rfl) (by kernel_rfl) (fun L hL => (HC.out _ _).2 (InF.start (by first | (intro _ hs; cases hs; done) | (simp only [List.forall_mem_cons]; go_simp)) (by first | (intro _ hs; cases hs; done) | (simp only [List.forall_mem_cons]; go_simp)) (by first | (intro _ hs; cases hs; done) | (simp only [List.forall_mem_cons]; go_simp)) (by first | (intro _ hs; cases hs; done) | (simp only [List.forall_mem_cons]; go_simp)) L hL)) ?_
          repeat (first | (apply flow_free rfl; (intro L w' hun hrd hC; have hC := (HC.out _ _).1 hC; have hb' := hC.below; (try have hw' : Below w.heap.size w w' := by first | exact Below.trans (by (repeat (first | with_reducible exact Below.refl _ _ | with_reducible assumption | with_reducible refine Below.al ?_ _ | with_reducible refine Below.sc ?_ (by first | exact Nat.le_refl _ | (simp; done) | (simp; omega)) _ | assumption | exact Below.refl _ _ | refine Below.dr ?_ | refine Below.drN ?_ _ | refine Below.step ?_ (by assumption)))) hb' | ((repeat (first | with_reducible exact Below.refl _ _ | with_reducible assumption | with_reducible refine Below.al ?_ _ | with_reducible refine Below.sc ?_ (by first | exact Nat.le_refl _ | (simp; done) | (simp; omega)) _ | assumption | exact Below.refl _ _ | refine Below.dr ?_ | refine Below.drN ?_ _ | refine Below.step ?_ (by assumption))); done)); have hf' := hC.cell; (try simp only [List.forall_mem_cons] at hf'); go_simp; first | exact ⟨(HC.out _ _).2 (hC.skip _ (by rfl)), rfl⟩ | (rw [if_neg]; (exact ⟨(HC.out _ _).2 (hC.skip _ (by rfl)), rfl⟩); omega) | (go_at_call 62; refine (HAG.out _ (HX.out.below hb')).mono ?_; rintro e w1 ⟨rfl, hb1⟩; exact ⟨rfl, (HC.out _ _).2 ((hC.next (by first | (simp; done) | (simp; omega) | omega) hb1).skip _ (by rfl))⟩)); go_simp) | (apply flow_yes; (case hw => go_simp); (intro L w' hun hrd hC; have hC := (HC.out _ _).1 hC; have hb' := hC.below; (try have hw' : Below w.heap.size w w' := by first | exact Below.trans (by (repeat (first | with_reducible exact Below.refl _ _ | with_reducible assumption | with_reducible refine Below.al ?_ _ | with_reducible refine Below.sc ?_ (by first | exact Nat.le_refl _ | (simp; done) | (simp; omega)) _ | assumption | exact Below.refl _ _ | refine Below.dr ?_ | refine Below.drN ?_ _ | refine Below.step ?_ (by assumption)))) hb' | ((repeat (first | with_reducible exact Below.refl _ _ | with_reducible assumption | with_reducible refine Below.al ?_ _ | with_reducible refine Below.sc ?_ (by first | exact Nat.le_refl _ | (simp; done) | (simp; omega)) _ | assumption | exact Below.refl _ _ | refine Below.dr ?_ | refine Below.drN ?_ _ | refine Below.step ?_ (by assumption))); done)); have hf' := hC.cell; (try simp only [List.forall_mem_cons] at hf'); go_simp; first | exact ⟨(HC.out _ _).2 (hC.skip _ (by rfl)), rfl⟩ | (rw [if_neg]; (exact ⟨(HC.out _ _).2 (hC.skip _ (by rfl)), rfl⟩); omega) | (go_at_call 62; refine (HAG.out _ (HX.out.below hb')).mono ?_; rintro e w1 ⟨rfl, hb1⟩; exact ⟨rfl, (HC.out _ _).2 ((hC.next (by first | (simp; done) | (simp; omega) | omega) hb1).skip _ (by rfl))⟩)); go_simp) | (apply flow_no; (case hw => (go_simp; try (intro hh; cases hh))); (intro L w' _ _ hC; exact (HC.out _ _).2 (((HC.out _ _).1 hC).skip _ (by rfl))); go_simp))
          refine flow_nil ?_
          intro L wz hL hz
          have hz := (HC.out _ _).1 hz
          have hbz := hz.below
          have hcz := hz.cell
          try simp only [List.forall_mem_cons] at hcz
          have hdz := hz.done
          try simp only [List.forall_mem_cons] at hdz
          (try have hwz : Below w.heap.size w wz := by first | exact Below.trans (by (repeat (first | with_reducible exact Below.refl _ _ | with_reducible assumption | with_reducible refine Below.al ?_ _ | with_reducible refine Below.sc ?_ (by first | exact Nat.le_refl _ | (simp; done) | (simp; omega)) _ | assumption | exact Below.refl _ _ | refine Below.dr ?_ | refine Below.drN ?_ _ | refine Below.step ?_ (by assumption)))) hbz | ((repeat (first | with_reducible exact Below.refl _ _ | with_reducible assumption | with_reducible refine Below.al ?_ _ | with_reducible refine Below.sc ?_ (by first | exact Nat.le_refl _ | (simp; done) | (simp; omega)) _ | assumption | exact Below.refl _ _ | refine Below.dr ?_ | refine Below.drN ?_ _ | refine Below.step ?_ (by assumption))); done))
          go_wp2
        · go_ret
          exact ⟨ret_bool (by rw [HG2.out, HE.out, HD.out, HGG.out]; rfl), by (repeat (first | with_reducible exact Below.refl _ _ | with_reducible assumption | with_reducible refine Below.al ?_ _ | with_reducible refine Below.sc ?_ (by first | exact Nat.le_refl _ | (simp; done) | (simp; omega)) _ | assumption | exact Below.refl _ _ | refine Below.dr ?_ | refine Below.drN ?_ _ | refine Below.step ?_ (by assumption)))⟩
        · refine ⟨⟨1, by omega, by go_num, ?_, Below.step hb hbz⟩, by simp [intOf]; omega⟩
          rw [HE.out, HD.out, HGG.out, HP.out]; rfl
      · have hk1 : k - 1 < l.length := by omega
        obtain ⟨b', o', hq, hB', r1, d1, r2, d2, hz0, -, -, -, -⟩ := (H.out.below hb).at_ hk1
        simp only [Option.some.injEq, Addr.mk.injEq, and_true] at hq
        obtain ⟨rfl, rfl⟩ := hq
        have HP := Lib.hid (prevU_pos hlt (by omega))
        obtain ⟨a, ha⟩ : ∃ a, l[k] = a := ⟨_, rfl⟩
        obtain ⟨q, hqe⟩ : ∃ q, l[k - 1] = q := ⟨_, rfl⟩
        rw [ha] at hx hx0 hx1 hx2 hx3 HD hza
        rw [hqe] at hz0 HP
        have HX := Lib.hid hx
        clear ha hqe hx
        have hki : IntKind.i64.wrap ((k : Int) - 1) = ((k - 1 : Nat) : Int) := by rw [IntWalk.i64_in _ (by omega)]; omega
        have hkp : (0 : Int) < (k : Int) := by omega
        have hkn : 0 < k := by omega
        have hkj : ((k - 1 : Nat) : Int) < l.length := by omega
        have HL0 := Lib.hid (show lessB q.name a.name = Op.bytesLess q.name.toList a.name.toList by rw [lessB, ByteArray.toList_eq, ByteArray.toList_eq])
        cases hg : a.good <;> cases hA : Op.bytesLess q.name.toList a.name.toList
        all_goals
          have HAG := Lib.hid (show ∀ (w : World), UnAt B w a [.string a.name, .slice p1 a.incs.length c1, .slice p2 a.axs.length c2, .string a.goal] → Calls Tryz.prog 62 #[.agg #[.string a.name, .slice p1 a.incs.length c1, .slice p2 a.axs.length c2, .string a.goal]] w fun e w' => e = .returned (.bool _) ∧ Below w.heap.size w w' from fun w hx => hg ▸ l27Unit_any a _ _ _ _ w hx hza)
          have HGG := Lib.hid hg
          have HLS := Lib.hid (HL0.out.trans hA)
          clear hg
          go_wp2
          obtain ⟨C, HC0⟩ := class_of (InF wr.heap.size _ [(⟨b, o + k * 4, none⟩, .string a.name), (⟨b, o + k * 4 + 1, none⟩, .slice p1 a.incs.length c1), (⟨b, o + k * 4 + 2, none⟩, .slice p2 a.axs.length c2), (⟨b, o + k * 4 + 3, none⟩, .string a.goal), (⟨b, o + (k - 1) * 4, none⟩, .string q.name)] [] [])
          have HC := Lib.hid HC0
          clear HC0
          refine wp_region_flow (C := C) (by kernel_rfl) (by kernel_rfl) (fun L hL => (HC.out _ _).2 (InF.start (by first | (intro _ hs; cases hs; done) | (simp only [List.forall_mem_cons]; go_simp)) (by first | (intro _ hs; cases hs; done) | (simp only [List.forall_mem_cons]; go_simp)) (by first | (intro _ hs; cases hs; done) | (simp only [List.forall_mem_cons]; go_simp)) (by first | (intro _ hs; cases hs; done) | (simp only [List.forall_mem_cons]; go_simp)) L hL)) ?_
          repeat (first | (apply flow_free rfl; (intro L w' hun hrd hC; have hC := (HC.out _ _).1 hC; have hb' := hC.below; (try have hw' : Below w.heap.size w w' := by first | exact Below.trans (by (repeat (first | with_reducible exact Below.refl _ _ | with_reducible assumption | with_reducible refine Below.al ?_ _ | with_reducible refine Below.sc ?_ (by first | exact Nat.le_refl _ | (simp; done) | (simp; omega)) _ | assumption | exact Below.refl _ _ | refine Below.dr ?_ | refine Below.drN ?_ _ | refine Below.step ?_ (by assumption)))) hb' | ((repeat (first | with_reducible exact Below.refl _ _ | with_reducible assumption | with_reducible refine Below.al ?_ _ | with_reducible refine Below.sc ?_ (by first | exact Nat.le_refl _ | (simp; done) | (simp; omega)) _ | assumption | exact Below.refl _ _ | refine Below.dr ?_ | refine Below.drN ?_ _ | refine Below.step ?_ (by assumption))); done)); have hf' := hC.cell; (try simp only [List.forall_mem_cons] at hf'); go_simp; first | exact ⟨(HC.out _ _).2 (hC.skip _ (by rfl)), rfl⟩ | (rw [if_neg]; (exact ⟨(HC.out _ _).2 (hC.skip _ (by rfl)), rfl⟩); omega) | (go_at_call 62; refine (HAG.out _ (HX.out.below hb')).mono ?_; rintro e w1 ⟨rfl, hb1⟩; exact ⟨rfl, (HC.out _ _).2 ((hC.next (by first | (simp; done) | (simp; omega) | omega) hb1).skip _ (by rfl))⟩)); go_simp) | (apply flow_yes; (case hw => go_simp); (intro L w' hun hrd hC; have hC := (HC.out _ _).1 hC; have hb' := hC.below; (try have hw' : Below w.heap.size w w' := by first | exact Below.trans (by (repeat (first | with_reducible exact Below.refl _ _ | with_reducible assumption | with_reducible refine Below.al ?_ _ | with_reducible refine Below.sc ?_ (by first | exact Nat.le_refl _ | (simp; done) | (simp; omega)) _ | assumption | exact Below.refl _ _ | refine Below.dr ?_ | refine Below.drN ?_ _ | refine Below.step ?_ (by assumption)))) hb' | ((repeat (first | with_reducible exact Below.refl _ _ | with_reducible assumption | with_reducible refine Below.al ?_ _ | with_reducible refine Below.sc ?_ (by first | exact Nat.le_refl _ | (simp; done) | (simp; omega)) _ | assumption | exact Below.refl _ _ | refine Below.dr ?_ | refine Below.drN ?_ _ | refine Below.step ?_ (by assumption))); done)); have hf' := hC.cell; (try simp only [List.forall_mem_cons] at hf'); go_simp; first | exact ⟨(HC.out _ _).2 (hC.skip _ (by rfl)), rfl⟩ | (rw [if_neg]; (exact ⟨(HC.out _ _).2 (hC.skip _ (by rfl)), rfl⟩); omega) | (go_at_call 62; refine (HAG.out _ (HX.out.below hb')).mono ?_; rintro e w1 ⟨rfl, hb1⟩; exact ⟨rfl, (HC.out _ _).2 ((hC.next (by first | (simp; done) | (simp; omega) | omega) hb1).skip _ (by rfl))⟩)); go_simp) | (apply flow_no; (case hw => (go_simp; try (intro hh; cases hh))); (intro L w' _ _ hC; exact (HC.out _ _).2 (((HC.out _ _).1 hC).skip _ (by rfl))); go_simp))
          refine flow_nil ?_
          intro L wz hL hz
          have hz := (HC.out _ _).1 hz
          have hbz := hz.below
          have hcz := hz.cell
          try simp only [List.forall_mem_cons] at hcz
          have hdz := hz.done
          try simp only [List.forall_mem_cons] at hdz
          (try have hwz : Below w.heap.size w wz := by first | exact Below.trans (by (repeat (first | with_reducible exact Below.refl _ _ | with_reducible assumption | with_reducible refine Below.al ?_ _ | with_reducible refine Below.sc ?_ (by first | exact Nat.le_refl _ | (simp; done) | (simp; omega)) _ | assumption | exact Below.refl _ _ | refine Below.dr ?_ | refine Below.drN ?_ _ | refine Below.step ?_ (by assumption)))) hbz | ((repeat (first | with_reducible exact Below.refl _ _ | with_reducible assumption | with_reducible refine Below.al ?_ _ | with_reducible refine Below.sc ?_ (by first | exact Nat.le_refl _ | (simp; done) | (simp; omega)) _ | assumption | exact Below.refl _ _ | refine Below.dr ?_ | refine Below.drN ?_ _ | refine Below.step ?_ (by assumption))); done))
          go_wp2
        all_goals first
          | (refine ⟨⟨k + 1, by omega, by go_num, ?_, Below.step hb hbz⟩, by simp [intOf]; omega⟩; rw [HE.out, HD.out, HGG.out, HP.out, ascS, HLS.out]; rfl)
          | (go_ret; exact ⟨ret_bool (by rw [HG2.out, HE.out, HD.out, HGG.out, HP.out, ascS, HLS.out]; rfl), by (repeat (first | with_reducible exact Below.refl _ _ | with_reducible assumption | with_reducible refine Below.al ?_ _ | with_reducible refine Below.sc ?_ (by first | exact Nat.le_refl _ | (simp; done) | (simp; omega)) _ | assumption | exact Below.refl _ _ | refine Below.dr ?_ | refine Below.drN ?_ _ | refine Below.step ?_ (by assumption)))⟩)
    · obtain rfl : k = l.length := by omega
      rw [List.drop_length] at HE
      have HU := Lib.hid (show unitsF none l = true from HE.out)
      have HOA := Lib.hid (fun w' hat => l27Order_any (B := B) l (.slice p l.length c) w' hat (by omega) (fun u hu => good_name (unitsF_good l none HU.out u hu)))
      go_wp2_with fail
      refine (HOA.out _ (H.out.below (by (repeat (first | with_reducible exact Below.refl _ _ | with_reducible assumption | with_reducible refine Below.al ?_ _ | with_reducible refine Below.sc ?_ (by first | exact Nat.le_refl _ | (simp; done) | (simp; omega)) _ | assumption | exact Below.refl _ _ | refine Below.dr ?_ | refine Below.drN ?_ _ | refine Below.step ?_ (by assumption)))))).mono ?_
      rintro e w1 ⟨v, rfl, hv, -, hb1⟩
      obtain ⟨pv, cv, rfl⟩ : ∃ p c, v = .slice p (ordL l).length c := by
        rcases hv.2 with ⟨rfl, h0⟩ | ⟨g, cap, cur, rfl, _⟩
        · exact ⟨none, 0, by rw [h0]⟩
        · exact ⟨_, _, rfl⟩
      clear hv
      have HG3 := Lib.hid (show libGood l = decide ((ordL l).length = l.length) by rw [HG2.out, HU.out, Bool.true_and])
      have hii : (((ordL l).length : Int) = (l.length : Int)) = ((ordL l).length = l.length) := by apply propext; omega
      go_wp2
      go_ret
      refine ⟨ret_bool ?_, by (repeat (first | with_reducible exact Below.refl _ _ | with_reducible assumption | with_reducible refine Below.al ?_ _ | with_reducible refine Below.sc ?_ (by first | exact Nat.le_refl _ | (simp; done) | (simp; omega)) _ | assumption | exact Below.refl _ _ | refine Below.dr ?_ | refine Below.drN ?_ _ | refine Below.step ?_ (by assumption)))⟩
      rw [HG3.out, Bool.eq_iff_iff, decide_eq_true_iff, beq_iff_eq]
      omega
end Go.Proofs.YtkgfanajgdelcaaGreatDoor
namespace Go.Proofs.YtkgfanajgdelcaaGreatDoor
open Go.RowKit
def nameIs (x : ByteArray) (u : Un) : Bool := u.name.toList == x.toList
theorem nameIs_eq (x : ByteArray) (u : Un) : nameIs x u = decide (u.name = x) := by
  rw [nameIs, Bool.eq_iff_iff, decide_eq_true_iff, Lib.bytes_beq_iff]
theorem find_nameIs (l : List Un) (x : ByteArray) : l.find? (nameIs x) = findU l x := by
  rw [findU]; congr 1; funext u; exact nameIs_eq x u
def placeU (l : List Un) (x : ByteArray) : Option Nat := firstI (nameIs x) 0 l
theorem place_some {l : List Un} {x : ByteArray} {u : Un} (h : findU l x = some u) : ∃ (i : Nat) (hi : i < l.length), placeU l x = some i ∧ l[i] = u := by
  cases hp : placeU l x with
  | none => have := firstI_none _ _ _ hp; rw [find_nameIs, h] at this; cases this
  | some i =>
    obtain ⟨-, hi, hf⟩ := firstI_some _ _ _ _ hp
    simp only [Nat.sub_zero] at hi hf
    rw [find_nameIs, h] at hf
    exact ⟨i, hi, rfl, (Option.some.inj hf).symm⟩
theorem place_none {l : List Un} {x : ByteArray} : placeU l x = none ↔ findU l x = none := by
  constructor
  · intro h; rw [← find_nameIs]; exact firstI_none _ _ _ h
  · intro h
    cases hp : placeU l x with
    | none => rfl
    | some i =>
      obtain ⟨-, hi, hf⟩ := firstI_some _ _ _ _ hp
      rw [find_nameIs, h] at hf; cases hf
set_option maxRecDepth 100000 in
theorem nameIs_any {B : Nat → Prop} (u : Un) (x : ByteArray) (v0 v1 v2 v3 : Value) (g : Nat) (w : World) (hg : w.cell? ⟨g, 0, none⟩ = some (.string x)) (h : UnAt B w u [v0, v1, v2, v3]) :
    Calls Tryz.prog 94 #[.agg #[v0, v1, v2, v3], .pointer (some ⟨g, 0, none⟩)] w fun e w' => e = .returned (.bool (nameIs x u)) ∧ Below w.heap.size w w' := by
  obtain ⟨p, c, q, d, rfl, rfl, rfl, rfl, -⟩ := h.form
  have hgz := bsz (World.block_lt_of_cell? _ _ hg)
  clear h
  go_enter Tryz.func94, Tryz.ntmps94
  go_wp2
  go_ret
  exact ⟨rfl, by (repeat (first | with_reducible exact Below.refl _ _ | with_reducible assumption | with_reducible refine Below.al ?_ _ | with_reducible refine Below.sc ?_ (by first | exact Nat.le_refl _ | (simp; done) | (simp; omega)) _ | assumption | exact Below.refl _ _ | refine Below.dr ?_ | refine Below.drN ?_ _ | refine Below.step ?_ (by assumption)))⟩
set_option maxRecDepth 100000 in
set_option maxHeartbeats 1600000 in
theorem idxPlace {B : Nat → Prop} (P : Un → Bool) (us : List Un) (g : Addr) (va : Value) (w : World) (HC : ∀ (a : Un) (v0 v1 v2 v3 : Value) (w' : World), a ∈ us → UnAt B w' a [v0, v1, v2, v3] → Below w.heap.size w w' → Calls Tryz.prog 94 #[.agg #[v0, v1, v2, v3], .pointer (some g)] w' fun e w'' => e = .returned (.bool (P a)) ∧ Below w'.heap.size w' w'')
    (h : UnsAt B w va us) : Calls Tryz.prog 81 #[va, .func (.func 94) #[] #[.pointer (some g)]] w (FirstI (firstI P 0 us) w) := by
  obtain ⟨p, c, rfl, hlen⟩ := h.form
  unfold maxLen at hlen
  have H := Lib.hid h
  have HN1 := Lib.hid HC
  clear h HC
  go_enter Tryz.func81, Tryz.ntmps81
  go_wp2
  go_loopw [8] (fun i wr => ∃ k : Nat, k ≤ us.length ∧ i = .int .i64 k ∧ firstI P 0 us = firstI P k (us.drop k) ∧ Below w.heap.size w wr) (fun i _ => us.length - (intOf i).toNat)
  case atStart => exact ⟨0, Nat.zero_le _, rfl, rfl, by (repeat (first | with_reducible exact Below.refl _ _ | with_reducible assumption | with_reducible refine Below.al ?_ _ | with_reducible refine Below.sc ?_ (by first | exact Nat.le_refl _ | (simp; done) | (simp; omega)) _ | assumption | exact Below.refl _ _ | refine Below.dr ?_ | refine Below.drN ?_ _ | refine Below.step ?_ (by assumption)))⟩
  case round =>
    obtain ⟨k, hk, rfl, he, hb⟩ := hrel
    have HE := Lib.hid he
    clear he
    by_cases hlt : k < us.length
    · obtain ⟨b, o, rfl, hB, p1, c1, p2, c2, hx0, hx1, hx2, hx3, hx⟩ := (H.out.below hb).at_ hlt
      have HD := Lib.hid (firstI_drop P hlt)
      have hm := List.getElem_mem hlt
      obtain ⟨a, ha⟩ : ∃ a, us[k] = a := ⟨_, rfl⟩
      rw [ha] at hx hx0 hx1 hx2 hx3 HD hm
      have HX := Lib.hid hx
      clear ha hx
      have zb := bsz (World.block_lt_of_cell? _ _ hx0)
      cases hN : P a
      all_goals
        have HN := Lib.hid hN
        go_wp2_with fail
        refine (HN1.out a _ _ _ _ _ hm HX.out (by (repeat (first | with_reducible exact Below.refl _ _ | with_reducible assumption | with_reducible refine Below.al ?_ _ | with_reducible refine Below.sc ?_ (by first | exact Nat.le_refl _ | (simp; done) | (simp; omega)) _ | assumption | exact Below.refl _ _ | refine Below.dr ?_ | refine Below.drN ?_ _ | refine Below.step ?_ (by assumption))))).mono ?_
        rintro e w1 ⟨rfl, hb1⟩
        have ⟨cw1, fw1⟩ := bcell hb1
        have qw1 := hb1.size
        (try simp at qw1)
        (try have zw1w := bsz (show w.heap.size < w1.heap.size by omega))
        rw [HN.out]
        go_wp2
      · refine ⟨⟨k + 1, by omega, by go_num, ?_, by (repeat (first | with_reducible exact Below.refl _ _ | with_reducible assumption | with_reducible refine Below.al ?_ _ | with_reducible refine Below.sc ?_ (by first | exact Nat.le_refl _ | (simp; done) | (simp; omega)) _ | assumption | exact Below.refl _ _ | refine Below.dr ?_ | refine Below.drN ?_ _ | refine Below.step ?_ (by assumption)))⟩, by simp [intOf]; omega⟩
        rw [HE.out, HD.out, HN.out]; rfl
      · go_ret
        exact ⟨_, rfl, by rw [HE.out, HD.out, HN.out]; rfl, by (repeat (first | with_reducible exact Below.refl _ _ | with_reducible assumption | with_reducible refine Below.al ?_ _ | with_reducible refine Below.sc ?_ (by first | exact Nat.le_refl _ | (simp; done) | (simp; omega)) _ | assumption | exact Below.refl _ _ | refine Below.dr ?_ | refine Below.drN ?_ _ | refine Below.step ?_ (by assumption)))⟩
    · obtain rfl : k = us.length := by omega
      have he := HE.out
      rw [List.drop_length] at he
      have HE2 := Lib.hid he
      clear he
      go_wp2
      go_ret
      exact ⟨-1, rfl, by rw [HE2.out]; rfl, by (repeat (first | with_reducible exact Below.refl _ _ | with_reducible assumption | with_reducible refine Below.al ?_ _ | with_reducible refine Below.sc ?_ (by first | exact Nat.le_refl _ | (simp; done) | (simp; omega)) _ | assumption | exact Below.refl _ _ | refine Below.dr ?_ | refine Below.drN ?_ _ | refine Below.step ?_ (by assumption)))⟩
set_option maxRecDepth 100000 in
theorem unitAt_any {B : Nat → Prop} (l : List Un) (va : Value) (x : ByteArray) (w : World) (h : UnsAt B w va l) : Calls Tryz.prog 38 #[va, .string x] w (FirstI (placeU l x) w) := by
  obtain ⟨p, c, rfl, hlen⟩ := h.form
  have H := Lib.hid h
  clear h
  have HX := Lib.hid (fun (w' : World) (hg : w'.cell? ⟨w.heap.size, 0, none⟩ = some (.string x)) (hat : UnsAt B w' (.slice p l.length c) l) => idxPlace (nameIs x) l ⟨w.heap.size, 0, none⟩ (.slice p l.length c) w' (fun a v0 v1 v2 v3 w2 _ ha hb2 => nameIs_any a x v0 v1 v2 v3 w.heap.size w2 ((hb2.cell (World.block_lt_of_cell? _ _ hg)).trans hg) ha) hat)
  go_enter Tryz.func38, Tryz.ntmps38
  go_wp2_with fail
  refine (HX.out _ (by go_simp) (H.out.below (by (repeat (first | with_reducible exact Below.refl _ _ | with_reducible assumption | with_reducible refine Below.al ?_ _ | with_reducible refine Below.sc ?_ (by first | exact Nat.le_refl _ | (simp; done) | (simp; omega)) _ | assumption | exact Below.refl _ _ | refine Below.dr ?_ | refine Below.drN ?_ _ | refine Below.step ?_ (by assumption)))))).mono ?_
  rintro e w1 ⟨r, rfl, hr, hb1⟩
  have HR := Lib.hid hr
  clear hr
  go_wp2
  go_ret
  exact ⟨r, rfl, HR.out, by (repeat (first | with_reducible exact Below.refl _ _ | with_reducible assumption | with_reducible refine Below.al ?_ _ | with_reducible refine Below.sc ?_ (by first | exact Nat.le_refl _ | (simp; done) | (simp; omega)) _ | assumption | exact Below.refl _ _ | refine Below.dr ?_ | refine Below.drN ?_ _ | refine Below.step ?_ (by assumption)))⟩
/-! ### Hashes -/
def txtH (g : ByteArray → Int) (u : Un) : List UInt8 := u.name.data.toList ++ u.axs.flatMap (fun a => 10 :: a.data.toList) ++ [10, 63] ++ u.goal.data.toList ++ u.incs.flatMap (fun y => [10, 35] ++ Lib.itoa (g y))
def hashF : Nat → List Un → ByteArray → Int
  | 0, _, _ => 0
  | f + 1, l, x => match findU l x with
    | none => 0
    | some u => sumF (txtH (hashF f l) u)
/-- A unit's hash in a library. -/
def hashU (l : List Un) (x : ByteArray) : Int := hashF l.length l x
end Go.Proofs.YtkgfanajgdelcaaGreatDoor
namespace Go.Proofs.YtkgfanajgdelcaaGreatDoor
open Go.RowKit
/-- In wr the row v holds n elements; since W (where it was v0) only its own block and new ones have turned. -/
structure Gr (e : TypeId) (size : Nat) (W : World) (v0 : Value) (base n : Nat) (vals : List Value) (v : Value) (wr : World) : Prop where
  row : wr.ownsRow base e size v n vals
  grown : W.grownBy wr v0.ownBlock
  fresh : NewRow v0 v W.heap.size
theorem Gr.start {e : TypeId} {size base n : Nat} {W : World} {v0 : Value} {vals : List Value} (h : W.ownsRow base e size v0 n vals) : Gr e size W v0 base n vals v0 W :=
  ⟨h, ⟨rfl, rfl, rfl, Nat.le_refl _, fun _ _ _ => rfl⟩, .inl rfl⟩
theorem Gr.below {e : TypeId} {size base n : Nat} {W wr w' : World} {v0 v : Value} {vals : List Value} (h : Gr e size W v0 base n vals v wr) (hb : Below wr.heap.size wr w') : Gr e size W v0 base n vals v w' :=
  ⟨own_below h.row hb, ⟨hb.os.trans h.grown.os, hb.tape.trans h.grown.tape, hb.output.trans h.grown.output, Nat.le_trans h.grown.size hb.size, fun k hk hne => (hb.block k (Nat.lt_of_lt_of_le hk h.grown.size)).trans (h.grown.block k hk hne)⟩, h.fresh⟩
theorem Gr.ne {e : TypeId} {size base n : Nat} {W wr : World} {v0 v : Value} {vals : List Value} (h : Gr e size W v0 base n vals v wr) {b : Nat} (hb : b < W.heap.size) (hv : v0.ownBlock ≠ some b) : v.ownBlock ≠ some b := fun e => by
  rcases h.fresh with h1 | ⟨g, h1, h2⟩
  · exact hv (h1 ▸ e)
  · rw [h1] at e; injection e with e; omega
theorem Gr.app {e : TypeId} {size base n m : Nat} {W wr w' : World} {v0 v v' : Value} {vals more : List Value} (h : Gr e size W v0 base n vals v wr) (ho : w'.ownsRow base e size v' m more) (hg : wr.grownBy w' v.ownBlock) (hn : NewRow v v' wr.heap.size) : Gr e size W v0 base m more v' w' := by
  refine ⟨ho, ⟨hg.os.trans h.grown.os, hg.tape.trans h.grown.tape, hg.output.trans h.grown.output, Nat.le_trans h.grown.size hg.size, fun k hk hne => (hg.block k (Nat.lt_of_lt_of_le hk h.grown.size) (fun e => h.ne hk (fun e' => hne e'.symm) e.symm)).trans (h.grown.block k hk hne)⟩, ?_⟩
  rcases hn with h1 | ⟨g, h1, h2⟩
  · rcases h.fresh with h3 | ⟨g, h3, h4⟩
    · exact .inl (h1.trans h3)
    · exact .inr ⟨g, h1.trans h3, h4⟩
  · exact .inr ⟨g, h1, Nat.le_trans h.grown.size h2⟩
theorem Gr.block {e : TypeId} {size base n : Nat} {W wr : World} {v0 v : Value} {vals : List Value} (h : Gr e size W v0 base n vals v wr) {b : Nat} (hb : b < W.heap.size) (hv : v0.ownBlock ≠ some b) : wr.heap[b]? = W.heap[b]? := h.grown.block b hb (fun e => hv e.symm)
theorem Gr.strs {e : TypeId} {size base n : Nat} {W wr : World} {v0 v : Value} {vals : List Value} (h : Gr e size W v0 base n vals v wr) {B : Nat → Prop} {vs : Value} {us : List ByteArray} (hs : StrsAt B W vs us) (hB : ∀ b, B b → v0.ownBlock ≠ some b) : StrsAt B wr vs us :=
  hs.mono (fun b hb hlt => h.block hlt (hB b hb)) (fun _ h => h)
/-- .. seen from a world that is older still. -/
theorem Gr.bel {e : TypeId} {size base n : Nat} {a W wr : World} {v0 v : Value} {vals : List Value} (h : Gr e size W v0 base n vals v wr) (hb : Below a.heap.size a W) (hv : ∀ g, v0.ownBlock = some g → a.heap.size ≤ g) : Below a.heap.size a wr :=
  hb.grown h.grown hb.size hv
end Go.Proofs.YtkgfanajgdelcaaGreatDoor
namespace Go.Proofs.YtkgfanajgdelcaaGreatDoor
open Go.RowKit
/-- Names of the order, none twice. -/
def GoodS (l out : List ByteArray) : Prop := out.Nodup ∧ ∀ z ∈ out, z ∈ l
theorem GoodS.len {l out : List ByteArray} (h : GoodS l out) : out.length ≤ l.length := pigeon _ _ h.1 h.2
theorem GoodS.add {l out : List ByteArray} {z : ByteArray} (h : GoodS l out) (hz : z ∈ l) : GoodS l (addS out z) := by
  refine ⟨addS_nodup h.1, fun y hy => ?_⟩
  rcases mem_addS.1 hy with hy | rfl
  · exact h.2 y hy
  · exact hz
theorem GoodS.addAll {l : List ByteArray} : ∀ {xs out : List ByteArray}, GoodS l out → (∀ z ∈ xs, z ∈ l) → GoodS l (addAll out xs)
  | [], _, h, _ => h
  | x :: _, out, h, hx => GoodS.addAll (out := addS out x) (h.add (hx x (List.mem_cons_self ..))) (fun z hz => hx z (List.mem_cons_of_mem _ hz))
theorem addAll_take {out xs : List ByteArray} {k : Nat} (h : k < xs.length) : addAll out (xs.take (k + 1)) = addS (addAll out (xs.take k)) xs[k] := by
  rw [List.take_succ_eq_append_getElem h, addAll, List.foldl_append]; rfl
theorem UnsAt.name_size {B : Nat → Prop} {w : World} {v : Value} {l : List Un} (h : UnsAt B w v l) {x : ByteArray} (hx : x ∈ ordL l) : x.size ≤ maxLen := by
  obtain ⟨u, hu, rfl⟩ := List.mem_map.1 ((ordL_inv l).sub x hx)
  obtain ⟨i, hi, rfl⟩ := List.getElem_of_mem hu
  obtain ⟨p, c, rfl, -⟩ := h.form
  obtain ⟨b, o, -, -, p1, c1, p2, c2, -, -, -, -, hx⟩ := h.at_ hi
  obtain ⟨_, _, _, h2, _⟩ := hx
  exact h2
end Go.Proofs.YtkgfanajgdelcaaGreatDoor
namespace Go.Proofs.YtkgfanajgdelcaaGreatDoor
open Go.RowKit
def axT (us : List ByteArray) : List UInt8 := us.flatMap fun a => 10 :: a.data.toList
def inT (g : ByteArray → Int) (us : List ByteArray) : List UInt8 := us.flatMap fun y => [10, 35] ++ Lib.itoa (g y)
theorem txtH_eq (g : ByteArray → Int) (u : Un) : txtH g u = u.name.data.toList ++ axT u.axs ++ [10, 63] ++ u.goal.data.toList ++ inT g u.incs := rfl
theorem axT_take {us : List ByteArray} {k : Nat} (h : k < us.length) : axT (us.take (k + 1)) = axT (us.take k) ++ (10 :: us[k].data.toList) := by
  rw [List.take_succ_eq_append_getElem h, axT, axT, List.flatMap_append]; simp
theorem inT_take (g : ByteArray → Int) {us : List ByteArray} {k : Nat} (h : k < us.length) : inT g (us.take (k + 1)) = inT g (us.take k) ++ ([10, 35] ++ Lib.itoa (g us[k])) := by
  rw [List.take_succ_eq_append_getElem h, inT, inT, List.flatMap_append]; simp
theorem axT_len : ∀ us : List ByteArray, (axT us).length = us.length + wtS us
  | [] => rfl
  | a :: us => by
    have := axT_len us
    rw [axT] at this
    rw [axT, List.flatMap_cons, List.length_append, this, List.length_cons, List.length_cons, wtS, ← size_list]; omega
theorem wtS_take' : ∀ (us : List ByteArray) (i : Nat), wtS (us.take i) ≤ wtS us
  | [], i => by simp [wtS]
  | a :: us, 0 => by simp [wtS]
  | a :: us, i + 1 => by have := wtS_take' us i; rw [List.take_succ_cons, wtS, wtS]; omega
theorem axT_bd {us : List ByteArray} {k : Nat} : (axT (us.take k)).length ≤ us.length + wtS us := by
  rw [axT_len]
  have := wtS_take' us k
  have : (us.take k).length ≤ us.length := by rw [List.length_take]; omega
  omega
theorem hashF_bd (l : List Un) : ∀ (f : Nat) (x : ByteArray), 0 ≤ hashF f l x ∧ hashF f l x < 999979
  | 0, _ => by rw [hashF]; omega
  | f + 1, x => by
    rw [hashF]
    cases findU l x with
    | none => simp
    | some u => exact sumF_bd _
theorem inT_len {g : ByteArray → Int} (hg : ∀ y, 0 ≤ g y ∧ g y < 999979) : ∀ us : List ByteArray, (inT g us).length ≤ 22 * us.length
  | [] => by simp [inT]
  | a :: us => by
    have := inT_len hg us
    rw [inT] at this
    have h1 := itoa_len (g a) (by have := hg a; omega) (by have := hg a; omega)
    rw [inT, List.flatMap_cons, List.length_append, List.length_append, List.length_cons, List.length_cons]
    simp only [List.length_cons, List.length_nil]
    omega
theorem inT_bd {g : ByteArray → Int} (hg : ∀ y, 0 ≤ g y ∧ g y < 999979) {us : List ByteArray} {k : Nat} : (inT g (us.take k)).length ≤ 22 * us.length := by
  have h1 := inT_len hg (us.take k)
  have : (us.take k).length ≤ us.length := by rw [List.length_take]; omega
  omega
theorem Un.wt_parts (u : Un) : u.name.size + (u.incs.length + wtS u.incs) + (u.axs.length + wtS u.axs) + u.goal.size = u.wt := rfl
end Go.Proofs.YtkgfanajgdelcaaGreatDoor
namespace Go.Proofs.YtkgfanajgdelcaaGreatDoor
open Go.RowKit
theorem blk_ltB {w : World} {b : Nat} {o : Obj} (h : w.heap[b]? = some o) : b < w.heap.size := by
  rcases Nat.lt_or_ge b w.heap.size with h' | h'
  · exact h'
  · rw [Array.getElem?_eq_none h'] at h; cases h
set_option maxRecDepth 100000 in
theorem sizeBld : ∃ j, Tryz.prog.info? 125 = some j ∧ j.size = 2 := by
  obtain ⟨j, hj, hs⟩ := Option.map_eq_some_iff.1 (show (Tryz.prog.info? 125).map (·.size) = some 2 by kernel_rfl)
  exact ⟨j, hj, hs⟩
set_option maxRecDepth 100000 in
theorem copyCheck_used (b : Nat) (w : World) (h0 : w.cell? ⟨b, 0, none⟩ = some (.pointer (some ⟨b, 0, none⟩))) :
    Calls Tryz.prog 140 #[.pointer (some ⟨b, 0, none⟩)] w fun e w' => e = .returned (.tuple #[]) ∧ w' = w := by
  obtain ⟨j, hj, _⟩ := sizeBld
  go_enter Tryz.func140, Tryz.ntmps140
  go_wp2
  rw [Lib.run_neq_ptr_same w _ Tryz.underlying123 hj]
  go_wp2
  go_end0
  exact ⟨rfl, rfl⟩
set_option maxRecDepth 100000 in
theorem copyCheck_fresh (b : Nat) (w : World) (h0 : w.cell? ⟨b, 0, none⟩ = some (.pointer none)) (hsh : w.shape? b = some (125, 2)) (hfz : w.frozen? ⟨b, 0, none⟩ = false) :
    Calls Tryz.prog 140 #[.pointer (some ⟨b, 0, none⟩)] w fun e w' => e = .returned (.tuple #[]) ∧ w' = w.setCell ⟨b, 0, none⟩ (.pointer (some ⟨b, 0, none⟩)) := by
  obtain ⟨j, hj, hjs⟩ := sizeBld
  have hlies : liesAt Tryz.prog Tryz.prog.depth 125 (2 / Tryz.prog.cellsOf 125) 0 125 1 = true := by kernel_rfl
  go_enter Tryz.func140, Tryz.ntmps140
  go_wp2
  rw [Lib.run_to_unsafe w ⟨b, 0, none⟩ Tryz.underlying123 Tryz.underlying193 hj (by rw [hjs]; decide) hsh (Nat.zero_lt_succ 1)]
  simp only [Result.andThen]
  rw [Oper.upon_value]
  go_wp2
  rw [run_callFunc_extern Tryz.func189 (by kernel_rfl) (by kernel_rfl) (by kernel_rfl) (e := Extern.AbiNoEscape.same) (by kernel_rfl)]
  rw [Lib.run_noEscape]
  simp only [Result.andThen]
  rw [Oper.upon_value]
  go_wp2
  rw [Lib.run_from_unsafe w ⟨b, 0, none⟩ Tryz.underlying193 Tryz.underlying123 hj hsh hlies]
  simp only [Result.andThen]
  rw [Oper.upon_value]
  go_wp2
  go_end0
  exact ⟨rfl, rfl⟩
theorem copyCheckB (B b : Nat) (bs : List Value) (w : World) (h : Lib.IsBuilderF 125 5 B b bs w) :
    Calls Tryz.prog 140 #[.pointer (some ⟨b, 0, none⟩)] w fun e w' => e = .returned (.tuple #[]) ∧ (Lib.BuilderAtF 125 5 B b (.pointer (some ⟨b, 0, none⟩)) bs w' ∧ Below B w w') := by
  rcases h with h | h
  · refine (copyCheck_fresh b w h.cell0 h.shape h.frozen0).mono ?_
    rintro e w' ⟨rfl, rfl⟩
    exact ⟨rfl, h.used _, (Below.refl B w).setCell (p := ⟨b, 0, none⟩) h.1 _⟩
  · refine (copyCheck_used b w h.cell0).mono ?_
    rintro e w' ⟨rfl, rfl⟩
    exact ⟨rfl, h, Below.refl B _⟩
set_option maxRecDepth 100000 in
set_option maxHeartbeats 1000000 in
theorem writeB (B b : Nat) (bs : List Value) (s : ByteArray) (w : World) (h : Lib.IsBuilderF 125 5 B b bs w) (hlen : bs.length + s.size ≤ 140737488355328) (hBw : B ≤ w.heap.size) :
    Calls Tryz.prog 89 #[.pointer (some ⟨b, 0, none⟩), .string s] w fun e w' => e = .returned (.tuple #[.int .i64 s.size, .nilIface]) ∧ (Lib.BuilderAtF 125 5 B b (.pointer (some ⟨b, 0, none⟩)) (bs ++ Lib.strCells s) w' ∧ Below B w w') := by
  obtain ⟨i0, hi, hz0, hz1, hz2⟩ := info_parts (show (Tryz.prog.info? 5).map (fun i => (i.zero, i.size, i.bytes)) = some (some (.int .u8 0), 1, 1) by kernel_rfl)
  have HC := Lib.hid (copyCheckB B b bs)
  go_enter Tryz.func89, Tryz.ntmps89
  go_wp2_with (go_at_call 140; refine (HC.out _ h).mono ?_)
  rintro e w1 ⟨rfl, h1, hb1⟩
  obtain ⟨hB, v, hbk, hown, hne⟩ := h1
  have c0 : w1.cell? ⟨b, 0, none⟩ = some (.pointer (some ⟨b, 0, none⟩)) := by rw [Lib.cell_of_heap hbk]; rfl
  have c1 : w1.cell? ⟨b, 1, none⟩ = some v := by rw [Lib.cell_of_heap hbk]; rfl
  go_wp2_with (at_builtin; refine Lib.wpList_append_own_stringF _ rfl _ _ 22 9 rfl B 5 i0 Tryz.underlying22 Tryz.underlying9 hi hz0 hz1 hz2 _ _ _ rfl hown s rfl ?c3 ?c4 ?c5 ?_)
  case c3 => unfold maxLen; omega
  case c4 => omega
  case c5 => have := hb1.size; omega
  intro v' w2 hown' hgrow _
  have hlt : b < w1.heap.size := blk_ltB hbk
  have hb2 : w2.heap[b]? = some (.cells #[.pointer (some ⟨b, 0, none⟩), v] 125 (0, 0)) := by
    rw [hgrow.block b hlt (fun e => hne e.symm)]
    exact hbk
  have d0 : w2.cell? ⟨b, 0, none⟩ = some (.pointer (some ⟨b, 0, none⟩)) := by rw [Lib.cell_of_heap hb2]; rfl
  have d1 : w2.cell? ⟨b, 1, none⟩ = some v := by rw [Lib.cell_of_heap hb2]; rfl
  have f1 : w2.frozen? ⟨b, 1, none⟩ = false := Lib.frozen_of_heap hb2 1
  obtain ⟨ao, n', cap, rfl⟩ : ∃ ao n' cap, v' = .slice ao n' cap := by
    rcases hown'.2 with ⟨hv, _⟩ | ⟨g, cap, cur, fz, hv, _⟩
    · exact ⟨_, _, _, hv⟩
    · exact ⟨_, _, _, hv⟩
  go_wp2
  go_ret2
  refine ⟨rfl, ?_, ?_⟩
  · exact Lib.BuilderAtF.put (T := 125) (e := 5) hB hb2 (bs' := bs ++ Lib.strCells s) (by simpa [Lib.strCells_length] using hown') (by decide)
  · exact (hb1.grown hgrow (by have := hb1.size; omega) (fun k hk => (hown.lt k hk).1)).setCell (p := ⟨b, 1, none⟩) hB _
/-- A builder that holds the text l, all its memory from block B on. -/
def Bld (B b : Nat) (l : List UInt8) (w : World) : Prop := Lib.IsBuilderF 125 5 B b (Lib.byteCells l) w
theorem BuilderAtF.later {T e : TypeId} {B b : Nat} {p : Value} {bs : List Value} {w w' : World} (h : Lib.BuilderAtF T e B b p bs w) (hb : Below w.heap.size w w') : Lib.BuilderAtF T e B b p bs w' := by
  obtain ⟨hB, v, h1, h2, h3⟩ := h
  refine ⟨hB, v, (hb.block b (blk_ltB h1)).trans h1, ⟨h2.1, ?_⟩, h3⟩
  rcases h2.2 with h4 | ⟨g, cap, cur, fz, rfl, h5, h6, h7⟩
  · exact .inl h4
  · exact .inr ⟨g, cap, cur, fz, rfl, h5, (hb.block g (blk_ltB h6)).trans h6, h7⟩
theorem Bld.later {B b : Nat} {l : List UInt8} {w w' : World} (h : Bld B b l w) (hb : Below w.heap.size w w') : Bld B b l w' := h.elim (fun h => .inl (BuilderAtF.later h hb)) (fun h => .inr (BuilderAtF.later h hb))
theorem Bld.new (w : World) (b : Nat) (hb : w.heap.size = b) : Bld b b [] (w.alloc (.cells #[.pointer none, .slice none 0 0] 125)) := by
  subst hb
  exact .inl ⟨Nat.le_refl _, _, heap_alloc_new w _, ⟨rfl, .inl ⟨rfl, rfl⟩⟩, by simp [Value.ownBlock]⟩
theorem byteCells_app (l : List UInt8) (s : ByteArray) : Lib.byteCells l ++ Lib.strCells s = Lib.byteCells (l ++ s.data.toList) := by simp [Lib.byteCells, Lib.strCells]
theorem write_any (B b : Nat) (l : List UInt8) (s : ByteArray) (w : World) (h : Bld B b l w) (hlen : l.length + s.size ≤ 140737488355328) (hBw : B ≤ w.heap.size) :
    Calls Tryz.prog 89 #[.pointer (some ⟨b, 0, none⟩), .string s] w fun e w' => e = .returned (.tuple #[.int .i64 s.size, .nilIface]) ∧ Bld B b (l ++ s.data.toList) w' ∧ Below B w w' :=
  (writeB B b _ s w h (by simpa [Lib.byteCells] using hlen) hBw).mono fun e w' ⟨h1, h2, h3⟩ => ⟨h1, .inr (by rw [byteCells_app] at h2; exact h2), h3⟩
end Go.Proofs.YtkgfanajgdelcaaGreatDoor
namespace Go.Proofs.YtkgfanajgdelcaaGreatDoor
open Go.RowKit
set_option maxRecDepth 100000 in
set_option maxHeartbeats 6400000 in
theorem hashOf_any (l : List Un) (n : Nat) (hd : Dist l) (hz : l.length + wtU l ≤ 1048576) : ∀ (f : Nat) (x : ByteArray) (va : Value) (w : World), x ∈ ordL l → (ordL l).idxOf x < f → UnsAt (fun b => b < n) w va l → n ≤ w.heap.size → Env w →
    Calls Tryz.prog 36 #[va, .string x] w fun e w' => e = .returned (.int .i64 (hashF f l x)) ∧ Below w.heap.size w w' := by
  intro f
  induction f with
  | zero => intro x va w _ h; omega
  | succ f ih =>
    intro x va w hx hf h hn hE
    obtain ⟨u, hul, hux⟩ := List.mem_map.1 ((ordL_inv l).sub x hx)
    have hfu : findU l x = some u := hux ▸ findU_of hd hul
    have hin : incsOf l x = u.incs := by rw [incsOf, hfu]
    have HRK := Lib.hid (fun y (hy : y ∈ u.incs) => incs_rank hd (ordL_inv l) hx (by rw [hin]; exact hy))
    have HT := Lib.hid (show hashF (f + 1) l x = sumF (txtH (hashF f l) u) by rw [hashF, hfu])
    have hwl := wtU_le l u hul
    have HWT := Lib.hid (show u.name.size + (u.incs.length + wtS u.incs) + (u.axs.length + wtS u.axs) + u.goal.size ≤ 1048576 by rw [u.wt_parts]; omega)
    obtain ⟨i, hi, hpl, hli⟩ := place_some hfu
    obtain ⟨p, c, rfl, hlen⟩ := h.form
    unfold maxLen at hlen
    have H := Lib.hid h
    have IH := Lib.hid ih
    have HE := Lib.hid hE
    have HBD := Lib.hid (hashF_bd l f)
    clear h ih hfu hin hux hE
    go_enter Tryz.func36, Tryz.ntmps36
    go_wp2_with fail
    refine (unitAt_any l _ x _ (H.out.below (by (repeat (first | with_reducible exact Below.refl _ _ | with_reducible assumption | with_reducible refine Below.al ?_ _ | with_reducible refine Below.sc ?_ (by first | exact Nat.le_refl _ | (simp; done) | (simp; omega)) _ | assumption | exact Below.refl _ _ | refine Below.dr ?_ | refine Below.drN ?_ _ | refine Below.step ?_ (by assumption)))))).mono ?_
    rintro e w1 ⟨r, rfl, hr, hb1⟩
    rw [hpl] at hr
    obtain rfl : r = (i : Int) := hr
    have hq1 := hb1.size
    obtain ⟨b, o, rfl, hB, p1, c1, p2, c2, hx0, hx1, hx2, hx3, hxu⟩ := (H.out.below hb1).at_ hi
    rw [hli] at hx0 hx1 hx2 hx3 hxu
    obtain ⟨_, _, _, _, q0, q1, q2, q3, -, -, hil, hal, hia, haa⟩ := hxu.form
    simp only [Value.slice.injEq, true_and] at q1 q2
    obtain ⟨rfl, rfl⟩ := q1
    obtain ⟨rfl, rfl⟩ := q2
    clear q0 q3 hxu
    unfold maxLen at hil hal
    have HI := Lib.hid hia
    have HA := Lib.hid haa
    have zb := bsz (World.block_lt_of_cell? _ _ hx0)
    have hi0 : (0 : Int) ≤ i := by omega
    have hil2 : (i : Int) < l.length := by omega
    have HB0 := Lib.hid (Bld.new (w1.alloc (.cells #[.string u.name, .slice p1 u.incs.length c1, .slice p2 u.axs.length c2, .string u.goal] 34)) (w1.heap.size + 1) (by simp))
    clear hia haa hli hpl
    go_wp2_with fail
    refine (write_any (w1.heap.size + 1) (w1.heap.size + 1) [] u.name _ HB0.out (by have := HWT.out; simp; omega) (by simp)).mono ?_
    rw [List.nil_append]
    obtain ⟨W, hW⟩ : ∃ W : World, W = (w1.alloc (.cells #[.string u.name, .slice p1 u.incs.length c1, .slice p2 u.axs.length c2, .string u.goal] 34)).alloc (.cells #[.pointer none, .slice none 0 0] 125) := ⟨_, rfl⟩
    have hbW : Below w1.heap.size w1 W := by rw [hW]; (repeat (first | with_reducible exact Below.refl _ _ | with_reducible assumption | with_reducible refine Below.al ?_ _ | with_reducible refine Below.sc ?_ (by first | exact Nat.le_refl _ | (simp; done) | (simp; omega)) _ | assumption | exact Below.refl _ _ | refine Below.dr ?_ | refine Below.drN ?_ _ | refine Below.step ?_ (by assumption)))
    have hc0 : W.cell? ⟨w1.heap.size, 0, none⟩ = some (.string u.name) := by rw [hW]; go_simp
    have hc1 : W.cell? ⟨w1.heap.size, 1, none⟩ = some (.slice p1 u.incs.length c1) := by rw [hW]; go_simp
    have hc2 : W.cell? ⟨w1.heap.size, 2, none⟩ = some (.slice p2 u.axs.length c2) := by rw [hW]; go_simp
    have hc3 : W.cell? ⟨w1.heap.size, 3, none⟩ = some (.string u.goal) := by rw [hW]; go_simp
    have hzW : w1.heap.size + 1 < W.heap.size := by rw [hW]; simp
    rw [← hW]
    clear hW hx0 hx1 hx2 hx3 HB0
    rintro e w2 ⟨rfl, hB2, hb2⟩
    have HB2 := Lib.hid hB2
    have hlt1 : w1.heap.size < w1.heap.size + 1 := by omega
    have e1 := (hb2.cell (p := ⟨w1.heap.size, 1, none⟩) hlt1).trans hc1
    have e2 := (hb2.cell (p := ⟨w1.heap.size, 2, none⟩) hlt1).trans hc2
    have e3 := (hb2.cell (p := ⟨w1.heap.size, 3, none⟩) hlt1).trans hc3
    have hq2 := hb2.size
    have zu := bsz (World.block_lt_of_cell? _ _ e1)
    clear hB2
    go_wp2
    go_loopw [24] (fun i wr => ∃ k : Nat, k ≤ u.axs.length ∧ i = .int .i64 k ∧ Bld (w1.heap.size + 1) (w1.heap.size + 1) (u.name.data.toList ++ axT (u.axs.take k)) wr ∧ Below (w1.heap.size + 1) W wr) (fun i _ => u.axs.length - (intOf i).toNat)
    case atStart => exact ⟨0, Nat.zero_le _, rfl, by simpa [axT] using HB2.out, hb2⟩
    case round =>
      clear e1 e2 e3 zu
      obtain ⟨k, hk, rfl, hbl, hb⟩ := hrel
      have hbw : Below w1.heap.size w1 wr := hbW.trans (hb.mono (by omega))
      have e1 := (hb.cell (p := ⟨w1.heap.size, 1, none⟩) hlt1).trans hc1
      have e2 := (hb.cell (p := ⟨w1.heap.size, 2, none⟩) hlt1).trans hc2
      have e3 := (hb.cell (p := ⟨w1.heap.size, 3, none⟩) hlt1).trans hc3
      have zu := bsz (World.block_lt_of_cell? _ _ e1)
      have hqr := hb.size
      have hbd := axT_bd (us := u.axs) (k := k)
      have HBL := Lib.hid hbl
      clear hbl
      by_cases hlt : k < u.axs.length
      · obtain ⟨b', o', rfl, hB', hy0, hys⟩ := (HA.out.below hbw).at_ hlt
        have HTK := Lib.hid (axT_take hlt)
        have hmw := wtS_le u.axs _ (List.getElem_mem hlt)
        obtain ⟨a, ha⟩ : ∃ a, u.axs[k] = a := ⟨_, rfl⟩
        rw [ha] at hy0 HTK hmw
        clear ha
        have zb' := bsz (World.block_lt_of_cell? _ _ hy0)
        have hki : (k : Int) < u.axs.length := by omega
        have hgs : ¬ 9223372036854775807 < 1 + a.size := by have := HWT.out; omega
        have hs1 : ((⟨#[10]⟩ : ByteArray) ++ a).size = 1 + a.size := by rw [ByteArray.size_append]; rfl
        have hlen1 : (u.name.data.toList ++ axT (u.axs.take k)).length + ((⟨#[10]⟩ : ByteArray) ++ a).size ≤ 140737488355328 := by
          rw [hs1, List.length_append, ← size_list]; have := HWT.out; omega
        have hle1 : w1.heap.size + 1 ≤ wr.heap.size := by omega
        have HWR := Lib.hid (write_any (w1.heap.size + 1) (w1.heap.size + 1) _ ((⟨#[10]⟩ : ByteArray) ++ a) wr HBL.out hlen1 hle1)
        clear hs1 hlen1
        go_wp2_with fail
        refine HWR.out.mono ?_
        rintro e w3 ⟨rfl, hB3, hb3⟩
        have HB3 := Lib.hid hB3
        clear hB3
        go_wp2
        refine ⟨⟨k + 1, by omega, by go_num, ?_, hb.trans hb3⟩, by simp [intOf]; omega⟩
        rw [HTK.out]
        simpa using HB3.out
      · obtain rfl : k = u.axs.length := by omega
        rw [List.take_length] at hbd HBL
        have HTX := Lib.hid (txtH_eq (hashF f l) u)
        have hAl : (u.name.data.toList ++ axT u.axs).length ≤ 3000000 := by rw [List.length_append, ← size_list]; have := HWT.out; omega
        generalize u.name.data.toList ++ axT u.axs = A at *
        have hgs : ¬ 9223372036854775807 < 2 + u.goal.size := by have := HWT.out; omega
        have hs1 : ((⟨#[10, 63]⟩ : ByteArray) ++ u.goal).size = 2 + u.goal.size := by rw [ByteArray.size_append]; rfl
        have hlen1 : A.length + ((⟨#[10, 63]⟩ : ByteArray) ++ u.goal).size ≤ 140737488355328 := by
          rw [hs1]; have := HWT.out; omega
        have hle1 : w1.heap.size + 1 ≤ wr.heap.size := by omega
        have HWR := Lib.hid (write_any (w1.heap.size + 1) (w1.heap.size + 1) _ ((⟨#[10, 63]⟩ : ByteArray) ++ u.goal) wr HBL.out hlen1 hle1)
        clear hs1 hlen1
        go_wp2_with fail
        refine HWR.out.mono ?_
        rintro e w3 ⟨rfl, hB3, hb3⟩
        have hCl : (A ++ [10, 63] ++ u.goal.data.toList).length ≤ 6000000 := by rw [List.length_append, List.length_append, ← size_list]; have := HWT.out; simp only [List.length_cons, List.length_nil]; omega
        have HB3 := Lib.hid (show Bld (w1.heap.size + 1) (w1.heap.size + 1) (A ++ [10, 63] ++ u.goal.data.toList) w3 by simpa using hB3)
        have HTX2 := Lib.hid (show txtH (hashF f l) u = A ++ [10, 63] ++ u.goal.data.toList ++ inT (hashF f l) u.incs from HTX.out)
        generalize A ++ [10, 63] ++ u.goal.data.toList = C at *
        clear e1 e2 e3 zu hB3
        have hbb := hb.trans hb3
        have e1 := (hbb.cell (p := ⟨w1.heap.size, 1, none⟩) hlt1).trans hc1
        have zu := bsz (World.block_lt_of_cell? _ _ e1)
        go_wp2
        go_loopw [39] (fun i wr => ∃ k : Nat, k ≤ u.incs.length ∧ i = .int .i64 k ∧ Bld (w1.heap.size + 1) (w1.heap.size + 1) (C ++ inT (hashF f l) (u.incs.take k)) wr ∧ Below (w1.heap.size + 1) W wr) (fun i _ => u.incs.length - (intOf i).toNat)
        case atStart => exact ⟨0, Nat.zero_le _, rfl, by simpa [inT] using HB3.out, hbb⟩
        case round =>
          clear hb hb3 hbw e1 zu hbb hqr
          obtain ⟨k, hk, rfl, hbl, hb⟩ := hrel
          have hbw : Below w1.heap.size w1 wr := hbW.trans (hb.mono (by omega))
          have hb0 : Below w.heap.size w wr := Below.step hb1 hbw
          have hqr := hb.size
          have hbd := inT_bd HBD.out (us := u.incs) (k := k)
          have HBL := Lib.hid hbl
          clear hbl
          by_cases hlt : k < u.incs.length
          · obtain ⟨b', o', rfl, hB', hy0, hys⟩ := (HI.out.below hbw).at_ hlt
            have HTK := Lib.hid (inT_take (hashF f l) hlt)
            have hrk := HRK.out _ (List.getElem_mem hlt)
            obtain ⟨a, ha⟩ : ∃ a, u.incs[k] = a := ⟨_, rfl⟩
            rw [ha] at hy0 HTK hrk
            clear ha
            have zb' := bsz (World.block_lt_of_cell? _ _ hy0)
            have hki : (k : Int) < u.incs.length := by omega
            have hbda := HBD.out a
            have hit := itoa_len (hashF f l a) (by omega) (by omega)
            generalize inT (hashF f l) (u.incs.take k) = L at *
            have hgs : ¬ 9223372036854775807 < 2 + (Lib.itoa (hashF f l a)).length := by omega
            go_wp2_with fail
            refine (IH.out a _ _ hrk.1 (by omega) (H.out.below hb0) (by have := hb0.size; omega) (HE.out.below hb0)).mono ?_
            rintro e w4 ⟨rfl, hb4⟩
            go_wp2_with fail
            refine (itoa_any _ (by omega) (by omega) _ (HE.out.below (Below.step hb0 hb4))).mono ?_
            rintro e w5 ⟨rfl, hb5⟩
            have hb45 := Below.step hb4 hb5
            have hs1 : ((⟨#[10, 35]⟩ : ByteArray) ++ ⟨(Lib.itoa (hashF f l a)).toArray⟩).size = 2 + (Lib.itoa (hashF f l a)).length := by rw [ByteArray.size_append]; rfl
            have hlen1 : (C ++ L).length + ((⟨#[10, 35]⟩ : ByteArray) ++ ⟨(Lib.itoa (hashF f l a)).toArray⟩).size ≤ 140737488355328 := by
              rw [hs1, List.length_append]; have := HWT.out; omega
            have hle1 : w1.heap.size + 1 ≤ w5.heap.size := by have := hb45.size; omega
            have HWR := Lib.hid (write_any (w1.heap.size + 1) (w1.heap.size + 1) _ ((⟨#[10, 35]⟩ : ByteArray) ++ ⟨(Lib.itoa (hashF f l a)).toArray⟩) w5 (HBL.out.later hb45) hlen1 hle1)
            clear hs1 hlen1
            go_wp2_with fail
            refine HWR.out.mono ?_
            rintro e w6 ⟨rfl, hB6, hb6⟩
            have HB6 := Lib.hid hB6
            clear hB6
            go_wp2
            refine ⟨⟨k + 1, by omega, by go_num, ?_, (hb.trans (hb45.mono (by omega))).trans hb6⟩, by simp [intOf]; omega⟩
            rw [HTK.out]
            simpa using HB6.out
          · obtain rfl : k = u.incs.length := by omega
            rw [List.take_length, ← HTX2.out] at HBL
            have htl : (txtH (hashF f l) u).length ≤ 100000000 := by
              rw [HTX2.out, List.length_append]
              have h1 := inT_bd HBD.out (us := u.incs) (k := u.incs.length)
              rw [List.take_length] at h1
              have h2 := HWT.out
              omega
            go_wp2_with fail
            refine (Tryz.Builder_String_any_f _ _ _ _ HBL.out (by omega)).mono ?_
            rintro e w3 ⟨rfl, -, hb3⟩
            go_wp2_with fail
            refine (same_below (checksum_any _ _ (show (txtH (hashF f l) u).toArray.size ≤ maxLen by rw [List.size_toArray]; unfold maxLen; omega))).mono ?_
            rintro e w4 ⟨rfl, hb4⟩
            go_wp2
            go_ret
            exact ⟨ret_int HT.out.symm, Below.step (hb0.trans (hb3.mono (by omega))) hb4⟩
end Go.Proofs.YtkgfanajgdelcaaGreatDoor
namespace Go.Proofs.YtkgfanajgdelcaaGreatDoor
open Go.RowKit
theorem StrsAt.nil (B : Nat → Prop) (w : World) (p : Option Addr) (c : Nat) : StrsAt B w (.slice p 0 c) [] := ListAt.nil _ _ _ _ _ _
/-- The order, if there is one. -/
def loF (l : List Un) : List ByteArray := if libGood l then ordL l else []
theorem loF_len (l : List Un) : (loF l).length ≤ l.length := by
  rw [loF]; split
  · exact (ordL_inv l).len
  · simp
set_option maxRecDepth 100000 in
set_option maxHeartbeats 800000 in
theorem implLO_any {B : Nat → Prop} (l : List Un) (va : Value) (w : World) (h : UnsAt B w va l) (hw : l.length + wtU l ≤ 1048576) :
    Calls Tryz.prog 8 #[va] w fun e w' => ∃ v, e = .returned (.tuple #[v, .bool (libGood l)]) ∧ StrOwn 9 (NewB w w') w' (loF l) v ∧ Below w.heap.size w w' := by
  obtain ⟨p, c, rfl, hlen⟩ := h.form
  have H := Lib.hid h
  clear h
  cases hg : libGood l
  · have HG := Lib.hid hg
    go_enter Tryz.func8, Tryz.ntmps8
    go_wp2_with fail
    refine (implLib_any l _ _ (H.out.below (by (repeat (first | with_reducible exact Below.refl _ _ | with_reducible assumption | with_reducible refine Below.al ?_ _ | with_reducible refine Below.sc ?_ (by first | exact Nat.le_refl _ | (simp; done) | (simp; omega)) _ | assumption | exact Below.refl _ _ | refine Below.dr ?_ | refine Below.drN ?_ _ | refine Below.step ?_ (by assumption))))) hw).mono ?_
    rintro e w1 ⟨rfl, hb1⟩
    have ⟨cw1, fw1⟩ := bcell hb1
    have qw1 := hb1.size
    (try simp at qw1)
    (try have zw1w := bsz (show w.heap.size < w1.heap.size by omega))
    rw [HG.out]
    go_wp2
    go_ret2
    exact ⟨_, rfl, by rw [loF, HG.out, if_neg (by simp)]; exact OwnRow.nil _ _ _ _ _, by (repeat (first | with_reducible exact Below.refl _ _ | with_reducible assumption | with_reducible refine Below.al ?_ _ | with_reducible refine Below.sc ?_ (by first | exact Nat.le_refl _ | (simp; done) | (simp; omega)) _ | assumption | exact Below.refl _ _ | refine Below.dr ?_ | refine Below.drN ?_ _ | refine Below.step ?_ (by assumption)))⟩
  · have HG := Lib.hid hg
    have HL := Lib.hid (show (ordL l).length = l.length by rw [libGood, Bool.and_eq_true] at hg; exact of_decide_eq_true hg.2)
    have HOA := Lib.hid (fun w' => order_any (B := B) l (.slice p l.length c) w')
    go_enter Tryz.func8, Tryz.ntmps8
    go_wp2_with fail
    refine (implLib_any l _ _ (H.out.below (by (repeat (first | with_reducible exact Below.refl _ _ | with_reducible assumption | with_reducible refine Below.al ?_ _ | with_reducible refine Below.sc ?_ (by first | exact Nat.le_refl _ | (simp; done) | (simp; omega)) _ | assumption | exact Below.refl _ _ | refine Below.dr ?_ | refine Below.drN ?_ _ | refine Below.step ?_ (by assumption))))) hw).mono ?_
    rintro e w1 ⟨rfl, hb1⟩
    have ⟨cw1, fw1⟩ := bcell hb1
    have qw1 := hb1.size
    (try simp at qw1)
    (try have zw1w := bsz (show w.heap.size < w1.heap.size by omega))
    rw [HG.out]
    go_wp2_with fail
    refine (HOA.out _ (H.out.below (by (repeat (first | with_reducible exact Below.refl _ _ | with_reducible assumption | with_reducible refine Below.al ?_ _ | with_reducible refine Below.sc ?_ (by first | exact Nat.le_refl _ | (simp; done) | (simp; omega)) _ | assumption | exact Below.refl _ _ | refine Below.dr ?_ | refine Below.drN ?_ _ | refine Below.step ?_ (by assumption))))) (by omega)).mono ?_
    rintro e w2 ⟨hb2, hp⟩
    rw [if_pos HL.out] at hp
    obtain ⟨v, rfl, hv⟩ := hp
    have hq2 := hb2.size
    have HV := Lib.hid hv
    obtain ⟨pv, cv, rfl, -⟩ := OwnRow.form hv
    clear hv
    go_wp2
    go_ret2
    exact ⟨_, rfl, by rw [loF, HG.out, if_pos rfl]; exact HV.out.mono (SameOn.refl _ _) (fun b hb => ⟨by have := hb.1; omega, hb.2⟩), by (repeat (first | with_reducible exact Below.refl _ _ | with_reducible assumption | with_reducible refine Below.al ?_ _ | with_reducible refine Below.sc ?_ (by first | exact Nat.le_refl _ | (simp; done) | (simp; omega)) _ | assumption | exact Below.refl _ _ | refine Below.dr ?_ | refine Below.drN ?_ _ | refine Below.step ?_ (by assumption)))⟩
set_option maxRecDepth 100000 in
set_option maxHeartbeats 800000 in
theorem specLO_any {B : Nat → Prop} (l : List Un) (va : Value) (w : World) (h : UnsAt B w va l) (hw : l.length + wtU l ≤ 1048576) :
    Calls Tryz.prog 9 #[va] w fun e w' => ∃ v, e = .returned (.tuple #[v, .bool (libGood l)]) ∧ StrsAt (NewB w w') w' v (loF l) ∧ Below w.heap.size w w' := by
  obtain ⟨p, c, rfl, hlen⟩ := h.form
  have H := Lib.hid h
  clear h
  cases hg : libGood l
  · have HG := Lib.hid hg
    go_enter Tryz.func9, Tryz.ntmps9
    go_wp2_with fail
    refine (specLib_any l _ _ (H.out.below (by (repeat (first | with_reducible exact Below.refl _ _ | with_reducible assumption | with_reducible refine Below.al ?_ _ | with_reducible refine Below.sc ?_ (by first | exact Nat.le_refl _ | (simp; done) | (simp; omega)) _ | assumption | exact Below.refl _ _ | refine Below.dr ?_ | refine Below.drN ?_ _ | refine Below.step ?_ (by assumption))))) hw).mono ?_
    rintro e w1 ⟨rfl, hb1⟩
    have ⟨cw1, fw1⟩ := bcell hb1
    have qw1 := hb1.size
    (try simp at qw1)
    (try have zw1w := bsz (show w.heap.size < w1.heap.size by omega))
    rw [HG.out]
    go_wp2
    go_ret2
    exact ⟨_, rfl, by rw [loF, HG.out, if_neg (by simp)]; exact StrsAt.nil _ _ _ _, by (repeat (first | with_reducible exact Below.refl _ _ | with_reducible assumption | with_reducible refine Below.al ?_ _ | with_reducible refine Below.sc ?_ (by first | exact Nat.le_refl _ | (simp; done) | (simp; omega)) _ | assumption | exact Below.refl _ _ | refine Below.dr ?_ | refine Below.drN ?_ _ | refine Below.step ?_ (by assumption)))⟩
  · have HG := Lib.hid hg
    have HU := Lib.hid (show unitsF none l = true by rw [libGood, Bool.and_eq_true, Bool.and_eq_true] at hg; exact hg.1.1)
    have HOA := Lib.hid (fun w' hat => l27Order_any (B := B) l (.slice p l.length c) w' hat (by omega) (fun u hu => good_name (unitsF_good l none HU.out u hu)))
    go_enter Tryz.func9, Tryz.ntmps9
    go_wp2_with fail
    refine (specLib_any l _ _ (H.out.below (by (repeat (first | with_reducible exact Below.refl _ _ | with_reducible assumption | with_reducible refine Below.al ?_ _ | with_reducible refine Below.sc ?_ (by first | exact Nat.le_refl _ | (simp; done) | (simp; omega)) _ | assumption | exact Below.refl _ _ | refine Below.dr ?_ | refine Below.drN ?_ _ | refine Below.step ?_ (by assumption))))) hw).mono ?_
    rintro e w1 ⟨rfl, hb1⟩
    have ⟨cw1, fw1⟩ := bcell hb1
    have qw1 := hb1.size
    (try simp at qw1)
    (try have zw1w := bsz (show w.heap.size < w1.heap.size by omega))
    rw [HG.out]
    go_wp2_with fail
    refine (HOA.out _ (H.out.below (by (repeat (first | with_reducible exact Below.refl _ _ | with_reducible assumption | with_reducible refine Below.al ?_ _ | with_reducible refine Below.sc ?_ (by first | exact Nat.le_refl _ | (simp; done) | (simp; omega)) _ | assumption | exact Below.refl _ _ | refine Below.dr ?_ | refine Below.drN ?_ _ | refine Below.step ?_ (by assumption)))))).mono ?_
    rintro e w2 ⟨v, rfl, hv, hz, hb2⟩
    have hq2 := hb2.size
    have hm : (ordL l).length ≤ maxLen := by have := (ordL_inv l).len; unfold maxLen at hlen ⊢; omega
    have HV := Lib.hid (rowS_own (S := NewB w w2) hv hz hm (fun g hg => ⟨by have := own_base hv g hg; omega, own_lt' hv hg⟩))
    obtain ⟨pv, cv, rfl, -⟩ := OwnRow.form HV.out
    clear hv hz
    go_wp2
    go_ret2
    exact ⟨_, rfl, by rw [loF, HG.out, if_pos rfl]; exact HV.out.at_, by (repeat (first | with_reducible exact Below.refl _ _ | with_reducible assumption | with_reducible refine Below.al ?_ _ | with_reducible refine Below.sc ?_ (by first | exact Nat.le_refl _ | (simp; done) | (simp; omega)) _ | assumption | exact Below.refl _ _ | refine Below.dr ?_ | refine Below.drN ?_ _ | refine Below.step ?_ (by assumption)))⟩
end Go.Proofs.YtkgfanajgdelcaaGreatDoor
