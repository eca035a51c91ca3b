import Derived.Test.YtmbkjdkjemlfkaaGreatDoorDfPart22
namespace Go.Proofs.YtmbkjdkjemlfkaaGreatDoor
set_option maxRecDepth 100000
open Go.RowKit
theorem dNm_app (j : Nat) : (⟨#[100]⟩ ++ ⟨(Lib.itoa (j : Int)).toArray⟩ : ByteArray) = dNm j := by
  apply ByteArray.ext
  apply Array.ext'
  simp [dNm, ByteArray.data_append]
theorem nextF_yes {S : ByteArray → Bool} {n k : Nat} (h : S (dNm (k + 1)) = false) : nextF S n k = k + 1 := by
  cases n with
  | zero => rw [nextF]
  | succ n => rw [nextF, if_neg (by rw [h]; decide)]
theorem nextF_no {S : ByteArray → Bool} {n k : Nat} (h : S (dNm (k + 1)) = true) : nextF S (n + 1) k = nextF S n (k + 1) := by rw [nextF, if_pos h]
def nmrS (k : Nat) (uv : Value) : Array Value := #[.string ⟨#[100]⟩, .int .i64 k, uv]
def nmrI (k : Nat) (uv : Value) : Array Value := #[.string ⟨#[100]⟩, uv, .int .i64 k]
theorem box3_at {w : World} {k : Nat} {x0 x1 x2 : Value} {t : TypeId} (h : w.heap[k]? = some (.cells #[x0, x1, x2] t (0, 0))) :
    w.cell? ⟨k, 0, none⟩ = some x0 ∧ w.cell? ⟨k, 1, none⟩ = some x1 ∧ w.cell? ⟨k, 2, none⟩ = some x2 ∧ ∀ j, w.frozen? ⟨k, j, none⟩ = false := by
  refine ⟨?_, ?_, ?_, fun j => frozen_of_row w k j _ _ h⟩
  · rw [cell_of_row w k 0 _ _ (0, 0) h]; rfl
  · rw [cell_of_row w k 1 _ _ (0, 0) h]; rfl
  · rw [cell_of_row w k 2 _ _ (0, 0) h]; rfl
set_option maxHeartbeats 3200000 in
theorem nmNext_any {B : Nat → Prop} (g k : Nat) (us : List ByteArray) (uv : Value) (w : World) (hb : w.heap[g]? = some (.cells (nmrS k uv) 58 (0, 0))) (hu : StrsAt B w uv us) (hB : ∀ b, B b → b ≠ g) (hk : k ≤ 1000000) (hS : ∀ j, 99999 < j → inS us (dNm j) = false) :
    Calls Tryz.prog 48 #[.pointer (some ⟨g, 0, none⟩)] w fun e w' => e = .returned (.string (dNm (nextD (inS us) k))) ∧ w'.heap[g]? = some (.cells (nmrS (nextD (inS us) k) uv) 58 (0, 0)) ∧ w.grownBy w' (some g) := by
  have HU := Lib.hid hu
  have HS := Lib.hid hS
  have HB := Lib.hid hb
  have HBB := Lib.hid hB
  have hgl := blk_lt hb
  clear hu hS hb hB
  go_enter Tryz.func48, Tryz.ntmps48
  go_wp2_with fail
  go_loopg [] 100002 (fun q wr => ∃ n j : Nat, n < q ∧ j + n = k + 100000 ∧ nextF (inS us) n j = nextD (inS us) k ∧ wr.heap[g]? = some (.cells (nmrS j uv) 58 (0, 0)) ∧ w.grownBy wr (some g))
  case atStart => exact ⟨100000, k, by omega, rfl, rfl, HB.out, ⟨rfl, rfl, rfl, Nat.le_refl _, fun _ _ _ => rfl⟩⟩
  case round =>
    obtain ⟨n, j, hnq, hjn, hnx, hbx, hgr⟩ := hrel
    have HBX := Lib.hid hbx
    have HG := Lib.hid hgr
    have HX := Lib.hid hnx
    obtain ⟨c0, c1, c2, cf⟩ := box3_at hbx
    have zg := bsz (blk_lt hbx)
    have hzr := hgr.size
    clear hbx hgr hnx
    go_wp2_with fail
    obtain ⟨W1, hW1⟩ : ∃ q, q = wr.setCell ⟨g, 1, none⟩ (.int .i64 ((j : Int) + 1)) := ⟨_, rfl⟩
    have B1 : W1.heap[g]? = some (.cells (nmrS (j + 1) uv) 58 (0, 0)) := by
      rw [hW1]
      have := heap_setCell_same wr g 1 _ _ (.int .i64 ((j : Int) + 1)) HBX.out
      simpa [nmrS] using this
    have hG1 : w.grownBy W1 (some g) := by
      rw [hW1]
      have h1 := HG.out
      exact ⟨h1.os, h1.tape, h1.output, by simpa using h1.size, fun b hb hne => (heap_setCell_other wr ⟨g, 1, none⟩ b _ (fun e => hne (by rw [e]))).trans (h1.block b hb hne)⟩
    have hzW : W1.heap.size = wr.heap.size := by rw [hW1]; simp
    clear c0 c1 c2 cf zg
    obtain ⟨c0, c1, c2, cf⟩ := box3_at (show W1.heap[g]? = some (.cells #[.string ⟨#[100]⟩, .int .i64 ((j : Int) + 1), uv] 58 (0, 0)) from B1)
    have zg := bsz (blk_lt B1)
    have hil := itoa_len ((j : Int) + 1) (by omega) (by omega)
    have hnm : (⟨#[100]⟩ ++ ⟨(Lib.itoa ((j : Int) + 1)).toArray⟩ : ByteArray) = dNm (j + 1) := dNm_app (j + 1)
    have HB1 := Lib.hid B1
    have HG1 := Lib.hid hG1
    rw [← hW1]
    clear hW1 B1 hG1
    obtain ⟨C, HC0⟩ := class_of (InF W1.heap.size _ [(⟨g, 0, none⟩, .string ⟨#[100]⟩), (⟨g, 1, none⟩, .int .i64 ((j : Int) + 1))] [] [])
    have HC := Lib.hid HC0
    clear HC0
    refine wp_region_flow (C := C) (by kernel_rfl) (by kernel_rfl) (fun L hL => (HC.out _ _).2 (InF.start (by first | (intro _ hs; cases hs; done) | (simp only [List.forall_mem_cons]; go_simp)) (by first | (intro _ hs; cases hs; done) | (simp only [List.forall_mem_cons]; go_simp)) (by first | (intro _ hs; cases hs; done) | (simp only [List.forall_mem_cons]; go_simp)) (by first | (intro _ hs; cases hs; done) | (simp only [List.forall_mem_cons]; go_simp)) L hL)) ?_
    repeat (first | ((first | apply flow_free rfl | (apply flow_yes; (case hw => go_simp))); (intro L w' hun hrd hC; have hC := (HC.out _ _).1 hC; have hb' := hC.below; (try have hw' : Below w.heap.size w w' := by first | exact Below.trans (by (repeat (first | with_reducible (first | exact bR _ _ | assumption | refine bA ?_ _ | refine bS ?_ (by first | exact Nat.le_refl _ | (simp; done) | (simp; omega)) _) | assumption | exact bR _ _ | refine bD ?_ | refine bN ?_ _ | refine bT ?_ (by assumption)))) hb' | ((repeat (first | with_reducible (first | exact bR _ _ | assumption | refine bA ?_ _ | refine bS ?_ (by first | exact Nat.le_refl _ | (simp; done) | (simp; omega)) _) | assumption | exact bR _ _ | refine bD ?_ | refine bN ?_ _ | refine bT ?_ (by assumption))); done)); have hf' := hC.cell; (try simp only [List.forall_mem_cons] at hf'); go_simp; first | exact ⟨(HC.out _ _).2 (hC.skip _ (by rfl)), rfl⟩ | (rw [if_neg]; (exact ⟨(HC.out _ _).2 (hC.skip _ (by rfl)), rfl⟩); omega) | (go_at_call 73; refine (drew_below (l1Num_any ((j : Int) + 1) _ (by omega) (by omega))).mono ?_; rintro e w1 ⟨rfl, hb1⟩; exact ⟨rfl, (HC.out _ _).2 ((hC.next (by first | (simp; done) | (simp; omega) | omega) hb1).skip _ (by rfl))⟩)); go_simp) | (apply flow_no; (case hw => (go_simp; try (intro hh; cases hh))); (intro L w' _ _ hC; exact (HC.out _ _).2 (((HC.out _ _).1 hC).skip _ (by rfl))); go_simp))
    refine flow_nil ?_
    intro L wz hL hz
    have hz := (HC.out _ _).1 hz
    have hbz := hz.below
    have hcz := hz.cell
    try simp only [List.forall_mem_cons] at hcz
    have hdz := hz.done
    try simp only [List.forall_mem_cons] at hdz
    (try have hwz : Below w.heap.size w wz := by first | exact Below.trans (by (repeat (first | with_reducible (first | exact bR _ _ | assumption | refine bA ?_ _ | refine bS ?_ (by first | exact Nat.le_refl _ | (simp; done) | (simp; omega)) _) | assumption | exact bR _ _ | refine bD ?_ | refine bN ?_ _ | refine bT ?_ (by assumption)))) hbz | ((repeat (first | with_reducible (first | exact bR _ _ | assumption | refine bA ?_ _ | refine bS ?_ (by first | exact Nat.le_refl _ | (simp; done) | (simp; omega)) _) | assumption | exact bR _ _ | refine bD ?_ | refine bN ?_ _ | refine bT ?_ (by assumption))); done))
    (try rw [hnm])
    have hbz2 := hbz
    have c2z := cellQ hbz c2
    have c1z := cellQ hbz c1
    have zgz := bsz (World.block_lt_of_cell? _ _ c2z)
    have HUZ := Lib.hid (show StrsAt B wz uv us from HU.out.mono (fun b hb hl => (hbz.block b (by have := HG1.out.size; omega)).trans (HG1.out.block b hl (fun e => HBB.out b hb (Option.some.inj e)))) (fun _ h => h))
    have HGZ := Lib.hid (gr_below HG1.out hbz)
    have HBZ := Lib.hid ((hbz.block g (blk_lt HB1.out)).trans HB1.out)
    clear hz hcz hdz hbz c0 c1 c2 cf zg hbz2
    go_wp2_with fail
    refine (l2In_any us uv (dNm (j + 1)) wz HUZ.out).mono ?_
    rintro e w2 ⟨rfl, hb2⟩
    have HG2 := Lib.hid (gr_below HGZ.out hb2)
    have HB2 := Lib.hid ((hb2.block g (blk_lt HBZ.out)).trans HBZ.out)
    cases hin : inS us (dNm (j + 1))
    · have HN := Lib.hid (show dNm (nextD (inS us) k) = dNm (j + 1) ∧ nextD (inS us) k = j + 1 from by
        have := HX.out
        rw [nextF_yes hin] at this
        exact ⟨by rw [← this], this.symm⟩)
      clear hin
      go_wp2
      go_ret
      refine ⟨?_, by rw [HN.out.2]; exact HB2.out, HG2.out⟩
      rw [HN.out.1]
      first | rfl | go_simp
    · have hn0 : n ≠ 0 := by
        rintro rfl
        have := HS.out (j + 1) (by omega)
        rw [hin] at this; cases this
      obtain ⟨n, rfl⟩ : ∃ n', n = n' + 1 := ⟨n - 1, by omega⟩
      have HN := Lib.hid (show nextF (inS us) n (j + 1) = nextD (inS us) k from (nextF_no hin).symm.trans HX.out)
      clear hin
      go_wp2
      go_roundg (gk - 1)
      case measure => omega
      case rel => exact ⟨n, j + 1, by omega, by omega, HN.out, HB2.out, HG2.out⟩
set_option maxHeartbeats 3200000 in
theorem nmName_any {B : Nat → Prop} (g k : Nat) (us : List ByteArray) (uv : Value) (w : World) (hb : w.heap[g]? = some (.cells (nmrI k uv) 49 (0, 0))) (hu : StrsAt B w uv us) (hB : ∀ b, B b → b ≠ g) (hk : k ≤ 1000000) (hS : ∀ j, 99999 < j → inS us (dNm j) = false) (hE : ∀ w', w.grownBy w' (some g) → Env w') :
    Calls Tryz.prog 41 #[.pointer (some ⟨g, 0, none⟩)] w fun e w' => e = .returned (.string (dNm (nextD (inS us) k))) ∧ w'.heap[g]? = some (.cells (nmrI (nextD (inS us) k) uv) 49 (0, 0)) ∧ w.grownBy w' (some g) := by
  have HU := Lib.hid hu
  have HS := Lib.hid hS
  have HB := Lib.hid hb
  have HBB := Lib.hid hB
  have hgl := blk_lt hb
  have HE := Lib.hid hE
  clear hu hS hb hB hE
  go_enter Tryz.func41, Tryz.ntmps41
  go_wp2_with fail
  go_loopg [] 100002 (fun q wr => ∃ n j : Nat, n < q ∧ j + n = k + 100000 ∧ nextF (inS us) n j = nextD (inS us) k ∧ wr.heap[g]? = some (.cells (nmrI j uv) 49 (0, 0)) ∧ w.grownBy wr (some g))
  case atStart => exact ⟨100000, k, by omega, rfl, rfl, HB.out, ⟨rfl, rfl, rfl, Nat.le_refl _, fun _ _ _ => rfl⟩⟩
  case round =>
    obtain ⟨n, j, hnq, hjn, hnx, hbx, hgr⟩ := hrel
    have HBX := Lib.hid hbx
    have HG := Lib.hid hgr
    have HX := Lib.hid hnx
    obtain ⟨c0, c1, c2, cf⟩ := box3_at hbx
    have zg := bsz (blk_lt hbx)
    have hzr := hgr.size
    clear hbx hgr hnx
    go_wp2_with fail
    obtain ⟨W1, hW1⟩ : ∃ q, q = wr.setCell ⟨g, 2, none⟩ (.int .i64 ((j : Int) + 1)) := ⟨_, rfl⟩
    have B1 : W1.heap[g]? = some (.cells (nmrI (j + 1) uv) 49 (0, 0)) := by
      rw [hW1]
      have := heap_setCell_same wr g 2 _ _ (.int .i64 ((j : Int) + 1)) HBX.out
      simpa [nmrI] using this
    have hG1 : w.grownBy W1 (some g) := by
      rw [hW1]
      have h1 := HG.out
      exact ⟨h1.os, h1.tape, h1.output, by simpa using h1.size, fun b hb hne => (heap_setCell_other wr ⟨g, 2, none⟩ b _ (fun e => hne (by rw [e]))).trans (h1.block b hb hne)⟩
    have hzW : W1.heap.size = wr.heap.size := by rw [hW1]; simp
    clear c0 c1 c2 cf zg
    obtain ⟨c0, c1, c2, cf⟩ := box3_at (show W1.heap[g]? = some (.cells #[.string ⟨#[100]⟩, uv, .int .i64 ((j : Int) + 1)] 49 (0, 0)) from B1)
    have zg := bsz (blk_lt B1)
    have hil := itoa_len ((j : Int) + 1) (by omega) (by omega)
    have hnm : (⟨#[100]⟩ ++ ⟨(Lib.itoa ((j : Int) + 1)).toArray⟩ : ByteArray) = dNm (j + 1) := dNm_app (j + 1)
    have HB1 := Lib.hid B1
    have HG1 := Lib.hid hG1
    have HEW := Lib.hid (HE.out _ HG1.out)
    rw [← hW1]
    clear hW1 B1 hG1
    obtain ⟨C, HC0⟩ := class_of (InF W1.heap.size _ [(⟨g, 0, none⟩, .string ⟨#[100]⟩), (⟨g, 2, none⟩, .int .i64 ((j : Int) + 1))] [] [])
    have HC := Lib.hid HC0
    clear HC0
    refine wp_region_flow (C := C) (by kernel_rfl) (by kernel_rfl) (fun L hL => (HC.out _ _).2 (InF.start (by first | (intro _ hs; cases hs; done) | (simp only [List.forall_mem_cons]; go_simp)) (by first | (intro _ hs; cases hs; done) | (simp only [List.forall_mem_cons]; go_simp)) (by first | (intro _ hs; cases hs; done) | (simp only [List.forall_mem_cons]; go_simp)) (by first | (intro _ hs; cases hs; done) | (simp only [List.forall_mem_cons]; go_simp)) L hL)) ?_
    repeat (first | ((first | apply flow_free rfl | (apply flow_yes; (case hw => go_simp))); (intro L w' hun hrd hC; have hC := (HC.out _ _).1 hC; have hb' := hC.below; (try have hw' : Below w.heap.size w w' := by first | exact Below.trans (by (repeat (first | with_reducible (first | exact bR _ _ | assumption | refine bA ?_ _ | refine bS ?_ (by first | exact Nat.le_refl _ | (simp; done) | (simp; omega)) _) | assumption | exact bR _ _ | refine bD ?_ | refine bN ?_ _ | refine bT ?_ (by assumption)))) hb' | ((repeat (first | with_reducible (first | exact bR _ _ | assumption | refine bA ?_ _ | refine bS ?_ (by first | exact Nat.le_refl _ | (simp; done) | (simp; omega)) _) | assumption | exact bR _ _ | refine bD ?_ | refine bN ?_ _ | refine bT ?_ (by assumption))); done)); have hf' := hC.cell; (try simp only [List.forall_mem_cons] at hf'); go_simp; first | exact ⟨(HC.out _ _).2 (hC.skip _ (by rfl)), rfl⟩ | (rw [if_neg]; (exact ⟨(HC.out _ _).2 (hC.skip _ (by rfl)), rfl⟩); omega) | (go_at_call 69; refine (itoa_any ((j : Int) + 1) (by omega) (by omega) _ (HEW.out.below hb')).mono ?_; rintro e w1 ⟨rfl, hb1⟩; exact ⟨rfl, (HC.out _ _).2 ((hC.next (by first | (simp; done) | (simp; omega) | omega) hb1).skip _ (by rfl))⟩)); go_simp) | (apply flow_no; (case hw => (go_simp; try (intro hh; cases hh))); (intro L w' _ _ hC; exact (HC.out _ _).2 (((HC.out _ _).1 hC).skip _ (by rfl))); go_simp))
    refine flow_nil ?_
    intro L wz hL hz
    have hz := (HC.out _ _).1 hz
    have hbz := hz.below
    have hcz := hz.cell
    try simp only [List.forall_mem_cons] at hcz
    have hdz := hz.done
    try simp only [List.forall_mem_cons] at hdz
    (try have hwz : Below w.heap.size w wz := by first | exact Below.trans (by (repeat (first | with_reducible (first | exact bR _ _ | assumption | refine bA ?_ _ | refine bS ?_ (by first | exact Nat.le_refl _ | (simp; done) | (simp; omega)) _) | assumption | exact bR _ _ | refine bD ?_ | refine bN ?_ _ | refine bT ?_ (by assumption)))) hbz | ((repeat (first | with_reducible (first | exact bR _ _ | assumption | refine bA ?_ _ | refine bS ?_ (by first | exact Nat.le_refl _ | (simp; done) | (simp; omega)) _) | assumption | exact bR _ _ | refine bD ?_ | refine bN ?_ _ | refine bT ?_ (by assumption))); done))
    (try rw [hnm])
    have hbz2 := hbz
    have c2z := cellQ hbz c1
    have c1z := cellQ hbz c2
    have zgz := bsz (World.block_lt_of_cell? _ _ c2z)
    have HUZ := Lib.hid (show StrsAt B wz uv us from HU.out.mono (fun b hb hl => (hbz.block b (by have := HG1.out.size; omega)).trans (HG1.out.block b hl (fun e => HBB.out b hb (Option.some.inj e)))) (fun _ h => h))
    have HGZ := Lib.hid (gr_below HG1.out hbz)
    have HBZ := Lib.hid ((hbz.block g (blk_lt HB1.out)).trans HB1.out)
    clear hz hcz hdz hbz c0 c1 c2 cf zg hbz2
    go_wp2_with fail
    refine (containsS_any us uv (dNm (j + 1)) wz HUZ.out).mono ?_
    rintro e w2 ⟨rfl, hb2⟩
    have HG2 := Lib.hid (gr_below HGZ.out hb2)
    have HB2 := Lib.hid ((hb2.block g (blk_lt HBZ.out)).trans HBZ.out)
    cases hin : inS us (dNm (j + 1))
    · have HN := Lib.hid (show dNm (nextD (inS us) k) = dNm (j + 1) ∧ nextD (inS us) k = j + 1 from by
        have := HX.out
        rw [nextF_yes hin] at this
        exact ⟨by rw [← this], this.symm⟩)
      clear hin
      go_wp2
      go_ret
      refine ⟨?_, by rw [HN.out.2]; exact HB2.out, HG2.out⟩
      rw [HN.out.1]
      first | rfl | go_simp
    · have hn0 : n ≠ 0 := by
        rintro rfl
        have := HS.out (j + 1) (by omega)
        rw [hin] at this; cases this
      obtain ⟨n, rfl⟩ : ∃ n', n = n' + 1 := ⟨n - 1, by omega⟩
      have HN := Lib.hid (show nextF (inS us) n (j + 1) = nextD (inS us) k from (nextF_no hin).symm.trans HX.out)
      clear hin
      go_wp2
      go_roundg (gk - 1)
      case measure => omega
      case rel => exact ⟨n, j + 1, by omega, by omega, HN.out, HB2.out, HG2.out⟩
def addN (l : List ByteArray) (n : ByteArray) : List ByteArray := if symB n.data.toList && !inS l n then l ++ [n] else l
mutual
def Tm.symI : Tm → List ByteArray → List ByteArray | .mk n us, l => Tm.symIs us (addN l n)
def Tm.symIs : List Tm → List ByteArray → List ByteArray | [], l => l | a :: us, l => Tm.symIs us (a.symI l)
end
theorem addN_len (l : List ByteArray) (n : ByteArray) : (addN l n).length ≤ l.length + 1 := by
  rw [addN]; split
  · simp
  · omega
mutual
theorem Tm.symI_len : ∀ (t : Tm) (l : List ByteArray), (t.symI l).length ≤ l.length + t.sz
  | .mk n us, l => by have := Tm.symIs_len us (addN l n); have := addN_len l n; rw [Tm.symI, Tm.sz]; omega
theorem Tm.symIs_len : ∀ (us : List Tm) (l : List ByteArray), (Tm.symIs us l).length ≤ l.length + Tm.szs us
  | [], l => by rw [Tm.symIs, Tm.szs]; omega
  | a :: us, l => by have := Tm.symIs_len us (a.symI l); have := Tm.symI_len a l; rw [Tm.symIs, Tm.szs]; omega
end
theorem Tm.symIs_drop {us : List Tm} {k : Nat} {l : List ByteArray} (h : k < us.length) : Tm.symIs (us.drop k) l = Tm.symIs (us.drop (k + 1)) (us[k].symI l) := by rw [List.drop_eq_getElem_cons h, Tm.symIs]
theorem Tm.szs_drop' {us : List Tm} {k : Nat} (h : k < us.length) : Tm.szs (us.drop k) = us[k].sz + Tm.szs (us.drop (k + 1)) := by rw [List.drop_eq_getElem_cons h, Tm.szs]
theorem GrS.be {e : TypeId} {base : Nat} {W w1 w2 : World} {v v1 : Value} {l : List ByteArray} (h : GrS e base W v l v1 w1) (hb : Below w1.heap.size w1 w2) : GrS e base W v l v1 w2 :=
  ⟨own_below h.row hb, ⟨hb.os.trans h.gr.os, hb.tape.trans h.gr.tape, hb.output.trans h.gr.output, Nat.le_trans h.gr.size hb.size, fun b hb' hne => (hb.block b (Nat.lt_of_lt_of_le hb' h.gr.size)).trans (h.gr.block b hb' hne)⟩, h.nr⟩
def SymQ (e : TypeId) (base : Nat) (v : Value) (l' : List ByteArray) (w : World) (en : Ending) (w' : World) : Prop := ∃ v', en = .returned v' ∧ GrS e base w v l' v' w' ∧ ∀ s ∈ l', s.size ≤ maxLen
set_option maxHeartbeats 3200000 in
theorem symbolsOf_any (base : Nat) : ∀ (m : Nat) (t : Tm) (v0 v1 v : Value) (l : List ByteArray) (w : World), TmAt (fun b => b < base) m w t [v0, v1] → base ≤ w.heap.size → w.ownsRow base 9 1 v l.length (strW l) → (∀ s ∈ l, s.size ≤ maxLen) → l.length + t.sz ≤ 1000000 →
      Calls Tryz.prog 38 #[v, .agg #[v0, v1]] w (SymQ 9 base v (t.symI l) w) := by
  intro m
  induction m with
  | zero => intro t v0 v1 v l w h; exact h.elim
  | succ m ih =>
    rintro ⟨n, us⟩ v0 v1 v l w ⟨va, he, hn, hl⟩ hb hr hls hz
    simp only [List.cons.injEq, and_true] at he
    obtain ⟨rfl, rfl⟩ := he
    obtain ⟨p, c, rfl, hlen⟩ := hl.form
    unfold maxLen at hlen
    rw [Tm.sz] at hz
    have HN := Lib.hid hn
    have IH := Lib.hid ih
    have HLS := Lib.hid hls
    obtain ⟨W, hW⟩ : ∃ W : World, W = w.alloc (.cells #[.string n, .slice p us.length c] 26) := ⟨_, rfl⟩
    have hbW : Below w.heap.size w W := by rw [hW]; exact bel
    have hsW : W.heap.size = w.heap.size + 1 := by rw [hW]; simp
    have A0 : W.heap[w.heap.size]? = some (.cells #[.string n, .slice p us.length c] 26 (0, 0)) := by rw [hW]; exact heap_alloc_new w _
    have hvb : ∀ b, v.ownBlock = some b → base ≤ b ∧ b < w.heap.size := fun b hb => ⟨own_base hr b hb, own_lt' hr hb⟩
    have HVB := Lib.hid hvb
    have HR := Lib.hid (own_below hr hbW)
    have HL := Lib.hid (hl.mono (SameOn.below hbW) (fun _ h => h) (fun x cs _ hx => TmAt.below hbW hx))
    have HG0 := Lib.hid (show GrS 9 base w v l v W from ⟨own_below hr hbW, ⟨hbW.os, hbW.tape, hbW.output, hbW.size, fun b hb _ => hbW.block b hb⟩, .inl rfl⟩)
    have hlm : l.length ≤ maxLen := by unfold maxLen; omega
    have HSA := Lib.hid ((rowS_own (S := fun b => v.ownBlock = some b) HR.out hls hlm (fun _ h => h)).at_)
    obtain ⟨a0, a1, af⟩ := cells2_cell A0
    have za := bsz (show w.heap.size < W.heap.size by omega)
    have hal := addN_len l n
    clear hn ih hl hr hvb hls hlm
    have HW0 := Lib.hid HG0.out.gr
    cases hv : symB n.data.toList
    · have HS := Lib.hid (show addN l n = l by rw [addN, hv]; rfl)
      have HV := Lib.hid hv
      go_enter Tryz.func38, Tryz.ntmps38
      go_wp2_with fail
      rw [← hW]
      clear hW
      refine (isSymbol_any n _ HN.out).mono ?_
      rintro e w1 ⟨rfl, hb1⟩
      rw [HV.out]
      have hst : GrS 9 base W v l v w1 := (GrS.refl HR.out).be hb1
      have hA1 := (hb1.block w.heap.size (by omega)).trans A0
      clear a0 a1 af za
      obtain ⟨a0, a1, af⟩ := cells2_cell hA1
      have za := bsz (blk_lt hA1)
      clear hv
      go_wp2
      have HST := Lib.hid (hst)
      have HLZ := Lib.hid (show ∀ s ∈ l, s.size ≤ maxLen from HLS.out)
      have hll : (addN l n).length = (l).length := by rw [HS.out]
      (try clear a0 a1 af za)
      go_loopw [0, 25] (fun y i wr => ∃ (k : Nat) (v' : Value) (L' : List ByteArray), k ≤ us.length ∧ i = .int .i64 k ∧ y = v' ∧ Tm.symIs us (l) = Tm.symIs (us.drop k) L' ∧ L'.length + Tm.szs (us.drop k) ≤ 1000000 ∧ (∀ s ∈ L', s.size ≤ maxLen) ∧ GrS 9 base W v L' v' wr) (fun _ i _ => us.length - (intOf i).toNat)
      case atStart => exact ⟨0, _, l, Nat.zero_le _, rfl, rfl, rfl, by rw [List.drop_zero]; omega, HLZ.out, HST.out⟩
      case round =>
        obtain ⟨k, v', L', hk, rfl, hxv, heq, hlz, hls, hg⟩ := hrel
        replace hxv := hxv.symm
        subst hxv
        have HGS := Lib.hid hg
        have HEQ := Lib.hid heq
        have HL' := Lib.hid hls
        have hzr := hg.gr.size
        clear hg heq hls
        by_cases hlt : k < us.length
        · have hlti : (k : Int) < us.length := by omega
          have hsame : SameOn (fun b => b < base) W wr := fun b hb hl => HGS.out.keep hl (fun e => by have := (HVB.out b e).1; omega)
          obtain ⟨b, o, hpe, hB, x0, x1, hx0, hx1, hx⟩ := (HL.out.mono hsame (fun _ h => h) (fun x cs _ hx => TmAt.mono hsame (fun _ h => h) _ _ _ _ (Nat.le_refl _) hx)).at2 hlt
          have hdk := Tm.symIs_drop (l := L') hlt
          have hsk := Tm.szs_drop' hlt
          obtain ⟨y, hy⟩ : ∃ y, us[k] = y := ⟨_, rfl⟩
          rw [hy] at hx hdk hsk
          have HDK := Lib.hid hdk
          obtain ⟨py, cy, rfl, rfl, -⟩ := hx.form
          have HX := Lib.hid hx
          have zb := bsz (World.block_lt_of_cell? _ _ hx0)
          have hyl := Tm.symI_len y L'
          subst hpe
          clear hx hy hsame hdk
          go_wp2_with fail
          obtain ⟨Y, hY⟩ : ∃ q, q = wr.alloc (.cells #[.string y.n, .slice py y.us.length cy] 26) := ⟨_, rfl⟩
          have hbY : Below wr.heap.size wr Y := by rw [hY]; exact (Below.refl _ _).alloc (Nat.le_refl _) _
          have hzY := hbY.size
          rw [← hY]
          clear hY
          refine (IH.out y _ _ _ L' Y (TmAt.below hbY HX.out) (by omega) (own_below HGS.out.row hbY) HL'.out (by omega)).mono ?_
          rintro e w2 ⟨v2, rfl, h2, h3⟩
          have HT := Lib.hid ((HGS.out.be hbY).trans h2)
          have H3 := Lib.hid h3
          clear h2 h3
          go_wp2
          exact ⟨⟨k + 1, _, y.symI L', by omega, by go_num, rfl, by rw [HEQ.out, HDK.out], by omega, H3.out, HT.out⟩, by simp [intOf]; omega⟩
        · obtain rfl : k = us.length := by omega
          have HT := Lib.hid (HG0.out.trans HGS.out)
          rw [List.drop_length] at HEQ
          have HSY := Lib.hid (show (Tm.mk n us).symI l = L' by rw [Tm.symI, HS.out, HEQ.out, Tm.symIs])
          go_wp2
          go_ret
          refine ⟨v', ?_, by rw [HSY.out]; exact HT.out, by rw [HSY.out]; exact HL'.out⟩
          first | rfl | go_simp
    · have HV := Lib.hid hv
      cases hi : inS l n
      all_goals
        have HI := Lib.hid hi
        clear hi hv
        go_enter Tryz.func38, Tryz.ntmps38
        go_wp2_with fail
        rw [← hW]
        clear hW
        refine (isSymbol_any n _ HN.out).mono ?_
        rintro e w1 ⟨rfl, hb1⟩
        rw [HV.out]
        have hA1 := (hb1.block w.heap.size (by omega)).trans A0
        clear a0 a1 af za
        obtain ⟨a0, a1, af⟩ := cells2_cell hA1
        have za := bsz (blk_lt hA1)
        go_wp2_with fail
        refine (containsS_any l v n w1 (HSA.out.below hb1)).mono ?_
        rintro e w2 ⟨rfl, hb2⟩
        rw [HI.out]
        have hA2 := (hb2.block w.heap.size (blk_lt hA1)).trans hA1
        clear a0 a1 af za
        obtain ⟨a0, a1, af⟩ := cells2_cell hA2
        have za := bsz (blk_lt hA2)
        have hst0 : GrS 9 base W v l v w2 := ((GrS.refl HR.out).be hb1).be hb2
        have HST0 := Lib.hid hst0
        have hz2 := hst0.gr.size
        clear hst0
      · have HS := Lib.hid (show addN l n = l ++ [n] by rw [addN, HV.out, HI.out]; rfl)
        go_wp2_with (at_builtin; refine wpList_app1 rfl (.tmp 17) (.tmp 20) _ rfl base 9 1 16 elemStr _ _ (strW l) rfl w2 #[.string n] rfl _ rfl rfl HST0.out.row rfl (by simp [Value.oneCell']) (by omega) (by unfold maxLen; omega) (by omega) ?_; intro v3 w3 hown3 hg3 hnr3 hlt3; have hst : GrS 9 base W v (l ++ [n]) v3 w3 := HST0.out.trans ⟨by rw [strW_snoc, List.length_append]; exact hown3, hg3, hnr3⟩; clear hown3 hg3 hnr3 a0 a1 af za; have hA3 := (hst.keep (b := w.heap.size) (by omega) (fun e => by have := HVB.out _ e; omega)).trans A0; obtain ⟨a0, a1, af⟩ := cells2_cell hA3; have za := bsz (blk_lt hA3))
        have HST := Lib.hid (hst)
        have HLZ := Lib.hid (show ∀ s ∈ (l ++ [n]), s.size ≤ maxLen from (fun s hs => (List.mem_append.1 hs).elim (HLS.out s) (fun h => by simp at h; subst h; exact HN.out)))
        have hll : (addN l n).length = ((l ++ [n])).length := by rw [HS.out]
        (try clear a0 a1 af za)
        go_loopw [0, 25] (fun y i wr => ∃ (k : Nat) (v' : Value) (L' : List ByteArray), k ≤ us.length ∧ i = .int .i64 k ∧ y = v' ∧ Tm.symIs us ((l ++ [n])) = Tm.symIs (us.drop k) L' ∧ L'.length + Tm.szs (us.drop k) ≤ 1000000 ∧ (∀ s ∈ L', s.size ≤ maxLen) ∧ GrS 9 base W v L' v' wr) (fun _ i _ => us.length - (intOf i).toNat)
        case atStart => exact ⟨0, _, (l ++ [n]), Nat.zero_le _, rfl, rfl, rfl, by rw [List.drop_zero]; omega, HLZ.out, HST.out⟩
        case round =>
          obtain ⟨k, v', L', hk, rfl, hxv, heq, hlz, hls, hg⟩ := hrel
          replace hxv := hxv.symm
          subst hxv
          have HGS := Lib.hid hg
          have HEQ := Lib.hid heq
          have HL' := Lib.hid hls
          have hzr := hg.gr.size
          clear hg heq hls
          by_cases hlt : k < us.length
          · have hlti : (k : Int) < us.length := by omega
            have hsame : SameOn (fun b => b < base) W wr := fun b hb hl => HGS.out.keep hl (fun e => by have := (HVB.out b e).1; omega)
            obtain ⟨b, o, hpe, hB, x0, x1, hx0, hx1, hx⟩ := (HL.out.mono hsame (fun _ h => h) (fun x cs _ hx => TmAt.mono hsame (fun _ h => h) _ _ _ _ (Nat.le_refl _) hx)).at2 hlt
            have hdk := Tm.symIs_drop (l := L') hlt
            have hsk := Tm.szs_drop' hlt
            obtain ⟨y, hy⟩ : ∃ y, us[k] = y := ⟨_, rfl⟩
            rw [hy] at hx hdk hsk
            have HDK := Lib.hid hdk
            obtain ⟨py, cy, rfl, rfl, -⟩ := hx.form
            have HX := Lib.hid hx
            have zb := bsz (World.block_lt_of_cell? _ _ hx0)
            have hyl := Tm.symI_len y L'
            subst hpe
            clear hx hy hsame hdk
            go_wp2_with fail
            obtain ⟨Y, hY⟩ : ∃ q, q = wr.alloc (.cells #[.string y.n, .slice py y.us.length cy] 26) := ⟨_, rfl⟩
            have hbY : Below wr.heap.size wr Y := by rw [hY]; exact (Below.refl _ _).alloc (Nat.le_refl _) _
            have hzY := hbY.size
            rw [← hY]
            clear hY
            refine (IH.out y _ _ _ L' Y (TmAt.below hbY HX.out) (by omega) (own_below HGS.out.row hbY) HL'.out (by omega)).mono ?_
            rintro e w2 ⟨v2, rfl, h2, h3⟩
            have HT := Lib.hid ((HGS.out.be hbY).trans h2)
            have H3 := Lib.hid h3
            clear h2 h3
            go_wp2
            exact ⟨⟨k + 1, _, y.symI L', by omega, by go_num, rfl, by rw [HEQ.out, HDK.out], by omega, H3.out, HT.out⟩, by simp [intOf]; omega⟩
          · obtain rfl : k = us.length := by omega
            have HT := Lib.hid (HG0.out.trans HGS.out)
            rw [List.drop_length] at HEQ
            have HSY := Lib.hid (show (Tm.mk n us).symI l = L' by rw [Tm.symI, HS.out, HEQ.out, Tm.symIs])
            go_wp2
            go_ret
            refine ⟨v', ?_, by rw [HSY.out]; exact HT.out, by rw [HSY.out]; exact HL'.out⟩
            first | rfl | go_simp
      · have HS := Lib.hid (show addN l n = l by rw [addN, HV.out, HI.out]; rfl)
        have hst := HST0.out
        go_wp2
        have HST := Lib.hid (hst)
        have HLZ := Lib.hid (show ∀ s ∈ l, s.size ≤ maxLen from HLS.out)
        have hll : (addN l n).length = (l).length := by rw [HS.out]
        (try clear a0 a1 af za)
        go_loopw [0, 25] (fun y i wr => ∃ (k : Nat) (v' : Value) (L' : List ByteArray), k ≤ us.length ∧ i = .int .i64 k ∧ y = v' ∧ Tm.symIs us (l) = Tm.symIs (us.drop k) L' ∧ L'.length + Tm.szs (us.drop k) ≤ 1000000 ∧ (∀ s ∈ L', s.size ≤ maxLen) ∧ GrS 9 base W v L' v' wr) (fun _ i _ => us.length - (intOf i).toNat)
        case atStart => exact ⟨0, _, l, Nat.zero_le _, rfl, rfl, rfl, by rw [List.drop_zero]; omega, HLZ.out, HST.out⟩
        case round =>
          obtain ⟨k, v', L', hk, rfl, hxv, heq, hlz, hls, hg⟩ := hrel
          replace hxv := hxv.symm
          subst hxv
          have HGS := Lib.hid hg
          have HEQ := Lib.hid heq
          have HL' := Lib.hid hls
          have hzr := hg.gr.size
          clear hg heq hls
          by_cases hlt : k < us.length
          · have hlti : (k : Int) < us.length := by omega
            have hsame : SameOn (fun b => b < base) W wr := fun b hb hl => HGS.out.keep hl (fun e => by have := (HVB.out b e).1; omega)
            obtain ⟨b, o, hpe, hB, x0, x1, hx0, hx1, hx⟩ := (HL.out.mono hsame (fun _ h => h) (fun x cs _ hx => TmAt.mono hsame (fun _ h => h) _ _ _ _ (Nat.le_refl _) hx)).at2 hlt
            have hdk := Tm.symIs_drop (l := L') hlt
            have hsk := Tm.szs_drop' hlt
            obtain ⟨y, hy⟩ : ∃ y, us[k] = y := ⟨_, rfl⟩
            rw [hy] at hx hdk hsk
            have HDK := Lib.hid hdk
            obtain ⟨py, cy, rfl, rfl, -⟩ := hx.form
            have HX := Lib.hid hx
            have zb := bsz (World.block_lt_of_cell? _ _ hx0)
            have hyl := Tm.symI_len y L'
            subst hpe
            clear hx hy hsame hdk
            go_wp2_with fail
            obtain ⟨Y, hY⟩ : ∃ q, q = wr.alloc (.cells #[.string y.n, .slice py y.us.length cy] 26) := ⟨_, rfl⟩
            have hbY : Below wr.heap.size wr Y := by rw [hY]; exact (Below.refl _ _).alloc (Nat.le_refl _) _
            have hzY := hbY.size
            rw [← hY]
            clear hY
            refine (IH.out y _ _ _ L' Y (TmAt.below hbY HX.out) (by omega) (own_below HGS.out.row hbY) HL'.out (by omega)).mono ?_
            rintro e w2 ⟨v2, rfl, h2, h3⟩
            have HT := Lib.hid ((HGS.out.be hbY).trans h2)
            have H3 := Lib.hid h3
            clear h2 h3
            go_wp2
            exact ⟨⟨k + 1, _, y.symI L', by omega, by go_num, rfl, by rw [HEQ.out, HDK.out], by omega, H3.out, HT.out⟩, by simp [intOf]; omega⟩
          · obtain rfl : k = us.length := by omega
            have HT := Lib.hid (HG0.out.trans HGS.out)
            rw [List.drop_length] at HEQ
            have HSY := Lib.hid (show (Tm.mk n us).symI l = L' by rw [Tm.symI, HS.out, HEQ.out, Tm.symIs])
            go_wp2
            go_ret
            refine ⟨v', ?_, by rw [HSY.out]; exact HT.out, by rw [HSY.out]; exact HL'.out⟩
            first | rfl | go_simp
end Go.Proofs.YtmbkjdkjemlfkaaGreatDoor
