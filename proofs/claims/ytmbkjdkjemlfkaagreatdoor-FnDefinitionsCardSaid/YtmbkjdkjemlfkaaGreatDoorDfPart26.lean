import Derived.Sort.OwnSorted
import Derived.Sort.Walk0
import Derived.Test.YtmbkjdkjemlfkaaGreatDoorDfPart25
namespace Go.Proofs.YtmbkjdkjemlfkaaGreatDoor
set_option maxRecDepth 100000
open Go.RowKit
def AscQ (e : TypeId) (base : Nat) (l xs : List ByteArray) (w : World) (en : Ending) (w' : World) : Prop := ∃ (l' : List ByteArray) (v' : Value), en = .returned v' ∧ w'.ownsRow base e 1 v' l'.length (strW l') ∧ AscOf l' l xs ∧ Below w.heap.size w w'
theorem Tm.vs_cons (n : ByteArray) (us : List Tm) (h : varB n.data.toList = false) : (Tm.mk n us).vs = Tm.vss us := by rw [Tm.vs, h]; rfl
theorem vss_bound {us : List Tm} {k : Nat} {y : Tm} (h : us.take (k + 1) = us.take k ++ [y]) : Tm.szs (us.take k) + y.sz ≤ Tm.szs us := by
  have h1 := Tm.szs_take us (k + 1)
  rw [h] at h1
  have h2 : ∀ l : List Tm, Tm.szs (l ++ [y]) = Tm.szs l + y.sz := fun l => by
    induction l with
    | nil => simp [Tm.szs]
    | cons z l ih => rw [List.cons_append, Tm.szs, Tm.szs, ih]; omega
  rw [h2] at h1; omega
theorem nns_bound {us : List Fm} {k : Nat} {y : Fm} (h : us.take (k + 1) = us.take k ++ [y]) : Fm.nns (us.take k) + y.nn ≤ Fm.nns us := by
  have h1 := Fm.nns_take us (k + 1)
  rw [h] at h1
  have h2 : ∀ l : List Fm, Fm.nns (l ++ [y]) = Fm.nns l + y.nn := fun l => by
    induction l with
    | nil => simp [Fm.nns]
    | cons z l ih => rw [List.cons_append, Fm.nns, Fm.nns, ih]; omega
  rw [h2] at h1; omega
theorem Fm.nqs_get {us : List Fm} {k : Nat} (h : Fm.nqs us = true) (hk : k < us.length) : us[k].nq = true := by
  induction us generalizing k with
  | nil => simp at hk
  | cons a us ih =>
    rw [Fm.nqs, Bool.and_eq_true] at h
    cases k with
    | zero => exact h.1
    | succ k => exact ih h.2 (by simpa using hk)
set_option maxHeartbeats 3200000 in
theorem l2Into_any {B : Nat → Prop} (base : Nat) : ∀ (m : Nat) (t : Tm) (v0 v1 v : Value) (l : List ByteArray) (w : World), TmAt B m w t [v0, v1] → base ≤ w.heap.size → w.ownsRow base 9 1 v l.length (strW l) → Asc lessB l → l.length + t.sz ≤ 1000000 →
      Calls Tryz.prog 132 #[v, .agg #[v0, v1]] w (AscQ 9 base l t.vs w) := by
  intro m
  induction m with
  | zero => intro t v0 v1 v l w h; exact h.elim
  | succ m ih =>
    rintro ⟨n, us⟩ v0 v1 v l w ⟨va, he, hn, hl⟩ hb hr hasc hz
    simp only [List.cons.injEq, and_true] at he
    obtain ⟨rfl, rfl⟩ := he
    obtain ⟨p, c, rfl, hlen⟩ := hl.form
    unfold maxLen at hlen
    rw [Tm.sz] at hz
    have IH := Lib.hid ih
    have HAS := Lib.hid hasc
    obtain ⟨W, hW⟩ : ∃ W : World, W = w.alloc (.cells #[.string n, .slice p us.length c] 26) := ⟨_, rfl⟩
    have hbW : Below w.heap.size w W := by rw [hW]; exact bel
    have hsW : W.heap.size = w.heap.size + 1 := by rw [hW]; simp
    have A0 : W.heap[w.heap.size]? = some (.cells #[.string n, .slice p us.length c] 26 (0, 0)) := by rw [hW]; exact heap_alloc_new w _
    have HR := Lib.hid (own_below hr hbW)
    have HL := Lib.hid (hl.mono (SameOn.below hbW) (fun _ h => h) (fun x cs _ hx => TmAt.below hbW hx))
    have HBW := Lib.hid hbW
    obtain ⟨a0, a1, af⟩ := cells2_cell A0
    have za := bsz (show w.heap.size < W.heap.size by omega)
    clear ih hl hr hasc hbW
    cases hv : varB n.data.toList
    · have HS := Lib.hid (Tm.vs_cons n us hv)
      have HV := Lib.hid hv
      clear hv
      go_enter Tryz.func132, Tryz.ntmps132
      go_wp2_with fail
      rw [← hW]
      clear hW
      refine (l2Var_any n W hn).mono ?_
      rintro e w1 ⟨rfl, rfl⟩
      rw [HV.out]
      go_wp2
      go_loopw [0, 5] (fun y i wr => ∃ (k : Nat) (v' : Value) (l' : List ByteArray), k ≤ us.length ∧ i = .int .i64 k ∧ y = v' ∧ wr.ownsRow base 9 1 v' l'.length (strW l') ∧ AscOf l' l (Tm.vss (us.take k)) ∧ Below W.heap.size W wr) (fun _ i _ => us.length - (intOf i).toNat)
      case atStart => exact ⟨0, _, l, Nat.zero_le _, rfl, rfl, HR.out, by rw [List.take_zero, Tm.vss]; exact AscOf.refl HAS.out, Below.refl _ _⟩
      case round =>
        obtain ⟨k, v', l', hk, rfl, hxv, hr, hasc, hbr⟩ := hrel
        replace hxv := hxv.symm
        subst hxv
        have HRR := Lib.hid hr
        have HAC := Lib.hid hasc
        have HBR := Lib.hid hbr
        have hzr := hbr.size
        have hll := hasc.len
        clear a0 a1 af za
        obtain ⟨a0, a1, af⟩ := cells2_cell ((hbr.block w.heap.size (by omega)).trans A0)
        have za := bsz (show w.heap.size < wr.heap.size by omega)
        clear hr hasc hbr
        by_cases hlt : k < us.length
        · have hlti : (k : Int) < us.length := by omega
          obtain ⟨b, o, hpe, hB, x0, x1, hx0, hx1, hx⟩ := (HL.out.mono (SameOn.below HBR.out) (fun _ h => h) (fun x cs _ hx => TmAt.below HBR.out hx)).at2 hlt
          obtain ⟨y, hy⟩ : ∃ y, us[k] = y := ⟨_, rfl⟩
          have HTK := Lib.hid (show us.take (k + 1) = us.take k ++ [y] by rw [List.take_succ_eq_append_getElem hlt, hy])
          have hvb := vss_bound HTK.out
          have hvl := Tm.vss_len (us.take k)
          rw [hy] at hx
          have HX := Lib.hid hx
          have zb := bsz (World.block_lt_of_cell? _ _ hx0)
          subst hpe
          clear hx hy
          go_wp2_with fail
          refine (IH.out y _ _ _ l' wr HX.out (by omega) HRR.out HAC.out.asc (by omega)).mono ?_
          rintro e w2 ⟨l2, v2, rfl, hr2, hac2, hb2⟩
          go_wp2
          exact ⟨⟨k + 1, _, l2, by omega, by go_num, rfl, hr2, HAC.out.trans hac2 (by rw [HTK.out, Tm.vss_snoc]), HBR.out.trans (hb2.mono hzr)⟩, by simp [intOf]; omega⟩
        · obtain rfl : k = us.length := by omega
          have HAE := Lib.hid (show AscOf l' l (Tm.mk n us).vs by have := HAC.out; rw [List.take_length] at this; rw [HS.out]; exact this)
          have HBE := Lib.hid (Below.step HBW.out HBR.out)
          go_wp2
          go_ret
          refine ⟨l', _, ?_, HRR.out, HAE.out, HBE.out⟩
          first | rfl | go_simp
    · have HS := Lib.hid (show (Tm.mk n us).vs = [n] by rw [Tm.vs, hv]; rfl)
      have HV := Lib.hid hv
      clear hv
      go_enter Tryz.func132, Tryz.ntmps132
      go_wp2_with fail
      rw [← hW]
      clear hW
      refine (l2Var_any n W hn).mono ?_
      rintro e w1 ⟨rfl, rfl⟩
      rw [HV.out]
      go_wp2_with fail
      refine (l2Put_asc base l v n W HR.out (by omega) (by omega) HAS.out).mono ?_
      rintro e w2 ⟨l2, v2, rfl, hr2, hac2, hb2⟩
      have HR2 := Lib.hid hr2
      have HBE := Lib.hid (Below.step HBW.out hb2)
      have HAE := Lib.hid (show AscOf l2 l (Tm.mk n us).vs by rw [HS.out]; exact hac2)
      clear hr2 hb2 hac2
      go_wp2
      go_ret
      refine ⟨l2, _, ?_, HR2.out, HAE.out, HBE.out⟩
      first | rfl | go_simp
set_option maxHeartbeats 1600000 in
theorem l2Vars_any {B : Nat → Prop} (m : Nat) (t : Tm) (v0 v1 : Value) (w : World) (h : TmAt B m w t [v0, v1]) (hz : t.sz ≤ 900000) :
    Calls Tryz.prog 104 #[.agg #[v0, v1]] w (AscQ 9 w.heap.size [] t.vs w) := by
  obtain ⟨p, c, rfl, rfl, -⟩ := h.form
  have H := Lib.hid h
  obtain ⟨W, hW⟩ : ∃ W : World, W = (w.alloc (.cells #[.string t.n, .slice p t.us.length c] 26)).alloc (.cells #[] 9) := ⟨_, rfl⟩
  have hbW : Below w.heap.size w W := by rw [hW]; exact bel
  have HR := Lib.hid (show W.ownsRow w.heap.size 9 1 (.slice (some ⟨w.heap.size + 1, 0, none⟩) 0 0) ([] : List ByteArray).length (strW []) by
    have := row_empty (w.alloc (.cells #[.string t.n, .slice p t.us.length c] 26)) w.heap.size 9 1 (by simp)
    rw [hW]; simpa [strW] using this)
  have HBW := Lib.hid hbW
  clear h hbW
  go_enter Tryz.func104, Tryz.ntmps104
  go_wp2_with fail
  rw [← hW]
  clear hW
  refine (l2Into_any w.heap.size m t _ _ _ [] W (TmAt.below HBW.out H.out) HBW.out.size HR.out List.Pairwise.nil (by simp; omega)).mono ?_
  rintro e w2 ⟨l2, v2, rfl, hr2, hac2, hb2⟩
  have HR2 := Lib.hid hr2
  have HBE := Lib.hid (Below.step HBW.out hb2)
  have HAE := Lib.hid hac2
  clear hr2 hb2 hac2
  go_wp2
  go_ret
  refine ⟨l2, _, ?_, HR2.out, HAE.out, HBE.out⟩
  first | rfl | go_simp
set_option maxHeartbeats 6400000 in
theorem l8Into_any {B : Nat → Prop} (base : Nat) (bp : Option Addr) (bc : Nat) : ∀ (m : Nat) (t : Fm) (v0 v1 v2 v3 v4 v : Value) (l : List ByteArray) (w : World), FmAt B m w t [v0, v1, v2, v3, v4] → t.nq = true → base ≤ w.heap.size → w.ownsRow base 9 1 v l.length (strW l) → Asc lessB l → l.length + t.nn ≤ 900000 →
      Calls Tryz.prog 75 #[v, .agg #[v0, v1, v2, v3, v4], .slice bp 0 bc] w (AscQ 9 base l t.vs w) := by
  intro m
  induction m with
  | zero => intro t v0 v1 v2 v3 v4 v l w h; exact h.elim
  | succ m ih =>
    rintro ⟨op, a, x, ps⟩ v0 v1 v2 v3 v4 v l w hfm hnq hb hr hasc hz
    have hl := fm_parts hfm
    have ha := hfm.atm
    obtain ⟨p, pc, q, d, rfl, rfl, rfl, rfl, rfl, -, -, -, -, hlen⟩ := hfm.form
    simp only [Fm.op, Fm.a, Fm.v, Fm.ps] at *
    unfold maxLen at hlen
    rw [Fm.nn] at hz
    rw [Fm.nq, Bool.and_eq_true, Bool.and_eq_true, Bool.not_eq_true', Bool.not_eq_true'] at hnq
    obtain ⟨⟨e8, e9⟩, hnqs⟩ := hnq
    have IH := Lib.hid ih
    have HAS := Lib.hid hasc
    have HNQ := Lib.hid hnqs
    obtain ⟨W, hW⟩ : ∃ W : World, W = w.alloc (.cells #[.int .i64 op, .string a.n, .slice p a.us.length pc, .string x, .slice q ps.length d] 29) := ⟨_, rfl⟩
    have hbW : Below w.heap.size w W := by rw [hW]; exact bel
    have hsW : W.heap.size = w.heap.size + 1 := by rw [hW]; simp
    have HA0 := Lib.hid (show W.heap[w.heap.size]? = some (.cells #[.int .i64 op, .string a.n, .slice p a.us.length pc, .string x, .slice q ps.length d] 29 (0, 0)) by rw [hW]; exact heap_alloc_new w _)
    have HR := Lib.hid (own_below hr hbW)
    have HA := Lib.hid (TmAt.below hbW ha)
    have HL := Lib.hid (hl.mono (SameOn.below hbW) (fun _ h => h) (fun x cs _ hx => FmAt.below hbW hx))
    have HBW := Lib.hid hbW
    obtain ⟨a0, a1, a2, a3, a4⟩ := five_at HA0.out
    have za := bsz (show w.heap.size < W.heap.size by omega)
    clear ih hl hr ha hfm hasc hbW hnqs
    by_cases h3 : op = 3
    · subst h3
      have HS := Lib.hid (show (Fm.mk 3 a x ps).vs = a.vs ++ Fm.vss ps by rw [Fm.vs, if_pos rfl])
      go_enter Tryz.func75, Tryz.ntmps75
      go_wp2_with fail
      rw [← hW]
      clear hW
      refine (l2Vars_any _ a _ _ W HA.out (by omega)).mono ?_
      rintro e w1 ⟨ls, vs, rfl, hrs, hacs, hb1⟩
      obtain ⟨ps', cs', rfl⟩ := own_slice hrs
      have HRS := Lib.hid hrs
      have HACS := Lib.hid hacs
      have HB1 := Lib.hid hb1
      have hz1 := hb1.size
      have hlsl := hacs.len
      have havs := a.vs_len
      simp only [List.length_nil, Nat.zero_add] at hlsl
      clear hrs hacs hb1 a0 a1 a2 a3 a4 za
      go_wp2
      go_loopw [0, 8] (fun y i wr => ∃ (k : Nat) (v' : Value) (l' : List ByteArray), k ≤ ls.length ∧ i = .int .i64 k ∧ y = v' ∧ wr.ownsRow base 9 1 v' l'.length (strW l') ∧ AscOf l' l (ls.take k) ∧ Below w1.heap.size w1 wr) (fun _ i _ => ls.length - (intOf i).toNat)
      case atStart => exact ⟨0, _, l, Nat.zero_le _, rfl, rfl, own_below HR.out HB1.out, by rw [List.take_zero]; exact AscOf.refl HAS.out, Below.refl _ _⟩
      case round =>
        obtain ⟨k, v', l', hk, rfl, hxv, hr, hasc, hbr⟩ := hrel
        replace hxv := hxv.symm
        subst hxv
        have HRR := Lib.hid hr
        have HAC := Lib.hid hasc
        have HBR := Lib.hid hbr
        have hzr := hbr.size
        have hll := hasc.len
        clear hr hasc hbr
        by_cases hlt : k < ls.length
        · have hlti : (k : Int) < ls.length := by omega
          have HTK := Lib.hid (List.take_succ_eq_append_getElem hlt)
          obtain ⟨g, rfl, hg1, hg2, -, hgc⟩ := rowS_cell (own_below HRS.out HBR.out) (by omega)
          have x0 := hgc k ls[k] (List.getElem?_eq_getElem hlt)
          obtain ⟨y, hy⟩ : ∃ y, ls[k] = y := ⟨_, rfl⟩
          rw [hy] at x0 HTK
          have zg := bsz hg2
          have hltk : (ls.take k).length = k := by rw [List.length_take]; omega
          clear hgc hy
          go_wp2_with fail
          refine (l2In_any (B := fun _ => True) [] _ y wr (ListAt.nil _ _ _ _ _ _)).mono ?_
          rintro e w2 ⟨rfl, hb2⟩
          have HB2 := Lib.hid (HBR.out.trans (hb2.mono hzr))
          have x02 := (hb2.cell (p := ⟨g, k, none⟩) hg2).trans x0
          have zg2 := bsz (World.block_lt_of_cell? _ _ x02)
          have HR2 := Lib.hid (own_below HRR.out hb2)
          have hz2 := hb2.size
          rw [show inS [] y = false from rfl]
          clear hb2 x0 zg
          go_wp2_with fail
          refine (l2Put_asc base l' _ y w2 HR2.out (by omega) (by omega) HAC.out.asc).mono ?_
          rintro e w3 ⟨l3, v3, rfl, hr3, hac3, hb3⟩
          have HR3 := Lib.hid hr3
          have HAC3 := Lib.hid (HAC.out.trans hac3 HTK.out)
          have HB3 := Lib.hid (HB2.out.trans (hb3.mono (by omega)))
          clear hr3 hac3 hb3
          go_wp2
          exact ⟨⟨k + 1, _, l3, by omega, by go_num, rfl, HR3.out, HAC3.out, HB3.out⟩, by simp [intOf]; omega⟩
        · obtain rfl : k = ls.length := by omega
          have HAC2 := Lib.hid (show AscOf l' l a.vs from AscOf.same (by have := HAC.out; rwa [List.take_length] at this) (fun z => by rw [HACS.out.mem]; simp) hlsl)
          have HBA := Lib.hid (HB1.out.trans (HBR.out.mono hz1))
          obtain ⟨a0, a1, a2, a3, a4⟩ := five_at ((HBA.out.block w.heap.size (by omega)).trans HA0.out)
          have za := bsz (show w.heap.size < wr.heap.size by omega)
          have hll2 := HAC2.out.len
          go_wp2
          clear a0 a1 a2 a3 a4 za
          go_loopw [0, 9] (fun y i wr2 => ∃ (k : Nat) (v' : Value) (l2 : List ByteArray), k ≤ ps.length ∧ i = .int .i64 k ∧ y = v' ∧ wr2.ownsRow base 9 1 v' l2.length (strW l2) ∧ AscOf l2 l (a.vs ++ Fm.vss (ps.take k)) ∧ Below W.heap.size W wr2) (fun _ i _ => ps.length - (intOf i).toNat)
          case atStart => exact ⟨0, _, l', Nat.zero_le _, rfl, rfl, HRR.out, by rw [List.take_zero, Fm.vss, List.append_nil]; exact HAC2.out, HBA.out⟩
          case round =>
            obtain ⟨k2, v', l2, hk2, rfl, hxv, hr, hasc, hbr⟩ := hrel
            replace hxv := hxv.symm
            subst hxv
            have HRR2 := Lib.hid hr
            have HAC3 := Lib.hid hasc
            have HBR2 := Lib.hid hbr
            have hzr2 := hbr.size
            have hll3 := hasc.len
            rw [List.length_append] at hll3
            obtain ⟨a0, a1, a2, a3, a4⟩ := five_at ((hbr.block w.heap.size (by omega)).trans HA0.out)
            have za := bsz (blk_lt ((hbr.block w.heap.size (by omega)).trans HA0.out))
            clear hr hasc hbr
            by_cases hlt2 : k2 < ps.length
            · have hlti2 : (k2 : Int) < ps.length := by omega
              obtain ⟨b, o, hpe, hB, x0, x1, x2, x3, x4, hx0, hx1, hx2, hx3, hx4, hx⟩ := (HL.out.mono (SameOn.below HBR2.out) (fun _ h => h) (fun x cs _ hx => FmAt.below HBR2.out hx)).at5 hlt2
              have hyq := Fm.nqs_get HNQ.out hlt2
              obtain ⟨y, hy⟩ : ∃ y, ps[k2] = y := ⟨_, rfl⟩
              have HTK2 := Lib.hid (show ps.take (k2 + 1) = ps.take k2 ++ [y] by rw [List.take_succ_eq_append_getElem hlt2, hy])
              have hvb := nns_bound HTK2.out
              have hvl := Fm.vss_len (ps.take k2)
              rw [hy] at hx hyq
              have HX := Lib.hid hx
              have HYQ := Lib.hid hyq
              have zb := bsz (World.block_lt_of_cell? _ _ hx0)
              have havs2 := a.vs_len
              subst hpe
              clear hx hy hyq
              go_wp2_with fail
              refine (IH.out y _ _ _ _ _ _ l2 _ HX.out HYQ.out (by omega) HRR2.out HAC3.out.asc (by first | omega | (simp only [List.length_nil] at hll3; omega))).mono ?_
              rintro e w4 ⟨l4, v4, rfl, hr4, hac4, hb4⟩
              have HR4 := Lib.hid hr4
              have HAC4 := Lib.hid (HAC3.out.trans hac4 (show a.vs ++ Fm.vss (ps.take (k2 + 1)) = (a.vs ++ Fm.vss (ps.take k2)) ++ y.vs by rw [HTK2.out, Fm.vss_snoc, List.append_assoc]))
              have HB4 := Lib.hid (HBR2.out.trans (hb4.mono hzr2))
              clear hr4 hac4 hb4
              go_wp2
              exact ⟨⟨k2 + 1, _, l4, by omega, by go_num, rfl, HR4.out, HAC4.out, HB4.out⟩, by simp [intOf]; omega⟩
            · obtain rfl : k2 = ps.length := by omega
              have HAE := Lib.hid (show AscOf l2 l (Fm.mk _ a x ps).vs by have := HAC3.out; rw [List.take_length] at this; rw [HS.out]; exact this)
              have HBE := Lib.hid (Below.step HBW.out HBR2.out)
              go_wp2
              go_ret
              refine ⟨l2, _, ?_, HRR2.out, HAE.out, HBE.out⟩
              first | rfl | go_simp
    · have h3i : (op == 3) = false := by simpa using h3
      have HS := Lib.hid (show (Fm.mk op a x ps).vs = [] ++ Fm.vss ps by rw [Fm.vs, if_neg h3])
      have HAC2 := Lib.hid (AscOf.refl HAS.out)
      have hll2 : l.length ≤ l.length + ([] : List ByteArray).length := by simp
      have HBA := Lib.hid (Below.refl W.heap.size W)
      go_enter Tryz.func75, Tryz.ntmps75
      go_wp2_with fail
      rw [← hW]
      clear hW
      go_wp2
      clear a0 a1 a2 a3 a4 za
      go_loopw [0, 9] (fun y i wr2 => ∃ (k : Nat) (v' : Value) (l2 : List ByteArray), k ≤ ps.length ∧ i = .int .i64 k ∧ y = v' ∧ wr2.ownsRow base 9 1 v' l2.length (strW l2) ∧ AscOf l2 l (([] : List ByteArray) ++ Fm.vss (ps.take k)) ∧ Below W.heap.size W wr2) (fun _ i _ => ps.length - (intOf i).toNat)
      case atStart => exact ⟨0, _, l, Nat.zero_le _, rfl, rfl, HR.out, by rw [List.take_zero, Fm.vss, List.append_nil]; exact HAC2.out, HBA.out⟩
      case round =>
        obtain ⟨k2, v', l2, hk2, rfl, hxv, hr, hasc, hbr⟩ := hrel
        replace hxv := hxv.symm
        subst hxv
        have HRR2 := Lib.hid hr
        have HAC3 := Lib.hid hasc
        have HBR2 := Lib.hid hbr
        have hzr2 := hbr.size
        have hll3 := hasc.len
        rw [List.length_append] at hll3
        obtain ⟨a0, a1, a2, a3, a4⟩ := five_at ((hbr.block w.heap.size (by omega)).trans HA0.out)
        have za := bsz (blk_lt ((hbr.block w.heap.size (by omega)).trans HA0.out))
        clear hr hasc hbr
        by_cases hlt2 : k2 < ps.length
        · have hlti2 : (k2 : Int) < ps.length := by omega
          obtain ⟨b, o, hpe, hB, x0, x1, x2, x3, x4, hx0, hx1, hx2, hx3, hx4, hx⟩ := (HL.out.mono (SameOn.below HBR2.out) (fun _ h => h) (fun x cs _ hx => FmAt.below HBR2.out hx)).at5 hlt2
          have hyq := Fm.nqs_get HNQ.out hlt2
          obtain ⟨y, hy⟩ : ∃ y, ps[k2] = y := ⟨_, rfl⟩
          have HTK2 := Lib.hid (show ps.take (k2 + 1) = ps.take k2 ++ [y] by rw [List.take_succ_eq_append_getElem hlt2, hy])
          have hvb := nns_bound HTK2.out
          have hvl := Fm.vss_len (ps.take k2)
          rw [hy] at hx hyq
          have HX := Lib.hid hx
          have HYQ := Lib.hid hyq
          have zb := bsz (World.block_lt_of_cell? _ _ hx0)
          have havs2 := a.vs_len
          subst hpe
          clear hx hy hyq
          go_wp2_with fail
          refine (IH.out y _ _ _ _ _ _ l2 _ HX.out HYQ.out (by omega) HRR2.out HAC3.out.asc (by first | omega | (simp only [List.length_nil] at hll3; omega))).mono ?_
          rintro e w4 ⟨l4, v4, rfl, hr4, hac4, hb4⟩
          have HR4 := Lib.hid hr4
          have HAC4 := Lib.hid (HAC3.out.trans hac4 (show ([] : List ByteArray) ++ Fm.vss (ps.take (k2 + 1)) = (([] : List ByteArray) ++ Fm.vss (ps.take k2)) ++ y.vs by rw [HTK2.out, Fm.vss_snoc, List.append_assoc]))
          have HB4 := Lib.hid (HBR2.out.trans (hb4.mono hzr2))
          clear hr4 hac4 hb4
          go_wp2
          exact ⟨⟨k2 + 1, _, l4, by omega, by go_num, rfl, HR4.out, HAC4.out, HB4.out⟩, by simp [intOf]; omega⟩
        · obtain rfl : k2 = ps.length := by omega
          have HAE := Lib.hid (show AscOf l2 l (Fm.mk _ a x ps).vs by have := HAC3.out; rw [List.take_length] at this; rw [HS.out]; exact this)
          have HBE := Lib.hid (Below.step HBW.out HBR2.out)
          go_wp2
          go_ret
          refine ⟨l2, _, ?_, HRR2.out, HAE.out, HBE.out⟩
          first | rfl | go_simp
set_option maxHeartbeats 1600000 in
theorem l8Free_any {B : Nat → Prop} (m : Nat) (t : Fm) (v0 v1 v2 v3 v4 : Value) (w : World) (h : FmAt B m w t [v0, v1, v2, v3, v4]) (hq : t.nq = true) (hz : t.nn ≤ 900000) :
    Calls Tryz.prog 49 #[.agg #[v0, v1, v2, v3, v4]] w (AscQ 9 w.heap.size [] t.vs w) := by
  obtain ⟨p, c, q, d, rfl, rfl, rfl, rfl, rfl, -⟩ := h.form
  have H := Lib.hid h
  have HQ := Lib.hid hq
  obtain ⟨W, hW⟩ : ∃ W : World, W = ((w.alloc (.cells #[.int .i64 t.op, .string t.a.n, .slice p t.a.us.length c, .string t.v, .slice q t.ps.length d] 29)).alloc (.cells #[] 9)).alloc (.cells #[] 9) := ⟨_, rfl⟩
  have hbW : Below w.heap.size w W := by rw [hW]; exact bel
  have HR := Lib.hid (show W.ownsRow w.heap.size 9 1 (.slice (some ⟨w.heap.size + 1, 0, none⟩) 0 0) ([] : List ByteArray).length (strW []) by
    have := row_empty (w.alloc (.cells #[.int .i64 t.op, .string t.a.n, .slice p t.a.us.length c, .string t.v, .slice q t.ps.length d] 29)) w.heap.size 9 1 (by simp)
    rw [hW]
    refine own_below (w := (w.alloc (.cells #[.int .i64 t.op, .string t.a.n, .slice p t.a.us.length c, .string t.v, .slice q t.ps.length d] 29)).alloc (.cells #[] 9)) ?_ (by exact bel)
    simpa [strW] using this)
  have HBW := Lib.hid hbW
  clear h hbW hq
  go_enter Tryz.func49, Tryz.ntmps49
  go_wp2_with fail
  rw [← hW]
  clear hW
  refine (l8Into_any w.heap.size _ _ m t _ _ _ _ _ _ [] W (FmAt.below HBW.out H.out) HQ.out HBW.out.size HR.out List.Pairwise.nil (by simp; omega)).mono ?_
  rintro e w2 ⟨l2, v2, rfl, hr2, hac2, hb2⟩
  have HR2 := Lib.hid hr2
  have HBE := Lib.hid (Below.step HBW.out hb2)
  have HAE := Lib.hid hac2
  clear hr2 hb2 hac2
  go_wp2
  go_ret
  refine ⟨l2, _, ?_, HR2.out, HAE.out, HBE.out⟩
  first | rfl | go_simp
/-! ### The library's order -/
theorem le_less (x y : List UInt8) : decide (x ≤ y) = !Op.bytesLess y x := by
  rw [Go.Proofs.bytesLess_eq]
  by_cases h : y < x
  · rw [decide_eq_true h, decide_eq_false (fun h2 => h2 h)]; rfl
  · rw [decide_eq_false h, decide_eq_true (show x ≤ y from h)]; rfl
def srtB (l : List ByteArray) : List (List UInt8) := (l.map fun s => s.data.toList).mergeSort fun x y => decide (x ≤ y)
def srtL (l : List ByteArray) : List ByteArray := (srtB l).map fun b => ⟨b.toArray⟩
theorem srt_perm (l : List ByteArray) : (srtL l).Perm l := by
  have h := List.mergeSort_perm (l.map fun s => s.data.toList) (fun x y => decide (x ≤ y))
  have h2 := h.map (fun b : List UInt8 => (⟨b.toArray⟩ : ByteArray))
  rw [List.map_map] at h2
  have e : l.map ((fun b : List UInt8 => (⟨b.toArray⟩ : ByteArray)) ∘ fun s => s.data.toList) = l := by
    rw [show ((fun b : List UInt8 => (⟨b.toArray⟩ : ByteArray)) ∘ fun s : ByteArray => s.data.toList) = id from funext fun s => rfl, List.map_id]
  rwa [e] at h2
theorem srt_asc {l : List ByteArray} (hn : l.Nodup) : Asc lessB (srtL l) := by
  have hp : (srtB l).Pairwise fun x y => (decide (x ≤ y)) = true := by
    refine List.pairwise_mergeSort (fun a b c h1 h2 => ?_) (fun a b => ?_) _
    · rw [le_less, Bool.not_eq_true'] at h1 h2 ⊢
      cases h : Op.bytesLess c a with
      | false => rfl
      | true =>
        have h3 := less_total a b
        rw [less_total b a] at h1
        simp only [Bool.not_eq_false', Bool.or_eq_true, beq_iff_eq] at h1
        rcases h1 with h1 | h1
        · rw [less_trans _ _ _ h h1] at h2; cases h2
        · rw [h1] at h; rw [h] at h2; cases h2
    · rw [le_less, le_less, less_total b a]
      cases Op.bytesLess a b <;> simp
  have hd : (srtL l).Nodup := (srt_perm l).nodup_iff.2 hn
  rw [srtL] at hd ⊢
  rw [Asc, List.pairwise_map]
  have hd2 : (srtB l).Pairwise fun x y => x ≠ y := by
    have := List.pairwise_map.1 hd
    exact this.imp fun h e => h (by rw [e])
  refine (hp.and hd2).imp fun {x y} ⟨h1, h2⟩ => ?_
  rw [le_less, Bool.not_eq_true', less_total y x] at h1
  simp only [Bool.not_eq_false', Bool.or_eq_true, beq_iff_eq] at h1
  exact h1.resolve_right h2
theorem strW_enc (l : List ByteArray) : strW l = (l.map fun s => s.data.toList).map Go.Proofs.encStr := by
  rw [strW, List.map_map]; rfl
theorem strW_srt (l : List ByteArray) : strW (srtL l) = (srtB l).map Go.Proofs.encStr := by
  rw [strW, srtL, List.map_map]; rfl
theorem srt_len (l : List ByteArray) : (srtL l).length = l.length := (srt_perm l).length_eq
mutual
theorem colI_nodup : ∀ (t : Tm) (l : List ByteArray), l.Nodup → (t.colI l).Nodup
  | .mk n us, l, h => by
    rw [Tm.colI]
    split
    · rw [addV]
      split
      · exact h
      · next hi =>
        refine List.nodup_append.2 ⟨h, List.pairwise_singleton _ _, fun a ha b hb e => ?_⟩
        simp only [List.mem_cons, List.not_mem_nil, or_false] at hb
        subst hb; subst e
        exact hi (by rw [inS]; exact decide_eq_true ha)
    · exact colIs_nodup us l h
theorem colIs_nodup : ∀ (us : List Tm) (l : List ByteArray), l.Nodup → (Tm.colIs us l).Nodup
  | [], l, h => by rw [Tm.colIs]; exact h
  | a :: us, l, h => by rw [Tm.colIs]; exact colIs_nodup us _ (colI_nodup a l h)
end
set_option maxHeartbeats 6400000 in
theorem variablesIn_any (base M : Nat) (t : Fm) (v0 v1 v2 v3 v4 : Value) (w : World) (h : FmAt (fun b => b < base) M w t [v0, v1, v2, v3, v4]) (hb : base ≤ w.heap.size) (hz : t.sz ≤ 1000000) (hsz : Tm.szs t.atoms ≤ 900000) (hord : ∀ a ∈ t.atoms, a.ord = true) :
    Calls Tryz.prog 42 #[.agg #[v0, v1, v2, v3, v4]] w fun e w' => ∃ l' v', e = .returned v' ∧ w'.ownsRow w.heap.size 9 1 v' l'.length (strW l') ∧ AscOf l' [] (Tm.colIs t.atoms []) ∧ (∀ s ∈ l', s.size ≤ maxLen) ∧ Below w.heap.size w w' := by
  obtain ⟨p, pc, q, d, rfl, rfl, rfl, rfl, rfl, -⟩ := h.form
  obtain ⟨W, hW⟩ : ∃ W : World, W = (w.alloc (.cells #[.int .i64 t.op, .string t.a.n, .slice p t.a.us.length pc, .string t.v, .slice q t.ps.length d] 29)).alloc (.cells #[] 9) := ⟨_, rfl⟩
  have hbW : Below w.heap.size w W := by rw [hW]; exact bel
  have hsW : W.heap.size = w.heap.size + 2 := by rw [hW]; simp
  have HA0 : W.heap[w.heap.size]? = some (.cells #[.int .i64 t.op, .string t.a.n, .slice p t.a.us.length pc, .string t.v, .slice q t.ps.length d] 29 (0, 0)) := by rw [hW]; exact (hao _ _ _ (by simp)).trans (heap_alloc_new _ _)
  have HR0 := Lib.hid (show W.ownsRow w.heap.size 9 1 (.slice (some ⟨w.heap.size + 1, 0, none⟩) 0 0) 0 [] by
    have := row_empty (w.alloc (.cells #[.int .i64 t.op, .string t.a.n, .slice p t.a.us.length pc, .string t.v, .slice q t.ps.length d] 29)) w.heap.size 9 1 (by simp)
    rw [hW]; simpa using this)
  obtain ⟨a0, a1, a2, a3, a4⟩ := five_at HA0
  have za := bsz (show w.heap.size < W.heap.size by omega)
  have H := Lib.hid (FmAt.below hbW h)
  have HSZ := Lib.hid hsz
  have HORD := Lib.hid hord
  clear h hsz hord HA0
  go_enter Tryz.func42, Tryz.ntmps42
  go_wp2_with fail
  rw [← hW]
  clear hW
  refine (atomsOf_any base M M t _ _ _ _ _ W H.out (Nat.le_refl _) (by omega) hz).mono ?_
  rintro e w1 ⟨v, D, rfl, hr, hD, hT, hb1⟩
  obtain ⟨pv, cv, rfl⟩ := own_slice hr
  obtain ⟨ts, hts⟩ : ∃ ts, ts = t.atoms := ⟨_, rfl⟩
  rw [← hts] at hD HSZ HORD
  have HTS := Lib.hid hts
  have hDl : ts.length = D.length := by rw [← hD, List.length_map]
  have HR := Lib.hid hr
  have HD := Lib.hid hD
  have HT := Lib.hid hT
  have HB01 := Lib.hid (Below.step hbW hb1)
  have HR1 := Lib.hid (show w1.ownsRow base 9 1 (.slice (some ⟨w.heap.size + 1, 0, none⟩) 0 0) ([] : List ByteArray).length (strW []) from own_lower (own_below HR0.out hb1) hb)
  have hz1 := hb1.size
  have hdm : D.length ≤ 1000000 := by
    have h1 := Fm.atoms_sz t
    rw [← hts] at h1; omega
  clear hr hD hT hts hb1 hbW a0 a1 a2 a3 a4 za
  go_wp2
  go_loopw [3, 10] (fun y i wr => ∃ (k : Nat) (v' : Value) (L' : List ByteArray), k ≤ ts.length ∧ i = .int .i64 k ∧ y = v' ∧ Tm.colIs ts [] = Tm.colIs (ts.drop k) L' ∧ L'.length + Tm.szs (ts.drop k) ≤ 1000000 ∧ (∀ s ∈ L', s.size ≤ maxLen) ∧ GrS 9 base w1 (.slice (some ⟨w.heap.size + 1, 0, none⟩) 0 0) L' v' wr) (fun _ i _ => ts.length - (intOf i).toNat)
  case atStart => exact ⟨0, _, [], Nat.zero_le _, rfl, rfl, rfl, by rw [List.drop_zero]; have := HSZ.out; simp only [List.length_nil]; omega, fun s hs => by simp at hs, GrS.refl HR1.out⟩
  case round =>
    obtain ⟨k, v', L', hk, rfl, hxv, heq, hlz, hls, hg⟩ := hrel
    replace hxv := hxv.symm
    subst hxv
    have HGS := Lib.hid hg
    have HEQ := Lib.hid heq
    have HL' := Lib.hid hls
    have hzr := hg.gr.size
    have HKP := Lib.hid (show ∀ b, b < w1.heap.size → b ≠ w.heap.size + 1 → wr.heap[b]? = w1.heap[b]? from fun b hb' hne => hg.gr.block b hb' (by simp [Value.ownBlock]; omega))
    have HBR := Lib.hid (show Below w.heap.size w wr from ⟨hg.gr.os.trans HB01.out.os, hg.gr.tape.trans HB01.out.tape, hg.gr.output.trans HB01.out.output, by have := HB01.out.size; omega, fun b hb' => (HKP.out b (by have := HB01.out.size; omega) (by omega)).trans (HB01.out.block b hb')⟩)
    clear hg heq hls
    by_cases hlt : k < D.length
    · have hlti : (k : Int) < D.length := by omega
      have hlt2 : k < ts.length := by omega
      obtain ⟨g, hpe, hg1, hg2, hcell⟩ := rowT_cell HR.out (by omega)
      obtain ⟨x0, x1⟩ := hcell k D[k] (List.getElem?_eq_getElem hlt)
      have hxt := HT.out D[k] (List.getElem_mem hlt)
      have hdk := Tm.colIs_drop (l := L') hlt2
      have hsk := Tm.szs_drop' hlt2
      have hod := HORD.out ts[k] (List.getElem_mem hlt2)
      have hek : ts[k] = D[k].t := by
        have := HD.out
        subst this
        simp
      rw [hek] at hdk hsk hod
      obtain ⟨y, hy⟩ : ∃ y, D[k] = y := ⟨_, rfl⟩
      rw [hy] at x0 x1 hxt hdk hsk hod
      have HDK := Lib.hid hdk
      have HOD := Lib.hid hod
      have HX := Lib.hid (show TmAt (fun b => b < base) M wr y.t [.string y.t.n, .slice y.p y.t.us.length y.c] from TmAt.mono (fun b hb' hl => HKP.out b hl (by have : b < base := hb'; omega)) (fun _ h => h) _ _ _ _ (Nat.le_refl _) hxt)
      replace x0 := (World.cell?_of_block (a := ⟨g, k * 2, none⟩) (HKP.out g hg2 (by omega))).trans x0
      replace x1 := (World.cell?_of_block (a := ⟨g, k * 2 + 1, none⟩) (HKP.out g hg2 (by omega))).trans x1
      have zb := bsz (World.block_lt_of_cell? _ _ x0)
      have hyl := Tm.colI_len y.t L'
      subst hpe
      clear hcell hxt hdk hek hy hod
      go_wp2_with fail
      obtain ⟨Y, hY⟩ : ∃ q, q = wr.alloc (.cells #[.string y.t.n, .slice y.p y.t.us.length y.c] 26) := ⟨_, rfl⟩
      have hbY : Below wr.heap.size wr Y := by rw [hY]; exact (Below.refl _ _).alloc (Nat.le_refl _) _
      have hzY := hbY.size
      rw [← hY]
      clear hY
      refine (collect_any base M y.t _ _ _ L' Y (TmAt.below hbY HX.out) HOD.out (by omega) (own_below HGS.out.row hbY) HL'.out (by omega)).mono ?_
      rintro e w2 ⟨v2, rfl, h2, h3⟩
      have HT2 := Lib.hid ((HGS.out.be hbY).trans h2)
      have H3 := Lib.hid h3
      clear h2 h3
      go_wp2
      exact ⟨⟨k + 1, _, y.t.colI L', by omega, by go_num, rfl, by rw [HEQ.out, HDK.out], by omega, H3.out, HT2.out⟩, by simp [intOf]; omega⟩
    · obtain rfl : k = ts.length := by omega
      have hlti : ¬ (ts.length : Int) < D.length := by omega
      rw [List.drop_length] at HEQ
      have HSY := Lib.hid (show Tm.colIs t.atoms [] = L' by rw [← HTS.out, HEQ.out, Tm.colIs])
      have HND := Lib.hid (show L'.Nodup by rw [← HSY.out]; exact colIs_nodup _ _ List.nodup_nil)
      have HASC := Lib.hid (show AscOf (srtL L') [] (Tm.colIs t.atoms []) from ⟨srt_asc HND.out, fun z => by rw [(srt_perm L').mem_iff, HSY.out]; simp, by rw [srt_len, HSY.out]; simp⟩)
      have HSM := Lib.hid (show ∀ s ∈ srtL L', s.size ≤ maxLen from fun s hs => HL'.out s ((srt_perm L').mem_iff.1 hs))
      rcases HGS.out.row.2 with ⟨rfl, h0⟩ | ⟨g, c, cur, rfl, hgb, hbk, h1, h2, h3, h4⟩
      · obtain rfl : L' = [] := List.eq_nil_of_length_eq_zero h0
        clear h0
        go_wp2_with fail
        refine (Tryz.slices_Sort_string_none none 0 wr).mono ?_
        rintro e w2 ⟨rfl, rfl⟩
        go_wp2
        go_ret
        refine ⟨srtL [], .slice none 0 0, ?_, ?_, HASC.out, HSM.out, HBR.out⟩
        · first | rfl | go_simp
        · rw [srt_len]; exact ⟨by rw [strW_srt]; simp [srtB], .inl ⟨rfl, rfl⟩⟩
      · have hgl := blk_lt hbk
        have hgw : w.heap.size ≤ g := by
          rcases HGS.out.nr with e | ⟨b', e, hge⟩
          · simp [Value.ownBlock] at e; omega
          · simp [Value.ownBlock] at e; omega
        have hln : (L'.map fun s => s.data.toList).length = L'.length := List.length_map ..
        have hsort := Tryz.slices_Sort_string g 0 c (L'.map fun s => s.data.toList) wr (holds_of_block hbk (by rw [hln, ← strW_enc]; simpa using h4)) hgl (by rw [hln]; unfold maxLen at h2; omega)
        rw [hln] at hsort
        have HSO := Lib.hid hsort
        have HBK := Lib.hid hbk
        have HCU := Lib.hid h3
        clear hsort hbk h3 h4
        go_wp2_with fail
        refine HSO.out.mono ?_
        rintro e w2 ⟨rfl, n, os, hw2⟩
        have HRW := Lib.hid (show w2.ownsRow w.heap.size 9 1 (.slice (some ⟨g, 0, none⟩) L'.length c) (srtL L').length (strW (srtL L')) by
          have := ownsRow_sorted (os := os) (n := n) (ss := L'.map fun s => s.data.toList) (ts := srtB L') (by rw [srtB, List.length_mergeSort]) hgw HBK.out (by rw [hln]; exact h1) h2 (by rw [HCU.out])
          rw [hln] at this
          rw [hw2, srt_len, strW_srt]; exact this)
        have HBE := Lib.hid (show Below w.heap.size w w2 by
          have hg2 := grownBy_sorted (w := wr) (g := g) (n := n) (os := os) (srtB L').toArray
          rw [hw2]
          exact ⟨hg2.os.trans HBR.out.os, hg2.tape.trans HBR.out.tape, hg2.output.trans HBR.out.output, Nat.le_trans HBR.out.size hg2.size, fun b hb' => (hg2.block b (by have := HBR.out.size; omega) (by simp; omega)).trans (HBR.out.block b hb')⟩)
        clear hw2
        go_wp2
        go_ret
        refine ⟨srtL L', _, ?_, HRW.out, HASC.out, HSM.out, HBE.out⟩
        first | rfl | go_simp
end Go.Proofs.YtmbkjdkjemlfkaaGreatDoor
