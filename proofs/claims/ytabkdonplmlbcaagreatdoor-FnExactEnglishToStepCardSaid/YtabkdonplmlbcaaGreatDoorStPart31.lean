import Derived.Test.YtabkdonplmlbcaaGreatDoorStPart30
namespace Go.Proofs.YtabkdonplmlbcaaGreatDoor
set_option maxRecDepth 100000
open Go.RowKit
theorem clsOf_wts : ∀ (n : Nat) (f : Fm) (c : List Lit3), f.form = true → clsOf n f = some c → Cls.wts c ≤ f.wt
 | 0, _, _, _, h => by rw [clsOf] at h; cases h
 | n + 1, f, c, hf, h => by
  rw [clsOf] at h
  by_cases h6 : f.op = 6
  ·obtain ⟨g, g', rfl, hg, hg'⟩ := form_or hf h6
   rw [if_pos (by rfl)] at h
   have h : (if (litOf g).2 then (clsOf n g').map ((litOf g).1 :: ·) else none) = some c := h
   split at h
   ·cases hc : clsOf n g' with
    | none => rw [hc] at h; cases h
    | some d =>
     rw [hc] at h
     obtain rfl : (litOf g).1 :: d = c := Option.some.inj h
     have h1 := clsOf_wts n g' d hg' hc
     have h2 := litOf_wt hg
     have h3 := or_wt g g'
     rw [Cls.wts]; omega
   ·cases h
  ·rw [if_neg h6] at h
   split at h
   ·obtain rfl : [(litOf f).1] = c := Option.some.inj h
    have h2 := litOf_wt hf
    rw [Cls.wts, Cls.wts]; omega
   ·cases h
theorem etfF_good {s : ByteArray} (h : etfOk s = true) : (etfF s).form = true ∧ (etfF s).wt ≤ 12000 := by
 have h0 := h
 simp only [etfOk, Bool.and_eq_true, decide_eq_true_eq] at h
 obtain ⟨F, hg, he⟩ := pOk_iff.1 h.2
 have e : etfF s = (pRead s.data.toList).1 := by rw [etfF, if_pos h0]
 have hf := hg
 rw [Fm.good, Bool.and_eq_true] at hf
 refine ⟨by rw [e, pOk_read hg he]; exact hf.2, ?_⟩
 have h1 := pEng_wt s.data.toList (s.data.toList.length + 2) ⟨0, false⟩
 have h2 := (pEng_pos s.data.toList (s.data.toList.length + 2) ⟨0, false⟩ (Nat.zero_le _)).2
 rw [e, pRead]
 rw [← size_list] at h1 h2 ⊢
 omega
theorem own_cap {α : Type} {S : Nat → Prop} {w : World} {e : TypeId} {size : Nat} {R : (Nat → Prop) → α → List Value → Prop} {v : Value} {xs : List α} (h : OwnRow S w e size R v xs) : ∀ p d, v = .slice p xs.length d → xs.length ≤ d := by
 obtain ⟨_, vals, Ss, h1, _⟩ := h
 intro p d hv
 rcases h1.2 with ⟨rfl, h0⟩ | ⟨g, cap, cur, rfl, _, _, hc, _⟩
 ·omega
 ·injection hv with _ _ e; omega
def EtcV (n : Nat) (ok : Bool) (c : List Lit3) (w : World) (e : Ending) (w' : World) : Prop :=
 Below w.heap.size w w' ∧ ∃ p k d, e = .returned (.tuple #[.agg #[.slice p k d], .bool ok]) ∧ ClsOwn 64 81 n (NewB w w') w' c (.slice p k d)
theorem EtcV.no {n : Nat} {ok : Bool} {c : List Lit3} {w w' : World} (h : ok = false ∧ c = []) (hb : Below w.heap.size w w') : EtcV n ok c w (.returned (.tuple #[.agg #[.slice none 0 0], .bool false])) w' := by
 obtain ⟨rfl, rfl⟩ := h
 exact ⟨hb, _, _, _, rfl, ClsOwn.nil _ _ _ _ _⟩
theorem iOk_no {s : ByteArray} (hne : s.data.toList ≠ sContr) (h : ∀ c, iFm s = some c → Cls.good c = true → Cls.eng c ≠ s.data.toList) : iOk s = false ∧ iC s = [] := by
 have hb : (s.data.toList == sContr) = false := by simpa using hne
 have hk : iOk s = false := by
  rw [iOk, hb, Bool.false_or]
  cases hi : iFm s with
  | none => rfl
  | some c =>
   cases hg : Cls.good c
   ·simp [hg]
   ·have := h c hi hg
    simp [hg, this]
 exact ⟨hk, by rw [iC, if_neg hne, if_neg (by rw [hk]; simp)]⟩
theorem iOk_some {s : ByteArray} {c : List Lit3} (hne : s.data.toList ≠ sContr) (hi : iFm s = some c) (hg : Cls.good c = true) (he : Cls.eng c = s.data.toList) : iOk s = true ∧ iC s = c := by
 have hb : (s.data.toList == sContr) = false := by simpa using hne
 have hk : iOk s = true := by rw [iOk, hb, hi]; simp [hg, he]
 exact ⟨hk, by rw [iC, if_neg hne, if_pos hk, hi]; rfl⟩
set_option maxHeartbeats 3200000 in
theorem implETC_any (s : ByteArray) (hz : s.size ≤ 1000000000000) (w : World) : Calls Tryz.prog 15 #[.string s] w (EtcV (2 * s.size + 7) (iOk s) (iC s) w) := by
 by_cases hq : s = ⟨sContr.toArray⟩
 ·subst hq
  have H1 := Lib.hid (show iOk ⟨sContr.toArray⟩ = true ∧ iC ⟨sContr.toArray⟩ = [] from ⟨rfl, rfl⟩)
  go_enter Tryz.func15, Tryz.ntmps15
  go_wp2
  refine bodyPost_ret (v := .tuple #[.agg #[.slice none 0 0], .bool true]) (by simp only [results, Tryz.results15]; go_simp) rfl ?_
  rw [H1.out.1, H1.out.2]
  exact ⟨by exact bel, _, _, _, rfl, ClsOwn.nil _ _ _ _ _⟩
 ·have hne : s.data.toList ≠ sContr := fun e => hq (by rw [← e])
  have hq2 : (s.toList == sContr) = false := by rw [ByteArray.toList_eq]; simpa using hne
  have HNE := Lib.hid hne
  have HF := Lib.hid (show iFm s = if etfOk s then clsOf ((etfF s).sz + 1) (etfF s) else none from rfl)
  unfold sContr at hq2
  go_enter Tryz.func15, Tryz.ntmps15
  go_wp2_with fail
  refine (implETF_any s hz _).mono ?_
  rintro e w1 ⟨hb1, x0, x1, x2, x3, x4, rfl, hO1⟩
  obtain ⟨p, c, q, d, rfl, rfl, rfl, rfl, rfl, -⟩ := hO1.form
  have HO := Lib.hid hO1
  clear hO1
  have ⟨cb1, fb1⟩ := bcell hb1
  have hq1 := hb1.size
  simp at hq1
  have z1 := bsz (show w.heap.size < w1.heap.size by omega)
  cases hok : etfOk s
  ·have HNO := Lib.hid (iOk_no HNE.out (fun c hc => by rw [HF.out, hok] at hc; cases hc))
   go_wp2
   refine bodyPost_ret (v := .tuple #[.agg #[.slice none 0 0], .bool false]) (by simp only [results, Tryz.results15]; go_simp) rfl (EtcV.no HNO.out (by exact bel))
  ·have hgood := etfF_good hok
   have HG := Lib.hid hgood
   have hw12 := hgood.2
   have HF2 := Lib.hid (show iFm s = clsOf ((etfF s).sz + 1) (etfF s) by rw [HF.out, hok]; rfl)
   clear hgood
   go_wp2_with fail
   refine (clauseOfFormula_any (m := 2 * s.size + 5) (SF := NewB (w.alloc (.cells #[.slice none 0 0] 25)) w1) (etfF s) _ _ _ _ _ _ (FmOwn.later (by exact bel) HO.out) (fun b hb => by have := hb.2; simp; omega) HG.out.1 (by omega)).mono ?_
   rintro e w2 ⟨hb2, p3, n3, d3, rfl, hcl⟩
   rw [← HF2.out] at hcl ⊢
   have HCL := Lib.hid hcl
   clear hcl
   have ⟨cb2, fb2⟩ := bcell hb2
   have hq2' := hb2.size
   simp at hq2'
   have z2 := bsz (show w.heap.size < w2.heap.size by omega)
   have z21 := bsz (show w1.heap.size < w2.heap.size by omega)
   cases hk2 : okC (iFm s)
   ·have HNO := Lib.hid (iOk_no HNE.out (fun c hc hg _ => by rw [hc] at hk2; rw [show okC (some c) = Cls.good c from rfl, hg] at hk2; cases hk2))
    go_wp2
    refine bodyPost_ret (v := .tuple #[.agg #[.slice none 0 0], .bool false]) (by simp only [results, Tryz.results15]; go_simp) rfl (EtcV.no HNO.out (by exact bel))
   ·obtain ⟨cl, hcs, hown⟩ := HCL.out hk2
    have hgc : Cls.good cl = true := by rw [hcs] at hk2; exact hk2
    have hga := good_atoms hgc
    have hwc := clsOf_wts _ _ _ HG.out.1 (HF2.out.symm.trans hcs)
    have hcap := own_cap hown
    obtain ⟨p3', d3', hv3, -⟩ := OwnRow.form hown
    simp only [Value.slice.injEq] at hv3
    obtain ⟨rfl, rfl, rfl⟩ := hv3
    have HCA := Lib.hid (And.intro hcap (And.intro hga.1 hga.2))
    have HOW := Lib.hid hown
    have HCS := Lib.hid (And.intro hcs hgc)
    clear hown hga hcap hcs hgc
    go_wp2_with fail
    refine (clauseEnglish_any (2 * s.size + 5 + 2) cl _ _ (ClsAt.below (by exact bel) (ClsOwn.at_ HOW.out)) HCA.out.1 HCA.out.2.1 HCA.out.2.2 (by omega)).mono ?_
    rintro e w3 ⟨rfl, hb3⟩
    have ⟨cb3, fb3⟩ := bcell hb3
    have hq3 := hb3.size
    simp at hq3
    have z3 := bsz (show w.heap.size < w3.heap.size by omega)
    have z32 := bsz (show w2.heap.size < w3.heap.size by omega)
    by_cases hq5 : (⟨(Cls.eng cl).toArray⟩ : ByteArray) = s
    ·have HY := Lib.hid (iOk_some HNE.out HCS.out.1 HCS.out.2 (by rw [← hq5]))
     have hq6 : (Cls.eng cl == s.toList) = true := by rw [ByteArray.toList_eq, ← hq5]; simp
     go_wp2
     refine bodyPost_ret (v := .tuple #[.agg #[.slice p3 cl.length d3], .bool true]) (by simp only [results, Tryz.results15]; go_simp) rfl ?_
     rw [HY.out.1, HY.out.2]
     refine ⟨by exact bel, _, _, _, rfl, ClsOwn.mono (by omega) (fun b hb hlt => ?_) (fun b hb => ?_) HOW.out⟩
     ·have hbw : w.heap.size + 1 ≤ b := by
       rcases hb with h | h
       ·have := h.1; simpa using this
       ·have := h.1; simp at this; omega
      exact (heap_setCell_other w3 ⟨w.heap.size, 0, none⟩ b _ (by simp; omega)).trans ((hb3.block b (by simp; omega)).trans (hao w2 _ _ hlt))
     ·rcases hb with h | h
      ·have h1 := h.1
       have h2 := h.2
       simp at h1
       exact ⟨by omega, by simp; omega⟩
      ·have h1 := h.1
       have h2 := h.2
       simp at h1
       exact ⟨by omega, by simp; omega⟩
    ·have HNO := Lib.hid (iOk_no HNE.out (fun c hc _ he => by rw [HCS.out.1] at hc; obtain rfl := Option.some.inj hc; exact hq5 (by rw [he])))
     have hq6 : (Cls.eng cl == s.toList) = false := by
      rw [ByteArray.toList_eq, beq_eq_false_iff_ne]
      exact fun e => hq5 (by rw [e])
     go_wp2
     refine bodyPost_ret (v := .tuple #[.agg #[.slice none 0 0], .bool false]) (by simp only [results, Tryz.results15]; go_simp) rfl (EtcV.no HNO.out (by exact bel))
theorem cellC' {w w' : World} {a : Addr} {v : Value} (hb : Below w.heap.size w w') (h : w.cell? a = some v) : w'.cell? a = some v := (hb.cell (World.block_lt_of_cell? w _ h)).trans h
theorem ints_at {B : Nat → Prop} {w : World} {p : Option Addr} {n c : Nat} {us : List Int} (h : IntsAt B w (.slice p n c) us) (h0 : 0 < us.length) : ∃ b o, p = some ⟨b, o, none⟩ ∧ ∀ (i : Nat) (hi : i < us.length), w.cell? ⟨b, o + i, none⟩ = some (.int .i64 us[i]) := by
 obtain ⟨b, o, rfl, -, -⟩ := h.at_ h0
 refine ⟨b, o, rfl, fun i hi => ?_⟩
 obtain ⟨b', o', he, -, hx, -⟩ := h.at_ hi
 simp only [Option.some.injEq, Addr.mk.injEq, and_true] at he
 obtain ⟨rfl, rfl⟩ := he
 exact hx
set_option maxHeartbeats 6400000 in
theorem origin_any {B : Nat → Prop} (m : Nat) (s : Stp) (p q : Option Addr) (c d : Nat) (v3 : Value) (w : World) (h : StpAt B m w s [.int .i64 s.rule, .slice p s.ps.length c, .slice q s.wh.length d, v3]) (hg : s.nums = true) (hp : ∀ x ∈ s.ps, 0 ≤ x ∧ x ≤ 99) (hw : ∀ x ∈ s.wh, 0 ≤ x ∧ x ≤ 99) (hc : s.ps.length ≤ c) (hd : s.wh.length ≤ d) (hE : Env w) :
  Calls Tryz.prog 47 #[.agg #[.int .i64 s.rule, .slice p s.ps.length c, .slice q s.wh.length d, v3]] w fun e w' => e = .returned (.string ⟨s.org.toArray⟩) ∧ Below w.heap.size w w' := by
 obtain ⟨_, _, _, _, r, g, -, -, -, rfl, hr, l1, l2, l3, ha, hb, hcl⟩ := h.form
 have HC := Lib.hid (Stp.nums_cases hg)
 obtain ⟨ru, ps, wh, cl⟩ := s
 simp only at l1 l2 l3 ha hb hc hd hr HC hp hw ⊢
 have HE := Lib.hid hE
 have HA := Lib.hid ha
 have HB := Lib.hid hb
 clear h ha hb hcl hE hg l1 l2 l3 hr
 rcases HC.out with ⟨rfl, rfl, a, rfl⟩ | ⟨rfl, ⟨x, y, rfl⟩, a, z, rfl⟩ | ⟨rfl, ⟨x, rfl⟩, a, z, rfl⟩ | ⟨rfl, ⟨x, y, rfl⟩, a, z, t, l, rfl, hl0, hz, hpl⟩ | ⟨rfl, ⟨x, rfl⟩, a, rfl⟩ | ⟨rfl, ⟨x, l, rfl, hl0, hl10⟩, rfl⟩
 ·obtain ⟨b, o, rfl, hy⟩ := ints_at HB.out (by simp)
  have y0 : w.cell? ⟨b, o + 0, none⟩ = some (.int .i64 a) := hy 0 (by simp)
  have ba := hw a (by simp)
  have lba := cnt_len ba.1 ba.2
  simp only [List.length_cons, List.length_nil, Nat.zero_add] at hd ⊢
  clear hp hw hy HC HA HB
  go_enter Tryz.func47, Tryz.ntmps47
  go_wp2_with fail
  obtain ⟨W, hW⟩ : ∃ W : World, W = w.alloc (.cells #[.int .i64 1, .slice p 0 c, .slice (some ⟨b, o, none⟩) 1 d, .slice r cl.length g] 27) := ⟨_, rfl⟩
  have k0 : W.cell? ⟨w.heap.size, 0, none⟩ = some (.int .i64 1) := by rw [hW]; go_simp
  have k1 : W.cell? ⟨w.heap.size, 1, none⟩ = some (.slice p 0 c) := by rw [hW]; go_simp
  have k2 : W.cell? ⟨w.heap.size, 2, none⟩ = some (.slice (some ⟨b, o, none⟩) 1 d) := by rw [hW]; go_simp
  have k3 : W.cell? ⟨w.heap.size, 3, none⟩ = some (.slice r cl.length g) := by rw [hW]; go_simp
  have HSW := Lib.hid (show W.heap.size = w.heap.size + 1 by rw [hW]; simp)
  have hbW : Below w.heap.size w W := by rw [hW]; exact bel
  rw [← hW]
  clear hW
  have zW := bsz (World.block_lt_of_cell? _ _ k0)
  refine (where_any w.heap.size b o d 0 1 _ a W (HE.out.below hbW) k2 (cellC' hbW y0) rfl (by omega) (by omega) ba.1 (by omega)).mono ?_
  rintro e w1 ⟨rfl, hb1⟩
  go_wp2
  go_ret
  exact ⟨ret_strs (by simp [Stp.org, sByAx]), by exact bel⟩
 ·obtain ⟨b1, o1, rfl, hx⟩ := ints_at HA.out (by simp)
  have x0 : w.cell? ⟨b1, o1 + 0, none⟩ = some (.int .i64 x) := hx 0 (by simp)
  have x1 : w.cell? ⟨b1, o1 + 1, none⟩ = some (.int .i64 y) := hx 1 (by simp)
  obtain ⟨b, o, rfl, hy⟩ := ints_at HB.out (by simp)
  have y0 : w.cell? ⟨b, o + 0, none⟩ = some (.int .i64 a) := hy 0 (by simp)
  have y1 : w.cell? ⟨b, o + 1, none⟩ = some (.int .i64 z) := hy 1 (by simp)
  have ba := hw a (by simp)
  have lba := cnt_len ba.1 ba.2
  have bz := hw z (by simp)
  have lbz := cnt_len bz.1 bz.2
  have bx := hp x (by simp)
  have lbx := cnt_len bx.1 bx.2
  have bY := hp y (by simp)
  have lbY := cnt_len bY.1 bY.2
  simp only [List.length_cons, List.length_nil, Nat.zero_add] at hc hd ⊢
  clear hp hw hy hx HC HA HB
  go_enter Tryz.func47, Tryz.ntmps47
  go_wp2_with fail
  obtain ⟨W, hW⟩ : ∃ W : World, W = w.alloc (.cells #[.int .i64 2, .slice (some ⟨b1, o1, none⟩) 2 c, .slice (some ⟨b, o, none⟩) 2 d, .slice r cl.length g] 27) := ⟨_, rfl⟩
  have k0 : W.cell? ⟨w.heap.size, 0, none⟩ = some (.int .i64 2) := by rw [hW]; go_simp
  have k1 : W.cell? ⟨w.heap.size, 1, none⟩ = some (.slice (some ⟨b1, o1, none⟩) 2 c) := by rw [hW]; go_simp
  have k2 : W.cell? ⟨w.heap.size, 2, none⟩ = some (.slice (some ⟨b, o, none⟩) 2 d) := by rw [hW]; go_simp
  have k3 : W.cell? ⟨w.heap.size, 3, none⟩ = some (.slice r cl.length g) := by rw [hW]; go_simp
  have HSW := Lib.hid (show W.heap.size = w.heap.size + 1 by rw [hW]; simp)
  have hbW : Below w.heap.size w W := by rw [hW]; exact bel
  rw [← hW]
  clear hW
  have zW := bsz (World.block_lt_of_cell? _ _ k0)
  refine (parent_any w.heap.size b1 o1 c 0 2 _ x W (HE.out.below hbW) k1 (cellC' hbW x0) rfl (by omega) (by omega) bx.1 (by omega)).mono ?_
  rintro e w1 ⟨rfl, hb1⟩
  go_wp2_with fail
  refine (parent_any w.heap.size b1 o1 c 1 2 _ y w1 (HE.out.below (by exact bel)) (cellC' (by exact bel) k1) (cellC' (by exact bel) x1) rfl (by omega) (by omega) bY.1 (by omega)).mono ?_
  rintro e w2 ⟨rfl, hb2⟩
  go_wp2_with fail
  refine (where_any w.heap.size b o d 0 2 _ a w2 (HE.out.below (by exact bel)) (cellC' (by exact bel) k2) (cellC' (by exact bel) y0) rfl (by omega) (by omega) ba.1 (by omega)).mono ?_
  rintro e w3 ⟨rfl, hb3⟩
  go_wp2_with fail
  refine (where_any w.heap.size b o d 1 2 _ z w3 (HE.out.below (by exact bel)) (cellC' (by exact bel) k2) (cellC' (by exact bel) y1) rfl (by omega) (by omega) bz.1 (by omega)).mono ?_
  rintro e w4 ⟨rfl, hb4⟩
  go_wp2
  go_ret
  exact ⟨ret_strs (by simp [Stp.org, sFrom, sAnd, sResL, sWithL]), by exact bel⟩
 ·obtain ⟨b1, o1, rfl, hx⟩ := ints_at HA.out (by simp)
  have x0 : w.cell? ⟨b1, o1 + 0, none⟩ = some (.int .i64 x) := hx 0 (by simp)
  obtain ⟨b, o, rfl, hy⟩ := ints_at HB.out (by simp)
  have y0 : w.cell? ⟨b, o + 0, none⟩ = some (.int .i64 a) := hy 0 (by simp)
  have y1 : w.cell? ⟨b, o + 1, none⟩ = some (.int .i64 z) := hy 1 (by simp)
  have ba := hw a (by simp)
  have lba := cnt_len ba.1 ba.2
  have bz := hw z (by simp)
  have lbz := cnt_len bz.1 bz.2
  have bx := hp x (by simp)
  have lbx := cnt_len bx.1 bx.2
  simp only [List.length_cons, List.length_nil, Nat.zero_add] at hc hd ⊢
  clear hp hw hy hx HC HA HB
  go_enter Tryz.func47, Tryz.ntmps47
  go_wp2_with fail
  obtain ⟨W, hW⟩ : ∃ W : World, W = w.alloc (.cells #[.int .i64 3, .slice (some ⟨b1, o1, none⟩) 1 c, .slice (some ⟨b, o, none⟩) 2 d, .slice r cl.length g] 27) := ⟨_, rfl⟩
  have k0 : W.cell? ⟨w.heap.size, 0, none⟩ = some (.int .i64 3) := by rw [hW]; go_simp
  have k1 : W.cell? ⟨w.heap.size, 1, none⟩ = some (.slice (some ⟨b1, o1, none⟩) 1 c) := by rw [hW]; go_simp
  have k2 : W.cell? ⟨w.heap.size, 2, none⟩ = some (.slice (some ⟨b, o, none⟩) 2 d) := by rw [hW]; go_simp
  have k3 : W.cell? ⟨w.heap.size, 3, none⟩ = some (.slice r cl.length g) := by rw [hW]; go_simp
  have HSW := Lib.hid (show W.heap.size = w.heap.size + 1 by rw [hW]; simp)
  have hbW : Below w.heap.size w W := by rw [hW]; exact bel
  rw [← hW]
  clear hW
  have zW := bsz (World.block_lt_of_cell? _ _ k0)
  refine (parent_any w.heap.size b1 o1 c 0 1 _ x W (HE.out.below hbW) k1 (cellC' hbW x0) rfl (by omega) (by omega) bx.1 (by omega)).mono ?_
  rintro e w1 ⟨rfl, hb1⟩
  go_wp2_with fail
  refine (where_any w.heap.size b o d 0 2 _ a w1 (HE.out.below (by exact bel)) (cellC' (by exact bel) k2) (cellC' (by exact bel) y0) rfl (by omega) (by omega) ba.1 (by omega)).mono ?_
  rintro e w3 ⟨rfl, hb3⟩
  go_wp2_with fail
  refine (where_any w.heap.size b o d 1 2 _ z w3 (HE.out.below (by exact bel)) (cellC' (by exact bel) k2) (cellC' (by exact bel) y1) rfl (by omega) (by omega) bz.1 (by omega)).mono ?_
  rintro e w4 ⟨rfl, hb4⟩
  go_wp2
  go_ret
  exact ⟨ret_strs (by simp [Stp.org, sFrom, sAnd, sMerge]), by exact bel⟩
 ·obtain ⟨b1, o1, rfl, hx⟩ := ints_at HA.out (by simp)
  have x0 : w.cell? ⟨b1, o1 + 0, none⟩ = some (.int .i64 x) := hx 0 (by simp)
  have x1 : w.cell? ⟨b1, o1 + 1, none⟩ = some (.int .i64 y) := hx 1 (by simp)
  obtain ⟨b, o, rfl, hy⟩ := ints_at HB.out (by simp)
  have y0 : w.cell? ⟨b, o + 0, none⟩ = some (.int .i64 a) := hy 0 (by simp)
  have y1 : w.cell? ⟨b, o + 1, none⟩ = some (.int .i64 z) := hy 1 (by simp)
  have y2 : w.cell? ⟨b, o + 2, none⟩ = some (.int .i64 t) := hy 2 (by simp)
  have ba := hw a (by simp)
  have lba := cnt_len ba.1 ba.2
  have bt := hw t (by simp)
  have lbt := cnt_len bt.1 bt.2
  have bx := hp x (by simp)
  have lbx := cnt_len bx.1 bx.2
  have bY := hp y (by simp)
  have lbY := cnt_len bY.1 bY.2
  have lpl := posT_len hpl
  have HPL := Lib.hid hpl
  have h8 : l.length ≤ 8 := by simp only [posB, Bool.and_eq_true, decide_eq_true_eq] at hpl; exact hpl.1
  have HR := Lib.hid (show IntsAt B w (.slice (some ⟨b, o + 3, none⟩) l.length (d - 3)) l from ListAt.rest HB.out 3 (by simp))
  have HLB := Lib.hid (show ∀ n ∈ l, 0 ≤ n ∧ n ≤ 1000 from fun n hn => by have := hw n (by simp [hn]); omega)
  have HL0 := Lib.hid hl0
  have hlp := List.length_pos_iff.2 hl0
  have hi0 : (0 : Int) = ((0 : Nat) : Int) := rfl
  have hi1 : (1 : Int) = ((1 : Nat) : Int) := rfl
  have hi2 : (2 : Int) = ((2 : Nat) : Int) := rfl
  have HII := Lib.hid (And.intro hi0 (And.intro hi1 hi2))
  have zb := bsz (World.block_lt_of_cell? _ _ y1)
  simp only [List.length_cons, List.length_nil, Nat.zero_add] at hc hd ⊢
  have hd3 : ¬ d = 3 := by omega
  have hd3a : (3 : Int) ≤ (l.length : Int) + 1 + 1 + 1 := by omega
  have hd3b : (l.length : Int) + 1 + 1 + 1 ≤ d := by omega
  clear hp hw hy hx HC HA HB hpl hl0 hi0 hi1 hi2
  rcases hz with rfl | rfl
  all_goals
   go_enter Tryz.func47, Tryz.ntmps47
   go_wp2
   obtain ⟨W, hW⟩ : ∃ W : World, W = w.alloc (.cells #[.int .i64 4, .slice (some ⟨b1, o1, none⟩) 2 c, .slice (some ⟨b, o, none⟩) (l.length + 1 + 1 + 1) d, .slice r cl.length g] 27) := ⟨_, rfl⟩
   have k0 : W.cell? ⟨w.heap.size, 0, none⟩ = some (.int .i64 4) := by rw [hW]; go_simp
   have k1 : W.cell? ⟨w.heap.size, 1, none⟩ = some (.slice (some ⟨b1, o1, none⟩) 2 c) := by rw [hW]; go_simp
   have k2 : W.cell? ⟨w.heap.size, 2, none⟩ = some (.slice (some ⟨b, o, none⟩) (l.length + 1 + 1 + 1) d) := by rw [hW]; go_simp
   have k3 : W.cell? ⟨w.heap.size, 3, none⟩ = some (.slice r cl.length g) := by rw [hW]; go_simp
   have HSW := Lib.hid (show W.heap.size = w.heap.size + 1 by rw [hW]; simp)
   have hbW : Below w.heap.size w W := by rw [hW]; exact bel
   rw [← hW]
   clear hW
   have zW := bsz (World.block_lt_of_cell? _ _ k0)
   refine wp_region_flowC W.heap.size [(⟨w.heap.size, 1, none⟩, .slice (some ⟨b1, o1, none⟩) 2 c), (⟨w.heap.size, 2, none⟩, .slice (some ⟨b, o, none⟩) (l.length + 1 + 1 + 1) d)] (by kernel_rfl) (by kernel_rfl) (by first | (intro _ hs; cases hs; done) | (simp only [List.forall_mem_cons]; go_simp)) fun C HC => ?_
   repeat (first | ((first | apply flow_free rfl | (apply flow_yes; (case hw => go_simp))); (intro L w' hun hrd hC; have ⟨hC, hb', hf'⟩ := flO HC hC; (try have hw' : Below w.heap.size w w' := by first | exact belT (hb := hb') | exact bel); (try simp only [List.forall_mem_cons] at hf'); go_simp; first | exact ⟨flS HC hC, rfl⟩ | (rw [if_neg]; (exact ⟨flS HC hC, rfl⟩); omega) | (go_at_call 78; (with_reducible refine (parent_any w.heap.size b1 o1 c 0 2 _ x _ (HE.out.below hw') (cellC' hb' k1) (cellC' hw' x0) HII.out.1 (by omega) (by omega) bx.1 (by omega)).mono ?_); rintro e w1 ⟨rfl, hb1⟩; exact ⟨rfl, (HC.out _ _).2 ((hC.next (by first | (simp; done) | (simp; omega) | omega) hb1).skip _ (by rfl))⟩) | (go_at_call 78; (with_reducible refine (parent_any w.heap.size b1 o1 c 1 2 _ y _ (HE.out.below hw') (cellC' hb' k1) (cellC' hw' x1) HII.out.2.1 (by omega) (by omega) bY.1 (by omega)).mono ?_); rintro e w1 ⟨rfl, hb1⟩; exact ⟨rfl, (HC.out _ _).2 ((hC.next (by first | (simp; done) | (simp; omega) | omega) hb1).skip _ (by rfl))⟩) | (go_at_call 79; (with_reducible refine (where_any w.heap.size b o d 0 (l.length + 1 + 1 + 1) _ a _ (HE.out.below hw') (cellC' hb' k2) (cellC' hw' y0) HII.out.1 (by omega) (by omega) ba.1 (by omega)).mono ?_); rintro e w1 ⟨rfl, hb1⟩; exact ⟨rfl, (HC.out _ _).2 ((hC.next (by first | (simp; done) | (simp; omega) | omega) hb1).skip _ (by rfl))⟩) | (go_at_call 79; (with_reducible refine (where_any w.heap.size b o d 2 (l.length + 1 + 1 + 1) _ t _ (HE.out.below hw') (cellC' hb' k2) (cellC' hw' y2) HII.out.2.2 (by omega) (by omega) bt.1 (by omega)).mono ?_); rintro e w1 ⟨rfl, hb1⟩; exact ⟨rfl, (HC.out _ _).2 ((hC.next (by first | (simp; done) | (simp; omega) | omega) hb1).skip _ (by rfl))⟩) | (go_at_call 80; refine (formatPosition_any l _ _ (HR.out.below hw') HL0.out HLB.out (by omega) (HE.out.below hw')).mono ?_; rintro e w1 ⟨rfl, hb1⟩; exact ⟨rfl, flN HC hC (by first | (simp; done) | (simp; omega) | omega) hb1⟩)); go_simp) | (apply flow_noC HC; (case hw => (go_simp; try (intro hh; cases hh))); go_simp))
   refine flow_nil ?_
   intro L wz hL hz
   have ⟨_, hbz, hcz⟩ := flO HC hz
   try simp only [List.forall_mem_cons] at hcz
   go_wp2
   go_ret
   exact ⟨ret_strs (by simp [Stp.org, sFrom, sAnd, sRepl, sAt, sWithL, sRead, sLeft, sRight]), Below.step hbW hbz⟩
 ·obtain ⟨b1, o1, rfl, hx⟩ := ints_at HA.out (by simp)
  have x0 : w.cell? ⟨b1, o1 + 0, none⟩ = some (.int .i64 x) := hx 0 (by simp)
  obtain ⟨b, o, rfl, hy⟩ := ints_at HB.out (by simp)
  have y0 : w.cell? ⟨b, o + 0, none⟩ = some (.int .i64 a) := hy 0 (by simp)
  have ba := hw a (by simp)
  have lba := cnt_len ba.1 ba.2
  have bx := hp x (by simp)
  have lbx := cnt_len bx.1 bx.2
  simp only [List.length_cons, List.length_nil, Nat.zero_add] at hc hd ⊢
  clear hp hw hy hx HC HA HB
  go_enter Tryz.func47, Tryz.ntmps47
  go_wp2_with fail
  obtain ⟨W, hW⟩ : ∃ W : World, W = w.alloc (.cells #[.int .i64 5, .slice (some ⟨b1, o1, none⟩) 1 c, .slice (some ⟨b, o, none⟩) 1 d, .slice r cl.length g] 27) := ⟨_, rfl⟩
  have k0 : W.cell? ⟨w.heap.size, 0, none⟩ = some (.int .i64 5) := by rw [hW]; go_simp
  have k1 : W.cell? ⟨w.heap.size, 1, none⟩ = some (.slice (some ⟨b1, o1, none⟩) 1 c) := by rw [hW]; go_simp
  have k2 : W.cell? ⟨w.heap.size, 2, none⟩ = some (.slice (some ⟨b, o, none⟩) 1 d) := by rw [hW]; go_simp
  have k3 : W.cell? ⟨w.heap.size, 3, none⟩ = some (.slice r cl.length g) := by rw [hW]; go_simp
  have HSW := Lib.hid (show W.heap.size = w.heap.size + 1 by rw [hW]; simp)
  have hbW : Below w.heap.size w W := by rw [hW]; exact bel
  rw [← hW]
  clear hW
  have zW := bsz (World.block_lt_of_cell? _ _ k0)
  refine (parent_any w.heap.size b1 o1 c 0 1 _ x W (HE.out.below hbW) k1 (cellC' hbW x0) rfl (by omega) (by omega) bx.1 (by omega)).mono ?_
  rintro e w1 ⟨rfl, hb1⟩
  go_wp2_with fail
  refine (where_any w.heap.size b o d 0 1 _ a w1 (HE.out.below (by exact bel)) (cellC' (by exact bel) k2) (cellC' (by exact bel) y0) rfl (by omega) (by omega) ba.1 (by omega)).mono ?_
  rintro e w3 ⟨rfl, hb3⟩
  go_wp2
  go_ret
  exact ⟨ret_strs (by simp [Stp.org, sFrom, sRem]), by exact bel⟩
 ·obtain ⟨b1, o1, rfl, hx⟩ := ints_at HA.out (by simp)
  have x0 : w.cell? ⟨b1, o1 + 0, none⟩ = some (.int .i64 x) := hx 0 (by simp)
  have bx := hp x (by simp)
  have lbx := cnt_len bx.1 bx.2
  have HLB := Lib.hid (show ∀ n ∈ l, 0 ≤ n ∧ n ≤ 99 from fun n hn => hp n (by simp [hn]))
  have lrw := rewT_len HLB.out hl10
  have HL := Lib.hid (show IntsAt B w (.slice (some ⟨b1, o1 + 1, none⟩) l.length (c - 1)) l from ListAt.rest HA.out 1 (by simp))
  have hlp := List.length_pos_iff.2 hl0
  simp only [List.length_cons, List.length_nil, Nat.zero_add] at hc hd ⊢
  have hc1 : ¬ c = 1 := by omega
  have hc1a : (1 : Int) ≤ (l.length : Int) + 1 := by omega
  have hc1b : (l.length : Int) + 1 ≤ c := by omega
  clear hp hw hx HC HA HB hl0
  go_enter Tryz.func47, Tryz.ntmps47
  go_wp2
  obtain ⟨W, hW⟩ : ∃ W : World, W = w.alloc (.cells #[.int .i64 6, .slice (some ⟨b1, o1, none⟩) (l.length + 1) c, .slice q 0 d, .slice r cl.length g] 27) := ⟨_, rfl⟩
  have k0 : W.cell? ⟨w.heap.size, 0, none⟩ = some (.int .i64 6) := by rw [hW]; go_simp
  have k1 : W.cell? ⟨w.heap.size, 1, none⟩ = some (.slice (some ⟨b1, o1, none⟩) (l.length + 1) c) := by rw [hW]; go_simp
  have k2 : W.cell? ⟨w.heap.size, 2, none⟩ = some (.slice q 0 d) := by rw [hW]; go_simp
  have k3 : W.cell? ⟨w.heap.size, 3, none⟩ = some (.slice r cl.length g) := by rw [hW]; go_simp
  have HSW := Lib.hid (show W.heap.size = w.heap.size + 1 by rw [hW]; simp)
  have hbW : Below w.heap.size w W := by rw [hW]; exact bel
  rw [← hW]
  clear hW
  have zW := bsz (World.block_lt_of_cell? _ _ k0)
  have hzw1 : w.heap.size + 1 ≤ W.heap.size := by have := HSW.out; omega
  go_loopw [6, 93] (NumsRel l cnt (w.heap.size + 1) W) (fun _ i _ => l.length - (intOf i).toNat)
  case atStart => exact ⟨0, Nat.zero_le _, rfl, by have := row_empty W (w.heap.size + 1) 9 1 (by omega); rw [HSW.out] at this; exact this, by exact bel⟩
  case round =>
   obtain ⟨k, hk, rfl, ho, hb⟩ := hrel
   have HO := Lib.hid ho
   have hqr := hb.size
   have hbo := Below.step hbW hb
   clear ho
   by_cases hlt : k < l.length
   ·obtain ⟨b', o', he, hB, hx0, -⟩ := (HL.out.below hbo).at_ hlt
    simp only [Option.some.injEq, Addr.mk.injEq, and_true] at he
    obtain ⟨rfl, rfl⟩ := he
    have hxb := HLB.out _ (List.getElem_mem hlt)
    have HT := Lib.hid (nums_take (tx := cnt) hlt)
    obtain ⟨a, ha⟩ : ∃ a, l[k] = a := ⟨_, rfl⟩
    rw [ha] at hx0 hxb HT
    have zb := bsz (World.block_lt_of_cell? _ _ hx0)
    clear ha
    go_wp2_with fail
    refine (count_any a _ (by omega) (by omega) (HE.out.below hbo)).mono ?_
    rintro e w2 ⟨rfl, hb2⟩
    have hq2 := hb2.size
    have HO1 := Lib.hid (own_below HO.out hb2)
    have hb3 : Below W.heap.size W w2 := Below.step hb hb2
    go_wp2_with (at_builtin; refine wpList_app1 rfl (.tmp 97) (.tmp 100) _ rfl (w.heap.size + 1) 9 1 16 elemStr _ _ _ rfl w2 #[.string ⟨(cnt a).toArray⟩] rfl _ (by simp) rfl HO1.out rfl (by simp [Value.oneCell']) (by omega) (by unfold maxLen; omega) (by omega) ?_; intro v1 w3 hown1 hg1 hnr1 hlt1)
    refine ⟨⟨k + 1, by omega, by go_num, ?_, hb3.grown hg1 (by omega) (fun k hk => by have := own_base HO1.out k hk; have := HSW.out; omega)⟩, by simp [intOf]; omega⟩
    rw [HT.out]; exact hown1
   ·obtain rfl : k = l.length := by omega
    have ho := HO.out
    rw [show l.length = (l.map cnt).length by rw [List.length_map], List.take_length] at ho
    have HO2 := Lib.hid ho
    clear ho HO
    go_wp2_with fail
    refine (parent_any w.heap.size b1 o1 c 0 (l.length + 1) _ x wr (HE.out.below hbo) (cellC' hb k1) (cellC' hbo x0) rfl (by omega) (by omega) bx.1 (by omega)).mono ?_
    rintro e w2 ⟨rfl, hb2⟩
    go_wp2_with fail
    refine (join_own sComma _ (own_below HO2.out hb2) (by rw [List.length_map]; omega) (by omega)).mono ?_
    rintro e w3 ⟨rfl, hb3⟩
    go_wp2
    go_ret
    exact ⟨ret_strs (by simp [Stp.org, sFrom, sRew]), by exact bel⟩
end Go.Proofs.YtabkdonplmlbcaaGreatDoor
