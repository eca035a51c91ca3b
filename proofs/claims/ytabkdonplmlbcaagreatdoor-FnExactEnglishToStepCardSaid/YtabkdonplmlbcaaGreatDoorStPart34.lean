import Derived.Test.YtabkdonplmlbcaaGreatDoorStPart17
import Derived.Test.YtabkdonplmlbcaaGreatDoorStPart21
import Derived.Test.YtabkdonplmlbcaaGreatDoorStPart19
namespace Go.Proofs.YtabkdonplmlbcaaGreatDoor
set_option maxRecDepth 100000
open Go.RowKit
def OwnC (B : Nat → Prop) (m : Nat) : Prop := ∀ (t : Tm) (v0 v1 : Value) (w : World), TmAt B m w t [v0, v1] → t.wt ≤ 1048576 →
 Calls Tryz.prog 131 #[.agg #[v0, v1]] w fun e w' => ∃ u0 u1, e = .returned (.agg #[u0, u1]) ∧ TmOwn 64 m (fun b => w.heap.size ≤ b ∧ b < w'.heap.size) w' t [u0, u1] ∧ Below w.heap.size w w'
def OwnRel (n : ByteArray) (us : List Tm) (m rb bt : Nat) (w : World) (i : Value) (wr : World) : Prop :=
 ∃ (k : Nat) (v : Value), k ≤ us.length ∧ i = .int .i64 (k : Nat) ∧ LSt 64 rb bt n w m v (us.take k) wr
set_option maxHeartbeats 3200000 in
theorem l2Own_any {B : Nat → Prop} : ∀ m : Nat, OwnC B m := by
 intro m
 induction m with
 | zero => intro t v0 v1 w h; exact h.elim
 | succ m ih =>
  rintro ⟨n, us⟩ v0 v1 w ⟨va, he, hn, hl⟩ hw
  simp only [List.cons.injEq, and_true] at he
  obtain ⟨rfl, rfl⟩ := he
  obtain ⟨p, c, rfl, hlen⟩ := hl.form
  rw [Tm.wt] at hw
  unfold maxLen at hlen
  have HL := Lib.hid hl
  have HN := Lib.hid hn
  have IH := Lib.hid ih
  clear ih hl hn
  go_enter Tryz.func131, Tryz.ntmps131
  go_wp2
  obtain ⟨wp, hwp⟩ : ∃ wp : World, wp = w.alloc (.cells #[.string n, .slice p us.length c] 64) := ⟨_, rfl⟩
  have hsz : wp.heap.size = w.heap.size + 1 := by rw [hwp]; simp
  have hbp : Below w.heap.size w wp := by rw [hwp]; exact bel
  have hpb : wp.heap[w.heap.size]? = some (.cells #[.string n, .slice p us.length c] 64 (0, 0)) := by rw [hwp]; exact heap_alloc_new w _
  rw [← hwp]
  clear hwp
  have HL0 := Lib.hid (LSt.init (T := 64) (n := n) (w := wp) (f := m) (Below.refl _ _))
  simp only [World.size_alloc, hsz] at HL0
  have HLP := Lib.hid (HL.out.mono (SameOn.below hbp) (fun _ h => h) (fun x cs _ hx => TmAt.below hbp hx))
  go_loopw [4] (OwnRel n us m (w.heap.size + 1) (w.heap.size + 1 + 1) wp) (fun i _ => us.length - (intOf i).toNat)
  case atStart => exact ⟨0, _, Nat.zero_le _, rfl, HL0.out⟩
  case round =>
   obtain ⟨k, v, hk, rfl, hls⟩ := hrel
   have HLS := Lib.hid hls
   clear hls HL0
   have hlt0 := HLS.out.lt
   have hbw := HLS.out.bel
   have hzr := hbw.size
   have hpr : wr.heap[w.heap.size]? = _ := (hbw.block _ (by omega)).trans hpb
   obtain ⟨a0, a1, af⟩ := cells2_cell hpr
   have za := bsz (show w.heap.size < wr.heap.size by omega)
   by_cases hlt : k < us.length
   ·have hlti : (k : Int) < us.length := by omega
    obtain ⟨b, o, hpe, hB, x0, x1, hx0, hx1, hx⟩ := HLP.out.at2 hlt
    subst hpe
    have hwa := Tm.wts_le us hlt
    have hbl : b < wp.heap.size := World.block_lt_of_cell? _ _ hx0
    obtain ⟨a, ha⟩ : ∃ a, us[k] = a := ⟨_, rfl⟩
    have HTK := Lib.hid (show us.take (k + 1) = us.take k ++ [a] by rw [List.take_succ_eq_append_getElem hlt, ha])
    rw [ha] at hx hwa
    have HX := Lib.hid (TmAt.below hbw hx)
    clear hx ha
    have hlk : (us.take k).length = k := by rw [List.length_take]; omega
    obtain ⟨pa, ca, rfl, rfl, -⟩ := HX.out.form
    have hy0 : wr.cell? ⟨b, o + k * 2, none⟩ = some (.string a.n) := (World.cell?_of_block (hbw.block _ hbl)).trans hx0
    have hy1 : wr.cell? ⟨b, o + k * 2 + 1, none⟩ = some (.slice pa a.us.length ca) := (World.cell?_of_block (hbw.block _ hbl)).trans hx1
    obtain ⟨hm, vals, Ss, hv1, hv2, -⟩ := HLS.out.row
    have hnb : ∀ b', b' ≤ w.heap.size + 1 + 1 → v.ownBlock ≠ some b' := fun b' hb' e => by have := (hv2 b' e).1; omega
    rw [hlk] at hv1
    obtain ⟨b0, b1, bf⟩ := cells2_cell HLS.out.cell
    have HB1 := Lib.hid b1
    have HY := Lib.hid (And.intro a1 (And.intro hy0 hy1))
    have HNB := Lib.hid hnb
    have HV := Lib.hid hv1
    clear hv1 hv2 hnb hx0 hx1 hy0 hy1 b0 b1 bf
    go_wp2
    clear a0 a1 af
    obtain ⟨CP, hCP0⟩ : ∃ CP : Value → World → Prop, CP = fun x w' => ∃ u0 u1, x = .agg #[u0, u1] ∧ TmOwn 64 m (fun b => wr.heap.size ≤ b ∧ b < w'.heap.size) w' a [u0, u1] ∧ Below wr.heap.size wr w' := ⟨_, rfl⟩
    have HCP := Lib.hid hCP0
    have HGR := Lib.hid (show ∀ x w', CP x w' → wr.grownBy w' (some (w.heap.size + 1)) from by
     rw [hCP0]; rintro x w' ⟨_, _, _, _, hG⟩; exact ⟨hG.os, hG.tape, hG.output, hG.size, fun k hk _ => hG.block k hk⟩)
    have HAGG := Lib.hid (show ∀ x w', CP x w' → ∃ v0 v1, x = .agg #[v0, v1] ∧ v0.oneCell' = true ∧ v1.oneCell' = true from by
     rw [hCP0]; rintro x w' ⟨v0, v1, hx, hO, _⟩
     obtain ⟨pp, cc, rfl, rfl, -⟩ := hO.form
     exact ⟨_, _, hx, rfl, rfl⟩)
    clear hCP0
    have HKEEP := Lib.hid (show ∀ (b' j : Nat) (u : Nat → Value) (w' : World), AppSt 64 (w.heap.size + 1) (w.heap.size + 1 + 1) CP v k wr 7 8 9 j u w' → b' < wp.heap.size → w'.heap[b']? = wr.heap[b']? from
     fun b' j u w' h hlt => AppSt.keep HGR.out (by omega) (by omega) (HNB.out b' (by omega)) (by omega) h)
    refine wp_region_stages [some (.pointer (some ⟨w.heap.size + 1 + 1, 1, none⟩)), some v, some (.pointer (some ⟨w.heap.size, 1, none⟩)), some (.slice (some ⟨b, o, none⟩) us.length c), some (.int .i64 (k : Nat)), some (.pointer (some ⟨b, o + k * 2, none⟩)), some (.agg #[.string a.n, .slice pa a.us.length ca]), none, none, none, some (.pointer (some ⟨w.heap.size + 1 + 1, 1, none⟩)), none] [7, 8, 9, 11] (AppSt 64 (w.heap.size + 1) (w.heap.size + 1 + 1) CP v k wr 7 8 9) (by kernel_rfl) (by kernel_rfl) (by first | kernel_rfl | rfl) (by rfl) rfl ?_
    refine chain_st rfl rfl (by decide) rfl (by intro j u w' hS; go_simp; first | done | exact ⟨hS, rfl⟩ | exact hS | rfl) ?_
    go_simp
    refine chain_stb (c := 9) 2 rfl rfl (by decide) rfl rfl rfl (by first | kernel_rfl | rfl) ?_ ?_
    ·intro j u w' hj hS
     have hc := AppSt.cell HGR.out HB1.out (by omega) hj hS
     go_simp
     first | done | exact ⟨hS, rfl⟩ | exact hS | rfl
    go_simp
    refine chain_st rfl rfl (by decide) rfl (by intro j u w' hS; go_simp; first | done | exact ⟨hS, rfl⟩ | exact hS | rfl) ?_
    go_simp
    refine chain_st rfl rfl (by decide) rfl ?_ ?_
    ·intro j u w' hS
     have hc : w'.cell? ⟨w.heap.size, 1, none⟩ = _ := (World.cell?_of_block (HKEEP.out w.heap.size j u w' hS (by omega))).trans HY.out.1
     go_simp
     first | done | exact ⟨hS, rfl⟩ | exact hS | rfl
    go_simp
    refine chain_st rfl rfl (by decide) rfl (by intro j u w' hS; go_simp; first | done | exact ⟨hS, rfl⟩ | exact hS | rfl) ?_
    go_simp
    refine chain_st rfl rfl (by decide) rfl (by intro j u w' hS; go_simp; first | done | exact ⟨hS, rfl⟩ | exact hS | rfl) ?_
    go_simp
    refine chain_st rfl rfl (by decide) rfl ?_ ?_
    ·intro j u w' hS
     have hc0 : w'.cell? ⟨b, o + k * 2, none⟩ = _ := (World.cell?_of_block (HKEEP.out b j u w' hS hbl)).trans HY.out.2.1
     have hc1 : w'.cell? ⟨b, o + k * 2 + 1, none⟩ = _ := (World.cell?_of_block (HKEEP.out b j u w' hS hbl)).trans HY.out.2.2
     go_simp
     first | done | exact ⟨hS, rfl⟩ | exact hS | rfl
    go_simp
    refine chain_first rfl rfl rfl (by decide) rfl ?_ ?_
    ·intro w' hS
     obtain rfl : w' = wr.drew := hS
     go_simp
     refine (IH.out a _ _ _ (TmAt.below (by exact bel) HX.out) (by omega)).mono ?_
     rintro e w'' ⟨u0, u1, he, hx⟩
     refine ⟨_, he, ?_⟩
     show CP (upd _ 7 _ 7) w''
     rw [upd_same, HCP.out]
     exact ⟨u0, u1, rfl, hx.1, ⟨hx.2.os, hx.2.tape, hx.2.output, hx.2.size, hx.2.block⟩⟩
    intro x
    go_simp
    refine chain_next 0 rfl rfl rfl rfl (by decide) rfl (by first | kernel_rfl | rfl) ?_ ?_
    ·intro w' hS
     have hS : CP (upd _ 7 x 7) w' := hS
     rw [upd_same] at hS
     obtain ⟨v0, v1, rfl, o0, o1⟩ := HAGG.out _ _ hS
     go_simp
     exact ⟨w', v0, v1, hS, by rw [upd_same], rfl⟩
    intro y
    go_simp
    refine chain_next 1 rfl rfl rfl rfl (by decide) rfl (by first | kernel_rfl | rfl) ?_ ?_
    ·intro w' hS
     obtain ⟨w1', v0, v1, hcp, hy, rfl⟩ := hS
     rw [upd_same] at hy
     subst hy
     obtain ⟨v0', v1', he, o0, o1⟩ := HAGG.out _ _ hcp
     simp only [Value.agg.injEq, Array.mk.injEq, List.cons.injEq, and_true] at he
     obtain ⟨rfl, rfl⟩ := he
     have hG1 := HGR.out _ _ hcp
     have hv2 := HV.out
     have hkw : w1'.ownsRow 0 64 2 v k vals := own_same hv2 (fun b' hb' hl => hG1.block b' hl (by
      obtain ⟨-, vals2, Ss2, -, q2, -⟩ := HLS.out.row
      have := q2 b' hb'
      simp; omega))
     refine each_app1 (.tmp 16) (.tmp 23) _ rfl 0 64 2 40 elemTmI v k vals rfl w1' #[v0, v1] rfl rfl hkw rfl (by intro u hu; simp at hu; rcases hu with rfl | rfl <;> assumption) (by omega) (by unfold maxLen; omega) (Nat.zero_le _) ?_
     intro v' w3 happ hg3 hnr hsz
     exact ⟨w1', v0, v1, hcp, by rw [upd_same]; exact happ, hg3, by rw [upd_same]; exact hnr, hsz⟩
    intro z
    go_simp
    refine chain_st rfl rfl (by decide) rfl (by intro j u w' hS; simp only [baseV10]; go_simp; first | done | exact ⟨hS, rfl⟩ | exact hS | rfl) ?_
    simp only [baseV10]
    go_simp
    refine chain_next 2 rfl rfl rfl rfl (by decide) rfl (by first | kernel_rfl | rfl) ?_ ?_
    ·intro w' hS
     obtain ⟨w1', v0, v1, hcp, happ, hg3, hnr, hsz⟩ := hS
     rw [upd_same] at happ hnr
     have hcp2 := hcp
     rw [HCP.out] at hcp2
     obtain ⟨u0, u1, he, hO, hB1⟩ := hcp2
     simp only [Value.agg.injEq, Array.mk.injEq, List.cons.injEq, and_true] at he
     obtain ⟨rfl, rfl⟩ := he
     have HL1 := HLS.out.later hB1
     have hkw : w1'.ownsRow 0 64 2 v k vals := own_same HV.out (fun b' hb' hl => hB1.block b' hl)
     have happ0 := happ 0 vals hkw (Nat.zero_le _)
     rw [← hlk] at happ0
     obtain ⟨⟨q', c', rfl⟩, hbt, -⟩ := HL1.three happ0 hg3
     have hcell : w'.cell? ⟨w.heap.size + 1 + 1, 1, none⟩ = some v := by rw [cell_of_row w' _ 1 _ _ (0, 0) hbt]; rfl
     have hfro : w'.frozen? ⟨w.heap.size + 1 + 1, 1, none⟩ = false := frozen_of_row w' _ 1 _ _ hbt
     clear hbt
     rw [hlk] at happ0
     simp only [hlk] at happ hnr
     go_simp
     refine ⟨w1', w', v0, v1, hcp, ?_, hg3, ?_, hsz, ?_⟩
     ·rw [upd_other _ _ (by decide), upd_same]; exact happ
     ·rw [upd_other _ _ (by decide), upd_same]; exact hnr
     ·rw [upd_other _ _ (by decide), upd_same]
    intro x'
    refine flowU_nil ?_
    intro wz hz
    obtain ⟨w1', w3', v0, v1, hcp, happ, hg3, hnr, hsz, rfl⟩ := hz
    rw [upd_other _ _ (by decide), upd_same] at happ hnr
    rw [HCP.out] at hcp
    obtain ⟨u0, u1, he, hO, hB1⟩ := hcp
    simp only [Value.agg.injEq, Array.mk.injEq, List.cons.injEq, and_true] at he
    obtain ⟨rfl, rfl⟩ := he
    have hkw : w1'.ownsRow 0 64 2 v (us.take k).length vals := by rw [hlk]; exact own_same HV.out (fun b' hb' hl => hB1.block b' hl)
    have happ0 := happ 0 vals (by rw [hlk] at hkw; exact hkw) (Nat.zero_le _)
    have HZ := Lib.hid (HLS.out.app (a := a) hB1 hO hkw (by rw [hlk]; exact happ0) hg3 hnr (by omega))
    rw [← HTK.out] at HZ
    have hu9 : upd (upd (upd (upd (fun x => undef) 7 x) 8 y) 9 z) 11 x' 9 = z := by rw [upd_other _ _ (by decide), upd_same]
    rw [hu9]
    clear happ hnr hO hB1 hkw happ0 hg3 hsz
    go_simp
    go_wp2
    exact ⟨⟨k + 1, z, by omega, by go_num, HZ.out⟩, by simp [intOf]; omega⟩
   ·obtain rfl : k = us.length := by omega
    have HTA := Lib.hid (show us.take us.length = us from List.take_length)
    rw [HTA.out] at HLS
    obtain ⟨pv, cv, hvv, -⟩ := HLS.out.row.form
    subst hvv
    obtain ⟨b0, b1, bf⟩ := cells2_cell HLS.out.cell
    obtain ⟨r0, r1, rf⟩ := cells2_cell HLS.out.res
    have zb := bsz (show w.heap.size + 1 < wr.heap.size by omega)
    have zb1 := bsz (show w.heap.size + 1 + 1 < wr.heap.size by omega)
    go_wp2
    refine bodyPost_ret (v := .agg #[.string n, .slice pv us.length cv]) (by simp only [results, Tryz.results131]; go_simp) rfl ⟨_, _, rfl, ?_⟩
    obtain ⟨h1, h2⟩ := LSt.out HLS.out HN.out (.string n) (.slice pv us.length cv)
    exact ⟨TmOwn.mono _ _ _ _ (Nat.le_refl _) (SameOn.refl _ _) (fun q hq => ⟨by omega, hq.2⟩) h2, hbp.trans (h1.mono hbp.size)⟩
set_option maxHeartbeats 1600000 in
theorem l8Literal_any {B : Nat → Prop} (m : Nat) (l : Lit3) (v0 v1 v2 : Value) (w : World) (h : LitAt B m w l [v0, v1, v2]) (hw : l.a.wt ≤ 1048576) :
  Calls Tryz.prog 95 #[.agg #[v0, v1, v2]] w fun e w' => ∃ u0 u1 u2 u3 u4, e = .returned (.agg #[u0, u1, u2, u3, u4]) ∧ FmAt (fun b => w.heap.size ≤ b) (m + 2) w' l.fm [u0, u1, u2, u3, u4] ∧ Below w.heap.size w w' := by
 obtain ⟨p, c, rfl, rfl, rfl, ht⟩ := h.form
 have HT := Lib.hid ht
 have HW := Lib.hid hw
 have HL := Lib.hid (show l.fm = if l.pos then atomOfF l.a else opF 4 [atomOfF l.a] from rfl)
 clear h ht hw
 go_enter Tryz.func95, Tryz.ntmps95
 go_wp2_with fail
 obtain ⟨W, hW⟩ : ∃ W : World, W = (w.alloc (.cells #[.bool l.pos, .string l.a.n, .slice p l.a.us.length c] 81)).alloc (.cells #[.int .i64 0, .string ⟨#[]⟩, .slice none 0 0, .string ⟨#[]⟩, .slice none 0 0] 67) := ⟨_, rfl⟩
 have hsW : W.heap.size = w.heap.size + 2 := by rw [hW]; simp
 have hbW : Below w.heap.size w W := by rw [hW]; exact bel
 have a0 : W.cell? ⟨w.heap.size, 0, none⟩ = some (.bool l.pos) := by rw [hW]; go_simp
 have a1 : W.cell? ⟨w.heap.size, 1, none⟩ = some (.string l.a.n) := by rw [hW]; go_simp
 have a2 : W.cell? ⟨w.heap.size, 2, none⟩ = some (.slice p l.a.us.length c) := by rw [hW]; go_simp
 have r0 : W.cell? ⟨w.heap.size + 1, 0, none⟩ = some (.int .i64 0) := by rw [hW]; go_simp
 have r1 : W.cell? ⟨w.heap.size + 1, 1, none⟩ = some (.string ⟨#[]⟩) := by rw [hW]; go_simp
 have r2 : W.cell? ⟨w.heap.size + 1, 2, none⟩ = some (.slice none 0 0) := by rw [hW]; go_simp
 have r3 : W.cell? ⟨w.heap.size + 1, 3, none⟩ = some (.string ⟨#[]⟩) := by rw [hW]; go_simp
 have r4 : W.cell? ⟨w.heap.size + 1, 4, none⟩ = some (.slice none 0 0) := by rw [hW]; go_simp
 have rf : ∀ j, W.frozen? ⟨w.heap.size + 1, j, none⟩ = false := fun j => by rw [hW]; go_simp
 rw [← hW]
 clear hW
 have zW := bsz (show w.heap.size < W.heap.size by omega)
 have zW1 := bsz (show w.heap.size + 1 < W.heap.size by omega)
 refine (l2Own_any m l.a _ _ _ (HT.out.below (by exact bel)) HW.out).mono ?_
 rintro e w1 ⟨u0, u1, rfl, hu, hb1⟩
 have ⟨cw1, fw1⟩ := bcell hb1
 have qw1 := hb1.size
 have hu2 := TmOwn.at_ _ _ _ hu
 obtain ⟨pu, cu, rfl, rfl, -, -⟩ := hu2.form
 have HU := Lib.hid hu2
 clear hu hu2
 have z1 := bsz (show w.heap.size < w1.heap.size by omega)
 have z11 := bsz (show w.heap.size + 1 < w1.heap.size by omega)
 have hw1 : Below w.heap.size w w1 := by exact bel
 have hF : ∀ w', SameOn (fun b => W.heap.size ≤ b ∧ b < w1.heap.size) w1 w' → FmAt (fun b => w.heap.size ≤ b) (m + 1) w' (atomOfF l.a) [.int .i64 3, .string l.a.n, .slice pu l.a.us.length cu, .string ⟨#[]⟩, .slice none 0 0] := fun w' hs =>
  ⟨_, _, _, rfl, by omega, Nat.zero_le _, TmAt.mono hs (fun b hb => by omega) _ _ _ _ (Nat.le_refl _) HU.out, ListAt.nil _ _ _ _ _ _⟩
 have HF := Lib.hid hF
 clear hF HU
 cases hp : l.pos
 ·have HL2 := Lib.hid (show l.fm = opF 4 [atomOfF l.a] by rw [HL.out, hp]; rfl)
  clear HT HL
  go_wp2
  refine bodyPost_ret (v := .agg #[.int .i64 4, .string ⟨#[]⟩, .slice none 0 0, .string ⟨#[]⟩, .slice (some ⟨w1.heap.size + 1, 0, none⟩) 1 1]) (by simp only [results, Tryz.results95]; go_simp) rfl ⟨_, _, _, _, _, rfl, ?_, by exact bel⟩
  rw [HL2.out]
  refine opF_at (by omega) ?_
  refine list_one (e := 67) (cs := #[.int .i64 3, .string l.a.n, .slice pu l.a.us.length cu, .string ⟨#[]⟩, .slice none 0 0]) ?_ (by omega) rfl ?_
  ·exact alloc_new_at (by simp)
  ·exact HF.out _ (SameOn.al (SameOn.al (fun b hb _ => set5_other w1 _ _ _ _ _ (by omega)) (by simp) _) (by simp) _)
 ·have HL2 := Lib.hid (show l.fm = atomOfF l.a by rw [HL.out, hp]; rfl)
  clear HT HL
  go_wp2
  refine bodyPost_ret (v := .agg #[.int .i64 3, .string l.a.n, .slice pu l.a.us.length cu, .string ⟨#[]⟩, .slice none 0 0]) (by simp only [results, Tryz.results95]; go_simp) rfl ⟨_, _, _, _, _, rfl, ?_, by exact bel⟩
  rw [HL2.out]
  exact FmAt.mono (SameOn.refl _ _) (fun b hb => hb) _ _ _ _ (by omega) (HF.out _ (SameOn.al (fun b hb _ => set5_other w1 _ _ _ _ _ (by omega)) (by simp) _))
def ClRel (c : List Lit3) (w : World) (s i : Value) (wr : World) : Prop :=
 ∃ k : Nat, k < c.length ∧ i = .int .i64 ((k : Int) - 1) ∧ s = .string ⟨(disj (c.drop k)).eng.toArray⟩ ∧ Below w.heap.size w wr
set_option maxHeartbeats 1600000 in
theorem l26Clause_any {B : Nat → Prop} (m : Nat) (c : List Lit3) (v : Value) (w : World) (h : ClsAt B m w c v) (h8 : c.length ≤ 8) (ha : ∀ l ∈ c, l.a.atom = true) (hw : Cls.wts c ≤ 1048576) :
  Calls Tryz.prog 62 #[.agg #[v]] w fun e w' => e = .returned (.string ⟨(Cls.eng c).toArray⟩) ∧ Below w.heap.size w w' := by
 obtain ⟨p, d, rfl, -⟩ := (show ListAt B w 3 (LitAt B m w) v c from h).form
 have H := Lib.hid (show ListAt B w 3 (LitAt B m w) (.slice p c.length d) c from h)
 have HA := Lib.hid ha
 clear h ha
 by_cases h0 : c.length = 0
 ·have HE := Lib.hid (show Cls.eng c = sContr from if_pos h0)
  obtain rfl : c = [] := List.eq_nil_of_length_eq_zero h0
  go_enter Tryz.func62, Tryz.ntmps62
  go_wp2
  go_ret
  exact ⟨ret_str (by rw [HE.out]; rfl), by exact bel⟩
 ·have HE := Lib.hid (show Cls.eng c = (disj c).eng from if_neg h0)
  have HW := Lib.hid (fun l hl => Nat.le_trans (Cls.wts_le c l hl) hw)
  have h0i : ((c.length : Int) == 0) = false := by rw [beq_eq_false_iff_ne]; omega
  have hw1 : IntKind.i64.wrap ((c.length : Int) - 1) = ((c.length - 1 : Nat) : Int) := by rw [IntWalk.i64_in _ (by omega)]; omega
  have hw2 : IntKind.i64.wrap ((c.length : Int) - 2) = ((c.length - 1 : Nat) : Int) - 1 := by rw [IntWalk.i64_in _ (by omega)]; omega
  have hlast : c.length - 1 < c.length := by omega
  have HLEN := Lib.hid (show ∀ k, k < c.length → (disj (c.drop k)).eng.length ≤ 40000000 from fun k hk => disj_len (by simp; omega) (by simp; omega) (fun l hl => HA.out l (List.mem_of_mem_drop hl)) (Nat.le_trans (Cls.wts_drop_le c k) hw))
  obtain ⟨b, o, rfl, hB, x0, x1, x2, hx0, hx1, hx2, hx⟩ := H.out.at3 hlast
  have hdl : c.drop (c.length - 1) = [c[c.length - 1]] := by rw [List.drop_eq_getElem_cons hlast, show c.length - 1 + 1 = c.length by omega, List.drop_length]
  have hal := HA.out _ (List.getElem_mem hlast)
  have hwl := HW.out _ (List.getElem_mem hlast)
  obtain ⟨a, hae⟩ : ∃ a, c[c.length - 1] = a := ⟨_, rfl⟩
  rw [hae] at hx hdl hal hwl
  have HX := Lib.hid hx
  have HDL := Lib.hid (show a.fm.eng = (disj (c.drop (c.length - 1))).eng by rw [hdl, disj_one])
  have HF := Lib.hid (And.intro (a.fm_form hal) (fm_len hal hwl))
  have zb := bsz (World.block_lt_of_cell? _ _ hx0)
  clear hx hae hdl
  go_enter Tryz.func62, Tryz.ntmps62
  go_wp2_with fail
  refine (l8Literal_any m a _ _ _ _ (LitAt.below (by exact bel) HX.out) hwl).mono ?_
  rintro e w1 ⟨u0, u1, u2, u3, u4, rfl, hu, hb1⟩
  have ⟨cw1, fw1⟩ := bcell hb1
  have qw1 := hb1.size
  (try simp at qw1)
  (try have zw1w := bsz (show w.heap.size < w1.heap.size by omega))
  have HU := Lib.hid hu
  clear hu
  go_wp2_with fail
  refine (l26Formula_any (m + 2) a.fm _ _ _ _ _ _ HU.out HF.out.1 (by have := HF.out.2; omega)).mono ?_
  rintro e w2 ⟨rfl, hb2⟩
  have ⟨cw2, fw2⟩ := bcell hb2
  have qw2 := hb2.size
  (try simp at qw2)
  (try have zw2w := bsz (show w.heap.size < w2.heap.size by omega))
  (try have zw2w1 := bsz (show w1.heap.size < w2.heap.size by omega))
  go_wp2
  have a0 : w2.cell? ⟨w.heap.size, 0, none⟩ = some (.slice (some ⟨b, o, none⟩) c.length d) := by go_simp
  have hbw2 : Below w.heap.size w w2 := by exact bel
  have hsz2 : w.heap.size < w2.heap.size := by omega
  clear cw1 fw1 cw2 fw2 hb1 hb2
  go_loopw [4, 5] (ClRel c w2) (fun _ i _ => (intOf i + 1).toNat)
  case atStart => exact ⟨c.length - 1, hlast, rfl, by rw [HDL.out], Below.refl _ _⟩
  case round =>
   obtain ⟨k, hk, rfl, rfl, hb⟩ := hrel
   have hqr := hb.size
   have b0 : wr.cell? ⟨w.heap.size, 0, none⟩ = some (.slice (some ⟨b, o, none⟩) c.length d) := (World.cell?_of_block (hb.block _ hsz2)).trans a0
   have hwr : Below w.heap.size w wr := hbw2.trans (hb.mono hbw2.size)
   cases k with
   | zero =>
    clear a0
    go_wp2
    go_ret
    exact ⟨ret_str (by rw [HE.out]; rfl), hwr⟩
   | succ k =>
    have hkl : k < c.length := by omega
    obtain ⟨b', o', hq, -, y0, y1, y2, hy0, hy1, hy2, hy⟩ := (H.out.mono (SameOn.below hwr) (fun _ h => h) (fun x cs _ hx => LitAt.below hwr hx)).at3 hkl
    simp only [Option.some.injEq, Addr.mk.injEq, and_true] at hq
    obtain ⟨rfl, rfl⟩ := hq
    have hdd := disj_drop (show k + 1 < c.length by omega)
    have hal2 := HA.out _ (List.getElem_mem hkl)
    have hwl2 := HW.out _ (List.getElem_mem hkl)
    have hln := HLEN.out (k + 1) hk
    obtain ⟨a', hae⟩ : ∃ a', c[k] = a' := ⟨_, rfl⟩
    rw [hae] at hy hdd hal2 hwl2
    have HY := Lib.hid hy
    have HDD := Lib.hid (show (disj (c.drop k)).eng = sEither ++ a'.fm.eng ++ sOr ++ (disj (c.drop (k + 1))).eng by rw [hdd, eng_or])
    have hl2 := fm_len hal2 hwl2
    have HF2 := Lib.hid (a'.fm_form hal2)
    have hki : ((k + 1 : Nat) : Int) - 1 = k := by omega
    have hkl2 : (k : Int) < c.length := by omega
    have hwk : IntKind.i64.wrap ((k : Int) - 1) = (k : Int) - 1 := IntWalk.i64_in _ (by omega)
    have zr := bsz (show w.heap.size < wr.heap.size by omega)
    rw [hki]
    clear a0 hy hae hdd
    go_wp2_with fail
    refine (l8Literal_any m a' _ _ _ _ (LitAt.below (by exact bel) HY.out) hwl2).mono ?_
    rintro e w3 ⟨t0, t1, t2, t3, t4, rfl, ht, hb3⟩
    have ⟨cw3, fw3⟩ := bcell hb3
    have qw3 := hb3.size
    (try simp at qw3)
    (try have zw3w := bsz (show w.heap.size < w3.heap.size by omega))
    (try have zw3w1 := bsz (show w1.heap.size < w3.heap.size by omega))
    (try have zw3w2 := bsz (show w2.heap.size < w3.heap.size by omega))
    have HT := Lib.hid ht
    clear ht
    go_wp2_with fail
    refine (l26Formula_any (m + 2) a'.fm _ _ _ _ _ _ HT.out HF2.out (by omega)).mono ?_
    rintro e w4 ⟨rfl, hb4⟩
    have ⟨cw4, fw4⟩ := bcell hb4
    have qw4 := hb4.size
    (try simp at qw4)
    (try have zw4w := bsz (show w.heap.size < w4.heap.size by omega))
    (try have zw4w1 := bsz (show w1.heap.size < w4.heap.size by omega))
    (try have zw4w2 := bsz (show w2.heap.size < w4.heap.size by omega))
    (try have zw4w3 := bsz (show w3.heap.size < w4.heap.size by omega))
    go_wp2
    exact ⟨⟨k, by omega, rfl, congrArg Value.string (str_eq (by rw [HDD.out]; simp [sEither, sOr])), by exact bel⟩, by simp [intOf]⟩
theorem all_dropI {l : List Int} (P : Int → Bool) {k : Nat} (h : k < l.length) : (l.drop k).all P = (P l[k] && (l.drop (k + 1)).all P) := by rw [List.drop_eq_getElem_cons h, List.all_cons]
def in03 (n : Int) : Bool := inB n 0 3
theorem posB_eq (l : List Int) : posB l = (l.all in03 && decide (l.length ≤ 8)) := by rw [posB, Bool.and_comm]; rfl
set_option maxHeartbeats 1600000 in
theorem l13Numbers_any {B : Nat → Prop} (l : List Int) (v : Value) (w : World) (h : IntsAt B w v l) : Calls Tryz.prog 56 #[v] w fun e w' => e = .returned (.bool (l.all in99 && decide (l.length ≤ 12))) ∧ Below w.heap.size w w' := by
 obtain ⟨p, c, rfl, hlen⟩ := h.form
 unfold maxLen at hlen
 have H := Lib.hid h
 clear h
 go_enter Tryz.func56, Tryz.ntmps56
 go_wp2
 go_loopw [3] (fun i wr => ∃ k : Nat, k ≤ l.length ∧ i = .int .i64 k ∧ l.all in99 = (l.drop k).all in99 ∧ Below w.heap.size w wr) (fun i _ => l.length - (intOf i).toNat)
 case atStart => exact ⟨0, Nat.zero_le _, rfl, rfl, by exact bel⟩
 case round =>
  obtain ⟨k, hk, rfl, he, hb⟩ := hrel
  have HE := Lib.hid he
  clear he
  by_cases hlt : k < l.length
  ·obtain ⟨b, o, rfl, hB, hx0, -⟩ := (H.out.below hb).at_ hlt
   have HD := Lib.hid (all_dropI in99 hlt)
   obtain ⟨a, ha⟩ : ∃ a, l[k] = a := ⟨_, rfl⟩
   rw [ha] at hx0 HD
   clear ha
   have zb := bsz (World.block_lt_of_cell? _ _ hx0)
   cases hN : in99 a
   all_goals
    have HN := Lib.hid hN
    go_wp2_with fail
    refine (l1In_any _ _ _ _).mono ?_
    rintro e w' ⟨rfl, rfl⟩
    rw [show inB a 0 _ = _ from HN.out]
    go_wp2
   ·go_ret
    exact ⟨ret_bool (by rw [HE.out, HD.out, HN.out]; rfl), hb⟩
   ·refine ⟨⟨k + 1, by omega, by go_num, ?_, hb⟩, by simp [intOf]; omega⟩
    rw [HE.out, HD.out, HN.out]; rfl
  ·obtain rfl : k = l.length := by omega
   rw [List.drop_length] at HE
   have HE2 := Lib.hid (show l.all in99 = true from HE.out)
   go_wp2
   go_ret
   exact ⟨ret_bool (by rw [HE2.out, Bool.true_and, decide_eq_decide]; omega), hb⟩
set_option maxHeartbeats 1600000 in
theorem l3Place_any {B : Nat → Prop} (l : List Int) (v : Value) (w : World) (h : IntsAt B w v l) : Calls Tryz.prog 57 #[v] w fun e w' => e = .returned (.bool (l.all in03 && decide (l.length ≤ 8))) ∧ Below w.heap.size w w' := by
 obtain ⟨p, c, rfl, hlen⟩ := h.form
 unfold maxLen at hlen
 have H := Lib.hid h
 clear h
 go_enter Tryz.func57, Tryz.ntmps57
 go_wp2
 go_loopw [3] (fun i wr => ∃ k : Nat, k ≤ l.length ∧ i = .int .i64 k ∧ l.all in03 = (l.drop k).all in03 ∧ Below w.heap.size w wr) (fun i _ => l.length - (intOf i).toNat)
 case atStart => exact ⟨0, Nat.zero_le _, rfl, rfl, by exact bel⟩
 case round =>
  obtain ⟨k, hk, rfl, he, hb⟩ := hrel
  have HE := Lib.hid he
  clear he
  by_cases hlt : k < l.length
  ·obtain ⟨b, o, rfl, hB, hx0, -⟩ := (H.out.below hb).at_ hlt
   have HD := Lib.hid (all_dropI in03 hlt)
   obtain ⟨a, ha⟩ : ∃ a, l[k] = a := ⟨_, rfl⟩
   rw [ha] at hx0 HD
   clear ha
   have zb := bsz (World.block_lt_of_cell? _ _ hx0)
   cases hN : in03 a
   all_goals
    have HN := Lib.hid hN
    go_wp2_with fail
    refine (l1In_any _ _ _ _).mono ?_
    rintro e w' ⟨rfl, rfl⟩
    rw [show inB a 0 _ = _ from HN.out]
    go_wp2
   ·go_ret
    exact ⟨ret_bool (by rw [HE.out, HD.out, HN.out]; rfl), hb⟩
   ·refine ⟨⟨k + 1, by omega, by go_num, ?_, hb⟩, by simp [intOf]; omega⟩
    rw [HE.out, HD.out, HN.out]; rfl
  ·obtain rfl : k = l.length := by omega
   rw [List.drop_length] at HE
   have HE2 := Lib.hid (show l.all in03 = true from HE.out)
   go_wp2
   go_ret
   exact ⟨ret_bool (by rw [HE2.out, Bool.true_and, decide_eq_decide]; omega), hb⟩
theorem cellR {w w' : World} {a : Addr} {v : Value} (hb : Below w.heap.size w w') (h : w.cell? a = some v) : w'.cell? a = some v := (hb.cell (World.block_lt_of_cell? w _ h)).trans h
set_option maxHeartbeats 6400000 in
theorem l26Shape_any {B : Nat → Prop} (m : Nat) (s : Stp) (p q : Option Addr) (c d : Nat) (v3 : Value) (k : Int) (w : World) (h : StpAt B m w s [.int .i64 s.rule, .slice p s.ps.length c, .slice q s.wh.length d, v3]) (hd : s.wh.length ≤ d) (hk : 0 ≤ k ∧ k ≤ 59) :
  Calls Tryz.prog 29 #[.agg #[.int .i64 s.rule, .slice p s.ps.length c, .slice q s.wh.length d, v3], .int .i64 k] w fun e w' => e = .returned (.bool (s.shape k)) ∧ Below w.heap.size w w' := by
 obtain ⟨_, _, _, _, r, g, -, -, -, rfl, hr, l1, l2, l3, ha, hb, hc⟩ := h.form
 obtain ⟨ru, ps, wh, cl⟩ := s
 simp only at l1 l2 l3 ha hb hc hd hr ⊢
 unfold maxLen at l1 l2 l3
 have HA := Lib.hid ha
 have HB := Lib.hid hb
 have HS := Lib.hid (show Stp.shape ⟨ru, ps, wh, cl⟩ k = (ps.all (fun n => inB n 0 (k - 1)) && (numsB wh || decide (ru = 4)) && Stp.numsR ⟨ru, ps, wh, cl⟩) from rfl)
 clear h ha hb hc
 go_enter Tryz.func29, Tryz.ntmps29
 go_wp2
 obtain ⟨W, hW⟩ : ∃ W : World, W = w.alloc (.cells #[.int .i64 ru, .slice p ps.length c, .slice q wh.length d, .slice r cl.length g] 27) := ⟨_, rfl⟩
 have k0 : W.cell? ⟨w.heap.size, 0, none⟩ = some (.int .i64 ru) := by rw [hW]; go_simp
 have k1 : W.cell? ⟨w.heap.size, 1, none⟩ = some (.slice p ps.length c) := by rw [hW]; go_simp
 have k2 : W.cell? ⟨w.heap.size, 2, none⟩ = some (.slice q wh.length d) := by rw [hW]; go_simp
 have k3 : W.cell? ⟨w.heap.size, 3, none⟩ = some (.slice r cl.length g) := by rw [hW]; go_simp
 have HSW := Lib.hid (show W.heap.size = w.heap.size + 1 by rw [hW]; simp)
 have hbW : Below w.heap.size w W := by rw [hW]; exact bel
 rw [← hW]
 clear hW
 have zW := bsz (World.block_lt_of_cell? _ _ k0)
 refine wp_region_flowC W.heap.size [(⟨w.heap.size, 0, none⟩, .int .i64 ru), (⟨w.heap.size, 1, none⟩, .slice p ps.length c), (⟨w.heap.size, 2, none⟩, .slice q wh.length d)] (by kernel_rfl) (by kernel_rfl) (by first | (intro _ hs; cases hs; done) | (simp only [List.forall_mem_cons]; go_simp)) fun C HC => ?_
 repeat (first | ((first | apply flow_free rfl | (apply flow_yes; (case hw => go_simp))); (intro L w' hun hrd hC; have ⟨hC, hb', hf'⟩ := flO HC hC; (try simp only [List.forall_mem_cons] at hf'); go_simp; first | exact ⟨flS HC hC, rfl⟩ | (rw [if_neg]; (exact ⟨flS HC hC, rfl⟩); omega) | fail); go_simp) | (apply flow_noC HC; (case hw => (go_simp; try (intro hh; cases hh))); go_simp))
 refine flow_nil ?_
 intro L wz hL hz
 have ⟨_, hbz, hcz⟩ := flO HC hz
 try simp only [List.forall_mem_cons] at hcz
 have k0' := cellR hbz k0
 have k1' := cellR hbz k1
 have k2' := cellR hbz k2
 have hbw := Below.step hbW hbz
 have HKZ := Lib.hid (And.intro k0' (And.intro k1' k2'))
 clear k0 k1 k2 k3 hcz k0' k1' k2'
 go_wp2
 go_loopw [7] (fun i wr => ∃ j : Nat, j ≤ ps.length ∧ i = .int .i64 j ∧ ps.all (fun n => inB n 0 (k - 1)) = (ps.drop j).all (fun n => inB n 0 (k - 1)) ∧ Below wz.heap.size wz wr) (fun i _ => ps.length - (intOf i).toNat)
 case atStart => exact ⟨0, Nat.zero_le _, rfl, rfl, Below.refl _ _⟩
 case round =>
  obtain ⟨j, hj, rfl, he, hbr⟩ := hrel
  have HEE := Lib.hid he
  have hbo := Below.step hbw hbr
  have k0 := cellR hbr HKZ.out.1
  have k1 := cellR hbr HKZ.out.2.1
  have k2 := cellR hbr HKZ.out.2.2
  have zr := bsz (World.block_lt_of_cell? _ _ k0)
  clear he
  by_cases hlt : j < ps.length
  ·obtain ⟨b, o, rfl, hB, hx0, -⟩ := (HA.out.below hbo).at_ hlt
   have HD := Lib.hid (all_dropI (fun n => inB n 0 (k - 1)) hlt)
   obtain ⟨a, ha⟩ : ∃ a, ps[j] = a := ⟨_, rfl⟩
   rw [ha] at hx0 HD
   clear ha
   have zb := bsz (World.block_lt_of_cell? _ _ hx0)
   cases hN : inB a 0 (k - 1)
   all_goals
    have HN := Lib.hid hN
    go_wp2_with fail
    refine (l1In_any _ _ _ _).mono ?_
    rintro e w' ⟨rfl, rfl⟩
    rw [HN.out]
    go_wp2
   ·go_ret
    exact ⟨ret_bool (by rw [HS.out, HEE.out, HD.out, HN.out]; rfl), by exact bel⟩
   ·refine ⟨⟨j + 1, by omega, by go_num, ?_, hbr⟩, by simp [intOf]; omega⟩
    rw [HEE.out, HD.out, HN.out]; rfl
  ·obtain rfl : j = ps.length := by omega
   rw [List.drop_length] at HEE
   have HS2 := Lib.hid (show Stp.shape ⟨ru, ps, wh, cl⟩ k = ((numsB wh || decide (ru = 4)) && Stp.numsR ⟨ru, ps, wh, cl⟩) by rw [HS.out, HEE.out]; rfl)
   go_wp2_with fail
   refine (l13Numbers_any wh _ _ (HB.out.below hbo)).mono ?_
   rintro e w3 ⟨rfl, hb3⟩
   rw [show (wh.all in99 && decide (wh.length ≤ 12)) = numsB wh from rfl]
   have i0 := cellR hb3 k0
   have i1 := cellR hb3 k1
   have i2 := cellR hb3 k2
   have z3 := bsz (World.block_lt_of_cell? _ _ i0)
   have hbo3 := Below.step hbo hb3
   clear k0 k1 k2
   by_cases r4 : ru = 4
   ·subst r4
    have HN0 := Lib.hid (show Stp.shape ⟨4, ps, wh, cl⟩ k = Stp.numsR ⟨4, ps, wh, cl⟩ by rw [HS2.out]; simp)
    cases numsB wh
    all_goals
     by_cases p2 : ps.length = 2
     case neg =>
      have HN := Lib.hid (show Stp.numsR ⟨4, ps, wh, cl⟩ = false by simp [Stp.numsR, p2])
      have p2i : ((ps.length : Int) == 2) = false := by rw [beq_eq_false_iff_ne]; omega
      go_wp2
      go_ret
      exact ⟨ret_bool (by rw [HN0.out, HN.out]), by exact bel⟩
     have p2i : ((ps.length : Int) == 2) = true := by rw [beq_iff_eq]; omega
     by_cases w3 : 3 < wh.length
     case neg =>
      have HN := Lib.hid (show Stp.numsR ⟨4, ps, wh, cl⟩ = false by simp [Stp.numsR, w3])
      have w3i : ¬ (3 : Int) < wh.length := by omega
      go_wp2
      go_ret
      exact ⟨ret_bool (by rw [HN0.out, HN.out]), by exact bel⟩
     have w3i : (3 : Int) < wh.length := by omega
     have HN := Lib.hid (show Stp.numsR ⟨4, ps, wh, cl⟩ = (in99 (wh.getD 0 0) && inB (wh.getD 1 0) 0 1 && in99 (wh.getD 2 0) && posB (wh.drop 3)) by simp [Stp.numsR, p2, w3])
     have hB2 := HB.out.below hbo3
     obtain ⟨b, o, rfl, -, hx0, -⟩ := hB2.at_ (show 0 < wh.length by omega)
     obtain ⟨b', o', he', -, hx1, -⟩ := hB2.at_ (show 1 < wh.length by omega)
     simp only [Option.some.injEq, Addr.mk.injEq, and_true] at he'
     obtain ⟨rfl, rfl⟩ := he'
     obtain ⟨b', o', he', -, hx2, -⟩ := hB2.at_ (show 2 < wh.length by omega)
     simp only [Option.some.injEq, Addr.mk.injEq, and_true] at he'
     obtain ⟨rfl, rfl⟩ := he'
     have HG := Lib.hid (show wh.getD 0 0 = wh[0] ∧ wh.getD 1 0 = wh[1] ∧ wh.getD 2 0 = wh[2] by refine ⟨?_, ?_, ?_⟩ <;> (rw [List.getD_eq_getElem?_getD, List.getElem?_eq_getElem (by omega)]; rfl))
     obtain ⟨a0, hae0⟩ : ∃ a, wh[0] = a := ⟨_, rfl⟩
     obtain ⟨a1, hae1⟩ : ∃ a, wh[1] = a := ⟨_, rfl⟩
     obtain ⟨a2, hae2⟩ : ∃ a, wh[2] = a := ⟨_, rfl⟩
     rw [hae0] at hx0 HG
     rw [hae1] at hx1 HG
     rw [hae2] at hx2 HG
     rw [Nat.add_zero] at hx0
     have HR := Lib.hid (ListAt.rest HB.out 3 (n' := wh.length - 3) (c' := d - 3) rfl)
     have zb := bsz (World.block_lt_of_cell? _ _ hx1)
     have hd3 : ¬ d = 3 := by omega
     have hd3a : (3 : Int) ≤ wh.length := by omega
     have hd3b : (wh.length : Int) ≤ d := by omega
     have hw0 : (0 : Int) < wh.length := by omega
     have hw1 : (1 : Int) < wh.length := by omega
     have hw2 : (2 : Int) < wh.length := by omega
     clear hae0 hae1 hae2 p2 w3 hB2
     go_wp2_with fail
     refine (l1In_any _ _ _ _).mono ?_
     rintro e w' ⟨rfl, rfl⟩
     rw [show inB a0 0 99 = in99 a0 from rfl]
     cases q0 : in99 a0
     case false =>
      have Q0 := Lib.hid q0
      clear q0
      go_wp2
      go_ret
      exact ⟨ret_bool (by rw [HN0.out, HN.out, HG.out.1, Q0.out]; rfl), by exact bel⟩
     have Q0 := Lib.hid q0
     clear q0
     go_wp2_with fail
     refine (l1In_any _ _ _ _).mono ?_
     rintro e w' ⟨rfl, rfl⟩
     cases q1 : inB a1 0 1
     case false =>
      have Q1 := Lib.hid q1
      clear q1
      go_wp2
      go_ret
      exact ⟨ret_bool (by rw [HN0.out, HN.out, HG.out.2.1, Q1.out]; simp), by exact bel⟩
     have Q1 := Lib.hid q1
     clear q1
     go_wp2_with fail
     refine (l1In_any _ _ _ _).mono ?_
     rintro e w' ⟨rfl, rfl⟩
     rw [show inB a2 0 99 = in99 a2 from rfl]
     cases q2 : in99 a2
     case false =>
      have Q2 := Lib.hid q2
      clear q2
      go_wp2
      go_ret
      exact ⟨ret_bool (by rw [HN0.out, HN.out, HG.out.2.2, Q2.out]; simp), by exact bel⟩
     have Q2 := Lib.hid q2
     clear q2
     go_wp2_with fail
     refine (l3Place_any (wh.drop 3) _ _ ((show IntsAt B w _ (wh.drop 3) from HR.out).below (by exact bel))).mono ?_
     rintro e w5 ⟨rfl, hb5⟩
     go_wp2
     go_ret
     exact ⟨ret_bool (by rw [HN0.out, HN.out, HG.out.1, HG.out.2.1, HG.out.2.2, Q0.out, Q1.out, Q2.out, posB_eq, show decide ((wh.drop 3).length ≤ 8) = decide (wh.length ≤ 11) by rw [List.length_drop, decide_eq_decide]; omega]; simp), by exact bel⟩
   ·have r4i : (ru != 4) = true := by simp [r4]
    cases hnb : numsB wh
    ·have HN := Lib.hid (show Stp.shape ⟨ru, ps, wh, cl⟩ k = false by rw [HS2.out, hnb, decide_eq_false r4]; rfl)
     clear hnb
     go_wp2
     go_ret
     exact ⟨ret_bool (by rw [HN.out]), by exact bel⟩
    have HN0 := Lib.hid (show Stp.shape ⟨ru, ps, wh, cl⟩ k = Stp.numsR ⟨ru, ps, wh, cl⟩ by rw [HS2.out, hnb]; rfl)
    clear hnb
    by_cases r1 : ru = 1
    ·subst r1
     go_wp2
     all_goals (go_ret; exact ⟨ret_bool (by rw [HN0.out]; simp_all [Stp.numsR, beqN0, beqN1, beqN2] <;> (intros; omega)), by exact bel⟩)
    by_cases r2 : ru = 2
    ·subst r2
     go_wp2
     all_goals (go_ret; exact ⟨ret_bool (by rw [HN0.out]; simp_all [Stp.numsR, beqN0, beqN1, beqN2] <;> (intros; omega)), by exact bel⟩)
    by_cases r3 : ru = 3
    ·subst r3
     go_wp2
     all_goals (go_ret; exact ⟨ret_bool (by rw [HN0.out]; simp_all [Stp.numsR, beqN0, beqN1, beqN2] <;> (intros; omega)), by exact bel⟩)
    by_cases r5 : ru = 5
    ·subst r5
     go_wp2
     all_goals (go_ret; exact ⟨ret_bool (by rw [HN0.out]; simp_all [Stp.numsR, beqN0, beqN1, beqN2] <;> (intros; omega)), by exact bel⟩)
    by_cases r6 : ru = 6
    ·subst r6
     go_wp2_with (first | (go_at_call 28; refine (l1In_any _ _ _ _).mono ?_; rintro e w' ⟨rfl, rfl⟩))
     all_goals (go_ret; exact ⟨ret_bool (by rw [HN0.out]; simp_all [Stp.numsR, inB, beqN0, beqN1, beqN2, leN2, leN11] <;> (intros; omega)), by exact bel⟩)
    have e1 : (ru == 1) = false := by simp [r1]
    have e2 : (ru == 2) = false := by simp [r2]
    have e3 : (ru == 3) = false := by simp [r3]
    have e4 : (ru == 4) = false := by simp [r4]
    have e5 : (ru == 5) = false := by simp [r5]
    have e6 : (ru == 6) = false := by simp [r6]
    have HN := Lib.hid (show Stp.numsR ⟨ru, ps, wh, cl⟩ = false by simp [Stp.numsR, r1, r2, r3, r4, r5, r6])
    clear r1 r2 r3 r4 r5 r6
    go_wp2
    go_ret
    exact ⟨ret_bool (by rw [HN0.out, HN.out]), by exact bel⟩
end Go.Proofs.YtabkdonplmlbcaaGreatDoor
