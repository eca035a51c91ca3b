import Derived.Test.YtmbkjdkjemlfkaaGreatDoorDfPart15
namespace Go.Proofs.YtmbkjdkjemlfkaaGreatDoor
set_option maxRecDepth 100000
open Go.RowKit
def OwnC (B : Nat → Prop) (m : Nat) : Prop := ∀ (t : Tm) (v0 v1 : Value) (w : World), TmAt B m w t [v0, v1] → t.wt ≤ 1048576 →
  Calls Tryz.prog 47 #[.agg #[v0, v1]] w fun e w' => ∃ u0 u1, e = .returned (.agg #[u0, u1]) ∧ TmOwn 26 m (fun b => w.heap.size ≤ b ∧ b < w'.heap.size) w' t [u0, u1] ∧ Below w.heap.size w w'
def OwnRel (n : ByteArray) (us : List Tm) (m rb bt : Nat) (w : World) (i : Value) (wr : World) : Prop :=
  ∃ (k : Nat) (v : Value), k ≤ us.length ∧ i = .int .i64 (k : Nat) ∧ LSt 26 rb bt n w m v (us.take k) wr
set_option maxHeartbeats 3200000 in
theorem l2Own_any {B : Nat → Prop} : ∀ m : Nat, OwnC B m := by
  intro m
  induction m with
  | zero => intro t v0 v1 w h; exact h.elim
  | succ m ih =>
    rintro ⟨n, us⟩ v0 v1 w ⟨va, he, hn, hl⟩ hw
    simp only [List.cons.injEq, and_true] at he
    obtain ⟨rfl, rfl⟩ := he
    obtain ⟨p, c, rfl, hlen⟩ := hl.form
    rw [Tm.wt] at hw
    unfold maxLen at hlen
    have HL := Lib.hid hl
    have HN := Lib.hid hn
    have IH := Lib.hid ih
    clear ih hl hn
    go_enter Tryz.func47, Tryz.ntmps47
    go_wp2
    obtain ⟨wp, hwp⟩ : ∃ wp : World, wp = w.alloc (.cells #[.string n, .slice p us.length c] 26) := ⟨_, rfl⟩
    have hsz : wp.heap.size = w.heap.size + 1 := by rw [hwp]; simp
    have hbp : Below w.heap.size w wp := by rw [hwp]; exact bel
    have hpb : wp.heap[w.heap.size]? = some (.cells #[.string n, .slice p us.length c] 26 (0, 0)) := by rw [hwp]; exact heap_alloc_new w _
    rw [← hwp]
    clear hwp
    have HL0 := Lib.hid (LSt.init (T := 26) (n := n) (w := wp) (f := m) (Below.refl _ _))
    simp only [World.size_alloc, hsz] at HL0
    have HLP := Lib.hid (HL.out.mono (SameOn.below hbp) (fun _ h => h) (fun x cs _ hx => TmAt.below hbp hx))
    go_loopw [4] (OwnRel n us m (w.heap.size + 1) (w.heap.size + 1 + 1) wp) (fun i _ => us.length - (intOf i).toNat)
    case atStart => exact ⟨0, _, Nat.zero_le _, rfl, HL0.out⟩
    case round =>
      obtain ⟨k, v, hk, rfl, hls⟩ := hrel
      have HLS := Lib.hid hls
      clear hls HL0
      have hlt0 := HLS.out.lt
      have hbw := HLS.out.bel
      have hzr := hbw.size
      have hpr : wr.heap[w.heap.size]? = _ := (hbw.block _ (by omega)).trans hpb
      obtain ⟨a0, a1, af⟩ := cells2_cell hpr
      have za := bsz (show w.heap.size < wr.heap.size by omega)
      by_cases hlt : k < us.length
      · have hlti : (k : Int) < us.length := by omega
        obtain ⟨b, o, hpe, hB, x0, x1, hx0, hx1, hx⟩ := HLP.out.at2 hlt
        subst hpe
        have hwa := Tm.wts_le us hlt
        have hbl : b < wp.heap.size := World.block_lt_of_cell? _ _ hx0
        obtain ⟨a, ha⟩ : ∃ a, us[k] = a := ⟨_, rfl⟩
        have HTK := Lib.hid (show us.take (k + 1) = us.take k ++ [a] by rw [List.take_succ_eq_append_getElem hlt, ha])
        rw [ha] at hx hwa
        have HX := Lib.hid (TmAt.below hbw hx)
        clear hx ha
        have hlk : (us.take k).length = k := by rw [List.length_take]; omega
        obtain ⟨pa, ca, rfl, rfl, -⟩ := HX.out.form
        have hy0 : wr.cell? ⟨b, o + k * 2, none⟩ = some (.string a.n) := (World.cell?_of_block (hbw.block _ hbl)).trans hx0
        have hy1 : wr.cell? ⟨b, o + k * 2 + 1, none⟩ = some (.slice pa a.us.length ca) := (World.cell?_of_block (hbw.block _ hbl)).trans hx1
        obtain ⟨hm, vals, Ss, hv1, hv2, -⟩ := HLS.out.row
        have hnb : ∀ b', b' ≤ w.heap.size + 1 + 1 → v.ownBlock ≠ some b' := fun b' hb' e => by have := (hv2 b' e).1; omega
        rw [hlk] at hv1
        obtain ⟨b0, b1, bf⟩ := cells2_cell HLS.out.cell
        have HB1 := Lib.hid b1
        have HY := Lib.hid (And.intro a1 (And.intro hy0 hy1))
        have HNB := Lib.hid hnb
        have HV := Lib.hid hv1
        clear hv1 hv2 hnb hx0 hx1 hy0 hy1 b0 b1 bf
        go_wp2
        clear a0 a1 af
        obtain ⟨CP, hCP0⟩ : ∃ CP : Value → World → Prop, CP = fun x w' => ∃ u0 u1, x = .agg #[u0, u1] ∧ TmOwn 26 m (fun b => wr.heap.size ≤ b ∧ b < w'.heap.size) w' a [u0, u1] ∧ Below wr.heap.size wr w' := ⟨_, rfl⟩
        have HCP := Lib.hid hCP0
        have HGR := Lib.hid (show ∀ x w', CP x w' → wr.grownBy w' (some (w.heap.size + 1)) from by
          rw [hCP0]; rintro x w' ⟨_, _, _, _, hG⟩; exact ⟨hG.os, hG.tape, hG.output, hG.size, fun k hk _ => hG.block k hk⟩)
        have HAGG := Lib.hid (show ∀ x w', CP x w' → ∃ v0 v1, x = .agg #[v0, v1] ∧ v0.oneCell' = true ∧ v1.oneCell' = true from by
          rw [hCP0]; rintro x w' ⟨v0, v1, hx, hO, _⟩
          obtain ⟨pp, cc, rfl, rfl, -⟩ := hO.form
          exact ⟨_, _, hx, rfl, rfl⟩)
        clear hCP0
        have HKEEP := Lib.hid (show ∀ (b' j : Nat) (u : Nat → Value) (w' : World), AppSt 26 (w.heap.size + 1) (w.heap.size + 1 + 1) CP v k wr 7 8 9 j u w' → b' < wp.heap.size → w'.heap[b']? = wr.heap[b']? from
          fun b' j u w' h hlt => AppSt.keep HGR.out (by omega) (by omega) (HNB.out b' (by omega)) (by omega) h)
        refine wp_region_stages [some (.pointer (some ⟨w.heap.size + 1 + 1, 1, none⟩)), some v, some (.pointer (some ⟨w.heap.size, 1, none⟩)), some (.slice (some ⟨b, o, none⟩) us.length c), some (.int .i64 (k : Nat)), some (.pointer (some ⟨b, o + k * 2, none⟩)), some (.agg #[.string a.n, .slice pa a.us.length ca]), none, none, none, some (.pointer (some ⟨w.heap.size + 1 + 1, 1, none⟩)), none] [7, 8, 9, 11] (AppSt 26 (w.heap.size + 1) (w.heap.size + 1 + 1) CP v k wr 7 8 9) (by kernel_rfl) (by kernel_rfl) (by first | kernel_rfl | rfl) (by rfl) rfl ?_
        refine chain_st rfl rfl (by decide) rfl (by intro j u w' hS; go_simp; first | done | exact ⟨hS, rfl⟩ | exact hS | rfl) ?_
        go_simp
        refine chain_stb (c := 9) 2 rfl rfl (by decide) rfl rfl rfl (by first | kernel_rfl | rfl) ?_ ?_
        · intro j u w' hj hS
          have hc := AppSt.cell HGR.out HB1.out (by omega) hj hS
          go_simp
          first | done | exact ⟨hS, rfl⟩ | exact hS | rfl
        go_simp
        refine chain_st rfl rfl (by decide) rfl (by intro j u w' hS; go_simp; first | done | exact ⟨hS, rfl⟩ | exact hS | rfl) ?_
        go_simp
        refine chain_st rfl rfl (by decide) rfl ?_ ?_
        · intro j u w' hS
          have hc : w'.cell? ⟨w.heap.size, 1, none⟩ = _ := (World.cell?_of_block (HKEEP.out w.heap.size j u w' hS (by omega))).trans HY.out.1
          go_simp
          first | done | exact ⟨hS, rfl⟩ | exact hS | rfl
        go_simp
        refine chain_st rfl rfl (by decide) rfl (by intro j u w' hS; go_simp; first | done | exact ⟨hS, rfl⟩ | exact hS | rfl) ?_
        go_simp
        refine chain_st rfl rfl (by decide) rfl (by intro j u w' hS; go_simp; first | done | exact ⟨hS, rfl⟩ | exact hS | rfl) ?_
        go_simp
        refine chain_st rfl rfl (by decide) rfl ?_ ?_
        · intro j u w' hS
          have hc0 : w'.cell? ⟨b, o + k * 2, none⟩ = _ := (World.cell?_of_block (HKEEP.out b j u w' hS hbl)).trans HY.out.2.1
          have hc1 : w'.cell? ⟨b, o + k * 2 + 1, none⟩ = _ := (World.cell?_of_block (HKEEP.out b j u w' hS hbl)).trans HY.out.2.2
          go_simp
          first | done | exact ⟨hS, rfl⟩ | exact hS | rfl
        go_simp
        refine chain_first rfl rfl rfl (by decide) rfl ?_ ?_
        · intro w' hS
          obtain rfl : w' = wr.drew := hS
          go_simp
          refine (IH.out a _ _ _ (TmAt.below (by exact bel) HX.out) (by omega)).mono ?_
          rintro e w'' ⟨u0, u1, he, hx⟩
          refine ⟨_, he, ?_⟩
          show CP (upd _ 7 _ 7) w''
          rw [upd_same, HCP.out]
          exact ⟨u0, u1, rfl, hx.1, ⟨hx.2.os, hx.2.tape, hx.2.output, hx.2.size, hx.2.block⟩⟩
        intro x
        go_simp
        refine chain_next 0 rfl rfl rfl rfl (by decide) rfl (by first | kernel_rfl | rfl) ?_ ?_
        · intro w' hS
          have hS : CP (upd _ 7 x 7) w' := hS
          rw [upd_same] at hS
          obtain ⟨v0, v1, rfl, o0, o1⟩ := HAGG.out _ _ hS
          go_simp
          exact ⟨w', v0, v1, hS, by rw [upd_same], rfl⟩
        intro y
        go_simp
        refine chain_next 1 rfl rfl rfl rfl (by decide) rfl (by first | kernel_rfl | rfl) ?_ ?_
        · intro w' hS
          obtain ⟨w1', v0, v1, hcp, hy, rfl⟩ := hS
          rw [upd_same] at hy
          subst hy
          obtain ⟨v0', v1', he, o0, o1⟩ := HAGG.out _ _ hcp
          simp only [Value.agg.injEq, Array.mk.injEq, List.cons.injEq, and_true] at he
          obtain ⟨rfl, rfl⟩ := he
          have hG1 := HGR.out _ _ hcp
          have hv2 := HV.out
          have hkw : w1'.ownsRow 0 26 2 v k vals := own_same hv2 (fun b' hb' hl => hG1.block b' hl (by
            obtain ⟨-, vals2, Ss2, -, q2, -⟩ := HLS.out.row
            have := q2 b' hb'
            simp; omega))
          refine each_app1 (.tmp 16) (.tmp 23) _ rfl 0 26 2 40 elemTmI v k vals rfl w1' #[v0, v1] rfl rfl hkw rfl (by intro u hu; simp at hu; rcases hu with rfl | rfl <;> assumption) (by omega) (by unfold maxLen; omega) (Nat.zero_le _) ?_
          intro v' w3 happ hg3 hnr hsz
          exact ⟨w1', v0, v1, hcp, by rw [upd_same]; exact happ, hg3, by rw [upd_same]; exact hnr, hsz⟩
        intro z
        go_simp
        refine chain_st rfl rfl (by decide) rfl (by intro j u w' hS; simp only [baseV10]; go_simp; first | done | exact ⟨hS, rfl⟩ | exact hS | rfl) ?_
        simp only [baseV10]
        go_simp
        refine chain_next 2 rfl rfl rfl rfl (by decide) rfl (by first | kernel_rfl | rfl) ?_ ?_
        · intro w' hS
          obtain ⟨w1', v0, v1, hcp, happ, hg3, hnr, hsz⟩ := hS
          rw [upd_same] at happ hnr
          have hcp2 := hcp
          rw [HCP.out] at hcp2
          obtain ⟨u0, u1, he, hO, hB1⟩ := hcp2
          simp only [Value.agg.injEq, Array.mk.injEq, List.cons.injEq, and_true] at he
          obtain ⟨rfl, rfl⟩ := he
          have HL1 := HLS.out.later hB1
          have hkw : w1'.ownsRow 0 26 2 v k vals := own_same HV.out (fun b' hb' hl => hB1.block b' hl)
          have happ0 := happ 0 vals hkw (Nat.zero_le _)
          rw [← hlk] at happ0
          obtain ⟨⟨q', c', rfl⟩, hbt, -⟩ := HL1.three happ0 hg3
          have hcell : w'.cell? ⟨w.heap.size + 1 + 1, 1, none⟩ = some v := by rw [cell_of_row w' _ 1 _ _ (0, 0) hbt]; rfl
          have hfro : w'.frozen? ⟨w.heap.size + 1 + 1, 1, none⟩ = false := frozen_of_row w' _ 1 _ _ hbt
          clear hbt
          rw [hlk] at happ0
          simp only [hlk] at happ hnr
          go_simp
          refine ⟨w1', w', v0, v1, hcp, ?_, hg3, ?_, hsz, ?_⟩
          · rw [upd_other _ _ (by decide), upd_same]; exact happ
          · rw [upd_other _ _ (by decide), upd_same]; exact hnr
          · rw [upd_other _ _ (by decide), upd_same]
        intro x'
        refine flowU_nil ?_
        intro wz hz
        obtain ⟨w1', w3', v0, v1, hcp, happ, hg3, hnr, hsz, rfl⟩ := hz
        rw [upd_other _ _ (by decide), upd_same] at happ hnr
        rw [HCP.out] at hcp
        obtain ⟨u0, u1, he, hO, hB1⟩ := hcp
        simp only [Value.agg.injEq, Array.mk.injEq, List.cons.injEq, and_true] at he
        obtain ⟨rfl, rfl⟩ := he
        have hkw : w1'.ownsRow 0 26 2 v (us.take k).length vals := by rw [hlk]; exact own_same HV.out (fun b' hb' hl => hB1.block b' hl)
        have happ0 := happ 0 vals (by rw [hlk] at hkw; exact hkw) (Nat.zero_le _)
        have HZ := Lib.hid (HLS.out.app (a := a) hB1 hO hkw (by rw [hlk]; exact happ0) hg3 hnr (by omega))
        rw [← HTK.out] at HZ
        have hu9 : upd (upd (upd (upd (fun x => undef) 7 x) 8 y) 9 z) 11 x' 9 = z := by rw [upd_other _ _ (by decide), upd_same]
        rw [hu9]
        clear happ hnr hO hB1 hkw happ0 hg3 hsz
        go_simp
        go_wp2
        exact ⟨⟨k + 1, z, by omega, by go_num, HZ.out⟩, by simp [intOf]; omega⟩
      · obtain rfl : k = us.length := by omega
        have HTA := Lib.hid (show us.take us.length = us from List.take_length)
        rw [HTA.out] at HLS
        obtain ⟨pv, cv, hvv, -⟩ := HLS.out.row.form
        subst hvv
        obtain ⟨b0, b1, bf⟩ := cells2_cell HLS.out.cell
        obtain ⟨r0, r1, rf⟩ := cells2_cell HLS.out.res
        have zb := bsz (show w.heap.size + 1 < wr.heap.size by omega)
        have zb1 := bsz (show w.heap.size + 1 + 1 < wr.heap.size by omega)
        go_wp2
        refine bodyPost_ret (v := .agg #[.string n, .slice pv us.length cv]) (by simp only [results, Tryz.results47]; go_simp) rfl ⟨_, _, rfl, ?_⟩
        obtain ⟨h1, h2⟩ := LSt.out HLS.out HN.out (.string n) (.slice pv us.length cv)
        exact ⟨TmOwn.mono _ _ _ _ (Nat.le_refl _) (SameOn.refl _ _) (fun q hq => ⟨by omega, hq.2⟩) h2, hbp.trans (h1.mono hbp.size)⟩
def fmN : Array Value := #[.int .i64 0, .string ⟨#[]⟩, .slice none 0 0, .string ⟨#[]⟩, .slice none 0 0]
abbrev set5C (W : World) (b : Nat) (u0 u1 u2 u3 u4 : Value) : World := ((((W.setCell ⟨b, 0, none⟩ u0).setCell ⟨b, 1, none⟩ u1).setCell ⟨b, 2, none⟩ u2).setCell ⟨b, 3, none⟩ u3).setCell ⟨b, 4, none⟩ u4
theorem set5C_other (W : World) {b k : Nat} (u0 u1 u2 u3 u4 : Value) (hk : k ≠ b) : (set5C W b u0 u1 u2 u3 u4).heap[k]? = W.heap[k]? :=
  (heap_setCell_other _ ⟨b, 4, none⟩ k _ hk).trans ((heap_setCell_other _ ⟨b, 3, none⟩ k _ hk).trans ((heap_setCell_other _ ⟨b, 2, none⟩ k _ hk).trans ((heap_setCell_other _ ⟨b, 1, none⟩ k _ hk).trans (heap_setCell_other _ ⟨b, 0, none⟩ k _ hk))))
structure MkH (eL : TypeId) (m : Nat) (W : World) (op : Int) (xv : ByteArray) (t : Tm) (u : Nat → Value) (L : Array Bool) (w : World) : Prop where
  bel : Below W.heap.size W w
  o11 : L.getD 7 false = true → L.getD 4 false = true
  o13 : L.getD 9 false = true → L.getD 7 false = true ∧ L.getD 8 false = true
  r10 : L.getD 4 false = true → ∃ p c, u 4 = .agg #[.string t.n, .slice p t.us.length c] ∧ TmAt (fun b => W.heap.size ≤ b ∧ b < w.heap.size ∧ (L.getD 8 false = true → u 8 ≠ .pointer (some ⟨b, 0, none⟩))) m w t [.string t.n, .slice p t.us.length c]
  b11 : L.getD 7 false = true → ∀ p c, u 4 = .agg #[.string t.n, .slice p t.us.length c] → u 7 = .agg #[.int .i64 op, .string t.n, .slice p t.us.length c, .string xv, .slice none 0 0]
  a12 : L.getD 8 false = true → ∃ k, u 8 = .pointer (some ⟨k, 0, none⟩) ∧ W.heap.size ≤ k ∧ k < w.heap.size ∧ (L.getD 9 false = false → w.heap[k]? = some (.cells fmN eL (0, 0))) ∧ (L.getD 9 false = true → ∀ p c, u 4 = .agg #[.string t.n, .slice p t.us.length c] → w.heap[k]? = some (.cells #[.int .i64 op, .string t.n, .slice p t.us.length c, .string xv, .slice none 0 0] eL (0, 0)))
theorem set5_cells (W : World) {b : Nat} {eL : TypeId} {a0 a1 a2 a3 a4 u0 u1 u2 u3 u4 : Value} (h : W.heap[b]? = some (.cells #[a0, a1, a2, a3, a4] eL (0, 0))) : (set5C W b u0 u1 u2 u3 u4).heap[b]? = some (.cells #[u0, u1, u2, u3, u4] eL (0, 0)) := by
  have h0 := heap_setCell_same W b 0 _ _ u0 h
  have h1 := heap_setCell_same _ b 1 _ _ u1 h0
  have h2 := heap_setCell_same _ b 2 _ _ u2 h1
  have h3 := heap_setCell_same _ b 3 _ _ u3 h2
  have h4 := heap_setCell_same _ b 4 _ _ u4 h3
  exact h4
section
variable {eL : TypeId} {m : Nat} {W w w' : World} {op : Int} {xv : ByteArray} {t : Tm} {u : Nat → Value} {L : Array Bool} {v' : Value}
theorem MkH.start (hL : ∀ i, L.getD i false = false) : MkH eL m W op xv t (fun _ => undef) L W.drew := by
  refine ⟨(Below.refl _ _).drew, ?_, ?_, ?_, ?_, ?_⟩ <;> (intro h; exact absurd h (by rw [hL]; decide))
theorem MkH.other (h : MkH eL m W op xv t u L w) (k : Nat) (hk : k ∉ [4, 7, 8, 9]) : MkH eL m W op xv t u (L.setIfInBounds k true) w := by
  simp only [List.mem_cons, List.not_mem_nil, or_false, not_or] at hk
  obtain ⟨k10, k11, k12, k13⟩ := hk
  obtain ⟨h1, h2, h3, h4, h5, h6⟩ := h
  refine ⟨h1, ?_, ?_, ?_, ?_, ?_⟩ <;> simp only [getD_set_ne false k10, getD_set_ne false k11, getD_set_ne false k12, getD_set_ne false k13] <;> assumption
theorem MkH.c10 {p : Option Addr} {c : Nat} (h : MkH eL m W op xv t u L w) (hun : L.getD 4 true = false) (hr : TmAt (fun b => w.heap.size ≤ b ∧ b < w'.heap.size) m w' t [.string t.n, .slice p t.us.length c]) (hb : Below w.heap.size w w') : MkH eL m W op xv t (upd u 4 (.agg #[.string t.n, .slice p t.us.length c])) (L.setIfInBounds 4 true) w' := by
  have hn := getD_tf hun
  obtain ⟨h1, h2, h3, h4, h5, h6⟩ := h
  have n11 : L.getD 7 false = false := by
    cases h' : L.getD 7 false with
    | false => rfl
    | true => have := h2 h'; rw [hn] at this; cases this
  have n13 : L.getD 9 false = false := by
    cases h' : L.getD 9 false with
    | false => rfl
    | true => have := (h3 h').1; rw [n11] at this; cases this
  have hz := h1.size
  have hz2 := hb.size
  refine ⟨h1.trans (hb.mono hz), ?_, ?_, ?_, ?_, ?_⟩ <;> simp only [getD_set_ne false (show (4 : Nat) ≠ 7 by decide), getD_set_ne false (show (4 : Nat) ≠ 8 by decide), getD_set_ne false (show (4 : Nat) ≠ 9 by decide), getD_now hun, upd_same, upd_other u _ (show (7 : Nat) ≠ 4 by decide), upd_other u _ (show (8 : Nat) ≠ 4 by decide)]
  · intro a; rw [n11] at a; cases a
  · intro a; rw [n13] at a; cases a
  · intro _
    refine ⟨p, c, rfl, TmAt.mono (SameOn.refl _ _) (fun b hb2 => ⟨by omega, hb2.2, fun a e => ?_⟩) m m t _ (Nat.le_refl _) hr⟩
    obtain ⟨k, e1, e2, e3, -⟩ := h6 a
    rw [e1] at e
    injection e with e
    injection e with e
    injection e with e
    omega
  · intro a; rw [n11] at a; cases a
  · intro a
    obtain ⟨k, e1, e2, e3, e4, e5⟩ := h6 a
    exact ⟨k, e1, e2, by omega, fun c => (hb.block k e3).trans (e4 c), fun c => (by rw [n13] at c; cases c)⟩
theorem MkH.m11 {p : Option Addr} {c : Nat} (h : MkH eL m W op xv t u L w) (hun : L.getD 7 true = false) (k10 : L.getD 4 false = true) (hu : u 4 = .agg #[.string t.n, .slice p t.us.length c]) : MkH eL m W op xv t (upd u 7 (.agg #[.int .i64 op, .string t.n, .slice p t.us.length c, .string xv, .slice none 0 0])) (L.setIfInBounds 7 true) w := by
  obtain ⟨h1, h2, h3, h4, h5, h6⟩ := h
  refine ⟨h1, ?_, ?_, ?_, ?_, ?_⟩ <;> simp only [getD_set_ne false (show (7 : Nat) ≠ 4 by decide), getD_set_ne false (show (7 : Nat) ≠ 8 by decide), getD_set_ne false (show (7 : Nat) ≠ 9 by decide), getD_now hun, upd_same, upd_other u _ (show (4 : Nat) ≠ 7 by decide), upd_other u _ (show (8 : Nat) ≠ 7 by decide)]
  · intro _; exact k10
  · intro a; exact ⟨trivial, (h3 a).2⟩
  · exact h4
  · intro _ p' c' e
    rw [hu] at e
    simp only [Value.agg.injEq, Array.mk.injEq, List.cons.injEq, Value.slice.injEq, true_and, and_true] at e
    obtain ⟨rfl, rfl⟩ := e
    rfl
  · exact h6
theorem MkH.a12' (h : MkH eL m W op xv t u L w) (hun : L.getD 8 true = false) : MkH eL m W op xv t (upd u 8 (.pointer (some ⟨w.heap.size, 0, none⟩))) (L.setIfInBounds 8 true) (w.alloc (.cells fmN eL)) := by
  have hb := (Below.refl w.heap.size w).alloc (Nat.le_refl _) (.cells fmN eL)
  have hn := getD_tf hun
  obtain ⟨h1, h2, h3, h4, h5, h6⟩ := h
  have n13 : L.getD 9 false = false := by
    cases h' : L.getD 9 false with
    | false => rfl
    | true => have := (h3 h').2; rw [hn] at this; cases this
  refine ⟨h1.alloc h1.size _, ?_, ?_, ?_, ?_, ?_⟩ <;> simp only [getD_set_ne false (show (8 : Nat) ≠ 4 by decide), getD_set_ne false (show (8 : Nat) ≠ 7 by decide), getD_set_ne false (show (8 : Nat) ≠ 9 by decide), getD_now hun, upd_same, upd_other u _ (show (4 : Nat) ≠ 8 by decide), upd_other u _ (show (7 : Nat) ≠ 8 by decide)]
  · exact h2
  · intro a; rw [n13] at a; cases a
  · intro a
    obtain ⟨p, c, e1, e2⟩ := h4 a
    refine ⟨p, c, e1, TmAt.mono (SameOn.below hb) (fun b hb2 => ⟨hb2.1, by have := hb2.2.1; simp; omega, fun _ e => ?_⟩) m m t _ (Nat.le_refl _) e2⟩
    injection e with e
    injection e with e
    injection e with e
    have := hb2.2.1
    omega
  · exact h5
  · intro _
    exact ⟨_, rfl, h1.size, by simp, fun _ => heap_alloc_new w _, fun c => (by rw [n13] at c; cases c)⟩
set_option maxHeartbeats 1600000 in
theorem MkH.s13 {p : Option Addr} {c k : Nat} (h : MkH eL m W op xv t u L w) (hun : L.getD 9 true = false) (k11 : L.getD 7 false = true) (k12 : L.getD 8 false = true) (hu : u 4 = .agg #[.string t.n, .slice p t.us.length c]) (hk : u 8 = .pointer (some ⟨k, 0, none⟩)) : MkH eL m W op xv t (upd u 9 v') (L.setIfInBounds 9 true) (set5C w k (.int .i64 op) (.string t.n) (.slice p t.us.length c) (.string xv) (.slice none 0 0)) := by
  have hn := getD_tf hun
  obtain ⟨h1, h2, h3, h4, h5, h6⟩ := h
  obtain ⟨k', e1, e2, e3, e4, e5⟩ := h6 k12
  rw [hk] at e1
  injection e1 with e1
  injection e1 with e1
  injection e1 with e1
  subst e1
  have hsame : ∀ b, b ≠ k → (set5C w k (.int .i64 op) (.string t.n) (.slice p t.us.length c) (.string xv) (.slice none 0 0)).heap[b]? = w.heap[b]? := fun b hb => set5C_other w _ _ _ _ _ hb
  refine ⟨⟨h1.os, h1.tape, h1.output, by simpa using h1.size, fun b hb => (hsame b (by omega)).trans (h1.block b hb)⟩, ?_, ?_, ?_, ?_, ?_⟩ <;> simp only [getD_set_ne false (show (9 : Nat) ≠ 4 by decide), getD_set_ne false (show (9 : Nat) ≠ 7 by decide), getD_set_ne false (show (9 : Nat) ≠ 8 by decide), getD_now hun, upd_other u _ (show (4 : Nat) ≠ 9 by decide), upd_other u _ (show (7 : Nat) ≠ 9 by decide), upd_other u _ (show (8 : Nat) ≠ 9 by decide)]
  · exact h2
  · intro _; exact ⟨k11, k12⟩
  · intro a
    obtain ⟨p', c', e6, e7⟩ := h4 a
    refine ⟨p', c', e6, TmAt.mono (fun b hb2 _ => hsame b (fun e => hb2.2.2 k12 (by rw [hk, e]))) (fun b hb2 => ⟨hb2.1, by simpa using hb2.2.1, hb2.2.2⟩) m m t _ (Nat.le_refl _) e7⟩
  · exact h5
  · intro _
    refine ⟨k, hk, e2, by simpa using e3, fun c => (by cases c), fun _ p' c' e => ?_⟩
    rw [hu] at e
    simp only [Value.agg.injEq, Array.mk.injEq, List.cons.injEq, Value.slice.injEq, true_and, and_true] at e
    obtain ⟨rfl, rfl⟩ := e
    exact set5_cells w (e4 hn)
theorem MkH.done (h : MkH eL m W op xv t u L w) (hL : ∀ i, i < 10 → L.getD i false = true) : ∃ k p c, u 8 = .pointer (some ⟨k, 0, none⟩) ∧ W.heap.size ≤ k ∧ w.heap[k]? = some (.cells #[.int .i64 op, .string t.n, .slice p t.us.length c, .string xv, .slice none 0 0] eL (0, 0)) ∧ TmAt (fun b => W.heap.size ≤ b ∧ b < w.heap.size ∧ b ≠ k) m w t [.string t.n, .slice p t.us.length c] ∧ Below W.heap.size W w := by
  obtain ⟨h1, h2, h3, h4, h5, h6⟩ := h
  obtain ⟨p, c, e1, e2⟩ := h4 (hL 4 (by omega))
  obtain ⟨k, f1, f2, f3, f4, f5⟩ := h6 (hL 8 (by omega))
  exact ⟨k, p, c, f1, f2, f5 (hL 9 (by omega)) p c e1, TmAt.mono (SameOn.refl _ _) (fun b hb => ⟨hb.1, hb.2.1, fun e => hb.2.2 (hL 8 (by omega)) (by rw [f1, e])⟩) m m t _ (Nat.le_refl _) e2, h1⟩
end
structure Dfn where
  name : ByteArray
  vars : List ByteArray
  f : Fm
def leafT (x : ByteArray) : Tm := .mk x []
def Dfn.atm (d : Dfn) : Tm := .mk d.name (d.vars.map leafT)
def dNm (k : Nat) : ByteArray := ⟨(100 :: Lib.itoa (k : Int)).toArray⟩
def nextF (S : ByteArray → Bool) : Nat → Nat → Nat
  | 0, k => k + 1
  | n + 1, k => if S (dNm (k + 1)) then nextF S n (k + 1) else k + 1
def nextD (S : ByteArray → Bool) (k : Nat) : Nat := nextF S 100000 k
theorem nextF_gt (S : ByteArray → Bool) : ∀ n k, k < nextF S n k
  | 0, k => by rw [nextF]; omega
  | n + 1, k => by
    rw [nextF]
    split
    · have := nextF_gt S n (k + 1); omega
    · omega
mutual
def dfn (S : ByteArray → Bool) (vf : Fm → List ByteArray) : Fm → Bool → Nat → Fm × Nat × List Dfn
  | .mk op a x ps, b, k =>
    let r := dfnL S vf ps (op == 6) k
    if b && op == 5 then
      let n := nextD S r.2.1
      (atomOfF (Dfn.atm ⟨dNm n, vf (.mk op a x r.1), .mk op a x r.1⟩), n, r.2.2 ++ [⟨dNm n, vf (.mk op a x r.1), .mk op a x r.1⟩])
    else (.mk op a x r.1, r.2.1, r.2.2)
def dfnL (S : ByteArray → Bool) (vf : Fm → List ByteArray) : List Fm → Bool → Nat → List Fm × Nat × List Dfn
  | [], _, k => ([], k, [])
  | p :: ps, b, k =>
    let r := dfn S vf p b k
    let q := dfnL S vf ps b r.2.1
    (r.1 :: q.1, q.2.1, r.2.2 ++ q.2.2)
end
mutual
def Fm.an : Fm → List ByteArray | .mk op a _ ps => (if op = 3 then [a.n] else []) ++ Fm.ans ps
def Fm.ans : List Fm → List ByteArray | [] => [] | f :: fs => f.an ++ Fm.ans fs
end
def sameN (x y : ByteArray) : Bool := x.data.toList == y.data.toList
theorem sameN_eq {x y : ByteArray} (h : sameN x y = true) : x = y := by
  rw [sameN, beq_iff_eq] at h
  apply ByteArray.ext; apply Array.ext'; exact h
def lookV (vs : List ByteArray) (us : List Tm) (x : ByteArray) : Option Tm := ((vs.zip us).reverse.find? (fun p => sameN p.1 x)).map (·.2)
mutual
def repT (s : ByteArray → Option Tm) : Tm → Tm
  | .mk n us => match s n with
    | some t => if us.isEmpty then t else .mk n (repTs s us)
    | none => .mk n (repTs s us)
def repTs (s : ByteArray → Option Tm) : List Tm → List Tm | [] => [] | a :: us => repT s a :: repTs s us
end
mutual
def insF (s : ByteArray → Option Tm) : Fm → Fm
  | .mk op a x ps => if op = 3 then atomOfF (repT s a) else .mk op a x (insFs s ps)
def insFs (s : ByteArray → Option Tm) : List Fm → List Fm | [] => [] | f :: fs => insF s f :: insFs s fs
end
def fmZero : Fm := .mk 0 (.mk ⟨#[]⟩ []) ⟨#[]⟩ []
mutual
def unfD (d : Dfn) : Fm → Fm × Bool
  | .mk op a x ps =>
    if op = 3 ∧ a.n = d.name then
      if a.us.length = d.vars.length then (insF (lookV d.vars a.us) d.f, true) else (fmZero, false)
    else (.mk op a x (unfDs d ps).1, (unfDs d ps).2)
def unfDs (d : Dfn) : List Fm → List Fm × Bool
  | [] => ([], true)
  | f :: fs => ((unfD d f).1 :: (unfDs d fs).1, (unfD d f).2 && (unfDs d fs).2)
end
def uAll : List Dfn → Fm → Fm × Bool
  | [], g => (g, true)
  | d :: L, g => ((unfD d (uAll L g).1).1, (uAll L g).2 && (unfD d (uAll L g).1).2)
def IdS (s : ByteArray → Option Tm) : Prop := ∀ x t, s x = some t → t = leafT x
theorem find_rev_mem {α : Type} {p : α → Bool} {l : List α} {x : α} (h : l.reverse.find? p = some x) : x ∈ l ∧ p x = true := by
  have h1 := List.find?_some h
  have h2 := List.mem_of_find?_eq_some h
  exact ⟨by simpa using h2, h1⟩
theorem zip_leaf : ∀ (vs : List ByteArray) (p : ByteArray × Tm), p ∈ vs.zip (vs.map leafT) → p.2 = leafT p.1
  | [], _, h => by simp at h
  | v :: vs, p, h => by
    simp only [List.map_cons, List.zip_cons_cons, List.mem_cons] at h
    rcases h with rfl | h
    · rfl
    · exact zip_leaf vs p h
theorem look_id (vs : List ByteArray) : IdS (lookV vs (vs.map leafT)) := by
  intro x t h
  rw [lookV] at h
  cases hf : (vs.zip (vs.map leafT)).reverse.find? (fun p => sameN p.1 x) with
  | none => rw [hf] at h; cases h
  | some p =>
    rw [hf] at h
    obtain ⟨h1, h2⟩ := find_rev_mem hf
    obtain rfl : p.2 = t := Option.some.inj h
    rw [zip_leaf vs p h1, sameN_eq h2]
mutual
theorem repT_id {s : ByteArray → Option Tm} (h : IdS s) : ∀ t : Tm, repT s t = t
  | .mk n us => by
    rw [repT, repTs_id h us]
    split
    · next t ht =>
      split
      · next he =>
        have := h n t ht
        rw [this, leafT]
        simp only [List.isEmpty_iff] at he
        rw [he]
      · rfl
    · rfl
theorem repTs_id {s : ByteArray → Option Tm} (h : IdS s) : ∀ us : List Tm, repTs s us = us
  | [] => by rw [repTs]
  | a :: us => by rw [repTs, repT_id h a, repTs_id h us]
end
theorem ins_id {s : ByteArray → Option Tm} (h : IdS s) : ∀ (n : Nat) (f : Fm), f.sz ≤ n → f.form = true → insF s f = f
  | 0, .mk _ _ _ _, hk, _ => by rw [Fm.sz] at hk; omega
  | n + 1, f, hk, hf => by
    cases form_cases hf with
    | tru => rw [opF, insF, if_neg (by decide), insFs]
    | fal => rw [opF, insF, if_neg (by decide), insFs]
    | atm a ha => rw [atomOfF, insF, if_pos rfl, repT_id h]; rfl
    | neg g hg =>
      rw [opF, Fm.sz, Fm.szs, Fm.szs] at hk
      rw [opF, insF, if_neg (by decide), insFs, insFs, ins_id h n g (by omega) hg]
    | bin op g k ho hg hk' =>
      rw [opF, Fm.sz, Fm.szs, Fm.szs, Fm.szs] at hk
      rw [opF, insF, if_neg (by omega), insFs, insFs, insFs, ins_id h n g (by omega) hg, ins_id h n k (by omega) hk']
    | qua op v g ho hv hg =>
      rw [quantF, Fm.sz, Fm.szs, Fm.szs] at hk
      rw [quantF, insF, if_neg (by omega), insFs, insFs, ins_id h n g (by omega) hg]
theorem unf_atm (d : Dfn) (hf : d.f.form = true) : unfD d (atomOfF d.atm) = (d.f, true) := by
  rw [atomOfF, unfD]
  have h1 : (3 : Int) = 3 ∧ d.atm.n = d.name := ⟨rfl, rfl⟩
  rw [if_pos h1]
  have h2 : d.atm.us.length = d.vars.length := by show (d.vars.map leafT).length = _; rw [List.length_map]
  rw [if_pos h2]
  show (insF (lookV d.vars (d.vars.map leafT)) d.f, true) = _
  rw [ins_id (look_id d.vars) _ d.f (Nat.le_refl _) hf]
mutual
theorem unf_skip (d : Dfn) : ∀ f : Fm, d.name ∉ f.an → unfD d f = (f, true)
  | .mk op a x ps, h => by
    rw [Fm.an, List.mem_append, not_or] at h
    rw [unfD, if_neg, unfs_skip d ps h.2]
    rintro ⟨rfl, e⟩
    rw [if_pos rfl] at h
    exact h.1 (by rw [e]; exact List.mem_cons_self ..)
theorem unfs_skip (d : Dfn) : ∀ fs : List Fm, d.name ∉ Fm.ans fs → unfDs d fs = (fs, true)
  | [], _ => by rw [unfDs]
  | f :: fs, h => by
    rw [Fm.ans, List.mem_append, not_or] at h
    rw [unfDs, unf_skip d f h.1, unfs_skip d fs h.2]; rfl
end
theorem uAll_skip : ∀ (L : List Dfn) (f : Fm), (∀ d ∈ L, d.name ∉ f.an) → uAll L f = (f, true)
  | [], _, _ => by rw [uAll]
  | d :: L, f, h => by
    rw [uAll, uAll_skip L f (fun d' hd => h d' (List.mem_cons_of_mem _ hd)), unf_skip d f (h d (List.mem_cons_self ..))]; rfl
theorem uAll_app : ∀ (L M : List Dfn) (f : Fm), (uAll M f).2 = true → uAll (L ++ M) f = uAll L (uAll M f).1
  | [], M, f, h => by rw [List.nil_append, uAll]; exact Prod.ext rfl h
  | d :: L, M, f, h => by rw [List.cons_append, uAll, uAll, uAll_app L M f h]
theorem uAll_neg (L : List Dfn) (op : Int) (a : Tm) (x : ByteArray) (g : Fm) (ho : op ≠ 3) : uAll L (.mk op a x [g]) = (.mk op a x [(uAll L g).1], (uAll L g).2) := by
  induction L with
  | nil => simp [uAll]
  | cons d L ih =>
    rw [uAll, ih, uAll]
    simp only
    rw [unfD, if_neg (fun h => ho h.1), unfDs, unfDs]
    simp
theorem uAll_bin (L : List Dfn) (op : Int) (a : Tm) (x : ByteArray) (g h : Fm) (ho : op ≠ 3) : uAll L (.mk op a x [g, h]) = (.mk op a x [(uAll L g).1, (uAll L h).1], (uAll L g).2 && (uAll L h).2) := by
  induction L with
  | nil => simp [uAll]
  | cons d L ih =>
    rw [uAll, ih, uAll, uAll]
    simp only
    rw [unfD, if_neg (fun h => ho h.1), unfDs, unfDs, unfDs]
    simp only [Bool.and_true, Prod.mk.injEq, true_and]
    cases (uAll L g).2 <;> cases (uAll L h).2 <;> cases (unfD d (uAll L g).1).2 <;> cases (unfD d (uAll L h).1).2 <;> rfl
end Go.Proofs.YtmbkjdkjemlfkaaGreatDoor
