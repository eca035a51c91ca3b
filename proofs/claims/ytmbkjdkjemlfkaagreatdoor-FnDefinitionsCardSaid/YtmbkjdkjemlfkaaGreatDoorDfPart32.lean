import Derived.Test.YtmbkjdkjemlfkaaGreatDoorDfPart31
namespace Go.Proofs.YtmbkjdkjemlfkaaGreatDoor
set_option maxRecDepth 100000
open Go.RowKit
def StD (ob : Option Obj) (us : List ByteArray) (N base x0 g : Nat) (uv : Value) (ps : List Fm) (bb : Bool) (k : Nat) (E : List Dfn) (i : Nat) (X : Nat → Prop) (w : World) : Prop :=
  ∃ lv D, DSt ob us N base x0 g (dfnL (inS us) vfD (ps.take i) bb k).2.1 (E ++ (dfnL (inS us) vfD (ps.take i) bb k).2.2) uv lv D X w
theorem StD.ok (ob : Option Obj) (us : List ByteArray) (N base x0 g : Nat) (uv : Value) (ps : List Fm) (bb : Bool) (k : Nat) (E : List Dfn) : StOk (StD ob us N base x0 g uv ps bb k E) :=
  ⟨fun _ _ _ ⟨_, _, h⟩ => h.foot, fun _ _ _ _ ⟨lv, D, h⟩ hk => ⟨lv, D, h.stab hk⟩⟩
set_option maxHeartbeats 12800000 in
theorem define_any (ob : Option Obj) (us : List ByteArray) (N base x0 g : Nat) (uv : Value) (hS : ∀ j, 99999 < j → inS us (dNm j) = false) : ∀ (m : Nat) (B : Nat → Prop) (t : Fm) (b : Bool) (k : Nat) (E : List Dfn) (lv : Value) (D : List DC) (X : Nat → Prop) (w : World) (s : Nat) (v0 v1 v2 v3 v4 : Value),
    m + 3 ≤ N → FmAt B m w t [v0, v1, v2, v3, v4] → (∀ b, B b → ¬ X b) → t.okD = true → t.wt ≤ 1000000 → t.nn + t.sz ≤ 100000 → DSt ob us N base x0 g k E uv lv D X w → base ≤ w.heap.size → k ≤ 100000 + s → s + t.sz ≤ 10000 → E.length + t.sz ≤ 10000 →
    Calls Tryz.prog 15 #[.pointer (some ⟨x0, 0, none⟩), .agg #[v0, v1, v2, v3, v4], .bool b] w (DfnQ ob us N base x0 g uv (m + 3) t b k E X w) := by
  intro m
  induction m with
  | zero => intro B t b k E lv D X w s v0 v1 v2 v3 v4 _ h; exact h.elim
  | succ m ih =>
    rintro B ⟨op, a, xv, ps⟩ b k E lv D X w s v0 v1 v2 v3 v4 hmN h hBX hok hw hnn hd hbw hks hsz hEl
    obtain ⟨p, pc, q, d, rfl, rfl, rfl, rfl, rfl, -⟩ := h.form
    simp only [Fm.op, Fm.a, Fm.v, Fm.ps] at h ⊢
    have h := FmAt.inb _ _ _ h
    have HD := Lib.hid hd
    have hok0 := hok
    have hnn0 := hnn
    rw [Fm.okD, Bool.and_eq_true, Bool.and_eq_true] at hok
    rw [Fm.nn, Fm.sz] at hnn
    rw [Fm.sz] at hsz hEl
    have hwp := hw
    rw [Fm.wt] at hwp
    obtain ⟨W, hW⟩ : ∃ W : World, W = ((w.alloc (.cells #[.pointer (some ⟨x0, 0, none⟩)] 44)).alloc (.cells #[.int .i64 op, .string a.n, .slice p a.us.length pc, .string xv, .slice q ps.length d] 29)).alloc (.cells #[.int .i64 0, .string ⟨#[]⟩, .slice none 0 0, .string ⟨#[]⟩, .slice none 0 0] 29) := ⟨_, rfl⟩
    obtain ⟨hsW, hbW, A0, A1, A2⟩ := three_new hW
    obtain ⟨a0, a1, a2, a3, a4⟩ := five_at A1
    have za := bsz (show w.heap.size + 1 < W.heap.size by omega)
    have HA0 := Lib.hid A0
    have HA1 := Lib.hid A1
    have HA2 := Lib.hid A2
    have HBW := Lib.hid hbW
    have HMP := Lib.hid (mapParts_any 40 #[.pointer (some ⟨w.heap.size, 0, none⟩), .pointer (some ⟨w.heap.size + 1, 0, none⟩)] (fun _ _ => rfl) (StD ob us N base x0 g uv ps (op == 6) k E) (StD.ok ..) (m + 3) m (by omega) (fun i => (dfnL (inS us) vfD ps (op == 6) k).1.getD i fmZero) op a xv ps _ _ _ _ _ W X
      (fun b hb => hBX b hb.1) (FmAt.below hbW h) hw ⟨lv, D, by rw [List.take_zero, dfnL, List.append_nil]; exact hd.be hbW⟩
      (fun i hi X1 wr u0 u1 u2 u3 u4 hst hkp hxx hx => by
        obtain ⟨lv1, D1, hd1⟩ := hst
        have hzr := hkp.size
        have hfo := hd.foot
        have hnum := (dfnL_num (vf := vfD) hS (ps.take i) (op == 6) k s hks).2
        have hcnt := dfnL_cnt (S := inS us) (vf := vfD) (ps.take i) (op == 6) k
        have hsl := Fm.szs_le' hi
        have hnl := Fm.nns_le' hi
        have hwl := Fm.wts_le ps hi
        refine (define1_of ob us N base x0 g uv (m + 3) w.heap.size ps[i] u0 u1 u2 u3 u4 op _ _ _ _ _ _ X1 wr ⟨_, m, hx⟩ hd1.foot ((hkp.block _ (by omega) (fun e => by have := hfo _ e; omega)).trans A0) ((hkp.block _ (by omega) (fun e => by have := hfo _ e; omega)).trans A1)
          (fun W' hW' => ih _ ps[i] (op == 6) _ _ lv1 D1 X1 W' (s + Fm.szs (ps.take i)) u0 u1 u2 u3 u4 (by omega) (FmAt.below hW' hx) (fun b hb e => (hxx b e).elim (hBX b hb.1) (fun e => by have := hb.2; omega)) (Fm.okDs_get hok.2 hi) (by omega) (by omega) (hd1.be hW') (by have := hW'.size; omega) (by omega) (by omega) (by rw [List.length_append]; omega))).mono ?_
        rintro e w' ⟨y, X', lv', D', he, hy, h1, h2, h3, h4⟩
        refine ⟨y, X', he, by rw [hy]; exact (dfnL_get _ _ _ _ hi).symm, h1, ⟨lv', D', ?_⟩, h3, h4⟩
        rw [dfnL_take _ _ _ _ hi, ← List.append_assoc]
        exact h2))
    have HIX := Lib.hid (show ∀ b, X b → b < w.heap.size from hd.foot)
    have HXG := Lib.hid hd.xg
    have HXX := Lib.hid hd.xx
    clear h ih A0 A1 A2 hbW hd hBX
    go_enter Tryz.func15, Tryz.ntmps15
    go_wp2_with fail
    rw [← hW]
    clear hW
    refine HMP.out.mono ?_
    rintro e w1 ⟨y, X1, rfl, hy, h1, ⟨lv1, D1, h2⟩, h3, h4⟩
    rw [range_getD _ _ (dfnL_len _ _ _)] at hy
    rw [List.take_length] at h2
    have HNX := Lib.hid (show ∀ b, w.heap.size ≤ b → ¬ X b from fun b hb e => by have := HIX.out b e; omega)
    have HA1' := Lib.hid ((h4.block (w.heap.size + 1) (by omega) (HNX.out _ (by omega))).trans HA1.out)
    have HA2' := Lib.hid ((h4.block (w.heap.size + 2) (by omega) (HNX.out _ (by omega))).trans HA2.out)
    have HA0' := Lib.hid ((h4.block w.heap.size (by omega) (HNX.out _ (Nat.le_refl _))).trans HA0.out)
    have HX1 := Lib.hid (show ∀ b, X1 b → X b ∨ (W.heap.size ≤ b ∧ b < w1.heap.size) from h3)
    have hz1 := h4.size
    have HY := Lib.hid hy
    have H1 := Lib.hid h1
    have H2 := Lib.hid h2
    have H4 := Lib.hid h4
    have HK := Lib.hid (show Kp X w w1 from (Kp.of_below HBW.out).trans h4 (fun b e => .inl e))
    clear h1 h2 h3 h4 hy a0 a1 a2 a3 a4 za HMP
    rw [show y.cs.toArray = #[.int .i64 y.f.op, .string y.f.a.n, .slice y.p y.f.a.us.length y.c, .string y.f.v, .slice y.q y.f.ps.length y.d] from rfl]
    obtain ⟨a0, a1, a2, a3, a4⟩ := five_at HA1'.out
    have za := bsz (show w.heap.size + 1 < w1.heap.size by omega)
    by_cases hb5 : b = true ∧ op = 5
    · obtain ⟨rfl, rfl⟩ := hb5
      have hds := dfn_size (S := inS us) (.mk 5 a xv ps) true k hok0
      have hnm := dfnL_num (vf := vfD) hS ps ((5 : Int) == 6) k s hks
      have hcn := dfnL_cnt (S := inS us) (vf := vfD) ps ((5 : Int) == 6) k
      obtain ⟨RL, hRL⟩ : ∃ RL, RL = dfnL (inS us) vfD ps ((5 : Int) == 6) k := ⟨_, rfl⟩
      rw [← hRL] at hnm hcn
      have HYF := Lib.hid (show y.f = .mk 5 a xv RL.1 by rw [hRL]; exact HY.out)
      have HD2 := Lib.hid (show DSt ob us N base x0 g RL.2.1 (E ++ RL.2.2) uv lv1 D1 X1 w1 by rw [hRL]; exact H2.out)
      have HDN := Lib.hid (show dfn (inS us) vfD (.mk 5 a xv ps) true k = (atomOfF (Dfn.atm ⟨dNm (nextD (inS us) RL.2.1), vfD y.f, y.f⟩), nextD (inS us) RL.2.1, RL.2.2 ++ [⟨dNm (nextD (inS us) RL.2.1), vfD y.f, y.f⟩]) by
        rw [HYF.out, hRL, dfn]; rfl)
      have HOK := Lib.hid (show y.f.okD = true ∧ y.f.sz ≤ 1000000 ∧ Tm.szs y.f.atoms ≤ 900000 ∧ (vfD y.f).length ≤ 100000 by
        obtain ⟨j1, j2, j3, -⟩ := hds.ds ⟨dNm (nextD (inS us) RL.2.1), vfD y.f, y.f⟩ (by rw [HDN.out]; exact List.mem_append_right _ (List.mem_cons_self ..))
        have h5 := Fm.szs_atoms y.f
        have h6 := vfD_len y.f
        have h7 : (Fm.mk 5 a xv ps).sz ≤ 1000000 := by rw [Fm.sz]; omega
        replace j1 : y.f.okD = true := j1
        replace j2 : y.f.sz ≤ _ := j2
        replace j3 : y.f.nn ≤ _ := j3
        exact ⟨j1, by omega, by omega, by omega⟩)
      have hn1 : RL.2.1 ≤ 1000000 := by omega
      have hd1l : (E ++ RL.2.2).length ≤ 10000 := by rw [List.length_append]; omega
      clear hRL hds HY H2
      obtain ⟨K1, hK1⟩ : ∃ K1, K1 = RL.2.1 := ⟨_, rfl⟩
      obtain ⟨E1, hE1⟩ : ∃ E1, E1 = E ++ RL.2.2 := ⟨_, rfl⟩
      obtain ⟨n, hn⟩ : ∃ n, n = nextD (inS us) K1 := ⟨_, rfl⟩
      rw [← hK1] at HD2 HDN hn1
      rw [← hE1] at HD2 hd1l
      rw [← hn] at HDN
      have HE1 := Lib.hid hE1
      have HN := Lib.hid hn
      clear hK1 hE1 hn hnm hcn
      go_wp2
      obtain ⟨W4, hW4⟩ : ∃ q', q' = w1.alloc (.cells #[.int .i64 y.f.op, .string y.f.a.n, .slice y.p y.f.a.us.length y.c, .string y.f.v, .slice y.q y.f.ps.length y.d] 29) := ⟨_, rfl⟩
      have hz4 : w1.heap.size < W4.heap.size := by rw [hW4]; simp
      have hb4 : Below w1.heap.size w1 W4 := by rw [hW4]; exact (Below.refl _ _).alloc (Nat.le_refl _) _
      have B4 := Lib.hid (show W4.heap[w1.heap.size]? = some (.cells #[.int .i64 y.f.op, .string y.f.a.n, .slice y.p y.f.a.us.length y.c, .string y.f.v, .slice y.q y.f.ps.length y.d] 29 (0, 0)) by rw [hW4]; exact heap_alloc_new w1 _)
      rw [← hW4]
      clear hW4 a0 a1 a2 a3 a4 za
      have HB4 := Lib.hid hb4
      have HD4 := Lib.hid (HD2.out.be hb4)
      have HF4 := Lib.hid (FmAt.below hb4 H1.out)
      have HA4 := Lib.hid ((hb4.block _ (by omega)).trans HA0'.out)
      have hgw : g < w.heap.size := HIX.out _ HXG.out
      have hxw : x0 < w.heap.size := HIX.out _ HXX.out
      have hxg : x0 ≠ g := HD4.out.ne
      clear hb4
      have dfnStab : Proms.Stab [(4, fun v w' => v = .string (dNm n) ∧ DSt ob us N base x0 g n E1 uv lv1 D1 X1 w'), (6, fun v w' => w'.ownsRow W4.heap.size 9 1 v (vfD y.f).length (strW (vfD y.f))), (8, fun v w' => ∃ vv, v = .agg #[.string (dNm n), vv, .int .i64 y.f.op, .string y.f.a.n, .slice y.p y.f.a.us.length y.c, .string y.f.v, .slice y.q y.f.ps.length y.d] ∧ w'.ownsRow W4.heap.size 9 1 vv (vfD y.f).length (strW (vfD y.f))),
         (9, fun v w' => ∃ kk, v = .pointer (some ⟨kk, 0, none⟩) ∧ W4.heap.size ≤ kk ∧ w'.heap[kk]? = some (.cells #[.string ⟨#[]⟩, .slice none 0 0, .int .i64 0, .string ⟨#[]⟩, .slice none 0 0, .string ⟨#[]⟩, .slice none 0 0] 60 (0, 0)))] := by
        intro p hp v w w' hb h
        simp only [List.mem_cons, List.not_mem_nil, or_false] at hp
        rcases hp with rfl | rfl | rfl | rfl
        · exact ⟨h.1, h.2.be hb⟩
        · exact own_below h hb
        · obtain ⟨vv, h1, h2⟩ := h
          exact ⟨vv, h1, own_below h2 hb⟩
        · obtain ⟨kk, h1, h2, h3⟩ := h
          exact ⟨kk, h1, h2, (hb.block kk (blk_lt h3)).trans h3⟩
      refine wp_region_turn [some (.pointer (some ⟨x0, 0, none⟩)), some (.pointer (some ⟨x0, 0, none⟩)), some (.pointer (some ⟨x0, 0, none⟩)), some (.pointer (some ⟨g, 0, none⟩)), none, some (.agg #[.int .i64 y.f.op, .string y.f.a.n, .slice y.p y.f.a.us.length y.c, .string y.f.v, .slice y.q y.f.ps.length y.d]), none, some (.agg #[.int .i64 y.f.op, .string y.f.a.n, .slice y.p y.f.a.us.length y.c, .string y.f.v, .slice y.q y.f.ps.length y.d]), none, none, none] (fun b => b = g) 4 10 (fun w' => DSt ob us N base x0 g K1 E1 uv lv1 D1 X1 w')
        [(4, fun v w' => v = .string (dNm n) ∧ DSt ob us N base x0 g n E1 uv lv1 D1 X1 w'), (6, fun v w' => w'.ownsRow W4.heap.size 9 1 v (vfD y.f).length (strW (vfD y.f))), (8, fun v w' => ∃ vv, v = .agg #[.string (dNm n), vv, .int .i64 y.f.op, .string y.f.a.n, .slice y.p y.f.a.us.length y.c, .string y.f.v, .slice y.q y.f.ps.length y.d] ∧ w'.ownsRow W4.heap.size 9 1 vv (vfD y.f).length (strW (vfD y.f))),
         (9, fun v w' => ∃ kk, v = .pointer (some ⟨kk, 0, none⟩) ∧ W4.heap.size ≤ kk ∧ w'.heap[kk]? = some (.cells #[.string ⟨#[]⟩, .slice none 0 0, .int .i64 0, .string ⟨#[]⟩, .slice none 0 0, .string ⟨#[]⟩, .slice none 0 0] 60 (0, 0)))] (StoD 8 9) (by kernel_rfl) (by kernel_rfl) (HD4.out.be ((Below.refl _ _).drew)) ?_
      go_simp
      refine InK.rd 24 rfl rfl rfl (by kernel_rfl) (by intro w' hw' D hD; obtain ⟨e0, _⟩ : w'.cell? ⟨w.heap.size, 0, none⟩ = some (.pointer (some ⟨x0, 0, none⟩)) ∧ True := ⟨by rw [cell_of_row w' _ 0 _ _ (0, 0) ((hw'.block _ (by omega) (by omega)).trans HA4.out)] <;> rfl, trivial⟩; have ze := bsz (World.block_lt_of_cell? _ _ e0); go_simp; first | exact hD | exact ⟨hD, rfl⟩) ?_
      go_simp
      refine InK.rd 24 rfl rfl rfl (by kernel_rfl) (by intro w' hw' D hD; skip; go_simp; first | exact hD | exact ⟨hD, rfl⟩) ?_
      go_simp
      refine InK.rd 24 rfl rfl rfl (by kernel_rfl) (by intro w' hw' D hD; skip; go_simp; first | exact hD | exact ⟨hD, rfl⟩) ?_
      go_simp
      refine InK.rd 24 rfl rfl rfl (by kernel_rfl) (by intro w' hw' D hD; have hbx := (hw'.block x0 (by omega) hxg).trans HD4.out.box; have e0 : w'.cell? ⟨x0, 0, none⟩ = some (.pointer (some ⟨g, 0, none⟩)) := (by rw [cell_of_row w' _ 0 _ _ (0, 0) hbx]; rfl); have ze := bsz (blk_lt hbx); clear hbx; go_simp; first | exact hD | exact ⟨hD, rfl⟩) ?_
      go_simp
      refine flowV_ch rfl rfl (by
        intro u' hu' L w' hun hbe hD
        have hpr := hD.pre (n := 24) hun (by kernel_rfl)
        have hJ := hpr.2.2.1 (getD_tf hun)
        go_simp
        refine (nmName_any g K1 us uv w' hJ.nm hJ.tk (fun b hb => hb.2.2.1) hn1 hS (fun w'' hg => hJ.env.of_block (hg.block _ (hJ.foot _ hJ.xe.1) (fun e => by have := hJ.xe.2; have := Option.some.inj e; omega)) hg.size)).mono ?_
        rintro e w'' ⟨he, hnn', hg⟩
        rw [← HN.out] at he hnn'
        exact ⟨_, he, hD.turn (n := 24) rfl hbe hun (by decide) (by kernel_rfl) (by
          intro p hp hne v w w' hk hW h
          simp only [List.mem_cons, List.not_mem_nil, or_false] at hp
          rcases hp with rfl | rfl | rfl | rfl
          · exact absurd rfl hne
          · exact own_same h (fun b hb hl => hk.block b hl (by have := own_base h b hb; omega))
          · obtain ⟨vv, h1, h2⟩ := h
            exact ⟨vv, h1, own_same h2 (fun b hb hl => hk.block b hl (by have := own_base h2 b hb; omega))⟩
          · obtain ⟨kk, h1, h2, h3⟩ := h
            exact ⟨kk, h1, h2, (hk.block kk (blk_lt h3) (by omega)).trans h3⟩) ((Kp.of_gr hg).mono (fun b e => .inl (Option.some.inj e).symm)) ⟨rfl, hJ.named hnn' hg⟩⟩) ?_
      intro xn
      go_simp
      refine InK.rd 24 rfl rfl rfl (by kernel_rfl) (by intro w' hw' D hD; have hbx := (hw'.block w1.heap.size hz4 (by omega)).trans B4.out; obtain ⟨e0, e1, e2, e3, e4⟩ := five_at hbx; have ze := bsz (blk_lt hbx); clear hbx; go_simp; first | exact hD | exact ⟨hD, rfl⟩) ?_
      go_simp
      refine flowV_ch rfl rfl (by
        intro u' hu' L w' hun hbe hD
        have hpr := hD.pre (n := 24) hun (by kernel_rfl)
        have hw' := hpr.2.1
        have hsz' := hw'.size
        go_simp
        refine (variablesIn_any W4.heap.size (m + 3 + 1) y.f _ _ _ _ _ w' (FmAt.mono (fun b hb hl => hw'.block b hl (fun e => hb.2.2 (e ▸ HD4.out.xg))) (fun b hb => by have := hb.2.1; omega) _ _ _ _ (Nat.le_refl _) HF4.out) hsz' HOK.out.2.1 HOK.out.2.2.1 (fun a ha => (Fm.okD_ord _ HOK.out.1 a ha).1)).mono ?_
        rintro e w'' ⟨l', v', he, hr, hac, -, hb⟩
        obtain rfl := vfD_of hac
        exact ⟨_, he, hD.call (n := 24) rfl hbe hun (by decide) (by decide) (by kernel_rfl) dfnStab (fun w w' hb h => h.be hb) hb (own_lower hr hsz')⟩) ?_
      intro xv'
      go_simp
      refine InK.rd 24 rfl rfl rfl (by kernel_rfl) (by intro w' hw' D hD; have hbx := (hw'.block w1.heap.size hz4 (by omega)).trans B4.out; obtain ⟨e0, e1, e2, e3, e4⟩ := five_at hbx; have ze := bsz (blk_lt hbx); clear hbx; go_simp; first | exact hD | exact ⟨hD, rfl⟩) ?_
      go_simp
      refine flowV_ch rfl rfl (by
        intro u' hu' L w' hun hbe hD
        have hpr := hD.pre (n := 24) hun (by kernel_rfl)
        have q4 := hpr.2.2.2 4 (after_behind hbe (p := 4) (by kernel_rfl))
        rw [show u' 4 = xn from (after_eq hu' (p := 4) (by kernel_rfl)).trans (by simp [upd])] at q4
        have q6 := hpr.2.2.2 6 (after_behind hbe (p := 6) (by kernel_rfl))
        rw [show u' 6 = xv' from (after_eq hu' (p := 6) (by kernel_rfl)).trans (by simp [upd])] at q6
        obtain ⟨rfl, -⟩ := q4
        have q6 : w'.ownsRow W4.heap.size 9 1 xv' (vfD y.f).length (strW (vfD y.f)) := q6
        obtain ⟨pv, cv, rfl⟩ := own_slice q6
        have hcl := hD.call (x := .agg #[.string (dNm n), .slice pv (vfD y.f).length cv, .int .i64 y.f.op, .string y.f.a.n, .slice y.p y.f.a.us.length y.c, .string y.f.v, .slice y.q y.f.ps.length y.d]) (n := 24) rfl hbe hun (by decide) (by decide) (by kernel_rfl) dfnStab (fun w w' hb h => h.be hb) (Below.refl _ _) ⟨_, rfl, q6⟩
        first | (go_simp; done) | (go_simp; exact hcl)) ?_
      intro xd
      go_simp
      refine flowV_ch rfl rfl (by
        intro u' hu' L w' hun hbe hD
        have hpr := hD.pre (n := 24) hun (by kernel_rfl)
        have hw' := hpr.2.1
        have hcl := hD.call (x := .pointer (some ⟨w'.heap.size, 0, none⟩)) (n := 24) rfl hbe hun (by decide) (by decide) (by kernel_rfl) dfnStab (fun w w' hb h => h.be hb) ((Below.refl w'.heap.size w').alloc (Nat.le_refl _) (.cells #[.string ⟨#[]⟩, .slice none 0 0, .int .i64 0, .string ⟨#[]⟩, .slice none 0 0, .string ⟨#[]⟩, .slice none 0 0] 60)) ⟨w'.heap.size, rfl, hw'.size, heap_alloc_new w' _⟩
        first | (go_simp; done) | (go_simp; exact hcl)) ?_
      intro xp
      go_simp
      refine flowV_ch rfl rfl (by
        intro u' hu' L w' hun hbe hD
        have hpr := hD.pre (n := 24) hun (by kernel_rfl)
        have hu8 : u' 8 = xd := (after_eq hu' (p := 8) (by kernel_rfl)).trans (by simp [upd])
        have hu9 : u' 9 = xp := (after_eq hu' (p := 9) (by kernel_rfl)).trans (by simp [upd])
        have q8 := hpr.2.2.2 8 (after_behind hbe (p := 8) (by kernel_rfl))
        rw [hu8] at q8
        have q9 := hpr.2.2.2 9 (after_behind hbe (p := 9) (by kernel_rfl))
        rw [hu9] at q9
        obtain ⟨vv, rfl, q8⟩ := q8
        obtain ⟨kk, rfl, q91, q92⟩ := q9
        obtain ⟨pv, cv, rfl⟩ := own_slice q8
        have hst := hD.store (x := undef) rfl hbe hun (R := StoD 8 9) (w' := set7C w' kk (.string (dNm n)) (.slice pv (vfD y.f).length cv) (.int .i64 y.f.op) (.string y.f.a.n) (.slice y.p y.f.a.us.length y.c) (.string y.f.v) (.slice y.q y.f.ps.length y.d)) ⟨kk, _, _, _, _, _, _, _, by rw [upd_other _ _ (by decide)]; exact hu9, by rw [upd_other _ _ (by decide)]; exact hu8, rfl⟩
        rw [set7C] at hst
        obtain ⟨d0, d1, d2, d3, d4, d5, d6⟩ := seven_at q92
        have df : ∀ j, w'.frozen? ⟨kk, j, none⟩ = false := fun j => frozen_of_row w' _ j _ _ q92
        have ze := bsz (blk_lt q92)
        clear q92 q91 hu8 hu9 hu'
        first | (go_simp; done) | (go_simp; exact hst)) ?_
      intro xs
      refine flowV_nil ?_
      intro L wz hL hD
      obtain ⟨w0, hk0, hq, kk, z0, z1, z2, z3, z4, z5, z6, h9, h8, hwz⟩ := hD.done (fun i hi => by simpa using hL i (by simpa using hi)) (by decide)
      have q4 := hq 4 (by decide) (by decide)
      have q8 := hq 8 (by decide) (by decide)
      have q9 := hq 9 (by decide) (by decide)
      rw [h8] at q8
      rw [h9] at q9
      obtain ⟨-, q4⟩ := q4
      obtain ⟨vv, hv8, q8⟩ := q8
      obtain ⟨kk', hk9, q91, q92⟩ := q9
      simp only [Value.pointer.injEq, Option.some.injEq, Addr.mk.injEq, and_true] at hk9
      subst hk9
      simp only [Value.agg.injEq, Array.mk.injEq, List.cons.injEq, and_true] at hv8
      obtain ⟨rfl, rfl, rfl, rfl, rfl, rfl, rfl⟩ := hv8
      obtain rfl : xp = .pointer (some ⟨kk, 0, none⟩) := by simpa [upd] using h9
      obtain ⟨pv, cv, rfl⟩ := own_slice q8
      have HX1F := Lib.hid (show ∀ b, X1 b → b < w1.heap.size from HD2.out.foot)
      have hkX : ¬ X1 kk := fun e => by have := HX1F.out _ e; omega
      have HDZ := Lib.hid (show DSt ob us N base x0 g n E1 uv lv1 D1 X1 wz from q4.stab (hwz ▸ set7_kp (Kp.refl _ _) (.inl hkX) _ _ _ _ _ _ _))
      have HB7 := Lib.hid (show wz.heap[kk]? = some (.cells #[.string (dNm n), .slice pv (vfD y.f).length cv, .int .i64 y.f.op, .string y.f.a.n, .slice y.p y.f.a.us.length y.c, .string y.f.v, .slice y.q y.f.ps.length y.d] 60 (0, 0)) from hwz ▸ set7_cells w0 _ _ _ _ _ _ _ q92)
      have hzz : wz.heap.size = w0.heap.size := by rw [hwz, set7C]; simp
      have hoth : ∀ b, b ≠ kk → wz.heap[b]? = w0.heap[b]? := fun b hne => by
        by_cases hl : b < w0.heap.size
        · exact (show Kp (fun b => b = kk) w0 wz from hwz ▸ set7_kp (X := fun b => b = kk) (Kp.refl _ _) (.inl rfl) _ _ _ _ _ _ _).block b hl hne
        · rw [Array.getElem?_eq_none (by omega), Array.getElem?_eq_none (by omega)]
      have HRV := Lib.hid (show wz.ownsRow W4.heap.size 9 1 (.slice pv (vfD y.f).length cv) (vfD y.f).length (strW (vfD y.f)) from own_same q8 (fun b hb hl => hoth b (fun e => by
        subst e
        rcases q8.2 with ⟨h1, -⟩ | ⟨g', cap, cur, h1, -, h2, -⟩
        · rw [h1] at hb; simp [Value.ownBlock] at hb
        · rw [h1] at hb
          obtain rfl : g' = b := by simpa [Value.ownBlock] using hb
          rw [q92] at h2
          simp at h2)))
      have HFZ := Lib.hid (show FmAt (fun b => W.heap.size ≤ b ∧ b < w1.heap.size ∧ ¬ X1 b) (m + 3 + 1) wz y.f y.cs from FmAt.mono (fun b hb hl => (hoth b (by have := hb.2.1; omega)).trans (hk0.block b hl (fun e => hb.2.2 (e ▸ HD4.out.xg)))) (fun _ h => h) _ _ _ _ (Nat.le_refl _) HF4.out)
      have HKZ := Lib.hid (show Kp X w wz from hwz ▸ set7_kp (((HK.out.be HB4.out).trans hk0 (fun b e => .inl (e ▸ HXG.out)))) (.inr (by have := HK.out.size; omega)) _ _ _ _ _ _ _)
      have HZZ := Lib.hid (show W4.heap.size ≤ wz.heap.size from by have := hk0.size; omega)
      have HA1Z := Lib.hid ((HKZ.out.block x0 (by omega)))
      have HA0Z := Lib.hid (show wz.heap[w.heap.size]? = some (.cells #[.pointer (some ⟨x0, 0, none⟩)] 44 (0, 0)) from (hoth _ (by omega)).trans ((hk0.block _ (by omega) (by omega)).trans HA4.out))
      have HA2Z := Lib.hid (show wz.heap[w.heap.size + 2]? = some (.cells #[.int .i64 0, .string ⟨#[]⟩, .slice none 0 0, .string ⟨#[]⟩, .slice none 0 0] 29 (0, 0)) from (hoth _ (by omega)).trans ((hk0.block _ (by omega) (by omega)).trans ((HB4.out.block _ (by omega)).trans HA2'.out)))
      clear q4 q8 q92 hoth hzz hq hL hD h8 h9 hwz hk0 HA1Z
      rcases (show (tooMany E1 = false ∧ 4 < (vfD y.f).length) ∨ (tooMany E1 = false ∧ ¬ 4 < (vfD y.f).length) ∨ tooMany E1 = true by
        cases tooMany E1
        · by_cases h : 4 < (vfD y.f).length
          · exact .inl ⟨rfl, h⟩
          · exact .inr (.inl ⟨rfl, h⟩)
        · exact .inr (.inr rfl)) with ⟨hfl, hgt⟩ | ⟨hfl, hgt⟩ | hfl
      focus
        have HFL := Lib.hid hfl
        have htm : tooMany (E1 ++ [⟨dNm n, vfD y.f, y.f⟩]) = true := by rw [tooMany_app]; simp [tooMany, hgt]
        obtain ⟨bb, HBV, HTM⟩ : ∃ bb : Bool, Hid (Value.bool bb = Value.bool true) ∧ Hid (tooMany (E1 ++ [⟨dNm n, vfD y.f, y.f⟩]) = bb) := ⟨true, Lib.hid rfl, Lib.hid htm⟩
        have hgi : (4 : Int) < (vfD y.f).length := by omega
        clear hfl htm
        go_wp2_with fail
        go_wp2
        refine wp_region_grow [some (.pointer (some ⟨x0, 0, none⟩)), some (.pointer (some ⟨x0, 0, none⟩)), some (.pointer (some ⟨x0, 0, none⟩)), some (.pointer (some ⟨x0, 2, none⟩)), some (.bool false), some (.bool false), some (.pointer (some ⟨kk, 1, none⟩)), some (.slice pv (vfD y.f).length cv), some (.int .i64 ((vfD y.f).length : Nat)), some (.bool true), some (.bool true), some (.pointer (some ⟨x0, 0, none⟩)), some (.pointer (some ⟨x0, 2, none⟩)), none] 13 [] (fun _ wa wb => wb = wa.setCell ⟨x0, 2, none⟩ (.bool true)) (by kernel_rfl) (by kernel_rfl) ?_
        go_simp
        refine InG.rd 24 rfl rfl rfl (by kernel_rfl) (by intro w' hw' D hD; have hbx := (hw'.block w.heap.size (blk_lt HA0Z.out)).trans HA0Z.out; have e0 : w'.cell? ⟨w.heap.size, 0, none⟩ = some (.pointer (some ⟨x0, 0, none⟩)) := (by rw [cell_of_row w' _ 0 _ _ (0, 0) hbx]; rfl); have ze := bsz (blk_lt hbx); clear hbx; go_simp; first | exact hD | exact ⟨hD, rfl⟩) ?_
        go_simp
        refine InG.rd 24 rfl rfl rfl (by kernel_rfl) (by intro w' hw' D hD; have hbx := (hw'.block w.heap.size (blk_lt HA0Z.out)).trans HA0Z.out; have e0 : w'.cell? ⟨w.heap.size, 0, none⟩ = some (.pointer (some ⟨x0, 0, none⟩)) := (by rw [cell_of_row w' _ 0 _ _ (0, 0) hbx]; rfl); have ze := bsz (blk_lt hbx); clear hbx; go_simp; first | exact hD | exact ⟨hD, rfl⟩) ?_
        go_simp
        refine InG.rd 24 rfl rfl rfl (by kernel_rfl) (by intro w' hw' D hD; skip; go_simp; first | exact hD | exact ⟨hD, rfl⟩) ?_
        go_simp
        refine InG.rd 24 rfl rfl rfl (by kernel_rfl) (by intro w' hw' D hD; skip; go_simp; first | exact hD | exact ⟨hD, rfl⟩) ?_
        go_simp
        refine InG.rd 24 rfl rfl rfl (by kernel_rfl) (by intro w' hw' D hD; have hbx := (hw'.block x0 (blk_lt HDZ.out.box)).trans HDZ.out.box; have e0 : w'.cell? ⟨x0, 2, none⟩ = some (.bool false) := (by rw [cell_of_row w' _ 2 _ _ (0, 0) hbx, HFL.out]; rfl); have ze := bsz (blk_lt hbx); clear hbx; go_simp; first | exact hD | exact ⟨hD, rfl⟩) ?_
        go_simp
        refine InG.rd 24 rfl rfl rfl (by kernel_rfl) (by intro w' hw' D hD; skip; go_simp; first | exact hD | exact ⟨hD, rfl⟩) ?_
        go_simp
        refine flowV_yes rfl (by go_simp) (by
          intro u' L w' hun hbe hD
          have hw' := (hD.pre (n := 24) hun (by kernel_rfl)).2.1
          skip
          go_simp
          first | exact ⟨hD.other rfl hbe (by decide) rfl, rfl⟩ | exact hD.other rfl hbe (by decide) rfl) ?_
        go_simp
        refine flowV_yes rfl (by go_simp) (by
          intro u' L w' hun hbe hD
          have hw' := (hD.pre (n := 24) hun (by kernel_rfl)).2.1
          have hbx := (hw'.block kk (blk_lt HB7.out)).trans HB7.out; obtain ⟨e0, e1, e2, e3, e4, e5, e6⟩ := seven_at hbx; have ze := bsz (blk_lt hbx); clear hbx
          go_simp
          first | exact ⟨hD.other rfl hbe (by decide) rfl, rfl⟩ | exact hD.other rfl hbe (by decide) rfl) ?_
        go_simp
        refine flowV_yes rfl (by go_simp) (by
          intro u' L w' hun hbe hD
          have hw' := (hD.pre (n := 24) hun (by kernel_rfl)).2.1
          skip
          go_simp
          first | exact ⟨hD.other rfl hbe (by decide) rfl, rfl⟩ | exact hD.other rfl hbe (by decide) rfl) ?_
        go_simp
        refine flowV_yes rfl (by go_simp) (by
          intro u' L w' hun hbe hD
          have hw' := (hD.pre (n := 24) hun (by kernel_rfl)).2.1
          skip
          go_simp
          first | exact ⟨hD.other rfl hbe (by decide) rfl, rfl⟩ | exact hD.other rfl hbe (by decide) rfl) ?_
        go_simp
        refine InG.rd 24 rfl rfl rfl (by kernel_rfl) (by intro w' hw' D hD; skip; go_simp; first | exact hD | exact ⟨hD, rfl⟩) ?_
        go_simp
        refine InG.rd 24 rfl rfl rfl (by kernel_rfl) (by intro w' hw' D hD; skip; go_simp; first | exact hD | exact ⟨hD, rfl⟩) ?_
        go_simp
        refine InG.rd 24 rfl rfl rfl (by kernel_rfl) (by intro w' hw' D hD; skip; go_simp; first | exact hD | exact ⟨hD, rfl⟩) ?_
        go_simp
        refine flowV_ch rfl rfl (by
          intro u' hu' L w' hun hbe hD
          have hw' := (hD.pre (n := 24) hun (by kernel_rfl)).2.1
          have hbx := (hw'.block x0 (blk_lt HDZ.out.box)).trans HDZ.out.box
          have e0 : w'.cell? ⟨x0, 2, none⟩ = some (.bool false) := (by rw [cell_of_row w' _ 2 _ _ (0, 0) hbx, HFL.out]; rfl)
          have ze := bsz (blk_lt hbx)
          have df : ∀ j, w'.frozen? ⟨x0, j, none⟩ = false := fun j => frozen_of_row w' _ j _ _ hbx
          have hst := hD.store (x := undef) (w' := w'.setCell ⟨x0, 2, none⟩ (.bool true)) rfl hbe hun rfl
          clear hbx hu'
          first | (go_simp; done) | (go_simp; exact hst)) ?_
        intro xs2
        refine flowV_nil ?_
        intro L wf hL hD
        obtain ⟨wa, hba, -, hwf⟩ := hD.done (fun i hi => by simpa using hL i (by simpa using hi)) (by decide)
        rw [← HBV.out] at hwf
      rotate_left
      focus
        have HFL := Lib.hid hfl
        have htm : tooMany (E1 ++ [⟨dNm n, vfD y.f, y.f⟩]) = false := by rw [tooMany_app, hfl]; simp [tooMany]; omega
        obtain ⟨bb, HBV, HTM⟩ : ∃ bb : Bool, Hid (Value.bool bb = Value.bool false) ∧ Hid (tooMany (E1 ++ [⟨dNm n, vfD y.f, y.f⟩]) = bb) := ⟨false, Lib.hid rfl, Lib.hid htm⟩
        have hgi : ¬ (4 : Int) < (vfD y.f).length := by omega
        clear hfl htm
        go_wp2_with fail
        go_wp2
        refine wp_region_grow [some (.pointer (some ⟨x0, 0, none⟩)), some (.pointer (some ⟨x0, 0, none⟩)), some (.pointer (some ⟨x0, 0, none⟩)), some (.pointer (some ⟨x0, 2, none⟩)), some (.bool false), some (.bool false), some (.pointer (some ⟨kk, 1, none⟩)), some (.slice pv (vfD y.f).length cv), some (.int .i64 ((vfD y.f).length : Nat)), some (.bool false), some (.bool false), some (.pointer (some ⟨x0, 0, none⟩)), some (.pointer (some ⟨x0, 2, none⟩)), none] 13 [] (fun _ wa wb => wb = wa.setCell ⟨x0, 2, none⟩ (.bool false)) (by kernel_rfl) (by kernel_rfl) ?_
        go_simp
        refine InG.rd 24 rfl rfl rfl (by kernel_rfl) (by intro w' hw' D hD; have hbx := (hw'.block w.heap.size (blk_lt HA0Z.out)).trans HA0Z.out; have e0 : w'.cell? ⟨w.heap.size, 0, none⟩ = some (.pointer (some ⟨x0, 0, none⟩)) := (by rw [cell_of_row w' _ 0 _ _ (0, 0) hbx]; rfl); have ze := bsz (blk_lt hbx); clear hbx; go_simp; first | exact hD | exact ⟨hD, rfl⟩) ?_
        go_simp
        refine InG.rd 24 rfl rfl rfl (by kernel_rfl) (by intro w' hw' D hD; have hbx := (hw'.block w.heap.size (blk_lt HA0Z.out)).trans HA0Z.out; have e0 : w'.cell? ⟨w.heap.size, 0, none⟩ = some (.pointer (some ⟨x0, 0, none⟩)) := (by rw [cell_of_row w' _ 0 _ _ (0, 0) hbx]; rfl); have ze := bsz (blk_lt hbx); clear hbx; go_simp; first | exact hD | exact ⟨hD, rfl⟩) ?_
        go_simp
        refine InG.rd 24 rfl rfl rfl (by kernel_rfl) (by intro w' hw' D hD; skip; go_simp; first | exact hD | exact ⟨hD, rfl⟩) ?_
        go_simp
        refine InG.rd 24 rfl rfl rfl (by kernel_rfl) (by intro w' hw' D hD; skip; go_simp; first | exact hD | exact ⟨hD, rfl⟩) ?_
        go_simp
        refine InG.rd 24 rfl rfl rfl (by kernel_rfl) (by intro w' hw' D hD; have hbx := (hw'.block x0 (blk_lt HDZ.out.box)).trans HDZ.out.box; have e0 : w'.cell? ⟨x0, 2, none⟩ = some (.bool false) := (by rw [cell_of_row w' _ 2 _ _ (0, 0) hbx, HFL.out]; rfl); have ze := bsz (blk_lt hbx); clear hbx; go_simp; first | exact hD | exact ⟨hD, rfl⟩) ?_
        go_simp
        refine InG.rd 24 rfl rfl rfl (by kernel_rfl) (by intro w' hw' D hD; skip; go_simp; first | exact hD | exact ⟨hD, rfl⟩) ?_
        go_simp
        refine flowV_yes rfl (by go_simp) (by
          intro u' L w' hun hbe hD
          have hw' := (hD.pre (n := 24) hun (by kernel_rfl)).2.1
          skip
          go_simp
          first | exact ⟨hD.other rfl hbe (by decide) rfl, rfl⟩ | exact hD.other rfl hbe (by decide) rfl) ?_
        go_simp
        refine flowV_yes rfl (by go_simp) (by
          intro u' L w' hun hbe hD
          have hw' := (hD.pre (n := 24) hun (by kernel_rfl)).2.1
          have hbx := (hw'.block kk (blk_lt HB7.out)).trans HB7.out; obtain ⟨e0, e1, e2, e3, e4, e5, e6⟩ := seven_at hbx; have ze := bsz (blk_lt hbx); clear hbx
          go_simp
          first | exact ⟨hD.other rfl hbe (by decide) rfl, rfl⟩ | exact hD.other rfl hbe (by decide) rfl) ?_
        go_simp
        refine flowV_yes rfl (by go_simp) (by
          intro u' L w' hun hbe hD
          have hw' := (hD.pre (n := 24) hun (by kernel_rfl)).2.1
          skip
          go_simp
          first | exact ⟨hD.other rfl hbe (by decide) rfl, rfl⟩ | exact hD.other rfl hbe (by decide) rfl) ?_
        go_simp
        refine flowV_yes rfl (by go_simp) (by
          intro u' L w' hun hbe hD
          have hw' := (hD.pre (n := 24) hun (by kernel_rfl)).2.1
          skip
          go_simp
          first | exact ⟨hD.other rfl hbe (by decide) rfl, rfl⟩ | exact hD.other rfl hbe (by decide) rfl) ?_
        go_simp
        refine InG.rd 24 rfl rfl rfl (by kernel_rfl) (by intro w' hw' D hD; skip; go_simp; first | exact hD | exact ⟨hD, rfl⟩) ?_
        go_simp
        refine InG.rd 24 rfl rfl rfl (by kernel_rfl) (by intro w' hw' D hD; skip; go_simp; first | exact hD | exact ⟨hD, rfl⟩) ?_
        go_simp
        refine InG.rd 24 rfl rfl rfl (by kernel_rfl) (by intro w' hw' D hD; skip; go_simp; first | exact hD | exact ⟨hD, rfl⟩) ?_
        go_simp
        refine flowV_ch rfl rfl (by
          intro u' hu' L w' hun hbe hD
          have hw' := (hD.pre (n := 24) hun (by kernel_rfl)).2.1
          have hbx := (hw'.block x0 (blk_lt HDZ.out.box)).trans HDZ.out.box
          have e0 : w'.cell? ⟨x0, 2, none⟩ = some (.bool false) := (by rw [cell_of_row w' _ 2 _ _ (0, 0) hbx, HFL.out]; rfl)
          have ze := bsz (blk_lt hbx)
          have df : ∀ j, w'.frozen? ⟨x0, j, none⟩ = false := fun j => frozen_of_row w' _ j _ _ hbx
          have hst := hD.store (x := undef) (w' := w'.setCell ⟨x0, 2, none⟩ (.bool false)) rfl hbe hun rfl
          clear hbx hu'
          first | (go_simp; done) | (go_simp; exact hst)) ?_
        intro xs2
        refine flowV_nil ?_
        intro L wf hL hD
        obtain ⟨wa, hba, -, hwf⟩ := hD.done (fun i hi => by simpa using hL i (by simpa using hi)) (by decide)
        rw [← HBV.out] at hwf
      rotate_left
      focus
        have HFL := Lib.hid hfl
        have htm : tooMany (E1 ++ [⟨dNm n, vfD y.f, y.f⟩]) = true := by rw [tooMany_app, hfl]; rfl
        obtain ⟨bb, HBV, HTM⟩ : ∃ bb : Bool, Hid (Value.bool bb = Value.bool true) ∧ Hid (tooMany (E1 ++ [⟨dNm n, vfD y.f, y.f⟩]) = bb) := ⟨true, Lib.hid rfl, Lib.hid htm⟩
        clear hfl htm
        go_wp2_with fail
        go_wp2
        refine wp_region_grow [some (.pointer (some ⟨x0, 0, none⟩)), some (.pointer (some ⟨x0, 0, none⟩)), some (.pointer (some ⟨x0, 0, none⟩)), some (.pointer (some ⟨x0, 2, none⟩)), some (.bool true), some (.bool true), some (undef), some (undef), some (undef), some (undef), some (.bool true), some (.pointer (some ⟨x0, 0, none⟩)), some (.pointer (some ⟨x0, 2, none⟩)), none] 13 [] (fun _ wa wb => wb = wa.setCell ⟨x0, 2, none⟩ (.bool true)) (by kernel_rfl) (by kernel_rfl) ?_
        go_simp
        refine InG.rd 24 rfl rfl rfl (by kernel_rfl) (by intro w' hw' D hD; have hbx := (hw'.block w.heap.size (blk_lt HA0Z.out)).trans HA0Z.out; have e0 : w'.cell? ⟨w.heap.size, 0, none⟩ = some (.pointer (some ⟨x0, 0, none⟩)) := (by rw [cell_of_row w' _ 0 _ _ (0, 0) hbx]; rfl); have ze := bsz (blk_lt hbx); clear hbx; go_simp; first | exact hD | exact ⟨hD, rfl⟩) ?_
        go_simp
        refine InG.rd 24 rfl rfl rfl (by kernel_rfl) (by intro w' hw' D hD; have hbx := (hw'.block w.heap.size (blk_lt HA0Z.out)).trans HA0Z.out; have e0 : w'.cell? ⟨w.heap.size, 0, none⟩ = some (.pointer (some ⟨x0, 0, none⟩)) := (by rw [cell_of_row w' _ 0 _ _ (0, 0) hbx]; rfl); have ze := bsz (blk_lt hbx); clear hbx; go_simp; first | exact hD | exact ⟨hD, rfl⟩) ?_
        go_simp
        refine InG.rd 24 rfl rfl rfl (by kernel_rfl) (by intro w' hw' D hD; skip; go_simp; first | exact hD | exact ⟨hD, rfl⟩) ?_
        go_simp
        refine InG.rd 24 rfl rfl rfl (by kernel_rfl) (by intro w' hw' D hD; skip; go_simp; first | exact hD | exact ⟨hD, rfl⟩) ?_
        go_simp
        refine InG.rd 24 rfl rfl rfl (by kernel_rfl) (by intro w' hw' D hD; have hbx := (hw'.block x0 (blk_lt HDZ.out.box)).trans HDZ.out.box; have e0 : w'.cell? ⟨x0, 2, none⟩ = some (.bool true) := (by rw [cell_of_row w' _ 2 _ _ (0, 0) hbx, HFL.out]; rfl); have ze := bsz (blk_lt hbx); clear hbx; go_simp; first | exact hD | exact ⟨hD, rfl⟩) ?_
        go_simp
        refine InG.rd 24 rfl rfl rfl (by kernel_rfl) (by intro w' hw' D hD; skip; go_simp; first | exact hD | exact ⟨hD, rfl⟩) ?_
        go_simp
        refine flowV_no rfl rfl (by go_simp) (by
          intro u' L w' hun hbe hD
          exact hD.other rfl hbe (by decide) rfl) ?_
        go_simp
        refine flowV_no rfl rfl (by go_simp) (by
          intro u' L w' hun hbe hD
          exact hD.other rfl hbe (by decide) rfl) ?_
        go_simp
        refine flowV_no rfl rfl (by go_simp) (by
          intro u' L w' hun hbe hD
          exact hD.other rfl hbe (by decide) rfl) ?_
        go_simp
        refine flowV_no rfl rfl (by go_simp) (by
          intro u' L w' hun hbe hD
          exact hD.other rfl hbe (by decide) rfl) ?_
        go_simp
        refine InG.rd 24 rfl rfl rfl (by kernel_rfl) (by intro w' hw' D hD; skip; go_simp; first | exact hD | exact ⟨hD, rfl⟩) ?_
        go_simp
        refine InG.rd 24 rfl rfl rfl (by kernel_rfl) (by intro w' hw' D hD; skip; go_simp; first | exact hD | exact ⟨hD, rfl⟩) ?_
        go_simp
        refine InG.rd 24 rfl rfl rfl (by kernel_rfl) (by intro w' hw' D hD; skip; go_simp; first | exact hD | exact ⟨hD, rfl⟩) ?_
        go_simp
        refine flowV_ch rfl rfl (by
          intro u' hu' L w' hun hbe hD
          have hw' := (hD.pre (n := 24) hun (by kernel_rfl)).2.1
          have hbx := (hw'.block x0 (blk_lt HDZ.out.box)).trans HDZ.out.box
          have e0 : w'.cell? ⟨x0, 2, none⟩ = some (.bool true) := (by rw [cell_of_row w' _ 2 _ _ (0, 0) hbx, HFL.out]; rfl)
          have ze := bsz (blk_lt hbx)
          have df : ∀ j, w'.frozen? ⟨x0, j, none⟩ = false := fun j => frozen_of_row w' _ j _ _ hbx
          have hst := hD.store (x := undef) (w' := w'.setCell ⟨x0, 2, none⟩ (.bool true)) rfl hbe hun rfl
          clear hbx hu'
          first | (go_simp; done) | (go_simp; exact hst)) ?_
        intro xs2
        refine flowV_nil ?_
        intro L wf hL hD
        obtain ⟨wa, hba, -, hwf⟩ := hD.done (fun i hi => by simpa using hL i (by simpa using hi)) (by decide)
        rw [← HBV.out] at hwf
      rotate_left
      all_goals
        clear HBV
        have hzf : wf.heap.size = wa.heap.size := by rw [hwf]; simp
        have HBF := Lib.hid (show wf.heap[x0]? = some (.cells #[.pointer (some ⟨g, 0, none⟩), lv1, .bool bb] 51 (0, 0)) by
          have := heap_setCell_same wa x0 2 _ _ (.bool bb) ((hba.block x0 (blk_lt HDZ.out.box)).trans HDZ.out.box)
          rw [hwf]; simpa using this)
        have HOF := Lib.hid (show ∀ b, b < wz.heap.size → b ≠ x0 → wf.heap[b]? = wz.heap[b]? from fun b hb hne => by rw [hwf]; exact (heap_setCell_other wa ⟨x0, 2, none⟩ b _ hne).trans (hba.block b hb))
        have HKF := Lib.hid (show Kp X w wf from hwf ▸ ((HKZ.out.be hba).sc (a := ⟨x0, 2, none⟩) (.inl HXX.out) _))
        have HZF := Lib.hid (show wz.heap.size ≤ wf.heap.size from by have := hba.size; omega)
        clear hwf hba hzf hL hD
        obtain ⟨pl, cl, hlv⟩ := own_slice HDZ.out.row
        subst hlv
        have HNL := Lib.hid (show (Value.slice pl D1.length cl).ownBlock ≠ some kk ∧ (Value.slice pl D1.length cl).ownBlock ≠ some x0 ∧ (Value.slice pl D1.length cl).ownBlock ≠ some w.heap.size from ⟨fun e => hkX (HDZ.out.xl _ e), HDZ.out.nl.1, fun e => (HX1.out _ (HDZ.out.xl _ e)).elim (fun e => by have := HIX.out _ e; omega) (fun e => by omega)⟩)
        have HRF := Lib.hid (show wf.ownsRow base 60 7 (.slice pl D1.length cl) D1.length (flatD D1) from own_same HDZ.out.row (fun b hb hl => HOF.out b hl (fun e => HNL.out.2.1 (e ▸ hb))))
        have hD1l : D1.length ≤ 10000 := by have := congrArg List.length HDZ.out.ds; rw [List.length_map] at this; omega
        have hbs : base ≤ wf.heap.size := by have := HKF.out.size; omega
        have HC7 := Lib.hid (show wf.heap[kk]? = _ from (HOF.out kk (blk_lt HB7.out) (by omega)).trans HB7.out)
        have HC0 := Lib.hid (show wf.heap[w.heap.size]? = _ from (HOF.out _ (blk_lt HA0Z.out) (by omega)).trans HA0Z.out)
        go_wp2_with fail
        go_wp2
        have HCL := Lib.hid (fun (j : Nat) (u' : Nat → Value) (w' : World) (hj : j ≤ 2) (hS : BoxA 60 7 ⟨x0, 1, none⟩ (.slice pl D1.length cl) D1.length #[.string (dNm n), .slice pv (vfD y.f).length cv, .int .i64 y.f.op, .string y.f.a.n, .slice y.p y.f.a.us.length y.c, .string y.f.v, .slice y.q y.f.ps.length y.d] wf.drew 6 7 j u' w') => And.intro (hS.cell (b := w.heap.size) (o := 0) (x := .pointer (some ⟨x0, 0, none⟩)) hj HNL.out.2.2 ((cell_of_row wf _ 0 _ _ (0, 0) HC0.out).trans rfl)) (And.intro (hS.cell (b := x0) (o := 1) (x := .slice pl D1.length cl) hj HNL.out.2.1 ((cell_of_row wf _ 1 _ _ (0, 0) HBF.out).trans rfl)) (And.intro (hS.frozen (b := x0) (o := 1) hj HNL.out.2.1 HBF.out)
          (And.intro (hS.cell (b := kk) (o := 0) (x := .string (dNm n)) hj HNL.out.1 ((cell_of_row wf _ 0 _ _ (0, 0) HC7.out).trans rfl)) (And.intro (hS.cell (b := kk) (o := 1) (x := .slice pv (vfD y.f).length cv) hj HNL.out.1 ((cell_of_row wf _ 1 _ _ (0, 0) HC7.out).trans rfl)) (And.intro (hS.cell (b := kk) (o := 2) (x := .int .i64 y.f.op) hj HNL.out.1 ((cell_of_row wf _ 2 _ _ (0, 0) HC7.out).trans rfl)) (And.intro (hS.cell (b := kk) (o := 3) (x := .string y.f.a.n) hj HNL.out.1 ((cell_of_row wf _ 3 _ _ (0, 0) HC7.out).trans rfl)) (And.intro (hS.cell (b := kk) (o := 4) (x := .slice y.p y.f.a.us.length y.c) hj HNL.out.1 ((cell_of_row wf _ 4 _ _ (0, 0) HC7.out).trans rfl)) (And.intro (hS.cell (b := kk) (o := 5) (x := .string y.f.v) hj HNL.out.1 ((cell_of_row wf _ 5 _ _ (0, 0) HC7.out).trans rfl)) (hS.cell (b := kk) (o := 6) (x := .slice y.q y.f.ps.length y.d) hj HNL.out.1 ((cell_of_row wf _ 6 _ _ (0, 0) HC7.out).trans rfl)))))))))))
        refine wp_region_stages [some (.pointer (some ⟨x0, 0, none⟩)), some (.pointer (some ⟨x0, 0, none⟩)), some (.pointer (some ⟨x0, 0, none⟩)), some (.pointer (some ⟨x0, 1, none⟩)), some (.slice pl D1.length cl), some (.agg #[.string (dNm n), .slice pv (vfD y.f).length cv, .int .i64 y.f.op, .string y.f.a.n, .slice y.p y.f.a.us.length y.c, .string y.f.v, .slice y.q y.f.ps.length y.d]), none, none, some (.pointer (some ⟨x0, 0, none⟩)), some (.pointer (some ⟨x0, 1, none⟩)), none] [6, 7, 10] (BoxA 60 7 ⟨x0, 1, none⟩ (.slice pl D1.length cl) (D1.length) (#[.string (dNm n), .slice pv (vfD y.f).length cv, .int .i64 y.f.op, .string y.f.a.n, .slice y.p y.f.a.us.length y.c, .string y.f.v, .slice y.q y.f.ps.length y.d]) (wf.drew) 6 7) (by kernel_rfl) (by kernel_rfl) (by first | kernel_rfl | rfl) (by rfl) rfl ?_
        refine chain_stb (c := 10) 2 rfl rfl (by decide) rfl rfl rfl (by first | kernel_rfl | rfl) ?_ ?_
        · intro j u w' hj hS
          have hc := HCL.out j u w' hj hS
          go_simp
          first | done | exact ⟨hS, rfl⟩ | exact hS | rfl
        go_simp
        refine chain_stb (c := 10) 2 rfl rfl (by decide) rfl rfl rfl (by first | kernel_rfl | rfl) ?_ ?_
        · intro j u w' hj hS
          have hc := HCL.out j u w' hj hS
          go_simp
          first | done | exact ⟨hS, rfl⟩ | exact hS | rfl
        go_simp
        refine chain_stb (c := 10) 2 rfl rfl (by decide) rfl rfl rfl (by first | kernel_rfl | rfl) ?_ ?_
        · intro j u w' hj hS
          have hc := HCL.out j u w' hj hS
          go_simp
          first | done | exact ⟨hS, rfl⟩ | exact hS | rfl
        go_simp
        refine chain_stb (c := 10) 2 rfl rfl (by decide) rfl rfl rfl (by first | kernel_rfl | rfl) ?_ ?_
        · intro j u w' hj hS
          have hc := HCL.out j u w' hj hS
          go_simp
          first | done | exact ⟨hS, rfl⟩ | exact hS | rfl
        go_simp
        refine chain_stb (c := 10) 2 rfl rfl (by decide) rfl rfl rfl (by first | kernel_rfl | rfl) ?_ ?_
        · intro j u w' hj hS
          have hc := HCL.out j u w' hj hS
          go_simp
          first | done | exact ⟨hS, rfl⟩ | exact hS | rfl
        go_simp
        refine chain_stb (c := 10) 2 rfl rfl (by decide) rfl rfl rfl (by first | kernel_rfl | rfl) ?_ ?_
        · intro j u w' hj hS
          have hc := HCL.out j u w' hj hS
          go_simp
          first | done | exact ⟨hS, rfl⟩ | exact hS | rfl
        go_simp
        refine chain_first rfl rfl rfl (by decide) rfl ?_ ?_
        · intro w' hS
          obtain rfl : w' = wf.drew := hS
          go_simp
          exact ⟨rfl, upd_same _ _ _⟩
        intro xb
        go_simp
        refine chain_next 0 rfl rfl rfl rfl (by decide) rfl (by first | kernel_rfl | rfl) ?_ ?_
        · intro w' hS
          obtain ⟨rfl, hy⟩ := hS
          rw [upd_same] at hy
          subst hy
          refine each_app1 (.tmp 46) (.tmp 48) _ rfl (base) 60 7 128 elemDf (.slice pl D1.length cl) (D1.length) (flatD D1) rfl (wf.drew) (#[.string (dNm n), .slice pv (vfD y.f).length cv, .int .i64 y.f.op, .string y.f.a.n, .slice y.p y.f.a.us.length y.c, .string y.f.v, .slice y.q y.f.ps.length y.d]) rfl rfl (HRF.out) rfl (by intro u hu; simp at hu; first | (subst hu; rfl) | (rcases hu with rfl | rfl <;> rfl) | (rcases hu with rfl | rfl | rfl <;> rfl) | (rcases hu with rfl | rfl | rfl | rfl <;> rfl) | (rcases hu with rfl | rfl | rfl | rfl | rfl <;> rfl) | (rcases hu with rfl | rfl | rfl | rfl | rfl | rfl <;> rfl) | (rcases hu with rfl | rfl | rfl | rfl | rfl | rfl | rfl <;> rfl)) (by omega) (by unfold maxLen; omega) (by first | omega | (simp; omega)) ?_
          intro v' w3 happ hg3 hnr hsz
          exact ⟨by rw [upd_same]; exact happ, hg3, by rw [upd_same]; exact hnr, hsz⟩
        intro xa
        go_simp
        refine chain_st rfl rfl (by decide) rfl (by intro j u w' hS; go_simp; first | done | exact ⟨hS, rfl⟩ | exact hS | rfl) ?_
        go_simp
        refine chain_stb (c := 10) 2 rfl rfl (by decide) rfl rfl rfl (by first | kernel_rfl | rfl) ?_ ?_
        · intro j u w' hj hS
          have hc := HCL.out j u w' hj hS
          go_simp
          first | done | exact ⟨hS, rfl⟩ | exact hS | rfl
        go_simp
        refine chain_next 1 rfl rfl rfl rfl (by decide) rfl (by first | kernel_rfl | rfl) ?_ ?_
        · intro w' hS
          have hc := HCL.out 2 _ _ (Nat.le_refl _) hS
          obtain ⟨happ, hg3, hnr, hsz⟩ := hS
          rw [upd_same] at happ hnr
          obtain ⟨q', c', rfl⟩ := own_form (happ (base) (flatD D1) (HRF.out) (by first | omega | (simp; omega))) (Nat.succ_pos _)
          go_simp
          exact ⟨w', ⟨by rw [upd_other _ _ (by decide), upd_same]; exact happ, hg3, by rw [upd_other _ _ (by decide), upd_same]; exact hnr, hsz⟩, by rw [upd_other _ _ (by decide), upd_same]⟩
        intro xs'
        refine flowU_nil ?_
        intro wz hz
        obtain ⟨w2, hAp, rfl⟩ := hz
        rw [upd_other _ _ (by decide), upd_same] at hAp ⊢
        have HAP := Lib.hid hAp
        clear hAp
        go_simp
        have hrow2 := HAP.out.1 base (flatD D1) HRF.out (by simp; omega)
        obtain ⟨q2, k2, rfl⟩ := own_form hrow2 (Nat.succ_pos _)
        have hbx2 := (HAP.out.keep (b := x0) (blk_lt HBF.out) HNL.out.2.1).trans HBF.out
        have hfx := HAP.out.fresh (b := x0) (blk_lt HBF.out) HNL.out.2.1
        obtain ⟨W7, hW7⟩ : ∃ q', q' = w2.setCell ⟨x0, 1, none⟩ (.slice (some ⟨q2, 0, none⟩) (D1.length + 1) k2) := ⟨_, rfl⟩
        have hz72 : W7.heap.size = w2.heap.size := by rw [hW7]; simp
        have hzf2 : wf.heap.size < w2.heap.size := HAP.out.2.2.2
        have HBX7 := Lib.hid (show W7.heap[x0]? = some (.cells #[.pointer (some ⟨g, 0, none⟩), .slice (some ⟨q2, 0, none⟩) (D1.length + 1) k2, .bool bb] 51 (0, 0)) by
          have := heap_setCell_same w2 x0 1 _ _ (.slice (some ⟨q2, 0, none⟩) (D1.length + 1) k2) hbx2
          rw [hW7]; simpa using this)
        have HO7 := Lib.hid (show ∀ b, b < wz.heap.size → b ≠ x0 → (Value.slice pl D1.length cl).ownBlock ≠ some b → W7.heap[b]? = wz.heap[b]? from fun b hb hne hno => by
          rw [hW7]
          exact (heap_setCell_other w2 ⟨x0, 1, none⟩ b _ hne).trans ((HAP.out.keep (b := b) (show b < wf.heap.size by have := HZF.out; omega) hno).trans (HOF.out b hb hne)))
        have HR7 := Lib.hid (show W7.ownsRow base 60 7 (.slice (some ⟨q2, 0, none⟩) (D1.length + 1) k2) (D1.length + 1) (flatD D1 ++ [.string (dNm n), .slice pv (vfD y.f).length cv, .int .i64 y.f.op, .string y.f.a.n, .slice y.p y.f.a.us.length y.c, .string y.f.v, .slice y.q y.f.ps.length y.d]) by
          rw [hW7]
          exact own_same hrow2 (fun b hb _ => heap_setCell_other w2 ⟨x0, 1, none⟩ b _ (fun e => hfx (by rw [hb]; exact congrArg some e))))
        have HN7 := Lib.hid (show NewRow (.slice pl D1.length cl) (.slice (some ⟨q2, 0, none⟩) (D1.length + 1) k2) wz.heap.size from HAP.out.2.2.1.imp id (fun ⟨g', e, h⟩ => ⟨g', e, by have h : wf.heap.size ≤ g' := h; have := HZF.out; omega⟩))
        have HK7 := Lib.hid (show Kp X w W7 by
          rw [hW7]
          have h1 : Kp X w w2 := (show Kp X w wf.drew from HKF.out.drew).trans (Kp.of_gr HAP.out.2.1) (fun b e => (HX1.out b (HDZ.out.xl b e)).imp id (fun e => by omega))
          exact h1.sc (a := ⟨x0, 1, none⟩) (.inl HXX.out) _)
        have hnm7 : n ≤ 10000000 := by
          have h1 := nextD_le (k := K1) hS
          have := HN.out
          omega
        have hvs7 : ∀ s ∈ vfD y.f, s.size ≤ maxLen := fun s hs => by
          have := vfD_var HOK.out.1 s hs
          simp only [varB, Bool.and_eq_true, decide_eq_true_eq] at this
          have h2 : s.size = s.data.toList.length := by rw [Array.length_toList]; rfl
          unfold maxLen; omega
        have hvl7 : (vfD y.f).length ≤ maxLen := by have := HOK.out.2.2.2; unfold maxLen; omega
        have hwW : w.heap.size + 3 ≤ W4.heap.size := by omega
        have HDX := Lib.hid (show DAt (fun b => b < wz.heap.size ∧ (X1 b ∨ (w.heap.size + 3 ≤ b ∧ b < wz.heap.size)) ∧ ¬ X1 b) N wz ⟨dNm n, vfD y.f, pv, cv, y⟩ from
          ⟨dNm_small hnm7, ((rowS_own (S := fun b => (Value.slice pv (vfD y.f).length cv).ownBlock = some b) HRV.out hvs7 hvl7 (fun _ h => h)).at_).mono (SameOn.refl _ _) (fun b hb => by
            have h1 := own_base HRV.out b hb
            have h2 := own_lt' HRV.out hb
            exact ⟨h2, .inr ⟨by omega, h2⟩, fun e => by have := HX1F.out b e; omega⟩),
           FmAt.mono (SameOn.refl _ _) (fun b hb => ⟨by have := hb.2.1; have := HZZ.out; omega, .inr ⟨by have := hb.1; omega, by have := hb.2.1; have := HZZ.out; omega⟩, hb.2.2⟩) _ _ _ _ (by omega) HFZ.out⟩)
        have HD7 := Lib.hid (show DSt ob us N base x0 g n (E1 ++ [⟨dNm n, vfD y.f, y.f⟩]) uv (.slice (some ⟨q2, 0, none⟩) (D1.length + 1) k2) (D1 ++ [⟨dNm n, vfD y.f, pv, cv, y⟩]) (fun b => (X1 b ∨ (w.heap.size + 3 ≤ b ∧ b < wz.heap.size)) ∨ (Value.slice (some ⟨q2, 0, none⟩) (D1.length + 1) k2).ownBlock = some b) W7 from
          HDZ.out.grown (x := ⟨dNm n, vfD y.f, pv, cv, y⟩) HDX.out (fun b e => .inl e) (fun b e => e.elim (fun e => by have := HX1F.out b e; have := HZZ.out; omega) (fun e => e.2)) HR7.out HN7.out (by show W7.heap[x0]? = some (.cells #[.pointer (some ⟨g, 0, none⟩), .slice (some ⟨q2, 0, none⟩) (D1.length + 1) k2, .bool (tooMany (E1 ++ [⟨dNm n, vfD y.f, y.f⟩]))] 51 (0, 0)); rw [HTM.out]; exact HBX7.out) HO7.out (by have := HZF.out; omega))
        have HV7 := Lib.hid (show StrsAt (fun b => b < wz.heap.size ∧ (X1 b ∨ (w.heap.size + 3 ≤ b ∧ b < wz.heap.size)) ∧ ¬ X1 b) W7 (.slice pv (vfD y.f).length cv) (vfD y.f) from HDX.out.vs.mono (fun b hb _ => HO7.out b hb.1 (fun e => hb.2.2 (e ▸ HDZ.out.xx)) (fun e => hb.2.2 (HDZ.out.xl b e))) (fun _ h => h))
        have HC77 := Lib.hid (show W7.heap[kk]? = _ from (HO7.out kk (blk_lt HB7.out) (by omega) HNL.out.1).trans HB7.out)
        have HA27 := Lib.hid (show W7.heap[w.heap.size + 2]? = some (.cells #[.int .i64 0, .string ⟨#[]⟩, .slice none 0 0, .string ⟨#[]⟩, .slice none 0 0] 29 (0, 0)) from (HO7.out _ (blk_lt HA2Z.out) (by omega) (fun e => (HX1.out _ (HDZ.out.xl _ e)).elim (HNX.out _ (by omega)) (fun e => by omega))).trans HA2Z.out)
        rw [← hW7]
        clear hW7 hrow2 hbx2 hfx HCL HAP
        have hz7 : wz.heap.size < W7.heap.size := by have := HZF.out; omega
        clear hz72 hzf2
        go_wp2_with fail
        go_wp2
        have h7stab : Proms.Stab [(4, fun v w' => w'.ownsRow W7.heap.size 26 2 v (vfD y.f).length (flatT ((vfD y.f).map leafC))), (5, fun v w' => ∃ p' c', v = .agg #[.string (dNm n), .slice p' (vfD y.f).length c'] ∧ w'.ownsRow W7.heap.size 26 2 (.slice p' (vfD y.f).length c') (vfD y.f).length (flatT ((vfD y.f).map leafC))),
            (6, fun v w' => ∃ p' c', v = .agg #[.int .i64 3, .string (dNm n), .slice p' (vfD y.f).length c', .string ⟨#[]⟩, .slice none 0 0] ∧ w'.ownsRow W7.heap.size 26 2 (.slice p' (vfD y.f).length c') (vfD y.f).length (flatT ((vfD y.f).map leafC)))] := by
          intro p hp v w w' hb h
          simp only [List.mem_cons, List.not_mem_nil, or_false] at hp
          rcases hp with rfl | rfl | rfl
          · exact own_below h hb
          · obtain ⟨p', c', h1, h2⟩ := h
            exact ⟨p', c', h1, own_below h2 hb⟩
          · obtain ⟨p', c', h1, h2⟩ := h
            exact ⟨p', c', h1, own_below h2 hb⟩
        refine wp_region_grow [some (.pointer (some ⟨kk, 0, none⟩)), some (.string (dNm n)), some (.pointer (some ⟨kk, 1, none⟩)), some (.slice pv (vfD y.f).length cv), none, none, none, none] 7 [(4, fun v w' => w'.ownsRow W7.heap.size 26 2 v (vfD y.f).length (flatT ((vfD y.f).map leafC))), (5, fun v w' => ∃ p' c', v = .agg #[.string (dNm n), .slice p' (vfD y.f).length c'] ∧ w'.ownsRow W7.heap.size 26 2 (.slice p' (vfD y.f).length c') (vfD y.f).length (flatT ((vfD y.f).map leafC))),
            (6, fun v w' => ∃ p' c', v = .agg #[.int .i64 3, .string (dNm n), .slice p' (vfD y.f).length c', .string ⟨#[]⟩, .slice none 0 0] ∧ w'.ownsRow W7.heap.size 26 2 (.slice p' (vfD y.f).length c') (vfD y.f).length (flatT ((vfD y.f).map leafC)))] (fun u wa wb => ∃ p' c', u 6 = .agg #[.int .i64 3, .string (dNm n), .slice p' (vfD y.f).length c', .string ⟨#[]⟩, .slice none 0 0] ∧ wb = set5C wa (w.heap.size + 2) (.int .i64 3) (.string (dNm n)) (.slice p' (vfD y.f).length c') (.string ⟨#[]⟩) (.slice none 0 0)) (by kernel_rfl) (by kernel_rfl) ?_
        go_simp
        refine InG.rd 24 rfl rfl rfl (by kernel_rfl) (by intro w' hw' D hD; skip; go_simp; first | exact hD | exact ⟨hD, rfl⟩) ?_
        go_simp
        refine InG.rd 24 rfl rfl rfl (by kernel_rfl) (by intro w' hw' D hD; have hbx := (hw'.block kk (blk_lt HC77.out)).trans HC77.out; obtain ⟨e0, e1, e2, e3, e4, e5, e6⟩ := seven_at hbx; have ze := bsz (blk_lt hbx); clear hbx; go_simp; first | exact hD | exact ⟨hD, rfl⟩) ?_
        go_simp
        refine InG.rd 24 rfl rfl rfl (by kernel_rfl) (by intro w' hw' D hD; skip; go_simp; first | exact hD | exact ⟨hD, rfl⟩) ?_
        go_simp
        refine InG.rd 24 rfl rfl rfl (by kernel_rfl) (by intro w' hw' D hD; have hbx := (hw'.block kk (blk_lt HC77.out)).trans HC77.out; obtain ⟨e0, e1, e2, e3, e4, e5, e6⟩ := seven_at hbx; have ze := bsz (blk_lt hbx); clear hbx; go_simp; first | exact hD | exact ⟨hD, rfl⟩) ?_
        go_simp
        refine flowV_ch rfl rfl (by
          intro u' hu' L w' hun hbe hD
          have hpr := hD.pre (n := 24) hun (by kernel_rfl)
          have hw' := hpr.2.1
          go_simp
          refine (varTerms_any (vfD y.f) _ w' (HV7.out.below hw') (by have := HOK.out.2.2.2; omega)).mono ?_
          rintro e w'' ⟨v', he, hr, hb⟩
          exact ⟨_, he, hD.call (n := 24) rfl hbe hun (by decide) (by kernel_rfl) h7stab hb (own_lower hr hw'.size)⟩) ?_
        intro xa
        go_simp
        refine flowV_ch rfl rfl (by
          intro u' hu' L w' hun hbe hD
          have hpr := hD.pre (n := 24) hun (by kernel_rfl)
          have q4 := hpr.2.2 4 (after_behind hbe (p := 4) (by kernel_rfl))
          rw [show u' 4 = xa from (after_eq hu' (p := 4) (by kernel_rfl)).trans (by simp [upd])] at q4
          have q4 : w'.ownsRow W7.heap.size 26 2 xa (vfD y.f).length (flatT ((vfD y.f).map leafC)) := q4
          obtain ⟨p', c', rfl⟩ := own_slice q4
          have hcl := hD.call (x := .agg #[.string (dNm n), .slice p' (vfD y.f).length c']) (n := 24) rfl hbe hun (by decide) (by kernel_rfl) h7stab (Below.refl _ _) ⟨p', c', rfl, q4⟩
          first | (go_simp; done) | (go_simp; exact hcl)) ?_
        intro xb
        go_simp
        refine flowV_ch rfl rfl (by
          intro u' hu' L w' hun hbe hD
          have hpr := hD.pre (n := 24) hun (by kernel_rfl)
          have hw' := hpr.2.1
          have q5 := hpr.2.2 5 (after_behind hbe (p := 5) (by kernel_rfl))
          rw [show u' 5 = xb from (after_eq hu' (p := 5) (by kernel_rfl)).trans (by simp [upd])] at q5
          obtain ⟨p', c', rfl, q5⟩ := q5
          go_simp
          refine (atomOf_at 2 (Dfn.atm ⟨dNm n, vfD y.f, y.f⟩) (.string (dNm n)) (.slice p' (vfD y.f).length c') w' ⟨_, rfl, dNm_small hnm7, leafs_at q5 hvs7 hvl7⟩).mono ?_
          rintro e w'' ⟨he, -, hb⟩
          exact ⟨_, he, hD.call (n := 24) rfl hbe hun (by decide) (by kernel_rfl) h7stab hb ⟨p', c', rfl, own_below q5 hb⟩⟩) ?_
        intro xc
        go_simp
        refine flowV_ch rfl rfl (by
          intro u' hu' L w' hun hbe hD
          have hpr := hD.pre (n := 24) hun (by kernel_rfl)
          have hw' := hpr.2.1
          have hu6 := (after_eq hu' (p := 6) (by kernel_rfl)).trans (show upd _ 6 xc 6 = xc by simp [upd])
          have q6 := hpr.2.2 6 (after_behind hbe (p := 6) (by kernel_rfl))
          rw [hu6] at q6
          obtain ⟨p', c', rfl, q6⟩ := q6
          have hbx := (hw'.block (w.heap.size + 2) (blk_lt HA27.out)).trans HA27.out
          obtain ⟨d0, d1, d2, d3, d4⟩ := five_at hbx
          have df : ∀ j, w'.frozen? ⟨w.heap.size + 2, j, none⟩ = false := fun j => frozen_of_row w' _ j _ _ hbx
          have ze := bsz (blk_lt hbx)
          have hst := hD.store (x := undef) (w' := set5C w' (w.heap.size + 2) (.int .i64 3) (.string (dNm n)) (.slice p' (vfD y.f).length c') (.string ⟨#[]⟩) (.slice none 0 0)) rfl hbe hun ⟨p', c', by rw [upd_other _ _ (by decide)]; exact hu6, rfl⟩
          clear hbx hu' hu6 q6
          first | (go_simp; done) | (go_simp; exact hst)) ?_
        intro xs7
        refine flowV_nil ?_
        intro L wz7 hL hD
        obtain ⟨w0', hb0, hq, p', c', h6, hwz7⟩ := hD.done (fun i hi => by simpa using hL i (by simpa using hi)) (by decide)
        have q6 := hq 6 (by decide) (by decide)
        rw [h6] at q6
        obtain ⟨p'', c'', he, q6⟩ := q6
        simp only [Value.agg.injEq, Array.mk.injEq, List.cons.injEq, Value.slice.injEq, true_and, and_true] at he
        obtain ⟨rfl, rfl⟩ := he
        have hzz7 : wz7.heap.size = w0'.heap.size := by rw [hwz7]; simp
        have HRB7 := Lib.hid (show wz7.heap[w.heap.size + 2]? = some (.cells #[.int .i64 3, .string (dNm n), .slice p' (vfD y.f).length c', .string ⟨#[]⟩, .slice none 0 0] 29 (0, 0)) from hwz7 ▸ set5_cells w0' ((hb0.block _ (blk_lt HA27.out)).trans HA27.out))
        have HRW7 := Lib.hid (show wz7.ownsRow W7.heap.size 26 2 (.slice p' (vfD y.f).length c') (vfD y.f).length (flatT ((vfD y.f).map leafC)) from own_same q6 (fun b hb _ => by
          have := own_base q6 b hb
          rw [hwz7]; exact set5C_other _ _ _ _ _ _ (by have := blk_lt HA27.out; omega)))
        have hq2 : ∀ b, (Value.slice (some ⟨q2, 0, none⟩) (D1.length + 1) k2).ownBlock = some b → X1 b ∨ wz.heap.size ≤ b := fun b e => HN7.out.elim (fun h => .inl (HDZ.out.xl b (h ▸ e))) (fun ⟨g', h, hge⟩ => .inr (by rw [h] at e; injection e with e; omega))
        have hX1o : ∀ b, X1 b → X b ∨ (w.heap.size ≤ b ∧ b < w1.heap.size ∧ b ≠ w.heap.size + 2) := fun b e => (HX1.out b e).imp id (fun e => ⟨by omega, e.2, by omega⟩)
        have hrX : ¬ ((X1 (w.heap.size + 2) ∨ (w.heap.size + 3 ≤ w.heap.size + 2 ∧ w.heap.size + 2 < wz.heap.size)) ∨ (Value.slice (some ⟨q2, 0, none⟩) (D1.length + 1) k2).ownBlock = some (w.heap.size + 2)) := by
          have hno : ¬ X1 (w.heap.size + 2) := fun e => (hX1o _ e).elim (HNX.out _ (by omega)) (fun e => e.2.2 rfl)
          rintro ((e | e) | e)
          · exact hno e
          · omega
          · exact (hq2 _ e).elim hno (fun e => by have := blk_lt HA2Z.out; omega)
        have HDE := Lib.hid (show DSt ob us N base x0 g n (E1 ++ [⟨dNm n, vfD y.f, y.f⟩]) uv (.slice (some ⟨q2, 0, none⟩) (D1.length + 1) k2) (D1 ++ [⟨dNm n, vfD y.f, pv, cv, y⟩]) (fun b => (X1 b ∨ (w.heap.size + 3 ≤ b ∧ b < wz.heap.size)) ∨ (Value.slice (some ⟨q2, 0, none⟩) (D1.length + 1) k2).ownBlock = some b) wz7 from
          HD7.out.stab (hwz7 ▸ ((((((Kp.of_below hb0).sc (a := ⟨w.heap.size + 2, 0, none⟩) (.inl hrX) _).sc (a := ⟨w.heap.size + 2, 1, none⟩) (.inl hrX) _).sc (a := ⟨w.heap.size + 2, 2, none⟩) (.inl hrX) _).sc (a := ⟨w.heap.size + 2, 3, none⟩) (.inl hrX) _).sc (a := ⟨w.heap.size + 2, 4, none⟩) (.inl hrX) _)))
        have HKE := Lib.hid (show Kp X w wz7 from
          hwz7 ▸ ((((((HK7.out.be hb0).sc (a := ⟨w.heap.size + 2, 0, none⟩) (.inr (Nat.le_add_right _ _)) _).sc (a := ⟨w.heap.size + 2, 1, none⟩) (.inr (Nat.le_add_right _ _)) _).sc (a := ⟨w.heap.size + 2, 2, none⟩) (.inr (Nat.le_add_right _ _)) _).sc (a := ⟨w.heap.size + 2, 3, none⟩) (.inr (Nat.le_add_right _ _)) _).sc (a := ⟨w.heap.size + 2, 4, none⟩) (.inr (Nat.le_add_right _ _)) _))
        have h7e : W7.heap.size ≤ wz7.heap.size := by have := hb0.size; omega
        have HH7 := Lib.hid h7e
        have HQ2 := Lib.hid hq2
        have HXO := Lib.hid hX1o
        clear hwz7 hzz7 hb0 hq h6 q6 hL hD hrX hq2 hX1o h7stab
        obtain ⟨r0, r1, r2, r3, r4⟩ := five_at HRB7.out
        have rf : ∀ j, wz7.frozen? ⟨w.heap.size + 2, j, none⟩ = false := fun j => frozen_of_row wz7 _ j _ _ HRB7.out
        have zr := bsz (blk_lt HRB7.out)
        have hpl7 : ((vfD y.f).map leafT).length = (vfD y.f).length := List.length_map ..
        have HPL := Lib.hid hpl7
        have HNS := Lib.hid (And.intro hvs7 (And.intro hvl7 hnm7))
        clear hpl7 hvs7 hvl7 hnm7
        go_wp2_with fail
        go_wp2
        refine bodyPost_ret (v := .agg #[.int .i64 3, .string (dNm n), .slice p' (vfD y.f).length c', .string ⟨#[]⟩, .slice none 0 0]) (by simp only [results, Tryz.results15]; go_simp) rfl ⟨⟨atomOfF (Dfn.atm ⟨dNm n, vfD y.f, y.f⟩), p', c', none, 0⟩, (fun b => (X1 b ∨ (w.heap.size + 3 ≤ b ∧ b < wz.heap.size)) ∨ (Value.slice (some ⟨q2, 0, none⟩) (D1.length + 1) k2).ownBlock = some b), .slice (some ⟨q2, 0, none⟩) (D1.length + 1) k2, D1 ++ [⟨dNm n, vfD y.f, pv, cv, y⟩], ?_, ?_, ?_, ?_, ?_, HKE.out⟩
        rotate_left 3
        · rw [HDN.out]
          show DSt ob us N base x0 g n (E ++ (RL.2.2 ++ [_])) uv _ _ _ wz7
          rw [← List.append_assoc, ← HE1.out]
          exact HDE.out
        · rintro b ((e | e) | e)
          · exact (HXO.out b e).imp id (fun e => ⟨e.1, by have := HZZ.out; have := HH7.out; omega⟩)
          · exact .inr ⟨by omega, by have := HH7.out; omega⟩
          · have hlt := HD7.out.foot b (.inr e)
            exact (HQ2.out b e).elim (fun e => (HXO.out b e).imp id (fun e => ⟨e.1, by have := HZZ.out; have := HH7.out; omega⟩)) (fun e => .inr ⟨by have := HZZ.out; omega, by have := HH7.out; omega⟩)
        · show _ = Ending.returned (.agg #[.int .i64 3, .string (dNm n), .slice p' ((vfD y.f).map leafT).length c', .string ⟨#[]⟩, .slice none 0 0])
          rw [HPL.out]
        · rw [HDN.out]
        · show FmAt _ (m + 1 + 3) wz7 (atomOfF _) [.int .i64 3, .string (dNm n), .slice p' ((vfD y.f).map leafT).length c', .string ⟨#[]⟩, .slice none 0 0]
          rw [HPL.out]
          refine ⟨_, _, _, rfl, by omega, Nat.zero_le _, TmAt.mono (SameOn.refl _ _) (fun b hb => ⟨by have := HZZ.out; omega, hb.2, fun e => by have := HD7.out.foot b e; omega⟩) 2 (m + 3) _ _ (by omega) ⟨_, rfl, dNm_small HNS.out.2.2, leafs_at HRW7.out HNS.out.1 HNS.out.2.1⟩, ListAt.nil _ _ _ _ _ _⟩
    · have HDN := Lib.hid (show dfn (inS us) vfD (.mk op a xv ps) b k = (.mk op a xv (dfnL (inS us) vfD ps (op == 6) k).1, (dfnL (inS us) vfD ps (op == 6) k).2.1, (dfnL (inS us) vfD ps (op == 6) k).2.2) by
        rw [dfn]
        simp only
        rw [if_neg]
        intro h
        rw [Bool.and_eq_true, beq_iff_eq] at h
        exact hb5 h)
      obtain ⟨r0, r1, r2, r3, r4⟩ := five_at HA2'.out
      have rf : ∀ j, w1.frozen? ⟨w.heap.size + 2, j, none⟩ = false := fun j => frozen_of_row w1 _ j _ _ HA2'.out
      have zr := bsz (blk_lt HA2'.out)
      cases b
      · clear hb5
        go_wp2
        have hnz : ¬ X1 (w.heap.size + 2) := fun e => (HX1.out _ e).elim (HNX.out _ (by omega)) (fun e => by omega)
        have hge : w.heap.size ≤ w.heap.size + 2 := by omega
        refine bodyPost_ret (v := .agg #[.int .i64 y.f.op, .string y.f.a.n, .slice y.p y.f.a.us.length y.c, .string y.f.v, .slice y.q y.f.ps.length y.d]) (by simp only [results, Tryz.results15]; go_simp) rfl ⟨y, X1, lv1, D1, rfl, by rw [HDN.out]; exact HY.out, ?_, ?_, ?_, ?_⟩
        · refine FmAt.mono (SameOn.al ((((((SameOn.refl _ _).sc ?_ _).sc ?_ _).sc ?_ _).sc ?_ _).sc ?_ _) (by simp) _) (fun b hb => ⟨by omega, by simp; omega, hb.2.2⟩) _ _ _ _ (Nat.le_refl _) H1.out
          all_goals (intro b hb e; simp at e; omega)
        · rw [HDN.out]
          exact H2.out.stab (((((((Kp.refl _ _).sc (.inl hnz) _).sc (.inl hnz) _).sc (.inl hnz) _).sc (.inl hnz) _).sc (.inl hnz) _).alloc _)
        · intro b e
          exact (HX1.out b e).imp id (fun e => ⟨by omega, by simp; omega⟩)
        · exact (((((HK.out.sc (.inr hge) _).sc (.inr hge) _).sc (.inr hge) _).sc (.inr hge) _).sc (.inr hge) _).alloc _
      · have e5 : (op == 5) = false := by rw [beq_eq_false_iff_ne]; exact fun e => hb5 ⟨rfl, e⟩
        clear hb5
        go_wp2
        have hnz : ¬ X1 (w.heap.size + 2) := fun e => (HX1.out _ e).elim (HNX.out _ (by omega)) (fun e => by omega)
        have hge : w.heap.size ≤ w.heap.size + 2 := by omega
        refine bodyPost_ret (v := .agg #[.int .i64 y.f.op, .string y.f.a.n, .slice y.p y.f.a.us.length y.c, .string y.f.v, .slice y.q y.f.ps.length y.d]) (by simp only [results, Tryz.results15]; go_simp) rfl ⟨y, X1, lv1, D1, rfl, by rw [HDN.out]; exact HY.out, ?_, ?_, ?_, ?_⟩
        · refine FmAt.mono (SameOn.al ((((((SameOn.refl _ _).sc ?_ _).sc ?_ _).sc ?_ _).sc ?_ _).sc ?_ _) (by simp) _) (fun b hb => ⟨by omega, by simp; omega, hb.2.2⟩) _ _ _ _ (Nat.le_refl _) H1.out
          all_goals (intro b hb e; simp at e; omega)
        · rw [HDN.out]
          exact H2.out.stab (((((((Kp.refl _ _).sc (.inl hnz) _).sc (.inl hnz) _).sc (.inl hnz) _).sc (.inl hnz) _).sc (.inl hnz) _).alloc _)
        · intro b e
          exact (HX1.out b e).imp id (fun e => ⟨by omega, by simp; omega⟩)
        · exact (((((HK.out.sc (.inr hge) _).sc (.inr hge) _).sc (.inr hge) _).sc (.inr hge) _).sc (.inr hge) _).alloc _
end Go.Proofs.YtmbkjdkjemlfkaaGreatDoor
