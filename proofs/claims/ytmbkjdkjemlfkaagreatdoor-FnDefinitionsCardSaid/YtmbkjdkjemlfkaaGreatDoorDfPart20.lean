import Derived.Test.YtmbkjdkjemlfkaaGreatDoorDfPart19
namespace Go.Proofs.YtmbkjdkjemlfkaaGreatDoor
set_option maxRecDepth 100000
open Go.RowKit
set_option maxHeartbeats 12800000 in
theorem l8Own_any {B : Nat → Prop} : ∀ (m : Nat) (t : Fm) (v0 v1 v2 v3 v4 : Value) (w : World), FmAt B m w t [v0, v1, v2, v3, v4] → t.wt ≤ 1000000 →
    Calls Tryz.prog 88 #[.agg #[v0, v1, v2, v3, v4]] w (MdQ m t w) := by
  intro m
  induction m with
  | zero => intro t v0 v1 v2 v3 v4 w h; exact h.elim
  | succ m ih =>
    rintro ⟨op, a, xv, ps⟩ v0 v1 v2 v3 v4 w ⟨vn, va, vp, hcs, hop, hs, ht, hl⟩ hw
    simp only [List.cons.injEq, and_true] at hcs
    obtain ⟨rfl, rfl, rfl, rfl, rfl⟩ := hcs
    obtain ⟨p, pc, rfl, rfl, -⟩ := ht.form
    obtain ⟨pq, pd, rfl, hlen⟩ := hl.form
    unfold maxLen at hlen
    rw [Fm.wt] at hw
    have HT0 := Lib.hid (TmAt.inb _ _ _ ht)
    have HL := Lib.hid hl
    have IH := Lib.hid ih
    have HOP := Lib.hid (And.intro hop hs)
    obtain ⟨W, hW⟩ : ∃ W : World, W = (w.alloc (.cells #[.int .i64 op, .string a.n, .slice p a.us.length pc, .string xv, .slice pq ps.length pd] 29)).alloc (.cells #[.int .i64 0, .string ⟨#[]⟩, .slice none 0 0, .string ⟨#[]⟩, .slice none 0 0] 29) := ⟨_, rfl⟩
    obtain ⟨hsW, hbW, A0, A1⟩ := two_new hW
    obtain ⟨a0, a1, a2, a3, a4⟩ := five_at A0
    have za := bsz (show w.heap.size < W.heap.size by omega)
    have HTW := Lib.hid (TmAt.below hbW HT0.out)
    have HA0 := Lib.hid A0
    have HR0 := Lib.hid A1
    have HBW := Lib.hid hbW
    clear ht hl ih hop hs
    go_enter Tryz.func88, Tryz.ntmps88
    go_wp2_with fail
    rw [← hW]
    clear hW
    refine wp_region_any3 [some (.pointer (some ⟨w.heap.size, 0, none⟩)), some (.int .i64 op), some (.pointer (some ⟨w.heap.size, 1, none⟩)), some (.agg #[.string a.n, .slice p a.us.length pc]), none, some (.pointer (some ⟨w.heap.size, 3, none⟩)), some (.string xv), none, none, none] (MkH 29 m W op xv a) (by kernel_rfl) (by kernel_rfl) (fun L hL => MkH.start hL) ?_
    go_simp
    clear a0 a1 a2 a3 a4 za
    refine flowV_st rfl rfl (by intro u' L w' hun hbe hD; go_simp; first | exact ⟨hD.other 0 (by decide), rfl⟩ | exact hD.other 0 (by decide)) ?_
    go_simp
    refine flowV_st rfl rfl (by intro u' L w' hun hbe hD; have hw' := hD.bel; obtain ⟨e0, e1, e2, e3, e4⟩ := five_at ((hw'.block w.heap.size (by have := HBW.out.size; omega)).trans HA0.out); have ze := bsz (World.block_lt_of_cell? _ _ e0); go_simp; first | exact ⟨hD.other 1 (by decide), rfl⟩ | exact hD.other 1 (by decide)) ?_
    go_simp
    refine flowV_st rfl rfl (by intro u' L w' hun hbe hD; go_simp; first | exact ⟨hD.other 2 (by decide), rfl⟩ | exact hD.other 2 (by decide)) ?_
    go_simp
    refine flowV_st rfl rfl (by intro u' L w' hun hbe hD; have hw' := hD.bel; obtain ⟨e0, e1, e2, e3, e4⟩ := five_at ((hw'.block w.heap.size (by have := HBW.out.size; omega)).trans HA0.out); have ze := bsz (World.block_lt_of_cell? _ _ e0); go_simp; first | exact ⟨hD.other 3 (by decide), rfl⟩ | exact hD.other 3 (by decide)) ?_
    go_simp
    refine flowV_ch rfl rfl (by
      intro u' hu' L w' hun hbe hD
      go_simp
      refine (l2Own_any m a _ _ w' (TmAt.below hD.bel HTW.out) (by omega)).mono ?_
      rintro e w'' ⟨u0, u1, he, hO, hb'⟩
      obtain ⟨pn, cn, rfl, rfl, -⟩ := hO.form
      exact ⟨_, he, hD.c10 hun (TmOwn.at_ _ _ _ hO) hb'⟩) ?_
    intro x4
    go_simp
    refine flowV_st rfl rfl (by intro u' L w' hun hbe hD; go_simp; first | exact ⟨hD.other 5 (by decide), rfl⟩ | exact hD.other 5 (by decide)) ?_
    go_simp
    refine flowV_st rfl rfl (by intro u' L w' hun hbe hD; have hw' := hD.bel; obtain ⟨e0, e1, e2, e3, e4⟩ := five_at ((hw'.block w.heap.size (by have := HBW.out.size; omega)).trans HA0.out); have ze := bsz (World.block_lt_of_cell? _ _ e0); go_simp; first | exact ⟨hD.other 6 (by decide), rfl⟩ | exact hD.other 6 (by decide)) ?_
    go_simp
    refine flowV_ch rfl rfl (by
      intro u' hu' L w' hun hbe hD
      have h10 := after_behind hbe (p := 4) (by kernel_rfl)
      have hu10 : u' 4 = x4 := (after_eq hu' (by kernel_rfl)).trans (by simp [upd])
      obtain ⟨pn, cn, e1, -⟩ := hD.r10 h10
      have hm := hD.m11 hun h10 e1
      obtain rfl : x4 = _ := hu10.symm.trans e1
      (first | (go_simp; done) | (go_simp; exact hm))) ?_
    intro x7
    go_simp
    refine flowV_ch rfl rfl (by intro u' hu' L w' hun hbe hD; go_simp; exact hD.a12' hun) ?_
    intro x8
    go_simp
    refine flowV_ch rfl rfl (by
      intro u' hu' L w' hun hbe hD
      have h11 := after_behind hbe (p := 7) (by kernel_rfl)
      have h12 := after_behind hbe (p := 8) (by kernel_rfl)
      have hu11 : u' 7 = x7 := (after_eq hu' (by kernel_rfl)).trans (by simp [upd])
      have hu12 : u' 8 = x8 := (after_eq hu' (by kernel_rfl)).trans (by simp [upd])
      obtain ⟨k', e1, e2, e3, e4, -⟩ := hD.a12 h12
      obtain ⟨pn, cn, e6, -⟩ := hD.r10 (hD.o11 h11)
      have hs := hD.s13 (v' := undef) hun h11 h12 e6 e1
      have hv := hD.b11 h11 _ _ e6
      obtain rfl : x7 = _ := hu11.symm.trans hv
      obtain rfl : x8 = _ := hu12.symm.trans e1
      obtain ⟨d0, d1, d2, d3, d4⟩ := five_at (e4 (getD_tf hun))
      have df : ∀ j, w'.frozen? ⟨k', j, none⟩ = false := fun j => frozen_of_row w' k' j _ _ (e4 (getD_tf hun))
      have ze := bsz e3
      clear e1 e2 e3 e4 e6 hv hu11 hu12 hu'
      (first | (go_simp; done) | (go_simp; exact hs))) ?_
    intro x9
    refine flowV_nil ?_
    intro L w4 hL hD
    obtain ⟨bk, pb, cb, e1, hbk, hbox, htm, hb4⟩ := hD.done (fun i hi => by simpa using hL i (by simpa using hi))
    obtain rfl : x8 = .pointer (some ⟨bk, 0, none⟩) := by simpa [upd] using e1
    have hz4 := hb4.size
    have HTM := Lib.hid htm
    have HB4 := Lib.hid hb4
    have HBX4 := Lib.hid hbox
    have zk := bsz (blk_lt hbox)
    clear hL hD e1 htm hb4 hbox
    have HW4 := Lib.hid (Below.step HBW.out HB4.out)
    have hz4' := HW4.out.size
    obtain ⟨a0, a1, a2, a3, a4⟩ := five_at ((HB4.out.block w.heap.size (by omega)).trans HA0.out)
    have za := bsz (show w.heap.size < w4.heap.size by omega)
    go_wp2_with fail
    go_wp2
    clear a0 a1 a2 a3 a4 za zk
    go_loopw [4] (fun iv wr => ∃ (i : Nat) (q : Option Addr) (d : Nat) (D : List FC), i ≤ ps.length ∧ iv = .int .i64 i ∧ D.length = i ∧ D.map (·.f) = ps.take i ∧ FOm 29 m w4.heap.size bk (fun _ => False) (.int .i64 op) (.string a.n) (.slice pb a.us.length cb) (.string xv) (.slice q i d) D wr ∧ Kp (fun b => b = bk) w4 wr) (fun iv _ => ps.length - (intOf iv).toNat)
    case atStart =>
      refine ⟨0, none, 0, [], Nat.zero_le _, rfl, rfl, by simp, ⟨HBX4.out, ⟨by simp [flatF], .inl ⟨rfl, rfl⟩⟩, fun x hx => by simp at hx, blk_lt HBX4.out, fun e => e, fun b e => by simp [Value.ownBlock] at e, by simp⟩, Kp.refl _ _⟩
    case round =>
      obtain ⟨i, q, d, D, hi, rfl, hDi, hDm, hfo, hkp⟩ := hrel
      have HFO := Lib.hid hfo
      have HDI := Lib.hid hDi
      have HDM := Lib.hid hDm
      have HKP := Lib.hid hkp
      have hzr := hkp.size
      have HKW := Lib.hid (show ∀ b, b < w.heap.size → wr.heap[b]? = w.heap[b]? from fun b h1 => (hkp.block b (by omega) (fun e => by omega)).trans (HW4.out.block b h1))
      obtain ⟨c0, c1, c2, c3, c4, cf, ck⟩ := hfo.cells
      have zk := bsz ck
      obtain ⟨a0, a1, a2, a3, a4⟩ := five_at ((hkp.block w.heap.size (by omega) (fun e => by omega)).trans ((HB4.out.block _ (by omega)).trans HA0.out))
      have za := bsz (show w.heap.size < wr.heap.size by omega)
      clear hfo hkp hDi hDm
      by_cases hlt : i < ps.length
      · have hlti : (i : Int) < ps.length := by omega
        have hsame : SameOn B w wr := fun b hb hl => HKW.out b hl
        obtain ⟨b, o, hpe, hBb, x0, x1, x2, x3, x4, hx0, hx1, hx2, hx3, hx4, hx⟩ := (HL.out.mono hsame (fun _ h => h) (fun x cs _ hx => FmAt.mono hsame (fun _ h => h) _ _ _ _ (Nat.le_refl _) hx)).at5 hlt
        obtain ⟨y, hy⟩ : ∃ y, ps[i] = y := ⟨_, rfl⟩
        have HTK := Lib.hid (show ps.take (i + 1) = ps.take i ++ [y] by rw [List.take_succ_eq_append_getElem hlt, hy])
        have hyw : y.wt ≤ Fm.wts ps := by rw [← hy]; exact Fm.wts_le ps hlt
        rw [hy] at hx
        have HX := Lib.hid hx
        have HX0 := Lib.hid (And.intro hx0 (And.intro hx1 (And.intro hx2 (And.intro hx3 hx4))))
        have HC4 := Lib.hid c4
        have HA4 := Lib.hid a4
        have hbb := World.block_lt_of_cell? _ _ hx0
        have zb := bsz hbb
        subst hpe
        clear hx hy hsame hx0 hx1 hx2 hx3 hx4 c0 c1 c2 c3 a0 a1 a2 a3
        go_wp2_with fail
        go_wp2
        have hvk : ∀ b', (Value.slice q i d).ownBlock = some b' → w4.heap.size ≤ b' ∧ b' < wr.heap.size := fun b' e => ⟨own_base HFO.out.row b' e, own_lt' HFO.out.row e⟩
        have hbW4 : ∀ b', b' < w4.heap.size → (Value.slice q i d).ownBlock ≠ some b' := fun b' hb' e => by have := (hvk b' e).1; omega
        have HKEEP := Lib.hid (show ∀ (b' j : Nat) (u : Nat → Value) (w' : World), AppG 29 5 bk 4 (MdC m y wr.drew) (.slice q i d) i wr 7 8 9 j u w' → b' < wr.heap.size → (Value.slice q i d).ownBlock ≠ some b' → b' ≠ bk → w'.heap[b']? = wr.heap[b']? from
          fun b' j u w' h hl hv hk => AppG.keep hl (fun x w1 ⟨_, _, _, _, h4⟩ => ⟨((Below.refl wr.heap.size wr).drew.trans h4).block b' hl, Nat.lt_of_lt_of_le hl ((Below.refl wr.heap.size wr).drew.trans h4).size⟩) hv hk h)
        have HSRC := Lib.hid (show ∀ (j : Nat) (u : Nat → Value) (w' : World), j ≤ 1 → AppG 29 5 bk 4 (MdC m y wr.drew) (.slice q i d) i wr 7 8 9 j u w' → w'.heap[b]? = wr.heap[b]? from
          fun j u w' hj h => by
            match j, hj, h with
            | 0, _, h => obtain rfl : w' = wr.drew := h; rfl
            | 1, _, h => obtain ⟨_, _, _, _, h4⟩ := h; exact ((Below.refl wr.heap.size wr).drew.trans h4).block b hbb)
        refine wp_region_stages [some (.pointer (some ⟨bk, 4, none⟩)), some (.slice q i d), some (.pointer (some ⟨w.heap.size, 4, none⟩)), some (.slice (some ⟨b, o, none⟩) ps.length pd), some (.int .i64 (i : Nat)), some (.pointer (some ⟨b, o + i * 5, none⟩)), some (.agg #[x0, x1, x2, x3, x4]), none, none, none, some (.pointer (some ⟨bk, 4, none⟩)), none] [7, 8, 9, 11] (AppG 29 5 bk 4 (MdC m y wr.drew) (.slice q i d) i wr 7 8 9) (by kernel_rfl) (by kernel_rfl) (by first | kernel_rfl | rfl) (by rfl) rfl ?_
        refine chain_st rfl rfl (by decide) rfl (by intro j u w' hS; go_simp; first | done | exact ⟨hS, rfl⟩ | exact hS | rfl) ?_
        go_simp
        refine chain_stb (c := 9) 2 rfl rfl (by decide) rfl rfl rfl (by first | kernel_rfl | rfl) ?_ ?_
        · intro j u w' hj hS
          have hc := AppG.cell (g := 0) (fun x w' ⟨_, _, _, _, h4⟩ => ⟨h4.os, h4.tape, h4.output, h4.size, fun b' hb' _ => h4.block b' hb'⟩) HC4.out (by omega) hj hS
          go_simp
          first | done | exact ⟨hS, rfl⟩ | exact hS | rfl
        go_simp
        refine chain_st rfl rfl (by decide) rfl (by intro j u w' hS; go_simp; first | done | exact ⟨hS, rfl⟩ | exact hS | rfl) ?_
        go_simp
        refine chain_st rfl rfl (by decide) rfl (by
          intro j u w' hS
          have hc : w'.cell? ⟨w.heap.size, 4, none⟩ = _ := (World.cell?_of_block (HKEEP.out w.heap.size j u w' hS (by omega) (hbW4 _ (by omega)) (by omega))).trans HA4.out
          go_simp
          first | done | exact ⟨hS, rfl⟩ | exact hS | rfl) ?_
        go_simp
        refine chain_st rfl rfl (by decide) rfl (by intro j u w' hS; go_simp; first | done | exact ⟨hS, rfl⟩ | exact hS | rfl) ?_
        go_simp
        refine chain_st rfl rfl (by decide) rfl (by intro j u w' hS; go_simp; first | done | exact ⟨hS, rfl⟩ | exact hS | rfl) ?_
        go_simp
        refine chain_stb (c := 7) 0 rfl rfl (by decide) rfl rfl rfl (by first | kernel_rfl | rfl) ?_ ?_
        · intro j u w' hj hS
          have e0 : w'.cell? ⟨b, o + i * 5, none⟩ = _ := (World.cell?_of_block (HSRC.out j u w' (by omega) hS)).trans HX0.out.1
          have e1 : w'.cell? ⟨b, o + i * 5 + 1, none⟩ = _ := (World.cell?_of_block (HSRC.out j u w' (by omega) hS)).trans HX0.out.2.1
          have e2 : w'.cell? ⟨b, o + i * 5 + 2, none⟩ = _ := (World.cell?_of_block (HSRC.out j u w' (by omega) hS)).trans HX0.out.2.2.1
          have e3 : w'.cell? ⟨b, o + i * 5 + 3, none⟩ = _ := (World.cell?_of_block (HSRC.out j u w' (by omega) hS)).trans HX0.out.2.2.2.1
          have e4 : w'.cell? ⟨b, o + i * 5 + 4, none⟩ = _ := (World.cell?_of_block (HSRC.out j u w' (by omega) hS)).trans HX0.out.2.2.2.2
          go_simp
          first | done | exact ⟨hS, rfl⟩ | exact hS | rfl
        go_simp
        refine chain_first rfl rfl rfl (by decide) rfl ?_ ?_
        · intro w' hS
          obtain rfl : w' = wr.drew := hS
          go_simp
          refine (IH.out y _ _ _ _ _ wr.drew (FmAt.below ((Below.refl _ _).drew) HX.out) (by omega)).mono ?_
          rintro e w'' ⟨x, he, h1, h2, h3⟩
          exact ⟨_, he, by show MdC _ _ _ (upd _ 7 (.agg x.cs.toArray) 7) w''; rw [upd_same]; exact ⟨x, rfl, h1, h2, h3⟩⟩
        intro x
        go_simp
        refine chain_next 0 rfl rfl rfl rfl (by decide) rfl (by first | kernel_rfl | rfl) ?_ ?_
        · intro w' hS
          have hS : MdC m y wr.drew (upd _ 7 x 7) w' := hS
          rw [upd_same] at hS
          obtain ⟨y', rfl, h1, h2, h3⟩ := id hS
          go_simp
          exact ⟨w', y'.cs.toArray, hS, by rw [upd_same], rfl⟩
        intro x2
        go_simp
        refine chain_next 1 rfl rfl rfl rfl (by decide) rfl (by first | kernel_rfl | rfl) ?_ ?_
        · intro w' hS
          obtain ⟨w1', cs, hcp, hy, rfl⟩ := hS
          rw [upd_same] at hy
          subst hy
          obtain ⟨y', he, h1, h2, h3⟩ := id hcp
          simp only [Value.agg.injEq] at he
          subst he
          obtain ⟨vals, r1⟩ : ∃ vals, wr.ownsRow 0 29 5 (.slice q i d) i vals := ⟨_, by have := HFO.out.row; rw [HDI.out] at this; exact own_lower this (Nat.zero_le _)⟩
          refine each_app1 (.tmp 21) (.tmp 28) _ rfl 0 29 5 88 elemFmD (.slice q i d) i vals rfl w1' y'.cs.toArray rfl rfl (own_below r1 ((Below.refl _ _).drew.trans h3)) rfl (by intro u hu; simp [FC.cs] at hu; rcases hu with rfl | rfl | rfl | rfl | rfl <;> rfl) (by omega) (by unfold maxLen; omega) (Nat.zero_le _) ?_
          intro v' w3 happ hg3 hnr hsz
          exact ⟨w1', _, hcp, by rw [upd_same]; exact happ, hg3, by rw [upd_same]; exact hnr, hsz⟩
        intro x3
        go_simp
        refine chain_st rfl rfl (by decide) rfl (by intro j u w' hS; go_simp; first | done | exact ⟨hS, rfl⟩ | exact hS | rfl) ?_
        go_simp
        refine chain_next 2 rfl rfl rfl rfl (by decide) rfl (by first | kernel_rfl | rfl) ?_ ?_
        · intro w' hS
          obtain ⟨w1', cs, hcp, happ, hg3, hnr, hsz⟩ := hS
          rw [upd_same] at happ hnr
          obtain ⟨y', he, h1, h2, h3⟩ := id hcp
          have hb1 : Below wr.heap.size wr w1' := (Below.refl _ _).drew.trans h3
          have r1 := HFO.out.row
          rw [HDI.out] at r1
          have h1' := happ _ _ (own_below r1 hb1) (by have := hb1.size; omega)
          obtain ⟨q', c', rfl⟩ := own_form h1' (by omega)
          have hbt : w'.heap[bk]? = some (.cells #[.int .i64 op, .string a.n, .slice pb a.us.length cb, .string xv, .slice q i d] 29 (0, 0)) := (hg3.block _ (by have := hb1.size; have := blk_lt HFO.out.box; omega) (fun e => HFO.out.nk e.symm)).trans ((hb1.block _ (blk_lt HFO.out.box)).trans HFO.out.box)
          have hcell : w'.cell? ⟨bk, 4, none⟩ = some (.slice q i d) := by rw [cell_of_row w' _ 4 _ _ (0, 0) hbt]; rfl
          have hfro : w'.frozen? ⟨bk, 4, none⟩ = false := frozen_of_row w' _ 4 _ _ hbt
          clear hbt
          go_simp
          refine ⟨w1', w', cs, hcp, ?_, hg3, ?_, hsz, ?_⟩
          · rw [upd_other _ _ (by decide), upd_same]; exact happ
          · rw [upd_other _ _ (by decide), upd_same]; exact hnr
          · rw [upd_other _ _ (by decide), upd_same]
        intro x4
        refine flowU_nil ?_
        intro wz hz
        obtain ⟨w1', w3', cs, hcp, happ, hg3, hnr, hsz, rfl⟩ := hz
        simp only [upd_other _ _ (show (9 : Nat) ≠ 11 by decide), upd_same] at happ hnr
        rw [upd_other _ _ (by decide), upd_same]
        obtain ⟨y', he, h1, h2, h3⟩ := hcp
        simp only [Value.agg.injEq] at he
        subst he
        have hb1 : Below wr.heap.size wr w1' := (Below.refl _ _).drew.trans h3
        have hz1 := hb1.size
        have hz3 := hg3.size
        have r1 := HFO.out.row
        rw [HDI.out] at r1
        have h1' := happ _ _ (own_below r1 hb1) (by omega)
        obtain ⟨q', c', rfl⟩ := own_form h1' (by omega)
        have HF5 := Lib.hid (HFO.out.app (x := y') (X' := fun _ => False) (v' := .slice (some ⟨q', 0, none⟩) (i + 1) c') (Kp.of_below hb1) (fun _ e => e.elim) (fun _ e => e.elim) (FmAt.mono (SameOn.refl _ _) (fun b' hb' => ⟨hb'.1, hb'.2, fun e => e⟩) _ _ _ _ (Nat.le_refl _) h2) (by omega) (by rw [HDI.out]; exact happ) hg3 hnr (by rw [HDI.out]; omega)).1
        have HK5 := Lib.hid (show Kp (fun b => b = bk) w4 (w3'.setCell ⟨bk, 4, none⟩ (.slice (some ⟨q', 0, none⟩) (i + 1) c')) from
          (((HKP.out.be hb1).trans (Kp.of_gr hg3) (fun b' e => .inr (hvk b' e).1)).sc (.inl rfl) _))
        have HDM5 := Lib.hid (show (D ++ [y']).map (·.f) = ps.take (i + 1) by rw [List.map_append, HDM.out, HTK.out, List.map_singleton, h1])
        clear happ hg3 hnr hsz r1 h1' h1 h2 h3 hb1
        go_wp2
        exact ⟨⟨i + 1, some ⟨q', 0, none⟩, c', D ++ [y'], by omega, by go_num, by rw [List.length_append, HDI.out]; rfl, HDM5.out, HF5.out, HK5.out⟩, by simp [intOf]; omega⟩
      · obtain rfl : i = ps.length := by omega
        have HR := Lib.hid ((HKP.out.block (w.heap.size + 1) (by omega) (fun e => by omega)).trans ((HB4.out.block _ (by omega)).trans HR0.out))
        obtain ⟨r0, r1, r2, r3, r4⟩ := five_at HR.out
        have rf : ∀ j, wr.frozen? ⟨w.heap.size + 1, j, none⟩ = false := fun j => frozen_of_row wr _ j _ _ HR.out
        have zr := bsz (show w.heap.size + 1 < wr.heap.size by omega)
        have HDP := Lib.hid (show D.map (·.f) = ps by rw [HDM.out, List.take_length])
        go_wp2
        refine bodyPost_ret (v := .agg #[.int .i64 op, .string a.n, .slice pb a.us.length cb, .string xv, .slice q ps.length d]) (by simp only [results, Tryz.results88]; go_simp) rfl ⟨⟨.mk op a xv ps, pb, cb, q, d⟩, rfl, rfl, ?_, ?_⟩
        · show FmAt _ _ _ (.mk op a xv ps) [.int .i64 op, .string a.n, .slice pb a.us.length cb, .string xv, .slice q ps.length d]
          have hl := HFO.out.at_
          rw [HDP.out] at hl
          refine ⟨_, _, _, rfl, HOP.out.1, HOP.out.2, ?_, ?_⟩
          · have hsm : SameOn (fun b => W.heap.size ≤ b ∧ b < w4.heap.size ∧ b ≠ bk) w4 wr := fun b hb hl => HKP.out.block b hl hb.2.2
            refine TmAt.mono (SameOn.sc (SameOn.sc (SameOn.sc (SameOn.sc (SameOn.sc hsm ?_ _) ?_ _) ?_ _) ?_ _) ?_ _) (fun b hb => ⟨by omega, by simp; omega⟩) _ _ _ _ (Nat.le_refl _) HTM.out
            all_goals (intro b hb e; simp at e; omega)
          · refine hl.mono ((((((SameOn.refl _ _).sc ?_ _).sc ?_ _).sc ?_ _).sc ?_ _).sc ?_ _) (fun b hb => ⟨by omega, by simp; omega⟩) (fun y cs _ hy => FmAt.mono ((((((SameOn.refl _ _).sc ?_ _).sc ?_ _).sc ?_ _).sc ?_ _).sc ?_ _) (fun b hb => ⟨by omega, by simp; omega⟩) _ _ _ _ (Nat.le_refl _) hy)
            all_goals (intro b hb e; simp at e; omega)
        · have hk : Below w.heap.size w wr := ⟨HKP.out.os.trans HW4.out.os, HKP.out.tape.trans HW4.out.tape, HKP.out.output.trans HW4.out.output, by omega, fun b hb => HKW.out b hb⟩
          exact bel
theorem bV9 (x0 x1 x2 x3 x4 x5 x6 x7 x8 : Option Value) (v : Value) (l : List (Option Value)) : baseV (x0 :: x1 :: x2 :: x3 :: x4 :: x5 :: x6 :: x7 :: x8 :: some v :: l) 9 = v := rfl
theorem bV10 (x0 x1 x2 x3 x4 x5 x6 x7 x8 x9 : Option Value) (v : Value) (l : List (Option Value)) : baseV (x0 :: x1 :: x2 :: x3 :: x4 :: x5 :: x6 :: x7 :: x8 :: x9 :: some v :: l) 10 = v := rfl
theorem bV11 (x0 x1 x2 x3 x4 x5 x6 x7 x8 x9 x10 : Option Value) (v : Value) (l : List (Option Value)) : baseV (x0 :: x1 :: x2 :: x3 :: x4 :: x5 :: x6 :: x7 :: x8 :: x9 :: x10 :: some v :: l) 11 = v := rfl
theorem bV12 (x0 x1 x2 x3 x4 x5 x6 x7 x8 x9 x10 x11 : Option Value) (v : Value) (l : List (Option Value)) : baseV (x0 :: x1 :: x2 :: x3 :: x4 :: x5 :: x6 :: x7 :: x8 :: x9 :: x10 :: x11 :: some v :: l) 12 = v := rfl
theorem bV13 (x0 x1 x2 x3 x4 x5 x6 x7 x8 x9 x10 x11 x12 : Option Value) (v : Value) (l : List (Option Value)) : baseV (x0 :: x1 :: x2 :: x3 :: x4 :: x5 :: x6 :: x7 :: x8 :: x9 :: x10 :: x11 :: x12 :: some v :: l) 13 = v := rfl
theorem bV14 (x0 x1 x2 x3 x4 x5 x6 x7 x8 x9 x10 x11 x12 x13 : Option Value) (v : Value) (l : List (Option Value)) : baseV (x0 :: x1 :: x2 :: x3 :: x4 :: x5 :: x6 :: x7 :: x8 :: x9 :: x10 :: x11 :: x12 :: x13 :: some v :: l) 14 = v := rfl
theorem bV15 (x0 x1 x2 x3 x4 x5 x6 x7 x8 x9 x10 x11 x12 x13 x14 : Option Value) (v : Value) (l : List (Option Value)) : baseV (x0 :: x1 :: x2 :: x3 :: x4 :: x5 :: x6 :: x7 :: x8 :: x9 :: x10 :: x11 :: x12 :: x13 :: x14 :: some v :: l) 15 = v := rfl
theorem bV16 (x0 x1 x2 x3 x4 x5 x6 x7 x8 x9 x10 x11 x12 x13 x14 x15 : Option Value) (v : Value) (l : List (Option Value)) : baseV (x0 :: x1 :: x2 :: x3 :: x4 :: x5 :: x6 :: x7 :: x8 :: x9 :: x10 :: x11 :: x12 :: x13 :: x14 :: x15 :: some v :: l) 16 = v := rfl
theorem bV17 (x0 x1 x2 x3 x4 x5 x6 x7 x8 x9 x10 x11 x12 x13 x14 x15 x16 : Option Value) (v : Value) (l : List (Option Value)) : baseV (x0 :: x1 :: x2 :: x3 :: x4 :: x5 :: x6 :: x7 :: x8 :: x9 :: x10 :: x11 :: x12 :: x13 :: x14 :: x15 :: x16 :: some v :: l) 17 = v := rfl
theorem bV18 (x0 x1 x2 x3 x4 x5 x6 x7 x8 x9 x10 x11 x12 x13 x14 x15 x16 x17 : Option Value) (v : Value) (l : List (Option Value)) : baseV (x0 :: x1 :: x2 :: x3 :: x4 :: x5 :: x6 :: x7 :: x8 :: x9 :: x10 :: x11 :: x12 :: x13 :: x14 :: x15 :: x16 :: x17 :: some v :: l) 18 = v := rfl
theorem bV19 (x0 x1 x2 x3 x4 x5 x6 x7 x8 x9 x10 x11 x12 x13 x14 x15 x16 x17 x18 : Option Value) (v : Value) (l : List (Option Value)) : baseV (x0 :: x1 :: x2 :: x3 :: x4 :: x5 :: x6 :: x7 :: x8 :: x9 :: x10 :: x11 :: x12 :: x13 :: x14 :: x15 :: x16 :: x17 :: x18 :: some v :: l) 19 = v := rfl
theorem bV20 (x0 x1 x2 x3 x4 x5 x6 x7 x8 x9 x10 x11 x12 x13 x14 x15 x16 x17 x18 x19 : Option Value) (v : Value) (l : List (Option Value)) : baseV (x0 :: x1 :: x2 :: x3 :: x4 :: x5 :: x6 :: x7 :: x8 :: x9 :: x10 :: x11 :: x12 :: x13 :: x14 :: x15 :: x16 :: x17 :: x18 :: x19 :: some v :: l) 20 = v := rfl
attribute [go_sem] bV9 bV10 bV11 bV12 bV13 bV14 bV15 bV16 bV17 bV18 bV19 bV20
section
variable {ops : Array Oper}
def anc (ops : Array Oper) : Nat → Nat → Nat → Bool
  | 0, _, _ => false
  | n + 1, c, i => match ops[c]? with
    | some oc => oc.after.any fun e => Region.binds .any e && (e.on == i || anc ops n e.on i)
    | none => false
theorem Closed.anc {L : Array Bool} (h : Closed .any ops L) : ∀ (n c i : Nat), anc ops n c i = true → L.getD c false = true → L.getD i false = true
  | 0, _, _, h1, _ => by rw [Proofs.YtmbkjdkjemlfkaaGreatDoor.anc] at h1; cases h1
  | n + 1, c, i, h1, h2 => by
    rw [Proofs.YtmbkjdkjemlfkaaGreatDoor.anc] at h1
    split at h1
    · next oc hoc =>
      obtain ⟨e, he1, he2⟩ := Array.any_eq_true'.1 h1
      simp only [Bool.and_eq_true, Bool.or_eq_true, beq_iff_eq] at he2
      have h3 := h c oc hoc h2 e he1 he2.1
      rcases he2.2 with rfl | h4
      · exact h3
      · exact Closed.anc h n e.on i h4 h3
    · cases h1
abbrev Proms := List (Nat × (Value → World → Prop))
def Proms.at (Q : Proms) (i : Nat) (v : Value) (w : World) : Prop := match Q.lookup i with | some q => q v w | none => True
theorem lookup_mem' {Q : Proms} {i : Nat} {q : Value → World → Prop} (h : Q.lookup i = some q) : (i, q) ∈ Q := by
  induction Q with
  | nil => simp at h
  | cons p Q ih =>
    obtain ⟨j, r⟩ := p
    rw [List.lookup_cons] at h
    split at h
    · next e =>
      obtain rfl : i = j := by simpa using e
      obtain rfl := Option.some.inj h
      exact List.mem_cons_self ..
    · exact List.mem_cons_of_mem _ (ih h)
theorem Proms.at_none {Q : Proms} {i : Nat} (h : Q.lookup i = none) (v : Value) (w : World) : Q.at i v w := by rw [Proms.at, h]; trivial
theorem Proms.at.mono {Q : Proms} {i : Nat} {v : Value} {w w' : World} (h : Q.at i v w) (hs : ∀ p ∈ Q, p.2 v w → p.2 v w') : Q.at i v w' := by
  rw [Proms.at] at h ⊢
  split
  · next q hq =>
    rw [hq] at h
    exact hs _ (lookup_mem' hq) h
  · trivial
def Proms.Stab (Q : Proms) : Prop := ∀ p ∈ Q, ∀ v w w', Below w.heap.size w w' → p.2 v w → p.2 v w'
structure InG (ops : Array Oper) (W : World) (ks : Nat) (Q : Proms) (R : (Nat → Value) → World → World → Prop) (u : Nat → Value) (L : Array Bool) (w : World) : Prop where
  cl : Closed .any ops L
  nst : L.getD ks false = false → Below W.heap.size W w ∧ ∀ i, L.getD i false = true → Q.at i (u i) w
  st : L.getD ks false = true → ∃ w0, Below W.heap.size W w0 ∧ (∀ i, i ≠ ks → L.getD i false = true → Q.at i (u i) w0) ∧ R u w0 w
variable {W w w' : World} {ks : Nat} {Q : Proms} {R : (Nat → Value) → World → World → Prop} {u : Nat → Value} {L : Array Bool}
theorem InG.start (hL : ∀ i, L.getD i false = false) : InG ops W ks Q R (fun _ => undef) L W.drew :=
  ⟨fun c oc _ hl => (by rw [hL] at hl; cases hl), fun _ => ⟨(Below.refl _ _).drew, fun i hi => (by rw [hL] at hi; cases hi)⟩, fun h => (by rw [hL] at h; cases h)⟩
theorem InG.other (h : InG ops W ks Q R u L w) {k : Nat} {o : Oper} (ho : ops[k]? = some o) (hb : Behind .any o L) (hk : k ≠ ks) (hq : Q.lookup k = none) : InG ops W ks Q R u (L.setIfInBounds k true) w := by
  have key : ∀ (w : World) (i : Nat), (L.setIfInBounds k true).getD i false = true → (L.getD i false = true → Q.at i (u i) w) → Q.at i (u i) w := fun w i hi h' => by
    by_cases e : k = i
    · subst e
      exact Proms.at_none hq _ _
    · rw [getD_set_ne false e] at hi; exact h' hi
  refine ⟨h.cl.put ho hb, fun hn => ?_, fun hn => ?_⟩ <;> rw [getD_set_ne false hk] at hn
  · obtain ⟨h1, h2⟩ := h.nst hn
    exact ⟨h1, fun i hi => key w i hi (h2 i)⟩
  · obtain ⟨w0, h1, h2, h3⟩ := h.st hn
    exact ⟨w0, h1, fun i hne hi => key w0 i hi (h2 i hne), h3⟩
theorem InG.pre (h : InG ops W ks Q R u L w) {i n : Nat} (hun : L.getD i true = false) (ha : (i == ks || Proofs.YtmbkjdkjemlfkaaGreatDoor.anc ops n ks i) = true) : L.getD ks false = false ∧ Below W.heap.size W w ∧ ∀ i, L.getD i false = true → Q.at i (u i) w := by
  have hn : L.getD ks false = false := by
    cases h' : L.getD ks false with
    | false => rfl
    | true =>
      rw [Bool.or_eq_true, beq_iff_eq] at ha
      have h0 := getD_tf hun
      rcases ha with rfl | ha
      · rw [h'] at h0; cases h0
      · have := h.cl.anc _ _ _ ha h'
        rw [h0] at this; cases this
  exact ⟨hn, h.nst hn⟩
theorem InG.call (h : InG ops W ks Q R u L w) {i n : Nat} {o : Oper} (ho : ops[i]? = some o) (hbe : Behind .any o L) (hun : L.getD i true = false) (hi : i ≠ ks) (ha : (i == ks || Proofs.YtmbkjdkjemlfkaaGreatDoor.anc ops n ks i) = true) (hs : Q.Stab) {x : Value} (hb : Below w.heap.size w w') (hq : Q.at i x w') : InG ops W ks Q R (upd u i x) (L.setIfInBounds i true) w' := by
  obtain ⟨hn, h1, h2⟩ := h.pre hun ha
  have hn' : (L.setIfInBounds i true).getD ks false = false := by rw [getD_set_ne false hi]; exact hn
  refine ⟨h.cl.put ho hbe, fun _ => ⟨h1.trans (hb.mono h1.size), fun j hj => ?_⟩, fun h' => (by rw [hn'] at h'; cases h')⟩
  by_cases e : i = j
  · subst e; rw [upd_same]; exact hq
  · rw [getD_set_ne false e] at hj
    rw [upd_other _ _ (Ne.symm e)]
    exact (h2 j hj).mono fun p hp => hs p hp _ _ _ hb
theorem InG.store (h : InG ops W ks Q R u L w) {o : Oper} (ho : ops[ks]? = some o) (hbe : Behind .any o L) (hun : L.getD ks true = false) {x : Value} (hr : R (upd u ks x) w w') : InG ops W ks Q R (upd u ks x) (L.setIfInBounds ks true) w' := by
  obtain ⟨hn, h1, h2⟩ := h.pre (n := 0) hun (by simp)
  have hd : (L.setIfInBounds ks true).getD ks false = true := getD_now hun
  refine ⟨h.cl.put ho hbe, fun h' => (by rw [hd] at h'; cases h'), fun _ => ⟨w, h1, fun j hj hl => ?_, hr⟩⟩
  rw [getD_set_ne false (Ne.symm hj)] at hl
  rw [upd_other _ _ hj]
  exact h2 j hl
theorem InG.done (h : InG ops W ks Q R u L w) {n : Nat} (hL : ∀ i, i < n → L.getD i false = true) (hk : ks < n) : ∃ w0, Below W.heap.size W w0 ∧ (∀ i, i < n → i ≠ ks → Q.at i (u i) w0) ∧ R u w0 w := by
  obtain ⟨w0, h1, h2, h3⟩ := h.st (hL ks hk)
  exact ⟨w0, h1, fun i hi hne => h2 i hne (hL i hi), h3⟩
theorem flowV_yes {P : Program} {md : Region.Mode} {vs : List (Option Value)} {D : (Nat → Value) → Array Bool → World → Prop} {Q : Act → (Nat → Value) → Prop} {k : Nat} {o : Oper} {rest : List Oper} {a : Act} {u : Nat → Value} (hs : stB vs k = true) (hw : Region.wanted o (yielded ops a.tmps) = true)
    (h1 : ∀ u L w, L.getD k true = false → Behind md o L → D u L w → goesUpon P (D u (L.setIfInBounds k true)) (baseV vs k) ((execOp a.eval o).run P w)) (h2 : flowV P md ops vs D Q (k + 1) rest (a.put o.dst (baseV vs k)) u) : flowV P md ops vs D Q k (o :: rest) a u :=
  .inl ⟨hs, fun u => .inl ⟨hw, h1 u⟩, h2⟩
theorem flowV_no {P : Program} {md : Region.Mode} {vs : List (Option Value)} {D : (Nat → Value) → Array Bool → World → Prop} {Q : Act → (Nat → Value) → Prop} {k : Nat} {o : Oper} {rest : List Oper} {a : Act} {u : Nat → Value} (hs : stB vs k = true) (hv : baseV vs k = undef) (hw : Region.wanted o (yielded ops a.tmps) = false)
    (h1 : ∀ u L w, L.getD k true = false → Behind md o L → D u L w → D u (L.setIfInBounds k true) w) (h2 : flowV P md ops vs D Q (k + 1) rest (a.put o.dst (baseV vs k)) u) : flowV P md ops vs D Q k (o :: rest) a u :=
  .inl ⟨hs, fun u => .inr ⟨hw, hv, h1 u⟩, h2⟩
theorem InG.rd {P : Program} {vs : List (Option Value)} {Q' : Act → (Nat → Value) → Prop} {k : Nat} {o : Oper} {rest : List Oper} {a : Act} {u : Nat → Value} (n : Nat) (hs : stB vs k = true) (hg : o.guard = none) (ho : ops[k]? = some o) (hc : ((k == ks || Proofs.YtmbkjdkjemlfkaaGreatDoor.anc ops n ks k) && (k != ks) && (Q.lookup k).isNone) = true)
    (h1 : ∀ w', Below W.heap.size W w' → ∀ D : World → Prop, D w' → goesUpon P D (baseV vs k) ((execOp a.eval o).run P w')) (h2 : flowV P .any ops vs (InG ops W ks Q R) Q' (k + 1) rest (a.put o.dst (baseV vs k)) u) : flowV P .any ops vs (InG ops W ks Q R) Q' k (o :: rest) a u := by
  rw [Bool.and_eq_true, Bool.and_eq_true] at hc
  exact flowV_st hs hg (fun _ _ w' hun hbe hD => h1 w' (hD.pre (n := n) hun hc.1.1).2.1 (fun w => InG ops W ks Q R _ _ w) (hD.other ho hbe (by simpa using hc.1.2) (by simpa using hc.2))) h2
theorem wp_region_grow {P : Program} {id : Nat} {Q' : Exit → Act → World → Prop} {a : Act} {w : World} {l : List Oper} (vs : List (Option Value)) (ks : Nat) (Q : Proms) (R : (Nat → Value) → World → World → Prop) (hm : P.follows .mixedOrders = true) (hB : Region.lexB .any l.toArray = true)
    (h : flowV P .any l.toArray vs (InG l.toArray w ks Q R) (fun a' u => ∀ L w', (∀ i, i < l.length → L.getD i false = true) → InG l.toArray w ks Q R u L w' → Q' .normal a' w') 0 l a (fun _ => undef)) : (Code.region id l.toArray true).wp P Q' a w :=
  wp_region_any3 vs (InG l.toArray w ks Q R) hm hB (fun _ hL => InG.start hL) h
end
theorem alloc_new_at {W : World} {o : Obj} {k : Nat} (h : W.heap.size = k) : (W.alloc o).heap[k]? = some o := h ▸ heap_alloc_new W o
theorem opF_at {B : Nat → Prop} {m : Nat} {w : World} {op : Int} {ps : List Fm} {vp : Value} (ho : -9223372036854775808 ≤ op ∧ op ≤ 9223372036854775807) (h : ListAt B w 5 (FmAt B (m + 1) w) vp ps) :
    FmAt B (m + 2) w (opF op ps) [.int .i64 op, .string ⟨#[]⟩, .slice none 0 0, .string ⟨#[]⟩, vp] :=
  ⟨_, _, _, rfl, ho, Nat.zero_le _, ⟨_, rfl, Nat.zero_le _, ListAt.nil _ _ _ _ _ _⟩, h⟩
theorem list_one {α : Type} {B : Nat → Prop} {w : World} {R : α → List Value → Prop} {g : Nat} {x : α} {cs : Array Value} {e : TypeId} (hg : w.heap[g]? = some (.cells cs e (0, 0))) (hB : B g) (hc : cs.size = 5) (hR : R x cs.toList) : ListAt B w 5 R (.slice (some ⟨g, 0, none⟩) 1 1) [x] := by
  refine ⟨_, _, rfl, by simp [maxLen], fun i y hy => ⟨g, 0, rfl, hB, cs.toList, by simpa using hc, fun j hj => ?_, ?_⟩⟩
  · have hi : i < 1 := by have := (List.getElem?_eq_some_iff.1 hy).1; simpa using this
    obtain rfl : i = 0 := by omega
    rw [cell_of_row w g _ cs e (0, 0) hg]; simp
  · have hi : i < 1 := by have := (List.getElem?_eq_some_iff.1 hy).1; simpa using this
    obtain rfl : i = 0 := by omega
    obtain rfl : x = y := by simpa using hy
    exact hR
theorem list_two {α : Type} {B : Nat → Prop} {w : World} {R : α → List Value → Prop} {g : Nat} {x y : α} {cs ds : List Value} {all : Array Value} {e : TypeId} (hall : all = (cs ++ ds).toArray) (hg : w.heap[g]? = some (.cells all e (0, 0))) (hB : B g) (hc : cs.length = 5) (hd : ds.length = 5) (hR : R x cs) (hR2 : R y ds) : ListAt B w 5 R (.slice (some ⟨g, 0, none⟩) 2 2) [x, y] := by
  subst hall
  refine ⟨_, _, rfl, by simp [maxLen], fun i z hz => ?_⟩
  have hi : i < 2 := by have := (List.getElem?_eq_some_iff.1 hz).1; simpa using this
  match i, hi with
  | 0, _ =>
    obtain rfl : x = z := by simpa using hz
    refine ⟨g, 0, rfl, hB, cs, hc, fun j hj => ?_, hR⟩
    rw [cell_of_row w g _ _ e (0, 0) hg]
    simp [List.getElem?_append_left (show j < cs.length by omega)]
  | 1, _ =>
    obtain rfl : y = z := by simpa using hz
    refine ⟨g, 0, rfl, hB, ds, hd, fun j hj => ?_, hR2⟩
    rw [cell_of_row w g _ _ e (0, 0) hg]
    simp only [List.getElem?_toArray]
    rw [List.getElem?_append_right (by omega)]
    congr 1; omega
set_option maxHeartbeats 800000 in
theorem atomOf_at {B : Nat → Prop} (m : Nat) (t : Tm) (v0 v1 : Value) (w : World) (h : TmAt B m w t [v0, v1]) :
    Calls Tryz.prog 43 #[.agg #[v0, v1]] w fun e w' => e = .returned (.agg #[.int .i64 3, v0, v1, .string ⟨#[]⟩, .slice none 0 0]) ∧ FmAt B (m + 1) w' (atomOfF t) [.int .i64 3, v0, v1, .string ⟨#[]⟩, .slice none 0 0] ∧ Below w.heap.size w w' := by
  obtain ⟨p, c, rfl, rfl, -⟩ := h.form
  have HF := Lib.hid h
  clear h
  go_enter Tryz.func43, Tryz.ntmps43
  go_wp2
  refine bodyPost_ret (v := .agg #[.int .i64 3, .string t.n, .slice p t.us.length c, .string ⟨#[]⟩, .slice none 0 0]) (by simp only [results, Tryz.results43]; go_simp) rfl ⟨rfl, ⟨_, _, _, rfl, by omega, Nat.zero_le _, HF.out.below (by exact bel), ListAt.nil _ _ _ _ _ _⟩, by exact bel⟩
end Go.Proofs.YtmbkjdkjemlfkaaGreatDoor
