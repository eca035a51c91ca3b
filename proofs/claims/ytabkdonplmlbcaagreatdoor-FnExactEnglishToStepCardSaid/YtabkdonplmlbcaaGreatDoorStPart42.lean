import Derived.OpenShut
import Derived.JoinedCond
import Derived.Deep.DeepHandedRow
import Derived.Lib.SmallJoins
import Derived.Stop.LaidErr
import Derived.Test.YtabkdonplmlbcaaGreatDoorCards
import Derived.Test.YtabkdonplmlbcaaGreatDoorTie
import Derived.Test.YtabkdonplmlbcaaGreatDoorStPart37
import Derived.Test.YtabkdonplmlbcaaGreatDoorStPart40
import Derived.Test.YtabkdonplmlbcaaGreatDoorStPart41
namespace Go.Proofs.YtabkdonplmlbcaaGreatDoor
set_option maxRecDepth 100000
open Go.RowKit
def rtS (L : List UInt8) : Stp := if rSok L then rS L else zS
def rtK (L : List UInt8) : Int := if rSok L then rSk L else 0
theorem StsV.no' {m : Nat} {L : List UInt8} {w w' : World} (h : rSok L = false) (hb : Below w.heap.size w w') : StsV m (rSok L) (rtS L) (rtK L) w (.returned (.tuple #[.agg #[.int .i64 0, .slice none 0 0, .slice none 0 0, .slice none 0 0], .int .i64 0, .bool false])) w' := by
 rw [rtS, rtK, h, if_neg (by simp), if_neg (by simp)]
 exact ⟨hb, none, 0, none, 0, none, 0, fun _ => False, fun _ => False, fun _ => False, rfl, ⟨by unfold i64B; exact ⟨by decide, by decide⟩, OwnRow.nil _ _ _ _ _, OwnRow.nil _ _ _ _ _, ClsOwn.nil _ _ _ _ _, fun b e => e.elim, fun b e => e.elim⟩, fun b e => by rcases e with e | e | e <;> exact e.elim⟩
theorem rMore_len (L : List UInt8) : ∀ (f : Nat) (p : PSt), (rMore L f p).1.length ≤ f
 | 0, p => by simp [rMore]
 | f + 1, p => by
  rw [rMore]
  split
  ·have := rMore_len L f (rNum L (pAdv sComma p)).2
   simp only [List.length_cons]; omega
  ·simp
theorem moreC_pos {L : List UInt8} {p : PSt} (h : moreC L p = true) : p.pos + 2 ≤ L.length := by
 rw [moreC] at h
 simp only [Bool.and_eq_true, decide_eq_true_eq] at h
 omega
theorem rMore_pos (L : List UInt8) : ∀ (f : Nat) (p : PSt), p.pos ≤ L.length → (rMore L f p).2.pos ≤ L.length
 | 0, p, h => by simpa [rMore] using h
 | f + 1, p, h => by
  rw [rMore]
  split
  ·rename_i hc
   exact rMore_pos L f _ (rNum_pos L _ (moreC_pos hc)).1
  ·exact h
theorem rTwo_pos (L : List UInt8) (r : Int) (ps : List Int) (sep : List UInt8) (p : PSt) (h : p.pos ≤ L.length) : (rTwo L r ps sep p).2.pos ≤ L.length :=
 (rNum_pos L _ (pMust_pos L sep _ (rNum_pos L p h).1).2).1
theorem rRest_pos (L : List UInt8) (ps : List Int) (p : PSt) (h : p.pos ≤ L.length) : (rRest L ps p).2.pos ≤ L.length := by
 rw [rRest]
 split
 ·rename_i hT; exact rTwo_pos L _ _ _ _ (pTake_le hT h)
 ·split
  ·rename_i hT; exact rTwo_pos L _ _ _ _ (pTake_le hT h)
  ·split
   ·rename_i hT; exact (rNum_pos L _ (pTake_le hT h)).1
   ·split
    ·rename_i hT
     have h1 := (rNum_pos L (pAdv sRepl p) (pTake_le hT h)).1
     have h2 := (rPos_pos L _ (pMust_pos L sAt _ h1).2).1
     have h3 := (rNum_pos L _ (pMust_pos L sWithL _ h2).2).1
     rw [rSup]
     try simp only
     split
     ·rename_i hT2; exact pTake_le hT2 h3
     ·exact (pMust_pos L sRdL _ h3).2
    ·exact rMore_pos L _ _ (rNum_pos L _ (pMust_pos L sRew _ h).2).1
theorem rOrg_pos (L : List UInt8) (p : PSt) (h : p.pos ≤ L.length) : (rOrg L p).2.pos ≤ L.length := by
 rw [rOrg]
 split
 ·rename_i hT; exact (rNum_pos L _ (pTake_le hT h)).1
 ·have h1 := (rNum_pos L _ (pMust_pos L sFrom _ h).2).1
  try simp only
  split
  ·rename_i hT; exact rRest_pos L _ _ (rNum_pos L _ (pTake_le hT h1)).1
  ·exact rRest_pos L _ _ h1
theorem rRest_len (L : List UInt8) (ps : List Int) (p : PSt) (h : ps.length ≤ 2) : (rRest L ps p).1.ps.length ≤ 15 ∧ (rRest L ps p).1.wh.length ≤ 11 ∧ 0 ≤ (rRest L ps p).1.rule ∧ (rRest L ps p).1.rule ≤ 6 ∧ (rRest L ps p).1.c = [] := by
 rw [rRest]
 split
 ·simp [rTwo]; omega
 ·split
  ·simp [rTwo]; omega
  ·split
   ·simp; omega
   ·split
    ·have := (rPos_len L (pMust L sAt (rNum L (pAdv sRepl p)).2)).1
     rw [rSup]
     try simp only
     split <;> simp <;> omega
    ·have := rMore_len L (10 - ps.length) (rNum L (pMust L sRew p)).2
     simp; omega
theorem rOrg_len (L : List UInt8) (p : PSt) : (rOrg L p).1.ps.length ≤ 15 ∧ (rOrg L p).1.wh.length ≤ 11 ∧ 0 ≤ (rOrg L p).1.rule ∧ (rOrg L p).1.rule ≤ 6 ∧ (rOrg L p).1.c = [] := by
 rw [rOrg]
 split
 ·simp
 ·simp only
  split
  ·exact rRest_len L _ _ (by simp)
  ·exact rRest_len L _ _ (by simp)
structure RtSt (g sb rb : Nat) (s : ByteArray) (w : World) (o : Stp) (vp vw vc : Value) (Fp Fw : Nat → Prop) (p : PSt) (w1 : World) : Prop where
 rd : PAt 51 w1 g s p
 bx : w1.heap[sb]? = some (.cells #[.int .i64 o.rule, vp, vw, vc] 27 (0, 0))
 ps : IntOwn 3 Fp w1 o.ps vp
 wh : IntOwn 3 Fw w1 o.wh vw
 fp : ∀ b, Fp b → rb + 1 ≤ b ∧ b < w1.heap.size ∧ b ≠ sb ∧ b ≠ g ∧ ¬ Fw b
 fw : ∀ b, Fw b → rb + 1 ≤ b ∧ b < w1.heap.size ∧ b ≠ sb ∧ b ≠ g
 res : w1.heap[rb]? = some zCells
 be : Below w.heap.size w w1
 pos : p.pos ≤ s.size
theorem RtSt.kp {g sb rb : Nat} {s : ByteArray} {w : World} {o : Stp} {vp vw vc vc' : Value} {Fp Fw : Nat → Prop} {p p' : PSt} {w1 w2 : World} (h : RtSt g sb rb s w o vp vw vc Fp Fw p w1) (hk : Kp (fun b => b = g ∨ b = sb) w1 w2) (hr : PAt 51 w2 g s p') (hb : w2.heap[sb]? = some (.cells #[.int .i64 o.rule, vp, vw, vc'] 27 (0, 0))) (hp : p'.pos ≤ s.size) (hrg : rb < g) (hrs : rb < sb) (hrb : w.heap.size ≤ rb) : RtSt g sb rb s w o vp vw vc' Fp Fw p' w2 := by
 have hz := hk.size
 exact ⟨hr, hb, h.ps.mono (fun b hb' hl => hk.block b hl (fun e => e.elim (h.fp b hb').2.2.2.1 (h.fp b hb').2.2.1)) (fun _ h => h), h.wh.mono (fun b hb' hl => hk.block b hl (fun e => e.elim (h.fw b hb').2.2.2 (h.fw b hb').2.2.1)) (fun _ h => h), fun b e => ⟨(h.fp b e).1, by have := (h.fp b e).2.1; omega, (h.fp b e).2.2⟩, fun b e => ⟨(h.fw b e).1, by have := (h.fw b e).2.1; omega, (h.fw b e).2.2⟩, (hk.block rb (blk_lt h.res) (by omega)).trans h.res, ⟨hk.os.trans h.be.os, hk.tape.trans h.be.tape, hk.output.trans h.be.output, Nat.le_trans h.be.size hz, fun b hb' => (hk.block b (Nat.lt_of_lt_of_le hb' h.be.size) (by omega)).trans (h.be.block b hb')⟩, hp⟩
theorem RtSt.step {g sb rb : Nat} {s : ByteArray} {w : World} {o : Stp} {vp vw vc : Value} {Fp Fw : Nat → Prop} {p p' : PSt} {w1 w2 : World} (h : RtSt g sb rb s w o vp vw vc Fp Fw p w1) (hr : PAt 51 w2 g s p') (hg : w1.grownBy w2 (some g)) (hp : p'.pos ≤ s.size) (hne : sb ≠ g) (hrg : rb < g) (hrs : rb < sb) (hrb : w.heap.size ≤ rb) : RtSt g sb rb s w o vp vw vc Fp Fw p' w2 :=
 h.kp ((Kp.of_gr hg).mono (fun b e => .inl (.inl (by injection e with e; exact e.symm)))) hr ((hg.block sb (blk_lt h.bx) (by simpa using hne)).trans h.bx) hp hrg hrs hrb
set_option maxHeartbeats 6400000 in
theorem l26Read_any (s : ByteArray) (hz : s.size ≤ 12000) (w : World) : Calls Tryz.prog 9 #[.string s] w (StsV 24008 (rSok s.data.toList) (rtS s.data.toList) (rtK s.data.toList) w) := by
 obtain ⟨rb, hrb⟩ : ∃ rb, w.heap.size = rb := ⟨_, rfl⟩
 obtain ⟨g, hgd⟩ : ∃ g, rb + 1 = g := ⟨_, rfl⟩
 have hrg : rb < g := by omega
 have hrbw : w.heap.size ≤ rb := by omega
 obtain ⟨W, hW⟩ : ∃ W : World, W = (w.alloc (.cells #[.int .i64 0, .slice none 0 0, .slice none 0 0, .slice none 0 0] 27)).alloc (.cells #[.string s, .int .i64 0, .bool false] 51) := ⟨_, rfl⟩
 have hP0 : PAt 51 W g s ⟨0, false⟩ := by rw [hW]; exact alloc_new_at (by simp; omega)
 have hR0 : W.heap[rb]? = some zCells := by rw [hW, ← hrb]; exact (hao (w.alloc _) _ _ (by simp)).trans (heap_alloc_new w _)
 have hb0 : Below w.heap.size w W := by rw [hW]; exact bel
 obtain ⟨k, hk⟩ : ∃ k, rNum s.data.toList ⟨0, false⟩ = k := ⟨_, rfl⟩
 have HK := Lib.hid hk
 have nbk := rNum_bd s.data.toList ⟨0, false⟩
 have npk := rNum_pos s.data.toList ⟨0, false⟩ (Nat.zero_le _)
 rw [hk] at nbk npk
 rw [← size_list] at npk
 have wrk : IntKind.i64.wrap (k.1 - 1) = k.1 - 1 := IntWalk.i64_in _ (by omega)
 go_enter Tryz.func9, Tryz.ntmps9
 go_wp2_with fail
 rw [← hW]
 refine (refNum_any g s ⟨0, false⟩ W hP0 (Nat.zero_le _) (by omega)).mono ?_
 rw [hk]
 rintro e w1 ⟨v, rfl, rfl, hP1, hg1⟩
 obtain ⟨p1, hp1⟩ : ∃ p1, pMust s.data.toList sDot k.2 = p1 := ⟨_, rfl⟩
 have HP1 := Lib.hid hp1
 have hpp1 := pMust_pos s.data.toList sDot k.2 (by rw [← size_list]; exact npk.1)
 rw [hp1, ← size_list] at hpp1
 go_wp2_with fail
 refine (refWant_any g s (⟨sDot.toArray⟩ : ByteArray) k.2 w1 hP1 npk.1 (by omega) (by decide)).mono ?_
 rw [show (⟨sDot.toArray⟩ : ByteArray).data.toList = sDot from rfl, hp1]
 rintro e w2 ⟨v, rfl, rfl, hP2, hg2⟩
 have hWs : W.heap.size = rb + 2 := by rw [hW]; simp; omega
 have hz1 := hg1.size
 have hz2 := hg2.size
 have hol := rOrg_len s.data.toList p1
 have hop := rOrg_pos s.data.toList p1 (by rw [← size_list]; exact hpp1.2)
 have HORG := Lib.hid (refOrigin_any g s p1 w2 hP2 hpp1.2 (by omega))
 obtain ⟨org, horg⟩ : ∃ x, rOrg s.data.toList p1 = x := ⟨_, rfl⟩
 have HOE := Lib.hid horg
 rw [horg] at hol hop HORG
 rw [← size_list] at hop
 go_wp2_with fail
 refine HORG.out.mono ?_
 rintro e w3 ⟨q1, c1, q2, c2, Fp, Fw, rfl, hps, hwh, hfp, hfw, hP3, hg3⟩
 have hz3 := hg3.size
 obtain ⟨sb, hsb⟩ : ∃ sb, w3.heap.size = sb := ⟨_, rfl⟩
 have hne : sb ≠ g := by omega
 have hrs : rb < sb := by omega
 obtain ⟨W4, hW4⟩ : ∃ W4 : World, W4 = w3.alloc (.cells #[.int .i64 org.1.rule, .slice q1 org.1.ps.length c1, .slice q2 org.1.wh.length c2, .slice none 0 0] 27) := ⟨_, rfl⟩
 have HB4 := Lib.hid (show RtSt g sb rb s w org.1 (.slice q1 org.1.ps.length c1) (.slice q2 org.1.wh.length c2) (.slice none 0 0) Fp Fw org.2 W4 by
  have hB : Below w3.heap.size w3 W4 := by rw [hW4]; exact bel
  have hgg := gr_trans (gr_trans hg1 hg2) hg3
  have hs4 : W4.heap.size = w3.heap.size + 1 := by rw [hW4]; simp
  have hb3 : Below w.heap.size w w3 := ⟨hgg.os.trans hb0.os, hgg.tape.trans hb0.tape, hgg.output.trans hb0.output, by omega, fun b hb => (hgg.block b (by omega) (by simp; omega)).trans (hb0.block b hb)⟩
  refine ⟨hP3.below hB, ?_, hps.later hB, hwh.later hB, fun b e => ?_, fun b e => ?_, ?_, Below.step hb3 hB, hop⟩
  ·rw [hW4, ← hsb]; exact heap_alloc_new w3 _
  ·obtain ⟨k1, k2, k3⟩ := hfp b e; exact ⟨by omega, by omega, by omega, by omega, k3⟩
  ·obtain ⟨k1, k2⟩ := hfw b e; exact ⟨by omega, by omega, by omega, by omega⟩
  ·exact (hB.block rb (by omega)).trans ((hgg.block rb (by omega) (by simp; omega)).trans hR0))
 clear hP0 hR0 hb0 hk hP1 hg1 hp1 hP2 hg2 hps hwh hfp hfw hP3 hg3 horg
 go_wp2_with fail
 rw [← hW4]
 clear hW hW4
 obtain ⟨pM, hpM⟩ : ∃ pM, pMust s.data.toList sComma org.2 = pM := ⟨_, rfl⟩
 have HPM := Lib.hid hpM
 go_wp2_with fail
 refine (refWant_any g s (⟨(sComma).toArray⟩ : ByteArray) org.2 _ HB4.out.rd HB4.out.pos (by omega) (by decide)).mono ?_
 rw [show (⟨(sComma).toArray⟩ : ByteArray).data.toList = sComma from rfl, hpM]
 rintro e wmpM ⟨v, rfl, rfl, hPn, hgn⟩
 have HB5 := Lib.hid (HB4.out.step hPn hgn (by have := pMust_pos s.data.toList sComma org.2 (by rw [← size_list]; exact HB4.out.pos); rw [hpM, ← size_list] at this; exact this.2) hne hrg hrs hrbw)
 have HGpM := Lib.hid hgn
 clear hPn hgn hpM
 have HST := Lib.hid (show rStp s.data.toList = (k.1 - 1, org.1, pM) by rw [rStp]; simp only [HK.out, HP1.out, HOE.out, HPM.out])
 obtain ⟨d0, d1, d2, df⟩ := HB5.out.rd.cells
 have zd := bsz HB5.out.rd.lt
 cases hbad : pM.bad
 case true =>
  rw [hbad] at d2
  obtain ⟨pE, hpE⟩ : ∃ pE, pMust s.data.toList ([46] : List UInt8) pM = pE := ⟨_, rfl⟩
  have HPE := Lib.hid hpE
  go_wp2_with fail
  refine (refWant_any g s (⟨(([46] : List UInt8)).toArray⟩ : ByteArray) pM _ HB5.out.rd HB5.out.pos (by omega) (by decide)).mono ?_
  rw [show (⟨(([46] : List UInt8)).toArray⟩ : ByteArray).data.toList = ([46] : List UInt8) from rfl, hpE]
  rintro e wmpE ⟨v, rfl, rfl, hPn, hgn⟩
  have HB6 := Lib.hid (HB5.out.step hPn hgn (by have := pMust_pos s.data.toList ([46] : List UInt8) pM (by rw [← size_list]; exact HB5.out.pos); rw [hpE, ← size_list] at this; exact this.2) hne hrg hrs hrbw)
  have HGpE := Lib.hid hgn
  clear hPn hgn hpE
  have hpe : pE.bad = true := by rw [← HPE.out, pMust, pTake, hbad]; rfl
  have HNO := Lib.hid (show rSok s.data.toList = false by rw [rSok, rEnd, rClS, HST.out, if_pos hbad, HPE.out, hpe]; rfl)
  clear d0 d1 d2 df
  obtain ⟨d0, d1, d2, df⟩ := HB6.out.rd.cells
  rw [hpe] at d2
  have zd6 := bsz HB6.out.rd.lt
  have HR6 := Lib.hid HB6.out.res
  have HX6 := Lib.hid HB6.out.bx
  have hbe := HB6.out.be
  obtain ⟨x0, x1, x2, x3, xf⟩ := stp_cells HX6.out
  obtain ⟨r0, r1, r2, r3, rf⟩ := stp_cells HR6.out
  have zx := bsz (blk_lt HX6.out)
  have zr := bsz (blk_lt HR6.out)
  go_wp2
  refine bodyPost_ret (v := .tuple #[.agg #[.int .i64 0, .slice none 0 0, .slice none 0 0, .slice none 0 0], .int .i64 0, .bool false]) (by simp only [results, Tryz.results9]; go_simp) rfl (StsV.no' HNO.out (by exact bel))
 rw [hbad] at d2
 obtain ⟨cl, hcl⟩ : ∃ x, rCls s.data.toList pM = x := ⟨_, rfl⟩
 have hcw := rCls_wt s.data.toList pM (by rw [← size_list]; exact HB5.out.pos)
 have HRC := Lib.hid (show rClS s.data.toList (rStp s.data.toList).2.2 = cl by rw [rClS, HST.out]; simp only [hbad]; rw [if_neg (by simp)]; exact hcl)
 rw [hcl, ← size_list] at hcw
 go_wp2_with fail
 refine (refClause_any g s pM _ HB5.out.rd HB5.out.pos (by omega)).mono ?_
 rw [hcl]
 rintro e w6 ⟨pc, kc, dc, rfl, hoc, hP6, hg6⟩
 obtain ⟨pc', dc', hvc, l3⟩ := OwnRow.form hoc
 simp only [Value.slice.injEq] at hvc
 obtain ⟨rfl, rfl, rfl⟩ := hvc
 have HB6 := Lib.hid (HB5.out.step hP6 hg6 hcw.2 hne hrg hrs hrbw)
 have hcr := own_cap hoc _ _ rfl
 clear d0 d1 d2 df hcl hP6
 obtain ⟨x0, x1, x2, x3, xf⟩ := stp_cells HB6.out.bx
 have zx := bsz (blk_lt HB6.out.bx)
 have HB7 := Lib.hid (HB6.out.kp (vc' := .slice pc cl.1.length dc) ((Kp.refl (fun b => b = g ∨ b = sb) w6).sc (a := ⟨sb, 3, none⟩) (.inl (.inr rfl)) (.slice pc cl.1.length dc)) ((heap_setCell_other w6 ⟨sb, 3, none⟩ g _ (fun e => hne e.symm)).trans HB6.out.rd) (by simpa using heap_setCell_same w6 sb 3 _ 27 (.slice pc cl.1.length dc) HB6.out.bx) HB6.out.pos hrg hrs hrbw)
 have hsb6 : sb < wmpM.heap.size := blk_lt HB5.out.bx
 have HC7 := Lib.hid (show ClsOwn 64 81 24008 (NewB wmpM w6) (w6.setCell ⟨sb, 3, none⟩ (.slice pc cl.1.length dc)) cl.1 (.slice pc cl.1.length dc) from ClsOwn.mono (by omega) (fun b hb hl => heap_setCell_other _ _ _ _ (by have := hb.1; show b ≠ sb; omega)) (fun _ h => h) hoc)
 clear hoc
 obtain ⟨pE, hpE⟩ : ∃ pE, pMust s.data.toList ([46] : List UInt8) cl.2 = pE := ⟨_, rfl⟩
 have HPE := Lib.hid hpE
 go_wp2_with fail
 refine (refWant_any g s (⟨(([46] : List UInt8)).toArray⟩ : ByteArray) cl.2 _ HB7.out.rd HB7.out.pos (by omega) (by decide)).mono ?_
 rw [show (⟨(([46] : List UInt8)).toArray⟩ : ByteArray).data.toList = ([46] : List UInt8) from rfl, hpE]
 rintro e wmpE ⟨v, rfl, rfl, hPn, hgn⟩
 have HB8 := Lib.hid (HB7.out.step hPn hgn (by have := pMust_pos s.data.toList ([46] : List UInt8) cl.2 (by rw [← size_list]; exact HB7.out.pos); rw [hpE, ← size_list] at this; exact this.2) hne hrg hrs hrbw)
 have HGpE := Lib.hid hgn
 clear hPn hgn hpE
 clear x0 x1 x2 x3 xf zx
 have hgM : g < wmpM.heap.size := HB5.out.rd.lt
 have HC8 := Lib.hid (show ClsOwn 64 81 24008 (NewB wmpM w6) wmpE cl.1 (.slice pc cl.1.length dc) from ClsOwn.mono (Nat.le_refl _) (fun b hb hl => HGpE.out.block b hl (by have := hb.1; simp; omega)) (fun _ h => h) HC7.out)
 obtain ⟨st, hst⟩ : ∃ st : Stp, st = ⟨org.1.rule, org.1.ps, org.1.wh, cl.1⟩ := ⟨_, rfl⟩
 have HIS := Lib.hid (show rS s.data.toList = st ∧ rSk s.data.toList = k.1 - 1 ∧ rEnd s.data.toList = pE from ⟨by rw [rS, HRC.out, HST.out, hst], by rw [rSk, HST.out], by rw [rEnd, HRC.out]; exact HPE.out⟩)
 have hz6 := hg6.size
 have hz8 := HGpE.out.size
 simp at hz8
 have hfp : ∀ b, Fp b → b < wmpM.heap.size ∧ rb + 1 ≤ b ∧ ¬ Fw b := fun b e => ⟨(HB5.out.fp b e).2.1, (HB5.out.fp b e).1, (HB5.out.fp b e).2.2.2.2⟩
 have hfw : ∀ b, Fw b → b < wmpM.heap.size ∧ rb + 1 ≤ b := fun b e => ⟨(HB5.out.fw b e).2.1, (HB5.out.fw b e).1⟩
 have HOW := Lib.hid (show StpOwn 24008 Fp Fw (NewB wmpM w6) wmpE st (.slice q1 org.1.ps.length c1) (.slice q2 org.1.wh.length c2) (.slice pc cl.1.length dc) by
  rw [hst]
  exact ⟨⟨by show _ ≤ org.1.rule; omega, by show org.1.rule ≤ _; omega⟩, HB8.out.ps, HB8.out.wh, HC8.out, fun b e => ⟨(hfp b e).2.2, fun e' => by have := e'.1; have := (hfp b e).1; omega⟩, fun b e e' => by have := e'.1; have := (hfw b e).1; omega⟩)
 have HSC := Lib.hid (show st.rule = org.1.rule ∧ st.ps = org.1.ps ∧ st.wh = org.1.wh ∧ st.c = cl.1 by rw [hst]; exact ⟨rfl, rfl, rfl, rfl⟩)
 have HSD := Lib.hid hst
 have hcp := own_cap HB8.out.ps _ _ rfl
 have hcq := own_cap HB8.out.wh _ _ rfl
 have HCAP := Lib.hid (show st.ps.length ≤ c1 ∧ st.wh.length ≤ c2 ∧ st.c.length ≤ dc from ⟨by rw [HSC.out.2.1]; exact hcp, by rw [HSC.out.2.2.1]; exact hcq, by rw [HSC.out.2.2.2]; exact hcr⟩)
 have HCW := Lib.hid (show Cls.wts st.c ≤ 12000 by rw [HSC.out.2.2.2]; omega)
 have HOK := Lib.hid (show rSok s.data.toList = (!pE.bad && (pE.pos == s.size && (inB (k.1 - 1) 0 59 && (st.shape (k.1 - 1) && (Cls.good st.c && (st.eng (k.1 - 1) == s.data.toList)))))) by rw [rSok, HIS.out.1, HIS.out.2.1, HIS.out.2.2, ← size_list])
 clear hst hcp hcq hcr hcw l3
 have HAT := Lib.hid (show StpAt (fun b => Fp b ∨ Fw b ∨ NewB wmpM w6 b) 24008 wmpE st [.int .i64 st.rule, .slice q1 st.ps.length c1, .slice q2 st.wh.length c2, .slice pc st.c.length dc] by have := HOW.out.at_; rw [HSC.out.2.1, HSC.out.2.2.1, HSC.out.2.2.2]; exact this)
 obtain ⟨d0, d1, d2, df⟩ := HB8.out.rd.cells
 have zd8 := bsz HB8.out.rd.lt
 have HR8 := Lib.hid HB8.out.res
 have HX8 := Lib.hid HB8.out.bx
 have hbe := HB8.out.be
 obtain ⟨x0, x1, x2, x3, xf⟩ := stp_cells HX8.out
 obtain ⟨r0, r1, r2, r3, rf⟩ := stp_cells HR8.out
 have zx := bsz (blk_lt HX8.out)
 have zr := bsz (blk_lt HR8.out)
 cases hb1 : pE.bad
 case true =>
  rw [hb1] at d2
  have HNO := Lib.hid (show rSok s.data.toList = false by rw [HOK.out, hb1]; rfl)
  go_wp2
  refine bodyPost_ret (v := .tuple #[.agg #[.int .i64 0, .slice none 0 0, .slice none 0 0, .slice none 0 0], .int .i64 0, .bool false]) (by simp only [results, Tryz.results9]; go_simp) rfl (StsV.no' HNO.out (by exact bel))
 rw [hb1] at d2
 by_cases hpe : pE.pos = s.size
 case neg =>
  have HNO := Lib.hid (show rSok s.data.toList = false by rw [HOK.out, show (pE.pos == s.size) = false by simpa using hpe]; simp)
  have hpn : ¬ (pE.pos : Int) = s.size := by omega
  have hpn2 : ((pE.pos : Int) == s.size) = false := by simpa using hpn
  go_wp2
  refine bodyPost_ret (v := .tuple #[.agg #[.int .i64 0, .slice none 0 0, .slice none 0 0, .slice none 0 0], .int .i64 0, .bool false]) (by simp only [results, Tryz.results9]; go_simp) rfl (StsV.no' HNO.out (by exact bel))
 have hpy : (pE.pos : Int) = s.size := by omega
 go_wp2_with fail
 refine (l1In_any (k.1 - 1) 0 59 _).mono ?_
 rintro e w9 ⟨rfl, rfl⟩
 cases hi : inB (k.1 - 1) 0 59
 ·have HNO := Lib.hid (show rSok s.data.toList = false by rw [HOK.out, hi]; simp)
  go_wp2
  refine bodyPost_ret (v := .tuple #[.agg #[.int .i64 0, .slice none 0 0, .slice none 0 0, .slice none 0 0], .int .i64 0, .bool false]) (by simp only [results, Tryz.results9]; go_simp) rfl (StsV.no' HNO.out (by exact bel))
 have hkb : 0 ≤ k.1 - 1 ∧ k.1 - 1 ≤ 59 := by simpa [inB] using hi
 have HSH := Lib.hid (l26Shape_any 24008 st q1 q2 c1 c2 _ (k.1 - 1) _ HAT.out HCAP.out.2.1 hkb)
 rw [HSC.out.1, HSC.out.2.1, HSC.out.2.2.1, HSC.out.2.2.2] at HSH
 go_wp2_with fail
 refine HSH.out.mono ?_
 rintro e w10 ⟨rfl, hb10⟩
 have HX10 := Lib.hid ((hb10.block _ (blk_lt HX8.out)).trans HX8.out)
 have HR10 := Lib.hid ((hb10.block _ (blk_lt HR8.out)).trans HR8.out)
 clear x0 x1 x2 x3 xf r0 r1 r2 r3 rf zx zr d0 d1 d2 df zd8
 obtain ⟨x0, x1, x2, x3, xf⟩ := stp_cells HX10.out
 obtain ⟨r0, r1, r2, r3, rf⟩ := stp_cells HR10.out
 have zx := bsz (blk_lt HX10.out)
 have zr := bsz (blk_lt HR10.out)
 cases hn : st.shape (k.1 - 1)
 ·have HNO := Lib.hid (show rSok s.data.toList = false by rw [HOK.out, hn]; simp)
  go_wp2
  refine bodyPost_ret (v := .tuple #[.agg #[.int .i64 0, .slice none 0 0, .slice none 0 0, .slice none 0 0], .int .i64 0, .bool false]) (by simp only [results, Tryz.results9]; go_simp) rfl (StsV.no' HNO.out (by exact bel))
 have HN := Lib.hid hn
 have HZ := Lib.hid (show ∀ l ∈ st.c, l.a.sz ≤ 100000000 from fun l hl => by have h1 := Cls.wts_le st.c l hl; have h2 := l.a.sz_wt; have := HCW.out; omega)
 have HGD := Lib.hid (fun w' (hw' : Below wmpE.heap.size wmpE w') => l7Good_any 24008 st.c (.slice pc cl.1.length dc) w' (ClsAt.below hw' (ClsOwn.at_ HOW.out.c)) HZ.out)
 clear hn
 go_wp2_with fail
 refine (HGD.out _ hb10).mono ?_
 rintro e w11 ⟨rfl, hb11⟩
 have HX11 := Lib.hid ((hb11.block _ (blk_lt HX10.out)).trans HX10.out)
 have HR11 := Lib.hid ((hb11.block _ (blk_lt HR10.out)).trans HR10.out)
 clear x0 x1 x2 x3 xf r0 r1 r2 r3 rf zx zr
 obtain ⟨x0, x1, x2, x3, xf⟩ := stp_cells HX11.out
 obtain ⟨r0, r1, r2, r3, rf⟩ := stp_cells HR11.out
 have zx := bsz (blk_lt HX11.out)
 have zr := bsz (blk_lt HR11.out)
 cases hv : Cls.good st.c
 ·have HNO := Lib.hid (show rSok s.data.toList = false by rw [HOK.out, hv]; simp)
  go_wp2
  refine bodyPost_ret (v := .tuple #[.agg #[.int .i64 0, .slice none 0 0, .slice none 0 0, .slice none 0 0], .int .i64 0, .bool false]) (by simp only [results, Tryz.results9]; go_simp) rfl (StsV.no' HNO.out (by exact bel))
 have HP3 := Lib.hid (show st.nums = true ∧ st.ps.all (fun n => inB n 0 (k.1 - 1 - 1)) = true ∧ st.wh.all (fun n => inB n 0 99) = true by have := (Stp.shape_eq st (k.1 - 1)).symm.trans HN.out; rw [Stp.shp, Bool.and_eq_true, Bool.and_eq_true] at this; exact ⟨this.1.1, this.1.2, this.2⟩)
 have HPB := Lib.hid (fun x (hx : x ∈ st.ps) => (show 0 ≤ x ∧ x ≤ 99 from by have := List.all_eq_true.1 HP3.out.2.1 x hx; simp only [inB, Bool.and_eq_true, decide_eq_true_eq] at this; omega))
 have HWB := Lib.hid (fun x (hx : x ∈ st.wh) => (show 0 ≤ x ∧ x ≤ 99 from by have := List.all_eq_true.1 HP3.out.2.2 x hx; simp only [inB, Bool.and_eq_true, decide_eq_true_eq] at this; omega))
 have HSTP := Lib.hid (fun w' (hw' : Below wmpE.heap.size wmpE w') => l26Step_any 24008 st q1 q2 pc c1 c2 dc (k.1 - 1) w' (HAT.out.below hw') HP3.out.1 HPB.out HWB.out HCAP.out.1 HCAP.out.2.1 hkb (good_atoms hv) (by have := HCW.out; omega))
 rw [HSC.out.1, HSC.out.2.1, HSC.out.2.2.1, HSC.out.2.2.2] at HSTP
 have HVG := Lib.hid hv
 clear hv
 go_wp2_with fail
 refine (HSTP.out _ (Below.step hb10 hb11)).mono ?_
 rintro e w12 ⟨rfl, hb12⟩
 have HX12 := Lib.hid ((hb12.block _ (blk_lt HX11.out)).trans HX11.out)
 have HR12 := Lib.hid ((hb12.block _ (blk_lt HR11.out)).trans HR11.out)
 clear x0 x1 x2 x3 xf r0 r1 r2 r3 rf zx zr
 obtain ⟨x0, x1, x2, x3, xf⟩ := stp_cells HX12.out
 obtain ⟨r0, r1, r2, r3, rf⟩ := stp_cells HR12.out
 have zx := bsz (blk_lt HX12.out)
 have zr := bsz (blk_lt HR12.out)
 have hq10 := hb10.size
 have hq11 := hb11.size
 have hq12 := hb12.size
 by_cases h3 : st.eng (k.1 - 1) = s.data.toList
 ·have HYES := Lib.hid (show rSok s.data.toList = true by rw [HOK.out, hb1, hpe, hi, HN.out, HVG.out, h3]; simp)
  rw [show (⟨(st.eng (k.1 - 1)).toArray⟩ : ByteArray) = s from (ba_iff _ _).2 h3]
  clear h3
  go_wp2
  refine bodyPost_ret (v := .tuple #[.agg #[.int .i64 org.1.rule, .slice q1 org.1.ps.length c1, .slice q2 org.1.wh.length c2, .slice pc cl.1.length dc], .int .i64 (k.1 - 1), .bool true]) (by simp only [results, Tryz.results9]; go_simp) rfl ?_
  rw [rtS, rtK, HYES.out, if_pos rfl, if_pos rfl, HIS.out.1, HIS.out.2.1]
  obtain rfl := HSD.out
  refine ⟨by exact bel, q1, c1, q2, c2, pc, dc, Fp, Fw, NewB wmpM w6, rfl, (((HOW.out.later hb10).later hb11).later hb12).mono (fun b hb => sc4_eq _ _ _ _ _ _ ?_), fun b hb => ?_⟩
  ·rcases hb with hb | hb | hb
   ·have := (hfp b hb).2.1; omega
   ·have := (hfw b hb).2; omega
   ·have := hb.1; omega
  ·simp only [World.size_setCell]
   rcases hb with hb | hb | hb
   ·have := hfp b hb; exact ⟨by omega, by omega⟩
   ·have := hfw b hb; exact ⟨by omega, by omega⟩
   ·have := hb.1; have := hb.2; exact ⟨by omega, by omega⟩
 ·have HNO := Lib.hid (show rSok s.data.toList = false by rw [HOK.out, show (st.eng (k.1 - 1) == s.data.toList) = false by simpa using h3]; simp)
  have hne5 : (st.eng (k.1 - 1) == s.toList) = false := by rw [Lib.toList_data]; simpa using h3
  go_wp2
  refine bodyPost_ret (v := .tuple #[.agg #[.int .i64 0, .slice none 0 0, .slice none 0 0, .slice none 0 0], .int .i64 0, .bool false]) (by simp only [results, Tryz.results9]; go_simp) rfl (StsV.no' HNO.out (by exact bel))
set_option maxHeartbeats 3200000 in
theorem specETS_any (s : ByteArray) (hs : s.size ≤ 1000000000000) (w : World) : Calls Tryz.prog 4 #[.string s] w (StsV 24008 (etOk s) (etS s) (etK s) w) := by
 by_cases hz : s.size ≤ 12000
 case neg =>
  have HNO := Lib.hid (show etOk s = false by rw [etOk, show decide (s.size ≤ 12000) = false by simpa using hz]; rfl)
  go_enter Tryz.func4, Tryz.ntmps4
  go_wp2
  refine bodyPost_ret (v := .tuple #[.agg #[.int .i64 0, .slice none 0 0, .slice none 0 0, .slice none 0 0], .int .i64 0, .bool false]) (by simp only [results, Tryz.results4]; go_simp) rfl (StsV.no HNO.out (by exact bel))
 have hsd := sidesS (L := s.data.toList) (by rw [← size_list]; exact hz)
 have e1 : rSok s.data.toList = etOk s := by rw [etOk, show decide (s.size ≤ 12000) = true by simpa using hz, Bool.true_and, hsd.1]
 have e2 : rtS s.data.toList = etS s := by
  rw [rtS, etS, e1]
  cases h : etOk s
  ·rfl
  ·rw [if_pos rfl, if_pos rfl]; exact (hsd.2 (by rw [hsd.1, e1, h])).1.symm
 have e3 : rtK s.data.toList = etK s := by
  rw [rtK, etK, e1]
  cases h : etOk s
  ·rfl
  ·rw [if_pos rfl, if_pos rfl]; exact (hsd.2 (by rw [hsd.1, e1, h])).2.symm
 have HR := Lib.hid (l26Read_any s hz)
 rw [e1, e2, e3] at HR
 generalize etOk s = ok at *
 generalize etS s = st at *
 generalize etK s = k at *
 go_enter Tryz.func4, Tryz.ntmps4
 go_wp2_with fail
 refine (HR.out _).mono ?_
 rintro e w1 ⟨hb1, q1, c1, q2, c2, pc, dc, Fp, Fw, Fc, rfl, how, hF⟩
 have HOW := Lib.hid how
 have HF := Lib.hid hF
 have hq1 := hb1.size
 simp at hq1
 have hres : w1.heap[w.heap.size]? = some zCells := (hb1.block _ (by simp)).trans (heap_alloc_new w _)
 obtain ⟨r0, r1, r2, r3, rf⟩ := stp_cells hres
 have zr := bsz (blk_lt hres)
 have hbe : Below w.heap.size w w1 := Below.step ((Below.refl _ _).alloc (Nat.le_refl _) _) hb1
 clear how hF hres
 go_wp2
 refine bodyPost_ret (v := .tuple #[.agg #[.int .i64 st.rule, .slice q1 st.ps.length c1, .slice q2 st.wh.length c2, .slice pc st.c.length dc], .int .i64 k, .bool ok]) (by simp only [results, Tryz.results4]; go_simp) rfl ?_
 refine ⟨by exact bel, q1, c1, q2, c2, pc, dc, Fp, Fw, Fc, rfl, HOW.out.mono (fun b hb => sc4_eq _ _ _ _ _ _ ?_), fun b hb => ?_⟩
 ·have := (HF.out b hb).1; simp at this; omega
 ·have := HF.out b hb
  simp at this
  simp only [World.size_setCell]
  exact ⟨by omega, by omega⟩
theorem Cls.cts_wts : ∀ c : List Lit3, Cls.cts c ≤ 2 * c.length + Cls.wts c
 | [] => by simp [Cls.cts]
 | l :: c => by
  have h1 := Cls.cts_wts c
  have h2 := l.a.cts_us
  rw [Cls.cts, Cls.wts, Lit3.ct, List.length_cons]; omega
theorem iC_ct (s : ByteArray) : Cls.cts (iC s) ≤ 40000 := by
 have h1 := Cls.cts_wts (iC s)
 have h2 := iC_le s
 have h3 : Cls.wts (iC s) ≤ 12000 := by
  rw [iC]
  split
  ·simp [Cls.wts]
  ·split
   ·cases hi : iFm s with
    | none => simp [Cls.wts]
    | some c =>
     have hf : iFm s = if etfOk s then clsOf ((etfF s).sz + 1) (etfF s) else none := rfl
     rw [hi] at hf
     cases hk : etfOk s
     ·rw [hk] at hf; cases hf
     ·rw [hk, if_pos rfl] at hf
      have hg := etfF_good hk
      have := clsOf_wts _ _ _ hg.1 hf.symm
      simp only [Option.getD_some]; omega
   ·simp [Cls.wts]
 omega
theorem etS_cts (s : ByteArray) : (etS s).cts ≤ 100000 := by
 rw [etS]
 split
 ·rename_i h
  simp only [etOk, Bool.and_eq_true, decide_eq_true_eq] at h
  have h1 := iOrg_len s.data.toList (pMust s.data.toList sDot (iNum s.data.toList ⟨0, false⟩).2)
  have h2 := iC_ct (iClT s.data.toList (iStp s.data.toList).2.2)
  rw [← size_list] at h1
  have e1 : (iS s.data.toList).ps = (iOrg s.data.toList (pMust s.data.toList sDot (iNum s.data.toList ⟨0, false⟩).2)).1.ps := rfl
  have e2 : (iS s.data.toList).wh = (iOrg s.data.toList (pMust s.data.toList sDot (iNum s.data.toList ⟨0, false⟩).2)).1.wh := rfl
  have e3 : (iS s.data.toList).c = iC (iClT s.data.toList (iStp s.data.toList).2.2) := rfl
  rw [Stp.cts, e1, e2, e3]
  omega
 ·simp [Stp.cts, zS, Cls.cts]
set_option maxHeartbeats 6400000 in
theorem exactETS (s : ByteArray) (w : World) (hs : s.size ≤ maxLen) (hE : Env w) (hV : EnvE w) :
  Calls Tryz.prog 3 #[.string s] w fun e w' => e = .returned (.bool true) ∧ Below w.heap.size w w' := by
 unfold maxLen at hs
 have HE := Lib.hid hE
 have HV := Lib.hid hV
 clear hE hV
 by_cases h20 : (1048576 : Int) < s.size
 ·go_enter Tryz.func3, Tryz.ntmps3
  go_wp2
  go_ret
  exact ⟨rfl, by exact bel⟩
 ·have hct := etS_cts s
  have HI := Lib.hid (fun w' (h1 : Below w.heap.size w w') => implETS_any s (by omega) w' (HE.out.below h1) (HV.out.below h1))
  have HS := Lib.hid (specETS_any s (by omega))
  generalize etS s = F at *
  generalize etOk s = ok at *
  generalize etK s = K at *
  go_enter Tryz.func3, Tryz.ntmps3
  go_wp2_with fail
  refine (HS.out _).mono ?_
  rintro e w1 ⟨hb1, p, c, q, d, r, g, T1, T2, T3, rfl, hO1, hT1⟩
  have HW0 := Lib.hid hO1.at_
  have HT0 := Lib.hid (fun b e => (hT1 b e).2)
  clear hO1 hT1
  have hq1 := hb1.size
  go_wp2_with fail
  refine (HI.out _ (by exact bel)).mono ?_
  rintro e w2 ⟨hb2, p2, c2, q2, d2, r2, g2, S1, S2, S3, rfl, hO2, hS2⟩
  have HG0 := Lib.hid hO2
  have HS2 := Lib.hid hS2
  clear hO2 hS2
  have hq2 := hb2.size
  simp at hq2
  have ⟨cb2, fb2⟩ := bcell hb2
  have hz12 := bsz (show w1.heap.size < w2.heap.size by omega)
  go_wp2_with fail
  refine (eqStep_same 24008 F _ _ _ _ _ _ _ _ _ (StpAt.below (by exact bel) HG0.out.at_) (StpAt.below (by exact bel) HW0.out)).mono ?_
  rintro e w3 ⟨rfl, hb3⟩
  have hq3 := hb3.size
  simp at hq3
  have ⟨cb3, fb3⟩ := bcell hb3
  have hz13 := bsz (show w1.heap.size < w3.heap.size by omega)
  have hz23 := bsz (show w2.heap.size < w3.heap.size by omega)
  go_wp2_with fail
  refine (markStep_any 24007 S1 S2 S3 F _ _ _ 1 _ (HG0.out.later (by exact bel)) (fun b e => by have := (HS2.out b e).2; omega) (by decide) (by omega)).mono ?_
  rintro e w4 ⟨F', k', rfl, hru, hl1, hl2, hl3, hmk, hle, hO4, hkp4⟩
  have hq4 := hkp4.size
  have hk2 : k' ≤ 1000000 := by omega
  have hcd : F.cts = F.ps.length + F.wh.length + Cls.cts F.c := rfl
  have hfl : 1 + F'.ps.length + F'.wh.length ≤ 1000000 := by rw [hl1, hl2]; omega
  have hSn : ∀ b, S1 b ∨ S2 b ∨ S3 b → w1.heap.size + 1 ≤ b ∧ b < w2.heap.size := fun b e => by have := HS2.out b e; simp at this; omega
  have nW : ∀ b, b ≤ w1.heap.size → ¬ (S1 b ∨ S2 b ∨ S3 b) := fun b hb h => by have := (hSn b h).1; omega
  have B3 : ∀ b, b < w1.heap.size → w4.heap[b]? = w1.heap[b]? := fun b hb => (hkp4.block b (by omega) (nW b (by omega))).trans ((hb3.block b (by simp; omega)).trans ((hao w2 _ _ (by omega)).trans ((hb2.block b (by simp; omega)).trans (hao w1 _ _ hb))))
  have B0 : w4.heap[w1.heap.size]? = some (.cells #[.int .i64 F.rule, .slice p F.ps.length c, .slice q F.wh.length d, .slice r F.c.length g] 27 (0, 0)) := (hkp4.block _ (by omega) (nW _ (by omega))).trans ((hb3.block _ (by simp; omega)).trans ((hao w2 _ _ (by omega)).trans ((hb2.block _ (by simp)).trans (heap_alloc_new w1 _))))
  have B1 : w4.heap[w2.heap.size]? = some (.cells #[.int .i64 F.rule, .slice p2 F.ps.length c2, .slice q2 F.wh.length d2, .slice r2 F.c.length g2] 27 (0, 0)) := (hkp4.block _ (by omega) (fun h => by have := (hSn _ h).2; omega)).trans ((hb3.block _ (by simp)).trans (heap_alloc_new w2 _))
  have HW4 := Lib.hid (HW0.out.mono (B' := fun b => T1 b ∨ T2 b ∨ T3 b) (w' := w4) (fun b hb _ => B3 b (HT0.out b hb)) (fun _ h => h) (Nat.le_refl _))
  have HG4 := Lib.hid (show StpAt (fun b => S1 b ∨ S2 b ∨ S3 b) 24008 w4 F' [.int .i64 F.rule, .slice p2 F.ps.length c2, .slice q2 F.wh.length d2, .slice r2 F.c.length g2] by have := hO4.at_; rw [hru] at this; exact this)
  have HT := Lib.hid hmk
  have hb04 : Below w.heap.size w w4 := ⟨hkp4.os.trans (hb3.os.trans (hb2.os.trans hb1.os)), hkp4.tape.trans (hb3.tape.trans (hb2.tape.trans hb1.tape)), hkp4.output.trans (hb3.output.trans (hb2.output.trans hb1.output)), by omega, fun b hb => (B3 b (by omega)).trans (hb1.block b hb)⟩
  have HB0 := Lib.hid B0
  have HB1 := Lib.hid B1
  obtain ⟨r0, r1, r2', r3, rf⟩ := stp_cells B0
  obtain ⟨s0, s1, s2, s3, sf⟩ := stp_cells B1
  have hz14 := bsz (show w1.heap.size < w4.heap.size by omega)
  have hz24 := bsz (show w2.heap.size < w4.heap.size by omega)
  clear hkp4 nW hSn B3 B0 B1 hO4 hmk hb1 hb2 hb3 cb2 fb2 cb3 fb3 HW0 HG0 HS2 HT0 hz12 hz13 hz23
  go_wp2_with fail
  refine (heldStep_any 24007 F' _ _ _ _ 1 k' _ (StpAt.below (by exact bel) HG4.out) HT.out (by decide) hk2 hfl).mono ?_
  rintro e w5 ⟨rfl, hb5⟩
  have ⟨cb5, fb5⟩ := bcell hb5
  have hq5 := hb5.size
  have hz15 := bsz (show w1.heap.size < w5.heap.size by omega)
  have hz25 := bsz (show w2.heap.size < w5.heap.size by omega)
  have hk0 : ¬ (k' : Int) < 0 := by omega
  go_wp2_with fail
  refine (HI.out _ (Below.step hb04 hb5)).mono ?_
  rintro e w6 ⟨hb6, p3, c3, q3, d3, r3', g3, U1, U2, U3, rfl, hO6, hU6⟩
  have HH0 := Lib.hid hO6.at_
  clear hO6 hU6
  have hq6 := hb6.size
  have ⟨cb6, fb6⟩ := bcell hb6
  have hz16 := bsz (show w1.heap.size < w6.heap.size by omega)
  have hz26 := bsz (show w2.heap.size < w6.heap.size by omega)
  go_wp2_with fail
  refine (eqStep_same 24008 F _ _ _ _ _ _ _ _ _ (StpAt.below (by exact bel) HH0.out) (StpAt.below (by exact bel) HW4.out)).mono ?_
  rintro e w7 ⟨rfl, hb7⟩
  have ⟨cb7, fb7⟩ := bcell hb7
  have hq7 := hb7.size
  simp at hq7
  have hz17 := bsz (show w1.heap.size < w7.heap.size by omega)
  have hz27 := bsz (show w2.heap.size < w7.heap.size by omega)
  go_wp2_with fail
  refine (heldStep_any 24007 F' _ _ _ _ 1 k' _ (StpAt.below (by exact bel) HG4.out) HT.out (by decide) hk2 hfl).mono ?_
  rintro e w8 ⟨rfl, hb8⟩
  go_wp2
  go_ret
  exact ⟨rfl, by exact bel⟩
open Go.ChangeShapes Go.WideShapes Go.ChangeAt Go.RowKit Go.Joins
theorem own : ownKnob Tryz.prog.godebug = none := by kernel_rfl
theorem laidOut : laidOutB Tryz.prog = true := by kernel_rfl
theorem trodAll_stays {H : Type} {enc : TypeId × Value → H} {P : Program} (hl : laidOutB P = true) {W W' : World} {sp : Nat → Bool} : ∀ (ts : List TypeId) (vs : List Value) (ds : List (DataW H)) (ps : List MemPlace),
  (∀ t ∈ ts, P.readableRec t = true ∧ t < P.types.size) → DataW.TrodAll enc P W 0 (fun _ => true) true ts vs ds ps → (∀ x ∈ ps, W.sameAt W' x) → (∀ x ∈ ps, sp x.block = true) → DataW.TrodAll enc P W' 0 sp true ts vs ds ps
 | [], vs, ds, ps, _, h, _, _ => by
  cases vs <;> cases ds <;> simp_all [DataW.TrodAll]
 | t :: ts, [], ds, ps, _, h, _, _ => by simp [DataW.TrodAll] at h
 | t :: ts, v :: vs, [], ps, _, h, _, _ => by simp [DataW.TrodAll] at h
 | t :: ts, v :: vs, d :: ds, ps, ht, h, hs, hp => by
  obtain ⟨p, q, h1, h2, rfl⟩ := h
  exact ⟨p, q, WideElems.Trod_stays hl (ht t (by simp)).1 (ht t (by simp)).2 h1 (fun x hx => hs x (by simp [hx])) (fun x hx => hp x (by simp [hx])),
   trodAll_stays hl ts vs ds q (fun t h => ht t (by simp [h])) h2 (fun x hx => hs x (by simp [hx])) (fun x hx => hp x (by simp [hx])), rfl⟩
theorem close_true {H : Type} {enc : TypeId × Value → H} {f : Func} {s : ChangeSpec} {W W' : World} {args : Array Value} {ds gs : List (DataW H)} {before : List MemPlace}
  (hW : DataW.Whole enc Tryz.prog f.params.toList s.vars false W args.toList ds gs before) (hv : s.vars = []) (hr : f.resultTypes = #[4])
  (hp : f.params.toList.all (fun t => Tryz.prog.readableRec t && decide (t < Tryz.prog.types.size)) = true) (hfn : s.fn H ds = { results := [.lit (.bool true)], args := ds }) (hb : Below W.heap.size W W') :
  s.post enc Tryz.prog f false true false false W args (.bool true) W' := by
 have hW2 := hW
 have hlt : ∀ p ∈ before, p.block < W.heap.size := fun p hp => hW.lt p hp
 obtain ⟨p, q, hA, hV, rfl, _, _⟩ := hW2
 rw [hv] at hV
 obtain ⟨rfl, rfl⟩ := trodVars_none hV
 rw [List.append_nil] at hlt
 refine ⟨ds, [], p ++ [], [], p, [], hW, ?_, ?_, ?_, hb.frame _, fun h => by cases h⟩
 ·rw [List.append_nil, hfn, hr]; exact trodAll_mk1 (shut_bool Tryz.underlying4 true)
 ·rw [List.append_nil, hfn]
  refine trodAll_stays laidOut _ _ _ _ (fun t ht => ?_) hA (fun x hx => hb.same (hlt x hx)) (fun x hx => by simpa using hlt x hx)
  have := List.all_eq_true.1 hp t ht
  simpa using this
 ·rw [List.append_nil, hfn, hv]; rfl
def tab32 : List Int := [0, 1, 28, 2, 29, 14, 24, 3, 30, 22, 20, 15, 25, 17, 4, 8, 31, 27, 13, 23, 21, 19, 16, 7, 26, 12, 18, 6, 11, 5, 10, 9]
def tab64 : List Int := [0, 1, 56, 2, 57, 49, 28, 3, 61, 58, 42, 50, 38, 29, 17, 4, 62, 47, 59, 36, 45, 43, 51, 22, 53, 39, 33, 30, 24, 18, 12, 5, 63, 55, 48, 27, 60, 41, 37, 16, 46, 35, 44, 21, 52, 32, 23, 11, 54, 26, 40, 15, 34, 20, 31, 10, 25, 14, 19, 9, 13, 8, 7, 6]
theorem gPowType : (Tryz.prog.globals[2]?).map (·.type) = some 179 := by kernel_rfl
theorem cellsPow : Tryz.prog.cellsOf 179 = 20 := by kernel_rfl
theorem cellsU64 : Tryz.prog.cellsOf 152 = 1 := by kernel_rfl
def layTab (k : IntKind) (zs : List Int) : Obj → Obj
 | .cells _ t frozen => .cells (zs.map fun z => Value.int k z).toArray t frozen
 | o => o
end Go.Proofs.YtabkdonplmlbcaaGreatDoor
